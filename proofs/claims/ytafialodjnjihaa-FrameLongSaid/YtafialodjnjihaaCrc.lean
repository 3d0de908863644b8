/- The sum of a text by bits: it is linear, and a text whose bits are turned within 32 in a row has another one. Plain numbers, no program. No condition. -/
namespace Go.Proofs.Ytafialodjnjihaa.Crc

/-- the polynomial -/
def poly : Nat := 0xedb88320

/-- one bit's step -/
def bit (c : Nat) : Nat := c / 2 ^^^ (if c % 2 = 1 then poly else 0)

def steps : Nat → Nat → Nat
  | 0, c => c
  | n + 1, c => steps n (bit c)

theorem bit_lt {c : Nat} (h : c < 4294967296) : bit c < 4294967296 := by
  unfold bit
  have h1 : c / 2 < 2 ^ 32 := by omega
  have h2 : (if c % 2 = 1 then poly else 0) < 2 ^ 32 := by split <;> decide
  exact Nat.xor_lt_two_pow h1 h2

theorem xor_mod2 (a b : Nat) : (a ^^^ b) % 2 = (a + b) % 2 := by
  have h := Nat.testBit_xor a b 0
  simp only [Nat.testBit_zero] at h
  rcases Nat.mod_two_eq_zero_or_one a with ha | ha <;> rcases Nat.mod_two_eq_zero_or_one b with hb | hb <;>
    rcases Nat.mod_two_eq_zero_or_one (a ^^^ b) with hc | hc <;> simp [ha, hb, hc] at h <;> omega

theorem xor_left_comm (a b c : Nat) : a ^^^ (b ^^^ c) = b ^^^ (a ^^^ c) := by
  rw [← Nat.xor_assoc, Nat.xor_comm a b, Nat.xor_assoc]

theorem bit_xor (a b : Nat) : bit (a ^^^ b) = bit a ^^^ bit b := by
  unfold bit
  have h1 : (a ^^^ b) / 2 = a / 2 ^^^ b / 2 := Nat.xor_div_two
  rw [h1, xor_mod2]
  rcases Nat.mod_two_eq_zero_or_one a with ha | ha <;> rcases Nat.mod_two_eq_zero_or_one b with hb | hb
  · rw [if_neg (by omega), if_neg (by omega), if_neg (by omega)]; simp
  · rw [if_pos (by omega), if_neg (by omega), if_pos (by omega)]; simp [Nat.xor_assoc]
  · rw [if_pos (by omega), if_pos (by omega), if_neg (by omega)]; simp only [Nat.xor_assoc, Nat.xor_zero, Nat.xor_comm poly]
  · rw [if_neg (by omega), if_pos (by omega), if_pos (by omega)]
    have : a / 2 ^^^ poly ^^^ (b / 2 ^^^ poly) = a / 2 ^^^ b / 2 ^^^ (poly ^^^ poly) := by
      simp only [Nat.xor_assoc, xor_left_comm poly]
    rw [this, Nat.xor_self]

theorem bit_zero : bit 0 = 0 := by decide
theorem bit_double (w : Nat) : bit (2 * w) = w := by unfold bit; rw [if_neg (by omega)]; simp

theorem steps_xor (n : Nat) : ∀ a b, steps n (a ^^^ b) = steps n a ^^^ steps n b := by
  induction n with
  | zero => intro a b; rfl
  | succ n ih => intro a b; simp only [steps, bit_xor, ih]
theorem steps_zero (n : Nat) : steps n 0 = 0 := by
  induction n with
  | zero => rfl
  | succ n ih => simp only [steps, bit_zero, ih]
theorem steps_lt (n : Nat) : ∀ {c}, c < 4294967296 → steps n c < 4294967296 := by
  induction n with
  | zero => intro c h; exact h
  | succ n ih => intro c h; exact ih (bit_lt h)
theorem steps_add (m n c : Nat) : steps (m + n) c = steps n (steps m c) := by
  induction m generalizing c with
  | zero => simp [steps]
  | succ m ih => rw [Nat.succ_add]; simp only [steps]; exact ih _

theorem bit_inj0 {c : Nat} (hc : c < 4294967296) (h : bit c = 0) : c = 0 := by
  unfold bit at h
  split at h
  · have : c / 2 = poly := by
      have := congrArg (· ^^^ poly) h
      simpa [Nat.xor_assoc] using this
    unfold poly at this
    omega
  · simp at h; omega

theorem steps_inj0 (n : Nat) : ∀ {c}, c < 4294967296 → steps n c = 0 → c = 0 := by
  induction n with
  | zero => intro c _ h; exact h
  | succ n ih => intro c hc h; exact bit_inj0 hc (ih (bit_lt hc) h)

theorem steps_mul (n : Nat) : ∀ w, steps n (2 ^ n * w) = w := by
  induction n with
  | zero => intro w; simp [steps]
  | succ n ih => intro w; rw [steps, show 2 ^ (n + 1) * w = 2 * (2 ^ n * w) by rw [Nat.pow_succ, Nat.mul_comm (2^n) 2, Nat.mul_assoc], bit_double]; exact ih w

/-- c splits -/
theorem split_xor (n c : Nat) : c = 2 ^ n * (c / 2 ^ n) ^^^ c % 2 ^ n := by
  apply Nat.eq_of_testBit_eq
  intro i
  rw [Nat.testBit_xor, Nat.testBit_two_pow_mul, Nat.testBit_mod_two_pow, Nat.testBit_div_two_pow]
  by_cases h : i < n
  · have h' : ¬ n ≤ i := by omega
    simp [h, h']
  · have e : i - n + n = i := by omega
    simp [h, show n ≤ i by omega, e]

theorem steps_split (n c : Nat) : steps n c = c / 2 ^ n ^^^ steps n (c % 2 ^ n) := by
  conv => lhs; rw [split_xor n c, steps_xor, steps_mul]


/-- what a text is as a number, the first byte lowest -/
def val : List Nat → Nat
  | [] => 0
  | b :: l => b ^^^ 256 * val l

/-- the sum's state behind a text -/
def run (c : Nat) : List Nat → Nat
  | [] => c
  | b :: l => run (steps 8 (c ^^^ b)) l

theorem run_val (l : List Nat) : ∀ c, run c l = steps (8 * l.length) (c ^^^ val l) := by
  induction l with
  | nil => intro c; simp [run, val, steps]
  | cons b l ih =>
    intro c
    rw [run, ih, List.length_cons, Nat.mul_succ, Nat.add_comm, steps_add, val, ← Nat.xor_assoc, steps_xor 8 (c ^^^ b), show (256 : Nat) = 2 ^ 8 from rfl, steps_mul]

theorem run_append (l m : List Nat) : ∀ c, run c (l ++ m) = run (run c l) m := by
  induction l with
  | nil => intro c; rfl
  | cons b l ih => intro c; exact ih _

theorem run_lt (l : List Nat) (hl : ∀ b ∈ l, b < 256) : ∀ c, c < 4294967296 → run c l < 4294967296 := by
  induction l with
  | nil => intro c h; exact h
  | cons b l ih =>
    intro c h
    have hb : b < 256 := hl b (by simp)
    exact ih (fun x hx => hl x (by simp [hx])) _ (steps_lt 8 (Nat.xor_lt_two_pow (n := 32) h (by omega)))

theorem xor_eq_zero {a b : Nat} (h : a ^^^ b = 0) : a = b := by
  have := congrArg (· ^^^ b) h
  simpa [Nat.xor_assoc] using this

/-- two texts of one length whose numbers part by bits within 32 in a row have other sums -/
theorem run_burst (l m : List Nat) (hlen : l.length = m.length) (i t : Nat) (ht : 0 < t) (ht2 : t < 4294967296) (hi : i ≤ 8 * l.length)
    (hv : val m = val l ^^^ 2 ^ i * t) (c : Nat) : run c m ≠ run c l := by
  intro h
  rw [run_val, run_val, ← hlen, hv, ← Nat.xor_assoc, steps_xor (8 * l.length) (c ^^^ val l)] at h
  have h0 : steps (8 * l.length) (2 ^ i * t) = 0 := by
    have := congrArg (steps (8 * l.length) (c ^^^ val l) ^^^ ·) h
    simpa [← Nat.xor_assoc] using this
  obtain ⟨k, hk⟩ : ∃ k, 8 * l.length = i + k := ⟨8 * l.length - i, by omega⟩
  rw [hk, steps_add, steps_mul] at h0
  have := steps_inj0 k ht2 h0
  omega

theorem val_set (l : List Nat) : ∀ (k x : Nat), k < l.length → val (l.set k (l.getD k 0 ^^^ x)) = val l ^^^ 256 ^ k * x := by
  induction l with
  | nil => intro k x h; simp at h
  | cons b l ih =>
    intro k x h
    cases k with
    | zero =>
      simp only [List.set_cons_zero, List.getD_cons_zero, val, Nat.pow_zero, Nat.one_mul]
      rw [Nat.xor_assoc, Nat.xor_assoc, Nat.xor_comm x]
    | succ k =>
      have := ih k x (by simpa using h)
      simp only [List.set_cons_succ, List.getD_cons_succ, val, this, Nat.pow_succ]
      rw [Nat.mul_comm (256 ^ k) 256, Nat.mul_assoc]
      have e : ∀ a b : Nat, 256 * (a ^^^ b) = 256 * a ^^^ 256 * b := fun a b => by
        apply Nat.eq_of_testBit_eq
        intro i
        rw [show (256 : Nat) = 2 ^ 8 from rfl, Nat.testBit_xor, Nat.testBit_two_pow_mul, Nat.testBit_two_pow_mul, Nat.testBit_two_pow_mul, Nat.testBit_xor]
        cases decide (i ≥ 8) <;> simp
      rw [e, Nat.xor_assoc]

/-- the program's nibble -/
theorem nibble (c : Nat) : c / 16 ^^^ steps 4 (c % 16) = steps 4 c := (steps_split 4 c).symm

/-- the sum of a text -/
def sum (l : List Nat) : Nat := run 4294967295 l ^^^ 4294967295

theorem sum_lt (l : List Nat) (hl : ∀ b ∈ l, b < 256) : sum l < 4294967296 :=
  Nat.xor_lt_two_pow (n := 32) (run_lt l hl _ (by decide)) (by decide)

theorem sum_burst (l m : List Nat) (hlen : l.length = m.length) (i t : Nat) (ht : 0 < t) (ht2 : t < 4294967296) (hi : i ≤ 8 * l.length)
    (hv : val m = val l ^^^ 2 ^ i * t) : sum m ≠ sum l := by
  intro h
  have := congrArg (· ^^^ 4294967295) h
  simp only [sum, Nat.xor_assoc, Nat.xor_self, Nat.xor_zero] at this
  exact run_burst l m hlen i t ht ht2 hi hv _ this

/-- one byte that is another one -/
theorem sum_byte (l : List Nat) (k x : Nat) (hk : k < l.length) (hx : 0 < x) (hx2 : x < 256) : sum (l.set k (l.getD k 0 ^^^ x)) ≠ sum l := by
  refine sum_burst l _ (by simp) (8 * k) x hx (by omega) (by omega) ?_
  rw [val_set l k x hk, Nat.pow_mul]

end Go.Proofs.Ytafialodjnjihaa.Crc
