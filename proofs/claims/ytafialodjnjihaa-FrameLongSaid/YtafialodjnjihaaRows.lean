/-
  No cell of these rows narrows 'for every input' (looked for: loops, veiled, ifaces, maps, wideKeys, modest, calm, conditions, laid).
  DERIVED. THE GIVEN ROWS OF THIS SEAT. 14 by the template 'for every input the law returns true; each argument reads behind the call as it read before'; 0 by the template 'total and deterministic' (their statements: YtafialodjnjihaaTotals.lean).
  GIVEN WITH THE SEED: the statements are not yours to turn. If you find one false, say at which input.
  Laid BY PROGRAM, IN A SANDBOX (cutbox-rows.mjs): the forced cells as the released guide's own fill.sh prints them over the translation 91705b61c607e79f… (all of the seat's roots in one cut). By AI agents, Wed Nov 11 2026. No macro, syntax, notation, axiom, sorry.
-/
import Derived.Test.YtafialodjnjihaaChecked
import GoSem.Claim
import GoSem.ClaimJoined
import GoSem.ClaimMapViews
import Derived.JoinedTies
import Derived.KernelRfl
namespace Go.Proofs.Ytafialodjnjihaa
/- THE CELL 'sum', in the pinned program and in every row, IS THE sha256 OF THE DUMP (.gsa) THAT YtafialodjnjihaaProg.lean LOADS. Nothing in Lean hashes anything: it is a label: what it is worth is what the hold of that sum in a sandbox is worth. -/
noncomputable def Try.pinned : Pinned := { name := "ytafialodjnjihaa", sum := "91705b61c607e79f9a047ffd9fe95fb14fba4f987664f44a4eb72332d97d2b11", checked := Try.checked }
namespace Rows
def none {H : Type} : Left H := { results := [], args := [] }

/-- 'fasciclelaw22.InletOnce': WHATEVER THE INPUT: true; the input reads as it did. -/
def inletOnceSpec : ChangeSpec := { name := "inletOnce", fn := fun _ => fun
  | [d1, d2, d3] => { results := [.lit (.bool true)], args := [d1, d2, d3] }
  | _ => none }
def inletOnceRow : OpenClaim := { program := "ytafialodjnjihaa", sum := "91705b61c607e79f9a047ffd9fe95fb14fba4f987664f44a4eb72332d97d2b11", func := "fascicle/fasciclelaw22.InletOnce", spec := "inletOnce", apart := false }
def InletOnceSaid : Prop := inletOnceRow.holds Try.pinned (OpenSpec.ofChange inletOnceSpec)

/-- ITS FALSE NEIGHBOUR: 'it returns false'. Refute it at one input. -/
def inletOnceWrong : ChangeSpec := { name := "inletOnce", fn := fun _ => fun
  | [d1, d2, d3] => { results := [.lit (.bool false)], args := [d1, d2, d3] }
  | _ => none }
def InletOnceWrongFalsely : Prop := inletOnceRow.holds Try.pinned (OpenSpec.ofChange inletOnceWrong)

/-- 'fasciclelaw22.InletPlays': WHATEVER THE INPUT: true; the input reads as it did. -/
def inletPlaysSpec : ChangeSpec := { name := "inletPlays", fn := fun _ => fun
  | [d1, d2, d3] => { results := [.lit (.bool true)], args := [d1, d2, d3] }
  | _ => none }
def inletPlaysRow : OpenClaim := { program := "ytafialodjnjihaa", sum := "91705b61c607e79f9a047ffd9fe95fb14fba4f987664f44a4eb72332d97d2b11", func := "fascicle/fasciclelaw22.InletPlays", spec := "inletPlays", apart := false }
def InletPlaysSaid : Prop := inletPlaysRow.holds Try.pinned (OpenSpec.ofChange inletPlaysSpec)

/-- ITS FALSE NEIGHBOUR: 'it returns false'. Refute it at one input. -/
def inletPlaysWrong : ChangeSpec := { name := "inletPlays", fn := fun _ => fun
  | [d1, d2, d3] => { results := [.lit (.bool false)], args := [d1, d2, d3] }
  | _ => none }
def InletPlaysWrongFalsely : Prop := inletPlaysRow.holds Try.pinned (OpenSpec.ofChange inletPlaysWrong)

/-- 'fasciclelaw22.InletNil': WHATEVER THE INPUT: true; the input reads as it did. -/
def inletNilSpec : ChangeSpec := { name := "inletNil", fn := fun _ => fun
  | [d] => { results := [.lit (.bool true)], args := [d] }
  | _ => none }
def inletNilRow : OpenClaim := { program := "ytafialodjnjihaa", sum := "91705b61c607e79f9a047ffd9fe95fb14fba4f987664f44a4eb72332d97d2b11", func := "fascicle/fasciclelaw22.InletNil", spec := "inletNil", apart := false }
def InletNilSaid : Prop := inletNilRow.holds Try.pinned (OpenSpec.ofChange inletNilSpec)

/-- ITS FALSE NEIGHBOUR: 'it returns false'. Refute it at one input. -/
def inletNilWrong : ChangeSpec := { name := "inletNil", fn := fun _ => fun
  | [d] => { results := [.lit (.bool false)], args := [d] }
  | _ => none }
def InletNilWrongFalsely : Prop := inletNilRow.holds Try.pinned (OpenSpec.ofChange inletNilWrong)

/-- 'fasciclelaw03.RealTells': WHATEVER THE INPUT: true; the input reads as it did. -/
def realTellsSpec : ChangeSpec := { name := "realTells", fn := fun _ => fun
  | [d1, d2, d3, d4] => { results := [.lit (.bool true)], args := [d1, d2, d3, d4] }
  | _ => none }
def realTellsRow : OpenClaim := { program := "ytafialodjnjihaa", sum := "91705b61c607e79f9a047ffd9fe95fb14fba4f987664f44a4eb72332d97d2b11", func := "fascicle/fasciclelaw03.RealTells", spec := "realTells", inPlace := ["math.Float64frombits"], unfollowed := true, recurses := true, apart := false }
def RealTellsSaid : Prop := realTellsRow.holds Try.pinned (OpenSpec.ofChange realTellsSpec)

/-- ITS FALSE NEIGHBOUR: 'it returns false'. Refute it at one input. -/
def realTellsWrong : ChangeSpec := { name := "realTells", fn := fun _ => fun
  | [d1, d2, d3, d4] => { results := [.lit (.bool false)], args := [d1, d2, d3, d4] }
  | _ => none }
def RealTellsWrongFalsely : Prop := realTellsRow.holds Try.pinned (OpenSpec.ofChange realTellsWrong)

/-- 'fasciclelaw03.RealOrder': WHATEVER THE INPUT: true; the input reads as it did. -/
def realOrderSpec : ChangeSpec := { name := "realOrder", fn := fun _ => fun
  | [d1, d2, d3] => { results := [.lit (.bool true)], args := [d1, d2, d3] }
  | _ => none }
def realOrderRow : OpenClaim := { program := "ytafialodjnjihaa", sum := "91705b61c607e79f9a047ffd9fe95fb14fba4f987664f44a4eb72332d97d2b11", func := "fascicle/fasciclelaw03.RealOrder", spec := "realOrder", inPlace := ["math.Float64frombits"], unfollowed := true, recurses := true, apart := false }
def RealOrderSaid : Prop := realOrderRow.holds Try.pinned (OpenSpec.ofChange realOrderSpec)

/-- ITS FALSE NEIGHBOUR: 'it returns false'. Refute it at one input. -/
def realOrderWrong : ChangeSpec := { name := "realOrder", fn := fun _ => fun
  | [d1, d2, d3] => { results := [.lit (.bool false)], args := [d1, d2, d3] }
  | _ => none }
def RealOrderWrongFalsely : Prop := realOrderRow.holds Try.pinned (OpenSpec.ofChange realOrderWrong)

/-- 'fasciclelaw03.RealBack': WHATEVER THE INPUT: true; the input reads as it did. -/
def realBackSpec : ChangeSpec := { name := "realBack", fn := fun _ => fun
  | [d1, d2] => { results := [.lit (.bool true)], args := [d1, d2] }
  | _ => none }
def realBackRow : OpenClaim := { program := "ytafialodjnjihaa", sum := "91705b61c607e79f9a047ffd9fe95fb14fba4f987664f44a4eb72332d97d2b11", func := "fascicle/fasciclelaw03.RealBack", spec := "realBack", inPlace := ["math.Float64frombits"], unfollowed := true, recurses := true, apart := false }
def RealBackSaid : Prop := realBackRow.holds Try.pinned (OpenSpec.ofChange realBackSpec)

/-- ITS FALSE NEIGHBOUR: 'it returns false'. Refute it at one input. -/
def realBackWrong : ChangeSpec := { name := "realBack", fn := fun _ => fun
  | [d1, d2] => { results := [.lit (.bool false)], args := [d1, d2] }
  | _ => none }
def RealBackWrongFalsely : Prop := realBackRow.holds Try.pinned (OpenSpec.ofChange realBackWrong)

/-- 'fasciclelaw01.WordTells': WHATEVER THE INPUT: true; the input reads as it did. -/
def wordTellsSpec : ChangeSpec := { name := "wordTells", fn := fun _ => fun
  | [d1, d2, d3, d4, d5] => { results := [.lit (.bool true)], args := [d1, d2, d3, d4, d5] }
  | _ => none }
def wordTellsRow : OpenClaim := { program := "ytafialodjnjihaa", sum := "91705b61c607e79f9a047ffd9fe95fb14fba4f987664f44a4eb72332d97d2b11", func := "fascicle/fasciclelaw01.WordTells", spec := "wordTells", unfollowed := true, recurses := true, apart := false }
def WordTellsSaid : Prop := wordTellsRow.holds Try.pinned (OpenSpec.ofChange wordTellsSpec)

/-- ITS FALSE NEIGHBOUR: 'it returns false'. Refute it at one input. -/
def wordTellsWrong : ChangeSpec := { name := "wordTells", fn := fun _ => fun
  | [d1, d2, d3, d4, d5] => { results := [.lit (.bool false)], args := [d1, d2, d3, d4, d5] }
  | _ => none }
def WordTellsWrongFalsely : Prop := wordTellsRow.holds Try.pinned (OpenSpec.ofChange wordTellsWrong)

/-- 'fasciclelaw01.WordSums': WHATEVER THE INPUT: true; the input reads as it did. -/
def wordSumsSpec : ChangeSpec := { name := "wordSums", fn := fun _ => fun
  | [d] => { results := [.lit (.bool true)], args := [d] }
  | _ => none }
def wordSumsRow : OpenClaim := { program := "ytafialodjnjihaa", sum := "91705b61c607e79f9a047ffd9fe95fb14fba4f987664f44a4eb72332d97d2b11", func := "fascicle/fasciclelaw01.WordSums", spec := "wordSums", unfollowed := true, recurses := true, apart := false }
def WordSumsSaid : Prop := wordSumsRow.holds Try.pinned (OpenSpec.ofChange wordSumsSpec)

/-- ITS FALSE NEIGHBOUR: 'it returns false'. Refute it at one input. -/
def wordSumsWrong : ChangeSpec := { name := "wordSums", fn := fun _ => fun
  | [d] => { results := [.lit (.bool false)], args := [d] }
  | _ => none }
def WordSumsWrongFalsely : Prop := wordSumsRow.holds Try.pinned (OpenSpec.ofChange wordSumsWrong)

/-- 'fasciclelaw01.WordBack': WHATEVER THE INPUT: true; the input reads as it did. -/
def wordBackSpec : ChangeSpec := { name := "wordBack", fn := fun _ => fun
  | [d1, d2, d3, d4] => { results := [.lit (.bool true)], args := [d1, d2, d3, d4] }
  | _ => none }
def wordBackRow : OpenClaim := { program := "ytafialodjnjihaa", sum := "91705b61c607e79f9a047ffd9fe95fb14fba4f987664f44a4eb72332d97d2b11", func := "fascicle/fasciclelaw01.WordBack", spec := "wordBack", unfollowed := true, recurses := true, apart := false }
def WordBackSaid : Prop := wordBackRow.holds Try.pinned (OpenSpec.ofChange wordBackSpec)

/-- ITS FALSE NEIGHBOUR: 'it returns false'. Refute it at one input. -/
def wordBackWrong : ChangeSpec := { name := "wordBack", fn := fun _ => fun
  | [d1, d2, d3, d4] => { results := [.lit (.bool false)], args := [d1, d2, d3, d4] }
  | _ => none }
def WordBackWrongFalsely : Prop := wordBackRow.holds Try.pinned (OpenSpec.ofChange wordBackWrong)

/-- 'fasciclelaw01.WordBursts': WHATEVER THE INPUT: true; the input reads as it did. -/
def wordBurstsSpec : ChangeSpec := { name := "wordBursts", fn := fun _ => fun
  | [d1, d2, d3] => { results := [.lit (.bool true)], args := [d1, d2, d3] }
  | _ => none }
def wordBurstsRow : OpenClaim := { program := "ytafialodjnjihaa", sum := "91705b61c607e79f9a047ffd9fe95fb14fba4f987664f44a4eb72332d97d2b11", func := "fascicle/fasciclelaw01.WordBursts", spec := "wordBursts", unfollowed := true, recurses := true, apart := false }
def WordBurstsSaid : Prop := wordBurstsRow.holds Try.pinned (OpenSpec.ofChange wordBurstsSpec)

/-- ITS FALSE NEIGHBOUR: 'it returns false'. Refute it at one input. -/
def wordBurstsWrong : ChangeSpec := { name := "wordBursts", fn := fun _ => fun
  | [d1, d2, d3] => { results := [.lit (.bool false)], args := [d1, d2, d3] }
  | _ => none }
def WordBurstsWrongFalsely : Prop := wordBurstsRow.holds Try.pinned (OpenSpec.ofChange wordBurstsWrong)

/-- 'fasciclelaw07.FrameTells': WHATEVER THE INPUT: true; the input reads as it did. -/
def frameTellsSpec : ChangeSpec := { name := "frameTells", fn := fun _ => fun
  | [d1, d2] => { results := [.lit (.bool true)], args := [d1, d2] }
  | _ => none }
def frameTellsRow : OpenClaim := { program := "ytafialodjnjihaa", sum := "91705b61c607e79f9a047ffd9fe95fb14fba4f987664f44a4eb72332d97d2b11", func := "fascicle/fasciclelaw07.FrameTells", spec := "frameTells", inPlace := ["internal/abi.NoEscape"], unfollowed := true, recurses := true, apart := false }
def FrameTellsSaid : Prop := frameTellsRow.holds Try.pinned (OpenSpec.ofChange frameTellsSpec)

/-- ITS FALSE NEIGHBOUR: 'it returns false'. Refute it at one input. -/
def frameTellsWrong : ChangeSpec := { name := "frameTells", fn := fun _ => fun
  | [d1, d2] => { results := [.lit (.bool false)], args := [d1, d2] }
  | _ => none }
def FrameTellsWrongFalsely : Prop := frameTellsRow.holds Try.pinned (OpenSpec.ofChange frameTellsWrong)

/-- 'fasciclelaw07.FrameTorn': WHATEVER THE INPUT: true; the input reads as it did. -/
def frameTornSpec : ChangeSpec := { name := "frameTorn", fn := fun _ => fun
  | [d1, d2] => { results := [.lit (.bool true)], args := [d1, d2] }
  | _ => none }
def frameTornRow : OpenClaim := { program := "ytafialodjnjihaa", sum := "91705b61c607e79f9a047ffd9fe95fb14fba4f987664f44a4eb72332d97d2b11", func := "fascicle/fasciclelaw07.FrameTorn", spec := "frameTorn", inPlace := ["internal/abi.NoEscape"], unfollowed := true, recurses := true, apart := false }
def FrameTornSaid : Prop := frameTornRow.holds Try.pinned (OpenSpec.ofChange frameTornSpec)

/-- ITS FALSE NEIGHBOUR: 'it returns false'. Refute it at one input. -/
def frameTornWrong : ChangeSpec := { name := "frameTorn", fn := fun _ => fun
  | [d1, d2] => { results := [.lit (.bool false)], args := [d1, d2] }
  | _ => none }
def FrameTornWrongFalsely : Prop := frameTornRow.holds Try.pinned (OpenSpec.ofChange frameTornWrong)

/-- 'fasciclelaw07.FrameSpoilt': WHATEVER THE INPUT: true; the input reads as it did. -/
def frameSpoiltSpec : ChangeSpec := { name := "frameSpoilt", fn := fun _ => fun
  | [d1, d2, d3] => { results := [.lit (.bool true)], args := [d1, d2, d3] }
  | _ => none }
def frameSpoiltRow : OpenClaim := { program := "ytafialodjnjihaa", sum := "91705b61c607e79f9a047ffd9fe95fb14fba4f987664f44a4eb72332d97d2b11", func := "fascicle/fasciclelaw07.FrameSpoilt", spec := "frameSpoilt", inPlace := ["internal/abi.NoEscape"], unfollowed := true, recurses := true, apart := false }
def FrameSpoiltSaid : Prop := frameSpoiltRow.holds Try.pinned (OpenSpec.ofChange frameSpoiltSpec)

/-- ITS FALSE NEIGHBOUR: 'it returns false'. Refute it at one input. -/
def frameSpoiltWrong : ChangeSpec := { name := "frameSpoilt", fn := fun _ => fun
  | [d1, d2, d3] => { results := [.lit (.bool false)], args := [d1, d2, d3] }
  | _ => none }
def FrameSpoiltWrongFalsely : Prop := frameSpoiltRow.holds Try.pinned (OpenSpec.ofChange frameSpoiltWrong)

/-- 'fasciclelaw07.FrameLong': WHATEVER THE INPUT: true; the input reads as it did. -/
def frameLongSpec : ChangeSpec := { name := "frameLong", fn := fun _ => fun
  | [d] => { results := [.lit (.bool true)], args := [d] }
  | _ => none }
def frameLongRow : OpenClaim := { program := "ytafialodjnjihaa", sum := "91705b61c607e79f9a047ffd9fe95fb14fba4f987664f44a4eb72332d97d2b11", func := "fascicle/fasciclelaw07.FrameLong", spec := "frameLong", inPlace := ["internal/abi.NoEscape"], unfollowed := true, recurses := true, apart := false }
def FrameLongSaid : Prop := frameLongRow.holds Try.pinned (OpenSpec.ofChange frameLongSpec)

/-- ITS FALSE NEIGHBOUR: 'it returns false'. Refute it at one input. -/
def frameLongWrong : ChangeSpec := { name := "frameLong", fn := fun _ => fun
  | [d] => { results := [.lit (.bool false)], args := [d] }
  | _ => none }
def FrameLongWrongFalsely : Prop := frameLongRow.holds Try.pinned (OpenSpec.ofChange frameLongWrong)

/- THE SECOND FORM. 'bulk': how many values and letters a reading holds, each counted each time it is reached (what is shared counts as often as it is met; a slice's spare places count too). A statement '..UptoSaid' is the law's where the arguments, and the package variables that the reading takes, are together of bulk at most 1048576: NARROWER than '..Said'. Prove '..Said' where nothing that the law and all that it calls make is longer than what came in: it says more and counts as full. Else prove '..UptoSaid'. A law counts once. -/
mutual
def uptoBulk {H : Type} : DataW H → Nat
  | .lit (.string bytes) => bytes.length + 1
  | .lit _ => 1
  | .nil => 1
  | .ptr d => uptoBulk d + 1
  | .slice elems spare => uptoBulkAll elems + uptoBulkAll spare + 1
  | .agg parts => uptoBulkAll parts + 1
  | .iface _ d => uptoBulk d + 1
  | .map entries => uptoBulkEntries entries + 1
  | .held _ => 1
def uptoBulkAll {H : Type} : List (DataW H) → Nat
  | [] => 0
  | d :: r => uptoBulk d + uptoBulkAll r
def uptoBulkEntries {H : Type} : List (Lit × DataW H) → Nat
  | [] => 0
  | x :: r => uptoBulkEntry x + uptoBulkEntries r
def uptoBulkEntry {H : Type} : Lit × DataW H → Nat
  | (.string bytes, d) => bytes.length + uptoBulk d + 1
  | (_, d) => uptoBulk d + 1
 end
def uptoSmall : (H : Type) → List (DataW H) → Bool := fun _ ds => decide (uptoBulkAll ds ≤ 1048576)
def OpenSpec.upto (s : _root_.Go.ChangeSpec) : _root_.Go.OpenSpec := { _root_.Go.OpenSpec.ofChange s with cond := some uptoSmall }

/-- 'fasciclelaw22.InletOnce', WHERE WHAT IT READS IS OF BULK AT MOST 1048576: true; the input reads as it did. -/
def inletOnceUptoRow : OpenClaim := { program := "ytafialodjnjihaa", sum := "91705b61c607e79f9a047ffd9fe95fb14fba4f987664f44a4eb72332d97d2b11", func := "fascicle/fasciclelaw22.InletOnce", spec := "inletOnce", apart := false, narrowed := true }
def InletOnceUptoSaid : Prop := inletOnceUptoRow.holds Try.pinned (OpenSpec.upto inletOnceSpec)

/-- 'fasciclelaw22.InletPlays', WHERE WHAT IT READS IS OF BULK AT MOST 1048576: true; the input reads as it did. -/
def inletPlaysUptoRow : OpenClaim := { program := "ytafialodjnjihaa", sum := "91705b61c607e79f9a047ffd9fe95fb14fba4f987664f44a4eb72332d97d2b11", func := "fascicle/fasciclelaw22.InletPlays", spec := "inletPlays", apart := false, narrowed := true }
def InletPlaysUptoSaid : Prop := inletPlaysUptoRow.holds Try.pinned (OpenSpec.upto inletPlaysSpec)

/-- 'fasciclelaw22.InletNil', WHERE WHAT IT READS IS OF BULK AT MOST 1048576: true; the input reads as it did. -/
def inletNilUptoRow : OpenClaim := { program := "ytafialodjnjihaa", sum := "91705b61c607e79f9a047ffd9fe95fb14fba4f987664f44a4eb72332d97d2b11", func := "fascicle/fasciclelaw22.InletNil", spec := "inletNil", apart := false, narrowed := true }
def InletNilUptoSaid : Prop := inletNilUptoRow.holds Try.pinned (OpenSpec.upto inletNilSpec)

/-- 'fasciclelaw03.RealTells', WHERE WHAT IT READS IS OF BULK AT MOST 1048576: true; the input reads as it did. -/
def realTellsUptoRow : OpenClaim := { program := "ytafialodjnjihaa", sum := "91705b61c607e79f9a047ffd9fe95fb14fba4f987664f44a4eb72332d97d2b11", func := "fascicle/fasciclelaw03.RealTells", spec := "realTells", inPlace := ["math.Float64frombits"], unfollowed := true, recurses := true, apart := false, narrowed := true }
def RealTellsUptoSaid : Prop := realTellsUptoRow.holds Try.pinned (OpenSpec.upto realTellsSpec)

/-- 'fasciclelaw03.RealOrder', WHERE WHAT IT READS IS OF BULK AT MOST 1048576: true; the input reads as it did. -/
def realOrderUptoRow : OpenClaim := { program := "ytafialodjnjihaa", sum := "91705b61c607e79f9a047ffd9fe95fb14fba4f987664f44a4eb72332d97d2b11", func := "fascicle/fasciclelaw03.RealOrder", spec := "realOrder", inPlace := ["math.Float64frombits"], unfollowed := true, recurses := true, apart := false, narrowed := true }
def RealOrderUptoSaid : Prop := realOrderUptoRow.holds Try.pinned (OpenSpec.upto realOrderSpec)

/-- 'fasciclelaw03.RealBack', WHERE WHAT IT READS IS OF BULK AT MOST 1048576: true; the input reads as it did. -/
def realBackUptoRow : OpenClaim := { program := "ytafialodjnjihaa", sum := "91705b61c607e79f9a047ffd9fe95fb14fba4f987664f44a4eb72332d97d2b11", func := "fascicle/fasciclelaw03.RealBack", spec := "realBack", inPlace := ["math.Float64frombits"], unfollowed := true, recurses := true, apart := false, narrowed := true }
def RealBackUptoSaid : Prop := realBackUptoRow.holds Try.pinned (OpenSpec.upto realBackSpec)

/-- 'fasciclelaw01.WordTells', WHERE WHAT IT READS IS OF BULK AT MOST 1048576: true; the input reads as it did. -/
def wordTellsUptoRow : OpenClaim := { program := "ytafialodjnjihaa", sum := "91705b61c607e79f9a047ffd9fe95fb14fba4f987664f44a4eb72332d97d2b11", func := "fascicle/fasciclelaw01.WordTells", spec := "wordTells", unfollowed := true, recurses := true, apart := false, narrowed := true }
def WordTellsUptoSaid : Prop := wordTellsUptoRow.holds Try.pinned (OpenSpec.upto wordTellsSpec)

/-- 'fasciclelaw01.WordSums', WHERE WHAT IT READS IS OF BULK AT MOST 1048576: true; the input reads as it did. -/
def wordSumsUptoRow : OpenClaim := { program := "ytafialodjnjihaa", sum := "91705b61c607e79f9a047ffd9fe95fb14fba4f987664f44a4eb72332d97d2b11", func := "fascicle/fasciclelaw01.WordSums", spec := "wordSums", unfollowed := true, recurses := true, apart := false, narrowed := true }
def WordSumsUptoSaid : Prop := wordSumsUptoRow.holds Try.pinned (OpenSpec.upto wordSumsSpec)

/-- 'fasciclelaw01.WordBack', WHERE WHAT IT READS IS OF BULK AT MOST 1048576: true; the input reads as it did. -/
def wordBackUptoRow : OpenClaim := { program := "ytafialodjnjihaa", sum := "91705b61c607e79f9a047ffd9fe95fb14fba4f987664f44a4eb72332d97d2b11", func := "fascicle/fasciclelaw01.WordBack", spec := "wordBack", unfollowed := true, recurses := true, apart := false, narrowed := true }
def WordBackUptoSaid : Prop := wordBackUptoRow.holds Try.pinned (OpenSpec.upto wordBackSpec)

/-- 'fasciclelaw01.WordBursts', WHERE WHAT IT READS IS OF BULK AT MOST 1048576: true; the input reads as it did. -/
def wordBurstsUptoRow : OpenClaim := { program := "ytafialodjnjihaa", sum := "91705b61c607e79f9a047ffd9fe95fb14fba4f987664f44a4eb72332d97d2b11", func := "fascicle/fasciclelaw01.WordBursts", spec := "wordBursts", unfollowed := true, recurses := true, apart := false, narrowed := true }
def WordBurstsUptoSaid : Prop := wordBurstsUptoRow.holds Try.pinned (OpenSpec.upto wordBurstsSpec)

/-- 'fasciclelaw07.FrameTells', WHERE WHAT IT READS IS OF BULK AT MOST 1048576: true; the input reads as it did. -/
def frameTellsUptoRow : OpenClaim := { program := "ytafialodjnjihaa", sum := "91705b61c607e79f9a047ffd9fe95fb14fba4f987664f44a4eb72332d97d2b11", func := "fascicle/fasciclelaw07.FrameTells", spec := "frameTells", inPlace := ["internal/abi.NoEscape"], unfollowed := true, recurses := true, apart := false, narrowed := true }
def FrameTellsUptoSaid : Prop := frameTellsUptoRow.holds Try.pinned (OpenSpec.upto frameTellsSpec)

/-- 'fasciclelaw07.FrameTorn', WHERE WHAT IT READS IS OF BULK AT MOST 1048576: true; the input reads as it did. -/
def frameTornUptoRow : OpenClaim := { program := "ytafialodjnjihaa", sum := "91705b61c607e79f9a047ffd9fe95fb14fba4f987664f44a4eb72332d97d2b11", func := "fascicle/fasciclelaw07.FrameTorn", spec := "frameTorn", inPlace := ["internal/abi.NoEscape"], unfollowed := true, recurses := true, apart := false, narrowed := true }
def FrameTornUptoSaid : Prop := frameTornUptoRow.holds Try.pinned (OpenSpec.upto frameTornSpec)

/-- 'fasciclelaw07.FrameSpoilt', WHERE WHAT IT READS IS OF BULK AT MOST 1048576: true; the input reads as it did. -/
def frameSpoiltUptoRow : OpenClaim := { program := "ytafialodjnjihaa", sum := "91705b61c607e79f9a047ffd9fe95fb14fba4f987664f44a4eb72332d97d2b11", func := "fascicle/fasciclelaw07.FrameSpoilt", spec := "frameSpoilt", inPlace := ["internal/abi.NoEscape"], unfollowed := true, recurses := true, apart := false, narrowed := true }
def FrameSpoiltUptoSaid : Prop := frameSpoiltUptoRow.holds Try.pinned (OpenSpec.upto frameSpoiltSpec)

/-- 'fasciclelaw07.FrameLong', WHERE WHAT IT READS IS OF BULK AT MOST 1048576: true; the input reads as it did. -/
def frameLongUptoRow : OpenClaim := { program := "ytafialodjnjihaa", sum := "91705b61c607e79f9a047ffd9fe95fb14fba4f987664f44a4eb72332d97d2b11", func := "fascicle/fasciclelaw07.FrameLong", spec := "frameLong", inPlace := ["internal/abi.NoEscape"], unfollowed := true, recurses := true, apart := false, narrowed := true }
def FrameLongUptoSaid : Prop := frameLongUptoRow.holds Try.pinned (OpenSpec.upto frameLongSpec)

end Rows
end Go.Proofs.Ytafialodjnjihaa
