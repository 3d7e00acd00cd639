/-
  No cell of these rows narrows 'for every input' (looked for: loops, veiled, ifaces, maps, wideKeys, modest, calm, conditions, laid).
  DERIVED. THE GIVEN ROWS OF THIS SEAT. 4 by the template 'for every input the law returns true; each argument reads behind the call as it read before'; 0 by the template 'total and deterministic' (their statements: YtkoeniljaccaiaaGreatTotals.lean).
  GIVEN WITH THE SEED: the statements are not yours to turn. If you find one false, say at which input.
  Laid BY PROGRAM, IN A SANDBOX (cutbox-rows.mjs): the forced cells as the released guide's own fill.sh prints them over the translation 5e9fc906cd428f33… (all of the seat's roots in one cut). By AI agents, Wed Nov 11 2026. No macro, syntax, notation, axiom, sorry.
-/
import Derived.Test.YtkoeniljaccaiaaGreatChecked
import GoSem.Claim
import GoSem.ClaimJoined
import GoSem.ClaimMapViews
import Derived.JoinedTies
import Derived.KernelRfl
namespace Go.Proofs.YtkoeniljaccaiaaGreat
/- THE CELL 'sum', in the pinned program and in every row, IS THE sha256 OF THE DUMP (.gsa) THAT YtkoeniljaccaiaaGreatProg.lean LOADS. Nothing in Lean hashes anything: it is a label: what it is worth is what the hold of that sum in a sandbox is worth. -/
noncomputable def Tryz.pinned : Pinned := { name := "ytkoeniljaccaiaagreat", sum := "5e9fc906cd428f3334e7c503aebf88765766ac2545f4911425c23eb30e35990e", checked := Tryz.checked }
namespace Rows
def none {H : Type} : Left H := { results := [], args := [] }

/-- 'flumelaw28.RecoverTells': WHATEVER THE INPUT: true; the input reads as it did. -/
def recoverTellsSpec : ChangeSpec := { name := "recoverTells", fn := fun _ => fun
  | [d1, d2, d3] => { results := [.lit (.bool true)], args := [d1, d2, d3] }
  | _ => none }
def recoverTellsRow : OpenClaim := { program := "ytkoeniljaccaiaagreat", sum := "5e9fc906cd428f3334e7c503aebf88765766ac2545f4911425c23eb30e35990e", func := "flume/flumelaw28.RecoverTells", spec := "recoverTells", unfollowed := true, recurses := true, apart := false }
def RecoverTellsSaid : Prop := recoverTellsRow.holds Tryz.pinned (OpenSpec.ofChange recoverTellsSpec)

/-- ITS FALSE NEIGHBOUR: 'it returns false'. Refute it at one input. -/
def recoverTellsWrong : ChangeSpec := { name := "recoverTells", fn := fun _ => fun
  | [d1, d2, d3] => { results := [.lit (.bool false)], args := [d1, d2, d3] }
  | _ => none }
def RecoverTellsWrongFalsely : Prop := recoverTellsRow.holds Tryz.pinned (OpenSpec.ofChange recoverTellsWrong)

/-- 'flumelaw28.RecoverMore': WHATEVER THE INPUT: true; the input reads as it did. -/
def recoverMoreSpec : ChangeSpec := { name := "recoverMore", fn := fun _ => fun
  | [d1, d2] => { results := [.lit (.bool true)], args := [d1, d2] }
  | _ => none }
def recoverMoreRow : OpenClaim := { program := "ytkoeniljaccaiaagreat", sum := "5e9fc906cd428f3334e7c503aebf88765766ac2545f4911425c23eb30e35990e", func := "flume/flumelaw28.RecoverMore", spec := "recoverMore", unfollowed := true, recurses := true, apart := false }
def RecoverMoreSaid : Prop := recoverMoreRow.holds Tryz.pinned (OpenSpec.ofChange recoverMoreSpec)

/-- ITS FALSE NEIGHBOUR: 'it returns false'. Refute it at one input. -/
def recoverMoreWrong : ChangeSpec := { name := "recoverMore", fn := fun _ => fun
  | [d1, d2] => { results := [.lit (.bool false)], args := [d1, d2] }
  | _ => none }
def RecoverMoreWrongFalsely : Prop := recoverMoreRow.holds Tryz.pinned (OpenSpec.ofChange recoverMoreWrong)

/-- 'flumelaw28.RecoverMakes': WHATEVER THE INPUT: true; the input reads as it did. -/
def recoverMakesSpec : ChangeSpec := { name := "recoverMakes", fn := fun _ => fun
  | [d1, d2, d3, d4] => { results := [.lit (.bool true)], args := [d1, d2, d3, d4] }
  | _ => none }
def recoverMakesRow : OpenClaim := { program := "ytkoeniljaccaiaagreat", sum := "5e9fc906cd428f3334e7c503aebf88765766ac2545f4911425c23eb30e35990e", func := "flume/flumelaw28.RecoverMakes", spec := "recoverMakes", unfollowed := true, recurses := true, apart := false }
def RecoverMakesSaid : Prop := recoverMakesRow.holds Tryz.pinned (OpenSpec.ofChange recoverMakesSpec)

/-- ITS FALSE NEIGHBOUR: 'it returns false'. Refute it at one input. -/
def recoverMakesWrong : ChangeSpec := { name := "recoverMakes", fn := fun _ => fun
  | [d1, d2, d3, d4] => { results := [.lit (.bool false)], args := [d1, d2, d3, d4] }
  | _ => none }
def RecoverMakesWrongFalsely : Prop := recoverMakesRow.holds Tryz.pinned (OpenSpec.ofChange recoverMakesWrong)

/-- 'flumelaw28.RecoverAgain': WHATEVER THE INPUT: true; the input reads as it did. -/
def recoverAgainSpec : ChangeSpec := { name := "recoverAgain", fn := fun _ => fun
  | [d1, d2, d3, d4, d5] => { results := [.lit (.bool true)], args := [d1, d2, d3, d4, d5] }
  | _ => none }
def recoverAgainRow : OpenClaim := { program := "ytkoeniljaccaiaagreat", sum := "5e9fc906cd428f3334e7c503aebf88765766ac2545f4911425c23eb30e35990e", func := "flume/flumelaw28.RecoverAgain", spec := "recoverAgain", unfollowed := true, recurses := true, apart := false }
def RecoverAgainSaid : Prop := recoverAgainRow.holds Tryz.pinned (OpenSpec.ofChange recoverAgainSpec)

/-- ITS FALSE NEIGHBOUR: 'it returns false'. Refute it at one input. -/
def recoverAgainWrong : ChangeSpec := { name := "recoverAgain", fn := fun _ => fun
  | [d1, d2, d3, d4, d5] => { results := [.lit (.bool false)], args := [d1, d2, d3, d4, d5] }
  | _ => none }
def RecoverAgainWrongFalsely : Prop := recoverAgainRow.holds Tryz.pinned (OpenSpec.ofChange recoverAgainWrong)

/- THE SECOND FORM. 'bulk': how many values and letters a reading holds, each counted each time it is reached (what is shared counts as often as it is met; a slice's spare places count too). A statement '..UptoSaid' is the law's where the arguments, and the package variables that the reading takes, are together of bulk at most 1048576: NARROWER than '..Said'. Prove '..Said' where nothing that the law and all that it calls make is longer than what came in: it says more and counts as full. Else prove '..UptoSaid'. A law counts once. -/
mutual
def uptoBulk {H : Type} : DataW H → Nat
  | .lit (.string bytes) => bytes.length + 1
  | .lit _ => 1
  | .nil => 1
  | .ptr d => uptoBulk d + 1
  | .slice elems spare => uptoBulkAll elems + uptoBulkAll spare + 1
  | .agg parts => uptoBulkAll parts + 1
  | .iface _ d => uptoBulk d + 1
  | .map entries => uptoBulkEntries entries + 1
  | .held _ => 1
def uptoBulkAll {H : Type} : List (DataW H) → Nat
  | [] => 0
  | d :: r => uptoBulk d + uptoBulkAll r
def uptoBulkEntries {H : Type} : List (Lit × DataW H) → Nat
  | [] => 0
  | x :: r => uptoBulkEntry x + uptoBulkEntries r
def uptoBulkEntry {H : Type} : Lit × DataW H → Nat
  | (.string bytes, d) => bytes.length + uptoBulk d + 1
  | (_, d) => uptoBulk d + 1
 end
def uptoSmall : (H : Type) → List (DataW H) → Bool := fun _ ds => decide (uptoBulkAll ds ≤ 1048576)
def OpenSpec.upto (s : _root_.Go.ChangeSpec) : _root_.Go.OpenSpec := { _root_.Go.OpenSpec.ofChange s with cond := some uptoSmall }

/-- 'flumelaw28.RecoverTells', WHERE WHAT IT READS IS OF BULK AT MOST 1048576: true; the input reads as it did. -/
def recoverTellsUptoRow : OpenClaim := { program := "ytkoeniljaccaiaagreat", sum := "5e9fc906cd428f3334e7c503aebf88765766ac2545f4911425c23eb30e35990e", func := "flume/flumelaw28.RecoverTells", spec := "recoverTells", unfollowed := true, recurses := true, apart := false, narrowed := true }
def RecoverTellsUptoSaid : Prop := recoverTellsUptoRow.holds Tryz.pinned (OpenSpec.upto recoverTellsSpec)

/-- 'flumelaw28.RecoverMore', WHERE WHAT IT READS IS OF BULK AT MOST 1048576: true; the input reads as it did. -/
def recoverMoreUptoRow : OpenClaim := { program := "ytkoeniljaccaiaagreat", sum := "5e9fc906cd428f3334e7c503aebf88765766ac2545f4911425c23eb30e35990e", func := "flume/flumelaw28.RecoverMore", spec := "recoverMore", unfollowed := true, recurses := true, apart := false, narrowed := true }
def RecoverMoreUptoSaid : Prop := recoverMoreUptoRow.holds Tryz.pinned (OpenSpec.upto recoverMoreSpec)

/-- 'flumelaw28.RecoverMakes', WHERE WHAT IT READS IS OF BULK AT MOST 1048576: true; the input reads as it did. -/
def recoverMakesUptoRow : OpenClaim := { program := "ytkoeniljaccaiaagreat", sum := "5e9fc906cd428f3334e7c503aebf88765766ac2545f4911425c23eb30e35990e", func := "flume/flumelaw28.RecoverMakes", spec := "recoverMakes", unfollowed := true, recurses := true, apart := false, narrowed := true }
def RecoverMakesUptoSaid : Prop := recoverMakesUptoRow.holds Tryz.pinned (OpenSpec.upto recoverMakesSpec)

/-- 'flumelaw28.RecoverAgain', WHERE WHAT IT READS IS OF BULK AT MOST 1048576: true; the input reads as it did. -/
def recoverAgainUptoRow : OpenClaim := { program := "ytkoeniljaccaiaagreat", sum := "5e9fc906cd428f3334e7c503aebf88765766ac2545f4911425c23eb30e35990e", func := "flume/flumelaw28.RecoverAgain", spec := "recoverAgain", unfollowed := true, recurses := true, apart := false, narrowed := true }
def RecoverAgainUptoSaid : Prop := recoverAgainUptoRow.holds Tryz.pinned (OpenSpec.upto recoverAgainSpec)

end Rows
end Go.Proofs.YtkoeniljaccaiaaGreat
