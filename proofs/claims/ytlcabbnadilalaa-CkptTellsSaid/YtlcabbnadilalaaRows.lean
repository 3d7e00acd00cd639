/-
  No cell of these rows narrows 'for every input' (looked for: loops, veiled, ifaces, maps, wideKeys, modest, calm, conditions, laid).
  DERIVED. THE GIVEN ROWS OF THIS SEAT. 5 by the template 'for every input the law returns true; each argument reads behind the call as it read before'; 0 by the template 'total and deterministic' (their statements: YtlcabbnadilalaaTotals.lean).
  GIVEN WITH THE SEED: the statements are not yours to turn. If you find one false, say at which input.
  Laid BY PROGRAM, IN A SANDBOX (cutbox-rows.mjs): the forced cells as the released guide's own fill.sh prints them over the translation a20fa6e80e9b1ac2… (all of the seat's roots in one cut). By AI agents, Wed Nov 11 2026. No macro, syntax, notation, axiom, sorry.
-/
import Derived.Test.YtlcabbnadilalaaChecked
import GoSem.Claim
import GoSem.ClaimJoined
import GoSem.ClaimMapViews
import Derived.JoinedTies
import Derived.KernelRfl
namespace Go.Proofs.Ytlcabbnadilalaa
/- THE CELL 'sum', in the pinned program and in every row, IS THE sha256 OF THE DUMP (.gsa) THAT YtlcabbnadilalaaProg.lean LOADS. Nothing in Lean hashes anything: it is a label: what it is worth is what the hold of that sum in a sandbox is worth. -/
noncomputable def Try.pinned : Pinned := { name := "ytlcabbnadilalaa", sum := "a20fa6e80e9b1ac252a207a739f8bced1cad1108d433831c73f09cf930235cb3", checked := Try.checked }
namespace Rows
def none {H : Type} : Left H := { results := [], args := [] }

/-- 'flumelaw07.CkptBack': WHATEVER THE INPUT: true; the input reads as it did. -/
def ckptBackSpec : ChangeSpec := { name := "ckptBack", fn := fun _ => fun
  | [d1, d2, d3, d4] => { results := [.lit (.bool true)], args := [d1, d2, d3, d4] }
  | _ => none }
def ckptBackRow : OpenClaim := { program := "ytlcabbnadilalaa", sum := "a20fa6e80e9b1ac252a207a739f8bced1cad1108d433831c73f09cf930235cb3", func := "flume/flumelaw07.CkptBack", spec := "ckptBack", unfollowed := true, recurses := true, apart := false }
def CkptBackSaid : Prop := ckptBackRow.holds Try.pinned (OpenSpec.ofChange ckptBackSpec)

/-- ITS FALSE NEIGHBOUR: 'it returns false'. Refute it at one input. -/
def ckptBackWrong : ChangeSpec := { name := "ckptBack", fn := fun _ => fun
  | [d1, d2, d3, d4] => { results := [.lit (.bool false)], args := [d1, d2, d3, d4] }
  | _ => none }
def CkptBackWrongFalsely : Prop := ckptBackRow.holds Try.pinned (OpenSpec.ofChange ckptBackWrong)

/-- 'flumelaw07.CkptFence': WHATEVER THE INPUT: true; the input reads as it did. -/
def ckptFenceSpec : ChangeSpec := { name := "ckptFence", fn := fun _ => fun
  | [d1, d2, d3, d4] => { results := [.lit (.bool true)], args := [d1, d2, d3, d4] }
  | _ => none }
def ckptFenceRow : OpenClaim := { program := "ytlcabbnadilalaa", sum := "a20fa6e80e9b1ac252a207a739f8bced1cad1108d433831c73f09cf930235cb3", func := "flume/flumelaw07.CkptFence", spec := "ckptFence", unfollowed := true, recurses := true, apart := false }
def CkptFenceSaid : Prop := ckptFenceRow.holds Try.pinned (OpenSpec.ofChange ckptFenceSpec)

/-- ITS FALSE NEIGHBOUR: 'it returns false'. Refute it at one input. -/
def ckptFenceWrong : ChangeSpec := { name := "ckptFence", fn := fun _ => fun
  | [d1, d2, d3, d4] => { results := [.lit (.bool false)], args := [d1, d2, d3, d4] }
  | _ => none }
def CkptFenceWrongFalsely : Prop := ckptFenceRow.holds Try.pinned (OpenSpec.ofChange ckptFenceWrong)

/-- 'flumelaw07.CkptWide': WHATEVER THE INPUT: true; the input reads as it did. -/
def ckptWideSpec : ChangeSpec := { name := "ckptWide", fn := fun _ => fun
  | [d1, d2, d3, d4, d5, d6] => { results := [.lit (.bool true)], args := [d1, d2, d3, d4, d5, d6] }
  | _ => none }
def ckptWideRow : OpenClaim := { program := "ytlcabbnadilalaa", sum := "a20fa6e80e9b1ac252a207a739f8bced1cad1108d433831c73f09cf930235cb3", func := "flume/flumelaw07.CkptWide", spec := "ckptWide", unfollowed := true, recurses := true, apart := false }
def CkptWideSaid : Prop := ckptWideRow.holds Try.pinned (OpenSpec.ofChange ckptWideSpec)

/-- ITS FALSE NEIGHBOUR: 'it returns false'. Refute it at one input. -/
def ckptWideWrong : ChangeSpec := { name := "ckptWide", fn := fun _ => fun
  | [d1, d2, d3, d4, d5, d6] => { results := [.lit (.bool false)], args := [d1, d2, d3, d4, d5, d6] }
  | _ => none }
def CkptWideWrongFalsely : Prop := ckptWideRow.holds Try.pinned (OpenSpec.ofChange ckptWideWrong)

/-- 'flumelaw07.CkptPlace': WHATEVER THE INPUT: true; the input reads as it did. -/
def ckptPlaceSpec : ChangeSpec := { name := "ckptPlace", fn := fun _ => fun
  | [d1, d2] => { results := [.lit (.bool true)], args := [d1, d2] }
  | _ => none }
def ckptPlaceRow : OpenClaim := { program := "ytlcabbnadilalaa", sum := "a20fa6e80e9b1ac252a207a739f8bced1cad1108d433831c73f09cf930235cb3", func := "flume/flumelaw07.CkptPlace", spec := "ckptPlace", unfollowed := true, recurses := true, apart := false }
def CkptPlaceSaid : Prop := ckptPlaceRow.holds Try.pinned (OpenSpec.ofChange ckptPlaceSpec)

/-- ITS FALSE NEIGHBOUR: 'it returns false'. Refute it at one input. -/
def ckptPlaceWrong : ChangeSpec := { name := "ckptPlace", fn := fun _ => fun
  | [d1, d2] => { results := [.lit (.bool false)], args := [d1, d2] }
  | _ => none }
def CkptPlaceWrongFalsely : Prop := ckptPlaceRow.holds Try.pinned (OpenSpec.ofChange ckptPlaceWrong)

/-- 'flumelaw07.CkptTells': WHATEVER THE INPUT: true; the input reads as it did. -/
def ckptTellsSpec : ChangeSpec := { name := "ckptTells", fn := fun _ => fun
  | [d1, d2, d3] => { results := [.lit (.bool true)], args := [d1, d2, d3] }
  | _ => none }
def ckptTellsRow : OpenClaim := { program := "ytlcabbnadilalaa", sum := "a20fa6e80e9b1ac252a207a739f8bced1cad1108d433831c73f09cf930235cb3", func := "flume/flumelaw07.CkptTells", spec := "ckptTells", unfollowed := true, recurses := true, apart := false }
def CkptTellsSaid : Prop := ckptTellsRow.holds Try.pinned (OpenSpec.ofChange ckptTellsSpec)

/-- ITS FALSE NEIGHBOUR: 'it returns false'. Refute it at one input. -/
def ckptTellsWrong : ChangeSpec := { name := "ckptTells", fn := fun _ => fun
  | [d1, d2, d3] => { results := [.lit (.bool false)], args := [d1, d2, d3] }
  | _ => none }
def CkptTellsWrongFalsely : Prop := ckptTellsRow.holds Try.pinned (OpenSpec.ofChange ckptTellsWrong)

/- THE SECOND FORM. 'bulk': how many values and letters a reading holds, each counted each time it is reached (what is shared counts as often as it is met; a slice's spare places count too). A statement '..UptoSaid' is the law's where the arguments, and the package variables that the reading takes, are together of bulk at most 1048576: NARROWER than '..Said'. Prove '..Said' where nothing that the law and all that it calls make is longer than what came in: it says more and counts as full. Else prove '..UptoSaid'. A law counts once. -/
mutual
def uptoBulk {H : Type} : DataW H → Nat
  | .lit (.string bytes) => bytes.length + 1
  | .lit _ => 1
  | .nil => 1
  | .ptr d => uptoBulk d + 1
  | .slice elems spare => uptoBulkAll elems + uptoBulkAll spare + 1
  | .agg parts => uptoBulkAll parts + 1
  | .iface _ d => uptoBulk d + 1
  | .map entries => uptoBulkEntries entries + 1
  | .held _ => 1
def uptoBulkAll {H : Type} : List (DataW H) → Nat
  | [] => 0
  | d :: r => uptoBulk d + uptoBulkAll r
def uptoBulkEntries {H : Type} : List (Lit × DataW H) → Nat
  | [] => 0
  | x :: r => uptoBulkEntry x + uptoBulkEntries r
def uptoBulkEntry {H : Type} : Lit × DataW H → Nat
  | (.string bytes, d) => bytes.length + uptoBulk d + 1
  | (_, d) => uptoBulk d + 1
 end
def uptoSmall : (H : Type) → List (DataW H) → Bool := fun _ ds => decide (uptoBulkAll ds ≤ 1048576)
def OpenSpec.upto (s : _root_.Go.ChangeSpec) : _root_.Go.OpenSpec := { _root_.Go.OpenSpec.ofChange s with cond := some uptoSmall }

/-- 'flumelaw07.CkptBack', WHERE WHAT IT READS IS OF BULK AT MOST 1048576: true; the input reads as it did. -/
def ckptBackUptoRow : OpenClaim := { program := "ytlcabbnadilalaa", sum := "a20fa6e80e9b1ac252a207a739f8bced1cad1108d433831c73f09cf930235cb3", func := "flume/flumelaw07.CkptBack", spec := "ckptBack", unfollowed := true, recurses := true, apart := false, narrowed := true }
def CkptBackUptoSaid : Prop := ckptBackUptoRow.holds Try.pinned (OpenSpec.upto ckptBackSpec)

/-- 'flumelaw07.CkptFence', WHERE WHAT IT READS IS OF BULK AT MOST 1048576: true; the input reads as it did. -/
def ckptFenceUptoRow : OpenClaim := { program := "ytlcabbnadilalaa", sum := "a20fa6e80e9b1ac252a207a739f8bced1cad1108d433831c73f09cf930235cb3", func := "flume/flumelaw07.CkptFence", spec := "ckptFence", unfollowed := true, recurses := true, apart := false, narrowed := true }
def CkptFenceUptoSaid : Prop := ckptFenceUptoRow.holds Try.pinned (OpenSpec.upto ckptFenceSpec)

/-- 'flumelaw07.CkptWide', WHERE WHAT IT READS IS OF BULK AT MOST 1048576: true; the input reads as it did. -/
def ckptWideUptoRow : OpenClaim := { program := "ytlcabbnadilalaa", sum := "a20fa6e80e9b1ac252a207a739f8bced1cad1108d433831c73f09cf930235cb3", func := "flume/flumelaw07.CkptWide", spec := "ckptWide", unfollowed := true, recurses := true, apart := false, narrowed := true }
def CkptWideUptoSaid : Prop := ckptWideUptoRow.holds Try.pinned (OpenSpec.upto ckptWideSpec)

/-- 'flumelaw07.CkptPlace', WHERE WHAT IT READS IS OF BULK AT MOST 1048576: true; the input reads as it did. -/
def ckptPlaceUptoRow : OpenClaim := { program := "ytlcabbnadilalaa", sum := "a20fa6e80e9b1ac252a207a739f8bced1cad1108d433831c73f09cf930235cb3", func := "flume/flumelaw07.CkptPlace", spec := "ckptPlace", unfollowed := true, recurses := true, apart := false, narrowed := true }
def CkptPlaceUptoSaid : Prop := ckptPlaceUptoRow.holds Try.pinned (OpenSpec.upto ckptPlaceSpec)

/-- 'flumelaw07.CkptTells', WHERE WHAT IT READS IS OF BULK AT MOST 1048576: true; the input reads as it did. -/
def ckptTellsUptoRow : OpenClaim := { program := "ytlcabbnadilalaa", sum := "a20fa6e80e9b1ac252a207a739f8bced1cad1108d433831c73f09cf930235cb3", func := "flume/flumelaw07.CkptTells", spec := "ckptTells", unfollowed := true, recurses := true, apart := false, narrowed := true }
def CkptTellsUptoSaid : Prop := ckptTellsUptoRow.holds Try.pinned (OpenSpec.upto ckptTellsSpec)

end Rows
end Go.Proofs.Ytlcabbnadilalaa
