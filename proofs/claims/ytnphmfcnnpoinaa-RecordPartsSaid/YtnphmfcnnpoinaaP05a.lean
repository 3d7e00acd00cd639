/-
  RecordParts returns true for every slice of writes, and the slice reads behind the call as before. No condition beyond the given statement.
-/
import Derived.Test.YtnphmfcnnpoinaaR05b
import Derived.Test.YtnphmfcnnpoinaaDec
import Derived.Test.YtnphmfcnnpoinaaRows
import Derived.WalkKit
import Derived.ProofKit
import Derived.OpenShut
namespace Go.Proofs.Ytnphmfcnnpoinaa
open Go.ChangeShapes Go.WideShapes Go.ChangeAt Go.RowKit Go.Ev
set_option linter.unusedVariables false
set_option maxRecDepth 100000
theorem etys : Etys s05 s05Ety := ⟨by kernel_rfl, by kernel_rfl, by kernel_rfl, ⟨3, 3, by kernel_rfl, by kernel_rfl, by kernel_rfl⟩, ⟨3, 3, 3, by kernel_rfl, by kernel_rfl, by kernel_rfl, by kernel_rfl⟩,
  ⟨3, 3, 3, 3, 3, by kernel_rfl, by kernel_rfl, by kernel_rfl, by kernel_rfl, by kernel_rfl, by kernel_rfl⟩, ⟨38, by kernel_rfl⟩⟩
theorem decs : Dec s05 rGood := rDecs rfl rfl etys
theorem own : ownKnob Try.prog.godebug = none := by kernel_rfl
theorem laidOut : laidOutB Try.prog = true := by kernel_rfl
theorem t22 : s05.ty 22 = .sl 41 .write := by kernel_rfl

namespace recordParts
theorem ev (ds : List (D RC)) (h : Fits s05 rGood Try.f3.params.toList ds) : ∃ n, evF s05 f7 n 3 ds = some (.bool true) := by
  rw [Try.params3] at h
  cases h with
  | cons hf hg hr h =>
    cases h with
    | nil =>
      obtain ⟨c, l, rfl⟩ := fit_sl t22 hf hr
      exact ⟨30, e3_ok c l hg.1⟩

theorem lifted (os : Os) (started : os.Started) (H : Type) (enc : TypeId × Value → H) :
    ReturnsInHanded {} Try.checked os 3 .any (Rows.recordPartsSpec.pre6 enc Try.prog Try.f3 Rows.recordPartsRow.domain false) (Rows.recordPartsSpec.post enc Try.prog Try.f3 false true false false) := by
  refine returnsInHanded_of_change (C := Try.checked) own started (by kernel_rfl) Try.func3
    (ChangeSpec.witness6 (enc := enc) (C := Try.checked) false ⟨#[], #[.slice none 0 0], []⟩ 8 (by kernel_rfl) (by kernel_rfl) (by kernel_rfl) (by kernel_rfl)) ?_
  intro W base args ds gs before hval hW _ _
  refine contract_of (gA := rGood) (m := 8) s05_laws f7_laws decs laidOut (tb := 4) (by kernel_rfl) Try.underlying4 rfl (by kernel_rfl) ?_ ev H enc W base args ds gs before hval hW
  intro H ds h
  rw [Try.params3] at h
  match ds, h with
  | [d], _ => rfl

theorem over : Rows.recordPartsRow.holds Try.pinned (OpenSpec.ofChange Rows.recordPartsSpec) :=
  OpenClaim.holds_of_wide 3 Try.f3 rfl rfl rfl rfl rfl rfl rfl ⟨rfl, rfl, rfl, rfl, rfl⟩ rfl rfl rfl rfl rfl (by kernel_rfl) Try.func3 (by kernel_rfl)
    (of_decide_eq_true (by kernel_rfl)) (by unfold Func.isWrapper; first | (rw [if_pos (by decide +kernel)]; kernel_rfl) | (rw [if_neg (by decide +kernel)]; exact ⟨rfl, rfl⟩))
    (fun os started H enc _ => lifted os started H enc)
theorem proved : Rows.RecordPartsSaid := over
end recordParts
#print axioms recordParts.proved
end Go.Proofs.Ytnphmfcnnpoinaa
