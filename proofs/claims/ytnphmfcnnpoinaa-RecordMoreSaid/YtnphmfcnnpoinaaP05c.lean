/-
  RecordMore returns true for every record and every write, and both read behind the call as before. No condition beyond the given statement.
-/
import Derived.Test.YtnphmfcnnpoinaaS05e
import Derived.Test.YtnphmfcnnpoinaaQ05
import Derived.Test.YtnphmfcnnpoinaaRows
import Derived.WalkKit
import Derived.ProofKit
import Derived.OpenShut
namespace Go.Proofs.Ytnphmfcnnpoinaa
open Go.ChangeShapes Go.WideShapes Go.ChangeAt Go.RowKit Go.Ev
set_option linter.unusedVariables false
set_option maxRecDepth 100000

namespace recordMore
theorem ev (ds : List (D RC)) (h : Fits s05 rGood Try.f5.params.toList ds) : ∃ n, evF s05 u1 n 5 ds = some (.bool true) := by
  rw [Try.params5] at h
  cases h with
  | cons hf hg hr h =>
    cases h with
    | cons hf' hg' hr' h =>
      cases h with
      | nil =>
        obtain ⟨r, c, rfl, ok⟩ := asRec hf hg hr
        obtain ⟨k, v, rfl, _⟩ := asWrite hf' hg'
        exact ⟨40, more_ok r.place r.yes c r.writes k v ok.2.1⟩

theorem lifted (os : Os) (started : os.Started) (H : Type) (enc : TypeId × Value → H) :
    ReturnsInHanded {} Try.checked os 5 .any (Rows.recordMoreSpec.pre6 enc Try.prog Try.f5 Rows.recordMoreRow.domain false) (Rows.recordMoreSpec.post enc Try.prog Try.f5 false true false false) := by
  refine returnsInHanded_of_change (C := Try.checked) own started (by kernel_rfl) Try.func5
    (ChangeSpec.witness6 (enc := enc) (C := Try.checked) false ⟨#[], #[.agg #[.int .i64 0, .bool false, .slice none 0 0], .agg #[.int .i64 0, .int .i64 0]], []⟩ 8 (by kernel_rfl) (by kernel_rfl) (by kernel_rfl) (by kernel_rfl)) ?_
  intro W base args ds gs before hval hW _ _
  refine contract_of (gA := rGood) (m := 8) s05_laws u1_laws decs laidOut (tb := 4) (by kernel_rfl) Try.underlying4 rfl (by kernel_rfl) ?_ ev H enc W base args ds gs before hval hW
  intro H ds h
  rw [Try.params5] at h
  match ds, h with
  | [d0, d1], _ => rfl

theorem over : Rows.recordMoreRow.holds Try.pinned (OpenSpec.ofChange Rows.recordMoreSpec) :=
  OpenClaim.holds_of_wide 5 Try.f5 rfl rfl rfl rfl rfl rfl rfl ⟨rfl, rfl, rfl, rfl, rfl⟩ rfl rfl rfl rfl rfl (by kernel_rfl) Try.func5 (by kernel_rfl)
    (of_decide_eq_true (by kernel_rfl)) (by unfold Func.isWrapper; first | (rw [if_pos (by decide +kernel)]; kernel_rfl) | (rw [if_neg (by decide +kernel)]; exact ⟨rfl, rfl⟩))
    (fun os started H enc _ => lifted os started H enc)
theorem proved : Rows.RecordMoreSaid := over
end recordMore
#print axioms recordMore.proved
end Go.Proofs.Ytnphmfcnnpoinaa
