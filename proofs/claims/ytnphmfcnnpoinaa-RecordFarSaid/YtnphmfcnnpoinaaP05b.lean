/-
  RecordFar returns true for every state and every number, and both read behind the call as before. No condition beyond the given statement.
-/
import Derived.Test.YtnphmfcnnpoinaaR05d
import Derived.Test.YtnphmfcnnpoinaaQ05
import Derived.Test.YtnphmfcnnpoinaaRows
import Derived.WalkKit
import Derived.ProofKit
import Derived.OpenShut
namespace Go.Proofs.Ytnphmfcnnpoinaa
open Go.ChangeShapes Go.WideShapes Go.ChangeAt Go.RowKit Go.Ev
set_option linter.unusedVariables false
set_option maxRecDepth 100000

namespace recordFar
theorem ev (ds : List (D RC)) (h : Fits s05 rGood Try.f4.params.toList ds) : ∃ n, evF s05 h2 n 4 ds = some (.bool true) := by
  rw [Try.params4] at h
  cases h with
  | cons hf hg hr h =>
    cases h with
    | cons hf' hg' hr' h =>
      cases h with
      | nil =>
        obtain ⟨s, ci, rfl, ok⟩ := asState hf hg hr
        obtain ⟨n, rfl⟩ := fit_int t3 hf'
        exact ⟨40, e4_ok s.place ci s.items s.l0 s.l1 s.l2 s.c0 s.c1 s.c2 n ok.2.1 ok.2.2.2.1.1 ok.2.2.2.2.1.1 ok.2.2.2.2.2.1.1⟩

theorem lifted (os : Os) (started : os.Started) (H : Type) (enc : TypeId × Value → H) :
    ReturnsInHanded {} Try.checked os 4 .any (Rows.recordFarSpec.pre6 enc Try.prog Try.f4 Rows.recordFarRow.domain false) (Rows.recordFarSpec.post enc Try.prog Try.f4 false true false false) := by
  refine returnsInHanded_of_change (C := Try.checked) own started (by kernel_rfl) Try.func4
    (ChangeSpec.witness6 (enc := enc) (C := Try.checked) false ⟨#[], #[.agg #[.int .i64 0, .slice none 0 0, .slice none 0 0, .slice none 0 0, .slice none 0 0, .int .i64 0, .int .i64 0, .int .i64 0], .int .i64 0], []⟩ 8 (by kernel_rfl) (by kernel_rfl) (by kernel_rfl) (by kernel_rfl)) ?_
  intro W base args ds gs before hval hW _ _
  refine contract_of (gA := rGood) (m := 8) s05_laws h2_laws decs laidOut (tb := 4) (by kernel_rfl) Try.underlying4 rfl (by kernel_rfl) ?_ ev H enc W base args ds gs before hval hW
  intro H ds h
  rw [Try.params4] at h
  match ds, h with
  | [d, d'], _ => rfl

theorem over : Rows.recordFarRow.holds Try.pinned (OpenSpec.ofChange Rows.recordFarSpec) :=
  OpenClaim.holds_of_wide 4 Try.f4 rfl rfl rfl rfl rfl rfl rfl ⟨rfl, rfl, rfl, rfl, rfl⟩ rfl rfl rfl rfl rfl (by kernel_rfl) Try.func4 (by kernel_rfl)
    (of_decide_eq_true (by kernel_rfl)) (by unfold Func.isWrapper; first | (rw [if_pos (by decide +kernel)]; kernel_rfl) | (rw [if_neg (by decide +kernel)]; exact ⟨rfl, rfl⟩))
    (fun os started H enc _ => lifted os started H enc)
theorem proved : Rows.RecordFarSaid := over
end recordFar
#print axioms recordFar.proved
end Go.Proofs.Ytnphmfcnnpoinaa
