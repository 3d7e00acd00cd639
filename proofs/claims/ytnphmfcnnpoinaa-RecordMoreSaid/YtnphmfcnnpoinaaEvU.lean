/-
  Results; what is given out; code; calls.
-/
import Derived.Test.YtnphmfcnnpoinaaEvS
import Derived.LoopN
namespace Go.Ev
set_option linter.unusedVariables false
set_option linter.unusedSimpArgs false

section
variable {C : Cdc} {P : Program} {T : Tab C}
open Pg (Ex)

variable (K : PLaws P T)

/-! ### Results -/
def resM (tmps : Array Value) : ResultVar → Sem Value
  | .tmp t => pure (tmps.getD t undef)
  | .cell a t => do loadVar t (← asAddr (tmps.getD a undef))

theorem loadAt_addr {t : TypeId} {va v : Value} {w : World} (h : (Instr.loadAt t va).run P w = .ok v w) : (do loadVar t (← asAddr va) : Sem Value).run P w = .ok v w := by
  unfold Instr.loadAt Instr.sureAddr at h
  split at h
  · simpa [asAddr] using h
  · simp [stuck] at h

include K in
theorem results_ok {X : Cx} {h : Heap C} {nx : Nat} {lim : Lim} {env : Env C} {tmps : Array Value} (g : G T X h nx lim) (he : EnvOK T X nx lim env tmps) : ∀ (rs : List ResultVar) {e : Pg.Lv} {l : List (D C)} {h' : Heap C} {nx' : Nat} {tr : Tr},
    Ex e (resultD T env rs) h nx l h' nx' tr → h' = h ∧ nx' = nx ∧ ∃ vs, (rs.mapM (resM tmps)).run P X.w = .ok vs X.w ∧ RVs T X l vs ∧ ∀ d ∈ l, ∀ id ∈ D.refs d, old nx lim id := by
  intro rs
  induction rs with
  | nil =>
    intro e l h' nx' tr hx
    obtain ⟨rfl, rfl, rfl, rfl⟩ := Ex.ret hx
    exact ⟨rfl, rfl, [], by simp, .nil, by simp⟩
  | cons r rs ih =>
    intro e l h' nx' tr hx
    cases r with
    | tmp t =>
      simp only [resultD] at hx
      obtain ⟨l1, h1, n1, t1, t2, q1, hx, _⟩ := Ex.bind hx
      obtain ⟨rfl, rfl, rfl, rfl⟩ := Ex.ret hx
      obtain ⟨rfl, rfl, vs, a1, a2, a3⟩ := ih q1
      refine ⟨rfl, rfl, tmps.getD t undef :: vs, by simp only [List.mapM_cons, resM, Sem.run_bind, Sem.run_pure, Result.andThen_ok, a1], .cons (he t).1 a2, ?_⟩
      intro d hd
      simp only [List.mem_cons] at hd
      rcases hd with rfl | hd
      · exact (he t).2
      · exact a3 d hd
    | cell a t =>
      simp only [resultD] at hx
      obtain ⟨d1, h1, n1, t1, t2, q1, hy, _⟩ := Ex.bind hx
      obtain ⟨v, k1, e1, e2, k2⟩ := load_same K g (he a) q1
      subst e1; subst e2
      obtain ⟨l1, h2, n2, t3, t4, q2, hz, _⟩ := Ex.bind hy
      obtain ⟨rfl, rfl, rfl, rfl⟩ := Ex.ret hz
      obtain ⟨rfl, rfl, vs, a1, a2, a3⟩ := ih q2
      refine ⟨rfl, rfl, v :: vs, by simp only [List.mapM_cons, resM, Sem.run_bind, Sem.run_pure, Result.andThen_ok, a1]; rw [← Sem.run_bind, loadAt_addr k1]; simp [a1], .cons k2.1 a2, ?_⟩
      intro d hd
      simp only [List.mem_cons] at hd
      rcases hd with rfl | hd
      · exact k2.2
      · exact a3 d hd

end
end Go.Ev
