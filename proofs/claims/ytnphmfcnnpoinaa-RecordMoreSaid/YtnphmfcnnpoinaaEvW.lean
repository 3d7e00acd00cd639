/-
  Functions that are handed values without objects and give such: what the evaluator says of them holds in every world.
-/
import Derived.Test.YtnphmfcnnpoinaaEvV
namespace Go.Ev
set_option linter.unusedVariables false
set_option linter.unusedSimpArgs false

section
variable {C : Cdc} {P : Program} {T : Tab C} {Φ : Fns C}
open Pg (Ex)

theorem evF_ex {n : Nat} {f : FuncId} {args : List (D C)} {d : D C} (h : evF T Φ n f args = some d) : ∃ h' nx' tr, Ex (0, 0) (enterD T Φ (evC T Φ n) f args) [] 0 d h' nx' tr ∧ d.refs = [] := by
  unfold evF at h
  obtain ⟨a, h', n', t, h1, h2⟩ := Pg.run_some h
  cases hb : a.refs.isEmpty with
  | false => simp [hb] at h2
  | true =>
    simp only [hb, cond_true, Option.some.injEq] at h2
    subst h2
    exact ⟨h', n', t, h1, List.isEmpty_iff.1 hb⟩

theorem G.grow (L : Laws T) {X : Cx} {h : Heap C} {nx : Nat} {lim : Lim} (g : G T X h nx lim) (w' : World) (hsz : X.w.heap.size ≤ w'.heap.size) (hh : ∀ b, b < X.w.heap.size → w'.heap[b]? = X.w.heap[b]?) (h1 : w'.os = X.w.os) (h2 : w'.tape = X.w.tape) (h3 : w'.output = X.w.output)
    (h4 : ∀ a, w'.frozen? a = X.w.frozen? a) : G T ⟨w', X.ρ, X.O⟩ h nx lim ∧ Step X nx lim ⟨w', X.ρ, X.O⟩ := by
  have hs : Step X nx lim ⟨w', X.ρ, X.O⟩ := ⟨rfl, h1, h2, h3, hsz, fun _ _ => .refl _, fun _ _ _ hm => hm, fun b o hb _ => by simp [World.cell?, hh b hb], fun b hb _ => hh b hb, h4⟩
  have hc : ∀ n, Ch X ⟨w', X.ρ, X.O⟩ nx lim n := fun n => ⟨hs, fun _ _ => rfl, fun b c e f hb => ⟨c, by simp only; rw [hh b (Array.getElem?_eq_some_iff.1 hb).1]; exact hb, rfl, fun _ _ => rfl⟩⟩
  refine ⟨⟨?_, ?_, g.dom, g.nums, g.apart, ?_, ?_, g.low⟩, hs⟩
  · intro id t d ho
    by_cases hi : id = 0
    · exact (G.others L g (hc 1)).1 id t d (by omega) ho
    · exact (G.others L g (hc 0)).1 id t d hi ho
  · intro id t own l ho
    by_cases hi : id = 0
    · exact (G.others L g (hc 1)).2 id t own l (by omega) ho
    · exact (G.others L g (hc 0)).2 id t own l hi ho
  · intro b o hm; have := g.outer b o hm; exact ⟨this.1, by simp only; omega⟩
  · intro b o hm; have := g.outs b o hm; simp only at this ⊢; omega

def lim0 (n : Nat) : Lim := ⟨0, n, fun _ => False, fun _ _ _ h => h⟩

/-- an empty store of objects: nothing is one's own; 'O': what nobody is to touch -/
theorem G.start (w : World) (O : Nat → Nat → Prop) (hO : ∀ b o, O b o → b < w.heap.size) (n : Nat) : G T ⟨w, fun _ => none, O⟩ [] 0 (lim0 n) where
  var id t d h := by simp [Heap.get] at h
  vec id t own l h := by simp [Heap.get] at h
  dom id l h := by simp at h
  nums id o h := by simp [Heap.get] at h
  apart id id' l l' b o o' h := by simp at h
  outer b o h := by obtain ⟨_, _, h, _⟩ := h; simp at h
  outs := hO
  low := Nat.le_refl _

variable (K : PLaws P T) (F : FLaws P T Φ)
include K F

/-- from a bare world: the answer, and that nothing that was there is touched -/
theorem evF_calls {n : Nat} {f : FuncId} {args : List (D C)} {d : D C} (h : evF T Φ n f args = some d) (hargs : ∀ a ∈ args, D.refs a = []) (w : World) (O : Nat → Nat → Prop) (hO : ∀ b o, O b o → b < w.heap.size) {vs : List Value}
    (hvs : RVs T ⟨w, fun _ => none, O⟩ args vs) : (callFunc f ⟨vs⟩).run P w = .ok (.enter f ⟨vs⟩) w ∧ Calls P f ⟨vs⟩ w fun en w' =>
      ∃ v ρ, en = .returned v ∧ RV T ⟨w', ρ, O⟩ d v ∧ w.heap.size ≤ w'.heap.size ∧ (∀ b, b < w.heap.size → w'.heap[b]? = w.heap[b]?) ∧ w'.os = w.os ∧ w'.tape = w.tape ∧ w'.output = w.output ∧ (∀ a, w'.frozen? a = w.frozen? a) := by
  obtain ⟨h', nx', tr, hx, hd⟩ := evF_ex h
  have g := G.start (T := T) w O hO nx'
  obtain ⟨q1, q2⟩ := enter_ok K F n f args vs _ _ _ _ _ _ _ _ _ g hvs (fun a ha id hid => by rw [hargs a ha] at hid; simp at hid) (Nat.le_refl _) hx
  refine ⟨q1, q2.mono fun en w' hp => ?_⟩
  obtain ⟨v, X', rfl, rfl, g', s', r'⟩ := hp
  have hO' : X'.O = O := s'.O
  refine ⟨v, X'.ρ, rfl, ?_, s'.size, fun b hb => s'.block b hb (fun o hm => by obtain ⟨_, _, hq, _⟩ := hm; simp at hq), s'.os, s'.tape, s'.output, s'.frz⟩
  rw [← hO']
  exact r'.1

/-- as a summary -/
theorem evF_spec {n : Nat} {f : FuncId} {args : List (D C)} {d : D C} (h : evF T Φ n f args = some d) (hargs : ∀ a ∈ args, D.refs a = []) {X : Cx} {hp : Heap C} {nx : Nat} {lim : Lim} {vs : List Value} (g : G T X hp nx lim) (hvs : RVs T X args vs) :
    (callFunc f ⟨vs⟩).run P X.w = .ok (.enter f ⟨vs⟩) X.w ∧ Calls P f ⟨vs⟩ X.w (CallPost T X nx lim hp nx d) := by
  have hd : d.refs = [] := by obtain ⟨_, _, _, _, hd⟩ := evF_ex h; exact hd
  have hkeep : ∀ b o v, X.w.cell? ⟨b, o, none⟩ = some v → X.free b o → X.w.cell? ⟨b, o, none⟩ = some v ∧ Cx.free ⟨X.w, fun _ => none, fun b o => X.O b o ∨ X.mine b o⟩ b o :=
    fun b o v hc hf => ⟨hc, fun h => h.elim hf.1 hf.2, fun ⟨_, _, hq, _⟩ => by simp at hq⟩
  have hvs0 : RVs T ⟨X.w, fun _ => none, fun b o => X.O b o ∨ X.mine b o⟩ args vs := by
    clear h
    induction hvs with
    | nil => exact .nil
    | @cons d ds v vs hv _ ih =>
      refine .cons (hv.mono T K.base.encRefs (X' := ⟨X.w, fun _ => none, fun b o => X.O b o ∨ X.mine b o⟩) hkeep fun id hi => ?_) (ih fun a ha => hargs a (by simp [ha]))
      rw [hargs d (by simp)] at hi; simp at hi
  obtain ⟨q1, q2⟩ := evF_calls K F h hargs X.w (fun b o => X.O b o ∨ X.mine b o) (fun b o ho => ho.elim (g.outs b o) fun hm => (g.outer b o hm).2) hvs0
  refine ⟨q1, q2.mono fun en w' hpp => ?_⟩
  obtain ⟨v, ρ, rfl, r, a1, a2, a3, a4, a5, a6⟩ := hpp
  obtain ⟨g', s'⟩ := g.grow K.base w' a1 a2 a3 a4 a5 a6
  refine ⟨v, ⟨w', X.ρ, X.O⟩, rfl, rfl, g', s', ?_, by rw [hd]; simp⟩
  refine RV.mono T (X := ⟨w', ρ, fun b o => X.O b o ∨ X.mine b o⟩) (X' := ⟨w', X.ρ, X.O⟩) K.base.encRefs (h := r) (fun b o u hc hf => ⟨hc, fun ho => hf.1 (Or.inl ho), fun hm => hf.1 (Or.inr hm)⟩) fun id hi => ?_
  rw [hd] at hi; simp at hi
end
end Go.Ev
