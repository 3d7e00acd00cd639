/-
  Results; what is given out; code; calls.
-/
import Derived.Test.YtnphmfcnnpoinaaEvS
import Derived.LoopN
namespace Go.Ev
set_option linter.unusedVariables false
set_option linter.unusedSimpArgs false

section
variable {C : Cdc} {P : Program} {T : Tab C}
open Pg (Ex)

variable (K : PLaws P T)

/-! ### What is given out -/
section frz
include K

theorem frz_vs {X : Cx} {h h' : Heap C} {nx nx' : Nat} {e : Pg.Lv} {lim : Lim} {tr : Tr} {id n : Nat} {d' : D C} {v : Value} (g : G T X h nx lim) (hr : R T X false (.vs id n) [v])
    (hx : Ex e (frz (.vs id n)) h nx d' h' nx' tr) : ∃ X', X'.w = X.w ∧ G T X' h' nx lim ∧ Step X nx lim X' ∧ R T X' false d' [v] ∧ nx' = nx ∧ d'.refs = [] ∧ d'.isRow = false := by
  simp only [frz] at hx
  obtain ⟨o, t', ho, hx, _⟩ := Ex.rd hx
  cases o with
  | var t d => exact (Ex.fail hx).elim
  | vec ty own l =>
    rcases Ex.br hx with ⟨hb, hx⟩ | ⟨hb, hx⟩
    · obtain ⟨o', t2, _, hx, _⟩ := Ex.dl hx
      obtain ⟨rfl, rfl, rfl, rfl⟩ := Ex.ret hx
      have hn : n = l.length := Nat.eq_of_beq_eq_true hb
      obtain ⟨X', hw, g', s', hρ⟩ := g.drop K.base (h' := h.del id) (fun i => by rw [get_del]; by_cases hi : i = id <;> simp [hi])
      refine ⟨X', hw, g', s', ?_, rfl, rfl, rfl⟩
      obtain ⟨v0, b, lo, hi, h1, h2⟩ := g.vec id ty own l ho
      have hlen := h2.len
      have hid : X'.ρ id = none := by
        cases hq : X'.ρ id with
        | none => rfl
        | some q => have := g'.dom id q hq; rw [get_del] at this; simp at this
      cases hr with
      | @vs _ _ cp a hh =>
        have hv := (hh _ _ _ _ _ h1).2 (by rw [hlen, hn])
        rcases h2 with ⟨⟨a9, h2, _⟩, rfl, _⟩ | ⟨off, cp', h2, h3, h4, h5⟩
        · rw [h2] at hv
          simp only [Value.slice.injEq] at hv
          obtain ⟨rfl, rfl, rfl⟩ := hv
          exact .sl0 _ _ _
        · rw [h2] at hv
          simp only [Value.slice.injEq] at hv
          obtain ⟨rfl, _, rfl⟩ := hv
          subst hn
          have hfree : ∀ j, own = true → off + j < hi → lo = off → X'.free b (off + j) := by
            intro j _ hj hlo
            have hm : (Loc.vec v0 (T.ety ty) b lo hi).owns b (off + j) := ⟨rfl, by omega, hj⟩
            refine ⟨by rw [s'.O]; exact (g.outer b _ ⟨id, _, h1, hm⟩).1, ?_⟩
            rintro ⟨id', l', q1, q2⟩
            have := g.apart id id' _ _ _ _ _ h1 (hρ id' l' q1) hm q2
            rw [← this, hid] at q1; cases q1
          rcases h5 with ⟨ht, hlo, h5 | ⟨c, ce, h5, h6, h7⟩⟩ | ⟨ht, hlo, ⟨cs, h5, h6⟩, h7⟩
          · have hl0 : l = [] := List.length_eq_zero_iff.1 (by omega)
            subst hl0
            exact .sl (cs := []) (fun j u hj => by simp at hj) (.arr0 _) h3 (by simp)
          · refine .sl (cs := (c.toList.drop off).take (l.length * T.size (T.ety ty))) (fun j u hj => ?_) (h7.step K.base s' (by simp [D.refs])) h3 (by simp)
            rw [List.getElem?_take] at hj
            split at hj
            · rename_i hj'
              rw [List.getElem?_drop] at hj
              refine ⟨?_, hfree j ht ?_ hlo⟩
              · rw [hw]; simp only [World.cell?, h5]; simpa using hj
              · have : l.length * T.size (T.ety ty) ≤ _ * T.size (T.ety ty) := Nat.mul_le_mul_right _ h3
                omega
            · simp at hj
          · exact .sl (h5.step s') (h6.step K.base s' (by simp [D.refs])) h3 (by simp)
    · exact (Ex.fail hx).elim

theorem frz_ok : ∀ (d : D C) {m : Bool} {vs : List Value} {X : Cx} {h h' : Heap C} {nx nx' : Nat} {e : Pg.Lv} {lim : Lim} {tr : Tr} {d' : D C}, G T X h nx lim → R T X m d vs → (∀ id ∈ d.refs, old nx lim id) →
    Ex e (frz d) h nx d' h' nx' tr → ∃ X', X'.w = X.w ∧ G T X' h' nx lim ∧ Step X nx lim X' ∧ R T X' m d' vs ∧ nx' = nx ∧ (∀ id ∈ d'.refs, old nx lim id) ∧ d'.isRow = d.isRow := by
  intro d
  have triv : ∀ (d : D C), (frz d : Pg C (D C)) = .ret d → ∀ {m : Bool} {vs : List Value} {X : Cx} {h h' : Heap C} {nx nx' : Nat} {e : Pg.Lv} {lim : Lim} {tr : Tr} {d' : D C}, G T X h nx lim → R T X m d vs → (∀ id ∈ d.refs, old nx lim id) →
    Ex e (frz d) h nx d' h' nx' tr → ∃ X', X'.w = X.w ∧ G T X' h' nx lim ∧ Step X nx lim X' ∧ R T X' m d' vs ∧ nx' = nx ∧ (∀ id ∈ d'.refs, old nx lim id) ∧ d'.isRow = d.isRow := by
    intro d hd m vs X h h' nx nx' e lim tr d' g hr ho hx
    rw [hd] at hx
    obtain ⟨rfl, rfl, rfl, rfl⟩ := Ex.ret hx
    exact ⟨X, rfl, g, .refl _ _ _, hr, rfl, ho, rfl⟩
  induction d with
  | acons d ds ih1 ih2 =>
    intro m vs X h h' nx nx' e lim tr d' g hr ho hx
    simp only [frz] at hx
    obtain ⟨d1, h1, n1, t1, t2, q1, hx, _⟩ := Ex.bind hx
    obtain ⟨d2, h2, n2, t3, t4, q2, hx, _⟩ := Ex.bind hx
    obtain ⟨rfl, rfl, rfl, rfl⟩ := Ex.ret hx
    have ho1 : ∀ id ∈ d.refs, old nx lim id := fun id hi => ho id (by simp [D.refs, hi])
    have ho2 : ∀ id ∈ ds.refs, old nx lim id := fun id hi => ho id (by simp [D.refs, hi])
    have fin : ∀ {m1 m2 : Bool} {c1 c2 : List Value}, R T X m1 d c1 → R T X m2 ds c2 → ∃ X', X'.w = X.w ∧ G T X' h' nx lim ∧ Step X nx lim X' ∧ R T X' m1 d1 c1 ∧ R T X' m2 d2 c2 ∧ nx' = nx ∧ (∀ id ∈ (D.acons d1 d2).refs, old nx lim id) ∧ d1.isRow = d.isRow := by
      intro m1 m2 c1 c2 r1 r2
      obtain ⟨X1, w1, g1, s1, a1, rfl, o1, i1⟩ := ih1 g r1 ho1 q1
      obtain ⟨X2, w2, g2, s2, a2, rfl, o2, i2⟩ := ih2 g1 (r2.step K.base s1 ho2) ho2 q2
      refine ⟨X2, by rw [w2, w1], g2, s1.trans s2 (Nat.le_refl _), a1.step K.base s2 o1, a2, rfl, ?_, i1⟩
      intro id hi
      simp only [D.refs, List.mem_append] at hi
      rcases hi with hi | hi
      · exact o1 id hi
      · exact o2 id hi
    cases hr with
    | acons r1 r2 => obtain ⟨X', a1, a2, a3, a4, a5, a6, a7, _⟩ := fin r1 r2; exact ⟨X', a1, a2, a3, .acons a4 a5, a6, a7, rfl⟩
    | vrow r1 hrow r2 => obtain ⟨X', a1, a2, a3, a4, a5, a6, a7, a8⟩ := fin r1 r2; exact ⟨X', a1, a2, a3, .vrow a4 (a8.trans hrow) a5, a6, a7, rfl⟩
    | vone r1 hrow r2 => obtain ⟨X', a1, a2, a3, a4, a5, a6, a7, a8⟩ := fin r1 r2; exact ⟨X', a1, a2, a3, .vone a4 (a8.trans hrow) a5, a6, a7, rfl⟩
  | tup d ih =>
    intro m vs X h h' nx nx' e lim tr d' g hr ho hx
    simp only [frz] at hx
    obtain ⟨d1, h1, n1, t1, t2, q1, hx, _⟩ := Ex.bind hx
    obtain ⟨rfl, rfl, rfl, rfl⟩ := Ex.ret hx
    cases hr with
    | tup r1 =>
      obtain ⟨X', a1, a2, a3, a4, a5, a6, a7⟩ := ih g r1 (fun id hi => ho id (by simpa [D.refs] using hi)) q1
      exact ⟨X', a1, a2, a3, .tup a4, a5, by simpa [D.refs] using a6, rfl⟩
  | vs id n =>
    intro m vs X h h' nx nx' e lim tr d' g hr ho hx
    have hm : m = false ∧ ∃ v, vs = [v] := by cases hr; exact ⟨rfl, _, rfl⟩
    obtain ⟨rfl, v, rfl⟩ := hm
    obtain ⟨X', a1, a2, a3, a4, a5, a6, a7⟩ := frz_vs K g hr hx
    exact ⟨X', a1, a2, a3, a4, a5, by simp [a6], a7⟩
  | _ => exact triv _ rfl
end frz

/-! ### Results -/
def resM (tmps : Array Value) : ResultVar → Sem Value
  | .tmp t => pure (tmps.getD t undef)
  | .cell a t => do loadVar t (← asAddr (tmps.getD a undef))

theorem loadAt_addr {t : TypeId} {va v : Value} {w : World} (h : (Instr.loadAt t va).run P w = .ok v w) : (do loadVar t (← asAddr va) : Sem Value).run P w = .ok v w := by
  unfold Instr.loadAt Instr.sureAddr at h
  split at h
  · simpa [asAddr] using h
  · simp [stuck] at h

include K in
theorem results_ok {X : Cx} {h : Heap C} {nx : Nat} {lim : Lim} {env : Env C} {tmps : Array Value} (g : G T X h nx lim) (he : EnvOK T X nx lim env tmps) : ∀ (rs : List ResultVar) {e : Pg.Lv} {l : List (D C)} {h' : Heap C} {nx' : Nat} {tr : Tr},
    Ex e (resultD T env rs) h nx l h' nx' tr → h' = h ∧ nx' = nx ∧ ∃ vs, (rs.mapM (resM tmps)).run P X.w = .ok vs X.w ∧ RVs T X l vs ∧ ∀ d ∈ l, ∀ id ∈ D.refs d, old nx lim id := by
  intro rs
  induction rs with
  | nil =>
    intro e l h' nx' tr hx
    obtain ⟨rfl, rfl, rfl, rfl⟩ := Ex.ret hx
    exact ⟨rfl, rfl, [], by simp, .nil, by simp⟩
  | cons r rs ih =>
    intro e l h' nx' tr hx
    cases r with
    | tmp t =>
      simp only [resultD] at hx
      obtain ⟨l1, h1, n1, t1, t2, q1, hx, _⟩ := Ex.bind hx
      obtain ⟨rfl, rfl, rfl, rfl⟩ := Ex.ret hx
      obtain ⟨rfl, rfl, vs, a1, a2, a3⟩ := ih q1
      refine ⟨rfl, rfl, tmps.getD t undef :: vs, by simp only [List.mapM_cons, resM, Sem.run_bind, Sem.run_pure, Result.andThen_ok, a1], .cons (he t).1 a2, ?_⟩
      intro d hd
      simp only [List.mem_cons] at hd
      rcases hd with rfl | hd
      · exact (he t).2
      · exact a3 d hd
    | cell a t =>
      simp only [resultD] at hx
      obtain ⟨d1, h1, n1, t1, t2, q1, hy, _⟩ := Ex.bind hx
      obtain ⟨v, k1, e1, e2, k2⟩ := load_same K g (he a) q1
      subst e1; subst e2
      obtain ⟨l1, h2, n2, t3, t4, q2, hz, _⟩ := Ex.bind hy
      obtain ⟨rfl, rfl, rfl, rfl⟩ := Ex.ret hz
      obtain ⟨rfl, rfl, vs, a1, a2, a3⟩ := ih q2
      refine ⟨rfl, rfl, v :: vs, by simp only [List.mapM_cons, resM, Sem.run_bind, Sem.run_pure, Result.andThen_ok, a1]; rw [← Sem.run_bind, loadAt_addr k1]; simp [a1], .cons k2.1 a2, ?_⟩
      intro d hd
      simp only [List.mem_cons] at hd
      rcases hd with rfl | hd
      · exact k2.2
      · exact a3 d hd

end
end Go.Ev
