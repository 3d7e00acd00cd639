/-
  What is given out as lists; a load that settles the slices of a variable.
-/
import Derived.Test.YtnphmfcnnpoinaaEvN
namespace Go.Ev
set_option linter.unusedVariables false
set_option linter.unusedSimpArgs false

section
variable {C : Cdc} {P : Program} {T : Tab C}
open Pg (Ex)

variable (K : PLaws P T)

theorem Pg.run_of_ex1 {α β : Type} {p : Pg C α} {e   : Pg.Lv} {h h' : Heap C} {n n' : Nat} {a : α} {t : Tr} (hx : Ex e p h n a h' n' t) (l : Tr) (k : α → Heap C → Nat → Tr → Option β) : p.run e h n l k = k a h' n' (t ++ l) := by
  rw [run_eq]; unfold Ex at hx; rw [hx]; rfl
theorem Pg.Ex.rd_mk {α : Type} {e : Pg.Lv} {h h' : Heap C} {n n' : Nat} {t : Tr} {id : Nat} {f : Obj C → Pg C α} {a : α} {o : Obj C} (ho : h.get id = some o) (hx : Ex e (f o) h n a h' n' t) : Ex e (.rd id f) h n a h' n' (t ++ [(id, false)]) := by
  show Pg.run _ _ _ _ _ _ = _
  simp only [Pg.run, ho]; rw [Pg.run_of_ex1 hx]
include K in
theorem RV.step1 {X X' : Cx} {nx : Nat} {lim : Lim} (s : Step X nx lim X') {d : D C} {v : Value} (h : RV T X d v) (hr : ∀ id ∈ d.refs, old nx lim id) : RV T X' d v := by
  rcases h with ⟨i1, cs, r1, rfl⟩ | ⟨i1, r1⟩
  · exact .inl ⟨i1, cs, r1.step K.base s hr, rfl⟩
  · exact .inr ⟨i1, r1.step K.base s hr⟩
include K in
theorem RVs.step {X X' : Cx} {nx : Nat} {lim : Lim} (s : Step X nx lim X') {ds : List (D C)} {vs : List Value} (h : RVs T X ds vs) (hr : ∀ a ∈ ds, ∀ id ∈ D.refs a, old nx lim id) : RVs T X' ds vs := by
  induction h with
  | nil => exact .nil
  | cons h _ ih => exact .cons (RV.step1 K s h (hr _ (by simp))) (ih fun a ha => hr a (by simp [ha]))

/-! ### What is given out -/
section frz
include K

theorem frz_vs {X : Cx} {h h' : Heap C} {nx nx' : Nat} {e : Pg.Lv} {lim : Lim} {tr : Tr} {id n : Nat} {d' : D C} {v : Value} (g : G T X h nx lim) (hr : R T X false (.vs id n) [v])
    (hx : Ex e (frz (.vs id n)) h nx d' h' nx' tr) : ∃ X', X'.w = X.w ∧ G T X' h' nx lim ∧ Step X nx lim X' ∧ R T X' false d' [v] ∧ nx' = nx ∧ d'.refs = [] ∧ d'.isRow = false := by
  simp only [frz] at hx
  obtain ⟨o, t', ho, hx, _⟩ := Ex.rd hx
  cases o with
  | var t d => exact (Ex.fail hx).elim
  | vec ty own l =>
    rcases Ex.br hx with ⟨hb, hx⟩ | ⟨hb, hx⟩
    · obtain ⟨o', t2, _, hx, _⟩ := Ex.dl hx
      obtain ⟨rfl, rfl, rfl, rfl⟩ := Ex.ret hx
      have hn : n = l.length := Nat.eq_of_beq_eq_true hb
      obtain ⟨X', hw, g', s', hρ⟩ := g.drop K.base (h' := h.del id) (fun i => by rw [get_del]; by_cases hi : i = id <;> simp [hi])
      refine ⟨X', hw, g', s', ?_, rfl, rfl, rfl⟩
      obtain ⟨v0, b, lo, hi, h1, h2⟩ := g.vec id ty own l ho
      have hlen := h2.len
      have hid : X'.ρ id = none := by
        cases hq : X'.ρ id with
        | none => rfl
        | some q => have := g'.dom id q hq; rw [get_del] at this; simp at this
      cases hr with
      | @vs _ _ cp a hh =>
        have hv := (hh _ _ _ _ _ h1).2 (by rw [hlen, hn])
        rcases h2 with ⟨⟨a9, h2, _⟩, rfl, _⟩ | ⟨off, cp', h2, h3, h4, h5⟩
        · rw [h2] at hv
          simp only [Value.slice.injEq] at hv
          obtain ⟨rfl, rfl, rfl⟩ := hv
          exact .sl0 _ _ _
        · rw [h2] at hv
          simp only [Value.slice.injEq] at hv
          obtain ⟨rfl, _, rfl⟩ := hv
          subst hn
          have hfree : ∀ j, own = true → off + j < hi → lo = off → X'.free b (off + j) := by
            intro j _ hj hlo
            have hm : (Loc.vec v0 (T.ety ty) b lo hi).owns b (off + j) := ⟨rfl, by omega, hj⟩
            refine ⟨by rw [s'.O]; exact (g.outer b _ ⟨id, _, h1, hm⟩).1, ?_⟩
            rintro ⟨id', l', q1, q2⟩
            have := g.apart id id' _ _ _ _ _ h1 (hρ id' l' q1) hm q2
            rw [← this, hid] at q1; cases q1
          rcases h5 with ⟨ht, hlo, h5 | ⟨c, ce, h5, h6, h7⟩⟩ | ⟨ht, hlo, ⟨cs, h5, h6⟩, h7⟩
          · have hl0 : l = [] := List.length_eq_zero_iff.1 (by omega)
            subst hl0
            exact .sl (cs := []) (fun j u hj => by simp at hj) (.arr0 _) h3 (by simp)
          · refine .sl (cs := (c.toList.drop off).take (l.length * T.size (T.ety ty))) (fun j u hj => ?_) (h7.step K.base s' (by simp [D.refs])) h3 (by simp)
            rw [List.getElem?_take] at hj
            split at hj
            · rename_i hj'
              rw [List.getElem?_drop] at hj
              refine ⟨?_, hfree j ht ?_ hlo⟩
              · rw [hw]; simp only [World.cell?, h5]; simpa using hj
              · have : l.length * T.size (T.ety ty) ≤ _ * T.size (T.ety ty) := Nat.mul_le_mul_right _ h3
                omega
            · simp at hj
          · exact .sl (h5.step s') (h6.step K.base s' (by simp [D.refs])) h3 (by simp)
    · exact (Ex.fail hx).elim

theorem frz_ok : ∀ (d : D C) {m : Bool} {vs : List Value} {X : Cx} {h h' : Heap C} {nx nx' : Nat} {e : Pg.Lv} {lim : Lim} {tr : Tr} {d' : D C}, G T X h nx lim → R T X m d vs → (∀ id ∈ d.refs, old nx lim id) →
    Ex e (frz d) h nx d' h' nx' tr → ∃ X', X'.w = X.w ∧ G T X' h' nx lim ∧ Step X nx lim X' ∧ R T X' m d' vs ∧ nx' = nx ∧ (∀ id ∈ d'.refs, old nx lim id) ∧ d'.isRow = d.isRow := by
  intro d
  have triv : ∀ (d : D C), (frz d : Pg C (D C)) = .ret d → ∀ {m : Bool} {vs : List Value} {X : Cx} {h h' : Heap C} {nx nx' : Nat} {e : Pg.Lv} {lim : Lim} {tr : Tr} {d' : D C}, G T X h nx lim → R T X m d vs → (∀ id ∈ d.refs, old nx lim id) →
    Ex e (frz d) h nx d' h' nx' tr → ∃ X', X'.w = X.w ∧ G T X' h' nx lim ∧ Step X nx lim X' ∧ R T X' m d' vs ∧ nx' = nx ∧ (∀ id ∈ d'.refs, old nx lim id) ∧ d'.isRow = d.isRow := by
    intro d hd m vs X h h' nx nx' e lim tr d' g hr ho hx
    rw [hd] at hx
    obtain ⟨rfl, rfl, rfl, rfl⟩ := Ex.ret hx
    exact ⟨X, rfl, g, .refl _ _ _, hr, rfl, ho, rfl⟩
  induction d with
  | acons d ds ih1 ih2 =>
    intro m vs X h h' nx nx' e lim tr d' g hr ho hx
    simp only [frz] at hx
    obtain ⟨d1, h1, n1, t1, t2, q1, hx, _⟩ := Ex.bind hx
    obtain ⟨d2, h2, n2, t3, t4, q2, hx, _⟩ := Ex.bind hx
    obtain ⟨rfl, rfl, rfl, rfl⟩ := Ex.ret hx
    have ho1 : ∀ id ∈ d.refs, old nx lim id := fun id hi => ho id (by simp [D.refs, hi])
    have ho2 : ∀ id ∈ ds.refs, old nx lim id := fun id hi => ho id (by simp [D.refs, hi])
    have fin : ∀ {m1 m2 : Bool} {c1 c2 : List Value}, R T X m1 d c1 → R T X m2 ds c2 → ∃ X', X'.w = X.w ∧ G T X' h' nx lim ∧ Step X nx lim X' ∧ R T X' m1 d1 c1 ∧ R T X' m2 d2 c2 ∧ nx' = nx ∧ (∀ id ∈ (D.acons d1 d2).refs, old nx lim id) ∧ d1.isRow = d.isRow := by
      intro m1 m2 c1 c2 r1 r2
      obtain ⟨X1, w1, g1, s1, a1, rfl, o1, i1⟩ := ih1 g r1 ho1 q1
      obtain ⟨X2, w2, g2, s2, a2, rfl, o2, i2⟩ := ih2 g1 (r2.step K.base s1 ho2) ho2 q2
      refine ⟨X2, by rw [w2, w1], g2, s1.trans s2 (Nat.le_refl _), a1.step K.base s2 o1, a2, rfl, ?_, i1⟩
      intro id hi
      simp only [D.refs, List.mem_append] at hi
      rcases hi with hi | hi
      · exact o1 id hi
      · exact o2 id hi
    cases hr with
    | acons r1 r2 => obtain ⟨X', a1, a2, a3, a4, a5, a6, a7, _⟩ := fin r1 r2; exact ⟨X', a1, a2, a3, .acons a4 a5, a6, a7, rfl⟩
    | vrow r1 hrow r2 => obtain ⟨X', a1, a2, a3, a4, a5, a6, a7, a8⟩ := fin r1 r2; exact ⟨X', a1, a2, a3, .vrow a4 (a8.trans hrow) a5, a6, a7, rfl⟩
    | vone r1 hrow r2 => obtain ⟨X', a1, a2, a3, a4, a5, a6, a7, a8⟩ := fin r1 r2; exact ⟨X', a1, a2, a3, .vone a4 (a8.trans hrow) a5, a6, a7, rfl⟩
  | tup d ih =>
    intro m vs X h h' nx nx' e lim tr d' g hr ho hx
    simp only [frz] at hx
    obtain ⟨d1, h1, n1, t1, t2, q1, hx, _⟩ := Ex.bind hx
    obtain ⟨rfl, rfl, rfl, rfl⟩ := Ex.ret hx
    cases hr with
    | tup r1 =>
      obtain ⟨X', a1, a2, a3, a4, a5, a6, a7⟩ := ih g r1 (fun id hi => ho id (by simpa [D.refs] using hi)) q1
      exact ⟨X', a1, a2, a3, .tup a4, a5, by simpa [D.refs] using a6, rfl⟩
  | vs id n =>
    intro m vs X h h' nx nx' e lim tr d' g hr ho hx
    have hm : m = false ∧ ∃ v, vs = [v] := by cases hr; exact ⟨rfl, _, rfl⟩
    obtain ⟨rfl, v, rfl⟩ := hm
    obtain ⟨X', a1, a2, a3, a4, a5, a6, a7⟩ := frz_vs K g hr hx
    exact ⟨X', a1, a2, a3, a4, a5, by simp [a6], a7⟩
  | _ => exact triv _ rfl
end frz


include K in
theorem frzL_ok : ∀ (args : List (D C)) {vs : List Value} {X : Cx} {h h' : Heap C} {nx nx' : Nat} {e : Pg.Lv} {lim : Lim} {tr : Tr} {args' : List (D C)}, G T X h nx lim → RVs T X args vs → (∀ a ∈ args, ∀ id ∈ D.refs a, old nx lim id) →
    Ex e (frzL args) h nx args' h' nx' tr → ∃ X', X'.w = X.w ∧ G T X' h' nx lim ∧ Step X nx lim X' ∧ RVs T X' args' vs ∧ nx' = nx ∧ (∀ a ∈ args', ∀ id ∈ D.refs a, old nx lim id)
  | [], vs, X, h, h', nx, nx', e, lim, tr, args', g, hr, ho, hx => by
    obtain ⟨rfl, rfl, rfl, rfl⟩ := Ex.ret hx
    exact ⟨X, rfl, g, .refl _ _ _, hr, rfl, ho⟩
  | d :: ds, vs, X, h, h', nx, nx', e, lim, tr, args', g, hr, ho, hx => by
    simp only [frzL] at hx
    obtain ⟨d1, h1, n1, t1, t2, q1, hx, _⟩ := Ex.bind hx
    obtain ⟨d2, h2, n2, t3, t4, q2, hx, _⟩ := Ex.bind hx
    obtain ⟨rfl, rfl, rfl, rfl⟩ := Ex.ret hx
    have ho1 : ∀ id ∈ d.refs, old nx lim id := ho d (by simp)
    have ho2 : ∀ a ∈ ds, ∀ id ∈ D.refs a, old nx lim id := fun a ha => ho a (by simp [ha])
    cases hr with
    | @cons _ _ v vs' rv rs =>
      have key : ∃ X1, X1.w = X.w ∧ G T X1 h1 nx lim ∧ Step X nx lim X1 ∧ RV T X1 d1 v ∧ n1 = nx ∧ (∀ id ∈ d1.refs, old nx lim id) := by
        rcases rv with ⟨i1, cs, r1, rfl⟩ | ⟨i1, r1⟩
        · obtain ⟨X1, w1, g1, s1, a1, e1, o1, i2⟩ := frz_ok K d g r1 ho1 q1
          exact ⟨X1, w1, g1, s1, .inl ⟨i2.trans i1, cs, a1, rfl⟩, e1, o1⟩
        · obtain ⟨X1, w1, g1, s1, a1, e1, o1, i2⟩ := frz_ok K d g r1 ho1 q1
          exact ⟨X1, w1, g1, s1, .inr ⟨i2.trans i1, a1⟩, e1, o1⟩
      obtain ⟨X1, w1, g1, s1, a1, rfl, o1⟩ := key
      have rs1 : RVs T X1 ds vs' := RVs.step K s1 rs ho2
      obtain ⟨X2, w2, g2, s2, a2, rfl, o2⟩ := frzL_ok ds g1 rs1 ho2 q2
      refine ⟨X2, by rw [w2, w1], g2, s1.trans s2 (Nat.le_refl _), .cons (RV.step1 K s2 a1 o1) a2, rfl, ?_⟩
      intro a ha
      rcases List.mem_cons.1 ha with rfl | ha
      · exact o1
      · exact o2 a ha

/-- an object's value is told otherwise -/
theorem G.retell {X : Cx} {h : Heap C} {nx : Nat} {lim : Lim} (g : G T X h nx lim) {id : Nat} {u : TypeId} {d0 d : D C} (ho : h.get id = some (.var u d0))
    (hd : ∀ b c, X.ρ id = some (.var b u) → X.w.heap[b]? = some (.cells c u (0, 0)) → R T X false d c.toList) (hf : fit T d (.inl u) = true) (hr : ∀ r ∈ d.refs, old nx lim r) :
    G T X (h.put id (.var u d)) nx lim := by
  have hs : (h.get id).isSome = true := by rw [ho]; rfl
  have hget : ∀ j, (h.put id (.var u d)).get j = if j = id then some (.var u d) else h.get j := fun j => get_put hs
  refine ⟨fun j t x hj => ?_, fun j t own l hj => ?_, fun j l hl => ?_, fun j o hj => ?_, g.apart, g.outer, g.outs, g.low⟩
  · rw [hget] at hj
    by_cases e : j = id
    · subst e
      rw [if_pos rfl] at hj
      cases hj
      obtain ⟨b, c, h1, h2, h3, h4⟩ := g.var _ _ _ ho
      exact ⟨b, c, h1, h2, hd b c h1 h2, hf⟩
    · rw [if_neg e] at hj
      exact g.var _ _ _ hj
  · rw [hget] at hj
    by_cases e : j = id
    · rw [if_pos e] at hj; cases hj
    · rw [if_neg e] at hj
      exact g.vec _ _ _ _ hj
  · rw [hget]
    by_cases e : j = id
    · rw [if_pos e]; rfl
    · rw [if_neg e]; exact g.dom j l hl
  · rw [hget] at hj
    by_cases e : j = id
    · subst e
      rw [if_pos rfl] at hj
      cases hj
      exact ⟨(g.nums _ _ ho).1, hr⟩
    · rw [if_neg e] at hj
      exact g.nums _ _ hj

section
variable {X : Cx} {h h' : Heap C} {nx nx' : Nat} {e : Pg.Lv} {lim : Lim} {tr : Tr} (g : G T X h nx lim)
include K g in
theorem loadS_ok {t : TypeId} {a d : D C} {va : Value} (ha : RO T X nx lim a va) (hx : Ex e (evLoadS T t a) h nx d h' nx' tr) : Post P T X nx lim h' nx' d (Instr.loadAt t va) := by
  unfold evLoadS at hx
  split at hx
  · rename_i id
    split at hx
    · obtain ⟨o, tr', ho, hx, _⟩ := Ex.rd hx
      cases o with
      | vec ty own l => exact (Ex.fail hx).elim
      | var u d0 =>
        simp only [ldS] at hx
        cases hc : (decide (u = t) && d0.hasVs) with
        | false =>
          rw [hc] at hx
          simp only [cond_false] at hx
          exact load_ok K g (e := e) (tr := tr' ++ [(id, false)]) ha (by
            unfold evLoad
            exact Ex.rd_mk ho hx)
        | true =>
          rw [hc] at hx
          simp only [cond_true] at hx
          simp only [Bool.and_eq_true, decide_eq_true_eq] at hc
          obtain ⟨rfl, _⟩ := hc
          obtain ⟨d1, h1, n1, t1, t2, q1, hx, _⟩ := Ex.bind hx
          cases hf : fit T d1 (.inl u) with
          | false => rw [hf] at hx; exact (Ex.fail hx).elim
          | true =>
            rw [hf] at hx
            simp only [cond_true] at hx
            obtain ⟨o', t3, ho', hx, _⟩ := Ex.wr hx
            obtain ⟨rfl, rfl, rfl, rfl⟩ := Ex.ret hx
            obtain ⟨b, c, k1, k2, k3, k4⟩ := g.var id u d0 ho
            obtain ⟨X', w', g', s', r', hn, hrf, hrow⟩ := frz_ok K d0 g k3 (g.nums id _ ho).2 q1
            have hR := ha.1.one rfl
            cases hR with
            | @ptr _ _ a' hq =>
              obtain ⟨hok, rfl⟩ := hq b u k1
              obtain ⟨v, hv, hrv⟩ := run_loadVar K (w := X.w) (b := b) (off := 0) hf r' (by
                intro j w hj
                simp only [World.cell?, k2, Nat.zero_add]
                simpa using hj)
              subst hn
              have hρ : ∃ d2, h1.get id = some (.var u d2) ∧ X'.ρ id = some (.var b u) := by
                have hold := (g.nums id _ ho).1
                have hcm := s'.ρ id hold
                rw [k1] at hcm
                cases o' with
                | var u2 d2 =>
                  obtain ⟨b', c', m1, _⟩ := g'.var id u2 d2 ho'
                  rw [m1] at hcm
                  simp only [Compat, Loc.var.injEq] at hcm
                  obtain ⟨rfl, rfl⟩ := hcm
                  exact ⟨d2, ho', m1⟩
                | vec ty own l =>
                  obtain ⟨v', b', lo, hi, m1, _⟩ := g'.vec id ty own l ho'
                  rw [m1] at hcm
                  simp [Compat] at hcm
              obtain ⟨d2, m1, m2⟩ := hρ
              refine ⟨v, X', ?_, ?_, s', ?_⟩
              · rw [w']
                have : offAt T u [] = 0 := rfl
                simp [Instr.loadAt, Instr.sureAddr, hv, this]
              · refine g'.retell m1 (fun b1 c1 x1 x2 => ?_) hf hrf
                rw [m2] at x1
                cases x1
                rw [w', k2] at x2
                cases x2
                exact r'
              · exact ⟨hrv, hrf⟩
    · exact load_ok K g ha hx
  · exact load_ok K g ha hx
end
end
end Go.Ev
