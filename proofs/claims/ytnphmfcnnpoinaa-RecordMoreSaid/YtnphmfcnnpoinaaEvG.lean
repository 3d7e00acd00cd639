/-
  Operations, one by one: what the model does is what the evaluator says. Loads, stores, fields, indices, sums.
-/
import Derived.Test.YtnphmfcnnpoinaaEvF
namespace Go.Ev
set_option linter.unusedVariables false
set_option linter.unusedSimpArgs false

section
variable {C : Cdc}

/-- what is asked of a table, against the program -/
structure PLaws (P : Program) (T : Tab C) : Prop where
  base : Laws T
  uBool : ∀ u, T.ty u = .bool → P.underlying u = some .bool
  uInt : ∀ u k, T.ty u = .int k → P.underlying u = some (.int k)
  uStr : ∀ u, T.ty u = .str → P.underlying u = some .string
  uStruct : ∀ u fs, T.ty u = .struct fs → ∃ fields : Array Field, P.underlying u = some (.struct fields) ∧ fields.toList.map (·.type) = fs ∧
    (∀ i (f : Field), fields[i]? = some f → f.offset = sumSz T (fs.take i)) ∧ P.stoodInHeld u = false ∧ P.eqGuardType P.depth u = false ∧ (∀ f ∈ fields.toList, f.name ≠ "_")
  uField : ∀ u fs f, T.ty u = .struct fs → f ∈ fs → ∃ i, P.info? f = some i ∧ i.size = T.size f ∧ 0 < T.size f
  uArr : ∀ u n e t, T.ty u = .arr n e t → P.underlying u = some (.array n e) ∧ P.eqGuardType P.depth u = false
  uSl : ∀ u e t, T.ty u = .sl e t → P.underlying u = some (.slice e)
  uElem : ∀ u e t, (∃ n, T.ty u = .arr n e t) ∨ T.ty u = .sl e t → ∃ i z, P.info? e = some i ∧ i.size = T.size e ∧ i.bytes = T.bytes e ∧ 0 < T.bytes e ∧ 0 < T.size e ∧ i.zero = some z ∧ z.cells.size = T.size e ∧
    ∀ X, R T X false (T.enc t (T.dflt t)) z.cells.toList
  uPtr : ∀ u e, T.ty u = .ptr e → P.underlying u = some (.pointer e)
  uFn : ∀ u, T.ty u = .fn → ∃ a b c, P.underlying u = some (.func a b c)
  info : ∀ u d, fit T d (.inl u) = true → ∃ i, P.info? u = some i ∧ i.size = T.size u
  zero : ∀ u z, T.zero u = some z → ∃ i v, P.info? u = some i ∧ i.zero = some v ∧ z.refs = [] ∧ ∀ X, R T X false z v.cells.toList
  eqb : ∀ t a b r, T.eqb t a b = some r → eqS (T.enc t a) (T.enc t b) = some r
  order : P.follows .mixedOrders = true

variable {P : Program} {T : Tab C} (K : PLaws P T)

section inversions
variable {X : Cx} {v : Value}
theorem RV.int {k : IntKind} {n : Int} (h : RV T X (.int k n) v) : v = .int k n ∧ k.min ≤ n ∧ n ≤ k.max := by
  rcases h with ⟨h, _⟩ | ⟨_, h⟩
  · simp [D.isRow] at h
  · cases h with | int h => exact ⟨rfl, h⟩
theorem RV.bool {b : Bool} (h : RV T X (.bool b) v) : v = .bool b := by
  rcases h with ⟨h, _⟩ | ⟨_, h⟩
  · simp [D.isRow] at h
  · cases h; rfl
theorem RV.str {s : List UInt8} (h : RV T X (.str s) v) : v = .string ⟨⟨s⟩⟩ := by
  rcases h with ⟨h, _⟩ | ⟨_, h⟩
  · simp [D.isRow] at h
  · cases h; rfl
theorem RV.nils (h : RV T X .nils v) : v = .slice none 0 0 := by
  rcases h with ⟨h, _⟩ | ⟨_, h⟩
  · simp [D.isRow] at h
  · cases h; rfl
theorem RV.one {d : D C} (hd : d.isRow = false) (h : RV T X d v) : R T X false d [v] := by
  rcases h with ⟨h, _⟩ | ⟨_, h⟩
  · simp [hd] at h
  · exact h
theorem RV.row {d : D C} (hd : d.isRow = true) (h : RV T X d v) : ∃ cs, R T X false d cs ∧ v = .agg ⟨cs⟩ := by
  rcases h with ⟨_, h⟩ | ⟨h, _⟩
  · exact h
  · simp [hd] at h
theorem RV.mk {d : D C} (hd : d.isRow = false) (h : R T X false d [v]) : RV T X d v := .inr ⟨hd, h⟩
end inversions

theorem RO.mk {X : Cx} {nx : Nat} {lim : Lim} {d : D C} {v : Value} (h : RV T X d v) (hr : d.refs = []) : RO T X nx lim d v := ⟨h, by simp [hr]⟩

/-- cells are no rows -/
theorem R.ones {X : Cx} (L : Laws T) {m : Bool} {d : D C} {cs : List Value} (h : R T X m d cs) : m = false → ((∃ u, fit T d u = true) ∨ ∃ t n l, d = .arr t n l) → ∀ v ∈ cs, v.oneCell' = true := by
  induction h with
  | @acons d ds c1 c2 _ _ i1 i2 =>
    rintro hm (⟨u, hf⟩ | ⟨t, n, l, hd⟩)
    · have : (∃ u, fit T d u = true) ∧ (∃ u, fit T ds u = true) := by
        cases u with
        | inl t =>
          cases ht : T.ty t <;> simp only [fit, ht, Bool.false_eq_true] at hf
          rename_i fs
          cases fs with
          | nil => simp at hf
          | cons f fs => simp only [Bool.and_eq_true] at hf; exact ⟨⟨_, hf.1⟩, ⟨_, hf.2⟩⟩
        | inr fs =>
          cases fs with
          | nil => simp [fit] at hf
          | cons f fs => simp only [fit, Bool.and_eq_true] at hf; exact ⟨⟨_, hf.1⟩, ⟨_, hf.2⟩⟩
      intro v hv
      rcases List.mem_append.1 hv with hv | hv
      · exact i1 hm (.inl this.1) v hv
      · exact i2 hm (.inl this.2) v hv
    · simp at hd
  | arrS _ _ i1 i2 =>
    intro hm _ v hv
    rcases List.mem_append.1 hv with hv | hv
    · exact i1 hm (.inl ⟨_, L.encFit _ _⟩) v hv
    · exact i2 hm (.inr ⟨_, _, _, rfl⟩) v hv
  | tup | top =>
    rintro _ (⟨u, hf⟩ | ⟨t, n, l, hd⟩)
    · cases u <;> simp [fit] at hf
    · simp at hd
  | vnil | vrow | vone => intro hm; simp at hm
  | _ => intro _ _ v hv; first | (simp at hv; done) | (simp only [List.mem_singleton] at hv; subst hv; rfl)

include K in
theorem RV.cells {X : Cx} {d : D C} {v : Value} (h : RV T X d v) {t : TypeId} (hf : fit T d (.inl t) = true) : R T X false d v.cells.toList := by
  rcases h with ⟨_, cs, h, rfl⟩ | ⟨_, h⟩
  · exact h
  · have := h.ones K.base rfl (.inl ⟨_, hf⟩) v (by simp)
    cases v <;> simp [Value.oneCell'] at this <;> exact h

theorem fit_agg {d : D C} {t : TypeId} (hf : fit T d (.inl t) = true) : d.isRow = true ↔ ((∃ fs, T.ty t = .struct fs) ∨ ∃ n e ty, T.ty t = .arr n e ty) := by
  cases d <;> cases ht : T.ty t <;> simp [fit, ht, D.isRow] at hf ⊢

include K in
theorem run_isAgg {d : D C} {t : TypeId} (hf : fit T d (.inl t) = true) (w : World) : (isAgg t).run P w = .ok d.isRow w := by
  have hr := fit_agg hf
  cases hb : d.isRow with
  | true =>
    rcases hr.1 hb with ⟨fs, ht⟩ | ⟨n, e, ty, ht⟩
    · obtain ⟨fields, hu, _⟩ := K.uStruct _ _ ht
      simp [isAgg, run_underlying hu]
    · simp [isAgg, run_underlying (K.uArr _ _ _ _ ht).1]
  | false =>
    cases ht : T.ty t with
    | struct fs => have := hr.2 (.inl ⟨fs, ht⟩); simp [hb] at this
    | arr n e ty => have := hr.2 (.inr ⟨n, e, ty, ht⟩); simp [hb] at this
    | bool => simp [isAgg, run_underlying (K.uBool _ ht)]
    | int k => simp [isAgg, run_underlying (K.uInt _ _ ht)]
    | str => simp [isAgg, run_underlying (K.uStr _ ht)]
    | sl e ty => simp [isAgg, run_underlying (K.uSl _ _ _ ht)]
    | ptr e => simp [isAgg, run_underlying (K.uPtr _ _ ht)]
    | fn => obtain ⟨a, b, c, hu⟩ := K.uFn _ ht; simp [isAgg, run_underlying hu]
    | none => cases d <;> simp [fit, ht] at hf

include K in
theorem run_sizeOf {d : D C} {t : TypeId} (hf : fit T d (.inl t) = true) (w : World) : (sizeOf t).run P w = .ok (T.size t) w := by
  obtain ⟨i, hi, hs⟩ := K.info _ _ hf
  simp [sizeOf, typeInfo, hi, hs]

include K in
/-- a value is loaded -/
theorem run_loadVar {X : Cx} {x : D C} {t : TypeId} {b off : Nat} {cs : List Value} {w : World} (hf : fit T x (.inl t) = true) (h : R T X false x cs) (hc : ∀ j v, cs[j]? = some v → w.cell? ⟨b, off + j, none⟩ = some v) :
    ∃ v, (loadVar t ⟨b, off, none⟩).run P w = .ok v w ∧ RV T X x v := by
  have hl := h.len K.base hf
  cases hb : x.isRow with
  | true =>
    refine ⟨.agg ⟨cs⟩, ?_, .inl ⟨hb, cs, h, rfl⟩⟩
    have := run_loadCells_list (P := P) w ⟨b, off, none⟩ cs (fun j v hj => by rw [Addr.add_lit]; exact hc j v hj)
    rw [hl] at this
    simp [loadVar, run_isAgg K hf, hb, run_sizeOf K hf, this]
  | false =>
    have h1 : ∃ v, cs = [v] := by
      cases h <;> simp [D.isRow] at hb <;> exact ⟨_, rfl⟩
    obtain ⟨v, rfl⟩ := h1
    have h0 := hc 0 v rfl
    exact ⟨v, by simp [loadVar, run_isAgg K hf, hb]; simp at h0; rw [h0], .inr ⟨hb, h⟩⟩

/-- what an operation comes to -/
def Post (P : Program) (T : Tab C) (X : Cx) (nx : Nat) (lim : Lim) (h' : Heap C) (nx' : Nat) (d : D C) (s : Sem Value) : Prop :=
  ∃ v X', s.run P X.w = .ok v X'.w ∧ G T X' h' nx' lim ∧ Step X nx lim X' ∧ RO T X' nx' lim d v

theorem Post.same {X : Cx} {nx : Nat} {lim : Lim} {h : Heap C} {d : D C} {s : Sem Value} (g : G T X h nx lim) (v : Value) (hs : s.run P X.w = .ok v X.w) (hv : RO T X nx lim d v) : Post P T X nx lim h nx d s :=
  ⟨v, X, hs, g, .refl _ _ _, hv⟩

/-- nothing is changed -/
def PostS (P : Program) (T : Tab C) (X : Cx) (nx : Nat) (lim : Lim) (h h' : Heap C) (n n' : Nat) (d : D C) (s : Sem Value) : Prop :=
  ∃ v, s.run P X.w = .ok v X.w ∧ h' = h ∧ n' = n ∧ RO T X nx lim d v
theorem PostS.same {X : Cx} {nx n : Nat} {lim : Lim} {h : Heap C} {d : D C} {s : Sem Value} (v : Value) (hs : s.run P X.w = .ok v X.w) (hv : RO T X nx lim d v) : PostS P T X nx lim h h n n d s := ⟨v, hs, rfl, rfl, hv⟩

theorem refs_nth : ∀ (q : D C) (i : Nat) (y : D C), q.nth i = some y → ∀ r ∈ y.refs, r ∈ q.refs := by
  intro q
  induction q with
  | acons a b _ ih =>
    intro i y hy r hr
    cases i with
    | zero => simp [D.nth] at hy; subst hy; simp [D.refs, hr]
    | succ i => simp [D.refs]; exact .inr (ih i y (by simpa [D.nth] using hy) r hr)
  | _ => intro i y hy; simp [D.nth] at hy

theorem refs_setNth : ∀ (q : D C) (i : Nat) (y q' : D C), q.setNth i y = some q' → ∀ r ∈ q'.refs, r ∈ q.refs ∨ r ∈ y.refs := by
  intro q
  induction q with
  | acons a b _ ih =>
    intro i y q' hy r hr
    cases i with
    | zero => simp [D.setNth] at hy; subst hy; simp [D.refs] at hr ⊢; rcases hr with hr | hr <;> simp [hr]
    | succ i =>
      simp [D.setNth] at hy
      obtain ⟨z, hz, rfl⟩ := hy
      simp [D.refs] at hr ⊢
      rcases hr with hr | hr
      · simp [hr]
      · rcases ih i y z hz r hr with h | h <;> simp [h]
  | _ => intro i y q' hy; simp [D.setNth] at hy

theorem refs_path (L : Laws T) : ∀ (p : List Nat) {d x : D C}, getPath T d p = some x → ∀ r ∈ x.refs, r ∈ d.refs := by
  intro p
  induction p with
  | nil => intro d x hx; simp [getPath] at hx; subst hx; exact fun _ h => h
  | cons i p ih =>
    intro d x hx r hr
    cases d with
    | acons a b =>
      simp only [getPath] at hx
      cases hn : (D.acons a b).nth i with
      | none => simp [hn] at hx
      | some y =>
        simp only [hn] at hx
        exact refs_nth _ i y hn r (ih hx r hr)
    | arr t n l =>
      simp only [getPath] at hx
      have := ih hx r hr
      rw [L.encRefs] at this
      simp at this
    | _ => simp [getPath] at hx

theorem refs_setPath (L : Laws T) : ∀ (p : List Nat) {d v d' : D C}, setPath T d p v = some d' → ∀ r ∈ d'.refs, r ∈ d.refs ∨ r ∈ v.refs := by
  intro p
  induction p with
  | nil => intro d v d' hx; simp [Ev.setPath] at hx; subst hx; exact fun _ h => .inr h
  | cons i p ih =>
    intro d v d' hx r hr
    cases d with
    | acons a b =>
      simp only [Ev.setPath] at hx
      cases hn : (D.acons a b).nth i with
      | none => simp [hn] at hx
      | some y =>
        simp only [hn] at hx
        cases hs : Ev.setPath T y p v with
        | none => simp [hs] at hx
        | some y' =>
          simp only [hs] at hx
          rcases refs_setNth _ i y' d' hx r hr with h | h
          · exact .inl h
          · rcases ih hs r h with h | h
            · exact .inl (refs_nth _ i y hn r h)
            · exact .inr h
    | arr t n l =>
      simp only [Ev.setPath] at hx
      cases hs : Ev.setPath T (T.enc t (l.getD i (T.dflt t))) p v with
      | none => rw [hs] at hx; simp at hx
      | some y' =>
        simp only [hs] at hx
        cases hd : T.dec t y' with
        | none => simp [hd] at hx
        | some z => simp [hd] at hx; subst hx; simp [D.refs] at hr
    | _ => simp [Ev.setPath] at hx

/-- where a slice's elements lie -/
theorem VecOK.cells {X : Cx} {ty : C.Ty} {own : Bool} {l : List (C.A ty)} {v : Value} {b lo hi : Nat} (hv : VecOK T X ty own l v b lo hi) {b' off n cp : Nat} (he : v = .slice (some ⟨b', off, none⟩) n cp) :
    b' = b ∧ n = l.length ∧ l.length ≤ cp ∧ ∃ cs, R T X false (.arr ty l.length l) cs ∧ ∀ j u, cs[j]? = some u → X.w.cell? ⟨b, off + j, none⟩ = some u := by
  rcases hv with ⟨⟨a, h1, ha⟩, _⟩ | ⟨off', cp', h1, h2, h3, h4⟩
  · rw [h1] at he; simp only [Value.slice.injEq] at he; exact (ha _ _ he.1).elim
  · rw [h1] at he; simp at he
    obtain ⟨⟨rfl, rfl⟩, rfl, rfl⟩ := he
    refine ⟨rfl, rfl, h2, ?_⟩
    rcases h4 with ⟨_, _, h4 | ⟨c, e, h4, h5, h6⟩⟩ | ⟨_, _, ⟨cs, h4, h5⟩, _⟩
    · have : l = [] := List.length_eq_zero_iff.1 (by omega)
      subst this
      exact ⟨[], .arr0 _, by simp⟩
    · refine ⟨_, h6, fun j u hj => ?_⟩
      rw [List.getElem?_take] at hj
      split at hj
      · rw [List.getElem?_drop] at hj
        simp only [World.cell?, h4]
        simpa using hj
      · simp at hj
    · exact ⟨cs, h5, fun j u hj => (h4 j u hj).1⟩

theorem VecOK.len {X : Cx} {ty : C.Ty} {own : Bool} {l : List (C.A ty)} {v : Value} {b lo hi : Nat} (hv : VecOK T X ty own l v b lo hi) : lenV v = l.length := by
  rcases hv with ⟨⟨a, h1, _⟩, h2, _⟩ | ⟨off', cp', h1, _⟩
  · rw [h1, h2]; rfl
  · rw [h1]; rfl

section ops
open Pg (Ex)
variable {X : Cx} {h h' : Heap C} {nx nx' : Nat} {e : Pg.Lv} {lim : Lim} {tr : Tr} (g : G T X h nx lim)

include K g in
theorem load_same {t : TypeId} {a d : D C} {va : Value} (ha : RO T X nx lim a va) (hx : Ex e (evLoad T t a) h nx d h' nx' tr) : PostS P T X nx lim h h' nx nx' d (Instr.loadAt t va) := by
  unfold evLoad at hx
  cases a with
  | ptr id p =>
    simp only at hx
    obtain ⟨o, tr', ho, hx, _⟩ := Ex.rd hx
    cases o with
    | vec ty own l => exact (Ex.fail hx).elim
    | var u d0 =>
      simp only [ldVar] at hx
      cases hp : getPath T d0 p with
      | none => rw [hp] at hx; exact (Ex.fail hx).elim
      | some x =>
        simp only [hp] at hx
        cases hf : fit T x (.inl t) with
        | false => rw [hf] at hx; exact (Ex.fail hx).elim
        | true =>
          rw [hf] at hx
          obtain ⟨rfl, rfl, rfl, rfl⟩ := Ex.ret hx
          obtain ⟨b, c, h1, h2, h3, h4⟩ := g.var id u d0 ho
          have hR := ha.1.one rfl
          cases hR with
          | @ptr _ _ a' hq =>
            obtain ⟨hok, rfl⟩ := hq b u h1
            obtain ⟨c1, c2, c3, hc, hl, hr, _⟩ := h3.path K.base p hok h4 hp
            obtain ⟨v, hv, hrv⟩ := run_loadVar K (w := X.w) (b := b) (off := offAt T u p) hf hr (by
              intro j w hj
              simp only [World.cell?, h2]
              have : c.toList[offAt T u p + j]? = some w := by
                rw [hc, ← hl, List.append_assoc, List.getElem?_append_right (by omega)]
                simp
                rw [List.getElem?_append_left (List.getElem?_eq_some_iff.1 hj).1]; exact hj
              simpa using this)
            refine PostS.same v (by simp [Instr.loadAt, Instr.sureAddr, hv]) ⟨hrv, fun r hr' => (g.nums id _ ho).2 r (refs_path K.base p hp r hr')⟩
  | vptr id n p =>
    simp only at hx
    obtain ⟨o, tr', ho, hx, _⟩ := Ex.rd hx
    cases o with
    | var u d0 => exact (Ex.fail hx).elim
    | vec ty own l =>
      obtain ⟨v0, b, lo, hi, h1, h2⟩ := g.vec id ty own l ho
      have key : ∀ i q x, p = i :: q → Nat.beq n l.length = true → fit T x (.inl t) = true → (∀ c2, R T X false (T.enc ty (l.getD i (T.dflt ty))) c2 → okPath T (T.ety ty) q → ∃ a1 a2 a3, c2 = a1 ++ a2 ++ a3 ∧ a1.length = offAt T (T.ety ty) q ∧ R T X false x a2) →
          ∃ v, (Instr.loadAt t va).run P X.w = .ok v X.w ∧ RV T X x v := by
        rintro i q x rfl hn hf hq
        have hn : n = l.length := Nat.eq_of_beq_eq_true hn
        have hR := ha.1.one rfl
        cases hR with
        | vptr hh =>
          obtain ⟨b', off, cp, hv0, hi', hok, rfl⟩ := (hh _ _ _ _ _ h1).2 (by rw [h2.len, hn])
          obtain ⟨rfl, _, _, cs, hcs, hcell⟩ := h2.cells hv0
          obtain ⟨c1, c2, c3, hc, hl, hr⟩ := hcs.elem K.base i (by omega)
          obtain ⟨a1, a2, a3, ha', hl', hr'⟩ := hq c2 hr hok
          obtain ⟨v, hv, hrv⟩ := run_loadVar K (w := X.w) (b := b') (off := off + i * T.size (T.ety ty) + offAt T (T.ety ty) q) hf hr' (by
            intro j w hj
            rw [Nat.add_assoc, Nat.add_assoc]
            refine hcell _ w ?_
            rw [hc, ha', ← hl, ← hl']
            simp only [List.append_assoc]
            rw [List.getElem?_append_right (by omega)]
            rw [show c1.length + (a1.length + j) - c1.length = a1.length + j by omega]
            rw [List.getElem?_append_right (by omega)]
            rw [show a1.length + j - a1.length = j by omega]
            rw [List.getElem?_append_left (List.getElem?_eq_some_iff.1 hj).1]; exact hj)
          exact ⟨v, by simp [Instr.loadAt, Instr.sureAddr, hv], hrv⟩
      simp only [ldVec] at hx
      match p, hx with
      | [], hx => exact (Ex.fail hx).elim
      | [i], hx =>
        simp only at hx
        cases hb : (Nat.beq n l.length && fit T (T.enc ty (l.getD i (T.dflt ty))) (.inl t)) with
        | false => rw [hb] at hx; exact (Ex.fail hx).elim
        | true =>
          rw [hb] at hx
          obtain ⟨rfl, rfl, rfl, rfl⟩ := Ex.ret hx
          simp only [Bool.and_eq_true] at hb
          obtain ⟨v, hv, hrv⟩ := key i [] _ rfl hb.1 hb.2 (fun c2 hc2 _ => ⟨[], c2, [], by simp, by simp [offAt], hc2⟩)
          exact PostS.same v hv (RO.mk hrv (K.base.encRefs _ _))
      | [i, j], hx =>
        simp only at hx
        cases hn : (T.enc ty (l.getD i (T.dflt ty))).nth j with
        | none => rw [hn] at hx; exact (Ex.fail hx).elim
        | some x =>
          simp only [hn] at hx
          cases hb : (Nat.beq n l.length && fit T x (.inl t)) with
          | false => rw [hb] at hx; exact (Ex.fail hx).elim
          | true =>
            rw [hb] at hx
            obtain ⟨rfl, rfl, rfl, rfl⟩ := Ex.ret hx
            simp only [Bool.and_eq_true] at hb
            obtain ⟨v, hv, hrv⟩ := key i [j] _ rfl hb.1 hb.2 (fun c2 hc2 hok => by
              have hp : getPath T (T.enc ty (l.getD i (T.dflt ty))) [j] = some d := by
                have he : ∃ a b, T.enc ty (l.getD i (T.dflt ty)) = .acons a b := by
                  generalize T.enc ty (l.getD i (T.dflt ty)) = q at hn
                  cases q with
                  | acons a b => exact ⟨_, _, rfl⟩
                  | _ => simp [D.nth] at hn
                obtain ⟨a, b, he⟩ := he
                rw [he] at hn ⊢
                simp [getPath, hn]
              obtain ⟨a1, a2, a3, h1, h2, h3, _⟩ := hc2.path K.base [j] hok (K.base.encFit _ _) hp
              exact ⟨a1, a2, a3, h1, h2, h3⟩)
            refine PostS.same v hv ⟨hrv, fun r hr => ?_⟩
            have := refs_nth _ _ _ hn r hr
            rw [K.base.encRefs] at this
            simp at this
      | i :: j :: k :: q, hx => exact (Ex.fail hx).elim
  | cptr x =>
    simp only at hx
    cases hf : fit T x (.inl t) with
    | false => rw [hf] at hx; exact (Ex.fail hx).elim
    | true =>
      rw [hf] at hx
      obtain ⟨rfl, rfl, rfl, rfl⟩ := Ex.ret hx
      have hR := ha.1.one rfl
      cases hR with
      | @cptr _ b off cs hat hr =>
        obtain ⟨v, hv, hrv⟩ := run_loadVar K (w := X.w) (b := b) (off := off) hf hr (fun j w hj => (hat j w hj).1)
        exact PostS.same v (by simp [Instr.loadAt, Instr.sureAddr, hv]) ⟨hrv, by simpa [D.refs] using ha.2⟩
  | _ => exact (Ex.fail hx).elim

include K g in
theorem load_ok {t : TypeId} {a d : D C} {va : Value} (ha : RO T X nx lim a va) (hx : Ex e (evLoad T t a) h nx d h' nx' tr) : Post P T X nx lim h' nx' d (Instr.loadAt t va) := by
  obtain ⟨v, h1, rfl, rfl, h2⟩ := load_same K g ha hx
  exact Post.same g v h1 h2

end ops
end
end Go.Ev
