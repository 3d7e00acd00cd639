/-
  Objects by other numbers: values renamed; a part of the objects taken by itself, and put back.
-/
import Derived.Test.YtnphmfcnnpoinaaEvY
namespace Go.Ev
set_option linter.unusedVariables false
set_option linter.unusedSimpArgs false

section
variable {C : Cdc}

/-- a value, its objects by other numbers -/
def D.ren (f : Nat → Nat) : D C → D C
  | .acons d ds => .acons (d.ren f) (ds.ren f)
  | .tup d => .tup (d.ren f)
  | .fn g d => .fn g (d.ren f)
  | .cptr d => .cptr (d.ren f)
  | .vs id n => .vs (f id) n
  | .ptr id p => .ptr (f id) p
  | .vptr id n p => .vptr (f id) n p
  | d => d
def Obj.ren (f : Nat → Nat) : Obj C → Obj C
  | .var t d => .var t (d.ren f)
  | o => o

theorem D.ren_refs (f : Nat → Nat) : ∀ d : D C, (d.ren f).refs = d.refs.map f
  | .acons d ds => by simp [D.ren, D.refs, D.ren_refs f d, D.ren_refs f ds]
  | .tup d => by simp [D.ren, D.refs, D.ren_refs f d]
  | .fn g d => by simp [D.ren, D.refs, D.ren_refs f d]
  | .cptr d => by simp [D.ren, D.refs, D.ren_refs f d]
  | .vs id n => rfl
  | .ptr id p => rfl
  | .vptr id n p => rfl
  | .bool _ => rfl
  | .int _ _ => rfl
  | .str _ => rfl
  | .anil => rfl
  | .arr _ _ _ => rfl
  | .nils => rfl
  | .sl _ _ _ => rfl
  | .nilp => rfl
  | .nilfn => rfl
  | .top => rfl
theorem Obj.ren_refs (f : Nat → Nat) (o : Obj C) : (o.ren f).refs = o.refs.map f := by
  cases o with
  | var t d => exact D.ren_refs f d
  | vec t own l => rfl
theorem D.ren_ren (f g : Nat → Nat) : ∀ d : D C, (∀ id ∈ d.refs, g (f id) = id) → (d.ren f).ren g = d
  | .acons d ds, h => by
    simp only [D.refs, List.mem_append] at h
    simp [D.ren, D.ren_ren f g d (fun id hi => h id (.inl hi)), D.ren_ren f g ds (fun id hi => h id (.inr hi))]
  | .tup d, h => by simp [D.ren, D.ren_ren f g d (by simpa [D.refs] using h)]
  | .fn _ d, h => by simp [D.ren, D.ren_ren f g d (by simpa [D.refs] using h)]
  | .cptr d, h => by simp [D.ren, D.ren_ren f g d (by simpa [D.refs] using h)]
  | .vs id n, h => by simp [D.ren, h id (by simp [D.refs])]
  | .ptr id p, h => by simp [D.ren, h id (by simp [D.refs])]
  | .vptr id n p, h => by simp [D.ren, h id (by simp [D.refs])]
  | .bool _, _ => rfl
  | .int _ _, _ => rfl
  | .str _, _ => rfl
  | .anil, _ => rfl
  | .arr _ _ _, _ => rfl
  | .nils, _ => rfl
  | .sl _ _ _, _ => rfl
  | .nilp, _ => rfl
  | .nilfn, _ => rfl
  | .top, _ => rfl
theorem D.ren_same (f : Nat → Nat) : ∀ d : D C, d.refs = [] → d.ren f = d
  | .acons d ds, h => by
    simp only [D.refs, List.append_eq_nil_iff] at h
    simp [D.ren, D.ren_same f d h.1, D.ren_same f ds h.2]
  | .tup d, h => by simp [D.ren, D.ren_same f d (by simpa [D.refs] using h)]
  | .fn _ d, h => by simp [D.ren, D.ren_same f d (by simpa [D.refs] using h)]
  | .cptr d, h => by simp [D.ren, D.ren_same f d (by simpa [D.refs] using h)]
  | .vs id n, h => by simp [D.refs] at h
  | .ptr id p, h => by simp [D.refs] at h
  | .vptr id n p, h => by simp [D.refs] at h
  | .bool _, _ => rfl
  | .int _ _, _ => rfl
  | .str _, _ => rfl
  | .anil, _ => rfl
  | .arr _ _ _, _ => rfl
  | .nils, _ => rfl
  | .sl _ _ _, _ => rfl
  | .nilp, _ => rfl
  | .nilfn, _ => rfl
  | .top, _ => rfl
theorem D.ren_row (f : Nat → Nat) (d : D C) : (d.ren f).isRow = d.isRow := by cases d <;> rfl

variable {T : Tab C}
theorem fit_ren (f : Nat → Nat) : ∀ (d : D C) (u : TypeId ⊕ List TypeId), fit T (d.ren f) u = fit T d u
  | .acons d ds, .inl t => by
    simp only [D.ren, fit]
    split <;> simp [fit_ren f d, fit_ren f ds]
  | .acons d ds, .inr [] => by simp [D.ren, fit]
  | .acons d ds, .inr (a :: fs) => by simp [D.ren, fit, fit_ren f d, fit_ren f ds]
  | .tup _, .inl _ => rfl
  | .tup _, .inr _ => rfl
  | .fn _ _, .inl _ => rfl
  | .fn _ _, .inr _ => rfl
  | .cptr _, .inl _ => rfl
  | .cptr _, .inr _ => rfl
  | .vs _ _, .inl _ => rfl
  | .vs _ _, .inr _ => rfl
  | .ptr _ _, .inl _ => rfl
  | .ptr _ _, .inr _ => rfl
  | .vptr _ _ _, .inl _ => rfl
  | .vptr _ _ _, .inr _ => rfl
  | .bool _, _ => rfl
  | .int _ _, _ => rfl
  | .str _, _ => rfl
  | .anil, _ => rfl
  | .arr _ _ _, _ => rfl
  | .nils, _ => rfl
  | .sl _ _ _, _ => rfl
  | .nilp, _ => rfl
  | .nilfn, _ => rfl
  | .top, _ => rfl

/-- as 'mono', the objects by other numbers -/
theorem R.ren {X X' : Cx} (f : Nat → Nat) (he : ∀ t x, (T.enc t x).refs = []) (hX : ∀ b o v, X.w.cell? ⟨b, o, none⟩ = some v → X.free b o → X'.w.cell? ⟨b, o, none⟩ = some v ∧ X'.free b o)
    {m : Bool} {d : D C} {vs : List Value} (h : R T X m d vs) : (∀ id ∈ d.refs, Compat (X.ρ id) (X'.ρ (f id))) → R T X' m (d.ren f) vs := by
  induction h with
  | bool b => exact fun _ => .bool b
  | int h => exact fun _ => .int h
  | str s => exact fun _ => .str s
  | anil => exact fun _ => .anil
  | acons _ _ i1 i2 =>
    intro hr
    simp only [D.refs, List.mem_append] at hr
    exact .acons (i1 fun id h => hr id (.inl h)) (i2 fun id h => hr id (.inr h))
  | arr0 t => exact fun _ => .arr0 t
  | @arrS t n x l c1 c2 _ _ i1 i2 =>
    intro _
    have h1 := i1 (by simp [he])
    rw [D.ren_same f _ (he t x)] at h1
    exact .arrS h1 (i2 (by simp [D.refs]))
  | nils => exact fun _ => .nils
  | sl0 t c a => exact fun _ => .sl0 t c a
  | sl ha _ hc hcap ih => exact fun _ => .sl (fun j v hj => hX _ _ _ (ha j v hj).1 (ha j v hj).2) (ih (by simp [D.refs])) hc hcap
  | @vs id n cp a h =>
    intro hr
    refine .vs fun v e b lo hi hv => ?_
    have hc := hr id (by simp [D.refs])
    rw [hv] at hc
    cases ho : X.ρ id with
    | none => rw [ho] at hc; simp [Compat] at hc
    | some l =>
      rw [ho] at hc
      cases l with
      | var b t => simp [Compat] at hc
      | vec v0 e0 b0 lo0 hi0 =>
        simp only [Compat] at hc
        have := h _ _ _ _ _ ho
        refine ⟨by omega, fun hl => ?_⟩
        have e1 := hc.2.2 (by omega)
        rw [e1]
        exact this.2 (by omega)
  | @ptr id p a h =>
    intro hr
    refine .ptr fun b t hv => ?_
    have hc := hr id (by simp [D.refs])
    rw [hv] at hc
    cases ho : X.ρ id with
    | none => rw [ho] at hc; simp [Compat] at hc
    | some l =>
      rw [ho] at hc
      cases l with
      | var b0 t0 =>
        simp only [Compat, Loc.var.injEq] at hc
        obtain ⟨rfl, rfl⟩ := hc
        exact h _ _ ho
      | vec v0 e0 b0 lo0 hi0 => simp [Compat] at hc
  | @vptr id n i p a h =>
    intro hr
    refine .vptr fun v e b lo hi hv => ?_
    have hc := hr id (by simp [D.refs])
    rw [hv] at hc
    cases ho : X.ρ id with
    | none => rw [ho] at hc; simp [Compat] at hc
    | some l =>
      rw [ho] at hc
      cases l with
      | var b t => simp [Compat] at hc
      | vec v0 e0 b0 lo0 hi0 =>
        simp only [Compat] at hc
        have := h _ _ _ _ _ ho
        refine ⟨by omega, fun hl => ?_⟩
        have e1 := hc.2.2 (by omega)
        rw [e1, hc.1]
        exact this.2 (by omega)
  | cptr ha _ ih =>
    intro hr
    exact .cptr (fun j v hj => hX _ _ _ (ha j v hj).1 (ha j v hj).2) (ih (by simpa [D.refs] using hr))
  | nilp => exact fun _ => .nilp
  | fn _ ih => exact fun hr => .fn (ih (by simpa [D.refs] using hr))
  | nilfn => exact fun _ => .nilfn
  | tup _ ih => exact fun hr => .tup (ih (by simpa [D.refs] using hr))
  | top v => exact fun _ => .top v
  | vnil => exact fun _ => .vnil
  | vrow _ hr' _ i1 i2 =>
    intro hr
    simp only [D.refs, List.mem_append] at hr
    exact .vrow (i1 fun id h => hr id (.inl h)) (by rw [D.ren_row]; exact hr') (i2 fun id h => hr id (.inr h))
  | vone _ hr' _ i1 i2 =>
    intro hr
    simp only [D.refs, List.mem_append] at hr
    exact .vone (i1 fun id h => hr id (.inl h)) (by rw [D.ren_row]; exact hr') (i2 fun id h => hr id (.inr h))

theorem RV.ren {X X' : Cx} (f : Nat → Nat) (he : ∀ t x, (T.enc t x).refs = []) (hX : ∀ b o v, X.w.cell? ⟨b, o, none⟩ = some v → X.free b o → X'.w.cell? ⟨b, o, none⟩ = some v ∧ X'.free b o)
    {d : D C} {v : Value} (h : RV T X d v) (hr : ∀ id ∈ d.refs, Compat (X.ρ id) (X'.ρ (f id))) : RV T X' (d.ren f) v := by
  rcases h with ⟨h1, cs, h2, h3⟩ | ⟨h1, h2⟩
  · exact .inl ⟨by rw [D.ren_row]; exact h1, cs, h2.ren f he hX hr, h3⟩
  · exact .inr ⟨by rw [D.ren_row]; exact h1, h2.ren f he hX hr⟩

/-- a slice that is an object, seen from elsewhere: the blocks that it owns a cell of are as they were -/
theorem VecOK.move (L : Laws T) {X X' : Cx} {t : C.Ty} {own : Bool} {l : List (C.A t)} {v : Value} {b lo hi : Nat} (h : VecOK T X t own l v b lo hi)
    (hX : ∀ b o v, X.w.cell? ⟨b, o, none⟩ = some v → X.free b o → X'.w.cell? ⟨b, o, none⟩ = some v ∧ X'.free b o)
    (hb : (∃ o, (Loc.vec v (T.ety t) b lo hi).owns b o) → X'.w.heap[b]? = X.w.heap[b]?) (hpos : 0 < T.size (T.ety t)) : VecOK T X' t own l v b lo hi := by
  have hR : ∀ cs, R T X false (.arr t l.length l) cs → R T X' false (.arr t l.length l) cs := fun cs hr => hr.mono T L.encRefs hX (by simp [D.refs])
  rcases h with h2 | ⟨off, cp, h2, h3, h4, h5⟩
  · exact .inl h2
  · refine .inr ⟨off, cp, h2, h3, h4, ?_⟩
    rcases h5 with ⟨ht, hlo, h5 | ⟨cs, e, h5, h6, h7⟩⟩ | ⟨ht, hlo, ⟨cs, h5, h6⟩, h7⟩
    · exact .inl ⟨ht, hlo, .inl h5⟩
    · by_cases hc : cp = 0
      · exact .inl ⟨ht, hlo, .inl hc⟩
      · have hm : T.size (T.ety t) ≤ cp * T.size (T.ety t) := Nat.le_mul_of_pos_left _ (by omega)
        have e1 := hb ⟨off, rfl, by omega, by omega⟩
        exact .inl ⟨ht, hlo, .inr ⟨cs, e, by rw [e1]; exact h5, h6, hR _ h7⟩⟩
    · refine .inr ⟨ht, hlo, ⟨cs, fun j u hj => hX _ _ _ (h5 j u hj).1 (h5 j u hj).2, hR _ h6⟩, ?_⟩
      rcases h7 with h7 | ⟨c0, e, h7, h8⟩
      · exact .inl h7
      · by_cases hc : cp = l.length
        · exact .inl hc
        · have hm : (l.length + 1) * T.size (T.ety t) ≤ cp * T.size (T.ety t) := Nat.mul_le_mul_right _ (by omega)
          have e1 := hb ⟨lo, rfl, by omega, by rw [Nat.succ_mul] at hm; omega⟩
          exact .inr ⟨c0, e, by rw [e1]; exact h7, h8⟩

theorem Laws.posE (L : Laws T) (t : C.Ty) : 0 < T.size (T.ety t) := by
  refine L.pos _ fun hn => ?_
  have := L.encFit t (T.dflt t)
  revert this
  cases T.enc t (T.dflt t) <;> simp [fit, hn]

/-- the part of a context: objects by the numbers 0 .. k-1; all others are nobody's -/
def Cx.part (X : Cx) (k : Nat) (f : Nat → Nat) : Cx :=
  ⟨X.w, fun j => if j < k then X.ρ (f j) else none, fun b o => X.O b o ∨ (X.mine b o ∧ ∀ j, j < k → ∀ l, X.ρ (f j) = some l → ¬ l.owns b o)⟩

theorem Cx.part_mine {X : Cx} {k : Nat} {f : Nat → Nat} {b o : Nat} : (X.part k f).mine b o ↔ ∃ j l, j < k ∧ X.ρ (f j) = some l ∧ l.owns b o := by
  constructor
  · rintro ⟨j, l, h1, h2⟩
    simp only [Cx.part] at h1
    split at h1
    · exact ⟨j, l, by assumption, h1, h2⟩
    · cases h1
  · rintro ⟨j, l, h0, h1, h2⟩
    exact ⟨j, l, by simp [Cx.part, h0, h1], h2⟩

theorem Cx.part_free {X : Cx} {k : Nat} {f : Nat → Nat} {b o : Nat} : (X.part k f).free b o ↔ X.free b o := by
  constructor
  · rintro ⟨h1, h2⟩
    refine ⟨fun h => h1 (.inl h), fun hm => ?_⟩
    by_cases hq : ∃ j l, j < k ∧ X.ρ (f j) = some l ∧ l.owns b o
    · exact h2 (Cx.part_mine.2 hq)
    · exact h1 (.inr ⟨hm, fun j hj l hl ho => hq ⟨j, l, hj, hl, ho⟩⟩)
  · rintro ⟨h1, h2⟩
    refine ⟨fun h => h.elim h1 fun h => h2 h.1, fun hm => ?_⟩
    obtain ⟨j, l, _, hl, ho⟩ := Cx.part_mine.1 hm
    exact h2 ⟨f j, l, hl, ho⟩

/-- heaps of the objects 0 .. k-1 -/
def hpOf : Nat → List (Obj C) → Heap C
  | _, [] => []
  | n, o :: l => (n, o) :: hpOf (n + 1) l
theorem hpOf_get : ∀ (l : List (Obj C)) (n id : Nat), (hpOf n l).get id = if n ≤ id then l[id - n]? else none
  | [], n, id => by simp [hpOf, Heap.get]
  | o :: l, n, id => by
    rw [hpOf, get_cons, hpOf_get l (n + 1) id]
    by_cases h1 : id = n
    · subst h1; simp
    · by_cases h2 : n ≤ id
      · have h3 : n + 1 ≤ id := by omega
        have h4 : id - n = (id - (n + 1)) + 1 := by omega
        simp [h1, h2, h3, h4]
      · have h3 : ¬ n + 1 ≤ id := by omega
        simp [h1, h2, h3]
theorem hpOf_get0 (l : List (Obj C)) (id : Nat) : (hpOf 0 l).get id = l[id]? := by rw [hpOf_get]; simp

/-- the objects of a part: in the whole they stand at other numbers -/
structure Part (h : Heap C) (os : List (Obj C)) (f : Nat → Nat) : Prop where
  at' : ∀ j o, os[j]? = some o → h.get (f j) = some (o.ren f)
  inj : ∀ i j, i < os.length → j < os.length → f i = f j → i = j
  refs : ∀ o ∈ os, ∀ r ∈ Obj.refs o, r < os.length

theorem inv_of {f : Nat → Nat} {k : Nat} (hi : ∀ i j, i < k → j < k → f i = f j → i = j) : ∃ g : Nat → Nat, ∀ j, j < k → g (f j) = j := by
  classical
  refine ⟨fun n => if h : ∃ j, j < k ∧ f j = n then h.choose else 0, fun j hj => ?_⟩
  have hex : ∃ i, i < k ∧ f i = f j := ⟨j, hj, rfl⟩
  simp only [hex, dif_pos]
  have h1 := hex.choose_spec
  exact hi _ _ h1.1 hj h1.2

theorem Part.ctx (L : Laws T) {X : Cx} {h : Heap C} {nx : Nat} {lim : Lim} (g : G T X h nx lim) {os : List (Obj C)} {f : Nat → Nat} (p : Part h os f) (top : Nat) : G T (X.part os.length f) (hpOf 0 os) os.length (lim0 top) := by
  obtain ⟨fi, hfi⟩ := inv_of p.inj
  have hX : ∀ b o v, X.w.cell? ⟨b, o, none⟩ = some v → X.free b o → (X.part os.length f).w.cell? ⟨b, o, none⟩ = some v ∧ (X.part os.length f).free b o := fun b o v h1 h2 => ⟨h1, Cx.part_free.2 h2⟩
  refine ⟨?_, ?_, ?_, ?_, ?_, ?_, ?_, Nat.zero_le _⟩
  · intro id t d ho
    rw [hpOf_get0] at ho
    have hlt : id < os.length := (List.getElem?_eq_some_iff.1 ho).1
    obtain ⟨b, c, h1, h2, h3, h4⟩ := g.var (f id) t (d.ren f) (p.at' id _ ho)
    have hrefs : ∀ r ∈ d.refs, r < os.length := p.refs _ (List.mem_of_getElem? ho)
    refine ⟨b, c, by simp [Cx.part, hlt, h1], h2, ?_, by rw [fit_ren] at h4; exact h4⟩
    have h5 := h3.ren (X' := X.part os.length f) fi L.encRefs hX (fun r hr => by
      rw [D.ren_refs, List.mem_map] at hr
      obtain ⟨r0, hr0, rfl⟩ := hr
      have := hrefs r0 hr0
      simp only [hfi r0 this, Cx.part, this, if_true]
      exact .refl _)
    rwa [D.ren_ren f fi d (fun r hr => hfi r (hrefs r hr))] at h5
  · intro id t own l ho
    rw [hpOf_get0] at ho
    have hlt : id < os.length := (List.getElem?_eq_some_iff.1 ho).1
    obtain ⟨v, b, lo, hi, h1, h2⟩ := g.vec (f id) t own l (p.at' id _ ho)
    refine ⟨v, b, lo, hi, by simp [Cx.part, hlt, h1], ?_⟩
    exact h2.move L hX (fun _ => rfl) (L.posE t)
  · intro id l hr
    simp only [Cx.part] at hr
    split at hr
    · rename_i hlt
      rw [hpOf_get0]; simp [hlt]
    · cases hr
  · intro id o ho
    rw [hpOf_get0] at ho
    have hlt : id < os.length := (List.getElem?_eq_some_iff.1 ho).1
    exact ⟨⟨.inl hlt, fun h => h⟩, fun r hr => ⟨.inl (p.refs _ (List.mem_of_getElem? ho) r hr), fun h => h⟩⟩
  · intro i j l l' b o o' h1 h2 h3 h4
    simp only [Cx.part] at h1 h2
    split at h1
    · split at h2
      · exact p.inj i j (by assumption) (by assumption) (g.apart _ _ _ _ _ _ _ h1 h2 h3 h4)
      · cases h2
    · cases h1
  · intro b o hm
    obtain ⟨j, l, hj, hl, ho⟩ := Cx.part_mine.1 hm
    have := g.outer b o ⟨_, l, hl, ho⟩
    exact ⟨fun h => h.elim this.1 fun h => h.2 j hj l hl ho, this.2⟩
  · intro b o ho
    exact ho.elim (g.outs b o) fun h => (g.outer b o h.1).2

theorem Part.back (L : Laws T) {X : Cx} {h h' : Heap C} {nx : Nat} {lim : Lim} (g : G T X h nx lim) {os os' : List (Obj C)} {f : Nat → Nat} (p : Part h os f) (hlen : os'.length = os.length) (hrefs : ∀ o ∈ os', ∀ r ∈ Obj.refs o, r < os.length)
    {X1 : Cx} {lim1 : Lim} (g1 : G T X1 (hpOf 0 os') os.length lim1) (s1 : Step (X.part os.length f) os.length (lim0 os.length) X1)
    (hin : ∀ j o, os'[j]? = some o → h'.get (f j) = some (o.ren f)) (hout : ∀ id, (∀ j, j < os.length → f j ≠ id) → h'.get id = h.get id) :
    ∃ X', X'.w = X1.w ∧ G T X' h' nx lim ∧ Step X nx lim X' ∧ (∀ j, j < os.length → X'.ρ (f j) = X1.ρ j) ∧ ∀ b o v, X1.w.cell? ⟨b, o, none⟩ = some v → X1.free b o → X'.w.cell? ⟨b, o, none⟩ = some v ∧ X'.free b o := by
  classical
  obtain ⟨fi, hfi⟩ := inv_of p.inj
  let X' : Cx := ⟨X1.w, fun id => if ∃ j, j < os.length ∧ f j = id then X1.ρ (fi id) else X.ρ id, X.O⟩
  have hρ1 : ∀ j, j < os.length → X'.ρ (f j) = X1.ρ j := fun j hj => by
    have : ∃ i, i < os.length ∧ f i = f j := ⟨j, hj, rfl⟩
    simp only [X', this, if_true, hfi j hj]
  have hρ2 : ∀ id, (∀ j, j < os.length → f j ≠ id) → X'.ρ id = X.ρ id := fun id hid => by
    have : ¬ ∃ j, j < os.length ∧ f j = id := fun ⟨j, hj, e⟩ => hid j hj e
    simp only [X', this, if_false]
  have hcase : ∀ id, (∃ j, j < os.length ∧ f j = id) ∨ (∀ j, j < os.length → f j ≠ id) := fun id => by
    by_cases hq : ∃ j, j < os.length ∧ f j = id
    · exact .inl hq
    · exact .inr fun j hj e => hq ⟨j, hj, e⟩
  have gp := Part.ctx L g p os.length
  -- what the others own
  have hA : ∀ id l b o, (∀ j, j < os.length → f j ≠ id) → X.ρ id = some l → l.owns b o → b < X.w.heap.size ∧ (X.part os.length f).O b o ∧ ∀ o', ¬ (X.part os.length f).mine b o' := by
    intro id l b o hid hl ho
    have hno : ∀ j, j < os.length → ∀ l', X.ρ (f j) = some l' → ∀ o', ¬ l'.owns b o' := fun j hj l' hl' o' ho' => hid j hj (g.apart _ _ _ _ _ _ _ hl' hl ho' ho)
    refine ⟨(g.outer b o ⟨id, l, hl, ho⟩).2, .inr ⟨⟨id, l, hl, ho⟩, fun j hj l' hl' => hno j hj l' hl' o⟩, fun o' hm => ?_⟩
    obtain ⟨j, l', hj, hl', ho'⟩ := Cx.part_mine.1 hm
    exact hno j hj l' hl' o' ho'
  have hmine : ∀ b o, X'.mine b o → X1.mine b o ∨ ∃ id l, (∀ j, j < os.length → f j ≠ id) ∧ X.ρ id = some l ∧ l.owns b o := by
    rintro b o ⟨id, l, h1, h2⟩
    rcases hcase id with ⟨j, hj, rfl⟩ | hid
    · rw [hρ1 j hj] at h1; exact .inl ⟨j, l, h1, h2⟩
    · rw [hρ2 id hid] at h1; exact .inr ⟨id, l, hid, h1, h2⟩
  have hB : ∀ b o, X1.free b o → X'.free b o := by
    rintro b o ⟨h1, h2⟩
    have hO : X1.O = (X.part os.length f).O := s1.O
    refine ⟨fun h3 => h1 (by rw [hO]; exact .inl h3), fun hm => ?_⟩
    rcases hmine b o hm with h3 | ⟨id, l, h3, h4, h5⟩
    · exact h2 h3
    · exact h1 (by rw [hO]; exact (hA id l b o h3 h4 h5).2.1)
  have hBB : ∀ b o v, X1.w.cell? ⟨b, o, none⟩ = some v → X1.free b o → X'.w.cell? ⟨b, o, none⟩ = some v ∧ X'.free b o := fun b o v h1 h2 => ⟨h1, hB b o h2⟩
  have hC : ∀ b o v, X.w.cell? ⟨b, o, none⟩ = some v → X.free b o → X'.w.cell? ⟨b, o, none⟩ = some v ∧ X'.free b o := by
    intro b o v h1 h2
    have := s1.keeps b o v h1 (Cx.part_free.2 h2)
    exact hBB b o v this.1 this.2
  have hold : ∀ j, j < os.length → old os.length (lim0 os.length) j := fun j hj => ⟨.inl hj, fun h => h⟩
  have hD : ∀ id, Compat (X.ρ id) (X'.ρ id) := by
    intro id
    rcases hcase id with ⟨j, hj, rfl⟩ | hid
    · rw [hρ1 j hj]
      have := s1.ρ j (hold j hj)
      simpa [Cx.part, hj] using this
    · rw [hρ2 id hid]; exact .refl _
  have hblk : ∀ id l b o, (∀ j, j < os.length → f j ≠ id) → X.ρ id = some l → l.owns b o → X'.w.heap[b]? = X.w.heap[b]? := fun id l b o h1 h2 h3 => by
    obtain ⟨a1, a2, a3⟩ := hA id l b o h1 h2 h3
    exact s1.block b a1 a3
  have hsome : ∀ j, j < os.length → ∃ o, h.get (f j) = some o := fun j hj => ⟨_, p.at' j os[j] (by simp [hj])⟩
  have hs : Step X nx lim X' := by
    refine ⟨rfl, s1.os, s1.tape, s1.output, s1.size, fun id _ => hD id, ?_, ?_, ?_, s1.frz⟩
    · intro b o hb hm
      rcases hmine b o hm with h3 | ⟨id, l, h3, h4, h5⟩
      · obtain ⟨j, l, hj, hl, ho⟩ := Cx.part_mine.1 (s1.mine b o hb h3)
        exact ⟨f j, l, hl, ho⟩
      · exact ⟨id, l, h4, h5⟩
    · intro b o hb hm
      exact s1.cell b o hb fun hq => by
        obtain ⟨j, l, hj, hl, ho⟩ := Cx.part_mine.1 hq
        exact hm ⟨f j, l, hl, ho⟩
    · intro b hb hm
      exact s1.block b hb fun o hq => by
        obtain ⟨j, l, hj, hl, ho⟩ := Cx.part_mine.1 hq
        exact hm o ⟨f j, l, hl, ho⟩
  refine ⟨X', rfl, ⟨?_, ?_, ?_, ?_, ?_, ?_, ?_, g.low⟩, hs, hρ1, hBB⟩
  · intro id t d ho
    rcases hcase id with ⟨j, hj, rfl⟩ | hid
    · have e1 : os'[j]? = some os'[j] := by simp [hlen, hj]
      have e2 := hin j _ e1
      rw [ho] at e2
      have e3 : ∃ d0, os'[j] = .var t d0 ∧ d = d0.ren f := by
        cases hq : os'[j] with
        | var t0 d0 => rw [hq] at e2; simp [Obj.ren] at e2; exact ⟨d0, by rw [e2.1], e2.2⟩
        | vec t0 own0 l0 => rw [hq] at e2; simp [Obj.ren] at e2
      obtain ⟨d0, e4, rfl⟩ := e3
      rw [e4] at e1
      obtain ⟨b, c, h1, h2, h3, h4⟩ := g1.var j t d0 (by rw [hpOf_get0]; exact e1)
      refine ⟨b, c, by rw [hρ1 j hj]; exact h1, h2, ?_, by rw [fit_ren]; exact h4⟩
      refine h3.ren f L.encRefs hBB fun r hr => ?_
      rw [hρ1 r (hrefs _ (List.mem_of_getElem? e1) r hr)]; exact .refl _
    · rw [hout id hid] at ho
      obtain ⟨b, c, h1, h2, h3, h4⟩ := g.var id t d ho
      refine ⟨b, c, by rw [hρ2 id hid]; exact h1, by rw [hblk id _ b 0 hid h1 rfl]; exact h2, h3.mono T L.encRefs hC fun r hr => hD r, h4⟩
  · intro id t own l ho
    rcases hcase id with ⟨j, hj, rfl⟩ | hid
    · have e1 : os'[j]? = some os'[j] := by simp [hlen, hj]
      have e2 := hin j _ e1
      rw [ho] at e2
      have e3 : os'[j] = .vec t own l := by
        cases hq : os'[j] with
        | var t0 d0 => rw [hq] at e2; simp [Obj.ren] at e2
        | vec t0 own0 l0 => rw [hq] at e2; simp only [Obj.ren, Option.some.injEq] at e2; exact e2.symm
      rw [e3] at e1
      obtain ⟨v, b, lo, hi, h1, h2⟩ := g1.vec j t own l (by rw [hpOf_get0]; exact e1)
      exact ⟨v, b, lo, hi, by rw [hρ1 j hj]; exact h1, h2.move L hBB (fun _ => rfl) (L.posE t)⟩
    · rw [hout id hid] at ho
      obtain ⟨v, b, lo, hi, h1, h2⟩ := g.vec id t own l ho
      exact ⟨v, b, lo, hi, by rw [hρ2 id hid]; exact h1, h2.move L hC (fun ⟨o, ho'⟩ => hblk id _ b o hid h1 ho') (L.posE t)⟩
  · intro id l hr
    rcases hcase id with ⟨j, hj, rfl⟩ | hid
    · rw [hin j os'[j] (by simp [hlen, hj])]; rfl
    · rw [hρ2 id hid] at hr
      rw [hout id hid]; exact g.dom id l hr
  · intro id o ho
    rcases hcase id with ⟨j, hj, rfl⟩ | hid
    · obtain ⟨o0, h0⟩ := hsome j hj
      have e1 : os'[j]? = some os'[j] := by simp [hlen, hj]
      have e2 := hin j _ e1
      rw [ho] at e2
      simp only [Option.some.injEq] at e2
      refine ⟨(g.nums _ _ h0).1, fun r hr => ?_⟩
      rw [e2, Obj.ren_refs, List.mem_map] at hr
      obtain ⟨r0, hr0, rfl⟩ := hr
      obtain ⟨o1, h1⟩ := hsome r0 (hrefs _ (List.mem_of_getElem? e1) r0 hr0)
      exact (g.nums _ _ h1).1
    · rw [hout id hid] at ho; exact g.nums id o ho
  · intro i i' l l' b o o' h1 h2 h3 h4
    rcases hcase i with ⟨j, hj, rfl⟩ | hid
    · rcases hcase i' with ⟨j', hj', rfl⟩ | hid'
      · rw [hρ1 j hj] at h1; rw [hρ1 j' hj'] at h2
        rw [g1.apart j j' l l' b o o' h1 h2 h3 h4]
      · rw [hρ1 j hj] at h1; rw [hρ2 i' hid'] at h2
        obtain ⟨a1, a2, a3⟩ := hA i' l' b o' hid' h2 h4
        exact (a3 o (s1.mine b o a1 ⟨j, l, h1, h3⟩)).elim
    · rcases hcase i' with ⟨j', hj', rfl⟩ | hid'
      · rw [hρ2 i hid] at h1; rw [hρ1 j' hj'] at h2
        obtain ⟨a1, a2, a3⟩ := hA i l b o hid h1 h3
        exact (a3 o' (s1.mine b o' a1 ⟨j', l', h2, h4⟩)).elim
      · rw [hρ2 i hid] at h1; rw [hρ2 i' hid'] at h2
        exact g.apart i i' l l' b o o' h1 h2 h3 h4
  · intro b o hm
    rcases hmine b o hm with h3 | ⟨id, l, h3, h4, h5⟩
    · have := g1.outer b o h3
      exact ⟨fun h => this.1 (by rw [s1.O]; exact .inl h), this.2⟩
    · have := g.outer b o ⟨id, l, h4, h5⟩
      exact ⟨this.1, Nat.lt_of_lt_of_le this.2 s1.size⟩
  · intro b o ho
    exact Nat.lt_of_lt_of_le (g.outs b o ho) s1.size

/-! ### environments -/
def renE (f : Nat → Nat) (env : Env C) : Env C := env.map fun p => (p.1, p.2.ren f)
theorem eget_ren (f : Nat → Nat) : ∀ (env : Env C) (t : Nat), eget (renE f env) t = (eget env t).ren f
  | [], t => rfl
  | (j, d) :: r, t => by
    show eget ((j, d.ren f) :: renE f r) t = _
    rw [eget_cons, eget_cons, eget_ren f r t]
    split <;> rfl

theorem EnvOK.part (L : Laws T) {X : Cx} {nx : Nat} {lim : Lim} {env env0 : Env C} {tmps : Array Value} {k top : Nat} {f : Nat → Nat} (he : EnvOK T X nx lim env tmps) (hinj : ∀ i j, i < k → j < k → f i = f j → i = j)
    (hs : ∀ q ∈ env0, eget env q.1 = q.2.ren f) (hr : ∀ q ∈ env0, ∀ r ∈ q.2.refs, r < k) : EnvOK T (X.part k f) k (lim0 top) env0 tmps := by
  obtain ⟨fi, hfi⟩ := inv_of hinj
  intro t
  rcases eget_mem env0 t with h | h
  · rw [h]; exact RO.mk (RV.top _ _ _) rfl
  · have hrt : ∀ r ∈ (eget env0 t).refs, r < k := hr _ h
    refine ⟨?_, fun r hh => ⟨.inl (hrt r hh), fun h => h⟩⟩
    have h1 := (he t).1
    have h2 := hs _ h
    simp only at h2
    rw [h2] at h1
    have h3 := RV.ren (X := X) (X' := X.part k f) fi L.encRefs (h := h1) (fun b o v a1 a2 => ⟨a1, Cx.part_free.2 a2⟩) (fun r hh => by
      rw [D.ren_refs, List.mem_map] at hh
      obtain ⟨r0, hr0, rfl⟩ := hh
      have := hrt r0 hr0
      simp only [hfi r0 this, Cx.part, this, if_true]
      exact .refl _)
    rwa [D.ren_ren f fi _ (fun r hh => hfi r (hrt r hh))] at h3

theorem EnvOK.back (L : Laws T) {X1 X' : Cx} {nx k : Nat} {lim lim1 : Lim} {env : Env C} {tmps : Array Value} {f : Nat → Nat} (he : EnvOK T X1 k lim1 env tmps) (hr : ∀ q ∈ env, ∀ r ∈ q.2.refs, r < k)
    (hρ : ∀ j, j < k → X'.ρ (f j) = X1.ρ j) (hB : ∀ b o v, X1.w.cell? ⟨b, o, none⟩ = some v → X1.free b o → X'.w.cell? ⟨b, o, none⟩ = some v ∧ X'.free b o) (hold : ∀ j, j < k → old nx lim (f j)) : EnvOK T X' nx lim (renE f env) tmps := by
  intro t
  rw [eget_ren]
  have hrt : ∀ r ∈ (eget env t).refs, r < k := by
    rcases eget_mem env t with h | h
    · rw [h]; simp [D.refs]
    · exact hr _ h
  refine ⟨(he t).1.ren f L.encRefs hB fun r hh => ?_, fun r hh => ?_⟩
  · rw [hρ r (hrt r hh)]; exact .refl _
  · rw [D.ren_refs, List.mem_map] at hh
    obtain ⟨r0, hr0, rfl⟩ := hh
    exact hold r0 (hrt r0 hr0)
end
end Go.Ev
