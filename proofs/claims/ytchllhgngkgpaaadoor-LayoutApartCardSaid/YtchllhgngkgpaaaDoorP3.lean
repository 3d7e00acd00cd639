/-
  LayoutApart returns true for any set-up (the given tied card). No condition beyond the given statement. (text 4)
-/
import Derived.Test.YtchllhgngkgpaaaDoorP2
import Derived.OpenShut
import Derived.ReadAgain
import Derived.WalkKit
import Derived.ProofKit
import Derived.Test.YtchllhgngkgpaaaDoorCards
import Derived.Test.YtchllhgngkgpaaaDoorTie
import Derived.Lay
import Derived.LaidOnce
import Derived.SevenTiedAt
namespace Go.Ev
set_option linter.unusedVariables false
set_option linter.unusedSimpArgs false
section
variable {C : Cdc}
def D.ren (f : Nat → Nat) : D C → D C
  | .acons d ds => .acons (d.ren f) (ds.ren f)
  | .tup d => .tup (d.ren f)
  | .fn g d => .fn g (d.ren f)
  | .yl n s p a b d => .yl n s p a b (d.ren f)
  | .cptr d => .cptr (d.ren f)
  | .dsl n d => .dsl n (d.ren f)
  | .mp id => .mp (f id)
  | .vs id n => .vs (f id) n
  | .ptr id p => .ptr (f id) p
  | .asl t id p lo n => .asl t (f id) p lo n
  | .vptr id n p => .vptr (f id) n p
  | d => d
def Obj.ren (f : Nat → Nat) : Obj C → Obj C
  | .var t d => .var t (d.ren f)
  | o => o
theorem D.ren_refs (f : Nat → Nat) : ∀ d : D C, (d.ren f).refs = d.refs.map f
  | .acons d ds => by simp [D.ren, D.refs, D.ren_refs f d, D.ren_refs f ds]
  | .tup d => by simp [D.ren, D.refs, D.ren_refs f d]
  | .fn g d => by simp [D.ren, D.refs, D.ren_refs f d]
  | .cptr d => by simp [D.ren, D.refs, D.ren_refs f d]
  | .dsl _ d => by simp [D.ren, D.refs, D.ren_refs f d]
  | .mp id => rfl
  | .vs id n => rfl
  | .ptr id p => rfl
  | .asl _ id _ _ _ => rfl
  | .vptr id n p => rfl
  | .bool _ => rfl
  | .int _ _ => rfl
  | .str _ => rfl
  | .anil => rfl
  | .arr _ _ _ => rfl
  | .nils => rfl
  | .sl _ _ _ => rfl
  | .nilp => rfl
  | .nilfn => rfl
  | .nilm => rfl
  | .bm _ _ _ => rfl
  | .yl _ _ _ _ _ d => by simp [D.ren, D.refs, D.ren_refs f d]
  | .top => rfl
theorem Obj.ren_refs (f : Nat → Nat) (o : Obj C) : (o.ren f).refs = o.refs.map f := by
  cases o with
  | var t d => exact D.ren_refs f d
  | vec t own l => rfl
  | map _ _ _ => rfl
theorem D.ren_ren (f g : Nat → Nat) : ∀ d : D C, (∀ id ∈ d.refs, g (f id) = id) → (d.ren f).ren g = d
  | .acons d ds, h => by
    simp only [D.refs, List.mem_append] at h
    simp [D.ren, D.ren_ren f g d (fun id hi => h id (.inl hi)), D.ren_ren f g ds (fun id hi => h id (.inr hi))]
  | .tup d, h => by simp [D.ren, D.ren_ren f g d (by simpa [D.refs] using h)]
  | .fn _ d, h => by simp [D.ren, D.ren_ren f g d (by simpa [D.refs] using h)]
  | .yl _ _ _ _ _ d, h => by simp [D.ren, D.ren_ren f g d (by simpa [D.refs] using h)]
  | .cptr d, h => by simp [D.ren, D.ren_ren f g d (by simpa [D.refs] using h)]
  | .dsl _ d, h => by simp [D.ren, D.ren_ren f g d (by simpa [D.refs] using h)]
  | .mp id, h => by simp [D.ren, h id (by simp [D.refs])]
  | .vs id n, h => by simp [D.ren, h id (by simp [D.refs])]
  | .ptr id p, h => by simp [D.ren, h id (by simp [D.refs])]
  | .asl _ id _ _ _, h => by simp [D.ren, h id (by simp [D.refs])]
  | .vptr id n p, h => by simp [D.ren, h id (by simp [D.refs])]
  | .bool _, _ => rfl
  | .int _ _, _ => rfl
  | .str _, _ => rfl
  | .anil, _ => rfl
  | .arr _ _ _, _ => rfl
  | .nils, _ => rfl
  | .sl _ _ _, _ => rfl
  | .nilp, _ => rfl
  | .nilfn, _ => rfl
  | .nilm, _ => rfl
  | .bm _ _ _, _ => rfl
  | .top, _ => rfl
theorem D.ren_same (f : Nat → Nat) : ∀ d : D C, d.refs = [] → d.ren f = d
  | .acons d ds, h => by
    simp only [D.refs, List.append_eq_nil_iff] at h
    simp [D.ren, D.ren_same f d h.1, D.ren_same f ds h.2]
  | .tup d, h => by simp [D.ren, D.ren_same f d (by simpa [D.refs] using h)]
  | .fn _ d, h => by simp [D.ren, D.ren_same f d (by simpa [D.refs] using h)]
  | .yl _ _ _ _ _ d, h => by simp [D.ren, D.ren_same f d (by simpa [D.refs] using h)]
  | .cptr d, h => by simp [D.ren, D.ren_same f d (by simpa [D.refs] using h)]
  | .dsl _ d, h => by simp [D.ren, D.ren_same f d (by simpa [D.refs] using h)]
  | .mp id, h => by simp [D.refs] at h
  | .vs id n, h => by simp [D.refs] at h
  | .ptr id p, h => by simp [D.refs] at h
  | .asl _ id _ _ _, h => by simp [D.refs] at h
  | .vptr id n p, h => by simp [D.refs] at h
  | .bool _, _ => rfl
  | .int _ _, _ => rfl
  | .str _, _ => rfl
  | .anil, _ => rfl
  | .arr _ _ _, _ => rfl
  | .nils, _ => rfl
  | .sl _ _ _, _ => rfl
  | .nilp, _ => rfl
  | .nilfn, _ => rfl
  | .nilm, _ => rfl
  | .bm _ _ _, _ => rfl
  | .top, _ => rfl
theorem D.ren_noYl (f : Nat → Nat) (d : D C) : (d.ren f).noYl = d.noYl := by
  induction d with
  | acons d ds i1 i2 => simp only [D.ren, D.noYl, i1, i2]
  | tup d ih => simpa only [D.ren, D.noYl] using ih
  | fn _ d ih => simpa only [D.ren, D.noYl] using ih
  | cptr d ih => simpa only [D.ren, D.noYl] using ih
  | dsl _ d ih => simpa only [D.ren, D.noYl] using ih
  | _ => rfl
theorem D.ren_row (f : Nat → Nat) (d : D C) : (d.ren f).isRow = d.isRow := by cases d <;> rfl
theorem D.ren_ones (f : Nat → Nat) (d : D C) : (d.ren f).ones = d.ones := by
  induction d with
  | acons d ds _ ih => simp only [D.ren, D.ones, D.ren_row, ih]
  | _ => rfl
variable {T : Tab C}
theorem fit_ren (f : Nat → Nat) : ∀ (d : D C) (u : TypeId ⊕ List TypeId), fit T (d.ren f) u = fit T d u
  | .acons d ds, .inl t => by
    simp only [D.ren, fit]
    split <;> simp [fit_ren f d, fit_ren f ds]
  | .acons d ds, .inr [] => by simp [D.ren, fit]
  | .acons d ds, .inr (a :: fs) => by simp [D.ren, fit, fit_ren f d, fit_ren f ds]
  | .tup _, .inl _ => rfl
  | .tup _, .inr _ => rfl
  | .fn _ d, .inl _ => by simp only [D.ren, fit, D.ren_noYl]
  | .yl _ _ _ _ _ _, .inl _ => rfl
  | .yl _ _ _ _ _ _, .inr _ => rfl
  | .fn _ _, .inr _ => rfl
  | .cptr d, .inl _ => by simp only [D.ren, fit, D.ren_noYl]
  | .cptr _, .inr _ => rfl
  | .dsl _ d, .inl _ => by simp only [D.ren, fit, D.ren_noYl]
  | .dsl _ _, .inr _ => rfl
  | .mp _, .inl _ => rfl
  | .mp _, .inr _ => rfl
  | .vs _ _, .inl _ => rfl
  | .vs _ _, .inr _ => rfl
  | .ptr _ _, .inl _ => rfl
  | .asl _ _ _ _ _, .inl _ => rfl
  | .asl _ _ _ _ _, .inr _ => rfl
  | .ptr _ _, .inr _ => rfl
  | .vptr _ _ _, .inl _ => rfl
  | .vptr _ _ _, .inr _ => rfl
  | .bool _, _ => rfl
  | .int _ _, _ => rfl
  | .str _, _ => rfl
  | .anil, _ => rfl
  | .arr _ _ _, _ => rfl
  | .nils, _ => rfl
  | .sl _ _ _, _ => rfl
  | .nilp, _ => rfl
  | .nilfn, _ => rfl
  | .nilm, _ => rfl
  | .bm _ _ _, _ => rfl
  | .top, _ => rfl
theorem R.renG {X X' : Cx} {y : Bool} (f : Nat → Nat) (he : ∀ t x, (T.enc t x).refs = [] ∧ (T.enc t x).noYl = true) (hX : ∀ b o v, X.w.cell? ⟨b, o, none⟩ = some v → X.free b o → X'.w.cell? ⟨b, o, none⟩ = some v ∧ X'.free b o)
    (hL : y = true → ∀ l r, X.w.heap[l]? = some (.loop r) → (∀ o, ¬ X.mine l o) → X'.w.heap[l]? = some (.loop r) ∧ ∀ o, ¬ X'.mine l o)
    {m : Bool} {d : D C} {vs : List Value} (h : R T X m d vs) : (∀ id ∈ d.refs, Compat (X.ρ id) (X'.ρ (f id))) → (y = true ∨ d.noYl = true) → R T X' m (d.ren f) vs := by
  induction h with
  | bool b => exact fun _ _ => .bool b
  | int h => exact fun _ _ => .int h
  | str s => exact fun _ _ => .str s
  | anil => exact fun _ _ => .anil
  | acons _ _ i1 i2 =>
    intro hr hy
    simp only [D.refs, List.mem_append] at hr
    exact .acons (i1 (fun id h => hr id (.inl h)) (hy.imp id fun h => by simp only [D.noYl, Bool.and_eq_true] at h; exact h.1)) (i2 (fun id h => hr id (.inr h)) (hy.imp id fun h => by simp only [D.noYl, Bool.and_eq_true] at h; exact h.2))
  | arr0 t => exact fun _ _ => .arr0 t
  | @arrS t n x l c1 c2 _ _ i1 i2 =>
    intro _ hy
    have h1 := i1 (by simp [he]) (.inr (he _ _).2)
    rw [D.ren_same f _ (he t x).1] at h1
    exact .arrS h1 (i2 (by simp [D.refs]) (.inr rfl))
  | nils => exact fun _ _ => .nils
  | sl0 t c a => exact fun _ _ => .sl0 t c a
  | sl ha _ hc hcap ih => exact fun _ _ => .sl (fun j v hj => hX _ _ _ (ha j v hj).1 (ha j v hj).2) (ih (by simp [D.refs]) (.inr rfl)) hc hcap
  | @vs id n cp a h =>
    intro hr hy
    refine .vs fun v e b lo hi hv => ?_
    have hc := hr id (by simp [D.refs])
    rw [hv] at hc
    cases ho : X.ρ id with
    | none => rw [ho] at hc; simp [Compat] at hc
    | some l =>
      rw [ho] at hc
      cases l with
      | var b t => simp [Compat] at hc
      | map b0 => simp [Compat] at hc
      | vec v0 e0 b0 lo0 hi0 =>
        simp only [Compat] at hc
        have := h _ _ _ _ _ ho
        refine ⟨by omega, fun hl => ?_⟩
        have e1 := hc.2.2 (by omega)
        rw [e1]
        exact this.2 (by omega)
  | @ptr id p a h =>
    intro hr hy
    refine .ptr fun b t hv => ?_
    have hc := hr id (by simp [D.refs])
    rw [hv] at hc
    cases ho : X.ρ id with
    | none => rw [ho] at hc; simp [Compat] at hc
    | some l =>
      rw [ho] at hc
      cases l with
      | var b0 t0 =>
        simp only [Compat, Loc.var.injEq] at hc
        obtain ⟨rfl, rfl⟩ := hc
        exact h _ _ ho
      | vec v0 e0 b0 lo0 hi0 => simp [Compat] at hc
      | map b0 => simp [Compat] at hc
  | @asl ta id lo n cp b0 o0 p h =>
    intro hr hy
    refine .asl fun b t hv => ?_
    have hc := hr id (by simp [D.refs])
    rw [hv] at hc
    cases ho : X.ρ id with
    | none => rw [ho] at hc; simp [Compat] at hc
    | some l =>
      rw [ho] at hc
      cases l with
      | var b0 t0 =>
        simp only [Compat, Loc.var.injEq] at hc
        obtain ⟨rfl, rfl⟩ := hc
        exact h _ _ ho
      | vec v0 e0 b0 lo0 hi0 => simp [Compat] at hc
      | map b0 => simp [Compat] at hc
  | @vptr id n i p a h =>
    intro hr hy
    refine .vptr fun v e b lo hi hv => ?_
    have hc := hr id (by simp [D.refs])
    rw [hv] at hc
    cases ho : X.ρ id with
    | none => rw [ho] at hc; simp [Compat] at hc
    | some l =>
      rw [ho] at hc
      cases l with
      | var b t => simp [Compat] at hc
      | map b0 => simp [Compat] at hc
      | vec v0 e0 b0 lo0 hi0 =>
        simp only [Compat] at hc
        have := h _ _ _ _ _ ho
        refine ⟨by omega, fun hl => ?_⟩
        have e1 := hc.2.2 (by omega)
        rw [e1, hc.1]
        exact this.2 (by omega)
  | cptr ha _ ih =>
    intro hr hy
    exact .cptr (fun j v hj => hX _ _ _ (ha j v hj).1 (ha j v hj).2) (ih (by simpa [D.refs] using hr) hy)
  | nilp => exact fun _ _ => .nilp
  | dsl ha _ hn h1 ih =>
    intro hr hy
    exact .dsl (fun j v hj => hX _ _ _ (ha j v hj).1 (ha j v hj).2) (ih (by simpa [D.refs] using hr) hy) hn (by rw [D.ren_ones]; exact h1)
  | @mp id b h =>
    intro hr hy
    refine .mp fun b' hv => ?_
    have hc := hr id (by simp [D.refs])
    rw [hv] at hc
    cases ho : X.ρ id with
    | none => rw [ho] at hc; simp [Compat] at hc
    | some l =>
      rw [ho] at hc
      cases l with
      | map b0 =>
        simp only [Compat, Loc.map.injEq] at hc
        obtain rfl := hc
        exact h _ ho
      | _ => simp [Compat] at hc
  | fn _ ih => exact fun hr hy => .fn (ih (by simpa [D.refs] using hr) hy)
  | nilfn => exact fun _ _ => .nilfn
  | nilm => exact fun _ _ => .nilm
  | bm h => exact fun _ _ => .bm h
  | yl hw hm hs _ ih =>
    intro hr hy
    rcases hy with hy | hy
    · obtain ⟨h1, h2⟩ := hL hy _ _ hw hm
      exact .yl h1 h2 hs (ih (by simpa [D.refs] using hr) (.inl hy))
    · cases hy
  | tup _ ih => exact fun hr hy => .tup (ih (by simpa [D.refs] using hr) hy)
  | top v => exact fun _ _ => .top v
  | vnil => exact fun _ _ => .vnil
  | vrow _ hr' _ i1 i2 =>
    intro hr hy
    simp only [D.refs, List.mem_append] at hr
    exact .vrow (i1 (fun id h => hr id (.inl h)) (hy.imp id fun h => by simp only [D.noYl, Bool.and_eq_true] at h; exact h.1)) (by rw [D.ren_row]; exact hr') (i2 (fun id h => hr id (.inr h)) (hy.imp id fun h => by simp only [D.noYl, Bool.and_eq_true] at h; exact h.2))
  | vone _ hr' _ i1 i2 =>
    intro hr hy
    simp only [D.refs, List.mem_append] at hr
    exact .vone (i1 (fun id h => hr id (.inl h)) (hy.imp id fun h => by simp only [D.noYl, Bool.and_eq_true] at h; exact h.1)) (by rw [D.ren_row]; exact hr') (i2 (fun id h => hr id (.inr h)) (hy.imp id fun h => by simp only [D.noYl, Bool.and_eq_true] at h; exact h.2))
theorem R.ren {X X' : Cx} (f : Nat → Nat) (he : ∀ t x, (T.enc t x).refs = [] ∧ (T.enc t x).noYl = true) (hX : Kps X X')
    {m : Bool} {d : D C} {vs : List Value} (h : R T X m d vs) (hr : ∀ id ∈ d.refs, Compat (X.ρ id) (X'.ρ (f id))) : R T X' m (d.ren f) vs :=
  h.renG (y := true) f he hX.cell (fun _ => hX.loop) hr (.inl rfl)
theorem R.renE {X X' : Cx} (f : Nat → Nat) (he : ∀ t x, (T.enc t x).refs = [] ∧ (T.enc t x).noYl = true) (hX : ∀ b o v, X.w.cell? ⟨b, o, none⟩ = some v → X.free b o → X'.w.cell? ⟨b, o, none⟩ = some v ∧ X'.free b o)
    {m : Bool} {d : D C} {vs : List Value} (h : R T X m d vs) (hn : d.noYl = true) (hr : ∀ id ∈ d.refs, Compat (X.ρ id) (X'.ρ (f id))) : R T X' m (d.ren f) vs :=
  h.renG (y := false) f he hX (fun h => by cases h) hr (.inr hn)
theorem RV.ren {X X' : Cx} (f : Nat → Nat) (he : ∀ t x, (T.enc t x).refs = [] ∧ (T.enc t x).noYl = true) (hX : Kps X X')
    {d : D C} {v : Value} (h : RV T X d v) (hr : ∀ id ∈ d.refs, Compat (X.ρ id) (X'.ρ (f id))) : RV T X' (d.ren f) v := by
  rcases h with ⟨h1, cs, h2, h3⟩ | ⟨h1, h2⟩
  · exact .inl ⟨by rw [D.ren_row]; exact h1, cs, h2.ren f he hX hr, h3⟩
  · exact .inr ⟨by rw [D.ren_row]; exact h1, h2.ren f he hX hr⟩
def Cx.part (X : Cx) (k : Nat) (f : Nat → Nat) : Cx :=
  ⟨X.w, fun j => if j < k then X.ρ (f j) else none, fun b o => X.O b o ∨ (X.mine b o ∧ ∀ j, j < k → ∀ l, X.ρ (f j) = some l → ¬ l.owns b o)⟩
theorem Cx.part_mine {X : Cx} {k : Nat} {f : Nat → Nat} {b o : Nat} : (X.part k f).mine b o ↔ ∃ j l, j < k ∧ X.ρ (f j) = some l ∧ l.owns b o := by
  constructor
  · rintro ⟨j, l, h1, h2⟩
    simp only [Cx.part] at h1
    split at h1
    · exact ⟨j, l, by assumption, h1, h2⟩
    · cases h1
  · rintro ⟨j, l, h0, h1, h2⟩
    exact ⟨j, l, by simp [Cx.part, h0, h1], h2⟩
theorem Cx.part_free {X : Cx} {k : Nat} {f : Nat → Nat} {b o : Nat} : (X.part k f).free b o ↔ X.free b o := by
  constructor
  · rintro ⟨h1, h2⟩
    refine ⟨fun h => h1 (.inl h), fun hm => ?_⟩
    by_cases hq : ∃ j l, j < k ∧ X.ρ (f j) = some l ∧ l.owns b o
    · exact h2 (Cx.part_mine.2 hq)
    · exact h1 (.inr ⟨hm, fun j hj l hl ho => hq ⟨j, l, hj, hl, ho⟩⟩)
  · rintro ⟨h1, h2⟩
    refine ⟨fun h => h.elim h1 fun h => h2 h.1, fun hm => ?_⟩
    obtain ⟨j, l, _, hl, ho⟩ := Cx.part_mine.1 hm
    exact h2 ⟨f j, l, hl, ho⟩
def hpOf : Nat → List (Obj C) → Heap C
  | _, [] => []
  | n, o :: l => (n, o) :: hpOf (n + 1) l
theorem hpOf_get : ∀ (l : List (Obj C)) (n id : Nat), (hpOf n l).get id = if n ≤ id then l[id - n]? else none
  | [], n, id => by simp [hpOf, Heap.get]
  | o :: l, n, id => by
    rw [hpOf, get_cons, hpOf_get l (n + 1) id]
    by_cases h1 : id = n
    · subst h1; simp
    · by_cases h2 : n ≤ id
      · have h3 : n + 1 ≤ id := by omega
        have h4 : id - n = (id - (n + 1)) + 1 := by omega
        simp [h1, h2, h3, h4]
      · have h3 : ¬ n + 1 ≤ id := by omega
        simp [h1, h2, h3]
theorem hpOf_get0 (l : List (Obj C)) (id : Nat) : (hpOf 0 l).get id = l[id]? := by rw [hpOf_get]; simp
structure Part (h : Heap C) (os : List (Obj C)) (f : Nat → Nat) : Prop where
  at' : ∀ j o, os[j]? = some o → h.get (f j) = some (o.ren f)
  inj : ∀ i j, i < os.length → j < os.length → f i = f j → i = j
  refs : ∀ o ∈ os, ∀ r ∈ Obj.refs o, r < os.length
theorem inv_of {f : Nat → Nat} {k : Nat} (hi : ∀ i j, i < k → j < k → f i = f j → i = j) : ∃ g : Nat → Nat, ∀ j, j < k → g (f j) = j := by
  classical
  refine ⟨fun n => if h : ∃ j, j < k ∧ f j = n then h.choose else 0, fun j hj => ?_⟩
  have hex : ∃ i, i < k ∧ f i = f j := ⟨j, hj, rfl⟩
  simp only [hex, dif_pos]
  have h1 := hex.choose_spec
  exact hi _ _ h1.1 hj h1.2
theorem Part.ctx (L : Laws T) {X : Cx} {h : Heap C} {nx : Nat} {lim : Lim} (g : G T X h nx lim) {os : List (Obj C)} {f : Nat → Nat} (p : Part h os f) (top : Nat) : G T (X.part os.length f) (hpOf 0 os) os.length (lim0 top) := by
  obtain ⟨fi, hfi⟩ := inv_of p.inj
  have hX : Kps X (X.part os.length f) := ⟨fun b o v h1 h2 => ⟨h1, Cx.part_free.2 h2⟩, fun l r h1 h2 => ⟨h1, fun o hm => by obtain ⟨j, q, _, hl, ho⟩ := Cx.part_mine.1 hm; exact h2 o ⟨f j, q, hl, ho⟩⟩⟩
  refine ⟨?_, ?_, ?_, ?_, ?_, ?_, ?_, ?_, Nat.zero_le _, ?_⟩
  · intro id t d ho
    rw [hpOf_get0] at ho
    have hlt : id < os.length := (List.getElem?_eq_some_iff.1 ho).1
    obtain ⟨b, c, h1, h2, h3, h4⟩ := g.var (f id) t (d.ren f) (p.at' id _ ho)
    have hrefs : ∀ r ∈ d.refs, r < os.length := p.refs _ (List.mem_of_getElem? ho)
    refine ⟨b, c, by simp [Cx.part, hlt, h1], h2, ?_, by rw [fit_ren] at h4; exact h4⟩
    have h5 := h3.ren (X' := X.part os.length f) fi L.encOK hX (fun r hr => by
      rw [D.ren_refs, List.mem_map] at hr
      obtain ⟨r0, hr0, rfl⟩ := hr
      have := hrefs r0 hr0
      simp only [hfi r0 this, Cx.part, this, if_true]
      exact .refl _)
    rwa [D.ren_ren f fi d (fun r hr => hfi r (hrefs r hr))] at h5
  · intro id t own l ho
    rw [hpOf_get0] at ho
    have hlt : id < os.length := (List.getElem?_eq_some_iff.1 ho).1
    obtain ⟨v, b, lo, hi, h1, h2⟩ := g.vec (f id) t own l (p.at' id _ ho)
    refine ⟨v, b, lo, hi, by simp [Cx.part, hlt, h1], ?_⟩
    exact h2.move L hX.cell (fun _ => rfl) (L.posE t)
  · intro id ck cv l ho
    rw [hpOf_get0] at ho
    have hlt : id < os.length := (List.getElem?_eq_some_iff.1 ho).1
    obtain ⟨b, es, k, h1, h2, h3⟩ := g.map (f id) ck cv l (p.at' id _ ho)
    exact ⟨b, es, k, by simp [Cx.part, hlt, h1], h2, h3.move L hX.cell⟩
  · intro id l hr
    simp only [Cx.part] at hr
    split at hr
    · rename_i hlt
      rw [hpOf_get0]; simp [hlt]
    · cases hr
  · intro id o ho
    rw [hpOf_get0] at ho
    have hlt : id < os.length := (List.getElem?_eq_some_iff.1 ho).1
    exact ⟨⟨.inl hlt, fun h => h⟩, fun r hr => ⟨.inl (p.refs _ (List.mem_of_getElem? ho) r hr), fun h => h⟩⟩
  · intro i j l l' b o o' h1 h2 h3 h4
    simp only [Cx.part] at h1 h2
    split at h1
    · split at h2
      · exact p.inj i j (by assumption) (by assumption) (g.apart _ _ _ _ _ _ _ h1 h2 h3 h4)
      · cases h2
    · cases h1
  · intro b o hm
    obtain ⟨j, l, hj, hl, ho⟩ := Cx.part_mine.1 hm
    have := g.outer b o ⟨_, l, hl, ho⟩
    exact ⟨fun h => h.elim this.1 fun h => h.2 j hj l hl ho, this.2⟩
  · intro b o ho
    exact ho.elim (g.outs b o) fun h => (g.outer b o h.1).2
  · exact fun q hq => ⟨(g.pre q hq).1, fun o hm => by
      obtain ⟨j, l, hj, hl, ho⟩ := Cx.part_mine.1 hm
      exact (g.pre q hq).2 o ⟨_, l, hl, ho⟩⟩
theorem Part.back (L : Laws T) {X : Cx} {h h' : Heap C} {nx : Nat} {lim : Lim} (g : G T X h nx lim) {os os' : List (Obj C)} {f : Nat → Nat} (p : Part h os f) (hlen : os'.length = os.length) (hrefs : ∀ o ∈ os', ∀ r ∈ Obj.refs o, r < os.length)
    {X1 : Cx} {lim1 : Lim} (g1 : G T X1 (hpOf 0 os') os.length lim1) (s1 : Step (X.part os.length f) os.length (lim0 os.length) X1)
    (hin : ∀ j o, os'[j]? = some o → h'.get (f j) = some (o.ren f)) (hout : ∀ id, (∀ j, j < os.length → f j ≠ id) → h'.get id = h.get id) :
    ∃ X', X'.w = X1.w ∧ G T X' h' nx lim ∧ Step X nx lim X' ∧ (∀ j, j < os.length → X'.ρ (f j) = X1.ρ j) ∧ ∀ b o v, X1.w.cell? ⟨b, o, none⟩ = some v → X1.free b o → X'.w.cell? ⟨b, o, none⟩ = some v ∧ X'.free b o := by
  classical
  obtain ⟨fi, hfi⟩ := inv_of p.inj
  let X' : Cx := ⟨X1.w, fun id => if ∃ j, j < os.length ∧ f j = id then X1.ρ (fi id) else X.ρ id, X.O⟩
  have hρ1 : ∀ j, j < os.length → X'.ρ (f j) = X1.ρ j := fun j hj => by
    have : ∃ i, i < os.length ∧ f i = f j := ⟨j, hj, rfl⟩
    simp only [X', this, if_true, hfi j hj]
  have hρ2 : ∀ id, (∀ j, j < os.length → f j ≠ id) → X'.ρ id = X.ρ id := fun id hid => by
    have : ¬ ∃ j, j < os.length ∧ f j = id := fun ⟨j, hj, e⟩ => hid j hj e
    simp only [X', this, if_false]
  have hcase : ∀ id, (∃ j, j < os.length ∧ f j = id) ∨ (∀ j, j < os.length → f j ≠ id) := fun id => by
    by_cases hq : ∃ j, j < os.length ∧ f j = id
    · exact .inl hq
    · exact .inr fun j hj e => hq ⟨j, hj, e⟩
  have gp := Part.ctx L g p os.length
  -- what the others own
  have hA : ∀ id l b o, (∀ j, j < os.length → f j ≠ id) → X.ρ id = some l → l.owns b o → b < X.w.heap.size ∧ (X.part os.length f).O b o ∧ ∀ o', ¬ (X.part os.length f).mine b o' := by
    intro id l b o hid hl ho
    have hno : ∀ j, j < os.length → ∀ l', X.ρ (f j) = some l' → ∀ o', ¬ l'.owns b o' := fun j hj l' hl' o' ho' => hid j hj (g.apart _ _ _ _ _ _ _ hl' hl ho' ho)
    refine ⟨(g.outer b o ⟨id, l, hl, ho⟩).2, .inr ⟨⟨id, l, hl, ho⟩, fun j hj l' hl' => hno j hj l' hl' o⟩, fun o' hm => ?_⟩
    obtain ⟨j, l', hj, hl', ho'⟩ := Cx.part_mine.1 hm
    exact hno j hj l' hl' o' ho'
  have hmine : ∀ b o, X'.mine b o → X1.mine b o ∨ ∃ id l, (∀ j, j < os.length → f j ≠ id) ∧ X.ρ id = some l ∧ l.owns b o := by
    rintro b o ⟨id, l, h1, h2⟩
    rcases hcase id with ⟨j, hj, rfl⟩ | hid
    · rw [hρ1 j hj] at h1; exact .inl ⟨j, l, h1, h2⟩
    · rw [hρ2 id hid] at h1; exact .inr ⟨id, l, hid, h1, h2⟩
  have hB : ∀ b o, X1.free b o → X'.free b o := by
    rintro b o ⟨h1, h2⟩
    have hO : X1.O = (X.part os.length f).O := s1.O
    refine ⟨fun h3 => h1 (by rw [hO]; exact .inl h3), fun hm => ?_⟩
    rcases hmine b o hm with h3 | ⟨id, l, h3, h4, h5⟩
    · exact h2 h3
    · exact h1 (by rw [hO]; exact (hA id l b o h3 h4 h5).2.1)
  have hBB : ∀ b o v, X1.w.cell? ⟨b, o, none⟩ = some v → X1.free b o → X'.w.cell? ⟨b, o, none⟩ = some v ∧ X'.free b o := fun b o v h1 h2 => ⟨h1, hB b o h2⟩
  have hC : ∀ b o v, X.w.cell? ⟨b, o, none⟩ = some v → X.free b o → X'.w.cell? ⟨b, o, none⟩ = some v ∧ X'.free b o := by
    intro b o v h1 h2
    have := s1.keeps.cell b o v h1 (Cx.part_free.2 h2)
    exact hBB b o v this.1 this.2
  have hold : ∀ j, j < os.length → old os.length (lim0 os.length) j := fun j hj => ⟨.inl hj, fun h => h⟩
  have hD : ∀ id, Compat (X.ρ id) (X'.ρ id) := by
    intro id
    rcases hcase id with ⟨j, hj, rfl⟩ | hid
    · rw [hρ1 j hj]
      have := s1.ρ j (hold j hj)
      simpa [Cx.part, hj] using this
    · rw [hρ2 id hid]; exact .refl _
  have hblk : ∀ id l b o, (∀ j, j < os.length → f j ≠ id) → X.ρ id = some l → l.owns b o → X'.w.heap[b]? = X.w.heap[b]? := fun id l b o h1 h2 h3 => by
    obtain ⟨a1, a2, a3⟩ := hA id l b o h1 h2 h3
    exact s1.block b a1 a3
  have hsome : ∀ j, j < os.length → ∃ o, h.get (f j) = some o := fun j hj => ⟨_, p.at' j os[j] (by simp [hj])⟩
  have hs : Step X nx lim X' := by
    refine ⟨rfl, s1.os, s1.tape, s1.output, s1.size, fun id _ => hD id, ?_, ?_, ?_, s1.frz⟩
    · intro b o hb hm
      rcases hmine b o hm with h3 | ⟨id, l, h3, h4, h5⟩
      · obtain ⟨j, l, hj, hl, ho⟩ := Cx.part_mine.1 (s1.mine b o hb h3)
        exact ⟨f j, l, hl, ho⟩
      · exact ⟨id, l, h4, h5⟩
    · intro b o hb hm
      exact s1.cell b o hb fun hq => by
        obtain ⟨j, l, hj, hl, ho⟩ := Cx.part_mine.1 hq
        exact hm ⟨f j, l, hl, ho⟩
    · intro b hb hm
      exact s1.block b hb fun o hq => by
        obtain ⟨j, l, hj, hl, ho⟩ := Cx.part_mine.1 hq
        exact hm o ⟨f j, l, hl, ho⟩
  refine ⟨X', rfl, ⟨?_, ?_, ?_, ?_, ?_, ?_, ?_, ?_, g.low, g.pre.step hs⟩, hs, hρ1, hBB⟩
  · intro id t d ho
    rcases hcase id with ⟨j, hj, rfl⟩ | hid
    · have e1 : os'[j]? = some os'[j] := by simp [hlen, hj]
      have e2 := hin j _ e1
      rw [ho] at e2
      have e3 : ∃ d0, os'[j] = .var t d0 ∧ d = d0.ren f := by
        cases hq : os'[j] with
        | var t0 d0 => rw [hq] at e2; simp [Obj.ren] at e2; exact ⟨d0, by rw [e2.1], e2.2⟩
        | vec t0 own0 l0 => rw [hq] at e2; simp [Obj.ren] at e2
        | map _ _ _ => rw [hq] at e2; simp [Obj.ren] at e2
      obtain ⟨d0, e4, rfl⟩ := e3
      rw [e4] at e1
      obtain ⟨b, c, h1, h2, h3, h4⟩ := g1.var j t d0 (by rw [hpOf_get0]; exact e1)
      refine ⟨b, c, by rw [hρ1 j hj]; exact h1, h2, ?_, by rw [fit_ren]; exact h4⟩
      refine h3.renE f L.encOK hBB (fit_noYl _ _ h4) fun r hr => ?_
      rw [hρ1 r (hrefs _ (List.mem_of_getElem? e1) r hr)]; exact .refl _
    · rw [hout id hid] at ho
      obtain ⟨b, c, h1, h2, h3, h4⟩ := g.var id t d ho
      refine ⟨b, c, by rw [hρ2 id hid]; exact h1, by rw [hblk id _ b 0 hid h1 rfl]; exact h2, h3.monoG T (y := false) L.encOK hC (fun h => by cases h) (fun r hr => hD r) (.inr (fit_noYl _ _ h4)), h4⟩
  · intro id t own l ho
    rcases hcase id with ⟨j, hj, rfl⟩ | hid
    · have e1 : os'[j]? = some os'[j] := by simp [hlen, hj]
      have e2 := hin j _ e1
      rw [ho] at e2
      have e3 : os'[j] = .vec t own l := by
        cases hq : os'[j] with
        | var t0 d0 => rw [hq] at e2; simp [Obj.ren] at e2
        | vec t0 own0 l0 => rw [hq] at e2; simp only [Obj.ren, Option.some.injEq] at e2; exact e2.symm
        | map _ _ _ => rw [hq] at e2; simp [Obj.ren] at e2
      rw [e3] at e1
      obtain ⟨v, b, lo, hi, h1, h2⟩ := g1.vec j t own l (by rw [hpOf_get0]; exact e1)
      exact ⟨v, b, lo, hi, by rw [hρ1 j hj]; exact h1, h2.move L hBB (fun _ => rfl) (L.posE t)⟩
    · rw [hout id hid] at ho
      obtain ⟨v, b, lo, hi, h1, h2⟩ := g.vec id t own l ho
      exact ⟨v, b, lo, hi, by rw [hρ2 id hid]; exact h1, h2.move L hC (fun ⟨o, ho'⟩ => hblk id _ b o hid h1 ho') (L.posE t)⟩
  · intro id ck cv l ho
    rcases hcase id with ⟨j, hj, rfl⟩ | hid
    · have e1 : os'[j]? = some os'[j] := by simp [hlen, hj]
      have e2 := hin j _ e1
      rw [ho] at e2
      have e3 : os'[j] = .map ck cv l := by
        cases hq : os'[j] with
        | var t0 d0 => rw [hq] at e2; simp [Obj.ren] at e2
        | vec t0 own0 l0 => rw [hq] at e2; simp [Obj.ren] at e2
        | map _ _ _ => rw [hq] at e2; simp only [Obj.ren, Option.some.injEq] at e2; exact e2.symm
      rw [e3] at e1
      obtain ⟨b, es, k, h1, h2, h3⟩ := g1.map j ck cv l (by rw [hpOf_get0]; exact e1)
      exact ⟨b, es, k, by rw [hρ1 j hj]; exact h1, h2, h3.move L hBB⟩
    · rw [hout id hid] at ho
      obtain ⟨b, es, k, h1, h2, h3⟩ := g.map id ck cv l ho
      exact ⟨b, es, k, by rw [hρ2 id hid]; exact h1, by rw [hblk id _ b 0 hid h1 rfl]; exact h2, h3.move L hC⟩
  · intro id l hr
    rcases hcase id with ⟨j, hj, rfl⟩ | hid
    · rw [hin j os'[j] (by simp [hlen, hj])]; rfl
    · rw [hρ2 id hid] at hr
      rw [hout id hid]; exact g.dom id l hr
  · intro id o ho
    rcases hcase id with ⟨j, hj, rfl⟩ | hid
    · obtain ⟨o0, h0⟩ := hsome j hj
      have e1 : os'[j]? = some os'[j] := by simp [hlen, hj]
      have e2 := hin j _ e1
      rw [ho] at e2
      simp only [Option.some.injEq] at e2
      refine ⟨(g.nums _ _ h0).1, fun r hr => ?_⟩
      rw [e2, Obj.ren_refs, List.mem_map] at hr
      obtain ⟨r0, hr0, rfl⟩ := hr
      obtain ⟨o1, h1⟩ := hsome r0 (hrefs _ (List.mem_of_getElem? e1) r0 hr0)
      exact (g.nums _ _ h1).1
    · rw [hout id hid] at ho; exact g.nums id o ho
  · intro i i' l l' b o o' h1 h2 h3 h4
    rcases hcase i with ⟨j, hj, rfl⟩ | hid
    · rcases hcase i' with ⟨j', hj', rfl⟩ | hid'
      · rw [hρ1 j hj] at h1; rw [hρ1 j' hj'] at h2
        rw [g1.apart j j' l l' b o o' h1 h2 h3 h4]
      · rw [hρ1 j hj] at h1; rw [hρ2 i' hid'] at h2
        obtain ⟨a1, a2, a3⟩ := hA i' l' b o' hid' h2 h4
        exact (a3 o (s1.mine b o a1 ⟨j, l, h1, h3⟩)).elim
    · rcases hcase i' with ⟨j', hj', rfl⟩ | hid'
      · rw [hρ2 i hid] at h1; rw [hρ1 j' hj'] at h2
        obtain ⟨a1, a2, a3⟩ := hA i l b o hid h1 h3
        exact (a3 o' (s1.mine b o' a1 ⟨j', l', h2, h4⟩)).elim
      · rw [hρ2 i hid] at h1; rw [hρ2 i' hid'] at h2
        exact g.apart i i' l l' b o o' h1 h2 h3 h4
  · intro b o hm
    rcases hmine b o hm with h3 | ⟨id, l, h3, h4, h5⟩
    · have := g1.outer b o h3
      exact ⟨fun h => this.1 (by rw [s1.O]; exact .inl h), this.2⟩
    · have := g.outer b o ⟨id, l, h4, h5⟩
      exact ⟨this.1, Nat.lt_of_lt_of_le this.2 s1.size⟩
  · intro b o ho
    exact Nat.lt_of_lt_of_le (g.outs b o ho) s1.size
def renE (f : Nat → Nat) (env : Env C) : Env C := env.map fun p => (p.1, p.2.ren f)
theorem eget_ren (f : Nat → Nat) : ∀ (env : Env C) (t : Nat), eget (renE f env) t = (eget env t).ren f
  | [], t => rfl
  | (j, d) :: r, t => by
    show eget ((j, d.ren f) :: renE f r) t = _
    rw [eget_cons, eget_cons, eget_ren f r t]
    split <;> rfl
theorem EnvOK.part (L : Laws T) {X : Cx} {nx : Nat} {lim : Lim} {env env0 : Env C} {tmps : Array Value} {k top : Nat} {f : Nat → Nat} (he : EnvOK T X nx lim env tmps) (hinj : ∀ i j, i < k → j < k → f i = f j → i = j)
    (hs : ∀ q ∈ env0, eget env q.1 = q.2.ren f) (hr : ∀ q ∈ env0, ∀ r ∈ q.2.refs, r < k) : EnvOK T (X.part k f) k (lim0 top) env0 tmps := by
  obtain ⟨fi, hfi⟩ := inv_of hinj
  intro t
  rcases eget_mem env0 t with h | h
  · rw [h]; exact RO.mk (RV.top _ _ _) rfl
  · have hrt : ∀ r ∈ (eget env0 t).refs, r < k := hr _ h
    refine ⟨?_, fun r hh => ⟨.inl (hrt r hh), fun h => h⟩⟩
    have h1 := (he t).1
    have h2 := hs _ h
    simp only at h2
    rw [h2] at h1
    have h3 := RV.ren (X := X) (X' := X.part k f) fi L.encOK (h := h1) ⟨fun b o v a1 a2 => ⟨a1, Cx.part_free.2 a2⟩, fun l r h1 h2 => ⟨h1, fun o hm => by obtain ⟨j, q, _, hl, ho⟩ := Cx.part_mine.1 hm; exact h2 o ⟨f j, q, hl, ho⟩⟩⟩ (fun r hh => by
      rw [D.ren_refs, List.mem_map] at hh
      obtain ⟨r0, hr0, rfl⟩ := hh
      have := hrt r0 hr0
      simp only [hfi r0 this, Cx.part, this, if_true]
      exact .refl _)
    rwa [D.ren_ren f fi _ (fun r hh => hfi r (hrt r hh))] at h3
theorem EnvOK.back (L : Laws T) {X1 X' : Cx} {nx k : Nat} {lim lim1 : Lim} {env : Env C} {tmps : Array Value} {f : Nat → Nat} (he : EnvOK T X1 k lim1 env tmps) (hr : ∀ q ∈ env, ∀ r ∈ q.2.refs, r < k)
    (hρ : ∀ j, j < k → X'.ρ (f j) = X1.ρ j) (hB : Kps X1 X') (hold : ∀ j, j < k → old nx lim (f j)) : EnvOK T X' nx lim (renE f env) tmps := by
  intro t
  rw [eget_ren]
  have hrt : ∀ r ∈ (eget env t).refs, r < k := by
    rcases eget_mem env t with h | h
    · rw [h]; simp [D.refs]
    · exact hr _ h
  refine ⟨(he t).1.ren f L.encOK hB fun r hh => ?_, fun r hh => ?_⟩
  · rw [hρ r (hrt r hh)]; exact .refl _
  · rw [D.ren_refs, List.mem_map] at hh
    obtain ⟨r0, hr0, rfl⟩ := hh
    exact hold r0 (hrt r0 hr0)
end
section
variable {C : Cdc} {P : Program} {T : Tab C} {Φ : Fns C}
open Pg (Ex)
structure LoopO (C : Cdc) (σ : Type) where
  k : Nat
  canon : σ → Env C
  objs : σ → List (Obj C)
  fin : σ → Ev.X × Env C
  fobjs : σ → List (Obj C)
  Inv : σ → Prop
  μ : σ → Nat
def RefsOK (k : Nat) (env : Env C) (os : List (Obj C)) : Prop := os.length = k ∧ (∀ q ∈ env, ∀ r ∈ q.2.refs, r < k) ∧ ∀ o ∈ os, ∀ r ∈ Obj.refs o, r < k
def Grow (os os' : List (Obj C)) (f : Nat → Nat) : Prop := ∀ j, j < os.length → f j = j ∨ ∃ t own l own' l', os[j]? = some (.vec t own l) ∧ os'[j]? = some (.vec t own' l') ∧ l.length < l'.length
def Cx.partM (X : Cx) (k : Nat) (f : Nat → Nat) : Cx := ⟨X.w, fun j => if j < k then X.ρ (f j) else none, X.O⟩
theorem Cx.partM_mine {X : Cx} {k : Nat} {f : Nat → Nat} {b o : Nat} : (X.partM k f).mine b o ↔ ∃ j l, j < k ∧ X.ρ (f j) = some l ∧ l.owns b o := by
  constructor
  · rintro ⟨j, l, h1, h2⟩
    simp only [Cx.partM] at h1
    split at h1
    · exact ⟨j, l, by assumption, h1, h2⟩
    · cases h1
  · rintro ⟨j, l, h0, h1, h2⟩
    exact ⟨j, l, by simp [Cx.partM, h0, h1], h2⟩
theorem Cx.partM_free {X : Cx} {k : Nat} {f : Nat → Nat} {b o : Nat} (h : X.free b o) : (X.partM k f).free b o :=
  ⟨h.1, fun hm => by obtain ⟨j, l, _, hl, ho⟩ := Cx.partM_mine.1 hm; exact h.2 ⟨f j, l, hl, ho⟩⟩
theorem Part.ctxM (L : Laws T) {X : Cx} {h : Heap C} {nx : Nat} {lim : Lim} (g : G T X h nx lim) {os : List (Obj C)} {f : Nat → Nat} (p : Part h os f) (top : Nat) : G T (X.partM os.length f) (hpOf 0 os) os.length (lim0 top) := by
  obtain ⟨fi, hfi⟩ := inv_of p.inj
  have hX : Kps X (X.partM os.length f) := ⟨fun b o v h1 h2 => ⟨h1, Cx.partM_free h2⟩, fun l r h1 h2 => ⟨h1, fun o hm => by obtain ⟨j, q, _, hl, ho⟩ := Cx.partM_mine.1 hm; exact h2 o ⟨f j, q, hl, ho⟩⟩⟩
  refine ⟨?_, ?_, ?_, ?_, ?_, ?_, ?_, ?_, Nat.zero_le _, ?_⟩
  · intro id t d ho
    rw [hpOf_get0] at ho
    have hlt : id < os.length := (List.getElem?_eq_some_iff.1 ho).1
    obtain ⟨b, c, h1, h2, h3, h4⟩ := g.var (f id) t (d.ren f) (p.at' id _ ho)
    have hrefs : ∀ r ∈ d.refs, r < os.length := p.refs _ (List.mem_of_getElem? ho)
    refine ⟨b, c, by simp [Cx.partM, hlt, h1], h2, ?_, by rw [fit_ren] at h4; exact h4⟩
    have h5 := h3.ren (X' := X.partM os.length f) fi L.encOK hX (fun r hr => by
      rw [D.ren_refs, List.mem_map] at hr
      obtain ⟨r0, hr0, rfl⟩ := hr
      have := hrefs r0 hr0
      simp only [hfi r0 this, Cx.partM, this, if_true]
      exact .refl _)
    rwa [D.ren_ren f fi d (fun r hr => hfi r (hrefs r hr))] at h5
  · intro id t own l ho
    rw [hpOf_get0] at ho
    have hlt : id < os.length := (List.getElem?_eq_some_iff.1 ho).1
    obtain ⟨v, b, lo, hi, h1, h2⟩ := g.vec (f id) t own l (p.at' id _ ho)
    refine ⟨v, b, lo, hi, by simp [Cx.partM, hlt, h1], ?_⟩
    exact h2.move L hX.cell (fun _ => rfl) (L.posE t)
  · intro id ck cv l ho
    rw [hpOf_get0] at ho
    have hlt : id < os.length := (List.getElem?_eq_some_iff.1 ho).1
    obtain ⟨b, es, k, h1, h2, h3⟩ := g.map (f id) ck cv l (p.at' id _ ho)
    exact ⟨b, es, k, by simp [Cx.partM, hlt, h1], h2, h3.move L hX.cell⟩
  · intro id l hr
    simp only [Cx.partM] at hr
    split at hr
    · rename_i hlt
      rw [hpOf_get0]; simp [hlt]
    · cases hr
  · intro id o ho
    rw [hpOf_get0] at ho
    have hlt : id < os.length := (List.getElem?_eq_some_iff.1 ho).1
    exact ⟨⟨.inl hlt, fun h => h⟩, fun r hr => ⟨.inl (p.refs _ (List.mem_of_getElem? ho) r hr), fun h => h⟩⟩
  · intro i j l l' b o o' h1 h2 h3 h4
    simp only [Cx.partM] at h1 h2
    split at h1
    · split at h2
      · exact p.inj i j (by assumption) (by assumption) (g.apart _ _ _ _ _ _ _ h1 h2 h3 h4)
      · cases h2
    · cases h1
  · intro b o hm
    obtain ⟨j, l, hj, hl, ho⟩ := Cx.partM_mine.1 hm
    exact g.outer b o ⟨_, l, hl, ho⟩
  · intro b o ho
    exact g.outs b o ho
  · exact fun q hq => ⟨(g.pre q hq).1, fun o hm => by
      obtain ⟨j, l, hj, hl, ho⟩ := Cx.partM_mine.1 hm
      exact (g.pre q hq).2 o ⟨_, l, hl, ho⟩⟩
theorem EnvOK.partM (L : Laws T) {X : Cx} {nx : Nat} {lim : Lim} {env env0 : Env C} {tmps : Array Value} {k top : Nat} {f : Nat → Nat} (he : EnvOK T X nx lim env tmps) (hinj : ∀ i j, i < k → j < k → f i = f j → i = j)
    (hs : ∀ q ∈ env0, eget env q.1 = q.2.ren f) (hr : ∀ q ∈ env0, ∀ r ∈ q.2.refs, r < k) : EnvOK T (X.partM k f) k (lim0 top) env0 tmps := by
  obtain ⟨fi, hfi⟩ := inv_of hinj
  intro t
  rcases eget_mem env0 t with h | h
  · rw [h]; exact RO.mk (RV.top _ _ _) rfl
  · have hrt : ∀ r ∈ (eget env0 t).refs, r < k := hr _ h
    refine ⟨?_, fun r hh => ⟨.inl (hrt r hh), fun h => h⟩⟩
    have h1 := (he t).1
    have h2 := hs _ h
    simp only at h2
    rw [h2] at h1
    have h3 := RV.ren (X := X) (X' := X.partM k f) fi L.encOK (h := h1) ⟨fun b o v a1 a2 => ⟨a1, Cx.partM_free a2⟩, fun l r h1 h2 => ⟨h1, fun o hm => by obtain ⟨j, q, _, hl, ho⟩ := Cx.partM_mine.1 hm; exact h2 o ⟨f j, q, hl, ho⟩⟩⟩ (fun r hh => by
      rw [D.ren_refs, List.mem_map] at hh
      obtain ⟨r0, hr0, rfl⟩ := hh
      have := hrt r0 hr0
      simp only [hfi r0 this, Cx.partM, this, if_true]
      exact .refl _)
    rwa [D.ren_ren f fi _ (fun r hh => hfi r (hrt r hh))] at h3
theorem VecOK.lenV {X : Cx} {t : C.Ty} {own : Bool} {l : List (C.A t)} {v : Value} {b lo hi : Nat} (h : VecOK T X t own l v b lo hi) : Ev.lenV v = l.length := by
  rcases h with ⟨⟨a, rfl, _⟩, rfl, _⟩ | ⟨off, cp, rfl, _⟩ <;> rfl
theorem Part.stepM {X X1 : Cx} {h' : Heap C} {nx' : Nat} {os os' : List (Obj C)} {f : Nat → Nat} (g : G T X (hpOf 0 os) os.length (lim0 os.length)) (g1 : G T X1 h' nx' (lim0 nx')) (s : Step X os.length (lim0 nx') X1) (p : Part h' os' f) (hlen : os'.length = os.length) (hg : Grow os os' f) :
    Step X os.length (lim0 os.length) (X1.partM os.length f) := by
  refine ⟨s.O, s.os, s.tape, s.output, s.size, fun id ho => ?_, fun b o hb hm => ?_, s.cell, s.block, s.frz⟩
  · by_cases hid : id < os.length
    · simp only [Cx.partM, hid, if_true]
      rcases hg id hid with hf | ⟨t, own, l, own', l', h1, h2, h3⟩
      · rw [hf]; exact s.ρ id ⟨.inl hid, fun h => h⟩
      · obtain ⟨v, b, lo, hi, a1, a2⟩ := g.vec id t own l (by rw [hpOf_get0]; exact h1)
        obtain ⟨v', b', lo', hi', c1, c2⟩ := g1.vec (f id) t own' l' (p.at' id _ h2)
        rw [a1, c1]
        have e1 := a2.lenV
        have e2 := c2.lenV
        exact ⟨rfl, by omega, fun h => by omega⟩
    · have : (X1.partM os.length f).ρ id = none := by simp [Cx.partM, hid]
      rw [this]; cases X.ρ id <;> simp [Compat]
  · obtain ⟨j, l, hj, hl, ho⟩ := Cx.partM_mine.1 hm
    exact s.mine b o hb ⟨f j, l, hl, ho⟩
def RoundO (T : Tab C) (Φ : Fns C) (g : FuncId) (b : Code) {σ : Type} (S : LoopO C σ) : Prop :=
  ∀ s, S.Inv s → RefsOK S.k (S.canon s) (S.objs s) ∧ RefsOK S.k (S.fin s).2 (S.fobjs s) ∧ ∃ n x env' h' nx' tr, Ex (0, 0) (evC T Φ n g b (S.canon s)) (hpOf 0 (S.objs s)) S.k (x, env') h' nx' tr ∧
    ((x = .normal ∧ ∃ s', S.Inv s' ∧ S.μ s' < S.μ s ∧ S.fin s' = S.fin s ∧ S.fobjs s' = S.fobjs s ∧ Sub env' (S.canon s') ∧ ∀ j, j < S.k → h'.get j = (S.objs s')[j]?) ∨
     (x = .normal ∧ ∃ s' f, S.Inv s' ∧ S.μ s' < S.μ s ∧ S.fin s' = S.fin s ∧ S.fobjs s' = S.fobjs s ∧ (∀ p ∈ S.canon s', eget env' p.1 = p.2.ren f) ∧ Part h' (S.objs s') f ∧ Grow (S.objs s) (S.objs s') f) ∨
     (x ≠ .normal ∧ x = (S.fin s).1 ∧ Sub env' (S.fin s).2 ∧ ∀ j, j < S.k → h'.get j = (S.fobjs s)[j]?))
theorem G.relim2 {X : Cx} {h : Heap C} {nx nx' k : Nat} {lim lim' : Lim} (g : G T X h nx lim) (hk : ∀ id o, h.get id = some o → id < k ∧ ∀ r ∈ o.refs, r < k) (hn : k ≤ nx') (hl : lim'.lo ≤ nx') (hH : ∀ id, ¬ lim'.H id) : G T X h nx' lim' :=
  ⟨g.var, g.vec, g.map, g.dom, fun id o ho => ⟨⟨.inl (by have := (hk id o ho).1; omega), hH id⟩, fun r hr => ⟨.inl (by have := (hk id o ho).2 r hr; omega), hH r⟩⟩, g.apart, g.outer, g.outs, hl, g.pre⟩
theorem hpOf_nums {os : List (Obj C)} {k : Nat} (hl : os.length = k) (hr : ∀ o ∈ os, ∀ r ∈ Obj.refs o, r < k) : ∀ id o, (hpOf 0 os).get id = some o → id < k ∧ ∀ r ∈ o.refs, r < k := by
  intro id o ho
  rw [hpOf_get0] at ho
  exact ⟨by rw [← hl]; exact (List.getElem?_eq_some_iff.1 ho).1, hr o (List.mem_of_getElem? ho)⟩
theorem rounds_obj (K : PLaws P T) (F : FLaws P T Φ) {g : FuncId} {fn : Func} {body b : Code} {σ : Type} {S : LoopO C σ} (hr : RoundO T Φ g b S) (hf : Φ.fn g = some fn) (hb : fn.body = some body) (hcb : codeB fn.ntmps b = true) (hl : ∀ b' ∈ loops b, b' ∈ loops body) {B : Nat → Bool} (hB : ClearC B b)
    {Q : Exit → Act → World → Prop} : ∀ (m : Nat) (s : σ) (X : Cx) (a : Act), S.Inv s → S.μ s < m → G T X (hpOf 0 (S.objs s)) S.k (lim0 S.k) → EnvOK T X S.k (lim0 S.k) (S.canon s) a.tmps → fn.ntmps ≤ a.tmps.size →
      (∀ a' X', G T X' (hpOf 0 (S.fobjs s)) S.k (lim0 S.k) → Step X S.k (lim0 S.k) X' → EnvOK T X' S.k (lim0 S.k) (S.fin s).2 a'.tmps → a'.tmps.size = a.tmps.size → Marks X X' a'.defers a.defers → Kp B a.tmps a'.tmps → Q (exitX (S.fin s).1) a' X'.w) → Code.rounds P b Q m a X.w := by
  intro m
  induction m with
  | zero => intro s X a _ hm; omega
  | succ m ih =>
    intro s X a hI hm hg he hsz hk
    obtain ⟨hr1, hr2, n, x, env', h', nx', tr, hx, hcase⟩ := hr s hI
    rw [rounds_succ]
    have hle : S.k ≤ nx' := hx.le
    have g0 : G T X (hpOf 0 (S.objs s)) S.k (lim0 nx') := hg.relim2 (hpOf_nums hr1.1 hr1.2.2) (Nat.le_refl _) (Nat.zero_le _) (fun _ h => h)
    have e0 : EnvOK T X S.k (lim0 nx') (S.canon s) a.tmps := fun t => ⟨(he t).1, fun r hh => ⟨.inl (by
      rcases eget_mem (S.canon s) t with h | h
      · rw [h] at hh; simp [D.refs] at hh
      · exact hr1.2.1 _ h r hh), fun h => h⟩⟩
    refine (wpIn_wide (n := 0)).1 ((code_ok K F n).1 none 0 g fn.ntmps b (.inr ⟨rfl, fn, body, hf, rfl, hb, hl⟩) hcb B hB X (hpOf 0 (S.objs s)) S.k (lim0 nx') (0, 0) (S.canon s) x env' h' nx' tr a _ g0 e0 (Nat.le_refl _) hsz hx ?_)
    intro a1 X1 g1 s1 e1 hs1 hd1 kp1
    -- the objects that are kept
    have key : ∀ (os : List (Obj C)) (env0 : Env C), RefsOK S.k env0 os → (∀ j, j < S.k → h'.get j = os[j]?) → Sub env' env0 →
        ∃ X2, X2.w = X1.w ∧ G T X2 (hpOf 0 os) S.k (lim0 S.k) ∧ Step X S.k (lim0 S.k) X2 ∧ EnvOK T X2 S.k (lim0 S.k) env0 a1.tmps ∧ Marks X X2 a1.defers a.defers := by
      intro os env0 ⟨q1, q2, q3⟩ hget hsub
      obtain ⟨X2, w2, g2, s2, hρ⟩ := G.drop K.base g1 (h' := hpOf 0 os) (fun id => by
        rw [hpOf_get0]
        by_cases hid : id < S.k
        · exact .inl (hget id hid).symm
        · exact .inr (List.getElem?_eq_none (by omega)))
      have hnone : ∀ id, ¬ id < S.k → X2.ρ id = none := fun id hid => by
        cases hq : X2.ρ id with
        | none => rfl
        | some l =>
          have := g2.dom id l hq
          rw [hpOf_get0, List.getElem?_eq_none (by omega)] at this
          cases this
      have s3 := s1.trans s2 hle
      refine ⟨X2, w2, g2.relim2 (hpOf_nums q1 q3) (Nat.le_refl _) (Nat.zero_le _) (fun _ h => h), ⟨s3.O, s3.os, s3.tape, s3.output, s3.size, fun id ho => ?_, s3.mine, s3.cell, s3.block, s3.frz⟩, fun t => ?_, hd1.sub w2 s2.mine⟩
      · by_cases hid : id < S.k
        · exact s3.ρ id ⟨.inl hid, fun h => h⟩
        · rw [hnone id hid]; cases X.ρ id <;> simp [Compat]
      · rcases eget_mem env0 t with h | h
        · rw [h]; exact RO.mk (RV.top _ _ _) rfl
        · have hrt : ∀ r ∈ (eget env0 t).refs, r < S.k := q2 _ h
          have h2 := hsub _ h
          simp only at h2
          have h3 := (e1 t).1
          rw [h2] at h3
          exact ⟨h3.mono T K.base.encOK s2.keeps fun r hh => s2.ρ r ⟨.inl (by have := hrt r hh; omega), fun h => h⟩, fun r hh => ⟨.inl (hrt r hh), fun h => h⟩⟩
    rcases hcase with ⟨rfl, s', hI', hmu, hfin, hfo, hsub, hget⟩ | ⟨rfl, s', f, hI', hmu, hfin, hfo, hsub, hpart, hgrow⟩ | ⟨hne, hxf, hsub, hget⟩
    · obtain ⟨hr1', _, _⟩ := hr s' hI'
      obtain ⟨X2, w2, g2, s2, e2, hd2⟩ := key _ _ hr1' hget hsub
      rw [← w2]
      refine ih s' X2 a1 hI' (by omega) g2 e2 (by omega) fun a3 X3 g3 s3 e3 hs3 hd3 kp3 => ?_
      rw [hfin] at e3 ⊢
      rw [hfo] at g3
      exact hk a3 X3 g3 (s2.trans s3 (Nat.le_refl _)) e3 (by omega) (hd2.trans s2 s3 hd3) (kp1.trans kp3)
    · obtain ⟨hr1', _, _⟩ := hr s' hI'
      have hlen' : (S.objs s').length = (S.objs s).length := by rw [hr1'.1, hr1.1]
      have g2 := Part.ctxM K.base g1 hpart (S.objs s').length
      have e2 : EnvOK T (X1.partM (S.objs s').length f) (S.objs s').length (lim0 (S.objs s').length) (S.canon s') a1.tmps := EnvOK.partM K.base e1 hpart.inj hsub (by rw [hr1'.1]; exact hr1'.2.1)
      have s2 := Part.stepM (by rw [hr1.1]; exact hg) g1 (by rw [hr1.1]; exact s1) hpart hlen' hgrow
      rw [hr1'.1] at g2 e2
      rw [hr1.1] at s2
      refine ih s' (X1.partM S.k f) a1 hI' (by omega) g2 e2 (by omega) fun a3 X3 g3 s3 e3 hs3 hd3 kp3 => ?_
      rw [hfin] at e3 ⊢
      rw [hfo] at g3
      exact hk a3 X3 g3 (s2.trans s3 (Nat.le_refl _)) e3 (by omega) ((hd1.sub (X2 := X1.partM S.k f) rfl (fun b o _ hm => by obtain ⟨j, q, _, hl, ho⟩ := Cx.partM_mine.1 hm; exact ⟨f j, q, hl, ho⟩)).trans s2 s3 hd3) (kp1.trans kp3)
    · obtain ⟨X2, w2, g2, s2, e2, hd2⟩ := key _ _ hr2 hget hsub
      have hfinal : Q (exitX (S.fin s).1) a1 X2.w := hk a1 X2 g2 s2 e2 hs1 hd2 kp1
      rw [w2, ← hxf] at hfinal
      cases x with
      | normal => exact (hne rfl).elim
      | exit id => exact hfinal
      | ret => exact hfinal
theorem empty_vec {X : Cx} {t : C.Ty} {l : List (C.A t)} {v : Value} (h : R T X false (.sl t true l) [v]) : ∃ a, v = .slice a l.length l.length ∧ ∃ b lo, VecOK T X t l.isEmpty l v b lo lo := by
  have key : ∀ a : Option Addr, ∃ b lo, VecOK T X t true [] (.slice a 0 0) b lo lo := by
    intro a
    by_cases hq : ∃ b off, a = some ⟨b, off, none⟩
    · obtain ⟨b, off, rfl⟩ := hq
      exact ⟨b, off, .inr ⟨off, 0, rfl, Nat.le_refl _, by simp, .inl ⟨rfl, rfl, .inl rfl⟩⟩⟩
    · exact ⟨0, 0, .inl ⟨⟨a, rfl, fun b off e => hq ⟨b, off, e⟩⟩, rfl, Nat.le_refl _⟩⟩
  cases h with
  | sl0 _ _ a => exact ⟨a, rfl, key a⟩
  | @sl _ _ _ b off _ _ ha hr hc hcap =>
    have := hcap rfl
    subst this
    cases l with
    | nil => exact ⟨_, rfl, key _⟩
    | cons x l => exact ⟨_, rfl, b, off + (x :: l).length * T.size (T.ety t), .inr ⟨off, (x :: l).length, rfl, Nat.le_refl _, rfl, .inr ⟨rfl, rfl, ⟨_, ha, hr⟩, .inl rfl⟩⟩⟩
theorem adopt_slot (K : PLaws P T) {X : Cx} {h : Heap C} {nx t : Nat} {lim : Lim} {env : Env C} {tmps : Array Value} {ty : C.Ty} {l : List (C.A ty)} (g : G T X h nx lim) (he : EnvOK T X nx lim env tmps) (hn : nx < lim.top) (hs : eget env t = .sl ty true l) :
    ∃ X', X'.w = X.w ∧ G T X' ((nx, .vec ty l.isEmpty l) :: h) (nx + 1) lim ∧ Step X nx lim X' ∧ EnvOK T X' (nx + 1) lim ((t, .vs nx l.length) :: env) tmps := by
  have h1 := (he t).1
  rw [hs] at h1
  have h2 := h1.one rfl
  obtain ⟨a, hv, b, lo, hV⟩ := empty_vec h2
  obtain ⟨X', w', ρ', g', s'⟩ := G.newRef K g hn (Nat.le_refl _) hV
  refine ⟨X', w', g', s', fun u => ?_⟩
  rw [eget_cons]
  by_cases hu : u = t
  · subst hu
    simp only [if_true]
    refine ⟨.inr ⟨rfl, ?_⟩, by simpa [D.refs] using g.new hn⟩
    rw [hv]
    refine .vs fun v e b' lo' hi' hq => ?_
    rw [ρ'] at hq
    simp only [Option.some.injEq, Loc.vec.injEq] at hq
    obtain ⟨rfl, _⟩ := hq
    rw [hv]; exact ⟨by simp [lenV], fun _ => rfl⟩
  · simp only [hu, if_false]
    exact (he u).step K.base s' (by omega)
def okPathB (T : Tab C) : TypeId → List Nat → Bool
  | _, [] => true
  | t, i :: p => match T.ty t with
    | .struct _ fs => Nat.blt i fs.length && okPathB T (fs.getD i 0) p
    | .arr n e _ => Nat.blt i n && okPathB T e p
    | _ => false
theorem okPathB_spec : ∀ (p : List Nat) (t : TypeId), okPathB T t p = true → okPath T t p := by
  intro p
  induction p with
  | nil => intro t _; trivial
  | cons i p ih =>
    intro t h
    simp only [okPathB] at h
    simp only [okPath]
    cases ht : T.ty t <;> simp only [ht, Bool.and_eq_true, Bool.false_eq_true] at h ⊢
    · exact ⟨by simpa [Nat.blt_eq] using h.1, ih _ h.2⟩
    · exact ⟨by simpa [Nat.blt_eq] using h.1, ih _ h.2⟩
theorem adopt_path (K : PLaws P T) {X : Cx} {h : Heap C} {nx id : Nat} {lim : Lim} {env : Env C} {tmps : Array Value} {ty : C.Ty} {l : List (C.A ty)} {u t' : TypeId} {d d' : D C} {p : List Nat} (g : G T X h nx lim) (he : EnvOK T X nx lim env tmps) (hn : nx < lim.top)
    (ho : h.get id = some (.var u d)) (hp : okPathB T u p = true) (hg : getPath T d p = some (.sl ty true l)) (hs : Ev.setPath T d p (.vs nx l.length) = some d') (ht : tyAt T u p = some t') (hf : fit T (.vs nx l.length : D C) (.inl t') = true) :
    ∃ X', X'.w = X.w ∧ G T X' (Heap.put id (.var u d') ((nx, .vec ty l.isEmpty l) :: h)) (nx + 1) lim ∧ Step X nx lim X' ∧ EnvOK T X' (nx + 1) lim env tmps := by
  obtain ⟨b0, c0, h1, h2, h3, h4⟩ := g.var id u d ho
  obtain ⟨c1, c2, c3, hc, hl, hr, _⟩ := h3.path K.base p (okPathB_spec p u hp) h4 hg
  have hne : id ≠ nx := fun e => by have := (g.nums id _ ho).1.1; omega
  have hone : ∃ v, c2 = [v] := by
    cases hr with
    | sl0 => exact ⟨_, rfl⟩
    | sl => exact ⟨_, rfl⟩
  obtain ⟨v, rfl⟩ := hone
  obtain ⟨a, hv, b, lo, hV⟩ := empty_vec hr
  obtain ⟨X', w', ρ', g', s'⟩ := G.newRef K g hn (Nat.le_refl _) hV
  have hvs : R T X' false (.vs nx l.length) [v] := by
    rw [hv]
    refine .vs fun v e b' lo' hi' hq => ?_
    rw [ρ'] at hq
    simp only [Option.some.injEq, Loc.vec.injEq] at hq
    obtain ⟨rfl, _⟩ := hq
    rw [hv]; exact ⟨by simp [lenV], fun _ => rfl⟩
  have hrefs : ∀ r ∈ d.refs, old nx lim r := (g.nums id _ ho).2
  have ho' : Heap.get id ((nx, .vec ty l.isEmpty l) :: h) = some (.var u d) := by rw [get_cons]; simp [hne, ho]
  obtain ⟨b1, c1', e1, e2, e3, e4⟩ := g'.var id u d ho'
  refine ⟨X', w', ?_, s', fun t => (he t).step K.base s' (by omega)⟩
  -- the object is seen otherwise; its cells are as they were
  have hs2 : (Heap.get id ((nx, .vec ty l.isEmpty l) :: h)).isSome = true := by rw [ho']; rfl
  obtain ⟨k1, k2, k3, q1, q2, q3, q4, q5⟩ := e3.setPath K.base p (okPathB_spec p u hp) e4 hs hvs ht hf
  obtain ⟨m1, m2, m3, n1, n2, n3, _⟩ := e3.path K.base p (okPathB_spec p u hp) e4 hg
  have hm2 : m2.length = 1 := by
    cases n3 with
    | sl0 => rfl
    | sl => rfl
  have hcc : c1'.toList = c0.toList := by
    have hw : X'.w.heap[b1]? = X.w.heap[b0]? := by
      have : X'.ρ id = X.ρ id ∨ True := .inr trivial
      rw [w']
      have hρ : Compat (X.ρ id) (X'.ρ id) := s'.ρ id (g.nums id _ ho).1
      rw [h1, e1] at hρ
      simp only [Compat, Loc.var.injEq] at hρ
      rw [hρ.1]
    rw [e2, h2] at hw
    simp only [Option.some.injEq, Obj.cells.injEq] at hw
    rw [hw.1]
  have heq : k1 ++ [v] ++ k3 = c1'.toList := by
    have a1 : k1 = c1 := by
      have : (k1 ++ k2 ++ k3).take (offAt T u p) = (c1 ++ [v] ++ c3).take (offAt T u p) := by rw [← q1, ← hc, hcc]
      rw [List.append_assoc, List.append_assoc, List.take_append_of_le_length (by omega), List.take_append_of_le_length (by omega), List.take_of_length_le (by omega), List.take_of_length_le (by omega)] at this
      exact this
    have a2 : k2 ++ k3 = [v] ++ c3 := by
      have : k1 ++ (k2 ++ k3) = c1 ++ ([v] ++ c3) := by rw [← List.append_assoc, ← List.append_assoc, ← q1, ← hc, hcc]
      rw [a1] at this
      exact List.append_cancel_left this
    have a3 : k3 = c3 := by
      simp only [List.length_singleton] at q3
      obtain ⟨y, rfl⟩ := List.length_eq_one_iff.1 q3
      simp at a2; exact a2.2
    rw [a1, a3, hcc, hc]
  rw [heq] at q4
  refine ⟨?_, ?_, ?_, ?_, ?_, g'.apart, g'.outer, g'.outs, g'.low, g'.pre⟩
  · intro j t e hj
    rw [get_put hs2] at hj
    by_cases hji : j = id
    · simp only [hji, if_true, Option.some.injEq, Ev.Obj.var.injEq] at hj
      obtain ⟨rfl, rfl⟩ := hj
      exact ⟨b1, c1', by rw [hji]; exact e1, e2, q4, q5⟩
    · simp only [hji, if_false] at hj; exact g'.var j t e hj
  · intro j t own l hj
    rw [get_put hs2] at hj
    by_cases hji : j = id
    · simp [hji] at hj
    · simp only [hji, if_false] at hj; exact g'.vec j t own l hj
  · intro j ck cv l hj
    rw [get_put hs2] at hj
    by_cases hji : j = id
    · simp [hji] at hj
    · simp only [hji, if_false] at hj; exact g'.map j ck cv l hj
  · intro j l hj
    rw [get_put hs2]
    by_cases hji : j = id
    · simp [hji]
    · simp only [hji, if_false]; exact g'.dom j l hj
  · intro j o hj
    rw [get_put hs2] at hj
    by_cases hji : j = id
    · simp only [hji, if_true, Option.some.injEq] at hj
      subst hj
      refine ⟨by rw [hji]; exact (g'.nums id _ ho').1, fun r hr => ?_⟩
      rcases refs_setPath K.base p hs r hr with h5 | h5
      · exact (hrefs r h5).mono (by omega)
      · simp only [D.refs, List.mem_singleton] at h5
        rw [h5]; exact g.new hn
    · simp only [hji, if_false] at hj; exact g'.nums j o hj
inductive Fnd where
  | slot (t i : Nat)
  | path (j : Nat) (p : List Nat)
def findP {α : Type} (T : Tab C) : List Fnd → Env C → List Nat → (Env C → List Nat → Pg C α) → Pg C α
  | [], env, ids, k => k env ids
  | .slot t i :: r, env, ids, k => match eget env t with
    | .sl ty true [] => .nw (.vec ty true []) fun id => findP T r ((t, .vs id 0) :: env) (ids ++ [id]) k
    | .sl ty true (x :: l) => .nw (.vec ty false (x :: l)) fun id => findP T r ((t, .vs id (x :: l).length) :: env) (ids ++ [id]) k
    | d => match d.refs[i]? with
      | some id => findP T r env (ids ++ [id]) k
      | none => .fail
  | .path j p :: r, env, ids, k => match ids[j]? with
    | none => .fail
    | some idj => .rd idj fun
      | .var u d => match getPath T d p with
        | some (.sl ty true []) => match tyAt T u p with
          | some t' => bif okPathB T u p && fit T (.vs 0 0 : D C) (.inl t') then .nw (.vec ty true []) fun id => match Ev.setPath T d p (.vs id 0) with
            | some d' => .wr idj (.var u d') (findP T r env (ids ++ [id]) k)
            | none => .fail
            else .fail
          | none => .fail
        | some (.sl ty true (x :: l)) => match tyAt T u p with
          | some t' => bif okPathB T u p && fit T (.vs 0 0 : D C) (.inl t') then .nw (.vec ty false (x :: l)) fun id => match Ev.setPath T d p (.vs id (x :: l).length) with
            | some d' => .wr idj (.var u d') (findP T r env (ids ++ [id]) k)
            | none => .fail
            else .fail
          | none => .fail
        | some x => match x.refs with
          | id :: _ => findP T r env (ids ++ [id]) k
          | [] => .fail
        | none => .fail
      | _ => .fail
theorem findP_ok (K : PLaws P T) {α : Type} {e : Pg.Lv} {a : α} {h' : Heap C} {nx' : Nat} {lim : Lim} (hlim : nx' ≤ lim.top) {k : Env C → List Nat → Pg C α} {tmps : Array Value} : ∀ (l : List Fnd) (X : Cx) (h : Heap C) (nx : Nat) (tr : Tr) (env : Env C) (ids : List Nat),
    G T X h nx lim → EnvOK T X nx lim env tmps → Ex e (findP T l env ids k) h nx a h' nx' tr →
    ∃ X1 h1 nx1 env1 ids1 tr1, X1.w = X.w ∧ G T X1 h1 nx1 lim ∧ Step X nx lim X1 ∧ nx ≤ nx1 ∧ EnvOK T X1 nx1 lim env1 tmps ∧ Ex e (k env1 ids1) h1 nx1 a h' nx' tr1 := by
  intro l
  induction l with
  | nil => intro X h nx tr env ids g he hx; exact ⟨X, h, nx, env, ids, tr, rfl, g, .refl _ _ _, Nat.le_refl _, he, hx⟩
  | cons f l ih =>
    intro X h nx tr env ids g he hx
    cases f with
    | slot t i =>
      simp only [findP] at hx
      split at hx
      · rename_i ty hq
        obtain ⟨t', hx, _⟩ := Ex.nw hx
        have hle := hx.le
        obtain ⟨X1, w1, g1, s1, e1⟩ := adopt_slot K g he (by omega) hq
        obtain ⟨X2, h2, n2, env2, ids2, tr2, w2, g2, s2, hn2, e2, hx2⟩ := ih X1 _ _ _ _ _ g1 e1 hx
        exact ⟨X2, h2, n2, env2, ids2, tr2, by rw [w2, w1], g2, s1.trans s2 (by omega), by omega, e2, hx2⟩
      · rename_i ty x l0 hq
        obtain ⟨t', hx, _⟩ := Ex.nw hx
        have hle := hx.le
        obtain ⟨X1, w1, g1, s1, e1⟩ := adopt_slot K g he (by omega) hq
        obtain ⟨X2, h2, n2, env2, ids2, tr2, w2, g2, s2, hn2, e2, hx2⟩ := ih X1 _ _ _ _ _ g1 e1 hx
        exact ⟨X2, h2, n2, env2, ids2, tr2, by rw [w2, w1], g2, s1.trans s2 (by omega), by omega, e2, hx2⟩
      · split at hx
        · exact ih X h nx tr env _ g he hx
        · exact (Ex.fail hx).elim
    | path j p =>
      simp only [findP] at hx
      split at hx
      · exact (Ex.fail hx).elim
      · rename_i idj hj
        obtain ⟨o, t', ho, hx, _⟩ := Ex.rd hx
        cases o with
        | vec _ _ _ => exact (Ex.fail hx).elim
        | map _ _ _ => exact (Ex.fail hx).elim
        | var u d =>
          simp only at hx
          split at hx
          · rename_i ty hq
            split at hx
            · rename_i t' ht
              cases hb : okPathB T u p && fit T (.vs 0 0 : D C) (.inl t') with
              | false => rw [hb] at hx; exact (Ex.fail hx).elim
              | true =>
                rw [hb] at hx
                simp only [cond_true] at hx
                simp only [Bool.and_eq_true] at hb
                obtain ⟨t1, hx, _⟩ := Ex.nw hx
                split at hx
                · rename_i d' hs
                  obtain ⟨o', t2, ho', hx, _⟩ := Ex.wr hx
                  have hle := hx.le
                  obtain ⟨X1, w1, g1, s1, e1⟩ := adopt_path K g he (by omega) ho hb.1 hq hs ht (by simpa [fit] using hb.2)
                  obtain ⟨X2, h2, n2, env2, ids2, tr2, w2, g2, s2, hn2, e2, hx2⟩ := ih X1 _ _ _ _ _ g1 e1 hx
                  exact ⟨X2, h2, n2, env2, ids2, tr2, by rw [w2, w1], g2, s1.trans s2 (by omega), by omega, e2, hx2⟩
                · exact (Ex.fail hx).elim
            · exact (Ex.fail hx).elim
          · rename_i ty x l0 hq
            split at hx
            · rename_i t' ht
              cases hb : okPathB T u p && fit T (.vs 0 0 : D C) (.inl t') with
              | false => rw [hb] at hx; exact (Ex.fail hx).elim
              | true =>
                rw [hb] at hx
                simp only [cond_true] at hx
                simp only [Bool.and_eq_true] at hb
                obtain ⟨t1, hx, _⟩ := Ex.nw hx
                split at hx
                · rename_i d' hs
                  obtain ⟨o', t2, ho', hx, _⟩ := Ex.wr hx
                  have hle := hx.le
                  obtain ⟨X1, w1, g1, s1, e1⟩ := adopt_path K g he (by omega) ho hb.1 hq hs ht (by simpa [fit] using hb.2)
                  obtain ⟨X2, h2, n2, env2, ids2, tr2, w2, g2, s2, hn2, e2, hx2⟩ := ih X1 _ _ _ _ _ g1 e1 hx
                  exact ⟨X2, h2, n2, env2, ids2, tr2, by rw [w2, w1], g2, s1.trans s2 (by omega), by omega, e2, hx2⟩
                · exact (Ex.fail hx).elim
            · exact (Ex.fail hx).elim
          · split at hx
            · exact ih X h nx _ env _ g he hx
            · exact (Ex.fail hx).elim
          · exact (Ex.fail hx).elim
def rdAll {α : Type} : List Nat → (List (Obj C) → Pg C α) → Pg C α
  | [], k => k []
  | id :: r, k => .rd id fun o => rdAll r fun os => k (o :: os)
theorem rdAll_ok {α : Type} {e : Pg.Lv} {a : α} {h h' : Heap C} {nx nx' : Nat} : ∀ (ids : List Nat) (k : List (Obj C) → Pg C α) (tr : Tr), Ex e (rdAll ids k) h nx a h' nx' tr → ∃ os tr1, os.length = ids.length ∧ (∀ (j id : Nat) (o : Obj C), ids[j]? = some id → os[j]? = some o → h.get id = some o) ∧ Ex e (k os) h nx a h' nx' tr1
  | [], k, tr, hx => ⟨[], tr, rfl, by simp, hx⟩
  | id :: r, k, tr, hx => by
    obtain ⟨o, t', ho, hx, _⟩ := Ex.rd hx
    obtain ⟨os, tr1, h1, h2, h3⟩ := rdAll_ok r _ _ hx
    refine ⟨o :: os, tr1, by simp [h1], fun j i o' hj ho' => ?_, h3⟩
    cases j with
    | zero => simp at hj ho'; rw [← hj, ← ho']; exact ho
    | succ j => exact h2 j i o' (by simpa using hj) (by simpa using ho')
def wrAll {α : Type} : List Nat → List (Obj C) → Pg C α → Pg C α
  | [], [], k => k
  | id :: r, o :: os, k => .wr id o (wrAll r os k)
  | _, _, _ => .fail
theorem wrAll_ok {α : Type} {e : Pg.Lv} {a : α} {h' : Heap C} {nx nx' : Nat} {k : Pg C α} : ∀ (ids : List Nat) (os : List (Obj C)) (h : Heap C) (tr : Tr), ids.Nodup → Ex e (wrAll ids os k) h nx a h' nx' tr →
    ∃ h1 tr1, os.length = ids.length ∧ (∀ (j id : Nat) (o : Obj C), ids[j]? = some id → os[j]? = some o → h1.get id = some o) ∧ (∀ id, id ∉ ids → h1.get id = h.get id) ∧ Ex e k h1 nx a h' nx' tr1
  | [], [], h, tr, _, hx => ⟨h, tr, rfl, by simp, fun _ _ => rfl, hx⟩
  | id :: r, o :: os, h, tr, hn, hx => by
    obtain ⟨o', t', ho, hx, _⟩ := Ex.wr hx
    have hs : (h.get id).isSome = true := by rw [ho]; rfl
    obtain ⟨hn1, hn2⟩ := List.nodup_cons.1 hn
    obtain ⟨h1, tr1, q1, q2, q3, q4⟩ := wrAll_ok r os _ _ hn2 hx
    refine ⟨h1, tr1, by simp [q1], fun j i p hj hp => ?_, fun i hi => ?_, q4⟩
    · cases j with
      | zero =>
        simp at hj hp
        subst hj; subst hp
        rw [q3 _ hn1, get_put hs]; simp
      | succ j => exact q2 j i p (by simpa using hj) (by simpa using hp)
    · simp only [List.mem_cons, not_or] at hi
      rw [q3 i hi.2, get_put hs]; simp [hi.1]
  | [], _ :: _, _, _, _, hx => (Ex.fail hx).elim
  | _ :: _, [], _, _, _, hx => (Ex.fail hx).elim
def idx : List Nat → Nat → Nat
  | [], _ => 0
  | a :: l, n => bif Nat.beq a n then 0 else idx l n + 1
theorem idx_spec : ∀ (l : List Nat) (n : Nat), n ∈ l → l[idx l n]? = some n
  | [], n, h => by simp at h
  | a :: l, n, h => by
    rw [idx]
    cases hb : Nat.beq a n with
    | true => simp [Nat.eq_of_beq_eq_true hb]
    | false =>
      have hne := Nat.ne_of_beq_eq_false hb
      simp only [List.mem_cons] at h
      rcases h with h | h
      · exact absurd h.symm hne
      · simpa using idx_spec l n h
def freshN (n : Nat) : List Nat → Bool
  | [] => true
  | a :: l => !(Nat.beq a n) && freshN n l
theorem freshN_spec {n : Nat} : ∀ {l : List Nat}, freshN n l = true → n ∉ l
  | [], _ => by simp
  | a :: l, h => by
    simp only [freshN, Bool.and_eq_true, Bool.not_eq_true'] at h
    simp only [List.mem_cons, not_or]
    exact ⟨fun e => Nat.ne_of_beq_eq_false h.1 e.symm, freshN_spec h.2⟩
def nodupB : List Nat → Bool
  | [] => true
  | a :: l => freshN a l && nodupB l
theorem nodupB_spec : ∀ {l : List Nat}, nodupB l = true → l.Nodup
  | [], _ => List.nodup_nil
  | a :: l, h => by
    simp only [nodupB, Bool.and_eq_true] at h
    exact List.nodup_cons.2 ⟨freshN_spec h.1, nodupB_spec h.2⟩
def inB (ids l : List Nat) : Bool := l.all fun r => ids.any (Nat.beq r)
theorem inB_spec {ids l : List Nat} (h : inB ids l = true) : ∀ r ∈ l, r ∈ ids := by
  intro r hr
  have := List.all_eq_true.1 h r hr
  obtain ⟨x, hx, e⟩ := List.any_eq_true.1 this
  rw [Nat.eq_of_beq_eq_true e]; exact hx
inductive RT (C : Cdc) where
  | fail
  | leaf (x : Ev.X) (env : Env C) (os : List (Obj C))
  | br (b : Bool) (l r : RT C)
def RT.val : RT C → Option ((Ev.X × Env C) × List (Obj C))
  | .fail => none
  | .leaf x env os => some ((x, env), os)
  | .br b l r => bif b then l.val else r.val
def RT.pg (ids : List Nat) : RT C → Pg C (Ev.X × Env C)
  | .fail => .fail
  | .leaf x env os => wrAll ids (os.map (Obj.ren fun j => ids.getD j 0)) (.ret (x, renE (fun j => ids.getD j 0) env))
  | .br b l r => .br b (l.pg ids) (r.pg ids)
theorem RT.pg_ok {e : Pg.Lv} {a : Ev.X × Env C} {h h' : Heap C} {nx nx' : Nat} {ids : List Nat} : ∀ (t : RT C) (tr : Tr), Ex e (t.pg ids) h nx a h' nx' tr → ∃ x env os, t.val = some ((x, env), os) ∧ Ex e (wrAll ids (os.map (Obj.ren fun j => ids.getD j 0)) (.ret (x, renE (fun j => ids.getD j 0) env))) h nx a h' nx' tr
  | .fail, tr, hx => (Ex.fail hx).elim
  | .leaf x env os, tr, hx => ⟨x, env, os, rfl, hx⟩
  | .br b l r, tr, hx => by
    rcases Ex.br hx with ⟨rfl, hx⟩ | ⟨rfl, hx⟩
    · exact RT.pg_ok l tr hx
    · exact RT.pg_ok r tr hx
def sumO (T : Tab C) (fs : List Fnd) (slots : List Nat) (res : Env C → List (Obj C) → RT C) (env : Env C) : Pg C (Ev.X × Env C) :=
  findP T fs env [] fun env ids => bif nodupB ids then rdAll ids fun os =>
    bif inB ids (slots.flatMap fun t => (eget env t).refs) && inB ids (os.flatMap Obj.refs) then
      (res (slots.map fun t => (t, (eget env t).ren (idx ids))) (os.map (Obj.ren (idx ids)))).pg ids
    else .fail
  else .fail
theorem Obj.ren_ren (f g : Nat → Nat) (o : Obj C) (h : ∀ id ∈ o.refs, g (f id) = id) : (o.ren f).ren g = o := by
  cases o with
  | var t d => simp only [Obj.ren]; rw [D.ren_ren f g d h]
  | vec t own l => rfl
  | map _ _ _ => rfl
theorem loop_obj (K : PLaws P T) (F : FLaws P T Φ) {g key : Nat} {fs : List Fnd} {slots : List Nat} {res : Env C → List (Obj C) → RT C} {σ : Type} {S : LoopO C σ}
    (hr : ∀ fn body b, Φ.fn g = some fn → fn.body = some body → b ∈ loops body → firstRegion b = key → RoundO T Φ g b S)
    (hres : ∀ env0 os x env' os', (res env0 os).val = some ((x, env'), os') → ∃ q, S.Inv q ∧ (∀ p ∈ S.canon q, p ∈ env0) ∧ os = S.objs q ∧ S.fin q = (x, env') ∧ S.fobjs q = os') : LoopLaw P T Φ g key (sumO T fs slots res) := by
  intro fn body b hf hb hbl hkey B hB X h nx lim e env x env' h' nx' tr a Q gg he hlim hsz hx hk
  obtain ⟨f1, f2, f3⟩ := F.fn g fn hf
  obtain ⟨c1, c2⟩ := codeB_loop body (f3 body hb) b hbl
  have hround := hr fn body b hf hb hbl hkey
  obtain ⟨X1, h1, nx1, env1, ids, tr1, w1, g1, s1, hn1, e1, hx1⟩ := findP_ok K hlim fs X h nx tr env [] gg he hx
  cases hnd : nodupB ids with
  | false => rw [hnd] at hx1; exact (Ex.fail hx1).elim
  | true =>
  rw [hnd] at hx1
  simp only [cond_true] at hx1
  have hnodup := nodupB_spec hnd
  obtain ⟨os, tr2, hlen, hos, hx2⟩ := rdAll_ok ids _ _ hx1
  cases hin : inB ids (slots.flatMap fun t => (eget env1 t).refs) && inB ids (os.flatMap Obj.refs) with
  | false => rw [hin] at hx2; exact (Ex.fail hx2).elim
  | true =>
  rw [hin] at hx2
  simp only [cond_true] at hx2
  simp only [Bool.and_eq_true] at hin
  have hin1 := inB_spec hin.1
  have hin2 := inB_spec hin.2
  obtain ⟨xx, ee, os', hq, hx3⟩ := RT.pg_ok _ _ hx2
  · · obtain ⟨q, hI, hsub, hobjs, hfin, hfo⟩ := hres _ _ _ _ _ hq
      obtain ⟨hr1, hr2, _⟩ := hround q hI
      obtain ⟨h2, tr3, hl2, hw1, hw2, hx4⟩ := wrAll_ok ids _ h1 _ hnodup hx3
      obtain ⟨hxx, eh, en, _⟩ := Ex.ret hx4
      obtain ⟨rfl, rfl⟩ := Prod.mk.inj hxx
      subst eh
      subst en
      let f : Nat → Nat := fun j => ids.getD j 0
      have hfj : ∀ j, j < ids.length → ids[j]? = some (f j) := fun j hj => by simp [f, hj]
      have hk0 : ids.length = S.k := by rw [← hr1.1, ← hobjs]; simp [hlen]
      have hff : ∀ r, r ∈ ids → f (idx ids r) = r := fun r hr => by
        have := idx_spec ids r hr
        simp only [f, List.getD_eq_getElem?_getD, this, Option.getD_some]
      have hlenO : (S.objs q).length = ids.length := by rw [hr1.1, hk0]
      have part : Part h1 (S.objs q) f := by
        refine ⟨fun j o ho => ?_, fun i j hi hj hij => ?_, fun o ho r hr => by rw [hr1.1]; exact hr1.2.2 o ho r hr⟩
        · rw [← hobjs, List.getElem?_map] at ho
          cases hoj : os[j]? with
          | none => simp [hoj] at ho
          | some o0 =>
            simp only [hoj, Option.map_some, Option.some.injEq] at ho
            have hj : j < ids.length := by rw [← hlen]; exact (List.getElem?_eq_some_iff.1 hoj).1
            rw [hos j (f j) o0 (hfj j hj) hoj, ← ho, Obj.ren_ren]
            intro id hid
            exact hff id (hin2 id (List.mem_flatMap.2 ⟨o0, List.mem_of_getElem? hoj, hid⟩))
        · rw [hlenO] at hi hj
          have := (List.getElem?_inj hi hnodup (j := j)).1 (by rw [hfj i hi, hfj j hj]; simp only [f] at hij ⊢; rw [hij])
          exact this
      have g2 := Part.ctx K.base g1 part (S.objs q).length
      have e2 : EnvOK T (X1.part (S.objs q).length f) (S.objs q).length (lim0 (S.objs q).length) (S.canon q) a.tmps := by
        refine EnvOK.part K.base e1 part.inj (fun p hp => ?_) (fun p hp r hr => by rw [hr1.1]; exact hr1.2.1 p hp r hr)
        have := hsub p hp
        simp only [List.mem_map] at this
        obtain ⟨t, ht, rfl⟩ := this
        simp only
        rw [D.ren_ren]
        intro id hid
        exact hff id (hin1 id (List.mem_flatMap.2 ⟨t, ht, hid⟩))
      rw [hr1.1] at g2 e2
      rw [← w1]
      show (Code.loop b).wp P Q a (X1.part S.k f).w
      refine wp_loop_rounds (S.μ q + 1) (rounds_obj K F hround hf hb c1 c2 hB (S.μ q + 1) q (X1.part S.k f) a hI (by omega) g2 e2 hsz fun a' X' g' s' e' hs' hd' kp' => ?_)
      rw [hfo] at g'
      rw [hfin] at e'
      have hlen' : os'.length = (S.objs q).length := by rw [← hfo, hr2.1, hr1.1]
      have hrefs' : ∀ o ∈ os', ∀ r ∈ Obj.refs o, r < (S.objs q).length := fun o ho r hr => by rw [hr1.1]; exact hr2.2.2 o (by rw [hfo]; exact ho) r hr
      obtain ⟨X2, w2, g3, s3, hρ, hB2⟩ := Part.back K.base g1 part hlen' hrefs' (X1 := X') (lim1 := lim0 S.k) (h' := h') (by rw [hr1.1]; exact g') (by rw [hr1.1]; exact s') (fun j o hj => by
          have hlt : j < ids.length := by rw [← hlenO, ← hlen']; exact (List.getElem?_eq_some_iff.1 hj).1
          exact hw1 j (f j) _ (hfj j hlt) (by rw [List.getElem?_map, hj]; rfl)) (fun id hid => by
          refine hw2 id fun hm => ?_
          obtain ⟨j, hj, hjj⟩ := List.getElem_of_mem hm
          refine hid j (by rw [hlenO]; exact hj) ?_
          simp [f, hj, hjj])
      have hold : ∀ j, j < S.k → old nx' lim (f j) := fun j hj => by
        have hj' : j < (S.objs q).length := by rw [hr1.1]; exact hj
        exact (g1.nums _ _ (part.at' j (S.objs q)[j] (by simp [hj']))).1
      have e3 := EnvOK.back (nx := nx') (lim := lim) (f := f) K.base e' (fun p hp r hr => hr2.2.1 p (by rw [hfin]; exact hp) r hr) (fun j hj => hρ j (by rw [hr1.1]; exact hj)) ⟨hB2, fun l r h1 _ => ⟨by rw [w2]; exact h1, fun o ho => g3.mine_loop ho (by rw [w2]; exact h1)⟩⟩ hold
      have := hk a' X2 g3 (s1.trans s3 hn1) e3 hs' (hd'.of_g g3 (by show X.w.heap.size ≤ X1.w.heap.size; rw [w1]; exact Nat.le_refl _) w2) kp'
      rw [w2] at this
      rw [hfin]
      exact this
def getsL : Nat → Nat → Heap C → List (Option (Obj C))
  | _, 0, _ => []
  | n, k + 1, h => h.get n :: getsL (n + 1) k h
theorem getsL_get : ∀ (k n : Nat) (h : Heap C) (os : List (Obj C)), getsL n k h = os.map some → ∀ j, j < k → h.get (n + j) = os[j]?
  | 0, _, _, _, _, j, hj => by omega
  | k + 1, n, h, [], e, j, hj => by simp [getsL] at e
  | k + 1, n, h, o :: os, e, j, hj => by
    simp only [getsL, List.map_cons, List.cons.injEq] at e
    cases j with
    | zero => simpa using e.1
    | succ j =>
      have := getsL_get k (n + 1) h os e.2 j (by omega)
      rw [show n + (j + 1) = n + 1 + j by omega, this]; simp
def movP (T : Tab C) (env : Env C) (h : Heap C) : List Fnd → List Nat → Option (List Nat)
  | [], ids => some ids
  | .slot t i :: r, ids => match (eget env t).refs[i]? with
    | some id => movP T env h r (ids ++ [id])
    | none => none
  | .path j p :: r, ids => match ids[j]? with
    | some idj => match h.get idj with
      | some (.var _ d) => match getPath T d p with
        | some x => match x.refs with
          | id :: _ => movP T env h r (ids ++ [id])
          | [] => none
        | none => none
      | _ => none
    | none => none
def rangeB : Nat → List Nat → Bool
  | _, [] => true
  | n, i :: l => Nat.beq i n && rangeB (n + 1) l
def objsL (h : Heap C) (g : Nat → Nat) : List Nat → Option (List (Obj C))
  | [] => some []
  | i :: l => match h.get i, objsL h g l with
    | some o, some r => some (o.ren g :: r)
    | _, _ => none
def growB {α : Type} (k : Option α) : Nat → List Nat → List (Obj C) → List (Obj C) → Option α
  | _, [], _, _ => k
  | n, i :: l, o :: os, o' :: os' => bif Nat.beq i n then growB k (n + 1) l os os' else (match o, o' with
      | .vec t _ x, .vec t' _ x' => bif decide (t' = t) then (bif Nat.blt x.length x'.length then growB k (n + 1) l os os' else none) else none
      | _, _ => none)
  | _, _, _, _ => none
def settle (T : Tab C) (fs : List Fnd) (k : Nat) (kc : List Nat) (os : List (Obj C)) (env : Env C) (h : Heap C) : Option ((Ev.X × Env C) × List (Option (Obj C))) :=
  match movP T env h fs [] with
  | none => some ((.normal, sel kc env), getsL 0 k h)
  | some ids => bif rangeB 0 ids then some ((.normal, sel kc env), getsL 0 k h) else
    bif nodupB ids && Nat.beq ids.length k && inB ids ((sel kc env).flatMap fun p => p.2.refs) && inB ids (ids.flatMap fun i => match h.get i with | some o => o.refs | none => []) then (match objsL h (idx ids) ids with
      | some os' => growB (some ((.normal, renE (idx ids) (sel kc env)), os'.map some)) 0 ids os os'
      | none => none) else none
def rndO (T : Tab C) (Φ : Fns C) (g key n k : Nat) (kc kf : List Nat) (fs : List Fnd) (env : Env C) (os : List (Obj C)) : Option ((Ev.X × Env C) × List (Option (Obj C))) := (evC T Φ n g (bodyAt Φ g key) env).run (0, 0) (hpOf 0 os) k [] fun a h _ _ => match a.1 with
  | .normal => settle T fs k kc os a.2 h
  | x => some ((x, sel kf a.2), getsL 0 k h)
theorem growB_some {α : Type} {k : Option α} {a : α} : ∀ (l : List Nat) (n : Nat) (os os' : List (Obj C)), growB k n l os os' = some a → k = some a ∧ ∀ j, j < l.length → l.getD j 0 = n + j ∨ ∃ t own x own' x', os[j]? = some (.vec t own x) ∧ os'[j]? = some (.vec t own' x') ∧ x.length < x'.length
  | [], n, os, os', h => ⟨by simpa [growB] using h, fun j hj => by simp at hj⟩
  | i :: l, n, [], _, h => by simp [growB] at h
  | i :: l, n, o :: os, [], h => by simp [growB] at h
  | i :: l, n, o :: os, o' :: os', h => by
    simp only [growB] at h
    have step : growB k (n + 1) l os os' = some a → (i = n ∨ ∃ t own x own' x', o = .vec t own x ∧ o' = .vec t own' x' ∧ x.length < x'.length) → k = some a ∧ ∀ j, j < (i :: l).length → (i :: l).getD j 0 = n + j ∨ ∃ t own x own' x', (o :: os)[j]? = some (.vec t own x) ∧ (o' :: os')[j]? = some (.vec t own' x') ∧ x.length < x'.length := by
      intro h1 h2
      obtain ⟨h3, h4⟩ := growB_some l (n + 1) os os' h1
      refine ⟨h3, fun j hj => ?_⟩
      cases j with
      | zero => simpa using h2
      | succ j =>
        have := h4 j (by simpa using hj)
        simp only [List.getD_cons_succ, List.getElem?_cons_succ]
        rcases this with h5 | h5
        · left; omega
        · exact .inr h5
    cases hb : Nat.beq i n with
    | true => rw [hb] at h; exact step h (.inl (Nat.eq_of_beq_eq_true hb))
    | false =>
      rw [hb] at h
      simp only [cond_false] at h
      cases o with
      | var t d => simp at h
      | map _ _ _ => simp at h
      | vec t own x =>
        cases o' with
        | var t d => simp at h
        | map _ _ _ => simp at h
        | vec t' own' x' =>
          simp only at h
          cases ht : decide (t' = t) with
          | false => rw [ht] at h; cases h
          | true =>
            rw [ht] at h
            have ht : t' = t := by simpa using ht
            subst ht
            cases hl : Nat.blt x.length x'.length with
            | false => rw [hl] at h; cases h
            | true =>
              rw [hl] at h
              exact step h (.inr ⟨t', own, x, own', x', rfl, rfl, by simpa [Nat.blt_eq] using hl⟩)
theorem objsL_some {h : Heap C} {g : Nat → Nat} : ∀ (l : List Nat) (os : List (Obj C)), objsL h g l = some os → os.length = l.length ∧ ∀ (j i : Nat), l[j]? = some i → ∃ o, h.get i = some o ∧ os[j]? = some (o.ren g)
  | [], os, e => by simp [objsL] at e; subst e; simp
  | i :: l, os, e => by
    simp only [objsL] at e
    cases h1 : h.get i with
    | none => simp [h1] at e
    | some o =>
      cases h2 : objsL h g l with
      | none => simp [h1, h2] at e
      | some r =>
        simp only [h1, h2, Option.some.injEq] at e
        subst e
        obtain ⟨a1, a2⟩ := objsL_some l r h2
        refine ⟨by simp [a1], fun j i' hj => ?_⟩
        cases j with
        | zero => simp at hj; subst hj; exact ⟨o, h1, rfl⟩
        | succ j => exact a2 j i' (by simpa using hj)
def LedO {σ : Type} (S : LoopO C σ) (s : σ) (r : (Ev.X × Env C) × List (Option (Obj C))) : Prop :=
  (r.1.1 = .normal ∧ ∃ s', S.Inv s' ∧ S.μ s' < S.μ s ∧ S.fin s' = S.fin s ∧ S.fobjs s' = S.fobjs s ∧ r.1.2 = S.canon s' ∧ r.2 = (S.objs s').map some) ∨ (r.1.1 ≠ .normal ∧ r.1 = S.fin s ∧ r.2 = (S.fobjs s).map some)
theorem sel_get : ∀ (l : List Nat) (env : Env C) (p : Nat × D C), p ∈ sel l env → eget env p.1 = p.2 := fun l env p hp => sel_sub l env p hp
theorem settle_some {fs : List Fnd} {k : Nat} {kc : List Nat} {os : List (Obj C)} {env : Env C} {h : Heap C} {r : (Ev.X × Env C) × List (Option (Obj C))} (hr : settle T fs k kc os env h = some r) (hos : os.length = k) :
    (r = ((.normal, sel kc env), getsL 0 k h)) ∨ ∃ env0 os', r = ((.normal, env0), os'.map some) ∧ ∃ f, (∀ p ∈ env0, eget env p.1 = p.2.ren f) ∧ (os'.length = k ∧ (∀ j o, os'[j]? = some o → h.get (f j) = some (o.ren f)) ∧ (∀ i j, i < os'.length → j < os'.length → f i = f j → i = j)) ∧ Grow os os' f := by
  unfold settle at hr
  cases hm : movP T env h fs [] with
  | none => rw [hm] at hr; simp only [Option.some.injEq] at hr; exact .inl hr.symm
  | some ids =>
    rw [hm] at hr
    simp only at hr
    cases hb : rangeB 0 ids with
    | true => rw [hb] at hr; simp only [cond_true, Option.some.injEq] at hr; exact .inl hr.symm
    | false =>
      rw [hb] at hr
      simp only [cond_false] at hr
      cases hc : nodupB ids && Nat.beq ids.length k && inB ids ((sel kc env).flatMap fun p => p.2.refs) && inB ids (ids.flatMap fun i => match h.get i with | some o => o.refs | none => []) with
      | false => rw [hc] at hr; cases hr
      | true =>
        rw [hc] at hr
        simp only [cond_true] at hr
        simp only [Bool.and_eq_true] at hc
        obtain ⟨⟨⟨c1, c2⟩, c3⟩, c4⟩ := hc
        have c1 := nodupB_spec c1
        have c2 := Nat.eq_of_beq_eq_true c2
        have c3 := inB_spec c3
        have c4 := inB_spec c4
        cases ho : objsL h (idx ids) ids with
        | none => rw [ho] at hr; cases hr
        | some os' =>
          rw [ho] at hr
          simp only at hr
          obtain ⟨q1, q2⟩ := growB_some _ _ _ _ hr
          simp only [Option.some.injEq] at q1
          obtain ⟨o1, o2⟩ := objsL_some _ _ ho
          have hff : ∀ x, x ∈ ids → ids.getD (idx ids x) 0 = x := fun x hx => by
            have := idx_spec ids x hx
            simp only [List.getD_eq_getElem?_getD, this, Option.getD_some]
          refine .inr ⟨_, os', q1.symm, fun j => ids.getD j 0, fun p hp => ?_, ⟨by rw [o1, c2], fun j o hj => ?_, fun i j hi hj hij => ?_⟩, fun j hj => ?_⟩
          · simp only [renE, List.mem_map] at hp
            obtain ⟨p0, hp0, rfl⟩ := hp
            simp only
            rw [sel_get kc env p0 hp0, D.ren_ren]
            intro id hid
            exact hff id (c3 id (List.mem_flatMap.2 ⟨p0, hp0, hid⟩))
          · have hjl : j < ids.length := by rw [← o1]; exact (List.getElem?_eq_some_iff.1 hj).1
            obtain ⟨o0, a1, a2⟩ := o2 j (ids.getD j 0) (by simp [hjl])
            rw [hj] at a2
            simp only [Option.some.injEq] at a2
            rw [a1, a2, Obj.ren_ren]
            intro id hid
            exact hff id (c4 id (List.mem_flatMap.2 ⟨ids.getD j 0, by rw [List.getD_eq_getElem?_getD]; simp [hjl], by rw [a1]; exact hid⟩))
          · rw [o1] at hi hj
            exact (List.getElem?_inj hi c1 (j := j)).1 (by
              simp only [List.getD_eq_getElem?_getD] at hij
              simp only [hi, hj, List.getElem?_eq_getElem, Option.getD_some] at hij ⊢
              rw [hij])
          · have := q2 j (by rw [c2, ← hos]; exact hj)
            simpa using this
theorem FLaws.addRoundsO (K : PLaws P T) (F : FLaws P T Φ) {g key : Nat} (hkeys : keysB (loopsOf Φ g) = true) {σ : Type} (S : LoopO C σ) (n : Nat) (kc kf : List Nat) (fs0 : List Fnd) (fs : List Fnd) (slots : List Nat) (res : Env C → List (Obj C) → RT C)
    (hr : ∀ q, S.Inv q → RefsOK S.k (S.canon q) (S.objs q) ∧ RefsOK S.k (S.fin q).2 (S.fobjs q) ∧ Leaf (rndO T Φ g key n S.k kc kf fs0 (S.canon q) (S.objs q)) (LedO S q))
    (hres : ∀ env0 os x env' os', (res env0 os).val = some ((x, env'), os') → ∃ q, S.Inv q ∧ (∀ p ∈ S.canon q, p ∈ env0) ∧ os = S.objs q ∧ S.fin q = (x, env') ∧ S.fobjs q = os') : FLaws P T (Φ.addLoop g key (sumO T fs slots res)) := by
  refine F.addLoop (loop_obj K F (S := S) (fun fn body b hf hb hm hkey q hI => ?_) hres)
  obtain ⟨h1, h2, r, h3, h4⟩ := hr q hI
  rw [rndO, bodyAt_eq hkeys hf hb hm hkey] at h3
  obtain ⟨⟨x, env'⟩, h', nx', tr, h5, h6⟩ := Pg.run_some h3
  refine ⟨h1, h2, n, x, env', h', nx', tr, h5, ?_⟩
  cases x with
  | normal =>
    simp only at h6
    rcases settle_some h6 h1.1 with hs | ⟨env0, os', hs, f, f1, ⟨f2, f3, f4⟩, f5⟩
    · subst hs
      rcases h4 with ⟨h4, s', a1, a2, a3, a3b, a4, a5⟩ | ⟨h4, h7, h8⟩
      · have hg := getsL_get S.k 0 h' _ a5
        simp only [Nat.zero_add] at hg
        exact .inl ⟨rfl, s', a1, a2, a3, a3b, by rw [← a4]; exact sel_sub _ _, hg⟩
      · exact (h4 rfl).elim
    · subst hs
      rcases h4 with ⟨h4, s', a1, a2, a3, a3b, a4, a5⟩ | ⟨h4, h7, h8⟩
      · simp only at a4 a5
        have a5 : os' = S.objs s' := List.map_inj_right (fun _ _ h => Option.some.inj h) |>.1 a5
        subst a4
        subst a5
        obtain ⟨b1, _⟩ := hr s' a1
        exact .inr (.inl ⟨rfl, s', f, a1, a2, a3, a3b, f1, ⟨f3, f4, by rw [b1.1]; exact b1.2.2⟩, f5⟩)
      · exact (h4 rfl).elim
  | exit id =>
    simp only [Option.some.injEq] at h6
    subst h6
    rcases h4 with ⟨h4, _⟩ | ⟨h4, h7, h8⟩
    · cases h4
    · have hg := getsL_get S.k 0 h' _ h8
      simp only [Nat.zero_add] at hg
      exact .inr (.inr ⟨by simp, by rw [← h7], by rw [← h7]; exact sel_sub _ _, hg⟩)
  | ret =>
    simp only [Option.some.injEq] at h6
    subst h6
    rcases h4 with ⟨h4, _⟩ | ⟨h4, h7, h8⟩
    · cases h4
    · have hg := getsL_get S.k 0 h' _ h8
      simp only [Nat.zero_add] at hg
      exact .inr (.inr ⟨by simp, by rw [← h7], by rw [← h7]; exact sel_sub _ _, hg⟩)
end
section
variable {C : Cdc} {P : Program} {T : Tab C} {Φ : Fns C}
open Pg (Ex)
structure LoopR (C : Cdc) (σ : Type) where
  k : Nat
  canon : σ → Env C
  objs : σ → List (Obj C)
  fin : σ → RT C
  Inv : σ → Prop
  μ : σ → Nat
def LedR {σ : Type} (S : LoopR C σ) (s : σ) (r : (Ev.X × Env C) × List (Option (Obj C))) : Prop :=
  (r.1.1 = .normal ∧ ∃ s', S.Inv s' ∧ S.μ s' < S.μ s ∧ (S.fin s').val = (S.fin s).val ∧ r.1.2 = S.canon s' ∧ r.2 = (S.objs s').map some) ∨ (r.1.1 ≠ .normal ∧ ∃ os, (S.fin s).val = some (r.1, os) ∧ r.2 = os.map some)
def RT.refsOK (k : Nat) : RT C → Prop
  | .fail => False
  | .leaf _ env os => RefsOK k env os
  | .br _ l r => l.refsOK k ∧ r.refsOK k
theorem RT.refsOK_val {k : Nat} : ∀ {t : RT C}, t.refsOK k → ∃ x env os, t.val = some ((x, env), os) ∧ RefsOK k env os
  | .leaf x env os, h => ⟨x, env, os, rfl, h⟩
  | .br b l r, h => by
    cases b with
    | true => exact RT.refsOK_val (t := l) h.1
    | false => exact RT.refsOK_val (t := r) h.2
def LoopR.toO {σ : Type} (S : LoopR C σ) : LoopO C σ where
  k := S.k
  canon := S.canon
  objs := S.objs
  fin q := match (S.fin q).val with
    | some r => r.1
    | none => (.ret, [])
  fobjs q := match (S.fin q).val with
    | some r => r.2
    | none => []
  Inv := S.Inv
  μ := S.μ
def resR {σ : Type} (S : LoopR C σ) (d : Env C → List (Obj C) → Option (Bool × σ)) (env : Env C) (os : List (Obj C)) : RT C := match d env os with
  | some (b, q) => .br b (S.fin q) .fail
  | none => .fail
def sumR (T : Tab C) (fs : List Fnd) (slots : List Nat) {σ : Type} (S : LoopR C σ) (d : Env C → List (Obj C) → Option (Bool × σ)) : Env C → Pg C (Ev.X × Env C) := sumO T fs slots (resR S d)
theorem FLaws.addRoundsR (K : PLaws P T) (F : FLaws P T Φ) {g key : Nat} (hkeys : keysB (loopsOf Φ g) = true) {σ : Type} (S : LoopR C σ) (n : Nat) (kc kf : List Nat) (fs : List Fnd) (slots : List Nat) (d : Env C → List (Obj C) → Option (Bool × σ))
    (hr : ∀ q, S.Inv q → RefsOK S.k (S.canon q) (S.objs q) ∧ (S.fin q).refsOK S.k ∧ Leaf (rndO T Φ g key n S.k kc kf fs (S.canon q) (S.objs q)) (LedR S q))
    (hd : ∀ env os b q, d env os = some (b, q) → b = true → S.Inv q ∧ S.canon q = env ∧ S.objs q = os) : FLaws P T (Φ.addLoop g key (sumR T fs slots S d)) := by
  refine F.addRoundsO K hkeys S.toO n kc kf fs fs slots (resR S d) (fun q hI => ?_) ?_
  · obtain ⟨h1, h2, r, h3, h4⟩ := hr q hI
    obtain ⟨x, env, os, hv, hok⟩ := RT.refsOK_val h2
    refine ⟨h1, by simp only [LoopR.toO, hv]; exact hok, r, h3, ?_⟩
    rcases h4 with ⟨a1, s', a2, a3, a4, a5, a6⟩ | ⟨a1, os', a2, a3⟩
    · exact .inl ⟨a1, s', a2, a3, by simp only [LoopR.toO, a4], by simp only [LoopR.toO, a4], a5, a6⟩
    · exact .inr ⟨a1, by simp only [LoopR.toO, a2], by simp only [LoopR.toO, a2]; exact a3⟩
  · intro env0 os x env' os' h
    unfold resR at h
    split at h
    · rename_i b q hq
      cases b with
      | false => simp [RT.val] at h
      | true =>
        obtain ⟨h1, h2, h3⟩ := hd _ _ _ _ hq rfl
        simp only [RT.val, cond_true] at h
        exact ⟨q, h1, fun p hp => by rw [← h2]; exact hp, h3.symm, by simp only [LoopR.toO, h], by simp only [LoopR.toO, h]⟩
    · simp [RT.val] at h
def staticD {α : Type} (b : Bool) (x : α) : Option α := bif b then some x else none
theorem staticD_some {α : Type} {b : Bool} {x y : α} (h : staticD b x = some y) : b = true ∧ x = y := by
  cases b with
  | false => cases h
  | true => exact ⟨rfl, Option.some.inj h⟩
theorem leafR_go {σ : Type} {S : LoopR C σ} {s : σ} {env : Env C} {os : List (Option (Obj C))} (s' : σ) (h1 : S.Inv s') (h2 : S.μ s' < S.μ s) (h3 : (S.fin s').val = (S.fin s).val) (h4 : env = S.canon s') (h5 : os = (S.objs s').map some) : Leaf (some ((Ev.X.normal, env), os)) (LedR S s) :=
  leaf_some.2 (.inl ⟨rfl, s', h1, h2, h3, h4, h5⟩)
theorem leafR_exit {σ : Type} {S : LoopR C σ} {s : σ} {i : Nat} {env : Env C} {os : List (Option (Obj C))} (os' : List (Obj C)) (h1 : (S.fin s).val = some ((.exit i, env), os')) (h2 : os = os'.map some) : Leaf (some ((Ev.X.exit i, env), os)) (LedR S s) :=
  leaf_some.2 (.inr ⟨by simp, os', h1, h2⟩)
theorem leafR_ret {σ : Type} {S : LoopR C σ} {s : σ} {env : Env C} {os : List (Option (Obj C))} (os' : List (Obj C)) (h1 : (S.fin s).val = some ((.ret, env), os')) (h2 : os = os'.map some) : Leaf (some ((Ev.X.ret, env), os)) (LedR S s) :=
  leaf_some.2 (.inr ⟨by simp, os', h1, h2⟩)
end
theorem wrapT {n : Int} (h : -9223372036854775808 ≤ n ∧ n ≤ 9223372036854775807) : IntKind.i64.wrap n = n := wrap_id h.1 h.2
section
variable {C : Cdc} {P : Program} {T : Tab C} {Φ : Fns C}
open Pg (Ex)
noncomputable def cdec (P : Prop) : Bool := @decide P (Classical.propDecidable P)
theorem cdec_iff {P : Prop} : cdec P = true ↔ P := by
  unfold cdec
  exact @decide_eq_true_iff P (Classical.propDecidable P)
theorem cdec_true {P : Prop} (h : P) : cdec P = true := cdec_iff.2 h
structure FunR (C : Cdc) (σ : Type) where
  k : Nat
  args : σ → List (D C)
  objs : σ → List (Obj C)
  fin : σ → RT C
  Inv : σ → Prop
theorem EnvOK.args (K : PLaws P T) {X : Cx} {nx : Nat} {lim : Lim} {args : List (D C)} {vs : List Value} (h : RVs T X args vs) (hr : ∀ a ∈ args, ∀ id ∈ D.refs a, old nx lim id) : EnvOK T X nx lim (eargs 0 args) (⟨vs⟩ : Array Value) := by
  intro t
  rw [eargs_get]
  simp only [Nat.zero_le, if_true, Nat.sub_zero]
  refine ⟨?_, ?_⟩
  · have := h.get t
    have e : (⟨vs⟩ : Array Value).getD t undef = vs.getD t undef := by simp [Array.getD_eq_getD_getElem?]
    rw [e]; exact this
  · by_cases ht : t < args.length
    · exact hr _ (by simp [List.getD_eq_getElem?_getD, ht])
    · have : args.getD t .top = .top := by
        simp only [List.getD_eq_getElem?_getD]
        rw [List.getElem?_eq_none (by omega)]; rfl
      rw [this]; simp [D.refs]
end
def withinB (n a b : Int) : Bool := decide (a ≤ n) && decide (n ≤ b)
theorem withinB_iff {x a b : Int} : withinB x a b = true ↔ a ≤ x ∧ x ≤ b := by simp [withinB]
def lRow (first n many : Int) : Int := if 0 ≤ n ∧ n < many then first + n else -1
def lRing (p w : Int) : Int := if 0 ≤ p ∧ 2 ≤ w ∧ w ≤ 8 then 13 + p % w else -1
def lStream (q o : Int) : Int := if 0 ≤ q ∧ q ≤ 2 ∧ 0 ≤ o then 51 + 16 * q + o % 16 else -1
def lField (first slot f many fields : Int) : Int := if 0 ≤ slot ∧ slot < many ∧ 0 ≤ f ∧ f < fields then first + slot * fields + f else -1
def okSet (c w d n : Int) : Bool := withinB c 1 4 && withinB w 2 8 && withinB d 1 4 && withinB n 4 40
def lOwn (c w d n : Int) (client : Int) (node : Bool) : Int × Int := if okSet c w d n = true ∧ 0 ≤ client ∧ client < c then (client * (bif node then n else d), bif node then n else d) else (0, 0)
theorem mod_range {p w : Int} (hw : 0 < w) : 0 ≤ p % w ∧ p % w < w := ⟨Int.emod_nonneg _ (by omega), Int.emod_lt_of_pos _ hw⟩
theorem withinB_no {x a b : Int} (h : withinB x a b = false) : ¬ (a ≤ x ∧ x ≤ b) := by rw [← withinB_iff]; simp [h]
theorem tmod_nn {p w : Int} (h : 0 ≤ p) : p.tmod w = p % w := Int.tmod_eq_emod_of_nonneg h
theorem cond2 {α : Type} {c : Bool} {x y z : α} (h1 : c = true → x = z) (h2 : c = false → y = z) : cond c x y = z := by cases c; exact h2 rfl; exact h1 rfl
theorem okSet_le {c w d n : Int} (h : okSet c w d n = true) : (1 ≤ c ∧ c ≤ 4) ∧ (2 ≤ w ∧ w ≤ 8) ∧ (1 ≤ d ∧ d ≤ 4) ∧ 4 ≤ n ∧ n ≤ 40 := by
  simp only [okSet, Bool.and_eq_true, withinB_iff] at h; omega
def newCells : List Int := 0 :: 1 :: List.replicate 289 0 ++ (List.replicate 160 [(0 : Int), -1, 0]).flatten
open Go.Proofs
abbrev RO_ : Type := Option ((X × Env RC) × List (Option (Obj RC)))
abbrev DO_ : Type := Option (D RC)
set_option maxRecDepth 100000
noncomputable def uKa : Fns RC := ua_1.addSpec 37 fun _ => none
noncomputable def uKb : Fns RC := uKa.addSpec 38 fun _ => none
noncomputable def uKc : Fns RC := uKb.addSpec 41 fun _ => none
noncomputable def uKd : Fns RC := uKc.addSpec 42 fun _ => none
noncomputable def uKe : Fns RC := uKd.addSpec 43 fun _ => none
theorem uKa_laws : FLaws Tryd.prog s12 uKa := ua_1_laws.addSpec fun args d h => by cases h
theorem uKb_laws : FLaws Tryd.prog s12 uKb := uKa_laws.addSpec fun args d h => by cases h
theorem uKc_laws : FLaws Tryd.prog s12 uKc := uKb_laws.addSpec fun args d h => by cases h
theorem uKd_laws : FLaws Tryd.prog s12 uKd := uKc_laws.addSpec fun args d h => by cases h
theorem uKe_laws : FLaws Tryd.prog s12 uKe := uKd_laws.addSpec fun args d h => by cases h
noncomputable def outP (c : Int) := evF s12 uKe 60 12 [.int .i64 c]
noncomputable def outR (c : Int) := evF s12 uKe 60 13 [.int .i64 c]
theorem outP_eq (c : Int) : outP c = (let Z0 : DO_ := some (D.str (Array.toList #[])); bif decide (c < (0 : Int)) then Z0 else bif decide ((771 : Int) ≤ c) then Z0 else bif decide ((99 : Int) ≤ c) then none else none) := by kernel_rfl
theorem outR_eq (c : Int) : outR c = (let Z0 : DO_ := some (D.str (Array.toList #[])); let Z1 : List UInt8 := [(84 : UInt8)]; let Z2 : DO_ := none; let Z3 : Int := Int.tmod (IntKind.wrap .i64 (c - (291 : Int))) (3 : Int); bif decide (c < (0 : Int)) then Z0 else bif decide ((771 : Int) ≤ c) then Z0 else bif c == (0 : Int) then some (D.str (Array.toList (List.toArray ((70 : UInt8) :: (82 : UInt8) :: (79 : UInt8) :: (78 : UInt8) :: Z1)))) else bif c == (1 : Int) then some (D.str (Array.toList #[(84 : UInt8), (65 : UInt8), (73 : UInt8), (76 : UInt8)])) else bif c == (2 : Int) then some (D.str (Array.toList #[(69 : UInt8), (80 : UInt8), (79 : UInt8), (67 : UInt8), (72 : UInt8)])) else bif c == (3 : Int) then some (D.str (Array.toList #[(77 : UInt8), (65 : UInt8), (82 : UInt8), (75 : UInt8)])) else bif c == (4 : Int) then some (D.str (Array.toList (List.toArray ((67 : UInt8) :: (75 : UInt8) :: (80 : UInt8) :: Z1)))) else bif decide (c < (9 : Int)) then Z2 else bif decide (c < (13 : Int)) then Z2 else bif decide (c < (21 : Int)) then Z2 else bif decide (c < (45 : Int)) then Z2 else bif decide (c < (48 : Int)) then Z2 else bif decide (c < (51 : Int)) then Z2 else bif decide (c < (99 : Int)) then Z2 else bif decide (c < (291 : Int)) then Z2 else bif decide (List.length (bif Z3 == (2 : Int) then Array.toList #[(86 : UInt8), (65 : UInt8), (76 : UInt8), (85 : UInt8), (69 : UInt8)] else bif Z3 == (1 : Int) then Array.toList (List.toArray ((78 : UInt8) :: (69 : UInt8) :: (88 : UInt8) :: Z1)) else Array.toList #[(71 : UInt8), (69 : UInt8), (78 : UInt8)]) + (2 : Nat) ≤ (1000000000 : Nat)) then Z2 else Z2) := by kernel_rfl
theorem outP_ok (c : Int) (h : c < 0 ∨ 771 ≤ c) : outP c = some (.str []) := by
  (rw [outP_eq]; conv => zeta)
  by_cases h0 : c < 0
  · simp only [decide_eq_true h0, cond_true]
  · have h1 : (771 : Int) ≤ c := by omega
    simp only [decide_eq_false h0, decide_eq_true h1, cond_true, cond_false]
theorem outR_ok (c : Int) (h : c < 0 ∨ 771 ≤ c) : outR c = some (.str []) := by
  (rw [outR_eq]; conv => zeta)
  by_cases h0 : c < 0
  · simp only [decide_eq_true h0, cond_true]
  · have h1 : (771 : Int) ≤ c := by omega
    simp only [decide_eq_false h0, decide_eq_true h1, cond_true, cond_false]
def name_sp : List (D RC) → Option (Bool × D RC)
  | [.int .i64 c] => some (true, .str (nmI c))
  | _ => none
theorem nmP_all : ∀ k, k < 771 → evF s12 ua_1 60 12 [.int .i64 (Int.ofNat k)] = some (.str (nm k)) := by
  intro k hk
  rcases Nat.lt_or_ge k 99 with h | h
  · exact nmPall k (Nat.zero_le _) h
  · exact nmQall k h hk
theorem nmR_all : ∀ k, k < 771 → evF s12 ua_1 60 13 [.int .i64 (Int.ofNat k)] = some (.str (nm k)) := fun k hk => nmRall k (Nat.zero_le _) hk
theorem nmI_in {k : Nat} (h : k < 771) : nmI (Int.ofNat k) = nm k := by
  unfold nmI
  rw [decide_eq_true (show (0 : Int) ≤ Int.ofNat k from Int.natCast_nonneg k), decide_eq_true (show Int.ofNat k < 771 by simp; omega)]
  rfl
theorem nmI_out {c : Int} (h : c < 0 ∨ 771 ≤ c) : nmI c = [] := by
  unfold nmI
  rcases h with h | h
  · rw [decide_eq_false (show ¬ 0 ≤ c by omega)]; rfl
  · rw [decide_eq_false (show ¬ c < 771 by omega), Bool.and_false]; rfl
theorem name_law {f : FuncId} (hin : ∀ k, k < 771 → evF s12 ua_1 60 f [.int .i64 (Int.ofNat k)] = some (.str (nm k))) (hout : ∀ c : Int, (c < 0 ∨ 771 ≤ c) → evF s12 uKe 60 f [.int .i64 c] = some (.str []))
    (args : List (D RC)) (d : D RC) (hs : name_sp args = some (true, d)) : (∀ a ∈ args, D.refs a = []) ∧ BareLaw Tryd.prog s12 f args d := by
  unfold name_sp at hs
  split at hs
  · rename_i c
    simp only [Option.some.injEq, Prod.mk.injEq, true_and] at hs
    subst hs
    have hargs : ∀ a ∈ [(D.int .i64 c : D RC)], D.refs a = [] := by intro a ha; simp at ha; subst ha; rfl
    refine ⟨hargs, ?_⟩
    by_cases hc : c < 0 ∨ 771 ≤ c
    · rw [nmI_out hc]
      exact evF_bare s12_laws uKe_laws (hout c hc) hargs
    · obtain ⟨k, rfl⟩ : ∃ k : Nat, c = Int.ofNat k := ⟨c.toNat, by simp; omega⟩
      have hk : k < 771 := by simp at hc; omega
      rw [nmI_in hk]
      exact evF_bare s12_laws ua_1_laws (hin k hk) hargs
  · cases hs
noncomputable def uNa : Fns RC := ua_1.addSpec 12 name_sp
noncomputable def uN : Fns RC := uNa.addSpec 13 name_sp
theorem uNa_laws : FLaws Tryd.prog s12 uNa := ua_1_laws.addSpec (name_law nmP_all outP_ok)
theorem uN_laws : FLaws Tryd.prog s12 uN := uNa_laws.addSpec (name_law nmR_all outR_ok)
theorem keyEq_str12 : (keyEq s12 RTy.str : List UInt8 → List UInt8 → Bool) = seq8 := by funext a b; rfl
structure findP_St where
  m : List (List UInt8 × Int)
  i : Nat
noncomputable def findP_c (m : List (List UInt8 × Int)) (i : Nat) : Env RC := [(4, .mp 0), (9, .int .i64 (i : Int))]
def findP_o (m : List (List UInt8 × Int)) (i : Nat) : List (Obj RC) := [.map .str .int m]
noncomputable def findP_r (m : List (List UInt8 × Int)) (i : Nat) := rndO s12 uN 10 3 40 1 [4, 9] [] [.slot 4 0] (findP_c m i) (findP_o m i)
theorem findP_eq (m : List (List UInt8 × Int)) (i : Nat) : findP_r m i = (let Z0 : Int := (↑i : Int); bif decide (Z0 < (771 : Int)) then some ((X.normal, [(4, D.mp (0 : Nat)), (9, D.int .i64 (IntKind.wrap .i64 (Z0 + (1 : Int))))]), [some (Obj.map RTy.str RTy.int (mput (keyEq s12 RTy.str) (nmI Z0) Z0 m))]) else some ((X.exit (0 : Nat), []), [some (Obj.map RTy.str RTy.int m)])) := by kernel_rfl
noncomputable def findP_fin (m : List (List UInt8 × Int)) (i : Nat) : RT RC := .leaf (.exit 0) [] [.map .str .int (nmMap 771)]
def findP_Inv (m : List (List UInt8 × Int)) (i : Nat) : Prop := i ≤ 771 ∧ m = nmMap i
noncomputable def findP_S : LoopR RC findP_St where
  k := 1
  canon q := findP_c q.m q.i
  objs q := findP_o q.m q.i
  fin q := findP_fin q.m q.i
  Inv q := findP_Inv q.m q.i
  μ q := 771 - q.i
theorem findP_round (m : List (List UInt8 × Int)) (i : Nat) (hI : findP_Inv m i) : Leaf (findP_r m i) (LedR findP_S ⟨m, i⟩) := by
  (rw [findP_eq]; conv => zeta)
  unfold findP_Inv at hI
  obtain ⟨hi, rfl⟩ := hI
  by_cases hlt : i < 771
  · have v1 : IntKind.i64.wrap ((i : Int) + 1) = ((i + 1 : Nat) : Int) := by rw [wrap_id (by omega) (by omega)]; simp
    have e1 : nmI (i : Int) = nm i := nmI_in hlt
    rw [decide_eq_true (show (i : Int) < 771 by omega), v1, keyEq_str12, e1, nmMap_put hlt]
    simp only [cond_true]
    exact leafR_go ⟨nmMap (i + 1), i + 1⟩ ⟨hlt, rfl⟩ (by simp only [findP_S]; omega) rfl rfl rfl
  · obtain rfl : i = 771 := by omega
    rw [decide_eq_false (show ¬ ((771 : Nat) : Int) < 771 by omega)]
    simp only [cond_false]
    exact leafR_exit (findP_o (nmMap 771) 771) rfl rfl
noncomputable def findP_d (env : Env RC) (os : List (Obj RC)) : Option (Bool × findP_St) := match env, os with
  | [(4, .mp 0), (9, .int .i64 x0)], [.map .str .int m] => staticD (true) (decide (x0 = 0) && cdec (nmNil m), ⟨m, 0⟩)
  | _, _ => none
noncomputable def ub_1 := uN.addLoop 10 3 (sumR s12 [.slot 4 0] [4, 9] findP_S findP_d)
theorem ub_1_laws : FLaws Tryd.prog s12 ub_1 := by
  refine uN_laws.addRoundsR s12_laws (by kernel_rfl) findP_S 40 [4, 9] [] [.slot 4 0] [4, 9] findP_d (fun q hI => ?_) ?_
  · obtain ⟨m, i⟩ := q
    refine ⟨?_, ?_, findP_round m i hI⟩
    · simp_all [RefsOK, findP_S, findP_c, findP_o, findP_Inv, D.refs, Obj.refs, rEnc]
    · simp_all [findP_S, findP_fin, findP_o, findP_Inv, RT.refsOK, RefsOK, D.refs, Obj.refs, rEnc]
  · intro env os b q hd_ hb
    unfold findP_d at hd_
    split at hd_
    · obtain ⟨hs, hd_⟩ := staticD_some hd_
      cases hd_
      simp only [Bool.and_eq_true, decide_eq_true_eq] at hb
      obtain ⟨e0, e1⟩ := hb
      subst e0
      exact ⟨⟨Nat.zero_le _, cdec_iff.1 e1⟩, rfl, rfl⟩
    · cases hd_
def fndD (s : List UInt8) : D RC := .tup (.acons (.int .i64 (((fnd s 0 771).getD 0 : Nat) : Int)) (.acons (.bool (fnd s 0 771).isSome) .anil))
noncomputable def findPf_s (s : List UInt8) : Option (Bool × D RC) := some (true, fndD s)
noncomputable def findPf_sp : List (D RC) → Option (Bool × D RC)
  | [.str s] => findPf_s s
  | _ => none
noncomputable def findPf_e (s : List UInt8) := evF s12 ub_1 40 10 [.str s]
theorem findPf_eq (s : List UInt8) : findPf_e s = (let Z0 : Option Int := mget (keyEq s12 RTy.str) s (nmMap (771 : Nat)); bif cdec (nmNil []) then some (D.tup (D.acons (D.int .i64 (Option.getD Z0 (0 : Int))) (.acons (D.bool (Option.isSome Z0)) .anil))) else none) := by kernel_rfl
theorem findPf_ok (s : List UInt8) (h : (true) = true) : findPf_e s = some (fndD s) := by
  (rw [findPf_eq]; conv => zeta)
  have c1 : cdec (nmNil []) = true := cdec_true rfl
  rw [keyEq_str12, mget_nm]
  try rw [c1]
  unfold fndD
  cases fnd s 0 771 <;> rfl
noncomputable def ub_2 := ub_1.addSpec 10 findPf_sp
theorem ub_2_laws : FLaws Tryd.prog s12 ub_2 := ub_1_laws.addEv s12_laws fun args d h => by
  unfold findPf_sp at h
  split at h
  · unfold findPf_s at h
    have h1 := congrArg Prod.fst (Option.some.inj h)
    obtain rfl : _ = d := congrArg Prod.snd (Option.some.inj h)
    exact ⟨by simp [D.refs, fndD], 40, findPf_ok _ h1⟩
  · cases h
structure findR_St where
  s : List UInt8
  i : Nat
noncomputable def findR_c (s : List UInt8) (i : Nat) : Env RC := [(0, .str s), (2, .int .i64 0), (3, .bool false), (4, .int .i64 (i : Int))]
def findR_o (s : List UInt8) (i : Nat) : List (Obj RC) := []
noncomputable def findR_r (s : List UInt8) (i : Nat) := rndO s12 ub_2 11 4 40 0 [0, 2, 3, 4] [2, 3] [] (findR_c s i) (findR_o s i)
theorem findR_eq (s : List UInt8) (i : Nat) : findR_r s i = (let Z0 : Int := (↑i : Int); let Z1 : Nat × D RC := (2, D.int .i64 0); bif decide (Z0 < (771 : Int)) then bif nmI Z0 == s then some ((X.ret, [(2, D.int .i64 Z0), (3, D.bool true)]), []) else some ((X.normal, [(0, D.str s), Z1, (3, D.bool false), (4, D.int .i64 (IntKind.wrap .i64 (Z0 + (1 : Int))))]), []) else some ((X.exit (0 : Nat), [Z1, (3, D.bool false)]), [])) := by kernel_rfl
noncomputable def findR_fin (s : List UInt8) (i : Nat) : RT RC := .br (fnd s i (771 - i)).isSome (.leaf .ret [(2, .int .i64 (((fnd s i (771 - i)).getD 0 : Nat) : Int)), (3, .bool true)] []) (.leaf (.exit 0) [(2, .int .i64 0), (3, .bool false)] [])
def findR_Inv (s : List UInt8) (i : Nat) : Prop := i ≤ 771
noncomputable def findR_S : LoopR RC findR_St where
  k := 0
  canon q := findR_c q.s q.i
  objs q := findR_o q.s q.i
  fin q := findR_fin q.s q.i
  Inv q := findR_Inv q.s q.i
  μ q := 771 - q.i
theorem findR_round (s : List UInt8) (i : Nat) (hI : findR_Inv s i) : Leaf (findR_r s i) (LedR findR_S ⟨s, i⟩) := by
  (rw [findR_eq]; conv => zeta)
  unfold findR_Inv at hI
  by_cases hlt : i < 771
  · have v1 : IntKind.i64.wrap ((i : Int) + 1) = ((i + 1 : Nat) : Int) := by rw [wrap_id (by omega) (by omega)]; simp
    have e1 : nmI (i : Int) = nm i := nmI_in hlt
    have e2 : 771 - i = (771 - (i + 1)) + 1 := by omega
    have e3 : fnd s i (771 - i) = bif nm i == s then some i else fnd s (i + 1) (771 - (i + 1)) := by rw [e2]; exact fnd_step s i _
    rw [decide_eq_true (show (i : Int) < 771 by omega), v1, e1]
    simp only [cond_true]
    cases hb : nm i == s with
    | true =>
      rw [hb, cond_true] at e3
      simp only [cond_true]
      exact leafR_ret [] (by simp only [findR_S, findR_fin, e3, Option.isSome_some, RT.val, cond_true, Option.getD_some]) rfl
    | false =>
      rw [hb, cond_false] at e3
      simp only [cond_false]
      exact leafR_go ⟨s, i + 1⟩ hlt (by simp only [findR_S]; omega) (by simp only [findR_S, findR_fin, e3]) rfl rfl
  · obtain rfl : i = 771 := Nat.le_antisymm hI (by omega)
    rw [decide_eq_false (show ¬ ((771 : Nat) : Int) < 771 by omega)]
    simp only [cond_false]
    exact leafR_exit [] (by simp only [findR_S, findR_fin, Nat.sub_self, fnd_zero, Option.isSome_none, RT.val, cond_false]) rfl
noncomputable def findR_d (env : Env RC) (os : List (Obj RC)) : Option (Bool × findR_St) := match env, os with
  | [(0, .str s), (2, .int .i64 0), (3, .bool false), (4, .int .i64 x0)], [] => staticD (true) (decide (x0 = 0), ⟨s, 0⟩)
  | _, _ => none
noncomputable def ub_3 := ub_2.addLoop 11 4 (sumR s12 [] [0, 2, 3, 4] findR_S findR_d)
theorem ub_3_laws : FLaws Tryd.prog s12 ub_3 := by
  refine ub_2_laws.addRoundsR s12_laws (by kernel_rfl) findR_S 40 [0, 2, 3, 4] [2, 3] [] [0, 2, 3, 4] findR_d (fun q hI => ?_) ?_
  · obtain ⟨s, i⟩ := q
    refine ⟨?_, ?_, findR_round s i hI⟩
    · simp_all [RefsOK, findR_S, findR_c, findR_o, findR_Inv, D.refs, Obj.refs, rEnc]
    · simp_all [findR_S, findR_fin, findR_o, findR_Inv, RT.refsOK, RefsOK, D.refs, Obj.refs, rEnc]
  · intro env os b q hd_ hb
    unfold findR_d at hd_
    split at hd_
    · obtain ⟨hs, hd_⟩ := staticD_some hd_
      cases hd_
      simp only [Bool.and_eq_true, decide_eq_true_eq] at hb
      subst hb
      exact ⟨Nat.zero_le _, rfl, rfl⟩
    · cases hd_
noncomputable def findRf_s (s : List UInt8) : Option (Bool × D RC) := some (true, fndD s)
noncomputable def findRf_sp : List (D RC) → Option (Bool × D RC)
  | [.str s] => findRf_s s
  | _ => none
noncomputable def findRf_e (s : List UInt8) := evF s12 ub_3 40 11 [.str s]
theorem findRf_eq (s : List UInt8) : findRf_e s = (let Z0 : DO_ := some (D.tup (D.acons (D.int .i64 0) (.acons (D.bool false) .anil))); let Z1 : Option Nat := fnd s (0 : Nat) (771 : Nat); bif s == Array.toList #[] then Z0 else bif Option.isSome Z1 then some (D.tup (D.acons (D.int .i64 (↑(Option.getD Z1 (0 : Nat)) : Int)) (.acons (D.bool true) .anil))) else Z0) := by kernel_rfl
theorem findRf_ok (s : List UInt8) (h : (true) = true) : findRf_e s = some (fndD s) := by
  (rw [findRf_eq]; conv => zeta)
  unfold fndD
  by_cases hs : s = []
  · subst hs
    rw [fnd_nil 771 0 (by omega)]
    rfl
  · have hb : (s == []) = false := by
      cases h1 : s == [] with
      | false => rfl
      | true => exact (hs (eq_of_beq h1)).elim
    rw [hb]
    simp only [cond_false, Nat.sub_zero]
    cases fnd s 0 771 <;> rfl
noncomputable def ub_4 := ub_3.addSpec 11 findRf_sp
theorem ub_4_laws : FLaws Tryd.prog s12 ub_4 := ub_3_laws.addEv s12_laws fun args d h => by
  unfold findRf_sp at h
  split at h
  · unfold findRf_s at h
    have h1 := congrArg Prod.fst (Option.some.inj h)
    obtain rfl : _ = d := congrArg Prod.snd (Option.some.inj h)
    exact ⟨by simp [D.refs, fndD], 40, findRf_ok _ h1⟩
  · cases h
open Go.Proofs
def inF_s (n : Int) (a : Int) (b : Int) : Option (Bool × D RC) := some (true, .bool (withinB n a b))
def inF_sp : List (D RC) → Option (Bool × D RC)
  | [.int .i64 n, .int .i64 a, .int .i64 b] => inF_s n a b
  | _ => none
noncomputable def inF_e (n : Int) (a : Int) (b : Int) := evF s12 ub_4 20 36 [.int .i64 n, .int .i64 a, .int .i64 b]
theorem inF_eq (n : Int) (a : Int) (b : Int) : inF_e n a b = (bif decide (a ≤ n) then some (D.bool (decide (n ≤ b))) else some (D.bool false)) := by kernel_rfl
theorem inF_ok (n : Int) (a : Int) (b : Int) (h : (true) = true) : inF_e n a b = some (.bool (withinB n a b)) := by
  rw [inF_eq]
  rw [withinB]
  cases decide (a ≤ n) <;> simp
noncomputable def uc_1 := ub_4.addSpec 36 inF_sp
theorem uc_1_laws : FLaws Tryd.prog s12 uc_1 := ub_4_laws.addEv s12_laws fun args d h => by
  unfold inF_sp at h
  split at h
  · unfold inF_s at h
    have h1 := congrArg Prod.fst (Option.some.inj h)
    obtain rfl : _ = d := congrArg Prod.snd (Option.some.inj h)
    exact ⟨by simp [D.refs], 20, inF_ok _ _ _ h1⟩
  · cases h
def ringF_s (p : Int) (w : Int) : Option (Bool × D RC) := some (true, .int .i64 (lRing p w))
def ringF_sp : List (D RC) → Option (Bool × D RC)
  | [.int .i64 p, .int .i64 w] => ringF_s p w
  | _ => none
noncomputable def ringF_e (p : Int) (w : Int) := evF s12 uc_1 20 7 [.int .i64 p, .int .i64 w]
theorem ringF_eq (p : Int) (w : Int) : ringF_e p w = (let Z0 : DO_ := some (D.int .i64 (-1 : Int)); bif decide (p < (0 : Int)) then Z0 else bif !withinB w (2 : Int) (8 : Int) then Z0 else bif w == (0 : Int) then none else some (D.int .i64 (IntKind.wrap .i64 ((13 : Int) + Int.tmod p w)))) := by kernel_rfl
theorem ringF_ok (p : Int) (w : Int) (h : (true) = true) : ringF_e p w = some (.int .i64 (lRing p w)) := by
  (rw [ringF_eq]; conv => zeta)
  unfold lRing
  refine cond2 (fun h0 => ?_) fun h0 => ?_ <;> simp only [decide_eq_true_eq, decide_eq_false_iff_not] at h0
  · rw [if_neg (by omega)]
  · cases h1 : withinB w 2 8
    · have h2 := withinB_no h1
      rw [if_neg (by omega)]; rfl
    · rw [withinB_iff] at h1
      have hw : (w == 0) = false := by simp; omega
      have hm := mod_range (p := p) (w := w) (by omega)
      simp only [hw, Bool.not_true, cond_false]
      rw [tmod_nn (by omega), wrap_id (by omega) (by omega), if_pos ⟨by omega, h1.1, h1.2⟩]
noncomputable def uc_2 := uc_1.addSpec 7 ringF_sp
theorem uc_2_laws : FLaws Tryd.prog s12 uc_2 := uc_1_laws.addEv s12_laws fun args d h => by
  unfold ringF_sp at h
  split at h
  · unfold ringF_s at h
    have h1 := congrArg Prod.fst (Option.some.inj h)
    obtain rfl : _ = d := congrArg Prod.snd (Option.some.inj h)
    exact ⟨by simp [D.refs], 20, ringF_ok _ _ h1⟩
  · cases h
def ringR_s (p : Int) (w : Int) : Option (Bool × D RC) := some (true, .int .i64 (lRing p w))
def ringR_sp : List (D RC) → Option (Bool × D RC)
  | [.int .i64 p, .int .i64 w] => ringR_s p w
  | _ => none
noncomputable def ringR_e (p : Int) (w : Int) := evF s12 uc_2 20 22 [.int .i64 p, .int .i64 w]
theorem ringR_eq (p : Int) (w : Int) : ringR_e p w = (let Z0 : DO_ := some (D.int .i64 (-1 : Int)); bif decide (p < (0 : Int)) then Z0 else bif decide (w < (2 : Int)) then Z0 else bif decide ((8 : Int) < w) then Z0 else bif w == (0 : Int) then none else some (D.int .i64 (IntKind.wrap .i64 ((13 : Int) + Int.tmod p w)))) := by kernel_rfl
theorem ringR_ok (p : Int) (w : Int) (h : (true) = true) : ringR_e p w = some (.int .i64 (lRing p w)) := by
  (rw [ringR_eq]; conv => zeta)
  unfold lRing
  refine cond2 (fun h0 => ?_) fun h0 => ?_ <;> simp only [decide_eq_true_eq, decide_eq_false_iff_not] at h0
  · rw [if_neg (by omega)]
  refine cond2 (fun h1 => ?_) fun h1 => ?_ <;> simp only [decide_eq_true_eq, decide_eq_false_iff_not] at h1
  · rw [if_neg (by omega)]
  refine cond2 (fun h2 => ?_) fun h2 => ?_ <;> simp only [decide_eq_true_eq, decide_eq_false_iff_not] at h2
  · rw [if_neg (by omega)]
  have hw : (w == 0) = false := by simp; omega
  have hm := mod_range (p := p) (w := w) (by omega)
  simp only [hw, Bool.not_true, cond_false]
  rw [tmod_nn (by omega), wrap_id (by omega) (by omega), if_pos ⟨by omega, by omega, by omega⟩]
noncomputable def uc_3 := uc_2.addSpec 22 ringR_sp
theorem uc_3_laws : FLaws Tryd.prog s12 uc_3 := uc_2_laws.addEv s12_laws fun args d h => by
  unfold ringR_sp at h
  split at h
  · unfold ringR_s at h
    have h1 := congrArg Prod.fst (Option.some.inj h)
    obtain rfl : _ = d := congrArg Prod.snd (Option.some.inj h)
    exact ⟨by simp [D.refs], 20, ringR_ok _ _ h1⟩
  · cases h
def streamF_s (q : Int) (o : Int) : Option (Bool × D RC) := some (true, .int .i64 (lStream q o))
def streamF_sp : List (D RC) → Option (Bool × D RC)
  | [.int .i64 q, .int .i64 o] => streamF_s q o
  | _ => none
noncomputable def streamF_e (q : Int) (o : Int) := evF s12 uc_3 20 8 [.int .i64 q, .int .i64 o]
theorem streamF_eq (q : Int) (o : Int) : streamF_e q o = (let Z0 : DO_ := some (D.int .i64 (-1 : Int)); bif !withinB q (0 : Int) (2 : Int) then Z0 else bif decide (o < (0 : Int)) then Z0 else some (D.int .i64 (IntKind.wrap .i64 (IntKind.wrap .i64 ((51 : Int) + IntKind.wrap .i64 ((16 : Int) * q)) + Int.tmod o (16 : Int))))) := by kernel_rfl
theorem streamF_ok (q : Int) (o : Int) (h : (true) = true) : streamF_e q o = some (.int .i64 (lStream q o)) := by
  (rw [streamF_eq]; conv => zeta)
  unfold lStream
  cases h1 : withinB q 0 2
  · have h2 := withinB_no h1
    rw [if_neg (by omega)]; rfl
  · rw [withinB_iff] at h1
    simp only [Bool.not_true, cond_false]
    refine cond2 (fun h0 => ?_) fun h0 => ?_ <;> simp only [decide_eq_true_eq, decide_eq_false_iff_not] at h0
    · rw [if_neg (by omega)]
    · rw [tmod_nn (by omega), wrap_id (n := 16 * q) (by omega) (by omega), wrap_id (n := 51 + 16 * q) (by omega) (by omega), wrap_id (by omega) (by omega), if_pos ⟨h1.1, h1.2, by omega⟩]
noncomputable def uc_4 := uc_3.addSpec 8 streamF_sp
theorem uc_4_laws : FLaws Tryd.prog s12 uc_4 := uc_3_laws.addEv s12_laws fun args d h => by
  unfold streamF_sp at h
  split at h
  · unfold streamF_s at h
    have h1 := congrArg Prod.fst (Option.some.inj h)
    obtain rfl : _ = d := congrArg Prod.snd (Option.some.inj h)
    exact ⟨by simp [D.refs], 20, streamF_ok _ _ h1⟩
  · cases h
def streamR_s (q : Int) (o : Int) : Option (Bool × D RC) := some (true, .int .i64 (lStream q o))
def streamR_sp : List (D RC) → Option (Bool × D RC)
  | [.int .i64 q, .int .i64 o] => streamR_s q o
  | _ => none
noncomputable def streamR_e (q : Int) (o : Int) := evF s12 uc_4 20 29 [.int .i64 q, .int .i64 o]
theorem streamR_eq (q : Int) (o : Int) : streamR_e q o = (let Z0 : DO_ := some (D.int .i64 (-1 : Int)); bif decide (q < (0 : Int)) then Z0 else bif decide ((3 : Int) ≤ q) then Z0 else bif decide (o < (0 : Int)) then Z0 else some (D.int .i64 (IntKind.wrap .i64 (IntKind.wrap .i64 ((51 : Int) + IntKind.wrap .i64 ((16 : Int) * q)) + Int.tmod o (16 : Int))))) := by kernel_rfl
theorem streamR_ok (q : Int) (o : Int) (h : (true) = true) : streamR_e q o = some (.int .i64 (lStream q o)) := by
  (rw [streamR_eq]; conv => zeta)
  unfold lStream
  refine cond2 (fun h0 => ?_) fun h0 => ?_ <;> simp only [decide_eq_true_eq, decide_eq_false_iff_not] at h0
  · rw [if_neg (by omega)]
  refine cond2 (fun h1 => ?_) fun h1 => ?_ <;> simp only [decide_eq_true_eq, decide_eq_false_iff_not] at h1
  · rw [if_neg (by omega)]
  refine cond2 (fun h2 => ?_) fun h2 => ?_ <;> simp only [decide_eq_true_eq, decide_eq_false_iff_not] at h2
  · rw [if_neg (by omega)]
  rw [tmod_nn (by omega), wrap_id (n := 16 * q) (by omega) (by omega), wrap_id (n := 51 + 16 * q) (by omega) (by omega), wrap_id (by omega) (by omega), if_pos ⟨by omega, by omega, by omega⟩]
noncomputable def uc_5 := uc_4.addSpec 29 streamR_sp
theorem uc_5_laws : FLaws Tryd.prog s12 uc_5 := uc_4_laws.addEv s12_laws fun args d h => by
  unfold streamR_sp at h
  split at h
  · unfold streamR_s at h
    have h1 := congrArg Prod.fst (Option.some.inj h)
    obtain rfl : _ = d := congrArg Prod.snd (Option.some.inj h)
    exact ⟨by simp [D.refs], 20, streamR_ok _ _ h1⟩
  · cases h
def wakes12_s  : Option (Bool × D RC) := some (true, .bool true)
def wakes12_sp : List (D RC) → Option (Bool × D RC)
  | [] => wakes12_s 
  | _ => none
noncomputable def wakes12_e  := evF s12 uc_5 1000 9 []
theorem wakes12_ok  (h : (true) = true) : wakes12_e  = some (.bool true) := by
  kernel_rfl
noncomputable def uc_6 := uc_5.addSpec 9 wakes12_sp
theorem uc_6_laws : FLaws Tryd.prog s12 uc_6 := uc_5_laws.addEv s12_laws fun args d h => by
  unfold wakes12_sp at h
  split at h
  · unfold wakes12_s at h
    have h1 := congrArg Prod.fst (Option.some.inj h)
    obtain rfl : _ = d := congrArg Prod.snd (Option.some.inj h)
    exact ⟨by simp [D.refs], 1000, wakes12_ok  h1⟩
  · cases h
def lNames_s (c : Int) (s : List UInt8) : Option (Bool × D RC) := some (lenOK s.length, .bool true)
def lNames_sp : List (D RC) → Option (Bool × D RC)
  | [.int .i64 c, .str s] => lNames_s c s
  | _ => none
noncomputable def lNames_e (c : Int) (s : List UInt8) := evF s12 uc_6 40 4 [.int .i64 c, .str s]
theorem lNames_eq (c : Int) (s : List UInt8) : lNames_e c s = (let Z0 : Option Nat := fnd s (0 : Nat) (771 : Nat); let Z1 : Int := (↑(Option.getD Z0 (0 : Nat)) : Int); let Z2 : DO_ := some (D.bool false); bif lenOK s.length then bif decide ((400 : Int) < (↑s.length : Int)) then some (D.bool true) else bif nmI c == nmI c then bif Z1 == Z1 then bif Option.isSome Z0 == Option.isSome Z0 then some (D.bool true) else Z2 else Z2 else Z2 else none) := by kernel_rfl
theorem lNames_ok (c : Int) (s : List UInt8) (h : (lenOK s.length) = true) : lNames_e c s = some (.bool true) := by
  (rw [lNames_eq]; conv => zeta)
  rw [h]
  have e1 : (nmI c == nmI c) = true := by simp
  have e2 : ((((fnd s 0 771).getD 0 : Nat) : Int) == (((fnd s 0 771).getD 0 : Nat) : Int)) = true := by simp
  have e3 : ((fnd s 0 771).isSome == (fnd s 0 771).isSome) = true := by simp
  cases decide ((400 : Int) < (s.length : Int))
  · simp only [e1, e2, e3, cond_true, cond_false]
  · rfl
noncomputable def uc_7 := uc_6.addSpec 4 lNames_sp
theorem uc_7_laws : FLaws Tryd.prog s12 uc_7 := uc_6_laws.addEv s12_laws fun args d h => by
  unfold lNames_sp at h
  split at h
  · unfold lNames_s at h
    have h1 := congrArg Prod.fst (Option.some.inj h)
    obtain rfl : _ = d := congrArg Prod.snd (Option.some.inj h)
    exact ⟨by simp [D.refs], 40, lNames_ok _ _ h1⟩
  · cases h
open Go.Proofs
def cellF_s (a : Int) (n : Int) (m : Int) : Option (Bool × D RC) := some (true, .int .i64 (bif decide (0 ≤ n) && decide (n < m) then IntKind.i64.wrap (a + n) else -1))
def cellF_sp : List (D RC) → Option (Bool × D RC)
  | [.int .i64 a, .int .i64 n, .int .i64 m] => cellF_s a n m
  | _ => none
noncomputable def cellF_e (a : Int) (n : Int) (m : Int) := evF s12 uc_7 20 44 [.int .i64 a, .int .i64 n, .int .i64 m]
theorem cellF_eq (a : Int) (n : Int) (m : Int) : cellF_e a n m = (let Z0 : DO_ := some (D.int .i64 (-1 : Int)); bif decide (n < (0 : Int)) then Z0 else bif decide (m ≤ n) then Z0 else some (D.int .i64 (IntKind.wrap .i64 (a + n)))) := by kernel_rfl
theorem cellF_ok (a : Int) (n : Int) (m : Int) (h : (true) = true) : cellF_e a n m = some (.int .i64 (bif decide (0 ≤ n) && decide (n < m) then IntKind.i64.wrap (a + n) else -1)) := by
  (rw [cellF_eq]; conv => zeta)
  refine cond2 (fun h0 => ?_) fun h0 => ?_ <;> simp only [decide_eq_true_eq, decide_eq_false_iff_not] at h0
  · rw [decide_eq_false (p := 0 ≤ n) (by omega)]; rfl
  refine cond2 (fun h1 => ?_) fun h1 => ?_ <;> simp only [decide_eq_true_eq, decide_eq_false_iff_not] at h1
  · rw [decide_eq_false (p := n < m) (by omega), Bool.and_false]; rfl
  · rw [decide_eq_true (p := 0 ≤ n) (by omega), decide_eq_true (p := n < m) (by omega)]; rfl
noncomputable def ud_1 := uc_7.addSpec 44 cellF_sp
theorem ud_1_laws : FLaws Tryd.prog s12 ud_1 := uc_7_laws.addEv s12_laws fun args d h => by
  unfold cellF_sp at h
  split at h
  · unfold cellF_s at h
    have h1 := congrArg Prod.fst (Option.some.inj h)
    obtain rfl : _ = d := congrArg Prod.snd (Option.some.inj h)
    exact ⟨by simp [D.refs], 20, cellF_ok _ _ _ h1⟩
  · cases h
def cellR_s (a : Int) (s : Int) (n : Int) (m : Int) : Option (Bool × D RC) := some (true, .int .i64 (bif decide (0 ≤ n) && decide (n < m) then IntKind.i64.wrap (a + IntKind.i64.wrap (s * n)) else -1))
def cellR_sp : List (D RC) → Option (Bool × D RC)
  | [.int .i64 a, .int .i64 s, .int .i64 n, .int .i64 m] => cellR_s a s n m
  | _ => none
noncomputable def cellR_e (a : Int) (s : Int) (n : Int) (m : Int) := evF s12 ud_1 20 45 [.int .i64 a, .int .i64 s, .int .i64 n, .int .i64 m]
theorem cellR_eq (a : Int) (s : Int) (n : Int) (m : Int) : cellR_e a s n m = (let Z0 : DO_ := some (D.int .i64 (-1 : Int)); bif decide (n < (0 : Int)) then Z0 else bif decide (m ≤ n) then Z0 else some (D.int .i64 (IntKind.wrap .i64 (a + IntKind.wrap .i64 (s * n))))) := by kernel_rfl
theorem cellR_ok (a : Int) (s : Int) (n : Int) (m : Int) (h : (true) = true) : cellR_e a s n m = some (.int .i64 (bif decide (0 ≤ n) && decide (n < m) then IntKind.i64.wrap (a + IntKind.i64.wrap (s * n)) else -1)) := by
  (rw [cellR_eq]; conv => zeta)
  refine cond2 (fun h0 => ?_) fun h0 => ?_ <;> simp only [decide_eq_true_eq, decide_eq_false_iff_not] at h0
  · rw [decide_eq_false (p := 0 ≤ n) (by omega)]; rfl
  refine cond2 (fun h1 => ?_) fun h1 => ?_ <;> simp only [decide_eq_true_eq, decide_eq_false_iff_not] at h1
  · rw [decide_eq_false (p := n < m) (by omega), Bool.and_false]; rfl
  · rw [decide_eq_true (p := 0 ≤ n) (by omega), decide_eq_true (p := n < m) (by omega)]; rfl
noncomputable def ud_2 := ud_1.addSpec 45 cellR_sp
theorem ud_2_laws : FLaws Tryd.prog s12 ud_2 := ud_1_laws.addEv s12_laws fun args d h => by
  unfold cellR_sp at h
  split at h
  · unfold cellR_s at h
    have h1 := congrArg Prod.fst (Option.some.inj h)
    obtain rfl : _ = d := congrArg Prod.snd (Option.some.inj h)
    exact ⟨by simp [D.refs], 20, cellR_ok _ _ _ _ h1⟩
  · cases h
def lPinP_s (n : Int) : Option (Bool × D RC) := some (true, .int .i64 (lRow 5 n 4))
def lPinP_sp : List (D RC) → Option (Bool × D RC)
  | [.int .i64 n] => lPinP_s n
  | _ => none
noncomputable def lPinP_e (n : Int) := evF s12 ud_2 20 18 [.int .i64 n]
theorem lPinP_eq (n : Int) : lPinP_e n = (some (D.int .i64 (bif decide ((0 : Int) ≤ n) && decide (n < (4 : Int)) then IntKind.wrap .i64 ((5 : Int) + n) else (-1 : Int)))) := by kernel_rfl
theorem lPinP_ok (n : Int) (h : (true) = true) : lPinP_e n = some (.int .i64 (lRow 5 n 4)) := by
  rw [lPinP_eq]
  congr 2
  unfold lRow
  by_cases h0 : 0 ≤ n
  · by_cases h1 : n < 4
    · simp (disch := omega) only [decide_eq_true h0, decide_eq_true h1, Bool.and_self, cond_true, wrapT]; rw [if_pos ⟨h0, h1⟩]
    · simp only [decide_eq_false h1, Bool.and_false, cond_false]; rw [if_neg (by omega)]
  · simp only [decide_eq_false h0, Bool.false_and, cond_false]; rw [if_neg (by omega)]
noncomputable def ud_3 := ud_2.addSpec 18 lPinP_sp
theorem ud_3_laws : FLaws Tryd.prog s12 ud_3 := ud_2_laws.addEv s12_laws fun args d h => by
  unfold lPinP_sp at h
  split at h
  · unfold lPinP_s at h
    have h1 := congrArg Prod.fst (Option.some.inj h)
    obtain rfl : _ = d := congrArg Prod.snd (Option.some.inj h)
    exact ⟨by simp [D.refs], 20, lPinP_ok _ h1⟩
  · cases h
def lPinR_s (n : Int) : Option (Bool × D RC) := some (true, .int .i64 (lRow 5 n 4))
def lPinR_sp : List (D RC) → Option (Bool × D RC)
  | [.int .i64 n] => lPinR_s n
  | _ => none
noncomputable def lPinR_e (n : Int) := evF s12 ud_3 20 19 [.int .i64 n]
theorem lPinR_eq (n : Int) : lPinR_e n = (some (D.int .i64 (bif decide ((0 : Int) ≤ n) && decide (n < (4 : Int)) then IntKind.wrap .i64 ((5 : Int) + IntKind.wrap .i64 ((1 : Int) * n)) else (-1 : Int)))) := by kernel_rfl
theorem lPinR_ok (n : Int) (h : (true) = true) : lPinR_e n = some (.int .i64 (lRow 5 n 4)) := by
  rw [lPinR_eq]
  congr 2
  unfold lRow
  by_cases h0 : 0 ≤ n
  · by_cases h1 : n < 4
    · simp (disch := omega) only [decide_eq_true h0, decide_eq_true h1, Bool.and_self, cond_true, Int.one_mul, wrapT]; rw [if_pos ⟨h0, h1⟩]
    · simp only [decide_eq_false h1, Bool.and_false, cond_false]; rw [if_neg (by omega)]
  · simp only [decide_eq_false h0, Bool.false_and, cond_false]; rw [if_neg (by omega)]
noncomputable def ud_4 := ud_3.addSpec 19 lPinR_sp
theorem ud_4_laws : FLaws Tryd.prog s12 ud_4 := ud_3_laws.addEv s12_laws fun args d h => by
  unfold lPinR_sp at h
  split at h
  · unfold lPinR_s at h
    have h1 := congrArg Prod.fst (Option.some.inj h)
    obtain rfl : _ = d := congrArg Prod.snd (Option.some.inj h)
    exact ⟨by simp [D.refs], 20, lPinR_ok _ h1⟩
  · cases h
def lStartP_s (n : Int) : Option (Bool × D RC) := some (true, .int .i64 (lRow 9 n 4))
def lStartP_sp : List (D RC) → Option (Bool × D RC)
  | [.int .i64 n] => lStartP_s n
  | _ => none
noncomputable def lStartP_e (n : Int) := evF s12 ud_4 20 20 [.int .i64 n]
theorem lStartP_eq (n : Int) : lStartP_e n = (some (D.int .i64 (bif decide ((0 : Int) ≤ n) && decide (n < (4 : Int)) then IntKind.wrap .i64 ((9 : Int) + n) else (-1 : Int)))) := by kernel_rfl
theorem lStartP_ok (n : Int) (h : (true) = true) : lStartP_e n = some (.int .i64 (lRow 9 n 4)) := by
  rw [lStartP_eq]
  congr 2
  unfold lRow
  by_cases h0 : 0 ≤ n
  · by_cases h1 : n < 4
    · simp (disch := omega) only [decide_eq_true h0, decide_eq_true h1, Bool.and_self, cond_true, wrapT]; rw [if_pos ⟨h0, h1⟩]
    · simp only [decide_eq_false h1, Bool.and_false, cond_false]; rw [if_neg (by omega)]
  · simp only [decide_eq_false h0, Bool.false_and, cond_false]; rw [if_neg (by omega)]
noncomputable def ud_5 := ud_4.addSpec 20 lStartP_sp
theorem ud_5_laws : FLaws Tryd.prog s12 ud_5 := ud_4_laws.addEv s12_laws fun args d h => by
  unfold lStartP_sp at h
  split at h
  · unfold lStartP_s at h
    have h1 := congrArg Prod.fst (Option.some.inj h)
    obtain rfl : _ = d := congrArg Prod.snd (Option.some.inj h)
    exact ⟨by simp [D.refs], 20, lStartP_ok _ h1⟩
  · cases h
def lStartR_s (n : Int) : Option (Bool × D RC) := some (true, .int .i64 (lRow 9 n 4))
def lStartR_sp : List (D RC) → Option (Bool × D RC)
  | [.int .i64 n] => lStartR_s n
  | _ => none
noncomputable def lStartR_e (n : Int) := evF s12 ud_5 20 21 [.int .i64 n]
theorem lStartR_eq (n : Int) : lStartR_e n = (some (D.int .i64 (bif decide ((0 : Int) ≤ n) && decide (n < (4 : Int)) then IntKind.wrap .i64 ((9 : Int) + IntKind.wrap .i64 ((1 : Int) * n)) else (-1 : Int)))) := by kernel_rfl
theorem lStartR_ok (n : Int) (h : (true) = true) : lStartR_e n = some (.int .i64 (lRow 9 n 4)) := by
  rw [lStartR_eq]
  congr 2
  unfold lRow
  by_cases h0 : 0 ≤ n
  · by_cases h1 : n < 4
    · simp (disch := omega) only [decide_eq_true h0, decide_eq_true h1, Bool.and_self, cond_true, Int.one_mul, wrapT]; rw [if_pos ⟨h0, h1⟩]
    · simp only [decide_eq_false h1, Bool.and_false, cond_false]; rw [if_neg (by omega)]
  · simp only [decide_eq_false h0, Bool.false_and, cond_false]; rw [if_neg (by omega)]
noncomputable def ud_6 := ud_5.addSpec 21 lStartR_sp
theorem ud_6_laws : FLaws Tryd.prog s12 ud_6 := ud_5_laws.addEv s12_laws fun args d h => by
  unfold lStartR_sp at h
  split at h
  · unfold lStartR_s at h
    have h1 := congrArg Prod.fst (Option.some.inj h)
    obtain rfl : _ = d := congrArg Prod.snd (Option.some.inj h)
    exact ⟨by simp [D.refs], 20, lStartR_ok _ h1⟩
  · cases h
def lHeadP_s (n : Int) : Option (Bool × D RC) := some (true, .int .i64 (lRow 21 n 24))
def lHeadP_sp : List (D RC) → Option (Bool × D RC)
  | [.int .i64 n] => lHeadP_s n
  | _ => none
noncomputable def lHeadP_e (n : Int) := evF s12 ud_6 20 23 [.int .i64 n]
theorem lHeadP_eq (n : Int) : lHeadP_e n = (some (D.int .i64 (bif decide ((0 : Int) ≤ n) && decide (n < (24 : Int)) then IntKind.wrap .i64 ((21 : Int) + n) else (-1 : Int)))) := by kernel_rfl
theorem lHeadP_ok (n : Int) (h : (true) = true) : lHeadP_e n = some (.int .i64 (lRow 21 n 24)) := by
  rw [lHeadP_eq]
  congr 2
  unfold lRow
  by_cases h0 : 0 ≤ n
  · by_cases h1 : n < 24
    · simp (disch := omega) only [decide_eq_true h0, decide_eq_true h1, Bool.and_self, cond_true, wrapT]; rw [if_pos ⟨h0, h1⟩]
    · simp only [decide_eq_false h1, Bool.and_false, cond_false]; rw [if_neg (by omega)]
  · simp only [decide_eq_false h0, Bool.false_and, cond_false]; rw [if_neg (by omega)]
noncomputable def ud_7 := ud_6.addSpec 23 lHeadP_sp
theorem ud_7_laws : FLaws Tryd.prog s12 ud_7 := ud_6_laws.addEv s12_laws fun args d h => by
  unfold lHeadP_sp at h
  split at h
  · unfold lHeadP_s at h
    have h1 := congrArg Prod.fst (Option.some.inj h)
    obtain rfl : _ = d := congrArg Prod.snd (Option.some.inj h)
    exact ⟨by simp [D.refs], 20, lHeadP_ok _ h1⟩
  · cases h
def lHeadR_s (n : Int) : Option (Bool × D RC) := some (true, .int .i64 (lRow 21 n 24))
def lHeadR_sp : List (D RC) → Option (Bool × D RC)
  | [.int .i64 n] => lHeadR_s n
  | _ => none
noncomputable def lHeadR_e (n : Int) := evF s12 ud_7 20 24 [.int .i64 n]
theorem lHeadR_eq (n : Int) : lHeadR_e n = (some (D.int .i64 (bif decide ((0 : Int) ≤ n) && decide (n < (24 : Int)) then IntKind.wrap .i64 ((21 : Int) + IntKind.wrap .i64 ((1 : Int) * n)) else (-1 : Int)))) := by kernel_rfl
theorem lHeadR_ok (n : Int) (h : (true) = true) : lHeadR_e n = some (.int .i64 (lRow 21 n 24)) := by
  rw [lHeadR_eq]
  congr 2
  unfold lRow
  by_cases h0 : 0 ≤ n
  · by_cases h1 : n < 24
    · simp (disch := omega) only [decide_eq_true h0, decide_eq_true h1, Bool.and_self, cond_true, Int.one_mul, wrapT]; rw [if_pos ⟨h0, h1⟩]
    · simp only [decide_eq_false h1, Bool.and_false, cond_false]; rw [if_neg (by omega)]
  · simp only [decide_eq_false h0, Bool.false_and, cond_false]; rw [if_neg (by omega)]
noncomputable def ud_8 := ud_7.addSpec 24 lHeadR_sp
theorem ud_8_laws : FLaws Tryd.prog s12 ud_8 := ud_7_laws.addEv s12_laws fun args d h => by
  unfold lHeadR_sp at h
  split at h
  · unfold lHeadR_s at h
    have h1 := congrArg Prod.fst (Option.some.inj h)
    obtain rfl : _ = d := congrArg Prod.snd (Option.some.inj h)
    exact ⟨by simp [D.refs], 20, lHeadR_ok _ h1⟩
  · cases h
def lCountP_s (n : Int) : Option (Bool × D RC) := some (true, .int .i64 (lRow 45 n 3))
def lCountP_sp : List (D RC) → Option (Bool × D RC)
  | [.int .i64 n] => lCountP_s n
  | _ => none
noncomputable def lCountP_e (n : Int) := evF s12 ud_8 20 25 [.int .i64 n]
theorem lCountP_eq (n : Int) : lCountP_e n = (some (D.int .i64 (bif decide ((0 : Int) ≤ n) && decide (n < (3 : Int)) then IntKind.wrap .i64 ((45 : Int) + n) else (-1 : Int)))) := by kernel_rfl
theorem lCountP_ok (n : Int) (h : (true) = true) : lCountP_e n = some (.int .i64 (lRow 45 n 3)) := by
  rw [lCountP_eq]
  congr 2
  unfold lRow
  by_cases h0 : 0 ≤ n
  · by_cases h1 : n < 3
    · simp (disch := omega) only [decide_eq_true h0, decide_eq_true h1, Bool.and_self, cond_true, wrapT]; rw [if_pos ⟨h0, h1⟩]
    · simp only [decide_eq_false h1, Bool.and_false, cond_false]; rw [if_neg (by omega)]
  · simp only [decide_eq_false h0, Bool.false_and, cond_false]; rw [if_neg (by omega)]
noncomputable def ud_9 := ud_8.addSpec 25 lCountP_sp
theorem ud_9_laws : FLaws Tryd.prog s12 ud_9 := ud_8_laws.addEv s12_laws fun args d h => by
  unfold lCountP_sp at h
  split at h
  · unfold lCountP_s at h
    have h1 := congrArg Prod.fst (Option.some.inj h)
    obtain rfl : _ = d := congrArg Prod.snd (Option.some.inj h)
    exact ⟨by simp [D.refs], 20, lCountP_ok _ h1⟩
  · cases h
def lCountR_s (n : Int) : Option (Bool × D RC) := some (true, .int .i64 (lRow 45 n 3))
def lCountR_sp : List (D RC) → Option (Bool × D RC)
  | [.int .i64 n] => lCountR_s n
  | _ => none
noncomputable def lCountR_e (n : Int) := evF s12 ud_9 20 26 [.int .i64 n]
theorem lCountR_eq (n : Int) : lCountR_e n = (some (D.int .i64 (bif decide ((0 : Int) ≤ n) && decide (n < (3 : Int)) then IntKind.wrap .i64 ((45 : Int) + IntKind.wrap .i64 ((1 : Int) * n)) else (-1 : Int)))) := by kernel_rfl
theorem lCountR_ok (n : Int) (h : (true) = true) : lCountR_e n = some (.int .i64 (lRow 45 n 3)) := by
  rw [lCountR_eq]
  congr 2
  unfold lRow
  by_cases h0 : 0 ≤ n
  · by_cases h1 : n < 3
    · simp (disch := omega) only [decide_eq_true h0, decide_eq_true h1, Bool.and_self, cond_true, Int.one_mul, wrapT]; rw [if_pos ⟨h0, h1⟩]
    · simp only [decide_eq_false h1, Bool.and_false, cond_false]; rw [if_neg (by omega)]
  · simp only [decide_eq_false h0, Bool.false_and, cond_false]; rw [if_neg (by omega)]
noncomputable def ud_10 := ud_9.addSpec 26 lCountR_sp
theorem ud_10_laws : FLaws Tryd.prog s12 ud_10 := ud_9_laws.addEv s12_laws fun args d h => by
  unfold lCountR_sp at h
  split at h
  · unfold lCountR_s at h
    have h1 := congrArg Prod.fst (Option.some.inj h)
    obtain rfl : _ = d := congrArg Prod.snd (Option.some.inj h)
    exact ⟨by simp [D.refs], 20, lCountR_ok _ h1⟩
  · cases h
def lCutP_s (n : Int) : Option (Bool × D RC) := some (true, .int .i64 (lRow 48 n 3))
def lCutP_sp : List (D RC) → Option (Bool × D RC)
  | [.int .i64 n] => lCutP_s n
  | _ => none
noncomputable def lCutP_e (n : Int) := evF s12 ud_10 20 27 [.int .i64 n]
theorem lCutP_eq (n : Int) : lCutP_e n = (some (D.int .i64 (bif decide ((0 : Int) ≤ n) && decide (n < (3 : Int)) then IntKind.wrap .i64 ((48 : Int) + n) else (-1 : Int)))) := by kernel_rfl
theorem lCutP_ok (n : Int) (h : (true) = true) : lCutP_e n = some (.int .i64 (lRow 48 n 3)) := by
  rw [lCutP_eq]
  congr 2
  unfold lRow
  by_cases h0 : 0 ≤ n
  · by_cases h1 : n < 3
    · simp (disch := omega) only [decide_eq_true h0, decide_eq_true h1, Bool.and_self, cond_true, wrapT]; rw [if_pos ⟨h0, h1⟩]
    · simp only [decide_eq_false h1, Bool.and_false, cond_false]; rw [if_neg (by omega)]
  · simp only [decide_eq_false h0, Bool.false_and, cond_false]; rw [if_neg (by omega)]
noncomputable def ud_11 := ud_10.addSpec 27 lCutP_sp
theorem ud_11_laws : FLaws Tryd.prog s12 ud_11 := ud_10_laws.addEv s12_laws fun args d h => by
  unfold lCutP_sp at h
  split at h
  · unfold lCutP_s at h
    have h1 := congrArg Prod.fst (Option.some.inj h)
    obtain rfl : _ = d := congrArg Prod.snd (Option.some.inj h)
    exact ⟨by simp [D.refs], 20, lCutP_ok _ h1⟩
  · cases h
def lCutR_s (n : Int) : Option (Bool × D RC) := some (true, .int .i64 (lRow 48 n 3))
def lCutR_sp : List (D RC) → Option (Bool × D RC)
  | [.int .i64 n] => lCutR_s n
  | _ => none
noncomputable def lCutR_e (n : Int) := evF s12 ud_11 20 28 [.int .i64 n]
theorem lCutR_eq (n : Int) : lCutR_e n = (some (D.int .i64 (bif decide ((0 : Int) ≤ n) && decide (n < (3 : Int)) then IntKind.wrap .i64 ((48 : Int) + IntKind.wrap .i64 ((1 : Int) * n)) else (-1 : Int)))) := by kernel_rfl
theorem lCutR_ok (n : Int) (h : (true) = true) : lCutR_e n = some (.int .i64 (lRow 48 n 3)) := by
  rw [lCutR_eq]
  congr 2
  unfold lRow
  by_cases h0 : 0 ≤ n
  · by_cases h1 : n < 3
    · simp (disch := omega) only [decide_eq_true h0, decide_eq_true h1, Bool.and_self, cond_true, Int.one_mul, wrapT]; rw [if_pos ⟨h0, h1⟩]
    · simp only [decide_eq_false h1, Bool.and_false, cond_false]; rw [if_neg (by omega)]
  · simp only [decide_eq_false h0, Bool.false_and, cond_false]; rw [if_neg (by omega)]
noncomputable def ud_12 := ud_11.addSpec 28 lCutR_sp
theorem ud_12_laws : FLaws Tryd.prog s12 ud_12 := ud_11_laws.addEv s12_laws fun args d h => by
  unfold lCutR_sp at h
  split at h
  · unfold lCutR_s at h
    have h1 := congrArg Prod.fst (Option.some.inj h)
    obtain rfl : _ = d := congrArg Prod.snd (Option.some.inj h)
    exact ⟨by simp [D.refs], 20, lCutR_ok _ h1⟩
  · cases h
def lFieldP_s (a : Int) (s : Int) (f : Int) (m : Int) (k : Int) : Option (Bool × D RC) := some (true, .int .i64 (bif withinB s 0 (IntKind.i64.wrap (m - 1)) && withinB f 0 (IntKind.i64.wrap (k - 1)) then IntKind.i64.wrap (IntKind.i64.wrap (a + IntKind.i64.wrap (s * k)) + f) else -1))
def lFieldP_sp : List (D RC) → Option (Bool × D RC)
  | [.int .i64 a, .int .i64 s, .int .i64 f, .int .i64 m, .int .i64 k] => lFieldP_s a s f m k
  | _ => none
noncomputable def lFieldP_e (a : Int) (s : Int) (f : Int) (m : Int) (k : Int) := evF s12 ud_12 20 46 [.int .i64 a, .int .i64 s, .int .i64 f, .int .i64 m, .int .i64 k]
theorem lFieldP_eq (a : Int) (s : Int) (f : Int) (m : Int) (k : Int) : lFieldP_e a s f m k = (let Z0 : DO_ := some (D.int .i64 (-1 : Int)); bif !withinB s (0 : Int) (IntKind.wrap .i64 (m - (1 : Int))) then Z0 else bif !withinB f (0 : Int) (IntKind.wrap .i64 (k - (1 : Int))) then Z0 else some (D.int .i64 (IntKind.wrap .i64 (IntKind.wrap .i64 (a + IntKind.wrap .i64 (s * k)) + f)))) := by kernel_rfl
theorem lFieldP_ok (a : Int) (s : Int) (f : Int) (m : Int) (k : Int) (h : (true) = true) : lFieldP_e a s f m k = some (.int .i64 (bif withinB s 0 (IntKind.i64.wrap (m - 1)) && withinB f 0 (IntKind.i64.wrap (k - 1)) then IntKind.i64.wrap (IntKind.i64.wrap (a + IntKind.i64.wrap (s * k)) + f) else -1)) := by
  (rw [lFieldP_eq]; conv => zeta)
  cases withinB s 0 (IntKind.i64.wrap (m - 1)) <;> cases withinB f 0 (IntKind.i64.wrap (k - 1)) <;> rfl
noncomputable def ud_13 := ud_12.addSpec 46 lFieldP_sp
theorem ud_13_laws : FLaws Tryd.prog s12 ud_13 := ud_12_laws.addEv s12_laws fun args d h => by
  unfold lFieldP_sp at h
  split at h
  · unfold lFieldP_s at h
    have h1 := congrArg Prod.fst (Option.some.inj h)
    obtain rfl : _ = d := congrArg Prod.snd (Option.some.inj h)
    exact ⟨by simp [D.refs], 20, lFieldP_ok _ _ _ _ _ h1⟩
  · cases h
def lDescP_s (s : Int) (f : Int) : Option (Bool × D RC) := some (true, .int .i64 (lField 99 s f 16 12))
def lDescP_sp : List (D RC) → Option (Bool × D RC)
  | [.int .i64 s, .int .i64 f] => lDescP_s s f
  | _ => none
noncomputable def lDescP_e (s : Int) (f : Int) := evF s12 ud_13 20 30 [.int .i64 s, .int .i64 f]
theorem lDescP_eq (s : Int) (f : Int) : lDescP_e s f = (some (D.int .i64 (bif withinB s (0 : Int) (15 : Int) && withinB f (0 : Int) (11 : Int) then IntKind.wrap .i64 (IntKind.wrap .i64 ((99 : Int) + IntKind.wrap .i64 (s * (12 : Int))) + f) else (-1 : Int)))) := by kernel_rfl
theorem lDescP_ok (s : Int) (f : Int) (h : (true) = true) : lDescP_e s f = some (.int .i64 (lField 99 s f 16 12)) := by
  rw [lDescP_eq]
  congr 2
  unfold lField
  cases h0 : withinB s 0 15
  · have := withinB_no h0
    rw [if_neg (by omega)]; rfl
  cases h1 : withinB f 0 11
  · have := withinB_no h1
    rw [if_neg (by omega)]; rfl
  rw [withinB_iff] at h0 h1
  rw [if_pos (by omega)]
  simp (disch := omega) only [Bool.and_self, cond_true, wrapT]
noncomputable def ud_14 := ud_13.addSpec 30 lDescP_sp
theorem ud_14_laws : FLaws Tryd.prog s12 ud_14 := ud_13_laws.addEv s12_laws fun args d h => by
  unfold lDescP_sp at h
  split at h
  · unfold lDescP_s at h
    have h1 := congrArg Prod.fst (Option.some.inj h)
    obtain rfl : _ = d := congrArg Prod.snd (Option.some.inj h)
    exact ⟨by simp [D.refs], 20, lDescP_ok _ _ h1⟩
  · cases h
def lDescR_s (s : Int) (f : Int) : Option (Bool × D RC) := some (true, .int .i64 (lField 99 s f 16 12))
def lDescR_sp : List (D RC) → Option (Bool × D RC)
  | [.int .i64 s, .int .i64 f] => lDescR_s s f
  | _ => none
noncomputable def lDescR_e (s : Int) (f : Int) := evF s12 ud_14 20 31 [.int .i64 s, .int .i64 f]
theorem lDescR_eq (s : Int) (f : Int) : lDescR_e s f = (let Z0 : DO_ := some (D.int .i64 (-1 : Int)); let Z1 : Int := bif decide ((0 : Int) ≤ s) && decide (s < (16 : Int)) then IntKind.wrap .i64 ((99 : Int) + IntKind.wrap .i64 ((12 : Int) * s)) else (-1 : Int); bif decide (f < (0 : Int)) then Z0 else bif decide ((11 : Int) < f) then Z0 else bif decide (Z1 < (0 : Int)) then Z0 else some (D.int .i64 (IntKind.wrap .i64 (Z1 + f)))) := by kernel_rfl
theorem lDescR_ok (s : Int) (f : Int) (h : (true) = true) : lDescR_e s f = some (.int .i64 (lField 99 s f 16 12)) := by
  (rw [lDescR_eq]; conv => zeta)
  unfold lField
  refine cond2 (fun h0 => ?_) fun h0 => ?_ <;> simp only [decide_eq_true_eq, decide_eq_false_iff_not] at h0
  · rw [if_neg (by omega)]
  refine cond2 (fun h1 => ?_) fun h1 => ?_ <;> simp only [decide_eq_true_eq, decide_eq_false_iff_not] at h1
  · rw [if_neg (by omega)]
  by_cases h2 : 0 ≤ s
  · by_cases h3 : s < 16
    · simp (disch := omega) only [decide_eq_true h2, decide_eq_true h3, Bool.and_self, cond_true, wrapT]
      rw [decide_eq_false (by omega), if_pos (by omega)]
      simp (disch := omega) only [cond_false, wrapT]
      congr 2; omega
    · simp only [decide_eq_false h3, Bool.and_false, cond_false]; rw [if_neg (by omega)]; rfl
  · simp only [decide_eq_false h2, Bool.false_and, cond_false]; rw [if_neg (by omega)]; rfl
noncomputable def ud_15 := ud_14.addSpec 31 lDescR_sp
theorem ud_15_laws : FLaws Tryd.prog s12 ud_15 := ud_14_laws.addEv s12_laws fun args d h => by
  unfold lDescR_sp at h
  split at h
  · unfold lDescR_s at h
    have h1 := congrArg Prod.fst (Option.some.inj h)
    obtain rfl : _ = d := congrArg Prod.snd (Option.some.inj h)
    exact ⟨by simp [D.refs], 20, lDescR_ok _ _ h1⟩
  · cases h
def lNodeP_s (s : Int) (f : Int) : Option (Bool × D RC) := some (true, .int .i64 (lField 291 s f 160 3))
def lNodeP_sp : List (D RC) → Option (Bool × D RC)
  | [.int .i64 s, .int .i64 f] => lNodeP_s s f
  | _ => none
noncomputable def lNodeP_e (s : Int) (f : Int) := evF s12 ud_15 20 32 [.int .i64 s, .int .i64 f]
theorem lNodeP_eq (s : Int) (f : Int) : lNodeP_e s f = (some (D.int .i64 (bif withinB s (0 : Int) (159 : Int) && withinB f (0 : Int) (2 : Int) then IntKind.wrap .i64 (IntKind.wrap .i64 ((291 : Int) + IntKind.wrap .i64 (s * (3 : Int))) + f) else (-1 : Int)))) := by kernel_rfl
theorem lNodeP_ok (s : Int) (f : Int) (h : (true) = true) : lNodeP_e s f = some (.int .i64 (lField 291 s f 160 3)) := by
  rw [lNodeP_eq]
  congr 2
  unfold lField
  cases h0 : withinB s 0 159
  · have := withinB_no h0
    rw [if_neg (by omega)]; rfl
  cases h1 : withinB f 0 2
  · have := withinB_no h1
    rw [if_neg (by omega)]; rfl
  rw [withinB_iff] at h0 h1
  rw [if_pos (by omega)]
  simp (disch := omega) only [Bool.and_self, cond_true, wrapT]
noncomputable def ud_16 := ud_15.addSpec 32 lNodeP_sp
theorem ud_16_laws : FLaws Tryd.prog s12 ud_16 := ud_15_laws.addEv s12_laws fun args d h => by
  unfold lNodeP_sp at h
  split at h
  · unfold lNodeP_s at h
    have h1 := congrArg Prod.fst (Option.some.inj h)
    obtain rfl : _ = d := congrArg Prod.snd (Option.some.inj h)
    exact ⟨by simp [D.refs], 20, lNodeP_ok _ _ h1⟩
  · cases h
def lNodeR_s (s : Int) (f : Int) : Option (Bool × D RC) := some (true, .int .i64 (lField 291 s f 160 3))
def lNodeR_sp : List (D RC) → Option (Bool × D RC)
  | [.int .i64 s, .int .i64 f] => lNodeR_s s f
  | _ => none
noncomputable def lNodeR_e (s : Int) (f : Int) := evF s12 ud_16 20 33 [.int .i64 s, .int .i64 f]
theorem lNodeR_eq (s : Int) (f : Int) : lNodeR_e s f = (let Z0 : DO_ := some (D.int .i64 (-1 : Int)); let Z1 : Int := bif decide ((0 : Int) ≤ s) && decide (s < (160 : Int)) then IntKind.wrap .i64 ((291 : Int) + IntKind.wrap .i64 ((3 : Int) * s)) else (-1 : Int); bif decide (f < (0 : Int)) then Z0 else bif decide ((2 : Int) < f) then Z0 else bif decide (Z1 < (0 : Int)) then Z0 else some (D.int .i64 (IntKind.wrap .i64 (Z1 + f)))) := by kernel_rfl
theorem lNodeR_ok (s : Int) (f : Int) (h : (true) = true) : lNodeR_e s f = some (.int .i64 (lField 291 s f 160 3)) := by
  (rw [lNodeR_eq]; conv => zeta)
  unfold lField
  refine cond2 (fun h0 => ?_) fun h0 => ?_ <;> simp only [decide_eq_true_eq, decide_eq_false_iff_not] at h0
  · rw [if_neg (by omega)]
  refine cond2 (fun h1 => ?_) fun h1 => ?_ <;> simp only [decide_eq_true_eq, decide_eq_false_iff_not] at h1
  · rw [if_neg (by omega)]
  by_cases h2 : 0 ≤ s
  · by_cases h3 : s < 160
    · simp (disch := omega) only [decide_eq_true h2, decide_eq_true h3, Bool.and_self, cond_true, wrapT]
      rw [decide_eq_false (by omega), if_pos (by omega)]
      simp (disch := omega) only [cond_false, wrapT]
      congr 2; omega
    · simp only [decide_eq_false h3, Bool.and_false, cond_false]; rw [if_neg (by omega)]; rfl
  · simp only [decide_eq_false h2, Bool.false_and, cond_false]; rw [if_neg (by omega)]; rfl
noncomputable def ud_17 := ud_16.addSpec 33 lNodeR_sp
theorem ud_17_laws : FLaws Tryd.prog s12 ud_17 := ud_16_laws.addEv s12_laws fun args d h => by
  unfold lNodeR_sp at h
  split at h
  · unfold lNodeR_s at h
    have h1 := congrArg Prod.fst (Option.some.inj h)
    obtain rfl : _ = d := congrArg Prod.snd (Option.some.inj h)
    exact ⟨by simp [D.refs], 20, lNodeR_ok _ _ h1⟩
  · cases h
def checkP_s (c : Int) (w : Int) (d : Int) (k : Int) : Option (Bool × D RC) := some (true, .int .i64 (bif okSet c w d k then 0 else 2))
def checkP_sp : List (D RC) → Option (Bool × D RC)
  | [.acons (.int .i64 c) (.acons (.int .i64 w) (.acons (.int .i64 d) (.acons (.int .i64 k) .anil)))] => checkP_s c w d k
  | _ => none
noncomputable def checkP_e (c : Int) (w : Int) (d : Int) (k : Int) := evF s12 ud_17 20 16 [.acons (.int .i64 c) (.acons (.int .i64 w) (.acons (.int .i64 d) (.acons (.int .i64 k) .anil)))]
theorem checkP_eq (c : Int) (w : Int) (d : Int) (k : Int) : checkP_e c w d k = (let Z0 : DO_ := some (D.int .i64 2); bif withinB c (1 : Int) (4 : Int) then bif withinB w (2 : Int) (8 : Int) then bif withinB d (1 : Int) (4 : Int) then bif withinB k (4 : Int) (40 : Int) then some (D.int .i64 0) else Z0 else Z0 else Z0 else Z0) := by kernel_rfl
theorem checkP_ok (c : Int) (w : Int) (d : Int) (k : Int) (h : (true) = true) : checkP_e c w d k = some (.int .i64 (bif okSet c w d k then 0 else 2)) := by
  (rw [checkP_eq]; conv => zeta)
  unfold okSet
  cases withinB c 1 4 <;> cases withinB w 2 8 <;> cases withinB d 1 4 <;> cases withinB k 4 40 <;> rfl
noncomputable def ud_18 := ud_17.addSpec 16 checkP_sp
theorem ud_18_laws : FLaws Tryd.prog s12 ud_18 := ud_17_laws.addEv s12_laws fun args d h => by
  unfold checkP_sp at h
  split at h
  · unfold checkP_s at h
    have h1 := congrArg Prod.fst (Option.some.inj h)
    obtain rfl : _ = d := congrArg Prod.snd (Option.some.inj h)
    exact ⟨by simp [D.refs], 20, checkP_ok _ _ _ _ h1⟩
  · cases h
def checkR_s (c : Int) (w : Int) (d : Int) (k : Int) : Option (Bool × D RC) := some (true, .int .i64 (bif okSet c w d k then 0 else 2))
def checkR_sp : List (D RC) → Option (Bool × D RC)
  | [.acons (.int .i64 c) (.acons (.int .i64 w) (.acons (.int .i64 d) (.acons (.int .i64 k) .anil)))] => checkR_s c w d k
  | _ => none
noncomputable def checkR_e (c : Int) (w : Int) (d : Int) (k : Int) := evF s12 ud_18 20 17 [.acons (.int .i64 c) (.acons (.int .i64 w) (.acons (.int .i64 d) (.acons (.int .i64 k) .anil)))]
theorem checkR_eq (c : Int) (w : Int) (d : Int) (k : Int) : checkR_e c w d k = (let Z0 : DO_ := some (D.int .i64 2); bif decide (c < (1 : Int)) then Z0 else bif decide ((4 : Int) < c) then Z0 else bif decide (w < (2 : Int)) then Z0 else bif decide ((8 : Int) < w) then Z0 else bif decide (d < (1 : Int)) then Z0 else bif decide ((4 : Int) < d) then Z0 else bif decide (k < (4 : Int)) then Z0 else bif decide ((40 : Int) < k) then Z0 else some (D.int .i64 0)) := by kernel_rfl
theorem checkR_ok (c : Int) (w : Int) (d : Int) (k : Int) (h : (true) = true) : checkR_e c w d k = some (.int .i64 (bif okSet c w d k then 0 else 2)) := by
  (rw [checkR_eq]; conv => zeta)
  unfold okSet withinB
  iterate 8
    refine cond2 (fun h0 => ?_) fun h0 => ?_ <;> simp only [decide_eq_true_eq, decide_eq_false_iff_not] at h0
    · first
        | rw [decide_eq_false (p := 1 ≤ c) (by omega)]; simp; done
        | rw [decide_eq_false (p := c ≤ 4) (by omega)]; simp; done
        | rw [decide_eq_false (p := 2 ≤ w) (by omega)]; simp; done
        | rw [decide_eq_false (p := w ≤ 8) (by omega)]; simp; done
        | rw [decide_eq_false (p := 1 ≤ d) (by omega)]; simp; done
        | rw [decide_eq_false (p := d ≤ 4) (by omega)]; simp; done
        | rw [decide_eq_false (p := 4 ≤ k) (by omega)]; simp; done
        | rw [decide_eq_false (p := k ≤ 40) (by omega)]; simp; done
  rw [decide_eq_true (p := 1 ≤ c) (by omega), decide_eq_true (p := c ≤ 4) (by omega), decide_eq_true (p := 2 ≤ w) (by omega), decide_eq_true (p := w ≤ 8) (by omega), decide_eq_true (p := 1 ≤ d) (by omega), decide_eq_true (p := d ≤ 4) (by omega), decide_eq_true (p := 4 ≤ k) (by omega), decide_eq_true (p := k ≤ 40) (by omega)]; rfl
noncomputable def ud_19 := ud_18.addSpec 17 checkR_sp
theorem ud_19_laws : FLaws Tryd.prog s12 ud_19 := ud_18_laws.addEv s12_laws fun args d h => by
  unfold checkR_sp at h
  split at h
  · unfold checkR_s at h
    have h1 := congrArg Prod.fst (Option.some.inj h)
    obtain rfl : _ = d := congrArg Prod.snd (Option.some.inj h)
    exact ⟨by simp [D.refs], 20, checkR_ok _ _ _ _ h1⟩
  · cases h
def ownP_s (c : Int) (w : Int) (d : Int) (k : Int) (i : Int) (b : Bool) : Option (Bool × D RC) := some (true, .tup (.acons (.int .i64 (lOwn c w d k i b).1) (.acons (.int .i64 (lOwn c w d k i b).2) .anil)))
def ownP_sp : List (D RC) → Option (Bool × D RC)
  | [.acons (.int .i64 c) (.acons (.int .i64 w) (.acons (.int .i64 d) (.acons (.int .i64 k) .anil))), .int .i64 i, .bool b] => ownP_s c w d k i b
  | _ => none
noncomputable def ownP_e (c : Int) (w : Int) (d : Int) (k : Int) (i : Int) (b : Bool) := evF s12 ud_19 20 14 [.acons (.int .i64 c) (.acons (.int .i64 w) (.acons (.int .i64 d) (.acons (.int .i64 k) .anil))), .int .i64 i, .bool b]
theorem ownP_eq (c : Int) (w : Int) (d : Int) (k : Int) (i : Int) (b : Bool) : ownP_e c w d k i b = (let Z0 : D RC := D.int .i64 0; let Z1 : DO_ := some (D.tup (D.acons Z0 (D.acons Z0 .anil))); bif (bif okSet c w d k then (0 : Int) else (2 : Int)) != (0 : Int) then Z1 else bif !withinB i (0 : Int) (IntKind.wrap .i64 (c - (1 : Int))) then Z1 else bif b then some (D.tup (D.acons (D.int .i64 (IntKind.wrap .i64 (i * k))) (.acons (D.int .i64 k) .anil))) else some (D.tup (D.acons (D.int .i64 (IntKind.wrap .i64 (i * d))) (.acons (D.int .i64 d) .anil)))) := by kernel_rfl
theorem ownP_ok (c : Int) (w : Int) (d : Int) (k : Int) (i : Int) (b : Bool) (h : (true) = true) : ownP_e c w d k i b = some (.tup (.acons (.int .i64 (lOwn c w d k i b).1) (.acons (.int .i64 (lOwn c w d k i b).2) .anil))) := by
  (rw [ownP_eq]; conv => zeta)
  unfold lOwn
  cases hk : okSet c w d k
  · simp; done
  · have hb := okSet_le hk
    simp only [wrap_id (n := c - 1) (by omega) (by omega), cond_true, bne_self_eq_false, cond_false]
    cases h0 : withinB i 0 (c - 1)
    · have := withinB_no h0
      rw [if_neg (by omega)]; rfl
    rw [withinB_iff] at h0
    simp only [Bool.not_true, cond_false]
    have hmul : ∀ x : Int, 1 ≤ x → x ≤ 40 → IntKind.i64.wrap (i * x) = i * x := fun x h1 h2 => by
      have hi : i = 0 ∨ i = 1 ∨ i = 2 ∨ i = 3 := by omega
      rcases hi with rfl | rfl | rfl | rfl <;> exact wrap_id (by omega) (by omega)
    rw [if_pos ⟨trivial, by omega, by omega⟩, hmul k (by omega) (by omega), hmul d (by omega) (by omega)]
    cases b <;> rfl
noncomputable def ud_20 := ud_19.addSpec 14 ownP_sp
theorem ud_20_laws : FLaws Tryd.prog s12 ud_20 := ud_19_laws.addEv s12_laws fun args d h => by
  unfold ownP_sp at h
  split at h
  · unfold ownP_s at h
    have h1 := congrArg Prod.fst (Option.some.inj h)
    obtain rfl : _ = d := congrArg Prod.snd (Option.some.inj h)
    exact ⟨by simp [D.refs], 20, ownP_ok _ _ _ _ _ _ h1⟩
  · cases h
def ownR_s (c : Int) (w : Int) (d : Int) (k : Int) (i : Int) (b : Bool) : Option (Bool × D RC) := some (true, .tup (.acons (.int .i64 (lOwn c w d k i b).1) (.acons (.int .i64 (lOwn c w d k i b).2) .anil)))
def ownR_sp : List (D RC) → Option (Bool × D RC)
  | [.acons (.int .i64 c) (.acons (.int .i64 w) (.acons (.int .i64 d) (.acons (.int .i64 k) .anil))), .int .i64 i, .bool b] => ownR_s c w d k i b
  | _ => none
noncomputable def ownR_e (c : Int) (w : Int) (d : Int) (k : Int) (i : Int) (b : Bool) := evF s12 ud_20 20 15 [.acons (.int .i64 c) (.acons (.int .i64 w) (.acons (.int .i64 d) (.acons (.int .i64 k) .anil))), .int .i64 i, .bool b]
theorem ownR_eq (c : Int) (w : Int) (d : Int) (k : Int) (i : Int) (b : Bool) : ownR_e c w d k i b = (let Z0 : D RC := D.int .i64 0; let Z1 : DO_ := some (D.tup (D.acons Z0 (D.acons Z0 .anil))); bif (bif okSet c w d k then (0 : Int) else (2 : Int)) != (0 : Int) then Z1 else bif decide (i < (0 : Int)) then Z1 else bif decide (c ≤ i) then Z1 else bif b then some (D.tup (D.acons (D.int .i64 (IntKind.wrap .i64 (i * k))) (.acons (D.int .i64 k) .anil))) else some (D.tup (D.acons (D.int .i64 (IntKind.wrap .i64 (i * d))) (.acons (D.int .i64 d) .anil)))) := by kernel_rfl
theorem ownR_ok (c : Int) (w : Int) (d : Int) (k : Int) (i : Int) (b : Bool) (h : (true) = true) : ownR_e c w d k i b = some (.tup (.acons (.int .i64 (lOwn c w d k i b).1) (.acons (.int .i64 (lOwn c w d k i b).2) .anil))) := by
  (rw [ownR_eq]; conv => zeta)
  unfold lOwn
  cases hk : okSet c w d k
  · simp; done
  · have hb := okSet_le hk
    simp only [cond_true, bne_self_eq_false, cond_false]
    refine cond2 (fun h0 => ?_) fun h0 => ?_ <;> simp only [decide_eq_true_eq, decide_eq_false_iff_not] at h0
    · rw [if_neg (by omega)]
    refine cond2 (fun h0 => ?_) fun h0 => ?_ <;> simp only [decide_eq_true_eq, decide_eq_false_iff_not] at h0
    · rw [if_neg (by omega)]
    have hmul : ∀ x : Int, 1 ≤ x → x ≤ 40 → IntKind.i64.wrap (i * x) = i * x := fun x h1 h2 => by
      have hi : i = 0 ∨ i = 1 ∨ i = 2 ∨ i = 3 := by omega
      rcases hi with rfl | rfl | rfl | rfl <;> exact wrap_id (by omega) (by omega)
    rw [if_pos ⟨trivial, by omega, by omega⟩, hmul k (by omega) (by omega), hmul d (by omega) (by omega)]
    cases b <;> rfl
noncomputable def ud_21 := ud_20.addSpec 15 ownR_sp
theorem ud_21_laws : FLaws Tryd.prog s12 ud_21 := ud_20_laws.addEv s12_laws fun args d h => by
  unfold ownR_sp at h
  split at h
  · unfold ownR_s at h
    have h1 := congrArg Prod.fst (Option.some.inj h)
    obtain rfl : _ = d := congrArg Prod.snd (Option.some.inj h)
    exact ⟨by simp [D.refs], 20, ownR_ok _ _ _ _ _ _ h1⟩
  · cases h
def newP_s  : Option (Bool × D RC) := some (true, .sl (C := RC) .int false newCells)
def newP_sp : List (D RC) → Option (Bool × D RC)
  | [] => newP_s 
  | _ => none
noncomputable def newP_e  := evF s12 ud_21 1000 34 []
theorem newP_ok  (h : (true) = true) : newP_e  = some (.sl (C := RC) .int false newCells) := by
  kernel_rfl
noncomputable def ud_22 := ud_21.addSpec 34 newP_sp
theorem ud_22_laws : FLaws Tryd.prog s12 ud_22 := ud_21_laws.addEv s12_laws fun args d h => by
  unfold newP_sp at h
  split at h
  · unfold newP_s at h
    have h1 := congrArg Prod.fst (Option.some.inj h)
    obtain rfl : _ = d := congrArg Prod.snd (Option.some.inj h)
    exact ⟨by simp [D.refs], 1000, newP_ok  h1⟩
  · cases h
def newR_s  : Option (Bool × D RC) := some (true, .sl (C := RC) .int false newCells)
def newR_sp : List (D RC) → Option (Bool × D RC)
  | [] => newR_s 
  | _ => none
noncomputable def newR_e  := evF s12 ud_22 1000 35 []
theorem newR_ok  (h : (true) = true) : newR_e  = some (.sl (C := RC) .int false newCells) := by
  kernel_rfl
noncomputable def ud_23 := ud_22.addSpec 35 newR_sp
theorem ud_23_laws : FLaws Tryd.prog s12 ud_23 := ud_22_laws.addEv s12_laws fun args d h => by
  unfold newR_sp at h
  split at h
  · unfold newR_s at h
    have h1 := congrArg Prod.fst (Option.some.inj h)
    obtain rfl : _ = d := congrArg Prod.snd (Option.some.inj h)
    exact ⟨by simp [D.refs], 1000, newR_ok  h1⟩
  · cases h
def dTail (a i n : Nat) : List Int := (List.range' i (n - i)).map fun c => ((a + c : Nat) : Int)
theorem dTail_step {a i n : Nat} (h : i < n) : dTail a i n = ((a + i : Nat) : Int) :: dTail a (i + 1) n := by
  unfold dTail
  rw [show n - i = (n - (i + 1)) + 1 by omega, List.range'_succ]; rfl
theorem dTail_end {a n : Nat} : dTail a n n = [] := by unfold dTail; rw [Nat.sub_self]; rfl
theorem desc_nat {i : Nat} (h : i < 192) : lField 99 ((i : Int).tdiv 12) ((i : Int).tmod 12) 16 12 = ((99 + i : Nat) : Int) := by
  rw [Int.tdiv_eq_ediv_of_nonneg (by omega), Int.tmod_eq_emod_of_nonneg (by omega), lField, if_pos (by omega)]
  omega
theorem node_nat {i : Nat} (h : i < 480) : lField 291 ((i : Int).tdiv 3) ((i : Int).tmod 3) 160 3 = ((291 + i : Nat) : Int) := by
  rw [Int.tdiv_eq_ediv_of_nonneg (by omega), Int.tmod_eq_emod_of_nonneg (by omega), lField, if_pos (by omega)]
  omega
def l99 : List Int := [0, 1, 2, 3, 4, 5, 9, 6, 10, 7, 11, 8, 12, 13, 14, 15, 16, 17, 18, 19, 20] ++ dTail 21 0 24 ++ ([45, 48] ++ dTail 51 0 16) ++ ([46, 49] ++ dTail 67 0 16) ++ ([47, 50] ++ dTail 83 0 16)
def lAll : List Int := l99 ++ dTail 99 0 192 ++ dTail 291 0 480
def allC : List Int := (List.range 771).map fun (c : Nat) => (c : Int)
theorem l99_perm : l99.Perm ((List.range 99).map fun (c : Nat) => (c : Int)) := List.isPerm_iff.1 (by decide +kernel)
theorem tail_range (a n : Nat) : dTail a 0 n = (List.range' a n).map fun (c : Nat) => (c : Int) := by
  unfold dTail
  rw [Nat.sub_zero, ← List.range_eq_range', List.range'_eq_map_range, List.map_map]
  rfl
theorem lAll_perm : lAll.Perm allC := by
  have e : allC = ((List.range 99).map fun (c : Nat) => (c : Int)) ++ dTail 99 0 192 ++ dTail 291 0 480 := by
    rw [tail_range, tail_range, ← List.map_append, ← List.map_append]
    unfold allC
    have e1 : List.range' 0 99 ++ List.range' 99 192 = List.range' 0 291 := List.range'_append_1 (s := 0) (m := 99) (n := 192)
    have e2 : List.range' 0 291 ++ List.range' 291 480 = List.range' 0 771 := List.range'_append_1 (s := 0) (m := 291) (n := 480)
    rw [List.range_eq_range', List.range_eq_range', e1, e2]
  rw [e]
  exact (l99_perm.append_right _).append_right _
theorem lAll_len : lAll.length = 771 := by rw [lAll_perm.length_eq]; simp [allC]
theorem lAll_mem {a : Int} (h : a ∈ lAll) : 0 ≤ a ∧ a < 771 := by
  have := lAll_perm.mem_iff.1 h
  unfold allC at this
  rw [List.mem_map] at this
  obtain ⟨c, hc, rfl⟩ := this
  rw [List.mem_range] at hc
  omega
theorem lAll_at {i : Nat} (h : i < 771) : 0 ≤ lAll.getD i 0 ∧ lAll.getD i 0 < 771 := by
  have hl := lAll_len
  rw [List.getD_eq_getElem?_getD, List.getElem?_eq_getElem (by omega)]
  exact lAll_mem (List.getElem_mem _)
theorem ext_getD {l m : List Int} (h : l.length = m.length) (h2 : ∀ c, c < l.length → l.getD c 0 = m.getD c 0) : l = m := by
  refine List.ext_getElem h fun c hc hc' => ?_
  have := h2 c hc
  rw [List.getD_eq_getElem?_getD, List.getD_eq_getElem?_getD, List.getElem?_eq_getElem hc, List.getElem?_eq_getElem hc'] at this
  exact this
def cntOf (l : List Int) : List Int := (List.range 771).map fun (c : Nat) => ((l.count (c : Int) : Nat) : Int)
theorem cntOf_len (l : List Int) : (cntOf l).length = 771 := by simp [cntOf]
theorem cntOf_at (l : List Int) {c : Nat} (h : c < 771) : (cntOf l).getD c 0 = (l.count (c : Int) : Nat) := by
  unfold cntOf
  rw [List.getD_eq_getElem?_getD, List.getElem?_map, List.getElem?_range h]; rfl
theorem cntOf_step (l : List Int) {a : Int} (h0 : 0 ≤ a) (h1 : a < 771) : (cntOf l).set a.toNat ((cntOf l).getD a.toNat 0 + 1) = cntOf (l ++ [a]) := by
  refine ext_getD (by rw [List.length_set, cntOf_len, cntOf_len]) fun c hc => ?_
  rw [List.length_set, cntOf_len] at hc
  rw [cntOf_at _ hc, List.count_append]
  by_cases e : a.toNat = c
  · subst e
    rw [List.getD_eq_getElem?_getD, List.getElem?_set_self (by rw [cntOf_len]; exact hc), cntOf_at _ hc]
    have : ((a.toNat : Nat) : Int) = a := by omega
    rw [this]
    simp
  · rw [List.getD_eq_getElem?_getD, List.getElem?_set_ne e, ← List.getD_eq_getElem?_getD, cntOf_at _ hc]
    have : (a == (c : Int)) = false := by simp; omega
    simp [List.count_cons, this]
theorem cntOf_nil : cntOf [] = List.replicate 771 0 := by
  refine ext_getD (by rw [cntOf_len, List.length_replicate]) fun c hc => ?_
  rw [cntOf_len] at hc
  rw [cntOf_at _ hc, List.getD_eq_getElem?_getD, List.getElem?_replicate_of_lt hc]
  simp
theorem cntOf_le (l : List Int) {a : Int} (h0 : 0 ≤ a) (h1 : a < 771) : 0 ≤ (cntOf l).getD a.toNat 0 ∧ (cntOf l).getD a.toNat 0 ≤ l.length := by
  rw [cntOf_at _ (show a.toNat < 771 by omega)]
  have := List.count_le_length (a := ((a.toNat : Nat) : Int)) (l := l)
  omega
theorem allC_nodup : allC.Nodup := by
  unfold allC
  rw [List.Nodup, List.pairwise_map]
  exact List.Pairwise.imp (fun h e => h (Int.ofNat_inj.1 e)) List.nodup_range
theorem cntOf_all : cntOf lAll = List.replicate 771 1 := by
  refine ext_getD (by rw [cntOf_len, List.length_replicate]) fun c hc => ?_
  rw [cntOf_len] at hc
  rw [cntOf_at _ hc, lAll_perm.count_eq, List.getD_eq_getElem?_getD, List.getElem?_replicate_of_lt hc, Option.getD_some]
  have hm : (c : Int) ∈ allC := List.mem_map.2 ⟨c, List.mem_range.2 hc, rfl⟩
  have h1 := List.count_pos_iff.2 hm
  have h2 := List.nodup_iff_count.1 allC_nodup (c : Int)
  omega
def okSeen (sn l : List Int) : Prop := sn = List.replicate 771 0 ∧ l = lAll
def okOnes (sn : List Int) : Prop := sn = List.replicate 771 1
theorem okSeen_mk {m : List Int} (h : m = l99) : okSeen (List.replicate 771 0) (m ++ dTail 99 0 192 ++ dTail 291 0 480) := ⟨rfl, by rw [h]; rfl⟩
theorem cond_so {α : Type} {c : Bool} {x y z : α} (h : c = true) (h2 : x = z) : cond c x y = z := by rw [h]; exact h2
theorem take_next {l : List Int} {i : Nat} (h : i < l.length) : l.take (i + 1) = l.take i ++ [l.getD i 0] := by
  rw [List.getD_eq_getElem?_getD, List.getElem?_eq_getElem h, Option.getD_some, List.take_append_getElem]
open Go.Proofs
structure descL_St where
  l : List Int
  i : Nat
def descL_c (l : List Int) (i : Nat) : Env RC := [(5, .vs 0 (l.length)), (11, .int .i64 (i : Int))]
def descL_o (l : List Int) (i : Nat) : List (Obj RC) := [.vec .int false l]
noncomputable def descL_r (l : List Int) (i : Nat) := rndO s12 ud_23 6 25 40 1 [5, 11] [5] [.slot 5 0] (descL_c l i) (descL_o l i)
theorem descL_eq (l : List Int) (i : Nat) : descL_r l i = (let Z0 : Int := (↑i : Int); let Z1 : Nat := List.length l; let Z2 : List Int := [lField (99 : Int) (IntKind.wrap .i64 (Int.tdiv Z0 (12 : Int))) (Int.tmod Z0 (12 : Int)) (16 : Int) (12 : Int)]; bif decide (Z0 < (192 : Int)) then bif Nat.beq Z1 Z1 && sizeOK (Z1 + List.length Z2) (8 : Nat) then some ((X.normal, [(5, D.vs 0 (Z1 + List.length Z2)), (11, D.int .i64 (IntKind.wrap .i64 (Z0 + (1 : Int))))]), [some (Obj.vec RTy.int false (l ++ Z2))]) else none else some ((X.exit (10 : Nat), [(5, D.vs 0 Z1)]), [some (Obj.vec RTy.int false l)])) := by kernel_rfl
def descL_fin (l : List Int) (i : Nat) : RT RC := .leaf (.exit 10) [(5, .vs 0 (l ++ dTail 99 i 192).length)] [.vec .int false (l ++ dTail 99 i 192)]
def descL_Inv (l : List Int) (i : Nat) : Prop := i ≤ 192 ∧ l.length ≤ 1000 + i
def descL_S : LoopR RC descL_St where
  k := 1
  canon q := descL_c q.l q.i
  objs q := descL_o q.l q.i
  fin q := descL_fin q.l q.i
  Inv q := descL_Inv q.l q.i
  μ q := 192 - q.i
theorem descL_round (l : List Int) (i : Nat) (hI : descL_Inv l i) : Leaf (descL_r l i) (LedR descL_S ⟨l, i⟩) := by
  (rw [descL_eq]; conv => zeta)
  unfold descL_Inv at hI
  obtain ⟨hi, hl⟩ := hI
  by_cases hlt : i < 192
  · have v1 : IntKind.i64.wrap ((i : Int) + 1) = ((i + 1 : Nat) : Int) := by rw [wrap_id (by omega) (by omega)]; simp
    have v2 : IntKind.i64.wrap ((i : Int).tdiv 12) = (i : Int).tdiv 12 := by
      rw [Int.tdiv_eq_ediv_of_nonneg (by omega)]; exact wrap_id (by omega) (by omega)
    rw [decide_eq_true (show (i : Int) < 192 by omega), v1]
    simp only [v2, desc_nat hlt, cond_true, List.length_cons, List.length_nil]
    have hz : (Nat.beq l.length l.length && sizeOK (l.length + (0 + 1)) 8) = true := by simp [sizeOK]; omega
    simp only [hz, cond_true]
    have e : l ++ dTail 99 i 192 = (l ++ [((99 + i : Nat) : Int)]) ++ dTail 99 (i + 1) 192 := by rw [dTail_step hlt, List.append_assoc]; rfl
    exact leafR_go ⟨l ++ [((99 + i : Nat) : Int)], i + 1⟩ ⟨hlt, by simp; omega⟩ (by simp only [descL_S]; omega) (by simp only [descL_S, descL_fin, e]) (by simp [descL_S, descL_c]) rfl
  · obtain rfl : i = 192 := by omega
    rw [decide_eq_false (show ¬ ((192 : Nat) : Int) < 192 by omega)]
    simp only [cond_false]
    exact leafR_exit (descL_o l 192) (by simp only [descL_S, descL_fin, dTail_end, List.append_nil, RT.val]; rfl) rfl
def descL_d (env : Env RC) (os : List (Obj RC)) : Option (Bool × descL_St) := match env, os with
  | [(5, .vs 0 x0), (11, .int .i64 x1)], [.vec .int false l] => staticD (true) (decide (x0 = l.length) && decide (x1 = 0) && decide (l.length ≤ 1000), ⟨l, 0⟩)
  | _, _ => none
noncomputable def ue_1 := ud_23.addLoop 6 25 (sumR s12 [.slot 5 0] [5, 11] descL_S descL_d)
theorem ue_1_laws : FLaws Tryd.prog s12 ue_1 := by
  refine ud_23_laws.addRoundsR s12_laws (by kernel_rfl) descL_S 40 [5, 11] [5] [.slot 5 0] [5, 11] descL_d (fun q hI => ?_) ?_
  · obtain ⟨l, i⟩ := q
    refine ⟨?_, ?_, descL_round l i hI⟩
    · simp_all [RefsOK, descL_S, descL_c, descL_o, descL_Inv, D.refs, Obj.refs, rEnc]
    · simp_all [descL_S, descL_fin, descL_o, descL_Inv, RT.refsOK, RefsOK, D.refs, Obj.refs, rEnc]
  · intro env os b q hd_ hb
    unfold descL_d at hd_
    split at hd_
    · obtain ⟨hs, hd_⟩ := staticD_some hd_
      cases hd_
      simp only [Bool.and_eq_true, decide_eq_true_eq] at hb
      obtain ⟨⟨e0, e1⟩, e2⟩ := hb
      subst e0
      subst e1
      exact ⟨⟨Nat.zero_le _, e2⟩, rfl, rfl⟩
    · cases hd_
structure nodeL_St where
  l : List Int
  i : Nat
def nodeL_c (l : List Int) (i : Nat) : Env RC := [(5, .vs 0 (l.length)), (12, .int .i64 (i : Int))]
def nodeL_o (l : List Int) (i : Nat) : List (Obj RC) := [.vec .int false l]
noncomputable def nodeL_r (l : List Int) (i : Nat) := rndO s12 ue_1 6 29 40 1 [5, 12] [5] [.slot 5 0] (nodeL_c l i) (nodeL_o l i)
theorem nodeL_eq (l : List Int) (i : Nat) : nodeL_r l i = (let Z0 : Int := (↑i : Int); let Z1 : Nat := List.length l; let Z2 : List Int := [lField (291 : Int) (IntKind.wrap .i64 (Int.tdiv Z0 (3 : Int))) (Int.tmod Z0 (3 : Int)) (160 : Int) (3 : Int)]; bif decide (Z0 < (480 : Int)) then bif Nat.beq Z1 Z1 && sizeOK (Z1 + List.length Z2) (8 : Nat) then some ((X.normal, [(5, D.vs 0 (Z1 + List.length Z2)), (12, D.int .i64 (IntKind.wrap .i64 (Z0 + (1 : Int))))]), [some (Obj.vec RTy.int false (l ++ Z2))]) else none else some ((X.exit (12 : Nat), [(5, D.vs 0 Z1)]), [some (Obj.vec RTy.int false l)])) := by kernel_rfl
def nodeL_fin (l : List Int) (i : Nat) : RT RC := .leaf (.exit 12) [(5, .vs 0 (l ++ dTail 291 i 480).length)] [.vec .int false (l ++ dTail 291 i 480)]
def nodeL_Inv (l : List Int) (i : Nat) : Prop := i ≤ 480 ∧ l.length ≤ 1000 + i
def nodeL_S : LoopR RC nodeL_St where
  k := 1
  canon q := nodeL_c q.l q.i
  objs q := nodeL_o q.l q.i
  fin q := nodeL_fin q.l q.i
  Inv q := nodeL_Inv q.l q.i
  μ q := 480 - q.i
theorem nodeL_round (l : List Int) (i : Nat) (hI : nodeL_Inv l i) : Leaf (nodeL_r l i) (LedR nodeL_S ⟨l, i⟩) := by
  (rw [nodeL_eq]; conv => zeta)
  unfold nodeL_Inv at hI
  obtain ⟨hi, hl⟩ := hI
  by_cases hlt : i < 480
  · have v1 : IntKind.i64.wrap ((i : Int) + 1) = ((i + 1 : Nat) : Int) := by rw [wrap_id (by omega) (by omega)]; simp
    have v2 : IntKind.i64.wrap ((i : Int).tdiv 3) = (i : Int).tdiv 3 := by
      rw [Int.tdiv_eq_ediv_of_nonneg (by omega)]; exact wrap_id (by omega) (by omega)
    rw [decide_eq_true (show (i : Int) < 480 by omega), v1]
    simp only [v2, node_nat hlt, cond_true, List.length_cons, List.length_nil]
    have hz : (Nat.beq l.length l.length && sizeOK (l.length + (0 + 1)) 8) = true := by simp [sizeOK]; omega
    simp only [hz, cond_true]
    have e : l ++ dTail 291 i 480 = (l ++ [((291 + i : Nat) : Int)]) ++ dTail 291 (i + 1) 480 := by rw [dTail_step hlt, List.append_assoc]; rfl
    exact leafR_go ⟨l ++ [((291 + i : Nat) : Int)], i + 1⟩ ⟨hlt, by simp; omega⟩ (by simp only [nodeL_S]; omega) (by simp only [nodeL_S, nodeL_fin, e]) (by simp [nodeL_S, nodeL_c]) rfl
  · obtain rfl : i = 480 := by omega
    rw [decide_eq_false (show ¬ ((480 : Nat) : Int) < 480 by omega)]
    simp only [cond_false]
    exact leafR_exit (nodeL_o l 480) (by simp only [nodeL_S, nodeL_fin, dTail_end, List.append_nil, RT.val]; rfl) rfl
def nodeL_d (env : Env RC) (os : List (Obj RC)) : Option (Bool × nodeL_St) := match env, os with
  | [(5, .vs 0 x0), (12, .int .i64 x1)], [.vec .int false l] => staticD (true) (decide (x0 = l.length) && decide (x1 = 0) && decide (l.length ≤ 1000), ⟨l, 0⟩)
  | _, _ => none
noncomputable def ue_2 := ue_1.addLoop 6 29 (sumR s12 [.slot 5 0] [5, 12] nodeL_S nodeL_d)
theorem ue_2_laws : FLaws Tryd.prog s12 ue_2 := by
  refine ue_1_laws.addRoundsR s12_laws (by kernel_rfl) nodeL_S 40 [5, 12] [5] [.slot 5 0] [5, 12] nodeL_d (fun q hI => ?_) ?_
  · obtain ⟨l, i⟩ := q
    refine ⟨?_, ?_, nodeL_round l i hI⟩
    · simp_all [RefsOK, nodeL_S, nodeL_c, nodeL_o, nodeL_Inv, D.refs, Obj.refs, rEnc]
    · simp_all [nodeL_S, nodeL_fin, nodeL_o, nodeL_Inv, RT.refsOK, RefsOK, D.refs, Obj.refs, rEnc]
  · intro env os b q hd_ hb
    unfold nodeL_d at hd_
    split at hd_
    · obtain ⟨hs, hd_⟩ := staticD_some hd_
      cases hd_
      simp only [Bool.and_eq_true, decide_eq_true_eq] at hb
      obtain ⟨⟨e0, e1⟩, e2⟩ := hb
      subst e0
      subst e1
      exact ⟨⟨Nat.zero_le _, e2⟩, rfl, rfl⟩
    · cases hd_
theorem fndD_own {a : Int} (h0 : 0 ≤ a) (h1 : a < 771) : fnd (nmI a) 0 771 = some a.toNat := by
  have e : a = Int.ofNat a.toNat := by simp; omega
  have h : a.toNat < 771 := by omega
  rw [e, nmI_in h]
  exact fnd_own 771 0 (Nat.zero_le _) (by simp; omega) (by omega)
structure seenA_St where
  sn : List Int
  l : List Int
  i : Nat
noncomputable def seenA_c (sn : List Int) (l : List Int) (i : Nat) : Env RC := [(3, .vs 0 (sn.length)), (4, .bool ((true))), (5, .vs 1 (l.length)), (13, .int .i64 (i : Int))]
def seenA_o (sn : List Int) (l : List Int) (i : Nat) : List (Obj RC) := [.vec .int true sn, .vec .int false l]
noncomputable def seenA_r (sn : List Int) (l : List Int) (i : Nat) := rndO s12 ue_2 6 33 60 2 [3, 4, 5, 13] [4] [.slot 3 0, .slot 5 0] (seenA_c sn l i) (seenA_o sn l i)
theorem seenA_eq (sn : List Int) (l : List Int) (i : Nat) : seenA_r sn l i = (let Z0 : Nat := List.length l; let Z1 : Int := (↑i : Int); let Z2 : Bool := Nat.beq Z0 Z0; let Z3 : Bool := Z2 && decide ((0 : Int) ≤ Z1 ∧ Z1 < (↑Z0 : Int)); let Z4 : Int := List.getD l Z1.toNat (0 : Int); let Z5 : List (Option (Obj RC)) := [some (Obj.vec RTy.int true sn), some (Obj.vec RTy.int false l)]; let Z6 : Nat := List.length sn; let Z7 : Bool := Nat.beq Z6 Z6; let Z8 : Bool := Z7 && decide ((0 : Int) ≤ Z4 ∧ Z4 < (↑Z6 : Int)); let Z9 : Option Nat := fnd (nmI Z4) (0 : Nat) (771 : Nat); let Z10 : Nat × D RC := (3, D.vs 0 Z6); let Z11 : List (Nat × D RC) := [(5, D.vs 1 Z0), (13, D.int .i64 (IntKind.wrap .i64 (Z1 + (1 : Int))))]; let Z12 : List (Option (Obj RC)) := [some (Obj.vec RTy.int true (List.set sn Z4.toNat (IntKind.wrap .i64 (List.getD sn Z4.toNat (0 : Int) + (1 : Int))))), some (Obj.vec RTy.int false l)]; bif lenOK Z0 then bif decide (Z1 < (↑Z0 : Int)) then bif Z3 then bif Z2 then bif decide (Z4 < (0 : Int)) then some ((X.ret, [(4, D.bool true)]), Z5) else bif Z3 then bif Z2 then bif decide ((771 : Int) ≤ Z4) then some ((X.ret, [(4, D.bool true)]), Z5) else bif Z3 then bif Z2 then bif Z8 then bif Z7 then bif Z8 then bif Z7 then bif Z3 then bif Z2 then bif Option.isSome Z9 then bif Z3 then bif Z2 then some ((X.normal, Z10 :: (4, D.bool ((↑(Option.getD Z9 (0 : Nat)) : Int) == Z4)) :: Z11), Z12) else none else none else some ((X.normal, Z10 :: (4, D.bool false) :: Z11), Z12) else none else none else none else none else none else none else none else none else none else none else none else none else some ((X.exit (14 : Nat), [(4, D.bool true)]), Z5) else none) := by kernel_rfl
noncomputable def seenA_fin (sn : List Int) (l : List Int) (i : Nat) : RT RC := .leaf (.exit 14) [(4, .bool true)] [.vec .int true (List.replicate 771 1), .vec .int false lAll]
def seenA_Inv (sn : List Int) (l : List Int) (i : Nat) : Prop := sn = cntOf (lAll.take i) ∧ l = lAll ∧ i ≤ 771
noncomputable def seenA_S : LoopR RC seenA_St where
  k := 2
  canon q := seenA_c q.sn q.l q.i
  objs q := seenA_o q.sn q.l q.i
  fin q := seenA_fin q.sn q.l q.i
  Inv q := seenA_Inv q.sn q.l q.i
  μ q := 771 - q.i
theorem seenA_round (sn : List Int) (l : List Int) (i : Nat) (hI : seenA_Inv sn l i) : Leaf (seenA_r sn l i) (LedR seenA_S ⟨sn, l, i⟩) := by
  (rw [seenA_eq]; conv => zeta)
  unfold seenA_Inv at hI
  obtain ⟨rfl, rfl, hi⟩ := hI
  have hl := lAll_len
  have hc := cntOf_len (lAll.take i)
  have hlk : lenOK lAll.length = true := lenOK_of (by omega)
  simp only [hlk, cond_true]
  by_cases hlt : i < 771
  · have v1 : IntKind.i64.wrap ((i : Int) + 1) = ((i + 1 : Nat) : Int) := by rw [wrap_id (by omega) (by omega)]; simp
    obtain ⟨a0, a1⟩ := lAll_at hlt
    have t0 : ((i : Int)).toNat = i := by simp
    have e1 := take_next (l := lAll) (i := i) (by omega)
    obtain ⟨b0, b1⟩ := cntOf_le (lAll.take i) a0 a1
    have b2 : (lAll.take i).length ≤ 771 := by rw [List.length_take]; omega
    have e2 := cntOf_step (lAll.take i) a0 a1
    have e3 := fndD_own a0 a1
    rw [decide_eq_true (show (i : Int) < (lAll.length : Int) by omega)]
    simp only [cond_true, t0]
    generalize lAll.getD i 0 = a at *
    have d1 : decide ((0 : Int) ≤ (i : Int) ∧ (i : Int) < (lAll.length : Int)) = true := decide_eq_true ⟨by omega, by omega⟩
    have d2 : decide (a < 0) = false := decide_eq_false (by omega)
    have d3 : decide ((771 : Int) ≤ a) = false := decide_eq_false (by omega)
    have d4 : decide ((0 : Int) ≤ a ∧ a < ((cntOf (lAll.take i)).length : Int)) = true := decide_eq_true ⟨a0, by omega⟩
    have v2 : IntKind.i64.wrap ((cntOf (lAll.take i)).getD a.toNat 0 + 1) = (cntOf (lAll.take i)).getD a.toNat 0 + 1 := wrap_id (by omega) (by omega)
    have v3 : (((a.toNat : Nat) : Int) == a) = true := by simp; omega
    simp only [d1, d2, d3, d4, v1, v2, e2, e3, v3, cond_true, cond_false, Option.getD_some, Option.isSome_some]
    rw [← e1]
    exact leafR_go ⟨cntOf (lAll.take (i + 1)), lAll, i + 1⟩ ⟨rfl, rfl, hlt⟩ (by simp only [seenA_S]; omega) rfl (by simp only [seenA_S, seenA_c, cntOf_len]) rfl
  · obtain rfl : i = 771 := by omega
    have e0 : cntOf (lAll.take 771) = List.replicate 771 1 := by rw [List.take_of_length_le (by omega), cntOf_all]
    rw [decide_eq_false (show ¬ ((771 : Nat) : Int) < (lAll.length : Int) by omega)]
    simp only [cond_false]
    exact leafR_exit (seenA_o (List.replicate 771 1) lAll 771) rfl (by rw [e0]; rfl)
noncomputable def seenA_d (env : Env RC) (os : List (Obj RC)) : Option (Bool × seenA_St) := match env, os with
  | [(3, .vs 0 x0), (4, .bool x1), (5, .vs 1 x2), (13, .int .i64 x3)], [.vec .int true sn, .vec .int false l] => staticD (true) (decide (x0 = sn.length) && decide (x1 = (true)) && decide (x2 = l.length) && decide (x3 = 0) && cdec (okSeen sn l), ⟨sn, l, 0⟩)
  | _, _ => none
noncomputable def ue_3 := ue_2.addLoop 6 33 (sumR s12 [.slot 3 0, .slot 5 0] [3, 4, 5, 13] seenA_S seenA_d)
theorem ue_3_laws : FLaws Tryd.prog s12 ue_3 := by
  refine ue_2_laws.addRoundsR s12_laws (by kernel_rfl) seenA_S 60 [3, 4, 5, 13] [4] [.slot 3 0, .slot 5 0] [3, 4, 5, 13] seenA_d (fun q hI => ?_) ?_
  · obtain ⟨sn, l, i⟩ := q
    refine ⟨?_, ?_, seenA_round sn l i hI⟩
    · simp_all [RefsOK, seenA_S, seenA_c, seenA_o, seenA_Inv, D.refs, Obj.refs, rEnc]
    · simp_all [seenA_S, seenA_fin, seenA_o, seenA_Inv, RT.refsOK, RefsOK, D.refs, Obj.refs, rEnc]
  · intro env os b q hd_ hb
    unfold seenA_d at hd_
    split at hd_
    · obtain ⟨hs, hd_⟩ := staticD_some hd_
      cases hd_
      simp only [Bool.and_eq_true, decide_eq_true_eq] at hb
      obtain ⟨⟨⟨⟨e0, e4⟩, e1⟩, e2⟩, e3⟩ := hb
      subst e0
      subst e1
      subst e2
      subst e4
      obtain ⟨f0, f1⟩ := cdec_iff.1 e3
      exact ⟨⟨by rw [f0]; exact cntOf_nil.symm, f1, Nat.zero_le _⟩, rfl, rfl⟩
    · cases hd_
structure onesA_St where
  sn : List Int
  i : Nat
noncomputable def onesA_c (sn : List Int) (i : Nat) : Env RC := [(3, .vs 0 (sn.length)), (4, .bool ((true))), (16, .int .i64 (i : Int))]
def onesA_o (sn : List Int) (i : Nat) : List (Obj RC) := [.vec .int true sn]
noncomputable def onesA_r (sn : List Int) (i : Nat) := rndO s12 ue_3 6 41 40 1 [3, 4, 16] [4] [.slot 3 0] (onesA_c sn i) (onesA_o sn i)
theorem onesA_eq (sn : List Int) (i : Nat) : onesA_r sn i = (let Z0 : Nat := List.length sn; let Z1 : Int := (↑i : Int); bif lenOK Z0 then bif decide (Z1 < (↑Z0 : Int)) then bif Nat.beq Z0 Z0 && decide ((0 : Int) ≤ Z1 ∧ Z1 < (↑Z0 : Int)) then bif Nat.beq Z0 Z0 then some ((X.normal, [(3, D.vs 0 Z0), (4, D.bool (List.getD sn Z1.toNat (0 : Int) == (1 : Int))), (16, D.int .i64 (IntKind.wrap .i64 (Z1 + (1 : Int))))]), [some (Obj.vec RTy.int true sn)]) else none else none else some ((X.exit (16 : Nat), [(4, D.bool true)]), [some (Obj.vec RTy.int true sn)]) else none) := by kernel_rfl
noncomputable def onesA_fin (sn : List Int) (i : Nat) : RT RC := .leaf (.exit 16) [(4, .bool true)] (onesA_o sn i)
def onesA_Inv (sn : List Int) (i : Nat) : Prop := sn = List.replicate 771 1 ∧ i ≤ 771
noncomputable def onesA_S : LoopR RC onesA_St where
  k := 1
  canon q := onesA_c q.sn q.i
  objs q := onesA_o q.sn q.i
  fin q := onesA_fin q.sn q.i
  Inv q := onesA_Inv q.sn q.i
  μ q := 771 - q.i
theorem onesA_round (sn : List Int) (i : Nat) (hI : onesA_Inv sn i) : Leaf (onesA_r sn i) (LedR onesA_S ⟨sn, i⟩) := by
  (rw [onesA_eq]; conv => zeta)
  unfold onesA_Inv at hI
  obtain ⟨rfl, hi⟩ := hI
  have hl : (List.replicate 771 (1 : Int)).length = 771 := List.length_replicate
  have hlk : lenOK (List.replicate 771 (1 : Int)).length = true := lenOK_of (by omega)
  simp only [hlk, cond_true]
  by_cases hlt : i < 771
  · have v1 : IntKind.i64.wrap ((i : Int) + 1) = ((i + 1 : Nat) : Int) := by rw [wrap_id (by omega) (by omega)]; simp
    have t0 : ((i : Int)).toNat = i := by simp
    have e1 : (List.replicate 771 (1 : Int)).getD i 0 = 1 := by rw [List.getD_eq_getElem?_getD, List.getElem?_replicate_of_lt hlt]; rfl
    have d0 : decide ((i : Int) < ((List.replicate 771 (1 : Int)).length : Int)) = true := decide_eq_true (by omega)
    have d1 : decide ((0 : Int) ≤ (i : Int) ∧ (i : Int) < ((List.replicate 771 (1 : Int)).length : Int)) = true := decide_eq_true ⟨by omega, by omega⟩
    simp only [d0, d1, t0, v1, e1, cond_true]
    exact leafR_go ⟨List.replicate 771 1, i + 1⟩ ⟨rfl, hlt⟩ (by simp only [onesA_S]; omega) rfl rfl rfl
  · obtain rfl : i = 771 := by omega
    rw [decide_eq_false (show ¬ ((771 : Nat) : Int) < ((List.replicate 771 (1 : Int)).length : Int) by omega)]
    simp only [cond_false]
    exact leafR_exit (onesA_o (List.replicate 771 1) 771) rfl rfl
noncomputable def onesA_d (env : Env RC) (os : List (Obj RC)) : Option (Bool × onesA_St) := match env, os with
  | [(3, .vs 0 x0), (4, .bool x1), (16, .int .i64 x2)], [.vec .int true sn] => staticD (true) (decide (x0 = sn.length) && decide (x1 = (true)) && decide (x2 = 0) && cdec (okOnes sn), ⟨sn, 0⟩)
  | _, _ => none
noncomputable def ue_4 := ue_3.addLoop 6 41 (sumR s12 [.slot 3 0] [3, 4, 16] onesA_S onesA_d)
theorem ue_4_laws : FLaws Tryd.prog s12 ue_4 := by
  refine ue_3_laws.addRoundsR s12_laws (by kernel_rfl) onesA_S 40 [3, 4, 16] [4] [.slot 3 0] [3, 4, 16] onesA_d (fun q hI => ?_) ?_
  · obtain ⟨sn, i⟩ := q
    refine ⟨?_, ?_, onesA_round sn i hI⟩
    · simp_all [RefsOK, onesA_S, onesA_c, onesA_o, onesA_Inv, D.refs, Obj.refs, rEnc]
    · simp_all [onesA_S, onesA_fin, onesA_o, onesA_Inv, RT.refsOK, RefsOK, D.refs, Obj.refs, rEnc]
  · intro env os b q hd_ hb
    unfold onesA_d at hd_
    split at hd_
    · obtain ⟨hs, hd_⟩ := staticD_some hd_
      cases hd_
      simp only [Bool.and_eq_true, decide_eq_true_eq] at hb
      obtain ⟨⟨⟨e0, e4⟩, e1⟩, e2⟩ := hb
      subst e0
      subst e1
      subst e4
      exact ⟨⟨cdec_iff.1 e2, Nat.zero_le _⟩, rfl, rfl⟩
    · cases hd_
theorem own_in {c w d k j : Int} (h : okSet c w d k = true) (h0 : 0 ≤ j) (h1 : j < c) (b : Bool) : lOwn c w d k j b = (j * (bif b then k else d), bif b then k else d) := by
  unfold lOwn
  rw [if_pos ⟨h, h0, h1⟩]
theorem own_apart {i j d m : Int} (h0 : 0 ≤ i) (h1 : i < j) (h2 : j ≤ 3) (h3 : 0 ≤ d) (h4 : d ≤ m) (hm : m ≤ 40) : i * d + d ≤ j * d ∧ 0 ≤ i * d ∧ j * d ≤ 3 * d := by
  have e1 : (i + 1) * d ≤ j * d := Int.mul_le_mul_of_nonneg_right (by omega) h3
  have e2 : 0 ≤ i * d := Int.mul_nonneg h0 h3
  have e3 : j * d ≤ 3 * d := Int.mul_le_mul_of_nonneg_right h2 h3
  rw [Int.add_mul, Int.one_mul] at e1
  exact ⟨e1, e2, e3⟩
structure ownI_St where
  c : Int
  w : Int
  d : Int
  k : Int
  j : Int
  i : Nat
def ownI_c (c : Int) (w : Int) (d : Int) (k : Int) (j : Int) (i : Nat) : Env RC := [(1, .ptr 0 []), (4, .bool ((true))), (17, .int .i64 j), (18, .int .i64 ((j * d))), (19, .int .i64 (d : Int)), (20, .int .i64 ((j * k))), (21, .int .i64 (k : Int)), (22, .int .i64 (i : Int))]
def ownI_o (c : Int) (w : Int) (d : Int) (k : Int) (j : Int) (i : Nat) : List (Obj RC) := [.var 30 (.acons (.int .i64 c) (.acons (.int .i64 w) (.acons (.int .i64 d) (.acons (.int .i64 k) .anil))))]
noncomputable def ownI_r (c : Int) (w : Int) (d : Int) (k : Int) (j : Int) (i : Nat) := rndO s12 ue_4 6 53 60 1 [1, 4, 17, 18, 19, 20, 21, 22] [4] [.slot 1 0] (ownI_c c w d k j i) (ownI_o c w d k j i)
theorem ownI_eq (c : Int) (w : Int) (d : Int) (k : Int) (j : Int) (i : Nat) : ownI_r c w d k j i = (let Z0 : Int := (↑i : Int); let Z1 : Int := Prod.fst (lOwn c w d k Z0 false); let Z2 : Int := Prod.fst (lOwn c w d k Z0 true); let Z3 : Nat × D RC := (1, D.ptr 0 []); let Z4 : List (Nat × D RC) := [(17, D.int .i64 j), (18, D.int .i64 (j * d)), (19, D.int .i64 d), (20, D.int .i64 (j * k)), (21, D.int .i64 k), (22, D.int .i64 (IntKind.wrap .i64 (Z0 + (1 : Int))))]; let Z5 : List (Option (Obj RC)) := [some (Obj.var 30 (.acons (D.int .i64 c) (.acons (D.int .i64 w) (.acons (D.int .i64 d) (.acons (D.int .i64 k) .anil)))))]; let Z6 : RO_ := bif decide (IntKind.wrap .i64 (Z2 + k) ≤ j * k) then some ((X.normal, Z3 :: (4, D.bool true) :: Z4), Z5) else some ((X.normal, Z3 :: (4, D.bool (decide (IntKind.wrap .i64 (j * k + k) ≤ Z2))) :: Z4), Z5); bif decide (Z0 < j) then bif decide (IntKind.wrap .i64 (Z1 + d) ≤ j * d) then Z6 else bif decide (IntKind.wrap .i64 (j * d + d) ≤ Z1) then Z6 else some ((X.normal, Z3 :: (4, D.bool false) :: Z4), Z5) else some ((X.exit (20 : Nat), [(4, D.bool true)]), Z5)) := by kernel_rfl
def ownI_fin (c : Int) (w : Int) (d : Int) (k : Int) (j : Int) (i : Nat) : RT RC := .leaf (.exit 20) [(4, .bool true)] (ownI_o c w d k j i)
def ownI_Inv (c : Int) (w : Int) (d : Int) (k : Int) (j : Int) (i : Nat) : Prop := okSet c w d k = true ∧ j < c ∧ (i : Int) ≤ j
def ownI_S : LoopR RC ownI_St where
  k := 1
  canon q := ownI_c q.c q.w q.d q.k q.j q.i
  objs q := ownI_o q.c q.w q.d q.k q.j q.i
  fin q := ownI_fin q.c q.w q.d q.k q.j q.i
  Inv q := ownI_Inv q.c q.w q.d q.k q.j q.i
  μ q := (q.j - q.i).toNat
theorem ownI_round (c : Int) (w : Int) (d : Int) (k : Int) (j : Int) (i : Nat) (hI : ownI_Inv c w d k j i) : Leaf (ownI_r c w d k j i) (LedR ownI_S ⟨c, w, d, k, j, i⟩) := by
  (rw [ownI_eq]; conv => zeta)
  unfold ownI_Inv at hI
  obtain ⟨hk, hj, hi⟩ := hI
  have hb := okSet_le hk
  by_cases hlt : (i : Int) < j
  · have v1 : IntKind.i64.wrap ((i : Int) + 1) = ((i + 1 : Nat) : Int) := by rw [wrap_id (by omega) (by omega)]; simp
    obtain ⟨a1, a2, a3⟩ := own_apart (i := (i : Int)) (j := j) (d := d) (m := 40) (by omega) hlt (by omega) (by omega) (by omega) (by omega)
    obtain ⟨b1, b2, b3⟩ := own_apart (i := (i : Int)) (j := j) (d := k) (m := 40) (by omega) hlt (by omega) (by omega) (by omega) (by omega)
    rw [decide_eq_true hlt, v1, own_in hk (by omega) (by omega) false, own_in hk (by omega) (by omega) true]
    simp only [cond_true, cond_false]
    have w1 : IntKind.i64.wrap ((i : Int) * d + d) = (i : Int) * d + d := wrap_id (by omega) (by omega)
    have w2 : IntKind.i64.wrap ((i : Int) * k + k) = (i : Int) * k + k := wrap_id (by omega) (by omega)
    simp only [w1, w2, decide_eq_true a1, decide_eq_true b1, cond_true]
    exact leafR_go ⟨c, w, d, k, j, i + 1⟩ ⟨hk, hj, by show ((i + 1 : Nat) : Int) ≤ j; omega⟩ (by simp only [ownI_S]; omega) rfl rfl rfl
  · rw [decide_eq_false hlt]
    simp only [cond_false]
    exact leafR_exit (ownI_o c w d k j i) rfl rfl
def ownI_d (env : Env RC) (os : List (Obj RC)) : Option (Bool × ownI_St) := match env, os with
  | [(1, .ptr 0 []), (4, .bool x0), (17, .int .i64 j), (18, .int .i64 x1), (19, .int .i64 x2), (20, .int .i64 x3), (21, .int .i64 x4), (22, .int .i64 x5)], [.var 30 (.acons (.int .i64 c) (.acons (.int .i64 w) (.acons (.int .i64 d) (.acons (.int .i64 k) .anil))))] => staticD (true) (decide (x0 = (true)) && decide (x1 = (j * d)) && decide (x2 = d) && decide (x3 = (j * k)) && decide (x4 = k) && decide (x5 = 0) && okSet c w d k && decide (0 ≤ j ∧ j < c), ⟨c, w, d, k, j, 0⟩)
  | _, _ => none
noncomputable def ue_5 := ue_4.addLoop 6 53 (sumR s12 [.slot 1 0] [1, 4, 17, 18, 19, 20, 21, 22] ownI_S ownI_d)
theorem ue_5_laws : FLaws Tryd.prog s12 ue_5 := by
  refine ue_4_laws.addRoundsR s12_laws (by kernel_rfl) ownI_S 60 [1, 4, 17, 18, 19, 20, 21, 22] [4] [.slot 1 0] [1, 4, 17, 18, 19, 20, 21, 22] ownI_d (fun q hI => ?_) ?_
  · obtain ⟨c, w, d, k, j, i⟩ := q
    refine ⟨?_, ?_, ownI_round c w d k j i hI⟩
    · simp_all [RefsOK, ownI_S, ownI_c, ownI_o, ownI_Inv, D.refs, Obj.refs, rEnc]
    · simp_all [ownI_S, ownI_fin, ownI_o, ownI_Inv, RT.refsOK, RefsOK, D.refs, Obj.refs, rEnc]
  · intro env os b q hd_ hb
    unfold ownI_d at hd_
    split at hd_
    · obtain ⟨hs, hd_⟩ := staticD_some hd_
      cases hd_
      simp only [Bool.and_eq_true, decide_eq_true_eq] at hb
      obtain ⟨⟨⟨⟨⟨⟨⟨e7, e0⟩, e1⟩, e2⟩, e3⟩, e4⟩, e5⟩, e6⟩ := hb
      subst e7
      subst e0
      subst e1
      subst e2
      subst e3
      subst e4
      exact ⟨⟨e5, e6.2, e6.1⟩, rfl, rfl⟩
    · cases hd_
structure ownO_St where
  c : Int
  w : Int
  d : Int
  k : Int
  j : Nat
def ownO_c (c : Int) (w : Int) (d : Int) (k : Int) (j : Nat) : Env RC := [(1, .ptr 0 []), (4, .bool ((true))), (17, .int .i64 (j : Int))]
def ownO_o (c : Int) (w : Int) (d : Int) (k : Int) (j : Nat) : List (Obj RC) := [.var 30 (.acons (.int .i64 c) (.acons (.int .i64 w) (.acons (.int .i64 d) (.acons (.int .i64 k) .anil))))]
noncomputable def ownO_r (c : Int) (w : Int) (d : Int) (k : Int) (j : Nat) := rndO s12 ue_5 6 47 60 1 [1, 4, 17] [4] [.slot 1 0] (ownO_c c w d k j) (ownO_o c w d k j)
theorem ownO_eq (c : Int) (w : Int) (d : Int) (k : Int) (j : Nat) : ownO_r c w d k j = (let Z0 : Int := (↑j : Int); let Z1 : Int := Prod.snd (lOwn c w d k Z0 false); let Z2 : Int := Prod.snd (lOwn c w d k Z0 true); let Z3 : Int := Prod.fst (lOwn c w d k Z0 false); let Z4 : Int := Prod.fst (lOwn c w d k Z0 true); let Z5 : List (Option (Obj RC)) := [some (Obj.var 30 (.acons (D.int .i64 c) (.acons (D.int .i64 w) (.acons (D.int .i64 d) (.acons (D.int .i64 k) .anil)))))]; bif decide (Z0 < c) then bif Z1 == d then bif Z2 == k then bif decide ((0 : Int) ≤ Z3) then bif decide (IntKind.wrap .i64 (Z3 + Z1) ≤ (16 : Int)) then bif decide ((0 : Int) ≤ Z4) then bif decide (decide (IntKind.wrap .i64 (Z4 + Z2) ≤ (160 : Int)) = true) && decide (Z3 = Z0 * d) && decide (Z1 = d) && decide (Z4 = Z0 * k) && decide (Z2 = k) && true && okSet c w d k && decide ((0 : Int) ≤ Z0 ∧ Z0 < c) then some ((X.normal, [(1, D.ptr 0 []), (4, D.bool true), (17, D.int .i64 (IntKind.wrap .i64 (Z0 + (1 : Int))))]), Z5) else none else none else none else none else none else none else some ((X.exit (18 : Nat), [(4, D.bool true)]), Z5)) := by kernel_rfl
def ownO_fin (c : Int) (w : Int) (d : Int) (k : Int) (j : Nat) : RT RC := .leaf (.exit 18) [(4, .bool true)] (ownO_o c w d k j)
def ownO_Inv (c : Int) (w : Int) (d : Int) (k : Int) (j : Nat) : Prop := okSet c w d k = true ∧ (j : Int) ≤ c
def ownO_S : LoopR RC ownO_St where
  k := 1
  canon q := ownO_c q.c q.w q.d q.k q.j
  objs q := ownO_o q.c q.w q.d q.k q.j
  fin q := ownO_fin q.c q.w q.d q.k q.j
  Inv q := ownO_Inv q.c q.w q.d q.k q.j
  μ q := (q.c - q.j).toNat
theorem ownO_round (c : Int) (w : Int) (d : Int) (k : Int) (j : Nat) (hI : ownO_Inv c w d k j) : Leaf (ownO_r c w d k j) (LedR ownO_S ⟨c, w, d, k, j⟩) := by
  (rw [ownO_eq]; conv => zeta)
  unfold ownO_Inv at hI
  obtain ⟨hk, hj⟩ := hI
  have hb := okSet_le hk
  by_cases hlt : (j : Int) < c
  · have v1 : IntKind.i64.wrap ((j : Int) + 1) = ((j + 1 : Nat) : Int) := by rw [wrap_id (by omega) (by omega)]; simp
    have a3 : (j : Int) * d ≤ 3 * d := Int.mul_le_mul_of_nonneg_right (by omega) (by omega)
    have a2 : 0 ≤ (j : Int) * d := Int.mul_nonneg (by omega) (by omega)
    have b3 : (j : Int) * k ≤ 3 * k := Int.mul_le_mul_of_nonneg_right (by omega) (by omega)
    have b2 : 0 ≤ (j : Int) * k := Int.mul_nonneg (by omega) (by omega)
    rw [decide_eq_true hlt, v1, own_in hk (by omega) (by omega) false, own_in hk (by omega) (by omega) true]
    simp only [cond_true, cond_false]
    have w1 : IntKind.i64.wrap ((j : Int) * d + d) = (j : Int) * d + d := wrap_id (by omega) (by omega)
    have w2 : IntKind.i64.wrap ((j : Int) * k + k) = (j : Int) * k + k := wrap_id (by omega) (by omega)
    have c1 : decide ((j : Int) * d + d ≤ 16) = true := decide_eq_true (by omega)
    have c2 : decide ((j : Int) * k + k ≤ 160) = true := decide_eq_true (by omega)
    have c3 : decide ((0 : Int) ≤ (j : Int) ∧ (j : Int) < c) = true := decide_eq_true ⟨by omega, hlt⟩
    simp only [w1, w2, c1, c2, c3, hk, decide_eq_true a2, decide_eq_true b2, beq_self_eq_true, decide_true, Bool.and_self, Bool.and_true, cond_true]
    exact leafR_go ⟨c, w, d, k, j + 1⟩ ⟨hk, by show ((j + 1 : Nat) : Int) ≤ c; omega⟩ (by simp only [ownO_S]; omega) rfl rfl rfl
  · rw [decide_eq_false hlt]
    simp only [cond_false]
    exact leafR_exit (ownO_o c w d k j) rfl rfl
def ownO_d (env : Env RC) (os : List (Obj RC)) : Option (Bool × ownO_St) := match env, os with
  | [(1, .ptr 0 []), (4, .bool x0), (17, .int .i64 x1)], [.var 30 (.acons (.int .i64 c) (.acons (.int .i64 w) (.acons (.int .i64 d) (.acons (.int .i64 k) .anil))))] => staticD (true) (decide (x0 = (true)) && decide (x1 = 0) && okSet c w d k, ⟨c, w, d, k, 0⟩)
  | _, _ => none
noncomputable def ue_6 := ue_5.addLoop 6 47 (sumR s12 [.slot 1 0] [1, 4, 17] ownO_S ownO_d)
theorem ue_6_laws : FLaws Tryd.prog s12 ue_6 := by
  refine ue_5_laws.addRoundsR s12_laws (by kernel_rfl) ownO_S 60 [1, 4, 17] [4] [.slot 1 0] [1, 4, 17] ownO_d (fun q hI => ?_) ?_
  · obtain ⟨c, w, d, k, j⟩ := q
    refine ⟨?_, ?_, ownO_round c w d k j hI⟩
    · simp_all [RefsOK, ownO_S, ownO_c, ownO_o, ownO_Inv, D.refs, Obj.refs, rEnc]
    · simp_all [ownO_S, ownO_fin, ownO_o, ownO_Inv, RT.refsOK, RefsOK, D.refs, Obj.refs, rEnc]
  · intro env os b q hd_ hb
    unfold ownO_d at hd_
    split at hd_
    · obtain ⟨hs, hd_⟩ := staticD_some hd_
      cases hd_
      simp only [Bool.and_eq_true, decide_eq_true_eq] at hb
      obtain ⟨⟨e0, e1⟩, e2⟩ := hb
      subst e0
      subst e1
      have := (okSet_le e2).1
      exact ⟨⟨e2, Int.le_trans (show ((0 : Nat) : Int) ≤ 1 by decide) this.1⟩, rfl, rfl⟩
    · cases hd_
noncomputable def lApart_e (c : Int) (w : Int) (d : Int) (k : Int) := evF s12 ue_6 200 6 [.acons (.int .i64 c) (.acons (.int .i64 w) (.acons (.int .i64 d) (.acons (.int .i64 k) .anil)))]
theorem lApart_eq (c : Int) (w : Int) (d : Int) (k : Int) : lApart_e c w d k = (let Z0 : List Int := []; bif cdec (okSeen (List.replicate (771 : Nat) (0 : Int)) ((0 : Int) :: (1 : Int) :: (2 : Int) :: (3 : Int) :: (4 : Int) :: Z0 ++ (5 : Int) :: (9 : Int) :: Z0 ++ (6 : Int) :: (10 : Int) :: Z0 ++ (7 : Int) :: (11 : Int) :: Z0 ++ (8 : Int) :: (12 : Int) :: Z0 ++ (13 : Int) :: Z0 ++ (14 : Int) :: Z0 ++ (15 : Int) :: Z0 ++ (16 : Int) :: Z0 ++ (17 : Int) :: Z0 ++ (18 : Int) :: Z0 ++ (19 : Int) :: Z0 ++ (20 : Int) :: Z0 ++ (21 : Int) :: Z0 ++ (22 : Int) :: Z0 ++ (23 : Int) :: Z0 ++ (24 : Int) :: Z0 ++ (25 : Int) :: Z0 ++ (26 : Int) :: Z0 ++ (27 : Int) :: Z0 ++ (28 : Int) :: Z0 ++ (29 : Int) :: Z0 ++ (30 : Int) :: Z0 ++ (31 : Int) :: Z0 ++ (32 : Int) :: Z0 ++ (33 : Int) :: Z0 ++ (34 : Int) :: Z0 ++ (35 : Int) :: Z0 ++ (36 : Int) :: Z0 ++ (37 : Int) :: Z0 ++ (38 : Int) :: Z0 ++ (39 : Int) :: Z0 ++ (40 : Int) :: Z0 ++ (41 : Int) :: Z0 ++ (42 : Int) :: Z0 ++ (43 : Int) :: Z0 ++ (44 : Int) :: Z0 ++ (45 : Int) :: (48 : Int) :: Z0 ++ (51 : Int) :: Z0 ++ (52 : Int) :: Z0 ++ (53 : Int) :: Z0 ++ (54 : Int) :: Z0 ++ (55 : Int) :: Z0 ++ (56 : Int) :: Z0 ++ (57 : Int) :: Z0 ++ (58 : Int) :: Z0 ++ (59 : Int) :: Z0 ++ (60 : Int) :: Z0 ++ (61 : Int) :: Z0 ++ (62 : Int) :: Z0 ++ (63 : Int) :: Z0 ++ (64 : Int) :: Z0 ++ (65 : Int) :: Z0 ++ (66 : Int) :: Z0 ++ (46 : Int) :: (49 : Int) :: Z0 ++ (67 : Int) :: Z0 ++ (68 : Int) :: Z0 ++ (69 : Int) :: Z0 ++ (70 : Int) :: Z0 ++ (71 : Int) :: Z0 ++ (72 : Int) :: Z0 ++ (73 : Int) :: Z0 ++ (74 : Int) :: Z0 ++ (75 : Int) :: Z0 ++ (76 : Int) :: Z0 ++ (77 : Int) :: Z0 ++ (78 : Int) :: Z0 ++ (79 : Int) :: Z0 ++ (80 : Int) :: Z0 ++ (81 : Int) :: Z0 ++ (82 : Int) :: Z0 ++ (47 : Int) :: (50 : Int) :: Z0 ++ (83 : Int) :: Z0 ++ (84 : Int) :: Z0 ++ (85 : Int) :: Z0 ++ (86 : Int) :: Z0 ++ (87 : Int) :: Z0 ++ (88 : Int) :: Z0 ++ (89 : Int) :: Z0 ++ (90 : Int) :: Z0 ++ (91 : Int) :: Z0 ++ (92 : Int) :: Z0 ++ (93 : Int) :: Z0 ++ (94 : Int) :: Z0 ++ (95 : Int) :: Z0 ++ (96 : Int) :: Z0 ++ (97 : Int) :: Z0 ++ (98 : Int) :: Z0 ++ dTail (99 : Nat) (0 : Nat) (192 : Nat) ++ dTail (291 : Nat) (0 : Nat) (480 : Nat))) then bif cdec (okOnes (List.replicate (771 : Nat) (1 : Int))) then bif (bif okSet c w d k then (0 : Int) else (2 : Int)) != (0 : Int) then some (D.bool true) else bif okSet c w d k then some (D.bool true) else none else none else none) := by kernel_rfl
theorem lApart_ok (c : Int) (w : Int) (d : Int) (k : Int) (h : (true) = true) : lApart_e c w d k = some (.bool true) := by
  (rw [lApart_eq]; conv => zeta)
  refine cond_so (cdec_true (okSeen_mk (by kernel_rfl))) ?_
  refine cond_so (cdec_true rfl) ?_
  cases okSet c w d k <;> rfl
open Go.ChangeShapes Go.WideShapes Go.RowKit
section
variable {C : Cdc}
def good (gA : (t : C.Ty) → C.A t → Prop) : D C → Prop
  | .int k n => k.min ≤ n ∧ n ≤ k.max
  | .str s => s.length ≤ maxLen
  | .acons d ds => good gA d ∧ good gA ds
  | .arr t n l => l.length = n ∧ ∀ x ∈ l, gA t x
  | .sl t _ l => l.length ≤ maxLen ∧ ∀ x ∈ l, gA t x
  | _ => True
def plainT (T : Tab C) : Nat → TypeId → Bool
  | 0, _ => false
  | k + 1, t => match T.ty t with
    | .bool | .int _ | .str => true
    | .struct _ fs => fs.all (plainT T k)
    | .arr _ e _ => plainT T k e
    | .sl e _ => plainT T k e
    | _ => false
structure Dec (T : Tab C) (gA : (t : C.Ty) → C.A t → Prop) : Prop where
  dec : ∀ t d, fit T d (.inl (T.ety t)) = true → d.refs = [] → good gA d → (∃ k u, T.ty u = T.ty (T.ety t) ∧ plainT T k u = true) → ∃ x, T.dec t d = some x ∧ gA t x
variable {P : Program} {T : Tab C} {gA : (t : C.Ty) → C.A t → Prop}
def X0 (W : World) : Cx := ⟨W, fun _ => none, fun _ _ => False⟩
theorem X0_free (W : World) (b o : Nat) : (X0 W).free b o := ⟨fun h => h, fun ⟨_, _, h, _⟩ => by simp [X0] at h⟩
theorem arr_R {X : Cx} (t : C.Ty) (sz : Nat) : ∀ (n : Nat) (cs : List Value), cs.length = n * sz → (∀ i, i < n → ∃ x : C.A t, R T X false (T.enc t x) ((cs.drop (i * sz)).take sz) ∧ gA t x) →
    ∃ l : List (C.A t), R T X false (.arr t n l) cs ∧ l.length = n ∧ ∀ x ∈ l, gA t x
  | 0, cs, hl, _ => by
    obtain rfl : cs = [] := by simpa using hl
    exact ⟨[], .arr0 _, rfl, by simp⟩
  | n + 1, cs, hl, h => by
    obtain ⟨x, hx, gx⟩ := h 0 (by omega)
    obtain ⟨l, hr, hn, gl⟩ := arr_R t sz n (cs.drop sz) (by rw [List.length_drop, hl, Nat.succ_mul]; omega) fun i hi => by
      obtain ⟨y, hy, gy⟩ := h (i + 1) (by omega)
      refine ⟨y, ?_, gy⟩
      rw [List.drop_drop]
      rw [show sz + i * sz = (i + 1) * sz by rw [Nat.succ_mul]; omega]
      exact hy
    refine ⟨x :: l, ?_, by simp [hn], by simpa using ⟨gx, gl⟩⟩
    have := R.arrS hx hr
    simpa using this
theorem sl_R {W : World} (t : C.Ty) (b sz : Nat) : ∀ (n off : Nat), (∀ i, i < n → ∃ (x : C.A t) (ci : List Value), R T (X0 W) false (T.enc t x) ci ∧ ci.length = sz ∧ (∀ j, j < sz → W.cell? ⟨b, off + i * sz + j, none⟩ = ci[j]?) ∧ gA t x) →
    ∃ (l : List (C.A t)) (cs : List Value), R T (X0 W) false (.arr t n l) cs ∧ l.length = n ∧ (X0 W).at b off cs ∧ ∀ x ∈ l, gA t x
  | 0, off, _ => ⟨[], [], .arr0 _, rfl, fun j v h => by simp at h, by simp⟩
  | n + 1, off, h => by
    obtain ⟨x, ci, hx, hlen, hc, gx⟩ := h 0 (by omega)
    obtain ⟨l, cs, hr, hn, hat, gl⟩ := sl_R t b sz n (off + sz) fun i hi => by
      obtain ⟨y, c2, hy, h2, h3, gy⟩ := h (i + 1) (by omega)
      refine ⟨y, c2, hy, h2, fun j hj => ?_, gy⟩
      have := h3 j hj
      rwa [show off + (i + 1) * sz + j = off + sz + i * sz + j by rw [Nat.succ_mul]; omega] at this
    refine ⟨x :: l, ci ++ cs, .arrS hx hr, by simp [hn], fun j v hj => ⟨?_, X0_free _ _ _⟩, by simpa using ⟨gx, gl⟩⟩
    by_cases hlt : j < ci.length
    · rw [List.getElem?_append_left hlt] at hj
      have := hc j (by omega)
      simp only [Nat.zero_mul, Nat.add_zero] at this
      exact this.trans hj
    · rw [List.getElem?_append_right (by omega)] at hj
      have := (hat _ _ hj).1
      rwa [show off + sz + (j - ci.length) = off + j by omega] at this
theorem st_R {X : Cx} : ∀ (fs : List TypeId) (cs : List Value), (∀ i f, fs[i]? = some f → ∃ d, R T X false d ((cs.drop (sumSz T (fs.take i))).take (T.size f)) ∧ fit T d (.inl f) = true ∧ good gA d ∧ d.refs = []) →
    ∃ d, R T X false d (cs.take (sumSz T fs)) ∧ fit T d (.inr fs) = true ∧ good gA d ∧ d.refs = [] ∧ d.isRow = true ∧ (∀ t a, T.ty t = .struct a fs → fit T d (.inl t) = true)
  | [], cs, _ => ⟨.anil, by simpa [sumSz] using R.anil, rfl, trivial, rfl, rfl, fun t a ht => by simp [fit, ht]⟩
  | f :: fs, cs, h => by
    obtain ⟨d, hd, fd, gd, rd⟩ := h 0 f rfl
    obtain ⟨ds, hr, fr, gr, rr, _, _⟩ := st_R fs (cs.drop (T.size f)) fun i g hg => by
      obtain ⟨e, he, h2⟩ := h (i + 1) g (by simpa using hg)
      refine ⟨e, ?_, h2⟩
      simpa [sumSz, List.drop_drop] using he
    refine ⟨.acons d ds, ?_, by simp [fit, fd, fr], ⟨gd, gr⟩, by simp [D.refs, rd, rr], rfl, fun t a ht => by simp [fit, ht, fd, fr]⟩
    have := R.acons hd hr
    simpa [sumSz, List.take_add] using this
theorem cellsOf_info {t : TypeId} {i : TypeInfo} (h : P.info? t = some i) : P.cellsOf t = i.size := by
  simp [Program.cellsOf, h]
theorem trod_R (K : PLaws P T) (hd : Dec T gA) {H : Type} {enc : TypeId × Value → H} {W : World} : ∀ (k : Nat) (t : TypeId), plainT T k t = true → ∀ (fuel : Nat) (cs : List Value) (x : DataW H × List MemPlace), DataW.trod enc P W 0 (fun _ => true) true fuel t cs = some x →
    ∃ d, R T (X0 W) false d cs ∧ fit T d (.inl t) = true ∧ good gA d ∧ d.refs = [] := by
  intro k
  induction k with
  | zero => intro t h; simp [plainT] at h
  | succ k ih =>
    intro t hp fuel cs x h
    unfold plainT at hp
    split at hp
    · rename_i ht
      obtain ⟨b, rfl, _⟩ := DataW.trod_bool (K.uBool t ht) h
      exact ⟨.bool b, .bool b, by simp [fit, ht], trivial, rfl⟩
    · rename_i kd ht
      obtain ⟨n, rfl, _, hw⟩ := DataW.trod_int (K.uInt t kd ht) h
      have hw' : kd.min ≤ n ∧ n ≤ kd.max := by simpa [Lit.wf] using hw
      exact ⟨.int kd n, .int hw', by simp [fit, ht], hw', rfl⟩
    · rename_i ht
      obtain ⟨s, rfl, _, hs⟩ := DataW.trod_string (K.uStr t ht) h
      exact ⟨.str s.data.toList, .str s.data.toList, by simp [fit, ht], by simpa [good] using hs, rfl⟩
    · rename_i isA fs ht
      cases isA with
      | true =>
        obtain ⟨el, hu, hfs, hpos, inf, hi1, hi2⟩ := K.uRow t fs ht
        obtain ⟨xs, m, _, _, hlen, hxs, hel⟩ := DataW.trod_array hu h
        have hget : ∀ i f, fs[i]? = some f → f = el ∧ i < fs.length := fun i f hf => by
          have := (List.getElem?_eq_some_iff.1 hf).1
          rw [hfs, List.getElem?_replicate] at hf
          simp at hf
          exact ⟨hf.2.symm, this⟩
        have hsum : ∀ i, i ≤ fs.length → sumSz T (fs.take i) = i * T.size el := by
          intro i hi
          rw [hfs, List.take_replicate, Nat.min_eq_left hi]
          clear hi
          induction i with
          | zero => simp [sumSz]
          | succ i ih => simp only [List.replicate_succ, sumSz, ih]; rw [Nat.succ_mul]; omega
        obtain ⟨d, hr, _, gd, rd, _, hfit⟩ := st_R (T := T) (X := X0 W) (gA := gA) fs cs fun i f hf => by
          obtain ⟨rfl, hi⟩ := hget i f hf
          have := hel i hi
          rw [cellsOf_info hi1, hi2] at this
          have hx : xs[i]? = some xs[i] := by simp [hxs, hi]
          rw [hx] at this
          obtain ⟨d, h1, h2, h3, h4⟩ := ih f (List.all_eq_true.1 hp _ (List.mem_of_getElem? hf)) m _ _ this
          refine ⟨d, ?_, h2, h3, h4⟩
          rw [hsum i (by omega)]; exact h1
        obtain ⟨inf, hi1, hi2⟩ := K.info t d (hfit t _ ht)
        rw [cellsOf_info hi1, hi2, K.base.szStruct t _ fs ht] at hlen
        rw [← hlen, List.take_length] at hr
        exact ⟨d, hr, hfit t _ ht, gd, rd⟩
      | false =>
        obtain ⟨fields, hu, hfs, hoff, _⟩ := K.uStruct t fs ht
        obtain ⟨xs, n, _, _, hlen, hxs, hel⟩ := DataW.trod_struct hu h
        obtain ⟨d, hr, _, gd, rd, _, hfit⟩ := st_R (T := T) (X := X0 W) (gA := gA) fs cs fun i f hf => by
          rw [← hfs, List.getElem?_map] at hf
          cases hfi : fields.toList[i]? with
          | none => simp [hfi] at hf
          | some fld =>
            simp only [hfi, Option.map_some, Option.some.injEq] at hf
            have hfa : fields[i]? = some fld := by rw [← Array.getElem?_toList]; exact hfi
            have := hel i fld hfa
            have hx : ∃ y, xs[i]? = some y := by
              have : i < fields.size := (Array.getElem?_eq_some_iff.1 hfa).1
              exact ⟨xs[i], by simp [hxs, this]⟩
            obtain ⟨y, hy⟩ := hx
            rw [hy] at this
            subst hf
            have hmem : fld.type ∈ fs := by rw [← hfs]; exact List.mem_map.2 ⟨fld, by exact List.mem_of_getElem? hfi, rfl⟩
            obtain ⟨d, h1, h2, h3, h4⟩ := ih fld.type (List.all_eq_true.1 hp _ hmem) n _ _ this
            obtain ⟨inf, hi1, hi2, _⟩ := K.uField t fs fld.type ht hmem
            refine ⟨d, ?_, h2, h3, h4⟩
            rw [hoff i fld hfa, cellsOf_info hi1, hi2] at h1
            exact h1
        obtain ⟨inf, hi1, hi2⟩ := K.info t d (hfit t _ ht)
        rw [cellsOf_info hi1, hi2, K.base.szStruct t _ fs ht] at hlen
        rw [← hlen, List.take_length] at hr
        exact ⟨d, hr, hfit t _ ht, gd, rd⟩
    · rename_i n e ct ht
      obtain ⟨hu, _⟩ := K.uArr t n e ct ht
      obtain ⟨xs, m, _, _, hlen, hxs, hel⟩ := DataW.trod_array hu h
      obtain ⟨inf, z, hi1, hi2, _⟩ := K.uElem t e ct (.inl ⟨n, ht⟩)
      obtain ⟨it, hj1, hj2⟩ := K.info t (.arr ct n []) (by simp [fit, ht])
      obtain ⟨hs1, hs2, hs3⟩ := K.base.szArr t n e ct ht
      rw [cellsOf_info hj1, hj2, hs1] at hlen
      obtain ⟨l, hr, hn, gl⟩ := arr_R (T := T) (X := X0 W) (gA := gA) ct (T.size e) n cs hlen fun i hi => by
        have := hel i hi
        rw [cellsOf_info hi1, hi2] at this
        have hx : xs[i]? = some xs[i] := by simp [hxs, hi]
        rw [hx] at this
        obtain ⟨d, h1, h2, h3, h4⟩ := ih e hp m _ _ this
        obtain ⟨x, h5, h6⟩ := hd.dec ct d (by rw [← fit_congr hs2]; exact h2) h4 h3 ⟨k, e, hs2, hp⟩
        exact ⟨x, K.base.decR _ _ _ _ _ h5 h1, h6⟩
      exact ⟨.arr ct n l, hr, by simp [fit, ht], ⟨hn, gl⟩, rfl⟩
    · rename_i e ct ht
      have hu := K.uSl t e ct ht
      obtain ⟨inf, z, hi1, hi2, _, _, hpos, _⟩ := K.uElem t e ct (.inr ht)
      obtain ⟨hs1, hs2, hs3⟩ := K.base.szSl t e ct ht
      rcases DataW.trod_slice hu h with ⟨rfl, _⟩ | ⟨a, len, cap, elems, rest, m, _, rfl, _, _, hlc, hcm, hel, he, hrest, _⟩
      · exact ⟨.sl ct false [], .sl0 _ _ _, by simp [fit, ht], by simp [good], rfl⟩
      · by_cases hc0 : cap = 0
        · subst hc0
          obtain rfl : len = 0 := by omega
          exact ⟨.sl ct false [], .sl0 _ _ _, by simp [fit, ht], by simp [good], rfl⟩
        · have hspot : a.spot = none := by
            have key : ∀ i y, i = 0 → (W.cells? 0 (a.add (i * P.cellsOf e)) (P.cellsOf e)).bind (DataW.trod enc P W 0 (fun _ => true) true m e) = some y → a.spot = none := by
              intro i y hi0 hy
              subst hi0
              rw [cellsOf_info hi1, hi2] at hy
              cases hcs : W.cells? 0 (a.add (0 * T.size e)) (T.size e) with
              | none => rw [hcs] at hy; cases hy
              | some ci =>
                obtain ⟨_, h2, h3⟩ := World.cells?_some hcs
                have h4 := h3 0 hpos
                have h5 : ci[0]? = some ci[0] := by simp
                rw [h5] at h4
                have := World.cell?_spot h4
                simpa [Addr.add] using this
            by_cases hl0 : 0 < len
            · have := he 0 hl0
              have hx : elems[0]? = some elems[0] := by simp
              exact key 0 _ rfl (this.trans hx)
            · have hr2 := hrest rfl
              have := hr2.2 0 (by omega)
              have h0 : 0 < rest.length := by omega
              have hx : rest[0]? = some rest[0] := by simp
              exact key _ _ (by omega) (this.trans hx)
          obtain ⟨b, off, sp⟩ := a
          simp only at hspot
          subst hspot
          obtain ⟨l, cs, hr, hn, hat, gl⟩ := sl_R (T := T) (W := W) (gA := gA) ct b (T.size e) len off fun i hi => by
            have := he i hi
            have hx : elems[i]? = some elems[i] := by simp [hel, hi]
            rw [hx, cellsOf_info hi1, hi2] at this
            cases hcs : W.cells? 0 ((⟨b, off, none⟩ : Addr).add (i * T.size e)) (T.size e) with
            | none => simp [hcs] at this
            | some ci =>
              simp only [hcs, Option.bind_some] at this
              obtain ⟨_, h2, h3⟩ := World.cells?_some hcs
              obtain ⟨d, k1, k2, k3, k4⟩ := ih e hp m _ _ this
              obtain ⟨x, k5, k6⟩ := hd.dec ct d (by rw [← fit_congr hs2]; exact k2) k4 k3 ⟨k, e, hs2, hp⟩
              refine ⟨x, ci, K.base.decR _ _ _ _ _ k5 k1, h2, fun j hj => ?_, k6⟩
              have := h3 j hj
              rwa [add_plain, add_plain] at this
          subst hn
          exact ⟨.sl ct false l, .sl hat hr hlc (by simp), by simp [fit, ht], ⟨by omega, gl⟩, rfl⟩
    · cases hp
theorem okWide_row (K : PLaws P T) {W : World} {r : Reach} {base : Nat} {t : TypeId} {v : Value} {d : D C} (hv : Value.okWide P W r base t v) (hp : ∃ k, plainT T k t = true) (hf : fit T d (.inl t) = true) (hr : R T (X0 W) false d v.cells.toList) (hrf : d.refs = []) : RV T (X0 W) d v := by
  obtain ⟨k, hp⟩ := hp
  cases k with
  | zero => simp [plainT] at hp
  | succ k =>
    unfold plainT at hp
    split at hp
    · rename_i ht
      obtain ⟨b, rfl⟩ := okWide_bool (K.uBool t ht) hv
      refine .inr ⟨?_, by simpa [Value.cells] using hr⟩
      cases d <;> simp [fit, ht] at hf <;> rfl
    · rename_i kd ht
      obtain ⟨b, rfl⟩ := okWide_int (K.uInt t kd ht) hv
      refine .inr ⟨?_, by simpa [Value.cells] using hr⟩
      cases d <;> simp [fit, ht] at hf <;> rfl
    · rename_i ht
      obtain ⟨b, rfl⟩ := okWide_string (K.uStr t ht) hv
      refine .inr ⟨?_, by simpa [Value.cells] using hr⟩
      cases d <;> simp [fit, ht] at hf <;> rfl
    · rename_i isA fs ht
      have : ∃ cs, v = .agg cs := by
        cases isA with
        | false =>
          obtain ⟨fields, hu, _⟩ := K.uStruct t fs ht
          obtain ⟨cs, rfl, _⟩ := okWide_struct hu hv
          exact ⟨cs, rfl⟩
        | true =>
          obtain ⟨el, hu, _⟩ := K.uRow t fs ht
          simp only [Value.okWide, hu] at hv
          obtain ⟨cs, rfl, _⟩ := hv
          exact ⟨cs, rfl⟩
      obtain ⟨cs, rfl⟩ := this
      refine .inl ⟨?_, cs.toList, by simpa [Value.cells] using hr, rfl⟩
      cases d <;> simp [fit, ht] at hf <;> rfl
    · rename_i n e ct ht
      obtain ⟨hu, _⟩ := K.uArr t n e ct ht
      have : ∃ cs, v = .agg cs := by
        simp only [Value.okWide, hu] at hv
        obtain ⟨cs, rfl, _⟩ := hv
        exact ⟨cs, rfl⟩
      obtain ⟨cs, rfl⟩ := this
      refine .inl ⟨?_, cs.toList, by simpa [Value.cells] using hr, rfl⟩
      cases d <;> simp [fit, ht] at hf <;> rfl
    · rename_i e ct ht
      obtain ⟨a, len, cap, rfl⟩ := okWide_slice (K.uSl t e ct ht) hv
      refine .inr ⟨?_, by simpa [Value.cells] using hr⟩
      cases d <;> simp [fit, ht] at hf <;> rfl
    · cases hp
inductive Fits (T : Tab C) (gA : (t : C.Ty) → C.A t → Prop) : List TypeId → List (D C) → Prop
  | nil : Fits T gA [] []
  | cons {t : TypeId} {ts : List TypeId} {d : D C} {ds : List (D C)} (hf : fit T d (.inl t) = true) (hg : good gA d) (hr : d.refs = []) (h : Fits T gA ts ds) : Fits T gA (t :: ts) (d :: ds)
theorem Fits.refs {ts : List TypeId} {ds : List (D C)} (h : Fits T gA ts ds) : ∀ a ∈ ds, D.refs a = [] := by
  induction h with
  | nil => simp
  | cons _ _ hr _ ih => simpa using ⟨hr, ih⟩
theorem trodAll_R (K : PLaws P T) (hd : Dec T gA) {H : Type} {enc : TypeId × Value → H} {W : World} {r : Reach} {base : Nat} : ∀ (ts : List TypeId) (vs : List Value) (ds : List (DataW H)) (ps : List MemPlace), (∀ t ∈ ts, ∃ k, plainT T k t = true) →
    (∀ (j : Nat) t v, ts[j]? = some t → vs[j]? = some v → Value.okWide P W r base t v) → DataW.TrodAll enc P W 0 (fun _ => true) true ts vs ds ps → ∃ al, Fits T gA ts al ∧ RVs T (X0 W) al vs
  | [], vs, ds, ps, _, _, h => by
    obtain ⟨rfl, rfl, rfl⟩ := trodAll_nil h
    exact ⟨[], .nil, .nil⟩
  | t :: ts, vs, ds, ps, hp, hv, h => by
    obtain ⟨v, vs1, d, ds1, p, q, rfl, rfl, rfl, ⟨fuel, h1⟩, h2⟩ := trodAll_cons h
    obtain ⟨al, f1, r1⟩ := trodAll_R K hd ts vs1 ds1 q (fun t ht => hp t (by simp [ht])) (fun j t v a b => hv (j + 1) t v (by simpa using a) (by simpa using b)) h2
    obtain ⟨k, hk⟩ := hp t (by simp)
    obtain ⟨a, k1, k2, k3, k4⟩ := trod_R K hd k t hk fuel _ _ h1
    exact ⟨a :: al, .cons k2 k3 k4 f1, .cons (okWide_row K (hv 0 t v rfl rfl) ⟨k, hk⟩ k2 k1 k4) r1⟩
theorem stays (hl : laidOutB P = true) {H : Type} {enc : TypeId × Value → H} {W W' : World} {sp : Nat → Bool} : ∀ (ts : List TypeId) (vs : List Value) (ds : List (DataW H)) (ps : List MemPlace), (∀ t ∈ ts, P.readableRec t = true ∧ t < P.types.size) →
    DataW.TrodAll enc P W 0 (fun _ => true) true ts vs ds ps → (∀ p ∈ ps, W.sameAt W' p) → (∀ p ∈ ps, sp p.block = true) → DataW.TrodAll enc P W' 0 sp true ts vs ds ps
  | [], vs, ds, ps, _, h, _, _ => by
    obtain ⟨rfl, rfl, rfl⟩ := trodAll_nil h
    exact trodAll_mk0
  | t :: ts, vs, ds, ps, ht, h, h3, h4 => by
    obtain ⟨v, vs1, d, ds1, p, q, rfl, rfl, rfl, h1, h2⟩ := trodAll_cons h
    exact trodAll_cons_mk (WideElems.Trod_stays hl (ht t (by simp)).1 (ht t (by simp)).2 h1 (fun x hx => h3 x (by simp [hx])) (fun x hx => h4 x (by simp [hx])))
      (stays hl ts vs1 ds1 q (fun t h => ht t (by simp [h])) h2 (fun x hx => h3 x (by simp [hx])) (fun x hx => h4 x (by simp [hx])))
theorem post_same_old {H : Type} {enc : TypeId × Value → H} {f : Func} {s : ChangeSpec} {apart fresh handsOn again : Bool} {W W' : World} {args : Array Value} {v : Value} {ds gs : List (DataW H)} {before pa pv : List MemPlace}
    (hW : DataW.Whole enc P f.params.toList s.vars apart W args.toList ds gs before)
    (hres : ∀ (b : Nat) (sp : Nat → Bool) (hd : Bool), DataW.TrodAll enc P W' b sp hd f.resultTypes.toList (v.resultList f.resultTypes.size) (s.fn H (ds ++ gs)).results [])
    (hargs : ∀ sp : Nat → Bool, (∀ p ∈ before, sp p.block = true) → DataW.TrodAll enc P W' 0 sp true f.params.toList args.toList (s.fn H (ds ++ gs)).args pa)
    (hvars : ∀ sp : Nat → Bool, (∀ p ∈ before, sp p.block = true) → DataW.TrodVars enc P W' sp s.vars (s.fn H (ds ++ gs)).vars pv)
    (hps : before = pa ++ pv) (hk : W.keptBut W' (· ∈ before)) (hfz : ∀ a : Addr, a.block < W.heap.size → W'.frozen? a = W.frozen? a)
    (hok : ∀ (j : Nat) (t : TypeId) (r : Value), f.resultTypes[j]? = some t → (v.resultList f.resultTypes.size)[j]? = some r → Value.okWide P W' .any 0 t r) :
    s.post enc P f apart fresh handsOn again W args v W' := by
  have hold : ∀ p ∈ before, (fun b => decide (b < W.heap.size)) p.block = true := fun p hp => by simpa using hW.lt p hp
  refine ⟨ds, gs, before, [], pa, pv, hW, hres _ _ _, hargs _ hold, hvars _ hold, World.keptBut_mono (fun p hp => ⟨hp, ?_⟩) hk, fun _ => ?_⟩
  · rw [hps, List.mem_append] at hp
    exact Or.inr hp
  · have hlt := hW.lt
    obtain ⟨_, _, _, _, _, hz, hn⟩ := hW
    refine ⟨hok, _, _, ([] ++ pa) ++ pv, ⟨[] ++ pa, pv, trodAll_append (hargs _ (fun _ _ => rfl)) (hres _ _ _), hvars _ (fun _ _ => rfl), rfl, ?_, ?_⟩, ?_⟩
    · intro b off hp
      have hb : MemPlace.cell b off ∈ before := by rw [hps]; simpa using hp
      rw [hfz _ (by simpa [MemPlace.block] using hlt _ hb)]
      exact hz b off hb
    · intro ha
      have := hn ha
      rw [hps] at this
      simpa using this
    · intro p hp _
      rw [hps]
      simpa using hp
theorem contract_pre (K : PLaws P T) {Φ : Fns C} (F : FLaws P T Φ) (hd : Dec T gA) (hl : laidOutB P = true) {f : FuncId} {fn : Func} {s : ChangeSpec} {tb : TypeId} {m : Nat}
    (hres : fn.resultTypes = #[tb]) (hb : P.underlying tb = some .bool) (hvars : s.vars = [])
    (hts : fn.params.toList.all (fun t => plainT T m t && P.readableRec t && Nat.blt t P.types.size) = true)
    (hspec : ∀ (H : Type) (ds : List (DataW H)), ds.length = fn.params.toList.length → s.fn H ds = { results := [.lit (.bool true)], args := ds })
    (hev : ∀ ds : List (D C), Fits T gA fn.params.toList ds → ∃ n, evF T Φ n f ds = some (.bool true))
    (H : Type) (enc : TypeId × Value → H) (W : World) (base : Nat) (args : Array Value) (ds gs : List (DataW H)) (before : List MemPlace)
    (hval : ∀ (j : Nat) t v, fn.params[j]? = some t → args[j]? = some v → Value.okWide P W .any base t v)
    (hW : DataW.Whole enc P fn.params.toList s.vars false W args.toList ds gs before) (hpre : ∀ p ∈ T.pre, ∃ t f, W.heap[p.1]? = some (.cells p.2 t f)) :
    Calls P f args W fun e W' => ∃ v, e = .returned v ∧ s.post enc P fn false true false false W args v W' := by
  have hts' : ∀ t ∈ fn.params.toList, plainT T m t = true ∧ P.readableRec t = true ∧ t < P.types.size := by
    intro t ht
    have := List.all_eq_true.1 hts t ht
    simp only [Bool.and_eq_true] at this
    exact ⟨this.1.1, this.1.2, by simpa [Nat.blt_eq] using this.2⟩
  have hW' := hW
  obtain ⟨p, q, hA, hV, rfl, hfz, hnd⟩ := hW
  rw [hvars] at hV
  obtain ⟨rfl, rfl⟩ := trodVars_none hV
  obtain ⟨al, hf, hr⟩ := trodAll_R (gA := gA) K hd (r := .any) (base := base) _ _ _ _ (fun t ht => ⟨m, (hts' t ht).1⟩) (fun j t v a b => hval j t v (by rw [← Array.getElem?_toList]; exact a) (by rw [← Array.getElem?_toList]; exact b)) hA
  obtain ⟨n, hn⟩ := hev al hf
  have hc := (evF_calls K F hn hf.refs W (fun _ _ => False) (fun _ _ h => h.elim) hpre (vs := args.toList) hr).2
  have ea : (⟨args.toList⟩ : Array Value) = args := by simp
  rw [ea] at hc
  refine hc.mono fun e W' hp => ?_
  obtain ⟨v, ρ, rfl, rv, a1, a2, a3, a4, a5, a6⟩ := hp
  obtain rfl := rv.bool
  have hlen : ds.length = fn.params.toList.length := by
    have : ∀ (ts : List TypeId) (vs : List Value) (ds : List (DataW H)) (ps : List MemPlace), DataW.TrodAll enc P W 0 (fun _ => true) true ts vs ds ps → ds.length = ts.length := by
      intro ts
      induction ts with
      | nil => intro vs ds ps h; obtain ⟨rfl, rfl, rfl⟩ := trodAll_nil h; rfl
      | cons t ts ih =>
        intro vs ds ps h
        obtain ⟨v, vs1, d, ds1, p, q, rfl, rfl, rfl, h1, h2⟩ := trodAll_cons h
        simp [ih _ _ _ h2]
    exact this _ _ _ _ hA
  have hs := hspec H ds hlen
  have hbel : Below W.heap.size W W' := ⟨a3, a4, a5, a1, a2⟩
  have hlt : ∀ x ∈ p, x.block < W.heap.size := fun x hx => by simpa using hW'.lt x (by simpa using hx)
  refine ⟨_, rfl, post_same_old (pa := p) (pv := []) hW' ?_ ?_ ?_ (by simp) (hbel.frame _) a6 ?_⟩
  · intro b sp hd
    simp only [List.append_nil]
    rw [hs, hres]
    exact trodAll_cons_mk (p := []) (p' := []) (shut_bool hb _) trodAll_mk0
  · intro sp hsp
    simp only [List.append_nil] at hsp ⊢
    rw [hs]
    exact stays hl _ _ _ _ (fun t ht => (hts' t ht).2) hA (fun x hx => hbel.same (hlt x hx)) hsp
  · intro sp hsp
    simp only [List.append_nil]
    rw [hs, hvars]
    rfl
  · exact ok_one hres rfl (okWide_bool_mk hb _)
end
def i64 (n : Int) : Prop := -9223372036854775808 ≤ n ∧ n ≤ 9223372036854775807
def inK (k : IntKind) (n : Int) : Prop := k.min ≤ n ∧ n ≤ k.max
theorem i64_of {n : Int} (h : IntKind.i64.min ≤ n ∧ n ≤ IntKind.i64.max) : i64 n := by
  simpa [i64, IntKind.min, IntKind.max, IntKind.signed, IntKind.bits] using h
section
variable {C : Cdc} {T : Tab C} {d : D C} {u : TypeId}
theorem fit_int {k : IntKind} (hu : T.ty u = .int k) (hf : fit T d (.inl u) = true) : ∃ n, d = .int k n := by
  cases d <;> simp [fit, hu] at hf
  subst hf; exact ⟨_, rfl⟩
theorem fit_str (hu : T.ty u = .str) (hf : fit T d (.inl u) = true) : ∃ n, d = .str n := by
  cases d <;> simp [fit, hu] at hf
  exact ⟨_, rfl⟩
theorem fit_st {a : Bool} {f : TypeId} {fs : List TypeId} (hu : T.ty u = .struct a (f :: fs)) (hf : fit T d (.inl u) = true) : ∃ x y, d = .acons x y ∧ fit T x (.inl f) = true ∧ fit T y (.inr fs) = true := by
  cases d <;> simp [fit, hu] at hf
  exact ⟨_, _, rfl, hf.1, hf.2⟩
theorem fit_more {f : TypeId} {fs : List TypeId} (hf : fit T d (.inr (f :: fs)) = true) : ∃ a b, d = .acons a b ∧ fit T a (.inl f) = true ∧ fit T b (.inr fs) = true := by
  cases d <;> simp [fit] at hf
  exact ⟨_, _, rfl, hf.1, hf.2⟩
theorem fit_end (hf : fit T d (.inr []) = true) : d = .anil := by
  cases d <;> simp [fit] at hf
  rfl
end
open Go.Proofs Go.ChangeShapes Go.WideShapes Go.ChangeAt Go.RowKit
def goodRowS (x : RowS) : Prop := i64 (x.first) ∧ (x.name).length ≤ maxLen
def goodSetup (x : Setup) : Prop := i64 (x.clients) ∧ i64 (x.width) ∧ i64 (x.descs) ∧ i64 (x.nodes)
def rGood : (t : RTy) → RA t → Prop
  | .int => fun (x : Int) => i64 (x)
  | .k_u64 => fun (x : Int) => inK .u64 (x)
  | .rowS => fun (x : RowS) => goodRowS (x)
  | .str => fun (x : List UInt8) => (x).length ≤ maxLen
  | .u8 => fun (x : UInt8) => True
theorem ty43 : s12.ty 43 = .struct false [3, 9] := by kernel_rfl
theorem ty3 : s12.ty 3 = .int .i64 := by kernel_rfl
theorem ty9 : s12.ty 9 = .str := by kernel_rfl
theorem asRowS {d : D RC} (hf : fit s12 d (.inl 43) = true) (hg : good rGood d) (hr : d.refs = []) : ∃ x : RowS, d = eRowS x ∧ goodRowS x := by
  obtain ⟨d0, r0, rfl, f0, hf⟩ := fit_st ty43 hf
  obtain ⟨d1, r1, rfl, f1, hf⟩ := fit_more hf
  obtain rfl := fit_end hf
  simp only [D.refs, List.append_eq_nil_iff] at hr
  obtain ⟨g0, g1, _⟩ := hg
  obtain ⟨q0, q1, _⟩ := hr
  obtain ⟨n0, rfl⟩ := fit_int ty3 f0
  obtain ⟨n1, rfl⟩ := fit_str ty9 f1
  exact ⟨⟨n0, n1⟩, rfl, i64_of g0, g1⟩
theorem dRowS_e (x : RowS) (hx : goodRowS x) : dRowS (eRowS x) = some x := by
  simp only [goodRowS] at hx
  simp [dRowS, eRowS, D.asList, asArrN, hx]
theorem ty30 : s12.ty 30 = .struct false [3, 3, 3, 3] := by kernel_rfl
theorem asSetup {d : D RC} (hf : fit s12 d (.inl 30) = true) (hg : good rGood d) (hr : d.refs = []) : ∃ x : Setup, d = eSetup x ∧ goodSetup x := by
  obtain ⟨d0, r0, rfl, f0, hf⟩ := fit_st ty30 hf
  obtain ⟨d1, r1, rfl, f1, hf⟩ := fit_more hf
  obtain ⟨d2, r2, rfl, f2, hf⟩ := fit_more hf
  obtain ⟨d3, r3, rfl, f3, hf⟩ := fit_more hf
  obtain rfl := fit_end hf
  simp only [D.refs, List.append_eq_nil_iff] at hr
  obtain ⟨g0, g1, g2, g3, _⟩ := hg
  obtain ⟨q0, q1, q2, q3, _⟩ := hr
  obtain ⟨n0, rfl⟩ := fit_int ty3 f0
  obtain ⟨n1, rfl⟩ := fit_int ty3 f1
  obtain ⟨n2, rfl⟩ := fit_int ty3 f2
  obtain ⟨n3, rfl⟩ := fit_int ty3 f3
  exact ⟨⟨n0, n1, n2, n3⟩, rfl, i64_of g0, i64_of g1, i64_of g2, i64_of g3⟩
theorem ty57 : s12.ty 57 = .int .u64 := by kernel_rfl
theorem ty5 : s12.ty 5 = .int .u8 := by kernel_rfl
theorem decs : Dec s12 rGood where
  dec t d hf hr hg _ := by
    cases t with
    | int =>
      obtain ⟨n, rfl⟩ := fit_int ty3 hf
      exact ⟨n, by simp [s12, mkTab, rCod, rDec, dIntK], i64_of hg⟩
    | k_u64 =>
      obtain ⟨n, rfl⟩ := fit_int ty57 hf
      exact ⟨n, by simp [s12, mkTab, rCod, rDec, dIntK], hg⟩
    | rowS =>
      obtain ⟨x, rfl, hx⟩ := asRowS hf hg hr
      exact ⟨x, dRowS_e x hx, hx⟩
    | str =>
      obtain ⟨n, rfl⟩ := fit_str ty9 hf
      exact ⟨n, rfl, hg⟩
    | u8 =>
      obtain ⟨n, rfl⟩ := fit_int ty5 hf
      exact ⟨_, rfl, trivial⟩
theorem own : ownKnob Tryd.prog.godebug = none := by kernel_rfl
theorem laidOut : laidOutB Tryd.prog = true := by kernel_rfl
end Go.Ev

namespace Go.Proofs.YtchllhgngkgpaaaDoor
open Go.ChangeShapes Go.WideShapes Go.ChangeAt Go.RowKit Go.Ev
set_option linter.unusedVariables false
set_option maxRecDepth 100000
namespace layoutApart
theorem ev (ds : List (D RC)) (h : Fits s12 rGood Tryd.f6.params.toList ds) : ∃ n, evF s12 ue_6 n 6 ds = some (.bool true) := by
  rw [Tryd.params6] at h
  cases h with
  | cons hf0 hg0 hr0 h =>
  cases h with
  | nil =>
    obtain ⟨x, rfl, ox⟩ := asSetup hf0 hg0 hr0
    have key := lApart_ok x.clients x.width x.descs x.nodes rfl
    unfold lApart_e at key
    exact ⟨200, key⟩
theorem lifted (os : Os) (started : os.Started) (H : Type) (enc : TypeId × Value → H) :
    ReturnsInHanded {} Tryd.checked os 6 .any (fun w args => (Rows.layoutApartSpec.pre enc Tryd.prog Tryd.f6 Rows.layoutApartRow.domain false w args ∧ laidMetH Tryd.prog Rows.layoutApartRow.laid w) ∧ sizedMet enc Tryd.prog Tryd.f6 (OpenSpec.ofChange Rows.layoutApartSpec) false w args) (Rows.layoutApartSpec.post enc Tryd.prog Tryd.f6 false true false false) := by
  refine returnsInHanded_of_change_and (C := Tryd.checked) (X := fun w _ => laidMetH Tryd.prog Rows.layoutApartRow.laid w) (fun _ _ _ hh h => h.of_heap hh) own started (by kernel_rfl) Tryd.func6
    (ChangeSpec.witness_shaped (enc := enc) (C := Tryd.checked) (os := os) (X := fun w _ => laidMetH Tryd.prog Rows.layoutApartRow.laid w) false (World.laidAll Tryd.prog os Rows.layoutApartRow.laid) #[.agg #[.int .i64 0, .int .i64 0, .int .i64 0, .int .i64 0]] 8 (World.laidAll_os _ _ _)
      (World.shaped_of_ZipB (by kernel_rfl) (by kernel_rfl)) (by kernel_rfl) (by kernel_rfl) (by kernel_rfl)
      (by rw [MakeChecks.laidMetH_plain _ _ _ (by kernel_rfl)]; exact laidMet_laidAll _ (by kernel_rfl) (by kernel_rfl))) ?_
  intro W base args ds gs before hval hW _ _ hL _
  refine contract_pre (gA := rGood) (m := 8) s12_laws ue_6_laws decs laidOut (tb := 4) (by kernel_rfl) Tryd.underlying4 rfl (by kernel_rfl) ?_ ev H enc W base args ds gs before hval hW (pre_laid Tryd.lays246.m17 (fun x => Nat.blt 25 x.1.length) (by kernel_rfl) (by kernel_rfl) hL)
  intro H ds h
  rw [Tryd.params6] at h
  match ds, h with
  | [d0], _ => rfl
theorem over : Rows.layoutApartRow.holds Tryd.pinned (OpenSpec.ofChange Rows.layoutApartSpec) :=
  OpenClaim.holds_of_wide 6 Tryd.f6 rfl rfl rfl rfl rfl rfl rfl ⟨rfl, rfl, rfl, rfl, rfl⟩ rfl rfl rfl rfl rfl (by kernel_rfl) Tryd.func6 (by kernel_rfl)
    (of_decide_eq_true (by kernel_rfl)) (by unfold Func.isWrapper; first | (rw [if_pos (by decide +kernel)]; kernel_rfl) | (rw [if_neg (by decide +kernel)]; exact ⟨rfl, rfl⟩))
    (fun os started H enc _ => lifted os started H enc)
theorem proved : Rows.LayoutApartCardSaid :=
  Claim7.holds_tied_plain_at .later [] [.data, .data, .data] true (true, "5764f5e176df94285537348fbc8d1c22606ebe3965d51413a44f49beadd95efe") false over (fun _ h => by cases h) (by kernel_rfl) (fun _ h => by cases h) layoutApart_row_tie rfl ⟨rfl, rfl⟩ (by kernel_rfl) rfl
    (fun f fn hf hfn => by
      obtain rfl : f = 6 := Option.some.inj ((show Tryd.prog.funcNamed "flume/flumelaw12.LayoutApart" = some 6 by kernel_rfl).symm.trans hf) |>.symm
      obtain rfl : fn = Tryd.f6 := (Option.some.inj (Tryd.func6.symm.trans hfn)).symm
      exact ⟨by kernel_rfl, fun j t ht => by
        rw [Tryd.params6] at ht
        have hm : t ∈ [30] := by simpa using Array.mem_of_getElem? ht
        have hall : ([30].all fun u => !Tryd.prog.wantsStandIn u) = true := by kernel_rfl
        exact (show Tryd.prog.wantsStandIn t = false by simpa using List.all_eq_true.1 hall t hm)⟩)
    (by kernel_rfl)
end layoutApart
#print axioms layoutApart.proved
end Go.Proofs.YtchllhgngkgpaaaDoor
