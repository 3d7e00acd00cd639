/-
  The laws that a table keeps; sizes, fields, paths.
-/
import Derived.Test.YtnphmfcnnpoinaaEvB
namespace Go.Ev
set_option linter.unusedVariables false
set_option linter.unusedSimpArgs false

section
variable {C : Cdc}

/-- what is asked of a table by itself -/
structure Laws (T : Tab C) : Prop where
  encRefs : ∀ t x, (T.enc t x).refs = []
  encFit : ∀ t x, fit T (T.enc t x) (.inl (T.ety t)) = true
  decR : ∀ X t d x cs, T.dec t d = some x → R T X false d cs → R T X false (T.enc t x) cs
  u8s : ∀ t f l, T.u8s t = some f → bytesOf T l = some (f l)
  ofU8s : ∀ t g l, T.ofU8s t = some g → (g l).map (T.enc t) = l.map fun b => .int .u8 (b.toNat : Int)
  szStruct : ∀ u fs, T.ty u = .struct fs → T.size u = sumSz T fs
  szArr : ∀ u n e t, T.ty u = .arr n e t → T.size u = n * T.size e ∧ T.ty e = T.ty (T.ety t) ∧ T.size e = T.size (T.ety t)
  szSl : ∀ u e t, T.ty u = .sl e t → T.size u = 1 ∧ T.ty e = T.ty (T.ety t) ∧ T.size e = T.size (T.ety t)
  szBool : ∀ u, T.ty u = .bool → T.size u = 1
  szInt : ∀ u k, T.ty u = .int k → T.size u = 1
  szStr : ∀ u, T.ty u = .str → T.size u = 1
  szPtr : ∀ u e, T.ty u = .ptr e → T.size u = 1
  szFn : ∀ u, T.ty u = .fn → T.size u = 1
  pos : ∀ u, (∀ h : T.ty u = .none, False) → 0 < T.size u

variable {T : Tab C} (L : Laws T)

theorem fit_congr {d : D C} {e e' : TypeId} (h : T.ty e = T.ty e') : fit T d (.inl e) = fit T d (.inl e') := by
  cases d <;> simp [fit, h]

include L

/-- the cells of a value that fits a type -/
theorem R.sizes {X : Cx} {m : Bool} {d : D C} {cs : List Value} (h : R T X m d cs) : m = false →
    (∀ t, fit T d (.inl t) = true → cs.length = T.size t) ∧ (∀ fs, fit T d (.inr fs) = true → cs.length = sumSz T fs) ∧
    (∀ t n l, d = .arr t n l → cs.length = n * T.size (T.ety t) ∧ l.length = n) := by
  have e1 : ∀ (d : D C) (u : TypeId) (v : Value), d.isRow = false → fit T d (.inl u) = true → [v].length = T.size u := by
    intro d u v hr hf
    simp only [List.length_singleton]
    cases hd : T.ty u <;> cases d <;> simp_all [fit, D.isRow]
    all_goals first | exact (L.szBool _ hd).symm | exact (L.szInt _ _ hd).symm | exact (L.szStr _ hd).symm | exact (L.szSl _ _ _ hd).1.symm | exact (L.szPtr _ _ hd).symm | exact (L.szFn _ hd).symm
  have e2 : ∀ (d : D C) (fs : List TypeId) (P : Prop), d.isRow = false → fit T d (.inr fs) = true → P := by
    intro d fs P hr hf; cases d <;> simp_all [fit, D.isRow]
  have e3 : ∀ (d : D C) (P : Prop), d.isRow = false → ∀ t n l, d = .arr t n l → P := by
    intro d P hr t n l hd; subst hd; simp [D.isRow] at hr
  induction h with
  | anil =>
    refine fun _ => ⟨fun t hf => ?_, fun fs hf => ?_, fun t n l hd => by simp at hd⟩
    · cases hd : T.ty t <;> simp [fit, hd] at hf
      rename_i fs
      cases fs with
      | nil => simp [L.szStruct _ _ hd, sumSz]
      | cons => simp at hf
    · cases fs with
      | nil => rfl
      | cons => simp [fit] at hf
  | @acons d ds c1 c2 _ _ i1 i2 =>
    intro hm
    have i1 := i1 hm
    have i2 := i2 hm
    have key : ∀ f fs, (fit T d (.inl f) && fit T ds (.inr fs)) = true → (c1 ++ c2).length = sumSz T (f :: fs) := by
      intro f fs hf
      simp only [Bool.and_eq_true] at hf
      simp [sumSz, i1.1 f hf.1, i2.2.1 fs hf.2]
    refine ⟨fun t hf => ?_, fun fs hf => ?_, fun t n l hd => by simp at hd⟩
    · cases hd : T.ty t <;> simp only [fit, hd, Bool.false_eq_true] at hf
      rename_i fs
      cases fs with
      | nil => simp at hf
      | cons f fs => rw [L.szStruct _ _ hd]; exact key f fs hf
    · cases fs with
      | nil => simp [fit] at hf
      | cons f fs => exact key f fs hf
  | arr0 t =>
    refine fun _ => ⟨fun u hf => ?_, fun fs hf => by simp [fit] at hf, fun t n l hd => by simp at hd; obtain ⟨rfl, rfl, hd⟩ := hd; subst hd; simp⟩
    cases hd : T.ty u <;> simp [fit, hd] at hf
    obtain ⟨rfl, rfl⟩ := hf
    simp [(L.szArr _ _ _ _ hd).1]
  | @arrS t n x l c1 c2 _ _ i1 i2 =>
    intro hm
    have h1 := (i1 hm).1 (T.ety t) (L.encFit t x)
    have h2 := (i2 hm).2.2 t n l rfl
    refine ⟨fun u hf => ?_, fun fs hf => by simp [fit] at hf, fun t' n' l' hd => ?_⟩
    · cases hd : T.ty u <;> simp [fit, hd] at hf
      obtain ⟨hn, rfl⟩ := hf
      have := L.szArr _ _ _ _ hd
      rw [this.1, this.2.2, hn, List.length_append, h1, h2.1, Nat.add_mul]
      omega
    · simp at hd
      obtain ⟨rfl, rfl, hd⟩ := hd
      simp at hd
      subst hd
      simp [h1, h2.1, h2.2, Nat.add_mul]
      omega
  | bool | int | str | nils | sl0 | sl | vs | ptr | vptr | cptr | nilp | fn | nilfn | tup | top =>
    exact fun _ => ⟨fun u hf => e1 _ u _ rfl hf, fun fs hf => e2 _ fs _ rfl hf, fun t n l hd => e3 _ _ rfl t n l hd⟩
  | vnil | vrow | vone => intro hm; simp at hm

theorem R.len {X : Cx} {d : D C} {cs : List Value} (h : R T X false d cs) {t : TypeId} (hf : fit T d (.inl t) = true) : cs.length = T.size t := (h.sizes L rfl).1 t hf
theorem R.lenArr {X : Cx} {t : C.Ty} {n : Nat} {l : List (C.A t)} {cs : List Value} (h : R T X false (.arr t n l) cs) : cs.length = n * T.size (T.ety t) ∧ l.length = n := (h.sizes L rfl).2.2 t n l rfl

/-- a part of a row -/
theorem R.part {X : Cx} {d : D C} : ∀ {fs : List TypeId} {i : Nat} {x : D C} {cs : List Value}, fit T d (.inr fs) = true → R T X false d cs → d.nth i = some x →
    ∃ c1 c2 c3, cs = c1 ++ c2 ++ c3 ∧ c1.length = sumSz T (fs.take i) ∧ R T X false x c2 ∧ i < fs.length ∧ fit T x (.inl (fs.getD i 0)) = true := by
  induction d with
  | acons d ds _ ih =>
    intro fs i x cs hf h hx
    cases fs with
    | nil => simp [fit] at hf
    | cons f fs =>
      simp only [fit, Bool.and_eq_true] at hf
      cases h with
      | @acons _ _ c1 c2 h1 h2 =>
        cases i with
        | zero =>
          simp [D.nth] at hx; subst hx
          exact ⟨[], c1, c2, by simp, by simp [sumSz], h1, by simp, hf.1⟩
        | succ i =>
          obtain ⟨a, b, c, hc, hl, hr, hi, hfi⟩ := ih hf.2 h2 (by simpa [D.nth] using hx)
          exact ⟨c1 ++ a, b, c, by simp [hc], by simp [sumSz, hl, h1.len L hf.1], hr, by simpa using hi, by simpa using hfi⟩
  | _ => intro fs i x cs _ _ hx; simp [D.nth] at hx

theorem R.partT {X : Cx} {d : D C} {t : TypeId} {fs : List TypeId} (ht : T.ty t = .struct fs) {i : Nat} {x : D C} {cs : List Value} (hf : fit T d (.inl t) = true) (h : R T X false d cs) (hx : d.nth i = some x) :
    ∃ c1 c2 c3, cs = c1 ++ c2 ++ c3 ∧ c1.length = sumSz T (fs.take i) ∧ R T X false x c2 ∧ i < fs.length ∧ fit T x (.inl (fs.getD i 0)) = true := by
  refine h.part L (fs := fs) ?_ hx
  cases d with
  | acons a b =>
    cases fs with
    | nil => simp [fit, ht] at hf
    | cons f fs => simpa [fit, ht] using hf
  | _ => simp [D.nth] at hx

/-- a row with another part -/
theorem R.setPart {X : Cx} {d : D C} : ∀ {fs : List TypeId} {i : Nat} {x d' : D C} {cs cx : List Value}, fit T d (.inr fs) = true → R T X false d cs → d.setNth i x = some d' →
    R T X false x cx → fit T x (.inl (fs.getD i 0)) = true →
    ∃ c1 c2 c3, cs = c1 ++ c2 ++ c3 ∧ c1.length = sumSz T (fs.take i) ∧ c2.length = cx.length ∧ i < fs.length ∧ R T X false d' (c1 ++ cx ++ c3) ∧ fit T d' (.inr fs) = true := by
  induction d with
  | acons d ds _ ih =>
    intro fs i x d' cs cx hf h hx hxc hxf
    cases fs with
    | nil => simp [fit] at hf
    | cons f fs =>
      simp only [fit, Bool.and_eq_true] at hf
      cases h with
      | @acons _ _ c1 c2 h1 h2 =>
        cases i with
        | zero =>
          simp [D.setNth] at hx; subst hx
          simp at hxf
          refine ⟨[], c1, c2, by simp, by simp [sumSz], by rw [h1.len L hf.1, hxc.len L hxf], by simp, by simpa using R.acons hxc h2, ?_⟩
          simp [fit, hxf, hf.2]
        | succ i =>
          simp only [D.setNth, Option.map_eq_some_iff] at hx
          obtain ⟨y, hy, rfl⟩ := hx
          obtain ⟨a, b, c, hc, hl, hlen, hi, hr, hfi⟩ := ih hf.2 h2 hy hxc (by simpa using hxf)
          refine ⟨c1 ++ a, b, c, by simp [hc], by simp [sumSz, hl, h1.len L hf.1], hlen, by simpa using hi, by simpa using R.acons h1 hr, ?_⟩
          simp [fit, hf.1, hfi]
  | _ => intro fs i x d' cs cx _ _ hx; simp [D.setNth] at hx

omit L in
theorem fit_row {d : D C} {t : TypeId} {fs : List TypeId} (ht : T.ty t = .struct fs) (hr : ∃ a b, d = .acons a b) : fit T d (.inl t) = fit T d (.inr fs) := by
  obtain ⟨a, b, rfl⟩ := hr
  cases fs with
  | nil => simp [fit, ht]
  | cons f fs => simp [fit, ht]

omit L in
theorem setNth_acons {d x d' : D C} {i : Nat} (h : d.setNth i x = some d') : (∃ a b, d = .acons a b) ∧ ∃ a b, d' = .acons a b := by
  cases d with
  | acons a b =>
    cases i with
    | zero => simp [D.setNth] at h; subst h; exact ⟨⟨_, _, rfl⟩, ⟨_, _, rfl⟩⟩
    | succ i => simp [D.setNth] at h; obtain ⟨y, _, rfl⟩ := h; exact ⟨⟨_, _, rfl⟩, ⟨_, _, rfl⟩⟩
  | _ => simp [D.setNth] at h

/-- an array's element -/
theorem R.elem {X : Cx} {t : C.Ty} : ∀ {n : Nat} {l : List (C.A t)} {cs : List Value} (i : Nat), R T X false (.arr t n l) cs → i < n →
    ∃ c1 c2 c3, cs = c1 ++ c2 ++ c3 ∧ c1.length = i * T.size (T.ety t) ∧ R T X false (T.enc t (l.getD i (T.dflt t))) c2 := by
  intro n l
  induction l generalizing n with
  | nil =>
    intro cs i h hi
    cases h with
    | arr0 => omega
  | cons x l ih =>
    intro cs i h hi
    cases h with
    | @arrS _ n _ _ c1 c2 h1 h2 =>
      cases i with
      | zero => exact ⟨[], c1, c2, by simp, by simp, by simpa using h1⟩
      | succ i =>
        obtain ⟨a, b, c, hc, hl, hr⟩ := ih i h2 (by omega)
        refine ⟨c1 ++ a, b, c, by simp [hc], ?_, by simpa using hr⟩
        have := h1.len L (L.encFit t x)
        simp [hl, this, Nat.add_mul]
        omega

theorem R.setElem {X : Cx} {t : C.Ty} : ∀ {n : Nat} {l : List (C.A t)} {cs : List Value} (i : Nat) (z : C.A t) {cz : List Value}, R T X false (.arr t n l) cs → i < n → R T X false (T.enc t z) cz →
    ∃ c1 c2 c3, cs = c1 ++ c2 ++ c3 ∧ c1.length = i * T.size (T.ety t) ∧ c2.length = cz.length ∧ R T X false (.arr t n (l.set i z)) (c1 ++ cz ++ c3) := by
  intro n l
  induction l generalizing n with
  | nil =>
    intro cs i z cz h hi
    cases h with
    | arr0 => omega
  | cons x l ih =>
    intro cs i z cz h hi hz
    cases h with
    | @arrS _ n _ _ c1 c2 h1 h2 =>
      have e1 := h1.len L (L.encFit t x)
      have e2 := hz.len L (L.encFit t z)
      cases i with
      | zero => exact ⟨[], c1, c2, by simp, by simp, by omega, by simpa using R.arrS hz h2⟩
      | succ i =>
        obtain ⟨a, b, c, hc, hl, hlen, hr⟩ := ih i z h2 (by omega) hz
        refine ⟨c1 ++ a, b, c, by simp [hc], ?_, hlen, by simpa using R.arrS h1 hr⟩
        simp [hl, e1, Nat.add_mul]
        omega

omit L in
theorem R.arrAppend {X : Cx} {t : C.Ty} : ∀ {n m : Nat} {l k : List (C.A t)} {cs ds : List Value}, R T X false (.arr t n l) cs → R T X false (.arr t m k) ds → R T X false (.arr t (n + m) (l ++ k)) (cs ++ ds) := by
  intro n m l
  induction l generalizing n with
  | nil => intro k cs ds h g; cases h with | arr0 => simpa using g
  | cons x l ih =>
    intro k cs ds h g
    cases h with
    | @arrS _ n _ _ c1 c2 h1 h2 =>
      have := R.arrS h1 (ih h2 g)
      rw [show n + 1 + m = n + m + 1 by omega]
      simpa using this

/-- the first elements, and those behind -/
theorem R.arrSplit {X : Cx} {t : C.Ty} : ∀ {n : Nat} {l : List (C.A t)} {cs : List Value} (i : Nat), R T X false (.arr t n l) cs → i ≤ n →
    ∃ c1 c2, cs = c1 ++ c2 ∧ c1.length = i * T.size (T.ety t) ∧ R T X false (.arr t i (l.take i)) c1 ∧ R T X false (.arr t (n - i) (l.drop i)) c2 := by
  intro n l
  induction l generalizing n with
  | nil =>
    intro cs i h hi
    cases h with
    | arr0 => obtain rfl : i = 0 := by omega
              exact ⟨[], [], rfl, by simp, .arr0 t, .arr0 t⟩
  | cons x l ih =>
    intro cs i h hi
    cases h with
    | @arrS _ n _ _ c1 c2 h1 h2 =>
      cases i with
      | zero => exact ⟨[], c1 ++ c2, rfl, by simp, .arr0 t, by simpa using R.arrS h1 h2⟩
      | succ i =>
        obtain ⟨a, b, hc, hl, hr, hr'⟩ := ih i h2 (by omega)
        refine ⟨c1 ++ a, b, by simp [hc], ?_, by simpa using R.arrS h1 hr, by rw [show n + 1 - (i + 1) = n - i by omega]; simpa using hr'⟩
        have := h1.len L (L.encFit t x)
        simp [hl, this, Nat.add_mul]
        omega

/-- what stands at a path -/
theorem R.path {X : Cx} : ∀ (p : List Nat) {d x : D C} {t : TypeId} {cs : List Value}, okPath T t p → fit T d (.inl t) = true → R T X false d cs → getPath T d p = some x →
    ∃ c1 c2 c3, cs = c1 ++ c2 ++ c3 ∧ c1.length = offAt T t p ∧ R T X false x c2 ∧ ∀ t', tyAt T t p = some t' → fit T x (.inl t') = true := by
  intro p
  induction p with
  | nil =>
    intro d x t cs _ hf h hx
    simp [getPath] at hx; subst hx
    exact ⟨[], cs, [], by simp, by simp [offAt], h, fun t' ht => by simp [tyAt] at ht; exact ht ▸ hf⟩
  | cons i p ih =>
    intro d x t cs hp hf h hx
    cases d with
    | acons d ds =>
      simp only [getPath] at hx
      cases hn : (D.acons d ds).nth i with
      | none => simp [hn] at hx
      | some y =>
        simp only [hn] at hx
        cases ht : T.ty t <;> simp [okPath, ht] at hp
        case struct fs =>
          obtain ⟨a, b, c, hc, hl, hr, hi, hfy⟩ := h.partT L ht hf hn
          obtain ⟨a', b', c', hc', hl', hr', hfx⟩ := ih (by simpa using hp.2) (by simpa using hfy) hr hx
          refine ⟨a ++ a', b', c' ++ c, by simp [hc, hc'], ?_, hr', fun t' h' => hfx t' ?_⟩
          · simp [offAt, ht, hl, hl']
          · simp only [tyAt, ht] at h'
            have : fs[i]? = some (fs.getD i 0) := by simp [hi]
            rw [this] at h'
            simpa using h'
        case arr n e ty => simp [fit, ht] at hf
    | arr ty n l =>
      simp only [getPath] at hx
      cases ht : T.ty t <;> simp [okPath, ht] at hp
      case struct fs => simp [fit, ht] at hf
      case arr m e ty' =>
        simp only [fit, ht, Bool.and_eq_true, Nat.beq_eq, decide_eq_true_eq] at hf
        obtain ⟨rfl, rfl⟩ := hf
        obtain ⟨a, b, c, hc, hl, hr⟩ := h.elem L i hp.1
        have hs := L.szArr _ _ _ _ ht
        have hfe : fit T (T.enc ty (l.getD i (T.dflt ty))) (.inl e) = true := by rw [fit_congr hs.2.1]; exact L.encFit _ _
        obtain ⟨a', b', c', hc', hl', hr', hfx⟩ := ih hp.2 hfe hr hx
        refine ⟨a ++ a', b', c' ++ c, by simp [hc, hc'], ?_, hr', fun t' h' => hfx t' ?_⟩
        · simp [offAt, ht, hl, hl', hs.2.2]
        · simpa [tyAt, ht] using h'
    | _ => simp [getPath] at hx

theorem R.setPath {X : Cx} : ∀ (p : List Nat) {d v d' : D C} {t t' : TypeId} {cs cv : List Value}, okPath T t p → fit T d (.inl t) = true → R T X false d cs → setPath T d p v = some d' →
    R T X false v cv → tyAt T t p = some t' → fit T v (.inl t') = true →
    ∃ c1 c2 c3, cs = c1 ++ c2 ++ c3 ∧ c1.length = offAt T t p ∧ c2.length = cv.length ∧ R T X false d' (c1 ++ cv ++ c3) ∧ fit T d' (.inl t) = true := by
  intro p
  induction p with
  | nil =>
    intro d v d' t t' cs cv _ hf h hx hv ht hfv
    simp [Ev.setPath] at hx; subst hx
    simp [tyAt] at ht; subst ht
    exact ⟨[], cs, [], by simp, by simp [offAt], by rw [h.len L hf, hv.len L hfv], by simpa using hv, hfv⟩
  | cons i p ih =>
    intro d v d' t t' cs cv hp hf h hx hv htt hfv
    cases d with
    | acons d ds =>
      simp only [Ev.setPath] at hx
      cases hn : (D.acons d ds).nth i with
      | none => simp [hn] at hx
      | some y =>
        simp only [hn] at hx
        cases hs : Ev.setPath T y p v with
        | none => simp [hs] at hx
        | some y' =>
          simp only [hs] at hx
          cases ht : T.ty t <;> simp [okPath, ht] at hp
          case struct fs =>
            obtain ⟨a, b, c, hc, hl, hr, hi, hfy⟩ := h.partT L ht hf hn
            have htt' : tyAt T (fs.getD i 0) p = some t' := by
              simp only [tyAt, ht] at htt
              have : fs[i]? = some (fs.getD i 0) := by simp [hi]
              rw [this] at htt
              simpa using htt
            obtain ⟨a', b', c', hc', hl', hlen, hr', hfx⟩ := ih (by simpa using hp.2) (by simpa using hfy) hr hs hv htt' hfv
            have hfr : fit T (D.acons d ds) (.inr fs) = true := by rw [← fit_row ht ⟨_, _, rfl⟩]; exact hf
            obtain ⟨e1, e2, e3, hce, hle, hlene, _, hre, hfe⟩ := h.setPart L hfr hx hr' hfx
            have hb : e1 = a ∧ e2 = b ∧ e3 = c := by
              have h1 : e1.length = a.length := by omega
              have h2 : e2.length = b.length := by rw [hlene, hc']; simp [hlen]
              have := hc.symm.trans hce
              simp only [List.append_assoc] at this
              have q1 := List.append_inj this h1.symm
              have q2 := List.append_inj q1.2 h2.symm
              exact ⟨q1.1.symm, q2.1.symm, q2.2.symm⟩
            obtain ⟨rfl, rfl, rfl⟩ := hb
            refine ⟨e1 ++ a', b', c' ++ e3, by simp [hce, hc'], by simp [offAt, ht, hle, hl'], hlen, by simpa using hre, ?_⟩
            rw [fit_row ht (setNth_acons hx).2]; exact hfe
          case arr n e ty => simp [fit, ht] at hf
    | arr ty n l =>
      simp only [Ev.setPath] at hx
      cases hs : Ev.setPath T (T.enc ty (l.getD i (T.dflt ty))) p v with
      | none => rw [hs] at hx; simp at hx
      | some y' =>
        simp only [hs] at hx
        cases hd : T.dec ty y' with
        | none => simp [hd] at hx
        | some z =>
          simp [hd] at hx
          subst hx
          cases ht : T.ty t <;> simp [okPath, ht] at hp
          case struct fs => simp [fit, ht] at hf
          case arr m e ty' =>
            have hf0 := hf
            simp only [fit, ht, Bool.and_eq_true, Nat.beq_eq, decide_eq_true_eq] at hf
            obtain ⟨rfl, rfl⟩ := hf
            obtain ⟨a, b, c, hc, hl, hr⟩ := h.elem L i hp.1
            have hz := L.szArr _ _ _ _ ht
            have hfe : fit T (T.enc ty (l.getD i (T.dflt ty))) (.inl e) = true := by rw [fit_congr hz.2.1]; exact L.encFit _ _
            obtain ⟨a', b', c', hc', hl', hlen, hr', hfx⟩ := ih hp.2 hfe hr hs hv (by simpa [tyAt, ht] using htt) hfv
            have hzr := L.decR X ty _ _ _ hd hr'
            obtain ⟨e1, e2, e3, hce, hle, hlene, hre⟩ := h.setElem L i z hp.1 hzr
            have hb : e1 = a ∧ e2 = b ∧ e3 = c := by
              have h1 : e1.length = a.length := by omega
              have h2 : e2.length = b.length := by rw [hlene, hc']; simp [hlen]
              have := hc.symm.trans hce
              simp only [List.append_assoc] at this
              have q1 := List.append_inj this h1.symm
              have q2 := List.append_inj q1.2 h2.symm
              exact ⟨q1.1.symm, q2.1.symm, q2.2.symm⟩
            obtain ⟨rfl, rfl, rfl⟩ := hb
            refine ⟨e1 ++ a', b', c' ++ e3, by simp [hce, hc'], by simp [offAt, ht, hle, hl', hz.2.2], hlen, by simpa using hre, ?_⟩
            simp [fit, ht]
    | _ => simp [Ev.setPath] at hx

omit L in
theorem okPath_snoc {s : TypeId} : ∀ {p : List Nat} {t : TypeId}, okPath T t p → tyAt T t p = some s → ∀ i q, okPath T s (i :: q) → okPath T t (p ++ i :: q) ∧ offAt T t (p ++ i :: q) = offAt T t p + offAt T s (i :: q) := by
  intro p
  induction p with
  | nil => intro t _ h i q hq; simp [tyAt] at h; subst h; exact ⟨by simpa using hq, by simp [offAt]⟩
  | cons j p ih =>
    intro t hp ht i q hq
    simp only [List.cons_append]
    cases hty : T.ty t <;> simp only [okPath, hty] at hp <;> simp only [tyAt, hty] at ht
    case struct fs =>
      have hj : fs[j]? = some (fs.getD j 0) := by simp [hp.1]
      rw [hj] at ht
      obtain ⟨h1, h2⟩ := ih hp.2 ht i q hq
      have e1 : ∀ r, offAt T t (j :: r) = sumSz T (fs.take j) + offAt T (fs.getD j 0) r := fun r => by simp only [offAt, hty]
      exact ⟨by simp only [okPath, hty]; exact ⟨hp.1, h1⟩, by rw [e1, e1, h2]; omega⟩
    case arr n e ty =>
      obtain ⟨h1, h2⟩ := ih hp.2 ht i q hq
      have e1 : ∀ r, offAt T t (j :: r) = j * T.size e + offAt T e r := fun r => by simp only [offAt, hty]
      exact ⟨by simp only [okPath, hty]; exact ⟨hp.1, h1⟩, by rw [e1, e1, h2]; omega⟩

omit L in
theorem tyAt_snoc {s : TypeId} : ∀ {p : List Nat} {t : TypeId}, tyAt T t p = some s → ∀ q, tyAt T t (p ++ q) = tyAt T s q := by
  intro p
  induction p with
  | nil => intro t h q; simp [tyAt] at h; subst h; rfl
  | cons j p ih =>
    intro t ht q
    simp only [List.cons_append]
    cases hty : T.ty t <;> simp only [tyAt, hty] at ht ⊢
    case struct fs =>
      cases hj : fs[j]? with
      | none => simp [hj] at ht
      | some f => simp only [hj] at ht; exact ih ht q
    case arr n e ty => exact ih ht q
    all_goals simp at ht
end
end Go.Ev
