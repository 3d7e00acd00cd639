/-
  A part of the proof of a statement of this seat: the model is run over values by content, proved sound; what the functions come to. No condition beyond the given statements. (text 4)
-/
import Derived.Test.YtkmlajifcoomcaaGreatP2
import Derived.KernelRfl
namespace Go.Ev
set_option linter.unusedVariables false
set_option linter.unusedSimpArgs false
section
variable {C : Cdc} {P : Program} {T : Tab C} {Φ : Fns C}
open Pg (Ex)
structure LoopO (C : Cdc) (σ : Type) where
  k : Nat
  canon : σ → Env C
  objs : σ → List (Obj C)
  fin : σ → Ev.X × Env C
  fobjs : σ → List (Obj C)
  Inv : σ → Prop
  μ : σ → Nat
def RefsOK (k : Nat) (env : Env C) (os : List (Obj C)) : Prop := os.length = k ∧ (∀ q ∈ env, ∀ r ∈ q.2.refs, r < k) ∧ ∀ o ∈ os, ∀ r ∈ Obj.refs o, r < k
def Grow (os os' : List (Obj C)) (f : Nat → Nat) : Prop := ∀ j, j < os.length → f j = j ∨ ∃ t own l own' l', os[j]? = some (.vec t own l) ∧ os'[j]? = some (.vec t own' l') ∧ l.length < l'.length
def Cx.partM (X : Cx) (k : Nat) (f : Nat → Nat) : Cx := ⟨X.w, fun j => if j < k then X.ρ (f j) else none, X.O⟩
theorem Cx.partM_mine {X : Cx} {k : Nat} {f : Nat → Nat} {b o : Nat} : (X.partM k f).mine b o ↔ ∃ j l, j < k ∧ X.ρ (f j) = some l ∧ l.owns b o := by
  constructor
  · rintro ⟨j, l, h1, h2⟩
    simp only [Cx.partM] at h1
    split at h1
    · exact ⟨j, l, by assumption, h1, h2⟩
    · cases h1
  · rintro ⟨j, l, h0, h1, h2⟩
    exact ⟨j, l, by simp [Cx.partM, h0, h1], h2⟩
theorem Cx.partM_free {X : Cx} {k : Nat} {f : Nat → Nat} {b o : Nat} (h : X.free b o) : (X.partM k f).free b o :=
  ⟨h.1, fun hm => by obtain ⟨j, l, _, hl, ho⟩ := Cx.partM_mine.1 hm; exact h.2 ⟨f j, l, hl, ho⟩⟩
theorem Part.ctxM (L : Laws T) {X : Cx} {h : Heap C} {nx : Nat} {lim : Lim} (g : G T X h nx lim) {os : List (Obj C)} {f : Nat → Nat} (p : Part h os f) (top : Nat) : G T (X.partM os.length f) (hpOf 0 os) os.length (lim0 top) := by
  obtain ⟨fi, hfi⟩ := inv_of p.inj
  have hX : Kps X (X.partM os.length f) := ⟨fun b o v h1 h2 => ⟨h1, Cx.partM_free h2⟩, fun l r h1 h2 => ⟨h1, fun o hm => by obtain ⟨j, q, _, hl, ho⟩ := Cx.partM_mine.1 hm; exact h2 o ⟨f j, q, hl, ho⟩⟩⟩
  refine ⟨?_, ?_, ?_, ?_, ?_, ?_, ?_, ?_, Nat.zero_le _⟩
  · intro id t d ho
    rw [hpOf_get0] at ho
    have hlt : id < os.length := (List.getElem?_eq_some_iff.1 ho).1
    obtain ⟨b, c, h1, h2, h3, h4⟩ := g.var (f id) t (d.ren f) (p.at' id _ ho)
    have hrefs : ∀ r ∈ d.refs, r < os.length := p.refs _ (List.mem_of_getElem? ho)
    refine ⟨b, c, by simp [Cx.partM, hlt, h1], h2, ?_, by rw [fit_ren] at h4; exact h4⟩
    have h5 := h3.ren (X' := X.partM os.length f) fi L.encOK hX (fun r hr => by
      rw [D.ren_refs, List.mem_map] at hr
      obtain ⟨r0, hr0, rfl⟩ := hr
      have := hrefs r0 hr0
      simp only [hfi r0 this, Cx.partM, this, if_true]
      exact .refl _)
    rwa [D.ren_ren f fi d (fun r hr => hfi r (hrefs r hr))] at h5
  · intro id t own l ho
    rw [hpOf_get0] at ho
    have hlt : id < os.length := (List.getElem?_eq_some_iff.1 ho).1
    obtain ⟨v, b, lo, hi, h1, h2⟩ := g.vec (f id) t own l (p.at' id _ ho)
    refine ⟨v, b, lo, hi, by simp [Cx.partM, hlt, h1], ?_⟩
    exact h2.move L hX.cell (fun _ => rfl) (L.posE t)
  · intro id ck cv l ho
    rw [hpOf_get0] at ho
    have hlt : id < os.length := (List.getElem?_eq_some_iff.1 ho).1
    obtain ⟨b, es, k, h1, h2, h3⟩ := g.map (f id) ck cv l (p.at' id _ ho)
    exact ⟨b, es, k, by simp [Cx.partM, hlt, h1], h2, h3.move L hX.cell⟩
  · intro id l hr
    simp only [Cx.partM] at hr
    split at hr
    · rename_i hlt
      rw [hpOf_get0]; simp [hlt]
    · cases hr
  · intro id o ho
    rw [hpOf_get0] at ho
    have hlt : id < os.length := (List.getElem?_eq_some_iff.1 ho).1
    exact ⟨⟨.inl hlt, fun h => h⟩, fun r hr => ⟨.inl (p.refs _ (List.mem_of_getElem? ho) r hr), fun h => h⟩⟩
  · intro i j l l' b o o' h1 h2 h3 h4
    simp only [Cx.partM] at h1 h2
    split at h1
    · split at h2
      · exact p.inj i j (by assumption) (by assumption) (g.apart _ _ _ _ _ _ _ h1 h2 h3 h4)
      · cases h2
    · cases h1
  · intro b o hm
    obtain ⟨j, l, hj, hl, ho⟩ := Cx.partM_mine.1 hm
    exact g.outer b o ⟨_, l, hl, ho⟩
  · intro b o ho
    exact g.outs b o ho
theorem EnvOK.partM (L : Laws T) {X : Cx} {nx : Nat} {lim : Lim} {env env0 : Env C} {tmps : Array Value} {k top : Nat} {f : Nat → Nat} (he : EnvOK T X nx lim env tmps) (hinj : ∀ i j, i < k → j < k → f i = f j → i = j)
    (hs : ∀ q ∈ env0, eget env q.1 = q.2.ren f) (hr : ∀ q ∈ env0, ∀ r ∈ q.2.refs, r < k) : EnvOK T (X.partM k f) k (lim0 top) env0 tmps := by
  obtain ⟨fi, hfi⟩ := inv_of hinj
  intro t
  rcases eget_mem env0 t with h | h
  · rw [h]; exact RO.mk (RV.top _ _ _) rfl
  · have hrt : ∀ r ∈ (eget env0 t).refs, r < k := hr _ h
    refine ⟨?_, fun r hh => ⟨.inl (hrt r hh), fun h => h⟩⟩
    have h1 := (he t).1
    have h2 := hs _ h
    simp only at h2
    rw [h2] at h1
    have h3 := RV.ren (X := X) (X' := X.partM k f) fi L.encOK (h := h1) ⟨fun b o v a1 a2 => ⟨a1, Cx.partM_free a2⟩, fun l r h1 h2 => ⟨h1, fun o hm => by obtain ⟨j, q, _, hl, ho⟩ := Cx.partM_mine.1 hm; exact h2 o ⟨f j, q, hl, ho⟩⟩⟩ (fun r hh => by
      rw [D.ren_refs, List.mem_map] at hh
      obtain ⟨r0, hr0, rfl⟩ := hh
      have := hrt r0 hr0
      simp only [hfi r0 this, Cx.partM, this, if_true]
      exact .refl _)
    rwa [D.ren_ren f fi _ (fun r hh => hfi r (hrt r hh))] at h3
theorem VecOK.lenV {X : Cx} {t : C.Ty} {own : Bool} {l : List (C.A t)} {v : Value} {b lo hi : Nat} (h : VecOK T X t own l v b lo hi) : Ev.lenV v = l.length := by
  rcases h with ⟨⟨a, rfl, _⟩, rfl, _⟩ | ⟨off, cp, rfl, _⟩ <;> rfl
theorem Part.stepM {X X1 : Cx} {h' : Heap C} {nx' : Nat} {os os' : List (Obj C)} {f : Nat → Nat} (g : G T X (hpOf 0 os) os.length (lim0 os.length)) (g1 : G T X1 h' nx' (lim0 nx')) (s : Step X os.length (lim0 nx') X1) (p : Part h' os' f) (hlen : os'.length = os.length) (hg : Grow os os' f) :
    Step X os.length (lim0 os.length) (X1.partM os.length f) := by
  refine ⟨s.O, s.os, s.tape, s.output, s.size, fun id ho => ?_, fun b o hb hm => ?_, s.cell, s.block, s.frz⟩
  · by_cases hid : id < os.length
    · simp only [Cx.partM, hid, if_true]
      rcases hg id hid with hf | ⟨t, own, l, own', l', h1, h2, h3⟩
      · rw [hf]; exact s.ρ id ⟨.inl hid, fun h => h⟩
      · obtain ⟨v, b, lo, hi, a1, a2⟩ := g.vec id t own l (by rw [hpOf_get0]; exact h1)
        obtain ⟨v', b', lo', hi', c1, c2⟩ := g1.vec (f id) t own' l' (p.at' id _ h2)
        rw [a1, c1]
        have e1 := a2.lenV
        have e2 := c2.lenV
        exact ⟨rfl, by omega, fun h => by omega⟩
    · have : (X1.partM os.length f).ρ id = none := by simp [Cx.partM, hid]
      rw [this]; cases X.ρ id <;> simp [Compat]
  · obtain ⟨j, l, hj, hl, ho⟩ := Cx.partM_mine.1 hm
    exact s.mine b o hb ⟨f j, l, hl, ho⟩
def RoundO (T : Tab C) (Φ : Fns C) (g : FuncId) (b : Code) {σ : Type} (S : LoopO C σ) : Prop :=
  ∀ s, S.Inv s → RefsOK S.k (S.canon s) (S.objs s) ∧ RefsOK S.k (S.fin s).2 (S.fobjs s) ∧ ∃ n x env' h' nx' tr, Ex (0, 0) (evC T Φ n g b (S.canon s)) (hpOf 0 (S.objs s)) S.k (x, env') h' nx' tr ∧
    ((x = .normal ∧ ∃ s', S.Inv s' ∧ S.μ s' < S.μ s ∧ S.fin s' = S.fin s ∧ S.fobjs s' = S.fobjs s ∧ Sub env' (S.canon s') ∧ ∀ j, j < S.k → h'.get j = (S.objs s')[j]?) ∨
     (x = .normal ∧ ∃ s' f, S.Inv s' ∧ S.μ s' < S.μ s ∧ S.fin s' = S.fin s ∧ S.fobjs s' = S.fobjs s ∧ (∀ p ∈ S.canon s', eget env' p.1 = p.2.ren f) ∧ Part h' (S.objs s') f ∧ Grow (S.objs s) (S.objs s') f) ∨
     (x ≠ .normal ∧ x = (S.fin s).1 ∧ Sub env' (S.fin s).2 ∧ ∀ j, j < S.k → h'.get j = (S.fobjs s)[j]?))
theorem G.relim2 {X : Cx} {h : Heap C} {nx nx' k : Nat} {lim lim' : Lim} (g : G T X h nx lim) (hk : ∀ id o, h.get id = some o → id < k ∧ ∀ r ∈ o.refs, r < k) (hn : k ≤ nx') (hl : lim'.lo ≤ nx') (hH : ∀ id, ¬ lim'.H id) : G T X h nx' lim' :=
  ⟨g.var, g.vec, g.map, g.dom, fun id o ho => ⟨⟨.inl (by have := (hk id o ho).1; omega), hH id⟩, fun r hr => ⟨.inl (by have := (hk id o ho).2 r hr; omega), hH r⟩⟩, g.apart, g.outer, g.outs, hl⟩
theorem hpOf_nums {os : List (Obj C)} {k : Nat} (hl : os.length = k) (hr : ∀ o ∈ os, ∀ r ∈ Obj.refs o, r < k) : ∀ id o, (hpOf 0 os).get id = some o → id < k ∧ ∀ r ∈ o.refs, r < k := by
  intro id o ho
  rw [hpOf_get0] at ho
  exact ⟨by rw [← hl]; exact (List.getElem?_eq_some_iff.1 ho).1, hr o (List.mem_of_getElem? ho)⟩
theorem rounds_obj (K : PLaws P T) (F : FLaws P T Φ) {g : FuncId} {fn : Func} {body b : Code} {σ : Type} {S : LoopO C σ} (hr : RoundO T Φ g b S) (hf : Φ.fn g = some fn) (hb : fn.body = some body) (hcb : codeB fn.ntmps b = true) (hl : ∀ b' ∈ loops b, b' ∈ loops body) {B : Nat → Bool} (hB : ClearC B b)
    {Q : Exit → Act → World → Prop} : ∀ (m : Nat) (s : σ) (X : Cx) (a : Act), S.Inv s → S.μ s < m → G T X (hpOf 0 (S.objs s)) S.k (lim0 S.k) → EnvOK T X S.k (lim0 S.k) (S.canon s) a.tmps → fn.ntmps ≤ a.tmps.size →
      (∀ a' X', G T X' (hpOf 0 (S.fobjs s)) S.k (lim0 S.k) → Step X S.k (lim0 S.k) X' → EnvOK T X' S.k (lim0 S.k) (S.fin s).2 a'.tmps → a'.tmps.size = a.tmps.size → Marks X X' a'.defers a.defers → Kp B a.tmps a'.tmps → Q (exitX (S.fin s).1) a' X'.w) → Code.rounds P b Q m a X.w := by
  intro m
  induction m with
  | zero => intro s X a _ hm; omega
  | succ m ih =>
    intro s X a hI hm hg he hsz hk
    obtain ⟨hr1, hr2, n, x, env', h', nx', tr, hx, hcase⟩ := hr s hI
    rw [rounds_succ]
    have hle : S.k ≤ nx' := hx.le
    have g0 : G T X (hpOf 0 (S.objs s)) S.k (lim0 nx') := hg.relim2 (hpOf_nums hr1.1 hr1.2.2) (Nat.le_refl _) (Nat.zero_le _) (fun _ h => h)
    have e0 : EnvOK T X S.k (lim0 nx') (S.canon s) a.tmps := fun t => ⟨(he t).1, fun r hh => ⟨.inl (by
      rcases eget_mem (S.canon s) t with h | h
      · rw [h] at hh; simp [D.refs] at hh
      · exact hr1.2.1 _ h r hh), fun h => h⟩⟩
    refine (wpIn_wide (n := 0)).1 ((code_ok K F n).1 none 0 g fn.ntmps b (.inr ⟨rfl, fn, body, hf, rfl, hb, hl⟩) hcb B hB X (hpOf 0 (S.objs s)) S.k (lim0 nx') (0, 0) (S.canon s) x env' h' nx' tr a _ g0 e0 (Nat.le_refl _) hsz hx ?_)
    intro a1 X1 g1 s1 e1 hs1 hd1 kp1
    -- the objects that are kept
    have key : ∀ (os : List (Obj C)) (env0 : Env C), RefsOK S.k env0 os → (∀ j, j < S.k → h'.get j = os[j]?) → Sub env' env0 →
        ∃ X2, X2.w = X1.w ∧ G T X2 (hpOf 0 os) S.k (lim0 S.k) ∧ Step X S.k (lim0 S.k) X2 ∧ EnvOK T X2 S.k (lim0 S.k) env0 a1.tmps ∧ Marks X X2 a1.defers a.defers := by
      intro os env0 ⟨q1, q2, q3⟩ hget hsub
      obtain ⟨X2, w2, g2, s2, hρ⟩ := G.drop K.base g1 (h' := hpOf 0 os) (fun id => by
        rw [hpOf_get0]
        by_cases hid : id < S.k
        · exact .inl (hget id hid).symm
        · exact .inr (List.getElem?_eq_none (by omega)))
      have hnone : ∀ id, ¬ id < S.k → X2.ρ id = none := fun id hid => by
        cases hq : X2.ρ id with
        | none => rfl
        | some l =>
          have := g2.dom id l hq
          rw [hpOf_get0, List.getElem?_eq_none (by omega)] at this
          cases this
      have s3 := s1.trans s2 hle
      refine ⟨X2, w2, g2.relim2 (hpOf_nums q1 q3) (Nat.le_refl _) (Nat.zero_le _) (fun _ h => h), ⟨s3.O, s3.os, s3.tape, s3.output, s3.size, fun id ho => ?_, s3.mine, s3.cell, s3.block, s3.frz⟩, fun t => ?_, hd1.sub w2 s2.mine⟩
      · by_cases hid : id < S.k
        · exact s3.ρ id ⟨.inl hid, fun h => h⟩
        · rw [hnone id hid]; cases X.ρ id <;> simp [Compat]
      · rcases eget_mem env0 t with h | h
        · rw [h]; exact RO.mk (RV.top _ _ _) rfl
        · have hrt : ∀ r ∈ (eget env0 t).refs, r < S.k := q2 _ h
          have h2 := hsub _ h
          simp only at h2
          have h3 := (e1 t).1
          rw [h2] at h3
          exact ⟨h3.mono T K.base.encOK s2.keeps fun r hh => s2.ρ r ⟨.inl (by have := hrt r hh; omega), fun h => h⟩, fun r hh => ⟨.inl (hrt r hh), fun h => h⟩⟩
    rcases hcase with ⟨rfl, s', hI', hmu, hfin, hfo, hsub, hget⟩ | ⟨rfl, s', f, hI', hmu, hfin, hfo, hsub, hpart, hgrow⟩ | ⟨hne, hxf, hsub, hget⟩
    · obtain ⟨hr1', _, _⟩ := hr s' hI'
      obtain ⟨X2, w2, g2, s2, e2, hd2⟩ := key _ _ hr1' hget hsub
      rw [← w2]
      refine ih s' X2 a1 hI' (by omega) g2 e2 (by omega) fun a3 X3 g3 s3 e3 hs3 hd3 kp3 => ?_
      rw [hfin] at e3 ⊢
      rw [hfo] at g3
      exact hk a3 X3 g3 (s2.trans s3 (Nat.le_refl _)) e3 (by omega) (hd2.trans s2 s3 hd3) (kp1.trans kp3)
    · obtain ⟨hr1', _, _⟩ := hr s' hI'
      have hlen' : (S.objs s').length = (S.objs s).length := by rw [hr1'.1, hr1.1]
      have g2 := Part.ctxM K.base g1 hpart (S.objs s').length
      have e2 : EnvOK T (X1.partM (S.objs s').length f) (S.objs s').length (lim0 (S.objs s').length) (S.canon s') a1.tmps := EnvOK.partM K.base e1 hpart.inj hsub (by rw [hr1'.1]; exact hr1'.2.1)
      have s2 := Part.stepM (by rw [hr1.1]; exact hg) g1 (by rw [hr1.1]; exact s1) hpart hlen' hgrow
      rw [hr1'.1] at g2 e2
      rw [hr1.1] at s2
      refine ih s' (X1.partM S.k f) a1 hI' (by omega) g2 e2 (by omega) fun a3 X3 g3 s3 e3 hs3 hd3 kp3 => ?_
      rw [hfin] at e3 ⊢
      rw [hfo] at g3
      exact hk a3 X3 g3 (s2.trans s3 (Nat.le_refl _)) e3 (by omega) ((hd1.sub (X2 := X1.partM S.k f) rfl (fun b o _ hm => by obtain ⟨j, q, _, hl, ho⟩ := Cx.partM_mine.1 hm; exact ⟨f j, q, hl, ho⟩)).trans s2 s3 hd3) (kp1.trans kp3)
    · obtain ⟨X2, w2, g2, s2, e2, hd2⟩ := key _ _ hr2 hget hsub
      have hfinal : Q (exitX (S.fin s).1) a1 X2.w := hk a1 X2 g2 s2 e2 hs1 hd2 kp1
      rw [w2, ← hxf] at hfinal
      cases x with
      | normal => exact (hne rfl).elim
      | exit id => exact hfinal
      | ret => exact hfinal
theorem empty_vec {X : Cx} {t : C.Ty} {l : List (C.A t)} {v : Value} (h : R T X false (.sl t true l) [v]) : ∃ a, v = .slice a l.length l.length ∧ ∃ b lo, VecOK T X t l.isEmpty l v b lo lo := by
  have key : ∀ a : Option Addr, ∃ b lo, VecOK T X t true [] (.slice a 0 0) b lo lo := by
    intro a
    by_cases hq : ∃ b off, a = some ⟨b, off, none⟩
    · obtain ⟨b, off, rfl⟩ := hq
      exact ⟨b, off, .inr ⟨off, 0, rfl, Nat.le_refl _, by simp, .inl ⟨rfl, rfl, .inl rfl⟩⟩⟩
    · exact ⟨0, 0, .inl ⟨⟨a, rfl, fun b off e => hq ⟨b, off, e⟩⟩, rfl, Nat.le_refl _⟩⟩
  cases h with
  | sl0 _ _ a => exact ⟨a, rfl, key a⟩
  | @sl _ _ _ b off _ _ ha hr hc hcap =>
    have := hcap rfl
    subst this
    cases l with
    | nil => exact ⟨_, rfl, key _⟩
    | cons x l => exact ⟨_, rfl, b, off + (x :: l).length * T.size (T.ety t), .inr ⟨off, (x :: l).length, rfl, Nat.le_refl _, rfl, .inr ⟨rfl, rfl, ⟨_, ha, hr⟩, .inl rfl⟩⟩⟩
theorem adopt_slot (K : PLaws P T) {X : Cx} {h : Heap C} {nx t : Nat} {lim : Lim} {env : Env C} {tmps : Array Value} {ty : C.Ty} {l : List (C.A ty)} (g : G T X h nx lim) (he : EnvOK T X nx lim env tmps) (hn : nx < lim.top) (hs : eget env t = .sl ty true l) :
    ∃ X', X'.w = X.w ∧ G T X' ((nx, .vec ty l.isEmpty l) :: h) (nx + 1) lim ∧ Step X nx lim X' ∧ EnvOK T X' (nx + 1) lim ((t, .vs nx l.length) :: env) tmps := by
  have h1 := (he t).1
  rw [hs] at h1
  have h2 := h1.one rfl
  obtain ⟨a, hv, b, lo, hV⟩ := empty_vec h2
  obtain ⟨X', w', ρ', g', s'⟩ := G.newRef K g hn (Nat.le_refl _) hV
  refine ⟨X', w', g', s', fun u => ?_⟩
  rw [eget_cons]
  by_cases hu : u = t
  · subst hu
    simp only [if_true]
    refine ⟨.inr ⟨rfl, ?_⟩, by simpa [D.refs] using g.new hn⟩
    rw [hv]
    refine .vs fun v e b' lo' hi' hq => ?_
    rw [ρ'] at hq
    simp only [Option.some.injEq, Loc.vec.injEq] at hq
    obtain ⟨rfl, _⟩ := hq
    rw [hv]; exact ⟨by simp [lenV], fun _ => rfl⟩
  · simp only [hu, if_false]
    exact (he u).step K.base s' (by omega)
def okPathB (T : Tab C) : TypeId → List Nat → Bool
  | _, [] => true
  | t, i :: p => match T.ty t with
    | .struct _ fs => Nat.blt i fs.length && okPathB T (fs.getD i 0) p
    | .arr n e _ => Nat.blt i n && okPathB T e p
    | _ => false
theorem okPathB_spec : ∀ (p : List Nat) (t : TypeId), okPathB T t p = true → okPath T t p := by
  intro p
  induction p with
  | nil => intro t _; trivial
  | cons i p ih =>
    intro t h
    simp only [okPathB] at h
    simp only [okPath]
    cases ht : T.ty t <;> simp only [ht, Bool.and_eq_true, Bool.false_eq_true] at h ⊢
    · exact ⟨by simpa [Nat.blt_eq] using h.1, ih _ h.2⟩
    · exact ⟨by simpa [Nat.blt_eq] using h.1, ih _ h.2⟩
theorem adopt_path (K : PLaws P T) {X : Cx} {h : Heap C} {nx id : Nat} {lim : Lim} {env : Env C} {tmps : Array Value} {ty : C.Ty} {l : List (C.A ty)} {u t' : TypeId} {d d' : D C} {p : List Nat} (g : G T X h nx lim) (he : EnvOK T X nx lim env tmps) (hn : nx < lim.top)
    (ho : h.get id = some (.var u d)) (hp : okPathB T u p = true) (hg : getPath T d p = some (.sl ty true l)) (hs : Ev.setPath T d p (.vs nx l.length) = some d') (ht : tyAt T u p = some t') (hf : fit T (.vs nx l.length : D C) (.inl t') = true) :
    ∃ X', X'.w = X.w ∧ G T X' (Heap.put id (.var u d') ((nx, .vec ty l.isEmpty l) :: h)) (nx + 1) lim ∧ Step X nx lim X' ∧ EnvOK T X' (nx + 1) lim env tmps := by
  obtain ⟨b0, c0, h1, h2, h3, h4⟩ := g.var id u d ho
  obtain ⟨c1, c2, c3, hc, hl, hr, _⟩ := h3.path K.base p (okPathB_spec p u hp) h4 hg
  have hne : id ≠ nx := fun e => by have := (g.nums id _ ho).1.1; omega
  have hone : ∃ v, c2 = [v] := by
    cases hr with
    | sl0 => exact ⟨_, rfl⟩
    | sl => exact ⟨_, rfl⟩
  obtain ⟨v, rfl⟩ := hone
  obtain ⟨a, hv, b, lo, hV⟩ := empty_vec hr
  obtain ⟨X', w', ρ', g', s'⟩ := G.newRef K g hn (Nat.le_refl _) hV
  have hvs : R T X' false (.vs nx l.length) [v] := by
    rw [hv]
    refine .vs fun v e b' lo' hi' hq => ?_
    rw [ρ'] at hq
    simp only [Option.some.injEq, Loc.vec.injEq] at hq
    obtain ⟨rfl, _⟩ := hq
    rw [hv]; exact ⟨by simp [lenV], fun _ => rfl⟩
  have hrefs : ∀ r ∈ d.refs, old nx lim r := (g.nums id _ ho).2
  have ho' : Heap.get id ((nx, .vec ty l.isEmpty l) :: h) = some (.var u d) := by rw [get_cons]; simp [hne, ho]
  obtain ⟨b1, c1', e1, e2, e3, e4⟩ := g'.var id u d ho'
  refine ⟨X', w', ?_, s', fun t => (he t).step K.base s' (by omega)⟩
  -- the object is seen otherwise; its cells are as they were
  have hs2 : (Heap.get id ((nx, .vec ty l.isEmpty l) :: h)).isSome = true := by rw [ho']; rfl
  obtain ⟨k1, k2, k3, q1, q2, q3, q4, q5⟩ := e3.setPath K.base p (okPathB_spec p u hp) e4 hs hvs ht hf
  obtain ⟨m1, m2, m3, n1, n2, n3, _⟩ := e3.path K.base p (okPathB_spec p u hp) e4 hg
  have hm2 : m2.length = 1 := by
    cases n3 with
    | sl0 => rfl
    | sl => rfl
  have hcc : c1'.toList = c0.toList := by
    have hw : X'.w.heap[b1]? = X.w.heap[b0]? := by
      have : X'.ρ id = X.ρ id ∨ True := .inr trivial
      rw [w']
      have hρ : Compat (X.ρ id) (X'.ρ id) := s'.ρ id (g.nums id _ ho).1
      rw [h1, e1] at hρ
      simp only [Compat, Loc.var.injEq] at hρ
      rw [hρ.1]
    rw [e2, h2] at hw
    simp only [Option.some.injEq, Obj.cells.injEq] at hw
    rw [hw.1]
  have heq : k1 ++ [v] ++ k3 = c1'.toList := by
    have a1 : k1 = c1 := by
      have : (k1 ++ k2 ++ k3).take (offAt T u p) = (c1 ++ [v] ++ c3).take (offAt T u p) := by rw [← q1, ← hc, hcc]
      rw [List.append_assoc, List.append_assoc, List.take_append_of_le_length (by omega), List.take_append_of_le_length (by omega), List.take_of_length_le (by omega), List.take_of_length_le (by omega)] at this
      exact this
    have a2 : k2 ++ k3 = [v] ++ c3 := by
      have : k1 ++ (k2 ++ k3) = c1 ++ ([v] ++ c3) := by rw [← List.append_assoc, ← List.append_assoc, ← q1, ← hc, hcc]
      rw [a1] at this
      exact List.append_cancel_left this
    have a3 : k3 = c3 := by
      simp only [List.length_singleton] at q3
      obtain ⟨y, rfl⟩ := List.length_eq_one_iff.1 q3
      simp at a2; exact a2.2
    rw [a1, a3, hcc, hc]
  rw [heq] at q4
  refine ⟨?_, ?_, ?_, ?_, ?_, g'.apart, g'.outer, g'.outs, g'.low⟩
  · intro j t e hj
    rw [get_put hs2] at hj
    by_cases hji : j = id
    · simp only [hji, if_true, Option.some.injEq, Ev.Obj.var.injEq] at hj
      obtain ⟨rfl, rfl⟩ := hj
      exact ⟨b1, c1', by rw [hji]; exact e1, e2, q4, q5⟩
    · simp only [hji, if_false] at hj; exact g'.var j t e hj
  · intro j t own l hj
    rw [get_put hs2] at hj
    by_cases hji : j = id
    · simp [hji] at hj
    · simp only [hji, if_false] at hj; exact g'.vec j t own l hj
  · intro j ck cv l hj
    rw [get_put hs2] at hj
    by_cases hji : j = id
    · simp [hji] at hj
    · simp only [hji, if_false] at hj; exact g'.map j ck cv l hj
  · intro j l hj
    rw [get_put hs2]
    by_cases hji : j = id
    · simp [hji]
    · simp only [hji, if_false]; exact g'.dom j l hj
  · intro j o hj
    rw [get_put hs2] at hj
    by_cases hji : j = id
    · simp only [hji, if_true, Option.some.injEq] at hj
      subst hj
      refine ⟨by rw [hji]; exact (g'.nums id _ ho').1, fun r hr => ?_⟩
      rcases refs_setPath K.base p hs r hr with h5 | h5
      · exact (hrefs r h5).mono (by omega)
      · simp only [D.refs, List.mem_singleton] at h5
        rw [h5]; exact g.new hn
    · simp only [hji, if_false] at hj; exact g'.nums j o hj
inductive Fnd where
  | slot (t i : Nat)
  | path (j : Nat) (p : List Nat)
def findP {α : Type} (T : Tab C) : List Fnd → Env C → List Nat → (Env C → List Nat → Pg C α) → Pg C α
  | [], env, ids, k => k env ids
  | .slot t i :: r, env, ids, k => match eget env t with
    | .sl ty true [] => .nw (.vec ty true []) fun id => findP T r ((t, .vs id 0) :: env) (ids ++ [id]) k
    | .sl ty true (x :: l) => .nw (.vec ty false (x :: l)) fun id => findP T r ((t, .vs id (x :: l).length) :: env) (ids ++ [id]) k
    | d => match d.refs[i]? with
      | some id => findP T r env (ids ++ [id]) k
      | none => .fail
  | .path j p :: r, env, ids, k => match ids[j]? with
    | none => .fail
    | some idj => .rd idj fun
      | .var u d => match getPath T d p with
        | some (.sl ty true []) => match tyAt T u p with
          | some t' => bif okPathB T u p && fit T (.vs 0 0 : D C) (.inl t') then .nw (.vec ty true []) fun id => match Ev.setPath T d p (.vs id 0) with
            | some d' => .wr idj (.var u d') (findP T r env (ids ++ [id]) k)
            | none => .fail
            else .fail
          | none => .fail
        | some (.sl ty true (x :: l)) => match tyAt T u p with
          | some t' => bif okPathB T u p && fit T (.vs 0 0 : D C) (.inl t') then .nw (.vec ty false (x :: l)) fun id => match Ev.setPath T d p (.vs id (x :: l).length) with
            | some d' => .wr idj (.var u d') (findP T r env (ids ++ [id]) k)
            | none => .fail
            else .fail
          | none => .fail
        | some x => match x.refs with
          | id :: _ => findP T r env (ids ++ [id]) k
          | [] => .fail
        | none => .fail
      | _ => .fail
theorem findP_ok (K : PLaws P T) {α : Type} {e : Pg.Lv} {a : α} {h' : Heap C} {nx' : Nat} {lim : Lim} (hlim : nx' ≤ lim.top) {k : Env C → List Nat → Pg C α} {tmps : Array Value} : ∀ (l : List Fnd) (X : Cx) (h : Heap C) (nx : Nat) (tr : Tr) (env : Env C) (ids : List Nat),
    G T X h nx lim → EnvOK T X nx lim env tmps → Ex e (findP T l env ids k) h nx a h' nx' tr →
    ∃ X1 h1 nx1 env1 ids1 tr1, X1.w = X.w ∧ G T X1 h1 nx1 lim ∧ Step X nx lim X1 ∧ nx ≤ nx1 ∧ EnvOK T X1 nx1 lim env1 tmps ∧ Ex e (k env1 ids1) h1 nx1 a h' nx' tr1 := by
  intro l
  induction l with
  | nil => intro X h nx tr env ids g he hx; exact ⟨X, h, nx, env, ids, tr, rfl, g, .refl _ _ _, Nat.le_refl _, he, hx⟩
  | cons f l ih =>
    intro X h nx tr env ids g he hx
    cases f with
    | slot t i =>
      simp only [findP] at hx
      split at hx
      · rename_i ty hq
        obtain ⟨t', hx, _⟩ := Ex.nw hx
        have hle := hx.le
        obtain ⟨X1, w1, g1, s1, e1⟩ := adopt_slot K g he (by omega) hq
        obtain ⟨X2, h2, n2, env2, ids2, tr2, w2, g2, s2, hn2, e2, hx2⟩ := ih X1 _ _ _ _ _ g1 e1 hx
        exact ⟨X2, h2, n2, env2, ids2, tr2, by rw [w2, w1], g2, s1.trans s2 (by omega), by omega, e2, hx2⟩
      · rename_i ty x l0 hq
        obtain ⟨t', hx, _⟩ := Ex.nw hx
        have hle := hx.le
        obtain ⟨X1, w1, g1, s1, e1⟩ := adopt_slot K g he (by omega) hq
        obtain ⟨X2, h2, n2, env2, ids2, tr2, w2, g2, s2, hn2, e2, hx2⟩ := ih X1 _ _ _ _ _ g1 e1 hx
        exact ⟨X2, h2, n2, env2, ids2, tr2, by rw [w2, w1], g2, s1.trans s2 (by omega), by omega, e2, hx2⟩
      · split at hx
        · exact ih X h nx tr env _ g he hx
        · exact (Ex.fail hx).elim
    | path j p =>
      simp only [findP] at hx
      split at hx
      · exact (Ex.fail hx).elim
      · rename_i idj hj
        obtain ⟨o, t', ho, hx, _⟩ := Ex.rd hx
        cases o with
        | vec _ _ _ => exact (Ex.fail hx).elim
        | map _ _ _ => exact (Ex.fail hx).elim
        | var u d =>
          simp only at hx
          split at hx
          · rename_i ty hq
            split at hx
            · rename_i t' ht
              cases hb : okPathB T u p && fit T (.vs 0 0 : D C) (.inl t') with
              | false => rw [hb] at hx; exact (Ex.fail hx).elim
              | true =>
                rw [hb] at hx
                simp only [cond_true] at hx
                simp only [Bool.and_eq_true] at hb
                obtain ⟨t1, hx, _⟩ := Ex.nw hx
                split at hx
                · rename_i d' hs
                  obtain ⟨o', t2, ho', hx, _⟩ := Ex.wr hx
                  have hle := hx.le
                  obtain ⟨X1, w1, g1, s1, e1⟩ := adopt_path K g he (by omega) ho hb.1 hq hs ht (by simpa [fit] using hb.2)
                  obtain ⟨X2, h2, n2, env2, ids2, tr2, w2, g2, s2, hn2, e2, hx2⟩ := ih X1 _ _ _ _ _ g1 e1 hx
                  exact ⟨X2, h2, n2, env2, ids2, tr2, by rw [w2, w1], g2, s1.trans s2 (by omega), by omega, e2, hx2⟩
                · exact (Ex.fail hx).elim
            · exact (Ex.fail hx).elim
          · rename_i ty x l0 hq
            split at hx
            · rename_i t' ht
              cases hb : okPathB T u p && fit T (.vs 0 0 : D C) (.inl t') with
              | false => rw [hb] at hx; exact (Ex.fail hx).elim
              | true =>
                rw [hb] at hx
                simp only [cond_true] at hx
                simp only [Bool.and_eq_true] at hb
                obtain ⟨t1, hx, _⟩ := Ex.nw hx
                split at hx
                · rename_i d' hs
                  obtain ⟨o', t2, ho', hx, _⟩ := Ex.wr hx
                  have hle := hx.le
                  obtain ⟨X1, w1, g1, s1, e1⟩ := adopt_path K g he (by omega) ho hb.1 hq hs ht (by simpa [fit] using hb.2)
                  obtain ⟨X2, h2, n2, env2, ids2, tr2, w2, g2, s2, hn2, e2, hx2⟩ := ih X1 _ _ _ _ _ g1 e1 hx
                  exact ⟨X2, h2, n2, env2, ids2, tr2, by rw [w2, w1], g2, s1.trans s2 (by omega), by omega, e2, hx2⟩
                · exact (Ex.fail hx).elim
            · exact (Ex.fail hx).elim
          · split at hx
            · exact ih X h nx _ env _ g he hx
            · exact (Ex.fail hx).elim
          · exact (Ex.fail hx).elim
def rdAll {α : Type} : List Nat → (List (Obj C) → Pg C α) → Pg C α
  | [], k => k []
  | id :: r, k => .rd id fun o => rdAll r fun os => k (o :: os)
theorem rdAll_ok {α : Type} {e : Pg.Lv} {a : α} {h h' : Heap C} {nx nx' : Nat} : ∀ (ids : List Nat) (k : List (Obj C) → Pg C α) (tr : Tr), Ex e (rdAll ids k) h nx a h' nx' tr → ∃ os tr1, os.length = ids.length ∧ (∀ (j id : Nat) (o : Obj C), ids[j]? = some id → os[j]? = some o → h.get id = some o) ∧ Ex e (k os) h nx a h' nx' tr1
  | [], k, tr, hx => ⟨[], tr, rfl, by simp, hx⟩
  | id :: r, k, tr, hx => by
    obtain ⟨o, t', ho, hx, _⟩ := Ex.rd hx
    obtain ⟨os, tr1, h1, h2, h3⟩ := rdAll_ok r _ _ hx
    refine ⟨o :: os, tr1, by simp [h1], fun j i o' hj ho' => ?_, h3⟩
    cases j with
    | zero => simp at hj ho'; rw [← hj, ← ho']; exact ho
    | succ j => exact h2 j i o' (by simpa using hj) (by simpa using ho')
def wrAll {α : Type} : List Nat → List (Obj C) → Pg C α → Pg C α
  | [], [], k => k
  | id :: r, o :: os, k => .wr id o (wrAll r os k)
  | _, _, _ => .fail
theorem wrAll_ok {α : Type} {e : Pg.Lv} {a : α} {h' : Heap C} {nx nx' : Nat} {k : Pg C α} : ∀ (ids : List Nat) (os : List (Obj C)) (h : Heap C) (tr : Tr), ids.Nodup → Ex e (wrAll ids os k) h nx a h' nx' tr →
    ∃ h1 tr1, os.length = ids.length ∧ (∀ (j id : Nat) (o : Obj C), ids[j]? = some id → os[j]? = some o → h1.get id = some o) ∧ (∀ id, id ∉ ids → h1.get id = h.get id) ∧ Ex e k h1 nx a h' nx' tr1
  | [], [], h, tr, _, hx => ⟨h, tr, rfl, by simp, fun _ _ => rfl, hx⟩
  | id :: r, o :: os, h, tr, hn, hx => by
    obtain ⟨o', t', ho, hx, _⟩ := Ex.wr hx
    have hs : (h.get id).isSome = true := by rw [ho]; rfl
    obtain ⟨hn1, hn2⟩ := List.nodup_cons.1 hn
    obtain ⟨h1, tr1, q1, q2, q3, q4⟩ := wrAll_ok r os _ _ hn2 hx
    refine ⟨h1, tr1, by simp [q1], fun j i p hj hp => ?_, fun i hi => ?_, q4⟩
    · cases j with
      | zero =>
        simp at hj hp
        subst hj; subst hp
        rw [q3 _ hn1, get_put hs]; simp
      | succ j => exact q2 j i p (by simpa using hj) (by simpa using hp)
    · simp only [List.mem_cons, not_or] at hi
      rw [q3 i hi.2, get_put hs]; simp [hi.1]
  | [], _ :: _, _, _, _, hx => (Ex.fail hx).elim
  | _ :: _, [], _, _, _, hx => (Ex.fail hx).elim
def idx : List Nat → Nat → Nat
  | [], _ => 0
  | a :: l, n => bif Nat.beq a n then 0 else idx l n + 1
theorem idx_spec : ∀ (l : List Nat) (n : Nat), n ∈ l → l[idx l n]? = some n
  | [], n, h => by simp at h
  | a :: l, n, h => by
    rw [idx]
    cases hb : Nat.beq a n with
    | true => simp [Nat.eq_of_beq_eq_true hb]
    | false =>
      have hne := Nat.ne_of_beq_eq_false hb
      simp only [List.mem_cons] at h
      rcases h with h | h
      · exact absurd h.symm hne
      · simpa using idx_spec l n h
def freshN (n : Nat) : List Nat → Bool
  | [] => true
  | a :: l => !(Nat.beq a n) && freshN n l
theorem freshN_spec {n : Nat} : ∀ {l : List Nat}, freshN n l = true → n ∉ l
  | [], _ => by simp
  | a :: l, h => by
    simp only [freshN, Bool.and_eq_true, Bool.not_eq_true'] at h
    simp only [List.mem_cons, not_or]
    exact ⟨fun e => Nat.ne_of_beq_eq_false h.1 e.symm, freshN_spec h.2⟩
def nodupB : List Nat → Bool
  | [] => true
  | a :: l => freshN a l && nodupB l
theorem nodupB_spec : ∀ {l : List Nat}, nodupB l = true → l.Nodup
  | [], _ => List.nodup_nil
  | a :: l, h => by
    simp only [nodupB, Bool.and_eq_true] at h
    exact List.nodup_cons.2 ⟨freshN_spec h.1, nodupB_spec h.2⟩
def inB (ids l : List Nat) : Bool := l.all fun r => ids.any (Nat.beq r)
theorem inB_spec {ids l : List Nat} (h : inB ids l = true) : ∀ r ∈ l, r ∈ ids := by
  intro r hr
  have := List.all_eq_true.1 h r hr
  obtain ⟨x, hx, e⟩ := List.any_eq_true.1 this
  rw [Nat.eq_of_beq_eq_true e]; exact hx
inductive RT (C : Cdc) where
  | fail
  | leaf (x : Ev.X) (env : Env C) (os : List (Obj C))
  | br (b : Bool) (l r : RT C)
def RT.val : RT C → Option ((Ev.X × Env C) × List (Obj C))
  | .fail => none
  | .leaf x env os => some ((x, env), os)
  | .br b l r => bif b then l.val else r.val
def RT.pg (ids : List Nat) : RT C → Pg C (Ev.X × Env C)
  | .fail => .fail
  | .leaf x env os => wrAll ids (os.map (Obj.ren fun j => ids.getD j 0)) (.ret (x, renE (fun j => ids.getD j 0) env))
  | .br b l r => .br b (l.pg ids) (r.pg ids)
theorem RT.pg_ok {e : Pg.Lv} {a : Ev.X × Env C} {h h' : Heap C} {nx nx' : Nat} {ids : List Nat} : ∀ (t : RT C) (tr : Tr), Ex e (t.pg ids) h nx a h' nx' tr → ∃ x env os, t.val = some ((x, env), os) ∧ Ex e (wrAll ids (os.map (Obj.ren fun j => ids.getD j 0)) (.ret (x, renE (fun j => ids.getD j 0) env))) h nx a h' nx' tr
  | .fail, tr, hx => (Ex.fail hx).elim
  | .leaf x env os, tr, hx => ⟨x, env, os, rfl, hx⟩
  | .br b l r, tr, hx => by
    rcases Ex.br hx with ⟨rfl, hx⟩ | ⟨rfl, hx⟩
    · exact RT.pg_ok l tr hx
    · exact RT.pg_ok r tr hx
def sumO (T : Tab C) (fs : List Fnd) (slots : List Nat) (res : Env C → List (Obj C) → RT C) (env : Env C) : Pg C (Ev.X × Env C) :=
  findP T fs env [] fun env ids => bif nodupB ids then rdAll ids fun os =>
    bif inB ids (slots.flatMap fun t => (eget env t).refs) && inB ids (os.flatMap Obj.refs) then
      (res (slots.map fun t => (t, (eget env t).ren (idx ids))) (os.map (Obj.ren (idx ids)))).pg ids
    else .fail
  else .fail
theorem Obj.ren_ren (f g : Nat → Nat) (o : Obj C) (h : ∀ id ∈ o.refs, g (f id) = id) : (o.ren f).ren g = o := by
  cases o with
  | var t d => simp only [Obj.ren]; rw [D.ren_ren f g d h]
  | vec t own l => rfl
  | map _ _ _ => rfl
theorem loop_obj (K : PLaws P T) (F : FLaws P T Φ) {g key : Nat} {fs : List Fnd} {slots : List Nat} {res : Env C → List (Obj C) → RT C} {σ : Type} {S : LoopO C σ}
    (hr : ∀ fn body b, Φ.fn g = some fn → fn.body = some body → b ∈ loops body → firstRegion b = key → RoundO T Φ g b S)
    (hres : ∀ env0 os x env' os', (res env0 os).val = some ((x, env'), os') → ∃ q, S.Inv q ∧ (∀ p ∈ S.canon q, p ∈ env0) ∧ os = S.objs q ∧ S.fin q = (x, env') ∧ S.fobjs q = os') : LoopLaw P T Φ g key (sumO T fs slots res) := by
  intro fn body b hf hb hbl hkey B hB X h nx lim e env x env' h' nx' tr a Q gg he hlim hsz hx hk
  obtain ⟨f1, f2, f3⟩ := F.fn g fn hf
  obtain ⟨c1, c2⟩ := codeB_loop body (f3 body hb) b hbl
  have hround := hr fn body b hf hb hbl hkey
  obtain ⟨X1, h1, nx1, env1, ids, tr1, w1, g1, s1, hn1, e1, hx1⟩ := findP_ok K hlim fs X h nx tr env [] gg he hx
  cases hnd : nodupB ids with
  | false => rw [hnd] at hx1; exact (Ex.fail hx1).elim
  | true =>
  rw [hnd] at hx1
  simp only [cond_true] at hx1
  have hnodup := nodupB_spec hnd
  obtain ⟨os, tr2, hlen, hos, hx2⟩ := rdAll_ok ids _ _ hx1
  cases hin : inB ids (slots.flatMap fun t => (eget env1 t).refs) && inB ids (os.flatMap Obj.refs) with
  | false => rw [hin] at hx2; exact (Ex.fail hx2).elim
  | true =>
  rw [hin] at hx2
  simp only [cond_true] at hx2
  simp only [Bool.and_eq_true] at hin
  have hin1 := inB_spec hin.1
  have hin2 := inB_spec hin.2
  obtain ⟨xx, ee, os', hq, hx3⟩ := RT.pg_ok _ _ hx2
  · · obtain ⟨q, hI, hsub, hobjs, hfin, hfo⟩ := hres _ _ _ _ _ hq
      obtain ⟨hr1, hr2, _⟩ := hround q hI
      obtain ⟨h2, tr3, hl2, hw1, hw2, hx4⟩ := wrAll_ok ids _ h1 _ hnodup hx3
      obtain ⟨hxx, eh, en, _⟩ := Ex.ret hx4
      obtain ⟨rfl, rfl⟩ := Prod.mk.inj hxx
      subst eh
      subst en
      let f : Nat → Nat := fun j => ids.getD j 0
      have hfj : ∀ j, j < ids.length → ids[j]? = some (f j) := fun j hj => by simp [f, hj]
      have hk0 : ids.length = S.k := by rw [← hr1.1, ← hobjs]; simp [hlen]
      have hff : ∀ r, r ∈ ids → f (idx ids r) = r := fun r hr => by
        have := idx_spec ids r hr
        simp only [f, List.getD_eq_getElem?_getD, this, Option.getD_some]
      have hlenO : (S.objs q).length = ids.length := by rw [hr1.1, hk0]
      have part : Part h1 (S.objs q) f := by
        refine ⟨fun j o ho => ?_, fun i j hi hj hij => ?_, fun o ho r hr => by rw [hr1.1]; exact hr1.2.2 o ho r hr⟩
        · rw [← hobjs, List.getElem?_map] at ho
          cases hoj : os[j]? with
          | none => simp [hoj] at ho
          | some o0 =>
            simp only [hoj, Option.map_some, Option.some.injEq] at ho
            have hj : j < ids.length := by rw [← hlen]; exact (List.getElem?_eq_some_iff.1 hoj).1
            rw [hos j (f j) o0 (hfj j hj) hoj, ← ho, Obj.ren_ren]
            intro id hid
            exact hff id (hin2 id (List.mem_flatMap.2 ⟨o0, List.mem_of_getElem? hoj, hid⟩))
        · rw [hlenO] at hi hj
          have := (List.getElem?_inj hi hnodup (j := j)).1 (by rw [hfj i hi, hfj j hj]; simp only [f] at hij ⊢; rw [hij])
          exact this
      have g2 := Part.ctx K.base g1 part (S.objs q).length
      have e2 : EnvOK T (X1.part (S.objs q).length f) (S.objs q).length (lim0 (S.objs q).length) (S.canon q) a.tmps := by
        refine EnvOK.part K.base e1 part.inj (fun p hp => ?_) (fun p hp r hr => by rw [hr1.1]; exact hr1.2.1 p hp r hr)
        have := hsub p hp
        simp only [List.mem_map] at this
        obtain ⟨t, ht, rfl⟩ := this
        simp only
        rw [D.ren_ren]
        intro id hid
        exact hff id (hin1 id (List.mem_flatMap.2 ⟨t, ht, hid⟩))
      rw [hr1.1] at g2 e2
      rw [← w1]
      show (Code.loop b).wp P Q a (X1.part S.k f).w
      refine wp_loop_rounds (S.μ q + 1) (rounds_obj K F hround hf hb c1 c2 hB (S.μ q + 1) q (X1.part S.k f) a hI (by omega) g2 e2 hsz fun a' X' g' s' e' hs' hd' kp' => ?_)
      rw [hfo] at g'
      rw [hfin] at e'
      have hlen' : os'.length = (S.objs q).length := by rw [← hfo, hr2.1, hr1.1]
      have hrefs' : ∀ o ∈ os', ∀ r ∈ Obj.refs o, r < (S.objs q).length := fun o ho r hr => by rw [hr1.1]; exact hr2.2.2 o (by rw [hfo]; exact ho) r hr
      obtain ⟨X2, w2, g3, s3, hρ, hB2⟩ := Part.back K.base g1 part hlen' hrefs' (X1 := X') (lim1 := lim0 S.k) (h' := h') (by rw [hr1.1]; exact g') (by rw [hr1.1]; exact s') (fun j o hj => by
          have hlt : j < ids.length := by rw [← hlenO, ← hlen']; exact (List.getElem?_eq_some_iff.1 hj).1
          exact hw1 j (f j) _ (hfj j hlt) (by rw [List.getElem?_map, hj]; rfl)) (fun id hid => by
          refine hw2 id fun hm => ?_
          obtain ⟨j, hj, hjj⟩ := List.getElem_of_mem hm
          refine hid j (by rw [hlenO]; exact hj) ?_
          simp [f, hj, hjj])
      have hold : ∀ j, j < S.k → old nx' lim (f j) := fun j hj => by
        have hj' : j < (S.objs q).length := by rw [hr1.1]; exact hj
        exact (g1.nums _ _ (part.at' j (S.objs q)[j] (by simp [hj']))).1
      have e3 := EnvOK.back (nx := nx') (lim := lim) (f := f) K.base e' (fun p hp r hr => hr2.2.1 p (by rw [hfin]; exact hp) r hr) (fun j hj => hρ j (by rw [hr1.1]; exact hj)) ⟨hB2, fun l r h1 _ => ⟨by rw [w2]; exact h1, fun o ho => g3.mine_loop ho (by rw [w2]; exact h1)⟩⟩ hold
      have := hk a' X2 g3 (s1.trans s3 hn1) e3 hs' (hd'.of_g g3 (by show X.w.heap.size ≤ X1.w.heap.size; rw [w1]; exact Nat.le_refl _) w2) kp'
      rw [w2] at this
      rw [hfin]
      exact this
def getsL : Nat → Nat → Heap C → List (Option (Obj C))
  | _, 0, _ => []
  | n, k + 1, h => h.get n :: getsL (n + 1) k h
theorem getsL_get : ∀ (k n : Nat) (h : Heap C) (os : List (Obj C)), getsL n k h = os.map some → ∀ j, j < k → h.get (n + j) = os[j]?
  | 0, _, _, _, _, j, hj => by omega
  | k + 1, n, h, [], e, j, hj => by simp [getsL] at e
  | k + 1, n, h, o :: os, e, j, hj => by
    simp only [getsL, List.map_cons, List.cons.injEq] at e
    cases j with
    | zero => simpa using e.1
    | succ j =>
      have := getsL_get k (n + 1) h os e.2 j (by omega)
      rw [show n + (j + 1) = n + 1 + j by omega, this]; simp
def movP (T : Tab C) (env : Env C) (h : Heap C) : List Fnd → List Nat → Option (List Nat)
  | [], ids => some ids
  | .slot t i :: r, ids => match (eget env t).refs[i]? with
    | some id => movP T env h r (ids ++ [id])
    | none => none
  | .path j p :: r, ids => match ids[j]? with
    | some idj => match h.get idj with
      | some (.var _ d) => match getPath T d p with
        | some x => match x.refs with
          | id :: _ => movP T env h r (ids ++ [id])
          | [] => none
        | none => none
      | _ => none
    | none => none
def rangeB : Nat → List Nat → Bool
  | _, [] => true
  | n, i :: l => Nat.beq i n && rangeB (n + 1) l
def objsL (h : Heap C) (g : Nat → Nat) : List Nat → Option (List (Obj C))
  | [] => some []
  | i :: l => match h.get i, objsL h g l with
    | some o, some r => some (o.ren g :: r)
    | _, _ => none
def growB {α : Type} (k : Option α) : Nat → List Nat → List (Obj C) → List (Obj C) → Option α
  | _, [], _, _ => k
  | n, i :: l, o :: os, o' :: os' => bif Nat.beq i n then growB k (n + 1) l os os' else (match o, o' with
      | .vec t _ x, .vec t' _ x' => bif decide (t' = t) then (bif Nat.blt x.length x'.length then growB k (n + 1) l os os' else none) else none
      | _, _ => none)
  | _, _, _, _ => none
def settle (T : Tab C) (fs : List Fnd) (k : Nat) (kc : List Nat) (os : List (Obj C)) (env : Env C) (h : Heap C) : Option ((Ev.X × Env C) × List (Option (Obj C))) :=
  match movP T env h fs [] with
  | none => some ((.normal, sel kc env), getsL 0 k h)
  | some ids => bif rangeB 0 ids then some ((.normal, sel kc env), getsL 0 k h) else
    bif nodupB ids && Nat.beq ids.length k && inB ids ((sel kc env).flatMap fun p => p.2.refs) && inB ids (ids.flatMap fun i => match h.get i with | some o => o.refs | none => []) then (match objsL h (idx ids) ids with
      | some os' => growB (some ((.normal, renE (idx ids) (sel kc env)), os'.map some)) 0 ids os os'
      | none => none) else none
def rndO (T : Tab C) (Φ : Fns C) (g key n k : Nat) (kc kf : List Nat) (fs : List Fnd) (env : Env C) (os : List (Obj C)) : Option ((Ev.X × Env C) × List (Option (Obj C))) := (evC T Φ n g (bodyAt Φ g key) env).run (0, 0) (hpOf 0 os) k [] fun a h _ _ => match a.1 with
  | .normal => settle T fs k kc os a.2 h
  | x => some ((x, sel kf a.2), getsL 0 k h)
theorem growB_some {α : Type} {k : Option α} {a : α} : ∀ (l : List Nat) (n : Nat) (os os' : List (Obj C)), growB k n l os os' = some a → k = some a ∧ ∀ j, j < l.length → l.getD j 0 = n + j ∨ ∃ t own x own' x', os[j]? = some (.vec t own x) ∧ os'[j]? = some (.vec t own' x') ∧ x.length < x'.length
  | [], n, os, os', h => ⟨by simpa [growB] using h, fun j hj => by simp at hj⟩
  | i :: l, n, [], _, h => by simp [growB] at h
  | i :: l, n, o :: os, [], h => by simp [growB] at h
  | i :: l, n, o :: os, o' :: os', h => by
    simp only [growB] at h
    have step : growB k (n + 1) l os os' = some a → (i = n ∨ ∃ t own x own' x', o = .vec t own x ∧ o' = .vec t own' x' ∧ x.length < x'.length) → k = some a ∧ ∀ j, j < (i :: l).length → (i :: l).getD j 0 = n + j ∨ ∃ t own x own' x', (o :: os)[j]? = some (.vec t own x) ∧ (o' :: os')[j]? = some (.vec t own' x') ∧ x.length < x'.length := by
      intro h1 h2
      obtain ⟨h3, h4⟩ := growB_some l (n + 1) os os' h1
      refine ⟨h3, fun j hj => ?_⟩
      cases j with
      | zero => simpa using h2
      | succ j =>
        have := h4 j (by simpa using hj)
        simp only [List.getD_cons_succ, List.getElem?_cons_succ]
        rcases this with h5 | h5
        · left; omega
        · exact .inr h5
    cases hb : Nat.beq i n with
    | true => rw [hb] at h; exact step h (.inl (Nat.eq_of_beq_eq_true hb))
    | false =>
      rw [hb] at h
      simp only [cond_false] at h
      cases o with
      | var t d => simp at h
      | map _ _ _ => simp at h
      | vec t own x =>
        cases o' with
        | var t d => simp at h
        | map _ _ _ => simp at h
        | vec t' own' x' =>
          simp only at h
          cases ht : decide (t' = t) with
          | false => rw [ht] at h; cases h
          | true =>
            rw [ht] at h
            have ht : t' = t := by simpa using ht
            subst ht
            cases hl : Nat.blt x.length x'.length with
            | false => rw [hl] at h; cases h
            | true =>
              rw [hl] at h
              exact step h (.inr ⟨t', own, x, own', x', rfl, rfl, by simpa [Nat.blt_eq] using hl⟩)
theorem objsL_some {h : Heap C} {g : Nat → Nat} : ∀ (l : List Nat) (os : List (Obj C)), objsL h g l = some os → os.length = l.length ∧ ∀ (j i : Nat), l[j]? = some i → ∃ o, h.get i = some o ∧ os[j]? = some (o.ren g)
  | [], os, e => by simp [objsL] at e; subst e; simp
  | i :: l, os, e => by
    simp only [objsL] at e
    cases h1 : h.get i with
    | none => simp [h1] at e
    | some o =>
      cases h2 : objsL h g l with
      | none => simp [h1, h2] at e
      | some r =>
        simp only [h1, h2, Option.some.injEq] at e
        subst e
        obtain ⟨a1, a2⟩ := objsL_some l r h2
        refine ⟨by simp [a1], fun j i' hj => ?_⟩
        cases j with
        | zero => simp at hj; subst hj; exact ⟨o, h1, rfl⟩
        | succ j => exact a2 j i' (by simpa using hj)
def LedO {σ : Type} (S : LoopO C σ) (s : σ) (r : (Ev.X × Env C) × List (Option (Obj C))) : Prop :=
  (r.1.1 = .normal ∧ ∃ s', S.Inv s' ∧ S.μ s' < S.μ s ∧ S.fin s' = S.fin s ∧ S.fobjs s' = S.fobjs s ∧ r.1.2 = S.canon s' ∧ r.2 = (S.objs s').map some) ∨ (r.1.1 ≠ .normal ∧ r.1 = S.fin s ∧ r.2 = (S.fobjs s).map some)
theorem sel_get : ∀ (l : List Nat) (env : Env C) (p : Nat × D C), p ∈ sel l env → eget env p.1 = p.2 := fun l env p hp => sel_sub l env p hp
theorem settle_some {fs : List Fnd} {k : Nat} {kc : List Nat} {os : List (Obj C)} {env : Env C} {h : Heap C} {r : (Ev.X × Env C) × List (Option (Obj C))} (hr : settle T fs k kc os env h = some r) (hos : os.length = k) :
    (r = ((.normal, sel kc env), getsL 0 k h)) ∨ ∃ env0 os', r = ((.normal, env0), os'.map some) ∧ ∃ f, (∀ p ∈ env0, eget env p.1 = p.2.ren f) ∧ (os'.length = k ∧ (∀ j o, os'[j]? = some o → h.get (f j) = some (o.ren f)) ∧ (∀ i j, i < os'.length → j < os'.length → f i = f j → i = j)) ∧ Grow os os' f := by
  unfold settle at hr
  cases hm : movP T env h fs [] with
  | none => rw [hm] at hr; simp only [Option.some.injEq] at hr; exact .inl hr.symm
  | some ids =>
    rw [hm] at hr
    simp only at hr
    cases hb : rangeB 0 ids with
    | true => rw [hb] at hr; simp only [cond_true, Option.some.injEq] at hr; exact .inl hr.symm
    | false =>
      rw [hb] at hr
      simp only [cond_false] at hr
      cases hc : nodupB ids && Nat.beq ids.length k && inB ids ((sel kc env).flatMap fun p => p.2.refs) && inB ids (ids.flatMap fun i => match h.get i with | some o => o.refs | none => []) with
      | false => rw [hc] at hr; cases hr
      | true =>
        rw [hc] at hr
        simp only [cond_true] at hr
        simp only [Bool.and_eq_true] at hc
        obtain ⟨⟨⟨c1, c2⟩, c3⟩, c4⟩ := hc
        have c1 := nodupB_spec c1
        have c2 := Nat.eq_of_beq_eq_true c2
        have c3 := inB_spec c3
        have c4 := inB_spec c4
        cases ho : objsL h (idx ids) ids with
        | none => rw [ho] at hr; cases hr
        | some os' =>
          rw [ho] at hr
          simp only at hr
          obtain ⟨q1, q2⟩ := growB_some _ _ _ _ hr
          simp only [Option.some.injEq] at q1
          obtain ⟨o1, o2⟩ := objsL_some _ _ ho
          have hff : ∀ x, x ∈ ids → ids.getD (idx ids x) 0 = x := fun x hx => by
            have := idx_spec ids x hx
            simp only [List.getD_eq_getElem?_getD, this, Option.getD_some]
          refine .inr ⟨_, os', q1.symm, fun j => ids.getD j 0, fun p hp => ?_, ⟨by rw [o1, c2], fun j o hj => ?_, fun i j hi hj hij => ?_⟩, fun j hj => ?_⟩
          · simp only [renE, List.mem_map] at hp
            obtain ⟨p0, hp0, rfl⟩ := hp
            simp only
            rw [sel_get kc env p0 hp0, D.ren_ren]
            intro id hid
            exact hff id (c3 id (List.mem_flatMap.2 ⟨p0, hp0, hid⟩))
          · have hjl : j < ids.length := by rw [← o1]; exact (List.getElem?_eq_some_iff.1 hj).1
            obtain ⟨o0, a1, a2⟩ := o2 j (ids.getD j 0) (by simp [hjl])
            rw [hj] at a2
            simp only [Option.some.injEq] at a2
            rw [a1, a2, Obj.ren_ren]
            intro id hid
            exact hff id (c4 id (List.mem_flatMap.2 ⟨ids.getD j 0, by rw [List.getD_eq_getElem?_getD]; simp [hjl], by rw [a1]; exact hid⟩))
          · rw [o1] at hi hj
            exact (List.getElem?_inj hi c1 (j := j)).1 (by
              simp only [List.getD_eq_getElem?_getD] at hij
              simp only [hi, hj, List.getElem?_eq_getElem, Option.getD_some] at hij ⊢
              rw [hij])
          · have := q2 j (by rw [c2, ← hos]; exact hj)
            simpa using this
theorem FLaws.addRoundsO (K : PLaws P T) (F : FLaws P T Φ) {g key : Nat} (hkeys : keysB (loopsOf Φ g) = true) {σ : Type} (S : LoopO C σ) (n : Nat) (kc kf : List Nat) (fs0 : List Fnd) (fs : List Fnd) (slots : List Nat) (res : Env C → List (Obj C) → RT C)
    (hr : ∀ q, S.Inv q → RefsOK S.k (S.canon q) (S.objs q) ∧ RefsOK S.k (S.fin q).2 (S.fobjs q) ∧ Leaf (rndO T Φ g key n S.k kc kf fs0 (S.canon q) (S.objs q)) (LedO S q))
    (hres : ∀ env0 os x env' os', (res env0 os).val = some ((x, env'), os') → ∃ q, S.Inv q ∧ (∀ p ∈ S.canon q, p ∈ env0) ∧ os = S.objs q ∧ S.fin q = (x, env') ∧ S.fobjs q = os') : FLaws P T (Φ.addLoop g key (sumO T fs slots res)) := by
  refine F.addLoop (loop_obj K F (S := S) (fun fn body b hf hb hm hkey q hI => ?_) hres)
  obtain ⟨h1, h2, r, h3, h4⟩ := hr q hI
  rw [rndO, bodyAt_eq hkeys hf hb hm hkey] at h3
  obtain ⟨⟨x, env'⟩, h', nx', tr, h5, h6⟩ := Pg.run_some h3
  refine ⟨h1, h2, n, x, env', h', nx', tr, h5, ?_⟩
  cases x with
  | normal =>
    simp only at h6
    rcases settle_some h6 h1.1 with hs | ⟨env0, os', hs, f, f1, ⟨f2, f3, f4⟩, f5⟩
    · subst hs
      rcases h4 with ⟨h4, s', a1, a2, a3, a3b, a4, a5⟩ | ⟨h4, h7, h8⟩
      · have hg := getsL_get S.k 0 h' _ a5
        simp only [Nat.zero_add] at hg
        exact .inl ⟨rfl, s', a1, a2, a3, a3b, by rw [← a4]; exact sel_sub _ _, hg⟩
      · exact (h4 rfl).elim
    · subst hs
      rcases h4 with ⟨h4, s', a1, a2, a3, a3b, a4, a5⟩ | ⟨h4, h7, h8⟩
      · simp only at a4 a5
        have a5 : os' = S.objs s' := List.map_inj_right (fun _ _ h => Option.some.inj h) |>.1 a5
        subst a4
        subst a5
        obtain ⟨b1, _⟩ := hr s' a1
        exact .inr (.inl ⟨rfl, s', f, a1, a2, a3, a3b, f1, ⟨f3, f4, by rw [b1.1]; exact b1.2.2⟩, f5⟩)
      · exact (h4 rfl).elim
  | exit id =>
    simp only [Option.some.injEq] at h6
    subst h6
    rcases h4 with ⟨h4, _⟩ | ⟨h4, h7, h8⟩
    · cases h4
    · have hg := getsL_get S.k 0 h' _ h8
      simp only [Nat.zero_add] at hg
      exact .inr (.inr ⟨by simp, by rw [← h7], by rw [← h7]; exact sel_sub _ _, hg⟩)
  | ret =>
    simp only [Option.some.injEq] at h6
    subst h6
    rcases h4 with ⟨h4, _⟩ | ⟨h4, h7, h8⟩
    · cases h4
    · have hg := getsL_get S.k 0 h' _ h8
      simp only [Nat.zero_add] at hg
      exact .inr (.inr ⟨by simp, by rw [← h7], by rw [← h7]; exact sel_sub _ _, hg⟩)
end
section
variable {C : Cdc} {P : Program} {T : Tab C} {Φ : Fns C}
open Pg (Ex)
structure LoopR (C : Cdc) (σ : Type) where
  k : Nat
  canon : σ → Env C
  objs : σ → List (Obj C)
  fin : σ → RT C
  Inv : σ → Prop
  μ : σ → Nat
def LedR {σ : Type} (S : LoopR C σ) (s : σ) (r : (Ev.X × Env C) × List (Option (Obj C))) : Prop :=
  (r.1.1 = .normal ∧ ∃ s', S.Inv s' ∧ S.μ s' < S.μ s ∧ (S.fin s').val = (S.fin s).val ∧ r.1.2 = S.canon s' ∧ r.2 = (S.objs s').map some) ∨ (r.1.1 ≠ .normal ∧ ∃ os, (S.fin s).val = some (r.1, os) ∧ r.2 = os.map some)
def RT.refsOK (k : Nat) : RT C → Prop
  | .fail => False
  | .leaf _ env os => RefsOK k env os
  | .br _ l r => l.refsOK k ∧ r.refsOK k
theorem RT.refsOK_val {k : Nat} : ∀ {t : RT C}, t.refsOK k → ∃ x env os, t.val = some ((x, env), os) ∧ RefsOK k env os
  | .leaf x env os, h => ⟨x, env, os, rfl, h⟩
  | .br b l r, h => by
    cases b with
    | true => exact RT.refsOK_val (t := l) h.1
    | false => exact RT.refsOK_val (t := r) h.2
def LoopR.toO {σ : Type} (S : LoopR C σ) : LoopO C σ where
  k := S.k
  canon := S.canon
  objs := S.objs
  fin q := match (S.fin q).val with
    | some r => r.1
    | none => (.ret, [])
  fobjs q := match (S.fin q).val with
    | some r => r.2
    | none => []
  Inv := S.Inv
  μ := S.μ
def resR {σ : Type} (S : LoopR C σ) (d : Env C → List (Obj C) → Option (Bool × σ)) (env : Env C) (os : List (Obj C)) : RT C := match d env os with
  | some (b, q) => .br b (S.fin q) .fail
  | none => .fail
def sumR (T : Tab C) (fs : List Fnd) (slots : List Nat) {σ : Type} (S : LoopR C σ) (d : Env C → List (Obj C) → Option (Bool × σ)) : Env C → Pg C (Ev.X × Env C) := sumO T fs slots (resR S d)
theorem FLaws.addRoundsR (K : PLaws P T) (F : FLaws P T Φ) {g key : Nat} (hkeys : keysB (loopsOf Φ g) = true) {σ : Type} (S : LoopR C σ) (n : Nat) (kc kf : List Nat) (fs : List Fnd) (slots : List Nat) (d : Env C → List (Obj C) → Option (Bool × σ))
    (hr : ∀ q, S.Inv q → RefsOK S.k (S.canon q) (S.objs q) ∧ (S.fin q).refsOK S.k ∧ Leaf (rndO T Φ g key n S.k kc kf fs (S.canon q) (S.objs q)) (LedR S q))
    (hd : ∀ env os b q, d env os = some (b, q) → b = true → S.Inv q ∧ S.canon q = env ∧ S.objs q = os) : FLaws P T (Φ.addLoop g key (sumR T fs slots S d)) := by
  refine F.addRoundsO K hkeys S.toO n kc kf fs fs slots (resR S d) (fun q hI => ?_) ?_
  · obtain ⟨h1, h2, r, h3, h4⟩ := hr q hI
    obtain ⟨x, env, os, hv, hok⟩ := RT.refsOK_val h2
    refine ⟨h1, by simp only [LoopR.toO, hv]; exact hok, r, h3, ?_⟩
    rcases h4 with ⟨a1, s', a2, a3, a4, a5, a6⟩ | ⟨a1, os', a2, a3⟩
    · exact .inl ⟨a1, s', a2, a3, by simp only [LoopR.toO, a4], by simp only [LoopR.toO, a4], a5, a6⟩
    · exact .inr ⟨a1, by simp only [LoopR.toO, a2], by simp only [LoopR.toO, a2]; exact a3⟩
  · intro env0 os x env' os' h
    unfold resR at h
    split at h
    · rename_i b q hq
      cases b with
      | false => simp [RT.val] at h
      | true =>
        obtain ⟨h1, h2, h3⟩ := hd _ _ _ _ hq rfl
        simp only [RT.val, cond_true] at h
        exact ⟨q, h1, fun p hp => by rw [← h2]; exact hp, h3.symm, by simp only [LoopR.toO, h], by simp only [LoopR.toO, h]⟩
    · simp [RT.val] at h
def staticD {α : Type} (b : Bool) (x : α) : Option α := bif b then some x else none
theorem staticD_some {α : Type} {b : Bool} {x y : α} (h : staticD b x = some y) : b = true ∧ x = y := by
  cases b with
  | false => cases h
  | true => exact ⟨rfl, Option.some.inj h⟩
theorem leafR_go {σ : Type} {S : LoopR C σ} {s : σ} {env : Env C} {os : List (Option (Obj C))} (s' : σ) (h1 : S.Inv s') (h2 : S.μ s' < S.μ s) (h3 : (S.fin s').val = (S.fin s).val) (h4 : env = S.canon s') (h5 : os = (S.objs s').map some) : Leaf (some ((Ev.X.normal, env), os)) (LedR S s) :=
  leaf_some.2 (.inl ⟨rfl, s', h1, h2, h3, h4, h5⟩)
theorem leafR_exit {σ : Type} {S : LoopR C σ} {s : σ} {i : Nat} {env : Env C} {os : List (Option (Obj C))} (os' : List (Obj C)) (h1 : (S.fin s).val = some ((.exit i, env), os')) (h2 : os = os'.map some) : Leaf (some ((Ev.X.exit i, env), os)) (LedR S s) :=
  leaf_some.2 (.inr ⟨by simp, os', h1, h2⟩)
theorem leafR_ret {σ : Type} {S : LoopR C σ} {s : σ} {env : Env C} {os : List (Option (Obj C))} (os' : List (Obj C)) (h1 : (S.fin s).val = some ((.ret, env), os')) (h2 : os = os'.map some) : Leaf (some ((Ev.X.ret, env), os)) (LedR S s) :=
  leaf_some.2 (.inr ⟨by simp, os', h1, h2⟩)
end
theorem ibeqT {a b : Int} (h : a = b) : (a == b) = true := by simp [h]
theorem ibeqF {a b : Int} (h : ¬ a = b) : (a == b) = false := by simp [h]
theorem ibneT {a b : Int} (h : ¬ a = b) : (a != b) = true := by simp [h]
theorem ibneF {a b : Int} (h : a = b) : (a != b) = false := by simp [h]
theorem nbeqT {a b : Nat} (h : a = b) : Nat.beq a b = true := by simp [h]
theorem sizeT {n b : Nat} (h : n * b ≤ 1099511627776) : sizeOK n b = true := by simp [sizeOK, h]
theorem wrapT {n : Int} (h : -9223372036854775808 ≤ n ∧ n ≤ 9223372036854775807) : IntKind.i64.wrap n = n := wrap_id h.1 h.2
def withinB (n a b : Int) : Bool := decide (a ≤ n) && decide (n ≤ b)
theorem withinB_iff {x a b : Int} : withinB x a b = true ↔ a ≤ x ∧ x ≤ b := by simp [withinB]
def eachAt {α : Type} (one : α → Bool) (two : α → α → Bool) (l : List α) (i : Nat) : Bool := eachB one two (ahead l i) (l.drop i)
theorem eachAt_step {α : Type} (one : α → Bool) (two : α → α → Bool) (l : List α) (i : Nat) (d : α) (hlt : i < l.length) :
    eachAt one two l i = (one (l.getD i d) && (decide (i = 0) || two (l.getD (i - 1) d) (l.getD i d)) && eachAt one two l (i + 1)) := by
  unfold eachAt
  rw [List.drop_eq_getElem_cons hlt]
  have hi : l.getD i d = l[i] := by simp [List.getD_eq_getElem?_getD, hlt]
  have hn : ahead l (i + 1) = some l[i] := by simp [ahead, hlt]
  rw [hi, hn]
  simp only [eachB]
  cases i with
  | zero => simp [ahead]
  | succ j =>
    have : j < l.length := by omega
    simp [ahead, this]
theorem eachAt_end {α : Type} (one : α → Bool) (two : α → α → Bool) (l : List α) (i : Nat) (h : l.length ≤ i) : eachAt one two l i = true := by simp [eachAt, List.drop_eq_nil_of_le h, eachB]
def oneWB (w : Write) : Bool := withinB w.key 0 23 && withinB w.value 0 255
def twoWB (x y : Write) : Bool := decide (x.key < y.key)
def writtenL (l : List Write) : Bool := decide (l.length ≤ 4) && eachAt oneWB twoWB l 0
def mayB (r : Rec) : Bool := withinB r.place 1 1048575 && writtenL r.writes && (r.yes || r.writes.isEmpty)
theorem eachB_all {α : Type} (one : α → Bool) (two : α → α → Bool) : ∀ (l : List α) (p : Option α), eachB one two p l = true → l.all one = true
  | [], _, _ => rfl
  | x :: l, p, h => by
    simp only [eachB, Bool.and_eq_true] at h
    simp only [List.all_cons, Bool.and_eq_true]
    exact ⟨h.1.1, eachB_all one two l _ h.2⟩
theorem eachAt_all {α : Type} {one : α → Bool} {two : α → α → Bool} {l : List α} (h : eachAt one two l 0 = true) : l.all one = true := eachB_all one two _ _ h
def lRow (first n many : Int) : Int := if 0 ≤ n ∧ n < many then first + n else -1
def lRing (p w : Int) : Int := if 0 ≤ p ∧ 2 ≤ w ∧ w ≤ 8 then 13 + p % w else -1
def lStream (q o : Int) : Int := if 0 ≤ q ∧ q ≤ 2 ∧ 0 ≤ o then 51 + 16 * q + o % 16 else -1
def lField (first slot f many fields : Int) : Int := if 0 ≤ slot ∧ slot < many ∧ 0 ≤ f ∧ f < fields then first + slot * fields + f else -1
theorem mod_range {p w : Int} (hw : 0 < w) : 0 ≤ p % w ∧ p % w < w := ⟨Int.emod_nonneg _ (by omega), Int.emod_lt_of_pos _ hw⟩
theorem withinB_no {x a b : Int} (h : withinB x a b = false) : ¬ (a ≤ x ∧ x ≤ b) := by rw [← withinB_iff]; simp [h]
theorem tmod_nn {p w : Int} (h : 0 ≤ p) : p.tmod w = p % w := Int.tmod_eq_emod_of_nonneg h
theorem cond2 {α : Type} {c : Bool} {x y z : α} (h1 : c = true → x = z) (h2 : c = false → y = z) : cond c x y = z := by cases c; exact h2 rfl; exact h1 rfl
def newCells : List Int := 0 :: 1 :: List.replicate 289 0 ++ (List.replicate 160 [(0 : Int), -1, 0]).flatten
theorem drops_step {α : Type} [DecidableEq α] (l m : List α) (i : Nat) (d : α) (hlt : i < l.length) (hlen : l.length = m.length) :
    decide (l.drop i = m.drop i) = (decide (l.getD i d = m.getD i d) && decide (l.drop (i + 1) = m.drop (i + 1))) := by
  have e1 := List.drop_eq_getElem_cons hlt
  have e2 := List.drop_eq_getElem_cons (show i < m.length by omega)
  have h1 : l.getD i d = l[i] := by simp [hlt]
  have h2 : m.getD i d = m[i]'(by omega) := by simp [show i < m.length by omega]
  rw [h1, h2, e1, e2, Bool.eq_iff_iff]
  simp only [List.cons.injEq, decide_eq_true_eq, Bool.and_eq_true]
theorem drops_end {α : Type} [DecidableEq α] (l m : List α) (i : Nat) (h1 : l.length ≤ i) (h2 : m.length ≤ i) : decide (l.drop i = m.drop i) = true := by
  simp [List.drop_eq_nil_of_le h1, List.drop_eq_nil_of_le h2]
theorem eqLine (x y : Line) : (x.offset == y.offset && (x.place == y.place && (x.j == y.j && (x.key == y.key && (x.value == y.value && true))))) = decide (x = y) := by
  rw [Bool.eq_iff_iff]; cases x; cases y; simp
theorem cond_of {α : Type} {c : Bool} {x y z : α} (h : c = true) (h2 : x = z) : cond c x y = z := by rw [h]; exact h2
theorem cond_no {α : Type} {c : Bool} {x y z : α} (h : c = false) (h2 : y = z) : cond c x y = z := by rw [h]; exact h2
theorem cond_two {α : Type} {c : Bool} {x y z : α} (h1 : c = true → x = z) (h2 : c = false → y = z) : cond c x y = z := by cases c; exact h2 rfl; exact h1 rfl
def maySec (s : Sector) : Bool := decide (0 ≤ s.n) && decide (s.n ≤ 1048575) && decide (s.b.length ≤ 640) && (decide (0 < s.n) || s.b == [])
def rowOK (l : List Sector) : Bool := decide (l.length = 33) && l.all maySec
def lowAt (now sure : List Sector) (i : Nat) : Bool := ((now.zip sure).drop i).all fun p => decide (p.2.n ≤ p.1.n)
def diskOK (now sure : List Sector) : Bool := rowOK now && rowOK sure && lowAt now sure 0
theorem diskOK_len {now sure : List Sector} (h : diskOK now sure = true) : now.length = 33 ∧ sure.length = 33 := by
  simp only [diskOK, rowOK, Bool.and_eq_true, decide_eq_true_eq] at h; exact ⟨h.1.1.1, h.1.2.1⟩
def sec0 : Sector := ⟨0, []⟩
theorem all_drop_step {α : Type} (l : List α) (p : α → Bool) (i : Nat) (h : i < l.length) (d : α) : (l.drop i).all p = (p (l.getD i d) && (l.drop (i + 1)).all p) := by
  have e : l.getD i d = l[i] := by simp [h]
  rw [List.drop_eq_getElem_cons h, e, List.all_cons]
theorem lowAt_step {now sure : List Sector} (i : Nat) (h1 : i < now.length) (h2 : i < sure.length) (d : Sector) : lowAt now sure i = (decide ((sure.getD i d).n ≤ (now.getD i d).n) && lowAt now sure (i + 1)) := by
  unfold lowAt
  rw [all_drop_step _ _ i (by simp; omega) (d, d)]
  have e : (now.zip sure).getD i (d, d) = (now.getD i d, sure.getD i d) := by
    have hz : i < (now.zip sure).length := by simp; omega
    simp [List.getD_eq_getElem?_getD, List.getElem?_eq_getElem hz, h1, h2]
  rw [e]
theorem lowAt_end {now sure : List Sector} (i : Nat) (h : now.length ≤ i) : lowAt now sure i = true := by
  unfold lowAt
  rw [List.drop_eq_nil_of_le (by simp; omega)]; rfl
def okPut (now sure : List Sector) (k n : Int) (b : List UInt8) : Bool := diskOK now sure && (decide (0 ≤ k) && decide (k < 33) && decide (1 ≤ n) && !(b == []) && maySec ⟨n, b⟩)
def putNow (now : List Sector) (k : Nat) (n : Int) (b : List UInt8) : List Sector := if (now.getD k sec0).n < n then now.set k ⟨n, b⟩ else now
def emptyDisk : List Sector := List.replicate 33 ⟨0, []⟩
theorem rowOK_len {l : List Sector} (h : rowOK l = true) : l.length = 33 := by simp only [rowOK, Bool.and_eq_true, decide_eq_true_eq] at h; exact h.1
def pNow (now sure : List Sector) (k n : Int) (b : List UInt8) : List Sector := bif okPut now sure k n b then putNow now k.toNat n b else []
def pSure (now sure : List Sector) (k n : Int) (b : List UInt8) : List Sector := bif okPut now sure k n b then sure else []
def goodL (l : List Sector) : Bool := decide (l.length ≤ 9223372036854775807) && l.all fun s => lenOK s.b.length
theorem goodL_iff {l : List Sector} : goodL l = true ↔ l.length ≤ 9223372036854775807 ∧ ∀ s ∈ l, lenOK s.b.length = true := by simp [goodL]
theorem goodL_at {l : List Sector} (h : goodL l = true) (i : Nat) (hi : i < l.length) (d : Sector) : lenOK (l.getD i d).b.length = true := by
  have e : l.getD i d = l[i] := by simp [hi]
  rw [e]; exact (goodL_iff.1 h).2 _ (List.getElem_mem hi)
theorem okPut_facts {now sure : List Sector} {k n : Int} {b : List UInt8} (h : okPut now sure k n b = true) : diskOK now sure = true ∧ 0 ≤ k ∧ k < 33 ∧ 1 ≤ n ∧ b ≠ [] ∧ maySec ⟨n, b⟩ = true := by
  simp only [okPut, Bool.and_eq_true, decide_eq_true_eq] at h
  obtain ⟨h1, ⟨⟨⟨h2, h3⟩, h4⟩, h5⟩, h6⟩ := h
  exact ⟨h1, h2, h3, h4, by simpa using h5, h6⟩
theorem okPut_not {now sure : List Sector} {k n : Int} {b : List UInt8} (h : ¬ (diskOK now sure = true ∧ 0 ≤ k ∧ k < 33 ∧ 1 ≤ n ∧ b ≠ [] ∧ maySec ⟨n, b⟩ = true)) : okPut now sure k n b = false := by
  cases e : okPut now sure k n b
  · rfl
  · exact absurd (okPut_facts e) h
def inWord (w : Int) : Int := if 0 ≤ w ∧ w ≤ 1099510841343 then w else 0
def plc (w : Int) : Int := inWord w / 1048576
def bare (w : Int) : Int := inWord w % 1048576
def OkWord (p h : Int) : Prop := 0 ≤ p ∧ p ≤ 1048575 ∧ (256 ≤ h ∧ h ≤ 262143 ∨ h = 0 ∧ p = 0)
instance instOkWord (p h : Int) : Decidable (OkWord p h) := by unfold OkWord; infer_instance
def wordN (p h : Int) : Int := if OkWord p h then p * 1048576 + h else 0
theorem inWord_in {w : Int} (h : 0 ≤ w ∧ w ≤ 1099510841343) : inWord w = w := if_pos h
def MayAct (k a b v g : Int) (tl al : Nat) : Prop :=
  -1 ≤ b ∧ b ≤ 1152921504606846976 ∧ -1 ≤ v ∧ v ≤ 1152921504606846976 ∧ -1 ≤ g ∧ g ≤ 1152921504606846976 ∧ al ≤ 96 ∧ tl ≤ 640 ∧ 0 ≤ a ∧ a ≤ 4095 ∧
  (k = 0 ∧ b = 0 ∧ v = 0 ∧ tl = 0 ∧ al = 0 ∨ k = 2 ∧ tl = 0 ∧ al = 0 ∨ k = 7 ∧ a = 0 ∧ b = 0 ∧ v = 0 ∧ g = 0 ∧ tl = 0)
instance instMayAct (k a b v g : Int) (tl al : Nat) : Decidable (MayAct k a b v g tl al) := by unfold MayAct; infer_instance
structure GoR where
  st : List Frame
  got : List Int
  over : Bool
  kind : Int
  a : Int
  b : Int
  v : Int
  is : Bool
def gLoad (r got : List Int) (n cell : Int) : GoR := ⟨[⟨68, n, r⟩], got, false, 0, cell, 0, 0, true⟩
def gCas (r got : List Int) (n cell b v : Int) : GoR := ⟨[⟨68, n, r⟩], got, false, 2, cell, b, v, true⟩
def gEnd (l : List Int) : GoR := ⟨[], l, true, 0, 0, 0, 0, false⟩
def goF (k : Int) (r got : List Int) (x : Int) : GoR :=
  if k = 0 ∨ k = 5 then gLoad r got 1 1
  else if k = 1 then gLoad (r.set 2 x) got 2 0
  else if k = 2 then (if x + r.getD 0 0 < r.getD 2 0 then gEnd [170] else if 1048575 < r.getD 2 0 then gEnd [172] else gLoad r got 3 4)
  else if k = 3 then (if x < r.getD 2 0 - 32 then gEnd [171] else gLoad r got 4 (lRing (r.getD 2 0) (r.getD 0 0)))
  else if k = 4 then (if plc x = r.getD 2 0 then gCas (r.set 3 x) got 5 1 (r.getD 2 0) (r.getD 2 0 + 1) else if r.getD 2 0 < plc x then gLoad (r.set 3 x) got 1 1
    else gCas (r.set 3 x) got 6 (lRing (r.getD 2 0) (r.getD 0 0)) x (wordN (r.getD 2 0) (r.getD 1 0)))
  else if k = 6 then (if x = 0 then gLoad r got 1 1 else gCas r got 7 1 (r.getD 2 0) (r.getD 2 0 + 1))
  else gEnd [0, r.getD 2 0]
def goR (st : List Frame) (got : List Int) : GoR := match st with
  | [f] => goF f.at' f.r got (got.headD 0)
  | _ => gEnd []
def OkF (k : Int) (r : List Int) (x : Int) : Prop := 1 ≤ k ∧ k ≤ 7 ∧ 0 ≤ x ∧ x ≤ 1152921504606846976 ∧ 2 ≤ r.getD 0 0 ∧ r.getD 0 0 ≤ 8 ∧ 0 ≤ r.getD 2 0 ∧ r.getD 2 0 ≤ 1099511627776
instance instOkF (k : Int) (r : List Int) (x : Int) : Decidable (OkF k r x) := by unfold OkF; infer_instance
def okFr (k : Int) (r got : List Int) : Bool := match got with
  | [] => decide (k = 0)
  | [x] => decide (OkF k r x)
  | _ => false
def okG (c : Int) (st : List Frame) (got : List Int) : Bool := match st with
  | [f] => decide (0 ≤ c ∧ c ≤ 3 ∧ f.prog = 68 ∧ f.r.length = 96) && okFr f.at' f.r got
  | _ => false
theorem getD_set_ne' {l : List Int} {i j : Nat} {x d : Int} (h : i ≠ j) : (l.set i x).getD j d = l.getD j d := by
  simp [List.getD_eq_getElem?_getD, List.getElem?_set_ne h]
theorem goF2 (r got : List Int) (x : Int) : goF 2 r got x = if x + r.getD 0 0 < r.getD 2 0 then gEnd [170] else if 1048575 < r.getD 2 0 then gEnd [172] else gLoad r got 3 4 := rfl
theorem goF3 (r got : List Int) (x : Int) : goF 3 r got x = if x < r.getD 2 0 - 32 then gEnd [171] else gLoad r got 4 (lRing (r.getD 2 0) (r.getD 0 0)) := rfl
theorem goF4 (r got : List Int) (x : Int) : goF 4 r got x = if plc x = r.getD 2 0 then gCas (r.set 3 x) got 5 1 (r.getD 2 0) (r.getD 2 0 + 1) else if r.getD 2 0 < plc x then gLoad (r.set 3 x) got 1 1
    else gCas (r.set 3 x) got 6 (lRing (r.getD 2 0) (r.getD 0 0)) x (wordN (r.getD 2 0) (r.getD 1 0)) := rfl
def fitsC (n : Int) : Bool := decide (-1152921504606846976 ≤ n) && decide (n ≤ 1152921504606846976)
def cellsOK (l : List Int) : Bool := decide (l.length ≤ 1024) && l.all fitsC
def OkDo (l : List Int) (k a b v : Int) : Prop := (k = 0 ∧ b = 0 ∧ v = 0 ∨ k = 2) ∧ 0 ≤ a ∧ a < l.length ∧ -1152921504606846976 ≤ b ∧ b ≤ 1152921504606846976 ∧ -1152921504606846976 ≤ v ∧ v ≤ 1152921504606846976
instance instOkDo (l : List Int) (k a b v : Int) : Decidable (OkDo l k a b v) := by unfold OkDo; infer_instance
def doC (l : List Int) (k a b v : Int) : List Int := if k = 2 ∧ l.getD a.toNat 0 = b then l.set a.toNat v else l
def doG (l : List Int) (k a b : Int) : Int := if k = 0 then l.getD a.toNat 0 else if l.getD a.toNat 0 = b then 1 else 0
def tkC (ts : List Task) (c : Int) : Task := ts.getD c.toNat ⟨0, [], [], false⟩
def stG (t : Task) : GoR := goR t.stack t.got
def stX (cs : List Int) (t : Task) : Int := doG cs (stG t).kind (stG t).a (stG t).b
def stCs (cs : List Int) (t : Task) : List Int := doC cs (stG t).kind (stG t).a (stG t).b (stG t).v
def stE (cs : List Int) (t : Task) : GoR := goR (stG t).st [stX cs t]
def stT (cs : List Int) (t : Task) : Task := ⟨t.client, (stG t).st, [stX cs t], (stG t).over⟩
def OkStep (cs : List Int) (t : Task) (now sure : List Sector) : Prop :=
  okG t.client t.stack t.got = true ∧ t.over = false ∧ (stG t).is = true ∧ OkDo cs (stG t).kind (stG t).a (stG t).b (stG t).v ∧ cellsOK cs = true ∧ diskOK now sure = true ∧ goodL now = true ∧ goodL sure = true ∧ okG t.client (stG t).st [stX cs t] = true
instance instOkStep (cs : List Int) (t : Task) (now sure : List Sector) : Decidable (OkStep cs t now sure) := by unfold OkStep; infer_instance
def regs' (w d : Int) : List Int := w :: d :: List.replicate 94 0
def hnd (c n : Int) : Int := (n % 1000 + 1) * 256 + c
structure GS where
  cs : List Int
  ts : List Task
  busy : List Bool
  n : Int
  has : List Int
  told : List Int
def isBusy (s : GS) (c : Int) : Bool := s.busy.getD c.toNat false
def beginG (w : Int) (s : GS) (c h : Int) : GS :=
  { s with ts := s.ts.set c.toNat ⟨c, [⟨68, 0, regs' w h⟩], [], false⟩, busy := s.busy.set c.toNat true }
def beginP (w : Int) (s : GS) (c : Int) : GS :=
  if isBusy s c then s else beginG w { s with n := s.n + 1, has := s.has.set c.toNat (hnd c (s.n + 1)) } c (hnd c (s.n + 1))
def stepS (s : GS) (c : Int) : GS :=
  { s with cs := stCs s.cs (tkC s.ts c), ts := s.ts.set c.toNat (stT s.cs (tkC s.ts c)), busy := bif (stE s.cs (tkC s.ts c)).is then s.busy else s.busy.set c.toNat false }
def newTold (s : GS) (c : Int) : List Int :=
  if (stE s.cs (tkC s.ts c)).is = false ∧ (stE s.cs (tkC s.ts c)).got.length = 2 ∧ (stE s.cs (tkC s.ts c)).got.getD 0 0 = 0 then [(stE s.cs (tkC s.ts c)).got.getD 1 0] else []
def stepP (s : GS) (c : Int) : GS := if isBusy s c then { stepS s c with told := s.told ++ newTold s c } else s
def frontG (s : GS) : Int := s.cs.getD 0 0
def doneP (w : Int) (s : GS) : GS :=
  if plc (s.cs.getD (lRing (frontG s + 1) w).toNat 0) = frontG s + 1 then { s with cs := s.cs.set 0 (frontG s + 1) } else s
def ckptP (s : GS) : GS := { s with cs := s.cs.set 4 (frontG s) }
def pickG (w : Int) (s : GS) (x dd : Int) : GS :=
  if dd = 0 then beginP w s (x % 4) else if dd = 1 then stepP s (x % 4) else if dd = 2 then doneP w s else if dd = 3 then ckptP s else s
def OkPick (w : Int) (s : GS) (now sure : List Sector) (c : Int) : Prop :=
  2 ≤ w ∧ w ≤ 8 ∧ s.ts.length = 4 ∧ s.busy.length = 4 ∧ s.has.length = 4 ∧ 0 ≤ s.n ∧ s.n ≤ 1000000 ∧ s.cs.length = 771 ∧ 0 ≤ frontG s ∧ frontG s ≤ 1000000000 ∧ s.told.length ≤ 1000000 ∧ (isBusy s c = true → OkStep s.cs (tkC s.ts c) now sure)
theorem mod4 (x : Int) : Int.tmod (IntKind.i64.wrap (Int.tmod x 4 + 4)) 4 = x % 4 := by
  have h1 : -4 < Int.tmod x 4 := Int.lt_tmod_of_pos _ (by decide)
  have h2 : Int.tmod x 4 < 4 := Int.tmod_lt_of_pos _ (by decide)
  rw [wrap_id (by omega) (by omega), Int.tmod_eq_emod_of_nonneg (by omega)]
  have h3 : x = 4 * (x.tdiv 4) + x.tmod 4 := (Int.mul_tdiv_add_tmod x 4).symm
  omega
def wd (p : Int) (hs : List Int) : Int := if p ≤ 0 then 0 else p * 1048576 + hs.getD (p - 1).toNat 0
structure RW (w : Int) (cs hs : List Int) : Prop where
  w0 : 2 ≤ w
  w1 : w ≤ 8
  lc : cs.length = 771
  fit : ∀ i, -1152921504606846976 ≤ cs.getD i 0 ∧ cs.getD i 0 ≤ 1152921504606846976
  q0 : 0 ≤ cs.getD 4 0
  qf : cs.getD 4 0 ≤ cs.getD 0 0
  fT : cs.getD 0 0 ≤ hs.length
  Tf : (hs.length : Int) ≤ cs.getD 0 0 + w
  Tt : (hs.length : Int) ≤ cs.getD 1 0
  tT : cs.getD 1 0 ≤ hs.length + 1
  t1 : 1 ≤ cs.getD 1 0
  hv : ∀ d ∈ hs, 256 ≤ d ∧ d ≤ 262143
  Tk : (hs.length : Int) ≤ 100000
  TL : (hs.length : Int) - 32 ≤ cs.getD 4 0
  ring : ∀ p : Int, hs.length - w < p → p ≤ hs.length → cs.getD (13 + p % w).toNat 0 = wd p hs
theorem getD_at {l : List Int} {i : Nat} {d : Int} (h : i < l.length) : l.getD i d = l[i] := by
  rw [List.getD_eq_getElem?_getD, List.getElem?_eq_getElem h]; rfl
theorem getD_app {l m : List Int} {i : Nat} {d : Int} (h : i < l.length) : (l ++ m).getD i d = l.getD i d := by
  rw [List.getD_eq_getElem?_getD, List.getD_eq_getElem?_getD, List.getElem?_append_left h]
theorem getD_end {l : List Int} {x d : Int} : (l ++ [x]).getD l.length d = x := by
  rw [List.getD_eq_getElem?_getD]; simp
theorem getD_set_eq {l : List Int} {i : Nat} {x d : Int} (h : i < l.length) : (l.set i x).getD i d = x := by
  rw [List.getD_eq_getElem?_getD, List.getElem?_set_self h]; rfl
theorem getD_set (l : List Int) (i j : Nat) (x d : Int) (h : i < l.length) : (l.set i x).getD j d = if i = j then x else l.getD j d := by
  by_cases e : i = j
  · subst e; rw [if_pos rfl]; exact getD_set_eq h
  · rw [if_neg e]; exact getD_set_ne' e
theorem wd_in {p : Int} {hs : List Int} (hv : ∀ d ∈ hs, 256 ≤ d ∧ d ≤ 262143) (h1 : 1 ≤ p) (h2 : p ≤ hs.length) (h3 : (hs.length : Int) ≤ 100000) :
    wd p hs = p * 1048576 + hs.getD (p - 1).toNat 0 ∧ 256 ≤ hs.getD (p - 1).toNat 0 ∧ hs.getD (p - 1).toNat 0 ≤ 262143 := by
  have hlt : (p - 1).toNat < hs.length := by omega
  have e : hs.getD (p - 1).toNat 0 = hs[(p - 1).toNat] := getD_at hlt
  refine ⟨by rw [wd, if_neg (by omega)], ?_⟩
  rw [e]
  exact hv _ (List.getElem_mem hlt)
theorem plc_word {p d : Int} (h1 : 0 ≤ p) (h2 : p ≤ 1048575) (h3 : 0 ≤ d) (h4 : d ≤ 262143) : plc (p * 1048576 + d) = p ∧ bare (p * 1048576 + d) = d := by
  unfold plc bare
  rw [inWord_in (by omega)]
  omega
theorem plc_wd {p : Int} {hs : List Int} (hv : ∀ d ∈ hs, 256 ≤ d ∧ d ≤ 262143) (h2 : p ≤ hs.length) (h3 : (hs.length : Int) ≤ 100000) (h1 : 0 ≤ p) : plc (wd p hs) = p ∧ 0 ≤ wd p hs ∧ wd p hs ≤ 1099510841343 := by
  by_cases h : 1 ≤ p
  · obtain ⟨e, a, b⟩ := wd_in hv h h2 h3
    rw [e]
    exact ⟨(plc_word (by omega) (by omega) (by omega) (by omega)).1, by omega, by omega⟩
  · have : p = 0 := by omega
    subst this
    rw [wd, if_pos (by decide)]
    exact ⟨by decide, by decide, by decide⟩
theorem wd_neg {p : Int} {hs : List Int} (h : p ≤ 0) : wd p hs = 0 := by rw [wd, if_pos h]
theorem same_cell {w T p : Int} (hw : 0 < w) : T - w < T - (T - p) % w ∧ T - (T - p) % w ≤ T ∧ (T - (T - p) % w) % w = p % w := by
  have h1 : 0 ≤ (T - p) % w := Int.emod_nonneg _ (by omega)
  have h2 : (T - p) % w < w := Int.emod_lt_of_pos _ hw
  refine ⟨by omega, by omega, ?_⟩
  have e : T - (T - p) % w = p + w * ((T - p) / w) := by
    have := Int.mul_ediv_add_emod (T - p) w
    omega
  rw [e, Int.add_mul_emod_self_left]
theorem RW.read {w : Int} {cs hs : List Int} (h : RW w cs hs) (p : Int) : ∃ p', hs.length - w < p' ∧ p' ≤ hs.length ∧ p' % w = p % w ∧ cs.getD (13 + p % w).toNat 0 = wd p' hs := by
  have hw := h.w0
  obtain ⟨a, b, c⟩ := same_cell (w := w) (T := hs.length) (p := p) (by omega)
  exact ⟨_, a, b, c, by rw [← c]; exact h.ring _ a b⟩
theorem RW.read_le {w : Int} {cs hs : List Int} (h : RW w cs hs) (p : Int) : 0 ≤ cs.getD (13 + p % w).toNat 0 ∧ cs.getD (13 + p % w).toNat 0 ≤ 1099510841343 ∧ plc (cs.getD (13 + p % w).toNat 0) ≤ hs.length := by
  obtain ⟨p', a, b, c, e⟩ := h.read p
  rw [e]
  by_cases h0 : 0 ≤ p'
  · obtain ⟨x, y, z⟩ := plc_wd h.hv b h.Tk h0
    exact ⟨y, z, by rw [x]; exact b⟩
  · rw [wd_neg (by omega)]
    refine ⟨by decide, by decide, ?_⟩
    have : plc 0 = 0 := by decide
    omega
theorem RW.cell {w : Int} {cs hs : List Int} (h : RW w cs hs) (p : Int) : (13 + p % w).toNat < 21 ∧ 13 ≤ (13 + p % w).toNat ∧ ((13 + p % w).toNat : Int) = 13 + p % w := by
  have hw := h.w0
  have hw1 := h.w1
  have := mod_range (p := p) (w := w) (by omega)
  omega
theorem cell_inj {w T p p' : Int} (hw : 2 ≤ w) (h1 : T - w < p) (h2 : p ≤ T) (h3 : T - w < p') (h4 : p' ≤ T) (he : p % w = p' % w) : p = p' := by
  have h5 : (p - p') % w = 0 := Int.emod_eq_emod_iff_emod_sub_eq_zero.1 he
  have h6 : w ∣ (p - p') := Int.dvd_of_emod_eq_zero h5
  obtain ⟨k, hk⟩ := h6
  have : k = 0 := by
    rcases Int.lt_trichotomy k 0 with h | h | h
    · have : w * k ≤ w * (-1) := Int.mul_le_mul_of_nonneg_left (by omega) (by omega)
      omega
    · exact h
    · have : w * 1 ≤ w * k := Int.mul_le_mul_of_nonneg_left (by omega) (by omega)
      omega
  subst this
  omega
theorem RW.tail {w : Int} {cs hs : List Int} (h : RW w cs hs) {t0 : Int} (h1 : cs.getD 1 0 = t0) (h2 : t0 ≤ hs.length) : RW w (cs.set 1 (t0 + 1)) hs := by
  have hl := h.lc
  have g : ∀ j, (cs.set 1 (t0 + 1)).getD j 0 = if 1 = j then t0 + 1 else cs.getD j 0 := fun j => getD_set cs 1 j _ _ (by omega)
  have hTk := h.Tk
  have ht1 := h.t1
  have hTt := h.Tt
  refine ⟨h.w0, h.w1, by simpa using hl, fun i => ?_, by rw [g]; exact h.q0, by rw [g, g]; exact h.qf, by rw [g]; exact h.fT, by rw [g]; exact h.Tf, by rw [g, if_pos rfl]; omega, by rw [g, if_pos rfl]; omega, by rw [g, if_pos rfl]; omega, h.hv, h.Tk, by rw [g]; exact h.TL, fun p a b => ?_⟩
  · rw [g]
    split
    · omega
    · exact h.fit i
  · have hc := h.cell p
    rw [g, if_neg (by omega)]
    exact h.ring p a b
theorem RW.give {w : Int} {cs hs : List Int} (h : RW w cs hs) {t0 d : Int} (h1 : 1 ≤ t0) (h2 : t0 ≤ cs.getD 1 0) (h3 : t0 ≤ cs.getD 0 0 + w) (h4 : plc (cs.getD (13 + t0 % w).toNat 0) < t0) (hd : 256 ≤ d ∧ d ≤ 262143) (hk : (hs.length : Int) < 100000) (hL : t0 - 32 ≤ cs.getD 4 0) :
    t0 = hs.length + 1 ∧ RW w (cs.set (13 + t0 % w).toNat (t0 * 1048576 + d)) (hs ++ [d]) := by
  have hl := h.lc
  have hw := h.w0
  have htT := h.tT
  have hTf := h.Tf
  have hTt := h.Tt
  have hc := h.cell t0
  have ht0 : t0 = hs.length + 1 := by
    by_cases hle : t0 ≤ hs.length
    · exfalso
      by_cases hf : hs.length - w < t0
      · have e := h.ring t0 hf hle
        rw [e, (plc_wd h.hv hle h.Tk (by omega)).1] at h4
        omega
      · obtain ⟨p', a, b, c, e⟩ := h.read t0
        have : 0 ≤ p' := by omega
        rw [e, (plc_wd h.hv b h.Tk this).1] at h4
        omega
    · omega
  have g : ∀ j, (cs.set (13 + t0 % w).toNat (t0 * 1048576 + d)).getD j 0 = if (13 + t0 % w).toNat = j then t0 * 1048576 + d else cs.getD j 0 := fun j => getD_set cs _ j _ _ (by omega)
  have hlen : ((hs ++ [d]).length : Int) = hs.length + 1 := by simp
  refine ⟨ht0, h.w0, h.w1, by simpa using hl, fun i => ?_, ?_, ?_, ?_, ?_, ?_, ?_, ?_, ?_, ?_, ?_, fun p a b => ?_⟩
  · rw [g]
    split
    · omega
    · exact h.fit i
  · rw [g, if_neg (by omega)]; exact h.q0
  · rw [g, g, if_neg (by omega), if_neg (by omega)]; exact h.qf
  · rw [g, if_neg (by omega), hlen]; have := h.fT; omega
  · rw [g, if_neg (by omega), hlen]; omega
  · rw [g, if_neg (by omega), hlen]; omega
  · rw [g, if_neg (by omega), hlen]; omega
  · rw [g, if_neg (by omega)]; exact h.t1
  · intro x hx
    simp only [List.mem_append, List.mem_singleton] at hx
    rcases hx with hx | rfl
    · exact h.hv x hx
    · exact hd
  · rw [hlen]; omega
  · rw [g, if_neg (by omega), hlen]; omega
  · rw [hlen] at a b
    have hcp := h.cell p
    rw [g]
    by_cases e : p = hs.length + 1
    · have e2 : p = t0 := by omega
      subst e2
      rw [if_pos rfl, wd, if_neg (by omega)]
      have : (p - 1).toNat = hs.length := by omega
      rw [this, getD_end]
    · have hne : ¬ (13 + t0 % w).toNat = (13 + p % w).toNat := fun q => by
        have q2 : t0 % w = p % w := by omega
        have := cell_inj (w := w) (T := hs.length + 1) hw (by omega) (by omega) (p := t0) (p' := p) (by omega) (by omega) q2
        omega
      rw [if_neg hne, h.ring p (by omega) (by omega)]
      unfold wd
      by_cases hp : p ≤ 0
      · rw [if_pos hp, if_pos hp]
      · rw [if_neg hp, if_neg hp]
        have : (p - 1).toNat < hs.length := by omega
        rw [getD_app this]
theorem RW.set_low {w : Int} {cs hs : List Int} (h : RW w cs hs) {i : Nat} {v : Int} (hi : i = 0 ∨ i = 4) (hv : -1152921504606846976 ≤ v ∧ v ≤ 1152921504606846976)
    (hq : 0 ≤ (cs.set i v).getD 4 0 ∧ (cs.set i v).getD 4 0 ≤ (cs.set i v).getD 0 0 ∧ (cs.set i v).getD 0 0 ≤ hs.length ∧ (hs.length : Int) ≤ (cs.set i v).getD 0 0 + w) (hL : cs.getD 4 0 ≤ (cs.set i v).getD 4 0) : RW w (cs.set i v) hs := by
  have hl := h.lc
  have g : ∀ j, (cs.set i v).getD j 0 = if i = j then v else cs.getD j 0 := fun j => getD_set cs i j _ _ (by omega)
  refine ⟨h.w0, h.w1, by simpa using hl, fun j => ?_, hq.1, hq.2.1, hq.2.2.1, hq.2.2.2, ?_, ?_, ?_, h.hv, h.Tk, Int.le_trans h.TL hL, fun p a b => ?_⟩
  · rw [g]
    split
    · exact hv
    · exact h.fit j
  · rw [g, if_neg (by omega)]; exact h.Tt
  · rw [g, if_neg (by omega)]; exact h.tT
  · rw [g, if_neg (by omega)]; exact h.t1
  · have hc := h.cell p
    rw [g, if_neg (by omega)]
    exact h.ring p a b
theorem lRing_eq' {p w : Int} (h0 : 0 ≤ p) (h1 : 2 ≤ w) (h2 : w ≤ 8) : lRing p w = 13 + p % w := by rw [lRing, if_pos ⟨h0, h1, h2⟩]
theorem RW.done {w : Int} {cs hs : List Int} (h : RW w cs hs) (hp : plc (cs.getD (lRing (cs.getD 0 0 + 1) w).toNat 0) = cs.getD 0 0 + 1) : RW w (cs.set 0 (cs.getD 0 0 + 1)) hs := by
  have hl := h.lc
  have hq0 := h.q0
  have hqf := h.qf
  have hfT := h.fT
  have hTk := h.Tk
  have hTf := h.Tf
  have g0 : (cs.set 0 (cs.getD 0 0 + 1)).getD 0 0 = cs.getD 0 0 + 1 := getD_set_eq (by omega)
  have g4 : (cs.set 0 (cs.getD 0 0 + 1)).getD 4 0 = cs.getD 4 0 := getD_set_ne' (by decide)
  rw [lRing_eq' (by omega) h.w0 h.w1] at hp
  have := (h.read_le (cs.getD 0 0 + 1)).2.2
  rw [hp] at this
  exact h.set_low (.inl rfl) (by omega) (by rw [g0, g4]; omega) (by rw [g4]; omega)
theorem RW.ckpt {w : Int} {cs hs : List Int} (h : RW w cs hs) : RW w (cs.set 4 (cs.getD 0 0)) hs := by
  have hl := h.lc
  have hq0 := h.q0
  have hqf := h.qf
  have hfT := h.fT
  have hTf := h.Tf
  have hTk := h.Tk
  have g4 : (cs.set 4 (cs.getD 0 0)).getD 4 0 = cs.getD 0 0 := getD_set_eq (by omega)
  have g0 : (cs.set 4 (cs.getD 0 0)).getD 0 0 = cs.getD 0 0 := getD_set_ne' (by decide)
  exact h.set_low (.inr rfl) (by omega) (by rw [g0, g4]; omega) (by rw [g4]; omega)
theorem RW.cellsOK {w : Int} {cs hs : List Int} (h : RW w cs hs) : cellsOK cs = true := by
  simp only [Go.Ev.cellsOK, Bool.and_eq_true, decide_eq_true_eq]
  refine ⟨by rw [h.lc]; decide, List.all_eq_true.2 fun x hx => ?_⟩
  obtain ⟨i, hi, rfl⟩ := List.getElem_of_mem hx
  have := h.fit i
  have e : cs.getD i 0 = cs[i] := by simp [hi]
  rw [e] at this
  simp only [fitsC, Bool.and_eq_true, decide_eq_true_eq]
  exact this
def MayA (k a b v g : Int) (tl al : Nat) : Prop :=
  -1 ≤ b ∧ b ≤ 1152921504606846976 ∧ -1 ≤ v ∧ v ≤ 1152921504606846976 ∧ -1 ≤ g ∧ g ≤ 1152921504606846976 ∧ al ≤ 96 ∧ tl ≤ 640 ∧ 0 ≤ a ∧ a ≤ 4095 ∧
  (k = 0 ∧ b = 0 ∧ v = 0 ∧ tl = 0 ∧ al = 0 ∨ k = 1 ∧ b = 0 ∧ tl = 0 ∧ al = 0 ∨ k = 2 ∧ tl = 0 ∧ al = 0 ∨ k = 3 ∧ b = 0 ∧ g = 0 ∧ tl = 0 ∧ al = 0 ∨ k = 4 ∧ v = 0 ∧ g = 0 ∧ al = 0 ∨
   k = 5 ∧ a = 0 ∧ b = 0 ∧ v = 0 ∧ g = 0 ∧ tl = 0 ∧ al = 0 ∨ k = 6 ∧ a ≤ 127 ∧ b = 0 ∧ v = 0 ∧ g = 0 ∧ tl = 0 ∨ k = 7 ∧ a = 0 ∧ b = 0 ∧ v = 0 ∧ g = 0 ∧ tl = 0)
instance instMayA (k a b v g : Int) (tl al : Nat) : Decidable (MayA k a b v g tl al) := by unfold MayA; infer_instance
def mayA8 (k a b v g : Int) (tx : List UInt8) (ar : List Int) : Bool := decide (MayA k a b v g tx.length ar.length)
theorem mayT8 {C : Cdc} {k a b v g : Int} {tx : List UInt8} {ar : List Int} (h : MayA k a b v g tx.length ar.length) : (some (D.bool true) : Option (D C)) = some (.bool (mayA8 k a b v g tx ar)) := by rw [mayA8, decide_eq_true h]
theorem mayF8 {C : Cdc} {k a b v g : Int} {tx : List UInt8} {ar : List Int} (h : ¬ MayA k a b v g tx.length ar.length) : (some (D.bool false) : Option (D C)) = some (.bool (mayA8 k a b v g tx ar)) := by rw [mayA8, decide_eq_false h]
theorem MayA.k0 {a b v g : Int} {tl al : Nat} : MayA 0 a b v g tl al ↔ (-1 ≤ b ∧ b ≤ 1152921504606846976 ∧ -1 ≤ v ∧ v ≤ 1152921504606846976 ∧ -1 ≤ g ∧ g ≤ 1152921504606846976 ∧ al ≤ 96 ∧ tl ≤ 640 ∧ 0 ≤ a ∧ a ≤ 4095) ∧ b = 0 ∧ v = 0 ∧ tl = 0 ∧ al = 0 := by
  unfold MayA
  refine ⟨fun ⟨q1, q2, q3, q4, q5, q6, q7, q8, q9, q10, h⟩ => ⟨⟨q1, q2, q3, q4, q5, q6, q7, q8, q9, q10⟩, ?_⟩, fun ⟨⟨q1, q2, q3, q4, q5, q6, q7, q8, q9, q10⟩, h⟩ => ⟨q1, q2, q3, q4, q5, q6, q7, q8, q9, q10, .inl ⟨rfl, h⟩⟩⟩
  rcases h with ⟨e, h⟩ | ⟨e, h⟩ | ⟨e, h⟩ | ⟨e, h⟩ | ⟨e, h⟩ | ⟨e, h⟩ | ⟨e, h⟩ | ⟨e, h⟩
  · exact h
  · exact absurd e (by decide)
  · exact absurd e (by decide)
  · exact absurd e (by decide)
  · exact absurd e (by decide)
  · exact absurd e (by decide)
  · exact absurd e (by decide)
  · exact absurd e (by decide)
theorem MayA.k1 {a b v g : Int} {tl al : Nat} : MayA 1 a b v g tl al ↔ (-1 ≤ b ∧ b ≤ 1152921504606846976 ∧ -1 ≤ v ∧ v ≤ 1152921504606846976 ∧ -1 ≤ g ∧ g ≤ 1152921504606846976 ∧ al ≤ 96 ∧ tl ≤ 640 ∧ 0 ≤ a ∧ a ≤ 4095) ∧ b = 0 ∧ tl = 0 ∧ al = 0 := by
  unfold MayA
  refine ⟨fun ⟨q1, q2, q3, q4, q5, q6, q7, q8, q9, q10, h⟩ => ⟨⟨q1, q2, q3, q4, q5, q6, q7, q8, q9, q10⟩, ?_⟩, fun ⟨⟨q1, q2, q3, q4, q5, q6, q7, q8, q9, q10⟩, h⟩ => ⟨q1, q2, q3, q4, q5, q6, q7, q8, q9, q10, .inr (.inl ⟨rfl, h⟩)⟩⟩
  rcases h with ⟨e, h⟩ | ⟨e, h⟩ | ⟨e, h⟩ | ⟨e, h⟩ | ⟨e, h⟩ | ⟨e, h⟩ | ⟨e, h⟩ | ⟨e, h⟩
  · exact absurd e (by decide)
  · exact h
  · exact absurd e (by decide)
  · exact absurd e (by decide)
  · exact absurd e (by decide)
  · exact absurd e (by decide)
  · exact absurd e (by decide)
  · exact absurd e (by decide)
theorem MayA.k2 {a b v g : Int} {tl al : Nat} : MayA 2 a b v g tl al ↔ (-1 ≤ b ∧ b ≤ 1152921504606846976 ∧ -1 ≤ v ∧ v ≤ 1152921504606846976 ∧ -1 ≤ g ∧ g ≤ 1152921504606846976 ∧ al ≤ 96 ∧ tl ≤ 640 ∧ 0 ≤ a ∧ a ≤ 4095) ∧ tl = 0 ∧ al = 0 := by
  unfold MayA
  refine ⟨fun ⟨q1, q2, q3, q4, q5, q6, q7, q8, q9, q10, h⟩ => ⟨⟨q1, q2, q3, q4, q5, q6, q7, q8, q9, q10⟩, ?_⟩, fun ⟨⟨q1, q2, q3, q4, q5, q6, q7, q8, q9, q10⟩, h⟩ => ⟨q1, q2, q3, q4, q5, q6, q7, q8, q9, q10, .inr (.inr (.inl ⟨rfl, h⟩))⟩⟩
  rcases h with ⟨e, h⟩ | ⟨e, h⟩ | ⟨e, h⟩ | ⟨e, h⟩ | ⟨e, h⟩ | ⟨e, h⟩ | ⟨e, h⟩ | ⟨e, h⟩
  · exact absurd e (by decide)
  · exact absurd e (by decide)
  · exact h
  · exact absurd e (by decide)
  · exact absurd e (by decide)
  · exact absurd e (by decide)
  · exact absurd e (by decide)
  · exact absurd e (by decide)
theorem MayA.k3 {a b v g : Int} {tl al : Nat} : MayA 3 a b v g tl al ↔ (-1 ≤ b ∧ b ≤ 1152921504606846976 ∧ -1 ≤ v ∧ v ≤ 1152921504606846976 ∧ -1 ≤ g ∧ g ≤ 1152921504606846976 ∧ al ≤ 96 ∧ tl ≤ 640 ∧ 0 ≤ a ∧ a ≤ 4095) ∧ b = 0 ∧ g = 0 ∧ tl = 0 ∧ al = 0 := by
  unfold MayA
  refine ⟨fun ⟨q1, q2, q3, q4, q5, q6, q7, q8, q9, q10, h⟩ => ⟨⟨q1, q2, q3, q4, q5, q6, q7, q8, q9, q10⟩, ?_⟩, fun ⟨⟨q1, q2, q3, q4, q5, q6, q7, q8, q9, q10⟩, h⟩ => ⟨q1, q2, q3, q4, q5, q6, q7, q8, q9, q10, .inr (.inr (.inr (.inl ⟨rfl, h⟩)))⟩⟩
  rcases h with ⟨e, h⟩ | ⟨e, h⟩ | ⟨e, h⟩ | ⟨e, h⟩ | ⟨e, h⟩ | ⟨e, h⟩ | ⟨e, h⟩ | ⟨e, h⟩
  · exact absurd e (by decide)
  · exact absurd e (by decide)
  · exact absurd e (by decide)
  · exact h
  · exact absurd e (by decide)
  · exact absurd e (by decide)
  · exact absurd e (by decide)
  · exact absurd e (by decide)
theorem MayA.k4 {a b v g : Int} {tl al : Nat} : MayA 4 a b v g tl al ↔ (-1 ≤ b ∧ b ≤ 1152921504606846976 ∧ -1 ≤ v ∧ v ≤ 1152921504606846976 ∧ -1 ≤ g ∧ g ≤ 1152921504606846976 ∧ al ≤ 96 ∧ tl ≤ 640 ∧ 0 ≤ a ∧ a ≤ 4095) ∧ v = 0 ∧ g = 0 ∧ al = 0 := by
  unfold MayA
  refine ⟨fun ⟨q1, q2, q3, q4, q5, q6, q7, q8, q9, q10, h⟩ => ⟨⟨q1, q2, q3, q4, q5, q6, q7, q8, q9, q10⟩, ?_⟩, fun ⟨⟨q1, q2, q3, q4, q5, q6, q7, q8, q9, q10⟩, h⟩ => ⟨q1, q2, q3, q4, q5, q6, q7, q8, q9, q10, .inr (.inr (.inr (.inr (.inl ⟨rfl, h⟩))))⟩⟩
  rcases h with ⟨e, h⟩ | ⟨e, h⟩ | ⟨e, h⟩ | ⟨e, h⟩ | ⟨e, h⟩ | ⟨e, h⟩ | ⟨e, h⟩ | ⟨e, h⟩
  · exact absurd e (by decide)
  · exact absurd e (by decide)
  · exact absurd e (by decide)
  · exact absurd e (by decide)
  · exact h
  · exact absurd e (by decide)
  · exact absurd e (by decide)
  · exact absurd e (by decide)
theorem MayA.k5 {a b v g : Int} {tl al : Nat} : MayA 5 a b v g tl al ↔ (-1 ≤ b ∧ b ≤ 1152921504606846976 ∧ -1 ≤ v ∧ v ≤ 1152921504606846976 ∧ -1 ≤ g ∧ g ≤ 1152921504606846976 ∧ al ≤ 96 ∧ tl ≤ 640 ∧ 0 ≤ a ∧ a ≤ 4095) ∧ a = 0 ∧ b = 0 ∧ v = 0 ∧ g = 0 ∧ tl = 0 ∧ al = 0 := by
  unfold MayA
  refine ⟨fun ⟨q1, q2, q3, q4, q5, q6, q7, q8, q9, q10, h⟩ => ⟨⟨q1, q2, q3, q4, q5, q6, q7, q8, q9, q10⟩, ?_⟩, fun ⟨⟨q1, q2, q3, q4, q5, q6, q7, q8, q9, q10⟩, h⟩ => ⟨q1, q2, q3, q4, q5, q6, q7, q8, q9, q10, .inr (.inr (.inr (.inr (.inr (.inl ⟨rfl, h⟩)))))⟩⟩
  rcases h with ⟨e, h⟩ | ⟨e, h⟩ | ⟨e, h⟩ | ⟨e, h⟩ | ⟨e, h⟩ | ⟨e, h⟩ | ⟨e, h⟩ | ⟨e, h⟩
  · exact absurd e (by decide)
  · exact absurd e (by decide)
  · exact absurd e (by decide)
  · exact absurd e (by decide)
  · exact absurd e (by decide)
  · exact h
  · exact absurd e (by decide)
  · exact absurd e (by decide)
theorem MayA.k6 {a b v g : Int} {tl al : Nat} : MayA 6 a b v g tl al ↔ (-1 ≤ b ∧ b ≤ 1152921504606846976 ∧ -1 ≤ v ∧ v ≤ 1152921504606846976 ∧ -1 ≤ g ∧ g ≤ 1152921504606846976 ∧ al ≤ 96 ∧ tl ≤ 640 ∧ 0 ≤ a ∧ a ≤ 4095) ∧ a ≤ 127 ∧ b = 0 ∧ v = 0 ∧ g = 0 ∧ tl = 0 := by
  unfold MayA
  refine ⟨fun ⟨q1, q2, q3, q4, q5, q6, q7, q8, q9, q10, h⟩ => ⟨⟨q1, q2, q3, q4, q5, q6, q7, q8, q9, q10⟩, ?_⟩, fun ⟨⟨q1, q2, q3, q4, q5, q6, q7, q8, q9, q10⟩, h⟩ => ⟨q1, q2, q3, q4, q5, q6, q7, q8, q9, q10, .inr (.inr (.inr (.inr (.inr (.inr (.inl ⟨rfl, h⟩))))))⟩⟩
  rcases h with ⟨e, h⟩ | ⟨e, h⟩ | ⟨e, h⟩ | ⟨e, h⟩ | ⟨e, h⟩ | ⟨e, h⟩ | ⟨e, h⟩ | ⟨e, h⟩
  · exact absurd e (by decide)
  · exact absurd e (by decide)
  · exact absurd e (by decide)
  · exact absurd e (by decide)
  · exact absurd e (by decide)
  · exact absurd e (by decide)
  · exact h
  · exact absurd e (by decide)
theorem MayA.k7 {a b v g : Int} {tl al : Nat} : MayA 7 a b v g tl al ↔ (-1 ≤ b ∧ b ≤ 1152921504606846976 ∧ -1 ≤ v ∧ v ≤ 1152921504606846976 ∧ -1 ≤ g ∧ g ≤ 1152921504606846976 ∧ al ≤ 96 ∧ tl ≤ 640 ∧ 0 ≤ a ∧ a ≤ 4095) ∧ a = 0 ∧ b = 0 ∧ v = 0 ∧ g = 0 ∧ tl = 0 := by
  unfold MayA
  refine ⟨fun ⟨q1, q2, q3, q4, q5, q6, q7, q8, q9, q10, h⟩ => ⟨⟨q1, q2, q3, q4, q5, q6, q7, q8, q9, q10⟩, ?_⟩, fun ⟨⟨q1, q2, q3, q4, q5, q6, q7, q8, q9, q10⟩, h⟩ => ⟨q1, q2, q3, q4, q5, q6, q7, q8, q9, q10, .inr (.inr (.inr (.inr (.inr (.inr (.inr (⟨rfl, h⟩)))))))⟩⟩
  rcases h with ⟨e, h⟩ | ⟨e, h⟩ | ⟨e, h⟩ | ⟨e, h⟩ | ⟨e, h⟩ | ⟨e, h⟩ | ⟨e, h⟩ | ⟨e, h⟩
  · exact absurd e (by decide)
  · exact absurd e (by decide)
  · exact absurd e (by decide)
  · exact absurd e (by decide)
  · exact absurd e (by decide)
  · exact absurd e (by decide)
  · exact absurd e (by decide)
  · exact h
theorem cdD {α : Type} {p : Prop} [Decidable p] {x y z : α} (h1 : p → x = z) (h2 : ¬ p → y = z) : cond (decide p) x y = z := by
  by_cases h : p
  · rw [decide_eq_true h]; exact h1 h
  · rw [decide_eq_false h]; exact h2 h
theorem cdE {α : Type} {a b : Int} {x y z : α} (h1 : a = b → x = z) (h2 : ¬ a = b → y = z) : cond (a == b) x y = z := by
  by_cases h : a = b
  · rw [beq_iff_eq.2 h]; exact h1 h
  · rw [beq_eq_false_iff_ne.2 h]; exact h2 h
theorem cdS {α : Type} {t : List UInt8} {x y z : α} (h1 : t.length = 0 → x = z) (h2 : ¬ t.length = 0 → y = z) : cond (t == []) x y = z := by
  by_cases h : t = []
  · rw [beq_iff_eq.2 h]; exact h1 (by rw [h]; rfl)
  · rw [beq_eq_false_iff_ne.2 h]; exact h2 (fun q => h (List.eq_nil_of_length_eq_zero q))
def OkDo4 (l : List Int) (k a b v : Int) : Prop := (k = 0 ∧ b = 0 ∧ v = 0 ∨ k = 1 ∧ b = 0 ∨ k = 2 ∨ k = 3 ∧ b = 0) ∧ 0 ≤ a ∧ a < l.length ∧ -1152921504606846976 ≤ b ∧ b ≤ 1152921504606846976 ∧ -1152921504606846976 ≤ v ∧ v ≤ 1152921504606846976
instance instOkDo4 (l : List Int) (k a b v : Int) : Decidable (OkDo4 l k a b v) := by unfold OkDo4; infer_instance
def addC (n v : Int) : Int := max (min (n + v) 1152921504606846976) (-1152921504606846976)
def doC4 (l : List Int) (k a b v : Int) : List Int := if k = 1 ∨ k = 2 ∧ l.getD a.toNat 0 = b then l.set a.toNat v else if k = 3 then l.set a.toNat (addC (l.getD a.toNat 0) v) else l
def doG4 (l : List Int) (k a b : Int) : Int := if k = 0 ∨ k = 3 then l.getD a.toNat 0 else if k = 2 ∧ l.getD a.toNat 0 = b then 1 else 0
structure GoR4 where
  st : List Frame
  got : List Int
  over : Bool
  kind : Int
  a : Int
  b : Int
  v : Int
  g : Int
  is : Bool
def g4 (p n : Int) (r got : List Int) (kind a b v g : Int) : GoR4 := ⟨[⟨p, n, r⟩], got, false, kind, a, b, v, g, true⟩
def gEnd4 (l : List Int) : GoR4 := ⟨[], l, true, 0, 0, 0, 0, 0, false⟩
def regs1 (ar : List Int) : List Int := ar ++ List.replicate (96 - ar.length) 0
theorem ofInt64 (x : Nat) (hx : x < 2 ^ 64) : (BitVec.ofInt IntKind.i64.bits (x : Int)).toNat = x := by
  rw [BitVec.toNat_ofInt]
  simp only [IntKind.bits]
  omega
theorem bits_and_mask (n : Int) (k : Nat) (h0 : 0 ≤ n) (h1 : n < 9223372036854775808) (hk : k ≤ 62) :
    bits .i64 (fun _ u v => u &&& v) n ((2 ^ k - 1 : Nat) : Int) = n % ((2 ^ k : Nat) : Int) := by
  obtain ⟨m, rfl⟩ := Int.eq_ofNat_of_zero_le h0
  have hp : 2 ^ k ≤ 2 ^ 62 := Nat.pow_le_pow_right (by omega) hk
  have hq : 0 < 2 ^ k := Nat.pow_pos (by omega)
  unfold bits
  rw [BitVec.toNat_and, ofInt64 _ (by omega), ofInt64 _ (by omega), Nat.and_two_pow_sub_one_eq_mod]
  have := Nat.mod_lt m hq
  rw [wrap_id (by omega) (by omega)]
  simp
theorem bits_or_add (a b : Int) (k : Nat) (ha : 0 ≤ a) (hb : 0 ≤ b) (h1 : b < ((2 ^ k : Nat) : Int)) (h2 : a * ((2 ^ k : Nat) : Int) + b < 9223372036854775808) :
    bits .i64 (fun _ u v => u ||| v) (a * ((2 ^ k : Nat) : Int)) b = a * ((2 ^ k : Nat) : Int) + b := by
  obtain ⟨a, rfl⟩ := Int.eq_ofNat_of_zero_le ha
  obtain ⟨b, rfl⟩ := Int.eq_ofNat_of_zero_le hb
  have e : (a : Int) * ((2 ^ k : Nat) : Int) = ((a * 2 ^ k : Nat) : Int) := by simp
  have h2' : a * 2 ^ k + b < 9223372036854775808 := by rw [e] at h2; omega
  have h1' : b < 2 ^ k := by omega
  unfold bits
  rw [e, BitVec.toNat_or, ofInt64 _ (by omega), ofInt64 _ (by omega)]
  have h3 : a * 2 ^ k ||| b = a * 2 ^ k + b := by
    rw [Nat.mul_comm, ← Nat.two_pow_add_eq_or_of_lt h1']
  rw [h3, wrap_id (by omega) (by omega)]
  simp
theorem bits_or_add' (m a b : Int) (k : Nat) (hm : m = ((2 ^ k : Nat) : Int)) (ha : 0 ≤ a) (hb : 0 ≤ b) (h1 : b < m) (h2 : a * m + b < 9223372036854775808) :
    bits .i64 (fun _ u v => u ||| v) (a * m) b = a * m + b := by
  subst hm; exact bits_or_add a b k ha hb h1 h2
theorem bits_and_mask' (n m : Int) (k : Nat) (hm : m + 1 = ((2 ^ k : Nat) : Int)) (h0 : 0 ≤ n) (h1 : n < 9223372036854775808) (hk : k ≤ 62) :
    bits .i64 (fun _ u v => u &&& v) n m = n % (m + 1) := by
  have hq : 0 < 2 ^ k := Nat.pow_pos (by omega)
  rw [hm, ← bits_and_mask n k h0 h1 hk]
  congr 1
  omega
def mayLn (l : Line) : Bool := decide (0 ≤ l.offset ∧ l.offset < 4194304 ∧ 1 ≤ l.place ∧ l.place ≤ 1048575 ∧ 0 ≤ l.j ∧ l.j ≤ 3 ∧ 0 ≤ l.key ∧ l.key ≤ 7 ∧ 0 ≤ l.value ∧ l.value ≤ 255)
def wordL (l : Line) : Int := (l.offset + 1) * 8589934592 + l.place * 8192 + l.j * 2048 + l.key * 256 + l.value
def lineW (w : Int) : Line := ⟨w / 8589934592 - 1, w / 8192 % 1048576, w / 2048 % 4, w / 256 % 8, w % 256⟩
def readW (w : Int) : Option Line := if 0 ≤ w ∧ mayLn (lineW w) = true then some (lineW w) else none
def wordO (l : Line) : Int := bif mayLn l then wordL l else 0
theorem wordL_or {o p j k v : Int} (h : mayLn ⟨o, p, j, k, v⟩ = true) :
    bits .i64 (fun _ u v => u ||| v) (bits .i64 (fun _ u v => u ||| v) (bits .i64 (fun _ u v => u ||| v) (bits .i64 (fun _ u v => u ||| v) ((o + 1) * 8589934592) (p * 8192)) (j * 2048)) (k * 256)) v = wordL ⟨o, p, j, k, v⟩ := by
  unfold mayLn at h
  rw [decide_eq_true_eq] at h
  simp only at h
  have e1 := bits_or_add' 8589934592 (o + 1) (p * 8192) 33 (by decide) (by omega) (by omega) (by omega) (by omega)
  have e2 := bits_or_add' 8192 ((o + 1) * 1048576 + p) (j * 2048) 13 (by decide) (by omega) (by omega) (by omega) (by omega)
  have e3 := bits_or_add' 2048 (((o + 1) * 1048576 + p) * 4 + j) (k * 256) 11 (by decide) (by omega) (by omega) (by omega) (by omega)
  have e4 := bits_or_add' 256 ((((o + 1) * 1048576 + p) * 4 + j) * 8 + k) v 8 (by decide) (by omega) (by omega) (by omega) (by omega)
  rw [e1, show (o + 1) * 8589934592 + p * 8192 = ((o + 1) * 1048576 + p) * 8192 by omega, e2,
    show ((o + 1) * 1048576 + p) * 8192 + j * 2048 = (((o + 1) * 1048576 + p) * 4 + j) * 2048 by omega, e3,
    show (((o + 1) * 1048576 + p) * 4 + j) * 2048 + k * 256 = ((((o + 1) * 1048576 + p) * 4 + j) * 8 + k) * 256 by omega, e4]
  unfold wordL
  simp only
  omega
theorem wordL_lineW {w : Int} (h0 : 0 ≤ w) : wordL (lineW w) = w := by
  unfold lineW wordL
  simp only
  omega
theorem readW_some {w : Int} {l : Line} (h : readW w = some l) : mayLn l = true ∧ wordL l = w ∧ l = lineW w ∧ 0 ≤ w := by
  unfold readW at h
  split at h
  · rename_i q
    cases h
    exact ⟨q.2, wordL_lineW q.1, rfl, q.1⟩
  · cases h
def readO (w : Int) : Line := (readW w).getD ⟨0, 0, 0, 0, 0⟩
def flo : Int → List Int → Int
  | n, [] => n
  | n, s :: l => flo (if 0 < s ∧ s - 1 < n then s - 1 else n) l
def oBeg (k : Int) (r got : List Int) (x : Int) : GoR4 :=
  if k = 0 then g4 92 1 r got 0 0 0 0 0
  else if k = 1 then g4 92 2 (r.set 1 x) got 1 (lRow 9 (r.getD 0 0) 4) 0 (x + 1) 0
  else if k = 2 then g4 92 3 r got 0 3 0 0 0
  else if r.getD 1 0 < x then g4 92 1 r got 0 0 0 0 0 else gEnd4 [r.getD 1 0]
def oMarkA (k : Int) (r got : List Int) (x : Int) : GoR4 :=
  if k = 0 then g4 93 1 r got 0 0 0 0 0
  else if k = 1 then g4 93 2 (r.set 0 x) got 0 3 0 0 0
  else if k = 2 then (if x < r.getD 0 0 then g4 93 3 r got 2 3 x (r.getD 0 0) 0 else g4 93 4 (r.set 1 0) got 0 9 0 0 0)
  else if k = 3 then (if x = 0 then g4 93 2 r got 0 3 0 0 0 else g4 93 4 (r.set 1 0) got 0 9 0 0 0)
  else if r.getD 1 0 = 3 then gEnd4 [flo (r.getD 0 0) [r.getD 2 0, r.getD 3 0, r.getD 4 0, x]]
  else g4 93 4 ((r.set (2 + (r.getD 1 0).toNat) x).set 1 (r.getD 1 0 + 1)) got 0 (10 + r.getD 1 0) 0 0 0
def oMarkB (k : Int) (r got : List Int) (x : Int) : GoR4 :=
  if k = 0 then g4 93 1 r got 0 0 0 0 0
  else if k = 1 then g4 93 2 (r.set 0 x) got 0 3 0 0 0
  else if k = 2 then (if x < r.getD 0 0 then g4 93 3 (r.set 1 x) got 2 3 x (r.getD 0 0) 0 else g4 93 4 (r.set 2 0) got 0 9 0 0 0)
  else if k = 3 then (if x = 0 then g4 93 2 r got 0 3 0 0 0 else g4 93 4 (r.set 2 0) got 0 9 0 0 0)
  else if r.getD 2 0 = 3 then gEnd4 [flo (r.getD 0 0) [r.getD 3 0, r.getD 4 0, r.getD 5 0, x]]
  else g4 93 4 ((r.set (3 + (r.getD 2 0).toNat) x).set 2 (r.getD 2 0 + 1)) got 0 (10 + r.getD 2 0) 0 0 0
def goO (own : Bool) (st : List Frame) (got : List Int) : GoR4 := match st with
  | [f] => if f.prog = 92 then oBeg f.at' f.r got (got.headD 0) else bif own then oMarkB f.at' f.r got (got.headD 0) else oMarkA f.at' f.r got (got.headD 0)
  | _ => gEnd4 []
def okBeg (k : Int) (r got : List Int) : Prop :=
  k = 0 ∧ got = [] ∨ ∃ x, got = [x] ∧ 1 ≤ k ∧ k ≤ 3 ∧ 0 ≤ x ∧ x ≤ 1000000000 ∧ 0 ≤ r.getD 0 0 ∧ r.getD 0 0 ≤ 3
def okMark (own : Bool) (k : Int) (r got : List Int) : Prop :=
  k = 0 ∧ got = [] ∨ ∃ x, got = [x] ∧ 1 ≤ k ∧ k ≤ 4 ∧ 0 ≤ x ∧ x ≤ 1000000000 ∧ (2 ≤ k → 0 ≤ r.getD 0 0 ∧ r.getD 0 0 ≤ 1000000000) ∧
    (k = 4 → bif own then 0 ≤ r.getD 2 0 ∧ r.getD 2 0 ≤ 3 ∧ (r.getD 2 0 = 3 → r.getD 3 0 ≤ 1000000000 ∧ r.getD 4 0 ≤ 1000000000 ∧ r.getD 5 0 ≤ 1000000000)
      else 0 ≤ r.getD 1 0 ∧ r.getD 1 0 ≤ 3 ∧ (r.getD 1 0 = 3 → r.getD 2 0 ≤ 1000000000 ∧ r.getD 3 0 ≤ 1000000000 ∧ r.getD 4 0 ≤ 1000000000))
def okO (own : Bool) (c : Int) (st : List Frame) (got : List Int) : Prop :=
  0 ≤ c ∧ c ≤ 3 ∧ ∃ p k r, st = [⟨p, k, r⟩] ∧ r.length = 96 ∧ (p = 92 ∧ okBeg k r got ∨ p = 93 ∧ okMark own k r got)
def mkO (c p k : Int) (r got : List Int) : Task := ⟨c, [⟨p, k, r⟩], got, false⟩
def sameG (A B : GoR4) : Prop := A.is = B.is ∧ A.kind = B.kind ∧ A.a = B.a ∧ A.b = B.b ∧ A.v = B.v ∧ A.g = B.g ∧ A.got = B.got
theorem sameG_g4 {p n : Int} {r q got : List Int} {kd a b v g : Int} : sameG (g4 p n r got kd a b v g) (g4 p n q got kd a b v g) := ⟨rfl, rfl, rfl, rfl, rfl, rfl, rfl⟩
theorem sameG_end {l : List Int} : sameG (gEnd4 l) (gEnd4 l) := ⟨rfl, rfl, rfl, rfl, rfl, rfl, rfl⟩
theorem oB0 (own : Bool) (r got : List Int) : goO own [⟨92, 0, r⟩] got = g4 92 1 r got 0 0 0 0 0 := rfl
theorem oB1 (own : Bool) (r : List Int) (x : Int) : goO own [⟨92, 1, r⟩] [x] = g4 92 2 (r.set 1 x) [x] 1 (lRow 9 (r.getD 0 0) 4) 0 (x + 1) 0 := rfl
theorem oB2 (own : Bool) (r got : List Int) : goO own [⟨92, 2, r⟩] got = g4 92 3 r got 0 3 0 0 0 := rfl
theorem oB3 (own : Bool) (r : List Int) (x : Int) : goO own [⟨92, 3, r⟩] [x] = if r.getD 1 0 < x then g4 92 1 r [x] 0 0 0 0 0 else gEnd4 [r.getD 1 0] := rfl
theorem oM0 (own : Bool) (r got : List Int) : goO own [⟨93, 0, r⟩] got = g4 93 1 r got 0 0 0 0 0 := by cases own <;> rfl
theorem oM1 (own : Bool) (r : List Int) (x : Int) : goO own [⟨93, 1, r⟩] [x] = g4 93 2 (r.set 0 x) [x] 0 3 0 0 0 := by cases own <;> rfl
theorem oA2 (r : List Int) (x : Int) : goO false [⟨93, 2, r⟩] [x] = if x < r.getD 0 0 then g4 93 3 r [x] 2 3 x (r.getD 0 0) 0 else g4 93 4 (r.set 1 0) [x] 0 9 0 0 0 := rfl
theorem oC2 (r : List Int) (x : Int) : goO true [⟨93, 2, r⟩] [x] = if x < r.getD 0 0 then g4 93 3 (r.set 1 x) [x] 2 3 x (r.getD 0 0) 0 else g4 93 4 (r.set 2 0) [x] 0 9 0 0 0 := rfl
theorem oA3 (r : List Int) (x : Int) : goO false [⟨93, 3, r⟩] [x] = if x = 0 then g4 93 2 r [x] 0 3 0 0 0 else g4 93 4 (r.set 1 0) [x] 0 9 0 0 0 := rfl
theorem oC3 (r : List Int) (x : Int) : goO true [⟨93, 3, r⟩] [x] = if x = 0 then g4 93 2 r [x] 0 3 0 0 0 else g4 93 4 (r.set 2 0) [x] 0 9 0 0 0 := rfl
theorem oA4 (r : List Int) (x : Int) : goO false [⟨93, 4, r⟩] [x] = if r.getD 1 0 = 3 then gEnd4 [flo (r.getD 0 0) [r.getD 2 0, r.getD 3 0, r.getD 4 0, x]]
  else g4 93 4 ((r.set (2 + (r.getD 1 0).toNat) x).set 1 (r.getD 1 0 + 1)) [x] 0 (10 + r.getD 1 0) 0 0 0 := rfl
theorem oC4 (r : List Int) (x : Int) : goO true [⟨93, 4, r⟩] [x] = if r.getD 2 0 = 3 then gEnd4 [flo (r.getD 0 0) [r.getD 3 0, r.getD 4 0, r.getD 5 0, x]]
  else g4 93 4 ((r.set (3 + (r.getD 2 0).toNat) x).set 2 (r.getD 2 0 + 1)) [x] 0 (10 + r.getD 2 0) 0 0 0 := rfl
def frC (cs : List Int) : Int := cs.getD 0 0
def mkC (cs : List Int) : Int := cs.getD 3 0
def scC (cs : List Int) (i : Nat) : Int := cs.getD (9 + i) 0
def opB (opn : List Bool) (i : Nat) : Bool := opn.getD i false
def stA (start : List Int) (i : Nat) : Int := start.getD i 0
def SawIt (opn : List Bool) (start : List Int) (w : Int) (i : Nat) (v : Int) : Prop := opB opn i = true → w ≤ stA start i ∨ 0 < v ∧ v - 1 ≤ stA start i
def JB (cs : List Int) (opn : List Bool) (c k : Int) (r got : List Int) : Prop :=
  r.length = 96 ∧ r.getD 0 0 = c ∧ opB opn c.toNat = false ∧
  (k = 0 ∧ got = [] ∨ ∃ x, got = [x] ∧ 0 ≤ x ∧ x ≤ frC cs ∧ (k = 1 ∨ 0 ≤ r.getD 1 0 ∧ r.getD 1 0 ≤ frC cs ∧ scC cs c.toNat = r.getD 1 0 + 1 ∧ (k = 2 ∨ k = 3)))
def JM4 (cs : List Int) (opn : List Bool) (start : List Int) (r q : List Int) (x : Int) : Prop :=
  r.getD 0 0 ≤ mkC cs ∧ ∃ j : Nat, j ≤ 3 ∧ r.getD 1 0 = j ∧ q.getD 2 0 = j ∧ (∀ i, i < j → r.getD (2 + i) 0 = q.getD (3 + i) 0 ∧ 0 ≤ r.getD (2 + i) 0 ∧ r.getD (2 + i) 0 ≤ frC cs + 1 ∧ SawIt opn start (r.getD 0 0) i (r.getD (2 + i) 0)) ∧ SawIt opn start (r.getD 0 0) j x
def JM (cs : List Int) (opn : List Bool) (start : List Int) (k : Int) (r q got : List Int) : Prop :=
  r.length = 96 ∧ q.length = 96 ∧
  (k = 0 ∧ got = [] ∨ ∃ x, got = [x] ∧ 0 ≤ x ∧ x ≤ frC cs + 1 ∧ (k = 1 ∧ x ≤ frC cs ∨ r.getD 0 0 = q.getD 0 0 ∧ 0 ≤ r.getD 0 0 ∧ r.getD 0 0 ≤ frC cs ∧
    (k = 2 ∧ x ≤ mkC cs ∨ k = 3 ∧ (x = 0 ∨ r.getD 0 0 ≤ mkC cs) ∨ k = 4 ∧ JM4 cs opn start r q x)))
theorem JB.ok {cs : List Int} {opn : List Bool} {c k : Int} {r got : List Int} (h : JB cs opn c k r got) (hf : frC cs ≤ 1000000) (c0 : 0 ≤ c) (c3 : c ≤ 3) (own : Bool) : okO own c [⟨92, k, r⟩] got := by
  obtain ⟨h1, h2, _, h⟩ := h
  refine ⟨c0, c3, 92, k, r, rfl, h1, .inl ⟨rfl, ?_⟩⟩
  rcases h with h | ⟨x, e, x0, x1, h⟩
  · exact .inl h
  · refine .inr ⟨x, e, ?_, ?_, x0, by omega, by omega, by omega⟩
    · rcases h with h | ⟨_, _, _, h | h⟩ <;> omega
    · rcases h with h | ⟨_, _, _, h | h⟩ <;> omega
theorem JM.ok {cs : List Int} {opn : List Bool} {start : List Int} {k c : Int} {r q got : List Int} (h : JM cs opn start k r q got) (hf : frC cs ≤ 1000000) (c0 : 0 ≤ c) (c3 : c ≤ 3) :
    okO false c [⟨93, k, r⟩] got ∧ okO true c [⟨93, k, q⟩] got ∧ sameG (goO false [⟨93, k, r⟩] got) (goO true [⟨93, k, q⟩] got) := by
  obtain ⟨h1, h2, h⟩ := h
  rcases h with ⟨rfl, rfl⟩ | ⟨x, rfl, x0, x1, ⟨rfl, x2⟩ | ⟨e, w0, w1, ⟨rfl, x2⟩ | ⟨rfl, x2⟩ | ⟨rfl, h4⟩⟩⟩
  · exact ⟨⟨c0, c3, 93, 0, r, rfl, h1, .inr ⟨rfl, .inl ⟨rfl, rfl⟩⟩⟩, ⟨c0, c3, 93, 0, q, rfl, h2, .inr ⟨rfl, .inl ⟨rfl, rfl⟩⟩⟩, by rw [oM0, oM0]; exact sameG_g4⟩
  · exact ⟨⟨c0, c3, 93, 1, r, rfl, h1, .inr ⟨rfl, .inr ⟨x, rfl, by omega, by omega, x0, by omega, by omega, by omega⟩⟩⟩, ⟨c0, c3, 93, 1, q, rfl, h2, .inr ⟨rfl, .inr ⟨x, rfl, by omega, by omega, x0, by omega, by omega, by omega⟩⟩⟩, by rw [oM1, oM1]; exact sameG_g4⟩
  · refine ⟨⟨c0, c3, 93, 2, r, rfl, h1, .inr ⟨rfl, .inr ⟨x, rfl, by omega, by omega, x0, by omega, by omega, by omega⟩⟩⟩, ⟨c0, c3, 93, 2, q, rfl, h2, .inr ⟨rfl, .inr ⟨x, rfl, by omega, by omega, x0, by omega, by omega, by omega⟩⟩⟩, ?_⟩
    rw [oA2, oC2, ← e]
    split <;> exact sameG_g4
  · refine ⟨⟨c0, c3, 93, 3, r, rfl, h1, .inr ⟨rfl, .inr ⟨x, rfl, by omega, by omega, x0, by omega, by omega, by omega⟩⟩⟩, ⟨c0, c3, 93, 3, q, rfl, h2, .inr ⟨rfl, .inr ⟨x, rfl, by omega, by omega, x0, by omega, by omega, by omega⟩⟩⟩, ?_⟩
    rw [oA3, oC3]
    split <;> exact sameG_g4
  · obtain ⟨h5, j, j3, e1, e2, hj, _⟩ := h4
    refine ⟨⟨c0, c3, 93, 4, r, rfl, h1, .inr ⟨rfl, .inr ⟨x, rfl, by omega, by omega, x0, by omega, by omega, fun _ => ?_⟩⟩⟩, ⟨c0, c3, 93, 4, q, rfl, h2, .inr ⟨rfl, .inr ⟨x, rfl, by omega, by omega, x0, by omega, by omega, fun _ => ?_⟩⟩⟩, ?_⟩
    · refine ⟨by omega, by omega, fun h3 => ?_⟩
      have a0 : r.getD 2 0 ≤ frC cs + 1 := (hj 0 (by omega)).2.2.1
      have a1 : r.getD 3 0 ≤ frC cs + 1 := (hj 1 (by omega)).2.2.1
      have a2 : r.getD 4 0 ≤ frC cs + 1 := (hj 2 (by omega)).2.2.1
      exact ⟨by omega, by omega, by omega⟩
    · refine ⟨by omega, by omega, fun h3 => ?_⟩
      have a0 : r.getD 2 0 = q.getD 3 0 ∧ _ ∧ r.getD 2 0 ≤ frC cs + 1 ∧ _ := hj 0 (by omega)
      have a1 : r.getD 3 0 = q.getD 4 0 ∧ _ ∧ r.getD 3 0 ≤ frC cs + 1 ∧ _ := hj 1 (by omega)
      have a2 : r.getD 4 0 = q.getD 5 0 ∧ _ ∧ r.getD 4 0 ≤ frC cs + 1 ∧ _ := hj 2 (by omega)
      exact ⟨by omega, by omega, by omega⟩
    · rw [oA4, oC4, e1, e2]
      split
      · have a0 : r.getD 2 0 = q.getD 3 0 := (hj 0 (by omega)).1
        have a1 : r.getD 3 0 = q.getD 4 0 := (hj 1 (by omega)).1
        have a2 : r.getD 4 0 = q.getD 5 0 := (hj 2 (by omega)).1
        rw [← e, a0, a1, a2]
        exact sameG_end
      · exact sameG_g4
theorem JB.mono {cs cs' : List Int} {opn opn' : List Bool} {c k : Int} {r got : List Int} (h : JB cs opn c k r got) (hf : frC cs ≤ frC cs') (hs : scC cs' c.toNat = scC cs c.toNat) (ho : opB opn' c.toNat = opB opn c.toNat) : JB cs' opn' c k r got := by
  obtain ⟨h1, h2, h3, h⟩ := h
  refine ⟨h1, h2, by rw [ho]; exact h3, ?_⟩
  rcases h with h | ⟨x, e, x0, x1, h⟩
  · exact .inl h
  · refine .inr ⟨x, e, x0, by omega, ?_⟩
    rcases h with h | ⟨a, b, d, h⟩
    · exact .inl h
    · exact .inr ⟨a, by omega, by omega, h⟩
theorem JM.mono {cs cs' : List Int} {opn opn' : List Bool} {start start' : List Int} {k : Int} {r q got : List Int} (h : JM cs opn start k r q got) (hf : frC cs ≤ frC cs') (hm : mkC cs ≤ mkC cs')
    (ho : ∀ i, opB opn' i = true → opB opn i = true ∧ stA start' i = stA start i ∨ mkC cs ≤ stA start' i) : JM cs' opn' start' k r q got := by
  obtain ⟨h1, h2, h⟩ := h
  refine ⟨h1, h2, ?_⟩
  rcases h with h | ⟨x, e, x0, x1, h⟩
  · exact .inl h
  · refine .inr ⟨x, e, x0, by omega, ?_⟩
    rcases h with h | ⟨e, w0, w1, h⟩
    · exact .inl ⟨h.1, by omega⟩
    refine .inr ⟨e, w0, by omega, ?_⟩
    rcases h with h | h | ⟨hk, w2, j, j3, e1, e2, hj, hx⟩
    · exact .inl ⟨h.1, by omega⟩
    · exact .inr (.inl ⟨h.1, by omega⟩)
    · have saw : ∀ i v, SawIt opn start (r.getD 0 0) i v → SawIt opn' start' (r.getD 0 0) i v := fun i v hv ho' => by
        rcases ho i ho' with ⟨a, b⟩ | b
        · rw [b]; exact hv a
        · exact .inl (by omega)
      refine .inr (.inr ⟨hk, by omega, j, j3, e1, e2, fun i hi => ?_, saw _ _ hx⟩)
      obtain ⟨a, b, d, f⟩ := hj i hi
      exact ⟨a, b, by omega, saw _ _ f⟩
theorem doC4_load {l : List Int} {a b v : Int} : doC4 l 0 a b v = l := by simp [doC4]
theorem doG4_load {l : List Int} {a b : Int} : doG4 l 0 a b = l.getD a.toNat 0 := by simp [doG4]
theorem doC4_store {l : List Int} {a b v : Int} : doC4 l 1 a b v = l.set a.toNat v := by simp [doC4]
theorem doG4_store {l : List Int} {a b : Int} : doG4 l 1 a b = 0 := by simp [doG4]
theorem doC4_cas {l : List Int} {a b v : Int} : doC4 l 2 a b v = if l.getD a.toNat 0 = b then l.set a.toNat v else l := by simp [doC4]
theorem doG4_cas {l : List Int} {a b : Int} : doG4 l 2 a b = if l.getD a.toNat 0 = b then 1 else 0 := by simp [doG4]
theorem cellsOK_set {l : List Int} {i : Nat} {v : Int} (h : cellsOK l = true) (hv : -1152921504606846976 ≤ v ∧ v ≤ 1152921504606846976) : cellsOK (l.set i v) = true := by
  unfold cellsOK at *
  simp only [Bool.and_eq_true, decide_eq_true_eq, List.length_set, List.all_eq_true] at *
  refine ⟨h.1, fun x hx => ?_⟩
  rcases List.mem_or_eq_of_mem_set hx with hx | rfl
  · exact h.2 x hx
  · unfold fitsC; rw [decide_eq_true hv.1, decide_eq_true hv.2]; rfl
theorem flo_le : ∀ (l : List Int) (n : Int), flo n l ≤ n
  | [], n => Int.le_refl n
  | s :: l, n => by
    have := flo_le l (if 0 < s ∧ s - 1 < n then s - 1 else n)
    unfold flo
    split at this <;> rename_i h
    · rw [if_pos h]; omega
    · rw [if_neg h]; omega
theorem flo_saw : ∀ (l : List Int) (n v : Int), v ∈ l → 0 < v → flo n l ≤ v - 1
  | s :: l, n, v, hv, h0 => by
    unfold flo
    rcases List.mem_cons.1 hv with rfl | hv
    · have := flo_le l (if 0 < v ∧ v - 1 < n then v - 1 else n)
      split at this <;> rename_i h
      · rw [if_pos h]; omega
      · rw [if_neg h]; omega
    · exact flo_saw l _ v hv h0
structure OCells (p : Int) (cs cs' : List Int) (c : Nat) : Prop where
  len : cs'.length = 771
  ok : cellsOK cs' = true
  fr : frC cs' = frC cs
  mr : mkC cs ≤ mkC cs' ∧ mkC cs' ≤ frC cs
  sc : ∀ i, i ≠ c ∨ p = 93 → scC cs' i = scC cs i
  sb : ∀ i, i < 4 → 0 ≤ scC cs' i ∧ scC cs' i ≤ frC cs + 1
structure OC (cs : List Int) : Prop where
  len : cs.length = 771
  ok : cellsOK cs = true
  mr : 0 ≤ mkC cs ∧ mkC cs ≤ frC cs
  fr : frC cs ≤ 1000000
  sb : ∀ i, i < 4 → 0 ≤ scC cs i ∧ scC cs i ≤ frC cs + 1
theorem OC.same {cs : List Int} (h : OC cs) (p : Int) (c : Nat) : OCells p cs cs c := ⟨h.len, h.ok, rfl, ⟨Int.le_refl _, h.mr.2⟩, fun _ _ => rfl, h.sb⟩
theorem OCells.next {p : Int} {cs cs' : List Int} {c : Nat} (h : OCells p cs cs' c) (hc : OC cs) : OC cs' :=
  ⟨h.len, h.ok, ⟨by have := hc.mr; have := h.mr; omega, by rw [h.fr]; exact h.mr.2⟩, by rw [h.fr]; exact hc.fr, fun i hi => by rw [h.fr]; exact h.sb i hi⟩
theorem JB.step {cs : List Int} {opn : List Bool} {c k : Int} {r got : List Int} (h : JB cs opn c k r got) (hc : OC cs) (c0 : 0 ≤ c) (c3 : c ≤ 3) (hi : (goO false [⟨92, k, r⟩] got).is = true) :
    ∃ n r' kd a b v, (∀ own, goO own [⟨92, k, r⟩] got = g4 92 n r' got kd a b v 0) ∧ OkDo4 cs kd a b v ∧ OCells 92 cs (doC4 cs kd a b v) c.toNat ∧ JB (doC4 cs kd a b v) opn c n r' [doG4 cs kd a b] ∧
      ((goO false [⟨92, n, r'⟩] [doG4 cs kd a b]).is = false → ∃ s, (goO false [⟨92, n, r'⟩] [doG4 cs kd a b]) = gEnd4 [s] ∧ mkC (doC4 cs kd a b v) ≤ s ∧ scC (doC4 cs kd a b v) c.toNat = s + 1 ∧ s ≤ frC cs) := by
  obtain ⟨h1, h2, h3, h⟩ := h
  have hl := hc.len
  have hf := hc.fr
  have hm := hc.mr
  have hoL : ∀ a : Int, 0 ≤ a → a < 771 → OkDo4 cs 0 a 0 0 := fun a a0 a1 => ⟨.inl ⟨rfl, rfl, rfl⟩, a0, by rw [hl]; exact a1, by decide, by decide, by decide, by decide⟩
  rcases h with ⟨rfl, rfl⟩ | ⟨x, rfl, x0, x1, rfl | ⟨s0, s1, s2, rfl | rfl⟩⟩
  · refine ⟨1, r, 0, 0, 0, 0, fun own => oB0 own r [], hoL 0 (by decide) (by decide), by rw [doC4_load]; exact hc.same _ _, ?_, fun q => by rw [doG4_load, oB1] at q; cases q⟩
    rw [doC4_load, doG4_load]
    exact ⟨h1, h2, h3, .inr ⟨_, rfl, by show 0 ≤ frC cs; omega, Int.le_refl _, .inl rfl⟩⟩
  · have ha : lRow 9 (r.getD 0 0) 4 = 9 + c := by rw [h2, lRow, if_pos ⟨c0, by omega⟩]
    have hn : (9 + c).toNat = 9 + c.toNat := by omega
    refine ⟨2, r.set 1 x, 1, 9 + c, 0, x + 1, fun own => by rw [oB1, ha], ⟨.inr (.inl ⟨rfl, rfl⟩), by omega, by omega, by decide, by decide, by omega, by omega⟩, ?_, ?_, fun q => by rw [doG4_store, oB2] at q; cases q⟩
    · rw [doC4_store, hn]
      have hsc : ∀ i, scC (cs.set (9 + c.toNat) (x + 1)) i = if i = c.toNat then x + 1 else scC cs i := fun i => by
        unfold scC
        rw [getD_set _ _ _ _ _ (by omega)]
        by_cases e : i = c.toNat
        · rw [if_pos (by omega), if_pos e]
        · rw [if_neg (by omega), if_neg e]
      have hmk : mkC (cs.set (9 + c.toNat) (x + 1)) = mkC cs := by unfold mkC; rw [getD_set_ne' (by omega)]
      have hfr : frC (cs.set (9 + c.toNat) (x + 1)) = frC cs := by unfold frC; rw [getD_set_ne' (by omega)]
      refine ⟨by rw [List.length_set]; exact hl, cellsOK_set hc.ok (by omega), hfr, by rw [hmk]; omega, fun i hi => ?_, fun i hi => ?_⟩
      · rw [hsc, if_neg (by omega)]
      · rw [hsc]
        split
        · omega
        · exact hc.sb i hi
    · rw [doC4_store, doG4_store, hn]
      refine ⟨by rw [List.length_set]; exact h1, by rw [getD_set_ne' (by decide)]; exact h2, h3, .inr ⟨0, rfl, Int.le_refl _, ?_, .inr ⟨?_, ?_, ?_, .inl rfl⟩⟩⟩
      · unfold frC; rw [getD_set_ne' (by omega)]; have : frC cs = cs.getD 0 0 := rfl; omega
      · rw [getD_set_eq (by omega)]; exact x0
      · rw [getD_set_eq (by omega)]; unfold frC; rw [getD_set_ne' (by omega)]; exact x1
      · unfold scC; rw [getD_set_eq (by omega), getD_set_eq (by omega)]
  · refine ⟨3, r, 0, 3, 0, 0, fun own => oB2 own r [x], hoL 3 (by decide) (by decide), by rw [doC4_load]; exact hc.same _ _, ?_, fun q => ?_⟩
    · rw [doC4_load, doG4_load]
      exact ⟨h1, h2, h3, .inr ⟨_, rfl, hm.1, hm.2, .inr ⟨s0, s1, s2, .inr rfl⟩⟩⟩
    · rw [doG4_load, oB3] at q ⊢
      split at q
      · cases q
      · rename_i hlt
        rw [if_neg hlt, doC4_load]
        have : mkC cs = cs.getD (Int.toNat 3) 0 := rfl
        exact ⟨_, rfl, by omega, s2, s1⟩
  · rw [oB3] at hi
    split at hi
    · rename_i hlt
      refine ⟨1, r, 0, 0, 0, 0, fun own => by rw [oB3, if_pos hlt], hoL 0 (by decide) (by decide), by rw [doC4_load]; exact hc.same _ _, ?_, fun q => by rw [doG4_load, oB1] at q; cases q⟩
      rw [doC4_load, doG4_load]
      exact ⟨h1, h2, h3, .inr ⟨_, rfl, by show 0 ≤ frC cs; omega, Int.le_refl _, .inl rfl⟩⟩
    · cases hi
theorem JM.look {cs : List Int} {opn : List Bool} {start : List Int} {r q : List Int} (h1 : r.length = 96) (h2 : q.length = 96) (e : r.getD 0 0 = q.getD 0 0) (w0 : 0 ≤ r.getD 0 0) (w1 : r.getD 0 0 ≤ mkC cs) (hc : OC cs)
    (ho : ∀ i, i < 4 → opB opn i = true → scC cs i = stA start i + 1 ∧ 0 ≤ stA start i) :
    OkDo4 cs 0 9 0 0 ∧ OCells 93 cs (doC4 cs 0 9 0 0) 0 ∧ JM (doC4 cs 0 9 0 0) opn start 4 (r.set 1 0) (q.set 2 0) [doG4 cs 0 9 0] ∧ (goO false [⟨93, 4, r.set 1 0⟩] [doG4 cs 0 9 0]).is = true := by
  have hl := hc.len
  have hm := hc.mr
  have hs := hc.sb 0 (by decide)
  refine ⟨⟨.inl ⟨rfl, rfl, rfl⟩, by decide, by omega, by decide, by decide, by decide, by decide⟩, by rw [doC4_load]; exact hc.same _ _, ?_, ?_⟩
  · rw [doC4_load, doG4_load]
    have hx : cs.getD (Int.toNat 9) 0 = scC cs 0 := rfl
    rw [hx]
    have er : (r.set 1 0).getD 0 0 = r.getD 0 0 := getD_set_ne' (by decide)
    have eq : (q.set 2 0).getD 0 0 = q.getD 0 0 := getD_set_ne' (by decide)
    refine ⟨by rw [List.length_set]; exact h1, by rw [List.length_set]; exact h2, .inr ⟨_, rfl, hs.1, hs.2, .inr ⟨by rw [er, eq]; exact e, by rw [er]; exact w0, by rw [er]; omega, .inr (.inr ⟨rfl, by rw [er]; exact w1, 0, by decide, getD_set_eq (by omega), getD_set_eq (by omega), fun i hi => by omega, fun hop => ?_⟩)⟩⟩⟩
    have := ho 0 (by decide) hop
    exact .inr ⟨by omega, by omega⟩
  · rw [oA4, getD_set_eq (by omega), if_neg (by decide)]; rfl
theorem JM.step {cs : List Int} {opn : List Bool} {start : List Int} {k : Int} {r q got : List Int} (h : JM cs opn start k r q got) (hc : OC cs) (ho : ∀ i, i < 4 → opB opn i = true → scC cs i = stA start i + 1 ∧ 0 ≤ stA start i)
    (hi : (goO false [⟨93, k, r⟩] got).is = true) :
    ∃ n r' q' kd a b v, goO false [⟨93, k, r⟩] got = g4 93 n r' got kd a b v 0 ∧ goO true [⟨93, k, q⟩] got = g4 93 n q' got kd a b v 0 ∧ OkDo4 cs kd a b v ∧ OCells 93 cs (doC4 cs kd a b v) 0 ∧ JM (doC4 cs kd a b v) opn start n r' q' [doG4 cs kd a b] ∧
      ((goO false [⟨93, n, r'⟩] [doG4 cs kd a b]).is = false → ∃ s, (goO false [⟨93, n, r'⟩] [doG4 cs kd a b]) = gEnd4 [s] ∧ s ≤ mkC (doC4 cs kd a b v) ∧ ∀ i, i < 4 → opB opn i = true → s ≤ stA start i) := by
  obtain ⟨h1, h2, h⟩ := h
  have hl := hc.len
  have hf := hc.fr
  have hm := hc.mr
  have hoL : ∀ a : Int, 0 ≤ a → a < 771 → OkDo4 cs 0 a 0 0 := fun a a0 a1 => ⟨.inl ⟨rfl, rfl, rfl⟩, a0, by rw [hl]; exact a1, by decide, by decide, by decide, by decide⟩
  rcases h with ⟨rfl, rfl⟩ | ⟨x, rfl, x0, x1, ⟨rfl, x2⟩ | ⟨e, w0, w1, ⟨rfl, x2⟩ | ⟨rfl, x2⟩ | ⟨rfl, h4⟩⟩⟩
  · refine ⟨1, r, q, 0, 0, 0, 0, oM0 _ _ _, oM0 _ _ _, hoL 0 (by decide) (by decide), by rw [doC4_load]; exact hc.same _ _, ?_, fun q => by rw [doG4_load, oM1] at q; cases q⟩
    rw [doC4_load, doG4_load]
    have hx : cs.getD (Int.toNat 0) 0 = frC cs := rfl
    rw [hx]
    exact ⟨h1, h2, .inr ⟨_, rfl, by omega, by omega, .inl ⟨rfl, Int.le_refl _⟩⟩⟩
  · refine ⟨2, r.set 0 x, q.set 0 x, 0, 3, 0, 0, oM1 _ _ _, oM1 _ _ _, hoL 3 (by decide) (by decide), by rw [doC4_load]; exact hc.same _ _, ?_, fun q => ?_⟩
    · rw [doC4_load, doG4_load]
      have hx : cs.getD (Int.toNat 3) 0 = mkC cs := rfl
      have er : (r.set 0 x).getD 0 0 = x := getD_set_eq (by omega)
      have eq : (q.set 0 x).getD 0 0 = x := getD_set_eq (by omega)
      rw [hx]
      exact ⟨by rw [List.length_set]; exact h1, by rw [List.length_set]; exact h2, .inr ⟨_, rfl, hm.1, by omega, .inr ⟨by rw [er, eq], by rw [er]; exact x0, by rw [er]; exact x2, .inl ⟨rfl, Int.le_refl _⟩⟩⟩⟩
    · rw [doG4_load, oA2] at q
      split at q <;> cases q
  · by_cases hlt : x < r.getD 0 0
    · refine ⟨3, r, q.set 1 x, 2, 3, x, r.getD 0 0, by rw [oA2, if_pos hlt], by rw [oC2, ← e, if_pos hlt], ⟨.inr (.inr (.inl rfl)), by decide, by omega, by omega, by omega, by omega, by omega⟩, ?_, ?_, fun q => ?_⟩
      · rw [doC4_cas]
        split
        · rename_i hb
          have hmk : mkC (cs.set (Int.toNat 3) (r.getD 0 0)) = r.getD 0 0 := getD_set_eq (by omega)
          have hfr : frC (cs.set (Int.toNat 3) (r.getD 0 0)) = frC cs := getD_set_ne' (by decide)
          have hsc : ∀ i, scC (cs.set (Int.toNat 3) (r.getD 0 0)) i = scC cs i := fun i => getD_set_ne' (by omega)
          have hb : mkC cs = x := hb
          exact ⟨by rw [List.length_set]; exact hl, cellsOK_set hc.ok (by omega), hfr, by rw [hmk]; omega, fun i _ => hsc i, fun i hi => by rw [hsc]; exact hc.sb i hi⟩
        · exact hc.same _ _
      · rw [doC4_cas, doG4_cas]
        have eq : (q.set 1 x).getD 0 0 = q.getD 0 0 := getD_set_ne' (by decide)
        split
        · have hmk : mkC (cs.set (Int.toNat 3) (r.getD 0 0)) = r.getD 0 0 := getD_set_eq (by omega)
          have hfr : frC (cs.set (Int.toNat 3) (r.getD 0 0)) = frC cs := getD_set_ne' (by decide)
          exact ⟨h1, by rw [List.length_set]; exact h2, .inr ⟨_, rfl, by decide, by omega, .inr ⟨by rw [eq]; exact e, w0, by rw [hfr]; exact w1, .inr (.inl ⟨rfl, .inr (by rw [hmk]; exact Int.le_refl _)⟩)⟩⟩⟩
        · exact ⟨h1, by rw [List.length_set]; exact h2, .inr ⟨_, rfl, by decide, by omega, .inr ⟨by rw [eq]; exact e, w0, w1, .inr (.inl ⟨rfl, .inl rfl⟩)⟩⟩⟩
      · rw [oA3] at q
        split at q <;> cases q
    · obtain ⟨a1, a2, a3, a4⟩ := JM.look h1 h2 e w0 (by omega) hc ho
      refine ⟨4, r.set 1 0, q.set 2 0, 0, 9, 0, 0, by rw [oA2, if_neg hlt], by rw [oC2, ← e, if_neg hlt], a1, a2, a3, fun q => by rw [a4] at q; cases q⟩
  · by_cases hx : x = 0
    · refine ⟨2, r, q, 0, 3, 0, 0, by rw [oA3, if_pos hx], by rw [oC3, if_pos hx], hoL 3 (by decide) (by decide), by rw [doC4_load]; exact hc.same _ _, ?_, fun q => ?_⟩
      · rw [doC4_load, doG4_load]
        have hx : cs.getD (Int.toNat 3) 0 = mkC cs := rfl
        rw [hx]
        exact ⟨h1, h2, .inr ⟨_, rfl, hm.1, by omega, .inr ⟨e, w0, w1, .inl ⟨rfl, Int.le_refl _⟩⟩⟩⟩
      · rw [doG4_load, oA2] at q
        split at q <;> cases q
    · obtain ⟨a1, a2, a3, a4⟩ := JM.look h1 h2 e w0 (by omega) hc ho
      exact ⟨4, r.set 1 0, q.set 2 0, 0, 9, 0, 0, by rw [oA3, if_neg hx], by rw [oC3, if_neg hx], a1, a2, a3, fun q => by rw [a4] at q; cases q⟩
  · obtain ⟨w2, j, j3, e1, e2, hj, hx⟩ := h4
    rw [oA4] at hi
    split at hi
    · cases hi
    rename_i hne
    have hj3 : j ≤ 2 := by omega
    have t1 : (r.getD 1 0).toNat = j := by omega
    have t2 : (q.getD 2 0).toNat = j := by omega
    have hr0 : ((r.set (2 + j) x).set 1 ((j : Int) + 1)).getD 0 0 = r.getD 0 0 := by rw [getD_set_ne' (by decide), getD_set_ne' (by omega)]
    have hq0 : ((q.set (3 + j) x).set 2 ((j : Int) + 1)).getD 0 0 = q.getD 0 0 := by rw [getD_set_ne' (by decide), getD_set_ne' (by omega)]
    have hr1 : ((r.set (2 + j) x).set 1 ((j : Int) + 1)).getD 1 0 = j + 1 := getD_set_eq (by rw [List.length_set]; omega)
    have hq2 : ((q.set (3 + j) x).set 2 ((j : Int) + 1)).getD 2 0 = j + 1 := getD_set_eq (by rw [List.length_set]; omega)
    have hri : ∀ i, ((r.set (2 + j) x).set 1 ((j : Int) + 1)).getD (2 + i) 0 = if i = j then x else r.getD (2 + i) 0 := fun i => by
      rw [getD_set_ne' (by omega), getD_set _ _ _ _ _ (by omega)]
      by_cases e : i = j
      · rw [if_pos (by omega), if_pos e]
      · rw [if_neg (by omega), if_neg e]
    have hqi : ∀ i, ((q.set (3 + j) x).set 2 ((j : Int) + 1)).getD (3 + i) 0 = if i = j then x else q.getD (3 + i) 0 := fun i => by
      rw [getD_set_ne' (by omega), getD_set _ _ _ _ _ (by omega)]
      by_cases e : i = j
      · rw [if_pos (by omega), if_pos e]
      · rw [if_neg (by omega), if_neg e]
    have hsb := hc.sb (j + 1) (by omega)
    have hvx : cs.getD (10 + (j : Int)).toNat 0 = scC cs (j + 1) := by unfold scC; congr 1; omega
    have hsaw : ∀ i, i < j + 1 → SawIt opn start (r.getD 0 0) i (if i = j then x else r.getD (2 + i) 0) := fun i hi => by
      by_cases e : i = j
      · rw [if_pos e, e]; exact hx
      · rw [if_neg e]; exact (hj i (by omega)).2.2.2
    have hlast : SawIt opn start (r.getD 0 0) (j + 1) (scC cs (j + 1)) := fun hop => by
      have := ho (j + 1) (by omega) hop
      exact .inr ⟨by omega, by omega⟩
    refine ⟨4, (r.set (2 + j) x).set 1 (j + 1), (q.set (3 + j) x).set 2 (j + 1), 0, 10 + j, 0, 0, by rw [oA4, if_neg hne, t1, e1], by rw [oC4, if_neg (by omega), t2, e2], hoL _ (by omega) (by omega), by rw [doC4_load]; exact hc.same _ _, ?_, fun q => ?_⟩
    · rw [doC4_load, doG4_load, hvx]
      refine ⟨by rw [List.length_set, List.length_set]; exact h1, by rw [List.length_set, List.length_set]; exact h2, .inr ⟨_, rfl, hsb.1, hsb.2, .inr ⟨by rw [hr0, hq0]; exact e, by rw [hr0]; exact w0, by rw [hr0]; exact w1, .inr (.inr ⟨rfl, by rw [hr0]; exact w2, j + 1, by omega, by rw [hr1]; simp, by rw [hq2]; simp, fun i hi => ?_, by rw [hr0]; exact hlast⟩)⟩⟩⟩
      rw [hri, hqi, hr0]
      refine ⟨?_, ?_, ?_, hsaw i hi⟩
      · by_cases e : i = j
        · rw [if_pos e, if_pos e]
        · rw [if_neg e, if_neg e]; exact (hj i (by omega)).1
      · by_cases e : i = j
        · rw [if_pos e]; exact x0
        · rw [if_neg e]; exact (hj i (by omega)).2.1
      · by_cases e : i = j
        · rw [if_pos e]; exact x1
        · rw [if_neg e]; exact (hj i (by omega)).2.2.1
    · rw [doC4_load]
      rw [doG4_load, hvx, oA4, hr1, hr0] at q ⊢
      split at q
      · rename_i h3
        rw [if_pos h3]
        have hjj : j = 2 := by omega
        refine ⟨_, rfl, Int.le_trans (flo_le _ _) w2, fun i hi hop => ?_⟩
        have k2 : ((r.set (2 + j) x).set 1 ((j : Int) + 1)).getD 2 0 = if (0 : Nat) = j then x else r.getD 2 0 := hri 0
        have k3 : ((r.set (2 + j) x).set 1 ((j : Int) + 1)).getD 3 0 = if (1 : Nat) = j then x else r.getD 3 0 := hri 1
        have k4 : ((r.set (2 + j) x).set 1 ((j : Int) + 1)).getD 4 0 = if (2 : Nat) = j then x else r.getD 4 0 := hri 2
        have s : ∃ v, v ∈ [((r.set (2 + j) x).set 1 ((j : Int) + 1)).getD 2 0, ((r.set (2 + j) x).set 1 ((j : Int) + 1)).getD 3 0, ((r.set (2 + j) x).set 1 ((j : Int) + 1)).getD 4 0, scC cs (j + 1)] ∧ SawIt opn start (r.getD 0 0) i v := by
          rw [k2, k3, k4]
          obtain rfl | rfl | rfl | rfl : i = 0 ∨ i = 1 ∨ i = 2 ∨ i = 3 := by omega
          · exact ⟨_, by simp, hsaw 0 (by omega)⟩
          · exact ⟨_, by simp, hsaw 1 (by omega)⟩
          · exact ⟨_, by simp, hsaw 2 (by omega)⟩
          · exact ⟨scC cs (j + 1), by simp, by have := hlast; rwa [hjj] at this ⊢⟩
        obtain ⟨v, hv, hs⟩ := s
        rcases hs hop with h | ⟨v0, h⟩
        · exact Int.le_trans (flo_le _ _) h
        · exact Int.le_trans (flo_saw _ _ v hv v0) h
      · cases q
section
variable {C : Cdc} {P : Program} {T : Tab C} {Φ : Fns C}
open Pg (Ex)
noncomputable def cdec (P : Prop) : Bool := @decide P (Classical.propDecidable P)
theorem cdec_iff {P : Prop} : cdec P = true ↔ P := by
  unfold cdec
  exact @decide_eq_true_iff P (Classical.propDecidable P)
theorem cdec_true {P : Prop} (h : P) : cdec P = true := cdec_iff.2 h
structure FunR (C : Cdc) (σ : Type) where
  k : Nat
  args : σ → List (D C)
  objs : σ → List (Obj C)
  fin : σ → RT C
  Inv : σ → Prop
def fnO (T : Tab C) (Φ : Fns C) (g n k : Nat) (args : List (D C)) (os : List (Obj C)) : Option (D C × List (Option (Obj C))) :=
  (enterD T Φ (evC T Φ n) g args).run (0, 0) (hpOf 0 os) k [] fun d h _ _ => some (d, getsL 0 k h)
def LedF {σ : Type} (S : FunR C σ) (s : σ) (r : D C × List (Option (Obj C))) : Prop := ∃ os, (S.fin s).val = some ((.ret, [(0, r.1)]), os) ∧ r.2 = os.map some
def resF {σ : Type} (S : FunR C σ) (d : Env C → List (Obj C) → Option (Bool × σ)) (env : Env C) (os : List (Obj C)) : RT C := match d env os with
  | some (b, q) => .br b (S.fin q) .fail
  | none => .fail
def sumF (T : Tab C) (fs : List Fnd) (n : Nat) {σ : Type} (S : FunR C σ) (d : Env C → List (Obj C) → Option (Bool × σ)) (args : List (D C)) : Pg C (D C) :=
  bif Nat.beq args.length n then .bind (sumO T fs (List.range n) (resF S d) (eargs 0 args)) fun r => .ret (eget r.2 0) else .fail
theorem EnvOK.args (K : PLaws P T) {X : Cx} {nx : Nat} {lim : Lim} {args : List (D C)} {vs : List Value} (h : RVs T X args vs) (hr : ∀ a ∈ args, ∀ id ∈ D.refs a, old nx lim id) : EnvOK T X nx lim (eargs 0 args) (⟨vs⟩ : Array Value) := by
  intro t
  rw [eargs_get]
  simp only [Nat.zero_le, if_true, Nat.sub_zero]
  refine ⟨?_, ?_⟩
  · have := h.get t
    have e : (⟨vs⟩ : Array Value).getD t undef = vs.getD t undef := by simp [Array.getD_eq_getD_getElem?]
    rw [e]; exact this
  · by_cases ht : t < args.length
    · exact hr _ (by simp [List.getD_eq_getElem?_getD, ht])
    · have : args.getD t .top = .top := by
        simp only [List.getD_eq_getElem?_getD]
        rw [List.getElem?_eq_none (by omega)]; rfl
      rw [this]; simp [D.refs]
theorem RVs.of_get {X : Cx} : ∀ (args : List (D C)) (vs : List Value), args.length = vs.length → (∀ i, i < args.length → RV T X (args.getD i .top) (vs.getD i undef)) → RVs T X args vs
  | [], [], _, _ => .nil
  | [], _ :: _, h, _ => by simp at h
  | _ :: _, [], h, _ => by simp at h
  | d :: ds, v :: vs, h, hg => .cons (by simpa using hg 0 (by simp)) (RVs.of_get ds vs (by simpa using h) fun i hi => by simpa using hg (i + 1) (by simpa using hi))
theorem RVs.of_env {X : Cx} {nx : Nat} {lim : Lim} {args : List (D C)} {vs : List Value} (hl : args.length = vs.length) (h : EnvOK T X nx lim (eargs 0 args) (⟨vs⟩ : Array Value)) : RVs T X args vs := by
  refine RVs.of_get args vs hl fun i hi => ?_
  have := (h i).1
  rw [eargs_get] at this
  simpa [Array.getD_eq_getD_getElem?] using this
theorem eargs_mem : ∀ (l : List (D C)) (n i : Nat) (h : i < l.length), (n + i, l[i]) ∈ eargs n l
  | [], _, _, h => by simp at h
  | d :: l, n, 0, _ => by simp [eargs]
  | d :: l, n, i + 1, h => by
    have := eargs_mem l (n + 1) i (by simpa using h)
    simp only [eargs, List.mem_cons]
    right
    rw [show n + (i + 1) = n + 1 + i by omega]
    simpa using this
theorem keep_objs (K : PLaws P T) {X X1 : Cx} {h' : Heap C} {k nx' : Nat} (g1 : G T X1 h' nx' (lim0 nx')) (s1 : Step X k (lim0 nx') X1) (hle : k ≤ nx') {os : List (Obj C)} {d : D C} {v : Value} (q : RefsOK k [(0, d)] os)
    (hget : ∀ j, j < k → h'.get j = os[j]?) (rd : RO T X1 nx' (lim0 nx') d v) : ∃ X2, X2.w = X1.w ∧ G T X2 (hpOf 0 os) k (lim0 k) ∧ Step X k (lim0 k) X2 ∧ RO T X2 k (lim0 k) d v := by
  obtain ⟨q1, q2, q3⟩ := q
  obtain ⟨X2, w2, g2, s2, hρ⟩ := G.drop K.base g1 (h' := hpOf 0 os) (fun id => by
    rw [hpOf_get0]
    by_cases hid : id < k
    · exact .inl (hget id hid).symm
    · exact .inr (List.getElem?_eq_none (by omega)))
  have hnone : ∀ id, ¬ id < k → X2.ρ id = none := fun id hid => by
    cases hq : X2.ρ id with
    | none => rfl
    | some l =>
      have := g2.dom id l hq
      rw [hpOf_get0, List.getElem?_eq_none (by omega)] at this
      cases this
  have s3 := s1.trans s2 hle
  refine ⟨X2, w2, g2.relim2 (hpOf_nums q1 q3) (Nat.le_refl _) (Nat.zero_le _) (fun _ h => h), ⟨s3.O, s3.os, s3.tape, s3.output, s3.size, fun id ho => ?_, s3.mine, s3.cell, s3.block, s3.frz⟩, ?_⟩
  · by_cases hid : id < k
    · exact s3.ρ id ⟨.inl hid, fun h => h⟩
    · rw [hnone id hid]; cases X.ρ id <;> simp [Compat]
  · have hrt : ∀ r ∈ d.refs, r < k := q2 (0, d) (by simp)
    exact ⟨rd.1.mono T K.base.encOK s2.keeps fun r hh => s2.ρ r ⟨.inl (by have := hrt r hh; omega), fun h => h⟩, fun r hh => ⟨.inl (hrt r hh), fun h => h⟩⟩
theorem call_obj (K : PLaws P T) (F : FLaws P T Φ) {g : Nat} {fs : List Fnd} {m n : Nat} {σ : Type} {S : FunR C σ}
    (hr : ∀ q, S.Inv q → RefsOK S.k (eargs 0 (S.args q)) (S.objs q) ∧ (S.fin q).refsOK S.k ∧ (S.args q).length = m ∧ Leaf (fnO T Φ g n S.k (S.args q) (S.objs q)) (LedF S q))
    (d : Env C → List (Obj C) → Option (Bool × σ)) (hd : ∀ env os b q, d env os = some (b, q) → b = true → S.Inv q ∧ eargs 0 (S.args q) = env ∧ S.objs q = os) : CallLaw P T g (sumF T fs m S d) := by
  intro args vs X h nx lim e dd h' nx' tr gg hargs hrefs hlim hx
  unfold sumF at hx
  cases hm : Nat.beq args.length m with
  | false => rw [hm] at hx; exact (Ex.fail hx).elim
  | true =>
  rw [hm] at hx
  simp only [cond_true] at hx
  have hm := Nat.eq_of_beq_eq_true hm
  obtain ⟨⟨x, env'⟩, h9, n9, t8, t9, hx0, hret, _⟩ := Ex.bind hx
  obtain ⟨hdd, e1h, e1n, _⟩ := Ex.ret hret
  subst e1h
  subst e1n
  have he := EnvOK.args K hargs hrefs
  unfold sumO at hx0
  obtain ⟨X1, h1, nx1, env1, ids, tr1, w1, g1, s1, hn1, e1, hx1⟩ := findP_ok K hlim fs X h nx _ _ [] gg he hx0
  cases hnd : nodupB ids with
  | false => rw [hnd] at hx1; exact (Ex.fail hx1).elim
  | true =>
  rw [hnd] at hx1
  simp only [cond_true] at hx1
  have hnodup := nodupB_spec hnd
  obtain ⟨os, tr2, hlen, hos, hx2⟩ := rdAll_ok ids _ _ hx1
  cases hin : inB ids ((List.range m).flatMap fun t => (eget env1 t).refs) && inB ids (os.flatMap Obj.refs) with
  | false => rw [hin] at hx2; exact (Ex.fail hx2).elim
  | true =>
  rw [hin] at hx2
  simp only [cond_true] at hx2
  simp only [Bool.and_eq_true] at hin
  have hin1 := inB_spec hin.1
  have hin2 := inB_spec hin.2
  obtain ⟨xx, ee, os', hq, hx3⟩ := RT.pg_ok _ _ hx2
  unfold resF at hq
  split at hq
  · rename_i b q hdq
    cases b with
    | false => simp [RT.val] at hq
    | true =>
    simp only [RT.val, cond_true] at hq
    obtain ⟨hI, hcan, hobjs⟩ := hd _ _ _ _ hdq rfl
    obtain ⟨hr1, hr2, hlenA, r, hr3, hr4⟩ := hr q hI
    obtain ⟨h2, tr3, hl2, hw1, hw2, hx4⟩ := wrAll_ok ids _ h1 _ hnodup hx3
    obtain ⟨hxx, eh, en, _⟩ := Ex.ret hx4
    obtain ⟨rfl, rfl⟩ := Prod.mk.inj hxx
    subst eh
    subst en
    let f : Nat → Nat := fun j => ids.getD j 0
    have hfj : ∀ j, j < ids.length → ids[j]? = some (f j) := fun j hj => by simp [f, hj]
    have hk0 : ids.length = S.k := by rw [← hr1.1, hobjs]; simp [hlen]
    have hff : ∀ r, r ∈ ids → f (idx ids r) = r := fun r hr => by
      have := idx_spec ids r hr
      simp only [f, List.getD_eq_getElem?_getD, this, Option.getD_some]
    have hlenO : (S.objs q).length = ids.length := by rw [hr1.1, hk0]
    have part : Part h1 (S.objs q) f := by
      refine ⟨fun j o ho => ?_, fun i j hi hj hij => ?_, fun o ho r hr => by rw [hr1.1]; exact hr1.2.2 o ho r hr⟩
      · rw [hobjs, List.getElem?_map] at ho
        cases hoj : os[j]? with
        | none => simp [hoj] at ho
        | some o0 =>
          simp only [hoj, Option.map_some, Option.some.injEq] at ho
          have hj : j < ids.length := by rw [← hlen]; exact (List.getElem?_eq_some_iff.1 hoj).1
          rw [hos j (f j) o0 (hfj j hj) hoj, ← ho, Obj.ren_ren]
          intro id hid
          exact hff id (hin2 id (List.mem_flatMap.2 ⟨o0, List.mem_of_getElem? hoj, hid⟩))
      · rw [hlenO] at hi hj
        have := (List.getElem?_inj hi hnodup (j := j)).1 (by rw [hfj i hi, hfj j hj]; simp only [f] at hij ⊢; rw [hij])
        exact this
    have g2 := Part.ctx K.base g1 part (S.objs q).length
    have e2 : EnvOK T (X1.part (S.objs q).length f) (S.objs q).length (lim0 (S.objs q).length) (eargs 0 (S.args q)) (⟨vs⟩ : Array Value) := by
      refine EnvOK.part K.base e1 part.inj (fun p hp => ?_) (fun p hp r hr => by rw [hr1.1]; exact hr1.2.1 p hp r hr)
      rw [hcan] at hp
      simp only [List.mem_map] at hp
      obtain ⟨t, ht, rfl⟩ := hp
      simp only
      rw [D.ren_ren]
      intro id hid
      exact hff id (hin1 id (List.mem_flatMap.2 ⟨t, ht, hid⟩))
    rw [hr1.1] at g2 e2
    obtain ⟨d0, hh, nn, tt, hex, hsome⟩ := Pg.run_some hr3
    simp only [Option.some.injEq] at hsome
    subst hsome
    obtain ⟨os2, hv2, hg2⟩ := hr4
    rw [hq] at hv2
    simp only [Option.some.injEq, Prod.mk.injEq] at hv2
    obtain ⟨⟨rfl, rfl⟩, rfl⟩ := hv2
    have hgets := getsL_get S.k 0 hh _ hg2
    simp only [Nat.zero_add] at hgets
    obtain ⟨x5, env5, os5, hv5, hok5⟩ := RT.refsOK_val hr2
    rw [hq] at hv5
    simp only [Option.some.injEq, Prod.mk.injEq] at hv5
    obtain ⟨⟨rfl, rfl⟩, rfl⟩ := hv5
    have hle : S.k ≤ nn := hex.le
    have g0 : G T (X1.part S.k f) (hpOf 0 (S.objs q)) S.k (lim0 nn) := g2.relim2 (hpOf_nums hr1.1 hr1.2.2) (Nat.le_refl _) (Nat.zero_le _) (fun _ h => h)
    have hvs : RVs T (X1.part S.k f) (S.args q) vs := RVs.of_env (by rw [hlenA, ← hm]; exact RVs.length T hargs) e2
    have hrefs0 : ∀ a ∈ S.args q, ∀ id ∈ D.refs a, old S.k (lim0 nn) id := fun a ha id hid => ⟨.inl (by
      obtain ⟨i, hi, hia⟩ := List.getElem_of_mem ha
      refine hr1.2.1 (0 + i, a) ?_ id hid
      rw [← hia]; exact eargs_mem _ _ _ hi), fun h => h⟩
    obtain ⟨c1, c2⟩ := enter_ok K F n g (S.args q) vs (X1.part S.k f) (hpOf 0 (S.objs q)) S.k (lim0 nn) (0, 0) d0 hh nn tt g0 hvs hrefs0 (Nat.le_refl _) hex
    have hw : (X1.part S.k f).w = X.w := w1
    rw [hw] at c1 c2
    refine ⟨c1, c2.mono fun en w9 hp => ?_⟩
    obtain ⟨v, X2, rfl, hX2, g3, s3, ro3⟩ := hp
    obtain ⟨X3, w3, g4, s4, ro4⟩ := keep_objs K g3 s3 hle hok5 hgets ro3
    have hlen' : os'.length = (S.objs q).length := by rw [hok5.1, hr1.1]
    have hrefs' : ∀ o ∈ os', ∀ r ∈ Obj.refs o, r < (S.objs q).length := fun o ho r hr => by rw [hr1.1]; exact hok5.2.2 o ho r hr
    obtain ⟨X4, w4, g5, s5, hρ, hB2⟩ := Part.back K.base g1 part hlen' hrefs' (X1 := X3) (lim1 := lim0 S.k) (h' := h') (by rw [hr1.1]; exact g4) (by rw [hr1.1]; exact s4) (fun j o hj => by
        have hlt : j < ids.length := by rw [← hlenO, ← hlen']; exact (List.getElem?_eq_some_iff.1 hj).1
        exact hw1 j (f j) _ (hfj j hlt) (by rw [List.getElem?_map, hj]; rfl)) (fun id hid => by
        refine hw2 id fun hm => ?_
        obtain ⟨j, hj, hjj⟩ := List.getElem_of_mem hm
        refine hid j (by rw [hlenO]; exact hj) ?_
        simp [f, hj, hjj])
    have hold : ∀ j, j < S.k → old nx' lim (f j) := fun j hj => by
      have hj' : j < (S.objs q).length := by rw [hr1.1]; exact hj
      exact (g1.nums _ _ (part.at' j (S.objs q)[j] (by simp [hj']))).1
    have e4 : EnvOK T X3 S.k (lim0 S.k) [(0, d0)] (#[v] : Array Value) := fun t => by
      rw [eget_cons]
      by_cases ht : t = 0
      · subst ht; simpa using ro4
      · simp only [ht, if_false, eget]; exact RO.mk (RV.top _ _ _) rfl
    have e5 := EnvOK.back (nx := nx') (lim := lim) (f := f) K.base e4 (fun p hp r hr => hok5.2.1 p hp r hr) (fun j hj => hρ j (by rw [hr1.1]; exact hj)) ⟨hB2, fun l r h1 _ => ⟨by rw [w4]; exact h1, fun o ho => g5.mine_loop ho (by rw [w4]; exact h1)⟩⟩ hold
    have ro5 := e5 0
    refine ⟨v, X4, rfl, by rw [w4, w3, hX2], g5, s1.trans s5 hn1, ?_⟩
    rw [hdd]
    exact ro5
  · simp [RT.val] at hq
theorem FLaws.addFun (K : PLaws P T) (F : FLaws P T Φ) {g : Nat} {σ : Type} (S : FunR C σ) (n m : Nat) (fs : List Fnd) (d : Env C → List (Obj C) → Option (Bool × σ))
    (hr : ∀ q, S.Inv q → RefsOK S.k (eargs 0 (S.args q)) (S.objs q) ∧ (S.fin q).refsOK S.k ∧ (S.args q).length = m ∧ Leaf (fnO T Φ g n S.k (S.args q) (S.objs q)) (LedF S q))
    (hd : ∀ env os b q, d env os = some (b, q) → b = true → S.Inv q ∧ eargs 0 (S.args q) = env ∧ S.objs q = os) : FLaws P T (Φ.addObj g (sumF T fs m S d)) := F.addObj (call_obj K F hr d hd)
theorem leafF {σ : Type} {S : FunR C σ} {s : σ} {d : D C} {os : List (Option (Obj C))} (os' : List (Obj C)) (h1 : (S.fin s).val = some ((.ret, [(0, d)]), os')) (h2 : os = os'.map some) : Leaf (some (d, os)) (LedF S s) :=
  leaf_some.2 ⟨os', h1, h2⟩
end
structure NA where
  f : Frame
  a : Action
  fl : Bool
def naLd (p n : Int) (r : List Int) (c g : Int) : NA := ⟨⟨p, n, r⟩, ⟨0, c, 0, 0, g, [], []⟩, true⟩
def naCs (p n : Int) (r : List Int) (c b v g : Int) : NA := ⟨⟨p, n, r⟩, ⟨2, c, b, v, g, [], []⟩, true⟩
def naEn (p n : Int) (r : List Int) (l : List Int) (fl : Bool) : NA := ⟨⟨p, n, r⟩, ⟨7, 0, 0, 0, 0, [], l⟩, fl⟩
def mayN (a : Action) : Bool := mayA8 a.kind a.a a.b a.v a.gen a.text a.args
def frm0 : Frame := ⟨0, 0, List.replicate 96 0⟩
def act0 : Action := ⟨0, 0, 0, 0, 0, [], []⟩
def topF (st : List Frame) : Frame := st.getLastD frm0
def calF (a : Action) : Frame := ⟨a.a, 0, regs1 a.args⟩
def tkSt (st : List Frame) (f : Frame) (a : Action) : List Frame := if a.kind < 6 then st.dropLast ++ [f] else if a.kind = 6 then st.dropLast ++ [f, calF a] else st.dropLast
def tkGot (got : List Int) (a : Action) : List Int := if a.kind < 6 then got else if a.kind = 6 then [] else a.args
def tkFl (e : Bool) (a : Action) : Bool := if a.kind < 6 then e else decide (a.kind = 6)
structure GoM where
  st : List Frame
  got : List Int
  gf : Bool
  a : Action
  af : Bool
  is : Bool
def goN (nx : Frame → List Int → NA) : Nat → List Frame → List Int → Bool → GoM
  | 0, st, got, e => ⟨st, got, e, act0, true, false⟩
  | n + 1, st, got, e => if st = [] then ⟨[], got, e, act0, true, false⟩
    else if (nx (topF st) got).a.kind < 6 then ⟨tkSt st (nx (topF st) got).f (nx (topF st) got).a, got, e, (nx (topF st) got).a, (nx (topF st) got).fl, true⟩
    else goN nx n (tkSt st (nx (topF st) got).f (nx (topF st) got).a) (tkGot got (nx (topF st) got).a) (tkFl e (nx (topF st) got).a)
def OkN (nx : Frame → List Int → NA) (ok : Frame → List Int → Prop) : Nat → List Frame → List Int → Prop
  | 0, _, _ => False
  | n + 1, st, got => st = [] ∨ (st ≠ [] ∧ st.length ≤ 6 ∧ got.length ≤ 96 ∧ ok (topF st) got ∧ mayN (nx (topF st) got).a = true ∧ 0 ≤ (nx (topF st) got).a.kind ∧ (nx (topF st) got).a.kind ≤ 7 ∧
      ((nx (topF st) got).a.kind < 6 ∨ ((nx (topF st) got).a.kind = 6 → st.length < 6) ∧ OkN nx ok n (tkSt st (nx (topF st) got).f (nx (topF st) got).a) (tkGot got (nx (topF st) got).a)))
open Go.Proofs
abbrev RO_ : Type := Option ((X × Env RC) × List (Option (Obj RC)))
abbrev DO_ : Type := Option (D RC)
set_option maxRecDepth 100000
noncomputable def p0 : Fns RC := noFns Tryz.prog 205 (fun f => Nat.beq f 126 || Nat.beq f 98) (fun f => if Nat.beq f 11 then [(0, [0])] else if Nat.beq f 27 then [(0, [0])] else []) (fun f => false)
theorem p0_laws : FLaws Tryz.prog s19 p0 := noFns_laws (by kernel_rfl)
def inF_s (n : Int) (a : Int) (b : Int) : Option (Bool × D RC) := some (true, .bool (withinB n a b))
def inF_sp : List (D RC) → Option (Bool × D RC)
  | [.int .i64 n, .int .i64 a, .int .i64 b] => inF_s n a b
  | _ => none
noncomputable def inF_e (n : Int) (a : Int) (b : Int) := evF s19 p0 20 62 [.int .i64 n, .int .i64 a, .int .i64 b]
theorem inF_eq (n : Int) (a : Int) (b : Int) : inF_e n a b = (bif decide (a ≤ n) then some (D.bool (decide (n ≤ b))) else some (D.bool false)) := by kernel_rfl
theorem inF_ok (n : Int) (a : Int) (b : Int) (h : (true) = true) : inF_e n a b = some (.bool (withinB n a b)) := by
  rw [inF_eq]
  rw [withinB]
  cases decide (a ≤ n) <;> simp
noncomputable def ua_1 := p0.addSpec 62 inF_sp
theorem ua_1_laws : FLaws Tryz.prog s19 ua_1 := p0_laws.addEv s19_laws fun args d h => by
  unfold inF_sp at h
  split at h
  · unfold inF_s at h
    have h1 := congrArg Prod.fst (Option.some.inj h)
    obtain rfl : _ = d := congrArg Prod.snd (Option.some.inj h)
    exact ⟨by simp [D.refs], 20, inF_ok _ _ _ h1⟩
  · cases h
def ringF_s (p : Int) (w : Int) : Option (Bool × D RC) := some (true, .int .i64 (lRing p w))
def ringF_sp : List (D RC) → Option (Bool × D RC)
  | [.int .i64 p, .int .i64 w] => ringF_s p w
  | _ => none
noncomputable def ringF_e (p : Int) (w : Int) := evF s19 ua_1 20 168 [.int .i64 p, .int .i64 w]
theorem ringF_eq (p : Int) (w : Int) : ringF_e p w = (let Z0 : DO_ := some (D.int .i64 (-1 : Int)); bif decide (p < (0 : Int)) then Z0 else bif !withinB w (2 : Int) (8 : Int) then Z0 else bif w == (0 : Int) then none else some (D.int .i64 (IntKind.wrap .i64 ((13 : Int) + Int.tmod p w)))) := by kernel_rfl
theorem ringF_ok (p : Int) (w : Int) (h : (true) = true) : ringF_e p w = some (.int .i64 (lRing p w)) := by
  (rw [ringF_eq]; conv => zeta)
  unfold lRing
  refine cond2 (fun h0 => ?_) fun h0 => ?_ <;> simp only [decide_eq_true_eq, decide_eq_false_iff_not] at h0
  · rw [if_neg (by omega)]
  · cases h1 : withinB w 2 8
    · have h2 := withinB_no h1
      rw [if_neg (by omega)]; rfl
    · rw [withinB_iff] at h1
      have hw : (w == 0) = false := by simp; omega
      have hm := mod_range (p := p) (w := w) (by omega)
      simp only [hw, Bool.not_true, cond_false]
      rw [tmod_nn (by omega), wrap_id (by omega) (by omega), if_pos ⟨by omega, h1.1, h1.2⟩]
noncomputable def ua_2 := ua_1.addSpec 168 ringF_sp
theorem ua_2_laws : FLaws Tryz.prog s19 ua_2 := ua_1_laws.addEv s19_laws fun args d h => by
  unfold ringF_sp at h
  split at h
  · unfold ringF_s at h
    have h1 := congrArg Prod.fst (Option.some.inj h)
    obtain rfl : _ = d := congrArg Prod.snd (Option.some.inj h)
    exact ⟨by simp [D.refs], 20, ringF_ok _ _ h1⟩
  · cases h
def ringR_s (p : Int) (w : Int) : Option (Bool × D RC) := some (true, .int .i64 (lRing p w))
def ringR_sp : List (D RC) → Option (Bool × D RC)
  | [.int .i64 p, .int .i64 w] => ringR_s p w
  | _ => none
noncomputable def ringR_e (p : Int) (w : Int) := evF s19 ua_2 20 192 [.int .i64 p, .int .i64 w]
theorem ringR_eq (p : Int) (w : Int) : ringR_e p w = (let Z0 : DO_ := some (D.int .i64 (-1 : Int)); bif decide (p < (0 : Int)) then Z0 else bif decide (w < (2 : Int)) then Z0 else bif decide ((8 : Int) < w) then Z0 else bif w == (0 : Int) then none else some (D.int .i64 (IntKind.wrap .i64 ((13 : Int) + Int.tmod p w)))) := by kernel_rfl
theorem ringR_ok (p : Int) (w : Int) (h : (true) = true) : ringR_e p w = some (.int .i64 (lRing p w)) := by
  (rw [ringR_eq]; conv => zeta)
  unfold lRing
  refine cond2 (fun h0 => ?_) fun h0 => ?_ <;> simp only [decide_eq_true_eq, decide_eq_false_iff_not] at h0
  · rw [if_neg (by omega)]
  refine cond2 (fun h1 => ?_) fun h1 => ?_ <;> simp only [decide_eq_true_eq, decide_eq_false_iff_not] at h1
  · rw [if_neg (by omega)]
  refine cond2 (fun h2 => ?_) fun h2 => ?_ <;> simp only [decide_eq_true_eq, decide_eq_false_iff_not] at h2
  · rw [if_neg (by omega)]
  have hw : (w == 0) = false := by simp; omega
  have hm := mod_range (p := p) (w := w) (by omega)
  simp only [hw, Bool.not_true, cond_false]
  rw [tmod_nn (by omega), wrap_id (by omega) (by omega), if_pos ⟨by omega, by omega, by omega⟩]
noncomputable def ua_3 := ua_2.addSpec 192 ringR_sp
theorem ua_3_laws : FLaws Tryz.prog s19 ua_3 := ua_2_laws.addEv s19_laws fun args d h => by
  unfold ringR_sp at h
  split at h
  · unfold ringR_s at h
    have h1 := congrArg Prod.fst (Option.some.inj h)
    obtain rfl : _ = d := congrArg Prod.snd (Option.some.inj h)
    exact ⟨by simp [D.refs], 20, ringR_ok _ _ h1⟩
  · cases h
def streamF_s (q : Int) (o : Int) : Option (Bool × D RC) := some (true, .int .i64 (lStream q o))
def streamF_sp : List (D RC) → Option (Bool × D RC)
  | [.int .i64 q, .int .i64 o] => streamF_s q o
  | _ => none
noncomputable def streamF_e (q : Int) (o : Int) := evF s19 ua_3 20 34 [.int .i64 q, .int .i64 o]
theorem streamF_eq (q : Int) (o : Int) : streamF_e q o = (let Z0 : DO_ := some (D.int .i64 (-1 : Int)); bif !withinB q (0 : Int) (2 : Int) then Z0 else bif decide (o < (0 : Int)) then Z0 else some (D.int .i64 (IntKind.wrap .i64 (IntKind.wrap .i64 ((51 : Int) + IntKind.wrap .i64 ((16 : Int) * q)) + Int.tmod o (16 : Int))))) := by kernel_rfl
theorem streamF_ok (q : Int) (o : Int) (h : (true) = true) : streamF_e q o = some (.int .i64 (lStream q o)) := by
  (rw [streamF_eq]; conv => zeta)
  unfold lStream
  cases h1 : withinB q 0 2
  · have h2 := withinB_no h1
    rw [if_neg (by omega)]; rfl
  · rw [withinB_iff] at h1
    simp only [Bool.not_true, cond_false]
    refine cond2 (fun h0 => ?_) fun h0 => ?_ <;> simp only [decide_eq_true_eq, decide_eq_false_iff_not] at h0
    · rw [if_neg (by omega)]
    · rw [tmod_nn (by omega), wrap_id (n := 16 * q) (by omega) (by omega), wrap_id (n := 51 + 16 * q) (by omega) (by omega), wrap_id (by omega) (by omega), if_pos ⟨h1.1, h1.2, by omega⟩]
noncomputable def ua_4 := ua_3.addSpec 34 streamF_sp
theorem ua_4_laws : FLaws Tryz.prog s19 ua_4 := ua_3_laws.addEv s19_laws fun args d h => by
  unfold streamF_sp at h
  split at h
  · unfold streamF_s at h
    have h1 := congrArg Prod.fst (Option.some.inj h)
    obtain rfl : _ = d := congrArg Prod.snd (Option.some.inj h)
    exact ⟨by simp [D.refs], 20, streamF_ok _ _ h1⟩
  · cases h
def streamR_s (q : Int) (o : Int) : Option (Bool × D RC) := some (true, .int .i64 (lStream q o))
def streamR_sp : List (D RC) → Option (Bool × D RC)
  | [.int .i64 q, .int .i64 o] => streamR_s q o
  | _ => none
noncomputable def streamR_e (q : Int) (o : Int) := evF s19 ua_4 20 63 [.int .i64 q, .int .i64 o]
theorem streamR_eq (q : Int) (o : Int) : streamR_e q o = (let Z0 : DO_ := some (D.int .i64 (-1 : Int)); bif decide (q < (0 : Int)) then Z0 else bif decide ((3 : Int) ≤ q) then Z0 else bif decide (o < (0 : Int)) then Z0 else some (D.int .i64 (IntKind.wrap .i64 (IntKind.wrap .i64 ((51 : Int) + IntKind.wrap .i64 ((16 : Int) * q)) + Int.tmod o (16 : Int))))) := by kernel_rfl
theorem streamR_ok (q : Int) (o : Int) (h : (true) = true) : streamR_e q o = some (.int .i64 (lStream q o)) := by
  (rw [streamR_eq]; conv => zeta)
  unfold lStream
  refine cond2 (fun h0 => ?_) fun h0 => ?_ <;> simp only [decide_eq_true_eq, decide_eq_false_iff_not] at h0
  · rw [if_neg (by omega)]
  refine cond2 (fun h1 => ?_) fun h1 => ?_ <;> simp only [decide_eq_true_eq, decide_eq_false_iff_not] at h1
  · rw [if_neg (by omega)]
  refine cond2 (fun h2 => ?_) fun h2 => ?_ <;> simp only [decide_eq_true_eq, decide_eq_false_iff_not] at h2
  · rw [if_neg (by omega)]
  rw [tmod_nn (by omega), wrap_id (n := 16 * q) (by omega) (by omega), wrap_id (n := 51 + 16 * q) (by omega) (by omega), wrap_id (by omega) (by omega), if_pos ⟨by omega, by omega, by omega⟩]
noncomputable def ua_5 := ua_4.addSpec 63 streamR_sp
theorem ua_5_laws : FLaws Tryz.prog s19 ua_5 := ua_4_laws.addEv s19_laws fun args d h => by
  unfold streamR_sp at h
  split at h
  · unfold streamR_s at h
    have h1 := congrArg Prod.fst (Option.some.inj h)
    obtain rfl : _ = d := congrArg Prod.snd (Option.some.inj h)
    exact ⟨by simp [D.refs], 20, streamR_ok _ _ h1⟩
  · cases h
def cellF_s (a : Int) (n : Int) (m : Int) : Option (Bool × D RC) := some (true, .int .i64 (bif decide (0 ≤ n) && decide (n < m) then IntKind.i64.wrap (a + n) else -1))
def cellF_sp : List (D RC) → Option (Bool × D RC)
  | [.int .i64 a, .int .i64 n, .int .i64 m] => cellF_s a n m
  | _ => none
noncomputable def cellF_e (a : Int) (n : Int) (m : Int) := evF s19 ua_5 20 61 [.int .i64 a, .int .i64 n, .int .i64 m]
theorem cellF_eq (a : Int) (n : Int) (m : Int) : cellF_e a n m = (let Z0 : DO_ := some (D.int .i64 (-1 : Int)); bif decide (n < (0 : Int)) then Z0 else bif decide (m ≤ n) then Z0 else some (D.int .i64 (IntKind.wrap .i64 (a + n)))) := by kernel_rfl
theorem cellF_ok (a : Int) (n : Int) (m : Int) (h : (true) = true) : cellF_e a n m = some (.int .i64 (bif decide (0 ≤ n) && decide (n < m) then IntKind.i64.wrap (a + n) else -1)) := by
  (rw [cellF_eq]; conv => zeta)
  refine cond2 (fun h0 => ?_) fun h0 => ?_ <;> simp only [decide_eq_true_eq, decide_eq_false_iff_not] at h0
  · rw [decide_eq_false (p := 0 ≤ n) (by omega)]; rfl
  refine cond2 (fun h1 => ?_) fun h1 => ?_ <;> simp only [decide_eq_true_eq, decide_eq_false_iff_not] at h1
  · rw [decide_eq_false (p := n < m) (by omega), Bool.and_false]; rfl
  · rw [decide_eq_true (p := 0 ≤ n) (by omega), decide_eq_true (p := n < m) (by omega)]; rfl
noncomputable def ua_6 := ua_5.addSpec 61 cellF_sp
theorem ua_6_laws : FLaws Tryz.prog s19 ua_6 := ua_5_laws.addEv s19_laws fun args d h => by
  unfold cellF_sp at h
  split at h
  · unfold cellF_s at h
    have h1 := congrArg Prod.fst (Option.some.inj h)
    obtain rfl : _ = d := congrArg Prod.snd (Option.some.inj h)
    exact ⟨by simp [D.refs], 20, cellF_ok _ _ _ h1⟩
  · cases h
def cellR_s (a : Int) (s : Int) (n : Int) (m : Int) : Option (Bool × D RC) := some (true, .int .i64 (bif decide (0 ≤ n) && decide (n < m) then IntKind.i64.wrap (a + IntKind.i64.wrap (s * n)) else -1))
def cellR_sp : List (D RC) → Option (Bool × D RC)
  | [.int .i64 a, .int .i64 s, .int .i64 n, .int .i64 m] => cellR_s a s n m
  | _ => none
noncomputable def cellR_e (a : Int) (s : Int) (n : Int) (m : Int) := evF s19 ua_6 20 30 [.int .i64 a, .int .i64 s, .int .i64 n, .int .i64 m]
theorem cellR_eq (a : Int) (s : Int) (n : Int) (m : Int) : cellR_e a s n m = (let Z0 : DO_ := some (D.int .i64 (-1 : Int)); bif decide (n < (0 : Int)) then Z0 else bif decide (m ≤ n) then Z0 else some (D.int .i64 (IntKind.wrap .i64 (a + IntKind.wrap .i64 (s * n))))) := by kernel_rfl
theorem cellR_ok (a : Int) (s : Int) (n : Int) (m : Int) (h : (true) = true) : cellR_e a s n m = some (.int .i64 (bif decide (0 ≤ n) && decide (n < m) then IntKind.i64.wrap (a + IntKind.i64.wrap (s * n)) else -1)) := by
  (rw [cellR_eq]; conv => zeta)
  refine cond2 (fun h0 => ?_) fun h0 => ?_ <;> simp only [decide_eq_true_eq, decide_eq_false_iff_not] at h0
  · rw [decide_eq_false (p := 0 ≤ n) (by omega)]; rfl
  refine cond2 (fun h1 => ?_) fun h1 => ?_ <;> simp only [decide_eq_true_eq, decide_eq_false_iff_not] at h1
  · rw [decide_eq_false (p := n < m) (by omega), Bool.and_false]; rfl
  · rw [decide_eq_true (p := 0 ≤ n) (by omega), decide_eq_true (p := n < m) (by omega)]; rfl
noncomputable def ua_7 := ua_6.addSpec 30 cellR_sp
theorem ua_7_laws : FLaws Tryz.prog s19 ua_7 := ua_6_laws.addEv s19_laws fun args d h => by
  unfold cellR_sp at h
  split at h
  · unfold cellR_s at h
    have h1 := congrArg Prod.fst (Option.some.inj h)
    obtain rfl : _ = d := congrArg Prod.snd (Option.some.inj h)
    exact ⟨by simp [D.refs], 20, cellR_ok _ _ _ _ h1⟩
  · cases h
def lPinP_s (n : Int) : Option (Bool × D RC) := some (true, .int .i64 (lRow 5 n 4))
def lPinP_sp : List (D RC) → Option (Bool × D RC)
  | [.int .i64 n] => lPinP_s n
  | _ => none
noncomputable def lPinP_e (n : Int) := evF s19 ua_7 20 186 [.int .i64 n]
theorem lPinP_eq (n : Int) : lPinP_e n = (some (D.int .i64 (bif decide ((0 : Int) ≤ n) && decide (n < (4 : Int)) then IntKind.wrap .i64 ((5 : Int) + n) else (-1 : Int)))) := by kernel_rfl
theorem lPinP_ok (n : Int) (h : (true) = true) : lPinP_e n = some (.int .i64 (lRow 5 n 4)) := by
  rw [lPinP_eq]
  congr 2
  unfold lRow
  by_cases h0 : 0 ≤ n
  · by_cases h1 : n < 4
    · simp (disch := omega) only [decide_eq_true h0, decide_eq_true h1, Bool.and_self, cond_true, wrapT]; rw [if_pos ⟨h0, h1⟩]
    · simp only [decide_eq_false h1, Bool.and_false, cond_false]; rw [if_neg (by omega)]
  · simp only [decide_eq_false h0, Bool.false_and, cond_false]; rw [if_neg (by omega)]
noncomputable def ua_8 := ua_7.addSpec 186 lPinP_sp
theorem ua_8_laws : FLaws Tryz.prog s19 ua_8 := ua_7_laws.addEv s19_laws fun args d h => by
  unfold lPinP_sp at h
  split at h
  · unfold lPinP_s at h
    have h1 := congrArg Prod.fst (Option.some.inj h)
    obtain rfl : _ = d := congrArg Prod.snd (Option.some.inj h)
    exact ⟨by simp [D.refs], 20, lPinP_ok _ h1⟩
  · cases h
def lPinR_s (n : Int) : Option (Bool × D RC) := some (true, .int .i64 (lRow 5 n 4))
def lPinR_sp : List (D RC) → Option (Bool × D RC)
  | [.int .i64 n] => lPinR_s n
  | _ => none
noncomputable def lPinR_e (n : Int) := evF s19 ua_8 20 204 [.int .i64 n]
theorem lPinR_eq (n : Int) : lPinR_e n = (some (D.int .i64 (bif decide ((0 : Int) ≤ n) && decide (n < (4 : Int)) then IntKind.wrap .i64 ((5 : Int) + IntKind.wrap .i64 ((1 : Int) * n)) else (-1 : Int)))) := by kernel_rfl
theorem lPinR_ok (n : Int) (h : (true) = true) : lPinR_e n = some (.int .i64 (lRow 5 n 4)) := by
  rw [lPinR_eq]
  congr 2
  unfold lRow
  by_cases h0 : 0 ≤ n
  · by_cases h1 : n < 4
    · simp (disch := omega) only [decide_eq_true h0, decide_eq_true h1, Bool.and_self, cond_true, Int.one_mul, wrapT]; rw [if_pos ⟨h0, h1⟩]
    · simp only [decide_eq_false h1, Bool.and_false, cond_false]; rw [if_neg (by omega)]
  · simp only [decide_eq_false h0, Bool.false_and, cond_false]; rw [if_neg (by omega)]
noncomputable def ua_9 := ua_8.addSpec 204 lPinR_sp
theorem ua_9_laws : FLaws Tryz.prog s19 ua_9 := ua_8_laws.addEv s19_laws fun args d h => by
  unfold lPinR_sp at h
  split at h
  · unfold lPinR_s at h
    have h1 := congrArg Prod.fst (Option.some.inj h)
    obtain rfl : _ = d := congrArg Prod.snd (Option.some.inj h)
    exact ⟨by simp [D.refs], 20, lPinR_ok _ h1⟩
  · cases h
def lHeadP_s (n : Int) : Option (Bool × D RC) := some (true, .int .i64 (lRow 21 n 24))
def lHeadP_sp : List (D RC) → Option (Bool × D RC)
  | [.int .i64 n] => lHeadP_s n
  | _ => none
noncomputable def lHeadP_e (n : Int) := evF s19 ua_9 20 106 [.int .i64 n]
theorem lHeadP_eq (n : Int) : lHeadP_e n = (some (D.int .i64 (bif decide ((0 : Int) ≤ n) && decide (n < (24 : Int)) then IntKind.wrap .i64 ((21 : Int) + n) else (-1 : Int)))) := by kernel_rfl
theorem lHeadP_ok (n : Int) (h : (true) = true) : lHeadP_e n = some (.int .i64 (lRow 21 n 24)) := by
  rw [lHeadP_eq]
  congr 2
  unfold lRow
  by_cases h0 : 0 ≤ n
  · by_cases h1 : n < 24
    · simp (disch := omega) only [decide_eq_true h0, decide_eq_true h1, Bool.and_self, cond_true, wrapT]; rw [if_pos ⟨h0, h1⟩]
    · simp only [decide_eq_false h1, Bool.and_false, cond_false]; rw [if_neg (by omega)]
  · simp only [decide_eq_false h0, Bool.false_and, cond_false]; rw [if_neg (by omega)]
noncomputable def ua_10 := ua_9.addSpec 106 lHeadP_sp
theorem ua_10_laws : FLaws Tryz.prog s19 ua_10 := ua_9_laws.addEv s19_laws fun args d h => by
  unfold lHeadP_sp at h
  split at h
  · unfold lHeadP_s at h
    have h1 := congrArg Prod.fst (Option.some.inj h)
    obtain rfl : _ = d := congrArg Prod.snd (Option.some.inj h)
    exact ⟨by simp [D.refs], 20, lHeadP_ok _ h1⟩
  · cases h
def lHeadR_s (n : Int) : Option (Bool × D RC) := some (true, .int .i64 (lRow 21 n 24))
def lHeadR_sp : List (D RC) → Option (Bool × D RC)
  | [.int .i64 n] => lHeadR_s n
  | _ => none
noncomputable def lHeadR_e (n : Int) := evF s19 ua_10 20 178 [.int .i64 n]
theorem lHeadR_eq (n : Int) : lHeadR_e n = (some (D.int .i64 (bif decide ((0 : Int) ≤ n) && decide (n < (24 : Int)) then IntKind.wrap .i64 ((21 : Int) + IntKind.wrap .i64 ((1 : Int) * n)) else (-1 : Int)))) := by kernel_rfl
theorem lHeadR_ok (n : Int) (h : (true) = true) : lHeadR_e n = some (.int .i64 (lRow 21 n 24)) := by
  rw [lHeadR_eq]
  congr 2
  unfold lRow
  by_cases h0 : 0 ≤ n
  · by_cases h1 : n < 24
    · simp (disch := omega) only [decide_eq_true h0, decide_eq_true h1, Bool.and_self, cond_true, Int.one_mul, wrapT]; rw [if_pos ⟨h0, h1⟩]
    · simp only [decide_eq_false h1, Bool.and_false, cond_false]; rw [if_neg (by omega)]
  · simp only [decide_eq_false h0, Bool.false_and, cond_false]; rw [if_neg (by omega)]
noncomputable def ua_11 := ua_10.addSpec 178 lHeadR_sp
theorem ua_11_laws : FLaws Tryz.prog s19 ua_11 := ua_10_laws.addEv s19_laws fun args d h => by
  unfold lHeadR_sp at h
  split at h
  · unfold lHeadR_s at h
    have h1 := congrArg Prod.fst (Option.some.inj h)
    obtain rfl : _ = d := congrArg Prod.snd (Option.some.inj h)
    exact ⟨by simp [D.refs], 20, lHeadR_ok _ h1⟩
  · cases h
def lCountP_s (n : Int) : Option (Bool × D RC) := some (true, .int .i64 (lRow 45 n 3))
def lCountP_sp : List (D RC) → Option (Bool × D RC)
  | [.int .i64 n] => lCountP_s n
  | _ => none
noncomputable def lCountP_e (n : Int) := evF s19 ua_11 20 33 [.int .i64 n]
theorem lCountP_eq (n : Int) : lCountP_e n = (some (D.int .i64 (bif decide ((0 : Int) ≤ n) && decide (n < (3 : Int)) then IntKind.wrap .i64 ((45 : Int) + n) else (-1 : Int)))) := by kernel_rfl
theorem lCountP_ok (n : Int) (h : (true) = true) : lCountP_e n = some (.int .i64 (lRow 45 n 3)) := by
  rw [lCountP_eq]
  congr 2
  unfold lRow
  by_cases h0 : 0 ≤ n
  · by_cases h1 : n < 3
    · simp (disch := omega) only [decide_eq_true h0, decide_eq_true h1, Bool.and_self, cond_true, wrapT]; rw [if_pos ⟨h0, h1⟩]
    · simp only [decide_eq_false h1, Bool.and_false, cond_false]; rw [if_neg (by omega)]
  · simp only [decide_eq_false h0, Bool.false_and, cond_false]; rw [if_neg (by omega)]
noncomputable def ua_12 := ua_11.addSpec 33 lCountP_sp
theorem ua_12_laws : FLaws Tryz.prog s19 ua_12 := ua_11_laws.addEv s19_laws fun args d h => by
  unfold lCountP_sp at h
  split at h
  · unfold lCountP_s at h
    have h1 := congrArg Prod.fst (Option.some.inj h)
    obtain rfl : _ = d := congrArg Prod.snd (Option.some.inj h)
    exact ⟨by simp [D.refs], 20, lCountP_ok _ h1⟩
  · cases h
def lCountR_s (n : Int) : Option (Bool × D RC) := some (true, .int .i64 (lRow 45 n 3))
def lCountR_sp : List (D RC) → Option (Bool × D RC)
  | [.int .i64 n] => lCountR_s n
  | _ => none
noncomputable def lCountR_e (n : Int) := evF s19 ua_12 20 13 [.int .i64 n]
theorem lCountR_eq (n : Int) : lCountR_e n = (some (D.int .i64 (bif decide ((0 : Int) ≤ n) && decide (n < (3 : Int)) then IntKind.wrap .i64 ((45 : Int) + IntKind.wrap .i64 ((1 : Int) * n)) else (-1 : Int)))) := by kernel_rfl
theorem lCountR_ok (n : Int) (h : (true) = true) : lCountR_e n = some (.int .i64 (lRow 45 n 3)) := by
  rw [lCountR_eq]
  congr 2
  unfold lRow
  by_cases h0 : 0 ≤ n
  · by_cases h1 : n < 3
    · simp (disch := omega) only [decide_eq_true h0, decide_eq_true h1, Bool.and_self, cond_true, Int.one_mul, wrapT]; rw [if_pos ⟨h0, h1⟩]
    · simp only [decide_eq_false h1, Bool.and_false, cond_false]; rw [if_neg (by omega)]
  · simp only [decide_eq_false h0, Bool.false_and, cond_false]; rw [if_neg (by omega)]
noncomputable def ua_13 := ua_12.addSpec 13 lCountR_sp
theorem ua_13_laws : FLaws Tryz.prog s19 ua_13 := ua_12_laws.addEv s19_laws fun args d h => by
  unfold lCountR_sp at h
  split at h
  · unfold lCountR_s at h
    have h1 := congrArg Prod.fst (Option.some.inj h)
    obtain rfl : _ = d := congrArg Prod.snd (Option.some.inj h)
    exact ⟨by simp [D.refs], 20, lCountR_ok _ h1⟩
  · cases h
def lCutP_s (n : Int) : Option (Bool × D RC) := some (true, .int .i64 (lRow 48 n 3))
def lCutP_sp : List (D RC) → Option (Bool × D RC)
  | [.int .i64 n] => lCutP_s n
  | _ => none
noncomputable def lCutP_e (n : Int) := evF s19 ua_13 20 71 [.int .i64 n]
theorem lCutP_eq (n : Int) : lCutP_e n = (some (D.int .i64 (bif decide ((0 : Int) ≤ n) && decide (n < (3 : Int)) then IntKind.wrap .i64 ((48 : Int) + n) else (-1 : Int)))) := by kernel_rfl
theorem lCutP_ok (n : Int) (h : (true) = true) : lCutP_e n = some (.int .i64 (lRow 48 n 3)) := by
  rw [lCutP_eq]
  congr 2
  unfold lRow
  by_cases h0 : 0 ≤ n
  · by_cases h1 : n < 3
    · simp (disch := omega) only [decide_eq_true h0, decide_eq_true h1, Bool.and_self, cond_true, wrapT]; rw [if_pos ⟨h0, h1⟩]
    · simp only [decide_eq_false h1, Bool.and_false, cond_false]; rw [if_neg (by omega)]
  · simp only [decide_eq_false h0, Bool.false_and, cond_false]; rw [if_neg (by omega)]
noncomputable def ua_14 := ua_13.addSpec 71 lCutP_sp
theorem ua_14_laws : FLaws Tryz.prog s19 ua_14 := ua_13_laws.addEv s19_laws fun args d h => by
  unfold lCutP_sp at h
  split at h
  · unfold lCutP_s at h
    have h1 := congrArg Prod.fst (Option.some.inj h)
    obtain rfl : _ = d := congrArg Prod.snd (Option.some.inj h)
    exact ⟨by simp [D.refs], 20, lCutP_ok _ h1⟩
  · cases h
def lCutR_s (n : Int) : Option (Bool × D RC) := some (true, .int .i64 (lRow 48 n 3))
def lCutR_sp : List (D RC) → Option (Bool × D RC)
  | [.int .i64 n] => lCutR_s n
  | _ => none
noncomputable def lCutR_e (n : Int) := evF s19 ua_14 20 18 [.int .i64 n]
theorem lCutR_eq (n : Int) : lCutR_e n = (some (D.int .i64 (bif decide ((0 : Int) ≤ n) && decide (n < (3 : Int)) then IntKind.wrap .i64 ((48 : Int) + IntKind.wrap .i64 ((1 : Int) * n)) else (-1 : Int)))) := by kernel_rfl
theorem lCutR_ok (n : Int) (h : (true) = true) : lCutR_e n = some (.int .i64 (lRow 48 n 3)) := by
  rw [lCutR_eq]
  congr 2
  unfold lRow
  by_cases h0 : 0 ≤ n
  · by_cases h1 : n < 3
    · simp (disch := omega) only [decide_eq_true h0, decide_eq_true h1, Bool.and_self, cond_true, Int.one_mul, wrapT]; rw [if_pos ⟨h0, h1⟩]
    · simp only [decide_eq_false h1, Bool.and_false, cond_false]; rw [if_neg (by omega)]
  · simp only [decide_eq_false h0, Bool.false_and, cond_false]; rw [if_neg (by omega)]
noncomputable def ua_15 := ua_14.addSpec 18 lCutR_sp
theorem ua_15_laws : FLaws Tryz.prog s19 ua_15 := ua_14_laws.addEv s19_laws fun args d h => by
  unfold lCutR_sp at h
  split at h
  · unfold lCutR_s at h
    have h1 := congrArg Prod.fst (Option.some.inj h)
    obtain rfl : _ = d := congrArg Prod.snd (Option.some.inj h)
    exact ⟨by simp [D.refs], 20, lCutR_ok _ h1⟩
  · cases h
def lFieldP_s (a : Int) (s : Int) (f : Int) (m : Int) (k : Int) : Option (Bool × D RC) := some (true, .int .i64 (bif withinB s 0 (IntKind.i64.wrap (m - 1)) && withinB f 0 (IntKind.i64.wrap (k - 1)) then IntKind.i64.wrap (IntKind.i64.wrap (a + IntKind.i64.wrap (s * k)) + f) else -1))
def lFieldP_sp : List (D RC) → Option (Bool × D RC)
  | [.int .i64 a, .int .i64 s, .int .i64 f, .int .i64 m, .int .i64 k] => lFieldP_s a s f m k
  | _ => none
noncomputable def lFieldP_e (a : Int) (s : Int) (f : Int) (m : Int) (k : Int) := evF s19 ua_15 20 154 [.int .i64 a, .int .i64 s, .int .i64 f, .int .i64 m, .int .i64 k]
theorem lFieldP_eq (a : Int) (s : Int) (f : Int) (m : Int) (k : Int) : lFieldP_e a s f m k = (let Z0 : DO_ := some (D.int .i64 (-1 : Int)); bif !withinB s (0 : Int) (IntKind.wrap .i64 (m - (1 : Int))) then Z0 else bif !withinB f (0 : Int) (IntKind.wrap .i64 (k - (1 : Int))) then Z0 else some (D.int .i64 (IntKind.wrap .i64 (IntKind.wrap .i64 (a + IntKind.wrap .i64 (s * k)) + f)))) := by kernel_rfl
theorem lFieldP_ok (a : Int) (s : Int) (f : Int) (m : Int) (k : Int) (h : (true) = true) : lFieldP_e a s f m k = some (.int .i64 (bif withinB s 0 (IntKind.i64.wrap (m - 1)) && withinB f 0 (IntKind.i64.wrap (k - 1)) then IntKind.i64.wrap (IntKind.i64.wrap (a + IntKind.i64.wrap (s * k)) + f) else -1)) := by
  (rw [lFieldP_eq]; conv => zeta)
  cases withinB s 0 (IntKind.i64.wrap (m - 1)) <;> cases withinB f 0 (IntKind.i64.wrap (k - 1)) <;> rfl
noncomputable def ua_16 := ua_15.addSpec 154 lFieldP_sp
theorem ua_16_laws : FLaws Tryz.prog s19 ua_16 := ua_15_laws.addEv s19_laws fun args d h => by
  unfold lFieldP_sp at h
  split at h
  · unfold lFieldP_s at h
    have h1 := congrArg Prod.fst (Option.some.inj h)
    obtain rfl : _ = d := congrArg Prod.snd (Option.some.inj h)
    exact ⟨by simp [D.refs], 20, lFieldP_ok _ _ _ _ _ h1⟩
  · cases h
def lDescP_s (s : Int) (f : Int) : Option (Bool × D RC) := some (true, .int .i64 (lField 99 s f 16 12))
def lDescP_sp : List (D RC) → Option (Bool × D RC)
  | [.int .i64 s, .int .i64 f] => lDescP_s s f
  | _ => none
noncomputable def lDescP_e (s : Int) (f : Int) := evF s19 ua_16 20 129 [.int .i64 s, .int .i64 f]
theorem lDescP_eq (s : Int) (f : Int) : lDescP_e s f = (some (D.int .i64 (bif withinB s (0 : Int) (15 : Int) && withinB f (0 : Int) (11 : Int) then IntKind.wrap .i64 (IntKind.wrap .i64 ((99 : Int) + IntKind.wrap .i64 (s * (12 : Int))) + f) else (-1 : Int)))) := by kernel_rfl
theorem lDescP_ok (s : Int) (f : Int) (h : (true) = true) : lDescP_e s f = some (.int .i64 (lField 99 s f 16 12)) := by
  rw [lDescP_eq]
  congr 2
  unfold lField
  cases h0 : withinB s 0 15
  · have := withinB_no h0
    rw [if_neg (by omega)]; rfl
  cases h1 : withinB f 0 11
  · have := withinB_no h1
    rw [if_neg (by omega)]; rfl
  rw [withinB_iff] at h0 h1
  rw [if_pos (by omega)]
  simp (disch := omega) only [Bool.and_self, cond_true, wrapT]
noncomputable def ua_17 := ua_16.addSpec 129 lDescP_sp
theorem ua_17_laws : FLaws Tryz.prog s19 ua_17 := ua_16_laws.addEv s19_laws fun args d h => by
  unfold lDescP_sp at h
  split at h
  · unfold lDescP_s at h
    have h1 := congrArg Prod.fst (Option.some.inj h)
    obtain rfl : _ = d := congrArg Prod.snd (Option.some.inj h)
    exact ⟨by simp [D.refs], 20, lDescP_ok _ _ h1⟩
  · cases h
def lDescR_s (s : Int) (f : Int) : Option (Bool × D RC) := some (true, .int .i64 (lField 99 s f 16 12))
def lDescR_sp : List (D RC) → Option (Bool × D RC)
  | [.int .i64 s, .int .i64 f] => lDescR_s s f
  | _ => none
noncomputable def lDescR_e (s : Int) (f : Int) := evF s19 ua_17 20 190 [.int .i64 s, .int .i64 f]
theorem lDescR_eq (s : Int) (f : Int) : lDescR_e s f = (let Z0 : DO_ := some (D.int .i64 (-1 : Int)); let Z1 : Int := bif decide ((0 : Int) ≤ s) && decide (s < (16 : Int)) then IntKind.wrap .i64 ((99 : Int) + IntKind.wrap .i64 ((12 : Int) * s)) else (-1 : Int); bif decide (f < (0 : Int)) then Z0 else bif decide ((11 : Int) < f) then Z0 else bif decide (Z1 < (0 : Int)) then Z0 else some (D.int .i64 (IntKind.wrap .i64 (Z1 + f)))) := by kernel_rfl
theorem lDescR_ok (s : Int) (f : Int) (h : (true) = true) : lDescR_e s f = some (.int .i64 (lField 99 s f 16 12)) := by
  (rw [lDescR_eq]; conv => zeta)
  unfold lField
  refine cond2 (fun h0 => ?_) fun h0 => ?_ <;> simp only [decide_eq_true_eq, decide_eq_false_iff_not] at h0
  · rw [if_neg (by omega)]
  refine cond2 (fun h1 => ?_) fun h1 => ?_ <;> simp only [decide_eq_true_eq, decide_eq_false_iff_not] at h1
  · rw [if_neg (by omega)]
  by_cases h2 : 0 ≤ s
  · by_cases h3 : s < 16
    · simp (disch := omega) only [decide_eq_true h2, decide_eq_true h3, Bool.and_self, cond_true, wrapT]
      rw [decide_eq_false (by omega), if_pos (by omega)]
      simp (disch := omega) only [cond_false, wrapT]
      congr 2; omega
    · simp only [decide_eq_false h3, Bool.and_false, cond_false]; rw [if_neg (by omega)]; rfl
  · simp only [decide_eq_false h2, Bool.false_and, cond_false]; rw [if_neg (by omega)]; rfl
noncomputable def ua_18 := ua_17.addSpec 190 lDescR_sp
theorem ua_18_laws : FLaws Tryz.prog s19 ua_18 := ua_17_laws.addEv s19_laws fun args d h => by
  unfold lDescR_sp at h
  split at h
  · unfold lDescR_s at h
    have h1 := congrArg Prod.fst (Option.some.inj h)
    obtain rfl : _ = d := congrArg Prod.snd (Option.some.inj h)
    exact ⟨by simp [D.refs], 20, lDescR_ok _ _ h1⟩
  · cases h
def lNodeP_s (s : Int) (f : Int) : Option (Bool × D RC) := some (true, .int .i64 (lField 291 s f 160 3))
def lNodeP_sp : List (D RC) → Option (Bool × D RC)
  | [.int .i64 s, .int .i64 f] => lNodeP_s s f
  | _ => none
noncomputable def lNodeP_e (s : Int) (f : Int) := evF s19 ua_18 20 128 [.int .i64 s, .int .i64 f]
theorem lNodeP_eq (s : Int) (f : Int) : lNodeP_e s f = (some (D.int .i64 (bif withinB s (0 : Int) (159 : Int) && withinB f (0 : Int) (2 : Int) then IntKind.wrap .i64 (IntKind.wrap .i64 ((291 : Int) + IntKind.wrap .i64 (s * (3 : Int))) + f) else (-1 : Int)))) := by kernel_rfl
theorem lNodeP_ok (s : Int) (f : Int) (h : (true) = true) : lNodeP_e s f = some (.int .i64 (lField 291 s f 160 3)) := by
  rw [lNodeP_eq]
  congr 2
  unfold lField
  cases h0 : withinB s 0 159
  · have := withinB_no h0
    rw [if_neg (by omega)]; rfl
  cases h1 : withinB f 0 2
  · have := withinB_no h1
    rw [if_neg (by omega)]; rfl
  rw [withinB_iff] at h0 h1
  rw [if_pos (by omega)]
  simp (disch := omega) only [Bool.and_self, cond_true, wrapT]
noncomputable def ua_19 := ua_18.addSpec 128 lNodeP_sp
theorem ua_19_laws : FLaws Tryz.prog s19 ua_19 := ua_18_laws.addEv s19_laws fun args d h => by
  unfold lNodeP_sp at h
  split at h
  · unfold lNodeP_s at h
    have h1 := congrArg Prod.fst (Option.some.inj h)
    obtain rfl : _ = d := congrArg Prod.snd (Option.some.inj h)
    exact ⟨by simp [D.refs], 20, lNodeP_ok _ _ h1⟩
  · cases h
def lNodeR_s (s : Int) (f : Int) : Option (Bool × D RC) := some (true, .int .i64 (lField 291 s f 160 3))
def lNodeR_sp : List (D RC) → Option (Bool × D RC)
  | [.int .i64 s, .int .i64 f] => lNodeR_s s f
  | _ => none
noncomputable def lNodeR_e (s : Int) (f : Int) := evF s19 ua_19 20 52 [.int .i64 s, .int .i64 f]
theorem lNodeR_eq (s : Int) (f : Int) : lNodeR_e s f = (let Z0 : DO_ := some (D.int .i64 (-1 : Int)); let Z1 : Int := bif decide ((0 : Int) ≤ s) && decide (s < (160 : Int)) then IntKind.wrap .i64 ((291 : Int) + IntKind.wrap .i64 ((3 : Int) * s)) else (-1 : Int); bif decide (f < (0 : Int)) then Z0 else bif decide ((2 : Int) < f) then Z0 else bif decide (Z1 < (0 : Int)) then Z0 else some (D.int .i64 (IntKind.wrap .i64 (Z1 + f)))) := by kernel_rfl
theorem lNodeR_ok (s : Int) (f : Int) (h : (true) = true) : lNodeR_e s f = some (.int .i64 (lField 291 s f 160 3)) := by
  (rw [lNodeR_eq]; conv => zeta)
  unfold lField
  refine cond2 (fun h0 => ?_) fun h0 => ?_ <;> simp only [decide_eq_true_eq, decide_eq_false_iff_not] at h0
  · rw [if_neg (by omega)]
  refine cond2 (fun h1 => ?_) fun h1 => ?_ <;> simp only [decide_eq_true_eq, decide_eq_false_iff_not] at h1
  · rw [if_neg (by omega)]
  by_cases h2 : 0 ≤ s
  · by_cases h3 : s < 160
    · simp (disch := omega) only [decide_eq_true h2, decide_eq_true h3, Bool.and_self, cond_true, wrapT]
      rw [decide_eq_false (by omega), if_pos (by omega)]
      simp (disch := omega) only [cond_false, wrapT]
      congr 2; omega
    · simp only [decide_eq_false h3, Bool.and_false, cond_false]; rw [if_neg (by omega)]; rfl
  · simp only [decide_eq_false h2, Bool.false_and, cond_false]; rw [if_neg (by omega)]; rfl
noncomputable def ua_20 := ua_19.addSpec 52 lNodeR_sp
theorem ua_20_laws : FLaws Tryz.prog s19 ua_20 := ua_19_laws.addEv s19_laws fun args d h => by
  unfold lNodeR_sp at h
  split at h
  · unfold lNodeR_s at h
    have h1 := congrArg Prod.fst (Option.some.inj h)
    obtain rfl : _ = d := congrArg Prod.snd (Option.some.inj h)
    exact ⟨by simp [D.refs], 20, lNodeR_ok _ _ h1⟩
  · cases h
open Go.Proofs
def mayA_s (k : Int) (a : Int) (b : Int) (v : Int) (g : Int) (tx : List UInt8) (c : Bool) (ar : List Int) : Option (Bool × D RC) := some (decide (0 ≤ k ∧ k ≤ 7) && (lenOK tx.length && lenOK ar.length), .bool (mayA8 k a b v g tx ar))
def mayA_sp : List (D RC) → Option (Bool × D RC)
  | [.acons (.int .i8 k) (.acons (.int .i64 a) (.acons (.int .i64 b) (.acons (.int .i64 v) (.acons (.int .i64 g) (.acons (.str tx) (.acons (.sl .int c ar) .anil))))))] => mayA_s k a b v g tx c ar
  | _ => none
noncomputable def mayA_e (k : Int) (a : Int) (b : Int) (v : Int) (g : Int) (tx : List UInt8) (c : Bool) (ar : List Int) := evF s19 ua_20 100 121 [.acons (.int .i8 k) (.acons (.int .i64 a) (.acons (.int .i64 b) (.acons (.int .i64 v) (.acons (.int .i64 g) (.acons (.str tx) (.acons (.sl (C := RC) .int c ar) .anil))))))]
theorem mayA_eq0 (a b v g : Int) (tx : List UInt8) (c : Bool) (ar : List Int) : mayA_e 0 a b v g tx c ar = (let Z0 : Int := (-1 : Int); let Z1 : DO_ := some (D.bool false); let Z2 : Bool := lenOK ar.length; let Z3 : Int := (↑ar.length : Int); let Z4 : DO_ := bif tx == Array.toList #[] then bif Z2 then bif Z3 == (0 : Int) then some (D.bool true) else Z1 else none else Z1; let Z5 : DO_ := bif b == (0 : Int) then bif v == (0 : Int) then bif g == (0 : Int) then Z4 else Z4 else Z1 else Z1; bif decide (b < Z0) then Z1 else bif decide ((1152921504606846976 : Int) < b) then Z1 else bif decide (v < Z0) then Z1 else bif decide ((1152921504606846976 : Int) < v) then Z1 else bif decide (g < Z0) then Z1 else bif decide ((1152921504606846976 : Int) < g) then Z1 else bif Z2 then bif decide ((96 : Int) < Z3) then Z1 else bif lenOK tx.length then bif decide ((640 : Int) < (↑tx.length : Int)) then Z1 else bif decide (a < (0 : Int)) then Z1 else bif decide ((4095 : Int) < a) then Z1 else bif a == (0 : Int) then Z5 else Z5 else none else none) := by kernel_rfl
theorem mayA_eq1 (a b v g : Int) (tx : List UInt8) (c : Bool) (ar : List Int) : mayA_e 1 a b v g tx c ar = (let Z0 : Int := (-1 : Int); let Z1 : DO_ := some (D.bool false); let Z2 : Bool := lenOK ar.length; let Z3 : Int := (↑ar.length : Int); let Z4 : DO_ := bif tx == Array.toList #[] then bif Z2 then bif Z3 == (0 : Int) then some (D.bool true) else Z1 else none else Z1; let Z5 : DO_ := bif g == (0 : Int) then Z4 else Z4; let Z6 : DO_ := bif b == (0 : Int) then bif v == (0 : Int) then Z5 else Z5 else Z1; bif decide (b < Z0) then Z1 else bif decide ((1152921504606846976 : Int) < b) then Z1 else bif decide (v < Z0) then Z1 else bif decide ((1152921504606846976 : Int) < v) then Z1 else bif decide (g < Z0) then Z1 else bif decide ((1152921504606846976 : Int) < g) then Z1 else bif Z2 then bif decide ((96 : Int) < Z3) then Z1 else bif lenOK tx.length then bif decide ((640 : Int) < (↑tx.length : Int)) then Z1 else bif decide (a < (0 : Int)) then Z1 else bif decide ((4095 : Int) < a) then Z1 else bif a == (0 : Int) then Z6 else Z6 else none else none) := by kernel_rfl
theorem mayA_eq2 (a b v g : Int) (tx : List UInt8) (c : Bool) (ar : List Int) : mayA_e 2 a b v g tx c ar = (let Z0 : Int := (-1 : Int); let Z1 : DO_ := some (D.bool false); let Z2 : Bool := lenOK ar.length; let Z3 : Int := (↑ar.length : Int); let Z4 : DO_ := bif tx == Array.toList #[] then bif Z2 then bif Z3 == (0 : Int) then some (D.bool true) else Z1 else none else Z1; let Z5 : DO_ := bif g == (0 : Int) then Z4 else Z4; let Z6 : DO_ := bif v == (0 : Int) then Z5 else Z5; let Z7 : DO_ := bif b == (0 : Int) then Z6 else Z6; bif decide (b < Z0) then Z1 else bif decide ((1152921504606846976 : Int) < b) then Z1 else bif decide (v < Z0) then Z1 else bif decide ((1152921504606846976 : Int) < v) then Z1 else bif decide (g < Z0) then Z1 else bif decide ((1152921504606846976 : Int) < g) then Z1 else bif Z2 then bif decide ((96 : Int) < Z3) then Z1 else bif lenOK tx.length then bif decide ((640 : Int) < (↑tx.length : Int)) then Z1 else bif decide (a < (0 : Int)) then Z1 else bif decide ((4095 : Int) < a) then Z1 else bif a == (0 : Int) then Z7 else Z7 else none else none) := by kernel_rfl
theorem mayA_eq3 (a b v g : Int) (tx : List UInt8) (c : Bool) (ar : List Int) : mayA_e 3 a b v g tx c ar = (let Z0 : Int := (-1 : Int); let Z1 : DO_ := some (D.bool false); let Z2 : Bool := lenOK ar.length; let Z3 : Int := (↑ar.length : Int); let Z4 : DO_ := bif g == (0 : Int) then bif tx == Array.toList #[] then bif Z2 then bif Z3 == (0 : Int) then some (D.bool true) else Z1 else none else Z1 else Z1; let Z5 : DO_ := bif b == (0 : Int) then bif v == (0 : Int) then Z4 else Z4 else Z1; bif decide (b < Z0) then Z1 else bif decide ((1152921504606846976 : Int) < b) then Z1 else bif decide (v < Z0) then Z1 else bif decide ((1152921504606846976 : Int) < v) then Z1 else bif decide (g < Z0) then Z1 else bif decide ((1152921504606846976 : Int) < g) then Z1 else bif Z2 then bif decide ((96 : Int) < Z3) then Z1 else bif lenOK tx.length then bif decide ((640 : Int) < (↑tx.length : Int)) then Z1 else bif decide (a < (0 : Int)) then Z1 else bif decide ((4095 : Int) < a) then Z1 else bif a == (0 : Int) then Z5 else Z5 else none else none) := by kernel_rfl
theorem mayA_eq4 (a b v g : Int) (tx : List UInt8) (c : Bool) (ar : List Int) : mayA_e 4 a b v g tx c ar = (let Z0 : Int := (-1 : Int); let Z1 : DO_ := some (D.bool false); let Z2 : Bool := lenOK ar.length; let Z3 : Int := (↑ar.length : Int); let Z4 : DO_ := bif Z2 then bif Z3 == (0 : Int) then some (D.bool true) else Z1 else none; let Z5 : DO_ := bif v == (0 : Int) then bif g == (0 : Int) then bif tx == Array.toList #[] then Z4 else Z4 else Z1 else Z1; let Z6 : DO_ := bif b == (0 : Int) then Z5 else Z5; bif decide (b < Z0) then Z1 else bif decide ((1152921504606846976 : Int) < b) then Z1 else bif decide (v < Z0) then Z1 else bif decide ((1152921504606846976 : Int) < v) then Z1 else bif decide (g < Z0) then Z1 else bif decide ((1152921504606846976 : Int) < g) then Z1 else bif Z2 then bif decide ((96 : Int) < Z3) then Z1 else bif lenOK tx.length then bif decide ((640 : Int) < (↑tx.length : Int)) then Z1 else bif decide (a < (0 : Int)) then Z1 else bif decide ((4095 : Int) < a) then Z1 else bif a == (0 : Int) then Z6 else Z6 else none else none) := by kernel_rfl
theorem mayA_eq5 (a b v g : Int) (tx : List UInt8) (c : Bool) (ar : List Int) : mayA_e 5 a b v g tx c ar = (let Z0 : Int := (-1 : Int); let Z1 : DO_ := some (D.bool false); let Z2 : Bool := lenOK ar.length; let Z3 : Int := (↑ar.length : Int); bif decide (b < Z0) then Z1 else bif decide ((1152921504606846976 : Int) < b) then Z1 else bif decide (v < Z0) then Z1 else bif decide ((1152921504606846976 : Int) < v) then Z1 else bif decide (g < Z0) then Z1 else bif decide ((1152921504606846976 : Int) < g) then Z1 else bif Z2 then bif decide ((96 : Int) < Z3) then Z1 else bif lenOK tx.length then bif decide ((640 : Int) < (↑tx.length : Int)) then Z1 else bif decide (a < (0 : Int)) then Z1 else bif decide ((4095 : Int) < a) then Z1 else bif a == (0 : Int) then bif b == (0 : Int) then bif v == (0 : Int) then bif g == (0 : Int) then bif tx == Array.toList #[] then bif Z2 then bif Z3 == (0 : Int) then some (D.bool true) else Z1 else none else Z1 else Z1 else Z1 else Z1 else Z1 else none else none) := by kernel_rfl
theorem mayA_eq6 (a b v g : Int) (tx : List UInt8) (c : Bool) (ar : List Int) : mayA_e 6 a b v g tx c ar = (let Z0 : Int := (-1 : Int); let Z1 : DO_ := some (D.bool false); let Z2 : Bool := lenOK ar.length; let Z3 : Int := (↑ar.length : Int); let Z4 : DO_ := bif b == (0 : Int) then bif v == (0 : Int) then bif g == (0 : Int) then bif tx == Array.toList #[] then bif Z2 then bif Z3 == (0 : Int) then some (D.bool true) else some (D.bool true) else none else Z1 else Z1 else Z1 else Z1; bif decide (b < Z0) then Z1 else bif decide ((1152921504606846976 : Int) < b) then Z1 else bif decide (v < Z0) then Z1 else bif decide ((1152921504606846976 : Int) < v) then Z1 else bif decide (g < Z0) then Z1 else bif decide ((1152921504606846976 : Int) < g) then Z1 else bif Z2 then bif decide ((96 : Int) < Z3) then Z1 else bif lenOK tx.length then bif decide ((640 : Int) < (↑tx.length : Int)) then Z1 else bif decide (a < (0 : Int)) then Z1 else bif decide ((4095 : Int) < a) then Z1 else bif decide ((127 : Int) < a) then Z1 else bif a == (0 : Int) then Z4 else Z4 else none else none) := by kernel_rfl
theorem mayA_eq7 (a b v g : Int) (tx : List UInt8) (c : Bool) (ar : List Int) : mayA_e 7 a b v g tx c ar = (let Z0 : Int := (-1 : Int); let Z1 : DO_ := some (D.bool false); let Z2 : Bool := lenOK ar.length; let Z3 : Int := (↑ar.length : Int); bif decide (b < Z0) then Z1 else bif decide ((1152921504606846976 : Int) < b) then Z1 else bif decide (v < Z0) then Z1 else bif decide ((1152921504606846976 : Int) < v) then Z1 else bif decide (g < Z0) then Z1 else bif decide ((1152921504606846976 : Int) < g) then Z1 else bif Z2 then bif decide ((96 : Int) < Z3) then Z1 else bif lenOK tx.length then bif decide ((640 : Int) < (↑tx.length : Int)) then Z1 else bif decide (a < (0 : Int)) then Z1 else bif decide ((4095 : Int) < a) then Z1 else bif a == (0 : Int) then bif b == (0 : Int) then bif v == (0 : Int) then bif g == (0 : Int) then bif tx == Array.toList #[] then bif Z2 then bif Z3 == (0 : Int) then some (D.bool true) else some (D.bool true) else none else Z1 else Z1 else Z1 else Z1 else Z1 else none else none) := by kernel_rfl
theorem mayA_k0 (a b v g : Int) (tx : List UInt8) (c : Bool) (ar : List Int) (h1 : lenOK tx.length = true) (h2 : lenOK ar.length = true) : mayA_e 0 a b v g tx c ar = some (.bool (mayA8 0 a b v g tx ar)) := by
  (rw [mayA_eq0]; conv => zeta)
  simp only [h1, h2, cond_true]
  clear h1 h2
  repeat' (first | refine cdD (fun hc => ?_) fun hc => ?_ | refine cdE (fun hc => ?_) fun hc => ?_ | refine cdS (fun hc => ?_) fun hc => ?_)
  all_goals first | exact mayT8 (MayA.k0.2 (by omega)) | exact mayF8 (fun q => by have q := MayA.k0.1 q; omega)
theorem mayA_k1 (a b v g : Int) (tx : List UInt8) (c : Bool) (ar : List Int) (h1 : lenOK tx.length = true) (h2 : lenOK ar.length = true) : mayA_e 1 a b v g tx c ar = some (.bool (mayA8 1 a b v g tx ar)) := by
  (rw [mayA_eq1]; conv => zeta)
  simp only [h1, h2, cond_true]
  clear h1 h2
  repeat' (first | refine cdD (fun hc => ?_) fun hc => ?_ | refine cdE (fun hc => ?_) fun hc => ?_ | refine cdS (fun hc => ?_) fun hc => ?_)
  all_goals first | exact mayT8 (MayA.k1.2 (by omega)) | exact mayF8 (fun q => by have q := MayA.k1.1 q; omega)
theorem mayA_k2 (a b v g : Int) (tx : List UInt8) (c : Bool) (ar : List Int) (h1 : lenOK tx.length = true) (h2 : lenOK ar.length = true) : mayA_e 2 a b v g tx c ar = some (.bool (mayA8 2 a b v g tx ar)) := by
  (rw [mayA_eq2]; conv => zeta)
  simp only [h1, h2, cond_true]
  clear h1 h2
  repeat' (first | refine cdD (fun hc => ?_) fun hc => ?_ | refine cdE (fun hc => ?_) fun hc => ?_ | refine cdS (fun hc => ?_) fun hc => ?_)
  all_goals first | exact mayT8 (MayA.k2.2 (by omega)) | exact mayF8 (fun q => by have q := MayA.k2.1 q; omega)
theorem mayA_k3 (a b v g : Int) (tx : List UInt8) (c : Bool) (ar : List Int) (h1 : lenOK tx.length = true) (h2 : lenOK ar.length = true) : mayA_e 3 a b v g tx c ar = some (.bool (mayA8 3 a b v g tx ar)) := by
  (rw [mayA_eq3]; conv => zeta)
  simp only [h1, h2, cond_true]
  clear h1 h2
  repeat' (first | refine cdD (fun hc => ?_) fun hc => ?_ | refine cdE (fun hc => ?_) fun hc => ?_ | refine cdS (fun hc => ?_) fun hc => ?_)
  all_goals first | exact mayT8 (MayA.k3.2 (by omega)) | exact mayF8 (fun q => by have q := MayA.k3.1 q; omega)
theorem mayA_k4 (a b v g : Int) (tx : List UInt8) (c : Bool) (ar : List Int) (h1 : lenOK tx.length = true) (h2 : lenOK ar.length = true) : mayA_e 4 a b v g tx c ar = some (.bool (mayA8 4 a b v g tx ar)) := by
  (rw [mayA_eq4]; conv => zeta)
  simp only [h1, h2, cond_true]
  clear h1 h2
  repeat' (first | refine cdD (fun hc => ?_) fun hc => ?_ | refine cdE (fun hc => ?_) fun hc => ?_ | refine cdS (fun hc => ?_) fun hc => ?_)
  all_goals first | exact mayT8 (MayA.k4.2 (by omega)) | exact mayF8 (fun q => by have q := MayA.k4.1 q; omega)
theorem mayA_k5 (a b v g : Int) (tx : List UInt8) (c : Bool) (ar : List Int) (h1 : lenOK tx.length = true) (h2 : lenOK ar.length = true) : mayA_e 5 a b v g tx c ar = some (.bool (mayA8 5 a b v g tx ar)) := by
  (rw [mayA_eq5]; conv => zeta)
  simp only [h1, h2, cond_true]
  clear h1 h2
  repeat' (first | refine cdD (fun hc => ?_) fun hc => ?_ | refine cdE (fun hc => ?_) fun hc => ?_ | refine cdS (fun hc => ?_) fun hc => ?_)
  all_goals first | exact mayT8 (MayA.k5.2 (by omega)) | exact mayF8 (fun q => by have q := MayA.k5.1 q; omega)
theorem mayA_k6 (a b v g : Int) (tx : List UInt8) (c : Bool) (ar : List Int) (h1 : lenOK tx.length = true) (h2 : lenOK ar.length = true) : mayA_e 6 a b v g tx c ar = some (.bool (mayA8 6 a b v g tx ar)) := by
  (rw [mayA_eq6]; conv => zeta)
  simp only [h1, h2, cond_true]
  clear h1 h2
  repeat' (first | refine cdD (fun hc => ?_) fun hc => ?_ | refine cdE (fun hc => ?_) fun hc => ?_ | refine cdS (fun hc => ?_) fun hc => ?_)
  all_goals first | exact mayT8 (MayA.k6.2 (by omega)) | exact mayF8 (fun q => by have q := MayA.k6.1 q; omega)
theorem mayA_k7 (a b v g : Int) (tx : List UInt8) (c : Bool) (ar : List Int) (h1 : lenOK tx.length = true) (h2 : lenOK ar.length = true) : mayA_e 7 a b v g tx c ar = some (.bool (mayA8 7 a b v g tx ar)) := by
  (rw [mayA_eq7]; conv => zeta)
  simp only [h1, h2, cond_true]
  clear h1 h2
  repeat' (first | refine cdD (fun hc => ?_) fun hc => ?_ | refine cdE (fun hc => ?_) fun hc => ?_ | refine cdS (fun hc => ?_) fun hc => ?_)
  all_goals first | exact mayT8 (MayA.k7.2 (by omega)) | exact mayF8 (fun q => by have q := MayA.k7.1 q; omega)
theorem mayA_ok (k : Int) (a : Int) (b : Int) (v : Int) (g : Int) (tx : List UInt8) (c : Bool) (ar : List Int) (h : (decide (0 ≤ k ∧ k ≤ 7) && (lenOK tx.length && lenOK ar.length)) = true) : mayA_e k a b v g tx c ar = some (.bool (mayA8 k a b v g tx ar)) := by
  rw [Bool.and_eq_true, Bool.and_eq_true, decide_eq_true_eq] at h
  obtain ⟨h0, h1, h2⟩ := h
  have hs : ((((((k = 0 ∨ k = 1) ∨ k = 2) ∨ k = 3) ∨ k = 4) ∨ k = 5) ∨ k = 6) ∨ k = 7 := by omega
  rcases hs with ((((((rfl | rfl) | rfl) | rfl) | rfl) | rfl) | rfl) | rfl
  · exact mayA_k0 a b v g tx c ar h1 h2
  · exact mayA_k1 a b v g tx c ar h1 h2
  · exact mayA_k2 a b v g tx c ar h1 h2
  · exact mayA_k3 a b v g tx c ar h1 h2
  · exact mayA_k4 a b v g tx c ar h1 h2
  · exact mayA_k5 a b v g tx c ar h1 h2
  · exact mayA_k6 a b v g tx c ar h1 h2
  · exact mayA_k7 a b v g tx c ar h1 h2
noncomputable def ub_1 := ua_20.addSpec 121 mayA_sp
theorem ub_1_laws : FLaws Tryz.prog s19 ub_1 := ua_20_laws.addEv s19_laws fun args d h => by
  unfold mayA_sp at h
  split at h
  · unfold mayA_s at h
    have h1 := congrArg Prod.fst (Option.some.inj h)
    obtain rfl : _ = d := congrArg Prod.snd (Option.some.inj h)
    exact ⟨by simp [D.refs], 100, mayA_ok _ _ _ _ _ _ _ _ h1⟩
  · cases h
end Go.Ev
