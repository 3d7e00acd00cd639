/-
  A part of the proof of a statement of this seat: the model is run over values by content, proved sound; what the functions come to. No condition beyond the given statements. (text 4)
-/
import Derived.Test.YtbflnilnlangpaaP2
import Derived.KernelRfl
namespace Go.Ev
set_option linter.unusedVariables false
set_option linter.unusedSimpArgs false
def Leaf {α : Type} (o : Option α) (p : α → Prop) : Prop := ∃ r, o = some r ∧ p r
theorem leaf_cond {α : Type} {c : Bool} {x y : Option α} {p : α → Prop} : Leaf (cond c x y) p ↔ (c = true → Leaf x p) ∧ (c = false → Leaf y p) := by
  cases c <;> simp
theorem leaf_some {α : Type} {a : α} {p : α → Prop} : Leaf (some a) p ↔ p a := by simp [Leaf]
section
variable {C : Cdc} {P : Program} {T : Tab C} {Φ : Fns C}
open Pg (Ex)
def loopsOf (Φ : Fns C) (g : FuncId) : List Code := match Φ.fn g with
  | some fn => match fn.body with
    | some b => loops b
    | none => []
  | none => []
def bodyAt (Φ : Fns C) (g key : Nat) : Code := ((loopsOf Φ g).find? fun b => Nat.beq (firstRegion b) key).getD .skip
def freshKey (k : Nat) : List Code → Bool
  | [] => true
  | b :: l => !(Nat.beq (firstRegion b) k) && freshKey k l
def keysB : List Code → Bool
  | [] => true
  | b :: l => freshKey (firstRegion b) l && keysB l
theorem freshKey_spec {k : Nat} : ∀ {l : List Code}, freshKey k l = true → ∀ b ∈ l, firstRegion b ≠ k
  | [], _, b, hb => by simp at hb
  | c :: l, h, b, hb => by
    simp only [freshKey, Bool.and_eq_true, Bool.not_eq_true'] at h
    simp only [List.mem_cons] at hb
    rcases hb with rfl | hb
    · exact Nat.ne_of_beq_eq_false h.1
    · exact freshKey_spec h.2 b hb
theorem keysB_spec {k : Nat} : ∀ {l : List Code}, keysB l = true → ∀ b ∈ l, firstRegion b = k → l.find? (fun b => Nat.beq (firstRegion b) k) = some b
  | [], _, b, hb, _ => by simp at hb
  | c :: l, h, b, hb, hk => by
    simp only [keysB, Bool.and_eq_true] at h
    simp only [List.mem_cons] at hb
    rcases hb with rfl | hb
    · simp [hk]
    · have hne := freshKey_spec h.1 b hb
      have : Nat.beq (firstRegion c) k = false := beqF (by rw [← hk]; exact fun e => hne e.symm)
      simp only [List.find?_cons, this]
      exact keysB_spec h.2 b hb hk
theorem bodyAt_eq {g key : Nat} (hk : keysB (loopsOf Φ g) = true) {fn : Func} {body b : Code} (hf : Φ.fn g = some fn) (hb : fn.body = some body) (hm : b ∈ loops body) (hkey : firstRegion b = key) : bodyAt Φ g key = b := by
  have : loopsOf Φ g = loops body := by simp [loopsOf, hf, hb]
  rw [bodyAt, this, keysB_spec (by rw [← this]; exact hk) b hm hkey]
  rfl
def sel : List Nat → Env C → Env C
  | [], _ => []
  | k :: l, env => (k, eget env k) :: sel l env
def cut (kc kf : List Nat) (r : Ev.X × Env C) : Ev.X × Env C := match r.1 with
  | .normal => (.normal, sel kc r.2)
  | x => (x, sel kf r.2)
theorem sel_sub : ∀ (l : List Nat) (env : Env C), Sub env (sel l env)
  | [], env, p, hp => by simp [sel] at hp
  | k :: l, env, p, hp => by
    simp only [sel, List.mem_cons] at hp
    rcases hp with rfl | hp
    · rfl
    · exact sel_sub l env p hp
end
theorem wrap_id {n : Int} (h1 : -9223372036854775808 ≤ n) (h2 : n ≤ 9223372036854775807) : IntKind.i64.wrap n = n := by
  simp only [IntKind.wrap, IntKind.bits, IntKind.signed]
  simp
  omega
def eachB {α : Type} (one : α → Bool) (two : α → α → Bool) : Option α → List α → Bool
  | _, [] => true
  | p, x :: l => one x && (match p with | none => true | some y => two y x) && eachB one two (some x) l
def ahead {α : Type} (l : List α) (i : Nat) : Option α := match i with
  | 0 => none
  | i + 1 => l[i]?
section
variable {C : Cdc} {P : Program} {T : Tab C} {Φ : Fns C}
open Pg (Ex)
structure LoopO (C : Cdc) (σ : Type) where
  k : Nat
  canon : σ → Env C
  objs : σ → List (Obj C)
  fin : σ → Ev.X × Env C
  fobjs : σ → List (Obj C)
  Inv : σ → Prop
  μ : σ → Nat
def RefsOK (k : Nat) (env : Env C) (os : List (Obj C)) : Prop := os.length = k ∧ (∀ q ∈ env, ∀ r ∈ q.2.refs, r < k) ∧ ∀ o ∈ os, ∀ r ∈ Obj.refs o, r < k
def Grow (os os' : List (Obj C)) (f : Nat → Nat) : Prop := ∀ j, j < os.length → f j = j ∨ ∃ t own l own' l', os[j]? = some (.vec t own l) ∧ os'[j]? = some (.vec t own' l') ∧ l.length < l'.length
def Cx.partM (X : Cx) (k : Nat) (f : Nat → Nat) : Cx := ⟨X.w, fun j => if j < k then X.ρ (f j) else none, X.O⟩
theorem Cx.partM_mine {X : Cx} {k : Nat} {f : Nat → Nat} {b o : Nat} : (X.partM k f).mine b o ↔ ∃ j l, j < k ∧ X.ρ (f j) = some l ∧ l.owns b o := by
  constructor
  · rintro ⟨j, l, h1, h2⟩
    simp only [Cx.partM] at h1
    split at h1
    · exact ⟨j, l, by assumption, h1, h2⟩
    · cases h1
  · rintro ⟨j, l, h0, h1, h2⟩
    exact ⟨j, l, by simp [Cx.partM, h0, h1], h2⟩
theorem Cx.partM_free {X : Cx} {k : Nat} {f : Nat → Nat} {b o : Nat} (h : X.free b o) : (X.partM k f).free b o :=
  ⟨h.1, fun hm => by obtain ⟨j, l, _, hl, ho⟩ := Cx.partM_mine.1 hm; exact h.2 ⟨f j, l, hl, ho⟩⟩
theorem Part.ctxM (L : Laws T) {X : Cx} {h : Heap C} {nx : Nat} {lim : Lim} (g : G T X h nx lim) {os : List (Obj C)} {f : Nat → Nat} (p : Part h os f) (top : Nat) : G T (X.partM os.length f) (hpOf 0 os) os.length (lim0 top) := by
  obtain ⟨fi, hfi⟩ := inv_of p.inj
  have hX : Kps X (X.partM os.length f) := ⟨fun b o v h1 h2 => ⟨h1, Cx.partM_free h2⟩, fun l r h1 h2 => ⟨h1, fun o hm => by obtain ⟨j, q, _, hl, ho⟩ := Cx.partM_mine.1 hm; exact h2 o ⟨f j, q, hl, ho⟩⟩⟩
  refine ⟨?_, ?_, ?_, ?_, ?_, ?_, ?_, ?_, Nat.zero_le _, ?_⟩
  · intro id t d ho
    rw [hpOf_get0] at ho
    have hlt : id < os.length := (List.getElem?_eq_some_iff.1 ho).1
    obtain ⟨b, c, h1, h2, h3, h4⟩ := g.var (f id) t (d.ren f) (p.at' id _ ho)
    have hrefs : ∀ r ∈ d.refs, r < os.length := p.refs _ (List.mem_of_getElem? ho)
    refine ⟨b, c, by simp [Cx.partM, hlt, h1], h2, ?_, by rw [fit_ren] at h4; exact h4⟩
    have h5 := h3.ren (X' := X.partM os.length f) fi L.encOK hX (fun r hr => by
      rw [D.ren_refs, List.mem_map] at hr
      obtain ⟨r0, hr0, rfl⟩ := hr
      have := hrefs r0 hr0
      simp only [hfi r0 this, Cx.partM, this, if_true]
      exact .refl _)
    rwa [D.ren_ren f fi d (fun r hr => hfi r (hrefs r hr))] at h5
  · intro id t own l ho
    rw [hpOf_get0] at ho
    have hlt : id < os.length := (List.getElem?_eq_some_iff.1 ho).1
    obtain ⟨v, b, lo, hi, h1, h2⟩ := g.vec (f id) t own l (p.at' id _ ho)
    refine ⟨v, b, lo, hi, by simp [Cx.partM, hlt, h1], ?_⟩
    exact h2.move L hX.cell (fun _ => rfl) (L.posE t)
  · intro id ck cv l ho
    rw [hpOf_get0] at ho
    have hlt : id < os.length := (List.getElem?_eq_some_iff.1 ho).1
    obtain ⟨b, es, k, h1, h2, h3⟩ := g.map (f id) ck cv l (p.at' id _ ho)
    exact ⟨b, es, k, by simp [Cx.partM, hlt, h1], h2, h3.move L hX.cell⟩
  · intro id l hr
    simp only [Cx.partM] at hr
    split at hr
    · rename_i hlt
      rw [hpOf_get0]; simp [hlt]
    · cases hr
  · intro id o ho
    rw [hpOf_get0] at ho
    have hlt : id < os.length := (List.getElem?_eq_some_iff.1 ho).1
    exact ⟨⟨.inl hlt, fun h => h⟩, fun r hr => ⟨.inl (p.refs _ (List.mem_of_getElem? ho) r hr), fun h => h⟩⟩
  · intro i j l l' b o o' h1 h2 h3 h4
    simp only [Cx.partM] at h1 h2
    split at h1
    · split at h2
      · exact p.inj i j (by assumption) (by assumption) (g.apart _ _ _ _ _ _ _ h1 h2 h3 h4)
      · cases h2
    · cases h1
  · intro b o hm
    obtain ⟨j, l, hj, hl, ho⟩ := Cx.partM_mine.1 hm
    exact g.outer b o ⟨_, l, hl, ho⟩
  · intro b o ho
    exact g.outs b o ho
  · exact fun q hq => ⟨(g.pre q hq).1, fun o hm => by
      obtain ⟨j, l, hj, hl, ho⟩ := Cx.partM_mine.1 hm
      exact (g.pre q hq).2 o ⟨_, l, hl, ho⟩⟩
theorem EnvOK.partM (L : Laws T) {X : Cx} {nx : Nat} {lim : Lim} {env env0 : Env C} {tmps : Array Value} {k top : Nat} {f : Nat → Nat} (he : EnvOK T X nx lim env tmps) (hinj : ∀ i j, i < k → j < k → f i = f j → i = j)
    (hs : ∀ q ∈ env0, eget env q.1 = q.2.ren f) (hr : ∀ q ∈ env0, ∀ r ∈ q.2.refs, r < k) : EnvOK T (X.partM k f) k (lim0 top) env0 tmps := by
  obtain ⟨fi, hfi⟩ := inv_of hinj
  intro t
  rcases eget_mem env0 t with h | h
  · rw [h]; exact RO.mk (RV.top _ _ _) rfl
  · have hrt : ∀ r ∈ (eget env0 t).refs, r < k := hr _ h
    refine ⟨?_, fun r hh => ⟨.inl (hrt r hh), fun h => h⟩⟩
    have h1 := (he t).1
    have h2 := hs _ h
    simp only at h2
    rw [h2] at h1
    have h3 := RV.ren (X := X) (X' := X.partM k f) fi L.encOK (h := h1) ⟨fun b o v a1 a2 => ⟨a1, Cx.partM_free a2⟩, fun l r h1 h2 => ⟨h1, fun o hm => by obtain ⟨j, q, _, hl, ho⟩ := Cx.partM_mine.1 hm; exact h2 o ⟨f j, q, hl, ho⟩⟩⟩ (fun r hh => by
      rw [D.ren_refs, List.mem_map] at hh
      obtain ⟨r0, hr0, rfl⟩ := hh
      have := hrt r0 hr0
      simp only [hfi r0 this, Cx.partM, this, if_true]
      exact .refl _)
    rwa [D.ren_ren f fi _ (fun r hh => hfi r (hrt r hh))] at h3
theorem VecOK.lenV {X : Cx} {t : C.Ty} {own : Bool} {l : List (C.A t)} {v : Value} {b lo hi : Nat} (h : VecOK T X t own l v b lo hi) : Ev.lenV v = l.length := by
  rcases h with ⟨⟨a, rfl, _⟩, rfl, _⟩ | ⟨off, cp, rfl, _⟩ <;> rfl
theorem Part.stepM {X X1 : Cx} {h' : Heap C} {nx' : Nat} {os os' : List (Obj C)} {f : Nat → Nat} (g : G T X (hpOf 0 os) os.length (lim0 os.length)) (g1 : G T X1 h' nx' (lim0 nx')) (s : Step X os.length (lim0 nx') X1) (p : Part h' os' f) (hlen : os'.length = os.length) (hg : Grow os os' f) :
    Step X os.length (lim0 os.length) (X1.partM os.length f) := by
  refine ⟨s.O, s.os, s.tape, s.output, s.size, fun id ho => ?_, fun b o hb hm => ?_, s.cell, s.block, s.frz⟩
  · by_cases hid : id < os.length
    · simp only [Cx.partM, hid, if_true]
      rcases hg id hid with hf | ⟨t, own, l, own', l', h1, h2, h3⟩
      · rw [hf]; exact s.ρ id ⟨.inl hid, fun h => h⟩
      · obtain ⟨v, b, lo, hi, a1, a2⟩ := g.vec id t own l (by rw [hpOf_get0]; exact h1)
        obtain ⟨v', b', lo', hi', c1, c2⟩ := g1.vec (f id) t own' l' (p.at' id _ h2)
        rw [a1, c1]
        have e1 := a2.lenV
        have e2 := c2.lenV
        exact ⟨rfl, by omega, fun h => by omega⟩
    · have : (X1.partM os.length f).ρ id = none := by simp [Cx.partM, hid]
      rw [this]; cases X.ρ id <;> simp [Compat]
  · obtain ⟨j, l, hj, hl, ho⟩ := Cx.partM_mine.1 hm
    exact s.mine b o hb ⟨f j, l, hl, ho⟩
def RoundO (T : Tab C) (Φ : Fns C) (g : FuncId) (b : Code) {σ : Type} (S : LoopO C σ) : Prop :=
  ∀ s, S.Inv s → RefsOK S.k (S.canon s) (S.objs s) ∧ RefsOK S.k (S.fin s).2 (S.fobjs s) ∧ ∃ n x env' h' nx' tr, Ex (0, 0) (evC T Φ n g b (S.canon s)) (hpOf 0 (S.objs s)) S.k (x, env') h' nx' tr ∧
    ((x = .normal ∧ ∃ s', S.Inv s' ∧ S.μ s' < S.μ s ∧ S.fin s' = S.fin s ∧ S.fobjs s' = S.fobjs s ∧ Sub env' (S.canon s') ∧ ∀ j, j < S.k → h'.get j = (S.objs s')[j]?) ∨
     (x = .normal ∧ ∃ s' f, S.Inv s' ∧ S.μ s' < S.μ s ∧ S.fin s' = S.fin s ∧ S.fobjs s' = S.fobjs s ∧ (∀ p ∈ S.canon s', eget env' p.1 = p.2.ren f) ∧ Part h' (S.objs s') f ∧ Grow (S.objs s) (S.objs s') f) ∨
     (x ≠ .normal ∧ x = (S.fin s).1 ∧ Sub env' (S.fin s).2 ∧ ∀ j, j < S.k → h'.get j = (S.fobjs s)[j]?))
theorem G.relim2 {X : Cx} {h : Heap C} {nx nx' k : Nat} {lim lim' : Lim} (g : G T X h nx lim) (hk : ∀ id o, h.get id = some o → id < k ∧ ∀ r ∈ o.refs, r < k) (hn : k ≤ nx') (hl : lim'.lo ≤ nx') (hH : ∀ id, ¬ lim'.H id) : G T X h nx' lim' :=
  ⟨g.var, g.vec, g.map, g.dom, fun id o ho => ⟨⟨.inl (by have := (hk id o ho).1; omega), hH id⟩, fun r hr => ⟨.inl (by have := (hk id o ho).2 r hr; omega), hH r⟩⟩, g.apart, g.outer, g.outs, hl, g.pre⟩
theorem hpOf_nums {os : List (Obj C)} {k : Nat} (hl : os.length = k) (hr : ∀ o ∈ os, ∀ r ∈ Obj.refs o, r < k) : ∀ id o, (hpOf 0 os).get id = some o → id < k ∧ ∀ r ∈ o.refs, r < k := by
  intro id o ho
  rw [hpOf_get0] at ho
  exact ⟨by rw [← hl]; exact (List.getElem?_eq_some_iff.1 ho).1, hr o (List.mem_of_getElem? ho)⟩
theorem rounds_obj (K : PLaws P T) (F : FLaws P T Φ) {g : FuncId} {fn : Func} {body b : Code} {σ : Type} {S : LoopO C σ} (hr : RoundO T Φ g b S) (hf : Φ.fn g = some fn) (hb : fn.body = some body) (hcb : codeB fn.ntmps b = true) (hl : ∀ b' ∈ loops b, b' ∈ loops body) {B : Nat → Bool} (hB : ClearC B b)
    {Q : Exit → Act → World → Prop} : ∀ (m : Nat) (s : σ) (X : Cx) (a : Act), S.Inv s → S.μ s < m → G T X (hpOf 0 (S.objs s)) S.k (lim0 S.k) → EnvOK T X S.k (lim0 S.k) (S.canon s) a.tmps → fn.ntmps ≤ a.tmps.size →
      (∀ a' X', G T X' (hpOf 0 (S.fobjs s)) S.k (lim0 S.k) → Step X S.k (lim0 S.k) X' → EnvOK T X' S.k (lim0 S.k) (S.fin s).2 a'.tmps → a'.tmps.size = a.tmps.size → Marks X X' a'.defers a.defers → Kp B a.tmps a'.tmps → Q (exitX (S.fin s).1) a' X'.w) → Code.rounds P b Q m a X.w := by
  intro m
  induction m with
  | zero => intro s X a _ hm; omega
  | succ m ih =>
    intro s X a hI hm hg he hsz hk
    obtain ⟨hr1, hr2, n, x, env', h', nx', tr, hx, hcase⟩ := hr s hI
    rw [rounds_succ]
    have hle : S.k ≤ nx' := hx.le
    have g0 : G T X (hpOf 0 (S.objs s)) S.k (lim0 nx') := hg.relim2 (hpOf_nums hr1.1 hr1.2.2) (Nat.le_refl _) (Nat.zero_le _) (fun _ h => h)
    have e0 : EnvOK T X S.k (lim0 nx') (S.canon s) a.tmps := fun t => ⟨(he t).1, fun r hh => ⟨.inl (by
      rcases eget_mem (S.canon s) t with h | h
      · rw [h] at hh; simp [D.refs] at hh
      · exact hr1.2.1 _ h r hh), fun h => h⟩⟩
    refine (wpIn_wide (n := 0)).1 ((code_ok K F n).1 none 0 g fn.ntmps b (.inr ⟨rfl, fn, body, hf, rfl, hb, hl⟩) hcb B hB X (hpOf 0 (S.objs s)) S.k (lim0 nx') (0, 0) (S.canon s) x env' h' nx' tr a _ g0 e0 (Nat.le_refl _) hsz hx ?_)
    intro a1 X1 g1 s1 e1 hs1 hd1 kp1
    -- the objects that are kept
    have key : ∀ (os : List (Obj C)) (env0 : Env C), RefsOK S.k env0 os → (∀ j, j < S.k → h'.get j = os[j]?) → Sub env' env0 →
        ∃ X2, X2.w = X1.w ∧ G T X2 (hpOf 0 os) S.k (lim0 S.k) ∧ Step X S.k (lim0 S.k) X2 ∧ EnvOK T X2 S.k (lim0 S.k) env0 a1.tmps ∧ Marks X X2 a1.defers a.defers := by
      intro os env0 ⟨q1, q2, q3⟩ hget hsub
      obtain ⟨X2, w2, g2, s2, hρ⟩ := G.drop K.base g1 (h' := hpOf 0 os) (fun id => by
        rw [hpOf_get0]
        by_cases hid : id < S.k
        · exact .inl (hget id hid).symm
        · exact .inr (List.getElem?_eq_none (by omega)))
      have hnone : ∀ id, ¬ id < S.k → X2.ρ id = none := fun id hid => by
        cases hq : X2.ρ id with
        | none => rfl
        | some l =>
          have := g2.dom id l hq
          rw [hpOf_get0, List.getElem?_eq_none (by omega)] at this
          cases this
      have s3 := s1.trans s2 hle
      refine ⟨X2, w2, g2.relim2 (hpOf_nums q1 q3) (Nat.le_refl _) (Nat.zero_le _) (fun _ h => h), ⟨s3.O, s3.os, s3.tape, s3.output, s3.size, fun id ho => ?_, s3.mine, s3.cell, s3.block, s3.frz⟩, fun t => ?_, hd1.sub w2 s2.mine⟩
      · by_cases hid : id < S.k
        · exact s3.ρ id ⟨.inl hid, fun h => h⟩
        · rw [hnone id hid]; cases X.ρ id <;> simp [Compat]
      · rcases eget_mem env0 t with h | h
        · rw [h]; exact RO.mk (RV.top _ _ _) rfl
        · have hrt : ∀ r ∈ (eget env0 t).refs, r < S.k := q2 _ h
          have h2 := hsub _ h
          simp only at h2
          have h3 := (e1 t).1
          rw [h2] at h3
          exact ⟨h3.mono T K.base.encOK s2.keeps fun r hh => s2.ρ r ⟨.inl (by have := hrt r hh; omega), fun h => h⟩, fun r hh => ⟨.inl (hrt r hh), fun h => h⟩⟩
    rcases hcase with ⟨rfl, s', hI', hmu, hfin, hfo, hsub, hget⟩ | ⟨rfl, s', f, hI', hmu, hfin, hfo, hsub, hpart, hgrow⟩ | ⟨hne, hxf, hsub, hget⟩
    · obtain ⟨hr1', _, _⟩ := hr s' hI'
      obtain ⟨X2, w2, g2, s2, e2, hd2⟩ := key _ _ hr1' hget hsub
      rw [← w2]
      refine ih s' X2 a1 hI' (by omega) g2 e2 (by omega) fun a3 X3 g3 s3 e3 hs3 hd3 kp3 => ?_
      rw [hfin] at e3 ⊢
      rw [hfo] at g3
      exact hk a3 X3 g3 (s2.trans s3 (Nat.le_refl _)) e3 (by omega) (hd2.trans s2 s3 hd3) (kp1.trans kp3)
    · obtain ⟨hr1', _, _⟩ := hr s' hI'
      have hlen' : (S.objs s').length = (S.objs s).length := by rw [hr1'.1, hr1.1]
      have g2 := Part.ctxM K.base g1 hpart (S.objs s').length
      have e2 : EnvOK T (X1.partM (S.objs s').length f) (S.objs s').length (lim0 (S.objs s').length) (S.canon s') a1.tmps := EnvOK.partM K.base e1 hpart.inj hsub (by rw [hr1'.1]; exact hr1'.2.1)
      have s2 := Part.stepM (by rw [hr1.1]; exact hg) g1 (by rw [hr1.1]; exact s1) hpart hlen' hgrow
      rw [hr1'.1] at g2 e2
      rw [hr1.1] at s2
      refine ih s' (X1.partM S.k f) a1 hI' (by omega) g2 e2 (by omega) fun a3 X3 g3 s3 e3 hs3 hd3 kp3 => ?_
      rw [hfin] at e3 ⊢
      rw [hfo] at g3
      exact hk a3 X3 g3 (s2.trans s3 (Nat.le_refl _)) e3 (by omega) ((hd1.sub (X2 := X1.partM S.k f) rfl (fun b o _ hm => by obtain ⟨j, q, _, hl, ho⟩ := Cx.partM_mine.1 hm; exact ⟨f j, q, hl, ho⟩)).trans s2 s3 hd3) (kp1.trans kp3)
    · obtain ⟨X2, w2, g2, s2, e2, hd2⟩ := key _ _ hr2 hget hsub
      have hfinal : Q (exitX (S.fin s).1) a1 X2.w := hk a1 X2 g2 s2 e2 hs1 hd2 kp1
      rw [w2, ← hxf] at hfinal
      cases x with
      | normal => exact (hne rfl).elim
      | exit id => exact hfinal
      | ret => exact hfinal
theorem empty_vec {X : Cx} {t : C.Ty} {l : List (C.A t)} {v : Value} (h : R T X false (.sl t true l) [v]) : ∃ a, v = .slice a l.length l.length ∧ ∃ b lo, VecOK T X t l.isEmpty l v b lo lo := by
  have key : ∀ a : Option Addr, ∃ b lo, VecOK T X t true [] (.slice a 0 0) b lo lo := by
    intro a
    by_cases hq : ∃ b off, a = some ⟨b, off, none⟩
    · obtain ⟨b, off, rfl⟩ := hq
      exact ⟨b, off, .inr ⟨off, 0, rfl, Nat.le_refl _, by simp, .inl ⟨rfl, rfl, .inl rfl⟩⟩⟩
    · exact ⟨0, 0, .inl ⟨⟨a, rfl, fun b off e => hq ⟨b, off, e⟩⟩, rfl, Nat.le_refl _⟩⟩
  cases h with
  | sl0 _ _ a => exact ⟨a, rfl, key a⟩
  | @sl _ _ _ b off _ _ ha hr hc hcap =>
    have := hcap rfl
    subst this
    cases l with
    | nil => exact ⟨_, rfl, key _⟩
    | cons x l => exact ⟨_, rfl, b, off + (x :: l).length * T.size (T.ety t), .inr ⟨off, (x :: l).length, rfl, Nat.le_refl _, rfl, .inr ⟨rfl, rfl, ⟨_, ha, hr⟩, .inl rfl⟩⟩⟩
theorem adopt_slot (K : PLaws P T) {X : Cx} {h : Heap C} {nx t : Nat} {lim : Lim} {env : Env C} {tmps : Array Value} {ty : C.Ty} {l : List (C.A ty)} (g : G T X h nx lim) (he : EnvOK T X nx lim env tmps) (hn : nx < lim.top) (hs : eget env t = .sl ty true l) :
    ∃ X', X'.w = X.w ∧ G T X' ((nx, .vec ty l.isEmpty l) :: h) (nx + 1) lim ∧ Step X nx lim X' ∧ EnvOK T X' (nx + 1) lim ((t, .vs nx l.length) :: env) tmps := by
  have h1 := (he t).1
  rw [hs] at h1
  have h2 := h1.one rfl
  obtain ⟨a, hv, b, lo, hV⟩ := empty_vec h2
  obtain ⟨X', w', ρ', g', s'⟩ := G.newRef K g hn (Nat.le_refl _) hV
  refine ⟨X', w', g', s', fun u => ?_⟩
  rw [eget_cons]
  by_cases hu : u = t
  · subst hu
    simp only [if_true]
    refine ⟨.inr ⟨rfl, ?_⟩, by simpa [D.refs] using g.new hn⟩
    rw [hv]
    refine .vs fun v e b' lo' hi' hq => ?_
    rw [ρ'] at hq
    simp only [Option.some.injEq, Loc.vec.injEq] at hq
    obtain ⟨rfl, _⟩ := hq
    rw [hv]; exact ⟨by simp [lenV], fun _ => rfl⟩
  · simp only [hu, if_false]
    exact (he u).step K.base s' (by omega)
def okPathB (T : Tab C) : TypeId → List Nat → Bool
  | _, [] => true
  | t, i :: p => match T.ty t with
    | .struct _ fs => Nat.blt i fs.length && okPathB T (fs.getD i 0) p
    | .arr n e _ => Nat.blt i n && okPathB T e p
    | _ => false
theorem okPathB_spec : ∀ (p : List Nat) (t : TypeId), okPathB T t p = true → okPath T t p := by
  intro p
  induction p with
  | nil => intro t _; trivial
  | cons i p ih =>
    intro t h
    simp only [okPathB] at h
    simp only [okPath]
    cases ht : T.ty t <;> simp only [ht, Bool.and_eq_true, Bool.false_eq_true] at h ⊢
    · exact ⟨by simpa [Nat.blt_eq] using h.1, ih _ h.2⟩
    · exact ⟨by simpa [Nat.blt_eq] using h.1, ih _ h.2⟩
theorem adopt_path (K : PLaws P T) {X : Cx} {h : Heap C} {nx id : Nat} {lim : Lim} {env : Env C} {tmps : Array Value} {ty : C.Ty} {l : List (C.A ty)} {u t' : TypeId} {d d' : D C} {p : List Nat} (g : G T X h nx lim) (he : EnvOK T X nx lim env tmps) (hn : nx < lim.top)
    (ho : h.get id = some (.var u d)) (hp : okPathB T u p = true) (hg : getPath T d p = some (.sl ty true l)) (hs : Ev.setPath T d p (.vs nx l.length) = some d') (ht : tyAt T u p = some t') (hf : fit T (.vs nx l.length : D C) (.inl t') = true) :
    ∃ X', X'.w = X.w ∧ G T X' (Heap.put id (.var u d') ((nx, .vec ty l.isEmpty l) :: h)) (nx + 1) lim ∧ Step X nx lim X' ∧ EnvOK T X' (nx + 1) lim env tmps := by
  obtain ⟨b0, c0, h1, h2, h3, h4⟩ := g.var id u d ho
  obtain ⟨c1, c2, c3, hc, hl, hr, _⟩ := h3.path K.base p (okPathB_spec p u hp) h4 hg
  have hne : id ≠ nx := fun e => by have := (g.nums id _ ho).1.1; omega
  have hone : ∃ v, c2 = [v] := by
    cases hr with
    | sl0 => exact ⟨_, rfl⟩
    | sl => exact ⟨_, rfl⟩
  obtain ⟨v, rfl⟩ := hone
  obtain ⟨a, hv, b, lo, hV⟩ := empty_vec hr
  obtain ⟨X', w', ρ', g', s'⟩ := G.newRef K g hn (Nat.le_refl _) hV
  have hvs : R T X' false (.vs nx l.length) [v] := by
    rw [hv]
    refine .vs fun v e b' lo' hi' hq => ?_
    rw [ρ'] at hq
    simp only [Option.some.injEq, Loc.vec.injEq] at hq
    obtain ⟨rfl, _⟩ := hq
    rw [hv]; exact ⟨by simp [lenV], fun _ => rfl⟩
  have hrefs : ∀ r ∈ d.refs, old nx lim r := (g.nums id _ ho).2
  have ho' : Heap.get id ((nx, .vec ty l.isEmpty l) :: h) = some (.var u d) := by rw [get_cons]; simp [hne, ho]
  obtain ⟨b1, c1', e1, e2, e3, e4⟩ := g'.var id u d ho'
  refine ⟨X', w', ?_, s', fun t => (he t).step K.base s' (by omega)⟩
  -- the object is seen otherwise; its cells are as they were
  have hs2 : (Heap.get id ((nx, .vec ty l.isEmpty l) :: h)).isSome = true := by rw [ho']; rfl
  obtain ⟨k1, k2, k3, q1, q2, q3, q4, q5⟩ := e3.setPath K.base p (okPathB_spec p u hp) e4 hs hvs ht hf
  obtain ⟨m1, m2, m3, n1, n2, n3, _⟩ := e3.path K.base p (okPathB_spec p u hp) e4 hg
  have hm2 : m2.length = 1 := by
    cases n3 with
    | sl0 => rfl
    | sl => rfl
  have hcc : c1'.toList = c0.toList := by
    have hw : X'.w.heap[b1]? = X.w.heap[b0]? := by
      have : X'.ρ id = X.ρ id ∨ True := .inr trivial
      rw [w']
      have hρ : Compat (X.ρ id) (X'.ρ id) := s'.ρ id (g.nums id _ ho).1
      rw [h1, e1] at hρ
      simp only [Compat, Loc.var.injEq] at hρ
      rw [hρ.1]
    rw [e2, h2] at hw
    simp only [Option.some.injEq, Obj.cells.injEq] at hw
    rw [hw.1]
  have heq : k1 ++ [v] ++ k3 = c1'.toList := by
    have a1 : k1 = c1 := by
      have : (k1 ++ k2 ++ k3).take (offAt T u p) = (c1 ++ [v] ++ c3).take (offAt T u p) := by rw [← q1, ← hc, hcc]
      rw [List.append_assoc, List.append_assoc, List.take_append_of_le_length (by omega), List.take_append_of_le_length (by omega), List.take_of_length_le (by omega), List.take_of_length_le (by omega)] at this
      exact this
    have a2 : k2 ++ k3 = [v] ++ c3 := by
      have : k1 ++ (k2 ++ k3) = c1 ++ ([v] ++ c3) := by rw [← List.append_assoc, ← List.append_assoc, ← q1, ← hc, hcc]
      rw [a1] at this
      exact List.append_cancel_left this
    have a3 : k3 = c3 := by
      simp only [List.length_singleton] at q3
      obtain ⟨y, rfl⟩ := List.length_eq_one_iff.1 q3
      simp at a2; exact a2.2
    rw [a1, a3, hcc, hc]
  rw [heq] at q4
  refine ⟨?_, ?_, ?_, ?_, ?_, g'.apart, g'.outer, g'.outs, g'.low, g'.pre⟩
  · intro j t e hj
    rw [get_put hs2] at hj
    by_cases hji : j = id
    · simp only [hji, if_true, Option.some.injEq, Ev.Obj.var.injEq] at hj
      obtain ⟨rfl, rfl⟩ := hj
      exact ⟨b1, c1', by rw [hji]; exact e1, e2, q4, q5⟩
    · simp only [hji, if_false] at hj; exact g'.var j t e hj
  · intro j t own l hj
    rw [get_put hs2] at hj
    by_cases hji : j = id
    · simp [hji] at hj
    · simp only [hji, if_false] at hj; exact g'.vec j t own l hj
  · intro j ck cv l hj
    rw [get_put hs2] at hj
    by_cases hji : j = id
    · simp [hji] at hj
    · simp only [hji, if_false] at hj; exact g'.map j ck cv l hj
  · intro j l hj
    rw [get_put hs2]
    by_cases hji : j = id
    · simp [hji]
    · simp only [hji, if_false]; exact g'.dom j l hj
  · intro j o hj
    rw [get_put hs2] at hj
    by_cases hji : j = id
    · simp only [hji, if_true, Option.some.injEq] at hj
      subst hj
      refine ⟨by rw [hji]; exact (g'.nums id _ ho').1, fun r hr => ?_⟩
      rcases refs_setPath K.base p hs r hr with h5 | h5
      · exact (hrefs r h5).mono (by omega)
      · simp only [D.refs, List.mem_singleton] at h5
        rw [h5]; exact g.new hn
    · simp only [hji, if_false] at hj; exact g'.nums j o hj
inductive Fnd where
  | slot (t i : Nat)
  | path (j : Nat) (p : List Nat)
def findP {α : Type} (T : Tab C) : List Fnd → Env C → List Nat → (Env C → List Nat → Pg C α) → Pg C α
  | [], env, ids, k => k env ids
  | .slot t i :: r, env, ids, k => match eget env t with
    | .sl ty true [] => .nw (.vec ty true []) fun id => findP T r ((t, .vs id 0) :: env) (ids ++ [id]) k
    | .sl ty true (x :: l) => .nw (.vec ty false (x :: l)) fun id => findP T r ((t, .vs id (x :: l).length) :: env) (ids ++ [id]) k
    | d => match d.refs[i]? with
      | some id => findP T r env (ids ++ [id]) k
      | none => .fail
  | .path j p :: r, env, ids, k => match ids[j]? with
    | none => .fail
    | some idj => .rd idj fun
      | .var u d => match getPath T d p with
        | some (.sl ty true []) => match tyAt T u p with
          | some t' => bif okPathB T u p && fit T (.vs 0 0 : D C) (.inl t') then .nw (.vec ty true []) fun id => match Ev.setPath T d p (.vs id 0) with
            | some d' => .wr idj (.var u d') (findP T r env (ids ++ [id]) k)
            | none => .fail
            else .fail
          | none => .fail
        | some (.sl ty true (x :: l)) => match tyAt T u p with
          | some t' => bif okPathB T u p && fit T (.vs 0 0 : D C) (.inl t') then .nw (.vec ty false (x :: l)) fun id => match Ev.setPath T d p (.vs id (x :: l).length) with
            | some d' => .wr idj (.var u d') (findP T r env (ids ++ [id]) k)
            | none => .fail
            else .fail
          | none => .fail
        | some x => match x.refs with
          | id :: _ => findP T r env (ids ++ [id]) k
          | [] => .fail
        | none => .fail
      | _ => .fail
theorem findP_ok (K : PLaws P T) {α : Type} {e : Pg.Lv} {a : α} {h' : Heap C} {nx' : Nat} {lim : Lim} (hlim : nx' ≤ lim.top) {k : Env C → List Nat → Pg C α} {tmps : Array Value} : ∀ (l : List Fnd) (X : Cx) (h : Heap C) (nx : Nat) (tr : Tr) (env : Env C) (ids : List Nat),
    G T X h nx lim → EnvOK T X nx lim env tmps → Ex e (findP T l env ids k) h nx a h' nx' tr →
    ∃ X1 h1 nx1 env1 ids1 tr1, X1.w = X.w ∧ G T X1 h1 nx1 lim ∧ Step X nx lim X1 ∧ nx ≤ nx1 ∧ EnvOK T X1 nx1 lim env1 tmps ∧ Ex e (k env1 ids1) h1 nx1 a h' nx' tr1 := by
  intro l
  induction l with
  | nil => intro X h nx tr env ids g he hx; exact ⟨X, h, nx, env, ids, tr, rfl, g, .refl _ _ _, Nat.le_refl _, he, hx⟩
  | cons f l ih =>
    intro X h nx tr env ids g he hx
    cases f with
    | slot t i =>
      simp only [findP] at hx
      split at hx
      · rename_i ty hq
        obtain ⟨t', hx, _⟩ := Ex.nw hx
        have hle := hx.le
        obtain ⟨X1, w1, g1, s1, e1⟩ := adopt_slot K g he (by omega) hq
        obtain ⟨X2, h2, n2, env2, ids2, tr2, w2, g2, s2, hn2, e2, hx2⟩ := ih X1 _ _ _ _ _ g1 e1 hx
        exact ⟨X2, h2, n2, env2, ids2, tr2, by rw [w2, w1], g2, s1.trans s2 (by omega), by omega, e2, hx2⟩
      · rename_i ty x l0 hq
        obtain ⟨t', hx, _⟩ := Ex.nw hx
        have hle := hx.le
        obtain ⟨X1, w1, g1, s1, e1⟩ := adopt_slot K g he (by omega) hq
        obtain ⟨X2, h2, n2, env2, ids2, tr2, w2, g2, s2, hn2, e2, hx2⟩ := ih X1 _ _ _ _ _ g1 e1 hx
        exact ⟨X2, h2, n2, env2, ids2, tr2, by rw [w2, w1], g2, s1.trans s2 (by omega), by omega, e2, hx2⟩
      · split at hx
        · exact ih X h nx tr env _ g he hx
        · exact (Ex.fail hx).elim
    | path j p =>
      simp only [findP] at hx
      split at hx
      · exact (Ex.fail hx).elim
      · rename_i idj hj
        obtain ⟨o, t', ho, hx, _⟩ := Ex.rd hx
        cases o with
        | vec _ _ _ => exact (Ex.fail hx).elim
        | map _ _ _ => exact (Ex.fail hx).elim
        | var u d =>
          simp only at hx
          split at hx
          · rename_i ty hq
            split at hx
            · rename_i t' ht
              cases hb : okPathB T u p && fit T (.vs 0 0 : D C) (.inl t') with
              | false => rw [hb] at hx; exact (Ex.fail hx).elim
              | true =>
                rw [hb] at hx
                simp only [cond_true] at hx
                simp only [Bool.and_eq_true] at hb
                obtain ⟨t1, hx, _⟩ := Ex.nw hx
                split at hx
                · rename_i d' hs
                  obtain ⟨o', t2, ho', hx, _⟩ := Ex.wr hx
                  have hle := hx.le
                  obtain ⟨X1, w1, g1, s1, e1⟩ := adopt_path K g he (by omega) ho hb.1 hq hs ht (by simpa [fit] using hb.2)
                  obtain ⟨X2, h2, n2, env2, ids2, tr2, w2, g2, s2, hn2, e2, hx2⟩ := ih X1 _ _ _ _ _ g1 e1 hx
                  exact ⟨X2, h2, n2, env2, ids2, tr2, by rw [w2, w1], g2, s1.trans s2 (by omega), by omega, e2, hx2⟩
                · exact (Ex.fail hx).elim
            · exact (Ex.fail hx).elim
          · rename_i ty x l0 hq
            split at hx
            · rename_i t' ht
              cases hb : okPathB T u p && fit T (.vs 0 0 : D C) (.inl t') with
              | false => rw [hb] at hx; exact (Ex.fail hx).elim
              | true =>
                rw [hb] at hx
                simp only [cond_true] at hx
                simp only [Bool.and_eq_true] at hb
                obtain ⟨t1, hx, _⟩ := Ex.nw hx
                split at hx
                · rename_i d' hs
                  obtain ⟨o', t2, ho', hx, _⟩ := Ex.wr hx
                  have hle := hx.le
                  obtain ⟨X1, w1, g1, s1, e1⟩ := adopt_path K g he (by omega) ho hb.1 hq hs ht (by simpa [fit] using hb.2)
                  obtain ⟨X2, h2, n2, env2, ids2, tr2, w2, g2, s2, hn2, e2, hx2⟩ := ih X1 _ _ _ _ _ g1 e1 hx
                  exact ⟨X2, h2, n2, env2, ids2, tr2, by rw [w2, w1], g2, s1.trans s2 (by omega), by omega, e2, hx2⟩
                · exact (Ex.fail hx).elim
            · exact (Ex.fail hx).elim
          · split at hx
            · exact ih X h nx _ env _ g he hx
            · exact (Ex.fail hx).elim
          · exact (Ex.fail hx).elim
def rdAll {α : Type} : List Nat → (List (Obj C) → Pg C α) → Pg C α
  | [], k => k []
  | id :: r, k => .rd id fun o => rdAll r fun os => k (o :: os)
theorem rdAll_ok {α : Type} {e : Pg.Lv} {a : α} {h h' : Heap C} {nx nx' : Nat} : ∀ (ids : List Nat) (k : List (Obj C) → Pg C α) (tr : Tr), Ex e (rdAll ids k) h nx a h' nx' tr → ∃ os tr1, os.length = ids.length ∧ (∀ (j id : Nat) (o : Obj C), ids[j]? = some id → os[j]? = some o → h.get id = some o) ∧ Ex e (k os) h nx a h' nx' tr1
  | [], k, tr, hx => ⟨[], tr, rfl, by simp, hx⟩
  | id :: r, k, tr, hx => by
    obtain ⟨o, t', ho, hx, _⟩ := Ex.rd hx
    obtain ⟨os, tr1, h1, h2, h3⟩ := rdAll_ok r _ _ hx
    refine ⟨o :: os, tr1, by simp [h1], fun j i o' hj ho' => ?_, h3⟩
    cases j with
    | zero => simp at hj ho'; rw [← hj, ← ho']; exact ho
    | succ j => exact h2 j i o' (by simpa using hj) (by simpa using ho')
def wrAll {α : Type} : List Nat → List (Obj C) → Pg C α → Pg C α
  | [], [], k => k
  | id :: r, o :: os, k => .wr id o (wrAll r os k)
  | _, _, _ => .fail
theorem wrAll_ok {α : Type} {e : Pg.Lv} {a : α} {h' : Heap C} {nx nx' : Nat} {k : Pg C α} : ∀ (ids : List Nat) (os : List (Obj C)) (h : Heap C) (tr : Tr), ids.Nodup → Ex e (wrAll ids os k) h nx a h' nx' tr →
    ∃ h1 tr1, os.length = ids.length ∧ (∀ (j id : Nat) (o : Obj C), ids[j]? = some id → os[j]? = some o → h1.get id = some o) ∧ (∀ id, id ∉ ids → h1.get id = h.get id) ∧ Ex e k h1 nx a h' nx' tr1
  | [], [], h, tr, _, hx => ⟨h, tr, rfl, by simp, fun _ _ => rfl, hx⟩
  | id :: r, o :: os, h, tr, hn, hx => by
    obtain ⟨o', t', ho, hx, _⟩ := Ex.wr hx
    have hs : (h.get id).isSome = true := by rw [ho]; rfl
    obtain ⟨hn1, hn2⟩ := List.nodup_cons.1 hn
    obtain ⟨h1, tr1, q1, q2, q3, q4⟩ := wrAll_ok r os _ _ hn2 hx
    refine ⟨h1, tr1, by simp [q1], fun j i p hj hp => ?_, fun i hi => ?_, q4⟩
    · cases j with
      | zero =>
        simp at hj hp
        subst hj; subst hp
        rw [q3 _ hn1, get_put hs]; simp
      | succ j => exact q2 j i p (by simpa using hj) (by simpa using hp)
    · simp only [List.mem_cons, not_or] at hi
      rw [q3 i hi.2, get_put hs]; simp [hi.1]
  | [], _ :: _, _, _, _, hx => (Ex.fail hx).elim
  | _ :: _, [], _, _, _, hx => (Ex.fail hx).elim
def idx : List Nat → Nat → Nat
  | [], _ => 0
  | a :: l, n => bif Nat.beq a n then 0 else idx l n + 1
theorem idx_spec : ∀ (l : List Nat) (n : Nat), n ∈ l → l[idx l n]? = some n
  | [], n, h => by simp at h
  | a :: l, n, h => by
    rw [idx]
    cases hb : Nat.beq a n with
    | true => simp [Nat.eq_of_beq_eq_true hb]
    | false =>
      have hne := Nat.ne_of_beq_eq_false hb
      simp only [List.mem_cons] at h
      rcases h with h | h
      · exact absurd h.symm hne
      · simpa using idx_spec l n h
def freshN (n : Nat) : List Nat → Bool
  | [] => true
  | a :: l => !(Nat.beq a n) && freshN n l
theorem freshN_spec {n : Nat} : ∀ {l : List Nat}, freshN n l = true → n ∉ l
  | [], _ => by simp
  | a :: l, h => by
    simp only [freshN, Bool.and_eq_true, Bool.not_eq_true'] at h
    simp only [List.mem_cons, not_or]
    exact ⟨fun e => Nat.ne_of_beq_eq_false h.1 e.symm, freshN_spec h.2⟩
def nodupB : List Nat → Bool
  | [] => true
  | a :: l => freshN a l && nodupB l
theorem nodupB_spec : ∀ {l : List Nat}, nodupB l = true → l.Nodup
  | [], _ => List.nodup_nil
  | a :: l, h => by
    simp only [nodupB, Bool.and_eq_true] at h
    exact List.nodup_cons.2 ⟨freshN_spec h.1, nodupB_spec h.2⟩
def inB (ids l : List Nat) : Bool := l.all fun r => ids.any (Nat.beq r)
theorem inB_spec {ids l : List Nat} (h : inB ids l = true) : ∀ r ∈ l, r ∈ ids := by
  intro r hr
  have := List.all_eq_true.1 h r hr
  obtain ⟨x, hx, e⟩ := List.any_eq_true.1 this
  rw [Nat.eq_of_beq_eq_true e]; exact hx
inductive RT (C : Cdc) where
  | fail
  | leaf (x : Ev.X) (env : Env C) (os : List (Obj C))
  | br (b : Bool) (l r : RT C)
def RT.val : RT C → Option ((Ev.X × Env C) × List (Obj C))
  | .fail => none
  | .leaf x env os => some ((x, env), os)
  | .br b l r => bif b then l.val else r.val
def RT.pg (ids : List Nat) : RT C → Pg C (Ev.X × Env C)
  | .fail => .fail
  | .leaf x env os => wrAll ids (os.map (Obj.ren fun j => ids.getD j 0)) (.ret (x, renE (fun j => ids.getD j 0) env))
  | .br b l r => .br b (l.pg ids) (r.pg ids)
theorem RT.pg_ok {e : Pg.Lv} {a : Ev.X × Env C} {h h' : Heap C} {nx nx' : Nat} {ids : List Nat} : ∀ (t : RT C) (tr : Tr), Ex e (t.pg ids) h nx a h' nx' tr → ∃ x env os, t.val = some ((x, env), os) ∧ Ex e (wrAll ids (os.map (Obj.ren fun j => ids.getD j 0)) (.ret (x, renE (fun j => ids.getD j 0) env))) h nx a h' nx' tr
  | .fail, tr, hx => (Ex.fail hx).elim
  | .leaf x env os, tr, hx => ⟨x, env, os, rfl, hx⟩
  | .br b l r, tr, hx => by
    rcases Ex.br hx with ⟨rfl, hx⟩ | ⟨rfl, hx⟩
    · exact RT.pg_ok l tr hx
    · exact RT.pg_ok r tr hx
def sumO (T : Tab C) (fs : List Fnd) (slots : List Nat) (res : Env C → List (Obj C) → RT C) (env : Env C) : Pg C (Ev.X × Env C) :=
  findP T fs env [] fun env ids => bif nodupB ids then rdAll ids fun os =>
    bif inB ids (slots.flatMap fun t => (eget env t).refs) && inB ids (os.flatMap Obj.refs) then
      (res (slots.map fun t => (t, (eget env t).ren (idx ids))) (os.map (Obj.ren (idx ids)))).pg ids
    else .fail
  else .fail
theorem Obj.ren_ren (f g : Nat → Nat) (o : Obj C) (h : ∀ id ∈ o.refs, g (f id) = id) : (o.ren f).ren g = o := by
  cases o with
  | var t d => simp only [Obj.ren]; rw [D.ren_ren f g d h]
  | vec t own l => rfl
  | map _ _ _ => rfl
theorem loop_obj (K : PLaws P T) (F : FLaws P T Φ) {g key : Nat} {fs : List Fnd} {slots : List Nat} {res : Env C → List (Obj C) → RT C} {σ : Type} {S : LoopO C σ}
    (hr : ∀ fn body b, Φ.fn g = some fn → fn.body = some body → b ∈ loops body → firstRegion b = key → RoundO T Φ g b S)
    (hres : ∀ env0 os x env' os', (res env0 os).val = some ((x, env'), os') → ∃ q, S.Inv q ∧ (∀ p ∈ S.canon q, p ∈ env0) ∧ os = S.objs q ∧ S.fin q = (x, env') ∧ S.fobjs q = os') : LoopLaw P T Φ g key (sumO T fs slots res) := by
  intro fn body b hf hb hbl hkey B hB X h nx lim e env x env' h' nx' tr a Q gg he hlim hsz hx hk
  obtain ⟨f1, f2, f3⟩ := F.fn g fn hf
  obtain ⟨c1, c2⟩ := codeB_loop body (f3 body hb) b hbl
  have hround := hr fn body b hf hb hbl hkey
  obtain ⟨X1, h1, nx1, env1, ids, tr1, w1, g1, s1, hn1, e1, hx1⟩ := findP_ok K hlim fs X h nx tr env [] gg he hx
  cases hnd : nodupB ids with
  | false => rw [hnd] at hx1; exact (Ex.fail hx1).elim
  | true =>
  rw [hnd] at hx1
  simp only [cond_true] at hx1
  have hnodup := nodupB_spec hnd
  obtain ⟨os, tr2, hlen, hos, hx2⟩ := rdAll_ok ids _ _ hx1
  cases hin : inB ids (slots.flatMap fun t => (eget env1 t).refs) && inB ids (os.flatMap Obj.refs) with
  | false => rw [hin] at hx2; exact (Ex.fail hx2).elim
  | true =>
  rw [hin] at hx2
  simp only [cond_true] at hx2
  simp only [Bool.and_eq_true] at hin
  have hin1 := inB_spec hin.1
  have hin2 := inB_spec hin.2
  obtain ⟨xx, ee, os', hq, hx3⟩ := RT.pg_ok _ _ hx2
  · · obtain ⟨q, hI, hsub, hobjs, hfin, hfo⟩ := hres _ _ _ _ _ hq
      obtain ⟨hr1, hr2, _⟩ := hround q hI
      obtain ⟨h2, tr3, hl2, hw1, hw2, hx4⟩ := wrAll_ok ids _ h1 _ hnodup hx3
      obtain ⟨hxx, eh, en, _⟩ := Ex.ret hx4
      obtain ⟨rfl, rfl⟩ := Prod.mk.inj hxx
      subst eh
      subst en
      let f : Nat → Nat := fun j => ids.getD j 0
      have hfj : ∀ j, j < ids.length → ids[j]? = some (f j) := fun j hj => by simp [f, hj]
      have hk0 : ids.length = S.k := by rw [← hr1.1, ← hobjs]; simp [hlen]
      have hff : ∀ r, r ∈ ids → f (idx ids r) = r := fun r hr => by
        have := idx_spec ids r hr
        simp only [f, List.getD_eq_getElem?_getD, this, Option.getD_some]
      have hlenO : (S.objs q).length = ids.length := by rw [hr1.1, hk0]
      have part : Part h1 (S.objs q) f := by
        refine ⟨fun j o ho => ?_, fun i j hi hj hij => ?_, fun o ho r hr => by rw [hr1.1]; exact hr1.2.2 o ho r hr⟩
        · rw [← hobjs, List.getElem?_map] at ho
          cases hoj : os[j]? with
          | none => simp [hoj] at ho
          | some o0 =>
            simp only [hoj, Option.map_some, Option.some.injEq] at ho
            have hj : j < ids.length := by rw [← hlen]; exact (List.getElem?_eq_some_iff.1 hoj).1
            rw [hos j (f j) o0 (hfj j hj) hoj, ← ho, Obj.ren_ren]
            intro id hid
            exact hff id (hin2 id (List.mem_flatMap.2 ⟨o0, List.mem_of_getElem? hoj, hid⟩))
        · rw [hlenO] at hi hj
          have := (List.getElem?_inj hi hnodup (j := j)).1 (by rw [hfj i hi, hfj j hj]; simp only [f] at hij ⊢; rw [hij])
          exact this
      have g2 := Part.ctx K.base g1 part (S.objs q).length
      have e2 : EnvOK T (X1.part (S.objs q).length f) (S.objs q).length (lim0 (S.objs q).length) (S.canon q) a.tmps := by
        refine EnvOK.part K.base e1 part.inj (fun p hp => ?_) (fun p hp r hr => by rw [hr1.1]; exact hr1.2.1 p hp r hr)
        have := hsub p hp
        simp only [List.mem_map] at this
        obtain ⟨t, ht, rfl⟩ := this
        simp only
        rw [D.ren_ren]
        intro id hid
        exact hff id (hin1 id (List.mem_flatMap.2 ⟨t, ht, hid⟩))
      rw [hr1.1] at g2 e2
      rw [← w1]
      show (Code.loop b).wp P Q a (X1.part S.k f).w
      refine wp_loop_rounds (S.μ q + 1) (rounds_obj K F hround hf hb c1 c2 hB (S.μ q + 1) q (X1.part S.k f) a hI (by omega) g2 e2 hsz fun a' X' g' s' e' hs' hd' kp' => ?_)
      rw [hfo] at g'
      rw [hfin] at e'
      have hlen' : os'.length = (S.objs q).length := by rw [← hfo, hr2.1, hr1.1]
      have hrefs' : ∀ o ∈ os', ∀ r ∈ Obj.refs o, r < (S.objs q).length := fun o ho r hr => by rw [hr1.1]; exact hr2.2.2 o (by rw [hfo]; exact ho) r hr
      obtain ⟨X2, w2, g3, s3, hρ, hB2⟩ := Part.back K.base g1 part hlen' hrefs' (X1 := X') (lim1 := lim0 S.k) (h' := h') (by rw [hr1.1]; exact g') (by rw [hr1.1]; exact s') (fun j o hj => by
          have hlt : j < ids.length := by rw [← hlenO, ← hlen']; exact (List.getElem?_eq_some_iff.1 hj).1
          exact hw1 j (f j) _ (hfj j hlt) (by rw [List.getElem?_map, hj]; rfl)) (fun id hid => by
          refine hw2 id fun hm => ?_
          obtain ⟨j, hj, hjj⟩ := List.getElem_of_mem hm
          refine hid j (by rw [hlenO]; exact hj) ?_
          simp [f, hj, hjj])
      have hold : ∀ j, j < S.k → old nx' lim (f j) := fun j hj => by
        have hj' : j < (S.objs q).length := by rw [hr1.1]; exact hj
        exact (g1.nums _ _ (part.at' j (S.objs q)[j] (by simp [hj']))).1
      have e3 := EnvOK.back (nx := nx') (lim := lim) (f := f) K.base e' (fun p hp r hr => hr2.2.1 p (by rw [hfin]; exact hp) r hr) (fun j hj => hρ j (by rw [hr1.1]; exact hj)) ⟨hB2, fun l r h1 _ => ⟨by rw [w2]; exact h1, fun o ho => g3.mine_loop ho (by rw [w2]; exact h1)⟩⟩ hold
      have := hk a' X2 g3 (s1.trans s3 hn1) e3 hs' (hd'.of_g g3 (by show X.w.heap.size ≤ X1.w.heap.size; rw [w1]; exact Nat.le_refl _) w2) kp'
      rw [w2] at this
      rw [hfin]
      exact this
def getsL : Nat → Nat → Heap C → List (Option (Obj C))
  | _, 0, _ => []
  | n, k + 1, h => h.get n :: getsL (n + 1) k h
theorem getsL_get : ∀ (k n : Nat) (h : Heap C) (os : List (Obj C)), getsL n k h = os.map some → ∀ j, j < k → h.get (n + j) = os[j]?
  | 0, _, _, _, _, j, hj => by omega
  | k + 1, n, h, [], e, j, hj => by simp [getsL] at e
  | k + 1, n, h, o :: os, e, j, hj => by
    simp only [getsL, List.map_cons, List.cons.injEq] at e
    cases j with
    | zero => simpa using e.1
    | succ j =>
      have := getsL_get k (n + 1) h os e.2 j (by omega)
      rw [show n + (j + 1) = n + 1 + j by omega, this]; simp
def movP (T : Tab C) (env : Env C) (h : Heap C) : List Fnd → List Nat → Option (List Nat)
  | [], ids => some ids
  | .slot t i :: r, ids => match (eget env t).refs[i]? with
    | some id => movP T env h r (ids ++ [id])
    | none => none
  | .path j p :: r, ids => match ids[j]? with
    | some idj => match h.get idj with
      | some (.var _ d) => match getPath T d p with
        | some x => match x.refs with
          | id :: _ => movP T env h r (ids ++ [id])
          | [] => none
        | none => none
      | _ => none
    | none => none
def rangeB : Nat → List Nat → Bool
  | _, [] => true
  | n, i :: l => Nat.beq i n && rangeB (n + 1) l
def objsL (h : Heap C) (g : Nat → Nat) : List Nat → Option (List (Obj C))
  | [] => some []
  | i :: l => match h.get i, objsL h g l with
    | some o, some r => some (o.ren g :: r)
    | _, _ => none
def growB {α : Type} (k : Option α) : Nat → List Nat → List (Obj C) → List (Obj C) → Option α
  | _, [], _, _ => k
  | n, i :: l, o :: os, o' :: os' => bif Nat.beq i n then growB k (n + 1) l os os' else (match o, o' with
      | .vec t _ x, .vec t' _ x' => bif decide (t' = t) then (bif Nat.blt x.length x'.length then growB k (n + 1) l os os' else none) else none
      | _, _ => none)
  | _, _, _, _ => none
def settle (T : Tab C) (fs : List Fnd) (k : Nat) (kc : List Nat) (os : List (Obj C)) (env : Env C) (h : Heap C) : Option ((Ev.X × Env C) × List (Option (Obj C))) :=
  match movP T env h fs [] with
  | none => some ((.normal, sel kc env), getsL 0 k h)
  | some ids => bif rangeB 0 ids then some ((.normal, sel kc env), getsL 0 k h) else
    bif nodupB ids && Nat.beq ids.length k && inB ids ((sel kc env).flatMap fun p => p.2.refs) && inB ids (ids.flatMap fun i => match h.get i with | some o => o.refs | none => []) then (match objsL h (idx ids) ids with
      | some os' => growB (some ((.normal, renE (idx ids) (sel kc env)), os'.map some)) 0 ids os os'
      | none => none) else none
def rndO (T : Tab C) (Φ : Fns C) (g key n k : Nat) (kc kf : List Nat) (fs : List Fnd) (env : Env C) (os : List (Obj C)) : Option ((Ev.X × Env C) × List (Option (Obj C))) := (evC T Φ n g (bodyAt Φ g key) env).run (0, 0) (hpOf 0 os) k [] fun a h _ _ => match a.1 with
  | .normal => settle T fs k kc os a.2 h
  | x => some ((x, sel kf a.2), getsL 0 k h)
theorem growB_some {α : Type} {k : Option α} {a : α} : ∀ (l : List Nat) (n : Nat) (os os' : List (Obj C)), growB k n l os os' = some a → k = some a ∧ ∀ j, j < l.length → l.getD j 0 = n + j ∨ ∃ t own x own' x', os[j]? = some (.vec t own x) ∧ os'[j]? = some (.vec t own' x') ∧ x.length < x'.length
  | [], n, os, os', h => ⟨by simpa [growB] using h, fun j hj => by simp at hj⟩
  | i :: l, n, [], _, h => by simp [growB] at h
  | i :: l, n, o :: os, [], h => by simp [growB] at h
  | i :: l, n, o :: os, o' :: os', h => by
    simp only [growB] at h
    have step : growB k (n + 1) l os os' = some a → (i = n ∨ ∃ t own x own' x', o = .vec t own x ∧ o' = .vec t own' x' ∧ x.length < x'.length) → k = some a ∧ ∀ j, j < (i :: l).length → (i :: l).getD j 0 = n + j ∨ ∃ t own x own' x', (o :: os)[j]? = some (.vec t own x) ∧ (o' :: os')[j]? = some (.vec t own' x') ∧ x.length < x'.length := by
      intro h1 h2
      obtain ⟨h3, h4⟩ := growB_some l (n + 1) os os' h1
      refine ⟨h3, fun j hj => ?_⟩
      cases j with
      | zero => simpa using h2
      | succ j =>
        have := h4 j (by simpa using hj)
        simp only [List.getD_cons_succ, List.getElem?_cons_succ]
        rcases this with h5 | h5
        · left; omega
        · exact .inr h5
    cases hb : Nat.beq i n with
    | true => rw [hb] at h; exact step h (.inl (Nat.eq_of_beq_eq_true hb))
    | false =>
      rw [hb] at h
      simp only [cond_false] at h
      cases o with
      | var t d => simp at h
      | map _ _ _ => simp at h
      | vec t own x =>
        cases o' with
        | var t d => simp at h
        | map _ _ _ => simp at h
        | vec t' own' x' =>
          simp only at h
          cases ht : decide (t' = t) with
          | false => rw [ht] at h; cases h
          | true =>
            rw [ht] at h
            have ht : t' = t := by simpa using ht
            subst ht
            cases hl : Nat.blt x.length x'.length with
            | false => rw [hl] at h; cases h
            | true =>
              rw [hl] at h
              exact step h (.inr ⟨t', own, x, own', x', rfl, rfl, by simpa [Nat.blt_eq] using hl⟩)
theorem objsL_some {h : Heap C} {g : Nat → Nat} : ∀ (l : List Nat) (os : List (Obj C)), objsL h g l = some os → os.length = l.length ∧ ∀ (j i : Nat), l[j]? = some i → ∃ o, h.get i = some o ∧ os[j]? = some (o.ren g)
  | [], os, e => by simp [objsL] at e; subst e; simp
  | i :: l, os, e => by
    simp only [objsL] at e
    cases h1 : h.get i with
    | none => simp [h1] at e
    | some o =>
      cases h2 : objsL h g l with
      | none => simp [h1, h2] at e
      | some r =>
        simp only [h1, h2, Option.some.injEq] at e
        subst e
        obtain ⟨a1, a2⟩ := objsL_some l r h2
        refine ⟨by simp [a1], fun j i' hj => ?_⟩
        cases j with
        | zero => simp at hj; subst hj; exact ⟨o, h1, rfl⟩
        | succ j => exact a2 j i' (by simpa using hj)
def LedO {σ : Type} (S : LoopO C σ) (s : σ) (r : (Ev.X × Env C) × List (Option (Obj C))) : Prop :=
  (r.1.1 = .normal ∧ ∃ s', S.Inv s' ∧ S.μ s' < S.μ s ∧ S.fin s' = S.fin s ∧ S.fobjs s' = S.fobjs s ∧ r.1.2 = S.canon s' ∧ r.2 = (S.objs s').map some) ∨ (r.1.1 ≠ .normal ∧ r.1 = S.fin s ∧ r.2 = (S.fobjs s).map some)
theorem sel_get : ∀ (l : List Nat) (env : Env C) (p : Nat × D C), p ∈ sel l env → eget env p.1 = p.2 := fun l env p hp => sel_sub l env p hp
theorem settle_some {fs : List Fnd} {k : Nat} {kc : List Nat} {os : List (Obj C)} {env : Env C} {h : Heap C} {r : (Ev.X × Env C) × List (Option (Obj C))} (hr : settle T fs k kc os env h = some r) (hos : os.length = k) :
    (r = ((.normal, sel kc env), getsL 0 k h)) ∨ ∃ env0 os', r = ((.normal, env0), os'.map some) ∧ ∃ f, (∀ p ∈ env0, eget env p.1 = p.2.ren f) ∧ (os'.length = k ∧ (∀ j o, os'[j]? = some o → h.get (f j) = some (o.ren f)) ∧ (∀ i j, i < os'.length → j < os'.length → f i = f j → i = j)) ∧ Grow os os' f := by
  unfold settle at hr
  cases hm : movP T env h fs [] with
  | none => rw [hm] at hr; simp only [Option.some.injEq] at hr; exact .inl hr.symm
  | some ids =>
    rw [hm] at hr
    simp only at hr
    cases hb : rangeB 0 ids with
    | true => rw [hb] at hr; simp only [cond_true, Option.some.injEq] at hr; exact .inl hr.symm
    | false =>
      rw [hb] at hr
      simp only [cond_false] at hr
      cases hc : nodupB ids && Nat.beq ids.length k && inB ids ((sel kc env).flatMap fun p => p.2.refs) && inB ids (ids.flatMap fun i => match h.get i with | some o => o.refs | none => []) with
      | false => rw [hc] at hr; cases hr
      | true =>
        rw [hc] at hr
        simp only [cond_true] at hr
        simp only [Bool.and_eq_true] at hc
        obtain ⟨⟨⟨c1, c2⟩, c3⟩, c4⟩ := hc
        have c1 := nodupB_spec c1
        have c2 := Nat.eq_of_beq_eq_true c2
        have c3 := inB_spec c3
        have c4 := inB_spec c4
        cases ho : objsL h (idx ids) ids with
        | none => rw [ho] at hr; cases hr
        | some os' =>
          rw [ho] at hr
          simp only at hr
          obtain ⟨q1, q2⟩ := growB_some _ _ _ _ hr
          simp only [Option.some.injEq] at q1
          obtain ⟨o1, o2⟩ := objsL_some _ _ ho
          have hff : ∀ x, x ∈ ids → ids.getD (idx ids x) 0 = x := fun x hx => by
            have := idx_spec ids x hx
            simp only [List.getD_eq_getElem?_getD, this, Option.getD_some]
          refine .inr ⟨_, os', q1.symm, fun j => ids.getD j 0, fun p hp => ?_, ⟨by rw [o1, c2], fun j o hj => ?_, fun i j hi hj hij => ?_⟩, fun j hj => ?_⟩
          · simp only [renE, List.mem_map] at hp
            obtain ⟨p0, hp0, rfl⟩ := hp
            simp only
            rw [sel_get kc env p0 hp0, D.ren_ren]
            intro id hid
            exact hff id (c3 id (List.mem_flatMap.2 ⟨p0, hp0, hid⟩))
          · have hjl : j < ids.length := by rw [← o1]; exact (List.getElem?_eq_some_iff.1 hj).1
            obtain ⟨o0, a1, a2⟩ := o2 j (ids.getD j 0) (by simp [hjl])
            rw [hj] at a2
            simp only [Option.some.injEq] at a2
            rw [a1, a2, Obj.ren_ren]
            intro id hid
            exact hff id (c4 id (List.mem_flatMap.2 ⟨ids.getD j 0, by rw [List.getD_eq_getElem?_getD]; simp [hjl], by rw [a1]; exact hid⟩))
          · rw [o1] at hi hj
            exact (List.getElem?_inj hi c1 (j := j)).1 (by
              simp only [List.getD_eq_getElem?_getD] at hij
              simp only [hi, hj, List.getElem?_eq_getElem, Option.getD_some] at hij ⊢
              rw [hij])
          · have := q2 j (by rw [c2, ← hos]; exact hj)
            simpa using this
theorem FLaws.addRoundsO (K : PLaws P T) (F : FLaws P T Φ) {g key : Nat} (hkeys : keysB (loopsOf Φ g) = true) {σ : Type} (S : LoopO C σ) (n : Nat) (kc kf : List Nat) (fs0 : List Fnd) (fs : List Fnd) (slots : List Nat) (res : Env C → List (Obj C) → RT C)
    (hr : ∀ q, S.Inv q → RefsOK S.k (S.canon q) (S.objs q) ∧ RefsOK S.k (S.fin q).2 (S.fobjs q) ∧ Leaf (rndO T Φ g key n S.k kc kf fs0 (S.canon q) (S.objs q)) (LedO S q))
    (hres : ∀ env0 os x env' os', (res env0 os).val = some ((x, env'), os') → ∃ q, S.Inv q ∧ (∀ p ∈ S.canon q, p ∈ env0) ∧ os = S.objs q ∧ S.fin q = (x, env') ∧ S.fobjs q = os') : FLaws P T (Φ.addLoop g key (sumO T fs slots res)) := by
  refine F.addLoop (loop_obj K F (S := S) (fun fn body b hf hb hm hkey q hI => ?_) hres)
  obtain ⟨h1, h2, r, h3, h4⟩ := hr q hI
  rw [rndO, bodyAt_eq hkeys hf hb hm hkey] at h3
  obtain ⟨⟨x, env'⟩, h', nx', tr, h5, h6⟩ := Pg.run_some h3
  refine ⟨h1, h2, n, x, env', h', nx', tr, h5, ?_⟩
  cases x with
  | normal =>
    simp only at h6
    rcases settle_some h6 h1.1 with hs | ⟨env0, os', hs, f, f1, ⟨f2, f3, f4⟩, f5⟩
    · subst hs
      rcases h4 with ⟨h4, s', a1, a2, a3, a3b, a4, a5⟩ | ⟨h4, h7, h8⟩
      · have hg := getsL_get S.k 0 h' _ a5
        simp only [Nat.zero_add] at hg
        exact .inl ⟨rfl, s', a1, a2, a3, a3b, by rw [← a4]; exact sel_sub _ _, hg⟩
      · exact (h4 rfl).elim
    · subst hs
      rcases h4 with ⟨h4, s', a1, a2, a3, a3b, a4, a5⟩ | ⟨h4, h7, h8⟩
      · simp only at a4 a5
        have a5 : os' = S.objs s' := List.map_inj_right (fun _ _ h => Option.some.inj h) |>.1 a5
        subst a4
        subst a5
        obtain ⟨b1, _⟩ := hr s' a1
        exact .inr (.inl ⟨rfl, s', f, a1, a2, a3, a3b, f1, ⟨f3, f4, by rw [b1.1]; exact b1.2.2⟩, f5⟩)
      · exact (h4 rfl).elim
  | exit id =>
    simp only [Option.some.injEq] at h6
    subst h6
    rcases h4 with ⟨h4, _⟩ | ⟨h4, h7, h8⟩
    · cases h4
    · have hg := getsL_get S.k 0 h' _ h8
      simp only [Nat.zero_add] at hg
      exact .inr (.inr ⟨by simp, by rw [← h7], by rw [← h7]; exact sel_sub _ _, hg⟩)
  | ret =>
    simp only [Option.some.injEq] at h6
    subst h6
    rcases h4 with ⟨h4, _⟩ | ⟨h4, h7, h8⟩
    · cases h4
    · have hg := getsL_get S.k 0 h' _ h8
      simp only [Nat.zero_add] at hg
      exact .inr (.inr ⟨by simp, by rw [← h7], by rw [← h7]; exact sel_sub _ _, hg⟩)
end
section
variable {C : Cdc} {P : Program} {T : Tab C} {Φ : Fns C}
open Pg (Ex)
structure LoopR (C : Cdc) (σ : Type) where
  k : Nat
  canon : σ → Env C
  objs : σ → List (Obj C)
  fin : σ → RT C
  Inv : σ → Prop
  μ : σ → Nat
def LedR {σ : Type} (S : LoopR C σ) (s : σ) (r : (Ev.X × Env C) × List (Option (Obj C))) : Prop :=
  (r.1.1 = .normal ∧ ∃ s', S.Inv s' ∧ S.μ s' < S.μ s ∧ (S.fin s').val = (S.fin s).val ∧ r.1.2 = S.canon s' ∧ r.2 = (S.objs s').map some) ∨ (r.1.1 ≠ .normal ∧ ∃ os, (S.fin s).val = some (r.1, os) ∧ r.2 = os.map some)
def RT.refsOK (k : Nat) : RT C → Prop
  | .fail => False
  | .leaf _ env os => RefsOK k env os
  | .br _ l r => l.refsOK k ∧ r.refsOK k
theorem RT.refsOK_val {k : Nat} : ∀ {t : RT C}, t.refsOK k → ∃ x env os, t.val = some ((x, env), os) ∧ RefsOK k env os
  | .leaf x env os, h => ⟨x, env, os, rfl, h⟩
  | .br b l r, h => by
    cases b with
    | true => exact RT.refsOK_val (t := l) h.1
    | false => exact RT.refsOK_val (t := r) h.2
def LoopR.toO {σ : Type} (S : LoopR C σ) : LoopO C σ where
  k := S.k
  canon := S.canon
  objs := S.objs
  fin q := match (S.fin q).val with
    | some r => r.1
    | none => (.ret, [])
  fobjs q := match (S.fin q).val with
    | some r => r.2
    | none => []
  Inv := S.Inv
  μ := S.μ
def resR {σ : Type} (S : LoopR C σ) (d : Env C → List (Obj C) → Option (Bool × σ)) (env : Env C) (os : List (Obj C)) : RT C := match d env os with
  | some (b, q) => .br b (S.fin q) .fail
  | none => .fail
def sumR (T : Tab C) (fs : List Fnd) (slots : List Nat) {σ : Type} (S : LoopR C σ) (d : Env C → List (Obj C) → Option (Bool × σ)) : Env C → Pg C (Ev.X × Env C) := sumO T fs slots (resR S d)
theorem FLaws.addRoundsR (K : PLaws P T) (F : FLaws P T Φ) {g key : Nat} (hkeys : keysB (loopsOf Φ g) = true) {σ : Type} (S : LoopR C σ) (n : Nat) (kc kf : List Nat) (fs : List Fnd) (slots : List Nat) (d : Env C → List (Obj C) → Option (Bool × σ))
    (hr : ∀ q, S.Inv q → RefsOK S.k (S.canon q) (S.objs q) ∧ (S.fin q).refsOK S.k ∧ Leaf (rndO T Φ g key n S.k kc kf fs (S.canon q) (S.objs q)) (LedR S q))
    (hd : ∀ env os b q, d env os = some (b, q) → b = true → S.Inv q ∧ S.canon q = env ∧ S.objs q = os) : FLaws P T (Φ.addLoop g key (sumR T fs slots S d)) := by
  refine F.addRoundsO K hkeys S.toO n kc kf fs fs slots (resR S d) (fun q hI => ?_) ?_
  · obtain ⟨h1, h2, r, h3, h4⟩ := hr q hI
    obtain ⟨x, env, os, hv, hok⟩ := RT.refsOK_val h2
    refine ⟨h1, by simp only [LoopR.toO, hv]; exact hok, r, h3, ?_⟩
    rcases h4 with ⟨a1, s', a2, a3, a4, a5, a6⟩ | ⟨a1, os', a2, a3⟩
    · exact .inl ⟨a1, s', a2, a3, by simp only [LoopR.toO, a4], by simp only [LoopR.toO, a4], a5, a6⟩
    · exact .inr ⟨a1, by simp only [LoopR.toO, a2], by simp only [LoopR.toO, a2]; exact a3⟩
  · intro env0 os x env' os' h
    unfold resR at h
    split at h
    · rename_i b q hq
      cases b with
      | false => simp [RT.val] at h
      | true =>
        obtain ⟨h1, h2, h3⟩ := hd _ _ _ _ hq rfl
        simp only [RT.val, cond_true] at h
        exact ⟨q, h1, fun p hp => by rw [← h2]; exact hp, h3.symm, by simp only [LoopR.toO, h], by simp only [LoopR.toO, h]⟩
    · simp [RT.val] at h
def staticD {α : Type} (b : Bool) (x : α) : Option α := bif b then some x else none
theorem staticD_some {α : Type} {b : Bool} {x y : α} (h : staticD b x = some y) : b = true ∧ x = y := by
  cases b with
  | false => cases h
  | true => exact ⟨rfl, Option.some.inj h⟩
theorem leafR_go {σ : Type} {S : LoopR C σ} {s : σ} {env : Env C} {os : List (Option (Obj C))} (s' : σ) (h1 : S.Inv s') (h2 : S.μ s' < S.μ s) (h3 : (S.fin s').val = (S.fin s).val) (h4 : env = S.canon s') (h5 : os = (S.objs s').map some) : Leaf (some ((Ev.X.normal, env), os)) (LedR S s) :=
  leaf_some.2 (.inl ⟨rfl, s', h1, h2, h3, h4, h5⟩)
theorem leafR_exit {σ : Type} {S : LoopR C σ} {s : σ} {i : Nat} {env : Env C} {os : List (Option (Obj C))} (os' : List (Obj C)) (h1 : (S.fin s).val = some ((.exit i, env), os')) (h2 : os = os'.map some) : Leaf (some ((Ev.X.exit i, env), os)) (LedR S s) :=
  leaf_some.2 (.inr ⟨by simp, os', h1, h2⟩)
theorem leafR_ret {σ : Type} {S : LoopR C σ} {s : σ} {env : Env C} {os : List (Option (Obj C))} (os' : List (Obj C)) (h1 : (S.fin s).val = some ((.ret, env), os')) (h2 : os = os'.map some) : Leaf (some ((Ev.X.ret, env), os)) (LedR S s) :=
  leaf_some.2 (.inr ⟨by simp, os', h1, h2⟩)
end
theorem ibeqT {a b : Int} (h : a = b) : (a == b) = true := by simp [h]
theorem ibeqF {a b : Int} (h : ¬ a = b) : (a == b) = false := by simp [h]
theorem ibneT {a b : Int} (h : ¬ a = b) : (a != b) = true := by simp [h]
theorem ibneF {a b : Int} (h : a = b) : (a != b) = false := by simp [h]
theorem sizeT {n b : Nat} (h : n * b ≤ 1099511627776) : sizeOK n b = true := by simp [sizeOK, h]
def byteOf (n : Int) : UInt8 := UInt8.ofNat (IntKind.u8.wrap n).toNat
def leB (n : Int) : Nat → List UInt8
  | 0 => []
  | w + 1 => byteOf n :: leB (n.fdiv 256) w
def leVal : List UInt8 → Nat
  | [] => 0
  | x :: l => x.toNat + 256 * leVal l
def fitsB (n : Int) (w : Nat) : Bool := decide (0 ≤ n) && decide (n < 256 ^ w)
def putL (b : List UInt8) (n : Int) (w : Nat) : List UInt8 := bif fitsB n w then b ++ leB n w else []
theorem leB_length : ∀ (w : Nat) (n : Int), (leB n w).length = w
  | 0, _ => rfl
  | w + 1, n => by simp [leB, leB_length w]
theorem u8_wrap (n : Int) : IntKind.u8.wrap n = n % 256 := by
  simp [IntKind.wrap, IntKind.bits, IntKind.signed]
theorem byteOf_nat (n : Int) : ((byteOf n).toNat : Int) = n % 256 := by
  rw [byteOf, u8_wrap, UInt8.toNat_ofNat', Nat.mod_eq_of_lt (by omega)]
  omega
theorem leVal_lt : ∀ l : List UInt8, leVal l < 256 ^ l.length
  | [] => by simp [leVal]
  | x :: l => by
    have h1 := leVal_lt l
    have h2 := x.toNat_lt
    have h3 : 256 ^ (x :: l).length = 256 * 256 ^ l.length := by simp [Nat.pow_succ, Nat.mul_comm]
    rw [h3, leVal]; omega
theorem leVal_append : ∀ (l m : List UInt8), leVal (l ++ m) = leVal l + 256 ^ l.length * leVal m
  | [], m => by simp [leVal]
  | x :: l, m => by
    simp only [List.cons_append, leVal, leVal_append l m, List.length_cons, Nat.pow_succ]
    rw [Nat.mul_add, ← Nat.mul_assoc, Nat.mul_comm 256 (256 ^ l.length), Nat.add_assoc]
theorem fdiv_nonneg {n : Int} (h : 0 ≤ n) : 0 ≤ n.fdiv 256 ∧ n.fdiv 256 = n / 256 := by
  have : n.fdiv 256 = n / 256 := Int.fdiv_eq_ediv_of_nonneg n (by omega)
  rw [this]; omega
theorem leVal_leB : ∀ (w : Nat) (n : Int), 0 ≤ n → n < 256 ^ w → (leVal (leB n w) : Int) = n
  | 0, n, h0, h1 => by simp at h1; simp [leB, leVal]; omega
  | w + 1, n, h0, h1 => by
    obtain ⟨h2, h3⟩ := fdiv_nonneg h0
    have h4 : n.fdiv 256 < 256 ^ w := by
      rw [h3]
      rw [Int.pow_succ] at h1
      omega
    have := leVal_leB w _ h2 h4
    simp only [leB, leVal, Int.natCast_add, byteOf_nat]
    rw [Int.natCast_mul, this, h3]
    omega
theorem leB_leVal : ∀ (l : List UInt8), leB (leVal l) l.length = l
  | [] => rfl
  | x :: l => by
    simp only [List.length_cons, leB, leVal]
    have h := x.toNat_lt
    have h0 : ((x.toNat + 256 * leVal l : Nat) : Int).fdiv 256 = leVal l := by
      rw [Int.fdiv_eq_ediv_of_nonneg _ (by omega)]; omega
    have h1 : byteOf ((x.toNat + 256 * leVal l : Nat) : Int) = x := by
      apply UInt8.toNat_inj.1
      have := byteOf_nat ((x.toNat + 256 * leVal l : Nat) : Int)
      omega
    rw [h0, h1, leB_leVal l]
theorem fitsB_iff {n : Int} {w : Nat} : fitsB n w = true ↔ 0 ≤ n ∧ n < 256 ^ w := by simp [fitsB]
theorem _root_.Int.ediv_eq_zero_iff_of_pos' {n m : Int} (h0 : 0 ≤ n) (hp : 0 < m) : n / m = 0 ↔ n < m := by
  constructor
  · intro h
    have := Int.lt_ediv_add_one_mul_self n hp
    rw [h] at this; omega
  · intro h; exact Int.ediv_eq_zero_of_lt h0 h
theorem bits_or_shift (n i : Nat) (c : UInt8) (hn : n < 256 ^ i) (hi : i < 7) :
    bits .i64 (fun _ u v => u ||| v) (n : Int) (IntKind.i64.wrap ((c.toNat : Int) * 2 ^ min (IntKind.i64.wrap (8 * (i : Int))).toNat IntKind.i64.bits)) = ((n + c.toNat * 256 ^ i : Nat) : Int) := by
  have hc := c.toNat_lt
  have hw : IntKind.i64.wrap (8 * (i : Int)) = ((8 * i : Nat) : Int) := by rw [wrap_id (by omega) (by omega)]; simp
  have hm : min (8 * i) 64 = 8 * i := by omega
  have hp : (2 : Nat) ^ (8 * i) = 256 ^ i := by rw [Nat.pow_mul]
  have hb : 256 ^ i ≤ 256 ^ 6 := Nat.pow_le_pow_right (by omega) (by omega)
  have hb' : (256 : Nat) ^ 6 = 281474976710656 := by decide
  have hmul : c.toNat * 256 ^ i ≤ 255 * 281474976710656 := Nat.mul_le_mul (by omega) (by omega)
  have e1 : ((c.toNat : Int) * 2 ^ min (IntKind.i64.wrap (8 * (i : Int))).toNat IntKind.i64.bits) = ((c.toNat * 256 ^ i : Nat) : Int) := by
    rw [hw]
    simp only [Int.toNat_natCast, IntKind.bits, hm]
    rw [← hp]; simp
  rw [e1, wrap_id (by omega) (by omega)]
  unfold bits
  have h1 : ∀ x : Nat, x < 2 ^ 64 → (BitVec.ofInt IntKind.i64.bits (x : Int)).toNat = x := by
    intro x hx
    rw [BitVec.toNat_ofInt]
    simp only [IntKind.bits]
    omega
  rw [BitVec.toNat_or, h1 n (by omega), h1 _ (by omega)]
  have h2 : n ||| c.toNat * 256 ^ i = n + c.toNat * 256 ^ i := by
    rw [← hp] at hn ⊢
    rw [Nat.or_comm, Nat.mul_comm, ← Nat.two_pow_add_eq_or_of_lt hn, Nat.add_comm]
  rw [h2, wrap_id (by omega) (by omega)]
theorem u8_i64 (c : UInt8) : IntKind.i64.wrap (c.toNat : Int) = (c.toNat : Int) := by
  have := c.toNat_lt
  exact wrap_id (by omega) (by omega)
theorem bits_or_shift' (n i : Nat) (c : UInt8) (hn : n < 256 ^ i) (hi : i < 7) :
    bits .i64 (fun _ u v => u ||| v) (n : Int) (IntKind.i64.wrap (IntKind.i64.wrap (c.toNat : Int) * 2 ^ min (IntKind.i64.wrap (8 * (i : Int))).toNat 64)) = ((n + c.toNat * 256 ^ i : Nat) : Int) := by
  rw [u8_i64]; exact bits_or_shift n i c hn hi
def getP (b : List UInt8) (at' w : Int) : Int × Int :=
  bif decide (1 ≤ w) && decide (w ≤ 6) then
    (bif decide (0 ≤ at') && decide (at' + w ≤ b.length) then ((leVal ((b.drop at'.toNat).take w.toNat) : Int), 0) else (0, 50))
  else (0, 2)
def withinB (n a b : Int) : Bool := decide (a ≤ n) && decide (n ≤ b)
theorem withinB_iff {x a b : Int} : withinB x a b = true ↔ a ≤ x ∧ x ≤ b := by simp [withinB]
def eachAt {α : Type} (one : α → Bool) (two : α → α → Bool) (l : List α) (i : Nat) : Bool := eachB one two (ahead l i) (l.drop i)
theorem eachAt_step {α : Type} (one : α → Bool) (two : α → α → Bool) (l : List α) (i : Nat) (d : α) (hlt : i < l.length) :
    eachAt one two l i = (one (l.getD i d) && (decide (i = 0) || two (l.getD (i - 1) d) (l.getD i d)) && eachAt one two l (i + 1)) := by
  unfold eachAt
  rw [List.drop_eq_getElem_cons hlt]
  have hi : l.getD i d = l[i] := by simp [List.getD_eq_getElem?_getD, hlt]
  have hn : ahead l (i + 1) = some l[i] := by simp [ahead, hlt]
  rw [hi, hn]
  simp only [eachB]
  cases i with
  | zero => simp [ahead]
  | succ j =>
    have : j < l.length := by omega
    simp [ahead, this]
def oneWB (w : Write) : Bool := withinB w.key 0 23 && withinB w.value 0 255
def twoWB (x y : Write) : Bool := decide (x.key < y.key)
def writtenL (l : List Write) : Bool := decide (l.length ≤ 4) && eachAt oneWB twoWB l 0
def mayB (r : Rec) : Bool := withinB r.place 1 1048575 && writtenL r.writes && (r.yes || r.writes.isEmpty)
def fitW (w : Write) : Bool := withinB w.key 0 255 && withinB w.value 0 255
def wBytes (w : Write) : List UInt8 := [byteOf w.key, byteOf w.value]
def bytesR (r : Rec) : List UInt8 := leB r.place 3 ++ leB (bif r.yes then 1 else 0) 1 ++ leB r.writes.length 1 ++ r.writes.flatMap wBytes
theorem putL_fits {b : List UInt8} {n : Int} {w : Nat} (h : fitsB n w = true) : putL b n w = b ++ leB n w := by simp [putL, h]
theorem fits1 {n : Int} (h : withinB n 0 255 = true) : fitsB n 1 = true := by
  rw [withinB_iff] at h; rw [fitsB_iff]; omega
theorem fits3 {n : Int} (h : withinB n 0 16777215 = true) : fitsB n 3 = true := by
  rw [withinB_iff] at h; rw [fitsB_iff]; omega
theorem flatMap_drop_succ {α β : Type} (l : List α) (i : Nat) (f : α → List β) (h : i < l.length) (d : α) : (l.drop i).flatMap f = f (l.getD i d) ++ (l.drop (i + 1)).flatMap f := by
  rw [List.drop_eq_getElem_cons h, List.flatMap_cons]
  simp [h]
theorem all_getD {α : Type} {l : List α} {p : α → Bool} (h : l.all p = true) {i : Nat} (hi : i < l.length) (d : α) : p (l.getD i d) = true := by
  have : l.getD i d = l[i] := by simp [hi]
  rw [this]; exact List.all_eq_true.1 h _ (List.getElem_mem hi)
theorem wBytes_len (w : Write) : (wBytes w).length = 2 := rfl
theorem oneW_fit {w : Write} (h : oneWB w = true) : fitW w = true := by
  simp only [oneWB, fitW, Bool.and_eq_true, withinB_iff] at h ⊢; omega
theorem eachB_all {α : Type} (one : α → Bool) (two : α → α → Bool) : ∀ (l : List α) (p : Option α), eachB one two p l = true → l.all one = true
  | [], _, _ => rfl
  | x :: l, p, h => by
    simp only [eachB, Bool.and_eq_true] at h
    simp only [List.all_cons, Bool.and_eq_true]
    exact ⟨h.1.1, eachB_all one two l _ h.2⟩
theorem eachAt_all {α : Type} {one : α → Bool} {two : α → α → Bool} {l : List α} (h : eachAt one two l 0 = true) : l.all one = true := eachB_all one two _ _ h
theorem all_imp {α : Type} {p q : α → Bool} {l : List α} (h : l.all p = true) (hpq : ∀ x, p x = true → q x = true) : l.all q = true := by
  rw [List.all_eq_true] at h ⊢; exact fun x hx => hpq x (h x hx)
theorem may_facts {p : Int} {y : Bool} {l : List Write} (h : mayB ⟨p, y, l⟩ = true) : (1 ≤ p ∧ p ≤ 1048575) ∧ l.length ≤ 4 ∧ l.all fitW = true := by
  simp only [mayB, Bool.and_eq_true, withinB_iff, writtenL, decide_eq_true_eq] at h
  exact ⟨h.1.1, h.1.2.1, all_imp (eachAt_all h.1.2.2) fun _ => oneW_fit⟩
theorem flatMap_len {α β : Type} (l : List α) (f : α → List β) (n : Nat) (h : ∀ x, (f x).length = n) : (l.flatMap f).length = n * l.length := by
  induction l with
  | nil => rfl
  | cons x l ih => simp only [List.flatMap_cons, List.length_append, h, ih, List.length_cons, Nat.mul_succ]; omega
theorem byteOf_fit {n : Int} (h : withinB n 0 255 = true) : ((byteOf n).toNat : Int) = n := by
  rw [byteOf_nat]; rw [withinB_iff] at h; omega
open Go.Proofs
abbrev RO_ : Type := Option ((X × Env RC) × List (Option (Obj RC)))
abbrev DO_ : Type := Option (D RC)
set_option maxRecDepth 100000
noncomputable def p0 : Fns RC := noFns Try.prog 89 (fun f => Nat.beq f 56 || Nat.beq f 49 || Nat.beq f 66) (fun f => []) (fun f => false) (fun f => Nat.beq f 22)
theorem p0_laws : FLaws Try.prog s06 p0 := noFns_laws (by kernel_rfl)
def within_s (n : Int) (a : Int) (b : Int) : Option (Bool × D RC) := some (true, .bool (withinB n a b))
def within_sp : List (D RC) → Option (Bool × D RC)
  | [.int .i64 n, .int .i64 a, .int .i64 b] => within_s n a b
  | _ => none
noncomputable def within_e (n : Int) (a : Int) (b : Int) := evF s06 p0 20 69 [.int .i64 n, .int .i64 a, .int .i64 b]
theorem within_eq (n : Int) (a : Int) (b : Int) : within_e n a b = (bif decide (a ≤ n) then some (D.bool (decide (n ≤ b))) else some (D.bool false)) := by kernel_rfl
theorem within_ok (n : Int) (a : Int) (b : Int) (h : (true) = true) : within_e n a b = some (.bool (withinB n a b)) := by
  rw [within_eq]
  rw [withinB]
  cases decide (a ≤ n) <;> simp
noncomputable def ua_1 := p0.addSpec 69 within_sp
theorem ua_1_laws : FLaws Try.prog s06 ua_1 := p0_laws.addEv s06_laws fun args d h => by
  unfold within_sp at h
  split at h
  · unfold within_s at h
    have h1 := congrArg Prod.fst (Option.some.inj h)
    obtain rfl : _ = d := congrArg Prod.snd (Option.some.inj h)
    exact ⟨by simp [D.refs], 20, within_ok _ _ _ h1⟩
  · cases h
def oneW_s (a : Int) (b : Int) : Option (Bool × D RC) := some (true, .bool (oneWB ⟨a, b⟩))
def oneW_sp : List (D RC) → Option (Bool × D RC)
  | [.acons (.int .i64 a) (.acons (.int .i64 b) .anil)] => oneW_s a b
  | _ => none
noncomputable def oneW_e (a : Int) (b : Int) := evF s06 ua_1 20 81 [.acons (.int .i64 a) (.acons (.int .i64 b) .anil)]
theorem oneW_eq (a : Int) (b : Int) : oneW_e a b = (bif withinB a (0 : Int) (23 : Int) then some (D.bool (withinB b (0 : Int) (255 : Int))) else some (D.bool false)) := by kernel_rfl
theorem oneW_ok (a : Int) (b : Int) (h : (true) = true) : oneW_e a b = some (.bool (oneWB ⟨a, b⟩)) := by
  rw [oneW_eq]
  rw [oneWB]
  cases withinB a 0 23 <;> simp
noncomputable def ua_2 := ua_1.addSpec 81 oneW_sp
theorem ua_2_laws : FLaws Try.prog s06 ua_2 := ua_1_laws.addEv s06_laws fun args d h => by
  unfold oneW_sp at h
  split at h
  · unfold oneW_s at h
    have h1 := congrArg Prod.fst (Option.some.inj h)
    obtain rfl : _ = d := congrArg Prod.snd (Option.some.inj h)
    exact ⟨by simp [D.refs], 20, oneW_ok _ _ h1⟩
  · cases h
def twoW_s (a : Int) (b : Int) (c : Int) (d : Int) : Option (Bool × D RC) := some (true, .bool (twoWB ⟨a, b⟩ ⟨c, d⟩))
def twoW_sp : List (D RC) → Option (Bool × D RC)
  | [.acons (.int .i64 a) (.acons (.int .i64 b) .anil), .acons (.int .i64 c) (.acons (.int .i64 d) .anil)] => twoW_s a b c d
  | _ => none
noncomputable def twoW_e (a : Int) (b : Int) (c : Int) (d : Int) := evF s06 ua_2 20 82 [.acons (.int .i64 a) (.acons (.int .i64 b) .anil), .acons (.int .i64 c) (.acons (.int .i64 d) .anil)]
theorem twoW_eq (a : Int) (b : Int) (c : Int) (d : Int) : twoW_e a b c d = (some (D.bool (decide (a < c)))) := by kernel_rfl
theorem twoW_ok (a : Int) (b : Int) (c : Int) (d : Int) (h : (true) = true) : twoW_e a b c d = some (.bool (twoWB ⟨a, b⟩ ⟨c, d⟩)) := by
  rw [twoW_eq]
  rfl
noncomputable def ua_3 := ua_2.addSpec 82 twoW_sp
theorem ua_3_laws : FLaws Try.prog s06 ua_3 := ua_2_laws.addEv s06_laws fun args d h => by
  unfold twoW_sp at h
  split at h
  · unfold twoW_s at h
    have h1 := congrArg Prod.fst (Option.some.inj h)
    obtain rfl : _ = d := congrArg Prod.snd (Option.some.inj h)
    exact ⟨by simp [D.refs], 20, twoW_ok _ _ _ _ h1⟩
  · cases h
structure eachW_St where
  c : Bool
  l : List Write
  i : Nat
def eachW_c (c : Bool) (l : List Write) (i : Nat) : Env RC := [(0, .sl (C := RC) .write c l), (1, .fn 81 .anil), (2, .fn 82 .anil), (6, .bool false), (9, .int .i64 (l.length)), (10, .int .i64 (i : Int))]
def eachW_o (c : Bool) (l : List Write) (i : Nat) : List (Obj RC) := []
noncomputable def eachW_r (c : Bool) (l : List Write) (i : Nat) := rndO s06 ua_3 80 2 30 0 [0, 1, 2, 6, 9, 10] [6] [] (eachW_c c l i) (eachW_o c l i)
theorem eachW_eq (c : Bool) (l : List Write) (i : Nat) : eachW_r c l i = (let Z0 : Int := (↑i : Int); let Z1 : Int := (↑l.length : Int); let Z2 : Bool := decide ((0 : Int) ≤ Z0 ∧ Z0 < Z1); let Z3 : Write := Write.mk (0 : Int) (0 : Int); let Z4 : Write := List.getD l Z0.toNat Z3; let Z5 : Write := Write.mk (Write.key Z4) (Write.value Z4); let Z6 : Int := IntKind.wrap .i64 (Z0 - (1 : Int)); let Z7 : Write := List.getD l Z6.toNat Z3; let Z8 : RO_ := some ((X.normal, [(0, D.sl RTy.write c l), (1, D.fn (81 : Nat) .anil), (2, D.fn (82 : Nat) .anil), (6, D.bool false), (9, D.int .i64 Z1), (10, D.int .i64 (IntKind.wrap .i64 (Z0 + (1 : Int))))]), []); bif decide (Z0 < Z1) then bif Z2 then bif !oneWB Z5 then some ((X.ret, [(6, D.bool false)]), []) else bif decide ((0 : Int) < Z0) then bif decide ((0 : Int) ≤ Z6 ∧ Z6 < Z1) then bif Z2 then bif !twoWB (Write.mk (Write.key Z7) (Write.value Z7)) Z5 then some ((X.ret, [(6, D.bool false)]), []) else Z8 else none else none else Z8 else none else some ((X.exit (0 : Nat), [(6, D.bool false)]), [])) := by kernel_rfl
def eachW_fin (c : Bool) (l : List Write) (i : Nat) : RT RC := .br (eachAt oneWB twoWB l i) (.leaf (.exit 0) [(6, .bool false)] []) (.leaf .ret [(6, .bool false)] [])
def eachW_Inv (c : Bool) (l : List Write) (i : Nat) : Prop := i ≤ l.length ∧ l.length ≤ 9223372036854775807
def eachW_S : LoopR RC eachW_St where
  k := 0
  canon q := eachW_c q.c q.l q.i
  objs q := eachW_o q.c q.l q.i
  fin q := eachW_fin q.c q.l q.i
  Inv q := eachW_Inv q.c q.l q.i
  μ q := q.l.length - q.i
theorem eachW_round (c : Bool) (l : List Write) (i : Nat) (hI : eachW_Inv c l i) : Leaf (eachW_r c l i) (LedR eachW_S ⟨c, l, i⟩) := by
  (rw [eachW_eq]; conv => zeta)
  unfold eachW_Inv at hI
  obtain ⟨h1, h2⟩ := hI
  by_cases hlt : i < l.length
  · have w_succ : IntKind.i64.wrap ((i : Int) + 1) = ((i + 1 : Nat) : Int) := by rw [wrap_id (by omega) (by omega)]; simp
    have d_lt : decide ((i : Int) < l.length) = true := by simp; omega
    have d_in : decide (0 ≤ (i : Int) ∧ (i : Int) < l.length) = true := by simp; omega
    have t_nat : ((i : Int)).toNat = i := by simp
    have w_pred : IntKind.i64.wrap ((i : Int) - 1) = (i : Int) - 1 := wrap_id (by omega) (by omega)
    have t_natp : ((i : Int) - 1).toNat = i - 1 := by omega
    simp only [w_succ, d_lt, d_in, t_nat, w_pred, t_natp, cond_true]
    have hst := eachAt_step oneWB twoWB l i (⟨0, 0⟩ : Write) hlt
    generalize l.getD i (⟨0, 0⟩ : Write) = x at hst ⊢
    generalize l.getD (i - 1) (⟨0, 0⟩ : Write) = y at hst ⊢
    have hgo : eachAt oneWB twoWB l (i + 1) = eachAt oneWB twoWB l i → Leaf (some ((X.normal, eachW_c c l (i + 1)), [])) (LedR eachW_S ⟨c, l, i⟩) := fun he =>
      leafR_go ⟨c, l, i + 1⟩ ⟨hlt, h2⟩ (by simp only [eachW_S]; omega) (by simp only [eachW_S, eachW_fin, he]) rfl rfl
    have hno : eachAt oneWB twoWB l i = false → Leaf (some ((X.ret, [(6, D.bool false)]), [])) (LedR eachW_S ⟨c, l, i⟩) := fun he => leafR_ret [] (by simp [eachW_S, eachW_fin, he, RT.val]) rfl
    rw [hst] at hgo hno
    cases a1 : oneWB x
    · exact hno (by simp [a1])
    by_cases hi : i = 0
    · have d0 : decide (0 < (i : Int)) = false := by simp; omega
      simp only [d0, cond_false]
      exact hgo (by simp [hi, a1])
    · have d_pos : decide (0 < (i : Int)) = true := by simp; omega
      have d_inp : decide (0 ≤ (i : Int) - 1 ∧ (i : Int) - 1 < l.length) = true := by simp; omega
      simp only [d_pos, d_inp, cond_true]
      cases a4 : twoWB y x
      · exact hno (by simp [hi, a4])
      · exact hgo (by simp [a4, a1])
  · have hi : i = l.length := by omega
    have c1 : decide ((i : Int) < l.length) = false := by simp; omega
    rw [c1]
    exact leafR_exit [] (by simp [eachW_S, eachW_fin, hi, eachAt, eachB, RT.val]) rfl
def eachW_d (env : Env RC) (os : List (Obj RC)) : Option (Bool × eachW_St) := match env, os with
  | [(0, .sl .write c l), (1, .fn 81 .anil), (2, .fn 82 .anil), (6, .bool false), (9, .int .i64 x0), (10, .int .i64 x1)], [] => staticD (true) (decide (x0 = l.length) && decide (x1 = 0) && decide (l.length ≤ 9223372036854775807), ⟨c, l, 0⟩)
  | _, _ => none
noncomputable def ua_4 := ua_3.addLoop 80 2 (sumR s06 [] [0, 1, 2, 6, 9, 10] eachW_S eachW_d)
theorem ua_4_laws : FLaws Try.prog s06 ua_4 := by
  refine ua_3_laws.addRoundsR s06_laws (by kernel_rfl) eachW_S 30 [0, 1, 2, 6, 9, 10] [6] [] [0, 1, 2, 6, 9, 10] eachW_d (fun q hI => ?_) ?_
  · obtain ⟨c, l, i⟩ := q
    refine ⟨?_, ?_, eachW_round c l i hI⟩
    · simp_all [RefsOK, eachW_S, eachW_c, eachW_o, eachW_Inv, D.refs, Obj.refs, rEnc]
    · simp_all [eachW_S, eachW_fin, eachW_o, eachW_Inv, RT.refsOK, RefsOK, D.refs, Obj.refs, rEnc]
  · intro env os b q hd_ hb
    unfold eachW_d at hd_
    split at hd_
    · obtain ⟨hs, hd_⟩ := staticD_some hd_
      cases hd_
      simp only [Bool.and_eq_true, decide_eq_true_eq] at hb
      obtain ⟨⟨rfl, rfl⟩, hl⟩ := hb
      exact ⟨⟨Nat.zero_le _, hl⟩, rfl, rfl⟩
    · cases hd_
def written_s (c : Bool) (l : List Write) : Option (Bool × D RC) := some (lenOK l.length, .bool (writtenL l))
def written_sp : List (D RC) → Option (Bool × D RC)
  | [.sl .write c l] => written_s c l
  | _ => none
noncomputable def written_e (c : Bool) (l : List Write) := evF s06 ua_4 20 70 [.sl (C := RC) .write c l]
theorem written_eq (c : Bool) (l : List Write) : written_e c l = (let Z0 : Nat := List.length l; let Z1 : Int := (↑Z0 : Int); bif lenOK Z0 then bif decide (Z1 ≤ (4 : Int)) then bif lenOK Z0 then bif decide (Z1 = Z1) && true && decide (Z0 ≤ (9223372036854775807 : Nat)) then bif eachAt oneWB twoWB l (0 : Nat) then some (D.bool true) else some (D.bool false) else none else none else some (D.bool false) else none) := by kernel_rfl
theorem written_ok (c : Bool) (l : List Write) (h : (lenOK l.length) = true) : written_e c l = some (.bool (writtenL l)) := by
  (rw [written_eq]; conv => zeta)
  have h2 : l.length ≤ 9223372036854775807 := lenOK_le h
  have h3 : (((l.length : Nat) : Int) ≤ 4) ↔ l.length ≤ 4 := by omega
  rw [writtenL, h]
  by_cases h4 : l.length ≤ 4
  · simp [h4, h2, h3]
    cases eachAt oneWB twoWB l 0 <;> rfl
  · simp [h4, h3]
noncomputable def ua_5 := ua_4.addSpec 70 written_sp
theorem ua_5_laws : FLaws Try.prog s06 ua_5 := ua_4_laws.addEv s06_laws fun args d h => by
  unfold written_sp at h
  split at h
  · unfold written_s at h
    have h1 := congrArg Prod.fst (Option.some.inj h)
    obtain rfl : _ = d := congrArg Prod.snd (Option.some.inj h)
    exact ⟨by simp [D.refs], 20, written_ok _ _ h1⟩
  · cases h
def may_s (p : Int) (y : Bool) (c : Bool) (l : List Write) : Option (Bool × D RC) := some (lenOK l.length, .bool (mayB ⟨p, y, l⟩))
def may_sp : List (D RC) → Option (Bool × D RC)
  | [.acons (.int .i64 p) (.acons (.bool y) (.acons (.sl .write c l) .anil))] => may_s p y c l
  | _ => none
noncomputable def may_e (p : Int) (y : Bool) (c : Bool) (l : List Write) := evF s06 ua_5 20 50 [.acons (.int .i64 p) (.acons (.bool y) (.acons (.sl (C := RC) .write c l) .anil))]
theorem may_eq (p : Int) (y : Bool) (c : Bool) (l : List Write) : may_e p y c l = (let Z0 : Bool := lenOK l.length; bif withinB p (1 : Int) (1048575 : Int) then bif Z0 then bif writtenL l then bif y then some (D.bool true) else bif Z0 then some (D.bool ((↑l.length : Int) == (0 : Int))) else none else some (D.bool false) else none else some (D.bool false)) := by kernel_rfl
theorem may_ok (p : Int) (y : Bool) (c : Bool) (l : List Write) (h : (lenOK l.length) = true) : may_e p y c l = some (.bool (mayB ⟨p, y, l⟩)) := by
  (rw [may_eq]; conv => zeta)
  have h3 : (((l.length : Nat) : Int) = 0) ↔ l.length = 0 := by omega
  simp only [mayB, h]
  cases withinB p 1 1048575 <;> cases writtenL l <;> cases y <;> simp [h3]
  cases l <;> simp
  omega
noncomputable def ua_6 := ua_5.addSpec 50 may_sp
theorem ua_6_laws : FLaws Try.prog s06 ua_6 := ua_5_laws.addEv s06_laws fun args d h => by
  unfold may_sp at h
  split at h
  · unfold may_s at h
    have h1 := congrArg Prod.fst (Option.some.inj h)
    obtain rfl : _ = d := congrArg Prod.snd (Option.some.inj h)
    exact ⟨by simp [D.refs], 20, may_ok _ _ _ _ h1⟩
  · cases h
open Go.Proofs
def put_s (c : Bool) (b : List UInt8) (n : Int) (w : Int) : Option (Bool × D RC) := staticD (w == 1 || w == 2 || w == 3 || w == 6) (decide (b.length ≤ 1000000000), .tup (.acons (.sl (C := RC) .u8 (!fitsB n w.toNat) (putL b n w.toNat)) (.acons (.int .i64 (bif fitsB n w.toNat then 0 else 2)) .anil)))
def put_sp : List (D RC) → Option (Bool × D RC)
  | [.sl .u8 c b, .int .i64 n, .int .i64 w] => put_s c b n w
  | _ => none
noncomputable def put_e (c : Bool) (b : List UInt8) (n : Int) (w : Int) := evF s06 ua_6 40 52 [.sl (C := RC) .u8 c b, .int .i64 n, .int .i64 w]
theorem put1_eq (c : Bool) (b : List UInt8) (n : Int) : put_e c b n 1 = (let Z0 : DO_ := some (D.tup (D.acons (D.sl RTy.u8 true []) (.acons (D.int .i64 2) .anil))); let Z1 : Bool := lenOK b.length; let Z2 : Int := (↑b.length : Int); let Z3 : List UInt8 := List.drop (0 : Nat) (List.take Z2.toNat b); let Z4 : List UInt8 := [UInt8.ofNat (IntKind.wrap IntKind.u8 n).toNat]; let Z5 : Nat := List.length Z3 + List.length Z4; bif decide ((0 : Int) ≤ n) then bif !Int.fdiv n (256 : Int) == (0 : Int) then Z0 else bif Z1 then bif Z1 then bif decide ((0 : Int) ≤ (0 : Int) ∧ (0 : Int) ≤ Z2 ∧ Z2 ≤ Z2 ∧ Z2 = Z2) then bif sizeOK Z5 (1 : Nat) then bif Nat.beq Z5 (Z3 ++ Z4).length then some (D.tup (D.acons (D.sl RTy.u8 false (Z3 ++ Z4)) (.acons (D.int .i64 0) .anil))) else none else none else none else none else none else Z0) := by kernel_rfl
theorem put2_eq (c : Bool) (b : List UInt8) (n : Int) : put_e c b n 2 = (let Z0 : DO_ := some (D.tup (D.acons (D.sl RTy.u8 true []) (.acons (D.int .i64 2) .anil))); let Z1 : Bool := lenOK b.length; let Z2 : Int := (↑b.length : Int); let Z3 : List UInt8 := List.drop (0 : Nat) (List.take Z2.toNat b); let Z4 : List UInt8 := [UInt8.ofNat (IntKind.wrap IntKind.u8 n).toNat]; let Z5 : Nat := List.length Z3 + List.length Z4; let Z6 : Nat := List.length (Z3 ++ Z4); let Z7 : List UInt8 := [UInt8.ofNat (IntKind.wrap IntKind.u8 (Int.fdiv n (256 : Int))).toNat]; bif decide ((0 : Int) ≤ n) then bif !Int.fdiv n (65536 : Int) == (0 : Int) then Z0 else bif Z1 then bif Z1 then bif decide ((0 : Int) ≤ (0 : Int) ∧ (0 : Int) ≤ Z2 ∧ Z2 ≤ Z2 ∧ Z2 = Z2) then bif sizeOK Z5 (1 : Nat) then bif Nat.beq Z5 Z6 && sizeOK (Z5 + List.length Z7) (1 : Nat) then bif Nat.beq (Z6 + List.length Z7) (Z3 ++ Z4 ++ Z7).length then some (D.tup (D.acons (D.sl RTy.u8 false (Z3 ++ Z4 ++ Z7)) (.acons (D.int .i64 0) .anil))) else none else none else none else none else none else none else Z0) := by kernel_rfl
theorem put3_eq (c : Bool) (b : List UInt8) (n : Int) : put_e c b n 3 = (let Z0 : DO_ := some (D.tup (D.acons (D.sl RTy.u8 true []) (.acons (D.int .i64 2) .anil))); let Z1 : Bool := lenOK b.length; let Z2 : Int := (↑b.length : Int); let Z3 : List UInt8 := List.drop (0 : Nat) (List.take Z2.toNat b); let Z4 : List UInt8 := [UInt8.ofNat (IntKind.wrap IntKind.u8 n).toNat]; let Z5 : Nat := List.length Z3 + List.length Z4; let Z6 : Nat := List.length (Z3 ++ Z4); let Z7 : Int := Int.fdiv n (256 : Int); let Z8 : List UInt8 := [UInt8.ofNat (IntKind.wrap IntKind.u8 Z7).toNat]; let Z9 : Nat := List.length (Z3 ++ Z4 ++ Z8); let Z10 : List UInt8 := [UInt8.ofNat (IntKind.wrap IntKind.u8 (Int.fdiv Z7 (256 : Int))).toNat]; bif decide ((0 : Int) ≤ n) then bif !Int.fdiv n (16777216 : Int) == (0 : Int) then Z0 else bif Z1 then bif Z1 then bif decide ((0 : Int) ≤ (0 : Int) ∧ (0 : Int) ≤ Z2 ∧ Z2 ≤ Z2 ∧ Z2 = Z2) then bif sizeOK Z5 (1 : Nat) then bif Nat.beq Z5 Z6 && sizeOK (Z5 + List.length Z8) (1 : Nat) then bif Nat.beq (Z6 + List.length Z8) Z9 && sizeOK (Z6 + List.length Z8 + List.length Z10) (1 : Nat) then bif Nat.beq (Z9 + List.length Z10) (Z3 ++ Z4 ++ Z8 ++ Z10).length then some (D.tup (D.acons (D.sl RTy.u8 false (Z3 ++ Z4 ++ Z8 ++ Z10)) (.acons (D.int .i64 0) .anil))) else none else none else none else none else none else none else none else Z0) := by kernel_rfl
theorem put6_eq (c : Bool) (b : List UInt8) (n : Int) : put_e c b n 6 = (let Z0 : DO_ := some (D.tup (D.acons (D.sl RTy.u8 true []) (.acons (D.int .i64 2) .anil))); let Z1 : Bool := lenOK b.length; let Z2 : Int := (↑b.length : Int); let Z3 : List UInt8 := List.drop (0 : Nat) (List.take Z2.toNat b); let Z4 : List UInt8 := [UInt8.ofNat (IntKind.wrap IntKind.u8 n).toNat]; let Z5 : Nat := List.length Z3 + List.length Z4; let Z6 : Nat := List.length (Z3 ++ Z4); let Z7 : Int := Int.fdiv n (256 : Int); let Z8 : List UInt8 := [UInt8.ofNat (IntKind.wrap IntKind.u8 Z7).toNat]; let Z9 : Nat := List.length (Z3 ++ Z4 ++ Z8); let Z10 : Int := Int.fdiv Z7 (256 : Int); let Z11 : List UInt8 := [UInt8.ofNat (IntKind.wrap IntKind.u8 Z10).toNat]; let Z12 : Nat := List.length (Z3 ++ Z4 ++ Z8 ++ Z11); let Z13 : Int := Int.fdiv Z10 (256 : Int); let Z14 : List UInt8 := [UInt8.ofNat (IntKind.wrap IntKind.u8 Z13).toNat]; let Z15 : Nat := List.length (Z3 ++ Z4 ++ Z8 ++ Z11 ++ Z14); let Z16 : Int := Int.fdiv Z13 (256 : Int); let Z17 : List UInt8 := [UInt8.ofNat (IntKind.wrap IntKind.u8 Z16).toNat]; let Z18 : List UInt8 := Z3 ++ Z4 ++ Z8 ++ Z11 ++ Z14 ++ Z17; let Z19 : List UInt8 := [UInt8.ofNat (IntKind.wrap IntKind.u8 (Int.fdiv Z16 (256 : Int))).toNat]; bif decide ((0 : Int) ≤ n) then bif !Int.fdiv n (281474976710656 : Int) == (0 : Int) then Z0 else bif Z1 then bif Z1 then bif decide ((0 : Int) ≤ (0 : Int) ∧ (0 : Int) ≤ Z2 ∧ Z2 ≤ Z2 ∧ Z2 = Z2) then bif sizeOK Z5 (1 : Nat) then bif Nat.beq Z5 Z6 && sizeOK (Z5 + List.length Z8) (1 : Nat) then bif Nat.beq (Z6 + List.length Z8) Z9 && sizeOK (Z6 + List.length Z8 + List.length Z11) (1 : Nat) then bif Nat.beq (Z9 + List.length Z11) Z12 && sizeOK (Z9 + List.length Z11 + List.length Z14) (1 : Nat) then bif Nat.beq (Z12 + List.length Z14) Z15 && sizeOK (Z12 + List.length Z14 + List.length Z17) (1 : Nat) then bif Nat.beq (Z15 + List.length Z17) Z18.length && sizeOK (Z15 + List.length Z17 + List.length Z19) (1 : Nat) then bif Nat.beq (List.length Z18 + List.length Z19) (Z18 ++ Z19).length then some (D.tup (D.acons (D.sl RTy.u8 false (Z18 ++ Z19)) (.acons (D.int .i64 0) .anil))) else none else none else none else none else none else none else none else none else none else none else Z0) := by kernel_rfl
theorem put_ok (c : Bool) (b : List UInt8) (n : Int) (w : Int) (hs : (w == 1 || w == 2 || w == 3 || w == 6) = true) (h : (decide (b.length ≤ 1000000000)) = true) : put_e c b n w = some (.tup (.acons (.sl (C := RC) .u8 (!fitsB n w.toNat) (putL b n w.toNat)) (.acons (.int .i64 (bif fitsB n w.toNat then 0 else 2)) .anil))) := by
  have hl := of_decide_eq_true h
  have hl' : lenOK b.length = true := lenOK_of (by omega)
  have hle : ∀ m, 1000000000 ≤ m → (b.length ≤ m) := fun m hm => by omega
  have hz : ∀ (k : Nat) (m : Int), 0 ≤ n → m = 256 ^ k → 0 < m → ((n.fdiv m == 0) = fitsB n k) := by
    intro k m h0 hm hp
    rw [Int.fdiv_eq_ediv_of_nonneg _ (by omega), fitsB, ← hm]
    have : (n / m = 0) ↔ n < m := Int.ediv_eq_zero_iff_of_pos' h0 hp
    rw [Bool.eq_iff_iff]; simp [this, h0]
  simp only [Bool.or_eq_true, beq_iff_eq] at hs
  rcases hs with ((rfl | rfl) | rfl) | rfl
  · (rw [put1_eq]; conv => zeta)
    show _ = some (D.tup (.acons (.sl (C := RC) .u8 (!fitsB n 1) (putL b n 1)) (.acons (.int .i64 (bif fitsB n 1 then 0 else 2)) .anil)))
    by_cases h0 : 0 ≤ n
    · simp only [h0, decide_true, cond_true, hz 1 256 h0 (by decide) (by omega)]
      cases hf : fitsB n 1
      · simp [putL, hf]
      · simp [putL, hf, hl', sizeOK, leB, byteOf, hle]
    · have hf : fitsB n 1 = false := by simp [fitsB, h0]
      simp [h0, hf, putL]
  · (rw [put2_eq]; conv => zeta)
    show _ = some (D.tup (.acons (.sl (C := RC) .u8 (!fitsB n 2) (putL b n 2)) (.acons (.int .i64 (bif fitsB n 2 then 0 else 2)) .anil)))
    by_cases h0 : 0 ≤ n
    · simp only [h0, decide_true, cond_true, hz 2 65536 h0 (by decide) (by omega)]
      cases hf : fitsB n 2
      · simp [putL, hf]
      · simp [putL, hf, hl', sizeOK, leB, byteOf, hle]
    · have hf : fitsB n 2 = false := by simp [fitsB, h0]
      simp [h0, hf, putL]
  · (rw [put3_eq]; conv => zeta)
    show _ = some (D.tup (.acons (.sl (C := RC) .u8 (!fitsB n 3) (putL b n 3)) (.acons (.int .i64 (bif fitsB n 3 then 0 else 2)) .anil)))
    by_cases h0 : 0 ≤ n
    · simp only [h0, decide_true, cond_true, hz 3 16777216 h0 (by decide) (by omega)]
      cases hf : fitsB n 3
      · simp [putL, hf]
      · simp [putL, hf, hl', sizeOK, leB, byteOf, hle]
    · have hf : fitsB n 3 = false := by simp [fitsB, h0]
      simp [h0, hf, putL]
  · (rw [put6_eq]; conv => zeta)
    show _ = some (D.tup (.acons (.sl (C := RC) .u8 (!fitsB n 6) (putL b n 6)) (.acons (.int .i64 (bif fitsB n 6 then 0 else 2)) .anil)))
    by_cases h0 : 0 ≤ n
    · simp only [h0, decide_true, cond_true, hz 6 281474976710656 h0 (by decide) (by omega)]
      cases hf : fitsB n 6
      · simp [putL, hf]
      · simp [putL, hf, hl', sizeOK, leB, byteOf, hle]
    · have hf : fitsB n 6 = false := by simp [fitsB, h0]
      simp [h0, hf, putL]
noncomputable def ub_1 := ua_6.addSpec 52 put_sp
theorem ub_1_laws : FLaws Try.prog s06 ub_1 := ua_6_laws.addEv s06_laws fun args d h => by
  unfold put_sp at h
  split at h
  · unfold put_s at h
    obtain ⟨hs, h⟩ := staticD_some h
    obtain ⟨h1, h2⟩ := Prod.mk.inj h
    obtain rfl : _ = d := h2
    exact ⟨by simp [D.refs], 40, put_ok _ _ _ _ hs h1⟩
  · cases h
structure getLoop_St where
  c : Bool
  l : List UInt8
  i : Nat
def getLoop_c (c : Bool) (l : List UInt8) (i : Nat) : Env RC := [(40, .sl (C := RC) .u8 c l), (41, .int .i64 (l.length)), (42, .int .i64 (i : Int)), (8, .int .i64 ((leVal (l.take i) : Int)))]
def getLoop_o (c : Bool) (l : List UInt8) (i : Nat) : List (Obj RC) := []
noncomputable def getLoop_r (c : Bool) (l : List UInt8) (i : Nat) := rndO s06 ub_1 78 7 40 0 [40, 41, 42, 8] [8] [] (getLoop_c c l i) (getLoop_o c l i)
theorem getLoop_eq (c : Bool) (l : List UInt8) (i : Nat) : getLoop_r c l i = (let Z0 : Int := (↑i : Int); let Z1 : Int := (↑l.length : Int); let Z2 : Int := IntKind.wrap .i64 ((8 : Int) * Z0); let Z3 : Int := (↑(leVal (List.take i l)) : Int); bif decide (Z0 < Z1) then bif decide ((0 : Int) ≤ Z0 ∧ Z0 < Z1) then bif decide (Z2 < (0 : Int)) then none else some ((X.normal, [(40, D.sl RTy.u8 c l), (41, D.int .i64 Z1), (42, D.int .i64 (IntKind.wrap .i64 (Z0 + (1 : Int)))), (8, D.int .i64 (bits .i64 (fun (x : Nat) (u v : BitVec x) => u ||| v) Z3 (IntKind.wrap .i64 (IntKind.wrap .i64 (↑(UInt8.toNat (List.getD l Z0.toNat (UInt8.ofBitVec (BitVec.ofNat (8 : Nat) (nat_lit 0))))) : Int) * (2 : Int) ^ min Z2.toNat (64 : Nat)))))]), []) else none else some ((X.exit (1 : Nat), [(8, D.int .i64 Z3)]), [])) := by kernel_rfl
def getLoop_fin (c : Bool) (l : List UInt8) (i : Nat) : RT RC := .leaf (.exit 1) [(8, .int .i64 (leVal l : Int))] []
def getLoop_Inv (c : Bool) (l : List UInt8) (i : Nat) : Prop := i ≤ l.length ∧ l.length ≤ 6
def getLoop_S : LoopR RC getLoop_St where
  k := 0
  canon q := getLoop_c q.c q.l q.i
  objs q := getLoop_o q.c q.l q.i
  fin q := getLoop_fin q.c q.l q.i
  Inv q := getLoop_Inv q.c q.l q.i
  μ q := q.l.length - q.i
theorem getLoop_round (c : Bool) (l : List UInt8) (i : Nat) (hI : getLoop_Inv c l i) : Leaf (getLoop_r c l i) (LedR getLoop_S ⟨c, l, i⟩) := by
  (rw [getLoop_eq]; conv => zeta)
  unfold getLoop_Inv at hI
  obtain ⟨h1, h2⟩ := hI
  by_cases hlt : i < l.length
  · have w_succ : IntKind.i64.wrap ((i : Int) + 1) = ((i + 1 : Nat) : Int) := by rw [wrap_id (by omega) (by omega)]; simp
    have d_lt : decide ((i : Int) < l.length) = true := by simp; omega
    have d_in : decide (0 ≤ (i : Int) ∧ (i : Int) < l.length) = true := by simp; omega
    have t_nat : ((i : Int)).toNat = i := by simp
    simp only [w_succ, d_lt, d_in, t_nat, cond_true]
    have hw8 : IntKind.i64.wrap (8 * (i : Int)) = 8 * (i : Int) := wrap_id (by omega) (by omega)
    have hd8 : decide (IntKind.i64.wrap (8 * (i : Int)) < 0) = false := by rw [hw8]; simp; omega
    have hlen : (l.take i).length = i := by simp; omega
    have hv : leVal (l.take i) < 256 ^ i := by have := leVal_lt (l.take i); rwa [hlen] at this
    have hval : leVal (l.take (i + 1)) = leVal (l.take i) + (l.getD i 0).toNat * 256 ^ i := by
      rw [List.take_add_one, leVal_append, hlen]
      simp [hlt, leVal, Nat.mul_comm]
    simp only [hd8, cond_false]
    refine leafR_go ⟨c, l, i + 1⟩ ⟨hlt, h2⟩ (by simp only [getLoop_S]; omega) (by simp only [getLoop_S, getLoop_fin]) ?_ rfl
    simp only [getLoop_S, getLoop_c, hval]
    exact congrArg (fun z => [(40, D.sl (C := RC) .u8 c l), (41, .int .i64 (l.length : Int)), (42, .int .i64 ((i + 1 : Nat) : Int)), (8, .int .i64 z)]) (bits_or_shift' _ _ _ hv (by omega))
  · have hi : i = l.length := by omega
    have c1 : decide ((i : Int) < l.length) = false := by simp; omega
    rw [c1]
    exact leafR_exit [] (by simp [getLoop_S, getLoop_fin, hi, RT.val]) rfl
def getLoop_d (env : Env RC) (os : List (Obj RC)) : Option (Bool × getLoop_St) := match env, os with
  | [(40, .sl .u8 c l), (41, .int .i64 x0), (42, .int .i64 x1), (8, .int .i64 x2)], [] => staticD (true) (decide (x0 = l.length) && decide (x1 = 0) && decide (x2 = 0) && decide (l.length ≤ 6), ⟨c, l, 0⟩)
  | _, _ => none
noncomputable def ub_2 := ub_1.addLoop 78 7 (sumR s06 [] [40, 41, 42, 8] getLoop_S getLoop_d)
theorem ub_2_laws : FLaws Try.prog s06 ub_2 := by
  refine ub_1_laws.addRoundsR s06_laws (by kernel_rfl) getLoop_S 40 [40, 41, 42, 8] [8] [] [40, 41, 42, 8] getLoop_d (fun q hI => ?_) ?_
  · obtain ⟨c, l, i⟩ := q
    refine ⟨?_, ?_, getLoop_round c l i hI⟩
    · simp_all [RefsOK, getLoop_S, getLoop_c, getLoop_o, getLoop_Inv, D.refs, Obj.refs, rEnc]
    · simp_all [getLoop_S, getLoop_fin, getLoop_o, getLoop_Inv, RT.refsOK, RefsOK, D.refs, Obj.refs, rEnc]
  · intro env os b q hd_ hb
    unfold getLoop_d at hd_
    split at hd_
    · obtain ⟨hs, hd_⟩ := staticD_some hd_
      cases hd_
      simp only [Bool.and_eq_true, decide_eq_true_eq] at hb
      obtain ⟨⟨⟨rfl, rfl⟩, rfl⟩, hl⟩ := hb
      exact ⟨⟨Nat.zero_le _, hl⟩, rfl, rfl⟩
    · cases hd_
def get_s (c : Bool) (b : List UInt8) (a : Int) (w : Int) : Option (Bool × D RC) := some (decide (b.length ≤ 1000000000000), .tup (.acons (.int .i64 (getP b a w).1) (.acons (.int .i64 (getP b a w).2) .anil)))
def get_sp : List (D RC) → Option (Bool × D RC)
  | [.sl .u8 c b, .int .i64 a, .int .i64 w] => get_s c b a w
  | _ => none
noncomputable def get_e (c : Bool) (b : List UInt8) (a : Int) (w : Int) := evF s06 ub_2 40 78 [.sl (C := RC) .u8 c b, .int .i64 a, .int .i64 w]
theorem get_eq (c : Bool) (b : List UInt8) (a : Int) (w : Int) : get_e c b a w = (let Z0 : D RC := D.int .i64 0; let Z1 : DO_ := some (D.tup (D.acons Z0 (D.acons (D.int .i64 2) .anil))); let Z2 : DO_ := some (D.tup (D.acons Z0 (D.acons (D.int .i64 50) .anil))); let Z3 : Bool := lenOK b.length; let Z4 : Int := (↑b.length : Int); let Z5 : Int := IntKind.wrap .i64 (a + w); let Z6 : List UInt8 := List.drop a.toNat (List.take Z5.toNat b); let Z7 : Nat := List.length Z6; bif decide (w < (1 : Int)) then Z1 else bif decide ((6 : Int) < w) then Z1 else bif decide (a < (0 : Int)) then Z2 else bif Z3 then bif decide (Z4 < a) then Z2 else bif Z3 then bif decide (IntKind.wrap .i64 (Z4 - a) < w) then Z2 else bif decide ((0 : Int) ≤ a ∧ a ≤ Z5 ∧ Z5 ≤ Z4) then bif lenOK Z7 then bif decide ((↑Z7 : Int) = (↑Z7 : Int)) && true && true && decide (Z7 ≤ (6 : Nat)) then some (D.tup (D.acons (D.int .i64 (↑(leVal Z6) : Int)) (.acons Z0 .anil))) else none else none else none else none else none) := by kernel_rfl
theorem get_ok (c : Bool) (b : List UInt8) (a : Int) (w : Int) (h : (decide (b.length ≤ 1000000000000)) = true) : get_e c b a w = some (.tup (.acons (.int .i64 (getP b a w).1) (.acons (.int .i64 (getP b a w).2) .anil))) := by
  (rw [get_eq]; conv => zeta)
  have hl := of_decide_eq_true h
  have hl' : lenOK b.length = true := lenOK_of (by omega)
  rw [hl']
  by_cases hw : 1 ≤ w ∧ w ≤ 6
  · have w1 : decide (w < 1) = false := by simp; omega
    have w2 : decide (6 < w) = false := by simp; omega
    have w3 : (decide (1 ≤ w) && decide (w ≤ 6)) = true := by simp; omega
    simp only [w1, w2, cond_false, cond_true, getP, w3]
    by_cases ha : 0 ≤ a ∧ a + w ≤ b.length
    · have a1 : decide (a < 0) = false := by simp; omega
      have a2 : decide ((b.length : Int) < a) = false := by simp; omega
      have e1 : IntKind.i64.wrap ((b.length : Int) - a) = b.length - a := wrap_id (by omega) (by omega)
      have e2 : IntKind.i64.wrap (a + w) = a + w := wrap_id (by omega) (by omega)
      have a3 : decide ((b.length : Int) - a < w) = false := by simp; omega
      have a4 : decide (0 ≤ a ∧ a ≤ a + w ∧ a + w ≤ (b.length : Int)) = true := by simp; omega
      have a5 : (decide (0 ≤ a) && decide (a + w ≤ (b.length : Int))) = true := by simp; omega
      have e3 : (List.drop a.toNat (List.take (a + w).toNat b)) = List.take w.toNat (List.drop a.toNat b) := by
        rw [List.drop_take]; congr 1; omega
      have e4 : (List.take w.toNat (List.drop a.toNat b)).length = w.toNat := by simp; omega
      simp only [a1, a2, e1, e2, a3, a4, a5, e3, e4, cond_false, cond_true]
      have a6 : lenOK w.toNat = true := lenOK_of (by omega)
      have a7 : w.toNat ≤ 6 := by omega
      simp [a6, a7]
    · have a5 : (decide (0 ≤ a) && decide (a + w ≤ (b.length : Int))) = false := by simp; omega
      simp only [a5, cond_false]
      by_cases a1 : a < 0
      · simp [a1]
      · by_cases a2 : (b.length : Int) < a
        · simp [a1, a2]
        · have e1 : IntKind.i64.wrap ((b.length : Int) - a) = b.length - a := wrap_id (by omega) (by omega)
          have a3 : decide ((b.length : Int) - a < w) = true := by simp; omega
          simp [a1, a2, e1, a3]
  · have w3 : (decide (1 ≤ w) && decide (w ≤ 6)) = false := by simp; omega
    simp only [getP, w3]
    by_cases w1 : w < 1
    · simp [w1]
    · have w2 : 6 < w := by omega
      simp [w1, w2]
noncomputable def ub_3 := ub_2.addSpec 78 get_sp
theorem ub_3_laws : FLaws Try.prog s06 ub_3 := ub_2_laws.addEv s06_laws fun args d h => by
  unfold get_sp at h
  split at h
  · unfold get_s at h
    have h1 := congrArg Prod.fst (Option.some.inj h)
    obtain rfl : _ = d := congrArg Prod.snd (Option.some.inj h)
    exact ⟨by simp [D.refs], 40, get_ok _ _ _ _ h1⟩
  · cases h
open Go.Proofs
structure bytesLoop_St where
  cp : Bool
  bs : List UInt8
  c : Bool
  l : List Write
  i : Nat
def bytesLoop_c (cp : Bool) (bs : List UInt8) (c : Bool) (l : List Write) (i : Nat) : Env RC := [(4, .ptr 0 []), (28, .sl (C := RC) .write c l), (29, .int .i64 (l.length)), (30, .int .i64 (i : Int))]
def bytesLoop_o (cp : Bool) (bs : List UInt8) (c : Bool) (l : List Write) (i : Nat) : List (Obj RC) := [.var 82 (.acons (.sl (C := RC) .u8 cp bs) .anil)]
noncomputable def bytesLoop_r (cp : Bool) (bs : List UInt8) (c : Bool) (l : List Write) (i : Nat) := rndO s06 ub_3 28 11 40 1 [4, 28, 29, 30] [] [.slot 4 0] (bytesLoop_c cp bs c l i) (bytesLoop_o cp bs c l i)
theorem bytesLoop_eq (cp : Bool) (bs : List UInt8) (c : Bool) (l : List Write) (i : Nat) : bytesLoop_r cp bs c l i = (let Z0 : Int := (↑i : Int); let Z1 : Int := (↑l.length : Int); let Z2 : Write := List.getD l Z0.toNat (Write.mk (0 : Int) (0 : Int)); let Z3 : List UInt8 := putL bs (Write.key Z2) (1 : Nat); bif decide (Z0 < Z1) then bif decide ((0 : Int) ≤ Z0 ∧ Z0 < Z1) then bif decide (List.length bs ≤ (1000000000 : Nat)) then bif decide (List.length Z3 ≤ (1000000000 : Nat)) then some ((X.normal, [(4, D.ptr 0 []), (28, D.sl RTy.write c l), (29, D.int .i64 Z1), (30, D.int .i64 (IntKind.wrap .i64 (Z0 + (1 : Int))))]), [some (Obj.var 82 (.acons (D.sl RTy.u8 (!fitsB (Write.value Z2) (1 : Nat)) (putL Z3 (Write.value Z2) (1 : Nat))) .anil))]) else none else none else none else some ((X.exit (0 : Nat), []), [some (Obj.var 82 (.acons (D.sl RTy.u8 cp bs) .anil))])) := by kernel_rfl
def bytesLoop_fin (cp : Bool) (bs : List UInt8) (c : Bool) (l : List Write) (i : Nat) : RT RC := .leaf (.exit 0) [] [.var 82 (.acons (.sl (C := RC) .u8 (cp && (l.drop i).isEmpty) (bs ++ (l.drop i).flatMap wBytes)) .anil)]
def bytesLoop_Inv (cp : Bool) (bs : List UInt8) (c : Bool) (l : List Write) (i : Nat) : Prop := i ≤ l.length ∧ l.length ≤ 1000000 ∧ bs.length ≤ 1000000 + 2 * i ∧ l.all fitW = true
def bytesLoop_S : LoopR RC bytesLoop_St where
  k := 1
  canon q := bytesLoop_c q.cp q.bs q.c q.l q.i
  objs q := bytesLoop_o q.cp q.bs q.c q.l q.i
  fin q := bytesLoop_fin q.cp q.bs q.c q.l q.i
  Inv q := bytesLoop_Inv q.cp q.bs q.c q.l q.i
  μ q := q.l.length - q.i
theorem bytesLoop_round (cp : Bool) (bs : List UInt8) (c : Bool) (l : List Write) (i : Nat) (hI : bytesLoop_Inv cp bs c l i) : Leaf (bytesLoop_r cp bs c l i) (LedR bytesLoop_S ⟨cp, bs, c, l, i⟩) := by
  (rw [bytesLoop_eq]; conv => zeta)
  unfold bytesLoop_Inv at hI
  obtain ⟨h1, h2, h3, h4⟩ := hI
  by_cases hlt : i < l.length
  · have w_succ : IntKind.i64.wrap ((i : Int) + 1) = ((i + 1 : Nat) : Int) := by rw [wrap_id (by omega) (by omega)]; simp
    have d_lt : decide ((i : Int) < l.length) = true := by simp; omega
    have d_in : decide (0 ≤ (i : Int) ∧ (i : Int) < l.length) = true := by simp; omega
    have t_nat : ((i : Int)).toNat = i := by simp
    simp only [w_succ, d_lt, d_in, t_nat, cond_true]
    have hf := all_getD h4 hlt (⟨0, 0⟩ : Write)
    have hd : (l.drop i).flatMap wBytes = _ := flatMap_drop_succ l i wBytes hlt (⟨0, 0⟩ : Write)
    have he : (l.drop i).isEmpty = false := by simp; omega
    generalize l.getD i (⟨0, 0⟩ : Write) = x at hf hd ⊢
    simp only [fitW, Bool.and_eq_true] at hf
    simp only [putL_fits (fits1 hf.1), putL_fits (fits1 hf.2), fits1 hf.1, fits1 hf.2]
    have n1 : decide (bs.length ≤ 1000000000) = true := decide_eq_true (by omega)
    have n2 : decide ((bs ++ leB x.key 1).length ≤ 1000000000) = true := decide_eq_true (by simp [leB_length]; omega)
    simp only [Int.toNat_one, putL_fits (fits1 hf.1), putL_fits (fits1 hf.2), fits1 hf.1, fits1 hf.2, n1, n2, cond_true, Bool.not_true]
    refine leafR_go ⟨false, bs ++ leB x.key 1 ++ leB x.value 1, c, l, i + 1⟩ ⟨hlt, h2, by simp [leB_length]; omega, h4⟩ (by simp only [bytesLoop_S]; omega) ?_ rfl rfl
    simp only [bytesLoop_S, bytesLoop_fin, hd, he, wBytes, leB, RT.val]
    simp
  · have hi : i = l.length := by omega
    have c1 : decide ((i : Int) < l.length) = false := by simp; omega
    rw [c1]
    exact leafR_exit (bytesLoop_o cp bs c l i) (by simp [bytesLoop_S, bytesLoop_fin, bytesLoop_o, hi, RT.val]) rfl
def bytesLoop_d (env : Env RC) (os : List (Obj RC)) : Option (Bool × bytesLoop_St) := match env, os with
  | [(4, .ptr 0 []), (28, .sl .write c l), (29, .int .i64 x0), (30, .int .i64 x1)], [.var 82 (.acons (.sl .u8 cp bs) .anil)] => staticD (true) (decide (x0 = l.length) && decide (x1 = 0) && decide (l.length ≤ 1000000 ∧ bs.length ≤ 1000000) && l.all fitW, ⟨cp, bs, c, l, 0⟩)
  | _, _ => none
noncomputable def uc_1 := ub_3.addLoop 28 11 (sumR s06 [.slot 4 0] [4, 28, 29, 30] bytesLoop_S bytesLoop_d)
theorem uc_1_laws : FLaws Try.prog s06 uc_1 := by
  refine ub_3_laws.addRoundsR s06_laws (by kernel_rfl) bytesLoop_S 40 [4, 28, 29, 30] [] [.slot 4 0] [4, 28, 29, 30] bytesLoop_d (fun q hI => ?_) ?_
  · obtain ⟨cp, bs, c, l, i⟩ := q
    refine ⟨?_, ?_, bytesLoop_round cp bs c l i hI⟩
    · simp_all [RefsOK, bytesLoop_S, bytesLoop_c, bytesLoop_o, bytesLoop_Inv, D.refs, Obj.refs, rEnc]
    · simp_all [bytesLoop_S, bytesLoop_fin, bytesLoop_o, bytesLoop_Inv, RT.refsOK, RefsOK, D.refs, Obj.refs, rEnc]
  · intro env os b q hd_ hb
    unfold bytesLoop_d at hd_
    split at hd_
    · obtain ⟨hs, hd_⟩ := staticD_some hd_
      cases hd_
      simp only [Bool.and_eq_true, decide_eq_true_eq] at hb
      obtain ⟨⟨⟨rfl, rfl⟩, hl⟩, ha⟩ := hb
      exact ⟨⟨Nat.zero_le _, hl.1, Nat.le_trans hl.2 (Nat.le_add_right _ _), ha⟩, rfl, rfl⟩
    · cases hd_
def bytes_s (p : Int) (y : Bool) (c : Bool) (l : List Write) : Option (Bool × D RC) := some (lenOK l.length, .tup (.acons (.sl (C := RC) .u8 (!mayB ⟨p, y, l⟩) (bif mayB ⟨p, y, l⟩ then bytesR ⟨p, y, l⟩ else [])) (.acons (.int .i64 (bif mayB ⟨p, y, l⟩ then 0 else 2)) .anil)))
def bytes_sp : List (D RC) → Option (Bool × D RC)
  | [.acons (.int .i64 p) (.acons (.bool y) (.acons (.sl .write c l) .anil))] => bytes_s p y c l
  | _ => none
noncomputable def bytes_e (p : Int) (y : Bool) (c : Bool) (l : List Write) := evF s06 uc_1 40 28 [.acons (.int .i64 p) (.acons (.bool y) (.acons (.sl (C := RC) .write c l) .anil))]
theorem bytes_eq (p : Int) (y : Bool) (c : Bool) (l : List Write) : bytes_e p y c l = (let Z0 : Nat := List.length l; let Z1 : List UInt8 := putL (putL [] p (3 : Nat)) (bif y then (1 : Int) else (0 : Int)) (1 : Nat); let Z2 : Int := (↑Z0 : Int); bif lenOK Z0 then bif !mayB (Rec.mk p y l) then some (D.tup (D.acons (D.sl RTy.u8 true []) (.acons (D.int .i64 2) .anil))) else bif decide (List.length (putL [] p (3 : Nat)) ≤ (1000000000 : Nat)) then bif lenOK Z0 then bif decide (List.length Z1 ≤ (1000000000 : Nat)) then bif lenOK Z0 then bif decide (Z2 = Z2) && true && decide (Z0 ≤ (1000000 : Nat) ∧ List.length (putL Z1 Z2 (1 : Nat)) ≤ (1000000 : Nat)) && List.all l fitW then some (D.tup (D.acons (D.sl RTy.u8 (!fitsB Z2 (1 : Nat) && List.isEmpty (List.drop (0 : Nat) l)) (putL Z1 Z2 (1 : Nat) ++ List.flatMap wBytes (List.drop (0 : Nat) l))) (.acons (D.int .i64 0) .anil))) else none else none else none else none else none else none) := by kernel_rfl
theorem bytes_ok (p : Int) (y : Bool) (c : Bool) (l : List Write) (h : (lenOK l.length) = true) : bytes_e p y c l = some (.tup (.acons (.sl (C := RC) .u8 (!mayB ⟨p, y, l⟩) (bif mayB ⟨p, y, l⟩ then bytesR ⟨p, y, l⟩ else [])) (.acons (.int .i64 (bif mayB ⟨p, y, l⟩ then 0 else 2)) .anil))) := by
  (rw [bytes_eq]; conv => zeta)
  rw [h]
  cases hm : mayB ⟨p, y, l⟩
  · rfl
  · obtain ⟨hp, hl, hw⟩ := may_facts hm
    have f3 := fits3 (n := p) (by rw [withinB_iff]; omega)
    have f1 : fitsB (l.length : Int) 1 = true := fits1 (by rw [withinB_iff]; omega)
    have fy1 : fitsB 1 1 = true := rfl
    have fy0 : fitsB 0 1 = true := rfl
    have g1 : decide (([] : List UInt8).length ≤ 1000000000) = true := rfl
    have g2 : ∀ b : List UInt8, b.length ≤ 1000 → decide (b.length ≤ 1000000000) = true := fun b hb => decide_eq_true (by omega)
    have g3 : ∀ b : List UInt8, b.length ≤ 1000 → (decide (l.length ≤ 1000000 ∧ b.length ≤ 1000000)) = true := fun b hb => by simp; omega
    cases y <;> simp only [Int.toNat_one, show Int.toNat 3 = 3 from rfl, putL_fits f3, putL_fits f1, putL_fits fy1, putL_fits fy0, f3, f1, fy1, fy0, g1, cond_true, cond_false, Bool.not_true, Bool.not_false]
    · rw [g2 _ (by simp [leB_length]), g2 _ (by simp [leB_length]), g3 _ (by simp [leB_length]), hw]
      simp [bytesR]
    · rw [g2 _ (by simp [leB_length]), g2 _ (by simp [leB_length]), g3 _ (by simp [leB_length]), hw]
      simp [bytesR]
noncomputable def uc_2 := uc_1.addSpec 28 bytes_sp
theorem uc_2_laws : FLaws Try.prog s06 uc_2 := uc_1_laws.addEv s06_laws fun args d h => by
  unfold bytes_sp at h
  split at h
  · unfold bytes_s at h
    have h1 := congrArg Prod.fst (Option.some.inj h)
    obtain rfl : _ = d := congrArg Prod.snd (Option.some.inj h)
    exact ⟨by simp [D.refs], 40, bytes_ok _ _ _ _ h1⟩
  · cases h
open Go.Proofs
theorem drops_step {α : Type} [DecidableEq α] (l m : List α) (i : Nat) (d : α) (hlt : i < l.length) (hlen : l.length = m.length) :
    decide (l.drop i = m.drop i) = (decide (l.getD i d = m.getD i d) && decide (l.drop (i + 1) = m.drop (i + 1))) := by
  have e1 := List.drop_eq_getElem_cons hlt
  have e2 := List.drop_eq_getElem_cons (show i < m.length by omega)
  have h1 : l.getD i d = l[i] := by simp [hlt]
  have h2 : m.getD i d = m[i]'(by omega) := by simp [show i < m.length by omega]
  rw [h1, h2, e1, e2, Bool.eq_iff_iff]
  simp only [List.cons.injEq, decide_eq_true_eq, Bool.and_eq_true]
theorem drops_end {α : Type} [DecidableEq α] (l m : List α) (i : Nat) (h1 : l.length ≤ i) (h2 : m.length ≤ i) : decide (l.drop i = m.drop i) = true := by
  simp [List.drop_eq_nil_of_le h1, List.drop_eq_nil_of_le h2]
theorem beqD {α : Type} [DecidableEq α] [BEq α] [LawfulBEq α] (a b : α) : (a == b) = decide (a = b) := by rw [Bool.eq_iff_iff]; simp
theorem eqWrite (x y : Write) : (x.key == y.key && (x.value == y.value && true)) = decide (x = y) := by
  rw [Bool.eq_iff_iff]; cases x; cases y; simp
theorem putD {n : Int} (h0 : 0 ≤ n) (h1 : n ≤ 9223372036854775807) : IntKind.i64.wrap (n.tdiv 256) = n.fdiv 256 ∧ 0 ≤ n.fdiv 256 ∧ n.fdiv 256 ≤ 9223372036854775807 := by
  obtain ⟨a, b⟩ := fdiv_nonneg h0
  rw [Int.tdiv_eq_ediv_of_nonneg h0, b]
  exact ⟨wrap_id (by omega) (by omega), by omega, by omega⟩
theorem putB {n : Int} (h0 : 0 ≤ n) : UInt8.ofNat (IntKind.u8.wrap (n.tmod 256)).toNat = byteOf n := by
  rw [byteOf, u8_wrap, u8_wrap, Int.tmod_eq_emod_of_nonneg h0, Int.emod_emod_of_dvd _ (by decide)]
theorem leB1 (n : Int) : leB n 1 = [byteOf n] := rfl
theorem leB3 (n : Int) : leB n 3 = [byteOf n, byteOf (n.fdiv 256), byteOf ((n.fdiv 256).fdiv 256)] := rfl
open Go.Proofs
structure fits01_St where
  n : Int
  w : Int
  i : Nat
def fits01_c (n : Int) (w : Int) (i : Nat) : Env RC := [(0, .int .i64 n), (1, .int .i64 w), (5, .int .i64 (i : Int))]
def fits01_o (n : Int) (w : Int) (i : Nat) : List (Obj RC) := []
noncomputable def fits01_r (n : Int) (w : Int) (i : Nat) := rndO s06 uc_2 73 4 40 0 [0, 1, 5] [0] [] (fits01_c n w i) (fits01_o n w i)
theorem fits01_eq (n : Int) (w : Int) (i : Nat) : fits01_r n w i = (bif decide ((↑i : Int) < w) then some ((X.normal, [(0, D.int .i64 (IntKind.wrap .i64 (Int.tdiv n (256 : Int)))), (1, D.int .i64 w), (5, D.int .i64 (IntKind.wrap .i64 ((↑i : Int) + (1 : Int))))]), []) else some ((X.exit (0 : Nat), [(0, D.int .i64 n)]), [])) := by kernel_rfl
def fits01_fin (n : Int) (w : Int) (i : Nat) : RT RC := .leaf (.exit 0) [(0, .int .i64 (n / 256 ^ (w.toNat - i)))] []
def fits01_Inv (n : Int) (w : Int) (i : Nat) : Prop := 0 ≤ n ∧ n ≤ 9223372036854775807 ∧ (i : Int) ≤ w ∧ w ≤ 6
def fits01_S : LoopR RC fits01_St where
  k := 0
  canon q := fits01_c q.n q.w q.i
  objs q := fits01_o q.n q.w q.i
  fin q := fits01_fin q.n q.w q.i
  Inv q := fits01_Inv q.n q.w q.i
  μ q := q.w.toNat - q.i
theorem fits01_round (n : Int) (w : Int) (i : Nat) (hI : fits01_Inv n w i) : Leaf (fits01_r n w i) (LedR fits01_S ⟨n, w, i⟩) := by
  rw [fits01_eq]
  unfold fits01_Inv at hI
  obtain ⟨h1, h2, h3, h4⟩ := hI
  by_cases hlt : (i : Int) < w
  · have w_succ : IntKind.i64.wrap ((i : Int) + 1) = ((i + 1 : Nat) : Int) := by rw [wrap_id (by omega) (by omega)]; simp
    have hd : IntKind.i64.wrap (n.tdiv 256) = n / 256 := by rw [Int.tdiv_eq_ediv_of_nonneg h1]; exact wrap_id (by omega) (by omega)
    simp only [hlt, decide_true, cond_true, w_succ, hd]
    refine leafR_go ⟨n / 256, w, i + 1⟩ (by simp only [fits01_S, fits01_Inv]; omega) (by simp only [fits01_S]; omega) ?_ rfl rfl
    simp only [fits01_S, fits01_fin]
    have : w.toNat - i = (w.toNat - (i + 1)) + 1 := by omega
    rw [this, Int.pow_succ', Int.ediv_ediv_of_nonneg (by omega)]
  · have hi : w.toNat - i = 0 := by omega
    simp only [hlt, decide_false, cond_false]
    exact leafR_exit [] (by simp [fits01_S, fits01_fin, hi, RT.val]) rfl
def fits01_d (env : Env RC) (os : List (Obj RC)) : Option (Bool × fits01_St) := match env, os with
  | [(0, .int .i64 n), (1, .int .i64 w), (5, .int .i64 x0)], [] => staticD (true) (decide (x0 = 0) && decide (0 ≤ n ∧ n ≤ 9223372036854775807 ∧ 0 ≤ w ∧ w ≤ 6), ⟨n, w, 0⟩)
  | _, _ => none
noncomputable def uf_1 := uc_2.addLoop 73 4 (sumR s06 [] [0, 1, 5] fits01_S fits01_d)
theorem uf_1_laws : FLaws Try.prog s06 uf_1 := by
  refine uc_2_laws.addRoundsR s06_laws (by kernel_rfl) fits01_S 40 [0, 1, 5] [0] [] [0, 1, 5] fits01_d (fun q hI => ?_) ?_
  · obtain ⟨n, w, i⟩ := q
    refine ⟨?_, ?_, fits01_round n w i hI⟩
    · simp_all [RefsOK, fits01_S, fits01_c, fits01_o, fits01_Inv, D.refs, Obj.refs, rEnc]
    · simp_all [fits01_S, fits01_fin, fits01_o, fits01_Inv, RT.refsOK, RefsOK, D.refs, Obj.refs, rEnc]
  · intro env os b q hd_ hb
    unfold fits01_d at hd_
    split at hd_
    · obtain ⟨hs, hd_⟩ := staticD_some hd_
      cases hd_
      simp only [Bool.and_eq_true, decide_eq_true_eq] at hb
      obtain ⟨rfl, hq⟩ := hb
      exact ⟨by simp only [fits01_S, fits01_Inv]; omega, rfl, rfl⟩
    · cases hd_
def fits1f_s (n : Int) (w : Int) : Option (Bool × D RC) := some (decide (n ≤ 9223372036854775807 ∧ 1 ≤ w ∧ w ≤ 6) && fitsB n w.toNat, .bool true)
def fits1f_sp : List (D RC) → Option (Bool × D RC)
  | [.int .i64 n, .int .i64 w] => fits1f_s n w
  | _ => none
noncomputable def fits1f_e (n : Int) (w : Int) := evF s06 uf_1 40 73 [.int .i64 n, .int .i64 w]
theorem fits1f_eq (n : Int) (w : Int) : fits1f_e n w = (let Z0 : DO_ := some (D.bool false); bif decide (w < (1 : Int)) then Z0 else bif decide ((6 : Int) < w) then Z0 else bif decide (n < (0 : Int)) then Z0 else bif decide ((0 : Int) ≤ n ∧ n ≤ (9223372036854775807 : Int) ∧ (0 : Int) ≤ w ∧ w ≤ (6 : Int)) then some (D.bool (n / (256 : Int) ^ (Int.toNat w - 0) == (0 : Int))) else none) := by kernel_rfl
theorem fits1f_ok (n : Int) (w : Int) (h : (decide (n ≤ 9223372036854775807 ∧ 1 ≤ w ∧ w ≤ 6) && fitsB n w.toNat) = true) : fits1f_e n w = some (.bool true) := by
  (rw [fits1f_eq]; conv => zeta)
  simp only [Bool.and_eq_true, decide_eq_true_eq] at h
  obtain ⟨⟨hn, hw1, hw6⟩, hf⟩ := h
  have h0 : 0 ≤ n := (fitsB_iff.1 hf).1
  have w1 : ¬ w < 1 := by omega
  have w6 : ¬ 6 < w := by omega
  have n0 : ¬ n < 0 := by omega
  have hc : (0 ≤ n ∧ n ≤ 9223372036854775807 ∧ 0 ≤ w ∧ w ≤ 6) := by omega
  have hp : (0 : Int) < 256 ^ w.toNat := Int.pow_pos (by decide)
  have hz : n / 256 ^ w.toNat = 0 := (Int.ediv_eq_zero_iff_of_pos' h0 hp).2 (fitsB_iff.1 hf).2
  rw [decide_eq_false w1, decide_eq_false w6, decide_eq_false n0, decide_eq_true hc]
  simp only [cond_false, cond_true, Nat.sub_zero, hz]
  rfl
noncomputable def uf_2 := uf_1.addSpec 73 fits1f_sp
theorem uf_2_laws : FLaws Try.prog s06 uf_2 := uf_1_laws.addEv s06_laws fun args d h => by
  unfold fits1f_sp at h
  split at h
  · unfold fits1f_s at h
    have h1 := congrArg Prod.fst (Option.some.inj h)
    obtain rfl : _ = d := congrArg Prod.snd (Option.some.inj h)
    exact ⟨by simp [D.refs], 40, fits1f_ok _ _ h1⟩
  · cases h
structure get01_St where
  c : Bool
  b : List UInt8
  a : Int
  i : Int
  m : Nat
def get01_c (c : Bool) (b : List UInt8) (a : Int) (i : Int) (m : Nat) : Env RC := [(0, .sl (C := RC) .u8 c b), (1, .int .i64 a), (9, .int .i64 i), (8, .int .i64 (m : Int))]
def get01_o (c : Bool) (b : List UInt8) (a : Int) (i : Int) (m : Nat) : List (Obj RC) := []
noncomputable def get01_r (c : Bool) (b : List UInt8) (a : Int) (i : Int) (m : Nat) := rndO s06 uf_2 65 7 40 0 [0, 1, 9, 8] [8] [] (get01_c c b a i m) (get01_o c b a i m)
theorem get01_eq (c : Bool) (b : List UInt8) (a : Int) (i : Int) (m : Nat) : get01_r c b a i m = (let Z0 : Int := IntKind.wrap .i64 (a + i); bif decide ((0 : Int) ≤ i) then bif decide ((0 : Int) ≤ Z0 ∧ Z0 < (↑b.length : Int)) then some ((X.normal, [(0, D.sl RTy.u8 c b), (1, D.int .i64 a), (9, D.int .i64 (IntKind.wrap .i64 (i - (1 : Int)))), (8, D.int .i64 (IntKind.wrap .i64 (IntKind.wrap .i64 ((256 : Int) * (↑m : Int)) + IntKind.wrap .i64 (↑(UInt8.toNat (List.getD b Z0.toNat (UInt8.ofBitVec (BitVec.ofNat (8 : Nat) (nat_lit 0))))) : Int))))]), []) else none else some ((X.exit (0 : Nat), [(8, D.int .i64 (↑m : Int))]), [])) := by kernel_rfl
def get01_fin (c : Bool) (b : List UInt8) (a : Int) (i : Int) (m : Nat) : RT RC := .leaf (.exit 0) [(8, .int .i64 ((m * 256 ^ (i + 1).toNat + leVal ((b.drop a.toNat).take (i + 1).toNat) : Nat) : Int))] []
def get01_Inv (c : Bool) (b : List UInt8) (a : Int) (i : Int) (m : Nat) : Prop := -1 ≤ i ∧ i ≤ 5 ∧ 0 ≤ a ∧ a + i + 1 ≤ b.length ∧ b.length ≤ 1000000000000 ∧ m < 256 ^ (5 - i).toNat
def get01_S : LoopR RC get01_St where
  k := 0
  canon q := get01_c q.c q.b q.a q.i q.m
  objs q := get01_o q.c q.b q.a q.i q.m
  fin q := get01_fin q.c q.b q.a q.i q.m
  Inv q := get01_Inv q.c q.b q.a q.i q.m
  μ q := (q.i + 1).toNat
theorem get01_round (c : Bool) (b : List UInt8) (a : Int) (i : Int) (m : Nat) (hI : get01_Inv c b a i m) : Leaf (get01_r c b a i m) (LedR get01_S ⟨c, b, a, i, m⟩) := by
  (rw [get01_eq]; conv => zeta)
  unfold get01_Inv at hI
  obtain ⟨h1, h2, h3, h4, h5, h6⟩ := hI
  by_cases hlt : 0 ≤ i
  · have w1 : IntKind.i64.wrap (a + i) = a + i := wrap_id (by omega) (by omega)
    have w2 : IntKind.i64.wrap (i - 1) = i - 1 := wrap_id (by omega) (by omega)
    have d1 : decide (0 ≤ a + i ∧ a + i < b.length) = true := by simp; omega
    have hm : m < 256 ^ 5 := Nat.lt_of_lt_of_le h6 (Nat.pow_le_pow_right (by omega) (by omega))
    have hx := (b.getD (a + i).toNat ⟨0#8⟩).toNat_lt
    have w3 : IntKind.i64.wrap (256 * (m : Int)) = ((256 * m : Nat) : Int) := by rw [wrap_id (by omega) (by omega)]; simp
    have w4 : IntKind.i64.wrap (((256 * m : Nat) : Int) + ((b.getD (a + i).toNat ⟨0#8⟩).toNat : Int)) = ((256 * m + (b.getD (a + i).toNat ⟨0#8⟩).toNat : Nat) : Int) := by
      rw [wrap_id (by omega) (by omega)]; simp
    simp only [hlt, decide_true, cond_true, w1, w2, d1, w3, u8_i64, w4]
    have hk : (5 - (i - 1)).toNat = (5 - i).toNat + 1 := by omega
    have hI' : get01_Inv c b a (i - 1) (256 * m + (b.getD (a + i).toNat ⟨0#8⟩).toNat) := ⟨by omega, by omega, h3, by omega, h5, by rw [hk, Nat.pow_succ]; omega⟩
    refine leafR_go ⟨c, b, a, i - 1, 256 * m + (b.getD (a + i).toNat ⟨0#8⟩).toNat⟩ hI' (by simp only [get01_S]; omega) ?_ rfl rfl
    · simp only [get01_S, get01_fin]
      obtain ⟨k, rfl⟩ : ∃ k : Nat, i = k := ⟨i.toNat, by omega⟩
      obtain ⟨p, rfl⟩ : ∃ p : Nat, a = p := ⟨a.toNat, by omega⟩
      have e1 : ((k : Int) - 1 + 1).toNat = k := by omega
      have e2 : ((k : Int) + 1).toNat = k + 1 := by omega
      have e3 : ((p : Int) + (k : Int)).toNat = p + k := by omega
      have e4 : ((p : Int)).toNat = p := by omega
      rw [e1, e2, e3, e4]
      have hl : ((b.drop p).take k).length = k := by simp; omega
      have hg : (b.drop p)[k]? = some (b.getD (p + k) ⟨0#8⟩) := by
        simp [List.getElem?_drop, show p + k < b.length by omega]
      rw [List.take_add_one, leVal_append, hl, hg]
      simp only [Option.toList_some, leVal]
      have : (256 * m + (b.getD (p + k) ⟨0#8⟩).toNat) * 256 ^ k + leVal ((b.drop p).take k) = m * 256 ^ (k + 1) + (leVal ((b.drop p).take k) + 256 ^ k * ((b.getD (p + k) ⟨0#8⟩).toNat + 256 * 0)) := by
        rw [Nat.pow_succ, Nat.add_mul, Nat.mul_comm 256 m, Nat.mul_assoc, Nat.mul_comm 256 (256 ^ k), Nat.mul_comm (b.getD (p + k) ⟨0#8⟩).toNat]; simp; omega
      rw [this]
  · have e0 : (i + 1).toNat = 0 := by omega
    simp only [hlt, decide_false, cond_false]
    exact leafR_exit [] (by simp [get01_S, get01_fin, e0, RT.val, leVal]) rfl
def get01_d (env : Env RC) (os : List (Obj RC)) : Option (Bool × get01_St) := match env, os with
  | [(0, .sl .u8 c b), (1, .int .i64 a), (9, .int .i64 i), (8, .int .i64 x0)], [] => staticD (true) (decide (x0 = 0) && decide (-1 ≤ i ∧ i ≤ 5 ∧ 0 ≤ a ∧ a + i + 1 ≤ b.length ∧ b.length ≤ 1000000000000), ⟨c, b, a, i, 0⟩)
  | _, _ => none
noncomputable def uf_3 := uf_2.addLoop 65 7 (sumR s06 [] [0, 1, 9, 8] get01_S get01_d)
theorem uf_3_laws : FLaws Try.prog s06 uf_3 := by
  refine uf_2_laws.addRoundsR s06_laws (by kernel_rfl) get01_S 40 [0, 1, 9, 8] [8] [] [0, 1, 9, 8] get01_d (fun q hI => ?_) ?_
  · obtain ⟨c, b, a, i, m⟩ := q
    refine ⟨?_, ?_, get01_round c b a i m hI⟩
    · simp_all [RefsOK, get01_S, get01_c, get01_o, get01_Inv, D.refs, Obj.refs, rEnc]
    · simp_all [get01_S, get01_fin, get01_o, get01_Inv, RT.refsOK, RefsOK, D.refs, Obj.refs, rEnc]
  · intro env os b q hd_ hb
    unfold get01_d at hd_
    split at hd_
    · obtain ⟨hs, hd_⟩ := staticD_some hd_
      cases hd_
      simp only [Bool.and_eq_true, decide_eq_true_eq] at hb
      obtain ⟨rfl, h⟩ := hb
      exact ⟨⟨h.1, h.2.1, h.2.2.1, h.2.2.2.1, h.2.2.2.2, Nat.pow_pos (by omega)⟩, rfl, rfl⟩
    · cases hd_
def get1f_s (c : Bool) (b : List UInt8) (a : Int) (w : Int) : Option (Bool × D RC) := some (decide (b.length ≤ 1000000000000), .tup (.acons (.int .i64 (getP b a w).1) (.acons (.int .i64 (getP b a w).2) .anil)))
def get1f_sp : List (D RC) → Option (Bool × D RC)
  | [.sl .u8 c b, .int .i64 a, .int .i64 w] => get1f_s c b a w
  | _ => none
noncomputable def get1f_e (c : Bool) (b : List UInt8) (a : Int) (w : Int) := evF s06 uf_3 40 65 [.sl (C := RC) .u8 c b, .int .i64 a, .int .i64 w]
theorem get1f_eq (c : Bool) (b : List UInt8) (a : Int) (w : Int) : get1f_e c b a w = (let Z0 : D RC := D.int .i64 0; let Z1 : DO_ := some (D.tup (D.acons Z0 (D.acons (D.int .i64 2) .anil))); let Z2 : DO_ := some (D.tup (D.acons Z0 (D.acons (D.int .i64 50) .anil))); let Z3 : Nat := List.length b; let Z4 : Int := (↑Z3 : Int); let Z5 : Int := IntKind.wrap .i64 (w - (1 : Int)); let Z6 : Nat := Int.toNat (Z5 + (1 : Int)); bif decide (w < (1 : Int)) then Z1 else bif decide ((6 : Int) < w) then Z1 else bif decide (a < (0 : Int)) then Z2 else bif lenOK Z3 then bif decide (Z4 < a) then Z2 else bif lenOK Z3 then bif decide (IntKind.wrap .i64 (Z4 - a) < w) then Z2 else bif decide ((-1 : Int) ≤ Z5 ∧ Z5 ≤ (5 : Int) ∧ (0 : Int) ≤ a ∧ a + Z5 + (1 : Int) ≤ Z4 ∧ Z3 ≤ (1000000000000 : Nat)) then some (D.tup (D.acons (D.int .i64 (↑((0 : Nat) * (256 : Nat) ^ Z6 + leVal (List.take Z6 (List.drop a.toNat b))) : Int)) (.acons Z0 .anil))) else none else none else none) := by kernel_rfl
theorem get1f_ok (c : Bool) (b : List UInt8) (a : Int) (w : Int) (h : (decide (b.length ≤ 1000000000000)) = true) : get1f_e c b a w = some (.tup (.acons (.int .i64 (getP b a w).1) (.acons (.int .i64 (getP b a w).2) .anil))) := by
  (rw [get1f_eq]; conv => zeta)
  have hl := of_decide_eq_true h
  have hl' : lenOK b.length = true := lenOK_of (by omega)
  simp only [hl']
  by_cases hw : 1 ≤ w ∧ w ≤ 6
  · have w1 : decide (w < 1) = false := by simp; omega
    have w2 : decide (6 < w) = false := by simp; omega
    have w3 : (decide (1 ≤ w) && decide (w ≤ 6)) = true := by simp; omega
    have w4 : IntKind.i64.wrap (w - 1) = w - 1 := wrap_id (by omega) (by omega)
    simp only [w1, w2, cond_false, cond_true, getP, w3, w4]
    by_cases ha : 0 ≤ a ∧ a + w ≤ b.length
    · have a1 : decide (a < 0) = false := by simp; omega
      have a2 : decide ((b.length : Int) < a) = false := by simp; omega
      have e1 : IntKind.i64.wrap ((b.length : Int) - a) = b.length - a := wrap_id (by omega) (by omega)
      have a3 : decide ((b.length : Int) - a < w) = false := by simp; omega
      have a5 : (decide (0 ≤ a) && decide (a + w ≤ (b.length : Int))) = true := by simp; omega
      have a6 : decide (-1 ≤ w - 1 ∧ w - 1 ≤ 5 ∧ 0 ≤ a ∧ a + (w - 1) + 1 ≤ (b.length : Int) ∧ b.length ≤ 1000000000000) = true := by simp; omega
      have e2 : (w - 1 + 1).toNat = w.toNat := by omega
      simp [a1, a2, e1, a3, a5, a6, e2]
    · have a5 : (decide (0 ≤ a) && decide (a + w ≤ (b.length : Int))) = false := by simp; omega
      simp only [a5, cond_false]
      by_cases a1 : a < 0
      · simp [a1]
      · by_cases a2 : (b.length : Int) < a
        · simp [a1, a2]
        · have e1 : IntKind.i64.wrap ((b.length : Int) - a) = b.length - a := wrap_id (by omega) (by omega)
          have a3 : decide ((b.length : Int) - a < w) = true := by simp; omega
          simp [a1, a2, e1, a3]
  · have w3 : (decide (1 ≤ w) && decide (w ≤ 6)) = false := by simp; omega
    simp only [getP, w3]
    by_cases w1 : w < 1
    · simp [w1]
    · have w2 : 6 < w := by omega
      simp [w1, w2]
noncomputable def uf_4 := uf_3.addSpec 65 get1f_sp
theorem uf_4_laws : FLaws Try.prog s06 uf_4 := uf_3_laws.addEv s06_laws fun args d h => by
  unfold get1f_sp at h
  split at h
  · unfold get1f_s at h
    have h1 := congrArg Prod.fst (Option.some.inj h)
    obtain rfl : _ = d := congrArg Prod.snd (Option.some.inj h)
    exact ⟨by simp [D.refs], 40, get1f_ok _ _ _ _ h1⟩
  · cases h
open Go.Proofs
structure writtenR_St where
  c : Bool
  l : List Write
  i : Nat
def writtenR_c (c : Bool) (l : List Write) (i : Nat) : Env RC := [(0, .sl (C := RC) .write c l), (2, .bool false), (3, .int .i64 (i : Int))]
def writtenR_o (c : Bool) (l : List Write) (i : Nat) : List (Obj RC) := []
noncomputable def writtenR_r (c : Bool) (l : List Write) (i : Nat) := rndO s06 uf_4 48 4 40 0 [0, 2, 3] [2] [] (writtenR_c c l i) (writtenR_o c l i)
theorem writtenR_eq (c : Bool) (l : List Write) (i : Nat) : writtenR_r c l i = (let Z0 : Int := (↑i : Int); let Z1 : Int := (↑l.length : Int); let Z2 : Bool := decide ((0 : Int) ≤ Z0 ∧ Z0 < Z1); let Z3 : Write := Write.mk (0 : Int) (0 : Int); let Z4 : Write := List.getD l Z0.toNat Z3; let Z5 : Int := Write.key Z4; let Z6 : RO_ := some ((X.ret, [(2, D.bool false)]), []); let Z7 : Int := IntKind.wrap .i64 (Z0 - (1 : Int)); let Z8 : RO_ := some ((X.normal, [(0, D.sl RTy.write c l), (2, D.bool false), (3, D.int .i64 (IntKind.wrap .i64 (Z0 + (1 : Int))))]), []); bif lenOK l.length then bif decide (Z0 < Z1) then bif Z2 then bif decide (Z5 < (0 : Int)) then Z6 else bif Z2 then bif decide ((24 : Int) ≤ Z5) then Z6 else bif Z2 then bif decide (Write.value Z4 < (0 : Int)) then Z6 else bif Z2 then bif decide ((255 : Int) < Write.value Z4) then Z6 else bif decide ((0 : Int) < Z0) then bif Z2 then bif decide ((0 : Int) ≤ Z7 ∧ Z7 < Z1) then bif decide (Z5 ≤ Write.key (List.getD l Z7.toNat Z3)) then Z6 else Z8 else none else none else Z8 else none else none else none else none else some ((X.exit (0 : Nat), [(2, D.bool false)]), []) else none) := by kernel_rfl
def writtenR_fin (c : Bool) (l : List Write) (i : Nat) : RT RC := .br (eachAt oneWB twoWB l i) (.leaf (.exit 0) [(2, .bool false)] []) (.leaf .ret [(2, .bool false)] [])
def writtenR_Inv (c : Bool) (l : List Write) (i : Nat) : Prop := i ≤ l.length ∧ l.length ≤ 9223372036854775807
def writtenR_S : LoopR RC writtenR_St where
  k := 0
  canon q := writtenR_c q.c q.l q.i
  objs q := writtenR_o q.c q.l q.i
  fin q := writtenR_fin q.c q.l q.i
  Inv q := writtenR_Inv q.c q.l q.i
  μ q := q.l.length - q.i
theorem writtenR_round (c : Bool) (l : List Write) (i : Nat) (hI : writtenR_Inv c l i) : Leaf (writtenR_r c l i) (LedR writtenR_S ⟨c, l, i⟩) := by
  (rw [writtenR_eq]; conv => zeta)
  unfold writtenR_Inv at hI
  obtain ⟨h1, h2⟩ := hI
  have hlk := lenOK_of h2
  by_cases hlt : i < l.length
  · have w_succ : IntKind.i64.wrap ((i : Int) + 1) = ((i + 1 : Nat) : Int) := by rw [wrap_id (by omega) (by omega)]; simp
    have d_lt : decide ((i : Int) < l.length) = true := by simp; omega
    have d_in : decide (0 ≤ (i : Int) ∧ (i : Int) < l.length) = true := by simp; omega
    have t_nat : ((i : Int)).toNat = i := by simp
    have w_pred : IntKind.i64.wrap ((i : Int) - 1) = (i : Int) - 1 := wrap_id (by omega) (by omega)
    have t_natp : ((i : Int) - 1).toNat = i - 1 := by omega
    simp only [w_succ, d_lt, d_in, t_nat, w_pred, t_natp, cond_true]
    simp only [hlk, cond_true]
    have hst := eachAt_step oneWB twoWB l i (⟨0, 0⟩ : Write) hlt
    generalize l.getD i (⟨0, 0⟩ : Write) = x at hst ⊢
    generalize l.getD (i - 1) (⟨0, 0⟩ : Write) = y at hst ⊢
    have hgo : oneWB x = true → (i = 0 ∨ twoWB y x = true) → Leaf (some ((X.normal, writtenR_c c l (i + 1)), [])) (LedR writtenR_S ⟨c, l, i⟩) := fun a b =>
      leafR_go ⟨c, l, i + 1⟩ ⟨hlt, h2⟩ (by simp only [writtenR_S]; omega) (by simp only [writtenR_S, writtenR_fin, hst, a]; rcases b with b | b <;> simp [b]) rfl rfl
    have hno : ¬ (oneWB x = true ∧ (i = 0 ∨ twoWB y x = true)) → Leaf (some ((X.ret, [(2, D.bool false)]), [])) (LedR writtenR_S ⟨c, l, i⟩) := fun he => leafR_ret [] (by
      have : eachAt oneWB twoWB l i = false := by rw [hst]; simp only [Bool.and_eq_false_iff]; by_cases a : oneWB x = true <;> by_cases b : i = 0 <;> simp_all
      simp [writtenR_S, writtenR_fin, this, RT.val]) rfl
    simp only [oneWB, twoWB, withinB, Bool.and_eq_true, decide_eq_true_eq] at hgo hno
    by_cases hi : i = 0
    · have d0 : decide (0 < (i : Int)) = false := by simp; omega
      simp only [d0, cond_false]
      repeat' (first | (refine leaf_cond.2 ⟨fun hc_ => ?_, fun hc_ => ?_⟩ <;> simp only [decide_eq_true_eq, decide_eq_false_iff_not, beq_iff_eq, beq_eq_false_iff_ne, bne_iff_ne, ne_eq, Bool.not_eq_true, Bool.not_eq_false, bne_eq_false_iff_eq, decide_eq_decide, Bool.true_eq_false, Bool.false_eq_true] at hc_))
      all_goals first | (exfalso; omega) | exact hno (by omega) | (apply hgo <;> omega)
    · have d_pos : decide (0 < (i : Int)) = true := by simp; omega
      have d_inp : decide (0 ≤ (i : Int) - 1 ∧ (i : Int) - 1 < l.length) = true := by simp; omega
      simp only [d_pos, d_inp, cond_true]
      repeat' (first | (refine leaf_cond.2 ⟨fun hc_ => ?_, fun hc_ => ?_⟩ <;> simp only [decide_eq_true_eq, decide_eq_false_iff_not, beq_iff_eq, beq_eq_false_iff_ne, bne_iff_ne, ne_eq, Bool.not_eq_true, Bool.not_eq_false, bne_eq_false_iff_eq, decide_eq_decide, Bool.true_eq_false, Bool.false_eq_true] at hc_))
      all_goals first | (exfalso; omega) | exact hno (by omega) | (apply hgo <;> omega)
  · have hi : i = l.length := by omega
    have c1 : decide ((i : Int) < l.length) = false := by simp; omega
    simp only [hlk, c1, cond_true, cond_false]
    exact leafR_exit [] (by simp [writtenR_S, writtenR_fin, hi, eachAt, eachB, RT.val]) rfl
def writtenR_d (env : Env RC) (os : List (Obj RC)) : Option (Bool × writtenR_St) := match env, os with
  | [(0, .sl .write c l), (2, .bool false), (3, .int .i64 x0)], [] => staticD (true) (decide (x0 = 0) && decide (l.length ≤ 9223372036854775807), ⟨c, l, 0⟩)
  | _, _ => none
noncomputable def ug_1 := uf_4.addLoop 48 4 (sumR s06 [] [0, 2, 3] writtenR_S writtenR_d)
theorem ug_1_laws : FLaws Try.prog s06 ug_1 := by
  refine uf_4_laws.addRoundsR s06_laws (by kernel_rfl) writtenR_S 40 [0, 2, 3] [2] [] [0, 2, 3] writtenR_d (fun q hI => ?_) ?_
  · obtain ⟨c, l, i⟩ := q
    refine ⟨?_, ?_, writtenR_round c l i hI⟩
    · simp_all [RefsOK, writtenR_S, writtenR_c, writtenR_o, writtenR_Inv, D.refs, Obj.refs, rEnc]
    · simp_all [writtenR_S, writtenR_fin, writtenR_o, writtenR_Inv, RT.refsOK, RefsOK, D.refs, Obj.refs, rEnc]
  · intro env os b q hd_ hb
    unfold writtenR_d at hd_
    split at hd_
    · obtain ⟨hs, hd_⟩ := staticD_some hd_
      cases hd_
      simp only [Bool.and_eq_true, decide_eq_true_eq] at hb
      obtain ⟨rfl, hl⟩ := hb
      exact ⟨⟨Nat.zero_le _, hl⟩, rfl, rfl⟩
    · cases hd_
def writtenRf_s (c : Bool) (l : List Write) : Option (Bool × D RC) := some (lenOK l.length, .bool (writtenL l))
def writtenRf_sp : List (D RC) → Option (Bool × D RC)
  | [.sl .write c l] => writtenRf_s c l
  | _ => none
noncomputable def writtenRf_e (c : Bool) (l : List Write) := evF s06 ug_1 40 48 [.sl (C := RC) .write c l]
theorem writtenRf_eq (c : Bool) (l : List Write) : writtenRf_e c l = (let Z0 : Nat := List.length l; bif lenOK Z0 then bif decide ((4 : Int) < (↑Z0 : Int)) then some (D.bool false) else bif decide (Z0 ≤ (9223372036854775807 : Nat)) then bif eachAt oneWB twoWB l (0 : Nat) then some (D.bool true) else some (D.bool false) else none else none) := by kernel_rfl
theorem writtenRf_ok (c : Bool) (l : List Write) (h : (lenOK l.length) = true) : writtenRf_e c l = some (.bool (writtenL l)) := by
  (rw [writtenRf_eq]; conv => zeta)
  have h2 : l.length ≤ 9223372036854775807 := lenOK_le h
  rw [writtenL, h]
  by_cases h4 : l.length ≤ 4
  · have : ¬ (4 : Int) < l.length := by omega
    simp [h4, h2, this]
    cases eachAt oneWB twoWB l 0 <;> rfl
  · have : (4 : Int) < l.length := by omega
    simp [h4, this]
noncomputable def ug_2 := ug_1.addSpec 48 writtenRf_sp
theorem ug_2_laws : FLaws Try.prog s06 ug_2 := ug_1_laws.addEv s06_laws fun args d h => by
  unfold writtenRf_sp at h
  split at h
  · unfold writtenRf_s at h
    have h1 := congrArg Prod.fst (Option.some.inj h)
    obtain rfl : _ = d := congrArg Prod.snd (Option.some.inj h)
    exact ⟨by simp [D.refs], 40, writtenRf_ok _ _ h1⟩
  · cases h
def mayR_s (p : Int) (y : Bool) (c : Bool) (l : List Write) : Option (Bool × D RC) := some (lenOK l.length, .bool (mayB ⟨p, y, l⟩))
def mayR_sp : List (D RC) → Option (Bool × D RC)
  | [.acons (.int .i64 p) (.acons (.bool y) (.acons (.sl .write c l) .anil))] => mayR_s p y c l
  | _ => none
noncomputable def mayR_e (p : Int) (y : Bool) (c : Bool) (l : List Write) := evF s06 ug_2 40 25 [.acons (.int .i64 p) (.acons (.bool y) (.acons (.sl (C := RC) .write c l) .anil))]
theorem mayR_eq (p : Int) (y : Bool) (c : Bool) (l : List Write) : mayR_e p y c l = (let Z0 : Bool := lenOK l.length; let Z1 : DO_ := some (D.bool false); bif decide ((1 : Int) ≤ p) then bif decide (p ≤ (1048575 : Int)) then bif Z0 then bif writtenL l then bif y then some (D.bool true) else bif Z0 then some (D.bool ((↑l.length : Int) == (0 : Int))) else none else Z1 else none else Z1 else Z1) := by kernel_rfl
theorem mayR_ok (p : Int) (y : Bool) (c : Bool) (l : List Write) (h : (lenOK l.length) = true) : mayR_e p y c l = some (.bool (mayB ⟨p, y, l⟩)) := by
  (rw [mayR_eq]; conv => zeta)
  have h3 : (((l.length : Nat) : Int) = 0) ↔ l.length = 0 := by omega
  simp only [mayB, h, withinB]
  cases decide (1 ≤ p) <;> cases decide (p ≤ 1048575) <;> cases writtenL l <;> cases y <;> simp [h3]
  cases l <;> simp
  omega
noncomputable def ug_3 := ug_2.addSpec 25 mayR_sp
theorem ug_3_laws : FLaws Try.prog s06 ug_3 := ug_2_laws.addEv s06_laws fun args d h => by
  unfold mayR_sp at h
  split at h
  · unfold mayR_s at h
    have h1 := congrArg Prod.fst (Option.some.inj h)
    obtain rfl : _ = d := congrArg Prod.snd (Option.some.inj h)
    exact ⟨by simp [D.refs], 40, mayR_ok _ _ _ _ h1⟩
  · cases h
open Go.Proofs
structure sameRl_St where
  p : Int
  y : Bool
  c : Bool
  l : List Write
  q : Int
  z : Bool
  d : Bool
  m : List Write
  i : Nat
def sameRl_c (p : Int) (y : Bool) (c : Bool) (l : List Write) (q : Int) (z : Bool) (d : Bool) (m : List Write) (i : Nat) : Env RC := [(2, .ptr 0 []), (3, .ptr 1 []), (4, .bool false), (5, .int .i64 (i : Int))]
def sameRl_o (p : Int) (y : Bool) (c : Bool) (l : List Write) (q : Int) (z : Bool) (d : Bool) (m : List Write) (i : Nat) : List (Obj RC) := [.var 27 (.acons (.int .i64 p) (.acons (.bool y) (.acons (.sl (C := RC) .write c l) .anil))), .var 27 (.acons (.int .i64 q) (.acons (.bool z) (.acons (.sl (C := RC) .write d m) .anil)))]
noncomputable def sameRl_r (p : Int) (y : Bool) (c : Bool) (l : List Write) (q : Int) (z : Bool) (d : Bool) (m : List Write) (i : Nat) := rndO s06 ug_3 21 4 40 2 [2, 3, 4, 5] [4] [.slot 2 0, .slot 3 0] (sameRl_c p y c l q z d m i) (sameRl_o p y c l q z d m i)
theorem sameRl_eq (p : Int) (y : Bool) (c : Bool) (l : List Write) (q : Int) (z : Bool) (d : Bool) (m : List Write) (i : Nat) : sameRl_r p y c l q z d m i = (let Z0 : Int := (↑i : Int); let Z1 : Write := Write.mk (0 : Int) (0 : Int); let Z2 : Write := List.getD l Z0.toNat Z1; let Z3 : Write := List.getD m Z0.toNat Z1; let Z4 : List (Option (Obj RC)) := [some (Obj.var 27 (.acons (D.int .i64 p) (.acons (D.bool y) (.acons (D.sl RTy.write c l) .anil)))), some (Obj.var 27 (.acons (D.int .i64 q) (.acons (D.bool z) (.acons (D.sl RTy.write d m) .anil))))]; bif lenOK l.length then bif decide (Z0 < (↑l.length : Int)) then bif decide ((0 : Int) ≤ Z0 ∧ Z0 < (↑l.length : Int)) then bif decide ((0 : Int) ≤ Z0 ∧ Z0 < (↑m.length : Int)) then bif !(Write.key Z2 == Write.key Z3 && (Write.value Z2 == Write.value Z3 && true)) then some ((X.ret, [(4, D.bool false)]), Z4) else some ((X.normal, [(2, D.ptr 0 []), (3, D.ptr 1 []), (4, D.bool false), (5, D.int .i64 (IntKind.wrap .i64 (Z0 + (1 : Int))))]), Z4) else none else none else some ((X.exit (0 : Nat), [(4, D.bool false)]), Z4) else none) := by kernel_rfl
def sameRl_fin (p : Int) (y : Bool) (c : Bool) (l : List Write) (q : Int) (z : Bool) (d : Bool) (m : List Write) (i : Nat) : RT RC := .br (decide (l.drop i = m.drop i)) (.leaf (.exit 0) [(4, .bool false)] (sameRl_o p y c l q z d m i)) (.leaf .ret [(4, .bool false)] (sameRl_o p y c l q z d m i))
def sameRl_Inv (p : Int) (y : Bool) (c : Bool) (l : List Write) (q : Int) (z : Bool) (d : Bool) (m : List Write) (i : Nat) : Prop := i ≤ l.length ∧ l.length ≤ 9223372036854775807 ∧ l.length = m.length
def sameRl_S : LoopR RC sameRl_St where
  k := 2
  canon q := sameRl_c q.p q.y q.c q.l q.q q.z q.d q.m q.i
  objs q := sameRl_o q.p q.y q.c q.l q.q q.z q.d q.m q.i
  fin q := sameRl_fin q.p q.y q.c q.l q.q q.z q.d q.m q.i
  Inv q := sameRl_Inv q.p q.y q.c q.l q.q q.z q.d q.m q.i
  μ q := q.l.length - q.i
theorem sameRl_round (p : Int) (y : Bool) (c : Bool) (l : List Write) (q : Int) (z : Bool) (d : Bool) (m : List Write) (i : Nat) (hI : sameRl_Inv p y c l q z d m i) : Leaf (sameRl_r p y c l q z d m i) (LedR sameRl_S ⟨p, y, c, l, q, z, d, m, i⟩) := by
  (rw [sameRl_eq]; conv => zeta)
  unfold sameRl_Inv at hI
  obtain ⟨h1, h2, h3⟩ := hI
  have hlk := lenOK_of h2
  by_cases hlt : i < l.length
  · have w_succ : IntKind.i64.wrap ((i : Int) + 1) = ((i + 1 : Nat) : Int) := by rw [wrap_id (by omega) (by omega)]; simp
    have d_lt : decide ((i : Int) < l.length) = true := by simp; omega
    have d_in : decide (0 ≤ (i : Int) ∧ (i : Int) < l.length) = true := by simp; omega
    have t_nat : ((i : Int)).toNat = i := by simp
    simp only [w_succ, d_lt, d_in, t_nat, cond_true]
    have hlt' : i < m.length := by omega
    have d_in' : decide (0 ≤ (i : Int) ∧ (i : Int) < m.length) = true := by simp; omega
    have hst := drops_step l m i (⟨0, 0⟩ : Write) hlt h3
    simp only [d_in', cond_true, hlk, eqWrite]
    generalize l.getD i (⟨0, 0⟩ : Write) = x at hst ⊢
    generalize m.getD i (⟨0, 0⟩ : Write) = w at hst ⊢
    by_cases hxy : x = w
    · simp only [hxy, decide_true, Bool.not_true, cond_false]
      exact leafR_go ⟨p, y, c, l, q, z, d, m, i + 1⟩ ⟨hlt, h2, h3⟩ (by simp only [sameRl_S]; omega) (by simp only [sameRl_S, sameRl_fin, sameRl_o, hst, hxy, decide_true, Bool.true_and]) rfl rfl
    · simp only [hxy, decide_false, Bool.not_false, cond_true]
      exact leafR_ret (sameRl_o p y c l q z d m i) (by simp [sameRl_S, sameRl_fin, hst, hxy, RT.val]) rfl
  · have hi : i = l.length := by omega
    have c1 : decide ((i : Int) < l.length) = false := by simp; omega
    simp only [hlk, cond_true, c1, cond_false]
    exact leafR_exit (sameRl_o p y c l q z d m i) (by simp only [sameRl_S, sameRl_fin, drops_end l m i (by omega) (by omega), RT.val, cond_true]) rfl
def sameRl_d (env : Env RC) (os : List (Obj RC)) : Option (Bool × sameRl_St) := match env, os with
  | [(2, .ptr 0 []), (3, .ptr 1 []), (4, .bool false), (5, .int .i64 x0)], [.var 27 (.acons (.int .i64 p) (.acons (.bool y) (.acons (.sl .write c l) .anil))), .var 27 (.acons (.int .i64 q) (.acons (.bool z) (.acons (.sl .write d m) .anil)))] => staticD (true) (decide (x0 = 0) && decide (l.length ≤ 9223372036854775807 ∧ l.length = m.length), ⟨p, y, c, l, q, z, d, m, 0⟩)
  | _, _ => none
noncomputable def uh_1 := ug_3.addLoop 21 4 (sumR s06 [.slot 2 0, .slot 3 0] [2, 3, 4, 5] sameRl_S sameRl_d)
theorem uh_1_laws : FLaws Try.prog s06 uh_1 := by
  refine ug_3_laws.addRoundsR s06_laws (by kernel_rfl) sameRl_S 40 [2, 3, 4, 5] [4] [.slot 2 0, .slot 3 0] [2, 3, 4, 5] sameRl_d (fun q hI => ?_) ?_
  · obtain ⟨p, y, c, l, q, z, d, m, i⟩ := q
    refine ⟨?_, ?_, sameRl_round p y c l q z d m i hI⟩
    · simp_all [RefsOK, sameRl_S, sameRl_c, sameRl_o, sameRl_Inv, D.refs, Obj.refs, rEnc]
    · simp_all [sameRl_S, sameRl_fin, sameRl_o, sameRl_Inv, RT.refsOK, RefsOK, D.refs, Obj.refs, rEnc]
  · intro env os b q hd_ hb
    unfold sameRl_d at hd_
    split at hd_
    · obtain ⟨hs, hd_⟩ := staticD_some hd_
      cases hd_
      simp only [Bool.and_eq_true, decide_eq_true_eq] at hb
      obtain ⟨rfl, hl⟩ := hb
      exact ⟨⟨Nat.zero_le _, hl.1, hl.2⟩, rfl, rfl⟩
    · cases hd_
def sameR_s (p : Int) (y : Bool) (c : Bool) (l : List Write) (q : Int) (z : Bool) (d : Bool) (m : List Write) : Option (Bool × D RC) := some (lenOK l.length && lenOK m.length, .bool (decide ((⟨p, y, l⟩ : Rec) = ⟨q, z, m⟩)))
def sameR_sp : List (D RC) → Option (Bool × D RC)
  | [.acons (.int .i64 p) (.acons (.bool y) (.acons (.sl .write c l) .anil)), .acons (.int .i64 q) (.acons (.bool z) (.acons (.sl .write d m) .anil))] => sameR_s p y c l q z d m
  | _ => none
noncomputable def sameR_e (p : Int) (y : Bool) (c : Bool) (l : List Write) (q : Int) (z : Bool) (d : Bool) (m : List Write) := evF s06 uh_1 40 21 [.acons (.int .i64 p) (.acons (.bool y) (.acons (.sl (C := RC) .write c l) .anil)), .acons (.int .i64 q) (.acons (.bool z) (.acons (.sl (C := RC) .write d m) .anil))]
theorem sameR_eq (p : Int) (y : Bool) (c : Bool) (l : List Write) (q : Int) (z : Bool) (d : Bool) (m : List Write) : sameR_e p y c l q z d m = (let Z0 : DO_ := some (D.bool false); let Z1 : Nat := List.length l; let Z2 : Nat := List.length m; bif p != q then Z0 else bif !y == z then Z0 else bif lenOK Z1 then bif lenOK Z2 then bif (↑Z1 : Int) != (↑Z2 : Int) then Z0 else bif decide (Z1 ≤ (9223372036854775807 : Nat) ∧ Z1 = Z2) then bif decide (List.drop (0 : Nat) l = List.drop (0 : Nat) m) then some (D.bool true) else Z0 else none else none else none) := by kernel_rfl
theorem sameR_ok (p : Int) (y : Bool) (c : Bool) (l : List Write) (q : Int) (z : Bool) (d : Bool) (m : List Write) (h : (lenOK l.length && lenOK m.length) = true) : sameR_e p y c l q z d m = some (.bool (decide ((⟨p, y, l⟩ : Rec) = ⟨q, z, m⟩))) := by
  (rw [sameR_eq]; conv => zeta)
  simp only [Bool.and_eq_true] at h
  have hl := lenOK_le h.1
  simp only [h.1, h.2, cond_true]
  by_cases h0 : l.length = m.length
  · have e1 : ((l.length : Int) != (m.length : Int)) = false := by simp [h0]
    have e2 : (l.length ≤ 9223372036854775807 ∧ l.length = m.length) := ⟨hl, h0⟩
    rw [e1, decide_eq_true e2]
    by_cases h1 : p = q <;> by_cases h2 : y = z <;> by_cases h3 : l = m <;> simp [h1, h2, h3, bne, beqD]
  · have e1 : ((l.length : Int) != (m.length : Int)) = true := by simp; omega
    have h3 : ¬ l = m := fun e => h0 (by rw [e])
    rw [e1]
    by_cases h1 : p = q <;> by_cases h2 : y = z <;> simp [h1, h2, h3, bne, beqD]
noncomputable def uh_2 := uh_1.addSpec 21 sameR_sp
theorem uh_2_laws : FLaws Try.prog s06 uh_2 := uh_1_laws.addEv s06_laws fun args d h => by
  unfold sameR_sp at h
  split at h
  · unfold sameR_s at h
    have h1 := congrArg Prod.fst (Option.some.inj h)
    obtain rfl : _ = d := congrArg Prod.snd (Option.some.inj h)
    exact ⟨by simp [D.refs], 40, sameR_ok _ _ _ _ _ _ _ _ h1⟩
  · cases h
open Go.Proofs
structure putR_St where
  n : Int
  w : Int
  out : List UInt8
  i : Nat
def putR_c (n : Int) (w : Int) (out : List UInt8) (i : Nat) : Env RC := [(1, .int .i64 n), (2, .int .i64 w), (8, .vs 0 (out.length)), (9, .int .i64 (i : Int))]
def putR_o (n : Int) (w : Int) (out : List UInt8) (i : Nat) : List (Obj RC) := [.vec (C := RC) .u8 true out]
noncomputable def putR_r (n : Int) (w : Int) (out : List UInt8) (i : Nat) := rndO s06 uh_2 56 6 40 1 [1, 2, 8, 9] [8] [.slot 8 0] (putR_c n w out i) (putR_o n w out i)
theorem putR_eq (n : Int) (w : Int) (out : List UInt8) (i : Nat) : putR_r n w out i = (let Z0 : Nat := List.length out; let Z1 : List UInt8 := [UInt8.ofNat (IntKind.wrap IntKind.u8 (Int.tmod n (256 : Int))).toNat]; bif decide ((↑i : Int) < w) then bif Nat.beq Z0 Z0 && sizeOK (Z0 + List.length Z1) (1 : Nat) then some ((X.normal, [(1, D.int .i64 (IntKind.wrap .i64 (Int.tdiv n (256 : Int)))), (2, D.int .i64 w), (8, D.vs 0 (Z0 + List.length Z1)), (9, D.int .i64 (IntKind.wrap .i64 ((↑i : Int) + (1 : Int))))]), [some (Obj.vec RTy.u8 true (out ++ Z1))]) else none else some ((X.exit (0 : Nat), [(8, D.vs 0 Z0)]), [some (Obj.vec RTy.u8 true out)])) := by kernel_rfl
def putR_fin (n : Int) (w : Int) (out : List UInt8) (i : Nat) : RT RC := .leaf (.exit 0) [(8, .vs 0 (out ++ leB n (w.toNat - i)).length)] [.vec (C := RC) .u8 true (out ++ leB n (w.toNat - i))]
def putR_Inv (n : Int) (w : Int) (out : List UInt8) (i : Nat) : Prop := 0 ≤ n ∧ n ≤ 9223372036854775807 ∧ (i : Int) ≤ w ∧ w ≤ 6 ∧ out.length ≤ 1000000 + i
def putR_S : LoopR RC putR_St where
  k := 1
  canon q := putR_c q.n q.w q.out q.i
  objs q := putR_o q.n q.w q.out q.i
  fin q := putR_fin q.n q.w q.out q.i
  Inv q := putR_Inv q.n q.w q.out q.i
  μ q := q.w.toNat - q.i
theorem putR_round (n : Int) (w : Int) (out : List UInt8) (i : Nat) (hI : putR_Inv n w out i) : Leaf (putR_r n w out i) (LedR putR_S ⟨n, w, out, i⟩) := by
  (rw [putR_eq]; conv => zeta)
  unfold putR_Inv at hI
  obtain ⟨h1, h2, h3, h4, h5⟩ := hI
  by_cases hlt : (i : Int) < w
  · have w_succ : IntKind.i64.wrap ((i : Int) + 1) = ((i + 1 : Nat) : Int) := by rw [wrap_id (by omega) (by omega)]; simp
    obtain ⟨d1, d2, d3⟩ := putD h1 h2
    have e1 : sizeOK (out.length + 1) 1 = true := sizeT (by omega)
    have eb : ∀ n : Nat, n.beq n = true := fun n => by simp
    simp only [hlt, decide_true, cond_true, w_succ, d1, putB h1, List.length_cons, List.length_nil, Nat.zero_add, e1, eb, Bool.and_self]
    refine leafR_go ⟨n.fdiv 256, w, out ++ [byteOf n], i + 1⟩ (by refine ⟨d2, d3, hlt, h4, ?_⟩; simp; omega) (by simp only [putR_S]; omega) ?_ (by simp [putR_S, putR_c]) (by simp [putR_S, putR_o])
    have : w.toNat - i = (w.toNat - (i + 1)) + 1 := by omega
    simp only [putR_S, putR_fin, this, leB, List.append_assoc, List.cons_append, List.nil_append]
  · have hi : w.toNat - i = 0 := by omega
    simp only [hlt, decide_false, cond_false]
    exact leafR_exit (putR_o n w out i) (by simp only [putR_S, putR_fin, putR_o, hi, leB, RT.val, List.append_nil]) rfl
def putR_d (env : Env RC) (os : List (Obj RC)) : Option (Bool × putR_St) := match env, os with
  | [(1, .int .i64 n), (2, .int .i64 w), (8, .vs 0 x0), (9, .int .i64 x1)], [.vec .u8 true out] => staticD (true) (decide (x0 = out.length) && decide (x1 = 0) && decide (0 ≤ n ∧ n ≤ 9223372036854775807 ∧ 0 ≤ w ∧ w ≤ 6 ∧ out.length ≤ 1000000), ⟨n, w, out, 0⟩)
  | _, _ => none
noncomputable def ui_1 := uh_2.addLoop 56 6 (sumR s06 [.slot 8 0] [1, 2, 8, 9] putR_S putR_d)
theorem ui_1_laws : FLaws Try.prog s06 ui_1 := by
  refine uh_2_laws.addRoundsR s06_laws (by kernel_rfl) putR_S 40 [1, 2, 8, 9] [8] [.slot 8 0] [1, 2, 8, 9] putR_d (fun q hI => ?_) ?_
  · obtain ⟨n, w, out, i⟩ := q
    refine ⟨?_, ?_, putR_round n w out i hI⟩
    · simp_all [RefsOK, putR_S, putR_c, putR_o, putR_Inv, D.refs, Obj.refs, rEnc]
    · simp_all [putR_S, putR_fin, putR_o, putR_Inv, RT.refsOK, RefsOK, D.refs, Obj.refs, rEnc]
  · intro env os b q hd_ hb
    unfold putR_d at hd_
    split at hd_
    · obtain ⟨hs, hd_⟩ := staticD_some hd_
      cases hd_
      simp only [Bool.and_eq_true, decide_eq_true_eq] at hb
      obtain ⟨⟨rfl, rfl⟩, hl⟩ := hb
      exact ⟨by refine ⟨hl.1, hl.2.1, by simpa using hl.2.2.1, hl.2.2.2.1, by simpa using hl.2.2.2.2⟩, rfl, rfl⟩
    · cases hd_
structure bytesRl_St where
  p : Int
  y : Bool
  c : Bool
  l : List Write
  bs : List UInt8
  i : Nat
def bytesRl_c (p : Int) (y : Bool) (c : Bool) (l : List Write) (bs : List UInt8) (i : Nat) : Env RC := [(1, .ptr 0 []), (4, .vs 1 (bs.length)), (7, .int .i64 (i : Int))]
def bytesRl_o (p : Int) (y : Bool) (c : Bool) (l : List Write) (bs : List UInt8) (i : Nat) : List (Obj RC) := [.var 27 (.acons (.int .i64 p) (.acons (.bool y) (.acons (.sl (C := RC) .write c l) .anil))), .vec (C := RC) .u8 true bs]
noncomputable def bytesRl_r (p : Int) (y : Bool) (c : Bool) (l : List Write) (bs : List UInt8) (i : Nat) := rndO s06 ui_1 30 9 40 2 [1, 4, 7] [4] [.slot 1 0, .slot 4 0] (bytesRl_c p y c l bs i) (bytesRl_o p y c l bs i)
theorem bytesRl_eq (p : Int) (y : Bool) (c : Bool) (l : List Write) (bs : List UInt8) (i : Nat) : bytesRl_r p y c l bs i = (let Z0 : Int := (↑i : Int); let Z1 : Bool := decide ((0 : Int) ≤ Z0 ∧ Z0 < (↑l.length : Int)); let Z2 : Nat := List.length bs; let Z3 : Write := List.getD l Z0.toNat (Write.mk (0 : Int) (0 : Int)); let Z4 : List UInt8 := [UInt8.ofNat (IntKind.wrap IntKind.u8 (Write.key Z3)).toNat, UInt8.ofNat (IntKind.wrap IntKind.u8 (Write.value Z3)).toNat]; let Z5 : Option (Obj RC) := some (Obj.var 27 (.acons (D.int .i64 p) (.acons (D.bool y) (.acons (D.sl RTy.write c l) .anil)))); bif lenOK l.length then bif decide (Z0 < (↑l.length : Int)) then bif Z1 then bif Z1 then bif Nat.beq Z2 Z2 && sizeOK (Z2 + List.length Z4) (1 : Nat) then some ((X.normal, [(1, D.ptr 0 []), (4, D.vs 1 (Z2 + List.length Z4)), (7, D.int .i64 (IntKind.wrap .i64 (Z0 + (1 : Int))))]), [Z5, some (Obj.vec RTy.u8 true (bs ++ Z4))]) else none else none else none else some ((X.exit (0 : Nat), [(4, D.vs 1 Z2)]), [Z5, some (Obj.vec RTy.u8 true bs)]) else none) := by kernel_rfl
def bytesRl_fin (p : Int) (y : Bool) (c : Bool) (l : List Write) (bs : List UInt8) (i : Nat) : RT RC := .leaf (.exit 0) [(4, .vs 1 (bs ++ (l.drop i).flatMap wBytes).length)] [.var 27 (.acons (.int .i64 p) (.acons (.bool y) (.acons (.sl (C := RC) .write c l) .anil))), .vec (C := RC) .u8 true (bs ++ (l.drop i).flatMap wBytes)]
def bytesRl_Inv (p : Int) (y : Bool) (c : Bool) (l : List Write) (bs : List UInt8) (i : Nat) : Prop := i ≤ l.length ∧ l.length ≤ 1000000 ∧ bs.length ≤ 1000000 + 2 * i
def bytesRl_S : LoopR RC bytesRl_St where
  k := 2
  canon q := bytesRl_c q.p q.y q.c q.l q.bs q.i
  objs q := bytesRl_o q.p q.y q.c q.l q.bs q.i
  fin q := bytesRl_fin q.p q.y q.c q.l q.bs q.i
  Inv q := bytesRl_Inv q.p q.y q.c q.l q.bs q.i
  μ q := q.l.length - q.i
theorem bytesRl_round (p : Int) (y : Bool) (c : Bool) (l : List Write) (bs : List UInt8) (i : Nat) (hI : bytesRl_Inv p y c l bs i) : Leaf (bytesRl_r p y c l bs i) (LedR bytesRl_S ⟨p, y, c, l, bs, i⟩) := by
  (rw [bytesRl_eq]; conv => zeta)
  unfold bytesRl_Inv at hI
  obtain ⟨h1, h2, h3⟩ := hI
  have hlk := lenOK_of (show l.length ≤ 9223372036854775807 by omega)
  by_cases hlt : i < l.length
  · have w_succ : IntKind.i64.wrap ((i : Int) + 1) = ((i + 1 : Nat) : Int) := by rw [wrap_id (by omega) (by omega)]; simp
    have d_lt : decide ((i : Int) < l.length) = true := by simp; omega
    have d_in : decide (0 ≤ (i : Int) ∧ (i : Int) < l.length) = true := by simp; omega
    have t_nat : ((i : Int)).toNat = i := by simp
    simp only [w_succ, d_lt, d_in, t_nat, cond_true]
    have hd : (l.drop i).flatMap wBytes = _ := flatMap_drop_succ l i wBytes hlt (⟨0, 0⟩ : Write)
    generalize l.getD i (⟨0, 0⟩ : Write) = x at hd ⊢
    have e1 : sizeOK (bs.length + 2) 1 = true := sizeT (by omega)
    have e2 : bs.length.beq bs.length = true := by simp
    simp only [hlk, cond_true, List.length_cons, List.length_nil, Nat.zero_add, Nat.reduceAdd, e1, e2, Bool.and_self]
    refine leafR_go ⟨p, y, c, l, bs ++ [byteOf x.key, byteOf x.value], i + 1⟩ (by refine ⟨hlt, h2, ?_⟩; simp; omega) (by simp only [bytesRl_S]; omega) ?_ (by simp [bytesRl_S, bytesRl_c, byteOf]) (by simp [bytesRl_S, bytesRl_o, byteOf])
    simp only [bytesRl_S, bytesRl_fin, hd, wBytes, List.append_assoc]
  · have hi : i = l.length := by omega
    have c1 : decide ((i : Int) < l.length) = false := by simp; omega
    simp only [hlk, cond_true, c1, cond_false]
    have hd0 : l.drop i = [] := List.drop_eq_nil_of_le (by omega)
    exact leafR_exit (bytesRl_o p y c l bs i) (by simp only [bytesRl_S, bytesRl_fin, bytesRl_o, hd0, RT.val, List.flatMap_nil, List.append_nil]) rfl
def bytesRl_d (env : Env RC) (os : List (Obj RC)) : Option (Bool × bytesRl_St) := match env, os with
  | [(1, .ptr 0 []), (4, .vs 1 x0), (7, .int .i64 x1)], [.var 27 (.acons (.int .i64 p) (.acons (.bool y) (.acons (.sl .write c l) .anil))), .vec .u8 true bs] => staticD (true) (decide (x0 = bs.length) && decide (x1 = 0) && decide (l.length ≤ 1000000 ∧ bs.length ≤ 1000000), ⟨p, y, c, l, bs, 0⟩)
  | _, _ => none
noncomputable def ui_2 := ui_1.addLoop 30 9 (sumR s06 [.slot 1 0, .slot 4 0] [1, 4, 7] bytesRl_S bytesRl_d)
theorem ui_2_laws : FLaws Try.prog s06 ui_2 := by
  refine ui_1_laws.addRoundsR s06_laws (by kernel_rfl) bytesRl_S 40 [1, 4, 7] [4] [.slot 1 0, .slot 4 0] [1, 4, 7] bytesRl_d (fun q hI => ?_) ?_
  · obtain ⟨p, y, c, l, bs, i⟩ := q
    refine ⟨?_, ?_, bytesRl_round p y c l bs i hI⟩
    · simp_all [RefsOK, bytesRl_S, bytesRl_c, bytesRl_o, bytesRl_Inv, D.refs, Obj.refs, rEnc]
    · simp_all [bytesRl_S, bytesRl_fin, bytesRl_o, bytesRl_Inv, RT.refsOK, RefsOK, D.refs, Obj.refs, rEnc]
  · intro env os b q hd_ hb
    unfold bytesRl_d at hd_
    split at hd_
    · obtain ⟨hs, hd_⟩ := staticD_some hd_
      cases hd_
      simp only [Bool.and_eq_true, decide_eq_true_eq] at hb
      obtain ⟨⟨rfl, rfl⟩, hl⟩ := hb
      exact ⟨⟨Nat.zero_le _, hl.1, hl.2⟩, rfl, rfl⟩
    · cases hd_
def bytesRf_s (p : Int) (y : Bool) (c : Bool) (l : List Write) : Option (Bool × D RC) := some (lenOK l.length, .tup (.acons (.sl (C := RC) .u8 (!mayB ⟨p, y, l⟩) (bif mayB ⟨p, y, l⟩ then bytesR ⟨p, y, l⟩ else [])) (.acons (.int .i64 (bif mayB ⟨p, y, l⟩ then 0 else 2)) .anil)))
def bytesRf_sp : List (D RC) → Option (Bool × D RC)
  | [.acons (.int .i64 p) (.acons (.bool y) (.acons (.sl .write c l) .anil))] => bytesRf_s p y c l
  | _ => none
noncomputable def bytesRf_e (p : Int) (y : Bool) (c : Bool) (l : List Write) := evF s06 ui_2 40 30 [.acons (.int .i64 p) (.acons (.bool y) (.acons (.sl (C := RC) .write c l) .anil))]
theorem bytesRf_eq (p : Int) (y : Bool) (c : Bool) (l : List Write) : bytesRf_e p y c l = (let Z0 : Nat := List.length l; let Z1 : List UInt8 := [] ++ [] ++ leB p (3 : Nat); let Z2 : List UInt8 := [UInt8.ofNat (bif y then (1 : Int) else (0 : Int)).toNat, UInt8.ofNat (IntKind.wrap IntKind.u8 (↑Z0 : Int)).toNat]; let Z3 : Nat := List.length (Z1 ++ Z2); let Z4 : List UInt8 := Z1 ++ Z2 ++ List.flatMap wBytes (List.drop (0 : Nat) l); bif lenOK Z0 then bif !mayB (Rec.mk p y l) then some (D.tup (D.acons (D.sl RTy.u8 true []) (.acons (D.int .i64 2) .anil))) else bif decide (p ≤ (9223372036854775807 : Int) ∧ (1 : Int) ≤ (3 : Int) ∧ (3 : Int) ≤ (6 : Int)) && fitsB p (3 : Nat) then bif decide ((0 : Int) ≤ p ∧ p ≤ (9223372036854775807 : Int) ∧ (0 : Int) ≤ (3 : Int) ∧ (3 : Int) ≤ (6 : Int) ∧ (0 : Nat) ≤ (1000000 : Nat)) then bif lenOK Z0 then bif decide (List.length Z1 + List.length Z2 = Z3) && true && decide (Z0 ≤ (1000000 : Nat) ∧ Z3 ≤ (1000000 : Nat)) then bif Nat.beq Z4.length Z4.length then some (D.tup (D.acons (D.sl RTy.u8 false Z4) (.acons (D.int .i64 0) .anil))) else none else none else none else none else none else none) := by kernel_rfl
theorem bytesRf_ok (p : Int) (y : Bool) (c : Bool) (l : List Write) (h : (lenOK l.length) = true) : bytesRf_e p y c l = some (.tup (.acons (.sl (C := RC) .u8 (!mayB ⟨p, y, l⟩) (bif mayB ⟨p, y, l⟩ then bytesR ⟨p, y, l⟩ else [])) (.acons (.int .i64 (bif mayB ⟨p, y, l⟩ then 0 else 2)) .anil))) := by
  (rw [bytesRf_eq]; conv => zeta)
  rw [h]
  have hlen := lenOK_le h
  cases hm : mayB ⟨p, y, l⟩
  · rfl
  · obtain ⟨hp, hl, hw⟩ := may_facts hm
    have f3 := fits3 (n := p) (by rw [withinB_iff]; omega)
    have hy : UInt8.ofNat (Int.toNat (bif y then 1 else 0)) = byteOf (bif y then 1 else 0) := by cases y <;> rfl
    have hb : UInt8.ofNat (IntKind.u8.wrap (l.length : Int)).toNat = byteOf l.length := rfl
    have e1 : (p ≤ 9223372036854775807 ∧ 1 ≤ (3 : Int) ∧ (3 : Int) ≤ 6) := by omega
    have e2 : l.length ≤ 1000000 := by omega
    have e3 : 0 ≤ p := by omega
    have e4 : p ≤ 9223372036854775807 := by omega
    simp [hy, hb, f3, e1, e2, e3, e4, leB_length, bytesR, leB1]
noncomputable def ui_3 := ui_2.addSpec 30 bytesRf_sp
theorem ui_3_laws : FLaws Try.prog s06 ui_3 := ui_2_laws.addEv s06_laws fun args d h => by
  unfold bytesRf_sp at h
  split at h
  · unfold bytesRf_s at h
    have h1 := congrArg Prod.fst (Option.some.inj h)
    obtain rfl : _ = d := congrArg Prod.snd (Option.some.inj h)
    exact ⟨by simp [D.refs], 40, bytesRf_ok _ _ _ _ h1⟩
  · cases h
structure Rd where
  c : Bool
  b : List UInt8
  bad : Bool
def rget (w : Nat) (r : Rd) : Int × Rd := if w ≤ r.b.length then ((leVal (r.b.take w) : Int), ⟨r.c, r.b.drop w, r.bad⟩) else (0, ⟨true, [], true⟩)
def rWrites : Nat → Rd → Rd × List Write
  | 0, r => (r, [])
  | n + 1, r =>
    let k := rget 1 r
    let v := rget 1 k.2
    let q := rWrites n v.2
    (q.1, ⟨k.1, v.1⟩ :: q.2)
theorem rget_ok {w : Nat} {c bad : Bool} {b : List UInt8} (h : w ≤ b.length) : rget w ⟨c, b, bad⟩ = ((leVal (b.take w) : Int), ⟨c, b.drop w, bad⟩) := by simp [rget, h]
theorem rget_no {w : Nat} {c bad : Bool} {b : List UInt8} (h : b.length < w) : rget w ⟨c, b, bad⟩ = (0, ⟨true, [], true⟩) := by simp [rget, Nat.not_le.2 h]
theorem getP_snd1 (b : List UInt8) : ((getP b 0 1).2 != 0) = decide (b.length < 1) := by
  by_cases h : b.length < 1
  · have : ¬ ((1 : Int) ≤ b.length) := by omega
    simp only [getP, h]; simp [this]
  · have : ((1 : Int) ≤ b.length) := by omega
    simp only [getP, h]; simp [this]
theorem getP_snd3 (b : List UInt8) : ((getP b 0 3).2 != 0) = decide (b.length < 3) := by
  by_cases h : b.length < 3
  · have : ¬ ((3 : Int) ≤ b.length) := by omega
    simp only [getP, h]; simp [this]
  · have : ((3 : Int) ≤ b.length) := by omega
    simp only [getP, h]; simp [this]
theorem getP_fst1 {b : List UInt8} (h : ¬ b.length < 1) : (getP b 0 1).1 = (leVal (b.take 1) : Int) := by
  have : ((1 : Int) ≤ b.length) := by omega
  simp only [getP]; simp [this]
theorem getP_fst3 {b : List UInt8} (h : ¬ b.length < 3) : (getP b 0 3).1 = (leVal (b.take 3) : Int) := by
  have : ((3 : Int) ≤ b.length) := by omega
  simp only [getP]; simp [this]
theorem leVal_take1 {b : List UInt8} (h : 1 ≤ b.length) : leVal (b.take 1) = (b.getD 0 0).toNat := by
  cases b with
  | nil => simp at h
  | cons x t => simp [leVal]
def pairsN : Nat → List UInt8 → List Write
  | 0, _ => []
  | n + 1, b => ⟨(b.getD 0 0).toNat, (b.getD 1 0).toNat⟩ :: pairsN n (b.drop 2)
theorem rWrites_ok : ∀ (n : Nat) (c : Bool) (b : List UInt8) (bad : Bool), 2 * n ≤ b.length → rWrites n ⟨c, b, bad⟩ = (⟨c, b.drop (2 * n), bad⟩, pairsN n b)
  | 0, c, b, bad, _ => by simp [rWrites, pairsN]
  | n + 1, c, b, bad, h => by
    have h1 : 1 ≤ b.length := by omega
    have h2 : 1 ≤ (b.drop 1).length := by simp; omega
    have h3 := rWrites_ok n c ((b.drop 1).drop 1) bad (by simp; omega)
    have e : (b.drop 1).getD 0 0 = b.getD 1 0 := by simp [List.getElem?_drop]
    have e2 : ((b.drop 1).drop 1).drop (2 * n) = b.drop (2 * (n + 1)) := by rw [List.drop_drop, List.drop_drop]; congr 1; omega
    have e3 : (b.drop 1).drop 1 = b.drop 2 := by rw [List.drop_drop]
    simp only [rWrites, rget_ok h1, rget_ok h2, h3, leVal_take1 h1, leVal_take1 h2, e, pairsN, e2]
    rw [e3]
theorem rget_bad {w : Nat} {r : Rd} (h : r.bad = true) : (rget w r).2.bad = true := by
  unfold rget; split <;> simp [h]
theorem rWrites_bad : ∀ (n : Nat) (r : Rd), r.bad = true → (rWrites n r).1.bad = true
  | 0, r, h => h
  | n + 1, r, h => rWrites_bad n _ (rget_bad (rget_bad h))
theorem rWrites_short : ∀ (n : Nat) (c : Bool) (b : List UInt8) (bad : Bool), b.length < 2 * n → (rWrites n ⟨c, b, bad⟩).1.bad = true
  | 0, c, b, bad, h => by omega
  | n + 1, c, b, bad, h => by
    simp only [rWrites]
    by_cases h1 : b.length < 1
    · rw [rget_no h1]; exact rWrites_bad n _ (rget_bad rfl)
    · rw [rget_ok (show 1 ≤ b.length by omega)]
      by_cases h2 : (b.drop 1).length < 1
      · simp only [rget_no h2]; exact rWrites_bad n _ rfl
      · simp only [rget_ok (show 1 ≤ (b.drop 1).length by omega)]
        exact rWrites_short n _ _ _ (by simp at h2 ⊢; omega)
theorem pairsN_len : ∀ (n : Nat) (b : List UInt8), (pairsN n b).length = n
  | 0, _ => rfl
  | n + 1, b => by simp [pairsN, pairsN_len n]
def readR (b : List UInt8) : Option Rec :=
  if 5 ≤ b.length ∧ (b.getD 3 0).toNat ≤ 1 ∧ b.length = 5 + 2 * (b.getD 4 0).toNat ∧ mayB ⟨leVal (b.take 3), (b.getD 3 0).toNat == 1, pairsN (b.getD 4 0).toNat (b.drop 5)⟩ = true then
    some ⟨leVal (b.take 3), (b.getD 3 0).toNat == 1, pairsN (b.getD 4 0).toNat (b.drop 5)⟩ else none
def recG (o : Option Rec) : Rec := o.getD ⟨0, false, []⟩
structure Rdr (σ : Type) where
  get : Nat → σ → Int × σ
  bad : σ → Bool
  rem : σ → List UInt8
structure RdrOK {σ : Type} (R : Rdr σ) : Prop where
  ok : ∀ w s, 1 ≤ w → R.bad s = false → w ≤ (R.rem s).length → (R.get w s).1 = (leVal ((R.rem s).take w) : Int) ∧ R.rem (R.get w s).2 = (R.rem s).drop w ∧ R.bad (R.get w s).2 = false
  no : ∀ w s, R.bad s = false → (R.rem s).length < w → R.bad (R.get w s).2 = true
  stay : ∀ w s, R.bad s = true → R.bad (R.get w s).2 = true
section
variable {σ : Type} (R : Rdr σ)
variable {R} (K : RdrOK R)
include K
end
structure Rn where
  pos : Nat
  short : Bool
structure QS (σ : Type) where
  r : σ
  l0 : List Line
  l1 : List Line
  l2 : List Line
  c0 : Int
  c1 : Int
  c2 : Int
section
variable {σ : Type} (R : Rdr σ) (stop : Bool) (mark : σ → σ)
end
open Go.Proofs
structure readW_St where
  c : Bool
  b : List UInt8
  bad : Bool
  pl : Int
  y : Bool
  ws : List Write
  n : Int
  i : Nat
def readW_c (c : Bool) (b : List UInt8) (bad : Bool) (pl : Int) (y : Bool) (ws : List Write) (n : Int) (i : Nat) : Env RC := [(4, .ptr 0 []), (5, .ptr 1 []), (20, .int .i64 n), (21, .int .i64 (i : Int))]
def readW_o (c : Bool) (b : List UInt8) (bad : Bool) (pl : Int) (y : Bool) (ws : List Write) (n : Int) (i : Nat) : List (Obj RC) := [.var 93 (.acons (.sl (C := RC) .u8 c b) (.acons (.bool bad) .anil)), .var 27 (.acons (.int .i64 pl) (.acons (.bool y) (.acons (.vs 2 (ws.length)) .anil))), .vec (C := RC) .write true ws]
noncomputable def readW_r (c : Bool) (b : List UInt8) (bad : Bool) (pl : Int) (y : Bool) (ws : List Write) (n : Int) (i : Nat) := rndO s06 ui_3 38 6 40 3 [4, 5, 20, 21] [] [.slot 4 0, .slot 5 0, .path 1 [2]] (readW_c c b bad pl y ws n i) (readW_o c b bad pl y ws n i)
theorem readW_eq (c : Bool) (b : List UInt8) (bad : Bool) (pl : Int) (y : Bool) (ws : List Write) (n : Int) (i : Nat) : readW_r c b bad pl y ws n i = (let Z0 : Int × Int := getP b (0 : Int) (1 : Int); let Z1 : Nat := List.length ws; let Z2 : Bool := Nat.beq Z1 Z1; let Z3 : X × Env RC := (X.normal, [(4, D.ptr 0 []), (5, D.ptr 1 []), (20, D.int .i64 n), (21, D.int .i64 (IntKind.wrap .i64 ((↑i : Int) + (1 : Int))))]); let Z4 : D RC := .anil; let Z5 : Option (Obj RC) := some (Obj.var 93 (.acons (D.sl RTy.u8 true []) (.acons (D.bool true) Z4))); let Z6 : D RC := D.int .i64 pl; let Z7 : D RC := D.bool y; let Z8 : List UInt8 := List.drop (1 : Nat) b; let Z9 : Int × Int := getP Z8 (0 : Int) (1 : Int); let Z10 : List Write := [Write.mk Z0.1 (0 : Int)]; let Z11 : List Write := [Write.mk Z0.1 Z9.1]; bif decide ((↑i : Int) < n) then bif decide (List.length b ≤ (1000000000000 : Nat)) then bif Prod.snd Z0 != (0 : Int) then bif Z2 && sizeOK (Z1 + (1 : Nat)) (16 : Nat) then some (Z3, [Z5, some (Obj.var 27 (.acons Z6 (D.acons Z7 (D.acons (D.vs 2 (Z1 + (1 : Nat))) Z4)))), some (Obj.vec RTy.write true (ws ++ [Write.mk (0 : Int) (0 : Int)]))]) else none else bif decide ((0 : Int) ≤ (1 : Int) ∧ (1 : Int) ≤ (↑b.length : Int)) then bif decide (List.length Z8 ≤ (1000000000000 : Nat)) then bif Prod.snd Z9 != (0 : Int) then bif Z2 && sizeOK (Z1 + List.length Z10) (16 : Nat) then some (Z3, [Z5, some (Obj.var 27 (.acons Z6 (D.acons Z7 (D.acons (D.vs 2 (Z1 + List.length Z10)) Z4)))), some (Obj.vec RTy.write true (ws ++ Z10))]) else none else bif decide ((0 : Int) ≤ (1 : Int) ∧ (1 : Int) ≤ (↑Z8.length : Int)) then bif Z2 && sizeOK (Z1 + List.length Z11) (16 : Nat) then some (Z3, [some (Obj.var 93 (.acons (D.sl RTy.u8 c (List.drop (1 : Nat) Z8)) (.acons (D.bool bad) Z4))), some (Obj.var 27 (.acons Z6 (D.acons Z7 (D.acons (D.vs 2 (Z1 + List.length Z11)) Z4)))), some (Obj.vec RTy.write true (ws ++ Z11))]) else none else none else none else none else none else some ((X.exit (0 : Nat), []), [some (Obj.var 93 (.acons (D.sl RTy.u8 c b) (.acons (D.bool bad) Z4))), some (Obj.var 27 (.acons Z6 (D.acons Z7 (D.acons (D.vs 2 Z1) Z4)))), some (Obj.vec RTy.write true ws)])) := by kernel_rfl
def readW_fin (c : Bool) (b : List UInt8) (bad : Bool) (pl : Int) (y : Bool) (ws : List Write) (n : Int) (i : Nat) : RT RC := .leaf (.exit 0) [] [.var 93 (.acons (.sl (C := RC) .u8 (rWrites (n.toNat - i) ⟨c, b, bad⟩).1.c (rWrites (n.toNat - i) ⟨c, b, bad⟩).1.b) (.acons (.bool (rWrites (n.toNat - i) ⟨c, b, bad⟩).1.bad) .anil)), .var 27 (.acons (.int .i64 pl) (.acons (.bool y) (.acons (.vs 2 (ws ++ (rWrites (n.toNat - i) ⟨c, b, bad⟩).2).length) .anil))), .vec (C := RC) .write true (ws ++ (rWrites (n.toNat - i) ⟨c, b, bad⟩).2)]
def readW_Inv (c : Bool) (b : List UInt8) (bad : Bool) (pl : Int) (y : Bool) (ws : List Write) (n : Int) (i : Nat) : Prop := (i : Int) ≤ n ∧ n ≤ 255 ∧ b.length ≤ 1000000 ∧ ws.length ≤ i
def readW_S : LoopR RC readW_St where
  k := 3
  canon q := readW_c q.c q.b q.bad q.pl q.y q.ws q.n q.i
  objs q := readW_o q.c q.b q.bad q.pl q.y q.ws q.n q.i
  fin q := readW_fin q.c q.b q.bad q.pl q.y q.ws q.n q.i
  Inv q := readW_Inv q.c q.b q.bad q.pl q.y q.ws q.n q.i
  μ q := q.n.toNat - q.i
theorem readW_round (c : Bool) (b : List UInt8) (bad : Bool) (pl : Int) (y : Bool) (ws : List Write) (n : Int) (i : Nat) (hI : readW_Inv c b bad pl y ws n i) : Leaf (readW_r c b bad pl y ws n i) (LedR readW_S ⟨c, b, bad, pl, y, ws, n, i⟩) := by
  (rw [readW_eq]; conv => zeta)
  unfold readW_Inv at hI
  obtain ⟨h1, h2, h3, h4⟩ := hI
  have tk : ∀ l : List UInt8, List.take (Int.toNat (l.length : Int)) l = l := fun l => by simp
  have eb : ∀ n : Nat, n.beq n = true := fun n => by simp
  have r0 : rget 1 ⟨true, [], true⟩ = (0, ⟨true, [], true⟩) := rfl
  by_cases hlt : (i : Int) < n
  · have w_succ : IntKind.i64.wrap ((i : Int) + 1) = ((i + 1 : Nat) : Int) := by rw [wrap_id (by omega) (by omega)]; simp
    have hn : n.toNat - i = (n.toNat - (i + 1)) + 1 := by omega
    have s1 : sizeOK (ws.length + 1) 16 = true := sizeT (by omega)
    have e0 : decide (b.length ≤ 1000000000000) = true := decide_eq_true (by omega)
    simp only [hlt, decide_true, cond_true, e0, getP_snd1, show Int.toNat 1 = 1 from rfl, w_succ, List.length_cons, List.length_nil, Nat.zero_add, s1, eb, Bool.and_self]
    by_cases b1 : b.length < 1
    · have r1 : rget 1 ⟨c, b, bad⟩ = _ := rget_no b1
      simp only [b1, decide_true, cond_true]
      refine leafR_go ⟨true, [], true, pl, y, ws ++ [⟨0, 0⟩], n, i + 1⟩ (by refine ⟨hlt, h2, by simp, ?_⟩; simp; omega) (by simp only [readW_S]; omega) ?_ (by simp [readW_S, readW_c]) (by simp [readW_S, readW_o])
      simp only [readW_S, readW_fin, hn, rWrites, r1, r0, List.append_assoc, List.cons_append, List.nil_append]
    · have r1 : rget 1 ⟨c, b, bad⟩ = _ := rget_ok (show 1 ≤ b.length by omega)
      have d1 : decide ((0 : Int) ≤ 1 ∧ (1 : Int) ≤ b.length) = true := by simp; omega
      have e1 : decide ((b.drop 1).length ≤ 1000000000000) = true := decide_eq_true (by simp; omega)
      simp only [b1, decide_false, cond_false, d1, cond_true, e1, getP_fst1 b1]
      by_cases b2 : (b.drop 1).length < 1
      · have r2 : rget 1 ⟨c, b.drop 1, bad⟩ = _ := rget_no b2
        simp only [b2, decide_true, cond_true]
        refine leafR_go ⟨true, [], true, pl, y, ws ++ [⟨leVal (b.take 1), 0⟩], n, i + 1⟩ (by refine ⟨hlt, h2, by simp, ?_⟩; simp; omega) (by simp only [readW_S]; omega) ?_ (by simp [readW_S, readW_c]) (by simp [readW_S, readW_o])
        simp only [readW_S, readW_fin, hn, rWrites, r1, r2, List.append_assoc, List.cons_append, List.nil_append]
      · have r2 : rget 1 ⟨c, b.drop 1, bad⟩ = _ := rget_ok (show 1 ≤ (b.drop 1).length by omega)
        have d2 : decide ((0 : Int) ≤ 1 ∧ (1 : Int) ≤ (b.drop 1).length) = true := by simp only [decide_eq_true_eq]; omega
        simp only [b2, decide_false, cond_false, d2, cond_true, getP_fst1 b2]
        refine leafR_go ⟨c, (b.drop 1).drop 1, bad, pl, y, ws ++ [⟨leVal (b.take 1), leVal ((b.drop 1).take 1)⟩], n, i + 1⟩ (by refine ⟨hlt, h2, ?_, ?_⟩ <;> simp <;> omega) (by simp only [readW_S]; omega) ?_ (by simp [readW_S, readW_c]) (by simp [readW_S, readW_o])
        simp only [readW_S, readW_fin, hn, rWrites, r1, r2, List.append_assoc, List.cons_append, List.nil_append]
  · have hi : n.toNat - i = 0 := by omega
    simp only [hlt, decide_false, cond_false]
    exact leafR_exit (readW_o c b bad pl y ws n i) (by simp only [readW_S, readW_fin, readW_o, hi, rWrites, RT.val, List.append_nil]) rfl
def readW_d (env : Env RC) (os : List (Obj RC)) : Option (Bool × readW_St) := match env, os with
  | [(4, .ptr 0 []), (5, .ptr 1 []), (20, .int .i64 n), (21, .int .i64 x0)], [.var 93 (.acons (.sl .u8 c b) (.acons (.bool bad) .anil)), .var 27 (.acons (.int .i64 pl) (.acons (.bool y) (.acons (.vs 2 x1) .anil))), .vec .write true ws] => staticD (true) (decide (x0 = 0) && decide (x1 = ws.length) && decide (0 ≤ n ∧ n ≤ 255 ∧ b.length ≤ 1000000 ∧ ws.length = 0), ⟨c, b, bad, pl, y, ws, n, 0⟩)
  | _, _ => none
noncomputable def uk_1 := ui_3.addLoop 38 6 (sumR s06 [.slot 4 0, .slot 5 0, .path 1 [2]] [4, 5, 20, 21] readW_S readW_d)
theorem uk_1_laws : FLaws Try.prog s06 uk_1 := by
  refine ui_3_laws.addRoundsR s06_laws (by kernel_rfl) readW_S 40 [4, 5, 20, 21] [] [.slot 4 0, .slot 5 0, .path 1 [2]] [4, 5, 20, 21] readW_d (fun q hI => ?_) ?_
  · obtain ⟨c, b, bad, pl, y, ws, n, i⟩ := q
    refine ⟨?_, ?_, readW_round c b bad pl y ws n i hI⟩
    · simp_all [RefsOK, readW_S, readW_c, readW_o, readW_Inv, D.refs, Obj.refs, rEnc]
    · simp_all [readW_S, readW_fin, readW_o, readW_Inv, RT.refsOK, RefsOK, D.refs, Obj.refs, rEnc]
  · intro env os b q hd_ hb
    unfold readW_d at hd_
    split at hd_
    · obtain ⟨hs, hd_⟩ := staticD_some hd_
      cases hd_
      simp only [Bool.and_eq_true, decide_eq_true_eq] at hb
      obtain ⟨⟨rfl, rfl⟩, h⟩ := hb
      exact ⟨⟨by simpa using h.1, h.2.1, h.2.2.1, by simp [h.2.2.2]⟩, rfl, rfl⟩
    · cases hd_
def readP_s (c : Bool) (b : List UInt8) : Option (Bool × D RC) := some (decide (b.length ≤ 1000000), .tup (.acons (.acons (.int .i64 (recG (readR b)).place) (.acons (.bool (recG (readR b)).yes) (.acons (.sl (C := RC) .write (readR b).isNone (recG (readR b)).writes) .anil))) (.acons (.int .i64 (bif (readR b).isNone then 50 else 0)) .anil)))
def readP_sp : List (D RC) → Option (Bool × D RC)
  | [.sl .u8 c b] => readP_s c b
  | _ => none
noncomputable def readP_e (c : Bool) (b : List UInt8) := evF s06 uk_1 40 38 [.sl (C := RC) .u8 c b]
theorem readP_eq (c : Bool) (b : List UInt8) : readP_e c b = (let Z0 : Int × Int := getP b (0 : Int) (3 : Int); let Z1 : D RC := D.int .i64 0; let Z2 : DO_ := some (D.tup (D.acons (D.acons Z1 (D.acons (D.bool false) (.acons (D.sl RTy.write true []) .anil))) (.acons (D.int .i64 50) .anil))); let Z3 : List UInt8 := List.drop (3 : Nat) b; let Z4 : Int × Int := getP Z3 (0 : Int) (1 : Int); let Z5 : List UInt8 := List.drop (1 : Nat) Z3; let Z6 : Int × Int := getP Z5 (0 : Int) (1 : Int); let Z7 : Int := Prod.fst Z6; let Z8 : Rd × List Write := rWrites (Int.toNat Z7 - 0) (Rd.mk c (List.drop (1 : Nat) Z5) false); let Z9 : Nat := List.length Z8.1.b; let Z10 : List Write := [] ++ Prod.snd Z8; let Z11 : Nat := List.length Z10; let Z12 : Bool := Prod.fst Z4 == (1 : Int); bif decide (List.length b ≤ (1000000000000 : Nat)) then bif Prod.snd Z0 != (0 : Int) then Z2 else bif decide ((0 : Int) ≤ (3 : Int) ∧ (3 : Int) ≤ (↑b.length : Int)) then bif decide (List.length Z3 ≤ (1000000000000 : Nat)) then bif Prod.snd Z4 != (0 : Int) then Z2 else bif decide ((0 : Int) ≤ (1 : Int) ∧ (1 : Int) ≤ (↑Z3.length : Int)) then bif decide (List.length Z5 ≤ (1000000000000 : Nat)) then bif Prod.snd Z6 != (0 : Int) then Z2 else bif decide ((0 : Int) ≤ (1 : Int) ∧ (1 : Int) ≤ (↑Z5.length : Int)) then bif decide ((0 : Int) ≤ Z7 ∧ Z7 ≤ (255 : Int) ∧ List.length (List.drop (1 : Nat) Z5) ≤ (1000000 : Nat) ∧ (0 : Nat) = (0 : Nat)) then bif !Rd.bad Z8.1 then bif lenOK Z9 then bif !(↑Z9 : Int) == (0 : Int) then Z2 else bif decide ((1 : Int) < Prod.fst Z4) then Z2 else bif Nat.beq Z11 Z11 then bif lenOK Z11 then bif !mayB (Rec.mk Z0.1 Z12 Z10) then Z2 else some (D.tup (D.acons (D.acons (D.int .i64 Z0.1) (.acons (D.bool Z12) (.acons (D.sl RTy.write false Z10) .anil))) (.acons Z1 .anil))) else none else none else none else Z2 else none else none else none else none else none else none else none) := by kernel_rfl
theorem readP_ok (c : Bool) (b : List UInt8) (h : (decide (b.length ≤ 1000000)) = true) : readP_e c b = some (.tup (.acons (.acons (.int .i64 (recG (readR b)).place) (.acons (.bool (recG (readR b)).yes) (.acons (.sl (C := RC) .write (readR b).isNone (recG (readR b)).writes) .anil))) (.acons (.int .i64 (bif (readR b).isNone then 50 else 0)) .anil))) := by
  (rw [readP_eq]; conv => zeta)
  have hl := of_decide_eq_true h
  have e0 : decide (b.length ≤ 1000000000000) = true := decide_eq_true (by omega)
  have no : readR b = none → some (D.tup (D.acons (D.acons (D.int IntKind.i64 0) (D.acons (D.bool false) (D.acons (D.sl (C := RC) RTy.write true []) D.anil))) (D.acons (D.int IntKind.i64 50) D.anil))) = some (.tup (.acons (.acons (.int .i64 (recG (readR b)).place) (.acons (.bool (recG (readR b)).yes) (.acons (.sl (C := RC) .write (readR b).isNone (recG (readR b)).writes) .anil))) (.acons (.int .i64 (bif (readR b).isNone then 50 else 0)) .anil))) := fun e => by rw [e]; rfl
  simp only [e0, cond_true, getP_snd3, getP_snd1]
  by_cases b3 : b.length < 3
  · simp only [b3, decide_true, cond_true]
    exact no (by unfold readR; rw [if_neg]; omega)
  have d3 : decide ((0 : Int) ≤ 3 ∧ (3 : Int) ≤ b.length) = true := by simp; omega
  have e1 : decide ((b.drop 3).length ≤ 1000000000000) = true := decide_eq_true (by simp; omega)
  simp only [b3, decide_false, cond_false, d3, cond_true, e1, getP_fst3 b3]
  by_cases b4 : (b.drop 3).length < 1
  · simp only [b4, decide_true, cond_true]
    exact no (by unfold readR; rw [if_neg]; simp at b4; omega)
  have d4 : decide ((0 : Int) ≤ 1 ∧ (1 : Int) ≤ (b.drop 3).length) = true := by simp only [decide_eq_true_eq]; omega
  have e2 : decide (((b.drop 3).drop 1).length ≤ 1000000000000) = true := decide_eq_true (by simp; omega)
  simp only [b4, decide_false, cond_false, d4, cond_true, e2, getP_fst1 b4]
  by_cases b5 : ((b.drop 3).drop 1).length < 1
  · simp only [b5, decide_true, cond_true]
    exact no (by unfold readR; rw [if_neg]; simp at b5; omega)
  have d5 : decide ((0 : Int) ≤ 1 ∧ (1 : Int) ≤ ((b.drop 3).drop 1).length) = true := by simp only [decide_eq_true_eq]; omega
  have v3 : leVal ((b.drop 3).take 1) = (b.getD 3 0).toNat := by
    rw [leVal_take1 (by omega)]; simp [List.getElem?_drop]
  have v4 : leVal (((b.drop 3).drop 1).take 1) = (b.getD 4 0).toNat := by
    rw [leVal_take1 (by omega)]; simp [List.getElem?_drop]
  have dr : ((b.drop 3).drop 1).drop 1 = b.drop 5 := by rw [List.drop_drop, List.drop_drop]
  simp only [b5, decide_false, cond_false, d5, cond_true, getP_fst1 b5, v3, v4, dr]
  have h4 := (b.getD 4 0).toNat_lt
  have dl : (b.drop 5).length = b.length - 5 := by simp
  have hl5 : 5 ≤ b.length := by have : ((b.drop 3).drop 1).length = b.length - 4 := by rw [List.drop_drop]; simp
                                omega
  generalize hn : (b.getD 4 0).toNat = n at h4 ⊢
  have c1 : decide ((0 : Int) ≤ n ∧ (n : Int) ≤ 255 ∧ (b.drop 5).length ≤ 1000000 ∧ True) = true := decide_eq_true ⟨by omega, by omega, by omega, trivial⟩
  have tn : (n : Int).toNat - 0 = n := by omega
  simp only [c1, tn, cond_true, List.nil_append]
  by_cases hs : (b.drop 5).length < 2 * n
  · simp only [rWrites_short n c _ false hs, Bool.not_true, cond_false]
    exact no (by unfold readR; rw [if_neg]; omega)
  rw [rWrites_ok n c _ false (by omega)]
  have k1 : lenOK ((b.drop 5).drop (2 * n)).length = true := lenOK_of (by simp; omega)
  have kp : (pairsN n (b.drop 5)).length ≤ 9223372036854775807 := by rw [pairsN_len]; omega
  have eb : ∀ n : Nat, n.beq n = true := fun n => by simp
  simp only [Bool.not_false, cond_true, k1, eb, lenOK_of kp]
  by_cases he : ((b.drop 5).drop (2 * n)).length = 0
  · have e5 : b.length = 5 + 2 * n := by simp at he; omega
    have e6 : ((((b.drop 5).drop (2 * n)).length : Int) == 0) = true := by simp only [beq_iff_eq]; omega
    simp only [e6, Bool.not_true, cond_false]
    by_cases hy : 1 < (b.getD 3 0).toNat
    · have : decide (1 < ((b.getD 3 0).toNat : Int)) = true := by simp only [decide_eq_true_eq]; omega
      simp only [this, cond_true]
      exact no (by unfold readR; rw [if_neg]; omega)
    · have y1 : decide (1 < ((b.getD 3 0).toNat : Int)) = false := by simp only [decide_eq_false_iff_not]; omega
      have y2 : (((b.getD 3 0).toNat : Int) == 1) = ((b.getD 3 0).toNat == 1) := by rw [Bool.eq_iff_iff]; simp only [beq_iff_eq]; omega
      simp only [y1, y2, cond_false]
      cases hm : mayB ⟨(leVal (b.take 3) : Int), (b.getD 3 0).toNat == 1, pairsN n (b.drop 5)⟩
      · simp only [Bool.not_false, cond_true]
        exact no (by unfold readR; rw [hn, if_neg]; intro q; rw [hm] at q; cases q.2.2.2)
      · have hr : readR b = some ⟨(leVal (b.take 3) : Int), (b.getD 3 0).toNat == 1, pairsN n (b.drop 5)⟩ := by
          unfold readR; rw [hn, if_pos ⟨hl5, by omega, e5, hm⟩]
        simp only [Bool.not_true, cond_false, hr, recG, Option.getD_some, Option.isNone_some]
  · have e6 : ((((b.drop 5).drop (2 * n)).length : Int) == 0) = false := by simp only [beq_eq_false_iff_ne]; omega
    simp only [e6, Bool.not_false, cond_true]
    exact no (by unfold readR; rw [hn, if_neg]; intro q; simp at he; omega)
noncomputable def uk_2 := uk_1.addSpec 38 readP_sp
theorem uk_2_laws : FLaws Try.prog s06 uk_2 := uk_1_laws.addEv s06_laws fun args d h => by
  unfold readP_sp at h
  split at h
  · unfold readP_s at h
    have h1 := congrArg Prod.fst (Option.some.inj h)
    obtain rfl : _ = d := congrArg Prod.snd (Option.some.inj h)
    exact ⟨by simp [D.refs], 40, readP_ok _ _ h1⟩
  · cases h
structure readWR_St where
  c : Bool
  b : List UInt8
  pl : Int
  y : Bool
  ws : List Write
  i : Nat
def readWR_c (c : Bool) (b : List UInt8) (pl : Int) (y : Bool) (ws : List Write) (i : Nat) : Env RC := [(0, .sl (C := RC) .u8 c b), (6, .ptr 0 []), (7, .int .i64 (i : Int))]
def readWR_o (c : Bool) (b : List UInt8) (pl : Int) (y : Bool) (ws : List Write) (i : Nat) : List (Obj RC) := [.var 27 (.acons (.int .i64 pl) (.acons (.bool y) (.acons (.vs 1 (ws.length)) .anil))), .vec (C := RC) .write true ws]
noncomputable def readWR_r (c : Bool) (b : List UInt8) (pl : Int) (y : Bool) (ws : List Write) (i : Nat) := rndO s06 uk_2 42 6 40 2 [0, 6, 7] [] [.slot 6 0, .path 0 [2]] (readWR_c c b pl y ws i) (readWR_o c b pl y ws i)
theorem readWR_eq (c : Bool) (b : List UInt8) (pl : Int) (y : Bool) (ws : List Write) (i : Nat) : readWR_r c b pl y ws i = (let Z0 : Int := (↑b.length : Int); let Z1 : Int := (↑i : Int); let Z2 : UInt8 := UInt8.ofBitVec (BitVec.ofNat (8 : Nat) (nat_lit 0)); let Z3 : Int := IntKind.wrap .i64 ((2 : Int) * Z1); let Z4 : Int := IntKind.wrap .i64 ((5 : Int) + Z3); let Z5 : Int := IntKind.wrap .i64 ((6 : Int) + Z3); let Z6 : Nat := List.length ws; let Z7 : List Write := [Write.mk (IntKind.wrap .i64 (↑(UInt8.toNat (List.getD b Z4.toNat Z2)) : Int)) (IntKind.wrap .i64 (↑(UInt8.toNat (List.getD b Z5.toNat Z2)) : Int))]; bif decide ((0 : Int) ≤ (4 : Int) ∧ (4 : Int) < Z0) then bif decide (Z1 < IntKind.wrap .i64 (↑(UInt8.toNat (List.getD b (4 : Nat) Z2)) : Int)) then bif decide ((0 : Int) ≤ Z4 ∧ Z4 < Z0) then bif decide ((0 : Int) ≤ Z5 ∧ Z5 < Z0) then bif Nat.beq Z6 Z6 && sizeOK (Z6 + List.length Z7) (16 : Nat) then some ((X.normal, [(0, D.sl RTy.u8 c b), (6, D.ptr 0 []), (7, D.int .i64 (IntKind.wrap .i64 (Z1 + (1 : Int))))]), [some (Obj.var 27 (.acons (D.int .i64 pl) (.acons (D.bool y) (.acons (D.vs 1 (Z6 + List.length Z7)) .anil)))), some (Obj.vec RTy.write true (ws ++ Z7))]) else none else none else none else some ((X.exit (0 : Nat), []), [some (Obj.var 27 (.acons (D.int .i64 pl) (.acons (D.bool y) (.acons (D.vs 1 Z6) .anil)))), some (Obj.vec RTy.write true ws)]) else none) := by kernel_rfl
def readWR_fin (c : Bool) (b : List UInt8) (pl : Int) (y : Bool) (ws : List Write) (i : Nat) : RT RC := .leaf (.exit 0) [] [.var 27 (.acons (.int .i64 pl) (.acons (.bool y) (.acons (.vs 1 (ws ++ pairsN ((b.getD 4 0).toNat - i) (b.drop (5 + 2 * i))).length) .anil))), .vec (C := RC) .write true (ws ++ pairsN ((b.getD 4 0).toNat - i) (b.drop (5 + 2 * i)))]
def readWR_Inv (c : Bool) (b : List UInt8) (pl : Int) (y : Bool) (ws : List Write) (i : Nat) : Prop := b.length = 5 + 2 * (b.getD 4 0).toNat ∧ i ≤ (b.getD 4 0).toNat ∧ ws.length ≤ i
def readWR_S : LoopR RC readWR_St where
  k := 2
  canon q := readWR_c q.c q.b q.pl q.y q.ws q.i
  objs q := readWR_o q.c q.b q.pl q.y q.ws q.i
  fin q := readWR_fin q.c q.b q.pl q.y q.ws q.i
  Inv q := readWR_Inv q.c q.b q.pl q.y q.ws q.i
  μ q := (q.b.getD 4 0).toNat - q.i
theorem readWR_round (c : Bool) (b : List UInt8) (pl : Int) (y : Bool) (ws : List Write) (i : Nat) (hI : readWR_Inv c b pl y ws i) : Leaf (readWR_r c b pl y ws i) (LedR readWR_S ⟨c, b, pl, y, ws, i⟩) := by
  (rw [readWR_eq]; conv => zeta)
  unfold readWR_Inv at hI
  obtain ⟨h1, h2, h3⟩ := hI
  have eb : ∀ n : Nat, n.beq n = true := fun n => by simp
  have h4 := (b.getD 4 0).toNat_lt
  have z : (⟨0#8⟩ : UInt8) = 0 := rfl
  have d4 : decide ((0 : Int) ≤ 4 ∧ (4 : Int) < b.length) = true := by simp only [decide_eq_true_eq]; omega
  simp only [z, d4, cond_true, u8_i64, show Int.toNat 4 = 4 from rfl]
  by_cases hlt : i < (b.getD 4 0).toNat
  · have w_succ : IntKind.i64.wrap ((i : Int) + 1) = ((i + 1 : Nat) : Int) := by rw [wrap_id (by omega) (by omega)]; simp
    have w2 : IntKind.i64.wrap (2 * (i : Int)) = 2 * (i : Int) := wrap_id (by omega) (by omega)
    have w5 : IntKind.i64.wrap (5 + 2 * (i : Int)) = 5 + 2 * (i : Int) := wrap_id (by omega) (by omega)
    have w6 : IntKind.i64.wrap (6 + 2 * (i : Int)) = 6 + 2 * (i : Int) := wrap_id (by omega) (by omega)
    have t5 : (5 + 2 * (i : Int)).toNat = 5 + 2 * i := by omega
    have t6 : (6 + 2 * (i : Int)).toNat = 6 + 2 * i := by omega
    have l1 : decide ((i : Int) < ((b.getD 4 0).toNat : Int)) = true := by simp only [decide_eq_true_eq]; omega
    have d5 : decide (0 ≤ 5 + 2 * (i : Int) ∧ 5 + 2 * (i : Int) < b.length) = true := by simp only [decide_eq_true_eq]; omega
    have d6 : decide (0 ≤ 6 + 2 * (i : Int) ∧ 6 + 2 * (i : Int) < b.length) = true := by simp only [decide_eq_true_eq]; omega
    have s1 : sizeOK (ws.length + 1) 16 = true := sizeT (by omega)
    have hn : (b.getD 4 0).toNat - i = ((b.getD 4 0).toNat - (i + 1)) + 1 := by omega
    have g0 : (b.drop (5 + 2 * i)).getD 0 0 = b.getD (5 + 2 * i) 0 := by simp [List.getElem?_drop]
    have g1 : (b.drop (5 + 2 * i)).getD 1 0 = b.getD (6 + 2 * i) 0 := by simp [List.getElem?_drop]; congr 1; congr 1; omega
    have g2 : (b.drop (5 + 2 * i)).drop 2 = b.drop (5 + 2 * (i + 1)) := by rw [List.drop_drop]; congr 1
    simp only [w2, w5, w6, l1, d5, d6, w_succ, t5, t6, cond_true, List.length_cons, List.length_nil, Nat.zero_add, eb, s1, Bool.and_self]
    refine leafR_go ⟨c, b, pl, y, ws ++ [⟨((b.getD (5 + 2 * i) 0).toNat : Int), ((b.getD (6 + 2 * i) 0).toNat : Int)⟩], i + 1⟩ (by refine ⟨h1, hlt, ?_⟩; simp; omega) (by simp only [readWR_S]; omega) ?_ (by simp [readWR_S, readWR_c]) (by simp [readWR_S, readWR_o])
    simp only [readWR_S, readWR_fin, hn, pairsN, g0, g1, g2, List.append_assoc, List.cons_append, List.nil_append]
  · have l1 : decide ((i : Int) < ((b.getD 4 0).toNat : Int)) = false := by simp only [decide_eq_false_iff_not]; omega
    have hi : (b.getD 4 0).toNat - i = 0 := by omega
    simp only [l1, cond_false]
    exact leafR_exit (readWR_o c b pl y ws i) (by simp only [readWR_S, readWR_fin, readWR_o, hi, pairsN, RT.val, List.append_nil]) rfl
def readWR_d (env : Env RC) (os : List (Obj RC)) : Option (Bool × readWR_St) := match env, os with
  | [(0, .sl .u8 c b), (6, .ptr 0 []), (7, .int .i64 x0)], [.var 27 (.acons (.int .i64 pl) (.acons (.bool y) (.acons (.vs 1 x1) .anil))), .vec .write true ws] => staticD (true) (decide (x0 = 0) && decide (x1 = ws.length) && decide (b.length = 5 + 2 * (b.getD 4 0).toNat ∧ ws.length = 0), ⟨c, b, pl, y, ws, 0⟩)
  | _, _ => none
noncomputable def uk_3 := uk_2.addLoop 42 6 (sumR s06 [.slot 6 0, .path 0 [2]] [0, 6, 7] readWR_S readWR_d)
theorem uk_3_laws : FLaws Try.prog s06 uk_3 := by
  refine uk_2_laws.addRoundsR s06_laws (by kernel_rfl) readWR_S 40 [0, 6, 7] [] [.slot 6 0, .path 0 [2]] [0, 6, 7] readWR_d (fun q hI => ?_) ?_
  · obtain ⟨c, b, pl, y, ws, i⟩ := q
    refine ⟨?_, ?_, readWR_round c b pl y ws i hI⟩
    · simp_all [RefsOK, readWR_S, readWR_c, readWR_o, readWR_Inv, D.refs, Obj.refs, rEnc]
    · simp_all [readWR_S, readWR_fin, readWR_o, readWR_Inv, RT.refsOK, RefsOK, D.refs, Obj.refs, rEnc]
  · intro env os b q hd_ hb
    unfold readWR_d at hd_
    split at hd_
    · obtain ⟨hs, hd_⟩ := staticD_some hd_
      cases hd_
      simp only [Bool.and_eq_true, decide_eq_true_eq] at hb
      obtain ⟨⟨rfl, rfl⟩, hq⟩ := hb
      exact ⟨⟨hq.1, Nat.zero_le _, by simp [hq.2]⟩, rfl, rfl⟩
    · cases hd_
def readRr_s (c : Bool) (b : List UInt8) : Option (Bool × D RC) := some (decide (b.length ≤ 1000000), .tup (.acons (.acons (.int .i64 (recG (readR b)).place) (.acons (.bool (recG (readR b)).yes) (.acons (.sl (C := RC) .write (readR b).isNone (recG (readR b)).writes) .anil))) (.acons (.int .i64 (bif (readR b).isNone then 50 else 0)) .anil)))
def readRr_sp : List (D RC) → Option (Bool × D RC)
  | [.sl .u8 c b] => readRr_s c b
  | _ => none
noncomputable def readRr_e (c : Bool) (b : List UInt8) := evF s06 uk_3 40 42 [.sl (C := RC) .u8 c b]
theorem readRr_eq (c : Bool) (b : List UInt8) : readRr_e c b = (let Z0 : Nat := List.length b; let Z1 : Int := (↑Z0 : Int); let Z2 : D RC := D.int .i64 0; let Z3 : DO_ := some (D.tup (D.acons (D.acons Z2 (D.acons (D.bool false) (.acons (D.sl RTy.write true []) .anil))) (.acons (D.int .i64 50) .anil))); let Z4 : Bool := decide ((0 : Int) ≤ (3 : Int) ∧ (3 : Int) < Z1); let Z5 : UInt8 := UInt8.ofBitVec (BitVec.ofNat (8 : Nat) (nat_lit 0)); let Z6 : Int := (↑(UInt8.toNat (List.getD b (3 : Nat) Z5)) : Int); let Z7 : Nat := UInt8.toNat (List.getD b (4 : Nat) (0 : UInt8)); let Z8 : List Write := [] ++ pairsN (Z7 - 0) (List.drop (5 : Nat) b); let Z9 : Nat := List.length Z8; let Z10 : Int := Prod.fst (getP b (0 : Int) (3 : Int)); bif lenOK Z0 then bif decide (Z1 < (5 : Int)) then Z3 else bif Z4 then bif decide ((1 : Int) < Z6) then Z3 else bif lenOK Z0 then bif decide ((0 : Int) ≤ (4 : Int) ∧ (4 : Int) < Z1) then bif Z1 != IntKind.wrap .i64 ((5 : Int) + IntKind.wrap .i64 ((2 : Int) * IntKind.wrap .i64 (↑(UInt8.toNat (List.getD b (4 : Nat) Z5)) : Int))) then Z3 else bif decide (Z0 ≤ (1000000000000 : Nat)) then bif Z4 then bif decide (Z0 = (5 : Nat) + (2 : Nat) * Z7 ∧ (0 : Nat) = (0 : Nat)) then bif Nat.beq Z9 Z9 then bif lenOK Z9 then bif !mayB (Rec.mk Z10 (Z6 == (1 : Int)) Z8) then Z3 else some (D.tup (D.acons (D.acons (D.int .i64 Z10) (.acons (D.bool (Z6 == (1 : Int))) (.acons (D.sl RTy.write false Z8) .anil))) (.acons Z2 .anil))) else none else none else none else none else none else none else none else none else none) := by kernel_rfl
theorem readRr_ok (c : Bool) (b : List UInt8) (h : (decide (b.length ≤ 1000000)) = true) : readRr_e c b = some (.tup (.acons (.acons (.int .i64 (recG (readR b)).place) (.acons (.bool (recG (readR b)).yes) (.acons (.sl (C := RC) .write (readR b).isNone (recG (readR b)).writes) .anil))) (.acons (.int .i64 (bif (readR b).isNone then 50 else 0)) .anil))) := by
  (rw [readRr_eq]; conv => zeta)
  have hl := of_decide_eq_true h
  have z : (⟨0#8⟩ : UInt8) = 0 := rfl
  have h4 := (b.getD 4 0).toNat_lt
  have no : readR b = none → some (D.tup (D.acons (D.acons (D.int IntKind.i64 0) (D.acons (D.bool false) (D.acons (D.sl (C := RC) RTy.write true []) D.anil))) (D.acons (D.int IntKind.i64 50) D.anil))) = some (.tup (.acons (.acons (.int .i64 (recG (readR b)).place) (.acons (.bool (recG (readR b)).yes) (.acons (.sl (C := RC) .write (readR b).isNone (recG (readR b)).writes) .anil))) (.acons (.int .i64 (bif (readR b).isNone then 50 else 0)) .anil))) := fun e => by rw [e]; rfl
  simp only [z, lenOK_of (show b.length ≤ 9223372036854775807 by omega), cond_true, u8_i64]
  by_cases b5 : b.length < 5
  · have : decide ((b.length : Int) < 5) = true := by simp only [decide_eq_true_eq]; omega
    simp only [this, cond_true]
    exact no (by unfold readR; rw [if_neg]; omega)
  have l5 : decide ((b.length : Int) < 5) = false := by simp only [decide_eq_false_iff_not]; omega
  have d3 : decide ((0 : Int) ≤ 3 ∧ (3 : Int) < b.length) = true := by simp only [decide_eq_true_eq]; omega
  have d4 : decide ((0 : Int) ≤ 4 ∧ (4 : Int) < b.length) = true := by simp only [decide_eq_true_eq]; omega
  simp only [l5, d3, d4, cond_true, cond_false]
  by_cases y0 : 1 < (b.getD 3 0).toNat
  · have : decide (1 < ((b.getD 3 0).toNat : Int)) = true := by simp only [decide_eq_true_eq]; omega
    simp only [this, cond_true]
    exact no (by unfold readR; rw [if_neg]; omega)
  have y1 : decide (1 < ((b.getD 3 0).toNat : Int)) = false := by simp only [decide_eq_false_iff_not]; omega
  have y2 : (((b.getD 3 0).toNat : Int) == 1) = ((b.getD 3 0).toNat == 1) := by rw [Bool.eq_iff_iff]; simp only [beq_iff_eq]; omega
  have w2 : IntKind.i64.wrap (2 * ((b.getD 4 0).toNat : Int)) = 2 * ((b.getD 4 0).toNat : Int) := wrap_id (by omega) (by omega)
  have w5 : IntKind.i64.wrap (5 + 2 * ((b.getD 4 0).toNat : Int)) = 5 + 2 * ((b.getD 4 0).toNat : Int) := wrap_id (by omega) (by omega)
  simp only [y1, y2, w2, w5, cond_false]
  by_cases e5 : b.length = 5 + 2 * (b.getD 4 0).toNat
  · have q1 : ((b.length : Int) != 5 + 2 * ((b.getD 4 0).toNat : Int)) = false := by simp only [bne_eq_false_iff_eq]; omega
    have q2 : decide (b.length ≤ 1000000000000) = true := decide_eq_true (by omega)
    have q3 : decide (b.length = 5 + 2 * (b.getD 4 0).toNat ∧ True) = true := decide_eq_true ⟨e5, trivial⟩
    have kp : (pairsN (b.getD 4 0).toNat (b.drop 5)).length ≤ 9223372036854775807 := by rw [pairsN_len]; omega
    have eb : ∀ n : Nat, n.beq n = true := fun n => by simp
    simp only [q1, q2, q3, eb, lenOK_of kp, cond_true, cond_false, List.nil_append, Nat.sub_zero, getP_fst3 (show ¬ b.length < 3 by omega)]
    cases hm : mayB ⟨(leVal (b.take 3) : Int), (b.getD 3 0).toNat == 1, pairsN (b.getD 4 0).toNat (b.drop 5)⟩
    · simp only [Bool.not_false, cond_true]
      exact no (by unfold readR; rw [if_neg]; intro q; rw [hm] at q; cases q.2.2.2)
    · have hr : readR b = some ⟨(leVal (b.take 3) : Int), (b.getD 3 0).toNat == 1, pairsN (b.getD 4 0).toNat (b.drop 5)⟩ := by
        unfold readR; rw [if_pos ⟨by omega, by omega, e5, hm⟩]
      simp only [Bool.not_true, cond_false, hr, recG, Option.getD_some, Option.isNone_some]
  · have q1 : ((b.length : Int) != 5 + 2 * ((b.getD 4 0).toNat : Int)) = true := by simp only [bne_iff_ne, ne_eq]; omega
    simp only [q1, cond_true]
    exact no (by unfold readR; rw [if_neg]; omega)
noncomputable def uk_4 := uk_3.addSpec 42 readRr_sp
theorem uk_4_laws : FLaws Try.prog s06 uk_4 := uk_3_laws.addEv s06_laws fun args d h => by
  unfold readRr_sp at h
  split at h
  · unfold readRr_s at h
    have h1 := congrArg Prod.fst (Option.some.inj h)
    obtain rfl : _ = d := congrArg Prod.snd (Option.some.inj h)
    exact ⟨by simp [D.refs], 40, readRr_ok _ _ h1⟩
  · cases h
open Go.Proofs
theorem u32_nat (n : Int) : (BitVec.ofInt IntKind.u32.bits n).toNat = (n % 4294967296).toNat := by
  rw [BitVec.toNat_ofInt]
  simp only [IntKind.bits]
  congr 1
theorem u32_wrap (n : Int) : IntKind.u32.wrap n = n % 4294967296 := by
  simp [IntKind.wrap, IntKind.bits, IntKind.signed]
def xor32 (a b : Int) : Int := bits .u32 (fun _ u v => u ^^^ v) a b
theorem xor32_range (a b : Int) : 0 ≤ xor32 a b ∧ xor32 a b < 4294967296 := by
  unfold xor32 bits
  rw [u32_wrap]; omega
def crcS (n : Int) : Int := if n % 2 = 1 then xor32 (n / 2) 3988292384 else n / 2
theorem crcS_range {n : Int} (h : 0 ≤ n ∧ n < 4294967296) : 0 ≤ crcS n ∧ crcS n < 4294967296 := by
  unfold crcS
  split
  · exact xor32_range _ _
  · omega
theorem and1 {n : Int} (h : 0 ≤ n ∧ n < 4294967296) : bits .u32 (fun _ u v => u &&& v) n 1 = n % 2 := by
  unfold bits
  rw [BitVec.toNat_and, u32_nat, u32_nat]
  have e : ((1 : Int) % 4294967296).toNat = 2 ^ 1 - 1 := by decide
  rw [e, Nat.and_two_pow_sub_one_eq_mod, u32_wrap]
  omega
theorem xor32_zero {n : Int} (h : 0 ≤ n ∧ n < 4294967296) : xor32 n 0 = n := by
  unfold xor32 bits
  rw [BitVec.toNat_xor, u32_nat, u32_nat]
  have e : ((0 : Int) % 4294967296).toNat = 0 := by decide
  rw [e, Nat.xor_zero, u32_wrap]
  omega
theorem half {n : Int} (h : 0 ≤ n) : n.fdiv 2 = n / 2 := Int.fdiv_eq_ediv_of_nonneg _ (by omega)
def iterS : Nat → Int → Int
  | 0, n => n
  | k + 1, n => iterS k (crcS n)
def crc8 (n : Int) : Int := iterS 8 n
def crcOn (n : Int) (l : List UInt8) : Int := l.foldl (fun n c => crc8 (xor32 n (c.toNat : Int))) n
theorem crcOn_cons (n : Int) (c : UInt8) (l : List UInt8) : crcOn n (c :: l) = crcOn (crc8 (xor32 n (c.toNat : Int))) l := by
  simp only [crcOn, List.foldl_cons]
theorem crcOn_nil (n : Int) : crcOn n [] = n := by simp only [crcOn, List.foldl_nil]
def crcOf (l : List UInt8) : Int := xor32 4294967295 (crcOn 4294967295 l)
theorem crcOf_range (l : List UInt8) : 0 ≤ crcOf l ∧ crcOf l < 4294967296 := xor32_range _ _
def sealL (b : List UInt8) : List UInt8 := b ++ leB (crcOf b) 4
theorem sealL_len (b : List UInt8) : (sealL b).length = b.length + 4 := by simp [sealL, leB_length]
def openL (b : List UInt8) : Option (List UInt8) := if 4 ≤ b.length ∧ sealL (b.take (b.length - 4)) = b then some (b.take (b.length - 4)) else none
theorem openL_seal (b : List UInt8) : openL (sealL b) = some b := by
  have e : (sealL b).take ((sealL b).length - 4) = b := by
    rw [sealL_len]; simp [sealL]
  unfold openL
  rw [e, if_pos ⟨by rw [sealL_len]; omega, rfl⟩]
theorem openL_len {b x : List UInt8} (h : openL b = some x) : b.length = x.length + 4 := by
  unfold openL at h
  split at h
  · rename_i q; cases h; simp; omega
  · cases h
theorem openL_test (b : List UInt8) (h : 4 ≤ b.length) : (sealL (b.take (b.length - 4))).drop (b.length - 4) = b.drop (b.length - 4) ↔ sealL (b.take (b.length - 4)) = b := by
  have e : ((b.take (b.length - 4))).length = b.length - 4 := by simp
  have e2 : (sealL (b.take (b.length - 4))).drop (b.length - 4) = leB (crcOf (b.take (b.length - 4))) 4 := by
    unfold sealL
    rw [List.drop_left' e]
  rw [e2]
  constructor
  · intro q
    unfold sealL
    rw [q, List.take_append_drop]
  · intro q
    have := congrArg (List.drop (b.length - 4)) q
    rw [← e2]; exact this
def okF (n : Int) (load : List UInt8) : Bool := decide (1 ≤ n) && decide (n ≤ 1048575) && decide (load.length ≤ 600)
def frameB (n : Int) (load : List UInt8) : List UInt8 := sealL (leB n 6 ++ leB load.length 2 ++ load)
def readF (b : List UInt8) : Option (Int × List UInt8) := match openL b with
  | none => none
  | some x => if 8 ≤ x.length ∧ leVal ((x.drop 6).take 2) + 8 = x.length ∧ x.length ≤ 608 ∧ 1 ≤ leVal (x.take 6) ∧ leVal (x.take 6) ≤ 1048575 then some ((leVal (x.take 6) : Int), x.drop 8) else none
theorem frameB_len (n : Int) (load : List UInt8) : (frameB n load).length = load.length + 12 := by
  simp [frameB, sealL_len, leB_length]; omega
theorem readF_frame {n : Int} {load : List UInt8} (h : okF n load = true) : readF (frameB n load) = some (n, load) := by
  simp only [okF, Bool.and_eq_true, decide_eq_true_eq] at h
  unfold readF frameB
  rw [openL_seal]
  have l6 := leB_length 6 n
  have l2 := leB_length 2 (load.length : Int)
  have t6 : (leB n 6 ++ leB (load.length : Int) 2 ++ load).take 6 = leB n 6 := by rw [List.append_assoc, List.take_left' l6]
  have d6 : (leB n 6 ++ leB (load.length : Int) 2 ++ load).drop 6 = leB (load.length : Int) 2 ++ load := by rw [List.append_assoc, List.drop_left' l6]
  have d8 : (leB n 6 ++ leB (load.length : Int) 2 ++ load).drop 8 = load := by
    rw [show (8 : Nat) = 6 + 2 from rfl, ← List.drop_drop, d6, List.drop_left' l2]
  have v6 : (leVal (leB n 6) : Int) = n := leVal_leB 6 n (by omega) (by omega)
  have v2 : (leVal (leB (load.length : Int) 2) : Int) = load.length := leVal_leB 2 _ (by omega) (by omega)
  have t2 : (leB (load.length : Int) 2 ++ load).take 2 = leB (load.length : Int) 2 := List.take_left' l2
  simp only [t6, d6, d8, t2]
  rw [if_pos ⟨by simp [l6, l2]; omega, by simp [l6, l2]; omega, by simp [l6, l2]; omega, by omega, by omega⟩, v6]
theorem readF_ok {b : List UInt8} {n : Int} {load : List UInt8} (h : readF b = some (n, load)) : okF n load = true ∧ frameB n load = b := by
  unfold readF at h
  cases hx : openL b with
  | none => simp [hx] at h
  | some x =>
    simp only [hx] at h
    split at h
    · rename_i q
      obtain ⟨q1, q2, q3, q4, q5⟩ := q
      simp only [Option.some.injEq, Prod.mk.injEq] at h
      obtain ⟨rfl, rfl⟩ := h
      refine ⟨by simp only [okF, Bool.and_eq_true, decide_eq_true_eq, List.length_drop]; omega, ?_⟩
      have e6 : leB (leVal (x.take 6) : Int) 6 = x.take 6 := by
        have := leB_leVal (x.take 6)
        rw [List.length_take, Nat.min_eq_left (by omega)] at this; exact this
      have e2 : leB ((x.drop 8).length : Int) 2 = (x.drop 6).take 2 := by
        have := leB_leVal ((x.drop 6).take 2)
        rw [List.length_take, List.length_drop, Nat.min_eq_left (by omega)] at this
        rw [List.length_drop, show x.length - 8 = leVal ((x.drop 6).take 2) by omega]; exact this
      unfold frameB
      rw [e6, e2, List.append_assoc, show x.drop 8 = (x.drop 6).drop 2 by rw [List.drop_drop], List.take_append_drop, List.take_append_drop]
      unfold openL at hx
      split at hx
      · rename_i q; cases hx; exact q.2
      · cases hx
    · cases h
noncomputable def rng (n : Int) : Bool := @decide (0 ≤ n ∧ n < 4294967296) (Classical.propDecidable _)
theorem rng_iff {n : Int} : rng n = true ↔ 0 ≤ n ∧ n < 4294967296 := by unfold rng; exact @decide_eq_true_iff _ (Classical.propDecidable _)
theorem rng_x (a b : Int) : rng (xor32 a b) = true := rng_iff.2 (xor32_range a b)
theorem rng_s {n : Int} (h : rng n = true) : rng (crcS n) = true := rng_iff.2 (crcS_range (rng_iff.1 h))
theorem u8_u32 (c : UInt8) : IntKind.u32.wrap (c.toNat : Int) = (c.toNat : Int) := by
  have := c.toNat_lt
  rw [u32_wrap]; omega
theorem crcOn_step (b : List UInt8) (i : Nat) (n : Int) (h : i < b.length) (d : UInt8) : crcOn n (b.drop i) = crcOn (crc8 (xor32 n ((b.getD i d).toNat : Int))) (b.drop (i + 1)) := by
  have e : b.getD i d = b[i] := by simp [h]
  have e2 : b.drop i = b[i] :: b.drop (i + 1) := List.drop_eq_getElem_cons h
  rw [e2, e]
  exact crcOn_cons _ _ _
theorem and255 {n : Int} (h : 0 ≤ n ∧ n < 4294967296) : bits .u32 (fun _ u v => u &&& v) n 255 = n % 256 := by
  unfold bits
  rw [BitVec.toNat_and, u32_nat, u32_nat]
  have e : ((255 : Int) % 4294967296).toNat = 2 ^ 8 - 1 := by decide
  rw [e, Nat.and_two_pow_sub_one_eq_mod, u32_wrap]
  omega
theorem byteOf_wrap (n : Int) : UInt8.ofNat (IntKind.u8.wrap n).toNat = byteOf n := rfl
theorem byteOf_mod (n : Int) : byteOf (n % 256) = byteOf n := by
  unfold byteOf; rw [u8_wrap, u8_wrap]; congr 2; omega
theorem leB4 (n : Int) : leB n 4 = [byteOf n, byteOf (n.fdiv 256), byteOf ((n.fdiv 256).fdiv 256), byteOf (((n.fdiv 256).fdiv 256).fdiv 256)] := rfl
theorem cond_of {α : Type} {c : Bool} {x y z : α} (h : c = true) (h2 : x = z) : cond c x y = z := by rw [h]; exact h2
theorem cond_no {α : Type} {c : Bool} {x y z : α} (h : c = false) (h2 : y = z) : cond c x y = z := by rw [h]; exact h2
theorem cond_two {α : Type} {c : Bool} {x y z : α} (h1 : c = true → x = z) (h2 : c = false → y = z) : cond c x y = z := by cases c; exact h2 rfl; exact h1 rfl
end Go.Ev
