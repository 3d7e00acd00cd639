/-
  Loops that turn objects: by the trees of their rounds, over a few objects with the numbers 0, 1, ..
-/
import Derived.Test.YtnphmfcnnpoinaaEvO1
import Derived.Test.YtnphmfcnnpoinaaEvZ2
namespace Go.Ev
set_option linter.unusedVariables false
set_option linter.unusedSimpArgs false

section
variable {C : Cdc} {P : Program} {T : Tab C} {Φ : Fns C}
open Pg (Ex)

structure LoopO (C : Cdc) (σ : Type) where
  k : Nat
  canon : σ → Env C
  objs : σ → List (Obj C)
  fin : σ → Ev.X × Env C
  fobjs : σ → List (Obj C)
  Inv : σ → Prop
  μ : σ → Nat

/-- the objects that are named are among the first k -/
def RefsOK (k : Nat) (env : Env C) (os : List (Obj C)) : Prop := os.length = k ∧ (∀ q ∈ env, ∀ r ∈ q.2.refs, r < k) ∧ ∀ o ∈ os, ∀ r ∈ Obj.refs o, r < k
def refsB (k : Nat) (env : Env C) (os : List (Obj C)) : Bool := Nat.beq os.length k && env.all (fun q => q.2.refs.all fun r => Nat.blt r k) && os.all (fun o => o.refs.all fun r => Nat.blt r k)
theorem refsB_spec {k : Nat} {env : Env C} {os : List (Obj C)} (h : refsB k env os = true) : RefsOK k env os := by
  simp only [refsB, Bool.and_eq_true, List.all_eq_true] at h
  exact ⟨Nat.eq_of_beq_eq_true h.1.1, fun q hq r hr => by simpa [Nat.blt_eq] using h.1.2 q hq r hr, fun o ho r hr => by simpa [Nat.blt_eq] using h.2 o ho r hr⟩

def RoundO (T : Tab C) (Φ : Fns C) (g : FuncId) (b : Code) {σ : Type} (S : LoopO C σ) : Prop :=
  ∀ s, S.Inv s → RefsOK S.k (S.canon s) (S.objs s) ∧ RefsOK S.k (S.fin s).2 (S.fobjs s) ∧ ∃ n x env' h' nx' tr, Ex (0, 0) (evC T Φ n g b (S.canon s)) (hpOf 0 (S.objs s)) S.k (x, env') h' nx' tr ∧
    ((x = .normal ∧ ∃ s', S.Inv s' ∧ S.μ s' < S.μ s ∧ S.fin s' = S.fin s ∧ S.fobjs s' = S.fobjs s ∧ Sub env' (S.canon s') ∧ ∀ j, j < S.k → h'.get j = (S.objs s')[j]?) ∨
     (x ≠ .normal ∧ x = (S.fin s).1 ∧ Sub env' (S.fin s).2 ∧ ∀ j, j < S.k → h'.get j = (S.fobjs s)[j]?))

theorem G.relim2 {X : Cx} {h : Heap C} {nx nx' k : Nat} {lim lim' : Lim} (g : G T X h nx lim) (hk : ∀ id o, h.get id = some o → id < k ∧ ∀ r ∈ o.refs, r < k) (hn : k ≤ nx') (hl : lim'.lo ≤ nx') (hH : ∀ id, ¬ lim'.H id) : G T X h nx' lim' :=
  ⟨g.var, g.vec, g.dom, fun id o ho => ⟨⟨.inl (by have := (hk id o ho).1; omega), hH id⟩, fun r hr => ⟨.inl (by have := (hk id o ho).2 r hr; omega), hH r⟩⟩, g.apart, g.outer, g.outs, hl⟩

theorem hpOf_nums {os : List (Obj C)} {k : Nat} (hl : os.length = k) (hr : ∀ o ∈ os, ∀ r ∈ Obj.refs o, r < k) : ∀ id o, (hpOf 0 os).get id = some o → id < k ∧ ∀ r ∈ o.refs, r < k := by
  intro id o ho
  rw [hpOf_get0] at ho
  exact ⟨by rw [← hl]; exact (List.getElem?_eq_some_iff.1 ho).1, hr o (List.mem_of_getElem? ho)⟩

theorem rounds_obj (K : PLaws P T) (F : FLaws P T Φ) {g : FuncId} {fn : Func} {body b : Code} {σ : Type} {S : LoopO C σ} (hr : RoundO T Φ g b S) (hf : Φ.fn g = some fn) (hb : fn.body = some body) (hcb : codeB fn.ntmps b = true) (hl : ∀ b' ∈ loops b, b' ∈ loops body) {B : Nat → Bool} (hB : ClearC B b)
    {Q : Exit → Act → World → Prop} : ∀ (m : Nat) (s : σ) (X : Cx) (a : Act), S.Inv s → S.μ s < m → G T X (hpOf 0 (S.objs s)) S.k (lim0 S.k) → EnvOK T X S.k (lim0 S.k) (S.canon s) a.tmps → fn.ntmps ≤ a.tmps.size →
      (∀ a' X', G T X' (hpOf 0 (S.fobjs s)) S.k (lim0 S.k) → Step X S.k (lim0 S.k) X' → EnvOK T X' S.k (lim0 S.k) (S.fin s).2 a'.tmps → a'.tmps.size = a.tmps.size → a'.defers = a.defers → Kp B a.tmps a'.tmps → Q (exitX (S.fin s).1) a' X'.w) → Code.rounds P b Q m a X.w := by
  intro m
  induction m with
  | zero => intro s X a _ hm; omega
  | succ m ih =>
    intro s X a hI hm hg he hsz hk
    obtain ⟨hr1, hr2, n, x, env', h', nx', tr, hx, hcase⟩ := hr s hI
    rw [rounds_succ]
    have hle : S.k ≤ nx' := hx.le
    have g0 : G T X (hpOf 0 (S.objs s)) S.k (lim0 nx') := hg.relim2 (hpOf_nums hr1.1 hr1.2.2) (Nat.le_refl _) (Nat.zero_le _) (fun _ h => h)
    have e0 : EnvOK T X S.k (lim0 nx') (S.canon s) a.tmps := fun t => ⟨(he t).1, fun r hh => ⟨.inl (by
      rcases eget_mem (S.canon s) t with h | h
      · rw [h] at hh; simp [D.refs] at hh
      · exact hr1.2.1 _ h r hh), fun h => h⟩⟩
    refine (code_ok K F n).1 g fn body b hf hb hcb hl B hB X (hpOf 0 (S.objs s)) S.k (lim0 nx') (0, 0) (S.canon s) x env' h' nx' tr a _ g0 e0 (Nat.le_refl _) hsz hx ?_
    intro a1 X1 g1 s1 e1 hs1 hd1 kp1
    -- the objects that are kept
    have key : ∀ (os : List (Obj C)) (env0 : Env C), RefsOK S.k env0 os → (∀ j, j < S.k → h'.get j = os[j]?) → Sub env' env0 →
        ∃ X2, X2.w = X1.w ∧ G T X2 (hpOf 0 os) S.k (lim0 S.k) ∧ Step X S.k (lim0 S.k) X2 ∧ EnvOK T X2 S.k (lim0 S.k) env0 a1.tmps := by
      intro os env0 ⟨q1, q2, q3⟩ hget hsub
      obtain ⟨X2, w2, g2, s2, hρ⟩ := G.drop K.base g1 (h' := hpOf 0 os) (fun id => by
        rw [hpOf_get0]
        by_cases hid : id < S.k
        · exact .inl (hget id hid).symm
        · exact .inr (List.getElem?_eq_none (by omega)))
      have hnone : ∀ id, ¬ id < S.k → X2.ρ id = none := fun id hid => by
        cases hq : X2.ρ id with
        | none => rfl
        | some l =>
          have := g2.dom id l hq
          rw [hpOf_get0, List.getElem?_eq_none (by omega)] at this
          cases this
      have s3 := s1.trans s2 hle
      refine ⟨X2, w2, g2.relim2 (hpOf_nums q1 q3) (Nat.le_refl _) (Nat.zero_le _) (fun _ h => h), ⟨s3.O, s3.os, s3.tape, s3.output, s3.size, fun id ho => ?_, s3.mine, s3.cell, s3.block, s3.frz⟩, fun t => ?_⟩
      · by_cases hid : id < S.k
        · exact s3.ρ id ⟨.inl hid, fun h => h⟩
        · rw [hnone id hid]; cases X.ρ id <;> simp [Compat]
      · rcases eget_mem env0 t with h | h
        · rw [h]; exact RO.mk (RV.top _ _ _) rfl
        · have hrt : ∀ r ∈ (eget env0 t).refs, r < S.k := q2 _ h
          have h2 := hsub _ h
          simp only at h2
          have h3 := (e1 t).1
          rw [h2] at h3
          exact ⟨h3.mono T K.base.encRefs s2.keeps fun r hh => s2.ρ r ⟨.inl (by have := hrt r hh; omega), fun h => h⟩, fun r hh => ⟨.inl (hrt r hh), fun h => h⟩⟩
    rcases hcase with ⟨rfl, s', hI', hmu, hfin, hfo, hsub, hget⟩ | ⟨hne, hxf, hsub, hget⟩
    · obtain ⟨hr1', _, _⟩ := hr s' hI'
      obtain ⟨X2, w2, g2, s2, e2⟩ := key _ _ hr1' hget hsub
      rw [← w2]
      refine ih s' X2 a1 hI' (by omega) g2 e2 (by omega) fun a3 X3 g3 s3 e3 hs3 hd3 kp3 => ?_
      rw [hfin] at e3 ⊢
      rw [hfo] at g3
      exact hk a3 X3 g3 (s2.trans s3 (Nat.le_refl _)) e3 (by omega) (by rw [hd3, hd1]) (kp1.trans kp3)
    · obtain ⟨X2, w2, g2, s2, e2⟩ := key _ _ hr2 hget hsub
      have hfinal : Q (exitX (S.fin s).1) a1 X2.w := hk a1 X2 g2 s2 e2 hs1 hd1 kp1
      rw [w2, ← hxf] at hfinal
      cases x with
      | normal => exact (hne rfl).elim
      | exit id => exact hfinal
      | ret => exact hfinal

/-! ### an empty slice is made an object -/
theorem G.view {X : Cx} {h : Heap C} {nx id : Nat} {lim : Lim} {t : TypeId} {d d' : D C} (g : G T X h nx lim) (ho : h.get id = some (.var t d)) (hR : ∀ cs, R T X false d cs → R T X false d' cs) (hf : fit T d' (.inl t) = true) (hr : ∀ r ∈ d'.refs, old nx lim r) :
    G T X (h.put id (.var t d')) nx lim := by
  have hs : (h.get id).isSome = true := by rw [ho]; rfl
  refine ⟨fun j u e hj => ?_, fun j u own l hj => ?_, fun j l hj => ?_, fun j o hj => ?_, g.apart, g.outer, g.outs, g.low⟩
  · rw [get_put hs] at hj
    by_cases hji : j = id
    · simp only [hji, if_true, Option.some.injEq, Obj.var.injEq] at hj
      obtain ⟨rfl, rfl⟩ := hj
      obtain ⟨b, c, h1, h2, h3, h4⟩ := g.var id t d ho
      exact ⟨b, c, by rw [hji]; exact h1, h2, hR _ h3, hf⟩
    · simp only [hji, if_false] at hj; exact g.var j u e hj
  · rw [get_put hs] at hj
    by_cases hji : j = id
    · simp [hji] at hj
    · simp only [hji, if_false] at hj; exact g.vec j u own l hj
  · rw [get_put hs]
    by_cases hji : j = id
    · simp [hji]
    · simp only [hji, if_false]; exact g.dom j l hj
  · rw [get_put hs] at hj
    by_cases hji : j = id
    · simp only [hji, if_true, Option.some.injEq] at hj
      subst hj
      exact ⟨by rw [hji]; exact (g.nums id _ ho).1, hr⟩
    · simp only [hji, if_false] at hj; exact g.nums j o hj

theorem empty_vec {X : Cx} {t : C.Ty} {v : Value} (h : R T X false (.sl t true []) [v]) : ∃ a, v = .slice a 0 0 ∧ ∃ b lo, VecOK T X t true [] v b lo lo := by
  have key : ∀ a : Option Addr, ∃ b lo, VecOK T X t true [] (.slice a 0 0) b lo lo := by
    intro a
    by_cases hq : ∃ b off, a = some ⟨b, off, none⟩
    · obtain ⟨b, off, rfl⟩ := hq
      exact ⟨b, off, .inr ⟨off, 0, rfl, Nat.le_refl _, by simp, .inl ⟨rfl, rfl, .inl rfl⟩⟩⟩
    · exact ⟨0, 0, .inl ⟨⟨a, rfl, fun b off e => hq ⟨b, off, e⟩⟩, rfl, Nat.le_refl _⟩⟩
  cases h with
  | sl0 _ _ a => exact ⟨a, rfl, key a⟩
  | sl ha hr hc hcap =>
    have := hcap rfl
    simp only [List.length_nil] at this
    subst this
    exact ⟨_, rfl, key _⟩

theorem adopt_slot (K : PLaws P T) {X : Cx} {h : Heap C} {nx t : Nat} {lim : Lim} {env : Env C} {tmps : Array Value} {ty : C.Ty} (g : G T X h nx lim) (he : EnvOK T X nx lim env tmps) (hn : nx < lim.top) (hs : eget env t = .sl ty true []) :
    ∃ X', X'.w = X.w ∧ G T X' ((nx, .vec ty true []) :: h) (nx + 1) lim ∧ Step X nx lim X' ∧ EnvOK T X' (nx + 1) lim ((t, .vs nx 0) :: env) tmps := by
  have h1 := (he t).1
  rw [hs] at h1
  have h2 := h1.one rfl
  obtain ⟨a, hv, b, lo, hV⟩ := empty_vec h2
  obtain ⟨X', w', ρ', g', s'⟩ := G.newRef K g hn (Nat.le_refl _) hV
  refine ⟨X', w', g', s', fun u => ?_⟩
  rw [eget_cons]
  by_cases hu : u = t
  · subst hu
    simp only [if_true]
    refine ⟨.inr ⟨rfl, ?_⟩, by simpa [D.refs] using g.new hn⟩
    rw [hv]
    refine .vs fun v e b' lo' hi' hq => ?_
    rw [ρ'] at hq
    simp only [Option.some.injEq, Loc.vec.injEq] at hq
    obtain ⟨rfl, _⟩ := hq
    rw [hv]; exact ⟨by simp [lenV], fun _ => rfl⟩
  · simp only [hu, if_false]
    exact (he u).step K.base s' (by omega)

def okPathB (T : Tab C) : TypeId → List Nat → Bool
  | _, [] => true
  | t, i :: p => match T.ty t with
    | .struct fs => Nat.blt i fs.length && okPathB T (fs.getD i 0) p
    | .arr n e _ => Nat.blt i n && okPathB T e p
    | _ => false
theorem okPathB_spec : ∀ (p : List Nat) (t : TypeId), okPathB T t p = true → okPath T t p := by
  intro p
  induction p with
  | nil => intro t _; trivial
  | cons i p ih =>
    intro t h
    simp only [okPathB] at h
    simp only [okPath]
    cases ht : T.ty t <;> simp only [ht, Bool.and_eq_true, Bool.false_eq_true] at h ⊢
    · exact ⟨by simpa [Nat.blt_eq] using h.1, ih _ h.2⟩
    · exact ⟨by simpa [Nat.blt_eq] using h.1, ih _ h.2⟩

theorem adopt_path (K : PLaws P T) {X : Cx} {h : Heap C} {nx id : Nat} {lim : Lim} {env : Env C} {tmps : Array Value} {ty : C.Ty} {u t' : TypeId} {d d' : D C} {p : List Nat} (g : G T X h nx lim) (he : EnvOK T X nx lim env tmps) (hn : nx < lim.top)
    (ho : h.get id = some (.var u d)) (hp : okPathB T u p = true) (hg : getPath T d p = some (.sl ty true [])) (hs : Ev.setPath T d p (.vs nx 0) = some d') (ht : tyAt T u p = some t') (hf : fit T (.vs nx 0 : D C) (.inl t') = true) :
    ∃ X', X'.w = X.w ∧ G T X' (Heap.put id (.var u d') ((nx, .vec ty true []) :: h)) (nx + 1) lim ∧ Step X nx lim X' ∧ EnvOK T X' (nx + 1) lim env tmps := by
  obtain ⟨b0, c0, h1, h2, h3, h4⟩ := g.var id u d ho
  obtain ⟨c1, c2, c3, hc, hl, hr, _⟩ := h3.path K.base p (okPathB_spec p u hp) h4 hg
  have hne : id ≠ nx := fun e => by have := (g.nums id _ ho).1.1; omega
  have hone : ∃ v, c2 = [v] := by
    cases hr with
    | sl0 => exact ⟨_, rfl⟩
    | sl => exact ⟨_, rfl⟩
  obtain ⟨v, rfl⟩ := hone
  obtain ⟨a, hv, b, lo, hV⟩ := empty_vec hr
  obtain ⟨X', w', ρ', g', s'⟩ := G.newRef K g hn (Nat.le_refl _) hV
  have hvs : R T X' false (.vs nx 0) [v] := by
    rw [hv]
    refine .vs fun v e b' lo' hi' hq => ?_
    rw [ρ'] at hq
    simp only [Option.some.injEq, Loc.vec.injEq] at hq
    obtain ⟨rfl, _⟩ := hq
    rw [hv]; exact ⟨by simp [lenV], fun _ => rfl⟩
  have hrefs : ∀ r ∈ d.refs, old nx lim r := (g.nums id _ ho).2
  have ho' : Heap.get id ((nx, .vec ty true []) :: h) = some (.var u d) := by rw [get_cons]; simp [hne, ho]
  obtain ⟨b1, c1', e1, e2, e3, e4⟩ := g'.var id u d ho'
  refine ⟨X', w', ?_, s', fun t => (he t).step K.base s' (by omega)⟩
  -- the object is seen otherwise; its cells are as they were
  have hs2 : (Heap.get id ((nx, .vec ty true []) :: h)).isSome = true := by rw [ho']; rfl
  obtain ⟨k1, k2, k3, q1, q2, q3, q4, q5⟩ := e3.setPath K.base p (okPathB_spec p u hp) e4 hs hvs ht hf
  obtain ⟨m1, m2, m3, n1, n2, n3, _⟩ := e3.path K.base p (okPathB_spec p u hp) e4 hg
  have hm2 : m2.length = 1 := by
    cases n3 with
    | sl0 => rfl
    | sl => rfl
  have hcc : c1'.toList = c0.toList := by
    have hw : X'.w.heap[b1]? = X.w.heap[b0]? := by
      have : X'.ρ id = X.ρ id ∨ True := .inr trivial
      rw [w']
      have hρ : Compat (X.ρ id) (X'.ρ id) := s'.ρ id (g.nums id _ ho).1
      rw [h1, e1] at hρ
      simp only [Compat, Loc.var.injEq] at hρ
      rw [hρ.1]
    rw [e2, h2] at hw
    simp only [Option.some.injEq, Obj.cells.injEq] at hw
    rw [hw.1]
  have heq : k1 ++ [v] ++ k3 = c1'.toList := by
    have a1 : k1 = c1 := by
      have : (k1 ++ k2 ++ k3).take (offAt T u p) = (c1 ++ [v] ++ c3).take (offAt T u p) := by rw [← q1, ← hc, hcc]
      rw [List.append_assoc, List.append_assoc, List.take_append_of_le_length (by omega), List.take_append_of_le_length (by omega), List.take_of_length_le (by omega), List.take_of_length_le (by omega)] at this
      exact this
    have a2 : k2 ++ k3 = [v] ++ c3 := by
      have : k1 ++ (k2 ++ k3) = c1 ++ ([v] ++ c3) := by rw [← List.append_assoc, ← List.append_assoc, ← q1, ← hc, hcc]
      rw [a1] at this
      exact List.append_cancel_left this
    have a3 : k3 = c3 := by
      simp only [List.length_singleton] at q3
      obtain ⟨y, rfl⟩ := List.length_eq_one_iff.1 q3
      simp at a2; exact a2.2
    rw [a1, a3, hcc, hc]
  rw [heq] at q4
  refine ⟨?_, ?_, ?_, ?_, g'.apart, g'.outer, g'.outs, g'.low⟩
  · intro j t e hj
    rw [get_put hs2] at hj
    by_cases hji : j = id
    · simp only [hji, if_true, Option.some.injEq, Ev.Obj.var.injEq] at hj
      obtain ⟨rfl, rfl⟩ := hj
      exact ⟨b1, c1', by rw [hji]; exact e1, e2, q4, q5⟩
    · simp only [hji, if_false] at hj; exact g'.var j t e hj
  · intro j t own l hj
    rw [get_put hs2] at hj
    by_cases hji : j = id
    · simp [hji] at hj
    · simp only [hji, if_false] at hj; exact g'.vec j t own l hj
  · intro j l hj
    rw [get_put hs2]
    by_cases hji : j = id
    · simp [hji]
    · simp only [hji, if_false]; exact g'.dom j l hj
  · intro j o hj
    rw [get_put hs2] at hj
    by_cases hji : j = id
    · simp only [hji, if_true, Option.some.injEq] at hj
      subst hj
      refine ⟨by rw [hji]; exact (g'.nums id _ ho').1, fun r hr => ?_⟩
      rcases refs_setPath K.base p hs r hr with h5 | h5
      · exact (hrefs r h5).mono (by omega)
      · simp only [D.refs, List.mem_singleton] at h5
        rw [h5]; exact g.new hn
    · simp only [hji, if_false] at hj; exact g'.nums j o hj

/-! ### the objects of a loop are found -/
inductive Fnd where
  | slot (t i : Nat)
  | path (j : Nat) (p : List Nat)

def findP {α : Type} (T : Tab C) : List Fnd → Env C → List Nat → (Env C → List Nat → Pg C α) → Pg C α
  | [], env, ids, k => k env ids
  | .slot t i :: r, env, ids, k => match eget env t with
    | .sl ty true [] => .nw (.vec ty true []) fun id => findP T r ((t, .vs id 0) :: env) (ids ++ [id]) k
    | d => match d.refs[i]? with
      | some id => findP T r env (ids ++ [id]) k
      | none => .fail
  | .path j p :: r, env, ids, k => match ids[j]? with
    | none => .fail
    | some idj => .rd idj fun
      | .var u d => match getPath T d p with
        | some (.sl ty true []) => match tyAt T u p with
          | some t' => bif okPathB T u p && fit T (.vs 0 0 : D C) (.inl t') then .nw (.vec ty true []) fun id => match Ev.setPath T d p (.vs id 0) with
            | some d' => .wr idj (.var u d') (findP T r env (ids ++ [id]) k)
            | none => .fail
            else .fail
          | none => .fail
        | some x => match x.refs with
          | id :: _ => findP T r env (ids ++ [id]) k
          | [] => .fail
        | none => .fail
      | _ => .fail

theorem findP_ok (K : PLaws P T) {α : Type} {e : Pg.Lv} {a : α} {h' : Heap C} {nx' : Nat} {lim : Lim} (hlim : nx' ≤ lim.top) {k : Env C → List Nat → Pg C α} {tmps : Array Value} : ∀ (l : List Fnd) (X : Cx) (h : Heap C) (nx : Nat) (tr : Tr) (env : Env C) (ids : List Nat),
    G T X h nx lim → EnvOK T X nx lim env tmps → Ex e (findP T l env ids k) h nx a h' nx' tr →
    ∃ X1 h1 nx1 env1 ids1 tr1, X1.w = X.w ∧ G T X1 h1 nx1 lim ∧ Step X nx lim X1 ∧ nx ≤ nx1 ∧ EnvOK T X1 nx1 lim env1 tmps ∧ Ex e (k env1 ids1) h1 nx1 a h' nx' tr1 := by
  intro l
  induction l with
  | nil => intro X h nx tr env ids g he hx; exact ⟨X, h, nx, env, ids, tr, rfl, g, .refl _ _ _, Nat.le_refl _, he, hx⟩
  | cons f l ih =>
    intro X h nx tr env ids g he hx
    cases f with
    | slot t i =>
      simp only [findP] at hx
      split at hx
      · rename_i ty hq
        obtain ⟨t', hx, _⟩ := Ex.nw hx
        have hle := hx.le
        obtain ⟨X1, w1, g1, s1, e1⟩ := adopt_slot K g he (by omega) hq
        obtain ⟨X2, h2, n2, env2, ids2, tr2, w2, g2, s2, hn2, e2, hx2⟩ := ih X1 _ _ _ _ _ g1 e1 hx
        exact ⟨X2, h2, n2, env2, ids2, tr2, by rw [w2, w1], g2, s1.trans s2 (by omega), by omega, e2, hx2⟩
      · split at hx
        · exact ih X h nx tr env _ g he hx
        · exact (Ex.fail hx).elim
    | path j p =>
      simp only [findP] at hx
      split at hx
      · exact (Ex.fail hx).elim
      · rename_i idj hj
        obtain ⟨o, t', ho, hx, _⟩ := Ex.rd hx
        cases o with
        | vec _ _ _ => exact (Ex.fail hx).elim
        | var u d =>
          simp only at hx
          split at hx
          · rename_i ty hq
            split at hx
            · rename_i t' ht
              cases hb : okPathB T u p && fit T (.vs 0 0 : D C) (.inl t') with
              | false => rw [hb] at hx; exact (Ex.fail hx).elim
              | true =>
                rw [hb] at hx
                simp only [cond_true] at hx
                simp only [Bool.and_eq_true] at hb
                obtain ⟨t1, hx, _⟩ := Ex.nw hx
                split at hx
                · rename_i d' hs
                  obtain ⟨o', t2, ho', hx, _⟩ := Ex.wr hx
                  have hle := hx.le
                  obtain ⟨X1, w1, g1, s1, e1⟩ := adopt_path K g he (by omega) ho hb.1 hq hs ht (by simpa [fit] using hb.2)
                  obtain ⟨X2, h2, n2, env2, ids2, tr2, w2, g2, s2, hn2, e2, hx2⟩ := ih X1 _ _ _ _ _ g1 e1 hx
                  exact ⟨X2, h2, n2, env2, ids2, tr2, by rw [w2, w1], g2, s1.trans s2 (by omega), by omega, e2, hx2⟩
                · exact (Ex.fail hx).elim
            · exact (Ex.fail hx).elim
          · split at hx
            · exact ih X h nx _ env _ g he hx
            · exact (Ex.fail hx).elim
          · exact (Ex.fail hx).elim

def rdAll {α : Type} : List Nat → (List (Obj C) → Pg C α) → Pg C α
  | [], k => k []
  | id :: r, k => .rd id fun o => rdAll r fun os => k (o :: os)
theorem rdAll_ok {α : Type} {e : Pg.Lv} {a : α} {h h' : Heap C} {nx nx' : Nat} : ∀ (ids : List Nat) (k : List (Obj C) → Pg C α) (tr : Tr), Ex e (rdAll ids k) h nx a h' nx' tr → ∃ os tr1, os.length = ids.length ∧ (∀ (j id : Nat) (o : Obj C), ids[j]? = some id → os[j]? = some o → h.get id = some o) ∧ Ex e (k os) h nx a h' nx' tr1
  | [], k, tr, hx => ⟨[], tr, rfl, by simp, hx⟩
  | id :: r, k, tr, hx => by
    obtain ⟨o, t', ho, hx, _⟩ := Ex.rd hx
    obtain ⟨os, tr1, h1, h2, h3⟩ := rdAll_ok r _ _ hx
    refine ⟨o :: os, tr1, by simp [h1], fun j i o' hj ho' => ?_, h3⟩
    cases j with
    | zero => simp at hj ho'; rw [← hj, ← ho']; exact ho
    | succ j => exact h2 j i o' (by simpa using hj) (by simpa using ho')

def wrAll {α : Type} : List Nat → List (Obj C) → Pg C α → Pg C α
  | [], [], k => k
  | id :: r, o :: os, k => .wr id o (wrAll r os k)
  | _, _, _ => .fail
theorem wrAll_ok {α : Type} {e : Pg.Lv} {a : α} {h' : Heap C} {nx nx' : Nat} {k : Pg C α} : ∀ (ids : List Nat) (os : List (Obj C)) (h : Heap C) (tr : Tr), ids.Nodup → Ex e (wrAll ids os k) h nx a h' nx' tr →
    ∃ h1 tr1, os.length = ids.length ∧ (∀ (j id : Nat) (o : Obj C), ids[j]? = some id → os[j]? = some o → h1.get id = some o) ∧ (∀ id, id ∉ ids → h1.get id = h.get id) ∧ Ex e k h1 nx a h' nx' tr1
  | [], [], h, tr, _, hx => ⟨h, tr, rfl, by simp, fun _ _ => rfl, hx⟩
  | id :: r, o :: os, h, tr, hn, hx => by
    obtain ⟨o', t', ho, hx, _⟩ := Ex.wr hx
    have hs : (h.get id).isSome = true := by rw [ho]; rfl
    obtain ⟨hn1, hn2⟩ := List.nodup_cons.1 hn
    obtain ⟨h1, tr1, q1, q2, q3, q4⟩ := wrAll_ok r os _ _ hn2 hx
    refine ⟨h1, tr1, by simp [q1], fun j i p hj hp => ?_, fun i hi => ?_, q4⟩
    · cases j with
      | zero =>
        simp at hj hp
        subst hj; subst hp
        rw [q3 _ hn1, get_put hs]; simp
      | succ j => exact q2 j i p (by simpa using hj) (by simpa using hp)
    · simp only [List.mem_cons, not_or] at hi
      rw [q3 i hi.2, get_put hs]; simp [hi.1]
  | [], _ :: _, _, _, _, hx => (Ex.fail hx).elim
  | _ :: _, [], _, _, _, hx => (Ex.fail hx).elim

def idx : List Nat → Nat → Nat
  | [], _ => 0
  | a :: l, n => bif Nat.beq a n then 0 else idx l n + 1
theorem idx_spec : ∀ (l : List Nat) (n : Nat), n ∈ l → l[idx l n]? = some n
  | [], n, h => by simp at h
  | a :: l, n, h => by
    rw [idx]
    cases hb : Nat.beq a n with
    | true => simp [Nat.eq_of_beq_eq_true hb]
    | false =>
      have hne := Nat.ne_of_beq_eq_false hb
      simp only [List.mem_cons] at h
      rcases h with h | h
      · exact absurd h.symm hne
      · simpa using idx_spec l n h
def freshN (n : Nat) : List Nat → Bool
  | [] => true
  | a :: l => !(Nat.beq a n) && freshN n l
theorem freshN_spec {n : Nat} : ∀ {l : List Nat}, freshN n l = true → n ∉ l
  | [], _ => by simp
  | a :: l, h => by
    simp only [freshN, Bool.and_eq_true, Bool.not_eq_true'] at h
    simp only [List.mem_cons, not_or]
    exact ⟨fun e => Nat.ne_of_beq_eq_false h.1 e.symm, freshN_spec h.2⟩
def nodupB : List Nat → Bool
  | [] => true
  | a :: l => freshN a l && nodupB l
theorem nodupB_spec : ∀ {l : List Nat}, nodupB l = true → l.Nodup
  | [], _ => List.nodup_nil
  | a :: l, h => by
    simp only [nodupB, Bool.and_eq_true] at h
    exact List.nodup_cons.2 ⟨freshN_spec h.1, nodupB_spec h.2⟩
def inB (ids l : List Nat) : Bool := l.all fun r => ids.any (Nat.beq r)
theorem inB_spec {ids l : List Nat} (h : inB ids l = true) : ∀ r ∈ l, r ∈ ids := by
  intro r hr
  have := List.all_eq_true.1 h r hr
  obtain ⟨x, hx, e⟩ := List.any_eq_true.1 this
  rw [Nat.eq_of_beq_eq_true e]; exact hx

/-- what a loop comes to, by tests -/
inductive RT (C : Cdc) where
  | fail
  | leaf (x : Ev.X) (env : Env C) (os : List (Obj C))
  | br (b : Bool) (l r : RT C)
def RT.val : RT C → Option ((Ev.X × Env C) × List (Obj C))
  | .fail => none
  | .leaf x env os => some ((x, env), os)
  | .br b l r => bif b then l.val else r.val
def RT.pg (ids : List Nat) : RT C → Pg C (Ev.X × Env C)
  | .fail => .fail
  | .leaf x env os => wrAll ids (os.map (Obj.ren fun j => ids.getD j 0)) (.ret (x, renE (fun j => ids.getD j 0) env))
  | .br b l r => .br b (l.pg ids) (r.pg ids)
theorem RT.pg_ok {e : Pg.Lv} {a : Ev.X × Env C} {h h' : Heap C} {nx nx' : Nat} {ids : List Nat} : ∀ (t : RT C) (tr : Tr), Ex e (t.pg ids) h nx a h' nx' tr → ∃ x env os, t.val = some ((x, env), os) ∧ Ex e (wrAll ids (os.map (Obj.ren fun j => ids.getD j 0)) (.ret (x, renE (fun j => ids.getD j 0) env))) h nx a h' nx' tr
  | .fail, tr, hx => (Ex.fail hx).elim
  | .leaf x env os, tr, hx => ⟨x, env, os, rfl, hx⟩
  | .br b l r, tr, hx => by
    rcases Ex.br hx with ⟨rfl, hx⟩ | ⟨rfl, hx⟩
    · exact RT.pg_ok l tr hx
    · exact RT.pg_ok r tr hx

/-- a loop's summary: its objects are found; what it comes to is said over the numbers 0, 1, .. -/
def sumO (T : Tab C) (fs : List Fnd) (slots : List Nat) (res : Env C → List (Obj C) → RT C) (env : Env C) : Pg C (Ev.X × Env C) :=
  findP T fs env [] fun env ids => bif nodupB ids then rdAll ids fun os =>
    bif inB ids (slots.flatMap fun t => (eget env t).refs) && inB ids (os.flatMap Obj.refs) then
      (res (slots.map fun t => (t, (eget env t).ren (idx ids))) (os.map (Obj.ren (idx ids)))).pg ids
    else .fail
  else .fail

theorem Obj.ren_ren (f g : Nat → Nat) (o : Obj C) (h : ∀ id ∈ o.refs, g (f id) = id) : (o.ren f).ren g = o := by
  cases o with
  | var t d => simp only [Obj.ren]; rw [D.ren_ren f g d h]
  | vec t own l => rfl

theorem loop_obj (K : PLaws P T) (F : FLaws P T Φ) {g key : Nat} {fs : List Fnd} {slots : List Nat} {res : Env C → List (Obj C) → RT C} {σ : Type} {S : LoopO C σ}
    (hr : ∀ fn body b, Φ.fn g = some fn → fn.body = some body → b ∈ loops body → firstRegion b = key → RoundO T Φ g b S)
    (hres : ∀ env0 os x env' os', (res env0 os).val = some ((x, env'), os') → ∃ q, S.Inv q ∧ (∀ p ∈ S.canon q, p ∈ env0) ∧ os = S.objs q ∧ S.fin q = (x, env') ∧ S.fobjs q = os') : LoopLaw P T Φ g key (sumO T fs slots res) := by
  intro fn body b hf hb hbl hkey B hB X h nx lim e env x env' h' nx' tr a Q gg he hlim hsz hx hk
  obtain ⟨f1, f2, f3⟩ := F.fn g fn hf
  obtain ⟨c1, c2⟩ := codeB_loop body (f3 body hb) b hbl
  have hround := hr fn body b hf hb hbl hkey
  obtain ⟨X1, h1, nx1, env1, ids, tr1, w1, g1, s1, hn1, e1, hx1⟩ := findP_ok K hlim fs X h nx tr env [] gg he hx
  cases hnd : nodupB ids with
  | false => rw [hnd] at hx1; exact (Ex.fail hx1).elim
  | true =>
  rw [hnd] at hx1
  simp only [cond_true] at hx1
  have hnodup := nodupB_spec hnd
  obtain ⟨os, tr2, hlen, hos, hx2⟩ := rdAll_ok ids _ _ hx1
  cases hin : inB ids (slots.flatMap fun t => (eget env1 t).refs) && inB ids (os.flatMap Obj.refs) with
  | false => rw [hin] at hx2; exact (Ex.fail hx2).elim
  | true =>
  rw [hin] at hx2
  simp only [cond_true] at hx2
  simp only [Bool.and_eq_true] at hin
  have hin1 := inB_spec hin.1
  have hin2 := inB_spec hin.2
  obtain ⟨xx, ee, os', hq, hx3⟩ := RT.pg_ok _ _ hx2
  · · obtain ⟨q, hI, hsub, hobjs, hfin, hfo⟩ := hres _ _ _ _ _ hq
      obtain ⟨hr1, hr2, _⟩ := hround q hI
      obtain ⟨h2, tr3, hl2, hw1, hw2, hx4⟩ := wrAll_ok ids _ h1 _ hnodup hx3
      obtain ⟨hxx, eh, en, _⟩ := Ex.ret hx4
      obtain ⟨rfl, rfl⟩ := Prod.mk.inj hxx
      subst eh
      subst en
      let f : Nat → Nat := fun j => ids.getD j 0
      have hfj : ∀ j, j < ids.length → ids[j]? = some (f j) := fun j hj => by simp [f, hj]
      have hk0 : ids.length = S.k := by rw [← hr1.1, ← hobjs]; simp [hlen]
      have hff : ∀ r, r ∈ ids → f (idx ids r) = r := fun r hr => by
        have := idx_spec ids r hr
        simp only [f, List.getD_eq_getElem?_getD, this, Option.getD_some]
      have hlenO : (S.objs q).length = ids.length := by rw [hr1.1, hk0]
      have part : Part h1 (S.objs q) f := by
        refine ⟨fun j o ho => ?_, fun i j hi hj hij => ?_, fun o ho r hr => by rw [hr1.1]; exact hr1.2.2 o ho r hr⟩
        · rw [← hobjs, List.getElem?_map] at ho
          cases hoj : os[j]? with
          | none => simp [hoj] at ho
          | some o0 =>
            simp only [hoj, Option.map_some, Option.some.injEq] at ho
            have hj : j < ids.length := by rw [← hlen]; exact (List.getElem?_eq_some_iff.1 hoj).1
            rw [hos j (f j) o0 (hfj j hj) hoj, ← ho, Obj.ren_ren]
            intro id hid
            exact hff id (hin2 id (List.mem_flatMap.2 ⟨o0, List.mem_of_getElem? hoj, hid⟩))
        · rw [hlenO] at hi hj
          have := (List.getElem?_inj hi hnodup (j := j)).1 (by rw [hfj i hi, hfj j hj]; simp only [f] at hij ⊢; rw [hij])
          exact this
      have g2 := Part.ctx K.base g1 part (S.objs q).length
      have e2 : EnvOK T (X1.part (S.objs q).length f) (S.objs q).length (lim0 (S.objs q).length) (S.canon q) a.tmps := by
        refine EnvOK.part K.base e1 part.inj (fun p hp => ?_) (fun p hp r hr => by rw [hr1.1]; exact hr1.2.1 p hp r hr)
        have := hsub p hp
        simp only [List.mem_map] at this
        obtain ⟨t, ht, rfl⟩ := this
        simp only
        rw [D.ren_ren]
        intro id hid
        exact hff id (hin1 id (List.mem_flatMap.2 ⟨t, ht, hid⟩))
      rw [hr1.1] at g2 e2
      rw [← w1]
      show (Code.loop b).wp P Q a (X1.part S.k f).w
      refine wp_loop_rounds (S.μ q + 1) (rounds_obj K F hround hf hb c1 c2 hB (S.μ q + 1) q (X1.part S.k f) a hI (by omega) g2 e2 hsz fun a' X' g' s' e' hs' hd' kp' => ?_)
      rw [hfo] at g'
      rw [hfin] at e'
      have hlen' : os'.length = (S.objs q).length := by rw [← hfo, hr2.1, hr1.1]
      have hrefs' : ∀ o ∈ os', ∀ r ∈ Obj.refs o, r < (S.objs q).length := fun o ho r hr => by rw [hr1.1]; exact hr2.2.2 o (by rw [hfo]; exact ho) r hr
      obtain ⟨X2, w2, g3, s3, hρ, hB2⟩ := Part.back K.base g1 part hlen' hrefs' (X1 := X') (lim1 := lim0 S.k) (h' := h') (by rw [hr1.1]; exact g') (by rw [hr1.1]; exact s') (fun j o hj => by
          have hlt : j < ids.length := by rw [← hlenO, ← hlen']; exact (List.getElem?_eq_some_iff.1 hj).1
          exact hw1 j (f j) _ (hfj j hlt) (by rw [List.getElem?_map, hj]; rfl)) (fun id hid => by
          refine hw2 id fun hm => ?_
          obtain ⟨j, hj, hjj⟩ := List.getElem_of_mem hm
          refine hid j (by rw [hlenO]; exact hj) ?_
          simp [f, hj, hjj])
      have hold : ∀ j, j < S.k → old nx' lim (f j) := fun j hj => by
        have hj' : j < (S.objs q).length := by rw [hr1.1]; exact hj
        exact (g1.nums _ _ (part.at' j (S.objs q)[j] (by simp [hj']))).1
      have e3 := EnvOK.back (nx := nx') (lim := lim) (f := f) K.base e' (fun p hp r hr => hr2.2.1 p (by rw [hfin]; exact hp) r hr) (fun j hj => hρ j (by rw [hr1.1]; exact hj)) hB2 hold
      have := hk a' X2 g3 (s1.trans s3 hn1) e3 hs' hd' kp'
      rw [w2] at this
      rw [hfin]
      exact this

/-! ### by trees -/
def getsL : Nat → Nat → Heap C → List (Option (Obj C))
  | _, 0, _ => []
  | n, k + 1, h => h.get n :: getsL (n + 1) k h
theorem getsL_get : ∀ (k n : Nat) (h : Heap C) (os : List (Obj C)), getsL n k h = os.map some → ∀ j, j < k → h.get (n + j) = os[j]?
  | 0, _, _, _, _, j, hj => by omega
  | k + 1, n, h, [], e, j, hj => by simp [getsL] at e
  | k + 1, n, h, o :: os, e, j, hj => by
    simp only [getsL, List.map_cons, List.cons.injEq] at e
    cases j with
    | zero => simpa using e.1
    | succ j =>
      have := getsL_get k (n + 1) h os e.2 j (by omega)
      rw [show n + (j + 1) = n + 1 + j by omega, this]; simp

def rndO (T : Tab C) (Φ : Fns C) (g key n k : Nat) (kc kf : List Nat) (env : Env C) (os : List (Obj C)) : Option ((Ev.X × Env C) × List (Option (Obj C))) := (evC T Φ n g (bodyAt Φ g key) env).run (0, 0) (hpOf 0 os) k [] fun a h _ _ => some (cut kc kf a, getsL 0 k h)

def LedO {σ : Type} (S : LoopO C σ) (s : σ) (r : (Ev.X × Env C) × List (Option (Obj C))) : Prop :=
  (r.1.1 = .normal ∧ ∃ s', S.Inv s' ∧ S.μ s' < S.μ s ∧ S.fin s' = S.fin s ∧ S.fobjs s' = S.fobjs s ∧ r.1.2 = S.canon s' ∧ r.2 = (S.objs s').map some) ∨ (r.1.1 ≠ .normal ∧ r.1 = S.fin s ∧ r.2 = (S.fobjs s).map some)

theorem FLaws.addRoundsO (K : PLaws P T) (F : FLaws P T Φ) {g key : Nat} (hkeys : keysB (loopsOf Φ g) = true) {σ : Type} (S : LoopO C σ) (n : Nat) (kc kf : List Nat) (fs : List Fnd) (slots : List Nat) (res : Env C → List (Obj C) → RT C)
    (hr : ∀ q, S.Inv q → RefsOK S.k (S.canon q) (S.objs q) ∧ RefsOK S.k (S.fin q).2 (S.fobjs q) ∧ Leaf (rndO T Φ g key n S.k kc kf (S.canon q) (S.objs q)) (LedO S q))
    (hres : ∀ env0 os x env' os', (res env0 os).val = some ((x, env'), os') → ∃ q, S.Inv q ∧ (∀ p ∈ S.canon q, p ∈ env0) ∧ os = S.objs q ∧ S.fin q = (x, env') ∧ S.fobjs q = os') : FLaws P T (Φ.addLoop g key (sumO T fs slots res)) := by
  refine F.addLoop (loop_obj K F (S := S) (fun fn body b hf hb hm hkey q hI => ?_) hres)
  obtain ⟨h1, h2, r, h3, h4⟩ := hr q hI
  rw [rndO, bodyAt_eq hkeys hf hb hm hkey] at h3
  obtain ⟨⟨x, env'⟩, h', nx', tr, h5, h6⟩ := Pg.run_some h3
  simp only [Option.some.injEq] at h6
  refine ⟨h1, h2, n, x, env', h', nx', tr, h5, ?_⟩
  subst h6
  rcases h4 with ⟨h4, s', a1, a2, a3, a3b, a4, a5⟩ | ⟨h4, h7, h8⟩
  · have hg := getsL_get S.k 0 h' _ a5
    simp only [Nat.zero_add] at hg
    cases x with
    | normal => exact .inl ⟨rfl, s', a1, a2, a3, a3b, by rw [← a4]; exact sel_sub _ _, hg⟩
    | exit id => simp [cut] at h4
    | ret => simp [cut] at h4
  · have hg := getsL_get S.k 0 h' _ h8
    simp only [Nat.zero_add] at hg
    cases x with
    | normal => simp [cut] at h4
    | exit id => exact .inr ⟨by simp, by rw [← h7]; rfl, by rw [← h7]; exact sel_sub _ _, hg⟩
    | ret => exact .inr ⟨by simp, by rw [← h7]; rfl, by rw [← h7]; exact sel_sub _ _, hg⟩
end
end Go.Ev
