/-
  Laws of functions put together; loops that touch no objects.
-/
import Derived.Test.YtnphmfcnnpoinaaEvX
namespace Go.Ev
set_option linter.unusedVariables false
set_option linter.unusedSimpArgs false

section
variable {C : Cdc} {P : Program} {T : Tab C} {Φ : Fns C}
open Pg (Ex)

/-! ### Functions -/
def fnB (P : Program) (f : FuncId) : Bool := match P.funcs[f]? with
  | some fn => !(fn.name == "runtime.NumGoroutine") && (match fn.body with
    | some b => codeB fn.ntmps b
    | none => true)
  | none => true
def fnsB (P : Program) : Nat → Bool
  | 0 => true
  | n + 1 => fnB P n && fnsB P n
theorem fnsB_spec : ∀ (n f : Nat), fnsB P n = true → f < n → fnB P f = true
  | 0, f, _, h => by omega
  | n + 1, f, h, hf => by
    simp only [fnsB, Bool.and_eq_true] at h
    by_cases he : f = n
    · subst he; exact h.1
    · exact fnsB_spec n f h.2 (by omega)

def noFns (P : Program) (n : Nat) (keeps : FuncId → Bool) : Fns C where
  fn f := bif Nat.blt f n then P.funcs[f]? else none
  keeps := keeps
  spec _ := none
  loop _ _ := none
def Fns.addSpec (Φ : Fns C) (g : FuncId) (s : List (D C) → Option (Bool × D C)) : Fns C := { Φ with spec := fun f => bif Nat.beq f g then some s else Φ.spec f }
def Fns.addLoop (Φ : Fns C) (g key : Nat) (s : Env C → Pg C (Ev.X × Env C)) : Fns C := { Φ with loop := fun f k => bif Nat.beq f g && Nat.beq k key then some s else Φ.loop f k }

theorem noFns_laws {n : Nat} {keeps : FuncId → Bool} (h : fnsB P n = true) : FLaws P T (noFns P n keeps) where
  fn f fn hf := by
    simp only [noFns] at hf
    cases hb : Nat.blt f n with
    | false => simp [hb] at hf
    | true =>
      simp only [hb, cond_true] at hf
      have := fnsB_spec n f h (by simpa [Nat.blt_eq] using hb)
      simp only [fnB, hf, Bool.and_eq_true, Bool.not_eq_true'] at this
      refine ⟨hf, this.1, fun body hbody => ?_⟩
      have h2 := this.2
      rw [hbody] at h2; exact h2
  spec g s args d hs := by simp [noFns] at hs
  loop f fn body b s _ _ _ hs := by simp [noFns] at hs

theorem FLaws.addSpec (F : FLaws P T Φ) {g : FuncId} {s : List (D C) → Option (Bool × D C)}
    (hs : ∀ args d, s args = some (true, d) → ∀ X h nx lim vs, G T X h nx lim → RVs T X args vs → (∀ a ∈ args, ∀ id ∈ D.refs a, old nx lim id) →
      (callFunc g ⟨vs⟩).run P X.w = .ok (.enter g ⟨vs⟩) X.w ∧ Calls P g ⟨vs⟩ X.w (CallPost T X nx lim h nx d)) : FLaws P T (Φ.addSpec g s) where
  fn := F.fn
  spec f s' args d h1 h2 := by
    simp only [Fns.addSpec] at h1
    cases hb : Nat.beq f g with
    | false => simp only [hb, cond_false] at h1; exact F.spec f s' args d h1 h2
    | true =>
      simp only [hb, cond_true, Option.some.injEq] at h1
      subst h1
      have := Nat.eq_of_beq_eq_true hb
      subst this
      exact hs args d h2
  loop := F.loop

/-- a summary by the evaluator itself -/
theorem FLaws.addEv (K : PLaws P T) (F : FLaws P T Φ) {g : FuncId} {s : List (D C) → Option (Bool × D C)} (hs : ∀ args d, s args = some (true, d) → (∀ a ∈ args, D.refs a = []) ∧ ∃ n, evF T Φ n g args = some d) : FLaws P T (Φ.addSpec g s) :=
  F.addSpec fun args d h X hp nx lim vs gg hvs _ => by
    obtain ⟨h1, n, h2⟩ := hs args d h
    exact evF_spec K F h2 h1 gg hvs

def LoopLaw (P : Program) (T : Tab C) (Φ : Fns C) (g key : Nat) (s : Env C → Pg C (Ev.X × Env C)) : Prop :=
  ∀ fn body b, Φ.fn g = some fn → fn.body = some body → b ∈ loops body → firstRegion b = key → ∀ B, ClearC B b → ∀ X h nx lim e env x env' h' nx' tr a Q, G T X h nx lim → EnvOK T X nx lim env a.tmps → nx' ≤ lim.top → fn.ntmps ≤ a.tmps.size →
    Ex e (s env) h nx (x, env') h' nx' tr → CPost T B X nx lim h' nx' env' a (Q (exitX x)) → (Code.loop b).wp P Q a X.w

theorem FLaws.addLoop (F : FLaws P T Φ) {g key : Nat} {s : Env C → Pg C (Ev.X × Env C)} (hs : LoopLaw P T Φ g key s) : FLaws P T (Φ.addLoop g key s) where
  fn := F.fn
  spec := F.spec
  loop f fn body b s' h1 h2 h3 h4 := by
    simp only [Fns.addLoop] at h4
    cases hb : Nat.beq f g && Nat.beq (firstRegion b) key with
    | false => simp only [hb, cond_false] at h4; exact F.loop f fn body b s' h1 h2 h3 h4
    | true =>
      simp only [hb, cond_true, Option.some.injEq] at h4
      subst h4
      simp only [Bool.and_eq_true] at hb
      have e1 := Nat.eq_of_beq_eq_true hb.1
      have e2 := Nat.eq_of_beq_eq_true hb.2
      subst e1
      exact hs fn body b h1 h2 h3 e2

/-! ### Loops that touch no objects -/
/-- the slots that one environment names are in the other what they are in it -/
def Sub (env env0 : Env C) : Prop := ∀ p ∈ env0, eget env p.1 = p.2

theorem eget_mem : ∀ (env : Env C) (t : Nat), eget env t = .top ∨ (t, eget env t) ∈ env
  | [], t => .inl rfl
  | (j, d) :: r, t => by
    rw [eget_cons]
    by_cases h : t = j
    · subst h; simp
    · simp only [h, if_false]
      rcases eget_mem r t with h' | h'
      · exact .inl h'
      · exact .inr (by simp [h'])

theorem EnvOK.sub {X : Cx} {nx nx' : Nat} {lim lim' : Lim} {env env0 : Env C} {tmps : Array Value} (he : EnvOK T X nx lim env tmps) (hs : Sub env env0) (hr : ∀ p ∈ env0, D.refs p.2 = []) : EnvOK T X nx' lim' env0 tmps := by
  intro t
  rcases eget_mem env0 t with h | h
  · rw [h]; exact RO.mk (RV.top _ _ _) rfl
  · refine ⟨?_, ?_⟩
    · have := hs _ h
      simp only at this
      rw [← this]; exact (he t).1
    · rw [hr _ h]; simp

/-- blocks are added alone -/
structure Grown (w w' : World) : Prop where
  size : w.heap.size ≤ w'.heap.size
  same : ∀ b, b < w.heap.size → w'.heap[b]? = w.heap[b]?
  os : w'.os = w.os
  tape : w'.tape = w.tape
  output : w'.output = w.output
  frz : ∀ a, w'.frozen? a = w.frozen? a
theorem Grown.refl (w : World) : Grown w w := ⟨Nat.le_refl _, fun _ _ => rfl, rfl, rfl, rfl, fun _ => rfl⟩
theorem Grown.trans {w w' w'' : World} (h : Grown w w') (k : Grown w' w'') : Grown w w'' :=
  ⟨Nat.le_trans h.size k.size, fun b hb => (k.same b (Nat.lt_of_lt_of_le hb h.size)).trans (h.same b hb), k.os.trans h.os, k.tape.trans h.tape, k.output.trans h.output, fun a => (k.frz a).trans (h.frz a)⟩

/-- environments that name no objects: what they hold does not hang on whose an object is -/
theorem EnvOK.move (L : Laws T) {X X' : Cx} {nx nx' : Nat} {lim lim' : Lim} {env : Env C} {tmps : Array Value} (he : EnvOK T X nx lim env tmps) (hr : ∀ p ∈ env, D.refs p.2 = [])
    (hk : ∀ b o v, X.w.cell? ⟨b, o, none⟩ = some v → X.free b o → X'.w.cell? ⟨b, o, none⟩ = some v ∧ X'.free b o) : EnvOK T X' nx' lim' env tmps := by
  intro t
  have h0 : (eget env t).refs = [] := by
    rcases eget_mem env t with h | h
    · rw [h]; rfl
    · exact hr _ h
  refine ⟨(he t).1.mono T L.encRefs hk fun id hi => ?_, ?_⟩
  · rw [h0] at hi; simp at hi
  · rw [h0]; simp

structure LoopSt (C : Cdc) (σ : Type) where
  canon : σ → Env C
  fin : σ → Ev.X × Env C
  Inv : σ → Prop
  μ : σ → Nat

def RoundOK (T : Tab C) (Φ : Fns C) (g : FuncId) (b : Code) {σ : Type} (S : LoopSt C σ) : Prop :=
  ∀ s, S.Inv s → (∀ p ∈ S.canon s, D.refs p.2 = []) ∧ (∀ p ∈ (S.fin s).2, D.refs p.2 = []) ∧ ∃ n x env' h' nx' tr, Ex (0, 0) (evC T Φ n g b (S.canon s)) [] 0 (x, env') h' nx' tr ∧
    ((x = .normal ∧ ∃ s', S.Inv s' ∧ S.μ s' < S.μ s ∧ S.fin s' = S.fin s ∧ Sub env' (S.canon s')) ∨ (x ≠ .normal ∧ x = (S.fin s).1 ∧ Sub env' (S.fin s).2))

theorem rounds_pure (K : PLaws P T) (F : FLaws P T Φ) {g : FuncId} {fn : Func} {body b : Code} {σ : Type} {S : LoopSt C σ} (hr : RoundOK T Φ g b S) (hf : Φ.fn g = some fn) (hb : fn.body = some body) (hcb : codeB fn.ntmps b = true) (hl : ∀ b' ∈ loops b, b' ∈ loops body) {B : Nat → Bool} (hB : ClearC B b)
    {O : Nat → Nat → Prop} {Q : Exit → Act → World → Prop} : ∀ (k : Nat) (s : σ) (w : World) (a : Act), S.Inv s → S.μ s < k → (∀ b o, O b o → b < w.heap.size) → EnvOK T ⟨w, fun _ => none, O⟩ 0 (lim0 0) (S.canon s) a.tmps → fn.ntmps ≤ a.tmps.size →
      (∀ a' w', Grown w w' → EnvOK T ⟨w', fun _ => none, O⟩ 0 (lim0 0) (S.fin s).2 a'.tmps → a'.tmps.size = a.tmps.size → a'.defers = a.defers → Kp B a.tmps a'.tmps → Q (exitX (S.fin s).1) a' w') → Code.rounds P b Q k a w := by
  intro k
  induction k with
  | zero => intro s w a _ hm; omega
  | succ k ih =>
    intro s w a hI hm hO he hsz hk
    obtain ⟨hr1, hr2, n, x, env', h', nx', tr, hx, hcase⟩ := hr s hI
    rw [rounds_succ]
    have g0 := G.start (T := T) w O hO nx'
    refine (code_ok K F n).1 g fn body b hf hb hcb hl B hB ⟨w, fun _ => none, O⟩ [] 0 (lim0 nx') (0, 0) (S.canon s) x env' h' nx' tr a _ g0 (he.move K.base hr1 fun _ _ _ h1 h2 => ⟨h1, h2⟩) (Nat.le_refl _) hsz hx ?_
    intro a1 X1 g1 s1 e1 hs1 hd1 kp1
    have hO1 : X1.O = O := s1.O
    have hgrown : Grown w X1.w := ⟨s1.size, fun b hb => s1.block b hb (fun o hm => by obtain ⟨_, _, hq, _⟩ := hm; simp at hq), s1.os, s1.tape, s1.output, s1.frz⟩
    have hfree : ∀ b o v, X1.w.cell? ⟨b, o, none⟩ = some v → X1.free b o → X1.w.cell? ⟨b, o, none⟩ = some v ∧ Cx.free ⟨X1.w, fun _ => none, O⟩ b o := fun b o v h1 h2 =>
      ⟨h1, by have := h2.1; rw [hO1] at this; exact this, fun hm => by obtain ⟨_, _, hq, _⟩ := hm; simp at hq⟩
    rcases hcase with ⟨rfl, s', hI', hmu, hfin, hsub⟩ | ⟨hne, hxf, hsub⟩
    · obtain ⟨hr1', _, _⟩ := hr s' hI'
      refine ih s' X1.w a1 hI' (by omega) (fun b o ho => Nat.lt_of_lt_of_le (hO b o ho) s1.size) (EnvOK.move K.base (e1.sub (nx' := 0) (lim' := lim0 0) hsub hr1') hr1' hfree) (by omega) fun a2 w2 hg2 e2 hs2 hd2 kp2 => ?_
      rw [hfin] at e2 ⊢
      exact hk a2 w2 (hgrown.trans hg2) e2 (by omega) (by rw [hd2, hd1]) (kp1.trans kp2)
    · have hfinal : Q (exitX (S.fin s).1) a1 X1.w := hk a1 X1.w hgrown (EnvOK.move K.base (e1.sub (nx' := 0) (lim' := lim0 0) hsub hr2) hr2 hfree) hs1 hd1 kp1
      rw [← hxf] at hfinal
      cases x with
      | normal => exact (hne rfl).elim
      | exit id => exact hfinal
      | ret => exact hfinal

theorem codeB_loop {nt : Nat} : ∀ (c : Code), codeB nt c = true → ∀ b ∈ loops c, codeB nt b = true ∧ ∀ b' ∈ loops b, b' ∈ loops c
  | .seq x y, h, b, hb => by
    simp only [codeB, Bool.and_eq_true] at h
    simp only [loops, List.mem_append] at hb ⊢
    rcases hb with hb | hb
    · obtain ⟨q1, q2⟩ := codeB_loop x h.1 b hb; exact ⟨q1, fun b' h' => .inl (q2 b' h')⟩
    · obtain ⟨q1, q2⟩ := codeB_loop y h.2 b hb; exact ⟨q1, fun b' h' => .inr (q2 b' h')⟩
  | .cond _ x y, h, b, hb => by
    simp only [codeB, Bool.and_eq_true] at h
    simp only [loops, List.mem_append] at hb ⊢
    rcases hb with hb | hb
    · obtain ⟨q1, q2⟩ := codeB_loop x h.1 b hb; exact ⟨q1, fun b' h' => .inl (q2 b' h')⟩
    · obtain ⟨q1, q2⟩ := codeB_loop y h.2 b hb; exact ⟨q1, fun b' h' => .inr (q2 b' h')⟩
  | .block _ x, h, b, hb => by
    simp only [codeB] at h
    simp only [loops] at hb ⊢
    exact codeB_loop x h b hb
  | .loop x, h, b, hb => by
    simp only [codeB] at h
    simp only [loops, List.mem_cons] at hb ⊢
    rcases hb with rfl | hb
    · exact ⟨h, fun b' h' => .inr h'⟩
    · obtain ⟨q1, q2⟩ := codeB_loop x h b hb; exact ⟨q1, fun b' h' => .inr (q2 b' h')⟩
  | .skip, _, b, hb => by simp [loops] at hb
  | .region _ _ _, _, b, hb => by simp [loops] at hb
  | .rangeFunc _ _ _ _, _, b, hb => by simp [loops] at hb
  | .exit _, _, b, hb => by simp [loops] at hb
  | .scope _, _, b, hb => by simp [loops] at hb
  | .label _, _, b, hb => by simp [loops] at hb
  | .goto _, _, b, hb => by simp [loops] at hb
  | .ret, _, b, hb => by simp [loops] at hb

/-- the law of a loop from the law of its rounds -/
theorem loop_pure (K : PLaws P T) (F : FLaws P T Φ) {g key : Nat} {s : Env C → Pg C (Ev.X × Env C)} {σ : Type} {S : LoopSt C σ} (hr : ∀ fn body b, Φ.fn g = some fn → fn.body = some body → b ∈ loops body → firstRegion b = key → RoundOK T Φ g b S)
    (hs : ∀ e h nx env x env' h' nx' tr, Ex e (s env) h nx (x, env') h' nx' tr → h' = h ∧ nx' = nx ∧ ∃ q, S.Inv q ∧ Sub env (S.canon q) ∧ S.fin q = (x, env')) : LoopLaw P T Φ g key s := by
  intro fn body b hf hb hbl hkey B hB X h nx lim e env x env' h' nx' tr a Q gg he hlim hsz hx hk
  obtain ⟨rfl, rfl, q, hI, hsub, hfin⟩ := hs _ _ _ _ _ _ _ _ _ hx
  obtain ⟨f1, f2, f3⟩ := F.fn g fn hf
  obtain ⟨c1, c2⟩ := codeB_loop body (f3 body hb) b hbl
  have hround := hr fn body b hf hb hbl hkey
  obtain ⟨hr1, hr2, _⟩ := hround q hI
  refine wp_loop_rounds (S.μ q + 1) (rounds_pure K F hround hf hb c1 c2 hB (O := fun b o => X.O b o ∨ X.mine b o) (S.μ q + 1) q X.w a hI (by omega) (fun b o ho => ho.elim (gg.outs b o) fun hm => (gg.outer b o hm).2) ?_ hsz fun a' w' hg e' hs' hd' kp' => ?_)
  · exact EnvOK.move K.base (he.sub (nx' := 0) (lim' := lim0 0) hsub hr1) hr1 fun b o v h1 h2 => ⟨h1, fun ho => ho.elim h2.1 h2.2, fun hm => by obtain ⟨_, _, hq, _⟩ := hm; simp at hq⟩
  · obtain ⟨g', s'⟩ := gg.grow K.base w' hg.size hg.same hg.os hg.tape hg.output hg.frz
    rw [hfin] at e' hr2 ⊢
    exact hk a' ⟨w', X.ρ, X.O⟩ g' s' (EnvOK.move K.base e' hr2 fun b o v h1 h2 => ⟨h1, fun ho => h2.1 (Or.inl ho), fun hm => h2.1 (Or.inr hm)⟩) hs' hd' kp'
end
end Go.Ev
