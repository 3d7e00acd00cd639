/-
  StreamWords returns true for any line and any number, and they read behind the call as before. No condition beyond the given statement. (text 3)
-/
import Derived.Test.YtkmlajifcoomcaaGreatP1
import Derived.Test.YtkmlajifcoomcaaGreatProg
import Derived.KernelRfl
import Derived.OpenShut
import Derived.ReadAgain
import Derived.WalkKit
import Derived.ProofKit
import Derived.Test.YtkmlajifcoomcaaGreatRows
namespace Go.Ev
set_option linter.unusedVariables false
set_option linter.unusedSimpArgs false
section
variable {C : Cdc} {P : Program} {T : Tab C} {Φ : Fns C}
open Pg (Ex)
def exitX : Ev.X → Exit
  | .normal => .normal
  | .exit id => .exit id
  | .ret => .ret
def opsB (nt : Nat) (ops : Array Oper) : Bool := ops.toList.all fun o => match o.dst with
  | some t => Nat.blt t nt
  | none => true
def drawB (ops : Array Oper) : Bool :=
  let b := Region.before ops
  ops.toList.zipIdx.all fun x => x.1.after.toList.all (fun e => !Region.binds .any e || Nat.blt e.on x.2) &&
    ops.toList.zipIdx.all fun y => !(Nat.blt x.2 y.2) || (b.getD y.2 0).testBit x.2 || x.1.apart ops y.1
def codeB (nt : Nat) : Code → Bool
  | .region _ ops draw => opsB nt ops && (!draw || drawB ops)
  | .seq a b => codeB nt a && codeB nt b
  | .cond _ a b => codeB nt a && codeB nt b
  | .block _ a => codeB nt a
  | .loop a => codeB nt a
  | _ => true
def loops : Code → List Code
  | .seq a b => loops a ++ loops b
  | .cond _ a b => loops a ++ loops b
  | .block _ a => loops a
  | .loop a => a :: loops a
  | _ => []
theorem opsB_spec {nt : Nat} {ops : Array Oper} (h : opsB nt ops = true) : ∀ o ∈ ops.toList, ∀ t, o.dst = some t → t < nt := by
  intro o ho t ht
  simp only [opsB, List.all_eq_true] at h
  have := h o ho
  rw [ht] at this
  simpa [Nat.blt_eq] using this
theorem drawB_spec {ops : Array Oper} (h : drawB ops = true) : DrawOK ops := by
  simp only [drawB, List.all_eq_true, Bool.and_eq_true] at h
  have mem : ∀ i o, ops[i]? = some o → (o, i) ∈ ops.toList.zipIdx := by
    intro i o hi
    rw [List.mem_zipIdx_iff_getElem?]
    rw [Array.getElem?_toList]; exact hi
  refine ⟨fun i o hi e he hb => ?_, fun i j oi oj hij hi hj => ?_⟩
  · have := (h (o, i) (mem i o hi)).1 e (by simpa using he)
    simpa [hb, Nat.blt_eq] using this
  · have := (h (oi, i) (mem i oi hi)).2 (oj, j) (mem j oj hj)
    simp only [Bool.or_eq_true, Bool.not_eq_true'] at this
    rcases this with (h1 | h1) | h1
    · have h2 : Nat.blt i j = true := by rw [Nat.blt_eq]; exact hij
      rw [h2] at h1; cases h1
    · exact .inl h1
    · exact .inr h1
def ClearC (B : Nat → Bool) (c : Code) : Prop := ∀ t ∈ asgL c, B t = false
def CPost (T : Tab C) (B : Nat → Bool) (X : Cx) (nx : Nat) (lim : Lim) (h' : Heap C) (nx' : Nat) (env' : Env C) (a : Act) (Q : Act → World → Prop) : Prop :=
  ∀ a' X', G T X' h' nx' lim → Step X nx lim X' → EnvOK T X' nx' lim env' a'.tmps → a'.tmps.size = a.tmps.size → a'.defers = a.defers → Kp B a.tmps a'.tmps → Q a' X'.w
structure FLaws (P : Program) (T : Tab C) (Φ : Fns C) : Prop where
  fn : ∀ f fn, Φ.fn f = some fn → P.funcs[f]? = some fn ∧ (fn.name == "runtime.NumGoroutine") = false ∧ ∀ body, fn.body = some body → codeB fn.ntmps body = true
  spec : ∀ g s args d, Φ.spec g = some s → s args = some (true, d) → ∀ X h nx lim vs, G T X h nx lim → RVs T X args vs → (∀ a ∈ args, ∀ id ∈ D.refs a, old nx lim id) →
    (callFunc g ⟨vs⟩).run P X.w = .ok (.enter g ⟨vs⟩) X.w ∧ Calls P g ⟨vs⟩ X.w (CallPost T X nx lim h nx d)
  ospec : ∀ g s, Φ.ospec g = some s → ∀ args vs X h nx lim e d h' nx' tr, G T X h nx lim → RVs T X args vs → (∀ a ∈ args, ∀ id ∈ D.refs a, old nx lim id) → nx' ≤ lim.top → Ex e (s args) h nx d h' nx' tr →
    (callFunc g ⟨vs⟩).run P X.w = .ok (.enter g ⟨vs⟩) X.w ∧ Calls P g ⟨vs⟩ X.w (CallPost T X nx lim h' nx' d)
  loop : ∀ f fn body b s, Φ.fn f = some fn → fn.body = some body → b ∈ loops body → Φ.loop f (firstRegion b) = some s → ∀ B, ClearC B b → ∀ X h nx lim e env x env' h' nx' tr a Q, G T X h nx lim → EnvOK T X nx lim env a.tmps → nx' ≤ lim.top → fn.ntmps ≤ a.tmps.size →
    Ex e (s env) h nx (x, env') h' nx' tr → CPost T B X nx lim h' nx' env' a (Q (exitX x)) → (Code.loop b).wp P Q a X.w
theorem eget_app : ∀ (env env' : Env C) (t : Nat), eget (env ++ env') t = eget env t ∨ eget (env ++ env') t = eget env' t
  | [], env', t => .inr rfl
  | (j, d) :: r, env', t => by
    rw [List.cons_append, eget_cons, eget_cons]
    split
    · exact .inl rfl
    · exact eget_app r env' t
theorem keepE_in {l : List Nat} {t : Nat} (h : l.any (Nat.beq t) = true) : ∀ env : Env C, eget (keepE l env) t = .top
  | [] => rfl
  | (j, d) :: r => by
    rw [keepE]
    cases hj : l.any (Nat.beq j) with
    | true => exact keepE_in h r
    | false =>
      simp only [cond_false]
      rw [eget_cons]
      have : t ≠ j := fun e => by rw [e, hj] at h; cases h
      simp only [this, if_false]
      exact keepE_in h r
theorem keepE_out {l : List Nat} {t : Nat} (h : l.any (Nat.beq t) = false) : ∀ env : Env C, eget (keepE l env) t = eget env t
  | [] => rfl
  | (j, d) :: r => by
    rw [keepE, eget_cons]
    cases hj : l.any (Nat.beq j) with
    | true =>
      have : t ≠ j := fun e => by rw [e, hj] at h; cases h
      simp only [this, if_false, cond_true]
      exact keepE_out h r
    | false =>
      simp only [cond_false]
      rw [eget_cons, keepE_out h r]
theorem EnvOK.cons_same {X : Cx} {nx : Nat} {lim : Lim} {env : Env C} {tmps : Array Value} {t : Nat} {d : D C} (he : EnvOK T X nx lim env tmps) (hd : eget env t = d) : EnvOK T X nx lim ((t, d) :: env) tmps := by
  intro u
  rw [eget_cons]
  by_cases hu : u = t
  · subst hu; simp only [if_true]; rw [← hd]; exact he u
  · simp only [hu, if_false]; exact he u
theorem mrgD_eq {b : Bool} : ∀ (x y d : D C), mrgD b x y = some d → d = bif b then x else y := by
  intro x
  induction x with
  | acons x xs i1 i2 =>
    intro y d h
    cases y with
    | acons y ys =>
      simp only [mrgD] at h
      cases h1 : mrgD b x y with
      | none => simp [h1] at h
      | some d1 =>
        cases h2 : mrgD b xs ys with
        | none => simp [h1, h2] at h
        | some d2 =>
          simp only [h1, h2, Option.some.injEq] at h
          rw [← h, i1 _ _ h1, i2 _ _ h2]
          cases b <;> rfl
    | _ => simp [mrgD] at h
  | sl t c l =>
    intro y d h
    cases y with
    | sl t' c' l' =>
      simp only [mrgD] at h
      split at h
      · rename_i e
        subst e
        simp only [Option.some.injEq] at h
        rw [← h]; cases b <;> rfl
      · cases h
    | _ => simp [mrgD] at h
  | arr t n l =>
    intro y d h
    cases y with
    | arr t' n' l' =>
      simp only [mrgD] at h
      split at h
      · rename_i e
        subst e
        split at h
        · rename_i e
          subst e
          simp only [Option.some.injEq] at h
          rw [← h]; cases b <;> rfl
        · cases h
      · cases h
    | _ => simp [mrgD] at h
  | tup ds i =>
    intro y d h
    cases y with
    | tup es => cases ds <;> cases es <;> simp [mrgD] at h; rw [← h]; cases b <;> rfl
    | _ => cases ds <;> simp [mrgD] at h
  | int k n =>
    intro y d h
    cases y with
    | int k' n' =>
      simp only [mrgD] at h
      split at h
      · rename_i e
        subst e
        simp only [Option.some.injEq] at h
        rw [← h]; cases b <;> rfl
      · cases h
    | _ => simp [mrgD] at h
  | _ => intro y d h; cases y <;> simp [mrgD] at h <;> rw [← h] <;> cases b <;> rfl
theorem mrgT_ok {X : Cx} {nx : Nat} {lim : Lim} {b : Bool} {x y d : D C} {v : Value} (h : mrgT b x y = some d) (hx : RO T X nx lim (bif b then x else y) v) : RO T X nx lim d v := by
  have key : d = .top ∨ mrgD b x y = some d := by
    unfold mrgT at h
    split at h
    · left; simpa using h.symm
    · left; simpa using h.symm
    · right; exact h
  rcases key with rfl | key
  · exact RO.mk (RV.top _ _ _) rfl
  · rw [mrgD_eq _ _ _ key]; exact hx
theorem mrgE_get {b : Bool} {x y env : Env C} {t : Nat} : ∀ {l : List Nat} {r : Env C}, mrgE b x y l = some r → (l.any (Nat.beq t) = true ∧ mrgT b (eget x t) (eget y t) = some (eget (r ++ env) t)) ∨ (l.any (Nat.beq t) = false ∧ eget (r ++ env) t = eget env t)
  | [], r, h => by simp [mrgE] at h; subst h; exact .inr ⟨rfl, rfl⟩
  | u :: l, r, h => by
    simp only [mrgE] at h
    cases h1 : mrgT b (eget x u) (eget y u) with
    | none => simp [h1] at h
    | some d =>
      cases h2 : mrgE b x y l with
      | none => simp [h1, h2] at h
      | some r' =>
        simp only [h1, h2, Option.some.injEq] at h
        subst h
        rw [List.cons_append, eget_cons]
        by_cases hu : t = u
        · subst hu
          left
          simp [h1]
        · have hb : Nat.beq t u = false := by cases hq : Nat.beq t u with
            | false => rfl
            | true => exact (hu (Nat.eq_of_beq_eq_true hq)).elim
          simp only [hu, if_false, List.any_cons, hb, Bool.false_or]
          exact mrgE_get h2
theorem mrgC_cases (m : Option (List Nat)) (env : Env C) (b : Bool) (p q : Pg C (Ev.X × Env C)) :
    mrgC m env b p q = .br b p q ∨ ∃ l x y r, p = .ret (.normal, x) ∧ q = .ret (.normal, y) ∧ mrgE b x y l = some r ∧ m = some l ∧ mrgC m env b p q = .ret (.normal, r ++ env) := by
  unfold mrgC
  cases m with
  | none => exact .inl rfl
  | some l =>
    simp only
    split
    · rename_i x y
      split
      · rename_i r hr
        exact .inr ⟨l, x, y, r, rfl, rfl, hr, rfl, rfl⟩
      · exact .inl rfl
    · exact .inl rfl
def CodeOK (P : Program) (T : Tab C) (Φ : Fns C) (n : Nat) : Prop := ∀ f fn body code, Φ.fn f = some fn → fn.body = some body → codeB fn.ntmps code = true → (∀ b ∈ loops code, b ∈ loops body) → ∀ B, ClearC B code →
  ∀ X h nx lim e env x env' h' nx' tr a Q, G T X h nx lim → EnvOK T X nx lim env a.tmps → nx' ≤ lim.top → fn.ntmps ≤ a.tmps.size → Ex e (evC T Φ n f code env) h nx (x, env') h' nx' tr → CPost T B X nx lim h' nx' env' a (Q (exitX x)) → code.wp P Q a X.w
def RoundsOK (P : Program) (T : Tab C) (Φ : Fns C) (n : Nat) : Prop := ∀ f fn body b, Φ.fn f = some fn → fn.body = some body → codeB fn.ntmps (.loop b) = true → (∀ b' ∈ loops (.loop b), b' ∈ loops body) → Φ.loop f (firstRegion b) = none → ∀ B, ClearC B b →
  ∀ X h nx lim e env x env' h' nx' tr a Q, G T X h nx lim → EnvOK T X nx lim env a.tmps → nx' ≤ lim.top → fn.ntmps ≤ a.tmps.size → Ex e (evC T Φ n f (.loop b) env) h nx (x, env') h' nx' tr → CPost T B X nx lim h' nx' env' a (Q (exitX x)) → Code.rounds P b Q n a X.w
variable (K : PLaws P T) (F : FLaws P T Φ)
theorem eargs_get : ∀ (l : List (D C)) (n t : Nat), eget (eargs n l) t = if n ≤ t then l.getD (t - n) .top else .top := by
  intro l
  induction l with
  | nil => intro n t; simp [eargs, eget]
  | cons d l ih =>
    intro n t
    rw [eargs, eget_cons, ih]
    by_cases h1 : t = n
    · subst h1; simp
    · by_cases h2 : n ≤ t
      · have h3 : n + 1 ≤ t := by omega
        have h4 : t - n = (t - (n + 1)) + 1 := by omega
        simp [h1, h2, h3, h4]
      · have h3 : ¬ n + 1 ≤ t := by omega
        simp [h1, h2, h3]
theorem RVs.get {X : Cx} {ds : List (D C)} {vs : List Value} (h : RVs T X ds vs) : ∀ t, RV T X (ds.getD t .top) (vs.getD t undef) := by
  induction h with
  | nil => intro t; simp; exact RV.top _ _ _
  | cons h _ ih => intro t; cases t with
    | zero => simpa using h
    | succ t => simpa using ih t
theorem RVs.mono' {X X' : Cx} {nx : Nat} {lim : Lim} (L : Laws T) (s : Step X nx lim X') {ds : List (D C)} {vs : List Value} (h : RVs T X ds vs) : (∀ d ∈ ds, ∀ id ∈ D.refs d, old nx lim id) → RVs T X' ds vs := by
  induction h with
  | nil => intro _; exact .nil
  | cons h _ ih =>
    intro ho
    exact .cons (RO.step L s (nx' := nx) ⟨h, ho _ (by simp)⟩ (Nat.le_refl _)).1 (ih fun d hd => ho d (by simp [hd]))
def oneD : List (D C) → D C
  | [] => .tup .anil
  | [d] => d
  | d :: e :: l => .tup (D.ofList (d :: e :: l))
theorem outD_eq (f : FuncId) (n0 : Nat) (env : Env C) (rs : List ResultVar) : outD T Φ f n0 env rs =
    .bind (resultD T env rs) fun l => bif Φ.keeps f then .ret (oneD l) else .bind (frz (oneD l)) fun d => .gc n0 d.refs (.ret d) := by
  unfold outD
  congr 1
  funext l
  match l with
  | [] => rfl
  | [_] => rfl
  | _ :: _ :: _ => rfl
theorem oneD_ok {X : Cx} {nx : Nat} {lim : Lim} : ∀ {l : List (D C)} {us : List Value}, RVs T X l us → (∀ d ∈ l, ∀ id ∈ D.refs d, old nx lim id) → RO T X nx lim (oneD l) (if h : us.toArray.size = 1 then us.toArray[0] else .tuple us.toArray)
  | [], [], _, _ => RO.mk (.mk rfl (.tup .vnil)) rfl
  | [d1], [u1], .cons r2 _, r3 => ⟨r2, r3 d1 (by simp)⟩
  | d1 :: d2 :: l, u1 :: u2 :: us, r2, r3 => by
    refine ⟨.mk rfl ?_, fun id hid => ?_⟩
    · have hne : ¬ (u1 :: u2 :: us).toArray.size = 1 := by simp
      simp only [hne, dif_neg, not_false_eq_true]
      exact .tup r2.row
    · obtain ⟨q, hq, hi⟩ := refs_ofList _ id (by simpa [D.refs, oneD] using hid); exact r3 q hq id hi
include K F
theorem enter_of_code {n : Nat} (hc : CodeOK P T Φ n) : CallOK P T (enterD T Φ (evC T Φ n)) := by
  intro g args vs X h nx lim e d h' nx' tr gg hargs hrefs hlim hx
  unfold enterD at hx
  cases hf : Φ.fn g with
  | none => simp only [hf] at hx; exact (Ex.fail hx).elim
  | some fn =>
    simp only [hf] at hx
    cases hb : fn.body with
    | none => simp only [hb] at hx; exact (Ex.fail hx).elim
    | some body =>
      simp only [hb] at hx
      have hx := Ex.cnt hx
      obtain ⟨⟨x, env1⟩, h1, n1, t1, t2, q1, q2, _⟩ := Ex.bind hx
      obtain ⟨f1, f2, f3⟩ := F.fn g fn hf
      have hle1 := Ex.le q1
      refine ⟨?_, ?_⟩
      · simp only [callFunc, Sem.run_bind]
        show ((match P.funcs[g]? with | none => _ | some fn => _ : Sem Next)).run P X.w = _
        rw [f1]
        simp [f2, hb]
      · refine calls_of_wp f1 hb (hc g fn body body hf hb (f3 body hb) (fun b hb => hb) (fun _ => false) (fun _ _ => rfl) X h nx lim e (eargs 0 args) x env1 h1 n1 t1 _ _ gg ?_ ?_ ?_ q1 ?_)
        · intro t
          rw [eargs_get]
          simp only [Nat.zero_le, if_true, Nat.sub_zero]
          refine ⟨?_, ?_⟩
          · have := hargs.get t
            by_cases ht : t < vs.length
            · have e1 : ((⟨vs⟩ : Array Value) ++ Array.replicate (fn.ntmps - (⟨vs⟩ : Array Value).size) undef).getD t undef = vs.getD t undef := by
                simp [Array.getD_eq_getD_getElem?, Array.getElem?_append, ht]
              rw [e1]; exact this
            · have : args.getD t .top = .top := by
                have := hargs.length
                simp [List.getD_eq_getElem?_getD]
                rw [List.getElem?_eq_none (by omega)]; rfl
              rw [this]; exact RV.top _ _ _
          · by_cases ht : t < args.length
            · have : args.getD t .top ∈ args := by
                simp [List.getD_eq_getElem?_getD, ht]
              exact hrefs _ this
            · have : args.getD t .top = .top := by
                simp [List.getD_eq_getElem?_getD]
                rw [List.getElem?_eq_none (by omega)]; rfl
              rw [this]; simp [D.refs]
        · have := Ex.le q2
          omega
        · simp; omega
        · intro a' X0 g0 s0 e0 _ hdef _
          suffices hall : Ex e (.bind (restP T env1 (Φ.rest g)) fun _ => outD T Φ g nx env1 fn.results.toList) h1 n1 d h' nx' t2 → ∃ v, (results fn a'.tmps).run P X0.w = .ok v X0.w ∧ CallPost T X nx lim h' nx' d (.returned v) X0.w by
            cases x with
            | normal =>
              obtain ⟨v, o1, o2⟩ := hall q2
              exact ⟨hdef, v, o1, o2⟩
            | ret =>
              obtain ⟨v, o1, o2⟩ := hall q2
              exact ⟨hdef, v, o1, o2⟩
            | exit id => exact (Ex.fail q2).elim
          intro q2
          obtain ⟨d9, h9, n9, t9, t8, q9, q2, _⟩ := Ex.bind q2
          obtain ⟨X1, w1, g1, s9, hn9⟩ := restP_ok K _ g0 q9
          have hn9 := hn9.symm
          subst hn9
          have s1 := s0.trans s9 hle1
          have e1 := e0.step K.base s9 (Nat.le_refl _)
          rw [← w1]
          clear q9 g0 s0 e0
          generalize h9 = h1 at g1 q2
          generalize t8 = t2 at q2
          have hout : Ex e (outD T Φ g nx env1 fn.results.toList) h1 n1 d h' nx' t2 → ∃ v, (results fn a'.tmps).run P X1.w = .ok v X1.w ∧ CallPost T X nx lim h' nx' d (.returned v) X1.w := by
            intro q2
            rw [outD_eq] at q2
            obtain ⟨l, h2, n2, t3, t4, q3, q4, _⟩ := Ex.bind q2
            obtain ⟨e2, e3, us, r1, r2, r3⟩ := results_ok K g1 e1 fn.results.toList q3
            have e2 := e2.symm
            have e3 := e3.symm
            subst e2
            subst e3
            have hrun : (results fn a'.tmps).run P X1.w = .ok (if h : us.toArray.size = 1 then us.toArray[0] else .tuple us.toArray) X1.w := by
              have hm : fn.results.mapM (resM a'.tmps) = List.toArray <$> fn.results.toList.mapM (resM a'.tmps) := by rw [Array.mapM_eq_mapM_toList]
              have e0 : results fn a'.tmps = (do let vs ← fn.results.mapM (resM a'.tmps); pure (if h : vs.size = 1 then vs[0] else .tuple vs)) := by
                unfold results
                congr 1
              rw [e0, hm]
              simp only [map_eq_pure_bind, bind_assoc, Sem.run_bind, r1, Result.andThen_ok, Sem.run_pure, pure_bind]
            have hdl : RO T X1 n1 lim (oneD l) (if h : us.toArray.size = 1 then us.toArray[0] else .tuple us.toArray) := oneD_ok r2 r3
            generalize hvv : (if h : us.toArray.size = 1 then us.toArray[0] else Value.tuple us.toArray) = vv at hrun hdl
            cases hk : Φ.keeps g with
            | true =>
              simp only [hk, cond_true] at q4
              obtain ⟨c1, c2, c3, _⟩ := Ex.ret q4
              rw [c1, c2, c3]
              exact ⟨_, hrun, _, X1, rfl, rfl, g1, s1, hdl⟩
            | false =>
              simp only [hk, cond_false] at q4
              obtain ⟨d2, h3, n3, t5, t6, q5, q6, _⟩ := Ex.bind q4
              obtain ⟨_, q7⟩ := Ex.gc q6
              obtain ⟨c1, c2, c3, _⟩ := Ex.ret q7
              rw [c1, c2, c3]
              have hfz : ∃ X2, X2.w = X1.w ∧ G T X2 h3 n1 lim ∧ Step X1 n1 lim X2 ∧ RV T X2 d2 vv ∧ n3 = n1 ∧ ∀ id ∈ d2.refs, old n1 lim id := by
                rcases hdl.1 with ⟨hrow, cs, hr, hv⟩ | ⟨hrow, hr⟩
                · obtain ⟨X2, a1, a2, a3, a4, a5, a6, a7⟩ := frz_ok K _ g1 hr hdl.2 q5
                  exact ⟨X2, a1, a2, a3, .inl ⟨a7.trans hrow, cs, a4, hv⟩, a5, a6⟩
                · obtain ⟨X2, a1, a2, a3, a4, a5, a6, a7⟩ := frz_ok K _ g1 hr hdl.2 q5
                  exact ⟨X2, a1, a2, a3, .inr ⟨a7.trans hrow, a4⟩, a5, a6⟩
              obtain ⟨X2, a1, a2, a3, a4, a5, a6⟩ := hfz
              rw [a5]
              obtain ⟨X3, b1, b2, b3, _⟩ := a2.drop K.base (h' := Heap.drop nx n1 d2.refs h3) (fun i => by rw [get_drop]; split <;> simp)
              exact ⟨_, hrun, _, X3, rfl, by rw [b1, a1], b2, (s1.trans a3 hle1).trans b3 hle1, RO.step K.base b3 ⟨a4, a6⟩ (Nat.le_refl _)⟩
          exact hout q2
omit K F in
theorem CallPost.since {X X' : Cx} {nx nx' : Nat} {lim : Lim} {h' : Heap C} {d : D C} {en : Ending} {w' : World} (s : Step X nx lim X') (h : CallPost T X' nx lim h' nx' d en w') : CallPost T X nx lim h' nx' d en w' := by
  obtain ⟨v, Y, h1, h2, h3, h4, h5⟩ := h
  exact ⟨v, Y, h1, h2, h3, s.trans h4 (Nat.le_refl _), h5⟩
theorem call_of_code {n : Nat} (hc : CodeOK P T Φ n) : CallOK P T (callD T Φ (evC T Φ n)) := by
  intro g args vs X h nx lim e d h' nx' tr gg hargs hrefs hlim hx
  unfold callD at hx
  cases hos : Φ.ospec g with
  | some s =>
    simp only [hos] at hx
    obtain ⟨u, h1, n1, t1, t2, q1, q2, _⟩ := Ex.bind hx
    obtain ⟨X1, w1, g1, s1, hn1⟩ := restP_ok K _ gg q1
    subst hn1
    have := F.ospec g s hos args vs X1 h1 n1 lim e d h' nx' t2 g1 (hargs.mono' K.base s1 hrefs) hrefs hlim q2
    rw [w1] at this
    exact ⟨this.1, this.2.mono fun en w2 hp => CallPost.since s1 hp⟩
  | none =>
  simp only [hos] at hx
  cases hs : Φ.spec g with
  | some s =>
    simp only [hs] at hx
    obtain ⟨args', h1, n1, t1, t2, q1, hx2, _⟩ := Ex.bind hx
    clear hx
    obtain ⟨X', w', g', s', r', hn, hrf⟩ := frzL_ok K args gg hargs hrefs q1
    subst hn
    cases hsa : s args' with
    | none => rw [hsa] at hx2; exact (Ex.fail hx2).elim
    | some bd =>
      obtain ⟨b, d0⟩ := bd
      rw [hsa] at hx2
      have hx2 : b = true ∧ ∃ t3, Ex e (.ret d0) h1 n1 d h' nx' t3 := by
        cases ht : Φ.total g with
        | false =>
          simp only [ht, cond_false] at hx2
          rcases Ex.br hx2 with ⟨rfl, hx2⟩ | ⟨rfl, hx2⟩
          · exact ⟨rfl, _, hx2⟩
          · exact (Ex.fail hx2).elim
        | true =>
          simp only [ht, cond_true] at hx2
          cases b with
          | true => exact ⟨rfl, _, hx2⟩
          | false => exact (Ex.fail hx2).elim
      obtain ⟨rfl, t3, hx2⟩ := hx2
      obtain ⟨rfl, rfl, rfl, _⟩ := Ex.ret hx2
      have := F.spec g s args' _ hs hsa X' _ _ lim vs g' r' hrf
      rw [w'] at this
      exact ⟨this.1, this.2.mono fun en w1 hp => CallPost.since s' hp⟩
  | none =>
    simp only [hs] at hx
    exact enter_of_code K F hc g args vs X h nx lim e d h' nx' tr gg hargs hrefs hlim hx
theorem code_ok : ∀ n, CodeOK P T Φ n ∧ RoundsOK P T Φ n := by
  intro n
  induction n with
  | zero =>
    refine ⟨?_, ?_⟩
    · intro f fn body code _ _ _ _ B _ X h nx lim e env x env' h' nx' tr a Q _ _ _ _ hx; exact (Ex.fail hx).elim
    · intro f fn body b _ _ _ _ _ B _ X h nx lim e env x env' h' nx' tr a Q _ _ _ _ hx; exact (Ex.fail hx).elim
  | succ n ih =>
    obtain ⟨ihC, ihR⟩ := ih
    have hcall := call_of_code K F ihC
    have hR : RoundsOK P T Φ (n + 1) := by
      intro f fn body b hf hb hcb hl hnone B hB X h nx lim e env x env' h' nx' tr a Q g he hlim hsz hx hk
      simp only [evC, loopC, hnone] at hx
      obtain ⟨⟨x1, env1⟩, h1, n1, t1, t2, q1, q2, _⟩ := Ex.bind hx
      have hle := Ex.le q2
      have hle1 := Ex.le q1
      rw [rounds_succ]
      refine ihC f fn body b hf hb (by simpa [codeB] using hcb) (fun b' hb' => hl b' (by simp [loops, hb'])) B hB X h nx lim e env x1 env1 h1 n1 t1 a _ g he (by omega) hsz q1 ?_
      intro a1 X1 g1 s1 e1 hs1 hd1 kp1
      cases x1 with
      | normal =>
        simp only [thenC] at q2
        exact ihR f fn body b hf hb hcb hl hnone B hB X1 h1 n1 lim e env1 x env' h' nx' t2 a1 Q g1 e1 hlim (by omega) q2 fun a2 X2 g2 s2 e2 hs2 hd2 kp2 => hk a2 X2 g2 (s1.trans s2 hle1) e2 (by omega) (by rw [hd2, hd1]) (kp1.trans kp2)
      | exit id =>
        obtain ⟨hxx, rfl, rfl, rfl⟩ := Ex.ret q2
        obtain ⟨rfl, rfl⟩ := Prod.mk.inj hxx
        exact hk a1 X1 g1 s1 e1 hs1 hd1 kp1
      | ret =>
        obtain ⟨hxx, rfl, rfl, rfl⟩ := Ex.ret q2
        obtain ⟨rfl, rfl⟩ := Prod.mk.inj hxx
        exact hk a1 X1 g1 s1 e1 hs1 hd1 kp1
    refine ⟨?_, hR⟩
    intro f fn body code hf hb hcb hl B hB X h nx lim e env x env' h' nx' tr a Q g he hlim hsz hx hk
    have done : ∀ x0, Ex e (.ret (x0, env) : Pg C (Ev.X × Env C)) h nx (x, env') h' nx' tr → Q (exitX x0) a X.w := by
      intro x0 hx
      obtain ⟨hxx, rfl, rfl, rfl⟩ := Ex.ret hx
      obtain ⟨rfl, rfl⟩ := Prod.mk.inj hxx
      exact hk a X g (.refl _ _ _) he rfl rfl (.refl _ _)
    cases code with
    | skip => exact wp_skip (done _ hx)
    | label l => exact wp_label (done _ hx)
    | ret => exact wp_ret (done _ hx)
    | exit id => exact wp_exit (done _ hx)
    | region id ops draw =>
      simp only [evC] at hx
      simp only [codeB, Bool.and_eq_true] at hcb
      have hdst : ∀ o ∈ ops.toList, ∀ t, o.dst = some t → t < a.tmps.size := fun o ho t ht => Nat.lt_of_lt_of_le (opsB_spec hcb.1 o ho t ht) hsz
      have hBo : ∀ o ∈ ops.toList, ∀ t, o.dst = some t → B t = false := fun o ho t ht => hB t (by simp only [asgL, List.mem_filterMap]; exact ⟨o, ho, ht⟩)
      cases draw with
      | true =>
        simp only [cond_true] at hx
        obtain ⟨_, h0, n0, t8, t9, q0, hx, _⟩ := Ex.bind hx
        obtain ⟨X0, w0, g0, s0, hn0⟩ := restP_ok K _ g q0
        have hn0 := hn0.symm
        subst hn0
        simp only [drawC] at hx
        have hx := Ex.cnt hx
        obtain ⟨env1, h1, n1, t1, t2, q1, q2, _⟩ := Ex.bind hx
        obtain ⟨hxx, rfl, rfl, rfl⟩ := Ex.ret q2
        obtain ⟨rfl, rfl⟩ := Prod.mk.inj hxx
        have hle := Ex.le q1
        rw [← w0]
        exact draw_ok K hcall hBo K.order (drawB_spec (by simpa using hcb.2)) g0 (he.step K.base s0 (Nat.le_refl _)) hlim hdst q1 fun a' X' g' s' => hk a' X' g' (s0.trans s' (Nat.le_refl _))
      | false =>
        simp only [cond_false, regC] at hx
        obtain ⟨env1, h1, n1, t1, t2, q1, q2, _⟩ := Ex.bind hx
        obtain ⟨hxx, rfl, rfl, rfl⟩ := Ex.ret q2
        obtain ⟨rfl, rfl⟩ := Prod.mk.inj hxx
        refine wp_region ?_
        rw [List.range_eq_range']
        have := evOps_ok K hcall hBo ops.toList 0 rfl g he hlim hdst q1 (Q := Q) hk
        simpa using this
    | seq c1 c2 =>
      simp only [evC] at hx
      simp only [codeB, Bool.and_eq_true] at hcb
      obtain ⟨⟨x1, env1⟩, h1, n1, t1, t2, q1, q2, _⟩ := Ex.bind hx
      have hle := Ex.le q2
      have hle1 := Ex.le q1
      refine wp_seq (ihC f fn body c1 hf hb hcb.1 (fun b hb => hl b (by simp [loops, hb])) B (fun t ht => hB t (by simp [asgL, ht])) X h nx lim e env x1 env1 h1 n1 t1 a _ g he (by omega) hsz q1 ?_)
      intro a1 X1 g1 s1 e1 hs1 hd1 kp1
      cases x1 with
      | normal =>
        simp only [thenC] at q2
        exact ihC f fn body c2 hf hb hcb.2 (fun b hb => hl b (by simp [loops, hb])) B (fun t ht => hB t (by simp [asgL, ht])) X1 h1 n1 lim e env1 x env' h' nx' t2 a1 Q g1 e1 hlim (by omega) q2 fun a2 X2 g2 s2 e2 hs2 hd2 kp2 => hk a2 X2 g2 (s1.trans s2 hle1) e2 (by omega) (by rw [hd2, hd1]) (kp1.trans kp2)
      | exit id =>
        obtain ⟨hxx, rfl, rfl, rfl⟩ := Ex.ret q2
        obtain ⟨rfl, rfl⟩ := Prod.mk.inj hxx
        exact hk a1 X1 g1 s1 e1 hs1 hd1 kp1
      | ret =>
        obtain ⟨hxx, rfl, rfl, rfl⟩ := Ex.ret q2
        obtain ⟨rfl, rfl⟩ := Prod.mk.inj hxx
        exact hk a1 X1 g1 s1 e1 hs1 hd1 kp1
    | cond c c1 c2 =>
      simp only [evC, condC] at hx
      simp only [codeB, Bool.and_eq_true] at hcb
      have side0 : ∀ (b : Bool) (env0 : Env C) (x0 : Ev.X) (env1 : Env C) (tr1 : Tr) (B' : Nat → Bool), (∀ t ∈ asgL c1 ++ asgL c2, B' t = false) → EnvOK T X nx lim env0 a.tmps → a.eval c = .bool b → Ex e (evC T Φ n f (if b then c1 else c2) env0) h nx (x0, env1) h' nx' tr1 →
          CPost T B' X nx lim h' nx' env1 a (Q (exitX x0)) → (Code.cond c c1 c2).wp P Q a X.w := by
        intro b env0 x0 env1 tr1 B' hB' he0 hc0 hx0 hk0
        refine wp_cond hc0 (ihC f fn body _ hf hb ?_ ?_ B' (fun t ht => hB' t (by cases b <;> simp at ht ⊢ <;> simp [ht])) X h nx lim e env0 x0 env1 h' nx' tr1 a Q g he0 hlim hsz hx0 hk0)
        · cases b <;> simp [hcb.1, hcb.2]
        · intro b' hb'; cases b <;> exact hl b' (by simp [loops] at hb' ⊢; simp [hb'])
      have side : ∀ (b : Bool) (env0 : Env C), EnvOK T X nx lim env0 a.tmps → a.eval c = .bool b → Ex e (evC T Φ n f (if b then c1 else c2) env0) h nx (x, env') h' nx' tr → (Code.cond c c1 c2).wp P Q a X.w := by
        intro b env0 he0 hc0 hx0
        refine wp_cond hc0 (ihC f fn body _ hf hb ?_ ?_ B (fun t ht => hB t (by cases b <;> simp [asgL] at ht ⊢ <;> simp [ht])) X h nx lim e env0 x env' h' nx' tr a Q g he0 hlim hsz hx0 hk)
        · cases b <;> simp [hcb.1, hcb.2]
        · intro b' hb'; cases b <;> exact hl b' (by simp [loops] at hb' ⊢; simp [hb'])
      cases c with
      | tmp t =>
        simp only at hx
        have het := he t
        generalize hq : eget env t = q at hx het
        cases q with
        | bool b =>
          simp only at hx
          have hv : a.eval (.tmp t) = .bool b := het.1.bool
          rcases mrgC_cases (bif pureC Φ c1 && pureC Φ c2 then some (asgL c1 ++ asgL c2) else none) env b (evC T Φ n f c1 ((t, .bool true) :: env)) (evC T Φ n f c2 ((t, .bool false) :: env)) with hm | ⟨l, x1, y1, r, hp1, hp2, hr, hml, hm⟩
          · rw [hm] at hx
            rcases Ex.br hx with ⟨rfl, hx⟩ | ⟨rfl, hx⟩
            · exact side true _ (he.cons_same hq) hv hx
            · exact side false _ (he.cons_same hq) hv hx
          · rw [hm] at hx
            obtain ⟨hxx, rfl, rfl, rfl⟩ := Ex.ret hx
            obtain ⟨rfl, rfl⟩ := Prod.mk.inj hxx
            have hl2 : l = asgL c1 ++ asgL c2 := by
              cases hpp : pureC Φ c1 && pureC Φ c2 with
              | false => simp [hpp] at hml
              | true => simpa [hpp] using hml.symm
            have hex : Ex e (evC T Φ n f (if b then c1 else c2) ((t, .bool b) :: env)) h' nx' (.normal, bif b then x1 else y1) h' nx' [] := by
              cases b with
              | true => simp only [if_true, hp1]; simp [Ex, Pg.run]
              | false => simp only [Bool.false_eq_true, if_false, hp2]; simp [Ex, Pg.run]
            refine side0 b ((t, .bool b) :: env) .normal (bif b then x1 else y1) [] (fun u => B u || !(l.any (Nat.beq u))) (fun u hu => ?_) (he.cons_same hq) hv hex ?_
            · have h1 : l.any (Nat.beq u) = true := List.any_eq_true.2 ⟨u, by rw [hl2]; exact hu, by simp⟩
              have h2 : B u = false := hB u (by simpa [asgL] using hu)
              simp only [h1, h2]; rfl
            · intro a1 X1 g1 s1 e1 hs1 hd1 kp1
              refine hk a1 X1 g1 s1 (fun u => ?_) hs1 hd1 (fun u hu => kp1 u (by simp [hu]))
              rcases mrgE_get (t := u) (env := env) hr with ⟨h1, h2⟩ | ⟨h1, h2⟩
              · refine mrgT_ok h2 ?_
                have := e1 u
                cases b <;> simpa using this
              · rw [h2, kp1 u (by simp only [h1]; simp)]
                exact (he u).step K.base s1 (Nat.le_refl _)
        | _ => exact (Ex.fail hx).elim
      | const v =>
        cases v with
        | bool b =>
          simp only at hx
          rcases Ex.br hx with ⟨rfl, hx⟩ | ⟨rfl, hx⟩
          · exact side true _ he rfl hx
          · exact side false _ he rfl hx
        | _ => exact (Ex.fail hx).elim
      | global q => exact (Ex.fail hx).elim
      | func q => exact (Ex.fail hx).elim
    | block id c =>
      simp only [evC] at hx
      obtain ⟨⟨x1, env1⟩, h1, n1, t1, t2, q1, q2, _⟩ := Ex.bind hx
      have hle := Ex.le q2
      refine wp_block (ihC f fn body c hf hb (by simpa [codeB] using hcb) (fun b hb => hl b (by simpa [loops] using hb)) B (fun t ht => hB t (by simpa [asgL] using ht)) X h nx lim e env x1 env1 h1 n1 t1 a _ g he (by omega) hsz q1 ?_)
      intro a1 X1 g1 s1 e1 hs1 hd1 kp1
      cases x1 with
      | normal =>
        obtain ⟨hxx, rfl, rfl, rfl⟩ := Ex.ret q2
        obtain ⟨rfl, rfl⟩ := Prod.mk.inj hxx
        exact hk a1 X1 g1 s1 e1 hs1 hd1 kp1
      | exit i =>
        simp only [inBlockC] at q2
        show (if i = id then Q .normal a1 X1.w else Q (.exit i) a1 X1.w)
        cases hi : Nat.beq i id with
        | true =>
          simp only [hi, cond_true] at q2
          obtain ⟨hxx, rfl, rfl, rfl⟩ := Ex.ret q2
          obtain ⟨rfl, rfl⟩ := Prod.mk.inj hxx
          have : i = id := Nat.eq_of_beq_eq_true hi
          simp only [this, if_true]
          exact hk a1 X1 g1 s1 e1 hs1 hd1 kp1
        | false =>
          simp only [hi, cond_false] at q2
          obtain ⟨hxx, rfl, rfl, rfl⟩ := Ex.ret q2
          obtain ⟨rfl, rfl⟩ := Prod.mk.inj hxx
          have : i ≠ id := Nat.ne_of_beq_eq_false hi
          simp only [this, if_false]
          exact hk a1 X1 g1 s1 e1 hs1 hd1 kp1
      | ret =>
        obtain ⟨hxx, rfl, rfl, rfl⟩ := Ex.ret q2
        obtain ⟨rfl, rfl⟩ := Prod.mk.inj hxx
        exact hk a1 X1 g1 s1 e1 hs1 hd1 kp1
    | loop c =>
      cases hs : Φ.loop f (firstRegion c) with
      | none => exact wp_loop_rounds (n + 1) (hR f fn body c hf hb hcb hl hs B (fun t ht => hB t (by simpa [asgL] using ht)) X h nx lim e env x env' h' nx' tr a Q g he hlim hsz hx hk)
      | some s =>
        simp only [evC, loopC, hs] at hx
        obtain ⟨⟨x1, env1⟩, h1, n1, t1, t2, q1, q2, _⟩ := Ex.bind hx
        obtain ⟨hxx, rfl, rfl, _⟩ := Ex.ret q2
        obtain ⟨rfl, rfl⟩ := Prod.mk.inj hxx
        have hle1 := Ex.le q1
        refine F.loop f fn body c s hf hb (hl c (by simp [loops])) hs (fun t => B t || !((asgL c).any (Nat.beq t))) (fun t ht => ?_) X h nx lim e env x env1 h' nx' t1 a Q g he hlim hsz q1 ?_
        · have h1 : (asgL c).any (Nat.beq t) = true := List.any_eq_true.2 ⟨t, ht, by simp⟩
          have h2 : B t = false := hB t (by simpa [asgL] using ht)
          simp only [h1, h2]; rfl
        · intro a1 X1 g1 s1 e1 hs1 hd1 kp1
          refine hk a1 X1 g1 s1 (fun t => ?_) hs1 hd1 (fun t ht => kp1 t (by simp [ht]))
          rcases eget_app env1 (keepE (asgL c) env) t with h1 | h1
          · rw [h1]; exact e1 t
          · rw [h1]
            cases hq : (asgL c).any (Nat.beq t) with
            | true => rw [keepE_in hq]; exact RO.mk (RV.top _ _ _) rfl
            | false =>
              rw [keepE_out hq, kp1 t (by simp only [hq]; simp)]
              exact (he t).step K.base s1 hle1
    | _ => exact (Ex.fail hx).elim
theorem enter_ok (n : Nat) : CallOK P T (enterD T Φ (evC T Φ n)) := enter_of_code K F (code_ok K F n).1
end
section
variable {C : Cdc} {P : Program} {T : Tab C} {Φ : Fns C}
open Pg (Ex)
theorem evF_ex {n : Nat} {f : FuncId} {args : List (D C)} {d : D C} (h : evF T Φ n f args = some d) : ∃ h' nx' tr, Ex (0, 0) (enterD T Φ (evC T Φ n) f args) [] 0 d h' nx' tr ∧ d.refs = [] := by
  unfold evF at h
  obtain ⟨a, h', n', t, h1, h2⟩ := Pg.run_some h
  cases hb : a.refs.isEmpty with
  | false => simp [hb] at h2
  | true =>
    simp only [hb, cond_true, Option.some.injEq] at h2
    subst h2
    exact ⟨h', n', t, h1, List.isEmpty_iff.1 hb⟩
def lim0 (n : Nat) : Lim := ⟨0, n, fun _ => False, fun _ _ _ h => h⟩
theorem G.start (w : World) (O : Nat → Nat → Prop) (hO : ∀ b o, O b o → b < w.heap.size) (n : Nat) : G T ⟨w, fun _ => none, O⟩ [] 0 (lim0 n) where
  var id t d h := by simp [Heap.get] at h
  vec id t own l h := by simp [Heap.get] at h
  map id ck cv l h := by simp [Heap.get] at h
  dom id l h := by simp at h
  nums id o h := by simp [Heap.get] at h
  apart id id' l l' b o o' h := by simp at h
  outer b o h := by obtain ⟨_, _, h, _⟩ := h; simp at h
  outs := hO
  low := Nat.le_refl _
variable (K : PLaws P T) (F : FLaws P T Φ)
include K F
theorem evF_calls {n : Nat} {f : FuncId} {args : List (D C)} {d : D C} (h : evF T Φ n f args = some d) (hargs : ∀ a ∈ args, D.refs a = []) (w : World) (O : Nat → Nat → Prop) (hO : ∀ b o, O b o → b < w.heap.size) {vs : List Value}
    (hvs : RVs T ⟨w, fun _ => none, O⟩ args vs) : (callFunc f ⟨vs⟩).run P w = .ok (.enter f ⟨vs⟩) w ∧ Calls P f ⟨vs⟩ w fun en w' =>
      ∃ v ρ, en = .returned v ∧ RV T ⟨w', ρ, O⟩ d v ∧ w.heap.size ≤ w'.heap.size ∧ (∀ b, b < w.heap.size → w'.heap[b]? = w.heap[b]?) ∧ w'.os = w.os ∧ w'.tape = w.tape ∧ w'.output = w.output ∧ (∀ a : Addr, a.block < w.heap.size → w'.frozen? a = w.frozen? a) := by
  obtain ⟨h', nx', tr, hx, hd⟩ := evF_ex h
  have g := G.start (T := T) w O hO nx'
  obtain ⟨q1, q2⟩ := enter_ok K F n f args vs _ _ _ _ _ _ _ _ _ g hvs (fun a ha id hid => by rw [hargs a ha] at hid; simp at hid) (Nat.le_refl _) hx
  refine ⟨q1, q2.mono fun en w' hp => ?_⟩
  obtain ⟨v, X', rfl, rfl, g', s', r'⟩ := hp
  have hO' : X'.O = O := s'.O
  refine ⟨v, X'.ρ, rfl, ?_, s'.size, fun b hb => s'.block b hb (fun o hm => by obtain ⟨_, _, hq, _⟩ := hm; simp at hq), s'.os, s'.tape, s'.output, s'.frz⟩
  rw [← hO']
  exact r'.1
theorem evF_spec {n : Nat} {f : FuncId} {args : List (D C)} {d : D C} (h : evF T Φ n f args = some d) (hargs : ∀ a ∈ args, D.refs a = []) {X : Cx} {hp : Heap C} {nx : Nat} {lim : Lim} {vs : List Value} (g : G T X hp nx lim) (hvs : RVs T X args vs) :
    (callFunc f ⟨vs⟩).run P X.w = .ok (.enter f ⟨vs⟩) X.w ∧ Calls P f ⟨vs⟩ X.w (CallPost T X nx lim hp nx d) := by
  have hd : d.refs = [] := by obtain ⟨_, _, _, _, hd⟩ := evF_ex h; exact hd
  have hkeep : ∀ b o v, X.w.cell? ⟨b, o, none⟩ = some v → X.free b o → X.w.cell? ⟨b, o, none⟩ = some v ∧ Cx.free ⟨X.w, fun _ => none, fun b o => X.O b o ∨ X.mine b o⟩ b o :=
    fun b o v hc hf => ⟨hc, fun h => h.elim hf.1 hf.2, fun ⟨_, _, hq, _⟩ => by simp at hq⟩
  have hvs0 : RVs T ⟨X.w, fun _ => none, fun b o => X.O b o ∨ X.mine b o⟩ args vs := by
    clear h
    induction hvs with
    | nil => exact .nil
    | @cons d ds v vs hv _ ih =>
      refine .cons (hv.mono T K.base.encRefs (X' := ⟨X.w, fun _ => none, fun b o => X.O b o ∨ X.mine b o⟩) hkeep fun id hi => ?_) (ih fun a ha => hargs a (by simp [ha]))
      rw [hargs d (by simp)] at hi; simp at hi
  obtain ⟨q1, q2⟩ := evF_calls K F h hargs X.w (fun b o => X.O b o ∨ X.mine b o) (fun b o ho => ho.elim (g.outs b o) fun hm => (g.outer b o hm).2) hvs0
  refine ⟨q1, q2.mono fun en w' hpp => ?_⟩
  obtain ⟨v, ρ, rfl, r, a1, a2, a3, a4, a5, a6⟩ := hpp
  obtain ⟨g', s'⟩ := g.grow K.base w' a1 a2 a3 a4 a5 a6
  refine ⟨v, ⟨w', X.ρ, X.O⟩, rfl, rfl, g', s', ?_, by rw [hd]; simp⟩
  refine RV.mono T (X := ⟨w', ρ, fun b o => X.O b o ∨ X.mine b o⟩) (X' := ⟨w', X.ρ, X.O⟩) K.base.encRefs (h := r) (fun b o u hc hf => ⟨hc, fun ho => hf.1 (Or.inl ho), fun hm => hf.1 (Or.inr hm)⟩) fun id hi => ?_
  rw [hd] at hi; simp at hi
end
inductive Tree (α : Type) where
  | nil
  | node (k : Nat) (a : α) (l r : Tree α)
namespace Tree
variable {α : Type}
def get (u : Nat) : Tree α → Option α
  | .nil => none
  | .node k a l r => bif Nat.blt u k then l.get u else bif Nat.blt k u then r.get u else some a
def all (p : Nat → α → Bool) : Tree α → Bool
  | .nil => true
  | .node k a l r => p k a && l.all p && r.all p
theorem get_all {p : Nat → α → Bool} {u : Nat} {a : α} : ∀ {t : Tree α}, t.all p = true → t.get u = some a → p u a = true
  | .nil, _, h => by simp [get] at h
  | .node k b l r, h, hg => by
    simp only [all, Bool.and_eq_true] at h
    simp only [get] at hg
    cases h1 : Nat.blt u k with
    | true => rw [h1] at hg; exact get_all h.1.2 hg
    | false =>
      rw [h1] at hg
      cases h2 : Nat.blt k u with
      | true => rw [h2] at hg; exact get_all h.2 hg
      | false =>
        rw [h2] at hg
        simp only [cond_false, Option.some.injEq] at hg
        have e1 : ¬ u < k := by rw [← Nat.blt_eq, h1]; simp
        have e2 : ¬ k < u := by rw [← Nat.blt_eq, h2]; simp
        obtain rfl : u = k := by omega
        rw [← hg]; exact h.1.1
end Tree
section
variable {C : Cdc}
structure Row (C : Cdc) where
  g : GT C
  size : Nat
  bytes : Nat
  zero : Option (D C)
structure Cod (C : Cdc) where
  enc : (t : C.Ty) → C.A t → D C
  dec : (t : C.Ty) → D C → Option (C.A t)
  dflt : (t : C.Ty) → C.A t
  ety : C.Ty → TypeId
  eqb : (t : C.Ty) → C.A t → C.A t → Option Bool
  u8s : (t : C.Ty) → Option (List (C.A t) → List UInt8)
  ofU8s : (t : C.Ty) → Option (List UInt8 → List (C.A t))
def mkTab (cd : Cod C) (t : Tree (Row C)) : Tab C where
  ty u := match t.get u with | some r => r.g | none => .none
  size u := match t.get u with | some r => r.size | none => 0
  bytes u := match t.get u with | some r => r.bytes | none => 0
  enc := cd.enc
  dec := cd.dec
  dflt := cd.dflt
  ety := cd.ety
  eqb := cd.eqb
  zero u := match t.get u with | some r => r.zero | none => none
  u8s := cd.u8s
  ofU8s := cd.ofU8s
def gtB : GT C → GT C → Bool
  | .bool, .bool | .str, .str | .fn, .fn => true
  | .int k, .int k' => decide (k = k')
  | .struct a fs, .struct a' fs' => a == a' && fs == fs'
  | .arr n e t, .arr n' e' t' => Nat.beq n n' && Nat.beq e e' && decide (t = t')
  | .sl e t, .sl e' t' => Nat.beq e e' && decide (t = t')
  | .ptr e, .ptr e' => Nat.beq e e'
  | .dsl e, .dsl e' => Nat.beq e e'
  | .map k v ck cv, .map k' v' ck' cv' => Nat.beq k k' && Nat.beq v v' && decide (ck = ck') && decide (cv = cv')
  | _, _ => false
theorem gtB_eq {a b : GT C} (h : gtB a b = true) : a = b := by
  cases a <;> cases b <;> simp_all [gtB]
variable (P : Program) (T : Tab C)
def zRl {t : C.Ty} (f : D C → List Value → Option (List Value)) : List (C.A t) → List Value → Option (List Value)
  | [], cs => some cs
  | x :: l, cs => match f (T.enc t x) cs with
    | some r => zRl f l r
    | none => none
def zR : Nat → D C → List Value → Option (List Value)
  | 0, _, _ => none
  | n + 1, d, cs => match d, cs with
    | .bool b, .bool b' :: r => bif b == b' then some r else none
    | .int k m, .int k' m' :: r => bif decide (k = k') && m == m' && decide (k.min ≤ m) && decide (m ≤ k.max) then some r else none
    | .str s, .string s' :: r => bif s == s'.data.toList then some r else none
    | .anil, cs => some cs
    | .acons d ds, cs => match zR n d cs with
      | some r => zR n ds r
      | none => none
    | .arr t m l, cs => bif Nat.beq m l.length then zRl T (zR n) l cs else none
    | .nils, .slice none 0 0 :: r => some r
    | .sl _ _ [], .slice none 0 0 :: r => some r
    | .nilp, .pointer none :: r => some r
    | .nilfn, .nilFunc :: r => some r
    | _, _ => none
variable {P T}
theorem zRl_ok {X : Cx} {t : C.Ty} {f : D C → List Value → Option (List Value)} (hf : ∀ d cs r, f d cs = some r → ∃ c1, cs = c1 ++ r ∧ R T X false d c1) : ∀ (l : List (C.A t)) (cs r : List Value), zRl T f l cs = some r → ∃ c1, cs = c1 ++ r ∧ R T X false (.arr t l.length l) c1
  | [], cs, r, h => by simp [zRl] at h; exact ⟨[], by simp [h], .arr0 _⟩
  | x :: l, cs, r, h => by
    simp only [zRl] at h
    cases hq : f (T.enc t x) cs with
    | none => simp [hq] at h
    | some r1 =>
      simp only [hq] at h
      obtain ⟨c1, e1, k1⟩ := hf _ _ _ hq
      obtain ⟨c2, e2, k2⟩ := zRl_ok hf l r1 r h
      exact ⟨c1 ++ c2, by rw [e1, e2, List.append_assoc], .arrS k1 k2⟩
theorem zR_ok {X : Cx} : ∀ (n : Nat) (d : D C) (cs r : List Value), zR T n d cs = some r → ∃ c1, cs = c1 ++ r ∧ R T X false d c1 := by
  intro n
  induction n with
  | zero => intro d cs r h; simp [zR] at h
  | succ n ih =>
    intro d cs r h
    unfold zR at h
    split at h
    · rename_i b b' q
      cases hb : (b == b') with
      | false => simp [hb] at h
      | true => simp [hb] at h; subst h; have := eq_of_beq hb; subst this; exact ⟨[.bool b], rfl, .bool b⟩
    · rename_i k m k' m' q
      cases hb : (decide (k = k') && m == m' && decide (k.min ≤ m) && decide (m ≤ k.max)) with
      | false => simp [hb] at h
      | true =>
        simp only [hb, cond_true, Option.some.injEq] at h
        subst h
        simp only [Bool.and_eq_true, decide_eq_true_eq, beq_iff_eq] at hb
        obtain ⟨⟨⟨rfl, rfl⟩, h1⟩, h2⟩ := hb
        exact ⟨[.int k m], rfl, .int ⟨h1, h2⟩⟩
    · rename_i s s' q
      cases hb : (s == s'.data.toList) with
      | false => simp [hb] at h
      | true =>
        simp only [hb, cond_true, Option.some.injEq] at h
        subst h
        have := eq_of_beq hb
        subst this
        exact ⟨[.string s'], rfl, .str _⟩
    · simp at h; exact ⟨[], by simp [h], .anil⟩
    · rename_i d ds
      cases hq : zR T n d cs with
      | none => simp [hq] at h
      | some r1 =>
        simp only [hq] at h
        obtain ⟨c1, e1, k1⟩ := ih _ _ _ hq
        obtain ⟨c2, e2, k2⟩ := ih _ _ _ h
        exact ⟨c1 ++ c2, by rw [e1, e2, List.append_assoc], .acons k1 k2⟩
    · rename_i t m l
      cases hb : Nat.beq m l.length with
      | false => simp [hb] at h
      | true =>
        simp only [hb, cond_true] at h
        have := Nat.eq_of_beq_eq_true hb
        subst this
        exact zRl_ok ih l _ _ h
    · simp at h; subst h; exact ⟨[.slice none 0 0], rfl, .nils⟩
    · simp at h; subst h; exact ⟨[.slice none 0 0], rfl, .sl0 _ _ _⟩
    · simp at h; subst h; exact ⟨[.pointer none], rfl, .nilp⟩
    · simp at h; subst h; exact ⟨[.nilFunc], rfl, .nilfn⟩
    · simp at h
variable (P T)
def zB (d : D C) (cs : List Value) : Bool := match zR T 50 d cs with
  | some [] => true
  | _ => false
variable {P T}
theorem zB_ok {d : D C} {cs : List Value} (h : zB T d cs = true) (X : Cx) : R T X false d cs := by
  unfold zB at h
  split at h
  · rename_i hq
    obtain ⟨c1, e1, k1⟩ := zR_ok (X := X) _ _ _ _ hq
    simp at e1; rw [e1]; exact k1
  · cases h
variable (P T)
def elemB (e : TypeId) (t : C.Ty) : Bool :=
  gtB (T.ty e) (T.ty (T.ety t)) && Nat.beq (T.size e) (T.size (T.ety t)) && match P.info? e with
  | some i => Nat.beq i.size (T.size e) && Nat.beq i.bytes (T.bytes e) && Nat.blt 0 (T.bytes e) && Nat.blt 0 (T.size e) && match i.zero with
    | some z => Nat.beq z.cells.size (T.size e) && zB T (T.enc t (T.dflt t)) z.cells.toList
    | none => false
  | none => false
def offsB : List Field → Nat → Bool
  | [], _ => true
  | f :: fs, n => Nat.beq f.offset n && offsB fs (n + T.size f.type)
def oneB (e : TypeId) : Bool := (match T.ty e with | .struct _ _ => false | .arr _ _ _ => false | .none => false | _ => true) && match P.info? e with
  | some i => Nat.beq i.size 1 && (match i.zero with | some z => Nat.beq z.cells.size 1 | none => false)
  | none => false
def mapB (k v : TypeId) (ck cv : C.Ty) : Bool := gtB (T.ty k) (T.ty (T.ety ck)) && gtB (T.ty v) (T.ty (T.ety cv)) && (match T.ty k with | .int _ => true | .str => true | .bool => true | _ => false) && match P.info? v with
  | some i => (match i.zero with | some z => !(T.enc cv (T.dflt cv)).isRow && zB T (T.enc cv (T.dflt cv)) [z] | none => false)
  | none => false
def shapeB (u : TypeId) (g : GT C) (size : Nat) : Bool := match g, P.underlying u with
  | .bool, some .bool => Nat.beq size 1
  | .int k, some (.int k') => decide (k = k') && Nat.beq size 1
  | .str, some .string => Nat.beq size 1
  | .struct false fs, some (.struct fields) => (fields.toList.map (·.type) == fs) && Nat.beq size (sumSz T fs) && offsB T fields.toList 0 && !P.stoodInHeld u && !P.eqGuardType P.depth u && fields.toList.all (fun f => f.name != "_") &&
      fs.all (fun f => match P.info? f with | some i => Nat.beq i.size (T.size f) && Nat.blt 0 (T.size f) | none => false)
  | .struct true fs, some (.array n e) => Nat.beq fs.length n && (fs == List.replicate fs.length e) && Nat.blt 0 fs.length && Nat.beq size (sumSz T fs) && (match P.info? e with | some i => Nat.beq i.size (T.size e) | none => false)
  | .arr n e t, some (.array n' e') => Nat.beq n n' && Nat.beq e e' && !P.eqGuardType P.depth u && Nat.beq size (n * T.size e) && elemB P T e t
  | .sl e t, some (.slice e') => Nat.beq e e' && Nat.beq size 1 && elemB P T e t
  | .ptr e, some (.pointer e') => Nat.beq e e' && Nat.beq size 1
  | .fn, some (.func _ _ _) => Nat.beq size 1
  | .dsl e, some (.slice e') => Nat.beq e e' && Nat.beq size 1 && oneB P T e
  | .map k v ck cv, some (.map k' v') => Nat.beq k k' && Nat.beq v v' && Nat.beq size 1 && mapB P T k v ck cv
  | _, _ => false
def rowB (u : TypeId) (r : Row C) : Bool :=
  Nat.blt 0 r.size && (match P.info? u with
    | some i => Nat.beq i.size r.size && (match r.zero with
      | none => true
      | some z => match i.zero with
        | some v => z.refs.isEmpty && zB T z v.cells.toList
        | none => false)
    | none => false) && shapeB P T u r.g r.size
variable {P T}
theorem offsB_spec : ∀ (fs : List Field) (n : Nat), offsB T fs n = true → ∀ (i : Nat) (f : Field), fs[i]? = some f → f.offset = n + sumSz T ((fs.map (·.type)).take i)
  | [], n, h, i, f, hf => by simp at hf
  | g :: fs, n, h, i, f, hf => by
    simp only [offsB, Bool.and_eq_true] at h
    cases i with
    | zero => simp at hf; subst hf; simp [sumSz, Nat.eq_of_beq_eq_true h.1]
    | succ i =>
      have := offsB_spec fs _ h.2 i f (by simpa using hf)
      rw [this]; simp [sumSz]; omega
theorem elemB_spec {e : TypeId} {t : C.Ty} (h : elemB P T e t = true) : (T.ty e = T.ty (T.ety t) ∧ T.size e = T.size (T.ety t)) ∧ ∃ i z, P.info? e = some i ∧ i.size = T.size e ∧ i.bytes = T.bytes e ∧ 0 < T.bytes e ∧ 0 < T.size e ∧ i.zero = some z ∧ z.cells.size = T.size e ∧
    ∀ X, R T X false (T.enc t (T.dflt t)) z.cells.toList := by
  simp only [elemB, Bool.and_eq_true] at h
  obtain ⟨⟨h1, h2⟩, h3⟩ := h
  refine ⟨⟨gtB_eq h1, Nat.eq_of_beq_eq_true h2⟩, ?_⟩
  cases hi : P.info? e with
  | none => simp [hi] at h3
  | some i =>
    simp only [hi, Bool.and_eq_true] at h3
    obtain ⟨⟨⟨⟨a1, a2⟩, a3⟩, a4⟩, a5⟩ := h3
    cases hz : i.zero with
    | none => simp [hz] at a5
    | some z =>
      simp only [hz, Bool.and_eq_true] at a5
      exact ⟨i, z, rfl, Nat.eq_of_beq_eq_true a1, Nat.eq_of_beq_eq_true a2, by simpa [Nat.blt_eq] using a3, by simpa [Nat.blt_eq] using a4, hz, Nat.eq_of_beq_eq_true a5.1, zB_ok a5.2⟩
theorem oneB_spec {e : TypeId} (h : oneB P T e = true) : (∀ d, fit T d (.inl e) = true → d.isRow = false) ∧ ∃ i z, P.info? e = some i ∧ i.size = 1 ∧ i.zero = some z ∧ z.cells.size = 1 := by
  simp only [oneB, Bool.and_eq_true] at h
  obtain ⟨h1, h2⟩ := h
  refine ⟨fun d hf => ?_, ?_⟩
  · cases hd : T.ty e <;> simp [hd] at h1 <;> cases d <;> simp_all [fit, D.isRow]
  · cases hi : P.info? e with
    | none => simp [hi] at h2
    | some i =>
      simp only [hi, Bool.and_eq_true] at h2
      cases hz : i.zero with
      | none => simp [hz] at h2
      | some z => simp only [hz] at h2; exact ⟨i, z, rfl, Nat.eq_of_beq_eq_true h2.1, hz, Nat.eq_of_beq_eq_true h2.2⟩
theorem mapB_spec {k v : TypeId} {ck cv : C.Ty} (h : mapB P T k v ck cv = true) : T.ty k = T.ty (T.ety ck) ∧ T.ty v = T.ty (T.ety cv) ∧ ((∃ ik, T.ty k = .int ik) ∨ T.ty k = .str ∨ T.ty k = .bool) ∧
    ∃ i z, P.info? v = some i ∧ i.zero = some z ∧ ∀ X, RV T X (T.enc cv (T.dflt cv)) z := by
  simp only [mapB, Bool.and_eq_true] at h
  obtain ⟨⟨⟨h1, h2⟩, h3⟩, h4⟩ := h
  refine ⟨gtB_eq h1, gtB_eq h2, ?_, ?_⟩
  · cases hd : T.ty k <;> simp [hd] at h3 ⊢
  · cases hi : P.info? v with
    | none => simp [hi] at h4
    | some i =>
      simp only [hi] at h4
      cases hz : i.zero with
      | none => simp [hz] at h4
      | some z =>
        simp only [hz, Bool.and_eq_true, Bool.not_eq_true'] at h4
        exact ⟨i, z, rfl, hz, fun X => .inr ⟨h4.1, zB_ok h4.2 X⟩⟩
theorem sBoolB {sz : Nat} {u : TypeId} (this : shapeB P T u (.bool) sz = true) : P.underlying u = some .bool ∧ sz = 1 := by
  unfold shapeB at this
  split at this <;> simp_all
theorem sIntB {sz : Nat} {u : TypeId} {k : IntKind} (this : shapeB P T u (.int k) sz = true) : P.underlying u = some (.int k) ∧ sz = 1 := by
  unfold shapeB at this
  split at this <;> simp_all
theorem sStrB {sz : Nat} {u : TypeId} (this : shapeB P T u (.str) sz = true) : P.underlying u = some .string ∧ sz = 1 := by
  unfold shapeB at this
  split at this <;> simp_all
theorem sPtrB {sz : Nat} {u : TypeId} {e : TypeId} (this : shapeB P T u (.ptr e) sz = true) : P.underlying u = some (.pointer e) ∧ sz = 1 := by
  unfold shapeB at this
  split at this <;> simp_all
theorem sFnB {sz : Nat} {u : TypeId} (this : shapeB P T u (.fn) sz = true) : (∃ a b c, P.underlying u = some (.func a b c)) ∧ sz = 1 := by
  unfold shapeB at this
  split at this <;> simp_all
theorem sDslB {sz : Nat} {u : TypeId} {e : TypeId} (this : shapeB P T u (.dsl e) sz = true) : P.underlying u = some (.slice e) ∧ sz = 1 ∧ oneB P T e = true := by
  unfold shapeB at this
  split at this <;> simp_all
  obtain ⟨⟨e1, _⟩, h⟩ := this
  rw [← e1]; exact h
theorem sMapB {sz : Nat} {u : TypeId} {k : TypeId} {v : TypeId} {ck : C.Ty} {cv : C.Ty} (this : shapeB P T u (.map k v ck cv) sz = true) : P.underlying u = some (.map k v) ∧ sz = 1 ∧ mapB P T k v ck cv = true := by
  unfold shapeB at this
  split at this <;> simp_all
  obtain ⟨⟨⟨e1, e2⟩, _⟩, h⟩ := this
  rw [← e1, ← e2]; exact h
theorem sArrB {sz : Nat} {u : TypeId} {n : Nat} {e : TypeId} {t : C.Ty} (this : shapeB P T u (.arr n e t) sz = true) : P.underlying u = some (.array n e) ∧ P.eqGuardType P.depth u = false ∧ sz = n * T.size e ∧ elemB P T e t = true := by
  unfold shapeB at this
  split at this <;> simp_all
  obtain ⟨⟨⟨⟨_, e1⟩, _⟩, _⟩, h⟩ := this
  rw [← e1]; exact h
theorem sSlB {sz : Nat} {u : TypeId} {e : TypeId} {t : C.Ty} (this : shapeB P T u (.sl e t) sz = true) : P.underlying u = some (.slice e) ∧ sz = 1 ∧ elemB P T e t = true := by
  unfold shapeB at this
  split at this <;> simp_all
  obtain ⟨⟨e1, _⟩, h⟩ := this
  rw [← e1]; exact h
theorem sStB {sz : Nat} {u : TypeId} {fs : List TypeId} (this : shapeB P T u (.struct false fs) sz = true) : ∃ fields : Array Field, P.underlying u = some (.struct fields) ∧ fields.toList.map (·.type) = fs ∧ sz = sumSz T fs ∧ offsB T fields.toList 0 = true ∧ P.stoodInHeld u = false ∧ P.eqGuardType P.depth u = false ∧
      (∀ f ∈ fields.toList, f.name ≠ "_") ∧ ∀ f ∈ fs, ∃ i, P.info? f = some i ∧ i.size = T.size f ∧ 0 < T.size f := by
  unfold shapeB at this
  split at this
  case h_4 fs' fields e1 e2 =>
    simp only [GT.struct.injEq, true_and] at e1
    subst e1
    simp only [Bool.and_eq_true, Bool.not_eq_true', List.all_eq_true] at this
    obtain ⟨⟨⟨⟨⟨⟨a1, a2⟩, a3⟩, a4⟩, a5⟩, a6⟩, a7⟩ := this
    refine ⟨fields, e2, eq_of_beq a1, Nat.eq_of_beq_eq_true a2, a3, a4, a5, fun f hf => by simpa using a6 f hf, fun f hf => ?_⟩
    have := a7 f hf
    cases hi : P.info? f with
    | none => simp [hi] at this
    | some i => simp only [hi, Bool.and_eq_true] at this; exact ⟨i, rfl, Nat.eq_of_beq_eq_true this.1, by simpa [Nat.blt_eq] using this.2⟩
  all_goals simp_all
theorem sRowB {sz : Nat} {u : TypeId} {fs : List TypeId} (this : shapeB P T u (.struct true fs) sz = true) : sz = sumSz T fs ∧ ∃ e, P.underlying u = some (.array fs.length e) ∧ fs = List.replicate fs.length e ∧ 0 < fs.length ∧ ∃ i, P.info? e = some i ∧ i.size = T.size e := by
  unfold shapeB at this
  split at this
  case h_5 fs' n e e1 e2 =>
    simp only [GT.struct.injEq, true_and] at e1
    subst e1
    simp only [Bool.and_eq_true] at this
    obtain ⟨⟨⟨⟨a1, a2⟩, a3⟩, a4⟩, a5⟩ := this
    have a1 := Nat.eq_of_beq_eq_true a1
    refine ⟨Nat.eq_of_beq_eq_true a4, e, by rw [e2, a1], eq_of_beq a2, by simpa [Nat.blt_eq] using a3, ?_⟩
    cases hi : P.info? e with
    | none => simp [hi] at a5
    | some i => simp only [hi] at a5; exact ⟨i, rfl, Nat.eq_of_beq_eq_true a5⟩
  all_goals simp_all
structure CLaws (T : Tab C) : Prop where
  encRefs : ∀ t x, (T.enc t x).refs = []
  encFit : ∀ t x, fit T (T.enc t x) (.inl (T.ety t)) = true
  decR : ∀ X t d x cs, T.dec t d = some x → R T X false d cs → R T X false (T.enc t x) cs
  eqb : ∀ t a b r, T.eqb t a b = some r → eqS (T.enc t a) (T.enc t b) = some r
  u8s : ∀ t f l, T.u8s t = some f → bytesOf T l = some (f l)
  ofU8s : ∀ t g l, T.ofU8s t = some g → (g l).map (T.enc t) = l.map fun b => .int .u8 (b.toNat : Int)
theorem mkLaws {cd : Cod C} {t : Tree (Row C)} (h : t.all (rowB P (mkTab cd t)) = true) (hc : CLaws (mkTab cd t)) (ho : P.follows .mixedOrders = true) : PLaws P (mkTab cd t) := by
  have row : ∀ u, (mkTab cd t).ty u ≠ .none → ∃ r, t.get u = some r ∧ rowB P (mkTab cd t) u r = true ∧ (mkTab cd t).ty u = r.g ∧ (mkTab cd t).size u = r.size ∧ (mkTab cd t).zero u = r.zero := by
    intro u hu
    cases hg : t.get u with
    | none => exact (hu (by simp [mkTab, hg])).elim
    | some r => exact ⟨r, rfl, Tree.get_all h hg, by simp [mkTab, hg], by simp [mkTab, hg], by simp [mkTab, hg]⟩
  have shape : ∀ u, (mkTab cd t).ty u ≠ .none → shapeB P (mkTab cd t) u ((mkTab cd t).ty u) ((mkTab cd t).size u) = true ∧ 0 < (mkTab cd t).size u ∧ ∃ i, P.info? u = some i ∧ i.size = (mkTab cd t).size u := by
    intro u hu
    obtain ⟨r, _, h1, h2, h3, _⟩ := row u hu
    simp only [rowB, Bool.and_eq_true] at h1
    obtain ⟨⟨a1, a2⟩, a3⟩ := h1
    refine ⟨by rw [h2, h3]; exact a3, by rw [h3]; simpa [Nat.blt_eq] using a1, ?_⟩
    cases hi : P.info? u with
    | none => simp [hi] at a2
    | some i => simp only [hi, Bool.and_eq_true] at a2; exact ⟨i, rfl, by rw [h3]; exact Nat.eq_of_beq_eq_true a2.1⟩
  generalize hT : mkTab cd t = T at *
  have sh : ∀ u g, T.ty u = g → g ≠ .none → shapeB P T u g (T.size u) = true := fun u g hg hn => by have := (shape u (by rw [hg]; exact hn)).1; rw [hg] at this; exact this
  have sBool : ∀ u, T.ty u = .bool → P.underlying u = some .bool ∧ T.size u = 1 := fun u hu => sBoolB (sh u _ hu (by simp))
  have sInt : ∀ u k, T.ty u = .int k → P.underlying u = some (.int k) ∧ T.size u = 1 := fun u k hu => sIntB (sh u _ hu (by simp))
  have sStr : ∀ u, T.ty u = .str → P.underlying u = some .string ∧ T.size u = 1 := fun u hu => sStrB (sh u _ hu (by simp))
  have sPtr : ∀ u e, T.ty u = .ptr e → P.underlying u = some (.pointer e) ∧ T.size u = 1 := fun u k hu => sPtrB (sh u _ hu (by simp))
  have sFn : ∀ u, T.ty u = .fn → (∃ a b c, P.underlying u = some (.func a b c)) ∧ T.size u = 1 := fun u hu => sFnB (sh u _ hu (by simp))
  have sDsl : ∀ u e, T.ty u = .dsl e → P.underlying u = some (.slice e) ∧ T.size u = 1 ∧ oneB P T e = true := fun u e hu => sDslB (sh u _ hu (by simp))
  have sMap : ∀ u k v ck cv, T.ty u = .map k v ck cv → P.underlying u = some (.map k v) ∧ T.size u = 1 ∧ mapB P T k v ck cv = true := fun u k v ck cv hu => sMapB (sh u _ hu (by simp))
  have sArr : ∀ u n e t, T.ty u = .arr n e t → P.underlying u = some (.array n e) ∧ P.eqGuardType P.depth u = false ∧ T.size u = n * T.size e ∧ elemB P T e t = true := fun u n e t hu => sArrB (sh u _ hu (by simp))
  have sSl : ∀ u e t, T.ty u = .sl e t → P.underlying u = some (.slice e) ∧ T.size u = 1 ∧ elemB P T e t = true := fun u e t hu => sSlB (sh u _ hu (by simp))
  have sSt : ∀ u fs, T.ty u = .struct false fs → ∃ fields : Array Field, P.underlying u = some (.struct fields) ∧ fields.toList.map (·.type) = fs ∧ T.size u = sumSz T fs ∧ offsB T fields.toList 0 = true ∧ P.stoodInHeld u = false ∧ P.eqGuardType P.depth u = false ∧
      (∀ f ∈ fields.toList, f.name ≠ "_") ∧ ∀ f ∈ fs, ∃ i, P.info? f = some i ∧ i.size = T.size f ∧ 0 < T.size f := fun u fs hu => sStB (sh u _ hu (by simp))
  have sRow : ∀ u fs, T.ty u = .struct true fs → T.size u = sumSz T fs ∧ ∃ e, P.underlying u = some (.array fs.length e) ∧ fs = List.replicate fs.length e ∧ 0 < fs.length ∧ ∃ i, P.info? e = some i ∧ i.size = T.size e := fun u fs hu => sRowB (sh u _ hu (by simp))
  refine ⟨⟨hc.encRefs, hc.encFit, hc.decR, hc.u8s, hc.ofU8s, ?_, ?_, ?_, fun u hu => (sBool u hu).2, fun u k hu => (sInt u k hu).2, fun u hu => (sStr u hu).2, fun u e hu => (sPtr u e hu).2, fun u hu => (sFn u hu).2, fun u e hu => (sDsl u e hu).2.1, fun u k v ck cv hu => (sMap u k v ck cv hu).2.1, fun u hu => (shape u (fun h => hu h)).2.1⟩,
    fun u hu => (sBool u hu).1, fun u k hu => (sInt u k hu).1, fun u hu => (sStr u hu).1, ?_, ?_, fun u fs hu => (sRow u fs hu).2, ?_, fun u e t hu => (sSl u e t hu).1, ?_, fun u e hu => ⟨(sDsl u e hu).1, oneB_spec (sDsl u e hu).2.2⟩, fun u k v ck cv hu => ⟨(sMap u k v ck cv hu).1, mapB_spec (sMap u k v ck cv hu).2.2⟩, fun u e hu => (sPtr u e hu).1, fun u hu => (sFn u hu).1, ?_, ?_, hc.eqb, ho⟩
  · intro u a fs hu
    cases a with
    | false => obtain ⟨_, _, _, h3, _⟩ := sSt u fs hu; exact h3
    | true => exact (sRow u fs hu).1
  · intro u n e t hu; obtain ⟨_, _, h3, h4⟩ := sArr u n e t hu; exact ⟨h3, (elemB_spec h4).1⟩
  · intro u e t hu; obtain ⟨_, h3, h4⟩ := sSl u e t hu; exact ⟨h3, (elemB_spec h4).1⟩
  · intro u fs hu
    obtain ⟨fields, h1, h2, _, h4, h5, h6, h7, _⟩ := sSt u fs hu
    refine ⟨fields, h1, h2, fun i f hf => ?_, h5, h6, h7⟩
    have := offsB_spec fields.toList 0 h4 i f (by rw [Array.getElem?_toList]; exact hf)
    rw [this, h2]; simp
  · intro u fs f hu hf; obtain ⟨_, _, _, _, _, _, _, _, h8⟩ := sSt u fs hu; exact h8 f hf
  · intro u n e t hu; obtain ⟨h1, h2, _⟩ := sArr u n e t hu; exact ⟨h1, h2⟩
  · rintro u e t (⟨n, hu⟩ | hu)
    · exact (elemB_spec (sArr u n e t hu).2.2.2).2
    · exact (elemB_spec (sSl u e t hu).2.2).2
  · intro u d hf
    refine (shape u (fun hn => ?_)).2.2
    cases d <;> simp [fit, hn] at hf
  · intro u z hz
    subst hT
    cases hg : t.get u with
    | none => simp [mkTab, hg] at hz
    | some r =>
      have hr := Tree.get_all h hg
      have hz' : r.zero = some z := by simpa [mkTab, hg] using hz
      simp only [rowB, Bool.and_eq_true] at hr
      obtain ⟨⟨a1, a2⟩, a3⟩ := hr
      cases hi : P.info? u with
      | none => simp [hi] at a2
      | some i =>
        simp only [hi, Bool.and_eq_true, hz'] at a2
        cases hv : i.zero with
        | none => simp [hv] at a2
        | some v =>
          simp only [hv, Bool.and_eq_true] at a2
          exact ⟨i, v, rfl, hv, List.isEmpty_iff.1 a2.2.1, zB_ok a2.2.2⟩
end
structure Write where
  key : Int
  value : Int
  deriving DecidableEq
structure Item where
  key : Int
  place : Int
  value : Int
  deriving DecidableEq
structure Line where
  offset : Int
  place : Int
  j : Int
  key : Int
  value : Int
  deriving DecidableEq
structure Rec where
  place : Int
  yes : Bool
  writes : List Write
  deriving DecidableEq
structure St where
  place : Int
  items : List Item
  l0 : List Line
  l1 : List Line
  l2 : List Line
  c0 : Int
  c1 : Int
  c2 : Int
  deriving DecidableEq
structure Sector where
  n : Int
  b : List UInt8
  deriving DecidableEq
structure Frame where
  prog : Int
  at' : Int
  r : List Int
  deriving DecidableEq
structure Action where
  kind : Int
  a : Int
  b : Int
  v : Int
  gen : Int
  text : List UInt8
  args : List Int
  deriving DecidableEq
structure Event where
  client : Int
  act : Action
  got : Int
  deriving DecidableEq
structure Gone where
  handle : Int
  node : Bool
  epoch : Int
  deriving DecidableEq
structure Try where
  place : Int
  start : Int
  writes : List Write
  deriving DecidableEq
structure Task where
  client : Int
  stack : List Frame
  got : List Int
  over : Bool
  deriving DecidableEq
structure Txn where
  id : Int
  start : Int
  writes : List Write
  deriving DecidableEq
section
variable {C : Cdc} {T : Tab C} {X : Cx}
def dIntK (k : IntKind) : D C → Option Int
  | .int k' n => if k' = k then some n else none
  | _ => none
def dBool : D C → Option Bool
  | .bool b => some b
  | _ => none
def asArrN (t : C.Ty) (n : Nat) : D C → Option (List (C.A t))
  | .arr t' m l => if h : t' = t then (if m = n then some (h ▸ l) else none) else none
  | _ => none
theorem dIntK_R {k : IntKind} {d : D C} {x : Int} {cs : List Value} (hd : dIntK k d = some x) (hr : R T X false d cs) : R T X false (.int k x) cs := by
  unfold dIntK at hd; split at hd
  · split at hd
    · rename_i h; subst h; cases hd; exact hr
    · cases hd
  · cases hd
theorem dBool_R {d : D C} {x : Bool} {cs : List Value} (hd : dBool d = some x) (hr : R T X false d cs) : R T X false (.bool x) cs := by
  unfold dBool at hd; split at hd
  · cases hd; exact hr
  · cases hd
theorem asList_R {t : C.Ty} {d : D C} {x : List (C.A t)} {cs : List Value} (hd : D.asList t d = some x) (hr : R T X false d cs) : R T X false (.sl t false x) cs := by
  unfold D.asList at hd
  split at hd
  · cases hd
    cases hr; exact .sl0 _ _ _
  · rename_i t' cp l
    split at hd
    · rename_i he
      cases he
      cases hd
      cases hr with
      | sl0 => exact .sl0 _ _ _
      | sl a1 a2 a3 a4 => exact .sl a1 a2 a3 (by simp)
    · cases hd
  · cases hd
theorem asArrN_R {t : C.Ty} {n : Nat} {d : D C} {x : List (C.A t)} {cs : List Value} (hd : asArrN t n d = some x) (hr : R T X false d cs) : R T X false (.arr t n x) cs := by
  unfold asArrN at hd
  split at hd
  · split at hd
    · rename_i he
      cases he
      split at hd
      · rename_i hn; subst hn; cases hd; exact hr
      · cases hd
    · cases hd
  · cases hd
theorem acons_map {d ds d' ds' : D C} {cs : List Value} (hr : R T X false (.acons d ds) cs) (h1 : ∀ c, R T X false d c → R T X false d' c) (h2 : ∀ c, R T X false ds c → R T X false ds' c) : R T X false (.acons d' ds') cs := by
  cases hr with
  | acons a b => exact .acons (h1 _ a) (h2 _ b)
end
structure Pick where
  client : Int
  do_ : Int
  part : Int
  from_ : Int
structure Disk where
  now : List (Sector)
  sure : List (Sector)
structure WorldS where
  c : List (Int)
  d : Disk
inductive RTy | bool | frame | int | line | pick | recd | sector | task | write
  deriving DecidableEq
@[reducible] def RA : RTy → Type
  | .bool => Bool
  | .frame => Frame
  | .int => Int
  | .line => Line
  | .pick => Pick
  | .recd => Rec
  | .sector => Sector
  | .task => Task
  | .write => Write
@[reducible] def RC : Cdc := ⟨RTy, inferInstance, RA⟩
def eWrite (x : Write) : D RC := .acons (.int .i64 (Write.key x)) (.acons (.int .i64 (Write.value x)) (.anil))
def dWrite : D RC → Option Write
  | .acons (.int .i64 a0) (.acons (.int .i64 a1) (.anil)) => some ⟨a0, a1⟩
  | _ => none
theorem dWrite_R {T : Tab RC} {X : Cx} {d : D RC} {x : Write} {cs : List Value} (hd : dWrite d = some x) (hr : R T X false d cs) : R T X false (eWrite x) cs := by
  unfold dWrite at hd
  split at hd
  · skip
    cases hd
    exact acons_map hr (fun _ h => h) (fun _ hr => acons_map hr (fun _ h => h) (fun _ hr => hr))
  · cases hd
def eRecC (x : Rec) (c0 : Bool) : D RC := .acons (.int .i64 (Rec.place x)) (.acons (.bool (Rec.yes x)) (.acons (.sl (C := RC) .write c0 (Rec.writes x)) (.anil)))
def eRec (x : Rec) : D RC := .acons (.int .i64 (Rec.place x)) (.acons (.bool (Rec.yes x)) (.acons (.sl (C := RC) .write false (Rec.writes x)) (.anil)))
def dRec : D RC → Option Rec
  | .acons (.int .i64 a0) (.acons (.bool a1) (.acons (a2) (.anil))) => match D.asList (C := RC) .write a2 with | some b2 => (some ⟨a0, a1, b2⟩) | none => none
  | _ => none
theorem dRec_R {T : Tab RC} {X : Cx} {d : D RC} {x : Rec} {cs : List Value} (hd : dRec d = some x) (hr : R T X false d cs) : R T X false (eRec x) cs := by
  unfold dRec at hd
  split at hd
  · skip
    split at hd
    case h_2 => cases hd
    rename_i h2
    cases hd
    exact acons_map hr (fun _ h => h) (fun _ hr => acons_map hr (fun _ h => h) (fun _ hr => acons_map hr (fun _ h => asList_R h2 h) (fun _ hr => hr)))
  · cases hd
def ePick (x : Pick) : D RC := .acons (.int .i64 (Pick.client x)) (.acons (.int .i64 (Pick.do_ x)) (.acons (.int .i64 (Pick.part x)) (.acons (.int .i64 (Pick.from_ x)) (.anil))))
def dPick : D RC → Option Pick
  | .acons (.int .i64 a0) (.acons (.int .i64 a1) (.acons (.int .i64 a2) (.acons (.int .i64 a3) (.anil)))) => some ⟨a0, a1, a2, a3⟩
  | _ => none
theorem dPick_R {T : Tab RC} {X : Cx} {d : D RC} {x : Pick} {cs : List Value} (hd : dPick d = some x) (hr : R T X false d cs) : R T X false (ePick x) cs := by
  unfold dPick at hd
  split at hd
  · skip
    cases hd
    exact acons_map hr (fun _ h => h) (fun _ hr => acons_map hr (fun _ h => h) (fun _ hr => acons_map hr (fun _ h => h) (fun _ hr => acons_map hr (fun _ h => h) (fun _ hr => hr))))
  · cases hd
def eLine (x : Line) : D RC := .acons (.int .i64 (Line.offset x)) (.acons (.int .i64 (Line.place x)) (.acons (.int .i64 (Line.j x)) (.acons (.int .i64 (Line.key x)) (.acons (.int .i64 (Line.value x)) (.anil)))))
def dLine : D RC → Option Line
  | .acons (.int .i64 a0) (.acons (.int .i64 a1) (.acons (.int .i64 a2) (.acons (.int .i64 a3) (.acons (.int .i64 a4) (.anil))))) => some ⟨a0, a1, a2, a3, a4⟩
  | _ => none
theorem dLine_R {T : Tab RC} {X : Cx} {d : D RC} {x : Line} {cs : List Value} (hd : dLine d = some x) (hr : R T X false d cs) : R T X false (eLine x) cs := by
  unfold dLine at hd
  split at hd
  · skip
    cases hd
    exact acons_map hr (fun _ h => h) (fun _ hr => acons_map hr (fun _ h => h) (fun _ hr => acons_map hr (fun _ h => h) (fun _ hr => acons_map hr (fun _ h => h) (fun _ hr => acons_map hr (fun _ h => h) (fun _ hr => hr)))))
  · cases hd
def eSector (x : Sector) : D RC := .acons (.int .i64 (Sector.n x)) (.acons (.str (Sector.b x)) (.anil))
def dSector : D RC → Option Sector
  | .acons (.int .i64 a0) (.acons (.str a1) (.anil)) => some ⟨a0, a1⟩
  | _ => none
theorem dSector_R {T : Tab RC} {X : Cx} {d : D RC} {x : Sector} {cs : List Value} (hd : dSector d = some x) (hr : R T X false d cs) : R T X false (eSector x) cs := by
  unfold dSector at hd
  split at hd
  · skip
    cases hd
    exact acons_map hr (fun _ h => h) (fun _ hr => acons_map hr (fun _ h => h) (fun _ hr => hr))
  · cases hd
def eFrame (x : Frame) : D RC := .acons (.int .i8 (Frame.prog x)) (.acons (.int .i64 (Frame.at' x)) (.acons (.arr (C := RC) .int 96 (Frame.r x)) (.anil)))
def dFrame : D RC → Option Frame
  | .acons (.int .i8 a0) (.acons (.int .i64 a1) (.acons (a2) (.anil))) => match asArrN (C := RC) .int 96 a2 with | some b2 => (some ⟨a0, a1, b2⟩) | none => none
  | _ => none
theorem dFrame_R {T : Tab RC} {X : Cx} {d : D RC} {x : Frame} {cs : List Value} (hd : dFrame d = some x) (hr : R T X false d cs) : R T X false (eFrame x) cs := by
  unfold dFrame at hd
  split at hd
  · skip
    split at hd
    case h_2 => cases hd
    rename_i h2
    cases hd
    exact acons_map hr (fun _ h => h) (fun _ hr => acons_map hr (fun _ h => h) (fun _ hr => acons_map hr (fun _ h => asArrN_R h2 h) (fun _ hr => hr)))
  · cases hd
def eTaskC (x : Task) (c0 c1 : Bool) : D RC := .acons (.int .i64 (Task.client x)) (.acons (.sl (C := RC) .frame c0 (Task.stack x)) (.acons (.sl (C := RC) .int c1 (Task.got x)) (.acons (.bool (Task.over x)) (.anil))))
def eTask (x : Task) : D RC := .acons (.int .i64 (Task.client x)) (.acons (.sl (C := RC) .frame false (Task.stack x)) (.acons (.sl (C := RC) .int false (Task.got x)) (.acons (.bool (Task.over x)) (.anil))))
def dTask : D RC → Option Task
  | .acons (.int .i64 a0) (.acons (a1) (.acons (a2) (.acons (.bool a3) (.anil)))) => match D.asList (C := RC) .frame a1 with | some b1 => (match D.asList (C := RC) .int a2 with | some b2 => (some ⟨a0, b1, b2, a3⟩) | none => none) | none => none
  | _ => none
theorem dTask_R {T : Tab RC} {X : Cx} {d : D RC} {x : Task} {cs : List Value} (hd : dTask d = some x) (hr : R T X false d cs) : R T X false (eTask x) cs := by
  unfold dTask at hd
  split at hd
  · skip
    split at hd
    case h_2 => cases hd
    rename_i h1
    split at hd
    case h_2 => cases hd
    rename_i h2
    cases hd
    exact acons_map hr (fun _ h => h) (fun _ hr => acons_map hr (fun _ h => asList_R h1 h) (fun _ hr => acons_map hr (fun _ h => asList_R h2 h) (fun _ hr => acons_map hr (fun _ h => h) (fun _ hr => hr))))
  · cases hd
def rEnc : (t : RTy) → RA t → D RC
  | .bool, x => .bool (x)
  | .frame, x => eFrame (x)
  | .int, x => .int .i64 (x)
  | .line, x => eLine (x)
  | .pick, x => ePick (x)
  | .recd, x => eRec (x)
  | .sector, x => eSector (x)
  | .task, x => eTask (x)
  | .write, x => eWrite (x)
def rDec : (t : RTy) → D RC → Option (RA t)
  | .bool => dBool
  | .frame => dFrame
  | .int => dIntK .i64
  | .line => dLine
  | .pick => dPick
  | .recd => dRec
  | .sector => dSector
  | .task => dTask
  | .write => dWrite
def rDflt : (t : RTy) → RA t
  | .bool => (false : Bool)
  | .frame => (⟨0, 0, List.replicate 96 (0)⟩ : Frame)
  | .int => (0 : Int)
  | .line => (⟨0, 0, 0, 0, 0⟩ : Line)
  | .pick => (⟨0, 0, 0, 0⟩ : Pick)
  | .recd => (⟨0, false, []⟩ : Rec)
  | .sector => (⟨0, []⟩ : Sector)
  | .task => (⟨0, [], [], false⟩ : Task)
  | .write => (⟨0, 0⟩ : Write)
def rEqb : (t : RTy) → RA t → RA t → Option Bool
  | .bool => fun (a b : Bool) => some (a == b)
  | .frame => fun _ _ => none
  | .int => fun (a b : Int) => some (a == b)
  | .line => fun _ _ => none
  | .pick => fun _ _ => none
  | .recd => fun _ _ => none
  | .sector => fun _ _ => none
  | .task => fun _ _ => none
  | .write => fun _ _ => none
def rU8s : (t : RTy) → Option (List (RA t) → List UInt8)
  | _ => none
def rOfU8s : (t : RTy) → Option (List UInt8 → List (RA t))
  | _ => none
def rCod (ety : RTy → TypeId) : Cod RC := ⟨rEnc, rDec, rDflt, ety, rEqb, rU8s, rOfU8s⟩
theorem rDecR {T : Tab RC} {X : Cx} : ∀ (t : RTy) {d : D RC} {x : RA t} {cs : List Value}, rDec t d = some x → R T X false d cs → R T X false (rEnc t x) cs
  | .bool, _, _, _, hd, hr => dBool_R hd hr
  | .frame, _, _, _, hd, hr => dFrame_R hd hr
  | .int, _, _, _, hd, hr => dIntK_R hd hr
  | .line, _, _, _, hd, hr => dLine_R hd hr
  | .pick, _, _, _, hd, hr => dPick_R hd hr
  | .recd, _, _, _, hd, hr => dRec_R hd hr
  | .sector, _, _, _, hd, hr => dSector_R hd hr
  | .task, _, _, _, hd, hr => dTask_R hd hr
  | .write, _, _, _, hd, hr => dWrite_R hd hr
theorem rEqbR : ∀ {t : RTy} {a b : RA t} {r : Bool}, rEqb t a b = some r → eqS (rEnc t a) (rEnc t b) = some r
  | .bool, a, b, r, h => by
    simp only [rEqb, rEnc, eqS] at h ⊢; simpa using h
  | .frame, _, _, _, h => absurd (show (none : Option Bool) = some _ from h) (by simp)
  | .int, a, b, r, h => by
    simp only [rEqb, rEnc, eqS] at h ⊢; simpa using h
  | .line, _, _, _, h => absurd (show (none : Option Bool) = some _ from h) (by simp)
  | .pick, _, _, _, h => absurd (show (none : Option Bool) = some _ from h) (by simp)
  | .recd, _, _, _, h => absurd (show (none : Option Bool) = some _ from h) (by simp)
  | .sector, _, _, _, h => absurd (show (none : Option Bool) = some _ from h) (by simp)
  | .task, _, _, _, h => absurd (show (none : Option Bool) = some _ from h) (by simp)
  | .write, _, _, _, h => absurd (show (none : Option Bool) = some _ from h) (by simp)
theorem rRefs (t : RTy) (x : RA t) : (rEnc t x).refs = [] := by cases t <;> rfl
theorem rU8sR {T : Tab RC} (he : T.enc = rEnc) : ∀ (t : RTy) (f : List (RA t) → List UInt8) (l : List (RA t)), rU8s t = some f → bytesOf T l = some (f l) := by
  intro t f l h
  cases t <;> simp [rU8s] at h
theorem rOfU8sR : ∀ (t : RTy) (g : List UInt8 → List (RA t)) (l : List UInt8), rOfU8s t = some g → (g l).map (rEnc t) = l.map fun b => .int .u8 (b.toNat : Int) := by
  intro t g l h
  cases t <;> simp [rOfU8s] at h
theorem rLaws {ety : RTy → TypeId} {t : Tree (Row RC)} (hfit : ∀ t' x, fit (mkTab (rCod ety) t) (rEnc t' x) (.inl (ety t')) = true) : CLaws (mkTab (rCod ety) t) :=
  ⟨rRefs, hfit, fun X t d x cs hd hr => rDecR t hd hr, fun t a b r h => rEqbR h, rU8sR rfl, rOfU8sR⟩
open Go.Proofs
set_option maxRecDepth 100000
def s19Ety : RTy → TypeId := fun | .bool => 4 | .frame => 73 | .int => 3 | .line => 55 | .pick => 35 | .recd => 68 | .sector => 151 | .task => 48 | .write => 85
def s19Tree : Tree (Row RC) := (.node 98 ⟨(.dsl 95), 1, 24, some .nils⟩ (.node 54 ⟨(.struct false [3, 3, 3, 3, 3]), 5, 40, some (.acons (.int .i64 0) (.acons (.int .i64 0) (.acons (.int .i64 0) (.acons (.int .i64 0) (.acons (.int .i64 0) .anil)))))⟩ (.node 33 ⟨(.struct false [27, 22, 29, 29, 29, 31]), 26, 224, some (.acons .nilp (.acons (.sl .recd true []) (.acons (.arr .int 4 (List.replicate 4 (rDflt .int))) (.acons (.arr .int 4 (List.replicate 4 (rDflt .int))) (.acons (.arr .int 4 (List.replicate 4 (rDflt .int))) (.acons (.acons (.arr .int 3 (List.replicate 3 (rDflt .int))) (.acons (.arr .int 3 (List.replicate 3 (rDflt .int))) (.acons (.arr .int 3 (List.replicate 3 (rDflt .int))) (.acons (.arr .int 3 (List.replicate 3 (rDflt .int))) .anil)))) .anil))))))⟩ (.node 23 ⟨(.sl 35 .pick), 1, 24, some (.sl .pick true [])⟩ (.node 5 ⟨(.int .u8), 1, 1, some (.int .u8 0)⟩ (.node 3 ⟨(.int .i64), 1, 8, some (.int .i64 0)⟩ (.node 2 ⟨(.int .i64), 1, 8, some (.int .i64 0)⟩ (.node 1 ⟨.fn, 1, 8, some .nilfn⟩ .nil .nil) .nil) (.node 4 ⟨.bool, 1, 1, some (.bool false)⟩ .nil .nil)) (.node 21 ⟨(.int .i32), 1, 4, some (.int .i32 0)⟩ (.node 12 ⟨(.int .u64), 1, 8, some (.int .u64 0)⟩ (.node 9 ⟨.str, 1, 16, some (.str [])⟩ .nil .nil) .nil) (.node 22 ⟨(.sl 68 .recd), 1, 24, some (.sl .recd true [])⟩ .nil .nil))) (.node 28 ⟨.fn, 1, 8, some .nilfn⟩ (.node 26 ⟨(.ptr 33), 1, 8, some .nilp⟩ (.node 25 ⟨.fn, 1, 8, some .nilfn⟩ (.node 24 ⟨.fn, 1, 8, some .nilfn⟩ .nil .nil) .nil) (.node 27 ⟨(.ptr 52), 1, 8, some .nilp⟩ .nil .nil)) (.node 31 ⟨(.struct true [30, 30, 30, 30]), 12, 96, some (.acons (.arr .int 3 (List.replicate 3 (rDflt .int))) (.acons (.arr .int 3 (List.replicate 3 (rDflt .int))) (.acons (.arr .int 3 (List.replicate 3 (rDflt .int))) (.acons (.arr .int 3 (List.replicate 3 (rDflt .int))) .anil))))⟩ (.node 30 ⟨(.arr 3 3 .int), 3, 24, some (.arr .int 3 (List.replicate 3 (rDflt .int)))⟩ (.node 29 ⟨(.arr 4 3 .int), 4, 32, some (.arr .int 4 (List.replicate 4 (rDflt .int)))⟩ .nil .nil) .nil) (.node 32 ⟨(.struct false [27, 22, 29, 29, 29, 31]), 26, 224, some (.acons .nilp (.acons (.sl .recd true []) (.acons (.arr .int 4 (List.replicate 4 (rDflt .int))) (.acons (.arr .int 4 (List.replicate 4 (rDflt .int))) (.acons (.arr .int 4 (List.replicate 4 (rDflt .int))) (.acons (.acons (.arr .int 3 (List.replicate 3 (rDflt .int))) (.acons (.arr .int 3 (List.replicate 3 (rDflt .int))) (.acons (.arr .int 3 (List.replicate 3 (rDflt .int))) (.acons (.arr .int 3 (List.replicate 3 (rDflt .int))) .anil)))) .anil))))))⟩ .nil .nil)))) (.node 44 ⟨(.struct false [36, 43]), 3, 72, some (.acons (.sl .int true []) (.acons (.acons (.sl .sector true []) (.acons (.sl .sector true []) .anil)) .anil))⟩ (.node 39 ⟨(.sl 55 .line), 1, 24, some (.sl .line true [])⟩ (.node 36 ⟨(.sl 3 .int), 1, 24, some (.sl .int true [])⟩ (.node 35 ⟨(.struct false [3, 3, 3, 3]), 4, 32, some (.acons (.int .i64 0) (.acons (.int .i64 0) (.acons (.int .i64 0) (.acons (.int .i64 0) .anil))))⟩ (.node 34 ⟨(.struct false [3, 3, 3, 3]), 4, 32, some (.acons (.int .i64 0) (.acons (.int .i64 0) (.acons (.int .i64 0) (.acons (.int .i64 0) .anil))))⟩ .nil .nil) .nil) (.node 38 ⟨.fn, 1, 8, some .nilfn⟩ .nil .nil)) (.node 42 ⟨(.struct false [41, 41]), 2, 48, some (.acons (.sl .sector true []) (.acons (.sl .sector true []) .anil))⟩ (.node 41 ⟨(.sl 151 .sector), 1, 24, some (.sl .sector true [])⟩ (.node 40 ⟨.fn, 1, 8, some .nilfn⟩ .nil .nil) .nil) (.node 43 ⟨(.struct false [41, 41]), 2, 48, some (.acons (.sl .sector true []) (.acons (.sl .sector true []) .anil))⟩ .nil .nil))) (.node 49 ⟨(.arr 4 48 .task), 16, 256, some (.arr .task 4 (List.replicate 4 (rDflt .task)))⟩ (.node 47 ⟨(.struct false [3, 46, 36, 4]), 4, 64, some (.acons (.int .i64 0) (.acons (.sl .frame true []) (.acons (.sl .int true []) (.acons (.bool false) .anil))))⟩ (.node 46 ⟨(.sl 73 .frame), 1, 24, some (.sl .frame true [])⟩ (.node 45 ⟨(.struct false [36, 43]), 3, 72, some (.acons (.sl .int true []) (.acons (.acons (.sl .sector true []) (.acons (.sl .sector true []) .anil)) .anil))⟩ .nil .nil) .nil) (.node 48 ⟨(.struct false [3, 46, 36, 4]), 4, 64, some (.acons (.int .i64 0) (.acons (.sl .frame true []) (.acons (.sl .int true []) (.acons (.bool false) .anil))))⟩ .nil .nil)) (.node 52 ⟨(.struct false [45, 49, 49, 50]), 39, 592, some (.acons (.acons (.sl .int true []) (.acons (.acons (.sl .sector true []) (.acons (.sl .sector true []) .anil)) .anil)) (.acons (.arr .task 4 (List.replicate 4 (rDflt .task))) (.acons (.arr .task 4 (List.replicate 4 (rDflt .task))) (.acons (.arr .bool 4 (List.replicate 4 (rDflt .bool))) .anil))))⟩ (.node 51 ⟨(.struct false [45, 49, 49, 50]), 39, 592, some (.acons (.acons (.sl .int true []) (.acons (.acons (.sl .sector true []) (.acons (.sl .sector true []) .anil)) .anil)) (.acons (.arr .task 4 (List.replicate 4 (rDflt .task))) (.acons (.arr .task 4 (List.replicate 4 (rDflt .task))) (.acons (.arr .bool 4 (List.replicate 4 (rDflt .bool))) .anil))))⟩ (.node 50 ⟨(.arr 4 4 .bool), 4, 4, some (.arr .bool 4 (List.replicate 4 (rDflt .bool)))⟩ .nil .nil) .nil) (.node 53 ⟨.fn, 1, 8, some .nilfn⟩ .nil .nil))))) (.node 77 ⟨.fn, 1, 8, some .nilfn⟩ (.node 66 ⟨(.sl 85 .write), 1, 24, some (.sl .write true [])⟩ (.node 61 ⟨.fn, 1, 8, some .nilfn⟩ (.node 58 ⟨.fn, 1, 8, some .nilfn⟩ (.node 56 ⟨(.int .i64), 1, 8, some (.int .i64 0)⟩ (.node 55 ⟨(.struct false [3, 3, 3, 3, 3]), 5, 40, some (.acons (.int .i64 0) (.acons (.int .i64 0) (.acons (.int .i64 0) (.acons (.int .i64 0) (.acons (.int .i64 0) .anil)))))⟩ .nil .nil) .nil) (.node 59 ⟨.fn, 1, 8, some .nilfn⟩ .nil .nil)) (.node 64 ⟨.fn, 1, 8, some .nilfn⟩ (.node 63 ⟨.fn, 1, 8, some .nilfn⟩ (.node 62 ⟨.fn, 1, 8, some .nilfn⟩ .nil .nil) .nil) (.node 65 ⟨.fn, 1, 8, some .nilfn⟩ .nil .nil))) (.node 71 ⟨(.arr 96 3 .int), 96, 768, some (.arr .int 96 (List.replicate 96 (rDflt .int)))⟩ (.node 69 ⟨.fn, 1, 8, some .nilfn⟩ (.node 68 ⟨(.struct false [3, 4, 66]), 3, 40, some (.acons (.int .i64 0) (.acons (.bool false) (.acons (.sl .write true []) .anil)))⟩ (.node 67 ⟨(.struct false [3, 4, 66]), 3, 40, some (.acons (.int .i64 0) (.acons (.bool false) (.acons (.sl .write true []) .anil)))⟩ .nil .nil) .nil) (.node 70 ⟨(.int .i8), 1, 1, some (.int .i8 0)⟩ .nil .nil)) (.node 74 ⟨(.struct false [70, 3, 3, 3, 3, 9, 36]), 7, 80, some (.acons (.int .i8 0) (.acons (.int .i64 0) (.acons (.int .i64 0) (.acons (.int .i64 0) (.acons (.int .i64 0) (.acons (.str []) (.acons (.sl .int true []) .anil)))))))⟩ (.node 73 ⟨(.struct false [70, 3, 71]), 98, 784, some (.acons (.int .i8 0) (.acons (.int .i64 0) (.acons (.arr .int 96 (List.replicate 96 (rDflt .int))) .anil)))⟩ (.node 72 ⟨(.struct false [70, 3, 71]), 98, 784, some (.acons (.int .i8 0) (.acons (.int .i64 0) (.acons (.arr .int 96 (List.replicate 96 (rDflt .int))) .anil)))⟩ .nil .nil) .nil) (.node 75 ⟨(.struct false [70, 3, 3, 3, 3, 9, 36]), 7, 80, some (.acons (.int .i8 0) (.acons (.int .i64 0) (.acons (.int .i64 0) (.acons (.int .i64 0) (.acons (.int .i64 0) (.acons (.str []) (.acons (.sl .int true []) .anil)))))))⟩ .nil .nil)))) (.node 88 ⟨(.ptr 55), 1, 8, some .nilp⟩ (.node 83 ⟨.fn, 1, 8, some .nilfn⟩ (.node 80 ⟨.fn, 1, 8, some .nilfn⟩ (.node 79 ⟨.fn, 1, 8, some .nilfn⟩ (.node 78 ⟨.fn, 1, 8, some .nilfn⟩ .nil .nil) .nil) (.node 81 ⟨.fn, 1, 8, some .nilfn⟩ .nil .nil)) (.node 86 ⟨.fn, 1, 8, some .nilfn⟩ (.node 85 ⟨(.struct false [3, 3]), 2, 16, some (.acons (.int .i64 0) (.acons (.int .i64 0) .anil))⟩ (.node 84 ⟨(.struct false [3, 3]), 2, 16, some (.acons (.int .i64 0) (.acons (.int .i64 0) .anil))⟩ .nil .nil) .nil) (.node 87 ⟨.fn, 1, 8, some .nilfn⟩ .nil .nil))) (.node 93 ⟨.fn, 1, 8, some .nilfn⟩ (.node 91 ⟨.fn, 1, 8, some .nilfn⟩ (.node 90 ⟨.fn, 1, 8, some .nilfn⟩ (.node 89 ⟨(.int .u64), 1, 8, some (.int .u64 0)⟩ .nil .nil) .nil) (.node 92 ⟨.fn, 1, 8, some .nilfn⟩ .nil .nil)) (.node 96 ⟨.fn, 1, 8, some .nilfn⟩ (.node 95 ⟨.fn, 1, 8, some .nilfn⟩ (.node 94 ⟨.fn, 1, 8, some .nilfn⟩ .nil .nil) .nil) (.node 97 ⟨(.ptr 111), 1, 8, some .nilp⟩ .nil .nil)))))) (.node 144 ⟨.fn, 1, 8, some .nilfn⟩ (.node 121 ⟨.fn, 1, 8, some .nilfn⟩ (.node 111 ⟨(.struct false [73, 36, 3]), 100, 816, some (.acons (.acons (.int .i8 0) (.acons (.int .i64 0) (.acons (.arr .int 96 (List.replicate 96 (rDflt .int))) .anil))) (.acons (.sl .int true []) (.acons (.int .i64 0) .anil)))⟩ (.node 106 ⟨.fn, 1, 8, some .nilfn⟩ (.node 103 ⟨.fn, 1, 8, some .nilfn⟩ (.node 102 ⟨.fn, 1, 8, some .nilfn⟩ (.node 100 ⟨.fn, 1, 8, some .nilfn⟩ .nil .nil) .nil) (.node 104 ⟨.fn, 1, 8, some .nilfn⟩ .nil .nil)) (.node 109 ⟨.fn, 1, 8, some .nilfn⟩ (.node 108 ⟨.fn, 1, 8, some .nilfn⟩ (.node 107 ⟨.fn, 1, 8, some .nilfn⟩ .nil .nil) .nil) (.node 110 ⟨(.struct false [73, 36, 3]), 100, 816, some (.acons (.acons (.int .i8 0) (.acons (.int .i64 0) (.acons (.arr .int 96 (List.replicate 96 (rDflt .int))) .anil))) (.acons (.sl .int true []) (.acons (.int .i64 0) .anil)))⟩ .nil .nil))) (.node 116 ⟨.fn, 1, 8, some .nilfn⟩ (.node 114 ⟨.fn, 1, 8, some .nilfn⟩ (.node 113 ⟨.fn, 1, 8, some .nilfn⟩ (.node 112 ⟨.fn, 1, 8, some .nilfn⟩ .nil .nil) .nil) (.node 115 ⟨.fn, 1, 8, some .nilfn⟩ .nil .nil)) (.node 119 ⟨(.struct false [73, 3]), 99, 792, some (.acons (.acons (.int .i8 0) (.acons (.int .i64 0) (.acons (.arr .int 96 (List.replicate 96 (rDflt .int))) .anil))) (.acons (.int .i64 0) .anil))⟩ (.node 118 ⟨.fn, 1, 8, some .nilfn⟩ (.node 117 ⟨.fn, 1, 8, some .nilfn⟩ .nil .nil) .nil) (.node 120 ⟨(.struct false [73, 3]), 99, 792, some (.acons (.acons (.int .i8 0) (.acons (.int .i64 0) (.acons (.arr .int 96 (List.replicate 96 (rDflt .int))) .anil))) (.acons (.int .i64 0) .anil))⟩ .nil .nil)))) (.node 134 ⟨.fn, 1, 8, some .nilfn⟩ (.node 128 ⟨.fn, 1, 8, some .nilfn⟩ (.node 124 ⟨.fn, 1, 8, some .nilfn⟩ (.node 123 ⟨(.struct true [122, 122, 122]), 18, 144, some (.acons (.acons .nilfn (.acons .nilfn (.acons .nilfn (.acons .nilfn (.acons .nilfn (.acons .nilfn .anil)))))) (.acons (.acons .nilfn (.acons .nilfn (.acons .nilfn (.acons .nilfn (.acons .nilfn (.acons .nilfn .anil)))))) (.acons (.acons .nilfn (.acons .nilfn (.acons .nilfn (.acons .nilfn (.acons .nilfn (.acons .nilfn .anil)))))) .anil)))⟩ (.node 122 ⟨(.struct true [121, 121, 121, 121, 121, 121]), 6, 48, some (.acons .nilfn (.acons .nilfn (.acons .nilfn (.acons .nilfn (.acons .nilfn (.acons .nilfn .anil))))))⟩ .nil .nil) .nil) (.node 126 ⟨.fn, 1, 8, some .nilfn⟩ .nil .nil)) (.node 132 ⟨.fn, 1, 8, some .nilfn⟩ (.node 131 ⟨.fn, 1, 8, some .nilfn⟩ (.node 129 ⟨.fn, 1, 8, some .nilfn⟩ .nil .nil) .nil) (.node 133 ⟨.fn, 1, 8, some .nilfn⟩ .nil .nil))) (.node 139 ⟨.fn, 1, 8, some .nilfn⟩ (.node 137 ⟨.fn, 1, 8, some .nilfn⟩ (.node 136 ⟨.fn, 1, 8, some .nilfn⟩ (.node 135 ⟨.fn, 1, 8, some .nilfn⟩ .nil .nil) .nil) (.node 138 ⟨.fn, 1, 8, some .nilfn⟩ .nil .nil)) (.node 142 ⟨(.dsl 140), 1, 24, some .nils⟩ (.node 141 ⟨(.ptr 158), 1, 8, some .nilp⟩ (.node 140 ⟨.fn, 1, 8, some .nilfn⟩ .nil .nil) .nil) (.node 143 ⟨.fn, 1, 8, some .nilfn⟩ .nil .nil))))) (.node 164 ⟨.fn, 1, 8, some .nilfn⟩ (.node 154 ⟨.fn, 1, 8, some .nilfn⟩ (.node 149 ⟨.fn, 1, 8, some .nilfn⟩ (.node 147 ⟨.fn, 1, 8, some .nilfn⟩ (.node 146 ⟨.fn, 1, 8, some .nilfn⟩ (.node 145 ⟨.fn, 1, 8, some .nilfn⟩ .nil .nil) .nil) (.node 148 ⟨.fn, 1, 8, some .nilfn⟩ .nil .nil)) (.node 152 ⟨(.struct false [73, 3]), 99, 792, some (.acons (.acons (.int .i8 0) (.acons (.int .i64 0) (.acons (.arr .int 96 (List.replicate 96 (rDflt .int))) .anil))) (.acons (.int .i64 0) .anil))⟩ (.node 151 ⟨(.struct false [3, 9]), 2, 24, some (.acons (.int .i64 0) (.acons (.str []) .anil))⟩ (.node 150 ⟨(.struct false [3, 9]), 2, 24, some (.acons (.int .i64 0) (.acons (.str []) .anil))⟩ .nil .nil) .nil) (.node 153 ⟨(.struct false [73, 3]), 99, 792, some (.acons (.acons (.int .i8 0) (.acons (.int .i64 0) (.acons (.arr .int 96 (List.replicate 96 (rDflt .int))) .anil))) (.acons (.int .i64 0) .anil))⟩ .nil .nil))) (.node 159 ⟨.fn, 1, 8, some .nilfn⟩ (.node 157 ⟨(.struct false [73, 36, 3]), 100, 816, some (.acons (.acons (.int .i8 0) (.acons (.int .i64 0) (.acons (.arr .int 96 (List.replicate 96 (rDflt .int))) .anil))) (.acons (.sl .int true []) (.acons (.int .i64 0) .anil)))⟩ (.node 156 ⟨(.struct true [154, 154]), 2, 16, some (.acons .nilfn (.acons .nilfn .anil))⟩ (.node 155 ⟨(.struct true [154, 154, 154]), 3, 24, some (.acons .nilfn (.acons .nilfn (.acons .nilfn .anil)))⟩ .nil .nil) .nil) (.node 158 ⟨(.struct false [73, 36, 3]), 100, 816, some (.acons (.acons (.int .i8 0) (.acons (.int .i64 0) (.acons (.arr .int 96 (List.replicate 96 (rDflt .int))) .anil))) (.acons (.sl .int true []) (.acons (.int .i64 0) .anil)))⟩ .nil .nil)) (.node 162 ⟨.fn, 1, 8, some .nilfn⟩ (.node 161 ⟨.fn, 1, 8, some .nilfn⟩ (.node 160 ⟨.fn, 1, 8, some .nilfn⟩ .nil .nil) .nil) (.node 163 ⟨.fn, 1, 8, some .nilfn⟩ .nil .nil)))) (.node 175 ⟨.fn, 1, 8, some .nilfn⟩ (.node 169 ⟨(.ptr 177), 1, 8, some .nilp⟩ (.node 167 ⟨.fn, 1, 8, some .nilfn⟩ (.node 166 ⟨.fn, 1, 8, some .nilfn⟩ (.node 165 ⟨.fn, 1, 8, some .nilfn⟩ .nil .nil) .nil) (.node 168 ⟨.fn, 1, 8, some .nilfn⟩ .nil .nil)) (.node 173 ⟨.fn, 1, 8, some .nilfn⟩ (.node 172 ⟨.fn, 1, 8, some .nilfn⟩ (.node 170 ⟨(.dsl 168), 1, 24, some .nils⟩ .nil .nil) .nil) (.node 174 ⟨.fn, 1, 8, some .nilfn⟩ .nil .nil))) (.node 180 ⟨.fn, 1, 8, some .nilfn⟩ (.node 178 ⟨.fn, 1, 8, some .nilfn⟩ (.node 177 ⟨(.struct false [73, 36, 3]), 100, 816, some (.acons (.acons (.int .i8 0) (.acons (.int .i64 0) (.acons (.arr .int 96 (List.replicate 96 (rDflt .int))) .anil))) (.acons (.sl .int true []) (.acons (.int .i64 0) .anil)))⟩ (.node 176 ⟨(.struct false [73, 36, 3]), 100, 816, some (.acons (.acons (.int .i8 0) (.acons (.int .i64 0) (.acons (.arr .int 96 (List.replicate 96 (rDflt .int))) .anil))) (.acons (.sl .int true []) (.acons (.int .i64 0) .anil)))⟩ .nil .nil) .nil) (.node 179 ⟨.fn, 1, 8, some .nilfn⟩ .nil .nil)) (.node 190 ⟨.fn, 1, 8, some .nilfn⟩ (.node 187 ⟨(.int .u32), 1, 4, some (.int .u32 0)⟩ (.node 181 ⟨.fn, 1, 8, some .nilfn⟩ .nil .nil) .nil) (.node 191 ⟨(.ptr 5), 1, 8, some .nilp⟩ .nil .nil)))))))
def s19 : Tab RC := mkTab (rCod s19Ety) s19Tree
theorem s19_rows : s19Tree.all (rowB Tryz.prog s19) = true := by kernel_rfl
theorem s19_order : Tryz.prog.follows .mixedOrders = true := by kernel_rfl
theorem s19_fit : ∀ t x, fit s19 (rEnc t x) (.inl (s19Ety t)) = true
  | .bool, _ => rfl
  | .frame, _ => rfl
  | .int, _ => rfl
  | .line, _ => rfl
  | .pick, _ => rfl
  | .recd, _ => rfl
  | .sector, _ => rfl
  | .task, _ => rfl
  | .write, _ => rfl
theorem s19_laws : PLaws Tryz.prog s19 := mkLaws s19_rows (rLaws s19_fit) s19_order
section
variable {C : Cdc} {P : Program} {T : Tab C} {Φ : Fns C}
open Pg (Ex)
def fnB (P : Program) (f : FuncId) : Bool := match P.funcs[f]? with
  | some fn => !(fn.name == "runtime.NumGoroutine") && (match fn.body with
    | some b => codeB fn.ntmps b
    | none => true)
  | none => true
def fnsB (P : Program) : Nat → Bool
  | 0 => true
  | n + 1 => fnB P n && fnsB P n
theorem fnsB_spec : ∀ (n f : Nat), fnsB P n = true → f < n → fnB P f = true
  | 0, f, _, h => by omega
  | n + 1, f, h, hf => by
    simp only [fnsB, Bool.and_eq_true] at h
    by_cases he : f = n
    · subst he; exact h.1
    · exact fnsB_spec n f h.2 (by omega)
def noFns (P : Program) (n : Nat) (keeps : FuncId → Bool) (rest : FuncId → List (Nat × List Nat) := fun _ => []) (total : FuncId → Bool := fun _ => false) : Fns C where
  fn f := bif Nat.blt f n then P.funcs[f]? else none
  keeps := keeps
  rest := rest
  total := total
  ospec _ := none
  spec _ := none
  loop _ _ := none
def Fns.addSpec (Φ : Fns C) (g : FuncId) (s : List (D C) → Option (Bool × D C)) : Fns C := { Φ with spec := fun f => bif Nat.beq f g then some s else Φ.spec f }
theorem noFns_laws {n : Nat} {keeps : FuncId → Bool} {rest : FuncId → List (Nat × List Nat)} {total : FuncId → Bool} (h : fnsB P n = true) : FLaws P T (noFns P n keeps rest total) where
  fn f fn hf := by
    simp only [noFns] at hf
    cases hb : Nat.blt f n with
    | false => simp [hb] at hf
    | true =>
      simp only [hb, cond_true] at hf
      have := fnsB_spec n f h (by simpa [Nat.blt_eq] using hb)
      simp only [fnB, hf, Bool.and_eq_true, Bool.not_eq_true'] at this
      refine ⟨hf, this.1, fun body hbody => ?_⟩
      have h2 := this.2
      rw [hbody] at h2; exact h2
  spec g s args d hs := by simp [noFns] at hs
  ospec g s hs := by simp [noFns] at hs
  loop f fn body b s _ _ _ hs := by simp [noFns] at hs
theorem FLaws.addSpec (F : FLaws P T Φ) {g : FuncId} {s : List (D C) → Option (Bool × D C)}
    (hs : ∀ args d, s args = some (true, d) → ∀ X h nx lim vs, G T X h nx lim → RVs T X args vs → (∀ a ∈ args, ∀ id ∈ D.refs a, old nx lim id) →
      (callFunc g ⟨vs⟩).run P X.w = .ok (.enter g ⟨vs⟩) X.w ∧ Calls P g ⟨vs⟩ X.w (CallPost T X nx lim h nx d)) : FLaws P T (Φ.addSpec g s) where
  fn := F.fn
  spec f s' args d h1 h2 := by
    simp only [Fns.addSpec] at h1
    cases hb : Nat.beq f g with
    | false => simp only [hb, cond_false] at h1; exact F.spec f s' args d h1 h2
    | true =>
      simp only [hb, cond_true, Option.some.injEq] at h1
      subst h1
      have := Nat.eq_of_beq_eq_true hb
      subst this
      exact hs args d h2
  ospec := F.ospec
  loop := F.loop
theorem FLaws.addEv (K : PLaws P T) (F : FLaws P T Φ) {g : FuncId} {s : List (D C) → Option (Bool × D C)} (hs : ∀ args d, s args = some (true, d) → (∀ a ∈ args, D.refs a = []) ∧ ∃ n, evF T Φ n g args = some d) : FLaws P T (Φ.addSpec g s) :=
  F.addSpec fun args d h X hp nx lim vs gg hvs _ => by
    obtain ⟨h1, n, h2⟩ := hs args d h
    exact evF_spec K F h2 h1 gg hvs
def Sub (env env0 : Env C) : Prop := ∀ p ∈ env0, eget env p.1 = p.2
theorem eget_mem : ∀ (env : Env C) (t : Nat), eget env t = .top ∨ (t, eget env t) ∈ env
  | [], t => .inl rfl
  | (j, d) :: r, t => by
    rw [eget_cons]
    by_cases h : t = j
    · subst h; simp
    · simp only [h, if_false]
      rcases eget_mem r t with h' | h'
      · exact .inl h'
      · exact .inr (by simp [h'])
theorem EnvOK.sub {X : Cx} {nx nx' : Nat} {lim lim' : Lim} {env env0 : Env C} {tmps : Array Value} (he : EnvOK T X nx lim env tmps) (hs : Sub env env0) (hr : ∀ p ∈ env0, D.refs p.2 = []) : EnvOK T X nx' lim' env0 tmps := by
  intro t
  rcases eget_mem env0 t with h | h
  · rw [h]; exact RO.mk (RV.top _ _ _) rfl
  · refine ⟨?_, ?_⟩
    · have := hs _ h
      simp only at this
      rw [← this]; exact (he t).1
    · rw [hr _ h]; simp
structure Grown (w w' : World) : Prop where
  size : w.heap.size ≤ w'.heap.size
  same : ∀ b, b < w.heap.size → w'.heap[b]? = w.heap[b]?
  os : w'.os = w.os
  tape : w'.tape = w.tape
  output : w'.output = w.output
  frz : ∀ a : Addr, a.block < w.heap.size → w'.frozen? a = w.frozen? a
theorem Grown.refl (w : World) : Grown w w := ⟨Nat.le_refl _, fun _ _ => rfl, rfl, rfl, rfl, fun _ _ => rfl⟩
theorem Grown.trans {w w' w'' : World} (h : Grown w w') (k : Grown w' w'') : Grown w w'' :=
  ⟨Nat.le_trans h.size k.size, fun b hb => (k.same b (Nat.lt_of_lt_of_le hb h.size)).trans (h.same b hb), k.os.trans h.os, k.tape.trans h.tape, k.output.trans h.output, fun a ha => (k.frz a (Nat.lt_of_lt_of_le ha h.size)).trans (h.frz a ha)⟩
theorem EnvOK.move (L : Laws T) {X X' : Cx} {nx nx' : Nat} {lim lim' : Lim} {env : Env C} {tmps : Array Value} (he : EnvOK T X nx lim env tmps) (hr : ∀ p ∈ env, D.refs p.2 = [])
    (hk : ∀ b o v, X.w.cell? ⟨b, o, none⟩ = some v → X.free b o → X'.w.cell? ⟨b, o, none⟩ = some v ∧ X'.free b o) : EnvOK T X' nx' lim' env tmps := by
  intro t
  have h0 : (eget env t).refs = [] := by
    rcases eget_mem env t with h | h
    · rw [h]; rfl
    · exact hr _ h
  refine ⟨(he t).1.mono T L.encRefs hk fun id hi => ?_, ?_⟩
  · rw [h0] at hi; simp at hi
  · rw [h0]; simp
structure LoopSt (C : Cdc) (σ : Type) where
  canon : σ → Env C
  fin : σ → Ev.X × Env C
  Inv : σ → Prop
  μ : σ → Nat
end
section
variable {C : Cdc}
def D.ren (f : Nat → Nat) : D C → D C
  | .acons d ds => .acons (d.ren f) (ds.ren f)
  | .tup d => .tup (d.ren f)
  | .fn g d => .fn g (d.ren f)
  | .cptr d => .cptr (d.ren f)
  | .dsl n d => .dsl n (d.ren f)
  | .mp id => .mp (f id)
  | .vs id n => .vs (f id) n
  | .ptr id p => .ptr (f id) p
  | .asl t id p lo n => .asl t (f id) p lo n
  | .vptr id n p => .vptr (f id) n p
  | d => d
def Obj.ren (f : Nat → Nat) : Obj C → Obj C
  | .var t d => .var t (d.ren f)
  | o => o
theorem D.ren_refs (f : Nat → Nat) : ∀ d : D C, (d.ren f).refs = d.refs.map f
  | .acons d ds => by simp [D.ren, D.refs, D.ren_refs f d, D.ren_refs f ds]
  | .tup d => by simp [D.ren, D.refs, D.ren_refs f d]
  | .fn g d => by simp [D.ren, D.refs, D.ren_refs f d]
  | .cptr d => by simp [D.ren, D.refs, D.ren_refs f d]
  | .dsl _ d => by simp [D.ren, D.refs, D.ren_refs f d]
  | .mp id => rfl
  | .vs id n => rfl
  | .ptr id p => rfl
  | .asl _ id _ _ _ => rfl
  | .vptr id n p => rfl
  | .bool _ => rfl
  | .int _ _ => rfl
  | .str _ => rfl
  | .anil => rfl
  | .arr _ _ _ => rfl
  | .nils => rfl
  | .sl _ _ _ => rfl
  | .nilp => rfl
  | .nilfn => rfl
  | .bm _ _ _ => rfl
  | .top => rfl
theorem Obj.ren_refs (f : Nat → Nat) (o : Obj C) : (o.ren f).refs = o.refs.map f := by
  cases o with
  | var t d => exact D.ren_refs f d
  | vec t own l => rfl
  | map _ _ _ => rfl
theorem D.ren_ren (f g : Nat → Nat) : ∀ d : D C, (∀ id ∈ d.refs, g (f id) = id) → (d.ren f).ren g = d
  | .acons d ds, h => by
    simp only [D.refs, List.mem_append] at h
    simp [D.ren, D.ren_ren f g d (fun id hi => h id (.inl hi)), D.ren_ren f g ds (fun id hi => h id (.inr hi))]
  | .tup d, h => by simp [D.ren, D.ren_ren f g d (by simpa [D.refs] using h)]
  | .fn _ d, h => by simp [D.ren, D.ren_ren f g d (by simpa [D.refs] using h)]
  | .cptr d, h => by simp [D.ren, D.ren_ren f g d (by simpa [D.refs] using h)]
  | .dsl _ d, h => by simp [D.ren, D.ren_ren f g d (by simpa [D.refs] using h)]
  | .mp id, h => by simp [D.ren, h id (by simp [D.refs])]
  | .vs id n, h => by simp [D.ren, h id (by simp [D.refs])]
  | .ptr id p, h => by simp [D.ren, h id (by simp [D.refs])]
  | .asl _ id _ _ _, h => by simp [D.ren, h id (by simp [D.refs])]
  | .vptr id n p, h => by simp [D.ren, h id (by simp [D.refs])]
  | .bool _, _ => rfl
  | .int _ _, _ => rfl
  | .str _, _ => rfl
  | .anil, _ => rfl
  | .arr _ _ _, _ => rfl
  | .nils, _ => rfl
  | .sl _ _ _, _ => rfl
  | .nilp, _ => rfl
  | .nilfn, _ => rfl
  | .bm _ _ _, _ => rfl
  | .top, _ => rfl
theorem D.ren_same (f : Nat → Nat) : ∀ d : D C, d.refs = [] → d.ren f = d
  | .acons d ds, h => by
    simp only [D.refs, List.append_eq_nil_iff] at h
    simp [D.ren, D.ren_same f d h.1, D.ren_same f ds h.2]
  | .tup d, h => by simp [D.ren, D.ren_same f d (by simpa [D.refs] using h)]
  | .fn _ d, h => by simp [D.ren, D.ren_same f d (by simpa [D.refs] using h)]
  | .cptr d, h => by simp [D.ren, D.ren_same f d (by simpa [D.refs] using h)]
  | .dsl _ d, h => by simp [D.ren, D.ren_same f d (by simpa [D.refs] using h)]
  | .mp id, h => by simp [D.refs] at h
  | .vs id n, h => by simp [D.refs] at h
  | .ptr id p, h => by simp [D.refs] at h
  | .asl _ id _ _ _, h => by simp [D.refs] at h
  | .vptr id n p, h => by simp [D.refs] at h
  | .bool _, _ => rfl
  | .int _ _, _ => rfl
  | .str _, _ => rfl
  | .anil, _ => rfl
  | .arr _ _ _, _ => rfl
  | .nils, _ => rfl
  | .sl _ _ _, _ => rfl
  | .nilp, _ => rfl
  | .nilfn, _ => rfl
  | .bm _ _ _, _ => rfl
  | .top, _ => rfl
theorem D.ren_row (f : Nat → Nat) (d : D C) : (d.ren f).isRow = d.isRow := by cases d <;> rfl
theorem D.ren_ones (f : Nat → Nat) (d : D C) : (d.ren f).ones = d.ones := by
  induction d with
  | acons d ds _ ih => simp only [D.ren, D.ones, D.ren_row, ih]
  | _ => rfl
theorem EntsOK.move {T : Tab C} (L : Laws T) {X X' : Cx} (hX : ∀ b o v, X.w.cell? ⟨b, o, none⟩ = some v → X.free b o → X'.w.cell? ⟨b, o, none⟩ = some v ∧ X'.free b o) {ck cv : C.Ty} {l : List (C.A ck × C.A cv)} {es : List MapEntry} (h : EntsOK T X ck cv l es) : EntsOK T X' ck cv l es := by
  induction h with
  | nil => exact .nil
  | cons hk hv _ ih => exact .cons (hk.mono T L.encRefs hX (by simp [L.encRefs])) (hv.mono T L.encRefs hX (by simp [L.encRefs])) ih
variable {T : Tab C}
theorem R.ren {X X' : Cx} (f : Nat → Nat) (he : ∀ t x, (T.enc t x).refs = []) (hX : ∀ b o v, X.w.cell? ⟨b, o, none⟩ = some v → X.free b o → X'.w.cell? ⟨b, o, none⟩ = some v ∧ X'.free b o)
    {m : Bool} {d : D C} {vs : List Value} (h : R T X m d vs) : (∀ id ∈ d.refs, Compat (X.ρ id) (X'.ρ (f id))) → R T X' m (d.ren f) vs := by
  induction h with
  | bool b => exact fun _ => .bool b
  | int h => exact fun _ => .int h
  | str s => exact fun _ => .str s
  | anil => exact fun _ => .anil
  | acons _ _ i1 i2 =>
    intro hr
    simp only [D.refs, List.mem_append] at hr
    exact .acons (i1 fun id h => hr id (.inl h)) (i2 fun id h => hr id (.inr h))
  | arr0 t => exact fun _ => .arr0 t
  | @arrS t n x l c1 c2 _ _ i1 i2 =>
    intro _
    have h1 := i1 (by simp [he])
    rw [D.ren_same f _ (he t x)] at h1
    exact .arrS h1 (i2 (by simp [D.refs]))
  | nils => exact fun _ => .nils
  | sl0 t c a => exact fun _ => .sl0 t c a
  | sl ha _ hc hcap ih => exact fun _ => .sl (fun j v hj => hX _ _ _ (ha j v hj).1 (ha j v hj).2) (ih (by simp [D.refs])) hc hcap
  | @vs id n cp a h =>
    intro hr
    refine .vs fun v e b lo hi hv => ?_
    have hc := hr id (by simp [D.refs])
    rw [hv] at hc
    cases ho : X.ρ id with
    | none => rw [ho] at hc; simp [Compat] at hc
    | some l =>
      rw [ho] at hc
      cases l with
      | var b t => simp [Compat] at hc
      | map b0 => simp [Compat] at hc
      | vec v0 e0 b0 lo0 hi0 =>
        simp only [Compat] at hc
        have := h _ _ _ _ _ ho
        refine ⟨by omega, fun hl => ?_⟩
        have e1 := hc.2.2 (by omega)
        rw [e1]
        exact this.2 (by omega)
  | @ptr id p a h =>
    intro hr
    refine .ptr fun b t hv => ?_
    have hc := hr id (by simp [D.refs])
    rw [hv] at hc
    cases ho : X.ρ id with
    | none => rw [ho] at hc; simp [Compat] at hc
    | some l =>
      rw [ho] at hc
      cases l with
      | var b0 t0 =>
        simp only [Compat, Loc.var.injEq] at hc
        obtain ⟨rfl, rfl⟩ := hc
        exact h _ _ ho
      | vec v0 e0 b0 lo0 hi0 => simp [Compat] at hc
      | map b0 => simp [Compat] at hc
  | @asl ta id lo n cp b0 o0 p h =>
    intro hr
    refine .asl fun b t hv => ?_
    have hc := hr id (by simp [D.refs])
    rw [hv] at hc
    cases ho : X.ρ id with
    | none => rw [ho] at hc; simp [Compat] at hc
    | some l =>
      rw [ho] at hc
      cases l with
      | var b0 t0 =>
        simp only [Compat, Loc.var.injEq] at hc
        obtain ⟨rfl, rfl⟩ := hc
        exact h _ _ ho
      | vec v0 e0 b0 lo0 hi0 => simp [Compat] at hc
      | map b0 => simp [Compat] at hc
  | @vptr id n i p a h =>
    intro hr
    refine .vptr fun v e b lo hi hv => ?_
    have hc := hr id (by simp [D.refs])
    rw [hv] at hc
    cases ho : X.ρ id with
    | none => rw [ho] at hc; simp [Compat] at hc
    | some l =>
      rw [ho] at hc
      cases l with
      | var b t => simp [Compat] at hc
      | map b0 => simp [Compat] at hc
      | vec v0 e0 b0 lo0 hi0 =>
        simp only [Compat] at hc
        have := h _ _ _ _ _ ho
        refine ⟨by omega, fun hl => ?_⟩
        have e1 := hc.2.2 (by omega)
        rw [e1, hc.1]
        exact this.2 (by omega)
  | cptr ha _ ih =>
    intro hr
    exact .cptr (fun j v hj => hX _ _ _ (ha j v hj).1 (ha j v hj).2) (ih (by simpa [D.refs] using hr))
  | nilp => exact fun _ => .nilp
  | dsl ha _ hn h1 ih =>
    intro hr
    exact .dsl (fun j v hj => hX _ _ _ (ha j v hj).1 (ha j v hj).2) (ih (by simpa [D.refs] using hr)) hn (by rw [D.ren_ones]; exact h1)
  | @mp id b h =>
    intro hr
    refine .mp fun b' hv => ?_
    have hc := hr id (by simp [D.refs])
    rw [hv] at hc
    cases ho : X.ρ id with
    | none => rw [ho] at hc; simp [Compat] at hc
    | some l =>
      rw [ho] at hc
      cases l with
      | map b0 =>
        simp only [Compat, Loc.map.injEq] at hc
        obtain rfl := hc
        exact h _ ho
      | _ => simp [Compat] at hc
  | fn _ ih => exact fun hr => .fn (ih (by simpa [D.refs] using hr))
  | nilfn => exact fun _ => .nilfn
  | bm h => exact fun _ => .bm h
  | tup _ ih => exact fun hr => .tup (ih (by simpa [D.refs] using hr))
  | top v => exact fun _ => .top v
  | vnil => exact fun _ => .vnil
  | vrow _ hr' _ i1 i2 =>
    intro hr
    simp only [D.refs, List.mem_append] at hr
    exact .vrow (i1 fun id h => hr id (.inl h)) (by rw [D.ren_row]; exact hr') (i2 fun id h => hr id (.inr h))
  | vone _ hr' _ i1 i2 =>
    intro hr
    simp only [D.refs, List.mem_append] at hr
    exact .vone (i1 fun id h => hr id (.inl h)) (by rw [D.ren_row]; exact hr') (i2 fun id h => hr id (.inr h))
theorem RV.ren {X X' : Cx} (f : Nat → Nat) (he : ∀ t x, (T.enc t x).refs = []) (hX : ∀ b o v, X.w.cell? ⟨b, o, none⟩ = some v → X.free b o → X'.w.cell? ⟨b, o, none⟩ = some v ∧ X'.free b o)
    {d : D C} {v : Value} (h : RV T X d v) (hr : ∀ id ∈ d.refs, Compat (X.ρ id) (X'.ρ (f id))) : RV T X' (d.ren f) v := by
  rcases h with ⟨h1, cs, h2, h3⟩ | ⟨h1, h2⟩
  · exact .inl ⟨by rw [D.ren_row]; exact h1, cs, h2.ren f he hX hr, h3⟩
  · exact .inr ⟨by rw [D.ren_row]; exact h1, h2.ren f he hX hr⟩
theorem VecOK.move (L : Laws T) {X X' : Cx} {t : C.Ty} {own : Bool} {l : List (C.A t)} {v : Value} {b lo hi : Nat} (h : VecOK T X t own l v b lo hi)
    (hX : ∀ b o v, X.w.cell? ⟨b, o, none⟩ = some v → X.free b o → X'.w.cell? ⟨b, o, none⟩ = some v ∧ X'.free b o)
    (hb : (∃ o, (Loc.vec v (T.ety t) b lo hi).owns b o) → X'.w.heap[b]? = X.w.heap[b]?) (hpos : 0 < T.size (T.ety t)) : VecOK T X' t own l v b lo hi := by
  have hR : ∀ cs, R T X false (.arr t l.length l) cs → R T X' false (.arr t l.length l) cs := fun cs hr => hr.mono T L.encRefs hX (by simp [D.refs])
  rcases h with h2 | ⟨off, cp, h2, h3, h4, h5⟩
  · exact .inl h2
  · refine .inr ⟨off, cp, h2, h3, h4, ?_⟩
    rcases h5 with ⟨ht, hlo, h5 | ⟨cs, e, h5, h6, h7⟩⟩ | ⟨ht, hlo, ⟨cs, h5, h6⟩, h7⟩
    · exact .inl ⟨ht, hlo, .inl h5⟩
    · by_cases hc : cp = 0
      · exact .inl ⟨ht, hlo, .inl hc⟩
      · have hm : T.size (T.ety t) ≤ cp * T.size (T.ety t) := Nat.le_mul_of_pos_left _ (by omega)
        have e1 := hb ⟨off, rfl, by omega, by omega⟩
        exact .inl ⟨ht, hlo, .inr ⟨cs, e, by rw [e1]; exact h5, h6, hR _ h7⟩⟩
    · refine .inr ⟨ht, hlo, ⟨cs, fun j u hj => hX _ _ _ (h5 j u hj).1 (h5 j u hj).2, hR _ h6⟩, ?_⟩
      rcases h7 with h7 | ⟨c0, e, h7, h8⟩
      · exact .inl h7
      · by_cases hc : cp = l.length
        · exact .inl hc
        · have hm : (l.length + 1) * T.size (T.ety t) ≤ cp * T.size (T.ety t) := Nat.mul_le_mul_right _ (by omega)
          have e1 := hb ⟨lo, rfl, by omega, by rw [Nat.succ_mul] at hm; omega⟩
          exact .inr ⟨c0, e, by rw [e1]; exact h7, h8⟩
def Cx.part (X : Cx) (k : Nat) (f : Nat → Nat) : Cx :=
  ⟨X.w, fun j => if j < k then X.ρ (f j) else none, fun b o => X.O b o ∨ (X.mine b o ∧ ∀ j, j < k → ∀ l, X.ρ (f j) = some l → ¬ l.owns b o)⟩
theorem Cx.part_mine {X : Cx} {k : Nat} {f : Nat → Nat} {b o : Nat} : (X.part k f).mine b o ↔ ∃ j l, j < k ∧ X.ρ (f j) = some l ∧ l.owns b o := by
  constructor
  · rintro ⟨j, l, h1, h2⟩
    simp only [Cx.part] at h1
    split at h1
    · exact ⟨j, l, by assumption, h1, h2⟩
    · cases h1
  · rintro ⟨j, l, h0, h1, h2⟩
    exact ⟨j, l, by simp [Cx.part, h0, h1], h2⟩
theorem Cx.part_free {X : Cx} {k : Nat} {f : Nat → Nat} {b o : Nat} : (X.part k f).free b o ↔ X.free b o := by
  constructor
  · rintro ⟨h1, h2⟩
    refine ⟨fun h => h1 (.inl h), fun hm => ?_⟩
    by_cases hq : ∃ j l, j < k ∧ X.ρ (f j) = some l ∧ l.owns b o
    · exact h2 (Cx.part_mine.2 hq)
    · exact h1 (.inr ⟨hm, fun j hj l hl ho => hq ⟨j, l, hj, hl, ho⟩⟩)
  · rintro ⟨h1, h2⟩
    refine ⟨fun h => h.elim h1 fun h => h2 h.1, fun hm => ?_⟩
    obtain ⟨j, l, _, hl, ho⟩ := Cx.part_mine.1 hm
    exact h2 ⟨f j, l, hl, ho⟩
structure Part (h : Heap C) (os : List (Obj C)) (f : Nat → Nat) : Prop where
  at' : ∀ j o, os[j]? = some o → h.get (f j) = some (o.ren f)
  inj : ∀ i j, i < os.length → j < os.length → f i = f j → i = j
  refs : ∀ o ∈ os, ∀ r ∈ Obj.refs o, r < os.length
theorem inv_of {f : Nat → Nat} {k : Nat} (hi : ∀ i j, i < k → j < k → f i = f j → i = j) : ∃ g : Nat → Nat, ∀ j, j < k → g (f j) = j := by
  classical
  refine ⟨fun n => if h : ∃ j, j < k ∧ f j = n then h.choose else 0, fun j hj => ?_⟩
  have hex : ∃ i, i < k ∧ f i = f j := ⟨j, hj, rfl⟩
  simp only [hex, dif_pos]
  have h1 := hex.choose_spec
  exact hi _ _ h1.1 hj h1.2
theorem EnvOK.part (L : Laws T) {X : Cx} {nx : Nat} {lim : Lim} {env env0 : Env C} {tmps : Array Value} {k top : Nat} {f : Nat → Nat} (he : EnvOK T X nx lim env tmps) (hinj : ∀ i j, i < k → j < k → f i = f j → i = j)
    (hs : ∀ q ∈ env0, eget env q.1 = q.2.ren f) (hr : ∀ q ∈ env0, ∀ r ∈ q.2.refs, r < k) : EnvOK T (X.part k f) k (lim0 top) env0 tmps := by
  obtain ⟨fi, hfi⟩ := inv_of hinj
  intro t
  rcases eget_mem env0 t with h | h
  · rw [h]; exact RO.mk (RV.top _ _ _) rfl
  · have hrt : ∀ r ∈ (eget env0 t).refs, r < k := hr _ h
    refine ⟨?_, fun r hh => ⟨.inl (hrt r hh), fun h => h⟩⟩
    have h1 := (he t).1
    have h2 := hs _ h
    simp only at h2
    rw [h2] at h1
    have h3 := RV.ren (X := X) (X' := X.part k f) fi L.encRefs (h := h1) (fun b o v a1 a2 => ⟨a1, Cx.part_free.2 a2⟩) (fun r hh => by
      rw [D.ren_refs, List.mem_map] at hh
      obtain ⟨r0, hr0, rfl⟩ := hh
      have := hrt r0 hr0
      simp only [hfi r0 this, Cx.part, this, if_true]
      exact .refl _)
    rwa [D.ren_ren f fi _ (fun r hh => hfi r (hrt r hh))] at h3
end
section
variable {C : Cdc} {P : Program} {T : Tab C} {Φ : Fns C}
open Pg (Ex)
def sel : List Nat → Env C → Env C
  | [], _ => []
  | k :: l, env => (k, eget env k) :: sel l env
def cut (kc kf : List Nat) (r : Ev.X × Env C) : Ev.X × Env C := match r.1 with
  | .normal => (.normal, sel kc r.2)
  | x => (x, sel kf r.2)
end
theorem wrap_id {n : Int} (h1 : -9223372036854775808 ≤ n) (h2 : n ≤ 9223372036854775807) : IntKind.i64.wrap n = n := by
  simp only [IntKind.wrap, IntKind.bits, IntKind.signed]
  simp
  omega
section
variable {C : Cdc} {P : Program} {T : Tab C} {Φ : Fns C}
open Pg (Ex)
structure LoopO (C : Cdc) (σ : Type) where
  k : Nat
  canon : σ → Env C
  objs : σ → List (Obj C)
  fin : σ → Ev.X × Env C
  fobjs : σ → List (Obj C)
  Inv : σ → Prop
  μ : σ → Nat
theorem VecOK.lenV {X : Cx} {t : C.Ty} {own : Bool} {l : List (C.A t)} {v : Value} {b lo hi : Nat} (h : VecOK T X t own l v b lo hi) : Ev.lenV v = l.length := by
  rcases h with ⟨⟨a, rfl, _⟩, rfl, _⟩ | ⟨off, cp, rfl, _⟩ <;> rfl
inductive Fnd where
  | slot (t i : Nat)
  | path (j : Nat) (p : List Nat)
inductive RT (C : Cdc) where
  | fail
  | leaf (x : Ev.X) (env : Env C) (os : List (Obj C))
  | br (b : Bool) (l r : RT C)
def RT.val : RT C → Option ((Ev.X × Env C) × List (Obj C))
  | .fail => none
  | .leaf x env os => some ((x, env), os)
  | .br b l r => bif b then l.val else r.val
theorem Obj.ren_ren (f g : Nat → Nat) (o : Obj C) (h : ∀ id ∈ o.refs, g (f id) = id) : (o.ren f).ren g = o := by
  cases o with
  | var t d => simp only [Obj.ren]; rw [D.ren_ren f g d h]
  | vec t own l => rfl
  | map _ _ _ => rfl
end
section
variable {C : Cdc} {P : Program} {T : Tab C} {Φ : Fns C}
open Pg (Ex)
structure LoopR (C : Cdc) (σ : Type) where
  k : Nat
  canon : σ → Env C
  objs : σ → List (Obj C)
  fin : σ → RT C
  Inv : σ → Prop
  μ : σ → Nat
end
def lRing (p w : Int) : Int := if 0 ≤ p ∧ 2 ≤ w ∧ w ≤ 8 then 13 + p % w else -1
theorem mod_range {p w : Int} (hw : 0 < w) : 0 ≤ p % w ∧ p % w < w := ⟨Int.emod_nonneg _ (by omega), Int.emod_lt_of_pos _ hw⟩
theorem cond_of {α : Type} {c : Bool} {x y z : α} (h : c = true) (h2 : x = z) : cond c x y = z := by rw [h]; exact h2
theorem cond_no {α : Type} {c : Bool} {x y z : α} (h : c = false) (h2 : y = z) : cond c x y = z := by rw [h]; exact h2
theorem cond_two {α : Type} {c : Bool} {x y z : α} (h1 : c = true → x = z) (h2 : c = false → y = z) : cond c x y = z := by cases c; exact h2 rfl; exact h1 rfl
def maySec (s : Sector) : Bool := decide (0 ≤ s.n) && decide (s.n ≤ 1048575) && decide (s.b.length ≤ 640) && (decide (0 < s.n) || s.b == [])
def rowOK (l : List Sector) : Bool := decide (l.length = 33) && l.all maySec
def lowAt (now sure : List Sector) (i : Nat) : Bool := ((now.zip sure).drop i).all fun p => decide (p.2.n ≤ p.1.n)
def diskOK (now sure : List Sector) : Bool := rowOK now && rowOK sure && lowAt now sure 0
def goodL (l : List Sector) : Bool := decide (l.length ≤ 9223372036854775807) && l.all fun s => lenOK s.b.length
def inWord (w : Int) : Int := if 0 ≤ w ∧ w ≤ 1099510841343 then w else 0
def plc (w : Int) : Int := inWord w / 1048576
def bare (w : Int) : Int := inWord w % 1048576
def OkWord (p h : Int) : Prop := 0 ≤ p ∧ p ≤ 1048575 ∧ (256 ≤ h ∧ h ≤ 262143 ∨ h = 0 ∧ p = 0)
instance instOkWord (p h : Int) : Decidable (OkWord p h) := by unfold OkWord; infer_instance
def wordN (p h : Int) : Int := if OkWord p h then p * 1048576 + h else 0
theorem inWord_in {w : Int} (h : 0 ≤ w ∧ w ≤ 1099510841343) : inWord w = w := if_pos h
def MayAct (k a b v g : Int) (tl al : Nat) : Prop :=
  -1 ≤ b ∧ b ≤ 1152921504606846976 ∧ -1 ≤ v ∧ v ≤ 1152921504606846976 ∧ -1 ≤ g ∧ g ≤ 1152921504606846976 ∧ al ≤ 96 ∧ tl ≤ 640 ∧ 0 ≤ a ∧ a ≤ 4095 ∧
  (k = 0 ∧ b = 0 ∧ v = 0 ∧ tl = 0 ∧ al = 0 ∨ k = 2 ∧ tl = 0 ∧ al = 0 ∨ k = 7 ∧ a = 0 ∧ b = 0 ∧ v = 0 ∧ g = 0 ∧ tl = 0)
instance instMayAct (k a b v g : Int) (tl al : Nat) : Decidable (MayAct k a b v g tl al) := by unfold MayAct; infer_instance
structure GoR where
  st : List Frame
  got : List Int
  over : Bool
  kind : Int
  a : Int
  b : Int
  v : Int
  is : Bool
def gLoad (r got : List Int) (n cell : Int) : GoR := ⟨[⟨68, n, r⟩], got, false, 0, cell, 0, 0, true⟩
def gCas (r got : List Int) (n cell b v : Int) : GoR := ⟨[⟨68, n, r⟩], got, false, 2, cell, b, v, true⟩
def gEnd (l : List Int) : GoR := ⟨[], l, true, 0, 0, 0, 0, false⟩
def goF (k : Int) (r got : List Int) (x : Int) : GoR :=
  if k = 0 ∨ k = 5 then gLoad r got 1 1
  else if k = 1 then gLoad (r.set 2 x) got 2 0
  else if k = 2 then (if x + r.getD 0 0 < r.getD 2 0 then gEnd [170] else if 1048575 < r.getD 2 0 then gEnd [172] else gLoad r got 3 4)
  else if k = 3 then (if x < r.getD 2 0 - 32 then gEnd [171] else gLoad r got 4 (lRing (r.getD 2 0) (r.getD 0 0)))
  else if k = 4 then (if plc x = r.getD 2 0 then gCas (r.set 3 x) got 5 1 (r.getD 2 0) (r.getD 2 0 + 1) else if r.getD 2 0 < plc x then gLoad (r.set 3 x) got 1 1
    else gCas (r.set 3 x) got 6 (lRing (r.getD 2 0) (r.getD 0 0)) x (wordN (r.getD 2 0) (r.getD 1 0)))
  else if k = 6 then (if x = 0 then gLoad r got 1 1 else gCas r got 7 1 (r.getD 2 0) (r.getD 2 0 + 1))
  else gEnd [0, r.getD 2 0]
def goR (st : List Frame) (got : List Int) : GoR := match st with
  | [f] => goF f.at' f.r got (got.headD 0)
  | _ => gEnd []
def OkF (k : Int) (r : List Int) (x : Int) : Prop := 1 ≤ k ∧ k ≤ 7 ∧ 0 ≤ x ∧ x ≤ 1152921504606846976 ∧ 2 ≤ r.getD 0 0 ∧ r.getD 0 0 ≤ 8 ∧ 0 ≤ r.getD 2 0 ∧ r.getD 2 0 ≤ 1099511627776
instance instOkF (k : Int) (r : List Int) (x : Int) : Decidable (OkF k r x) := by unfold OkF; infer_instance
def okFr (k : Int) (r got : List Int) : Bool := match got with
  | [] => decide (k = 0)
  | [x] => decide (OkF k r x)
  | _ => false
def okG (c : Int) (st : List Frame) (got : List Int) : Bool := match st with
  | [f] => decide (0 ≤ c ∧ c ≤ 3 ∧ f.prog = 68 ∧ f.r.length = 96) && okFr f.at' f.r got
  | _ => false
theorem getD_set_ne' {l : List Int} {i j : Nat} {x d : Int} (h : i ≠ j) : (l.set i x).getD j d = l.getD j d := by
  simp [List.getD_eq_getElem?_getD, List.getElem?_set_ne h]
def fitsC (n : Int) : Bool := decide (-1152921504606846976 ≤ n) && decide (n ≤ 1152921504606846976)
def cellsOK (l : List Int) : Bool := decide (l.length ≤ 1024) && l.all fitsC
def OkDo (l : List Int) (k a b v : Int) : Prop := (k = 0 ∧ b = 0 ∧ v = 0 ∨ k = 2) ∧ 0 ≤ a ∧ a < l.length ∧ -1152921504606846976 ≤ b ∧ b ≤ 1152921504606846976 ∧ -1152921504606846976 ≤ v ∧ v ≤ 1152921504606846976
instance instOkDo (l : List Int) (k a b v : Int) : Decidable (OkDo l k a b v) := by unfold OkDo; infer_instance
def doG (l : List Int) (k a b : Int) : Int := if k = 0 then l.getD a.toNat 0 else if l.getD a.toNat 0 = b then 1 else 0
def stG (t : Task) : GoR := goR t.stack t.got
def stX (cs : List Int) (t : Task) : Int := doG cs (stG t).kind (stG t).a (stG t).b
def OkStep (cs : List Int) (t : Task) (now sure : List Sector) : Prop :=
  okG t.client t.stack t.got = true ∧ t.over = false ∧ (stG t).is = true ∧ OkDo cs (stG t).kind (stG t).a (stG t).b (stG t).v ∧ cellsOK cs = true ∧ diskOK now sure = true ∧ goodL now = true ∧ goodL sure = true ∧ okG t.client (stG t).st [stX cs t] = true
instance instOkStep (cs : List Int) (t : Task) (now sure : List Sector) : Decidable (OkStep cs t now sure) := by unfold OkStep; infer_instance
def hnd (c n : Int) : Int := (n % 1000 + 1) * 256 + c
structure GS where
  cs : List Int
  ts : List Task
  busy : List Bool
  n : Int
  has : List Int
  told : List Int
def wd (p : Int) (hs : List Int) : Int := if p ≤ 0 then 0 else p * 1048576 + hs.getD (p - 1).toNat 0
structure RW (w : Int) (cs hs : List Int) : Prop where
  w0 : 2 ≤ w
  w1 : w ≤ 8
  lc : cs.length = 771
  fit : ∀ i, -1152921504606846976 ≤ cs.getD i 0 ∧ cs.getD i 0 ≤ 1152921504606846976
  q0 : 0 ≤ cs.getD 4 0
  qf : cs.getD 4 0 ≤ cs.getD 0 0
  fT : cs.getD 0 0 ≤ hs.length
  Tf : (hs.length : Int) ≤ cs.getD 0 0 + w
  Tt : (hs.length : Int) ≤ cs.getD 1 0
  tT : cs.getD 1 0 ≤ hs.length + 1
  t1 : 1 ≤ cs.getD 1 0
  hv : ∀ d ∈ hs, 256 ≤ d ∧ d ≤ 262143
  Tk : (hs.length : Int) ≤ 100000
  TL : (hs.length : Int) - 32 ≤ cs.getD 4 0
  ring : ∀ p : Int, hs.length - w < p → p ≤ hs.length → cs.getD (13 + p % w).toNat 0 = wd p hs
theorem getD_at {l : List Int} {i : Nat} {d : Int} (h : i < l.length) : l.getD i d = l[i] := by
  rw [List.getD_eq_getElem?_getD, List.getElem?_eq_getElem h]; rfl
theorem getD_set_eq {l : List Int} {i : Nat} {x d : Int} (h : i < l.length) : (l.set i x).getD i d = x := by
  rw [List.getD_eq_getElem?_getD, List.getElem?_set_self h]; rfl
theorem getD_set (l : List Int) (i j : Nat) (x d : Int) (h : i < l.length) : (l.set i x).getD j d = if i = j then x else l.getD j d := by
  by_cases e : i = j
  · subst e; rw [if_pos rfl]; exact getD_set_eq h
  · rw [if_neg e]; exact getD_set_ne' e
theorem wd_in {p : Int} {hs : List Int} (hv : ∀ d ∈ hs, 256 ≤ d ∧ d ≤ 262143) (h1 : 1 ≤ p) (h2 : p ≤ hs.length) (h3 : (hs.length : Int) ≤ 100000) :
    wd p hs = p * 1048576 + hs.getD (p - 1).toNat 0 ∧ 256 ≤ hs.getD (p - 1).toNat 0 ∧ hs.getD (p - 1).toNat 0 ≤ 262143 := by
  have hlt : (p - 1).toNat < hs.length := by omega
  have e : hs.getD (p - 1).toNat 0 = hs[(p - 1).toNat] := getD_at hlt
  refine ⟨by rw [wd, if_neg (by omega)], ?_⟩
  rw [e]
  exact hv _ (List.getElem_mem hlt)
theorem plc_word {p d : Int} (h1 : 0 ≤ p) (h2 : p ≤ 1048575) (h3 : 0 ≤ d) (h4 : d ≤ 262143) : plc (p * 1048576 + d) = p ∧ bare (p * 1048576 + d) = d := by
  unfold plc bare
  rw [inWord_in (by omega)]
  omega
theorem plc_wd {p : Int} {hs : List Int} (hv : ∀ d ∈ hs, 256 ≤ d ∧ d ≤ 262143) (h2 : p ≤ hs.length) (h3 : (hs.length : Int) ≤ 100000) (h1 : 0 ≤ p) : plc (wd p hs) = p ∧ 0 ≤ wd p hs ∧ wd p hs ≤ 1099510841343 := by
  by_cases h : 1 ≤ p
  · obtain ⟨e, a, b⟩ := wd_in hv h h2 h3
    rw [e]
    exact ⟨(plc_word (by omega) (by omega) (by omega) (by omega)).1, by omega, by omega⟩
  · have : p = 0 := by omega
    subst this
    rw [wd, if_pos (by decide)]
    exact ⟨by decide, by decide, by decide⟩
theorem wd_neg {p : Int} {hs : List Int} (h : p ≤ 0) : wd p hs = 0 := by rw [wd, if_pos h]
theorem same_cell {w T p : Int} (hw : 0 < w) : T - w < T - (T - p) % w ∧ T - (T - p) % w ≤ T ∧ (T - (T - p) % w) % w = p % w := by
  have h1 : 0 ≤ (T - p) % w := Int.emod_nonneg _ (by omega)
  have h2 : (T - p) % w < w := Int.emod_lt_of_pos _ hw
  refine ⟨by omega, by omega, ?_⟩
  have e : T - (T - p) % w = p + w * ((T - p) / w) := by
    have := Int.mul_ediv_add_emod (T - p) w
    omega
  rw [e, Int.add_mul_emod_self_left]
theorem RW.read {w : Int} {cs hs : List Int} (h : RW w cs hs) (p : Int) : ∃ p', hs.length - w < p' ∧ p' ≤ hs.length ∧ p' % w = p % w ∧ cs.getD (13 + p % w).toNat 0 = wd p' hs := by
  have hw := h.w0
  obtain ⟨a, b, c⟩ := same_cell (w := w) (T := hs.length) (p := p) (by omega)
  exact ⟨_, a, b, c, by rw [← c]; exact h.ring _ a b⟩
theorem RW.read_le {w : Int} {cs hs : List Int} (h : RW w cs hs) (p : Int) : 0 ≤ cs.getD (13 + p % w).toNat 0 ∧ cs.getD (13 + p % w).toNat 0 ≤ 1099510841343 ∧ plc (cs.getD (13 + p % w).toNat 0) ≤ hs.length := by
  obtain ⟨p', a, b, c, e⟩ := h.read p
  rw [e]
  by_cases h0 : 0 ≤ p'
  · obtain ⟨x, y, z⟩ := plc_wd h.hv b h.Tk h0
    exact ⟨y, z, by rw [x]; exact b⟩
  · rw [wd_neg (by omega)]
    refine ⟨by decide, by decide, ?_⟩
    have : plc 0 = 0 := by decide
    omega
theorem RW.cell {w : Int} {cs hs : List Int} (h : RW w cs hs) (p : Int) : (13 + p % w).toNat < 21 ∧ 13 ≤ (13 + p % w).toNat ∧ ((13 + p % w).toNat : Int) = 13 + p % w := by
  have hw := h.w0
  have hw1 := h.w1
  have := mod_range (p := p) (w := w) (by omega)
  omega
theorem RW.set_low {w : Int} {cs hs : List Int} (h : RW w cs hs) {i : Nat} {v : Int} (hi : i = 0 ∨ i = 4) (hv : -1152921504606846976 ≤ v ∧ v ≤ 1152921504606846976)
    (hq : 0 ≤ (cs.set i v).getD 4 0 ∧ (cs.set i v).getD 4 0 ≤ (cs.set i v).getD 0 0 ∧ (cs.set i v).getD 0 0 ≤ hs.length ∧ (hs.length : Int) ≤ (cs.set i v).getD 0 0 + w) (hL : cs.getD 4 0 ≤ (cs.set i v).getD 4 0) : RW w (cs.set i v) hs := by
  have hl := h.lc
  have g : ∀ j, (cs.set i v).getD j 0 = if i = j then v else cs.getD j 0 := fun j => getD_set cs i j _ _ (by omega)
  refine ⟨h.w0, h.w1, by simpa using hl, fun j => ?_, hq.1, hq.2.1, hq.2.2.1, hq.2.2.2, ?_, ?_, ?_, h.hv, h.Tk, Int.le_trans h.TL hL, fun p a b => ?_⟩
  · rw [g]
    split
    · exact hv
    · exact h.fit j
  · rw [g, if_neg (by omega)]; exact h.Tt
  · rw [g, if_neg (by omega)]; exact h.tT
  · rw [g, if_neg (by omega)]; exact h.t1
  · have hc := h.cell p
    rw [g, if_neg (by omega)]
    exact h.ring p a b
theorem lRing_eq' {p w : Int} (h0 : 0 ≤ p) (h1 : 2 ≤ w) (h2 : w ≤ 8) : lRing p w = 13 + p % w := by rw [lRing, if_pos ⟨h0, h1, h2⟩]
theorem RW.done {w : Int} {cs hs : List Int} (h : RW w cs hs) (hp : plc (cs.getD (lRing (cs.getD 0 0 + 1) w).toNat 0) = cs.getD 0 0 + 1) : RW w (cs.set 0 (cs.getD 0 0 + 1)) hs := by
  have hl := h.lc
  have hq0 := h.q0
  have hqf := h.qf
  have hfT := h.fT
  have hTk := h.Tk
  have hTf := h.Tf
  have g0 : (cs.set 0 (cs.getD 0 0 + 1)).getD 0 0 = cs.getD 0 0 + 1 := getD_set_eq (by omega)
  have g4 : (cs.set 0 (cs.getD 0 0 + 1)).getD 4 0 = cs.getD 4 0 := getD_set_ne' (by decide)
  rw [lRing_eq' (by omega) h.w0 h.w1] at hp
  have := (h.read_le (cs.getD 0 0 + 1)).2.2
  rw [hp] at this
  exact h.set_low (.inl rfl) (by omega) (by rw [g0, g4]; omega) (by rw [g4]; omega)
theorem RW.cellsOK {w : Int} {cs hs : List Int} (h : RW w cs hs) : cellsOK cs = true := by
  simp only [Go.Ev.cellsOK, Bool.and_eq_true, decide_eq_true_eq]
  refine ⟨by rw [h.lc]; decide, List.all_eq_true.2 fun x hx => ?_⟩
  obtain ⟨i, hi, rfl⟩ := List.getElem_of_mem hx
  have := h.fit i
  have e : cs.getD i 0 = cs[i] := by simp [hi]
  rw [e] at this
  simp only [fitsC, Bool.and_eq_true, decide_eq_true_eq]
  exact this
def MayA (k a b v g : Int) (tl al : Nat) : Prop :=
  -1 ≤ b ∧ b ≤ 1152921504606846976 ∧ -1 ≤ v ∧ v ≤ 1152921504606846976 ∧ -1 ≤ g ∧ g ≤ 1152921504606846976 ∧ al ≤ 96 ∧ tl ≤ 640 ∧ 0 ≤ a ∧ a ≤ 4095 ∧
  (k = 0 ∧ b = 0 ∧ v = 0 ∧ tl = 0 ∧ al = 0 ∨ k = 1 ∧ b = 0 ∧ tl = 0 ∧ al = 0 ∨ k = 2 ∧ tl = 0 ∧ al = 0 ∨ k = 3 ∧ b = 0 ∧ g = 0 ∧ tl = 0 ∧ al = 0 ∨ k = 4 ∧ v = 0 ∧ g = 0 ∧ al = 0 ∨
   k = 5 ∧ a = 0 ∧ b = 0 ∧ v = 0 ∧ g = 0 ∧ tl = 0 ∧ al = 0 ∨ k = 6 ∧ a ≤ 127 ∧ b = 0 ∧ v = 0 ∧ g = 0 ∧ tl = 0 ∨ k = 7 ∧ a = 0 ∧ b = 0 ∧ v = 0 ∧ g = 0 ∧ tl = 0)
instance instMayA (k a b v g : Int) (tl al : Nat) : Decidable (MayA k a b v g tl al) := by unfold MayA; infer_instance
theorem MayA.k0 {a b v g : Int} {tl al : Nat} : MayA 0 a b v g tl al ↔ (-1 ≤ b ∧ b ≤ 1152921504606846976 ∧ -1 ≤ v ∧ v ≤ 1152921504606846976 ∧ -1 ≤ g ∧ g ≤ 1152921504606846976 ∧ al ≤ 96 ∧ tl ≤ 640 ∧ 0 ≤ a ∧ a ≤ 4095) ∧ b = 0 ∧ v = 0 ∧ tl = 0 ∧ al = 0 := by
  unfold MayA
  refine ⟨fun ⟨q1, q2, q3, q4, q5, q6, q7, q8, q9, q10, h⟩ => ⟨⟨q1, q2, q3, q4, q5, q6, q7, q8, q9, q10⟩, ?_⟩, fun ⟨⟨q1, q2, q3, q4, q5, q6, q7, q8, q9, q10⟩, h⟩ => ⟨q1, q2, q3, q4, q5, q6, q7, q8, q9, q10, .inl ⟨rfl, h⟩⟩⟩
  rcases h with ⟨e, h⟩ | ⟨e, h⟩ | ⟨e, h⟩ | ⟨e, h⟩ | ⟨e, h⟩ | ⟨e, h⟩ | ⟨e, h⟩ | ⟨e, h⟩
  · exact h
  · exact absurd e (by decide)
  · exact absurd e (by decide)
  · exact absurd e (by decide)
  · exact absurd e (by decide)
  · exact absurd e (by decide)
  · exact absurd e (by decide)
  · exact absurd e (by decide)
theorem MayA.k1 {a b v g : Int} {tl al : Nat} : MayA 1 a b v g tl al ↔ (-1 ≤ b ∧ b ≤ 1152921504606846976 ∧ -1 ≤ v ∧ v ≤ 1152921504606846976 ∧ -1 ≤ g ∧ g ≤ 1152921504606846976 ∧ al ≤ 96 ∧ tl ≤ 640 ∧ 0 ≤ a ∧ a ≤ 4095) ∧ b = 0 ∧ tl = 0 ∧ al = 0 := by
  unfold MayA
  refine ⟨fun ⟨q1, q2, q3, q4, q5, q6, q7, q8, q9, q10, h⟩ => ⟨⟨q1, q2, q3, q4, q5, q6, q7, q8, q9, q10⟩, ?_⟩, fun ⟨⟨q1, q2, q3, q4, q5, q6, q7, q8, q9, q10⟩, h⟩ => ⟨q1, q2, q3, q4, q5, q6, q7, q8, q9, q10, .inr (.inl ⟨rfl, h⟩)⟩⟩
  rcases h with ⟨e, h⟩ | ⟨e, h⟩ | ⟨e, h⟩ | ⟨e, h⟩ | ⟨e, h⟩ | ⟨e, h⟩ | ⟨e, h⟩ | ⟨e, h⟩
  · exact absurd e (by decide)
  · exact h
  · exact absurd e (by decide)
  · exact absurd e (by decide)
  · exact absurd e (by decide)
  · exact absurd e (by decide)
  · exact absurd e (by decide)
  · exact absurd e (by decide)
theorem MayA.k2 {a b v g : Int} {tl al : Nat} : MayA 2 a b v g tl al ↔ (-1 ≤ b ∧ b ≤ 1152921504606846976 ∧ -1 ≤ v ∧ v ≤ 1152921504606846976 ∧ -1 ≤ g ∧ g ≤ 1152921504606846976 ∧ al ≤ 96 ∧ tl ≤ 640 ∧ 0 ≤ a ∧ a ≤ 4095) ∧ tl = 0 ∧ al = 0 := by
  unfold MayA
  refine ⟨fun ⟨q1, q2, q3, q4, q5, q6, q7, q8, q9, q10, h⟩ => ⟨⟨q1, q2, q3, q4, q5, q6, q7, q8, q9, q10⟩, ?_⟩, fun ⟨⟨q1, q2, q3, q4, q5, q6, q7, q8, q9, q10⟩, h⟩ => ⟨q1, q2, q3, q4, q5, q6, q7, q8, q9, q10, .inr (.inr (.inl ⟨rfl, h⟩))⟩⟩
  rcases h with ⟨e, h⟩ | ⟨e, h⟩ | ⟨e, h⟩ | ⟨e, h⟩ | ⟨e, h⟩ | ⟨e, h⟩ | ⟨e, h⟩ | ⟨e, h⟩
  · exact absurd e (by decide)
  · exact absurd e (by decide)
  · exact h
  · exact absurd e (by decide)
  · exact absurd e (by decide)
  · exact absurd e (by decide)
  · exact absurd e (by decide)
  · exact absurd e (by decide)
theorem MayA.k3 {a b v g : Int} {tl al : Nat} : MayA 3 a b v g tl al ↔ (-1 ≤ b ∧ b ≤ 1152921504606846976 ∧ -1 ≤ v ∧ v ≤ 1152921504606846976 ∧ -1 ≤ g ∧ g ≤ 1152921504606846976 ∧ al ≤ 96 ∧ tl ≤ 640 ∧ 0 ≤ a ∧ a ≤ 4095) ∧ b = 0 ∧ g = 0 ∧ tl = 0 ∧ al = 0 := by
  unfold MayA
  refine ⟨fun ⟨q1, q2, q3, q4, q5, q6, q7, q8, q9, q10, h⟩ => ⟨⟨q1, q2, q3, q4, q5, q6, q7, q8, q9, q10⟩, ?_⟩, fun ⟨⟨q1, q2, q3, q4, q5, q6, q7, q8, q9, q10⟩, h⟩ => ⟨q1, q2, q3, q4, q5, q6, q7, q8, q9, q10, .inr (.inr (.inr (.inl ⟨rfl, h⟩)))⟩⟩
  rcases h with ⟨e, h⟩ | ⟨e, h⟩ | ⟨e, h⟩ | ⟨e, h⟩ | ⟨e, h⟩ | ⟨e, h⟩ | ⟨e, h⟩ | ⟨e, h⟩
  · exact absurd e (by decide)
  · exact absurd e (by decide)
  · exact absurd e (by decide)
  · exact h
  · exact absurd e (by decide)
  · exact absurd e (by decide)
  · exact absurd e (by decide)
  · exact absurd e (by decide)
theorem MayA.k4 {a b v g : Int} {tl al : Nat} : MayA 4 a b v g tl al ↔ (-1 ≤ b ∧ b ≤ 1152921504606846976 ∧ -1 ≤ v ∧ v ≤ 1152921504606846976 ∧ -1 ≤ g ∧ g ≤ 1152921504606846976 ∧ al ≤ 96 ∧ tl ≤ 640 ∧ 0 ≤ a ∧ a ≤ 4095) ∧ v = 0 ∧ g = 0 ∧ al = 0 := by
  unfold MayA
  refine ⟨fun ⟨q1, q2, q3, q4, q5, q6, q7, q8, q9, q10, h⟩ => ⟨⟨q1, q2, q3, q4, q5, q6, q7, q8, q9, q10⟩, ?_⟩, fun ⟨⟨q1, q2, q3, q4, q5, q6, q7, q8, q9, q10⟩, h⟩ => ⟨q1, q2, q3, q4, q5, q6, q7, q8, q9, q10, .inr (.inr (.inr (.inr (.inl ⟨rfl, h⟩))))⟩⟩
  rcases h with ⟨e, h⟩ | ⟨e, h⟩ | ⟨e, h⟩ | ⟨e, h⟩ | ⟨e, h⟩ | ⟨e, h⟩ | ⟨e, h⟩ | ⟨e, h⟩
  · exact absurd e (by decide)
  · exact absurd e (by decide)
  · exact absurd e (by decide)
  · exact absurd e (by decide)
  · exact h
  · exact absurd e (by decide)
  · exact absurd e (by decide)
  · exact absurd e (by decide)
theorem MayA.k5 {a b v g : Int} {tl al : Nat} : MayA 5 a b v g tl al ↔ (-1 ≤ b ∧ b ≤ 1152921504606846976 ∧ -1 ≤ v ∧ v ≤ 1152921504606846976 ∧ -1 ≤ g ∧ g ≤ 1152921504606846976 ∧ al ≤ 96 ∧ tl ≤ 640 ∧ 0 ≤ a ∧ a ≤ 4095) ∧ a = 0 ∧ b = 0 ∧ v = 0 ∧ g = 0 ∧ tl = 0 ∧ al = 0 := by
  unfold MayA
  refine ⟨fun ⟨q1, q2, q3, q4, q5, q6, q7, q8, q9, q10, h⟩ => ⟨⟨q1, q2, q3, q4, q5, q6, q7, q8, q9, q10⟩, ?_⟩, fun ⟨⟨q1, q2, q3, q4, q5, q6, q7, q8, q9, q10⟩, h⟩ => ⟨q1, q2, q3, q4, q5, q6, q7, q8, q9, q10, .inr (.inr (.inr (.inr (.inr (.inl ⟨rfl, h⟩)))))⟩⟩
  rcases h with ⟨e, h⟩ | ⟨e, h⟩ | ⟨e, h⟩ | ⟨e, h⟩ | ⟨e, h⟩ | ⟨e, h⟩ | ⟨e, h⟩ | ⟨e, h⟩
  · exact absurd e (by decide)
  · exact absurd e (by decide)
  · exact absurd e (by decide)
  · exact absurd e (by decide)
  · exact absurd e (by decide)
  · exact h
  · exact absurd e (by decide)
  · exact absurd e (by decide)
theorem MayA.k6 {a b v g : Int} {tl al : Nat} : MayA 6 a b v g tl al ↔ (-1 ≤ b ∧ b ≤ 1152921504606846976 ∧ -1 ≤ v ∧ v ≤ 1152921504606846976 ∧ -1 ≤ g ∧ g ≤ 1152921504606846976 ∧ al ≤ 96 ∧ tl ≤ 640 ∧ 0 ≤ a ∧ a ≤ 4095) ∧ a ≤ 127 ∧ b = 0 ∧ v = 0 ∧ g = 0 ∧ tl = 0 := by
  unfold MayA
  refine ⟨fun ⟨q1, q2, q3, q4, q5, q6, q7, q8, q9, q10, h⟩ => ⟨⟨q1, q2, q3, q4, q5, q6, q7, q8, q9, q10⟩, ?_⟩, fun ⟨⟨q1, q2, q3, q4, q5, q6, q7, q8, q9, q10⟩, h⟩ => ⟨q1, q2, q3, q4, q5, q6, q7, q8, q9, q10, .inr (.inr (.inr (.inr (.inr (.inr (.inl ⟨rfl, h⟩))))))⟩⟩
  rcases h with ⟨e, h⟩ | ⟨e, h⟩ | ⟨e, h⟩ | ⟨e, h⟩ | ⟨e, h⟩ | ⟨e, h⟩ | ⟨e, h⟩ | ⟨e, h⟩
  · exact absurd e (by decide)
  · exact absurd e (by decide)
  · exact absurd e (by decide)
  · exact absurd e (by decide)
  · exact absurd e (by decide)
  · exact absurd e (by decide)
  · exact h
  · exact absurd e (by decide)
def OkDo4 (l : List Int) (k a b v : Int) : Prop := (k = 0 ∧ b = 0 ∧ v = 0 ∨ k = 1 ∧ b = 0 ∨ k = 2 ∨ k = 3 ∧ b = 0) ∧ 0 ≤ a ∧ a < l.length ∧ -1152921504606846976 ≤ b ∧ b ≤ 1152921504606846976 ∧ -1152921504606846976 ≤ v ∧ v ≤ 1152921504606846976
instance instOkDo4 (l : List Int) (k a b v : Int) : Decidable (OkDo4 l k a b v) := by unfold OkDo4; infer_instance
structure GoR4 where
  st : List Frame
  got : List Int
  over : Bool
  kind : Int
  a : Int
  b : Int
  v : Int
  g : Int
  is : Bool
def g4 (p n : Int) (r got : List Int) (kind a b v g : Int) : GoR4 := ⟨[⟨p, n, r⟩], got, false, kind, a, b, v, g, true⟩
theorem ofInt64 (x : Nat) (hx : x < 2 ^ 64) : (BitVec.ofInt IntKind.i64.bits (x : Int)).toNat = x := by
  rw [BitVec.toNat_ofInt]
  simp only [IntKind.bits]
  omega
theorem bits_and_mask (n : Int) (k : Nat) (h0 : 0 ≤ n) (h1 : n < 9223372036854775808) (hk : k ≤ 62) :
    bits .i64 (fun _ u v => u &&& v) n ((2 ^ k - 1 : Nat) : Int) = n % ((2 ^ k : Nat) : Int) := by
  obtain ⟨m, rfl⟩ := Int.eq_ofNat_of_zero_le h0
  have hp : 2 ^ k ≤ 2 ^ 62 := Nat.pow_le_pow_right (by omega) hk
  have hq : 0 < 2 ^ k := Nat.pow_pos (by omega)
  unfold bits
  rw [BitVec.toNat_and, ofInt64 _ (by omega), ofInt64 _ (by omega), Nat.and_two_pow_sub_one_eq_mod]
  have := Nat.mod_lt m hq
  rw [wrap_id (by omega) (by omega)]
  simp
theorem bits_or_add (a b : Int) (k : Nat) (ha : 0 ≤ a) (hb : 0 ≤ b) (h1 : b < ((2 ^ k : Nat) : Int)) (h2 : a * ((2 ^ k : Nat) : Int) + b < 9223372036854775808) :
    bits .i64 (fun _ u v => u ||| v) (a * ((2 ^ k : Nat) : Int)) b = a * ((2 ^ k : Nat) : Int) + b := by
  obtain ⟨a, rfl⟩ := Int.eq_ofNat_of_zero_le ha
  obtain ⟨b, rfl⟩ := Int.eq_ofNat_of_zero_le hb
  have e : (a : Int) * ((2 ^ k : Nat) : Int) = ((a * 2 ^ k : Nat) : Int) := by simp
  have h2' : a * 2 ^ k + b < 9223372036854775808 := by rw [e] at h2; omega
  have h1' : b < 2 ^ k := by omega
  unfold bits
  rw [e, BitVec.toNat_or, ofInt64 _ (by omega), ofInt64 _ (by omega)]
  have h3 : a * 2 ^ k ||| b = a * 2 ^ k + b := by
    rw [Nat.mul_comm, ← Nat.two_pow_add_eq_or_of_lt h1']
  rw [h3, wrap_id (by omega) (by omega)]
  simp
theorem bits_or_add' (m a b : Int) (k : Nat) (hm : m = ((2 ^ k : Nat) : Int)) (ha : 0 ≤ a) (hb : 0 ≤ b) (h1 : b < m) (h2 : a * m + b < 9223372036854775808) :
    bits .i64 (fun _ u v => u ||| v) (a * m) b = a * m + b := by
  subst hm; exact bits_or_add a b k ha hb h1 h2
theorem bits_and_mask' (n m : Int) (k : Nat) (hm : m + 1 = ((2 ^ k : Nat) : Int)) (h0 : 0 ≤ n) (h1 : n < 9223372036854775808) (hk : k ≤ 62) :
    bits .i64 (fun _ u v => u &&& v) n m = n % (m + 1) := by
  have hq : 0 < 2 ^ k := Nat.pow_pos (by omega)
  rw [hm, ← bits_and_mask n k h0 h1 hk]
  congr 1
  omega
def mayLn (l : Line) : Bool := decide (0 ≤ l.offset ∧ l.offset < 4194304 ∧ 1 ≤ l.place ∧ l.place ≤ 1048575 ∧ 0 ≤ l.j ∧ l.j ≤ 3 ∧ 0 ≤ l.key ∧ l.key ≤ 7 ∧ 0 ≤ l.value ∧ l.value ≤ 255)
def wordL (l : Line) : Int := (l.offset + 1) * 8589934592 + l.place * 8192 + l.j * 2048 + l.key * 256 + l.value
def lineW (w : Int) : Line := ⟨w / 8589934592 - 1, w / 8192 % 1048576, w / 2048 % 4, w / 256 % 8, w % 256⟩
def readW (w : Int) : Option Line := if 0 ≤ w ∧ mayLn (lineW w) = true then some (lineW w) else none
theorem wordL_or {o p j k v : Int} (h : mayLn ⟨o, p, j, k, v⟩ = true) :
    bits .i64 (fun _ u v => u ||| v) (bits .i64 (fun _ u v => u ||| v) (bits .i64 (fun _ u v => u ||| v) (bits .i64 (fun _ u v => u ||| v) ((o + 1) * 8589934592) (p * 8192)) (j * 2048)) (k * 256)) v = wordL ⟨o, p, j, k, v⟩ := by
  unfold mayLn at h
  rw [decide_eq_true_eq] at h
  simp only at h
  have e1 := bits_or_add' 8589934592 (o + 1) (p * 8192) 33 (by decide) (by omega) (by omega) (by omega) (by omega)
  have e2 := bits_or_add' 8192 ((o + 1) * 1048576 + p) (j * 2048) 13 (by decide) (by omega) (by omega) (by omega) (by omega)
  have e3 := bits_or_add' 2048 (((o + 1) * 1048576 + p) * 4 + j) (k * 256) 11 (by decide) (by omega) (by omega) (by omega) (by omega)
  have e4 := bits_or_add' 256 ((((o + 1) * 1048576 + p) * 4 + j) * 8 + k) v 8 (by decide) (by omega) (by omega) (by omega) (by omega)
  rw [e1, show (o + 1) * 8589934592 + p * 8192 = ((o + 1) * 1048576 + p) * 8192 by omega, e2,
    show ((o + 1) * 1048576 + p) * 8192 + j * 2048 = (((o + 1) * 1048576 + p) * 4 + j) * 2048 by omega, e3,
    show (((o + 1) * 1048576 + p) * 4 + j) * 2048 + k * 256 = ((((o + 1) * 1048576 + p) * 4 + j) * 8 + k) * 256 by omega, e4]
  unfold wordL
  simp only
  omega
theorem lineW_wordL {l : Line} (h : mayLn l = true) : lineW (wordL l) = l ∧ 0 ≤ wordL l ∧ wordL l < 9223372036854775808 := by
  obtain ⟨o, p, j, k, v⟩ := l
  unfold mayLn at h
  rw [decide_eq_true_eq] at h
  simp only at h
  unfold lineW wordL
  simp only [Line.mk.injEq]
  omega
theorem wordL_lineW {w : Int} (h0 : 0 ≤ w) : wordL (lineW w) = w := by
  unfold lineW wordL
  simp only
  omega
theorem readW_wordL {l : Line} (h : mayLn l = true) : readW (wordL l) = some l := by
  obtain ⟨h1, h2, _⟩ := lineW_wordL h
  unfold readW
  rw [h1, if_pos ⟨h2, h⟩]
theorem readW_some {w : Int} {l : Line} (h : readW w = some l) : mayLn l = true ∧ wordL l = w ∧ l = lineW w ∧ 0 ≤ w := by
  unfold readW at h
  split at h
  · rename_i q
    cases h
    exact ⟨q.2, wordL_lineW q.1, rfl, q.1⟩
  · cases h
open Go.Proofs
abbrev DO_ : Type := Option (D RC)
noncomputable def p0 : Fns RC := noFns Tryz.prog 205 (fun f => Nat.beq f 126)
theorem p0_laws : FLaws Tryz.prog s19 p0 := noFns_laws (by kernel_rfl)
theorem fdiv0 {n : Int} (k : Nat) (h : 0 ≤ n) : (n.fdiv (2 ^ k) == 0) = decide (n < 2 ^ k) := by
  have hp : (0 : Int) < 2 ^ k := Int.pow_pos (by decide)
  rw [Int.fdiv_eq_ediv_of_nonneg _ (Int.le_of_lt hp)]
  by_cases q : n < 2 ^ k
  · rw [decide_eq_true q, Int.ediv_eq_zero_of_lt h q]; rfl
  · rw [decide_eq_false q]
    have : n / 2 ^ k ≠ 0 := fun e => q (by
      have h1 := Int.ediv_mul_add_emod n (2 ^ k)
      have h2 := Int.emod_lt_of_pos n hp
      rw [e] at h1
      omega)
    simpa using this
theorem mayLn_not {o p j k v : Int} (h : ¬ (0 ≤ o ∧ o < 4194304 ∧ 1 ≤ p ∧ p ≤ 1048575 ∧ 0 ≤ j ∧ j ≤ 3 ∧ 0 ≤ k ∧ k ≤ 7 ∧ 0 ≤ v ∧ v ≤ 255)) : mayLn ⟨o, p, j, k, v⟩ = false := decide_eq_false h
theorem mayLn_yes {o p j k v : Int} (h : 0 ≤ o ∧ o < 4194304 ∧ 1 ≤ p ∧ p ≤ 1048575 ∧ 0 ≤ j ∧ j ≤ 3 ∧ 0 ≤ k ∧ k ≤ 7 ∧ 0 ≤ v ∧ v ≤ 255) : mayLn ⟨o, p, j, k, v⟩ = true := decide_eq_true h
def wordO (l : Line) : Int := bif mayLn l then wordL l else 0
def fitsF_s (n : Int) (a : Int) (b : Int) : Option (Bool × D RC) := some (decide (0 ≤ a ∧ 0 ≤ b ∧ b ≤ 63), .bool (decide (a ≤ n ∧ n < 2 ^ b.toNat)))
def fitsF_sp : List (D RC) → Option (Bool × D RC)
  | [.int .i64 n, .int .i64 a, .int .i64 b] => fitsF_s n a b
  | _ => none
noncomputable def fitsF_e (n : Int) (a : Int) (b : Int) := evF s19 p0 20 60 [.int .i64 n, .int .i64 a, .int .i64 b]
theorem fitsF_eq (n : Int) (a : Int) (b : Int) : fitsF_e n a b = (bif decide (a ≤ n) then bif decide (b < (0 : Int)) then none else some (D.bool (Int.fdiv n ((2 : Int) ^ min b.toNat (64 : Nat)) == (0 : Int))) else some (D.bool false)) := by kernel_rfl
theorem fitsF_ok (n : Int) (a : Int) (b : Int) (h : (decide (0 ≤ a ∧ 0 ≤ b ∧ b ≤ 63)) = true) : fitsF_e n a b = some (.bool (decide (a ≤ n ∧ n < 2 ^ b.toNat))) := by
  rw [fitsF_eq]
  obtain ⟨h1, h2, h3⟩ := of_decide_eq_true h
  have hm : min b.toNat 64 = b.toNat := by omega
  rw [decide_eq_false (show ¬ b < 0 by omega), hm]
  simp only [cond_false]
  refine cond_two (fun q => ?_) fun q => ?_
  · have q := of_decide_eq_true q
    rw [fdiv0 _ (by omega)]
    by_cases q2 : n < 2 ^ b.toNat
    · rw [decide_eq_true q2, decide_eq_true (show a ≤ n ∧ n < 2 ^ b.toNat from ⟨q, q2⟩)]
    · rw [decide_eq_false q2, decide_eq_false (fun e => q2 e.2)]
  · have q := of_decide_eq_false q
    rw [decide_eq_false (fun e => q e.1)]
noncomputable def ua_1 := p0.addSpec 60 fitsF_sp
theorem ua_1_laws : FLaws Tryz.prog s19 ua_1 := p0_laws.addEv s19_laws fun args d h => by
  unfold fitsF_sp at h
  split at h
  · unfold fitsF_s at h
    have h1 := congrArg Prod.fst (Option.some.inj h)
    obtain rfl : _ = d := congrArg Prod.snd (Option.some.inj h)
    exact ⟨by simp [D.refs], 20, fitsF_ok _ _ _ h1⟩
  · cases h
def mayR_s (o : Int) (p : Int) (j : Int) (k : Int) (v : Int) : Option (Bool × D RC) := some (true, .bool (mayLn ⟨o, p, j, k, v⟩))
def mayR_sp : List (D RC) → Option (Bool × D RC)
  | [.acons (.int .i64 o) (.acons (.int .i64 p) (.acons (.int .i64 j) (.acons (.int .i64 k) (.acons (.int .i64 v) .anil))))] => mayR_s o p j k v
  | _ => none
noncomputable def mayR_e (o : Int) (p : Int) (j : Int) (k : Int) (v : Int) := evF s19 ua_1 40 32 [.acons (.int .i64 o) (.acons (.int .i64 p) (.acons (.int .i64 j) (.acons (.int .i64 k) (.acons (.int .i64 v) .anil))))]
theorem mayR_eq (o : Int) (p : Int) (j : Int) (k : Int) (v : Int) : mayR_e o p j k v = (let Z0 : DO_ := some (D.bool false); bif decide ((0 : Int) ≤ o) then bif decide (o < (4194304 : Int)) then bif decide ((1 : Int) ≤ p) then bif decide (p ≤ (1048575 : Int)) then bif decide ((0 : Int) ≤ j) then bif decide (j < (4 : Int)) then bif decide ((0 : Int) ≤ k) then bif decide (k < (8 : Int)) then bif decide ((0 : Int) ≤ v) then some (D.bool (decide (v ≤ (255 : Int)))) else Z0 else Z0 else Z0 else Z0 else Z0 else Z0 else Z0 else Z0 else Z0) := by kernel_rfl
theorem mayR_ok (o : Int) (p : Int) (j : Int) (k : Int) (v : Int) (h : (true) = true) : mayR_e o p j k v = some (.bool (mayLn ⟨o, p, j, k, v⟩)) := by
  (rw [mayR_eq]; conv => zeta)
  have no : (¬ (0 ≤ o ∧ o < 4194304 ∧ 1 ≤ p ∧ p ≤ 1048575 ∧ 0 ≤ j ∧ j ≤ 3 ∧ 0 ≤ k ∧ k ≤ 7 ∧ 0 ≤ v ∧ v ≤ 255)) → some (D.bool (C := RC) false) = some (.bool (mayLn ⟨o, p, j, k, v⟩)) := fun e => by rw [mayLn_not e]
  iterate 9
    refine cond_two (fun _ => ?_) fun e => no (by simp only [decide_eq_false_iff_not] at e; omega)
  simp only [decide_eq_true_eq] at *
  by_cases q : v ≤ 255
  · rw [decide_eq_true q, mayLn_yes (by omega)]
  · rw [decide_eq_false q]; exact no (by omega)
noncomputable def ua_2 := ua_1.addSpec 32 mayR_sp
theorem ua_2_laws : FLaws Tryz.prog s19 ua_2 := ua_1_laws.addEv s19_laws fun args d h => by
  unfold mayR_sp at h
  split at h
  · unfold mayR_s at h
    have h1 := congrArg Prod.fst (Option.some.inj h)
    obtain rfl : _ = d := congrArg Prod.snd (Option.some.inj h)
    exact ⟨by simp [D.refs], 40, mayR_ok _ _ _ _ _ h1⟩
  · cases h
def wordP_s (o : Int) (p : Int) (j : Int) (k : Int) (v : Int) : Option (Bool × D RC) := some (true, .tup (.acons (.int .i64 (wordO ⟨o, p, j, k, v⟩)) (.acons (.int .i64 (bif mayLn ⟨o, p, j, k, v⟩ then 0 else 2)) .anil)))
def wordP_sp : List (D RC) → Option (Bool × D RC)
  | [.acons (.int .i64 o) (.acons (.int .i64 p) (.acons (.int .i64 j) (.acons (.int .i64 k) (.acons (.int .i64 v) .anil))))] => wordP_s o p j k v
  | _ => none
noncomputable def wordP_e (o : Int) (p : Int) (j : Int) (k : Int) (v : Int) := evF s19 ua_2 60 14 [.acons (.int .i64 o) (.acons (.int .i64 p) (.acons (.int .i64 j) (.acons (.int .i64 k) (.acons (.int .i64 v) .anil))))]
theorem wordP_eq (o : Int) (p : Int) (j : Int) (k : Int) (v : Int) : wordP_e o p j k v = (let Z0 : D RC := D.int .i64 0; let Z1 : DO_ := some (D.tup (D.acons Z0 (D.acons (D.int .i64 2) .anil))); bif decide ((0 : Int) ≤ o ∧ o < (4194304 : Int)) then bif decide ((1 : Int) ≤ p ∧ p < (1048576 : Int)) then bif decide ((0 : Int) ≤ j ∧ j < (4 : Int)) then bif decide ((0 : Int) ≤ k ∧ k < (8 : Int)) then bif !decide ((0 : Int) ≤ v ∧ v < (256 : Int)) then Z1 else some (D.tup (D.acons (D.int .i64 (bits .i64 (fun (x : Nat) (u v : BitVec x) => u ||| v) (bits .i64 (fun (x : Nat) (u v : BitVec x) => u ||| v) (bits .i64 (fun (x : Nat) (u v : BitVec x) => u ||| v) (bits .i64 (fun (x : Nat) (u v : BitVec x) => u ||| v) (IntKind.wrap .i64 (IntKind.wrap .i64 (o + (1 : Int)) * (8589934592 : Int))) (IntKind.wrap .i64 (p * (8192 : Int)))) (IntKind.wrap .i64 (j * (2048 : Int)))) (IntKind.wrap .i64 (k * (256 : Int)))) v)) (.acons Z0 .anil))) else Z1 else Z1 else Z1 else Z1) := by kernel_rfl
theorem wordP_ok (o : Int) (p : Int) (j : Int) (k : Int) (v : Int) (h : (true) = true) : wordP_e o p j k v = some (.tup (.acons (.int .i64 (wordO ⟨o, p, j, k, v⟩)) (.acons (.int .i64 (bif mayLn ⟨o, p, j, k, v⟩ then 0 else 2)) .anil))) := by
  (rw [wordP_eq]; conv => zeta)
  have no : (¬ (0 ≤ o ∧ o < 4194304 ∧ 1 ≤ p ∧ p ≤ 1048575 ∧ 0 ≤ j ∧ j ≤ 3 ∧ 0 ≤ k ∧ k ≤ 7 ∧ 0 ≤ v ∧ v ≤ 255)) → some (D.tup (C := RC) (.acons (.int .i64 0) (.acons (.int .i64 2) .anil))) = some (.tup (.acons (.int .i64 (wordO ⟨o, p, j, k, v⟩)) (.acons (.int .i64 (bif mayLn ⟨o, p, j, k, v⟩ then 0 else 2)) .anil))) := fun e => by simp only [wordO, mayLn_not e]; rfl
  iterate 4
    refine cond_two (fun _ => ?_) fun e => no (by simp only [decide_eq_false_iff_not] at e; omega)
  refine cond_two (fun e => no (by simp only [Bool.not_eq_true', decide_eq_false_iff_not] at e; omega)) fun e => ?_
  simp only [Bool.not_eq_false', decide_eq_true_eq] at *
  have hm : mayLn ⟨o, p, j, k, v⟩ = true := mayLn_yes (by omega)
  have w1 : IntKind.i64.wrap (o + 1) = o + 1 := wrap_id (by omega) (by omega)
  have w2 : IntKind.i64.wrap ((o + 1) * 8589934592) = (o + 1) * 8589934592 := wrap_id (by omega) (by omega)
  have w3 : IntKind.i64.wrap (p * 8192) = p * 8192 := wrap_id (by omega) (by omega)
  have w4 : IntKind.i64.wrap (j * 2048) = j * 2048 := wrap_id (by omega) (by omega)
  have w5 : IntKind.i64.wrap (k * 256) = k * 256 := wrap_id (by omega) (by omega)
  simp only [wordO, hm, w1, w2, w3, w4, w5, cond_true, wordL_or hm]
noncomputable def ua_3 := ua_2.addSpec 14 wordP_sp
theorem ua_3_laws : FLaws Tryz.prog s19 ua_3 := ua_2_laws.addEv s19_laws fun args d h => by
  unfold wordP_sp at h
  split at h
  · unfold wordP_s at h
    have h1 := congrArg Prod.fst (Option.some.inj h)
    obtain rfl : _ = d := congrArg Prod.snd (Option.some.inj h)
    exact ⟨by simp [D.refs], 60, wordP_ok _ _ _ _ _ h1⟩
  · cases h
def wordR_s (o : Int) (p : Int) (j : Int) (k : Int) (v : Int) : Option (Bool × D RC) := some (true, .tup (.acons (.int .i64 (wordO ⟨o, p, j, k, v⟩)) (.acons (.int .i64 (bif mayLn ⟨o, p, j, k, v⟩ then 0 else 2)) .anil)))
def wordR_sp : List (D RC) → Option (Bool × D RC)
  | [.acons (.int .i64 o) (.acons (.int .i64 p) (.acons (.int .i64 j) (.acons (.int .i64 k) (.acons (.int .i64 v) .anil))))] => wordR_s o p j k v
  | _ => none
noncomputable def wordR_e (o : Int) (p : Int) (j : Int) (k : Int) (v : Int) := evF s19 ua_3 60 15 [.acons (.int .i64 o) (.acons (.int .i64 p) (.acons (.int .i64 j) (.acons (.int .i64 k) (.acons (.int .i64 v) .anil))))]
theorem wordR_eq (o : Int) (p : Int) (j : Int) (k : Int) (v : Int) : wordR_e o p j k v = (let Z0 : D RC := D.int .i64 0; bif !mayLn (Line.mk o p j k v) then some (D.tup (D.acons Z0 (D.acons (D.int .i64 2) .anil))) else some (D.tup (D.acons (D.int .i64 (IntKind.wrap .i64 (IntKind.wrap .i64 (IntKind.wrap .i64 (IntKind.wrap .i64 (IntKind.wrap .i64 (IntKind.wrap .i64 (IntKind.wrap .i64 (o + (1 : Int)) * (1048576 : Int)) + p) * (8192 : Int)) + IntKind.wrap .i64 (j * (2048 : Int))) + IntKind.wrap .i64 (k * (256 : Int))) + v))) (.acons Z0 .anil)))) := by kernel_rfl
theorem wordR_ok (o : Int) (p : Int) (j : Int) (k : Int) (v : Int) (h : (true) = true) : wordR_e o p j k v = some (.tup (.acons (.int .i64 (wordO ⟨o, p, j, k, v⟩)) (.acons (.int .i64 (bif mayLn ⟨o, p, j, k, v⟩ then 0 else 2)) .anil))) := by
  (rw [wordR_eq]; conv => zeta)
  by_cases q : 0 ≤ o ∧ o < 4194304 ∧ 1 ≤ p ∧ p ≤ 1048575 ∧ 0 ≤ j ∧ j ≤ 3 ∧ 0 ≤ k ∧ k ≤ 7 ∧ 0 ≤ v ∧ v ≤ 255
  · have hm := mayLn_yes q
    have w1 : IntKind.i64.wrap (o + 1) = o + 1 := wrap_id (by omega) (by omega)
    have w2 : IntKind.i64.wrap ((o + 1) * 1048576) = (o + 1) * 1048576 := wrap_id (by omega) (by omega)
    have w3 : IntKind.i64.wrap ((o + 1) * 1048576 + p) = (o + 1) * 1048576 + p := wrap_id (by omega) (by omega)
    have w4 : IntKind.i64.wrap (((o + 1) * 1048576 + p) * 8192) = ((o + 1) * 1048576 + p) * 8192 := wrap_id (by omega) (by omega)
    have w5 : IntKind.i64.wrap (j * 2048) = j * 2048 := wrap_id (by omega) (by omega)
    have w6 : IntKind.i64.wrap (((o + 1) * 1048576 + p) * 8192 + j * 2048) = ((o + 1) * 1048576 + p) * 8192 + j * 2048 := wrap_id (by omega) (by omega)
    have w7 : IntKind.i64.wrap (k * 256) = k * 256 := wrap_id (by omega) (by omega)
    have w8 : IntKind.i64.wrap (((o + 1) * 1048576 + p) * 8192 + j * 2048 + k * 256) = ((o + 1) * 1048576 + p) * 8192 + j * 2048 + k * 256 := wrap_id (by omega) (by omega)
    have w9 : IntKind.i64.wrap (((o + 1) * 1048576 + p) * 8192 + j * 2048 + k * 256 + v) = wordL ⟨o, p, j, k, v⟩ := by rw [wrap_id (by omega) (by omega)]; unfold wordL; simp only; omega
    simp only [wordO, hm, w1, w2, w3, w4, w5, w6, w7, w8, w9, cond_true, Bool.not_true, cond_false]
  · have hm := mayLn_not q
    simp only [wordO, hm, Bool.not_false, cond_true, cond_false]
noncomputable def ua_4 := ua_3.addSpec 15 wordR_sp
theorem ua_4_laws : FLaws Tryz.prog s19 ua_4 := ua_3_laws.addEv s19_laws fun args d h => by
  unfold wordR_sp at h
  split at h
  · unfold wordR_s at h
    have h1 := congrArg Prod.fst (Option.some.inj h)
    obtain rfl : _ = d := congrArg Prod.snd (Option.some.inj h)
    exact ⟨by simp [D.refs], 60, wordR_ok _ _ _ _ _ h1⟩
  · cases h
def readO (w : Int) : Line := (readW w).getD ⟨0, 0, 0, 0, 0⟩
theorem read_and {w : Int} (h0 : 0 ≤ w) (h1 : w < 9223372036854775808) :
    IntKind.i64.wrap (w.fdiv 8589934592 - 1) = (lineW w).offset ∧ bits .i64 (fun _ u v => u &&& v) (w.fdiv 8192) 1048575 = (lineW w).place ∧ bits .i64 (fun _ u v => u &&& v) (w.fdiv 2048) 3 = (lineW w).j ∧
    bits .i64 (fun _ u v => u &&& v) (w.fdiv 256) 7 = (lineW w).key ∧ bits .i64 (fun _ u v => u &&& v) w 255 = (lineW w).value := by
  have f1 : w.fdiv 8589934592 = w / 8589934592 := Int.fdiv_eq_ediv_of_nonneg _ (by decide)
  have f2 : w.fdiv 8192 = w / 8192 := Int.fdiv_eq_ediv_of_nonneg _ (by decide)
  have f3 : w.fdiv 2048 = w / 2048 := Int.fdiv_eq_ediv_of_nonneg _ (by decide)
  have f4 : w.fdiv 256 = w / 256 := Int.fdiv_eq_ediv_of_nonneg _ (by decide)
  rw [f1, f2, f3, f4]
  refine ⟨wrap_id (by omega) (by omega), ?_, ?_, ?_, ?_⟩
  · exact bits_and_mask' _ 1048575 20 (by decide) (by omega) (by omega) (by decide)
  · exact bits_and_mask' _ 3 2 (by decide) (by omega) (by omega) (by decide)
  · exact bits_and_mask' _ 7 3 (by decide) (by omega) (by omega) (by decide)
  · exact bits_and_mask' _ 255 8 (by decide) (by omega) (by omega) (by decide)
theorem readW_neg {w : Int} (h : w < 0) : readW w = none := if_neg (fun e => by omega)
theorem readW_yes {w : Int} (h : 0 ≤ w) (hm : mayLn (lineW w) = true) : readW w = some (lineW w) := if_pos ⟨h, hm⟩
theorem readW_no {w : Int} (hm : mayLn (lineW w) = false) : readW w = none := if_neg (fun e => by rw [hm] at e; cases e.2)
def readP_s (w : Int) : Option (Bool × D RC) := some (decide (w < 9223372036854775808), .tup (.acons (.acons (.int .i64 (readO w).offset) (.acons (.int .i64 (readO w).place) (.acons (.int .i64 (readO w).j) (.acons (.int .i64 (readO w).key) (.acons (.int .i64 (readO w).value) .anil))))) (.acons (.bool (readW w).isSome) .anil)))
def readP_sp : List (D RC) → Option (Bool × D RC)
  | [.int .i64 w] => readP_s w
  | _ => none
noncomputable def readP_e (w : Int) := evF s19 ua_4 60 16 [.int .i64 w]
theorem readP_eq (w : Int) : readP_e w = (let Z0 : D RC := D.int .i64 0; let Z1 : DO_ := some (D.tup (D.acons (D.acons Z0 (D.acons Z0 (D.acons Z0 (D.acons Z0 (D.acons Z0 .anil))))) (.acons (D.bool false) .anil))); let Z2 : Int := IntKind.wrap .i64 (Int.fdiv w (8589934592 : Int) - (1 : Int)); let Z3 : Int := bits .i64 (fun (x : Nat) (u v : BitVec x) => u &&& v) (Int.fdiv w (8192 : Int)) (1048575 : Int); let Z4 : Int := bits .i64 (fun (x : Nat) (u v : BitVec x) => u &&& v) (Int.fdiv w (2048 : Int)) (3 : Int); let Z5 : Int := bits .i64 (fun (x : Nat) (u v : BitVec x) => u &&& v) (Int.fdiv w (256 : Int)) (7 : Int); let Z6 : Int := bits .i64 (fun (x : Nat) (u v : BitVec x) => u &&& v) w (255 : Int); bif decide (w < (0 : Int)) then Z1 else bif decide ((0 : Int) ≤ Z2 ∧ Z2 < (4194304 : Int)) then bif decide ((1 : Int) ≤ Z3 ∧ Z3 < (1048576 : Int)) then bif decide ((0 : Int) ≤ Z4 ∧ Z4 < (4 : Int)) then bif decide ((0 : Int) ≤ Z5 ∧ Z5 < (8 : Int)) then bif !decide ((0 : Int) ≤ Z6 ∧ Z6 < (256 : Int)) then Z1 else some (D.tup (D.acons (D.acons (D.int .i64 Z2) (.acons (D.int .i64 Z3) (.acons (D.int .i64 Z4) (.acons (D.int .i64 Z5) (.acons (D.int .i64 Z6) .anil))))) (.acons (D.bool true) .anil))) else Z1 else Z1 else Z1 else Z1) := by kernel_rfl
theorem readP_ok (w : Int) (h : (decide (w < 9223372036854775808)) = true) : readP_e w = some (.tup (.acons (.acons (.int .i64 (readO w).offset) (.acons (.int .i64 (readO w).place) (.acons (.int .i64 (readO w).j) (.acons (.int .i64 (readO w).key) (.acons (.int .i64 (readO w).value) .anil))))) (.acons (.bool (readW w).isSome) .anil))) := by
  (rw [readP_eq]; conv => zeta)
  have h1 := of_decide_eq_true h
  have no : readW w = none → some (D.tup (C := RC) (.acons (.acons (.int .i64 0) (.acons (.int .i64 0) (.acons (.int .i64 0) (.acons (.int .i64 0) (.acons (.int .i64 0) .anil))))) (.acons (.bool false) .anil))) = some (.tup (.acons (.acons (.int .i64 (readO w).offset) (.acons (.int .i64 (readO w).place) (.acons (.int .i64 (readO w).j) (.acons (.int .i64 (readO w).key) (.acons (.int .i64 (readO w).value) .anil))))) (.acons (.bool (readW w).isSome) .anil))) := fun e => by simp only [readO, e]; rfl
  refine cond_two (fun q => no (readW_neg (of_decide_eq_true q))) fun q => ?_
  have q := of_decide_eq_false q
  obtain ⟨a1, a2, a3, a4, a5⟩ := read_and (by omega) h1
  rw [a1, a2, a3, a4, a5]
  generalize hl : lineW w = l
  have no2 : mayLn l = false → readW w = none := fun e => readW_no (by rw [hl]; exact e)
  obtain ⟨o, p, j, k, v⟩ := l
  have no3 : ¬ (0 ≤ o ∧ o < 4194304 ∧ 1 ≤ p ∧ p ≤ 1048575 ∧ 0 ≤ j ∧ j ≤ 3 ∧ 0 ≤ k ∧ k ≤ 7 ∧ 0 ≤ v ∧ v ≤ 255) → readW w = none := fun e => no2 (mayLn_not e)
  simp only
  iterate 4
    refine cond_two (fun _ => ?_) fun e => no (no3 (by simp only [decide_eq_false_iff_not] at e; omega))
  refine cond_two (fun e => no (no3 (by simp only [Bool.not_eq_true', decide_eq_false_iff_not] at e; omega))) fun e => ?_
  simp only [Bool.not_eq_false', decide_eq_true_eq] at *
  have hm : mayLn (lineW w) = true := by rw [hl]; exact mayLn_yes (by omega)
  simp only [readO, readW_yes (by omega) hm, Option.getD_some, hl]
  rfl
noncomputable def ua_5 := ua_4.addSpec 16 readP_sp
theorem ua_5_laws : FLaws Tryz.prog s19 ua_5 := ua_4_laws.addEv s19_laws fun args d h => by
  unfold readP_sp at h
  split at h
  · unfold readP_s at h
    have h1 := congrArg Prod.fst (Option.some.inj h)
    obtain rfl : _ = d := congrArg Prod.snd (Option.some.inj h)
    exact ⟨by simp [D.refs], 60, readP_ok _ h1⟩
  · cases h
def readR_s (w : Int) : Option (Bool × D RC) := some (decide (w < 9223372036854775808), .tup (.acons (.acons (.int .i64 (readO w).offset) (.acons (.int .i64 (readO w).place) (.acons (.int .i64 (readO w).j) (.acons (.int .i64 (readO w).key) (.acons (.int .i64 (readO w).value) .anil))))) (.acons (.bool (readW w).isSome) .anil)))
def readR_sp : List (D RC) → Option (Bool × D RC)
  | [.int .i64 w] => readR_s w
  | _ => none
noncomputable def readR_e (w : Int) := evF s19 ua_5 60 17 [.int .i64 w]
theorem readR_eq (w : Int) : readR_e w = (let Z0 : D RC := D.int .i64 0; let Z1 : DO_ := some (D.tup (D.acons (D.acons Z0 (D.acons Z0 (D.acons Z0 (D.acons Z0 (D.acons Z0 .anil))))) (.acons (D.bool false) .anil))); let Z2 : Int := IntKind.wrap .i64 (Int.fdiv w (8589934592 : Int) - (1 : Int)); let Z3 : Int := bits .i64 (fun (x : Nat) (u v : BitVec x) => u &&& v) (Int.fdiv w (8192 : Int)) (1048575 : Int); let Z4 : Int := bits .i64 (fun (x : Nat) (u v : BitVec x) => u &&& v) (Int.fdiv w (2048 : Int)) (3 : Int); let Z5 : Int := bits .i64 (fun (x : Nat) (u v : BitVec x) => u &&& v) (Int.fdiv w (256 : Int)) (7 : Int); let Z6 : Int := bits .i64 (fun (x : Nat) (u v : BitVec x) => u &&& v) w (255 : Int); bif decide (w < (0 : Int)) then Z1 else bif !mayLn (Line.mk Z2 Z3 Z4 Z5 Z6) then Z1 else some (D.tup (D.acons (D.acons (D.int .i64 Z2) (.acons (D.int .i64 Z3) (.acons (D.int .i64 Z4) (.acons (D.int .i64 Z5) (.acons (D.int .i64 Z6) .anil))))) (.acons (D.bool true) .anil)))) := by kernel_rfl
theorem readR_ok (w : Int) (h : (decide (w < 9223372036854775808)) = true) : readR_e w = some (.tup (.acons (.acons (.int .i64 (readO w).offset) (.acons (.int .i64 (readO w).place) (.acons (.int .i64 (readO w).j) (.acons (.int .i64 (readO w).key) (.acons (.int .i64 (readO w).value) .anil))))) (.acons (.bool (readW w).isSome) .anil))) := by
  (rw [readR_eq]; conv => zeta)
  have h1 := of_decide_eq_true h
  have no : readW w = none → some (D.tup (C := RC) (.acons (.acons (.int .i64 0) (.acons (.int .i64 0) (.acons (.int .i64 0) (.acons (.int .i64 0) (.acons (.int .i64 0) .anil))))) (.acons (.bool false) .anil))) = some (.tup (.acons (.acons (.int .i64 (readO w).offset) (.acons (.int .i64 (readO w).place) (.acons (.int .i64 (readO w).j) (.acons (.int .i64 (readO w).key) (.acons (.int .i64 (readO w).value) .anil))))) (.acons (.bool (readW w).isSome) .anil))) := fun e => by simp only [readO, e]; rfl
  refine cond_two (fun q => no (readW_neg (of_decide_eq_true q))) fun q => ?_
  have q := of_decide_eq_false q
  obtain ⟨a1, a2, a3, a4, a5⟩ := read_and (by omega) h1
  rw [a1, a2, a3, a4, a5]
  cases hm : mayLn (lineW w)
  · exact cond_of rfl (no (readW_no hm))
  refine cond_no rfl ?_
  simp only [readO, readW_yes (by omega) hm]
  rfl
noncomputable def ua_6 := ua_5.addSpec 17 readR_sp
theorem ua_6_laws : FLaws Tryz.prog s19 ua_6 := ua_5_laws.addEv s19_laws fun args d h => by
  unfold readR_sp at h
  split at h
  · unfold readR_s at h
    have h1 := congrArg Prod.fst (Option.some.inj h)
    obtain rfl : _ = d := congrArg Prod.snd (Option.some.inj h)
    exact ⟨by simp [D.refs], 60, readR_ok _ h1⟩
  · cases h
def wakes19_s  : Option (Bool × D RC) := some (true, .bool true)
def wakes19_sp : List (D RC) → Option (Bool × D RC)
  | [] => wakes19_s 
  | _ => none
noncomputable def wakes19_e  := evF s19 ua_6 1000 9 []
theorem wakes19_ok  (h : (true) = true) : wakes19_e  = some (.bool true) := by
  kernel_rfl
noncomputable def ua_7 := ua_6.addSpec 9 wakes19_sp
theorem ua_7_laws : FLaws Tryz.prog s19 ua_7 := ua_6_laws.addEv s19_laws fun args d h => by
  unfold wakes19_sp at h
  split at h
  · unfold wakes19_s at h
    have h1 := congrArg Prod.fst (Option.some.inj h)
    obtain rfl : _ = d := congrArg Prod.snd (Option.some.inj h)
    exact ⟨by simp [D.refs], 1000, wakes19_ok  h1⟩
  · cases h
noncomputable def swords_e (o : Int) (p : Int) (j : Int) (k : Int) (v : Int) (w : Int) := evF s19 ua_7 60 4 [.acons (.int .i64 o) (.acons (.int .i64 p) (.acons (.int .i64 j) (.acons (.int .i64 k) (.acons (.int .i64 v) .anil)))), .int .i64 w]
theorem swords_eq (o : Int) (p : Int) (j : Int) (k : Int) (v : Int) (w : Int) : swords_e o p j k v w = (let Z0 : Bool := decide (w < (9223372036854775808 : Int)); let Z1 : Int := wordO (Line.mk o p j k v); let Z2 : DO_ := some (D.bool false); let Z3 : Int := bif mayLn (Line.mk o p j k v) then (0 : Int) else (2 : Int); let Z4 : Line := readO w; let Z5 : Int := Line.offset Z4; let Z6 : Int := Line.place Z4; let Z7 : Int := Line.key Z4; let Z8 : Int := Line.value Z4; let Z9 : Bool := Option.isSome (readW w); let Z10 : Line := readO Z1; let Z11 : Line := Line.mk Z5 Z6 (Line.j Z4) Z7 Z8; let Z12 : DO_ := bif Z9 then bif (bif mayLn Z11 then (0 : Int) else (2 : Int)) != (0 : Int) then Z2 else bif wordO Z11 != w then Z2 else some (D.bool true) else some (D.bool true); bif Z0 then bif Z0 then bif Z1 != Z1 then Z2 else bif Z3 != Z3 then Z2 else bif !(Z5 == Z5 && (Z6 == Z6 && (Line.j Z4 == Line.j Z4 && (Z7 == Z7 && (Z8 == Z8 && true))))) then Z2 else bif !Z9 == Z9 then Z2 else bif Z3 == (0 : Int) then bif decide (Z1 < (9223372036854775808 : Int)) then bif !Option.isSome (readW Z1) then Z2 else bif !(Line.offset Z10 == o && (Line.place Z10 == p && (Line.j Z10 == j && (Line.key Z10 == k && (Line.value Z10 == v && true))))) then Z2 else Z12 else none else Z12 else none else none) := by kernel_rfl
theorem swords_ok (o : Int) (p : Int) (j : Int) (k : Int) (v : Int) (w : Int) (h : (decide (w < 9223372036854775808)) = true) : swords_e o p j k v w = some (.bool true) := by
  (rw [swords_eq]; conv => zeta)
  have side : ∀ hr : readW w = none ∨ ∃ a b c d e, readW w = some ⟨a, b, c, d, e⟩ ∧ mayLn ⟨a, b, c, d, e⟩ = true ∧ wordO ⟨a, b, c, d, e⟩ = w, (bif (readW w).isSome then (bif (bif mayLn ⟨(readO w).offset, (readO w).place, (readO w).j, (readO w).key, (readO w).value⟩ then (0 : Int) else 2) != 0 then some (D.bool (C := RC) false) else (bif wordO ⟨(readO w).offset, (readO w).place, (readO w).j, (readO w).key, (readO w).value⟩ != w then some (D.bool false) else some (D.bool true))) else some (D.bool true)) = some (D.bool true) := by
    rintro (hr | ⟨a, b, c, d, e, hr, h1, h2⟩)
    · rw [hr]; rfl
    · simp only [hr, readO, Option.getD_some, h1, h2, Option.isSome_some, cond_true, bne_self_eq_false, cond_false]
  have hr : readW w = none ∨ ∃ a b c d e, readW w = some ⟨a, b, c, d, e⟩ ∧ mayLn ⟨a, b, c, d, e⟩ = true ∧ wordO ⟨a, b, c, d, e⟩ = w := by
    cases q : readW w with
    | none => exact .inl rfl
    | some l =>
      obtain ⟨a, b, c, d, e⟩ := l
      obtain ⟨h1, h2, _⟩ := readW_some q
      exact .inr ⟨a, b, c, d, e, rfl, h1, by rw [wordO, h1, cond_true]; exact h2⟩
  have side := side hr
  simp only [h, cond_true, bne_self_eq_false, beq_self_eq_true, Bool.and_self, Bool.not_true, cond_false]
  cases hm : mayLn ⟨o, p, j, k, v⟩
  · exact side
  · have w1 : wordO ⟨o, p, j, k, v⟩ = wordL ⟨o, p, j, k, v⟩ := by rw [wordO, hm, cond_true]
    have w2 := readW_wordL hm
    have w3 := (lineW_wordL hm).2.2
    simp only [w1, readO, w2, Option.getD_some, Option.isSome_some, decide_eq_true w3, cond_true, cond_false, beq_self_eq_true, Bool.and_self, Bool.not_true]
    exact side
open Go.ChangeShapes Go.WideShapes Go.RowKit
section
variable {C : Cdc}
def good (gA : (t : C.Ty) → C.A t → Prop) : D C → Prop
  | .int k n => k.min ≤ n ∧ n ≤ k.max
  | .str s => s.length ≤ maxLen
  | .acons d ds => good gA d ∧ good gA ds
  | .arr t n l => l.length = n ∧ ∀ x ∈ l, gA t x
  | .sl t _ l => l.length ≤ maxLen ∧ ∀ x ∈ l, gA t x
  | _ => True
def plainT (T : Tab C) : Nat → TypeId → Bool
  | 0, _ => false
  | k + 1, t => match T.ty t with
    | .bool | .int _ | .str => true
    | .struct _ fs => fs.all (plainT T k)
    | .arr _ e _ => plainT T k e
    | .sl e _ => plainT T k e
    | _ => false
structure Dec (T : Tab C) (gA : (t : C.Ty) → C.A t → Prop) : Prop where
  dec : ∀ t d, fit T d (.inl (T.ety t)) = true → d.refs = [] → good gA d → (∃ k u, T.ty u = T.ty (T.ety t) ∧ plainT T k u = true) → ∃ x, T.dec t d = some x ∧ gA t x
variable {P : Program} {T : Tab C} {gA : (t : C.Ty) → C.A t → Prop}
def X0 (W : World) : Cx := ⟨W, fun _ => none, fun _ _ => False⟩
theorem X0_free (W : World) (b o : Nat) : (X0 W).free b o := ⟨fun h => h, fun ⟨_, _, h, _⟩ => by simp [X0] at h⟩
theorem arr_R {X : Cx} (t : C.Ty) (sz : Nat) : ∀ (n : Nat) (cs : List Value), cs.length = n * sz → (∀ i, i < n → ∃ x : C.A t, R T X false (T.enc t x) ((cs.drop (i * sz)).take sz) ∧ gA t x) →
    ∃ l : List (C.A t), R T X false (.arr t n l) cs ∧ l.length = n ∧ ∀ x ∈ l, gA t x
  | 0, cs, hl, _ => by
    obtain rfl : cs = [] := by simpa using hl
    exact ⟨[], .arr0 _, rfl, by simp⟩
  | n + 1, cs, hl, h => by
    obtain ⟨x, hx, gx⟩ := h 0 (by omega)
    obtain ⟨l, hr, hn, gl⟩ := arr_R t sz n (cs.drop sz) (by rw [List.length_drop, hl, Nat.succ_mul]; omega) fun i hi => by
      obtain ⟨y, hy, gy⟩ := h (i + 1) (by omega)
      refine ⟨y, ?_, gy⟩
      rw [List.drop_drop]
      rw [show sz + i * sz = (i + 1) * sz by rw [Nat.succ_mul]; omega]
      exact hy
    refine ⟨x :: l, ?_, by simp [hn], by simpa using ⟨gx, gl⟩⟩
    have := R.arrS hx hr
    simpa using this
theorem sl_R {W : World} (t : C.Ty) (b sz : Nat) : ∀ (n off : Nat), (∀ i, i < n → ∃ (x : C.A t) (ci : List Value), R T (X0 W) false (T.enc t x) ci ∧ ci.length = sz ∧ (∀ j, j < sz → W.cell? ⟨b, off + i * sz + j, none⟩ = ci[j]?) ∧ gA t x) →
    ∃ (l : List (C.A t)) (cs : List Value), R T (X0 W) false (.arr t n l) cs ∧ l.length = n ∧ (X0 W).at b off cs ∧ ∀ x ∈ l, gA t x
  | 0, off, _ => ⟨[], [], .arr0 _, rfl, fun j v h => by simp at h, by simp⟩
  | n + 1, off, h => by
    obtain ⟨x, ci, hx, hlen, hc, gx⟩ := h 0 (by omega)
    obtain ⟨l, cs, hr, hn, hat, gl⟩ := sl_R t b sz n (off + sz) fun i hi => by
      obtain ⟨y, c2, hy, h2, h3, gy⟩ := h (i + 1) (by omega)
      refine ⟨y, c2, hy, h2, fun j hj => ?_, gy⟩
      have := h3 j hj
      rwa [show off + (i + 1) * sz + j = off + sz + i * sz + j by rw [Nat.succ_mul]; omega] at this
    refine ⟨x :: l, ci ++ cs, .arrS hx hr, by simp [hn], fun j v hj => ⟨?_, X0_free _ _ _⟩, by simpa using ⟨gx, gl⟩⟩
    by_cases hlt : j < ci.length
    · rw [List.getElem?_append_left hlt] at hj
      have := hc j (by omega)
      simp only [Nat.zero_mul, Nat.add_zero] at this
      exact this.trans hj
    · rw [List.getElem?_append_right (by omega)] at hj
      have := (hat _ _ hj).1
      rwa [show off + sz + (j - ci.length) = off + j by omega] at this
theorem st_R {X : Cx} : ∀ (fs : List TypeId) (cs : List Value), (∀ i f, fs[i]? = some f → ∃ d, R T X false d ((cs.drop (sumSz T (fs.take i))).take (T.size f)) ∧ fit T d (.inl f) = true ∧ good gA d ∧ d.refs = []) →
    ∃ d, R T X false d (cs.take (sumSz T fs)) ∧ fit T d (.inr fs) = true ∧ good gA d ∧ d.refs = [] ∧ d.isRow = true ∧ (∀ t a, T.ty t = .struct a fs → fit T d (.inl t) = true)
  | [], cs, _ => ⟨.anil, by simpa [sumSz] using R.anil, rfl, trivial, rfl, rfl, fun t a ht => by simp [fit, ht]⟩
  | f :: fs, cs, h => by
    obtain ⟨d, hd, fd, gd, rd⟩ := h 0 f rfl
    obtain ⟨ds, hr, fr, gr, rr, _, _⟩ := st_R fs (cs.drop (T.size f)) fun i g hg => by
      obtain ⟨e, he, h2⟩ := h (i + 1) g (by simpa using hg)
      refine ⟨e, ?_, h2⟩
      simpa [sumSz, List.drop_drop] using he
    refine ⟨.acons d ds, ?_, by simp [fit, fd, fr], ⟨gd, gr⟩, by simp [D.refs, rd, rr], rfl, fun t a ht => by simp [fit, ht, fd, fr]⟩
    have := R.acons hd hr
    simpa [sumSz, List.take_add] using this
theorem cellsOf_info {t : TypeId} {i : TypeInfo} (h : P.info? t = some i) : P.cellsOf t = i.size := by
  simp [Program.cellsOf, h]
theorem trod_R (K : PLaws P T) (hd : Dec T gA) {H : Type} {enc : TypeId × Value → H} {W : World} : ∀ (k : Nat) (t : TypeId), plainT T k t = true → ∀ (fuel : Nat) (cs : List Value) (x : DataW H × List MemPlace), DataW.trod enc P W 0 (fun _ => true) true fuel t cs = some x →
    ∃ d, R T (X0 W) false d cs ∧ fit T d (.inl t) = true ∧ good gA d ∧ d.refs = [] := by
  intro k
  induction k with
  | zero => intro t h; simp [plainT] at h
  | succ k ih =>
    intro t hp fuel cs x h
    unfold plainT at hp
    split at hp
    · rename_i ht
      obtain ⟨b, rfl, _⟩ := DataW.trod_bool (K.uBool t ht) h
      exact ⟨.bool b, .bool b, by simp [fit, ht], trivial, rfl⟩
    · rename_i kd ht
      obtain ⟨n, rfl, _, hw⟩ := DataW.trod_int (K.uInt t kd ht) h
      have hw' : kd.min ≤ n ∧ n ≤ kd.max := by simpa [Lit.wf] using hw
      exact ⟨.int kd n, .int hw', by simp [fit, ht], hw', rfl⟩
    · rename_i ht
      obtain ⟨s, rfl, _, hs⟩ := DataW.trod_string (K.uStr t ht) h
      exact ⟨.str s.data.toList, .str s.data.toList, by simp [fit, ht], by simpa [good] using hs, rfl⟩
    · rename_i isA fs ht
      cases isA with
      | true =>
        obtain ⟨el, hu, hfs, hpos, inf, hi1, hi2⟩ := K.uRow t fs ht
        obtain ⟨xs, m, _, _, hlen, hxs, hel⟩ := DataW.trod_array hu h
        have hget : ∀ i f, fs[i]? = some f → f = el ∧ i < fs.length := fun i f hf => by
          have := (List.getElem?_eq_some_iff.1 hf).1
          rw [hfs, List.getElem?_replicate] at hf
          simp at hf
          exact ⟨hf.2.symm, this⟩
        have hsum : ∀ i, i ≤ fs.length → sumSz T (fs.take i) = i * T.size el := by
          intro i hi
          rw [hfs, List.take_replicate, Nat.min_eq_left hi]
          clear hi
          induction i with
          | zero => simp [sumSz]
          | succ i ih => simp only [List.replicate_succ, sumSz, ih]; rw [Nat.succ_mul]; omega
        obtain ⟨d, hr, _, gd, rd, _, hfit⟩ := st_R (T := T) (X := X0 W) (gA := gA) fs cs fun i f hf => by
          obtain ⟨rfl, hi⟩ := hget i f hf
          have := hel i hi
          rw [cellsOf_info hi1, hi2] at this
          have hx : xs[i]? = some xs[i] := by simp [hxs, hi]
          rw [hx] at this
          obtain ⟨d, h1, h2, h3, h4⟩ := ih f (List.all_eq_true.1 hp _ (List.mem_of_getElem? hf)) m _ _ this
          refine ⟨d, ?_, h2, h3, h4⟩
          rw [hsum i (by omega)]; exact h1
        obtain ⟨inf, hi1, hi2⟩ := K.info t d (hfit t _ ht)
        rw [cellsOf_info hi1, hi2, K.base.szStruct t _ fs ht] at hlen
        rw [← hlen, List.take_length] at hr
        exact ⟨d, hr, hfit t _ ht, gd, rd⟩
      | false =>
        obtain ⟨fields, hu, hfs, hoff, _⟩ := K.uStruct t fs ht
        obtain ⟨xs, n, _, _, hlen, hxs, hel⟩ := DataW.trod_struct hu h
        obtain ⟨d, hr, _, gd, rd, _, hfit⟩ := st_R (T := T) (X := X0 W) (gA := gA) fs cs fun i f hf => by
          rw [← hfs, List.getElem?_map] at hf
          cases hfi : fields.toList[i]? with
          | none => simp [hfi] at hf
          | some fld =>
            simp only [hfi, Option.map_some, Option.some.injEq] at hf
            have hfa : fields[i]? = some fld := by rw [← Array.getElem?_toList]; exact hfi
            have := hel i fld hfa
            have hx : ∃ y, xs[i]? = some y := by
              have : i < fields.size := (Array.getElem?_eq_some_iff.1 hfa).1
              exact ⟨xs[i], by simp [hxs, this]⟩
            obtain ⟨y, hy⟩ := hx
            rw [hy] at this
            subst hf
            have hmem : fld.type ∈ fs := by rw [← hfs]; exact List.mem_map.2 ⟨fld, by exact List.mem_of_getElem? hfi, rfl⟩
            obtain ⟨d, h1, h2, h3, h4⟩ := ih fld.type (List.all_eq_true.1 hp _ hmem) n _ _ this
            obtain ⟨inf, hi1, hi2, _⟩ := K.uField t fs fld.type ht hmem
            refine ⟨d, ?_, h2, h3, h4⟩
            rw [hoff i fld hfa, cellsOf_info hi1, hi2] at h1
            exact h1
        obtain ⟨inf, hi1, hi2⟩ := K.info t d (hfit t _ ht)
        rw [cellsOf_info hi1, hi2, K.base.szStruct t _ fs ht] at hlen
        rw [← hlen, List.take_length] at hr
        exact ⟨d, hr, hfit t _ ht, gd, rd⟩
    · rename_i n e ct ht
      obtain ⟨hu, _⟩ := K.uArr t n e ct ht
      obtain ⟨xs, m, _, _, hlen, hxs, hel⟩ := DataW.trod_array hu h
      obtain ⟨inf, z, hi1, hi2, _⟩ := K.uElem t e ct (.inl ⟨n, ht⟩)
      obtain ⟨it, hj1, hj2⟩ := K.info t (.arr ct n []) (by simp [fit, ht])
      obtain ⟨hs1, hs2, hs3⟩ := K.base.szArr t n e ct ht
      rw [cellsOf_info hj1, hj2, hs1] at hlen
      obtain ⟨l, hr, hn, gl⟩ := arr_R (T := T) (X := X0 W) (gA := gA) ct (T.size e) n cs hlen fun i hi => by
        have := hel i hi
        rw [cellsOf_info hi1, hi2] at this
        have hx : xs[i]? = some xs[i] := by simp [hxs, hi]
        rw [hx] at this
        obtain ⟨d, h1, h2, h3, h4⟩ := ih e hp m _ _ this
        obtain ⟨x, h5, h6⟩ := hd.dec ct d (by rw [← fit_congr hs2]; exact h2) h4 h3 ⟨k, e, hs2, hp⟩
        exact ⟨x, K.base.decR _ _ _ _ _ h5 h1, h6⟩
      exact ⟨.arr ct n l, hr, by simp [fit, ht], ⟨hn, gl⟩, rfl⟩
    · rename_i e ct ht
      have hu := K.uSl t e ct ht
      obtain ⟨inf, z, hi1, hi2, _, _, hpos, _⟩ := K.uElem t e ct (.inr ht)
      obtain ⟨hs1, hs2, hs3⟩ := K.base.szSl t e ct ht
      rcases DataW.trod_slice hu h with ⟨rfl, _⟩ | ⟨a, len, cap, elems, rest, m, _, rfl, _, _, hlc, hcm, hel, he, hrest, _⟩
      · exact ⟨.sl ct false [], .sl0 _ _ _, by simp [fit, ht], by simp [good], rfl⟩
      · by_cases hc0 : cap = 0
        · subst hc0
          obtain rfl : len = 0 := by omega
          exact ⟨.sl ct false [], .sl0 _ _ _, by simp [fit, ht], by simp [good], rfl⟩
        · have hspot : a.spot = none := by
            have key : ∀ i y, i = 0 → (W.cells? 0 (a.add (i * P.cellsOf e)) (P.cellsOf e)).bind (DataW.trod enc P W 0 (fun _ => true) true m e) = some y → a.spot = none := by
              intro i y hi0 hy
              subst hi0
              rw [cellsOf_info hi1, hi2] at hy
              cases hcs : W.cells? 0 (a.add (0 * T.size e)) (T.size e) with
              | none => rw [hcs] at hy; cases hy
              | some ci =>
                obtain ⟨_, h2, h3⟩ := World.cells?_some hcs
                have h4 := h3 0 hpos
                have h5 : ci[0]? = some ci[0] := by simp
                rw [h5] at h4
                have := World.cell?_spot h4
                simpa [Addr.add] using this
            by_cases hl0 : 0 < len
            · have := he 0 hl0
              have hx : elems[0]? = some elems[0] := by simp
              exact key 0 _ rfl (this.trans hx)
            · have hr2 := hrest rfl
              have := hr2.2 0 (by omega)
              have h0 : 0 < rest.length := by omega
              have hx : rest[0]? = some rest[0] := by simp
              exact key _ _ (by omega) (this.trans hx)
          obtain ⟨b, off, sp⟩ := a
          simp only at hspot
          subst hspot
          obtain ⟨l, cs, hr, hn, hat, gl⟩ := sl_R (T := T) (W := W) (gA := gA) ct b (T.size e) len off fun i hi => by
            have := he i hi
            have hx : elems[i]? = some elems[i] := by simp [hel, hi]
            rw [hx, cellsOf_info hi1, hi2] at this
            cases hcs : W.cells? 0 ((⟨b, off, none⟩ : Addr).add (i * T.size e)) (T.size e) with
            | none => simp [hcs] at this
            | some ci =>
              simp only [hcs, Option.bind_some] at this
              obtain ⟨_, h2, h3⟩ := World.cells?_some hcs
              obtain ⟨d, k1, k2, k3, k4⟩ := ih e hp m _ _ this
              obtain ⟨x, k5, k6⟩ := hd.dec ct d (by rw [← fit_congr hs2]; exact k2) k4 k3 ⟨k, e, hs2, hp⟩
              refine ⟨x, ci, K.base.decR _ _ _ _ _ k5 k1, h2, fun j hj => ?_, k6⟩
              have := h3 j hj
              rwa [add_plain, add_plain] at this
          subst hn
          exact ⟨.sl ct false l, .sl hat hr hlc (by simp), by simp [fit, ht], ⟨by omega, gl⟩, rfl⟩
    · cases hp
theorem okWide_row (K : PLaws P T) {W : World} {r : Reach} {base : Nat} {t : TypeId} {v : Value} {d : D C} (hv : Value.okWide P W r base t v) (hp : ∃ k, plainT T k t = true) (hf : fit T d (.inl t) = true) (hr : R T (X0 W) false d v.cells.toList) (hrf : d.refs = []) : RV T (X0 W) d v := by
  obtain ⟨k, hp⟩ := hp
  cases k with
  | zero => simp [plainT] at hp
  | succ k =>
    unfold plainT at hp
    split at hp
    · rename_i ht
      obtain ⟨b, rfl⟩ := okWide_bool (K.uBool t ht) hv
      refine .inr ⟨?_, by simpa [Value.cells] using hr⟩
      cases d <;> simp [fit, ht] at hf <;> rfl
    · rename_i kd ht
      obtain ⟨b, rfl⟩ := okWide_int (K.uInt t kd ht) hv
      refine .inr ⟨?_, by simpa [Value.cells] using hr⟩
      cases d <;> simp [fit, ht] at hf <;> rfl
    · rename_i ht
      obtain ⟨b, rfl⟩ := okWide_string (K.uStr t ht) hv
      refine .inr ⟨?_, by simpa [Value.cells] using hr⟩
      cases d <;> simp [fit, ht] at hf <;> rfl
    · rename_i isA fs ht
      have : ∃ cs, v = .agg cs := by
        cases isA with
        | false =>
          obtain ⟨fields, hu, _⟩ := K.uStruct t fs ht
          obtain ⟨cs, rfl, _⟩ := okWide_struct hu hv
          exact ⟨cs, rfl⟩
        | true =>
          obtain ⟨el, hu, _⟩ := K.uRow t fs ht
          simp only [Value.okWide, hu] at hv
          obtain ⟨cs, rfl, _⟩ := hv
          exact ⟨cs, rfl⟩
      obtain ⟨cs, rfl⟩ := this
      refine .inl ⟨?_, cs.toList, by simpa [Value.cells] using hr, rfl⟩
      cases d <;> simp [fit, ht] at hf <;> rfl
    · rename_i n e ct ht
      obtain ⟨hu, _⟩ := K.uArr t n e ct ht
      have : ∃ cs, v = .agg cs := by
        simp only [Value.okWide, hu] at hv
        obtain ⟨cs, rfl, _⟩ := hv
        exact ⟨cs, rfl⟩
      obtain ⟨cs, rfl⟩ := this
      refine .inl ⟨?_, cs.toList, by simpa [Value.cells] using hr, rfl⟩
      cases d <;> simp [fit, ht] at hf <;> rfl
    · rename_i e ct ht
      obtain ⟨a, len, cap, rfl⟩ := okWide_slice (K.uSl t e ct ht) hv
      refine .inr ⟨?_, by simpa [Value.cells] using hr⟩
      cases d <;> simp [fit, ht] at hf <;> rfl
    · cases hp
inductive Fits (T : Tab C) (gA : (t : C.Ty) → C.A t → Prop) : List TypeId → List (D C) → Prop
  | nil : Fits T gA [] []
  | cons {t : TypeId} {ts : List TypeId} {d : D C} {ds : List (D C)} (hf : fit T d (.inl t) = true) (hg : good gA d) (hr : d.refs = []) (h : Fits T gA ts ds) : Fits T gA (t :: ts) (d :: ds)
theorem Fits.refs {ts : List TypeId} {ds : List (D C)} (h : Fits T gA ts ds) : ∀ a ∈ ds, D.refs a = [] := by
  induction h with
  | nil => simp
  | cons _ _ hr _ ih => simpa using ⟨hr, ih⟩
theorem trodAll_R (K : PLaws P T) (hd : Dec T gA) {H : Type} {enc : TypeId × Value → H} {W : World} {r : Reach} {base : Nat} : ∀ (ts : List TypeId) (vs : List Value) (ds : List (DataW H)) (ps : List MemPlace), (∀ t ∈ ts, ∃ k, plainT T k t = true) →
    (∀ (j : Nat) t v, ts[j]? = some t → vs[j]? = some v → Value.okWide P W r base t v) → DataW.TrodAll enc P W 0 (fun _ => true) true ts vs ds ps → ∃ al, Fits T gA ts al ∧ RVs T (X0 W) al vs
  | [], vs, ds, ps, _, _, h => by
    obtain ⟨rfl, rfl, rfl⟩ := trodAll_nil h
    exact ⟨[], .nil, .nil⟩
  | t :: ts, vs, ds, ps, hp, hv, h => by
    obtain ⟨v, vs1, d, ds1, p, q, rfl, rfl, rfl, ⟨fuel, h1⟩, h2⟩ := trodAll_cons h
    obtain ⟨al, f1, r1⟩ := trodAll_R K hd ts vs1 ds1 q (fun t ht => hp t (by simp [ht])) (fun j t v a b => hv (j + 1) t v (by simpa using a) (by simpa using b)) h2
    obtain ⟨k, hk⟩ := hp t (by simp)
    obtain ⟨a, k1, k2, k3, k4⟩ := trod_R K hd k t hk fuel _ _ h1
    exact ⟨a :: al, .cons k2 k3 k4 f1, .cons (okWide_row K (hv 0 t v rfl rfl) ⟨k, hk⟩ k2 k1 k4) r1⟩
theorem stays (hl : laidOutB P = true) {H : Type} {enc : TypeId × Value → H} {W W' : World} {sp : Nat → Bool} : ∀ (ts : List TypeId) (vs : List Value) (ds : List (DataW H)) (ps : List MemPlace), (∀ t ∈ ts, P.readableRec t = true ∧ t < P.types.size) →
    DataW.TrodAll enc P W 0 (fun _ => true) true ts vs ds ps → (∀ p ∈ ps, W.sameAt W' p) → (∀ p ∈ ps, sp p.block = true) → DataW.TrodAll enc P W' 0 sp true ts vs ds ps
  | [], vs, ds, ps, _, h, _, _ => by
    obtain ⟨rfl, rfl, rfl⟩ := trodAll_nil h
    exact trodAll_mk0
  | t :: ts, vs, ds, ps, ht, h, h3, h4 => by
    obtain ⟨v, vs1, d, ds1, p, q, rfl, rfl, rfl, h1, h2⟩ := trodAll_cons h
    exact trodAll_cons_mk (WideElems.Trod_stays hl (ht t (by simp)).1 (ht t (by simp)).2 h1 (fun x hx => h3 x (by simp [hx])) (fun x hx => h4 x (by simp [hx])))
      (stays hl ts vs1 ds1 q (fun t h => ht t (by simp [h])) h2 (fun x hx => h3 x (by simp [hx])) (fun x hx => h4 x (by simp [hx])))
theorem post_same_old {H : Type} {enc : TypeId × Value → H} {f : Func} {s : ChangeSpec} {apart fresh handsOn again : Bool} {W W' : World} {args : Array Value} {v : Value} {ds gs : List (DataW H)} {before pa pv : List MemPlace}
    (hW : DataW.Whole enc P f.params.toList s.vars apart W args.toList ds gs before)
    (hres : ∀ (b : Nat) (sp : Nat → Bool) (hd : Bool), DataW.TrodAll enc P W' b sp hd f.resultTypes.toList (v.resultList f.resultTypes.size) (s.fn H (ds ++ gs)).results [])
    (hargs : ∀ sp : Nat → Bool, (∀ p ∈ before, sp p.block = true) → DataW.TrodAll enc P W' 0 sp true f.params.toList args.toList (s.fn H (ds ++ gs)).args pa)
    (hvars : ∀ sp : Nat → Bool, (∀ p ∈ before, sp p.block = true) → DataW.TrodVars enc P W' sp s.vars (s.fn H (ds ++ gs)).vars pv)
    (hps : before = pa ++ pv) (hk : W.keptBut W' (· ∈ before)) (hfz : ∀ a : Addr, a.block < W.heap.size → W'.frozen? a = W.frozen? a)
    (hok : ∀ (j : Nat) (t : TypeId) (r : Value), f.resultTypes[j]? = some t → (v.resultList f.resultTypes.size)[j]? = some r → Value.okWide P W' .any 0 t r) :
    s.post enc P f apart fresh handsOn again W args v W' := by
  have hold : ∀ p ∈ before, (fun b => decide (b < W.heap.size)) p.block = true := fun p hp => by simpa using hW.lt p hp
  refine ⟨ds, gs, before, [], pa, pv, hW, hres _ _ _, hargs _ hold, hvars _ hold, World.keptBut_mono (fun p hp => ⟨hp, ?_⟩) hk, fun _ => ?_⟩
  · rw [hps, List.mem_append] at hp
    exact Or.inr hp
  · have hlt := hW.lt
    obtain ⟨_, _, _, _, _, hz, hn⟩ := hW
    refine ⟨hok, _, _, ([] ++ pa) ++ pv, ⟨[] ++ pa, pv, trodAll_append (hargs _ (fun _ _ => rfl)) (hres _ _ _), hvars _ (fun _ _ => rfl), rfl, ?_, ?_⟩, ?_⟩
    · intro b off hp
      have hb : MemPlace.cell b off ∈ before := by rw [hps]; simpa using hp
      rw [hfz _ (by simpa [MemPlace.block] using hlt _ hb)]
      exact hz b off hb
    · intro ha
      have := hn ha
      rw [hps] at this
      simpa using this
    · intro p hp _
      rw [hps]
      simpa using hp
theorem contract_of (K : PLaws P T) {Φ : Fns C} (F : FLaws P T Φ) (hd : Dec T gA) (hl : laidOutB P = true) {f : FuncId} {fn : Func} {s : ChangeSpec} {tb : TypeId} {m : Nat}
    (hres : fn.resultTypes = #[tb]) (hb : P.underlying tb = some .bool) (hvars : s.vars = [])
    (hts : fn.params.toList.all (fun t => plainT T m t && P.readableRec t && Nat.blt t P.types.size) = true)
    (hspec : ∀ (H : Type) (ds : List (DataW H)), ds.length = fn.params.toList.length → s.fn H ds = { results := [.lit (.bool true)], args := ds })
    (hev : ∀ ds : List (D C), Fits T gA fn.params.toList ds → ∃ n, evF T Φ n f ds = some (.bool true))
    (H : Type) (enc : TypeId × Value → H) (W : World) (base : Nat) (args : Array Value) (ds gs : List (DataW H)) (before : List MemPlace)
    (hval : ∀ (j : Nat) t v, fn.params[j]? = some t → args[j]? = some v → Value.okWide P W .any base t v)
    (hW : DataW.Whole enc P fn.params.toList s.vars false W args.toList ds gs before) :
    Calls P f args W fun e W' => ∃ v, e = .returned v ∧ s.post enc P fn false true false false W args v W' := by
  have hts' : ∀ t ∈ fn.params.toList, plainT T m t = true ∧ P.readableRec t = true ∧ t < P.types.size := by
    intro t ht
    have := List.all_eq_true.1 hts t ht
    simp only [Bool.and_eq_true] at this
    exact ⟨this.1.1, this.1.2, by simpa [Nat.blt_eq] using this.2⟩
  have hW' := hW
  obtain ⟨p, q, hA, hV, rfl, hfz, hnd⟩ := hW
  rw [hvars] at hV
  obtain ⟨rfl, rfl⟩ := trodVars_none hV
  obtain ⟨al, hf, hr⟩ := trodAll_R (gA := gA) K hd (r := .any) (base := base) _ _ _ _ (fun t ht => ⟨m, (hts' t ht).1⟩) (fun j t v a b => hval j t v (by rw [← Array.getElem?_toList]; exact a) (by rw [← Array.getElem?_toList]; exact b)) hA
  obtain ⟨n, hn⟩ := hev al hf
  have hc := (evF_calls K F hn hf.refs W (fun _ _ => False) (fun _ _ h => h.elim) (vs := args.toList) hr).2
  have ea : (⟨args.toList⟩ : Array Value) = args := by simp
  rw [ea] at hc
  refine hc.mono fun e W' hp => ?_
  obtain ⟨v, ρ, rfl, rv, a1, a2, a3, a4, a5, a6⟩ := hp
  obtain rfl := rv.bool
  have hlen : ds.length = fn.params.toList.length := by
    have : ∀ (ts : List TypeId) (vs : List Value) (ds : List (DataW H)) (ps : List MemPlace), DataW.TrodAll enc P W 0 (fun _ => true) true ts vs ds ps → ds.length = ts.length := by
      intro ts
      induction ts with
      | nil => intro vs ds ps h; obtain ⟨rfl, rfl, rfl⟩ := trodAll_nil h; rfl
      | cons t ts ih =>
        intro vs ds ps h
        obtain ⟨v, vs1, d, ds1, p, q, rfl, rfl, rfl, h1, h2⟩ := trodAll_cons h
        simp [ih _ _ _ h2]
    exact this _ _ _ _ hA
  have hs := hspec H ds hlen
  have hbel : Below W.heap.size W W' := ⟨a3, a4, a5, a1, a2⟩
  have hlt : ∀ x ∈ p, x.block < W.heap.size := fun x hx => by simpa using hW'.lt x (by simpa using hx)
  refine ⟨_, rfl, post_same_old (pa := p) (pv := []) hW' ?_ ?_ ?_ (by simp) (hbel.frame _) a6 ?_⟩
  · intro b sp hd
    simp only [List.append_nil]
    rw [hs, hres]
    exact trodAll_cons_mk (p := []) (p' := []) (shut_bool hb _) trodAll_mk0
  · intro sp hsp
    simp only [List.append_nil] at hsp ⊢
    rw [hs]
    exact stays hl _ _ _ _ (fun t ht => (hts' t ht).2) hA (fun x hx => hbel.same (hlt x hx)) hsp
  · intro sp hsp
    simp only [List.append_nil]
    rw [hs, hvars]
    rfl
  · exact ok_one hres rfl (okWide_bool_mk hb _)
end
def i64 (n : Int) : Prop := -9223372036854775808 ≤ n ∧ n ≤ 9223372036854775807
def inK (k : IntKind) (n : Int) : Prop := k.min ≤ n ∧ n ≤ k.max
theorem i64_of {n : Int} (h : IntKind.i64.min ≤ n ∧ n ≤ IntKind.i64.max) : i64 n := by
  simpa [i64, IntKind.min, IntKind.max, IntKind.signed, IntKind.bits] using h
section
variable {C : Cdc} {T : Tab C} {d : D C} {u : TypeId}
theorem fit_int {k : IntKind} (hu : T.ty u = .int k) (hf : fit T d (.inl u) = true) : ∃ n, d = .int k n := by
  cases d <;> simp [fit, hu] at hf
  subst hf; exact ⟨_, rfl⟩
theorem fit_bool (hu : T.ty u = .bool) (hf : fit T d (.inl u) = true) : ∃ n, d = .bool n := by
  cases d <;> simp [fit, hu] at hf
  exact ⟨_, rfl⟩
theorem fit_str (hu : T.ty u = .str) (hf : fit T d (.inl u) = true) : ∃ n, d = .str n := by
  cases d <;> simp [fit, hu] at hf
  exact ⟨_, rfl⟩
theorem fit_sl {e : TypeId} {t : C.Ty} (hu : T.ty u = .sl e t) (hf : fit T d (.inl u) = true) (hr : d.refs = []) : ∃ c l, d = .sl t c l := by
  cases d <;> simp [fit, hu] at hf
  · subst hf; exact ⟨_, _, rfl⟩
  · simp [D.refs] at hr
  · simp [D.refs] at hr
theorem fit_arr {e : TypeId} {t : C.Ty} {n : Nat} (hu : T.ty u = .arr n e t) (hf : fit T d (.inl u) = true) : ∃ l, d = .arr t n l := by
  cases d <;> simp [fit, hu] at hf
  obtain ⟨h1, h2⟩ := hf
  subst h1; subst h2; exact ⟨_, rfl⟩
theorem fit_st {a : Bool} {f : TypeId} {fs : List TypeId} (hu : T.ty u = .struct a (f :: fs)) (hf : fit T d (.inl u) = true) : ∃ x y, d = .acons x y ∧ fit T x (.inl f) = true ∧ fit T y (.inr fs) = true := by
  cases d <;> simp [fit, hu] at hf
  exact ⟨_, _, rfl, hf.1, hf.2⟩
theorem fit_more {f : TypeId} {fs : List TypeId} (hf : fit T d (.inr (f :: fs)) = true) : ∃ a b, d = .acons a b ∧ fit T a (.inl f) = true ∧ fit T b (.inr fs) = true := by
  cases d <;> simp [fit] at hf
  exact ⟨_, _, rfl, hf.1, hf.2⟩
theorem fit_end (hf : fit T d (.inr []) = true) : d = .anil := by
  cases d <;> simp [fit] at hf
  rfl
end
open Go.Proofs Go.ChangeShapes Go.WideShapes Go.ChangeAt Go.RowKit
def goodWrite (x : Write) : Prop := i64 (x.key) ∧ i64 (x.value)
def goodRec (x : Rec) : Prop := i64 (x.place) ∧ True ∧ ((x.writes).length ≤ maxLen ∧ ∀ y ∈ (x.writes), goodWrite (y))
def goodPick (x : Pick) : Prop := i64 (x.client) ∧ i64 (x.do_) ∧ i64 (x.part) ∧ i64 (x.from_)
def goodLine (x : Line) : Prop := i64 (x.offset) ∧ i64 (x.place) ∧ i64 (x.j) ∧ i64 (x.key) ∧ i64 (x.value)
def goodSector (x : Sector) : Prop := i64 (x.n) ∧ (x.b).length ≤ maxLen
def goodFrame (x : Frame) : Prop := inK .i8 (x.prog) ∧ i64 (x.at') ∧ ((x.r).length = 96 ∧ ∀ y ∈ (x.r), i64 (y))
def goodTask (x : Task) : Prop := i64 (x.client) ∧ ((x.stack).length ≤ maxLen ∧ ∀ y ∈ (x.stack), goodFrame (y)) ∧ ((x.got).length ≤ maxLen ∧ ∀ y ∈ (x.got), i64 (y)) ∧ True
def rGood : (t : RTy) → RA t → Prop
  | .bool => fun (x : Bool) => True
  | .frame => fun (x : Frame) => goodFrame (x)
  | .int => fun (x : Int) => i64 (x)
  | .line => fun (x : Line) => goodLine (x)
  | .pick => fun (x : Pick) => goodPick (x)
  | .recd => fun (x : Rec) => goodRec (x)
  | .sector => fun (x : Sector) => goodSector (x)
  | .task => fun (x : Task) => goodTask (x)
  | .write => fun (x : Write) => goodWrite (x)
theorem ty85 : s19.ty 85 = .struct false [3, 3] := by kernel_rfl
theorem ty3 : s19.ty 3 = .int .i64 := by kernel_rfl
theorem asWrite {d : D RC} (hf : fit s19 d (.inl 85) = true) (hg : good rGood d) (hr : d.refs = []) : ∃ x : Write, d = eWrite x ∧ goodWrite x := by
  obtain ⟨d0, r0, rfl, f0, hf⟩ := fit_st ty85 hf
  obtain ⟨d1, r1, rfl, f1, hf⟩ := fit_more hf
  obtain rfl := fit_end hf
  simp only [D.refs, List.append_eq_nil_iff] at hr
  obtain ⟨g0, g1, _⟩ := hg
  obtain ⟨q0, q1, _⟩ := hr
  obtain ⟨n0, rfl⟩ := fit_int ty3 f0
  obtain ⟨n1, rfl⟩ := fit_int ty3 f1
  exact ⟨⟨n0, n1⟩, rfl, i64_of g0, i64_of g1⟩
theorem dWrite_e (x : Write) (hx : goodWrite x) : dWrite (eWrite x) = some x := by
  simp only [goodWrite] at hx
  simp [dWrite, eWrite, D.asList, asArrN, hx]
theorem ty68 : s19.ty 68 = .struct false [3, 4, 66] := by kernel_rfl
theorem ty4 : s19.ty 4 = .bool := by kernel_rfl
theorem ty66 : s19.ty 66 = .sl 85 .write := by kernel_rfl
theorem asRec {d : D RC} (hf : fit s19 d (.inl 68) = true) (hg : good rGood d) (hr : d.refs = []) : ∃ (x : Rec) (c0 : Bool), d = eRecC x c0 ∧ goodRec x := by
  obtain ⟨d0, r0, rfl, f0, hf⟩ := fit_st ty68 hf
  obtain ⟨d1, r1, rfl, f1, hf⟩ := fit_more hf
  obtain ⟨d2, r2, rfl, f2, hf⟩ := fit_more hf
  obtain rfl := fit_end hf
  simp only [D.refs, List.append_eq_nil_iff] at hr
  obtain ⟨g0, g1, g2, _⟩ := hg
  obtain ⟨q0, q1, q2, _⟩ := hr
  obtain ⟨n0, rfl⟩ := fit_int ty3 f0
  obtain ⟨n1, rfl⟩ := fit_bool ty4 f1
  obtain ⟨k2, n2, rfl⟩ := fit_sl ty66 f2 q2
  exact ⟨⟨n0, n1, n2⟩, k2, rfl, i64_of g0, trivial, g2⟩
theorem dRec_e (x : Rec) (c0 : Bool) (hx : goodRec x) : dRec (eRecC x c0) = some x := by
  simp only [goodRec] at hx
  simp [dRec, eRecC, D.asList, asArrN, hx]
theorem ty35 : s19.ty 35 = .struct false [3, 3, 3, 3] := by kernel_rfl
theorem asPick {d : D RC} (hf : fit s19 d (.inl 35) = true) (hg : good rGood d) (hr : d.refs = []) : ∃ x : Pick, d = ePick x ∧ goodPick x := by
  obtain ⟨d0, r0, rfl, f0, hf⟩ := fit_st ty35 hf
  obtain ⟨d1, r1, rfl, f1, hf⟩ := fit_more hf
  obtain ⟨d2, r2, rfl, f2, hf⟩ := fit_more hf
  obtain ⟨d3, r3, rfl, f3, hf⟩ := fit_more hf
  obtain rfl := fit_end hf
  simp only [D.refs, List.append_eq_nil_iff] at hr
  obtain ⟨g0, g1, g2, g3, _⟩ := hg
  obtain ⟨q0, q1, q2, q3, _⟩ := hr
  obtain ⟨n0, rfl⟩ := fit_int ty3 f0
  obtain ⟨n1, rfl⟩ := fit_int ty3 f1
  obtain ⟨n2, rfl⟩ := fit_int ty3 f2
  obtain ⟨n3, rfl⟩ := fit_int ty3 f3
  exact ⟨⟨n0, n1, n2, n3⟩, rfl, i64_of g0, i64_of g1, i64_of g2, i64_of g3⟩
theorem dPick_e (x : Pick) (hx : goodPick x) : dPick (ePick x) = some x := by
  simp only [goodPick] at hx
  simp [dPick, ePick, D.asList, asArrN, hx]
theorem ty55 : s19.ty 55 = .struct false [3, 3, 3, 3, 3] := by kernel_rfl
theorem asLine {d : D RC} (hf : fit s19 d (.inl 55) = true) (hg : good rGood d) (hr : d.refs = []) : ∃ x : Line, d = eLine x ∧ goodLine x := by
  obtain ⟨d0, r0, rfl, f0, hf⟩ := fit_st ty55 hf
  obtain ⟨d1, r1, rfl, f1, hf⟩ := fit_more hf
  obtain ⟨d2, r2, rfl, f2, hf⟩ := fit_more hf
  obtain ⟨d3, r3, rfl, f3, hf⟩ := fit_more hf
  obtain ⟨d4, r4, rfl, f4, hf⟩ := fit_more hf
  obtain rfl := fit_end hf
  simp only [D.refs, List.append_eq_nil_iff] at hr
  obtain ⟨g0, g1, g2, g3, g4, _⟩ := hg
  obtain ⟨q0, q1, q2, q3, q4, _⟩ := hr
  obtain ⟨n0, rfl⟩ := fit_int ty3 f0
  obtain ⟨n1, rfl⟩ := fit_int ty3 f1
  obtain ⟨n2, rfl⟩ := fit_int ty3 f2
  obtain ⟨n3, rfl⟩ := fit_int ty3 f3
  obtain ⟨n4, rfl⟩ := fit_int ty3 f4
  exact ⟨⟨n0, n1, n2, n3, n4⟩, rfl, i64_of g0, i64_of g1, i64_of g2, i64_of g3, i64_of g4⟩
theorem dLine_e (x : Line) (hx : goodLine x) : dLine (eLine x) = some x := by
  simp only [goodLine] at hx
  simp [dLine, eLine, D.asList, asArrN, hx]
theorem ty151 : s19.ty 151 = .struct false [3, 9] := by kernel_rfl
theorem ty9 : s19.ty 9 = .str := by kernel_rfl
theorem asSector {d : D RC} (hf : fit s19 d (.inl 151) = true) (hg : good rGood d) (hr : d.refs = []) : ∃ x : Sector, d = eSector x ∧ goodSector x := by
  obtain ⟨d0, r0, rfl, f0, hf⟩ := fit_st ty151 hf
  obtain ⟨d1, r1, rfl, f1, hf⟩ := fit_more hf
  obtain rfl := fit_end hf
  simp only [D.refs, List.append_eq_nil_iff] at hr
  obtain ⟨g0, g1, _⟩ := hg
  obtain ⟨q0, q1, _⟩ := hr
  obtain ⟨n0, rfl⟩ := fit_int ty3 f0
  obtain ⟨n1, rfl⟩ := fit_str ty9 f1
  exact ⟨⟨n0, n1⟩, rfl, i64_of g0, g1⟩
theorem dSector_e (x : Sector) (hx : goodSector x) : dSector (eSector x) = some x := by
  simp only [goodSector] at hx
  simp [dSector, eSector, D.asList, asArrN, hx]
theorem ty73 : s19.ty 73 = .struct false [70, 3, 71] := by kernel_rfl
theorem ty70 : s19.ty 70 = .int .i8 := by kernel_rfl
theorem ty71 : s19.ty 71 = .arr 96 3 .int := by kernel_rfl
theorem asFrame {d : D RC} (hf : fit s19 d (.inl 73) = true) (hg : good rGood d) (hr : d.refs = []) : ∃ x : Frame, d = eFrame x ∧ goodFrame x := by
  obtain ⟨d0, r0, rfl, f0, hf⟩ := fit_st ty73 hf
  obtain ⟨d1, r1, rfl, f1, hf⟩ := fit_more hf
  obtain ⟨d2, r2, rfl, f2, hf⟩ := fit_more hf
  obtain rfl := fit_end hf
  simp only [D.refs, List.append_eq_nil_iff] at hr
  obtain ⟨g0, g1, g2, _⟩ := hg
  obtain ⟨q0, q1, q2, _⟩ := hr
  obtain ⟨n0, rfl⟩ := fit_int ty70 f0
  obtain ⟨n1, rfl⟩ := fit_int ty3 f1
  obtain ⟨n2, rfl⟩ := fit_arr ty71 f2
  exact ⟨⟨n0, n1, n2⟩, rfl, g0, i64_of g1, g2⟩
theorem dFrame_e (x : Frame) (hx : goodFrame x) : dFrame (eFrame x) = some x := by
  simp only [goodFrame] at hx
  simp [dFrame, eFrame, D.asList, asArrN, hx]
theorem ty48 : s19.ty 48 = .struct false [3, 46, 36, 4] := by kernel_rfl
theorem ty46 : s19.ty 46 = .sl 73 .frame := by kernel_rfl
theorem ty36 : s19.ty 36 = .sl 3 .int := by kernel_rfl
theorem asTask {d : D RC} (hf : fit s19 d (.inl 48) = true) (hg : good rGood d) (hr : d.refs = []) : ∃ (x : Task) (c0 c1 : Bool), d = eTaskC x c0 c1 ∧ goodTask x := by
  obtain ⟨d0, r0, rfl, f0, hf⟩ := fit_st ty48 hf
  obtain ⟨d1, r1, rfl, f1, hf⟩ := fit_more hf
  obtain ⟨d2, r2, rfl, f2, hf⟩ := fit_more hf
  obtain ⟨d3, r3, rfl, f3, hf⟩ := fit_more hf
  obtain rfl := fit_end hf
  simp only [D.refs, List.append_eq_nil_iff] at hr
  obtain ⟨g0, g1, g2, g3, _⟩ := hg
  obtain ⟨q0, q1, q2, q3, _⟩ := hr
  obtain ⟨n0, rfl⟩ := fit_int ty3 f0
  obtain ⟨k1, n1, rfl⟩ := fit_sl ty46 f1 q1
  obtain ⟨k2, n2, rfl⟩ := fit_sl ty36 f2 q2
  obtain ⟨n3, rfl⟩ := fit_bool ty4 f3
  exact ⟨⟨n0, n1, n2, n3⟩, k1, k2, rfl, i64_of g0, g1, g2, trivial⟩
theorem dTask_e (x : Task) (c0 c1 : Bool) (hx : goodTask x) : dTask (eTaskC x c0 c1) = some x := by
  simp only [goodTask] at hx
  simp [dTask, eTaskC, D.asList, asArrN, hx]
theorem decs : Dec s19 rGood where
  dec t d hf hr hg _ := by
    cases t with
    | bool =>
      obtain ⟨n, rfl⟩ := fit_bool ty4 hf
      exact ⟨n, rfl, trivial⟩
    | frame =>
      obtain ⟨x, rfl, hx⟩ := asFrame hf hg hr
      exact ⟨x, dFrame_e x hx, hx⟩
    | int =>
      obtain ⟨n, rfl⟩ := fit_int ty3 hf
      exact ⟨n, by simp [s19, mkTab, rCod, rDec, dIntK], i64_of hg⟩
    | line =>
      obtain ⟨x, rfl, hx⟩ := asLine hf hg hr
      exact ⟨x, dLine_e x hx, hx⟩
    | pick =>
      obtain ⟨x, rfl, hx⟩ := asPick hf hg hr
      exact ⟨x, dPick_e x hx, hx⟩
    | recd =>
      obtain ⟨x, c0, rfl, hx⟩ := asRec hf hg hr
      exact ⟨x, dRec_e x c0 hx, hx⟩
    | sector =>
      obtain ⟨x, rfl, hx⟩ := asSector hf hg hr
      exact ⟨x, dSector_e x hx, hx⟩
    | task =>
      obtain ⟨x, c0, c1, rfl, hx⟩ := asTask hf hg hr
      exact ⟨x, dTask_e x c0 c1 hx, hx⟩
    | write =>
      obtain ⟨x, rfl, hx⟩ := asWrite hf hg hr
      exact ⟨x, dWrite_e x hx, hx⟩
theorem own : ownKnob Tryz.prog.godebug = none := by kernel_rfl
theorem laidOut : laidOutB Tryz.prog = true := by kernel_rfl
end Go.Ev

namespace Go.Proofs.YtkmlajifcoomcaaGreat
open Go.ChangeShapes Go.WideShapes Go.ChangeAt Go.RowKit Go.Ev
set_option linter.unusedVariables false
set_option maxRecDepth 100000
namespace streamWords
theorem ev (ds : List (D RC)) (h : Fits s19 rGood Tryz.f4.params.toList ds) : ∃ n, evF s19 ua_7 n 4 ds = some (.bool true) := by
  rw [Tryz.params4] at h
  cases h with
  | cons hf0 hg0 hr0 h =>
  cases h with
  | cons hf1 hg1 hr1 h =>
  cases h with
  | nil =>
    obtain ⟨x0, rfl, o0⟩ := asLine hf0 hg0 hr0
    obtain ⟨x1, rfl⟩ := fit_int (show s19.ty 3 = .int .i64 by kernel_rfl) hf1
    have key := swords_ok x0.offset x0.place x0.j x0.key x0.value x1 (decide_eq_true (by have q := i64_of hg1; unfold i64 at q; omega))
    unfold swords_e at key
    exact ⟨60, key⟩
theorem lifted (os : Os) (started : os.Started) (H : Type) (enc : TypeId × Value → H) :
    ReturnsInHanded {} Tryz.checked os 4 .any (Rows.streamWordsSpec.pre6 enc Tryz.prog Tryz.f4 Rows.streamWordsRow.domain false) (Rows.streamWordsSpec.post enc Tryz.prog Tryz.f4 false true false false) := by
  refine returnsInHanded_of_change (C := Tryz.checked) own started (by kernel_rfl) Tryz.func4
    (ChangeSpec.witness6 (enc := enc) (C := Tryz.checked) false ⟨#[], #[.agg #[.int .i64 0, .int .i64 0, .int .i64 0, .int .i64 0, .int .i64 0], .int .i64 0], []⟩ 8 (by kernel_rfl) (by kernel_rfl) (by kernel_rfl) (by kernel_rfl)) ?_
  intro W base args ds gs before hval hW _ _
  refine contract_of (gA := rGood) (m := 8) s19_laws ua_7_laws decs laidOut (tb := 4) (by kernel_rfl) Tryz.underlying4 rfl (by kernel_rfl) ?_ ev H enc W base args ds gs before hval hW
  intro H ds h
  rw [Tryz.params4] at h
  match ds, h with
  | [d0, d1], _ => rfl
theorem over : Rows.streamWordsRow.holds Tryz.pinned (OpenSpec.ofChange Rows.streamWordsSpec) :=
  OpenClaim.holds_of_wide 4 Tryz.f4 rfl rfl rfl rfl rfl rfl rfl ⟨rfl, rfl, rfl, rfl, rfl⟩ rfl rfl rfl rfl rfl (by kernel_rfl) Tryz.func4 (by kernel_rfl)
    (of_decide_eq_true (by kernel_rfl)) (by unfold Func.isWrapper; first | (rw [if_pos (by decide +kernel)]; kernel_rfl) | (rw [if_neg (by decide +kernel)]; exact ⟨rfl, rfl⟩))
    (fun os started H enc _ => lifted os started H enc)
theorem proved : Rows.StreamWordsSaid := over
end streamWords
#print axioms streamWords.proved
end Go.Proofs.YtkmlajifcoomcaaGreat
