/-
  Code and calls: the evaluator's soundness.
-/
import Derived.Test.YtnphmfcnnpoinaaEvU
namespace Go.Ev
set_option linter.unusedVariables false
set_option linter.unusedSimpArgs false

section
variable {C : Cdc} {P : Program} {T : Tab C} {Φ : Fns C}
open Pg (Ex)

def exitX : Ev.X → Exit
  | .normal => .normal
  | .exit id => .exit id
  | .ret => .ret

def opsB (nt : Nat) (ops : Array Oper) : Bool := ops.toList.all fun o => match o.dst with
  | some t => Nat.blt t nt
  | none => true
def drawB (ops : Array Oper) : Bool :=
  let b := Region.before ops
  ops.toList.zipIdx.all fun x => x.1.after.toList.all (fun e => !Region.binds .any e || Nat.blt e.on x.2) &&
    ops.toList.zipIdx.all fun y => !(Nat.blt x.2 y.2) || (b.getD y.2 0).testBit x.2 || x.1.apart ops y.1
def codeB (nt : Nat) : Code → Bool
  | .region _ ops draw => opsB nt ops && (!draw || drawB ops)
  | .seq a b => codeB nt a && codeB nt b
  | .cond _ a b => codeB nt a && codeB nt b
  | .block _ a => codeB nt a
  | .loop a => codeB nt a
  | _ => true
def loops : Code → List Code
  | .seq a b => loops a ++ loops b
  | .cond _ a b => loops a ++ loops b
  | .block _ a => loops a
  | .loop a => a :: loops a
  | _ => []

theorem opsB_spec {nt : Nat} {ops : Array Oper} (h : opsB nt ops = true) : ∀ o ∈ ops.toList, ∀ t, o.dst = some t → t < nt := by
  intro o ho t ht
  simp only [opsB, List.all_eq_true] at h
  have := h o ho
  rw [ht] at this
  simpa [Nat.blt_eq] using this

theorem drawB_spec {ops : Array Oper} (h : drawB ops = true) : DrawOK ops := by
  simp only [drawB, List.all_eq_true, Bool.and_eq_true] at h
  have mem : ∀ i o, ops[i]? = some o → (o, i) ∈ ops.toList.zipIdx := by
    intro i o hi
    rw [List.mem_zipIdx_iff_getElem?]
    rw [Array.getElem?_toList]; exact hi
  refine ⟨fun i o hi e he hb => ?_, fun i j oi oj hij hi hj => ?_⟩
  · have := (h (o, i) (mem i o hi)).1 e (by simpa using he)
    simpa [hb, Nat.blt_eq] using this
  · have := (h (oi, i) (mem i oi hi)).2 (oj, j) (mem j oj hj)
    simp only [Bool.or_eq_true, Bool.not_eq_true'] at this
    rcases this with (h1 | h1) | h1
    · have h2 : Nat.blt i j = true := by rw [Nat.blt_eq]; exact hij
      rw [h2] at h1; cases h1
    · exact .inl h1
    · exact .inr h1

/-- where code comes to -/
def ClearC (B : Nat → Bool) (c : Code) : Prop := ∀ t ∈ asgL c, B t = false
def CPost (T : Tab C) (B : Nat → Bool) (X : Cx) (nx : Nat) (lim : Lim) (h' : Heap C) (nx' : Nat) (env' : Env C) (a : Act) (Q : Act → World → Prop) : Prop :=
  ∀ a' X', G T X' h' nx' lim → Step X nx lim X' → EnvOK T X' nx' lim env' a'.tmps → a'.tmps.size = a.tmps.size → a'.defers = a.defers → Kp B a.tmps a'.tmps → Q a' X'.w

/-- what is asked of the functions, the summaries of functions and of loops -/
structure FLaws (P : Program) (T : Tab C) (Φ : Fns C) : Prop where
  fn : ∀ f fn, Φ.fn f = some fn → P.funcs[f]? = some fn ∧ (fn.name == "runtime.NumGoroutine") = false ∧ ∀ body, fn.body = some body → codeB fn.ntmps body = true
  spec : ∀ g s args d, Φ.spec g = some s → s args = some (true, d) → ∀ X h nx lim vs, G T X h nx lim → RVs T X args vs → (∀ a ∈ args, ∀ id ∈ D.refs a, old nx lim id) →
    (callFunc g ⟨vs⟩).run P X.w = .ok (.enter g ⟨vs⟩) X.w ∧ Calls P g ⟨vs⟩ X.w (CallPost T X nx lim h nx d)
  loop : ∀ f fn body b s, Φ.fn f = some fn → fn.body = some body → b ∈ loops body → Φ.loop f (firstRegion b) = some s → ∀ B, ClearC B b → ∀ X h nx lim e env x env' h' nx' tr a Q, G T X h nx lim → EnvOK T X nx lim env a.tmps → nx' ≤ lim.top → fn.ntmps ≤ a.tmps.size →
    Ex e (s env) h nx (x, env') h' nx' tr → CPost T B X nx lim h' nx' env' a (Q (exitX x)) → (Code.loop b).wp P Q a X.w

theorem eget_app : ∀ (env env' : Env C) (t : Nat), eget (env ++ env') t = eget env t ∨ eget (env ++ env') t = eget env' t
  | [], env', t => .inr rfl
  | (j, d) :: r, env', t => by
    rw [List.cons_append, eget_cons, eget_cons]
    split
    · exact .inl rfl
    · exact eget_app r env' t
theorem keepE_in {l : List Nat} {t : Nat} (h : l.any (Nat.beq t) = true) : ∀ env : Env C, eget (keepE l env) t = .top
  | [] => rfl
  | (j, d) :: r => by
    rw [keepE]
    cases hj : l.any (Nat.beq j) with
    | true => exact keepE_in h r
    | false =>
      simp only [cond_false]
      rw [eget_cons]
      have : t ≠ j := fun e => by rw [e, hj] at h; cases h
      simp only [this, if_false]
      exact keepE_in h r
theorem keepE_out {l : List Nat} {t : Nat} (h : l.any (Nat.beq t) = false) : ∀ env : Env C, eget (keepE l env) t = eget env t
  | [] => rfl
  | (j, d) :: r => by
    rw [keepE, eget_cons]
    cases hj : l.any (Nat.beq j) with
    | true =>
      have : t ≠ j := fun e => by rw [e, hj] at h; cases h
      simp only [this, if_false, cond_true]
      exact keepE_out h r
    | false =>
      simp only [cond_false]
      rw [eget_cons, keepE_out h r]

theorem EnvOK.cons_same {X : Cx} {nx : Nat} {lim : Lim} {env : Env C} {tmps : Array Value} {t : Nat} {d : D C} (he : EnvOK T X nx lim env tmps) (hd : eget env t = d) : EnvOK T X nx lim ((t, d) :: env) tmps := by
  intro u
  rw [eget_cons]
  by_cases hu : u = t
  · subst hu; simp only [if_true]; rw [← hd]; exact he u
  · simp only [hu, if_false]; exact he u

/-- the code's part -/
def CodeOK (P : Program) (T : Tab C) (Φ : Fns C) (n : Nat) : Prop := ∀ f fn body code, Φ.fn f = some fn → fn.body = some body → codeB fn.ntmps code = true → (∀ b ∈ loops code, b ∈ loops body) → ∀ B, ClearC B code →
  ∀ X h nx lim e env x env' h' nx' tr a Q, G T X h nx lim → EnvOK T X nx lim env a.tmps → nx' ≤ lim.top → fn.ntmps ≤ a.tmps.size → Ex e (evC T Φ n f code env) h nx (x, env') h' nx' tr → CPost T B X nx lim h' nx' env' a (Q (exitX x)) → code.wp P Q a X.w

def RoundsOK (P : Program) (T : Tab C) (Φ : Fns C) (n : Nat) : Prop := ∀ f fn body b, Φ.fn f = some fn → fn.body = some body → codeB fn.ntmps (.loop b) = true → (∀ b' ∈ loops (.loop b), b' ∈ loops body) → Φ.loop f (firstRegion b) = none → ∀ B, ClearC B b →
  ∀ X h nx lim e env x env' h' nx' tr a Q, G T X h nx lim → EnvOK T X nx lim env a.tmps → nx' ≤ lim.top → fn.ntmps ≤ a.tmps.size → Ex e (evC T Φ n f (.loop b) env) h nx (x, env') h' nx' tr → CPost T B X nx lim h' nx' env' a (Q (exitX x)) → Code.rounds P b Q n a X.w

variable (K : PLaws P T) (F : FLaws P T Φ)

theorem eargs_get : ∀ (l : List (D C)) (n t : Nat), eget (eargs n l) t = if n ≤ t then l.getD (t - n) .top else .top := by
  intro l
  induction l with
  | nil => intro n t; simp [eargs, eget]
  | cons d l ih =>
    intro n t
    rw [eargs, eget_cons, ih]
    by_cases h1 : t = n
    · subst h1; simp
    · by_cases h2 : n ≤ t
      · have h3 : n + 1 ≤ t := by omega
        have h4 : t - n = (t - (n + 1)) + 1 := by omega
        simp [h1, h2, h3, h4]
      · have h3 : ¬ n + 1 ≤ t := by omega
        simp [h1, h2, h3]

theorem RVs.get {X : Cx} {ds : List (D C)} {vs : List Value} (h : RVs T X ds vs) : ∀ t, RV T X (ds.getD t .top) (vs.getD t undef) := by
  induction h with
  | nil => intro t; simp; exact RV.top _ _ _
  | cons h _ ih => intro t; cases t with
    | zero => simpa using h
    | succ t => simpa using ih t

theorem RVs.mono' {X X' : Cx} {nx : Nat} {lim : Lim} (L : Laws T) (s : Step X nx lim X') {ds : List (D C)} {vs : List Value} (h : RVs T X ds vs) : (∀ d ∈ ds, ∀ id ∈ D.refs d, old nx lim id) → RVs T X' ds vs := by
  induction h with
  | nil => intro _; exact .nil
  | cons h _ ih =>
    intro ho
    exact .cons (RO.step L s (nx' := nx) ⟨h, ho _ (by simp)⟩ (Nat.le_refl _)).1 (ih fun d hd => ho d (by simp [hd]))

/-- results as one value -/
def oneD : List (D C) → D C
  | [] => .tup .anil
  | [d] => d
  | d :: e :: l => .tup (D.ofList (d :: e :: l))

theorem outD_eq (f : FuncId) (n0 : Nat) (env : Env C) (rs : List ResultVar) : outD T Φ f n0 env rs =
    .bind (resultD T env rs) fun l => bif Φ.keeps f then .ret (oneD l) else .bind (frz (oneD l)) fun d => .gc n0 d.refs (.ret d) := by
  unfold outD
  congr 1
  funext l
  match l with
  | [] => rfl
  | [_] => rfl
  | _ :: _ :: _ => rfl

theorem oneD_ok {X : Cx} {nx : Nat} {lim : Lim} : ∀ {l : List (D C)} {us : List Value}, RVs T X l us → (∀ d ∈ l, ∀ id ∈ D.refs d, old nx lim id) → RO T X nx lim (oneD l) (if h : us.toArray.size = 1 then us.toArray[0] else .tuple us.toArray)
  | [], [], _, _ => RO.mk (.mk rfl (.tup .vnil)) rfl
  | [d1], [u1], .cons r2 _, r3 => ⟨r2, r3 d1 (by simp)⟩
  | d1 :: d2 :: l, u1 :: u2 :: us, r2, r3 => by
    refine ⟨.mk rfl ?_, fun id hid => ?_⟩
    · have hne : ¬ (u1 :: u2 :: us).toArray.size = 1 := by simp
      simp only [hne, dif_neg, not_false_eq_true]
      exact .tup r2.row
    · obtain ⟨q, hq, hi⟩ := refs_ofList _ id (by simpa [D.refs, oneD] using hid); exact r3 q hq id hi

include K F

theorem enter_of_code {n : Nat} (hc : CodeOK P T Φ n) : CallOK P T (enterD T Φ (evC T Φ n)) := by
  intro g args vs X h nx lim e d h' nx' tr gg hargs hrefs hlim hx
  unfold enterD at hx
  cases hf : Φ.fn g with
  | none => simp only [hf] at hx; exact (Ex.fail hx).elim
  | some fn =>
    simp only [hf] at hx
    cases hb : fn.body with
    | none => simp only [hb] at hx; exact (Ex.fail hx).elim
    | some body =>
      simp only [hb] at hx
      have hx := Ex.cnt hx
      obtain ⟨⟨x, env1⟩, h1, n1, t1, t2, q1, q2, _⟩ := Ex.bind hx
      obtain ⟨f1, f2, f3⟩ := F.fn g fn hf
      have hle1 := Ex.le q1
      refine ⟨?_, ?_⟩
      · simp only [callFunc, Sem.run_bind]
        show ((match P.funcs[g]? with | none => _ | some fn => _ : Sem Next)).run P X.w = _
        rw [f1]
        simp [f2, hb]
      · refine calls_of_wp f1 hb (hc g fn body body hf hb (f3 body hb) (fun b hb => hb) (fun _ => false) (fun _ _ => rfl) X h nx lim e (eargs 0 args) x env1 h1 n1 t1 _ _ gg ?_ ?_ ?_ q1 ?_)
        · intro t
          rw [eargs_get]
          simp only [Nat.zero_le, if_true, Nat.sub_zero]
          refine ⟨?_, ?_⟩
          · have := hargs.get t
            by_cases ht : t < vs.length
            · have e1 : ((⟨vs⟩ : Array Value) ++ Array.replicate (fn.ntmps - (⟨vs⟩ : Array Value).size) undef).getD t undef = vs.getD t undef := by
                simp [Array.getD_eq_getD_getElem?, Array.getElem?_append, ht]
              rw [e1]; exact this
            · have : args.getD t .top = .top := by
                have := hargs.length
                simp [List.getD_eq_getElem?_getD]
                rw [List.getElem?_eq_none (by omega)]; rfl
              rw [this]; exact RV.top _ _ _
          · by_cases ht : t < args.length
            · have : args.getD t .top ∈ args := by
                simp [List.getD_eq_getElem?_getD, ht]
              exact hrefs _ this
            · have : args.getD t .top = .top := by
                simp [List.getD_eq_getElem?_getD]
                rw [List.getElem?_eq_none (by omega)]; rfl
              rw [this]; simp [D.refs]
        · have := Ex.le q2
          omega
        · simp; omega
        · intro a' X1 g1 s1 e1 _ hdef _
          have hout : Ex e (outD T Φ g nx env1 fn.results.toList) h1 n1 d h' nx' t2 → ∃ v, (results fn a'.tmps).run P X1.w = .ok v X1.w ∧ CallPost T X nx lim h' nx' d (.returned v) X1.w := by
            intro q2
            rw [outD_eq] at q2
            obtain ⟨l, h2, n2, t3, t4, q3, q4, _⟩ := Ex.bind q2
            obtain ⟨e2, e3, us, r1, r2, r3⟩ := results_ok K g1 e1 fn.results.toList q3
            have e2 := e2.symm
            have e3 := e3.symm
            subst e2
            subst e3
            have hrun : (results fn a'.tmps).run P X1.w = .ok (if h : us.toArray.size = 1 then us.toArray[0] else .tuple us.toArray) X1.w := by
              have hm : fn.results.mapM (resM a'.tmps) = List.toArray <$> fn.results.toList.mapM (resM a'.tmps) := by rw [Array.mapM_eq_mapM_toList]
              have e0 : results fn a'.tmps = (do let vs ← fn.results.mapM (resM a'.tmps); pure (if h : vs.size = 1 then vs[0] else .tuple vs)) := by
                unfold results
                congr 1
              rw [e0, hm]
              simp only [map_eq_pure_bind, bind_assoc, Sem.run_bind, r1, Result.andThen_ok, Sem.run_pure, pure_bind]
            have hdl : RO T X1 n1 lim (oneD l) (if h : us.toArray.size = 1 then us.toArray[0] else .tuple us.toArray) := oneD_ok r2 r3
            generalize hvv : (if h : us.toArray.size = 1 then us.toArray[0] else Value.tuple us.toArray) = vv at hrun hdl
            cases hk : Φ.keeps g with
            | true =>
              simp only [hk, cond_true] at q4
              obtain ⟨c1, c2, c3, _⟩ := Ex.ret q4
              rw [c1, c2, c3]
              exact ⟨_, hrun, _, X1, rfl, rfl, g1, s1, hdl⟩
            | false =>
              simp only [hk, cond_false] at q4
              obtain ⟨d2, h3, n3, t5, t6, q5, q6, _⟩ := Ex.bind q4
              obtain ⟨_, q7⟩ := Ex.gc q6
              obtain ⟨c1, c2, c3, _⟩ := Ex.ret q7
              rw [c1, c2, c3]
              have hfz : ∃ X2, X2.w = X1.w ∧ G T X2 h3 n1 lim ∧ Step X1 n1 lim X2 ∧ RV T X2 d2 vv ∧ n3 = n1 ∧ ∀ id ∈ d2.refs, old n1 lim id := by
                rcases hdl.1 with ⟨hrow, cs, hr, hv⟩ | ⟨hrow, hr⟩
                · obtain ⟨X2, a1, a2, a3, a4, a5, a6, a7⟩ := frz_ok K _ g1 hr hdl.2 q5
                  exact ⟨X2, a1, a2, a3, .inl ⟨a7.trans hrow, cs, a4, hv⟩, a5, a6⟩
                · obtain ⟨X2, a1, a2, a3, a4, a5, a6, a7⟩ := frz_ok K _ g1 hr hdl.2 q5
                  exact ⟨X2, a1, a2, a3, .inr ⟨a7.trans hrow, a4⟩, a5, a6⟩
              obtain ⟨X2, a1, a2, a3, a4, a5, a6⟩ := hfz
              rw [a5]
              obtain ⟨X3, b1, b2, b3, _⟩ := a2.drop K.base (h' := Heap.drop nx n1 d2.refs h3) (fun i => by rw [get_drop]; split <;> simp)
              exact ⟨_, hrun, _, X3, rfl, by rw [b1, a1], b2, (s1.trans a3 hle1).trans b3 hle1, RO.step K.base b3 ⟨a4, a6⟩ (Nat.le_refl _)⟩
          cases x with
          | normal =>
            obtain ⟨v, o1, o2⟩ := hout q2
            exact ⟨hdef, v, o1, o2⟩
          | ret =>
            obtain ⟨v, o1, o2⟩ := hout q2
            exact ⟨hdef, v, o1, o2⟩
          | exit id => exact (Ex.fail q2).elim

omit K F in
theorem CallPost.since {X X' : Cx} {nx nx' : Nat} {lim : Lim} {h' : Heap C} {d : D C} {en : Ending} {w' : World} (s : Step X nx lim X') (h : CallPost T X' nx lim h' nx' d en w') : CallPost T X nx lim h' nx' d en w' := by
  obtain ⟨v, Y, h1, h2, h3, h4, h5⟩ := h
  exact ⟨v, Y, h1, h2, h3, s.trans h4 (Nat.le_refl _), h5⟩

theorem call_of_code {n : Nat} (hc : CodeOK P T Φ n) : CallOK P T (callD T Φ (evC T Φ n)) := by
  intro g args vs X h nx lim e d h' nx' tr gg hargs hrefs hlim hx
  unfold callD at hx
  cases hs : Φ.spec g with
  | some s =>
    simp only [hs] at hx
    obtain ⟨args', h1, n1, t1, t2, q1, hx2, _⟩ := Ex.bind hx
    clear hx
    obtain ⟨X', w', g', s', r', hn, hrf⟩ := frzL_ok K args gg hargs hrefs q1
    subst hn
    cases hsa : s args' with
    | none => rw [hsa] at hx2; exact (Ex.fail hx2).elim
    | some bd =>
      obtain ⟨b, d0⟩ := bd
      rw [hsa] at hx2
      rcases Ex.br hx2 with ⟨rfl, hx2⟩ | ⟨rfl, hx2⟩
      · obtain ⟨rfl, rfl, rfl, rfl⟩ := Ex.ret hx2
        have := F.spec g s args' _ hs hsa X' _ _ lim vs g' r' hrf
        rw [w'] at this
        exact ⟨this.1, this.2.mono fun en w1 hp => CallPost.since s' hp⟩
      · exact (Ex.fail hx2).elim
  | none =>
    simp only [hs] at hx
    exact enter_of_code K F hc g args vs X h nx lim e d h' nx' tr gg hargs hrefs hlim hx

theorem code_ok : ∀ n, CodeOK P T Φ n ∧ RoundsOK P T Φ n := by
  intro n
  induction n with
  | zero =>
    refine ⟨?_, ?_⟩
    · intro f fn body code _ _ _ _ B _ X h nx lim e env x env' h' nx' tr a Q _ _ _ _ hx; exact (Ex.fail hx).elim
    · intro f fn body b _ _ _ _ _ B _ X h nx lim e env x env' h' nx' tr a Q _ _ _ _ hx; exact (Ex.fail hx).elim
  | succ n ih =>
    obtain ⟨ihC, ihR⟩ := ih
    have hcall := call_of_code K F ihC
    have hR : RoundsOK P T Φ (n + 1) := by
      intro f fn body b hf hb hcb hl hnone B hB X h nx lim e env x env' h' nx' tr a Q g he hlim hsz hx hk
      simp only [evC, loopC, hnone] at hx
      obtain ⟨⟨x1, env1⟩, h1, n1, t1, t2, q1, q2, _⟩ := Ex.bind hx
      have hle := Ex.le q2
      have hle1 := Ex.le q1
      rw [rounds_succ]
      refine ihC f fn body b hf hb (by simpa [codeB] using hcb) (fun b' hb' => hl b' (by simp [loops, hb'])) B hB X h nx lim e env x1 env1 h1 n1 t1 a _ g he (by omega) hsz q1 ?_
      intro a1 X1 g1 s1 e1 hs1 hd1 kp1
      cases x1 with
      | normal =>
        simp only [thenC] at q2
        exact ihR f fn body b hf hb hcb hl hnone B hB X1 h1 n1 lim e env1 x env' h' nx' t2 a1 Q g1 e1 hlim (by omega) q2 fun a2 X2 g2 s2 e2 hs2 hd2 kp2 => hk a2 X2 g2 (s1.trans s2 hle1) e2 (by omega) (by rw [hd2, hd1]) (kp1.trans kp2)
      | exit id =>
        obtain ⟨hxx, rfl, rfl, rfl⟩ := Ex.ret q2
        obtain ⟨rfl, rfl⟩ := Prod.mk.inj hxx
        exact hk a1 X1 g1 s1 e1 hs1 hd1 kp1
      | ret =>
        obtain ⟨hxx, rfl, rfl, rfl⟩ := Ex.ret q2
        obtain ⟨rfl, rfl⟩ := Prod.mk.inj hxx
        exact hk a1 X1 g1 s1 e1 hs1 hd1 kp1
    refine ⟨?_, hR⟩
    intro f fn body code hf hb hcb hl B hB X h nx lim e env x env' h' nx' tr a Q g he hlim hsz hx hk
    have done : ∀ x0, Ex e (.ret (x0, env) : Pg C (Ev.X × Env C)) h nx (x, env') h' nx' tr → Q (exitX x0) a X.w := by
      intro x0 hx
      obtain ⟨hxx, rfl, rfl, rfl⟩ := Ex.ret hx
      obtain ⟨rfl, rfl⟩ := Prod.mk.inj hxx
      exact hk a X g (.refl _ _ _) he rfl rfl (.refl _ _)
    cases code with
    | skip => exact wp_skip (done _ hx)
    | label l => exact wp_label (done _ hx)
    | ret => exact wp_ret (done _ hx)
    | exit id => exact wp_exit (done _ hx)
    | region id ops draw =>
      simp only [evC] at hx
      simp only [codeB, Bool.and_eq_true] at hcb
      have hdst : ∀ o ∈ ops.toList, ∀ t, o.dst = some t → t < a.tmps.size := fun o ho t ht => Nat.lt_of_lt_of_le (opsB_spec hcb.1 o ho t ht) hsz
      have hBo : ∀ o ∈ ops.toList, ∀ t, o.dst = some t → B t = false := fun o ho t ht => hB t (by simp only [asgL, List.mem_filterMap]; exact ⟨o, ho, ht⟩)
      cases draw with
      | true =>
        simp only [cond_true, drawC] at hx
        have hx := Ex.cnt hx
        obtain ⟨env1, h1, n1, t1, t2, q1, q2, _⟩ := Ex.bind hx
        obtain ⟨hxx, rfl, rfl, rfl⟩ := Ex.ret q2
        obtain ⟨rfl, rfl⟩ := Prod.mk.inj hxx
        exact draw_ok K hcall hBo K.order (drawB_spec (by simpa using hcb.2)) g he hlim hdst q1 hk
      | false =>
        simp only [cond_false, regC] at hx
        obtain ⟨env1, h1, n1, t1, t2, q1, q2, _⟩ := Ex.bind hx
        obtain ⟨hxx, rfl, rfl, rfl⟩ := Ex.ret q2
        obtain ⟨rfl, rfl⟩ := Prod.mk.inj hxx
        refine wp_region ?_
        rw [List.range_eq_range']
        have := evOps_ok K hcall hBo ops.toList 0 rfl g he hlim hdst q1 (Q := Q) hk
        simpa using this
    | seq c1 c2 =>
      simp only [evC] at hx
      simp only [codeB, Bool.and_eq_true] at hcb
      obtain ⟨⟨x1, env1⟩, h1, n1, t1, t2, q1, q2, _⟩ := Ex.bind hx
      have hle := Ex.le q2
      have hle1 := Ex.le q1
      refine wp_seq (ihC f fn body c1 hf hb hcb.1 (fun b hb => hl b (by simp [loops, hb])) B (fun t ht => hB t (by simp [asgL, ht])) X h nx lim e env x1 env1 h1 n1 t1 a _ g he (by omega) hsz q1 ?_)
      intro a1 X1 g1 s1 e1 hs1 hd1 kp1
      cases x1 with
      | normal =>
        simp only [thenC] at q2
        exact ihC f fn body c2 hf hb hcb.2 (fun b hb => hl b (by simp [loops, hb])) B (fun t ht => hB t (by simp [asgL, ht])) X1 h1 n1 lim e env1 x env' h' nx' t2 a1 Q g1 e1 hlim (by omega) q2 fun a2 X2 g2 s2 e2 hs2 hd2 kp2 => hk a2 X2 g2 (s1.trans s2 hle1) e2 (by omega) (by rw [hd2, hd1]) (kp1.trans kp2)
      | exit id =>
        obtain ⟨hxx, rfl, rfl, rfl⟩ := Ex.ret q2
        obtain ⟨rfl, rfl⟩ := Prod.mk.inj hxx
        exact hk a1 X1 g1 s1 e1 hs1 hd1 kp1
      | ret =>
        obtain ⟨hxx, rfl, rfl, rfl⟩ := Ex.ret q2
        obtain ⟨rfl, rfl⟩ := Prod.mk.inj hxx
        exact hk a1 X1 g1 s1 e1 hs1 hd1 kp1
    | cond c c1 c2 =>
      simp only [evC, condC] at hx
      simp only [codeB, Bool.and_eq_true] at hcb
      have side : ∀ (b : Bool) (env0 : Env C), EnvOK T X nx lim env0 a.tmps → a.eval c = .bool b → Ex e (evC T Φ n f (if b then c1 else c2) env0) h nx (x, env') h' nx' tr → (Code.cond c c1 c2).wp P Q a X.w := by
        intro b env0 he0 hc0 hx0
        refine wp_cond hc0 (ihC f fn body _ hf hb ?_ ?_ B (fun t ht => hB t (by cases b <;> simp [asgL] at ht ⊢ <;> simp [ht])) X h nx lim e env0 x env' h' nx' tr a Q g he0 hlim hsz hx0 hk)
        · cases b <;> simp [hcb.1, hcb.2]
        · intro b' hb'; cases b <;> exact hl b' (by simp [loops] at hb' ⊢; simp [hb'])
      cases c with
      | tmp t =>
        simp only at hx
        have het := he t
        generalize hq : eget env t = q at hx het
        cases q with
        | bool b =>
          simp only at hx
          have hv : a.eval (.tmp t) = .bool b := het.1.bool
          rcases Ex.br hx with ⟨rfl, hx⟩ | ⟨rfl, hx⟩
          · exact side true _ (he.cons_same hq) hv hx
          · exact side false _ (he.cons_same hq) hv hx
        | _ => exact (Ex.fail hx).elim
      | const v =>
        cases v with
        | bool b =>
          simp only at hx
          rcases Ex.br hx with ⟨rfl, hx⟩ | ⟨rfl, hx⟩
          · exact side true _ he rfl hx
          · exact side false _ he rfl hx
        | _ => exact (Ex.fail hx).elim
      | global q => exact (Ex.fail hx).elim
      | func q => exact (Ex.fail hx).elim
    | block id c =>
      simp only [evC] at hx
      obtain ⟨⟨x1, env1⟩, h1, n1, t1, t2, q1, q2, _⟩ := Ex.bind hx
      have hle := Ex.le q2
      refine wp_block (ihC f fn body c hf hb (by simpa [codeB] using hcb) (fun b hb => hl b (by simpa [loops] using hb)) B (fun t ht => hB t (by simpa [asgL] using ht)) X h nx lim e env x1 env1 h1 n1 t1 a _ g he (by omega) hsz q1 ?_)
      intro a1 X1 g1 s1 e1 hs1 hd1 kp1
      cases x1 with
      | normal =>
        obtain ⟨hxx, rfl, rfl, rfl⟩ := Ex.ret q2
        obtain ⟨rfl, rfl⟩ := Prod.mk.inj hxx
        exact hk a1 X1 g1 s1 e1 hs1 hd1 kp1
      | exit i =>
        simp only [inBlockC] at q2
        show (if i = id then Q .normal a1 X1.w else Q (.exit i) a1 X1.w)
        cases hi : Nat.beq i id with
        | true =>
          simp only [hi, cond_true] at q2
          obtain ⟨hxx, rfl, rfl, rfl⟩ := Ex.ret q2
          obtain ⟨rfl, rfl⟩ := Prod.mk.inj hxx
          have : i = id := Nat.eq_of_beq_eq_true hi
          simp only [this, if_true]
          exact hk a1 X1 g1 s1 e1 hs1 hd1 kp1
        | false =>
          simp only [hi, cond_false] at q2
          obtain ⟨hxx, rfl, rfl, rfl⟩ := Ex.ret q2
          obtain ⟨rfl, rfl⟩ := Prod.mk.inj hxx
          have : i ≠ id := Nat.ne_of_beq_eq_false hi
          simp only [this, if_false]
          exact hk a1 X1 g1 s1 e1 hs1 hd1 kp1
      | ret =>
        obtain ⟨hxx, rfl, rfl, rfl⟩ := Ex.ret q2
        obtain ⟨rfl, rfl⟩ := Prod.mk.inj hxx
        exact hk a1 X1 g1 s1 e1 hs1 hd1 kp1
    | loop c =>
      cases hs : Φ.loop f (firstRegion c) with
      | none => exact wp_loop_rounds (n + 1) (hR f fn body c hf hb hcb hl hs B (fun t ht => hB t (by simpa [asgL] using ht)) X h nx lim e env x env' h' nx' tr a Q g he hlim hsz hx hk)
      | some s =>
        simp only [evC, loopC, hs] at hx
        obtain ⟨⟨x1, env1⟩, h1, n1, t1, t2, q1, q2, _⟩ := Ex.bind hx
        obtain ⟨hxx, rfl, rfl, _⟩ := Ex.ret q2
        obtain ⟨rfl, rfl⟩ := Prod.mk.inj hxx
        have hle1 := Ex.le q1
        refine F.loop f fn body c s hf hb (hl c (by simp [loops])) hs (fun t => B t || !((asgL c).any (Nat.beq t))) (fun t ht => ?_) X h nx lim e env x env1 h' nx' t1 a Q g he hlim hsz q1 ?_
        · have h1 : (asgL c).any (Nat.beq t) = true := List.any_eq_true.2 ⟨t, ht, by simp⟩
          have h2 : B t = false := hB t (by simpa [asgL] using ht)
          simp only [h1, h2]; rfl
        · intro a1 X1 g1 s1 e1 hs1 hd1 kp1
          refine hk a1 X1 g1 s1 (fun t => ?_) hs1 hd1 (fun t ht => kp1 t (by simp [ht]))
          rcases eget_app env1 (keepE (asgL c) env) t with h1 | h1
          · rw [h1]; exact e1 t
          · rw [h1]
            cases hq : (asgL c).any (Nat.beq t) with
            | true => rw [keepE_in hq]; exact RO.mk (RV.top _ _ _) rfl
            | false =>
              rw [keepE_out hq, kp1 t (by simp only [hq]; simp)]
              exact (he t).step K.base s1 hle1
    | _ => exact (Ex.fail hx).elim

theorem enter_ok (n : Nat) : CallOK P T (enterD T Φ (evC T Φ n)) := enter_of_code K F (code_ok K F n).1
theorem call_ok (n : Nat) : CallOK P T (callD T Φ (evC T Φ n)) := call_of_code K F (code_ok K F n).1
end
end Go.Ev
