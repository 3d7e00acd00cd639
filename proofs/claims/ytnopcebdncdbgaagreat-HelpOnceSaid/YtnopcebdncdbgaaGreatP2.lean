/-
  A part of the proof of a statement of this seat: the model is run over values by content, proved sound; what the functions come to. No condition beyond the given statements. (text 3)
-/
import Derived.Test.YtnopcebdncdbgaaGreatP1
import Derived.Test.YtnopcebdncdbgaaGreatProg
import Derived.KernelRfl
namespace Go.Ev
set_option linter.unusedVariables false
set_option linter.unusedSimpArgs false
section
variable {C:Cdc} {P:Program} {T:Tab C} {Φ:Fns C}
open Pg (Ex)
def QcD:Ev.X -> Exit
 | .normal => .normal
 | .exit id => .exit id
 | .ret => .ret
def QQ:Code -> List Code
 | .seq a b => QQ a ++ QQ b
 | .cond _ a b => QQ a ++ QQ b
 | .block _ a => QQ a
 | .loop a => a :: QQ a
 | _ => []
theorem Qjg {nt:Nat} {ops:Array Oper} (h:opsB nt ops = true):∀ o ∈ ops.toList,∀ t,o.dst = some t -> t < nt := by
 intro o ho t ht;simp only [opsB,List.all_eq_true] at h;have := h o ho;rw [ht] at this
 simpa [Nat.blt_eq] using this
theorem Qhf {ops:Array Oper} (h:QsK ops = true):Qjf ops := by
 simp only [QsK,List.all_eq_true,Bool.and_eq_true] at h
 have mem:∀ i o,ops[i]? = some o -> (o,i) ∈ ops.toList.zipIdx := by
  intro i o hi;rw [List.mem_zipIdx_iff_getElem?];rw [Array.getElem?_toList];exact hi
 refine ⟨fun i o hi e he hb => ?_,fun i j oi oj hij hi hj => ?_⟩
 · have := (h (o,i) (mem i o hi)).1 e (by simpa using he)
   simpa [hb,Nat.blt_eq] using this
 · have := (h (oi,i) (mem i oi hi)).2 (oj,j) (mem j oj hj);simp only [Bool.or_eq_true,Bool.not_eq_true'] at this;rcases this with (h1 | h1) | h1
   · have h2:Nat.blt i j = true := by rw [Nat.blt_eq];exact hij
     rw [h2] at h1;cases h1
   · exact .inl h1
   · exact .inr h1
def QcE (B:Nat -> Bool) (c:Code):Prop := ∀ t ∈ asgL c,B t = false
def Qjh (T:Tab C) (B:Nat -> Bool) (X:Cx) (nx:Nat) (lim:Lim) (h':Heap C) (nx':Nat) (env':Env C) (a:Act) (Q:Act -> World -> Prop):Prop :=
 ∀ a' X',G T X' h' nx' lim -> Step X nx lim X' -> Qu T X' nx' lim env' a'.tmps -> a'.tmps.size = a.tmps.size -> ZP X X' a'.defers a.defers -> Kp B a.tmps a'.tmps -> Q a' X'.w
structure Qh (P:Program) (T:Tab C) (Φ:Fns C):Prop where
 fn : ∀ f fn,Φ.fn f = some fn -> P.funcs[f]? = some fn /\ (fn.name == "runtime.NumGoroutine") = false /\ ∀ body,fn.body = some body -> Ya fn.ntmps body = true
 spec:∀ g s args d,Φ.spec g = some s -> s args = some (true,d) -> ∀ X h nx lim vs,G T X h nx lim -> RVs T X args vs -> (∀ a ∈ args,∀ id ∈ D.refs a,old nx lim id) ->
  (callFunc g ⟨vs⟩).run P X.w = .ok (.enter g ⟨vs⟩) X.w /\ Calls P g ⟨vs⟩ X.w (QT T X nx lim h nx d)
 ospec:∀ g s,Φ.ospec g = some s -> ∀ args vs X h nx lim e d h' nx' tr,G T X h nx lim -> RVs T X args vs -> (∀ a ∈ args,∀ id ∈ D.refs a,old nx lim id) -> nx' <= lim.top -> Ex e (s args) h nx d h' nx' tr ->
  (callFunc g ⟨vs⟩).run P X.w = .ok (.enter g ⟨vs⟩) X.w /\ Calls P g ⟨vs⟩ X.w (QT T X nx lim h' nx' d)
 loop:∀ f fn body b s,Φ.fn f = some fn -> fn.body = some body -> b ∈ QQ body -> Φ.loop f (Qr b) = some s -> ∀ B,QcE B b -> ∀ X h nx lim e env x env' h' nx' tr a Q,G T X h nx lim -> Qu T X nx lim env a.tmps -> nx' <= lim.top -> fn.ntmps <= a.tmps.size ->
  Ex e (s env) h nx (x,env') h' nx' tr -> Qjh T B X nx lim h' nx' env' a (Q (QcD x)) -> (Code.loop b).wp P Q a X.w
theorem eget_app:∀ (env env':Env C) (t:Nat),eget (env ++ env') t = eget env t \/ eget (env ++ env') t = eget env' t
 | [],env',t => .inr rfl
 | (j,d) :: r,env',t => by
  rw [List.cons_append,Qs,Qs]
  split
  · exact .inl rfl
  · exact eget_app r env' t
theorem QbD {l:List Nat} {t:Nat} (h:l.any (Nat.beq t) = true):∀ env:Env C,eget (keepE l env) t = .top
 | [] => rfl
 | (j,d) :: r => by
  rw [keepE];cases hj:l.any (Nat.beq j) with
  | true => exact QbD h r
  | false =>
   simp only [cond_false];rw [Qs];have:t ≠ j := fun e => by rw [e,hj] at h;cases h
   simp only [this,if_false];exact QbD h r
theorem K1 {l:List Nat} {t:Nat} (h:l.any (Nat.beq t) = false):∀ env:Env C,eget (keepE l env) t = eget env t
 | [] => rfl
 | (j,d) :: r => by
  rw [keepE,Qs];cases hj:l.any (Nat.beq j) with
  | true =>
   have:t ≠ j := fun e => by rw [e,hj] at h;cases h
   simp only [this,if_false,cond_true];exact K1 h r
  | false =>
   simp only [cond_false];rw [Qs,K1 h r]
theorem Qu.cons_same {X:Cx} {nx:Nat} {lim:Lim} {env:Env C} {tmps:Array Value} {t:Nat} {d:D C} (he:Qu T X nx lim env tmps) (hd:eget env t = d):Qu T X nx lim ((t,d) :: env) tmps := by
 intro u;rw [Qs]
 by_cases hu:u = t
 · subst hu;simp only [if_true];rw [<- hd];exact he u
 · simp only [hu,if_false];exact he u
theorem QsV {b:Bool}:∀ (x y d:D C),mrgD b x y = some d -> d = bif b then x else y := by
 intro x
 induction x with
 | acons x xs i1 i2 =>
  intro y d h;cases y with
  | acons y ys =>
   simp only [mrgD] at h;cases h1:mrgD b x y with
   | none => simp [h1] at h
   | some d1 =>
    cases h2:mrgD b xs ys with
    | none => simp [h1,h2] at h
    | some d2 =>
     simp only [h1,h2,Option.some.injEq] at h;rw [<- h,i1 _ _ h1,i2 _ _ h2];cases b <;> rfl
  | _ => simp [mrgD] at h
 | sl t c l =>
  intro y d h;cases y with
  | sl t' c' l' =>
   simp only [mrgD] at h
   split at h
   · rename_i e;subst e;simp only [Option.some.injEq] at h;rw [<- h];cases b <;> rfl
   · cases h
  | _ => simp [mrgD] at h
 | arr t n l =>
  intro y d h;cases y with
  | arr t' n' l' =>
   simp only [mrgD] at h
   split at h
   · rename_i e;subst e
     split at h
     · rename_i e;subst e;simp only [Option.some.injEq] at h;rw [<- h];cases b <;> rfl
     · cases h
   · cases h
  | _ => simp [mrgD] at h
 | tup ds i =>
  intro y d h;cases y with
  | tup es => cases ds <;> cases es <;> simp [mrgD] at h;rw [<- h];cases b <;> rfl
  | _ => cases ds <;> simp [mrgD] at h
 | int k n =>
  intro y d h;cases y with
  | int k' n' =>
   simp only [mrgD] at h
   split at h
   · rename_i e;subst e;simp only [Option.some.injEq] at h;rw [<- h];cases b <;> rfl
   · cases h
  | _ => simp [mrgD] at h
 | _ => intro y d h;cases y <;> simp [mrgD] at h <;> rw [<- h] <;> cases b <;> rfl
theorem QsW {X:Cx} {nx:Nat} {lim:Lim} {b:Bool} {x y d:D C} {v:Value} (h:mrgT b x y = some d) (hx:RO T X nx lim (bif b then x else y) v):RO T X nx lim d v := by
 have key:d = .top \/ mrgD b x y = some d := by
  unfold mrgT at h
  split at h
  · left;simpa using h.symm
  · left;simpa using h.symm
  · right;exact h
 rcases key with rfl | key
 · exact RO.mk (RV.top _ _ _) rfl
 · rw [QsV _ _ _ key];exact hx
theorem mrgE_get {b:Bool} {x y env:Env C} {t:Nat}:∀ {l:List Nat} {r:Env C},mrgE b x y l = some r -> (l.any (Nat.beq t) = true /\ mrgT b (eget x t) (eget y t) = some (eget (r ++ env) t)) \/ (l.any (Nat.beq t) = false /\ eget (r ++ env) t = eget env t)
 | [],r,h => by simp [mrgE] at h;subst h;exact .inr ⟨rfl,rfl⟩
 | u :: l,r,h => by
  simp only [mrgE] at h;cases h1:mrgT b (eget x u) (eget y u) with
  | none => simp [h1] at h
  | some d =>
   cases h2:mrgE b x y l with
   | none => simp [h1,h2] at h
   | some r' =>
    simp only [h1,h2,Option.some.injEq] at h;subst h;rw [List.cons_append,Qs]
    by_cases hu:t = u
    · subst hu;left;simp [h1]
    · have hb:Nat.beq t u = false := by cases hq:Nat.beq t u with
       | false => rfl
       | true => exact (hu (Nat.eq_of_beq_eq_true hq)).elim
      simp only [hu,if_false,List.any_cons,hb,Bool.false_or];exact mrgE_get h2
theorem mrgC_cases (m:Option (List Nat)) (env:Env C) (b:Bool) (p q:Pg C (Ev.X × Env C)) :
 mrgC m env b p q = .br b p q \/ ∃ l x y r,p = .ret (.normal,x) /\ q = .ret (.normal,y) /\ mrgE b x y l = some r /\ m = some l /\ mrgC m env b p q = .ret (.normal,r ++ env) := by
 unfold mrgC;cases m with
 | none => exact .inl rfl
 | some l =>
  simp only
  split
  · rename_i x y
    split
    · rename_i r hr;exact .inr ⟨l,x,y,r,rfl,rfl,hr,rfl,rfl⟩
    · exact .inl rfl
  · exact .inl rfl
theorem okL {ro:Option Nat} {Φ:Fns C} {f nt:Nat} {c c1:Code} (h:Y9 c = true \/ ro = none /\ ∃ fn body,Φ.fn f = some fn /\ nt = fn.ntmps /\ fn.body = some body /\ ∀ b ∈ QQ c,b ∈ QQ body) (h1:Y9 c = true -> Y9 c1 = true) (h2:∀ b ∈ QQ c1,b ∈ QQ c) :
 Y9 c1 = true \/ ro = none /\ ∃ fn body,Φ.fn f = some fn /\ nt = fn.ntmps /\ fn.body = some body /\ ∀ b ∈ QQ c1,b ∈ QQ body := by
 rcases h with h | ⟨h,fn,body,h3,h4,h5,h6⟩
 · exact .inl (h1 h)
 · exact .inr ⟨h,fn,body,h3,h4,h5,fun b hb => h6 b (h2 b hb)⟩
def Qfk (P:Program) (T:Tab C) (Φ:Fns C) (n:Nat):Prop := ∀ ro m f nt code,(Y9 code = true \/ ro = none /\ ∃ fn body,Φ.fn f = some fn /\ nt = fn.ntmps /\ fn.body = some body /\ ∀ b ∈ QQ code,b ∈ QQ body) -> Ya nt code = true -> ∀ B,QcE B code ->
 ∀ X h nx lim e env x env' h' nx' tr a Q,G T X h nx lim -> Qu T X nx lim env a.tmps -> nx' <= lim.top -> nt <= a.tmps.size -> Ex e (evC T Φ n f code env) h nx (x,env') h' nx' tr -> Qjh T B X nx lim h' nx' env' a (Q (QcD x)) -> code.wpIn (roF ro) m P Q a X.w
def Qfl (P:Program) (T:Tab C) (Φ:Fns C) (n:Nat):Prop := ∀ f fn body b,Φ.fn f = some fn -> fn.body = some body -> Ya fn.ntmps (.loop b) = true -> (∀ b' ∈ QQ (.loop b),b' ∈ QQ body) -> Φ.loop f (Qr b) = none -> ∀ B,QcE B b ->
 ∀ X h nx lim e env x env' h' nx' tr a Q,G T X h nx lim -> Qu T X nx lim env a.tmps -> nx' <= lim.top -> fn.ntmps <= a.tmps.size -> Ex e (evC T Φ n f (.loop b) env) h nx (x,env') h' nx' tr -> Qjh T B X nx lim h' nx' env' a (Q (QcD x)) -> Code.rounds P b Q n a X.w
variable (K:Q5 P T) (F:Qh P T Φ)
def Qvg (P:Program) (T:Tab C) (call:FuncId -> List (D C) -> Pg C (D C)):Prop :=
 ∀ f args vs X h nx lim e d h' nx' tr,G T X h nx lim -> RVs T X args vs -> (∀ a ∈ args,∀ id ∈ D.refs a,old nx lim id) -> nx' <= lim.top -> Ex e (call f args) h nx d h' nx' tr ->
  (callFunc f ⟨vs⟩).run P X.w = .ok (.enter f ⟨vs⟩) X.w /\ Calls P f ⟨vs⟩ X.w (QT T X nx lim h' nx' d)
theorem K2:∀ (l:List (D C)) (n t:Nat),eget (eargs n l) t = if n <= t then l.getD (t - n) .top else .top := by
 intro l
 induction l with
 | nil => intro n t;simp [eargs,eget]
 | cons d l ih =>
  intro n t;rw [eargs,Qs,ih]
  by_cases h1:t = n
  · subst h1;simp
  · by_cases h2:n <= t
    · have h3:n + 1 <= t := by omega
      have h4:t - n = (t - (n + 1)) + 1 := by omega
      simp [h1,h2,h3,h4]
    · have h3:¬ n + 1 <= t := by omega
      simp [h1,h2,h3]
theorem RVs.get {X:Cx} {ds:List (D C)} {vs:List Value} (h:RVs T X ds vs):∀ t,RV T X (ds.getD t .top) (vs.getD t undef) := by
 induction h with
 | nil => intro t;simp;exact RV.top _ _ _
 | cons h _ ih => intro t;cases t with
  | zero => simpa using h
  | succ t => simpa using ih t
theorem RVs.mono' {X X':Cx} {nx:Nat} {lim:Lim} (L:Laws T) (s:Step X nx lim X') {ds:List (D C)} {vs:List Value} (h:RVs T X ds vs):(∀ d ∈ ds,∀ id ∈ D.refs d,old nx lim id) -> RVs T X' ds vs := by
 induction h with
 | nil => intro _;exact .nil
 | cons h _ ih =>
  intro ho;exact .cons (RO.step L s (nx' := nx) ⟨h,ho _ (by simp)⟩ (Nat.le_refl _)).1 (ih fun d hd => ho d (by simp [hd]))
def oneD:List (D C) -> D C
 | [] => .tup .anil
 | [d] => d
 | d :: e :: l => .tup (D.ofList (d :: e :: l))
theorem QsX (f:FuncId) (n0:Nat) (env:Env C) (rs:List ResultVar):outD T Φ f n0 env rs =
 .bind (VZ T env rs) fun l => bif Φ.keeps f then .ret (oneD l) else .bind (frz (oneD l)) fun d => .gc n0 d.refs (.ret d) := by
 unfold outD
 congr 1
 funext l
 match l with
 | [] => rfl
 | [_] => rfl
 | _ :: _ :: _ => rfl
theorem QsY {X:Cx} {nx:Nat} {lim:Lim}:∀ {l:List (D C)} {us:List Value},RVs T X l us -> (∀ d ∈ l,∀ id ∈ D.refs d,old nx lim id) -> RO T X nx lim (oneD l) (if h:us.toArray.size = 1 then us.toArray[0] else .tuple us.toArray)
 | [],[],_,_ => RO.mk (.mk rfl (.tup .vnil)) rfl
 | [d1],[u1],.cons r2 _,r3 => ⟨r2,r3 d1 (by simp)⟩
 | d1 :: d2 :: l,u1 :: u2 :: us,r2,r3 => by
  refine ⟨.mk rfl ?_,fun id hid => ?_⟩
  · have hne:¬ (u1 :: u2 :: us).toArray.size = 1 := by simp
    simp only [hne,dif_neg,not_false_eq_true];exact .tup r2.row
  · obtain ⟨q,hq,hi⟩ := V4 _ id (by simpa [D.refs,oneD] using hid);exact r3 q hq id hi
include K F
theorem Jl {n:Nat} (hc:Qfk P T Φ n):Qvg P T (KQ T Φ (evC T Φ n)) := by
 intro g args vs X h nx lim e d h' nx' tr gg hargs hrefs hlim hx;unfold KQ at hx;cases hf:Φ.fn g with
 | none => simp only [hf] at hx;exact (Ex.fail hx).elim
 | some fn =>
  simp only [hf] at hx;cases hb:fn.body with
  | none => simp only [hb] at hx;exact (Ex.fail hx).elim
  | some body =>
   simp only [hb] at hx;have hx := Ex.cnt hx;obtain ⟨⟨x,env1⟩,h1,n1,t1,t2,q1,q2,_⟩ := Ex.bind hx;obtain ⟨f1,f2,f3⟩ := F.fn g fn hf;have hle1 := Ex.le q1;refine ⟨?_,?_⟩
   · simp only [callFunc,Sem.run_bind];show ((match P.funcs[g]? with | none => _ | some fn => _:Sem Next)).run P X.w = _
     rw [f1];simp [f2,hb]
   · refine (callsIn_wide (n := 0)).1 (callsIn_of_wp_marks f1 hb trivial (hc none 0 g fn.ntmps body (.inr ⟨rfl,fn,body,hf,rfl,hb,fun b hb => hb⟩) (f3 body hb) (fun _ => false) (fun _ _ => rfl) X h nx lim e (eargs 0 args) x env1 h1 n1 t1 _ _ gg ?_ ?_ ?_ q1 ?_))
     · intro t;rw [K2];simp only [Nat.zero_le,if_true,Nat.sub_zero];refine ⟨?_,?_⟩
       · have := hargs.get t
         by_cases ht:t < vs.length
         · have e1:((⟨vs⟩:Array Value) ++ Array.replicate (fn.ntmps - (⟨vs⟩:Array Value).size) undef).getD t undef = vs.getD t undef := by
            simp [Array.getD_eq_getD_getElem?,Array.getElem?_append,ht]
           rw [e1];exact this
         · have:args.getD t .top = .top := by
            have := hargs.length;simp [List.getD_eq_getElem?_getD];rw [List.getElem?_eq_none (by omega)];rfl
           rw [this];exact RV.top _ _ _
       · by_cases ht:t < args.length
         · have:args.getD t .top ∈ args := by
            simp [List.getD_eq_getElem?_getD,ht]
           exact hrefs _ this
         · have:args.getD t .top = .top := by
            simp [List.getD_eq_getElem?_getD];rw [List.getElem?_eq_none (by omega)];rfl
           rw [this];simp [D.refs]
     · have := Ex.le q2;omega
     · simp;omega
     · intro a' XX gg0 ss0 ee0 _ hdef _;obtain ⟨rs,hrs,hnd,hmk⟩ := hdef;rw [List.append_nil] at hrs;have hall:∀ X0,G T X0 h1 n1 lim -> Step X nx lim X0 -> Qu T X0 n1 lim env1 a'.tmps -> Ex e (.bind (Qcn T env1 (Φ.rest g)) fun _ => outD T Φ g nx env1 fn.results.toList) h1 n1 d h' nx' t2 -> ∃ v,(results fn a'.tmps).run P X0.w = .ok v X0.w /\ QT T X nx lim h' nx' d (.returned v) X0.w := ?hall
       case hall =>
        intro X0 g0 s0 e0;intro q2;obtain ⟨d9,h9,n9,t9,t8,q9,q2,_⟩ := Ex.bind q2;obtain ⟨X1,w1,g1,s9,hn9⟩ := Ku K _ g0 q9;have hn9 := hn9.symm;subst hn9;have s1 := s0.trans s9 hle1;have e1 := e0.step K.base s9 (Nat.le_refl _);rw [<- w1];clear q9 g0 s0 e0;generalize h9 = h1 at g1 q2;generalize t8 = t2 at q2
        have hout:Ex e (outD T Φ g nx env1 fn.results.toList) h1 n1 d h' nx' t2 -> ∃ v,(results fn a'.tmps).run P X1.w = .ok v X1.w /\ QT T X nx lim h' nx' d (.returned v) X1.w := by
         intro q2;rw [QsX] at q2;obtain ⟨l,h2,n2,t3,t4,q3,q4,_⟩ := Ex.bind q2;obtain ⟨e2,e3,us,r1,r2,r3⟩ := Qhe K g1 e1 fn.results.toList q3;have e2 := e2.symm;have e3 := e3.symm;subst e2;subst e3
         have hrun:(results fn a'.tmps).run P X1.w = .ok (if h:us.toArray.size = 1 then us.toArray[0] else .tuple us.toArray) X1.w := by
          have hm:fn.results.mapM (resM a'.tmps) = List.toArray <$> fn.results.toList.mapM (resM a'.tmps) := by rw [Array.mapM_eq_mapM_toList]
          have e0:results fn a'.tmps = (do let vs <- fn.results.mapM (resM a'.tmps);pure (if h:vs.size = 1 then vs[0] else .tuple vs)) := by
           unfold results
           congr 1
          rw [e0,hm];simp only [map_eq_pure_bind,bind_assoc,Sem.run_bind,r1,Result.andThen_ok,Sem.run_pure,pure_bind]
         have hdl:RO T X1 n1 lim (oneD l) (if h:us.toArray.size = 1 then us.toArray[0] else .tuple us.toArray) := QsY r2 r3
         generalize hvv:(if h:us.toArray.size = 1 then us.toArray[0] else Value.tuple us.toArray) = vv at hrun hdl
         cases hk:Φ.keeps g with
         | true =>
          simp only [hk,cond_true] at q4;obtain ⟨c1,c2,c3,_⟩ := Ex.ret q4;rw [c1,c2,c3];exact ⟨_,hrun,_,X1,rfl,rfl,g1,s1,hdl⟩
         | false =>
          simp only [hk,cond_false] at q4;obtain ⟨d2,h3,n3,t5,t6,q5,q6,_⟩ := Ex.bind q4;obtain ⟨_,q7⟩ := Ex.gc q6;obtain ⟨c1,c2,c3,_⟩ := Ex.ret q7;rw [c1,c2,c3]
          have hfz:∃ X2,X2.w = X1.w /\ G T X2 h3 n1 lim /\ Step X1 n1 lim X2 /\ RV T X2 d2 vv /\ n3 = n1 /\ ∀ id ∈ d2.refs,old n1 lim id := by
           rcases hdl.1 with ⟨hrow,cs,hr,hv⟩ | ⟨hrow,hr⟩
           · obtain ⟨X2,a1,a2,a3,a4,a5,a6,a7⟩ := QaU K _ g1 hr hdl.2 q5;exact ⟨X2,a1,a2,a3,.inl ⟨a7.trans hrow,cs,a4,hv⟩,a5,a6⟩
           · obtain ⟨X2,a1,a2,a3,a4,a5,a6,a7⟩ := QaU K _ g1 hr hdl.2 q5;exact ⟨X2,a1,a2,a3,.inr ⟨a7.trans hrow,a4⟩,a5,a6⟩
          obtain ⟨X2,a1,a2,a3,a4,a5,a6⟩ := hfz;rw [a5];obtain ⟨X3,b1,b2,b3,_⟩ := a2.drop K.base (h' := Heap.drop nx n1 d2.refs h3) (fun i => by rw [ZN];split <;> simp)
          exact ⟨_,hrun,_,X3,rfl,by rw [b1,a1],b2,(s1.trans a3 hle1).trans b3 hle1,RO.step K.base b3 ⟨a4,a6⟩ (Nat.le_refl _)⟩
        exact hout q2
       have fin:Ex e (.bind (Qcn T env1 (Φ.rest g)) fun _ => outD T Φ g nx env1 fn.results.toList) h1 n1 d h' nx' t2 -> LeavesInM Fence.wide 0 P fn a'.tmps (QT T X nx lim h' nx' d) a'.defers .returning XX.w := fun q2 => by
        rw [hrs];exact QcC K rs XX hnd hmk gg0 ss0 ee0 fun X' g' s' e' => hall X' g' s' e' q2
       cases x with
       | normal => exact fin q2
       | ret => exact fin q2
       | exit id => exact (Ex.fail q2).elim
omit K F in
theorem QT.since {X X':Cx} {nx nx':Nat} {lim:Lim} {h':Heap C} {d:D C} {en:Ending} {w':World} (s:Step X nx lim X') (h:QT T X' nx lim h' nx' d en w'):QT T X nx lim h' nx' d en w' := by
 obtain ⟨v,Y,h1,h2,h3,h4,h5⟩ := h;exact ⟨v,Y,h1,h2,h3,s.trans h4 (Nat.le_refl _),h5⟩
omit K F in
theorem Kc (E:Env C):∀ (ps:List Nat) (xs:List (D C)) (t:Nat),t ∉ ps -> eget (zipE ps xs ++ E) t = eget E t
 | [],_,_,_ => rfl
 | _ :: _,[],_,_ => rfl
 | p :: ps,x :: xs,t,h => by
  simp only [List.mem_cons,not_or] at h;rw [zipE,List.cons_append,Qs,if_neg h.1];exact Kc E ps xs t h.2
omit K F in
theorem Qfm (E:Env C) (t0:Nat) (x0:D C) (t:Nat) (h:t ≠ t0):∀ A:Env C,eget (A ++ (t0,x0) :: E) t = eget (A ++ E) t
 | [] => by rw [List.nil_append,List.nil_append,Qs,if_neg h]
 | (j,d) :: A => by rw [List.cons_append,List.cons_append,Qs,Qs,Qfm E t0 x0 t h A]
omit K F in
theorem QsZ {nt t:Nat} {ps:List Nat} (h:ps.any (Nat.beq t) = false):t ∉ ps := fun hm => by
 have:ps.any (Nat.beq t) = true := List.any_eq_true.2 ⟨t,hm,by simp⟩
 rw [this] at h;cases h
omit K F in
theorem Qs0 {X:Cx} {nx:Nat} {lim:Lim} {nt:Nat}:∀ (ps:List Nat) (xs:List (D C)) (vs:List Value) (E:Env C) (tm:Array Value),okPs nt ps = true -> nt <= tm.size -> ps.length = xs.length -> RVs T X xs vs -> (∀ a ∈ xs,∀ id ∈ D.refs a,old nx lim id) ->
 (∀ t,RO T X nx lim (eget E t) (tm.getD t undef)) -> ∀ t,RO T X nx lim (eget (zipE ps xs ++ E) t) (((ps.zip vs).foldl (fun (tmps:Array Value) (p:Nat × Value) => tmps.setIfInBounds p.1 p.2) tm).getD t undef) := by
 intro ps
 induction ps with
 | nil => intro xs vs E tm _ _ _ _ _ hE t;simpa [zipE] using hE t
 | cons p ps ih =>
  intro xs vs E tm hok hsz hlen hr hx hE t;cases hr with
  | nil => simp at hlen
  | @cons x xs v vs hv hr =>
   simp only [okPs,Bool.and_eq_true,Nat.blt_eq,Bool.not_eq_true'] at hok;obtain ⟨h1,h2,h3⟩ := hok;have hp := QsZ (nt := nt) h2
   have := ih xs vs ((p,x) :: E) (tm.setIfInBounds p v) h3 (by simpa using hsz) (by simpa using hlen) hr (fun a ha => hx a (by simp [ha])) (fun u => by
    rw [Qs]
    by_cases hu:u = p
    · subst hu;simp only [if_true]
      have e:(tm.setIfInBounds u v).getD u undef = v := by
       have:u < tm.size := by omega
       simp [Array.getD_eq_getD_getElem?,this]
      rw [e];exact ⟨hv,hx x (by simp)⟩
    · simp only [hu,if_false]
      have e:(tm.setIfInBounds p v).getD u undef = tm.getD u undef := by
       simp [Array.getD_eq_getD_getElem?,Array.getElem?_setIfInBounds_ne (Ne.symm hu)]
      rw [e];exact hE u) t
   rw [List.zip_cons_cons,List.foldl_cons,zipE,List.cons_append,Qs]
   by_cases ht:t = p
   · subst ht;rw [Kc _ _ _ _ hp,Qs,if_pos rfl] at this;rw [if_pos rfl];exact this
   · rw [if_neg ht];rw [Qfm E p x t ht] at this;exact this
omit K F in
theorem QcF {X:Cx} {nx:Nat} {lim:Lim} {tm:Array Value}:∀ (slots:List Nat) (ds:List (D C)),RVs T X ds (slots.map fun t => tm.getD t undef) -> (∀ a ∈ ds,∀ id ∈ D.refs a,old nx lim id) -> ∀ t,RO T X nx lim (eget (zipE slots ds) t) (tm.getD t undef)
 | [],ds,h,_,t => RO.mk (RV.top _ _ _) rfl
 | s :: slots,[],h,_,t => RO.mk (RV.top _ _ _) rfl
 | s :: slots,d :: ds,h,hr,t => by
  cases h with
  | cons hv h =>
   rw [zipE,Qs]
   by_cases e:t = s
   · subst e;rw [if_pos rfl];exact ⟨hv,hr d (by simp)⟩
   · rw [if_neg e];exact QcF slots ds h (fun a ha => hr a (by simp [ha])) t
omit K F in
theorem Qfn:∀ {env:Env C},(env.all fun p => p.2.noYl) = true -> ∀ t,(eget env t).noYl = true
 | [],_,_ => rfl
 | (j,d) :: r,h,t => by
  simp only [List.all_cons,Bool.and_eq_true] at h;rw [Qs]
  split
  · exact h.1
  · exact Qfn h.2 t
omit K F in
theorem Yx:∀ (l:List (Nat × Value)) (tm:Array Value),(l.foldl (fun (tmps:Array Value) (p:Nat × Value) => tmps.setIfInBounds p.1 p.2) tm).size = tm.size
 | [],_ => rfl
 | p :: l,tm => by rw [List.foldl_cons,Yx l];simp
omit F in
theorem QbE {n:Nat} (hc:Qfk P T Φ n):Qjd P T (Qea T Φ (evC T Φ n)) := by
 intro nt slots ps asn body caps xs l vs X h nx lim e d h' nx' tr g hR hcr hxs hxr hlim hx;unfold Qea at hx;have hyb:Nat.beq ZA ZA = true := by simp
 simp only [hyb,cond_true,Qrv] at hx;cases hc1:(caps.noYl && xs.all D.noYl) && ((Nat.beq xs.length ps.length && okPs nt ps) && (okC nt asn && okC nt body)) with
 | false => rw [hc1] at hx;exact (Ex.fail hx).elim
 | true =>
  rw [hc1] at hx;simp only [cond_true] at hx;simp only [Bool.and_eq_true,okC] at hc1;obtain ⟨⟨hn1,hn2⟩,⟨hlen,hps⟩,⟨ha1,ha2⟩,⟨hb1,hb2⟩⟩ := hc1;have hlen := Nat.eq_of_beq_eq_true hlen;cases hR with
  | @yl _ _ _ _ _ _ _ rec hw hm hs hcp =>
   obtain ⟨hs1,hs2,hs3,hs4,hs5,hs6⟩ := hs;subst hs4;subst hs5
   have hlv:(⟨vs⟩:Array Value).size = rec.params.size := by
    have h1 := hxs.length;have h2:ps.length = rec.params.size := by rw [<- hs3];simp
    simp;omega
   have hy := run_yield (P := P) (args := ⟨vs⟩) hw hlv;refine ⟨_,_,_,_,hy,fun m => roundIn_of_wpIn trivial ?_⟩;obtain ⟨⟨x1,env1⟩,h1,n1,t1,t2,q1,q2,_⟩ := Ex.bind hx;have hle1 := Ex.le q1;have hle2 := Ex.le q2;cases x1 with
   | exit id => exact (Ex.fail q2).elim
   | ret => exact (Ex.fail q2).elim
   | normal =>
    simp only at q2;cases hev:env1.all (fun p => p.2.noYl) with
    | false => rw [hev] at q2;exact (Ex.fail q2).elim
    | true =>
     rw [hev] at q2;simp only [cond_true] at q2;obtain ⟨⟨x2,env2⟩,h2,n2,t3,t4,q3,q4,_⟩ := Ex.bind q2;cases x2 with
     | exit id => exact (Ex.fail q4).elim
     | ret => exact (Ex.fail q4).elim
     | normal =>
      obtain ⟨rfl,rfl,rfl,rfl⟩ := Ex.ret q4
      have efold:((rec.params.zip ⟨vs⟩).foldl (fun (tmps:Array Value) (x:Nat × Value) => match x with | (t,a) => tmps.setIfInBounds t a) rec.tmps) = (ps.zip vs).foldl (fun (tmps:Array Value) (p:Nat × Value) => tmps.setIfInBounds p.1 p.2) rec.tmps := by
       rw [<- Array.foldl_toList,Array.toList_zip,hs3]
      rw [efold];refine hc (some l) m 0 nt rec.assign (.inl ha2) ha1 (fun _ => false) (fun _ _ => rfl) X h nx lim e _ .normal env1 h1 n1 t1 _ _ g ?_ (by omega) ?_ q1 ?_
      · exact Qs0 ps xs vs _ rec.tmps hps hs6 hlen.symm hxs hxr (QcF slots caps.toList (hcp.toList T rfl) (fun a ha id hid => hcr id (YP caps a ha id hid)))
      · show nt <= ((ps.zip vs).foldl _ rec.tmps).size;rw [Yx];exact hs6
      · intro a1 X1 g1 s1 e1 z1 _ _;obtain ⟨hw1,hm1⟩ := s1.keeps.loop l rec hw hm;have tn1:Kq X1 l (X1.w.putObj l (.loop { rec with state := .busy })) := YR hw1 (fun c t f h => by cases h) hm1
        refine ⟨_,run_beginRound hw1 hs1,?_⟩;refine hc (some l) m 0 nt rec.body (.inl hb2) hb1 (fun _ => false) (fun _ _ => rfl) ⟨X1.w.putObj l (.loop { rec with state := .busy }),X1.ρ,X1.O⟩ h1 n1 lim e env1 .normal env2 h' nx' t3 a1 _ (g1.turn K.base tn1) (fun t => (e1 t).turn K.base tn1 (Qfn hev t)) hlim ?_ q3 ?_
        · have:((ps.zip vs).foldl (fun (tmps:Array Value) (p:Nat × Value) => tmps.setIfInBounds p.1 p.2) rec.tmps).size = rec.tmps.size := Yx _ _;rw [z1,this];exact hs6
        · intro a2 X2 g2 s2 e2 _ _ _;have hl1:l < X1.w.heap.size := (Array.getElem?_eq_some_iff.1 hw1).1;obtain ⟨hw2,hm2⟩ := s2.keeps.loop l { rec with state := .busy } (World.putObj_heap_same hl1) hm1;have tn3:Kq X2 l (X2.w.putObj l (.loop { { rec with state := .busy } with state := if (none:Option Code).isNone then .ready else .done,pending := none })) := YR hw2 (fun c t f h => by cases h) hm2
          refine ⟨_,_,run_endRound none hw2,?_⟩;refine ⟨_,⟨_,X2.ρ,X2.O⟩,rfl,rfl,g2.turn K.base tn3,s1.trans (Step.back tn1 s2 tn3 ?_) hle1,RO.mk (.mk rfl (.bool true)) rfl⟩;refine (World.putObj_heap_same (Array.getElem?_eq_some_iff.1 hw2).1).trans ?_;rw [hw1]
          have:({ { rec with state := .busy } with state := if (none:Option Code).isNone then LoopState.ready else .done,pending := none }:Loop) = rec := by
           cases rec;simp only at hs1 hs2;subst hs1;subst hs2;rfl
          rw [this]
theorem QcG {n:Nat} (hc:Qfk P T Φ n):KY P T (Qea T Φ (evC T Φ n)) := by
 refine ⟨QbE K hc,?_⟩;intro g hgy args vs X h nx lim e d h' nx' tr gg hargs hrefs hlim hx;unfold Qea at hx
 have hyb:Nat.beq g ZA = false := by
  cases h:Nat.beq g ZA with
  | false => rfl
  | true => exact absurd (Nat.eq_of_beq_eq_true h) hgy
 simp only [hyb,cond_false] at hx;cases hos:Φ.ospec g with
 | some s =>
  simp only [hos] at hx;obtain ⟨u,h1,n1,t1,t2,q1,q2,_⟩ := Ex.bind hx;obtain ⟨X1,w1,g1,s1,hn1⟩ := Ku K _ gg q1;subst hn1;have := F.ospec g s hos args vs X1 h1 n1 lim e d h' nx' t2 g1 (hargs.mono' K.base s1 hrefs) hrefs hlim q2;rw [w1] at this;exact ⟨this.1,this.2.mono fun en w2 hp => QT.since s1 hp⟩
 | none =>
 simp only [hos] at hx;cases hs:Φ.spec g with
 | some s =>
  simp only [hs] at hx;obtain ⟨args',h1,n1,t1,t2,q1,hx2,_⟩ := Ex.bind hx;clear hx;obtain ⟨X',w',g',s',r',hn,hrf⟩ := Qi7 K args gg hargs hrefs q1;subst hn;cases hsa:s args' with
  | none => rw [hsa] at hx2;exact (Ex.fail hx2).elim
  | some bd =>
   obtain ⟨b,d0⟩ := bd;rw [hsa] at hx2
   have hx2:b = true /\ ∃ t3,Ex e (.ret d0) h1 n1 d h' nx' t3 := by
    cases ht:Φ.total g with
    | false =>
     simp only [ht,cond_false] at hx2;rcases Ex.br hx2 with ⟨rfl,hx2⟩ | ⟨rfl,hx2⟩
     · exact ⟨rfl,_,hx2⟩
     · exact (Ex.fail hx2).elim
    | true =>
     simp only [ht,cond_true] at hx2;cases b with
     | true => exact ⟨rfl,_,hx2⟩
     | false => exact (Ex.fail hx2).elim
   obtain ⟨rfl,t3,hx2⟩ := hx2;obtain ⟨rfl,rfl,rfl,_⟩ := Ex.ret hx2;have := F.spec g s args' _ hs hsa X' _ _ lim vs g' r' hrf;rw [w'] at this;exact ⟨this.1,this.2.mono fun en w1 hp => QT.since s' hp⟩
 | none =>
  simp only [hs] at hx;exact Jl K F hc g args vs X h nx lim e d h' nx' tr gg hargs hrefs hlim hx
theorem Qji:∀ n,Qfk P T Φ n /\ Qfl P T Φ n := by
 intro n
 induction n with
 | zero =>
  refine ⟨?_,?_⟩
  · intro ro m f nt code _ _ B _ X h nx lim e env x env' h' nx' tr a Q _ _ _ _ hx;exact (Ex.fail hx).elim
  · intro f fn body b _ _ _ _ _ B _ X h nx lim e env x env' h' nx' tr a Q _ _ _ _ hx;exact (Ex.fail hx).elim
 | succ n ih =>
  obtain ⟨ihC,ihR⟩ := ih;have hcall := QcG K F ihC
  have hR:Qfl P T Φ (n + 1) := by
   intro f fn body b hf hb hcb hl hnone B hB X h nx lim e env x env' h' nx' tr a Q g he hlim hsz hx hk;simp only [evC,QsL,hnone] at hx;obtain ⟨⟨x1,env1⟩,h1,n1,t1,t2,q1,q2,_⟩ := Ex.bind hx;have hle := Ex.le q2;have hle1 := Ex.le q1;rw [rounds_succ];refine (wpIn_wide (n := 0)).1 (ihC none 0 f fn.ntmps b (.inr ⟨rfl,fn,body,hf,rfl,hb,fun b' hb' => hl b' (by simp [QQ,hb'])⟩) (by simpa [Ya] using hcb) B hB X h nx lim e env x1 env1 h1 n1 t1 a _ g he (by omega) hsz q1 ?_)
   intro a1 X1 g1 s1 e1 hs1 hd1 kp1;cases x1 with
   | normal =>
    simp only [QoG] at q2;exact ihR f fn body b hf hb hcb hl hnone B hB X1 h1 n1 lim e env1 x env' h' nx' t2 a1 Q g1 e1 hlim (by omega) q2 fun a2 X2 g2 s2 e2 hs2 hd2 kp2 => hk a2 X2 g2 (s1.trans s2 hle1) e2 (by omega) (hd1.trans s1 s2 hd2) (kp1.trans kp2)
   | exit id =>
    obtain ⟨hxx,rfl,rfl,rfl⟩ := Ex.ret q2;obtain ⟨rfl,rfl⟩ := Prod.mk.inj hxx;exact hk a1 X1 g1 s1 e1 hs1 hd1 kp1
   | ret =>
    obtain ⟨hxx,rfl,rfl,rfl⟩ := Ex.ret q2;obtain ⟨rfl,rfl⟩ := Prod.mk.inj hxx;exact hk a1 X1 g1 s1 e1 hs1 hd1 kp1
  refine ⟨?_,hR⟩;intro ro m f nt code hfl hcb B hB X h nx lim e env x env' h' nx' tr a Q g he hlim hsz hx hk
  have done:∀ x0,Ex e (.ret (x0,env):Pg C (Ev.X × Env C)) h nx (x,env') h' nx' tr -> Q (QcD x0) a X.w := by
   intro x0 hx;obtain ⟨hxx,rfl,rfl,rfl⟩ := Ex.ret hx;obtain ⟨rfl,rfl⟩ := Prod.mk.inj hxx;exact hk a X g (.refl _ _ _) he rfl (.refl _ _ _) (.refl _ _)
  cases code with
  | skip => exact wpIn_skip (done _ hx)
  | label l => exact wpIn_label (done _ hx)
  | ret => exact wpIn_ret (done _ hx)
  | exit id => exact wpIn_exit (done _ hx)
  | region id ops draw =>
   simp only [evC] at hx;simp only [Ya,Bool.and_eq_true] at hcb;have hdst:∀ o ∈ ops.toList,∀ t,o.dst = some t -> t < a.tmps.size := fun o ho t ht => Nat.lt_of_lt_of_le (Qjg hcb.1 o ho t ht) hsz;have hBo:∀ o ∈ ops.toList,∀ t,o.dst = some t -> B t = false := fun o ho t ht => hB t (by simp only [asgL,List.mem_filterMap];exact ⟨o,ho,ht⟩)
   cases draw with
   | true =>
    simp only [cond_true] at hx;obtain ⟨_,h0,n0,t8,t9,q0,hx,_⟩ := Ex.bind hx;obtain ⟨X0,w0,g0,s0,hn0⟩ := Ku K _ g q0;have hn0 := hn0.symm;subst hn0;simp only [Qu9] at hx;have hx := Ex.cnt hx;obtain ⟨env1,h1,n1,t1,t2,q1,q2,_⟩ := Ex.bind hx;obtain ⟨hxx,rfl,rfl,rfl⟩ := Ex.ret q2;obtain ⟨rfl,rfl⟩ := Prod.mk.inj hxx;have hle := Ex.le q1;rw [<- w0];exact QsU K hcall hBo K.order (Qhf (by simpa using hcb.2)) g0 (he.step K.base s0 (Nat.le_refl _)) hlim hdst q1 fun a' X' g' s' e' hs' hd' kp' => hk a' X' g' (s0.trans s' (Nat.le_refl _)) e' hs' (.of_eq hd') kp'
   | false =>
    simp only [cond_false,regC] at hx;obtain ⟨env1,h1,n1,t1,t2,q1,q2,_⟩ := Ex.bind hx;obtain ⟨hxx,rfl,rfl,rfl⟩ := Ex.ret q2;obtain ⟨rfl,rfl⟩ := Prod.mk.inj hxx;refine wpIn_region ?_;rw [List.range_eq_range'];have := QoV (ro := ro) (m := m) K hcall hBo ops.toList 0 rfl g he hlim hdst q1 (Q := Q) (fun a' X' g' s' e' hs' hd' kp' => hk a' X' g' s' e' hs' (.of_eq hd') kp')
    simpa using this
  | seq c1 c2 =>
   simp only [evC] at hx;simp only [Ya,Bool.and_eq_true] at hcb;obtain ⟨⟨x1,env1⟩,h1,n1,t1,t2,q1,q2,_⟩ := Ex.bind hx;have hle := Ex.le q2;have hle1 := Ex.le q1;refine wpIn_seq (ihC ro m f nt c1 (okL hfl (fun h => by simp only [Y9,Bool.and_eq_true] at h;exact h.1) (fun b hb => by simp [QQ,hb])) hcb.1 B (fun t ht => hB t (by simp [asgL,ht])) X h nx lim e env x1 env1 h1 n1 t1 a _ g he (by omega) hsz q1 ?_)
   intro a1 X1 g1 s1 e1 hs1 hd1 kp1;cases x1 with
   | normal =>
    simp only [QoG] at q2;exact ihC ro m f nt c2 (okL hfl (fun h => by simp only [Y9,Bool.and_eq_true] at h;exact h.2) (fun b hb => by simp [QQ,hb])) hcb.2 B (fun t ht => hB t (by simp [asgL,ht])) X1 h1 n1 lim e env1 x env' h' nx' t2 a1 Q g1 e1 hlim (by omega) q2 fun a2 X2 g2 s2 e2 hs2 hd2 kp2 => hk a2 X2 g2 (s1.trans s2 hle1) e2 (by omega) (hd1.trans s1 s2 hd2) (kp1.trans kp2)
   | exit id =>
    obtain ⟨hxx,rfl,rfl,rfl⟩ := Ex.ret q2;obtain ⟨rfl,rfl⟩ := Prod.mk.inj hxx;exact hk a1 X1 g1 s1 e1 hs1 hd1 kp1
   | ret =>
    obtain ⟨hxx,rfl,rfl,rfl⟩ := Ex.ret q2;obtain ⟨rfl,rfl⟩ := Prod.mk.inj hxx;exact hk a1 X1 g1 s1 e1 hs1 hd1 kp1
  | cond c c1 c2 =>
   simp only [evC,Qu8] at hx;simp only [Ya,Bool.and_eq_true] at hcb
   have side0:∀ (b:Bool) (env0:Env C) (x0:Ev.X) (env1:Env C) (tr1:Tr) (B':Nat -> Bool),(∀ t ∈ asgL c1 ++ asgL c2,B' t = false) -> Qu T X nx lim env0 a.tmps -> a.eval c = .bool b -> Ex e (evC T Φ n f (if b then c1 else c2) env0) h nx (x0,env1) h' nx' tr1 ->
    Qjh T B' X nx lim h' nx' env1 a (Q (QcD x0)) -> (Code.cond c c1 c2).wpIn (roF ro) m P Q a X.w := by
    intro b env0 x0 env1 tr1 B' hB' he0 hc0 hx0 hk0;refine wpIn_cond hc0 (ihC ro m f nt _ ?_ ?_ B' (fun t ht => hB' t (by cases b <;> simp at ht ⊢ <;> simp [ht])) X h nx lim e env0 x0 env1 h' nx' tr1 a Q g he0 hlim hsz hx0 hk0)
    · exact okL hfl (fun h => by simp only [Y9,Bool.and_eq_true] at h;cases b <;> simp [h.1,h.2]) (fun b' hb' => by cases b <;> simp [QQ] at hb' ⊢ <;> simp [hb'])
    · cases b <;> simp [hcb.1,hcb.2]
   have side:∀ (b:Bool) (env0:Env C),Qu T X nx lim env0 a.tmps -> a.eval c = .bool b -> Ex e (evC T Φ n f (if b then c1 else c2) env0) h nx (x,env') h' nx' tr -> (Code.cond c c1 c2).wpIn (roF ro) m P Q a X.w := by
    intro b env0 he0 hc0 hx0;refine wpIn_cond hc0 (ihC ro m f nt _ ?_ ?_ B (fun t ht => hB t (by cases b <;> simp [asgL] at ht ⊢ <;> simp [ht])) X h nx lim e env0 x env' h' nx' tr a Q g he0 hlim hsz hx0 hk)
    · exact okL hfl (fun h => by simp only [Y9,Bool.and_eq_true] at h;cases b <;> simp [h.1,h.2]) (fun b' hb' => by cases b <;> simp [QQ] at hb' ⊢ <;> simp [hb'])
    · cases b <;> simp [hcb.1,hcb.2]
   cases c with
   | tmp t =>
    simp only at hx;have het := he t;generalize hq:eget env t = q at hx het;cases q with
    | bool b =>
     simp only at hx;have hv:a.eval (.tmp t) = .bool b := het.1.bool;rcases mrgC_cases (bif pureC Φ c1 && pureC Φ c2 then some (asgL c1 ++ asgL c2) else none) env b (evC T Φ n f c1 ((t,.bool true) :: env)) (evC T Φ n f c2 ((t,.bool false) :: env)) with hm | ⟨l,x1,y1,r,hp1,hp2,hr,hml,hm⟩
     · rw [hm] at hx;rcases Ex.br hx with ⟨rfl,hx⟩ | ⟨rfl,hx⟩
       · exact side true _ (he.cons_same hq) hv hx
       · exact side false _ (he.cons_same hq) hv hx
     · rw [hm] at hx;obtain ⟨hxx,rfl,rfl,rfl⟩ := Ex.ret hx;obtain ⟨rfl,rfl⟩ := Prod.mk.inj hxx
       have hl2:l = asgL c1 ++ asgL c2 := by
        cases hpp:pureC Φ c1 && pureC Φ c2 with
        | false => simp [hpp] at hml
        | true => simpa [hpp] using hml.symm
       have hex:Ex e (evC T Φ n f (if b then c1 else c2) ((t,.bool b) :: env)) h' nx' (.normal,bif b then x1 else y1) h' nx' [] := by
        cases b with
        | true => simp only [if_true,hp1];simp [Ex,Pg.run]
        | false => simp only [Bool.false_eq_true,if_false,hp2];simp [Ex,Pg.run]
       refine side0 b ((t,.bool b) :: env) .normal (bif b then x1 else y1) [] (fun u => B u || !(l.any (Nat.beq u))) (fun u hu => ?_) (he.cons_same hq) hv hex ?_
       · have h1:l.any (Nat.beq u) = true := List.any_eq_true.2 ⟨u,by rw [hl2];exact hu,by simp⟩
         have h2:B u = false := hB u (by simpa [asgL] using hu)
         simp only [h1,h2];rfl
       · intro a1 X1 g1 s1 e1 hs1 hd1 kp1;refine hk a1 X1 g1 s1 (fun u => ?_) hs1 hd1 (fun u hu => kp1 u (by simp [hu]))
         rcases mrgE_get (t := u) (env := env) hr with ⟨h1,h2⟩ | ⟨h1,h2⟩
         · refine QsW h2 ?_;have := e1 u;cases b <;> simpa using this
         · rw [h2,kp1 u (by simp only [h1];simp)]
           exact (he u).step K.base s1 (Nat.le_refl _)
    | _ => exact (Ex.fail hx).elim
   | const v =>
    cases v with
    | bool b =>
     simp only at hx;rcases Ex.br hx with ⟨rfl,hx⟩ | ⟨rfl,hx⟩
     · exact side true _ he rfl hx
     · exact side false _ he rfl hx
    | _ => exact (Ex.fail hx).elim
   | global q => exact (Ex.fail hx).elim
   | func q => exact (Ex.fail hx).elim
  | block id c =>
   simp only [evC] at hx;obtain ⟨⟨x1,env1⟩,h1,n1,t1,t2,q1,q2,_⟩ := Ex.bind hx;have hle := Ex.le q2;refine wpIn_block (ihC ro m f nt c (okL hfl (fun h => by simpa [Y9] using h) (fun b hb => by simpa [QQ] using hb)) (by simpa [Ya] using hcb) B (fun t ht => hB t (by simpa [asgL] using ht)) X h nx lim e env x1 env1 h1 n1 t1 a _ g he (by omega) hsz q1 ?_)
   intro a1 X1 g1 s1 e1 hs1 hd1 kp1;cases x1 with
   | normal =>
    obtain ⟨hxx,rfl,rfl,rfl⟩ := Ex.ret q2;obtain ⟨rfl,rfl⟩ := Prod.mk.inj hxx;exact hk a1 X1 g1 s1 e1 hs1 hd1 kp1
   | exit i =>
    simp only [Qe8] at q2;show (if i = id then Q .normal a1 X1.w else Q (.exit i) a1 X1.w)
    cases hi:Nat.beq i id with
    | true =>
     simp only [hi,cond_true] at q2;obtain ⟨hxx,rfl,rfl,rfl⟩ := Ex.ret q2;obtain ⟨rfl,rfl⟩ := Prod.mk.inj hxx;have:i = id := Nat.eq_of_beq_eq_true hi;simp only [this,if_true];exact hk a1 X1 g1 s1 e1 hs1 hd1 kp1
    | false =>
     simp only [hi,cond_false] at q2;obtain ⟨hxx,rfl,rfl,rfl⟩ := Ex.ret q2;obtain ⟨rfl,rfl⟩ := Prod.mk.inj hxx;have:i ≠ id := Nat.ne_of_beq_eq_false hi;simp only [this,if_false];exact hk a1 X1 g1 s1 e1 hs1 hd1 kp1
   | ret =>
    obtain ⟨hxx,rfl,rfl,rfl⟩ := Ex.ret q2;obtain ⟨rfl,rfl⟩ := Prod.mk.inj hxx;exact hk a1 X1 g1 s1 e1 hs1 hd1 kp1
  | loop c =>
   obtain ⟨rfl,fn,body,hf,rfl,hb,hl⟩ := hfl.resolve_left (by simp [Y9])
   refine wpIn_wide.2 ?_;cases hs:Φ.loop f (Qr c) with
   | none => exact wp_loop_rounds (n + 1) (hR f fn body c hf hb hcb hl hs B (fun t ht => hB t (by simpa [asgL] using ht)) X h nx lim e env x env' h' nx' tr a Q g he hlim hsz hx hk)
   | some s =>
    simp only [evC,QsL,hs] at hx;obtain ⟨⟨x1,env1⟩,h1,n1,t1,t2,q1,q2,_⟩ := Ex.bind hx;obtain ⟨hxx,rfl,rfl,_⟩ := Ex.ret q2;obtain ⟨rfl,rfl⟩ := Prod.mk.inj hxx;have hle1 := Ex.le q1;refine F.loop f fn body c s hf hb (hl c (by simp [QQ])) hs (fun t => B t || !((asgL c).any (Nat.beq t))) (fun t ht => ?_) X h nx lim e env x env1 h' nx' t1 a Q g he hlim hsz q1 ?_
    · have h1:(asgL c).any (Nat.beq t) = true := List.any_eq_true.2 ⟨t,ht,by simp⟩
      have h2:B t = false := hB t (by simpa [asgL] using ht)
      simp only [h1,h2];rfl
    · intro a1 X1 g1 s1 e1 hs1 hd1 kp1;refine hk a1 X1 g1 s1 (fun t => ?_) hs1 hd1 (fun t ht => kp1 t (by simp [ht]))
      rcases eget_app env1 (keepE (asgL c) env) t with h1 | h1
      · rw [h1];exact e1 t
      · rw [h1];cases hq:(asgL c).any (Nat.beq t) with
        | true => rw [QbD hq];exact RO.mk (RV.top _ _ _) rfl
        | false =>
         rw [K1 hq,kp1 t (by simp only [hq];simp)]
         exact (he t).step K.base s1 hle1
  | rangeFunc gq ps asn body' =>
   obtain ⟨rfl,fn,body,hf,rfl,hb,hl⟩ := hfl.resolve_left (by simp [Y9])
   simp only [evC,Qrw,hf] at hx;have hgo := QG he gq;generalize hq:evAt env gq = q at hx hgo;cases q with
   | fn fid caps =>
    simp only at hx;cases hyb:Nat.beq fid ZA with
    | true => rw [hyb] at hx;exact (Ex.fail hx).elim
    | false =>
     rw [hyb] at hx;have hfy:fid ≠ ZA := fun e => by rw [e] at hyb;simp at hyb
     simp only [cond_false] at hx;obtain ⟨d0,h1,n1,t1,t2,q1,q2,_⟩ := Ex.bind hx;obtain ⟨hxx,rfl,rfl,rfl⟩ := Ex.ret q2;obtain ⟨rfl,rfl⟩ := Prod.mk.inj hxx;have hR := hgo.1.one rfl;generalize hv:a.eval gq = vf at hR hgo;cases hR with
     | @fn _ _ cvs hcv =>
      refine wpIn_rangeFunc ?_;intro fnid _;rw [Qjc];obtain ⟨rc,hrc⟩:∃ rc:Loop,rc = { state := .ready,pending := none,fn := fnid,tmps := a.tmps,params := ps,assign := asn,body := body',defers := X.w.heap.size } := ⟨_,rfl⟩;obtain ⟨W1,hW1⟩:∃ W1,(X.w.alloc (.deferred (some []))).alloc (.loop rc) = W1 := ⟨_,rfl⟩
      have hL1:W1.heap[X.w.heap.size + 1]? = some (.loop rc) := by
       rw [<- hW1];have := World.alloc_heap_new (X.w.alloc (.deferred (some []))) (.loop rc);rwa [World.size_alloc] at this
      have hK1:W1.heap[X.w.heap.size]? = some (.deferred (some [])) := by
       rw [<- hW1];exact (RowKit.Below.heap_alloc _ _ _ (by simp)).trans (World.alloc_heap_new X.w _)
      have hz1:W1.heap.size = X.w.heap.size + 2 := by rw [<- hW1];simp
      have hold:∀ k,k < X.w.heap.size -> W1.heap[k]? = X.w.heap[k]? := fun k hk => by
       rw [<- hW1];exact (RowKit.Below.heap_alloc _ _ k (by simp;omega)).trans (RowKit.Below.heap_alloc _ _ k hk)
      obtain ⟨g1,s1⟩ := g.grow K.base W1 (by omega) hold (by rw [<- hW1];rfl) (by rw [<- hW1];rfl) (by rw [<- hW1];rfl) (fun q hq => ZD (hold _ hq))
      have hm1:∀ k,X.w.heap.size <= k -> ∀ o,¬ (⟨W1,X.ρ,X.O⟩:Cx).mine k o := fun k hk o ho => by
       have := (g.outer k o ho).2;omega
      have hys:R T ⟨W1,X.ρ,X.O⟩ false (.yl fn.ntmps (Ka (Yu asn ++ Yu body') env') ps.toList asn body' (D.ofList ((Ka (Yu asn ++ Yu body') env').map (eget env')))) [.func (.yield (X.w.heap.size + 1)) #[] #[]] := by
       refine .yl (rec := rc) hL1 (hm1 _ (by omega)) (by rw [hrc];exact ⟨rfl,rfl,rfl,rfl,rfl,hsz⟩) ?_
       rw [hrc]
       have:∀ sl:List Nat,RVs T ⟨W1,X.ρ,X.O⟩ (sl.map (eget env')) (sl.map fun t => a.tmps.getD t undef) := by
        intro sl
        induction sl with
        | nil => exact .nil
        | cons t sl ih => exact .cons ((he t).step K.base s1 (Nat.le_refl _)).1 ih
       exact (this _).row T
      have hargs:RVs T ⟨W1,X.ρ,X.O⟩ (.yl fn.ntmps (Ka (Yu asn ++ Yu body') env') ps.toList asn body' (D.ofList ((Ka (Yu asn ++ Yu body') env').map (eget env'))) :: caps.toList) (.func (.yield (X.w.heap.size + 1)) #[] #[] :: cvs) :=
       .cons (.inr ⟨rfl,hys⟩) ((hcv.toList T rfl).mono' K.base s1 (fun q hq id hid => hgo.2 id (by simpa [D.refs] using YP caps q hq id hid)))
      have hrefs:∀ q ∈ (.yl fn.ntmps (Ka (Yu asn ++ Yu body') env') ps.toList asn body' (D.ofList ((Ka (Yu asn ++ Yu body') env').map (eget env'))) :: caps.toList:List (D C)),∀ id ∈ D.refs q,old nx lim id := by
       intro q hq id hid;rcases List.mem_cons.1 hq with rfl | hq
       · obtain ⟨q2,hq2,hi⟩ := V4 _ id (by simpa [D.refs] using hid)
         obtain ⟨t,_,rfl⟩ := List.mem_map.1 hq2;exact (he t).2 id hi
       · exact hgo.2 id (by simpa [D.refs] using YP caps q hq id hid)
      obtain ⟨c1,c2⟩ := hcall.2 fid hfy _ _ ⟨W1,X.ρ,X.O⟩ h nx lim e d0 h' nx' t1 g1 hargs hrefs hlim q1;refine ⟨X.w.heap.size + 1,[Qfj X.w.heap.size],W1,{ target := .fn (.func fid) ⟨cvs⟩,args := #[.func (.yield (X.w.heap.size + 1)) #[] #[]] },W1,fid,⟨.func (.yield (X.w.heap.size + 1)) #[] #[] :: cvs⟩,W1,?_,?_,?_,?_,Qfd,?_⟩
      · rw [<- hW1,hrc];exact run_enterLoop_outer _ _ _ _ _
      · simp only [resolve,hv];simp [go_sem]
      · intro f' _;exact roF_fn none f'
      · have e2:(#[.func (.yield (X.w.heap.size + 1)) #[] #[]]:Array Value) ++ ⟨cvs⟩ = ⟨.func (.yield (X.w.heap.size + 1)) #[] #[] :: cvs⟩ := by apply Array.ext';simp
        simp only [invoke,e2];exact c1
      · refine Qfe (c2.mono fun en w2 hp => ?_);obtain ⟨v,X2,rfl,rfl,g2,s2,r2⟩ := hp;obtain ⟨hw2,hm2⟩ := s2.keeps.loop _ _ hL1 (hm1 _ (by omega))
        have tn:Kq X2 (X.w.heap.size + 1) (X2.w.putObj (X.w.heap.size + 1) (.loop { rc with state := .exhausted })) := YR hw2 (fun c t f h => by cases h) hm2
        have hend := run_endLoop (P := P) hw2 (by rw [hrc];simp)
        obtain ⟨W4,hW4⟩:∃ W4,X2.w.putObj (X.w.heap.size + 1) (.loop { rc with state := .exhausted }) = W4 := ⟨_,rfl⟩;rw [hW4] at hend tn;rw [show rc.pending = none by rw [hrc]] at hend
        refine ⟨none,W4,hend,?_⟩;have s3 := (s1.trans s2 (Nat.le_refl _)).turn tn (by omega)
        refine hk { a with defers := Qfj X.w.heap.size :: a.defers } ⟨W4,X2.ρ,X2.O⟩ (g2.turn K.base tn) s3 (Qu.step K.base s3 he (Ex.le q1)) rfl ⟨[X.w.heap.size],rfl,by simp,fun r hr => ?_⟩ (.refl _ _)
        obtain rfl:r = X.w.heap.size := by simpa using hr
        refine ⟨Nat.le_refl _,?_,fun o ho => hm1 _ (Nat.le_refl _) o (s2.mine _ o (by show X.w.heap.size < W1.heap.size;omega) ho)⟩
        exact ((tn.block _ (by omega)).trans (s2.block _ (by show X.w.heap.size < W1.heap.size;omega) (hm1 _ (Nat.le_refl _)))).trans hK1
   | _ => exact (Ex.fail hx).elim
  | _ => exact (Ex.fail hx).elim
theorem Qfo (n:Nat):Qvg P T (KQ T Φ (evC T Φ n)) := Jl K F (Qji K F n).1
end
section
variable {C:Cdc} {P:Program} {T:Tab C} {Φ:Fns C}
open Pg (Ex)
theorem Qjj {n:Nat} {f:FuncId} {args:List (D C)} {d:D C} (h:evF T Φ n f args = some d):∃ h' nx' tr,Ex (0,0) (KQ T Φ (evC T Φ n) f args) [] 0 d h' nx' tr /\ d.refs = [] /\ d.noYl = true := by
 unfold evF at h;obtain ⟨a,h',n',t,h1,h2⟩ := Pg.run_some h;cases hb:a.refs.isEmpty && a.noYl with
 | false => simp [hb] at h2
 | true =>
  simp only [hb,cond_true,Option.some.injEq] at h2;subst h2;rw [Bool.and_eq_true] at hb;exact ⟨h',n',t,h1,List.isEmpty_iff.1 hb.1,hb.2⟩
def lim0 (n:Nat):Lim := ⟨0,n,fun _ => False,fun _ _ _ h => h⟩
theorem G.start (w:World) (O:Nat -> Nat -> Prop) (hO:∀ b o,O b o -> b < w.heap.size) (n:Nat):G T ⟨w,fun _ => none,O⟩ [] 0 (lim0 n) where
 var id t d h := by simp [Heap.get] at h
 vec id t own l h := by simp [Heap.get] at h
 map id ck cv l h := by simp [Heap.get] at h
 dom id l h := by simp at h
 nums id o h := by simp [Heap.get] at h
 apart id id' l l' b o o' h := by simp at h
 outer b o h := by obtain ⟨_,_,h,_⟩ := h;simp at h
 outs := hO
 low := Nat.le_refl _
variable (K:Q5 P T) (F:Qh P T Φ)
include K F
theorem QcH {n:Nat} {f:FuncId} {args:List (D C)} {d:D C} (h:evF T Φ n f args = some d) (hargs:∀ a ∈ args,D.refs a = []) (w:World) (O:Nat -> Nat -> Prop) (hO:∀ b o,O b o -> b < w.heap.size) {vs:List Value}
 (hvs:RVs T ⟨w,fun _ => none,O⟩ args vs):(callFunc f ⟨vs⟩).run P w = .ok (.enter f ⟨vs⟩) w /\ Calls P f ⟨vs⟩ w fun en w' =>
  ∃ v ρ,en = .returned v /\ RV T ⟨w',ρ,O⟩ d v /\ w.heap.size <= w'.heap.size /\ (∀ b,b < w.heap.size -> w'.heap[b]? = w.heap[b]?) /\ w'.os = w.os /\ w'.tape = w.tape /\ w'.output = w.output /\ (∀ a:Addr,a.block < w.heap.size -> w'.frozen? a = w.frozen? a) := by
 obtain ⟨h',nx',tr,hx,hd,_⟩ := Qjj h;have g := G.start (T := T) w O hO nx';obtain ⟨q1,q2⟩ := Qfo K F n f args vs _ _ _ _ _ _ _ _ _ g hvs (fun a ha id hid => by rw [hargs a ha] at hid;simp at hid) (Nat.le_refl _) hx
 refine ⟨q1,q2.mono fun en w' hp => ?_⟩;obtain ⟨v,X',rfl,rfl,g',s',r'⟩ := hp;have hO':X'.O = O := s'.O;refine ⟨v,X'.ρ,rfl,?_,s'.size,fun b hb => s'.block b hb (fun o hm => by obtain ⟨_,_,hq,_⟩ := hm;simp at hq),s'.os,s'.tape,s'.output,s'.frz⟩
 rw [<- hO'];exact r'.1
theorem QoX {n:Nat} {f:FuncId} {args:List (D C)} {d:D C} (h:evF T Φ n f args = some d) (hargs:∀ a ∈ args,D.refs a = []) {X:Cx} {hp:Heap C} {nx:Nat} {lim:Lim} {vs:List Value} (g:G T X hp nx lim) (hvs:RVs T X args vs) :
 (callFunc f ⟨vs⟩).run P X.w = .ok (.enter f ⟨vs⟩) X.w /\ Calls P f ⟨vs⟩ X.w (QT T X nx lim hp nx d) := by
 have hd:d.refs = [] := by obtain ⟨_,_,_,_,hd⟩ := Qjj h;exact hd.1
 have hkeep:Kps X ⟨X.w,fun _ => none,fun b o => X.O b o \/ X.mine b o⟩ :=
  ⟨fun b o v hc hf => ⟨hc,fun h => h.elim hf.1 hf.2,fun ⟨_,_,hq,_⟩ => by simp at hq⟩,fun l r hl _ => ⟨hl,fun o ⟨_,_,hq,_⟩ => by simp at hq⟩⟩
 have hvs0:RVs T ⟨X.w,fun _ => none,fun b o => X.O b o \/ X.mine b o⟩ args vs := by
  clear h
  induction hvs with
  | nil => exact .nil
  | @cons d ds v vs hv _ ih =>
   refine .cons (hv.mono T K.base.encOK (X' := ⟨X.w,fun _ => none,fun b o => X.O b o \/ X.mine b o⟩) hkeep fun id hi => ?_) (ih fun a ha => hargs a (by simp [ha]))
   rw [hargs d (by simp)] at hi;simp at hi
 obtain ⟨q1,q2⟩ := QcH K F h hargs X.w (fun b o => X.O b o \/ X.mine b o) (fun b o ho => ho.elim (g.outs b o) fun hm => (g.outer b o hm).2) hvs0;refine ⟨q1,q2.mono fun en w' hpp => ?_⟩;obtain ⟨v,ρ,rfl,r,a1,a2,a3,a4,a5,a6⟩ := hpp;obtain ⟨g',s'⟩ := g.grow K.base w' a1 a2 a3 a4 a5 a6;refine ⟨v,⟨w',X.ρ,X.O⟩,rfl,rfl,g',s',?_,by rw [hd];simp⟩
 have hdy:d.noYl = true := by obtain ⟨_,_,_,_,hd⟩ := Qjj h;exact hd.2
 exact RV.monoE T K.base (X := ⟨w',ρ,fun b o => X.O b o \/ X.mine b o⟩) (X' := ⟨w',X.ρ,X.O⟩) (fun b o u hc hf => ⟨hc,fun ho => hf.1 (Or.inl ho),fun hm => hf.1 (Or.inr hm)⟩) r ⟨hd,hdy⟩
end
inductive Tree (α:Type) where
 | nil
 | node (k:Nat) (a:α) (l r:Tree α)
namespace Tree
variable {α:Type}
def get (u:Nat):Tree α -> Option α
 | .nil => none
 | .node k a l r => bif Nat.blt u k then l.get u else bif Nat.blt k u then r.get u else some a
def all (p:Nat -> α -> Bool):Tree α -> Bool
 | .nil => true
 | .node k a l r => p k a && l.all p && r.all p
theorem get_all {p:Nat -> α -> Bool} {u:Nat} {a:α}:∀ {t:Tree α},t.all p = true -> t.get u = some a -> p u a = true
 | .nil,_,h => by simp [get] at h
 | .node k b l r,h,hg => by
  simp only [all,Bool.and_eq_true] at h;simp only [get] at hg;cases h1:Nat.blt u k with
  | true => rw [h1] at hg;exact get_all h.1.2 hg
  | false =>
   rw [h1] at hg;cases h2:Nat.blt k u with
   | true => rw [h2] at hg;exact get_all h.2 hg
   | false =>
    rw [h2] at hg;simp only [cond_false,Option.some.injEq] at hg;have e1:¬ u < k := by rw [<- Nat.blt_eq,h1];simp
    have e2:¬ k < u := by rw [<- Nat.blt_eq,h2];simp
    obtain rfl:u = k := by omega
    rw [<- hg];exact h.1.1
end Tree
section
variable {C:Cdc}
structure Row (C:Cdc) where
 g:GT C
 size:Nat
 bytes:Nat
 zero:Option (D C)
structure Cod (C:Cdc) where
 enc:(t:C.Ty) -> C.A t -> D C
 dec:(t:C.Ty) -> D C -> Option (C.A t)
 dflt:(t:C.Ty) -> C.A t
 ety:C.Ty -> TypeId
 eqb:(t:C.Ty) -> C.A t -> C.A t -> Option Bool
 u8s:(t:C.Ty) -> Option (List (C.A t) -> List UInt8)
 ofU8s:(t:C.Ty) -> Option (List UInt8 -> List (C.A t))
def ZE (cd:Cod C) (t:Tree (Row C)):Tab C where
 ty u := match t.get u with | some r => r.g | none => .none
 size u := match t.get u with | some r => r.size | none => 0
 bytes u := match t.get u with | some r => r.bytes | none => 0
 enc := cd.enc
 dec := cd.dec
 dflt := cd.dflt
 ety := cd.ety
 eqb := cd.eqb
 zero u := match t.get u with | some r => r.zero | none => none
 u8s := cd.u8s
 ofU8s := cd.ofU8s
def gtB:GT C -> GT C -> Bool
 | .bool,.bool | .str,.str | .fn,.fn => true
 | .int k,.int k' => decide (k = k')
 | .struct a fs,.struct a' fs' => a == a' && fs == fs'
 | .arr n e t,.arr n' e' t' => Nat.beq n n' && Nat.beq e e' && decide (t = t')
 | .sl e t,.sl e' t' => Nat.beq e e' && decide (t = t')
 | .ptr e,.ptr e' => Nat.beq e e'
 | .dsl e,.dsl e' => Nat.beq e e'
 | .map k v ck cv,.map k' v' ck' cv' => Nat.beq k k' && Nat.beq v v' && decide (ck = ck') && decide (cv = cv')
 | _,_ => false
theorem Qjk {a b:GT C} (h:gtB a b = true):a = b := by
 cases a <;> cases b <;> simp_all [gtB]
variable (P:Program) (T:Tab C)
def zRl {t:C.Ty} (f:D C -> List Value -> Option (List Value)):List (C.A t) -> List Value -> Option (List Value)
 | [],cs => some cs
 | x :: l,cs => match f (T.enc t x) cs with
  | some r => zRl f l r
  | none => none
def zR:Nat -> D C -> List Value -> Option (List Value)
 | 0,_,_ => none
 | n + 1,d,cs => match d,cs with
  | .bool b,.bool b' :: r => bif b == b' then some r else none
  | .int k m,.int k' m' :: r => bif decide (k = k') && m == m' && decide (k.min <= m) && decide (m <= k.max) then some r else none
  | .str s,.string s' :: r => bif s == s'.data.toList then some r else none
  | .anil,cs => some cs
  | .acons d ds,cs => match zR n d cs with
   | some r => zR n ds r
   | none => none
  | .arr t m l,cs => bif Nat.beq m l.length then zRl T (zR n) l cs else none
  | .nils,.slice none 0 0 :: r => some r
  | .sl _ _ [],.slice none 0 0 :: r => some r
  | .nilp,.pointer none :: r => some r
  | .nilfn,.nilFunc :: r => some r
  | .nilm,.map none :: r => some r
  | _,_ => none
variable {P T}
theorem QrC {X:Cx} {t:C.Ty} {f:D C -> List Value -> Option (List Value)} (hf:∀ d cs r,f d cs = some r -> ∃ c1,cs = c1 ++ r /\ R T X false d c1):∀ (l:List (C.A t)) (cs r:List Value),zRl T f l cs = some r -> ∃ c1,cs = c1 ++ r /\ R T X false (.arr t l.length l) c1
 | [],cs,r,h => by simp [zRl] at h;exact ⟨[],by simp [h],.arr0 _⟩
 | x :: l,cs,r,h => by
  simp only [zRl] at h;cases hq:f (T.enc t x) cs with
  | none => simp [hq] at h
  | some r1 =>
   simp only [hq] at h;obtain ⟨c1,e1,k1⟩ := hf _ _ _ hq;obtain ⟨c2,e2,k2⟩ := QrC hf l r1 r h;exact ⟨c1 ++ c2,by rw [e1,e2,List.append_assoc],.arrS k1 k2⟩
theorem Qwh {X:Cx}:∀ (n:Nat) (d:D C) (cs r:List Value),zR T n d cs = some r -> ∃ c1,cs = c1 ++ r /\ R T X false d c1 := by
 intro n
 induction n with
 | zero => intro d cs r h;simp [zR] at h
 | succ n ih =>
  intro d cs r h;unfold zR at h
  split at h
  · rename_i b b' q;cases hb:(b == b') with
    | false => simp [hb] at h
    | true => simp [hb] at h;subst h;have := eq_of_beq hb;subst this;exact ⟨[.bool b],rfl,.bool b⟩
  · rename_i k m k' m' q;cases hb:(decide (k = k') && m == m' && decide (k.min <= m) && decide (m <= k.max)) with
    | false => simp [hb] at h
    | true =>
     simp only [hb,cond_true,Option.some.injEq] at h;subst h;simp only [Bool.and_eq_true,decide_eq_true_eq,beq_iff_eq] at hb;obtain ⟨⟨⟨rfl,rfl⟩,h1⟩,h2⟩ := hb;exact ⟨[.int k m],rfl,.int ⟨h1,h2⟩⟩
  · rename_i s s' q;cases hb:(s == s'.data.toList) with
    | false => simp [hb] at h
    | true =>
     simp only [hb,cond_true,Option.some.injEq] at h;subst h;have := eq_of_beq hb;subst this;exact ⟨[.string s'],rfl,.str _⟩
  · simp at h;exact ⟨[],by simp [h],.anil⟩
  · rename_i d ds;cases hq:zR T n d cs with
    | none => simp [hq] at h
    | some r1 =>
     simp only [hq] at h;obtain ⟨c1,e1,k1⟩ := ih _ _ _ hq;obtain ⟨c2,e2,k2⟩ := ih _ _ _ h;exact ⟨c1 ++ c2,by rw [e1,e2,List.append_assoc],.acons k1 k2⟩
  · rename_i t m l;cases hb:Nat.beq m l.length with
    | false => simp [hb] at h
    | true =>
     simp only [hb,cond_true] at h;have := Nat.eq_of_beq_eq_true hb;subst this;exact QrC ih l _ _ h
  · simp at h;subst h;exact ⟨[.slice none 0 0],rfl,.nils⟩
  · simp at h;subst h;exact ⟨[.slice none 0 0],rfl,.sl0 _ _ _⟩
  · simp at h;subst h;exact ⟨[.pointer none],rfl,.nilp⟩
  · simp at h;subst h;exact ⟨[.nilFunc],rfl,.nilfn⟩
  · simp at h;subst h;exact ⟨[.map none],rfl,.nilm⟩
  · simp at h
variable (P T)
def zB (d:D C) (cs:List Value):Bool := match zR T 50 d cs with
 | some [] => true
 | _ => false
variable {P T}
theorem QoY {d:D C} {cs:List Value} (h:zB T d cs = true) (X:Cx):R T X false d cs := by
 unfold zB at h
 split at h
 · rename_i hq;obtain ⟨c1,e1,k1⟩ := Qwh (X := X) _ _ _ _ hq;simp at e1;rw [e1];exact k1
 · cases h
variable (P T)
def QcI (e:TypeId) (t:C.Ty):Bool :=
 gtB (T.ty e) (T.ty (T.ety t)) && Nat.beq (T.size e) (T.size (T.ety t)) && match P.info? e with
 | some i => Nat.beq i.size (T.size e) && Nat.beq i.bytes (T.bytes e) && Nat.blt 0 (T.bytes e) && Nat.blt 0 (T.size e) && match i.zero with
  | some z => Nat.beq z.cells.size (T.size e) && zB T (T.enc t (T.dflt t)) z.cells.toList
  | none => false
 | none => false
def Qhg:List Field -> Nat -> Bool
 | [],_ => true
 | f :: fs,n => Nat.beq f.offset n && Qhg fs (n + T.size f.type)
def oneB (e:TypeId):Bool := (match T.ty e with | .struct _ _ => false | .arr _ _ _ => false | .none => false | _ => true) && match P.info? e with
 | some i => Nat.beq i.size 1 && (match i.zero with | some z => Nat.beq z.cells.size 1 | none => false)
 | none => false
def mapB (k v:TypeId) (ck cv:C.Ty):Bool := gtB (T.ty k) (T.ty (T.ety ck)) && gtB (T.ty v) (T.ty (T.ety cv)) && (match T.ty k with | .int _ => true | .str => true | .bool => true | _ => false) && match P.info? v with
 | some i => (match i.zero with | some (.agg cs) => (T.enc cv (T.dflt cv)).isRow && zB T (T.enc cv (T.dflt cv)) cs.toList | some z => !(T.enc cv (T.dflt cv)).isRow && zB T (T.enc cv (T.dflt cv)) [z] | none => false)
 | none => false
def QZ (u:TypeId) (g:GT C) (size:Nat):Bool := match g,P.underlying u with
 | .bool,some .bool => Nat.beq size 1
 | .int k,some (.int k') => decide (k = k') && Nat.beq size 1
 | .str,some .string => Nat.beq size 1
 | .struct false fs,some (.struct fields) => (fields.toList.map (·.type) == fs) && Nat.beq size (QJ T fs) && Qhg T fields.toList 0 && !P.stoodInHeld u && !P.eqGuardType P.depth u && fields.toList.all (fun f => f.name != "_") &&
  fs.all (fun f => match P.info? f with | some i => Nat.beq i.size (T.size f) && Nat.blt 0 (T.size f) | none => false)
 | .struct true fs,some (.array n e) => Nat.beq fs.length n && (fs == List.replicate fs.length e) && Nat.blt 0 fs.length && Nat.beq size (QJ T fs) && (match P.info? e with | some i => Nat.beq i.size (T.size e) | none => false)
 | .arr n e t,some (.array n' e') => Nat.beq n n' && Nat.beq e e' && !P.eqGuardType P.depth u && Nat.beq size (n * T.size e) && QcI P T e t
 | .sl e t,some (.slice e') => Nat.beq e e' && Nat.beq size 1 && QcI P T e t
 | .ptr e,some (.pointer e') => Nat.beq e e' && Nat.beq size 1
 | .fn,some (.func _ _ _) => Nat.beq size 1
 | .dsl e,some (.slice e') => Nat.beq e e' && Nat.beq size 1 && oneB P T e
 | .map k v ck cv,some (.map k' v') => Nat.beq k k' && Nat.beq v v' && Nat.beq size 1 && mapB P T k v ck cv
 | _,_ => false
def rowB (u:TypeId) (r:Row C):Bool :=
 Nat.blt 0 r.size && (match P.info? u with
  | some i => Nat.beq i.size r.size && (match r.zero with
   | none => true
   | some z => match i.zero with
    | some v => z.refs.isEmpty && zB T z v.cells.toList
    | none => false)
  | none => false) && QZ P T u r.g r.size
variable {P T}
theorem QaV:∀ (fs:List Field) (n:Nat),Qhg T fs n = true -> ∀ (i:Nat) (f:Field),fs[i]? = some f -> f.offset = n + QJ T ((fs.map (·.type)).take i)
 | [],n,h,i,f,hf => by simp at hf
 | g :: fs,n,h,i,f,hf => by
  simp only [Qhg,Bool.and_eq_true] at h;cases i with
  | zero => simp at hf;subst hf;simp [QJ,Nat.eq_of_beq_eq_true h.1]
  | succ i =>
   have := QaV fs _ h.2 i f (by simpa using hf)
   rw [this];simp [QJ];omega
theorem VG {e:TypeId} {t:C.Ty} (h:QcI P T e t = true):(T.ty e = T.ty (T.ety t) /\ T.size e = T.size (T.ety t)) /\ ∃ i z,P.info? e = some i /\ i.size = T.size e /\ i.bytes = T.bytes e /\ 0 < T.bytes e /\ 0 < T.size e /\ i.zero = some z /\ z.cells.size = T.size e /\
 ∀ X,R T X false (T.enc t (T.dflt t)) z.cells.toList := by
 simp only [QcI,Bool.and_eq_true] at h;obtain ⟨⟨h1,h2⟩,h3⟩ := h;refine ⟨⟨Qjk h1,Nat.eq_of_beq_eq_true h2⟩,?_⟩;cases hi:P.info? e with
 | none => simp [hi] at h3
 | some i =>
  simp only [hi,Bool.and_eq_true] at h3;obtain ⟨⟨⟨⟨a1,a2⟩,a3⟩,a4⟩,a5⟩ := h3;cases hz:i.zero with
  | none => simp [hz] at a5
  | some z =>
   simp only [hz,Bool.and_eq_true] at a5;exact ⟨i,z,rfl,Nat.eq_of_beq_eq_true a1,Nat.eq_of_beq_eq_true a2,by simpa [Nat.blt_eq] using a3,by simpa [Nat.blt_eq] using a4,hz,Nat.eq_of_beq_eq_true a5.1,QoY a5.2⟩
theorem Qjl {e:TypeId} (h:oneB P T e = true):(∀ d,fit T d (.inl e) = true -> d.isRow = false) /\ ∃ i z,P.info? e = some i /\ i.size = 1 /\ i.zero = some z /\ z.cells.size = 1 := by
 simp only [oneB,Bool.and_eq_true] at h;obtain ⟨h1,h2⟩ := h;refine ⟨fun d hf => ?_,?_⟩
 · cases hd:T.ty e <;> simp [hd] at h1 <;> cases d <;> simp_all [fit,D.isRow]
 · cases hi:P.info? e with
   | none => simp [hi] at h2
   | some i =>
    simp only [hi,Bool.and_eq_true] at h2;cases hz:i.zero with
    | none => simp [hz] at h2
    | some z => simp only [hz] at h2;exact ⟨i,z,rfl,Nat.eq_of_beq_eq_true h2.1,hz,Nat.eq_of_beq_eq_true h2.2⟩
theorem Qjm {k v:TypeId} {ck cv:C.Ty} (h:mapB P T k v ck cv = true):T.ty k = T.ty (T.ety ck) /\ T.ty v = T.ty (T.ety cv) /\ ((∃ ik,T.ty k = .int ik) \/ T.ty k = .str \/ T.ty k = .bool) /\
 ∃ i z,P.info? v = some i /\ i.zero = some z /\ ∀ X,RV T X (T.enc cv (T.dflt cv)) z := by
 simp only [mapB,Bool.and_eq_true] at h;obtain ⟨⟨⟨h1,h2⟩,h3⟩,h4⟩ := h;refine ⟨Qjk h1,Qjk h2,?_,?_⟩
 · cases hd:T.ty k <;> simp [hd] at h3 ⊢
 · cases hi:P.info? v with
   | none => simp [hi] at h4
   | some i =>
    simp only [hi] at h4;cases hz:i.zero with
    | none => simp [hz] at h4
    | some z =>
     refine ⟨i,z,rfl,hz,fun X => ?_⟩;cases z with
     | agg cs =>
      simp only [hz,Bool.and_eq_true] at h4;exact .inl ⟨h4.1,cs.toList,QoY h4.2 X,by simp⟩
     | _ =>
      simp only [hz,Bool.and_eq_true,Bool.not_eq_true'] at h4;exact .inr ⟨h4.1,QoY h4.2 X⟩
theorem Qvh {sz:Nat} {u:TypeId} (this:QZ P T u (.bool) sz = true):P.underlying u = some .bool /\ sz = 1 := by
 unfold QZ at this
 split at this <;> simp_all
theorem Qwi {sz:Nat} {u:TypeId} {k:IntKind} (this:QZ P T u (.int k) sz = true):P.underlying u = some (.int k) /\ sz = 1 := by
 unfold QZ at this
 split at this <;> simp_all
theorem Qwj {sz:Nat} {u:TypeId} (this:QZ P T u (.str) sz = true):P.underlying u = some .string /\ sz = 1 := by
 unfold QZ at this
 split at this <;> simp_all
theorem Qwk {sz:Nat} {u:TypeId} {e:TypeId} (this:QZ P T u (.ptr e) sz = true):P.underlying u = some (.pointer e) /\ sz = 1 := by
 unfold QZ at this
 split at this <;> simp_all
theorem sFnB {sz:Nat} {u:TypeId} (this:QZ P T u (.fn) sz = true):(∃ a b c,P.underlying u = some (.func a b c)) /\ sz = 1 := by
 unfold QZ at this
 split at this <;> simp_all
theorem Qwl {sz:Nat} {u:TypeId} {e:TypeId} (this:QZ P T u (.dsl e) sz = true):P.underlying u = some (.slice e) /\ sz = 1 /\ oneB P T e = true := by
 unfold QZ at this
 split at this <;> simp_all
 obtain ⟨⟨e1,_⟩,h⟩ := this;rw [<- e1];exact h
theorem Qwm {sz:Nat} {u:TypeId} {k:TypeId} {v:TypeId} {ck:C.Ty} {cv:C.Ty} (this:QZ P T u (.map k v ck cv) sz = true):P.underlying u = some (.map k v) /\ sz = 1 /\ mapB P T k v ck cv = true := by
 unfold QZ at this
 split at this <;> simp_all
 obtain ⟨⟨⟨e1,e2⟩,_⟩,h⟩ := this;rw [<- e1,<- e2];exact h
theorem Qwn {sz:Nat} {u:TypeId} {n:Nat} {e:TypeId} {t:C.Ty} (this:QZ P T u (.arr n e t) sz = true):P.underlying u = some (.array n e) /\ P.eqGuardType P.depth u = false /\ sz = n * T.size e /\ QcI P T e t = true := by
 unfold QZ at this
 split at this <;> simp_all
 obtain ⟨⟨⟨⟨_,e1⟩,_⟩,_⟩,h⟩ := this;rw [<- e1];exact h
theorem sSlB {sz:Nat} {u:TypeId} {e:TypeId} {t:C.Ty} (this:QZ P T u (.sl e t) sz = true):P.underlying u = some (.slice e) /\ sz = 1 /\ QcI P T e t = true := by
 unfold QZ at this
 split at this <;> simp_all
 obtain ⟨⟨e1,_⟩,h⟩ := this;rw [<- e1];exact h
theorem sStB {sz:Nat} {u:TypeId} {fs:List TypeId} (this:QZ P T u (.struct false fs) sz = true):∃ fields:Array Field,P.underlying u = some (.struct fields) /\ fields.toList.map (·.type) = fs /\ sz = QJ T fs /\ Qhg T fields.toList 0 = true /\ P.stoodInHeld u = false /\ P.eqGuardType P.depth u = false /\
 (∀ f ∈ fields.toList,f.name ≠ "_") /\ ∀ f ∈ fs,∃ i,P.info? f = some i /\ i.size = T.size f /\ 0 < T.size f := by
 unfold QZ at this
 split at this
 case h_4 fs' fields e1 e2 =>
  simp only [GT.struct.injEq,true_and] at e1;subst e1;simp only [Bool.and_eq_true,Bool.not_eq_true',List.all_eq_true] at this;obtain ⟨⟨⟨⟨⟨⟨a1,a2⟩,a3⟩,a4⟩,a5⟩,a6⟩,a7⟩ := this;refine ⟨fields,e2,eq_of_beq a1,Nat.eq_of_beq_eq_true a2,a3,a4,a5,fun f hf => by simpa using a6 f hf,fun f hf => ?_⟩
  have := a7 f hf;cases hi:P.info? f with
  | none => simp [hi] at this
  | some i => simp only [hi,Bool.and_eq_true] at this;exact ⟨i,rfl,Nat.eq_of_beq_eq_true this.1,by simpa [Nat.blt_eq] using this.2⟩
 all_goals simp_all
theorem Qwo {sz:Nat} {u:TypeId} {fs:List TypeId} (this:QZ P T u (.struct true fs) sz = true):sz = QJ T fs /\ ∃ e,P.underlying u = some (.array fs.length e) /\ fs = List.replicate fs.length e /\ 0 < fs.length /\ ∃ i,P.info? e = some i /\ i.size = T.size e := by
 unfold QZ at this
 split at this
 case h_5 fs' n e e1 e2 =>
  simp only [GT.struct.injEq,true_and] at e1;subst e1;simp only [Bool.and_eq_true] at this;obtain ⟨⟨⟨⟨a1,a2⟩,a3⟩,a4⟩,a5⟩ := this;have a1 := Nat.eq_of_beq_eq_true a1;refine ⟨Nat.eq_of_beq_eq_true a4,e,by rw [e2,a1],eq_of_beq a2,by simpa [Nat.blt_eq] using a3,?_⟩
  cases hi:P.info? e with
  | none => simp [hi] at a5
  | some i => simp only [hi] at a5;exact ⟨i,rfl,Nat.eq_of_beq_eq_true a5⟩
 all_goals simp_all
structure Qvi (T:Tab C):Prop where
 encRefs:∀ t x,(T.enc t x).refs = []
 encFit:∀ t x,fit T (T.enc t x) (.inl (T.ety t)) = true
 decR:∀ X t d x cs,T.dec t d = some x -> R T X false d cs -> R T X false (T.enc t x) cs
 eqb:∀ t a b r,T.eqb t a b = some r -> eqS (T.enc t a) (T.enc t b) = some r
 u8s:∀ t f l,T.u8s t = some f -> bytesOf T l = some (f l)
 ofU8s:∀ t g l,T.ofU8s t = some g -> (g l).map (T.enc t) = l.map fun b => .int .u8 (b.toNat:Int)
theorem Qvj {cd:Cod C} {t:Tree (Row C)} (h:t.all (rowB P (ZE cd t)) = true) (hc:Qvi (ZE cd t)) (ho:P.follows .mixedOrders = true):Q5 P (ZE cd t) := by
 have row:∀ u,(ZE cd t).ty u ≠ .none -> ∃ r,t.get u = some r /\ rowB P (ZE cd t) u r = true /\ (ZE cd t).ty u = r.g /\ (ZE cd t).size u = r.size /\ (ZE cd t).zero u = r.zero := by
  intro u hu;cases hg:t.get u with
  | none => exact (hu (by simp [ZE,hg])).elim
  | some r => exact ⟨r,rfl,Tree.get_all h hg,by simp [ZE,hg],by simp [ZE,hg],by simp [ZE,hg]⟩
 have shape:∀ u,(ZE cd t).ty u ≠ .none -> QZ P (ZE cd t) u ((ZE cd t).ty u) ((ZE cd t).size u) = true /\ 0 < (ZE cd t).size u /\ ∃ i,P.info? u = some i /\ i.size = (ZE cd t).size u := by
  intro u hu;obtain ⟨r,_,h1,h2,h3,_⟩ := row u hu;simp only [rowB,Bool.and_eq_true] at h1;obtain ⟨⟨a1,a2⟩,a3⟩ := h1;refine ⟨by rw [h2,h3];exact a3,by rw [h3];simpa [Nat.blt_eq] using a1,?_⟩
  cases hi:P.info? u with
  | none => simp [hi] at a2
  | some i => simp only [hi,Bool.and_eq_true] at a2;exact ⟨i,rfl,by rw [h3];exact Nat.eq_of_beq_eq_true a2.1⟩
 generalize hT:ZE cd t = T at *
 have sh:∀ u g,T.ty u = g -> g ≠ .none -> QZ P T u g (T.size u) = true := fun u g hg hn => by have := (shape u (by rw [hg];exact hn)).1;rw [hg] at this;exact this
 have sBool:∀ u,T.ty u = .bool -> P.underlying u = some .bool /\ T.size u = 1 := fun u hu => Qvh (sh u _ hu (by simp))
 have sInt:∀ u k,T.ty u = .int k -> P.underlying u = some (.int k) /\ T.size u = 1 := fun u k hu => Qwi (sh u _ hu (by simp))
 have sStr:∀ u,T.ty u = .str -> P.underlying u = some .string /\ T.size u = 1 := fun u hu => Qwj (sh u _ hu (by simp))
 have sPtr:∀ u e,T.ty u = .ptr e -> P.underlying u = some (.pointer e) /\ T.size u = 1 := fun u k hu => Qwk (sh u _ hu (by simp))
 have sFn:∀ u,T.ty u = .fn -> (∃ a b c,P.underlying u = some (.func a b c)) /\ T.size u = 1 := fun u hu => sFnB (sh u _ hu (by simp))
 have sDsl:∀ u e,T.ty u = .dsl e -> P.underlying u = some (.slice e) /\ T.size u = 1 /\ oneB P T e = true := fun u e hu => Qwl (sh u _ hu (by simp))
 have sMap:∀ u k v ck cv,T.ty u = .map k v ck cv -> P.underlying u = some (.map k v) /\ T.size u = 1 /\ mapB P T k v ck cv = true := fun u k v ck cv hu => Qwm (sh u _ hu (by simp))
 have sArr:∀ u n e t,T.ty u = .arr n e t -> P.underlying u = some (.array n e) /\ P.eqGuardType P.depth u = false /\ T.size u = n * T.size e /\ QcI P T e t = true := fun u n e t hu => Qwn (sh u _ hu (by simp))
 have sSl:∀ u e t,T.ty u = .sl e t -> P.underlying u = some (.slice e) /\ T.size u = 1 /\ QcI P T e t = true := fun u e t hu => sSlB (sh u _ hu (by simp))
 have sSt:∀ u fs,T.ty u = .struct false fs -> ∃ fields:Array Field,P.underlying u = some (.struct fields) /\ fields.toList.map (·.type) = fs /\ T.size u = QJ T fs /\ Qhg T fields.toList 0 = true /\ P.stoodInHeld u = false /\ P.eqGuardType P.depth u = false /\
  (∀ f ∈ fields.toList,f.name ≠ "_") /\ ∀ f ∈ fs,∃ i,P.info? f = some i /\ i.size = T.size f /\ 0 < T.size f := fun u fs hu => sStB (sh u _ hu (by simp))
 have sRow:∀ u fs,T.ty u = .struct true fs -> T.size u = QJ T fs /\ ∃ e,P.underlying u = some (.array fs.length e) /\ fs = List.replicate fs.length e /\ 0 < fs.length /\ ∃ i,P.info? e = some i /\ i.size = T.size e := fun u fs hu => Qwo (sh u _ hu (by simp))
 refine ⟨⟨hc.encRefs,hc.encFit,hc.decR,hc.u8s,hc.ofU8s,?_,?_,?_,fun u hu => (sBool u hu).2,fun u k hu => (sInt u k hu).2,fun u hu => (sStr u hu).2,fun u e hu => (sPtr u e hu).2,fun u hu => (sFn u hu).2,fun u e hu => (sDsl u e hu).2.1,fun u k v ck cv hu => (sMap u k v ck cv hu).2.1,fun u hu => (shape u (fun h => hu h)).2.1⟩,
  fun u hu => (sBool u hu).1,fun u k hu => (sInt u k hu).1,fun u hu => (sStr u hu).1,?_,?_,fun u fs hu => (sRow u fs hu).2,?_,fun u e t hu => (sSl u e t hu).1,?_,fun u e hu => ⟨(sDsl u e hu).1,Qjl (sDsl u e hu).2.2⟩,fun u k v ck cv hu => ⟨(sMap u k v ck cv hu).1,Qjm (sMap u k v ck cv hu).2.2⟩,fun u e hu => (sPtr u e hu).1,fun u hu => (sFn u hu).1,?_,?_,hc.eqb,ho⟩
 · intro u a fs hu;cases a with
   | false => obtain ⟨_,_,_,h3,_⟩ := sSt u fs hu;exact h3
   | true => exact (sRow u fs hu).1
 · intro u n e t hu;obtain ⟨_,_,h3,h4⟩ := sArr u n e t hu;exact ⟨h3,(VG h4).1⟩
 · intro u e t hu;obtain ⟨_,h3,h4⟩ := sSl u e t hu;exact ⟨h3,(VG h4).1⟩
 · intro u fs hu;obtain ⟨fields,h1,h2,_,h4,h5,h6,h7,_⟩ := sSt u fs hu;refine ⟨fields,h1,h2,fun i f hf => ?_,h5,h6,h7⟩;have := QaV fields.toList 0 h4 i f (by rw [Array.getElem?_toList];exact hf)
   rw [this,h2];simp
 · intro u fs f hu hf;obtain ⟨_,_,_,_,_,_,_,_,h8⟩ := sSt u fs hu;exact h8 f hf
 · intro u n e t hu;obtain ⟨h1,h2,_⟩ := sArr u n e t hu;exact ⟨h1,h2⟩
 · rintro u e t (⟨n,hu⟩ | hu)
   · exact (VG (sArr u n e t hu).2.2.2).2
   · exact (VG (sSl u e t hu).2.2).2
 · intro u d hf;refine (shape u (fun hn => ?_)).2.2;cases d <;> simp [fit,hn] at hf
 · intro u z hz;subst hT;cases hg:t.get u with
   | none => simp [ZE,hg] at hz
   | some r =>
    have hr := Tree.get_all h hg;have hz':r.zero = some z := by simpa [ZE,hg] using hz
    simp only [rowB,Bool.and_eq_true] at hr;obtain ⟨⟨a1,a2⟩,a3⟩ := hr;cases hi:P.info? u with
    | none => simp [hi] at a2
    | some i =>
     simp only [hi,Bool.and_eq_true,hz'] at a2;cases hv:i.zero with
     | none => simp [hv] at a2
     | some v =>
      simp only [hv,Bool.and_eq_true] at a2;exact ⟨i,v,rfl,hv,List.isEmpty_iff.1 a2.2.1,QoY a2.2.2⟩
end
structure Qc where
 key:Int
 value:Int
 deriving DecidableEq
structure Item where
 key:Int
 place:Int
 value:Int
 deriving DecidableEq
structure Line where
 offset:Int
 place:Int
 j:Int
 key:Int
 value:Int
 deriving DecidableEq
structure Rec where
 place:Int
 yes:Bool
 writes:List Qc
 deriving DecidableEq
structure St where
 place:Int
 items:List Item
 l0:List Line
 l1:List Line
 l2:List Line
 c0:Int
 c1:Int
 c2:Int
 deriving DecidableEq
structure Sector where
 n:Int
 b:List UInt8
 deriving DecidableEq
structure Qe where
 prog:Int
 at':Int
 r:List Int
 deriving DecidableEq
structure Qf where
 kind:Int
 a:Int
 b:Int
 v:Int
 gen:Int
 text:List UInt8
 args:List Int
 deriving DecidableEq
structure Event where
 client:Int
 act:Qf
 got:Int
 deriving DecidableEq
structure Gone where
 handle:Int
 node:Bool
 epoch:Int
 deriving DecidableEq
structure Try where
 place:Int
 start:Int
 writes:List Qc
 deriving DecidableEq
structure Task where
 client:Int
 stack:List Qe
 got:List Int
 over:Bool
 deriving DecidableEq
structure Txn where
 id:Int
 start:Int
 writes:List Qc
 deriving DecidableEq
section
variable {C:Cdc} {T:Tab C} {X:Cx}
def QoZ (k:IntKind):D C -> Option Int
 | .int k' n => if k' = k then some n else none
 | _ => none
def Qs1:D C -> Option Bool
 | .bool b => some b
 | _ => none
def dU8:D C -> Option UInt8
 | .int .u8 n => some (UInt8.ofNat n.toNat)
 | _ => none
def Y7 (t:C.Ty) (n:Nat):D C -> Option (List (C.A t))
 | .arr t' m l => if h:t' = t then (if m = n then some (h ▸ l) else none) else none
 | _ => none
theorem Qs2 {k:IntKind} {d:D C} {x:Int} {cs:List Value} (hd:QoZ k d = some x) (hr:R T X false d cs):R T X false (.int k x) cs := by
 unfold QoZ at hd;split at hd
 · split at hd
   · rename_i h;subst h;cases hd;exact hr
   · cases hd
 · cases hd
theorem Qs3 {d:D C} {x:Bool} {cs:List Value} (hd:Qs1 d = some x) (hr:R T X false d cs):R T X false (.bool x) cs := by
 unfold Qs1 at hd;split at hd
 · cases hd;exact hr
 · cases hd
theorem Qwp {d:D C} {x:UInt8} {cs:List Value} (hd:dU8 d = some x) (hr:R T X false d cs):R T X false (.int .u8 (UInt8.toNat x)) cs := by
 unfold dU8 at hd;split at hd
 · rename_i n;cases hd;cases hr with
   | int h =>
    have h1:(0:Int) <= n := h.1;have h2:n <= 255 := h.2
    have:((UInt8.ofNat n.toNat).toNat:Int) = n := by
     rw [UInt8.toNat_ofNat'];have:n.toNat % 2 ^ 8 = n.toNat := Nat.mod_eq_of_lt (by omega)
     rw [this];omega
    simp only [this];exact .int h
 · cases hd
theorem VH {t:C.Ty} {d:D C} {x:List (C.A t)} {cs:List Value} (hd:D.asList t d = some x) (hr:R T X false d cs):R T X false (.sl t false x) cs := by
 unfold D.asList at hd
 split at hd
 · cases hd;cases hr;exact .sl0 _ _ _
 · rename_i t' cp l
   split at hd
   · rename_i he;cases he;cases hd;cases hr with
     | sl0 => exact .sl0 _ _ _
     | sl a1 a2 a3 a4 => exact .sl a1 a2 a3 (by simp)
   · cases hd
 · cases hd
theorem Qo0 {t:C.Ty} {n:Nat} {d:D C} {x:List (C.A t)} {cs:List Value} (hd:Y7 t n d = some x) (hr:R T X false d cs):R T X false (.arr t n x) cs := by
 unfold Y7 at hd
 split at hd
 · split at hd
   · rename_i he;cases he
     split at hd
     · rename_i hn;subst hn;cases hd;exact hr
     · cases hd
   · cases hd
 · cases hd
theorem Qo {d ds d' ds':D C} {cs:List Value} (hr:R T X false (.acons d ds) cs) (h1:∀ c,R T X false d c -> R T X false d' c) (h2:∀ c,R T X false ds c -> R T X false ds' c):R T X false (.acons d' ds') cs := by
 cases hr with
 | acons a b => exact .acons (h1 _ a) (h2 _ b)
end
structure Pick where
 client:Int
 do_:Int
 back:Int
 writes:List (Qc)
structure Disk where
 now:List (Sector)
 sure:List (Sector)
structure WorldS where
 c:List (Int)
 d:Disk
inductive RTy | bool | frame | int | item | l_u8 | line | pick | recd | sector | task | tryd | u8 | write
 deriving DecidableEq
@[reducible] def RA:RTy -> Type
 | .bool => Bool
 | .frame => Qe
 | .int => Int
 | .item => Item
 | .l_u8 => List (UInt8)
 | .line => Line
 | .pick => Pick
 | .recd => Rec
 | .sector => Sector
 | .task => Task
 | .tryd => Try
 | .u8 => UInt8
 | .write => Qc
@[reducible] def RC:Cdc := ⟨RTy,inferInstance,RA⟩
def QcJ (x:Qc):D RC := .acons (.int .i64 (Qc.key x)) (.acons (.int .i64 (Qc.value x)) (.anil))
def QcK:D RC -> Option Qc
 | .acons (.int .i64 a0) (.acons (.int .i64 a1) (.anil)) => some ⟨a0,a1⟩
 | _ => none
theorem Qo1 {T:Tab RC} {X:Cx} {d:D RC} {x:Qc} {cs:List Value} (hd:QcK d = some x) (hr:R T X false d cs):R T X false (QcJ x) cs := by
 unfold QcK at hd
 split at hd
 · skip
   cases hd;exact Qo hr (fun _ h => h) (fun _ hr => Qo hr (fun _ h => h) (fun _ hr => hr))
 · cases hd
def Qjn (x:Pick) (c0:Bool):D RC := .acons (.int .i64 (Pick.client x)) (.acons (.int .i64 (Pick.do_ x)) (.acons (.int .i64 (Pick.back x)) (.acons (.sl (C := RC) .write c0 (Pick.writes x)) (.anil))))
def Qvk (x:Pick):D RC := .acons (.int .i64 (Pick.client x)) (.acons (.int .i64 (Pick.do_ x)) (.acons (.int .i64 (Pick.back x)) (.acons (.sl (C := RC) .write false (Pick.writes x)) (.anil))))
def Qjo:D RC -> Option Pick
 | .acons (.int .i64 a0) (.acons (.int .i64 a1) (.acons (.int .i64 a2) (.acons (a3) (.anil)))) => match D.asList (C := RC) .write a3 with | some b3 => (some ⟨a0,a1,a2,b3⟩) | none => none
 | _ => none
theorem Qs4 {T:Tab RC} {X:Cx} {d:D RC} {x:Pick} {cs:List Value} (hd:Qjo d = some x) (hr:R T X false d cs):R T X false (Qvk x) cs := by
 unfold Qjo at hd
 split at hd
 · skip
   split at hd
   case h_2 => cases hd
   rename_i h3;cases hd;exact Qo hr (fun _ h => h) (fun _ hr => Qo hr (fun _ h => h) (fun _ hr => Qo hr (fun _ h => h) (fun _ hr => Qo hr (fun _ h => VH h3 h) (fun _ hr => hr))))
 · cases hd
def K3 (x:Sector):D RC := .acons (.int .i64 (Sector.n x)) (.acons (.str (Sector.b x)) (.anil))
def K4:D RC -> Option Sector
 | .acons (.int .i64 a0) (.acons (.str a1) (.anil)) => some ⟨a0,a1⟩
 | _ => none
theorem Qjp {T:Tab RC} {X:Cx} {d:D RC} {x:Sector} {cs:List Value} (hd:K4 d = some x) (hr:R T X false d cs):R T X false (K3 x) cs := by
 unfold K4 at hd
 split at hd
 · skip
   cases hd;exact Qo hr (fun _ h => h) (fun _ hr => Qo hr (fun _ h => h) (fun _ hr => hr))
 · cases hd
def QcL (x:Qe):D RC := .acons (.int .i8 (Qe.prog x)) (.acons (.int .i64 (Qe.at' x)) (.acons (.arr (C := RC) .int 96 (Qe.r x)) (.anil)))
def QcM:D RC -> Option Qe
 | .acons (.int .i8 a0) (.acons (.int .i64 a1) (.acons (a2) (.anil))) => match Y7 (C := RC) .int 96 a2 with | some b2 => (some ⟨a0,a1,b2⟩) | none => none
 | _ => none
theorem Qo2 {T:Tab RC} {X:Cx} {d:D RC} {x:Qe} {cs:List Value} (hd:QcM d = some x) (hr:R T X false d cs):R T X false (QcL x) cs := by
 unfold QcM at hd
 split at hd
 · skip
   split at hd
   case h_2 => cases hd
   rename_i h2;cases hd;exact Qo hr (fun _ h => h) (fun _ hr => Qo hr (fun _ h => h) (fun _ hr => Qo hr (fun _ h => Qo0 h2 h) (fun _ hr => hr)))
 · cases hd
def Qjq (x:Task) (c0 c1:Bool):D RC := .acons (.int .i64 (Task.client x)) (.acons (.sl (C := RC) .frame c0 (Task.stack x)) (.acons (.sl (C := RC) .int c1 (Task.got x)) (.acons (.bool (Task.over x)) (.anil))))
def Qvl (x:Task):D RC := .acons (.int .i64 (Task.client x)) (.acons (.sl (C := RC) .frame false (Task.stack x)) (.acons (.sl (C := RC) .int false (Task.got x)) (.acons (.bool (Task.over x)) (.anil))))
def Qjr:D RC -> Option Task
 | .acons (.int .i64 a0) (.acons (a1) (.acons (a2) (.acons (.bool a3) (.anil)))) => match D.asList (C := RC) .frame a1 with | some b1 => (match D.asList (C := RC) .int a2 with | some b2 => (some ⟨a0,b1,b2,a3⟩) | none => none) | none => none
 | _ => none
theorem Qs5 {T:Tab RC} {X:Cx} {d:D RC} {x:Task} {cs:List Value} (hd:Qjr d = some x) (hr:R T X false d cs):R T X false (Qvl x) cs := by
 unfold Qjr at hd
 split at hd
 · skip
   split at hd
   case h_2 => cases hd
   rename_i h1
   split at hd
   case h_2 => cases hd
   rename_i h2;cases hd;exact Qo hr (fun _ h => h) (fun _ hr => Qo hr (fun _ h => VH h1 h) (fun _ hr => Qo hr (fun _ h => VH h2 h) (fun _ hr => Qo hr (fun _ h => h) (fun _ hr => hr))))
 · cases hd
def Qs6 (x:Try) (c0:Bool):D RC := .acons (.int .i64 (Try.place x)) (.acons (.int .i64 (Try.start x)) (.acons (.sl (C := RC) .write c0 (Try.writes x)) (.anil)))
def eTry (x:Try):D RC := .acons (.int .i64 (Try.place x)) (.acons (.int .i64 (Try.start x)) (.acons (.sl (C := RC) .write false (Try.writes x)) (.anil)))
def dTry:D RC -> Option Try
 | .acons (.int .i64 a0) (.acons (.int .i64 a1) (.acons (a2) (.anil))) => match D.asList (C := RC) .write a2 with | some b2 => (some ⟨a0,a1,b2⟩) | none => none
 | _ => none
theorem Qvm {T:Tab RC} {X:Cx} {d:D RC} {x:Try} {cs:List Value} (hd:dTry d = some x) (hr:R T X false d cs):R T X false (eTry x) cs := by
 unfold dTry at hd
 split at hd
 · skip
   split at hd
   case h_2 => cases hd
   rename_i h2;cases hd;exact Qo hr (fun _ h => h) (fun _ hr => Qo hr (fun _ h => h) (fun _ hr => Qo hr (fun _ h => VH h2 h) (fun _ hr => hr)))
 · cases hd
def Qs7 (x:Rec) (c0:Bool):D RC := .acons (.int .i64 (Rec.place x)) (.acons (.bool (Rec.yes x)) (.acons (.sl (C := RC) .write c0 (Rec.writes x)) (.anil)))
def eRec (x:Rec):D RC := .acons (.int .i64 (Rec.place x)) (.acons (.bool (Rec.yes x)) (.acons (.sl (C := RC) .write false (Rec.writes x)) (.anil)))
def dRec:D RC -> Option Rec
 | .acons (.int .i64 a0) (.acons (.bool a1) (.acons (a2) (.anil))) => match D.asList (C := RC) .write a2 with | some b2 => (some ⟨a0,a1,b2⟩) | none => none
 | _ => none
theorem Qvn {T:Tab RC} {X:Cx} {d:D RC} {x:Rec} {cs:List Value} (hd:dRec d = some x) (hr:R T X false d cs):R T X false (eRec x) cs := by
 unfold dRec at hd
 split at hd
 · skip
   split at hd
   case h_2 => cases hd
   rename_i h2;cases hd;exact Qo hr (fun _ h => h) (fun _ hr => Qo hr (fun _ h => h) (fun _ hr => Qo hr (fun _ h => VH h2 h) (fun _ hr => hr)))
 · cases hd
def Qjs (x:Line):D RC := .acons (.int .i64 (Line.offset x)) (.acons (.int .i64 (Line.place x)) (.acons (.int .i64 (Line.j x)) (.acons (.int .i64 (Line.key x)) (.acons (.int .i64 (Line.value x)) (.anil)))))
def Qjt:D RC -> Option Line
 | .acons (.int .i64 a0) (.acons (.int .i64 a1) (.acons (.int .i64 a2) (.acons (.int .i64 a3) (.acons (.int .i64 a4) (.anil))))) => some ⟨a0,a1,a2,a3,a4⟩
 | _ => none
theorem Qs8 {T:Tab RC} {X:Cx} {d:D RC} {x:Line} {cs:List Value} (hd:Qjt d = some x) (hr:R T X false d cs):R T X false (Qjs x) cs := by
 unfold Qjt at hd
 split at hd
 · skip
   cases hd;exact Qo hr (fun _ h => h) (fun _ hr => Qo hr (fun _ h => h) (fun _ hr => Qo hr (fun _ h => h) (fun _ hr => Qo hr (fun _ h => h) (fun _ hr => Qo hr (fun _ h => h) (fun _ hr => hr)))))
 · cases hd
def Qju (x:Item):D RC := .acons (.int .i64 (Item.key x)) (.acons (.int .i64 (Item.place x)) (.acons (.int .i64 (Item.value x)) (.anil)))
def Qjv:D RC -> Option Item
 | .acons (.int .i64 a0) (.acons (.int .i64 a1) (.acons (.int .i64 a2) (.anil))) => some ⟨a0,a1,a2⟩
 | _ => none
theorem Qs9 {T:Tab RC} {X:Cx} {d:D RC} {x:Item} {cs:List Value} (hd:Qjv d = some x) (hr:R T X false d cs):R T X false (Qju x) cs := by
 unfold Qjv at hd
 split at hd
 · skip
   cases hd;exact Qo hr (fun _ h => h) (fun _ hr => Qo hr (fun _ h => h) (fun _ hr => Qo hr (fun _ h => h) (fun _ hr => hr)))
 · cases hd
def rEnc:(t:RTy) -> RA t -> D RC
 | .bool,x => .bool (x)
 | .frame,x => QcL (x)
 | .int,x => .int .i64 (x)
 | .item,x => Qju (x)
 | .l_u8,x => .sl (C := RC) .u8 false (x)
 | .line,x => Qjs (x)
 | .pick,x => Qvk (x)
 | .recd,x => eRec (x)
 | .sector,x => K3 (x)
 | .task,x => Qvl (x)
 | .tryd,x => eTry (x)
 | .u8,x => .int .u8 (UInt8.toNat x)
 | .write,x => QcJ (x)
def rDec:(t:RTy) -> D RC -> Option (RA t)
 | .bool => Qs1
 | .frame => QcM
 | .int => QoZ .i64
 | .item => Qjv
 | .l_u8 => D.asList (C := RC) .u8
 | .line => Qjt
 | .pick => Qjo
 | .recd => dRec
 | .sector => K4
 | .task => Qjr
 | .tryd => dTry
 | .u8 => dU8
 | .write => QcK
def Q0:(t:RTy) -> RA t
 | .bool => (false:Bool)
 | .frame => (⟨0,0,List.replicate 96 (0)⟩:Qe)
 | .int => (0:Int)
 | .item => (⟨0,0,0⟩:Item)
 | .l_u8 => ([]:List (UInt8))
 | .line => (⟨0,0,0,0,0⟩:Line)
 | .pick => (⟨0,0,0,[]⟩:Pick)
 | .recd => (⟨0,false,[]⟩:Rec)
 | .sector => (⟨0,[]⟩:Sector)
 | .task => (⟨0,[],[],false⟩:Task)
 | .tryd => (⟨0,0,[]⟩:Try)
 | .u8 => (0:UInt8)
 | .write => (⟨0,0⟩:Qc)
def rEqb:(t:RTy) -> RA t -> RA t -> Option Bool
 | .bool => fun (a b:Bool) => some (a == b)
 | .frame => fun _ _ => none
 | .int => fun (a b:Int) => some (a == b)
 | .item => fun _ _ => none
 | .l_u8 => fun _ _ => none
 | .line => fun _ _ => none
 | .pick => fun _ _ => none
 | .recd => fun _ _ => none
 | .sector => fun _ _ => none
 | .task => fun _ _ => none
 | .tryd => fun _ _ => none
 | .u8 => fun (a b:UInt8) => none
 | .write => fun _ _ => none
def rU8s:(t:RTy) -> Option (List (RA t) -> List UInt8)
 | .u8 => some fun l => l
 | _ => none
def Qjw:(t:RTy) -> Option (List UInt8 -> List (RA t))
 | .u8 => some fun l => l
 | _ => none
def rCod (ety:RTy -> TypeId):Cod RC := ⟨rEnc,rDec,Q0,ety,rEqb,rU8s,Qjw⟩
theorem Qwq {T:Tab RC} {X:Cx}:∀ (t:RTy) {d:D RC} {x:RA t} {cs:List Value},rDec t d = some x -> R T X false d cs -> R T X false (rEnc t x) cs
 | .bool,_,_,_,hd,hr => Qs3 hd hr
 | .frame,_,_,_,hd,hr => Qo2 hd hr
 | .int,_,_,_,hd,hr => Qs2 hd hr
 | .item,_,_,_,hd,hr => Qs9 hd hr
 | .l_u8,_,_,_,hd,hr => VH hd hr
 | .line,_,_,_,hd,hr => Qs8 hd hr
 | .pick,_,_,_,hd,hr => Qs4 hd hr
 | .recd,_,_,_,hd,hr => Qvn hd hr
 | .sector,_,_,_,hd,hr => Qjp hd hr
 | .task,_,_,_,hd,hr => Qs5 hd hr
 | .tryd,_,_,_,hd,hr => Qvm hd hr
 | .u8,_,_,_,hd,hr => Qwp hd hr
 | .write,_,_,_,hd,hr => Qo1 hd hr
theorem Qwr:∀ {t:RTy} {a b:RA t} {r:Bool},rEqb t a b = some r -> eqS (rEnc t a) (rEnc t b) = some r
 | .bool,a,b,r,h => by
  simp only [rEqb,rEnc,eqS] at h ⊢;simpa using h
 | .frame,_,_,_,h => absurd (show (none:Option Bool) = some _ from h) (by simp)
 | .int,a,b,r,h => by
  simp only [rEqb,rEnc,eqS] at h ⊢;simpa using h
 | .item,_,_,_,h => absurd (show (none:Option Bool) = some _ from h) (by simp)
 | .l_u8,_,_,_,h => absurd (show (none:Option Bool) = some _ from h) (by simp)
 | .line,_,_,_,h => absurd (show (none:Option Bool) = some _ from h) (by simp)
 | .pick,_,_,_,h => absurd (show (none:Option Bool) = some _ from h) (by simp)
 | .recd,_,_,_,h => absurd (show (none:Option Bool) = some _ from h) (by simp)
 | .sector,_,_,_,h => absurd (show (none:Option Bool) = some _ from h) (by simp)
 | .task,_,_,_,h => absurd (show (none:Option Bool) = some _ from h) (by simp)
 | .tryd,_,_,_,h => absurd (show (none:Option Bool) = some _ from h) (by simp)
 | .u8,_,_,_,h => absurd (show (none:Option Bool) = some _ from h) (by simp)
 | .write,_,_,_,h => absurd (show (none:Option Bool) = some _ from h) (by simp)
theorem Qws (t:RTy) (x:RA t):(rEnc t x).refs = [] := by cases t <;> rfl
theorem Qwt {T:Tab RC} (he:T.enc = rEnc):∀ (t:RTy) (f:List (RA t) -> List UInt8) (l:List (RA t)),rU8s t = some f -> bytesOf T l = some (f l) := by
 intro t f l h;cases t <;> simp [rU8s] at h
 subst h
 induction l with
 | nil => rfl
 | cons x l ih =>
  simp only [bytesOf,ih,he,rEnc];have:UInt8.ofNat (UInt8.toNat x) = x := by simp
  simp [this]
theorem Qta:∀ (t:RTy) (g:List UInt8 -> List (RA t)) (l:List UInt8),Qjw t = some g -> (g l).map (rEnc t) = l.map fun b => .int .u8 (b.toNat:Int) := by
 intro t g l h;cases t <;> simp [Qjw] at h
 subst h;rfl
theorem Qwu {ety:RTy -> TypeId} {t:Tree (Row RC)} (hfit:∀ t' x,fit (ZE (rCod ety) t) (rEnc t' x) (.inl (ety t')) = true):Qvi (ZE (rCod ety) t) :=
 ⟨Qws,hfit,fun X t d x cs hd hr => Qwq t hd hr,fun t a b r h => Qwr h,Qwt rfl,Qta⟩
open Go.Proofs
set_option maxRecDepth 100000
def QrD:RTy -> TypeId := fun | .bool => 4 | .frame => 84 | .int => 3 | .item => 61 | .l_u8 => 107 | .line => 115 | .pick => 29 | .recd => 56 | .sector => 102 | .task => 40 | .tryd => 98 | .u8 => 5 | .write => 109
def Qjx:Tree (Row RC) := (.node 143 ⟨.fn,1,8,some .nilfn⟩ (.node 75 ⟨.fn,1,8,some .nilfn⟩ (.node 43 ⟨(.struct false [37,41,41,42]),39,592,some (.acons (.acons (.sl .int true []) (.acons (.acons (.sl .sector true []) (.acons (.sl .sector true []) .anil)) .anil)) (.acons (.arr .task 4 (List.replicate 4 (Q0 .task))) (.acons (.arr .task 4 (List.replicate 4 (Q0 .task))) (.acons (.arr .bool 4 (List.replicate 4 (Q0 .bool))) .anil))))⟩ (.node 28 ⟨(.struct false [3,3,3,27]),4,48,some (.acons (.int .i64 0) (.acons (.int .i64 0) (.acons (.int .i64 0) (.acons (.sl .write true []) .anil))))⟩ (.node 21 ⟨(.int .i32),1,4,some (.int .i32 0)⟩ (.node 4 ⟨.bool,1,1,some (.bool false)⟩ (.node 2 ⟨(.int .i64),1,8,some (.int .i64 0)⟩ (.node 1 ⟨.fn,1,8,some .nilfn⟩ .nil .nil) (.node 3 ⟨(.int .i64),1,8,some (.int .i64 0)⟩ .nil .nil)) (.node 9 ⟨.str,1,16,some (.str [])⟩ (.node 5 ⟨(.int .u8),1,1,some (.int .u8 0)⟩ .nil .nil) (.node 12 ⟨(.int .u64),1,8,some (.int .u64 0)⟩ .nil .nil))) (.node 25 ⟨(.ptr 50),1,8,some .nilp⟩ (.node 23 ⟨.fn,1,8,some .nilfn⟩ (.node 22 ⟨(.sl 29 .pick),1,24,some (.sl .pick true [])⟩ .nil .nil) (.node 24 ⟨.fn,1,8,some .nilfn⟩ .nil .nil)) (.node 27 ⟨(.sl 109 .write),1,24,some (.sl .write true [])⟩ (.node 26 ⟨.fn,1,8,some .nilfn⟩ .nil .nil) .nil))) (.node 36 ⟨(.struct false [32,35]),3,72,some (.acons (.sl .int true []) (.acons (.acons (.sl .sector true []) (.acons (.sl .sector true []) .anil)) .anil))⟩ (.node 33 ⟨(.sl 102 .sector),1,24,some (.sl .sector true [])⟩ (.node 31 ⟨.fn,1,8,some .nilfn⟩ (.node 29 ⟨(.struct false [3,3,3,27]),4,48,some (.acons (.int .i64 0) (.acons (.int .i64 0) (.acons (.int .i64 0) (.acons (.sl .write true []) .anil))))⟩ .nil .nil) (.node 32 ⟨(.sl 3 .int),1,24,some (.sl .int true [])⟩ .nil .nil)) (.node 35 ⟨(.struct false [33,33]),2,48,some (.acons (.sl .sector true []) (.acons (.sl .sector true []) .anil))⟩ (.node 34 ⟨(.struct false [33,33]),2,48,some (.acons (.sl .sector true []) (.acons (.sl .sector true []) .anil))⟩ .nil .nil) .nil)) (.node 40 ⟨(.struct false [3,38,32,4]),4,64,some (.acons (.int .i64 0) (.acons (.sl .frame true []) (.acons (.sl .int true []) (.acons (.bool false) .anil))))⟩ (.node 38 ⟨(.sl 84 .frame),1,24,some (.sl .frame true [])⟩ (.node 37 ⟨(.struct false [32,35]),3,72,some (.acons (.sl .int true []) (.acons (.acons (.sl .sector true []) (.acons (.sl .sector true []) .anil)) .anil))⟩ .nil .nil) (.node 39 ⟨(.struct false [3,38,32,4]),4,64,some (.acons (.int .i64 0) (.acons (.sl .frame true []) (.acons (.sl .int true []) (.acons (.bool false) .anil))))⟩ .nil .nil)) (.node 42 ⟨(.arr 4 4 .bool),4,4,some (.arr .bool 4 (List.replicate 4 (Q0 .bool)))⟩ (.node 41 ⟨(.arr 4 40 .task),16,256,some (.arr .task 4 (List.replicate 4 (Q0 .task)))⟩ .nil .nil) .nil)))) (.node 59 ⟨.fn,1,8,some .nilfn⟩ (.node 50 ⟨(.struct false [45,3,3,3,46,46,47,48,3]),15,136,some (.acons .nilp (.acons (.int .i64 0) (.acons (.int .i64 0) (.acons (.int .i64 0) (.acons (.arr .int 4 (List.replicate 4 (Q0 .int))) (.acons (.arr .int 4 (List.replicate 4 (Q0 .int))) (.acons .nilm (.acons (.sl .tryd true []) (.acons (.int .i64 0) .anil)))))))))⟩ (.node 47 ⟨(.map 3 98 .int .tryd),1,8,some .nilm⟩ (.node 45 ⟨(.ptr 44),1,8,some .nilp⟩ (.node 44 ⟨(.struct false [37,41,41,42]),39,592,some (.acons (.acons (.sl .int true []) (.acons (.acons (.sl .sector true []) (.acons (.sl .sector true []) .anil)) .anil)) (.acons (.arr .task 4 (List.replicate 4 (Q0 .task))) (.acons (.arr .task 4 (List.replicate 4 (Q0 .task))) (.acons (.arr .bool 4 (List.replicate 4 (Q0 .bool))) .anil))))⟩ .nil .nil) (.node 46 ⟨(.arr 4 3 .int),4,32,some (.arr .int 4 (List.replicate 4 (Q0 .int)))⟩ .nil .nil)) (.node 49 ⟨(.struct false [45,3,3,3,46,46,47,48,3]),15,136,some (.acons .nilp (.acons (.int .i64 0) (.acons (.int .i64 0) (.acons (.int .i64 0) (.acons (.arr .int 4 (List.replicate 4 (Q0 .int))) (.acons (.arr .int 4 (List.replicate 4 (Q0 .int))) (.acons .nilm (.acons (.sl .tryd true []) (.acons (.int .i64 0) .anil)))))))))⟩ (.node 48 ⟨(.sl 98 .tryd),1,24,some (.sl .tryd true [])⟩ .nil .nil) .nil)) (.node 55 ⟨(.struct false [3,4,27]),3,40,some (.acons (.int .i64 0) (.acons (.bool false) (.acons (.sl .write true []) .anil)))⟩ (.node 52 ⟨(.int .i64),1,8,some (.int .i64 0)⟩ (.node 51 ⟨(.sl 56 .recd),1,24,some (.sl .recd true [])⟩ .nil .nil) (.node 54 ⟨.fn,1,8,some .nilfn⟩ .nil .nil)) (.node 58 ⟨.fn,1,8,some .nilfn⟩ (.node 56 ⟨(.struct false [3,4,27]),3,40,some (.acons (.int .i64 0) (.acons (.bool false) (.acons (.sl .write true []) .anil)))⟩ .nil .nil) .nil))) (.node 67 ⟨.fn,1,8,some .nilfn⟩ (.node 64 ⟨.fn,1,8,some .nilfn⟩ (.node 61 ⟨(.struct false [3,3,3]),3,24,some (.acons (.int .i64 0) (.acons (.int .i64 0) (.acons (.int .i64 0) .anil)))⟩ (.node 60 ⟨(.struct false [3,3,3]),3,24,some (.acons (.int .i64 0) (.acons (.int .i64 0) (.acons (.int .i64 0) .anil)))⟩ .nil .nil) (.node 63 ⟨.fn,1,8,some .nilfn⟩ .nil .nil)) (.node 66 ⟨.fn,1,8,some .nilfn⟩ (.node 65 ⟨(.sl 115 .line),1,24,some (.sl .line true [])⟩ .nil .nil) .nil)) (.node 71 ⟨.fn,1,8,some .nilfn⟩ (.node 69 ⟨.fn,1,8,some .nilfn⟩ (.node 68 ⟨.fn,1,8,some .nilfn⟩ .nil .nil) (.node 70 ⟨.fn,1,8,some .nilfn⟩ .nil .nil)) (.node 74 ⟨.fn,1,8,some .nilfn⟩ (.node 72 ⟨.fn,1,8,some .nilfn⟩ .nil .nil) .nil))))) (.node 109 ⟨(.struct false [3,3]),2,16,some (.acons (.int .i64 0) (.acons (.int .i64 0) .anil))⟩ (.node 92 ⟨.fn,1,8,some .nilfn⟩ (.node 83 ⟨(.struct false [81,3,82]),98,784,some (.acons (.int .i8 0) (.acons (.int .i64 0) (.acons (.arr .int 96 (List.replicate 96 (Q0 .int))) .anil)))⟩ (.node 80 ⟨.fn,1,8,some .nilfn⟩ (.node 77 ⟨(.arr 16 3 .int),16,128,some (.arr .int 16 (List.replicate 16 (Q0 .int)))⟩ (.node 76 ⟨.fn,1,8,some .nilfn⟩ .nil .nil) (.node 78 ⟨(.arr 24 3 .int),24,192,some (.arr .int 24 (List.replicate 24 (Q0 .int)))⟩ .nil .nil)) (.node 82 ⟨(.arr 96 3 .int),96,768,some (.arr .int 96 (List.replicate 96 (Q0 .int)))⟩ (.node 81 ⟨(.int .i8),1,1,some (.int .i8 0)⟩ .nil .nil) .nil)) (.node 88 ⟨.fn,1,8,some .nilfn⟩ (.node 85 ⟨(.struct false [81,3,3,3,3,9,32]),7,80,some (.acons (.int .i8 0) (.acons (.int .i64 0) (.acons (.int .i64 0) (.acons (.int .i64 0) (.acons (.int .i64 0) (.acons (.str []) (.acons (.sl .int true []) .anil)))))))⟩ (.node 84 ⟨(.struct false [81,3,82]),98,784,some (.acons (.int .i8 0) (.acons (.int .i64 0) (.acons (.arr .int 96 (List.replicate 96 (Q0 .int))) .anil)))⟩ .nil .nil) (.node 86 ⟨(.struct false [81,3,3,3,3,9,32]),7,80,some (.acons (.int .i8 0) (.acons (.int .i64 0) (.acons (.int .i64 0) (.acons (.int .i64 0) (.acons (.int .i64 0) (.acons (.str []) (.acons (.sl .int true []) .anil)))))))⟩ .nil .nil)) (.node 90 ⟨.fn,1,8,some .nilfn⟩ (.node 89 ⟨.fn,1,8,some .nilfn⟩ .nil .nil) .nil))) (.node 100 ⟨.fn,1,8,some .nilfn⟩ (.node 97 ⟨(.struct false [3,3,27]),3,40,some (.acons (.int .i64 0) (.acons (.int .i64 0) (.acons (.sl .write true []) .anil)))⟩ (.node 94 ⟨(.sl 4 .bool),1,24,some (.sl .bool true [])⟩ (.node 93 ⟨.fn,1,8,some .nilfn⟩ .nil .nil) (.node 96 ⟨.fn,1,8,some .nilfn⟩ .nil .nil)) (.node 99 ⟨.fn,1,8,some .nilfn⟩ (.node 98 ⟨(.struct false [3,3,27]),3,40,some (.acons (.int .i64 0) (.acons (.int .i64 0) (.acons (.sl .write true []) .anil)))⟩ .nil .nil) .nil)) (.node 106 ⟨.fn,1,8,some .nilfn⟩ (.node 102 ⟨(.struct false [3,9]),2,24,some (.acons (.int .i64 0) (.acons (.str []) .anil))⟩ (.node 101 ⟨(.struct false [3,9]),2,24,some (.acons (.int .i64 0) (.acons (.str []) .anil))⟩ .nil .nil) (.node 104 ⟨.fn,1,8,some .nilfn⟩ .nil .nil)) (.node 108 ⟨(.struct false [3,3]),2,16,some (.acons (.int .i64 0) (.acons (.int .i64 0) .anil))⟩ (.node 107 ⟨(.sl 5 .u8),1,24,some (.sl .u8 true [])⟩ .nil .nil) .nil)))) (.node 126 ⟨.fn,1,8,some .nilfn⟩ (.node 117 ⟨.fn,1,8,some .nilfn⟩ (.node 113 ⟨.fn,1,8,some .nilfn⟩ (.node 111 ⟨.fn,1,8,some .nilfn⟩ (.node 110 ⟨(.sl 61 .item),1,24,some (.sl .item true [])⟩ .nil .nil) (.node 112 ⟨.fn,1,8,some .nilfn⟩ .nil .nil)) (.node 115 ⟨(.struct false [3,3,3,3,3]),5,40,some (.acons (.int .i64 0) (.acons (.int .i64 0) (.acons (.int .i64 0) (.acons (.int .i64 0) (.acons (.int .i64 0) .anil)))))⟩ (.node 114 ⟨(.struct false [3,3,3,3,3]),5,40,some (.acons (.int .i64 0) (.acons (.int .i64 0) (.acons (.int .i64 0) (.acons (.int .i64 0) (.acons (.int .i64 0) .anil)))))⟩ .nil .nil) .nil)) (.node 123 ⟨(.int .u64),1,8,some (.int .u64 0)⟩ (.node 120 ⟨.fn,1,8,some .nilfn⟩ (.node 118 ⟨.fn,1,8,some .nilfn⟩ .nil .nil) (.node 122 ⟨.fn,1,8,some .nilfn⟩ .nil .nil)) (.node 125 ⟨.fn,1,8,some .nilfn⟩ (.node 124 ⟨.fn,1,8,some .nilfn⟩ .nil .nil) .nil))) (.node 134 ⟨.fn,1,8,some .nilfn⟩ (.node 130 ⟨.fn,1,8,some .nilfn⟩ (.node 128 ⟨(.ptr 170),1,8,some .nilp⟩ (.node 127 ⟨.fn,1,8,some .nilfn⟩ .nil .nil) (.node 129 ⟨(.dsl 126),1,24,some .nils⟩ .nil .nil)) (.node 132 ⟨.fn,1,8,some .nilfn⟩ (.node 131 ⟨.fn,1,8,some .nilfn⟩ .nil .nil) .nil)) (.node 140 ⟨.fn,1,8,some .nilfn⟩ (.node 136 ⟨.fn,1,8,some .nilfn⟩ (.node 135 ⟨.fn,1,8,some .nilfn⟩ .nil .nil) (.node 138 ⟨.fn,1,8,some .nilfn⟩ .nil .nil)) (.node 142 ⟨.fn,1,8,some .nilfn⟩ (.node 141 ⟨.fn,1,8,some .nilfn⟩ .nil .nil) .nil)))))) (.node 204 ⟨.fn,1,8,some .nilfn⟩ (.node 173 ⟨.fn,1,8,some .nilfn⟩ (.node 159 ⟨(.int .i64),1,8,some (.int .i64 0)⟩ (.node 152 ⟨.fn,1,8,some .nilfn⟩ (.node 148 ⟨.fn,1,8,some .nilfn⟩ (.node 145 ⟨.fn,1,8,some .nilfn⟩ (.node 144 ⟨.fn,1,8,some .nilfn⟩ .nil .nil) (.node 146 ⟨.fn,1,8,some .nilfn⟩ .nil .nil)) (.node 151 ⟨.fn,1,8,some .nilfn⟩ (.node 149 ⟨.fn,1,8,some .nilfn⟩ .nil .nil) .nil)) (.node 156 ⟨.fn,1,8,some .nilfn⟩ (.node 154 ⟨(.struct false [107]),1,24,some (.acons (.sl .u8 true []) .anil)⟩ (.node 153 ⟨(.ptr 155),1,8,some .nilp⟩ .nil .nil) (.node 155 ⟨(.struct false [107]),1,24,some (.acons (.sl .u8 true []) .anil)⟩ .nil .nil)) (.node 158 ⟨.fn,1,8,some .nilfn⟩ (.node 157 ⟨.fn,1,8,some .nilfn⟩ .nil .nil) .nil))) (.node 166 ⟨.fn,1,8,some .nilfn⟩ (.node 163 ⟨.fn,1,8,some .nilfn⟩ (.node 161 ⟨.fn,1,8,some .nilfn⟩ (.node 160 ⟨.fn,1,8,some .nilfn⟩ .nil .nil) (.node 162 ⟨.fn,1,8,some .nilfn⟩ .nil .nil)) (.node 165 ⟨.fn,1,8,some .nilfn⟩ (.node 164 ⟨.fn,1,8,some .nilfn⟩ .nil .nil) .nil)) (.node 170 ⟨(.struct false [84,32,3]),100,816,some (.acons (.acons (.int .i8 0) (.acons (.int .i64 0) (.acons (.arr .int 96 (List.replicate 96 (Q0 .int))) .anil))) (.acons (.sl .int true []) (.acons (.int .i64 0) .anil)))⟩ (.node 168 ⟨(.dsl 166),1,24,some .nils⟩ (.node 167 ⟨(.ptr 198),1,8,some .nilp⟩ .nil .nil) (.node 169 ⟨(.struct false [84,32,3]),100,816,some (.acons (.acons (.int .i8 0) (.acons (.int .i64 0) (.acons (.arr .int 96 (List.replicate 96 (Q0 .int))) .anil))) (.acons (.sl .int true []) (.acons (.int .i64 0) .anil)))⟩ .nil .nil)) (.node 172 ⟨.fn,1,8,some .nilfn⟩ (.node 171 ⟨.fn,1,8,some .nilfn⟩ .nil .nil) .nil)))) (.node 190 ⟨.fn,1,8,some .nilfn⟩ (.node 182 ⟨.fn,1,8,some .nilfn⟩ (.node 177 ⟨.fn,1,8,some .nilfn⟩ (.node 175 ⟨.fn,1,8,some .nilfn⟩ (.node 174 ⟨.fn,1,8,some .nilfn⟩ .nil .nil) (.node 176 ⟨.fn,1,8,some .nilfn⟩ .nil .nil)) (.node 180 ⟨.fn,1,8,some .nilfn⟩ (.node 178 ⟨.fn,1,8,some .nilfn⟩ .nil .nil) .nil)) (.node 187 ⟨.fn,1,8,some .nilfn⟩ (.node 185 ⟨.fn,1,8,some .nilfn⟩ (.node 183 ⟨.fn,1,8,some .nilfn⟩ .nil .nil) (.node 186 ⟨.fn,1,8,some .nilfn⟩ .nil .nil)) (.node 189 ⟨.fn,1,8,some .nilfn⟩ (.node 188 ⟨.fn,1,8,some .nilfn⟩ .nil .nil) .nil))) (.node 197 ⟨(.struct false [84,32,3]),100,816,some (.acons (.acons (.int .i8 0) (.acons (.int .i64 0) (.acons (.arr .int 96 (List.replicate 96 (Q0 .int))) .anil))) (.acons (.sl .int true []) (.acons (.int .i64 0) .anil)))⟩ (.node 194 ⟨(.int .u32),1,4,some (.int .u32 0)⟩ (.node 192 ⟨.fn,1,8,some .nilfn⟩ (.node 191 ⟨.fn,1,8,some .nilfn⟩ .nil .nil) (.node 193 ⟨.fn,1,8,some .nilfn⟩ .nil .nil)) (.node 196 ⟨(.sl 107 .l_u8),1,24,some (.sl .l_u8 true [])⟩ (.node 195 ⟨.fn,1,8,some .nilfn⟩ .nil .nil) .nil)) (.node 201 ⟨(.ptr 214),1,8,some .nilp⟩ (.node 199 ⟨.fn,1,8,some .nilfn⟩ (.node 198 ⟨(.struct false [84,32,3]),100,816,some (.acons (.acons (.int .i8 0) (.acons (.int .i64 0) (.acons (.arr .int 96 (List.replicate 96 (Q0 .int))) .anil))) (.acons (.sl .int true []) (.acons (.int .i64 0) .anil)))⟩ .nil .nil) (.node 200 ⟨.fn,1,8,some .nilfn⟩ .nil .nil)) (.node 203 ⟨.fn,1,8,some .nilfn⟩ (.node 202 ⟨(.dsl 200),1,24,some .nils⟩ .nil .nil) .nil))))) (.node 232 ⟨.fn,1,8,some .nilfn⟩ (.node 218 ⟨.fn,1,8,some .nilfn⟩ (.node 211 ⟨.fn,1,8,some .nilfn⟩ (.node 208 ⟨.fn,1,8,some .nilfn⟩ (.node 206 ⟨.fn,1,8,some .nilfn⟩ (.node 205 ⟨.fn,1,8,some .nilfn⟩ .nil .nil) (.node 207 ⟨.fn,1,8,some .nilfn⟩ .nil .nil)) (.node 210 ⟨.fn,1,8,some .nilfn⟩ (.node 209 ⟨.fn,1,8,some .nilfn⟩ .nil .nil) .nil)) (.node 215 ⟨.fn,1,8,some .nilfn⟩ (.node 213 ⟨(.struct false [84,32,3]),100,816,some (.acons (.acons (.int .i8 0) (.acons (.int .i64 0) (.acons (.arr .int 96 (List.replicate 96 (Q0 .int))) .anil))) (.acons (.sl .int true []) (.acons (.int .i64 0) .anil)))⟩ (.node 212 ⟨.fn,1,8,some .nilfn⟩ .nil .nil) (.node 214 ⟨(.struct false [84,32,3]),100,816,some (.acons (.acons (.int .i8 0) (.acons (.int .i64 0) (.acons (.arr .int 96 (List.replicate 96 (Q0 .int))) .anil))) (.acons (.sl .int true []) (.acons (.int .i64 0) .anil)))⟩ .nil .nil)) (.node 217 ⟨(.struct false [84,3]),99,792,some (.acons (.acons (.int .i8 0) (.acons (.int .i64 0) (.acons (.arr .int 96 (List.replicate 96 (Q0 .int))) .anil))) (.acons (.int .i64 0) .anil))⟩ (.node 216 ⟨(.struct false [84,3]),99,792,some (.acons (.acons (.int .i8 0) (.acons (.int .i64 0) (.acons (.arr .int 96 (List.replicate 96 (Q0 .int))) .anil))) (.acons (.int .i64 0) .anil))⟩ .nil .nil) .nil))) (.node 225 ⟨.fn,1,8,some .nilfn⟩ (.node 222 ⟨.fn,1,8,some .nilfn⟩ (.node 220 ⟨(.struct true [219,219,219]),18,144,some (.acons (.acons .nilfn (.acons .nilfn (.acons .nilfn (.acons .nilfn (.acons .nilfn (.acons .nilfn .anil)))))) (.acons (.acons .nilfn (.acons .nilfn (.acons .nilfn (.acons .nilfn (.acons .nilfn (.acons .nilfn .anil)))))) (.acons (.acons .nilfn (.acons .nilfn (.acons .nilfn (.acons .nilfn (.acons .nilfn (.acons .nilfn .anil)))))) .anil)))⟩ (.node 219 ⟨(.struct true [218,218,218,218,218,218]),6,48,some (.acons .nilfn (.acons .nilfn (.acons .nilfn (.acons .nilfn (.acons .nilfn (.acons .nilfn .anil))))))⟩ .nil .nil) (.node 221 ⟨.fn,1,8,some .nilfn⟩ .nil .nil)) (.node 224 ⟨.fn,1,8,some .nilfn⟩ (.node 223 ⟨.fn,1,8,some .nilfn⟩ .nil .nil) .nil)) (.node 229 ⟨(.ptr 115),1,8,some .nilp⟩ (.node 227 ⟨.fn,1,8,some .nilfn⟩ (.node 226 ⟨.fn,1,8,some .nilfn⟩ .nil .nil) (.node 228 ⟨.fn,1,8,some .nilfn⟩ .nil .nil)) (.node 231 ⟨.fn,1,8,some .nilfn⟩ (.node 230 ⟨.fn,1,8,some .nilfn⟩ .nil .nil) .nil)))) (.node 246 ⟨.fn,1,8,some .nilfn⟩ (.node 239 ⟨(.struct false [84,3]),99,792,some (.acons (.acons (.int .i8 0) (.acons (.int .i64 0) (.acons (.arr .int 96 (List.replicate 96 (Q0 .int))) .anil))) (.acons (.int .i64 0) .anil))⟩ (.node 236 ⟨.fn,1,8,some .nilfn⟩ (.node 234 ⟨(.ptr 245),1,8,some .nilp⟩ (.node 233 ⟨.fn,1,8,some .nilfn⟩ .nil .nil) (.node 235 ⟨(.dsl 233),1,24,some .nils⟩ .nil .nil)) (.node 238 ⟨.fn,1,8,some .nilfn⟩ (.node 237 ⟨.fn,1,8,some .nilfn⟩ .nil .nil) .nil)) (.node 243 ⟨(.struct true [241,241]),2,16,some (.acons .nilfn (.acons .nilfn .anil))⟩ (.node 241 ⟨.fn,1,8,some .nilfn⟩ (.node 240 ⟨(.struct false [84,3]),99,792,some (.acons (.acons (.int .i8 0) (.acons (.int .i64 0) (.acons (.arr .int 96 (List.replicate 96 (Q0 .int))) .anil))) (.acons (.int .i64 0) .anil))⟩ .nil .nil) (.node 242 ⟨(.struct true [241,241,241]),3,24,some (.acons .nilfn (.acons .nilfn (.acons .nilfn .anil)))⟩ .nil .nil)) (.node 245 ⟨(.struct false [84,32,3]),100,816,some (.acons (.acons (.int .i8 0) (.acons (.int .i64 0) (.acons (.arr .int 96 (List.replicate 96 (Q0 .int))) .anil))) (.acons (.sl .int true []) (.acons (.int .i64 0) .anil)))⟩ (.node 244 ⟨(.struct false [84,32,3]),100,816,some (.acons (.acons (.int .i8 0) (.acons (.int .i64 0) (.acons (.arr .int 96 (List.replicate 96 (Q0 .int))) .anil))) (.acons (.sl .int true []) (.acons (.int .i64 0) .anil)))⟩ .nil .nil) .nil))) (.node 253 ⟨.fn,1,8,some .nilfn⟩ (.node 250 ⟨(.dsl 248),1,24,some .nils⟩ (.node 248 ⟨.fn,1,8,some .nilfn⟩ (.node 247 ⟨.fn,1,8,some .nilfn⟩ .nil .nil) (.node 249 ⟨(.ptr 255),1,8,some .nilp⟩ .nil .nil)) (.node 252 ⟨.fn,1,8,some .nilfn⟩ (.node 251 ⟨.fn,1,8,some .nilfn⟩ .nil .nil) .nil)) (.node 257 ⟨.fn,1,8,some .nilfn⟩ (.node 255 ⟨(.struct false [84,32,3]),100,816,some (.acons (.acons (.int .i8 0) (.acons (.int .i64 0) (.acons (.arr .int 96 (List.replicate 96 (Q0 .int))) .anil))) (.acons (.sl .int true []) (.acons (.int .i64 0) .anil)))⟩ (.node 254 ⟨(.struct false [84,32,3]),100,816,some (.acons (.acons (.int .i8 0) (.acons (.int .i64 0) (.acons (.arr .int 96 (List.replicate 96 (Q0 .int))) .anil))) (.acons (.sl .int true []) (.acons (.int .i64 0) .anil)))⟩ .nil .nil) (.node 256 ⟨.fn,1,8,some .nilfn⟩ .nil .nil)) (.node 266 ⟨(.ptr 5),1,8,some .nilp⟩ (.node 265 ⟨.fn,1,8,some .nilfn⟩ .nil .nil) .nil)))))))
def s25:Tab RC := ZE (rCod QrD) Qjx
theorem Qo3:Qjx.all (rowB Tryz.prog s25) = true := by kernel_rfl
theorem Qjy:Tryz.prog.follows .mixedOrders = true := by kernel_rfl
theorem Qtb:∀ t x,fit s25 (rEnc t x) (.inl (QrD t)) = true
 | .bool,_ => rfl
 | .frame,_ => rfl
 | .int,_ => rfl
 | .item,_ => rfl
 | .l_u8,_ => rfl
 | .line,_ => rfl
 | .pick,_ => rfl
 | .recd,_ => rfl
 | .sector,_ => rfl
 | .task,_ => rfl
 | .tryd,_ => rfl
 | .u8,_ => rfl
 | .write,_ => rfl
theorem Qa:Q5 Tryz.prog s25 := Qvj Qo3 (Qwu Qtb) Qjy
section
variable {C:Cdc} {P:Program} {T:Tab C} {Φ:Fns C}
open Pg (Ex)
def fnB (P:Program) (f:FuncId):Bool := match P.funcs[f]? with
 | some fn => !(fn.name == "runtime.NumGoroutine") && (match fn.body with
  | some b => Ya fn.ntmps b
  | none => true)
 | none => true
def fnsB (P:Program):Nat -> Bool
 | 0 => true
 | n + 1 => fnB P n && fnsB P n
theorem QcN:∀ (n f:Nat),fnsB P n = true -> f < n -> fnB P f = true
 | 0,f,_,h => by omega
 | n + 1,f,h,hf => by
  simp only [fnsB,Bool.and_eq_true] at h
  by_cases he:f = n
  · subst he;exact h.1
  · exact QcN n f h.2 (by omega)
def Qhh (P:Program) (n:Nat) (keeps:FuncId -> Bool) (rest:FuncId -> List (Nat × List Nat) := fun _ => []) (total:FuncId -> Bool := fun _ => false):Fns C where
 fn f := bif Nat.blt f n then P.funcs[f]? else none
 keeps := keeps
 rest := rest
 total := total
 ospec _ := none
 spec _ := none
 loop _ _ := none
def Fns.addSpec (Φ:Fns C) (g:FuncId) (s:List (D C) -> Option (Bool × D C)):Fns C := { Φ with spec := fun f => bif Nat.beq f g then some s else Φ.spec f }
def Fns.addObj (Φ:Fns C) (g:FuncId) (s:List (D C) -> Pg C (D C)):Fns C := { Φ with ospec := fun f => bif Nat.beq f g then some s else Φ.ospec f }
def Fns.addLoop (Φ:Fns C) (g key:Nat) (s:Env C -> Pg C (Ev.X × Env C)):Fns C := { Φ with loop := fun f k => bif Nat.beq f g && Nat.beq k key then some s else Φ.loop f k }
theorem Qhi {n:Nat} {keeps:FuncId -> Bool} {rest:FuncId -> List (Nat × List Nat)} {total:FuncId -> Bool} (h:fnsB P n = true):Qh P T (Qhh P n keeps rest total) where
 fn f fn hf := by
  simp only [Qhh] at hf;cases hb:Nat.blt f n with
  | false => simp [hb] at hf
  | true =>
   simp only [hb,cond_true] at hf;have := QcN n f h (by simpa [Nat.blt_eq] using hb)
   simp only [fnB,hf,Bool.and_eq_true,Bool.not_eq_true'] at this;refine ⟨hf,this.1,fun body hbody => ?_⟩;have h2 := this.2;rw [hbody] at h2;exact h2
 spec g s args d hs := by simp [Qhh] at hs
 ospec g s hs := by simp [Qhh] at hs
 loop f fn body b s _ _ _ hs := by simp [Qhh] at hs
theorem Qh.addSpec (F:Qh P T Φ) {g:FuncId} {s:List (D C) -> Option (Bool × D C)}
 (hs:∀ args d,s args = some (true,d) -> ∀ X h nx lim vs,G T X h nx lim -> RVs T X args vs -> (∀ a ∈ args,∀ id ∈ D.refs a,old nx lim id) ->
  (callFunc g ⟨vs⟩).run P X.w = .ok (.enter g ⟨vs⟩) X.w /\ Calls P g ⟨vs⟩ X.w (QT T X nx lim h nx d)):Qh P T (Φ.addSpec g s) where
 fn := F.fn
 spec f s' args d h1 h2 := by
  simp only [Fns.addSpec] at h1;cases hb:Nat.beq f g with
  | false => simp only [hb,cond_false] at h1;exact F.spec f s' args d h1 h2
  | true =>
   simp only [hb,cond_true,Option.some.injEq] at h1;subst h1;have := Nat.eq_of_beq_eq_true hb;subst this;exact hs args d h2
 ospec := F.ospec
 loop := F.loop
theorem Qh.addEv (K:Q5 P T) (F:Qh P T Φ) {g:FuncId} {s:List (D C) -> Option (Bool × D C)} (hs:∀ args d,s args = some (true,d) -> (∀ a ∈ args,D.refs a = []) /\ ∃ n,evF T Φ n g args = some d):Qh P T (Φ.addSpec g s) :=
 F.addSpec fun args d h X hp nx lim vs gg hvs _ => by
  obtain ⟨h1,n,h2⟩ := hs args d h;exact QoX K F h2 h1 gg hvs
def Qjz (P:Program) (T:Tab C) (g:FuncId) (s:List (D C) -> Pg C (D C)):Prop :=
 ∀ args vs X h nx lim e d h' nx' tr,G T X h nx lim -> RVs T X args vs -> (∀ a ∈ args,∀ id ∈ D.refs a,old nx lim id) -> nx' <= lim.top -> Ex e (s args) h nx d h' nx' tr ->
  (callFunc g ⟨vs⟩).run P X.w = .ok (.enter g ⟨vs⟩) X.w /\ Calls P g ⟨vs⟩ X.w (QT T X nx lim h' nx' d)
theorem Qh.addObj (F:Qh P T Φ) {g:FuncId} {s:List (D C) -> Pg C (D C)} (hs:Qjz P T g s):Qh P T (Φ.addObj g s) where
 fn := F.fn
 spec := F.spec
 ospec f s' h1 := by
  simp only [Fns.addObj] at h1;cases hb:Nat.beq f g with
  | false => simp only [hb,cond_false] at h1;exact F.ospec f s' h1
  | true =>
   simp only [hb,cond_true,Option.some.injEq] at h1;subst h1;have := Nat.eq_of_beq_eq_true hb;subst this;exact hs
 loop := F.loop
def QjA (P:Program) (T:Tab C) (Φ:Fns C) (g key:Nat) (s:Env C -> Pg C (Ev.X × Env C)):Prop :=
 ∀ fn body b,Φ.fn g = some fn -> fn.body = some body -> b ∈ QQ body -> Qr b = key -> ∀ B,QcE B b -> ∀ X h nx lim e env x env' h' nx' tr a Q,G T X h nx lim -> Qu T X nx lim env a.tmps -> nx' <= lim.top -> fn.ntmps <= a.tmps.size ->
  Ex e (s env) h nx (x,env') h' nx' tr -> Qjh T B X nx lim h' nx' env' a (Q (QcD x)) -> (Code.loop b).wp P Q a X.w
theorem Qh.addLoop (F:Qh P T Φ) {g key:Nat} {s:Env C -> Pg C (Ev.X × Env C)} (hs:QjA P T Φ g key s):Qh P T (Φ.addLoop g key s) where
 fn := F.fn
 spec := F.spec
 ospec := F.ospec
 loop f fn body b s' h1 h2 h3 h4 := by
  simp only [Fns.addLoop] at h4;cases hb:Nat.beq f g && Nat.beq (Qr b) key with
  | false => simp only [hb,cond_false] at h4;exact F.loop f fn body b s' h1 h2 h3 h4
  | true =>
   simp only [hb,cond_true,Option.some.injEq] at h4;subst h4;simp only [Bool.and_eq_true] at hb;have e1 := Nat.eq_of_beq_eq_true hb.1;have e2 := Nat.eq_of_beq_eq_true hb.2;subst e1;exact hs fn body b h1 h2 h3 e2
def Sub (env env0:Env C):Prop := ∀ p ∈ env0,eget env p.1 = p.2
theorem eget_mem:∀ (env:Env C) (t:Nat),eget env t = .top \/ (t,eget env t) ∈ env
 | [],t => .inl rfl
 | (j,d) :: r,t => by
  rw [Qs]
  by_cases h:t = j
  · subst h;simp
  · simp only [h,if_false];rcases eget_mem r t with h' | h'
    · exact .inl h'
    · exact .inr (by simp [h'])
theorem Qu.sub {X:Cx} {nx nx':Nat} {lim lim':Lim} {env env0:Env C} {tmps:Array Value} (he:Qu T X nx lim env tmps) (hs:Sub env env0) (hr:∀ p ∈ env0,D.refs p.2 = []):Qu T X nx' lim' env0 tmps := by
 intro t;rcases eget_mem env0 t with h | h
 · rw [h];exact RO.mk (RV.top _ _ _) rfl
 · refine ⟨?_,?_⟩
   · have := hs _ h;simp only at this;rw [<- this];exact (he t).1
   · rw [hr _ h];simp
structure Qhj (w w':World):Prop where
 size:w.heap.size <= w'.heap.size
 same:∀ b,b < w.heap.size -> w'.heap[b]? = w.heap[b]?
 os:w'.os = w.os
 tape:w'.tape = w.tape
 output:w'.output = w.output
 frz:∀ a:Addr,a.block < w.heap.size -> w'.frozen? a = w.frozen? a
theorem Qhj.refl (w:World):Qhj w w := ⟨Nat.le_refl _,fun _ _ => rfl,rfl,rfl,rfl,fun _ _ => rfl⟩
theorem Qhj.trans {w w' w'':World} (h:Qhj w w') (k:Qhj w' w''):Qhj w w'' :=
 ⟨Nat.le_trans h.size k.size,fun b hb => (k.same b (Nat.lt_of_lt_of_le hb h.size)).trans (h.same b hb),k.os.trans h.os,k.tape.trans h.tape,k.output.trans h.output,fun a ha => (k.frz a (Nat.lt_of_lt_of_le ha h.size)).trans (h.frz a ha)⟩
theorem Qu.move (L:Laws T) {X X':Cx} {nx nx':Nat} {lim lim':Lim} {env:Env C} {tmps:Array Value} (he:Qu T X nx lim env tmps) (hr:∀ p ∈ env,D.refs p.2 = [])
 (hk:Kps X X'):Qu T X' nx' lim' env tmps := by
 intro t
 have h0:(eget env t).refs = [] := by
  rcases eget_mem env t with h | h
  · rw [h];rfl
  · exact hr _ h
 refine ⟨(he t).1.mono T L.encOK hk fun id hi => ?_,?_⟩
 · rw [h0] at hi;simp at hi
 · rw [h0];simp
structure LoopSt (C:Cdc) (σ:Type) where
 canon:σ -> Env C
 fin:σ -> Ev.X × Env C
 Inv:σ -> Prop
 μ:σ -> Nat
theorem Zs {nt:Nat}:∀ (c:Code),Ya nt c = true -> ∀ b ∈ QQ c,Ya nt b = true /\ ∀ b' ∈ QQ b,b' ∈ QQ c
 | .seq x y,h,b,hb => by
  simp only [Ya,Bool.and_eq_true] at h;simp only [QQ,List.mem_append] at hb ⊢;rcases hb with hb | hb
  · obtain ⟨q1,q2⟩ := Zs x h.1 b hb;exact ⟨q1,fun b' h' => .inl (q2 b' h')⟩
  · obtain ⟨q1,q2⟩ := Zs y h.2 b hb;exact ⟨q1,fun b' h' => .inr (q2 b' h')⟩
 | .cond _ x y,h,b,hb => by
  simp only [Ya,Bool.and_eq_true] at h;simp only [QQ,List.mem_append] at hb ⊢;rcases hb with hb | hb
  · obtain ⟨q1,q2⟩ := Zs x h.1 b hb;exact ⟨q1,fun b' h' => .inl (q2 b' h')⟩
  · obtain ⟨q1,q2⟩ := Zs y h.2 b hb;exact ⟨q1,fun b' h' => .inr (q2 b' h')⟩
 | .block _ x,h,b,hb => by
  simp only [Ya] at h;simp only [QQ] at hb ⊢;exact Zs x h b hb
 | .loop x,h,b,hb => by
  simp only [Ya] at h;simp only [QQ,List.mem_cons] at hb ⊢;rcases hb with rfl | hb
  · exact ⟨h,fun b' h' => .inr h'⟩
  · obtain ⟨q1,q2⟩ := Zs x h b hb;exact ⟨q1,fun b' h' => .inr (q2 b' h')⟩
 | .skip,_,b,hb => by simp [QQ] at hb
 | .region _ _ _,_,b,hb => by simp [QQ] at hb
 | .rangeFunc _ _ _ _,_,b,hb => by simp [QQ] at hb
 | .exit _,_,b,hb => by simp [QQ] at hb
 | .scope _,_,b,hb => by simp [QQ] at hb
 | .label _,_,b,hb => by simp [QQ] at hb
 | .goto _,_,b,hb => by simp [QQ] at hb
 | .ret,_,b,hb => by simp [QQ] at hb
end
section
variable {C:Cdc}
def D.ren (f:Nat -> Nat):D C -> D C
 | .acons d ds => .acons (d.ren f) (ds.ren f)
 | .tup d => .tup (d.ren f)
 | .fn g d => .fn g (d.ren f)
 | .yl n s p a b d => .yl n s p a b (d.ren f)
 | .cptr d => .cptr (d.ren f)
 | .dsl n d => .dsl n (d.ren f)
 | .mp id => .mp (f id)
 | .vs id n => .vs (f id) n
 | .ptr id p => .ptr (f id) p
 | .asl t id p lo n => .asl t (f id) p lo n
 | .vptr id n p => .vptr (f id) n p
 | d => d
def Obj.ren (f:Nat -> Nat):Obj C -> Obj C
 | .var t d => .var t (d.ren f)
 | o => o
theorem D.ren_refs (f:Nat -> Nat):∀ d:D C,(d.ren f).refs = d.refs.map f
 | .acons d ds => by simp [D.ren,D.refs,D.ren_refs f d,D.ren_refs f ds]
 | .tup d => by simp [D.ren,D.refs,D.ren_refs f d]
 | .fn g d => by simp [D.ren,D.refs,D.ren_refs f d]
 | .cptr d => by simp [D.ren,D.refs,D.ren_refs f d]
 | .dsl _ d => by simp [D.ren,D.refs,D.ren_refs f d]
 | .mp id => rfl
 | .vs id n => rfl
 | .ptr id p => rfl
 | .asl _ id _ _ _ => rfl
 | .vptr id n p => rfl
 | .bool _ => rfl
 | .int _ _ => rfl
 | .str _ => rfl
 | .anil => rfl
 | .arr _ _ _ => rfl
 | .nils => rfl
 | .sl _ _ _ => rfl
 | .nilp => rfl
 | .nilfn => rfl
 | .nilm => rfl
 | .bm _ _ _ => rfl
 | .yl _ _ _ _ _ d => by simp [D.ren,D.refs,D.ren_refs f d]
 | .top => rfl
theorem Obj.ren_refs (f:Nat -> Nat) (o:Obj C):(o.ren f).refs = o.refs.map f := by
 cases o with
 | var t d => exact D.ren_refs f d
 | vec t own l => rfl
 | map _ _ _ => rfl
theorem D.ren_ren (f g:Nat -> Nat):∀ d:D C,(∀ id ∈ d.refs,g (f id) = id) -> (d.ren f).ren g = d
 | .acons d ds,h => by
  simp only [D.refs,List.mem_append] at h;simp [D.ren,D.ren_ren f g d (fun id hi => h id (.inl hi)),D.ren_ren f g ds (fun id hi => h id (.inr hi))]
 | .tup d,h => by simp [D.ren,D.ren_ren f g d (by simpa [D.refs] using h)]
 | .fn _ d,h => by simp [D.ren,D.ren_ren f g d (by simpa [D.refs] using h)]
 | .yl _ _ _ _ _ d,h => by simp [D.ren,D.ren_ren f g d (by simpa [D.refs] using h)]
 | .cptr d,h => by simp [D.ren,D.ren_ren f g d (by simpa [D.refs] using h)]
 | .dsl _ d,h => by simp [D.ren,D.ren_ren f g d (by simpa [D.refs] using h)]
 | .mp id,h => by simp [D.ren,h id (by simp [D.refs])]
 | .vs id n,h => by simp [D.ren,h id (by simp [D.refs])]
 | .ptr id p,h => by simp [D.ren,h id (by simp [D.refs])]
 | .asl _ id _ _ _,h => by simp [D.ren,h id (by simp [D.refs])]
 | .vptr id n p,h => by simp [D.ren,h id (by simp [D.refs])]
 | .bool _,_ => rfl
 | .int _ _,_ => rfl
 | .str _,_ => rfl
 | .anil,_ => rfl
 | .arr _ _ _,_ => rfl
 | .nils,_ => rfl
 | .sl _ _ _,_ => rfl
 | .nilp,_ => rfl
 | .nilfn,_ => rfl
 | .nilm,_ => rfl
 | .bm _ _ _,_ => rfl
 | .top,_ => rfl
theorem D.ren_same (f:Nat -> Nat):∀ d:D C,d.refs = [] -> d.ren f = d
 | .acons d ds,h => by
  simp only [D.refs,List.append_eq_nil_iff] at h;simp [D.ren,D.ren_same f d h.1,D.ren_same f ds h.2]
 | .tup d,h => by simp [D.ren,D.ren_same f d (by simpa [D.refs] using h)]
 | .fn _ d,h => by simp [D.ren,D.ren_same f d (by simpa [D.refs] using h)]
 | .yl _ _ _ _ _ d,h => by simp [D.ren,D.ren_same f d (by simpa [D.refs] using h)]
 | .cptr d,h => by simp [D.ren,D.ren_same f d (by simpa [D.refs] using h)]
 | .dsl _ d,h => by simp [D.ren,D.ren_same f d (by simpa [D.refs] using h)]
 | .mp id,h => by simp [D.refs] at h
 | .vs id n,h => by simp [D.refs] at h
 | .ptr id p,h => by simp [D.refs] at h
 | .asl _ id _ _ _,h => by simp [D.refs] at h
 | .vptr id n p,h => by simp [D.refs] at h
 | .bool _,_ => rfl
 | .int _ _,_ => rfl
 | .str _,_ => rfl
 | .anil,_ => rfl
 | .arr _ _ _,_ => rfl
 | .nils,_ => rfl
 | .sl _ _ _,_ => rfl
 | .nilp,_ => rfl
 | .nilfn,_ => rfl
 | .nilm,_ => rfl
 | .bm _ _ _,_ => rfl
 | .top,_ => rfl
theorem D.ren_noYl (f:Nat -> Nat) (d:D C):(d.ren f).noYl = d.noYl := by
 induction d with
 | acons d ds i1 i2 => simp only [D.ren,D.noYl,i1,i2]
 | tup d ih => simpa only [D.ren,D.noYl] using ih
 | fn _ d ih => simpa only [D.ren,D.noYl] using ih
 | cptr d ih => simpa only [D.ren,D.noYl] using ih
 | dsl _ d ih => simpa only [D.ren,D.noYl] using ih
 | _ => rfl
theorem D.ren_row (f:Nat -> Nat) (d:D C):(d.ren f).isRow = d.isRow := by cases d <;> rfl
theorem D.ren_ones (f:Nat -> Nat) (d:D C):(d.ren f).ones = d.ones := by
 induction d with
 | acons d ds _ ih => simp only [D.ren,D.ones,D.ren_row,ih]
 | _ => rfl
variable {T:Tab C}
theorem V5 (f:Nat -> Nat):∀ (d:D C) (u:TypeId ⊕ List TypeId),fit T (d.ren f) u = fit T d u
 | .acons d ds,.inl t => by
  simp only [D.ren,fit]
  split <;> simp [V5 f d,V5 f ds]
 | .acons d ds,.inr [] => by simp [D.ren,fit]
 | .acons d ds,.inr (a :: fs) => by simp [D.ren,fit,V5 f d,V5 f ds]
 | .tup _,.inl _ => rfl
 | .tup _,.inr _ => rfl
 | .fn _ d,.inl _ => by simp only [D.ren,fit,D.ren_noYl]
 | .yl _ _ _ _ _ _,.inl _ => rfl
 | .yl _ _ _ _ _ _,.inr _ => rfl
 | .fn _ _,.inr _ => rfl
 | .cptr d,.inl _ => by simp only [D.ren,fit,D.ren_noYl]
 | .cptr _,.inr _ => rfl
 | .dsl _ d,.inl _ => by simp only [D.ren,fit,D.ren_noYl]
 | .dsl _ _,.inr _ => rfl
 | .mp _,.inl _ => rfl
 | .mp _,.inr _ => rfl
 | .vs _ _,.inl _ => rfl
 | .vs _ _,.inr _ => rfl
 | .ptr _ _,.inl _ => rfl
 | .asl _ _ _ _ _,.inl _ => rfl
 | .asl _ _ _ _ _,.inr _ => rfl
 | .ptr _ _,.inr _ => rfl
 | .vptr _ _ _,.inl _ => rfl
 | .vptr _ _ _,.inr _ => rfl
 | .bool _,_ => rfl
 | .int _ _,_ => rfl
 | .str _,_ => rfl
 | .anil,_ => rfl
 | .arr _ _ _,_ => rfl
 | .nils,_ => rfl
 | .sl _ _ _,_ => rfl
 | .nilp,_ => rfl
 | .nilfn,_ => rfl
 | .nilm,_ => rfl
 | .bm _ _ _,_ => rfl
 | .top,_ => rfl
theorem R.renG {X X':Cx} {y:Bool} (f:Nat -> Nat) (he:∀ t x,(T.enc t x).refs = [] /\ (T.enc t x).noYl = true) (hX:∀ b o v,X.w.cell? ⟨b,o,none⟩ = some v -> X.free b o -> X'.w.cell? ⟨b,o,none⟩ = some v /\ X'.free b o)
 (hL:y = true -> ∀ l r,X.w.heap[l]? = some (.loop r) -> (∀ o,¬ X.mine l o) -> X'.w.heap[l]? = some (.loop r) /\ ∀ o,¬ X'.mine l o)
 {m:Bool} {d:D C} {vs:List Value} (h:R T X m d vs):(∀ id ∈ d.refs,Qj (X.ρ id) (X'.ρ (f id))) -> (y = true \/ d.noYl = true) -> R T X' m (d.ren f) vs := by
 induction h with
 | bool b => exact fun _ _ => .bool b
 | int h => exact fun _ _ => .int h
 | str s => exact fun _ _ => .str s
 | anil => exact fun _ _ => .anil
 | acons _ _ i1 i2 =>
  intro hr hy;simp only [D.refs,List.mem_append] at hr;exact .acons (i1 (fun id h => hr id (.inl h)) (hy.imp id fun h => by simp only [D.noYl,Bool.and_eq_true] at h;exact h.1)) (i2 (fun id h => hr id (.inr h)) (hy.imp id fun h => by simp only [D.noYl,Bool.and_eq_true] at h;exact h.2))
 | arr0 t => exact fun _ _ => .arr0 t
 | @arrS t n x l c1 c2 _ _ i1 i2 =>
  intro _ hy;have h1 := i1 (by simp [he]) (.inr (he _ _).2)
  rw [D.ren_same f _ (he t x).1] at h1;exact .arrS h1 (i2 (by simp [D.refs]) (.inr rfl))
 | nils => exact fun _ _ => .nils
 | sl0 t c a => exact fun _ _ => .sl0 t c a
 | sl ha _ hc hcap ih => exact fun _ _ => .sl (fun j v hj => hX _ _ _ (ha j v hj).1 (ha j v hj).2) (ih (by simp [D.refs]) (.inr rfl)) hc hcap
 | @vs id n cp a h =>
  intro hr hy;refine .vs fun v e b lo hi hv => ?_;have hc := hr id (by simp [D.refs])
  rw [hv] at hc;cases ho:X.ρ id with
  | none => rw [ho] at hc;simp [Qj] at hc
  | some l =>
   rw [ho] at hc;cases l with
   | var b t => simp [Qj] at hc
   | map b0 => simp [Qj] at hc
   | vec v0 e0 b0 lo0 hi0 =>
    simp only [Qj] at hc;have := h _ _ _ _ _ ho;refine ⟨by omega,fun hl => ?_⟩
    have e1 := hc.2.2 (by omega)
    rw [e1];exact this.2 (by omega)
 | @ptr id p a h =>
  intro hr hy;refine .ptr fun b t hv => ?_;have hc := hr id (by simp [D.refs])
  rw [hv] at hc;cases ho:X.ρ id with
  | none => rw [ho] at hc;simp [Qj] at hc
  | some l =>
   rw [ho] at hc;cases l with
   | var b0 t0 =>
    simp only [Qj,Loc.var.injEq] at hc;obtain ⟨rfl,rfl⟩ := hc;exact h _ _ ho
   | vec v0 e0 b0 lo0 hi0 => simp [Qj] at hc
   | map b0 => simp [Qj] at hc
 | @asl ta id lo n cp b0 o0 p h =>
  intro hr hy;refine .asl fun b t hv => ?_;have hc := hr id (by simp [D.refs])
  rw [hv] at hc;cases ho:X.ρ id with
  | none => rw [ho] at hc;simp [Qj] at hc
  | some l =>
   rw [ho] at hc;cases l with
   | var b0 t0 =>
    simp only [Qj,Loc.var.injEq] at hc;obtain ⟨rfl,rfl⟩ := hc;exact h _ _ ho
   | vec v0 e0 b0 lo0 hi0 => simp [Qj] at hc
   | map b0 => simp [Qj] at hc
 | @vptr id n i p a h =>
  intro hr hy;refine .vptr fun v e b lo hi hv => ?_;have hc := hr id (by simp [D.refs])
  rw [hv] at hc;cases ho:X.ρ id with
  | none => rw [ho] at hc;simp [Qj] at hc
  | some l =>
   rw [ho] at hc;cases l with
   | var b t => simp [Qj] at hc
   | map b0 => simp [Qj] at hc
   | vec v0 e0 b0 lo0 hi0 =>
    simp only [Qj] at hc;have := h _ _ _ _ _ ho;refine ⟨by omega,fun hl => ?_⟩
    have e1 := hc.2.2 (by omega)
    rw [e1,hc.1];exact this.2 (by omega)
 | cptr ha _ ih =>
  intro hr hy;exact .cptr (fun j v hj => hX _ _ _ (ha j v hj).1 (ha j v hj).2) (ih (by simpa [D.refs] using hr) hy)
 | nilp => exact fun _ _ => .nilp
 | dsl ha _ hn h1 ih =>
  intro hr hy;exact .dsl (fun j v hj => hX _ _ _ (ha j v hj).1 (ha j v hj).2) (ih (by simpa [D.refs] using hr) hy) hn (by rw [D.ren_ones];exact h1)
 | @mp id b h =>
  intro hr hy;refine .mp fun b' hv => ?_;have hc := hr id (by simp [D.refs])
  rw [hv] at hc;cases ho:X.ρ id with
  | none => rw [ho] at hc;simp [Qj] at hc
  | some l =>
   rw [ho] at hc;cases l with
   | map b0 =>
    simp only [Qj,Loc.map.injEq] at hc;obtain rfl := hc;exact h _ ho
   | _ => simp [Qj] at hc
 | fn _ ih => exact fun hr hy => .fn (ih (by simpa [D.refs] using hr) hy)
 | nilfn => exact fun _ _ => .nilfn
 | nilm => exact fun _ _ => .nilm
 | bm h => exact fun _ _ => .bm h
 | yl hw hm hs _ ih =>
  intro hr hy;rcases hy with hy | hy
  · obtain ⟨h1,h2⟩ := hL hy _ _ hw hm;exact .yl h1 h2 hs (ih (by simpa [D.refs] using hr) (.inl hy))
  · cases hy
 | tup _ ih => exact fun hr hy => .tup (ih (by simpa [D.refs] using hr) hy)
 | top v => exact fun _ _ => .top v
 | vnil => exact fun _ _ => .vnil
 | vrow _ hr' _ i1 i2 =>
  intro hr hy;simp only [D.refs,List.mem_append] at hr;exact .vrow (i1 (fun id h => hr id (.inl h)) (hy.imp id fun h => by simp only [D.noYl,Bool.and_eq_true] at h;exact h.1)) (by rw [D.ren_row];exact hr') (i2 (fun id h => hr id (.inr h)) (hy.imp id fun h => by simp only [D.noYl,Bool.and_eq_true] at h;exact h.2))
 | vone _ hr' _ i1 i2 =>
  intro hr hy;simp only [D.refs,List.mem_append] at hr;exact .vone (i1 (fun id h => hr id (.inl h)) (hy.imp id fun h => by simp only [D.noYl,Bool.and_eq_true] at h;exact h.1)) (by rw [D.ren_row];exact hr') (i2 (fun id h => hr id (.inr h)) (hy.imp id fun h => by simp only [D.noYl,Bool.and_eq_true] at h;exact h.2))
theorem R.ren {X X':Cx} (f:Nat -> Nat) (he:∀ t x,(T.enc t x).refs = [] /\ (T.enc t x).noYl = true) (hX:Kps X X')
 {m:Bool} {d:D C} {vs:List Value} (h:R T X m d vs) (hr:∀ id ∈ d.refs,Qj (X.ρ id) (X'.ρ (f id))):R T X' m (d.ren f) vs :=
 h.renG (y := true) f he hX.cell (fun _ => hX.loop) hr (.inl rfl)
theorem R.renE {X X':Cx} (f:Nat -> Nat) (he:∀ t x,(T.enc t x).refs = [] /\ (T.enc t x).noYl = true) (hX:∀ b o v,X.w.cell? ⟨b,o,none⟩ = some v -> X.free b o -> X'.w.cell? ⟨b,o,none⟩ = some v /\ X'.free b o)
 {m:Bool} {d:D C} {vs:List Value} (h:R T X m d vs) (hn:d.noYl = true) (hr:∀ id ∈ d.refs,Qj (X.ρ id) (X'.ρ (f id))):R T X' m (d.ren f) vs :=
 h.renG (y := false) f he hX (fun h => by cases h) hr (.inr hn)
theorem RV.ren {X X':Cx} (f:Nat -> Nat) (he:∀ t x,(T.enc t x).refs = [] /\ (T.enc t x).noYl = true) (hX:Kps X X')
 {d:D C} {v:Value} (h:RV T X d v) (hr:∀ id ∈ d.refs,Qj (X.ρ id) (X'.ρ (f id))):RV T X' (d.ren f) v := by
 rcases h with ⟨h1,cs,h2,h3⟩ | ⟨h1,h2⟩
 · exact .inl ⟨by rw [D.ren_row];exact h1,cs,h2.ren f he hX hr,h3⟩
 · exact .inr ⟨by rw [D.ren_row];exact h1,h2.ren f he hX hr⟩
def Cx.part (X:Cx) (k:Nat) (f:Nat -> Nat):Cx :=
 ⟨X.w,fun j => if j < k then X.ρ (f j) else none,fun b o => X.O b o \/ (X.mine b o /\ ∀ j,j < k -> ∀ l,X.ρ (f j) = some l -> ¬ l.owns b o)⟩
theorem Cx.part_mine {X:Cx} {k:Nat} {f:Nat -> Nat} {b o:Nat}:(X.part k f).mine b o ↔ ∃ j l,j < k /\ X.ρ (f j) = some l /\ l.owns b o := by
 constructor
 · rintro ⟨j,l,h1,h2⟩
   simp only [Cx.part] at h1
   split at h1
   · exact ⟨j,l,by assumption,h1,h2⟩
   · cases h1
 · rintro ⟨j,l,h0,h1,h2⟩
   exact ⟨j,l,by simp [Cx.part,h0,h1],h2⟩
theorem Cx.part_free {X:Cx} {k:Nat} {f:Nat -> Nat} {b o:Nat}:(X.part k f).free b o ↔ X.free b o := by
 constructor
 · rintro ⟨h1,h2⟩
   refine ⟨fun h => h1 (.inl h),fun hm => ?_⟩
   by_cases hq:∃ j l,j < k /\ X.ρ (f j) = some l /\ l.owns b o
   · exact h2 (Cx.part_mine.2 hq)
   · exact h1 (.inr ⟨hm,fun j hj l hl ho => hq ⟨j,l,hj,hl,ho⟩⟩)
 · rintro ⟨h1,h2⟩
   refine ⟨fun h => h.elim h1 fun h => h2 h.1,fun hm => ?_⟩;obtain ⟨j,l,_,hl,ho⟩ := Cx.part_mine.1 hm;exact h2 ⟨f j,l,hl,ho⟩
def hpOf:Nat -> List (Obj C) -> Heap C
 | _,[] => []
 | n,o :: l => (n,o) :: hpOf (n + 1) l
theorem Qfp:∀ (l:List (Obj C)) (n id:Nat),(hpOf n l).get id = if n <= id then l[id - n]? else none
 | [],n,id => by simp [hpOf,Heap.get]
 | o :: l,n,id => by
  rw [hpOf,Qv,Qfp l (n + 1) id]
  by_cases h1:id = n
  · subst h1;simp
  · by_cases h2:n <= id
    · have h3:n + 1 <= id := by omega
      have h4:id - n = (id - (n + 1)) + 1 := by omega
      simp [h1,h2,h3,h4]
    · have h3:¬ n + 1 <= id := by omega
      simp [h1,h2,h3]
theorem QA (l:List (Obj C)) (id:Nat):(hpOf 0 l).get id = l[id]? := by rw [Qfp];simp
structure Part (h:Heap C) (os:List (Obj C)) (f:Nat -> Nat):Prop where
 at':∀ j o,os[j]? = some o -> h.get (f j) = some (o.ren f)
 inj:∀ i j,i < os.length -> j < os.length -> f i = f j -> i = j
 refs:∀ o ∈ os,∀ r ∈ Obj.refs o,r < os.length
theorem QcO {f:Nat -> Nat} {k:Nat} (hi:∀ i j,i < k -> j < k -> f i = f j -> i = j):∃ g:Nat -> Nat,∀ j,j < k -> g (f j) = j := by
 classical
 refine ⟨fun n => if h:∃ j,j < k /\ f j = n then h.choose else 0,fun j hj => ?_⟩
 have hex:∃ i,i < k /\ f i = f j := ⟨j,hj,rfl⟩;simp only [hex,dif_pos];have h1 := hex.choose_spec;exact hi _ _ h1.1 hj h1.2
theorem Part.ctx (L:Laws T) {X:Cx} {h:Heap C} {nx:Nat} {lim:Lim} (g:G T X h nx lim) {os:List (Obj C)} {f:Nat -> Nat} (p:Part h os f) (top:Nat):G T (X.part os.length f) (hpOf 0 os) os.length (lim0 top) := by
 obtain ⟨fi,hfi⟩ := QcO p.inj;have hX:Kps X (X.part os.length f) := ⟨fun b o v h1 h2 => ⟨h1,Cx.part_free.2 h2⟩,fun l r h1 h2 => ⟨h1,fun o hm => by obtain ⟨j,q,_,hl,ho⟩ := Cx.part_mine.1 hm;exact h2 o ⟨f j,q,hl,ho⟩⟩⟩
 refine ⟨?_,?_,?_,?_,?_,?_,?_,?_,Nat.zero_le _⟩
 · intro id t d ho;rw [QA] at ho;have hlt:id < os.length := (List.getElem?_eq_some_iff.1 ho).1;obtain ⟨b,c,h1,h2,h3,h4⟩ := g.var (f id) t (d.ren f) (p.at' id _ ho);have hrefs:∀ r ∈ d.refs,r < os.length := p.refs _ (List.mem_of_getElem? ho);refine ⟨b,c,by simp [Cx.part,hlt,h1],h2,?_,by rw [V5] at h4;exact h4⟩
   have h5 := h3.ren (X' := X.part os.length f) fi L.encOK hX (fun r hr => by
    rw [D.ren_refs,List.mem_map] at hr;obtain ⟨r0,hr0,rfl⟩ := hr;have := hrefs r0 hr0;simp only [hfi r0 this,Cx.part,this,if_true];exact .refl _)
   rwa [D.ren_ren f fi d (fun r hr => hfi r (hrefs r hr))] at h5
 · intro id t own l ho;rw [QA] at ho;have hlt:id < os.length := (List.getElem?_eq_some_iff.1 ho).1;obtain ⟨v,b,lo,hi,h1,h2⟩ := g.vec (f id) t own l (p.at' id _ ho);refine ⟨v,b,lo,hi,by simp [Cx.part,hlt,h1],?_⟩
   exact h2.move L hX.cell (fun _ => rfl) (L.posE t)
 · intro id ck cv l ho;rw [QA] at ho;have hlt:id < os.length := (List.getElem?_eq_some_iff.1 ho).1;obtain ⟨b,es,k,h1,h2,h3⟩ := g.map (f id) ck cv l (p.at' id _ ho);exact ⟨b,es,k,by simp [Cx.part,hlt,h1],h2,h3.move L hX.cell⟩
 · intro id l hr;simp only [Cx.part] at hr
   split at hr
   · rename_i hlt;rw [QA];simp [hlt]
   · cases hr
 · intro id o ho;rw [QA] at ho;have hlt:id < os.length := (List.getElem?_eq_some_iff.1 ho).1;exact ⟨⟨.inl hlt,fun h => h⟩,fun r hr => ⟨.inl (p.refs _ (List.mem_of_getElem? ho) r hr),fun h => h⟩⟩
 · intro i j l l' b o o' h1 h2 h3 h4;simp only [Cx.part] at h1 h2
   split at h1
   · split at h2
     · exact p.inj i j (by assumption) (by assumption) (g.apart _ _ _ _ _ _ _ h1 h2 h3 h4)
     · cases h2
   · cases h1
 · intro b o hm;obtain ⟨j,l,hj,hl,ho⟩ := Cx.part_mine.1 hm;have := g.outer b o ⟨_,l,hl,ho⟩;exact ⟨fun h => h.elim this.1 fun h => h.2 j hj l hl ho,this.2⟩
 · intro b o ho;exact ho.elim (g.outs b o) fun h => (g.outer b o h.1).2
theorem Part.back (L:Laws T) {X:Cx} {h h':Heap C} {nx:Nat} {lim:Lim} (g:G T X h nx lim) {os os':List (Obj C)} {f:Nat -> Nat} (p:Part h os f) (hlen:os'.length = os.length) (hrefs:∀ o ∈ os',∀ r ∈ Obj.refs o,r < os.length)
 {X1:Cx} {lim1:Lim} (g1:G T X1 (hpOf 0 os') os.length lim1) (s1:Step (X.part os.length f) os.length (lim0 os.length) X1)
 (hin:∀ j o,os'[j]? = some o -> h'.get (f j) = some (o.ren f)) (hout:∀ id,(∀ j,j < os.length -> f j ≠ id) -> h'.get id = h.get id) :
 ∃ X',X'.w = X1.w /\ G T X' h' nx lim /\ Step X nx lim X' /\ (∀ j,j < os.length -> X'.ρ (f j) = X1.ρ j) /\ ∀ b o v,X1.w.cell? ⟨b,o,none⟩ = some v -> X1.free b o -> X'.w.cell? ⟨b,o,none⟩ = some v /\ X'.free b o := by
 classical
 obtain ⟨fi,hfi⟩ := QcO p.inj
 let X':Cx := ⟨X1.w,fun id => if ∃ j,j < os.length /\ f j = id then X1.ρ (fi id) else X.ρ id,X.O⟩
 have hρ1:∀ j,j < os.length -> X'.ρ (f j) = X1.ρ j := fun j hj => by
  have:∃ i,i < os.length /\ f i = f j := ⟨j,hj,rfl⟩;simp only [X',this,if_true,hfi j hj]
 have hρ2:∀ id,(∀ j,j < os.length -> f j ≠ id) -> X'.ρ id = X.ρ id := fun id hid => by
  have:¬ ∃ j,j < os.length /\ f j = id := fun ⟨j,hj,e⟩ => hid j hj e;simp only [X',this,if_false]
 have hcase:∀ id,(∃ j,j < os.length /\ f j = id) \/ (∀ j,j < os.length -> f j ≠ id) := fun id => by
  by_cases hq:∃ j,j < os.length /\ f j = id
  · exact .inl hq
  · exact .inr fun j hj e => hq ⟨j,hj,e⟩
 have gp := Part.ctx L g p os.length
 -- what the others own
 have hA:∀ id l b o,(∀ j,j < os.length -> f j ≠ id) -> X.ρ id = some l -> l.owns b o -> b < X.w.heap.size /\ (X.part os.length f).O b o /\ ∀ o',¬ (X.part os.length f).mine b o' := by
  intro id l b o hid hl ho;have hno:∀ j,j < os.length -> ∀ l',X.ρ (f j) = some l' -> ∀ o',¬ l'.owns b o' := fun j hj l' hl' o' ho' => hid j hj (g.apart _ _ _ _ _ _ _ hl' hl ho' ho);refine ⟨(g.outer b o ⟨id,l,hl,ho⟩).2,.inr ⟨⟨id,l,hl,ho⟩,fun j hj l' hl' => hno j hj l' hl' o⟩,fun o' hm => ?_⟩;obtain ⟨j,l',hj,hl',ho'⟩ := Cx.part_mine.1 hm;exact hno j hj l' hl' o' ho'
 have hmine:∀ b o,X'.mine b o -> X1.mine b o \/ ∃ id l,(∀ j,j < os.length -> f j ≠ id) /\ X.ρ id = some l /\ l.owns b o := by
  rintro b o ⟨id,l,h1,h2⟩
  rcases hcase id with ⟨j,hj,rfl⟩ | hid
  · rw [hρ1 j hj] at h1;exact .inl ⟨j,l,h1,h2⟩
  · rw [hρ2 id hid] at h1;exact .inr ⟨id,l,hid,h1,h2⟩
 have hB:∀ b o,X1.free b o -> X'.free b o := by
  rintro b o ⟨h1,h2⟩
  have hO:X1.O = (X.part os.length f).O := s1.O;refine ⟨fun h3 => h1 (by rw [hO];exact .inl h3),fun hm => ?_⟩
  rcases hmine b o hm with h3 | ⟨id,l,h3,h4,h5⟩
  · exact h2 h3
  · exact h1 (by rw [hO];exact (hA id l b o h3 h4 h5).2.1)
 have hBB:∀ b o v,X1.w.cell? ⟨b,o,none⟩ = some v -> X1.free b o -> X'.w.cell? ⟨b,o,none⟩ = some v /\ X'.free b o := fun b o v h1 h2 => ⟨h1,hB b o h2⟩
 have hC:∀ b o v,X.w.cell? ⟨b,o,none⟩ = some v -> X.free b o -> X'.w.cell? ⟨b,o,none⟩ = some v /\ X'.free b o := by
  intro b o v h1 h2;have := s1.keeps.cell b o v h1 (Cx.part_free.2 h2);exact hBB b o v this.1 this.2
 have hold:∀ j,j < os.length -> old os.length (lim0 os.length) j := fun j hj => ⟨.inl hj,fun h => h⟩
 have hD:∀ id,Qj (X.ρ id) (X'.ρ id) := by
  intro id;rcases hcase id with ⟨j,hj,rfl⟩ | hid
  · rw [hρ1 j hj];have := s1.ρ j (hold j hj)
    simpa [Cx.part,hj] using this
  · rw [hρ2 id hid];exact .refl _
 have hblk:∀ id l b o,(∀ j,j < os.length -> f j ≠ id) -> X.ρ id = some l -> l.owns b o -> X'.w.heap[b]? = X.w.heap[b]? := fun id l b o h1 h2 h3 => by
  obtain ⟨a1,a2,a3⟩ := hA id l b o h1 h2 h3;exact s1.block b a1 a3
 have hsome:∀ j,j < os.length -> ∃ o,h.get (f j) = some o := fun j hj => ⟨_,p.at' j os[j] (by simp [hj])⟩
 have hs:Step X nx lim X' := by
  refine ⟨rfl,s1.os,s1.tape,s1.output,s1.size,fun id _ => hD id,?_,?_,?_,s1.frz⟩
  · intro b o hb hm;rcases hmine b o hm with h3 | ⟨id,l,h3,h4,h5⟩
    · obtain ⟨j,l,hj,hl,ho⟩ := Cx.part_mine.1 (s1.mine b o hb h3);exact ⟨f j,l,hl,ho⟩
    · exact ⟨id,l,h4,h5⟩
  · intro b o hb hm
    exact s1.cell b o hb fun hq => by
     obtain ⟨j,l,hj,hl,ho⟩ := Cx.part_mine.1 hq;exact hm ⟨f j,l,hl,ho⟩
  · intro b hb hm
    exact s1.block b hb fun o hq => by
     obtain ⟨j,l,hj,hl,ho⟩ := Cx.part_mine.1 hq;exact hm o ⟨f j,l,hl,ho⟩
 refine ⟨X',rfl,⟨?_,?_,?_,?_,?_,?_,?_,?_,g.low⟩,hs,hρ1,hBB⟩
 · intro id t d ho;rcases hcase id with ⟨j,hj,rfl⟩ | hid
   · have e1:os'[j]? = some os'[j] := by simp [hlen,hj]
     have e2 := hin j _ e1;rw [ho] at e2
     have e3:∃ d0,os'[j] = .var t d0 /\ d = d0.ren f := by
      cases hq:os'[j] with
      | var t0 d0 => rw [hq] at e2;simp [Obj.ren] at e2;exact ⟨d0,by rw [e2.1],e2.2⟩
      | vec t0 own0 l0 => rw [hq] at e2;simp [Obj.ren] at e2
      | map _ _ _ => rw [hq] at e2;simp [Obj.ren] at e2
     obtain ⟨d0,e4,rfl⟩ := e3;rw [e4] at e1;obtain ⟨b,c,h1,h2,h3,h4⟩ := g1.var j t d0 (by rw [QA];exact e1)
     refine ⟨b,c,by rw [hρ1 j hj];exact h1,h2,?_,by rw [V5];exact h4⟩
     refine h3.renE f L.encOK hBB (Yp _ _ h4) fun r hr => ?_;rw [hρ1 r (hrefs _ (List.mem_of_getElem? e1) r hr)];exact .refl _
   · rw [hout id hid] at ho;obtain ⟨b,c,h1,h2,h3,h4⟩ := g.var id t d ho;refine ⟨b,c,by rw [hρ2 id hid];exact h1,by rw [hblk id _ b 0 hid h1 rfl];exact h2,h3.monoG T (y := false) L.encOK hC (fun h => by cases h) (fun r hr => hD r) (.inr (Yp _ _ h4)),h4⟩
 · intro id t own l ho;rcases hcase id with ⟨j,hj,rfl⟩ | hid
   · have e1:os'[j]? = some os'[j] := by simp [hlen,hj]
     have e2 := hin j _ e1;rw [ho] at e2
     have e3:os'[j] = .vec t own l := by
      cases hq:os'[j] with
      | var t0 d0 => rw [hq] at e2;simp [Obj.ren] at e2
      | vec t0 own0 l0 => rw [hq] at e2;simp only [Obj.ren,Option.some.injEq] at e2;exact e2.symm
      | map _ _ _ => rw [hq] at e2;simp [Obj.ren] at e2
     rw [e3] at e1;obtain ⟨v,b,lo,hi,h1,h2⟩ := g1.vec j t own l (by rw [QA];exact e1)
     exact ⟨v,b,lo,hi,by rw [hρ1 j hj];exact h1,h2.move L hBB (fun _ => rfl) (L.posE t)⟩
   · rw [hout id hid] at ho;obtain ⟨v,b,lo,hi,h1,h2⟩ := g.vec id t own l ho;exact ⟨v,b,lo,hi,by rw [hρ2 id hid];exact h1,h2.move L hC (fun ⟨o,ho'⟩ => hblk id _ b o hid h1 ho') (L.posE t)⟩
 · intro id ck cv l ho;rcases hcase id with ⟨j,hj,rfl⟩ | hid
   · have e1:os'[j]? = some os'[j] := by simp [hlen,hj]
     have e2 := hin j _ e1;rw [ho] at e2
     have e3:os'[j] = .map ck cv l := by
      cases hq:os'[j] with
      | var t0 d0 => rw [hq] at e2;simp [Obj.ren] at e2
      | vec t0 own0 l0 => rw [hq] at e2;simp [Obj.ren] at e2
      | map _ _ _ => rw [hq] at e2;simp only [Obj.ren,Option.some.injEq] at e2;exact e2.symm
     rw [e3] at e1;obtain ⟨b,es,k,h1,h2,h3⟩ := g1.map j ck cv l (by rw [QA];exact e1)
     exact ⟨b,es,k,by rw [hρ1 j hj];exact h1,h2,h3.move L hBB⟩
   · rw [hout id hid] at ho;obtain ⟨b,es,k,h1,h2,h3⟩ := g.map id ck cv l ho;exact ⟨b,es,k,by rw [hρ2 id hid];exact h1,by rw [hblk id _ b 0 hid h1 rfl];exact h2,h3.move L hC⟩
 · intro id l hr;rcases hcase id with ⟨j,hj,rfl⟩ | hid
   · rw [hin j os'[j] (by simp [hlen,hj])];rfl
   · rw [hρ2 id hid] at hr;rw [hout id hid];exact g.dom id l hr
 · intro id o ho;rcases hcase id with ⟨j,hj,rfl⟩ | hid
   · obtain ⟨o0,h0⟩ := hsome j hj;have e1:os'[j]? = some os'[j] := by simp [hlen,hj]
     have e2 := hin j _ e1;rw [ho] at e2;simp only [Option.some.injEq] at e2;refine ⟨(g.nums _ _ h0).1,fun r hr => ?_⟩;rw [e2,Obj.ren_refs,List.mem_map] at hr;obtain ⟨r0,hr0,rfl⟩ := hr;obtain ⟨o1,h1⟩ := hsome r0 (hrefs _ (List.mem_of_getElem? e1) r0 hr0);exact (g.nums _ _ h1).1
   · rw [hout id hid] at ho;exact g.nums id o ho
 · intro i i' l l' b o o' h1 h2 h3 h4;rcases hcase i with ⟨j,hj,rfl⟩ | hid
   · rcases hcase i' with ⟨j',hj',rfl⟩ | hid'
     · rw [hρ1 j hj] at h1;rw [hρ1 j' hj'] at h2;rw [g1.apart j j' l l' b o o' h1 h2 h3 h4]
     · rw [hρ1 j hj] at h1;rw [hρ2 i' hid'] at h2;obtain ⟨a1,a2,a3⟩ := hA i' l' b o' hid' h2 h4;exact (a3 o (s1.mine b o a1 ⟨j,l,h1,h3⟩)).elim
   · rcases hcase i' with ⟨j',hj',rfl⟩ | hid'
     · rw [hρ2 i hid] at h1;rw [hρ1 j' hj'] at h2;obtain ⟨a1,a2,a3⟩ := hA i l b o hid h1 h3;exact (a3 o' (s1.mine b o' a1 ⟨j',l',h2,h4⟩)).elim
     · rw [hρ2 i hid] at h1;rw [hρ2 i' hid'] at h2;exact g.apart i i' l l' b o o' h1 h2 h3 h4
 · intro b o hm;rcases hmine b o hm with h3 | ⟨id,l,h3,h4,h5⟩
   · have := g1.outer b o h3;exact ⟨fun h => this.1 (by rw [s1.O];exact .inl h),this.2⟩
   · have := g.outer b o ⟨id,l,h4,h5⟩;exact ⟨this.1,Nat.lt_of_lt_of_le this.2 s1.size⟩
 · intro b o ho;exact Nat.lt_of_lt_of_le (g.outs b o ho) s1.size
def renE (f:Nat -> Nat) (env:Env C):Env C := env.map fun p => (p.1,p.2.ren f)
theorem Qfq (f:Nat -> Nat):∀ (env:Env C) (t:Nat),eget (renE f env) t = (eget env t).ren f
 | [],t => rfl
 | (j,d) :: r,t => by
  show eget ((j,d.ren f) :: renE f r) t = _;rw [Qs,Qs,Qfq f r t]
  split <;> rfl
theorem Qu.part (L:Laws T) {X:Cx} {nx:Nat} {lim:Lim} {env env0:Env C} {tmps:Array Value} {k top:Nat} {f:Nat -> Nat} (he:Qu T X nx lim env tmps) (hinj:∀ i j,i < k -> j < k -> f i = f j -> i = j)
 (hs:∀ q ∈ env0,eget env q.1 = q.2.ren f) (hr:∀ q ∈ env0,∀ r ∈ q.2.refs,r < k):Qu T (X.part k f) k (lim0 top) env0 tmps := by
 obtain ⟨fi,hfi⟩ := QcO hinj;intro t;rcases eget_mem env0 t with h | h
 · rw [h];exact RO.mk (RV.top _ _ _) rfl
 · have hrt:∀ r ∈ (eget env0 t).refs,r < k := hr _ h;refine ⟨?_,fun r hh => ⟨.inl (hrt r hh),fun h => h⟩⟩;have h1 := (he t).1;have h2 := hs _ h;simp only at h2;rw [h2] at h1
   have h3 := RV.ren (X := X) (X' := X.part k f) fi L.encOK (h := h1) ⟨fun b o v a1 a2 => ⟨a1,Cx.part_free.2 a2⟩,fun l r h1 h2 => ⟨h1,fun o hm => by obtain ⟨j,q,_,hl,ho⟩ := Cx.part_mine.1 hm;exact h2 o ⟨f j,q,hl,ho⟩⟩⟩ (fun r hh => by
    rw [D.ren_refs,List.mem_map] at hh;obtain ⟨r0,hr0,rfl⟩ := hh;have := hrt r0 hr0;simp only [hfi r0 this,Cx.part,this,if_true];exact .refl _)
   rwa [D.ren_ren f fi _ (fun r hh => hfi r (hrt r hh))] at h3
theorem Qu.back (L:Laws T) {X1 X':Cx} {nx k:Nat} {lim lim1:Lim} {env:Env C} {tmps:Array Value} {f:Nat -> Nat} (he:Qu T X1 k lim1 env tmps) (hr:∀ q ∈ env,∀ r ∈ q.2.refs,r < k)
 (hρ:∀ j,j < k -> X'.ρ (f j) = X1.ρ j) (hB:Kps X1 X') (hold:∀ j,j < k -> old nx lim (f j)):Qu T X' nx lim (renE f env) tmps := by
 intro t;rw [Qfq]
 have hrt:∀ r ∈ (eget env t).refs,r < k := by
  rcases eget_mem env t with h | h
  · rw [h];simp [D.refs]
  · exact hr _ h
 refine ⟨(he t).1.ren f L.encOK hB fun r hh => ?_,fun r hh => ?_⟩
 · rw [hρ r (hrt r hh)];exact .refl _
 · rw [D.ren_refs,List.mem_map] at hh;obtain ⟨r0,hr0,rfl⟩ := hh;exact hold r0 (hrt r0 hr0)
end
def Leaf {α:Type} (o:Option α) (p:α -> Prop):Prop := ∃ r,o = some r /\ p r
theorem Jm {α:Type} {c:Bool} {x y:Option α} {p:α -> Prop}:Leaf (cond c x y) p ↔ (c = true -> Leaf x p) /\ (c = false -> Leaf y p) := by
 cases c <;> simp
theorem Jn {α:Type} {a:α} {p:α -> Prop}:Leaf (some a) p ↔ p a := by simp [Leaf]
section
variable {C:Cdc} {P:Program} {T:Tab C} {Φ:Fns C}
open Pg (Ex)
def JZ (Φ:Fns C) (g:FuncId):List Code := match Φ.fn g with
 | some fn => match fn.body with
  | some b => QQ b
  | none => []
 | none => []
def QjB (Φ:Fns C) (g key:Nat):Code := ((JZ Φ g).find? fun b => Nat.beq (Qr b) key).getD .skip
def Kw (k:Nat):List Code -> Bool
 | [] => true
 | b :: l => !(Nat.beq (Qr b) k) && Kw k l
def Qhk:List Code -> Bool
 | [] => true
 | b :: l => Kw (Qr b) l && Qhk l
theorem Jo {k:Nat}:∀ {l:List Code},Kw k l = true -> ∀ b ∈ l,Qr b ≠ k
 | [],_,b,hb => by simp at hb
 | c :: l,h,b,hb => by
  simp only [Kw,Bool.and_eq_true,Bool.not_eq_true'] at h;simp only [List.mem_cons] at hb;rcases hb with rfl | hb
  · exact Nat.ne_of_beq_eq_false h.1
  · exact Jo h.2 b hb
theorem QaW {k:Nat}:∀ {l:List Code},Qhk l = true -> ∀ b ∈ l,Qr b = k -> l.find? (fun b => Nat.beq (Qr b) k) = some b
 | [],_,b,hb,_ => by simp at hb
 | c :: l,h,b,hb,hk => by
  simp only [Qhk,Bool.and_eq_true] at h;simp only [List.mem_cons] at hb;rcases hb with rfl | hb
  · simp [hk]
  · have hne := Jo h.1 b hb;have:Nat.beq (Qr c) k = false := beqF (by rw [<- hk];exact fun e => hne e.symm)
    simp only [List.find?_cons,this];exact QaW h.2 b hb hk
theorem QjC {g key:Nat} (hk:Qhk (JZ Φ g) = true) {fn:Func} {body b:Code} (hf:Φ.fn g = some fn) (hb:fn.body = some body) (hm:b ∈ QQ body) (hkey:Qr b = key):QjB Φ g key = b := by
 have:JZ Φ g = QQ body := by simp [JZ,hf,hb]
 rw [QjB,this,QaW (by rw [<- this];exact hk) b hm hkey]
 rfl
def sel:List Nat -> Env C -> Env C
 | [],_ => []
 | k :: l,env => (k,eget env k) :: sel l env
def cut (kc kf:List Nat) (r:Ev.X × Env C):Ev.X × Env C := match r.1 with
 | .normal => (.normal,sel kc r.2)
 | x => (x,sel kf r.2)
theorem K5:∀ (l:List Nat) (env:Env C),Sub env (sel l env)
 | [],env,p,hp => by simp [sel] at hp
 | k :: l,env,p,hp => by
  simp only [sel,List.mem_cons] at hp;rcases hp with rfl | hp
  · rfl
  · exact K5 l env p hp
end
theorem Qb {n:Int} (h1:-9223372036854775808 <= n) (h2:n <= 9223372036854775807):IntKind.i64.wrap n = n := by
 simp only [IntKind.wrap,IntKind.bits,IntKind.signed];simp;omega
def Qek {α:Type} (one:α -> Bool) (two:α -> α -> Bool):Option α -> List α -> Bool
 | _,[] => true
 | p,x :: l => one x && (match p with | none => true | some y => two y x) && Qek one two (some x) l
def QjD {α:Type} (l:List α) (i:Nat):Option α := match i with
 | 0 => none
 | i + 1 => l[i]?
section
variable {C:Cdc} {P:Program} {T:Tab C} {Φ:Fns C}
open Pg (Ex)
structure Qhl (C:Cdc) (σ:Type) where
 k:Nat
 canon:σ -> Env C
 objs:σ -> List (Obj C)
 fin:σ -> Ev.X × Env C
 fobjs:σ -> List (Obj C)
 Inv:σ -> Prop
 μ:σ -> Nat
def Ql (k:Nat) (env:Env C) (os:List (Obj C)):Prop := os.length = k /\ (∀ q ∈ env,∀ r ∈ q.2.refs,r < k) /\ ∀ o ∈ os,∀ r ∈ Obj.refs o,r < k
def Grow (os os':List (Obj C)) (f:Nat -> Nat):Prop := ∀ j,j < os.length -> f j = j \/ ∃ t own l own' l',os[j]? = some (.vec t own l) /\ os'[j]? = some (.vec t own' l') /\ l.length < l'.length
def Cx.partM (X:Cx) (k:Nat) (f:Nat -> Nat):Cx := ⟨X.w,fun j => if j < k then X.ρ (f j) else none,X.O⟩
theorem Cx.partM_mine {X:Cx} {k:Nat} {f:Nat -> Nat} {b o:Nat}:(X.partM k f).mine b o ↔ ∃ j l,j < k /\ X.ρ (f j) = some l /\ l.owns b o := by
 constructor
 · rintro ⟨j,l,h1,h2⟩
   simp only [Cx.partM] at h1
   split at h1
   · exact ⟨j,l,by assumption,h1,h2⟩
   · cases h1
 · rintro ⟨j,l,h0,h1,h2⟩
   exact ⟨j,l,by simp [Cx.partM,h0,h1],h2⟩
theorem Cx.partM_free {X:Cx} {k:Nat} {f:Nat -> Nat} {b o:Nat} (h:X.free b o):(X.partM k f).free b o :=
 ⟨h.1,fun hm => by obtain ⟨j,l,_,hl,ho⟩ := Cx.partM_mine.1 hm;exact h.2 ⟨f j,l,hl,ho⟩⟩
theorem Part.ctxM (L:Laws T) {X:Cx} {h:Heap C} {nx:Nat} {lim:Lim} (g:G T X h nx lim) {os:List (Obj C)} {f:Nat -> Nat} (p:Part h os f) (top:Nat):G T (X.partM os.length f) (hpOf 0 os) os.length (lim0 top) := by
 obtain ⟨fi,hfi⟩ := QcO p.inj;have hX:Kps X (X.partM os.length f) := ⟨fun b o v h1 h2 => ⟨h1,Cx.partM_free h2⟩,fun l r h1 h2 => ⟨h1,fun o hm => by obtain ⟨j,q,_,hl,ho⟩ := Cx.partM_mine.1 hm;exact h2 o ⟨f j,q,hl,ho⟩⟩⟩
 refine ⟨?_,?_,?_,?_,?_,?_,?_,?_,Nat.zero_le _⟩
 · intro id t d ho;rw [QA] at ho;have hlt:id < os.length := (List.getElem?_eq_some_iff.1 ho).1;obtain ⟨b,c,h1,h2,h3,h4⟩ := g.var (f id) t (d.ren f) (p.at' id _ ho);have hrefs:∀ r ∈ d.refs,r < os.length := p.refs _ (List.mem_of_getElem? ho);refine ⟨b,c,by simp [Cx.partM,hlt,h1],h2,?_,by rw [V5] at h4;exact h4⟩
   have h5 := h3.ren (X' := X.partM os.length f) fi L.encOK hX (fun r hr => by
    rw [D.ren_refs,List.mem_map] at hr;obtain ⟨r0,hr0,rfl⟩ := hr;have := hrefs r0 hr0;simp only [hfi r0 this,Cx.partM,this,if_true];exact .refl _)
   rwa [D.ren_ren f fi d (fun r hr => hfi r (hrefs r hr))] at h5
 · intro id t own l ho;rw [QA] at ho;have hlt:id < os.length := (List.getElem?_eq_some_iff.1 ho).1;obtain ⟨v,b,lo,hi,h1,h2⟩ := g.vec (f id) t own l (p.at' id _ ho);refine ⟨v,b,lo,hi,by simp [Cx.partM,hlt,h1],?_⟩
   exact h2.move L hX.cell (fun _ => rfl) (L.posE t)
 · intro id ck cv l ho;rw [QA] at ho;have hlt:id < os.length := (List.getElem?_eq_some_iff.1 ho).1;obtain ⟨b,es,k,h1,h2,h3⟩ := g.map (f id) ck cv l (p.at' id _ ho);exact ⟨b,es,k,by simp [Cx.partM,hlt,h1],h2,h3.move L hX.cell⟩
 · intro id l hr;simp only [Cx.partM] at hr
   split at hr
   · rename_i hlt;rw [QA];simp [hlt]
   · cases hr
 · intro id o ho;rw [QA] at ho;have hlt:id < os.length := (List.getElem?_eq_some_iff.1 ho).1;exact ⟨⟨.inl hlt,fun h => h⟩,fun r hr => ⟨.inl (p.refs _ (List.mem_of_getElem? ho) r hr),fun h => h⟩⟩
 · intro i j l l' b o o' h1 h2 h3 h4;simp only [Cx.partM] at h1 h2
   split at h1
   · split at h2
     · exact p.inj i j (by assumption) (by assumption) (g.apart _ _ _ _ _ _ _ h1 h2 h3 h4)
     · cases h2
   · cases h1
 · intro b o hm;obtain ⟨j,l,hj,hl,ho⟩ := Cx.partM_mine.1 hm;exact g.outer b o ⟨_,l,hl,ho⟩
 · intro b o ho;exact g.outs b o ho
theorem Qu.partM (L:Laws T) {X:Cx} {nx:Nat} {lim:Lim} {env env0:Env C} {tmps:Array Value} {k top:Nat} {f:Nat -> Nat} (he:Qu T X nx lim env tmps) (hinj:∀ i j,i < k -> j < k -> f i = f j -> i = j)
 (hs:∀ q ∈ env0,eget env q.1 = q.2.ren f) (hr:∀ q ∈ env0,∀ r ∈ q.2.refs,r < k):Qu T (X.partM k f) k (lim0 top) env0 tmps := by
 obtain ⟨fi,hfi⟩ := QcO hinj;intro t;rcases eget_mem env0 t with h | h
 · rw [h];exact RO.mk (RV.top _ _ _) rfl
 · have hrt:∀ r ∈ (eget env0 t).refs,r < k := hr _ h;refine ⟨?_,fun r hh => ⟨.inl (hrt r hh),fun h => h⟩⟩;have h1 := (he t).1;have h2 := hs _ h;simp only at h2;rw [h2] at h1
   have h3 := RV.ren (X := X) (X' := X.partM k f) fi L.encOK (h := h1) ⟨fun b o v a1 a2 => ⟨a1,Cx.partM_free a2⟩,fun l r h1 h2 => ⟨h1,fun o hm => by obtain ⟨j,q,_,hl,ho⟩ := Cx.partM_mine.1 hm;exact h2 o ⟨f j,q,hl,ho⟩⟩⟩ (fun r hh => by
    rw [D.ren_refs,List.mem_map] at hh;obtain ⟨r0,hr0,rfl⟩ := hh;have := hrt r0 hr0;simp only [hfi r0 this,Cx.partM,this,if_true];exact .refl _)
   rwa [D.ren_ren f fi _ (fun r hh => hfi r (hrt r hh))] at h3
theorem ZM.lenV {X:Cx} {t:C.Ty} {own:Bool} {l:List (C.A t)} {v:Value} {b lo hi:Nat} (h:ZM T X t own l v b lo hi):Ev.lenV v = l.length := by
 rcases h with ⟨⟨a,rfl,_⟩,rfl,_⟩ | ⟨off,cp,rfl,_⟩ <;> rfl
theorem Part.stepM {X X1:Cx} {h':Heap C} {nx':Nat} {os os':List (Obj C)} {f:Nat -> Nat} (g:G T X (hpOf 0 os) os.length (lim0 os.length)) (g1:G T X1 h' nx' (lim0 nx')) (s:Step X os.length (lim0 nx') X1) (p:Part h' os' f) (hlen:os'.length = os.length) (hg:Grow os os' f) :
 Step X os.length (lim0 os.length) (X1.partM os.length f) := by
 refine ⟨s.O,s.os,s.tape,s.output,s.size,fun id ho => ?_,fun b o hb hm => ?_,s.cell,s.block,s.frz⟩
 · by_cases hid:id < os.length
   · simp only [Cx.partM,hid,if_true];rcases hg id hid with hf | ⟨t,own,l,own',l',h1,h2,h3⟩
     · rw [hf];exact s.ρ id ⟨.inl hid,fun h => h⟩
     · obtain ⟨v,b,lo,hi,a1,a2⟩ := g.vec id t own l (by rw [QA];exact h1)
       obtain ⟨v',b',lo',hi',c1,c2⟩ := g1.vec (f id) t own' l' (p.at' id _ h2);rw [a1,c1];have e1 := a2.lenV;have e2 := c2.lenV;exact ⟨rfl,by omega,fun h => by omega⟩
   · have:(X1.partM os.length f).ρ id = none := by simp [Cx.partM,hid]
     rw [this];cases X.ρ id <;> simp [Qj]
 · obtain ⟨j,l,hj,hl,ho⟩ := Cx.partM_mine.1 hm;exact s.mine b o hb ⟨f j,l,hl,ho⟩
def QrE (T:Tab C) (Φ:Fns C) (g:FuncId) (b:Code) {σ:Type} (S:Qhl C σ):Prop :=
 ∀ s,S.Inv s -> Ql S.k (S.canon s) (S.objs s) /\ Ql S.k (S.fin s).2 (S.fobjs s) /\ ∃ n x env' h' nx' tr,Ex (0,0) (evC T Φ n g b (S.canon s)) (hpOf 0 (S.objs s)) S.k (x,env') h' nx' tr /\
  ((x = .normal /\ ∃ s',S.Inv s' /\ S.μ s' < S.μ s /\ S.fin s' = S.fin s /\ S.fobjs s' = S.fobjs s /\ Sub env' (S.canon s') /\ ∀ j,j < S.k -> h'.get j = (S.objs s')[j]?) \/
   (x = .normal /\ ∃ s' f,S.Inv s' /\ S.μ s' < S.μ s /\ S.fin s' = S.fin s /\ S.fobjs s' = S.fobjs s /\ (∀ p ∈ S.canon s',eget env' p.1 = p.2.ren f) /\ Part h' (S.objs s') f /\ Grow (S.objs s) (S.objs s') f) \/
   (x ≠ .normal /\ x = (S.fin s).1 /\ Sub env' (S.fin s).2 /\ ∀ j,j < S.k -> h'.get j = (S.fobjs s)[j]?))
theorem G.relim2 {X:Cx} {h:Heap C} {nx nx' k:Nat} {lim lim':Lim} (g:G T X h nx lim) (hk:∀ id o,h.get id = some o -> id < k /\ ∀ r ∈ o.refs,r < k) (hn:k <= nx') (hl:lim'.lo <= nx') (hH:∀ id,¬ lim'.H id):G T X h nx' lim' :=
 ⟨g.var,g.vec,g.map,g.dom,fun id o ho => ⟨⟨.inl (by have := (hk id o ho).1;omega),hH id⟩,fun r hr => ⟨.inl (by have := (hk id o ho).2 r hr;omega),hH r⟩⟩,g.apart,g.outer,g.outs,hl⟩
theorem Jp {os:List (Obj C)} {k:Nat} (hl:os.length = k) (hr:∀ o ∈ os,∀ r ∈ Obj.refs o,r < k):∀ id o,(hpOf 0 os).get id = some o -> id < k /\ ∀ r ∈ o.refs,r < k := by
 intro id o ho;rw [QA] at ho;exact ⟨by rw [<- hl];exact (List.getElem?_eq_some_iff.1 ho).1,hr o (List.mem_of_getElem? ho)⟩
theorem Qhm (K:Q5 P T) (F:Qh P T Φ) {g:FuncId} {fn:Func} {body b:Code} {σ:Type} {S:Qhl C σ} (hr:QrE T Φ g b S) (hf:Φ.fn g = some fn) (hb:fn.body = some body) (hcb:Ya fn.ntmps b = true) (hl:∀ b' ∈ QQ b,b' ∈ QQ body) {B:Nat -> Bool} (hB:QcE B b)
 {Q:Exit -> Act -> World -> Prop}:∀ (m:Nat) (s:σ) (X:Cx) (a:Act),S.Inv s -> S.μ s < m -> G T X (hpOf 0 (S.objs s)) S.k (lim0 S.k) -> Qu T X S.k (lim0 S.k) (S.canon s) a.tmps -> fn.ntmps <= a.tmps.size ->
  (∀ a' X',G T X' (hpOf 0 (S.fobjs s)) S.k (lim0 S.k) -> Step X S.k (lim0 S.k) X' -> Qu T X' S.k (lim0 S.k) (S.fin s).2 a'.tmps -> a'.tmps.size = a.tmps.size -> ZP X X' a'.defers a.defers -> Kp B a.tmps a'.tmps -> Q (QcD (S.fin s).1) a' X'.w) -> Code.rounds P b Q m a X.w := by
 intro m
 induction m with
 | zero => intro s X a _ hm;omega
 | succ m ih =>
  intro s X a hI hm hg he hsz hk;obtain ⟨hr1,hr2,n,x,env',h',nx',tr,hx,hcase⟩ := hr s hI;rw [rounds_succ];have hle:S.k <= nx' := hx.le;have g0:G T X (hpOf 0 (S.objs s)) S.k (lim0 nx') := hg.relim2 (Jp hr1.1 hr1.2.2) (Nat.le_refl _) (Nat.zero_le _) (fun _ h => h)
  have e0:Qu T X S.k (lim0 nx') (S.canon s) a.tmps := fun t => ⟨(he t).1,fun r hh => ⟨.inl (by
   rcases eget_mem (S.canon s) t with h | h
   · rw [h] at hh;simp [D.refs] at hh
   · exact hr1.2.1 _ h r hh),fun h => h⟩⟩
  refine (wpIn_wide (n := 0)).1 ((Qji K F n).1 none 0 g fn.ntmps b (.inr ⟨rfl,fn,body,hf,rfl,hb,hl⟩) hcb B hB X (hpOf 0 (S.objs s)) S.k (lim0 nx') (0,0) (S.canon s) x env' h' nx' tr a _ g0 e0 (Nat.le_refl _) hsz hx ?_);intro a1 X1 g1 s1 e1 hs1 hd1 kp1
  -- the objects that are kept
  have key:∀ (os:List (Obj C)) (env0:Env C),Ql S.k env0 os -> (∀ j,j < S.k -> h'.get j = os[j]?) -> Sub env' env0 ->
   ∃ X2,X2.w = X1.w /\ G T X2 (hpOf 0 os) S.k (lim0 S.k) /\ Step X S.k (lim0 S.k) X2 /\ Qu T X2 S.k (lim0 S.k) env0 a1.tmps /\ ZP X X2 a1.defers a.defers := by
   intro os env0 ⟨q1,q2,q3⟩ hget hsub
   obtain ⟨X2,w2,g2,s2,hρ⟩ := G.drop K.base g1 (h' := hpOf 0 os) (fun id => by
    rw [QA]
    by_cases hid:id < S.k
    · exact .inl (hget id hid).symm
    · exact .inr (List.getElem?_eq_none (by omega)))
   have hnone:∀ id,¬ id < S.k -> X2.ρ id = none := fun id hid => by
    cases hq:X2.ρ id with
    | none => rfl
    | some l =>
     have := g2.dom id l hq;rw [QA,List.getElem?_eq_none (by omega)] at this
     cases this
   have s3 := s1.trans s2 hle;refine ⟨X2,w2,g2.relim2 (Jp q1 q3) (Nat.le_refl _) (Nat.zero_le _) (fun _ h => h),⟨s3.O,s3.os,s3.tape,s3.output,s3.size,fun id ho => ?_,s3.mine,s3.cell,s3.block,s3.frz⟩,fun t => ?_,hd1.sub w2 s2.mine⟩
   · by_cases hid:id < S.k
     · exact s3.ρ id ⟨.inl hid,fun h => h⟩
     · rw [hnone id hid];cases X.ρ id <;> simp [Qj]
   · rcases eget_mem env0 t with h | h
     · rw [h];exact RO.mk (RV.top _ _ _) rfl
     · have hrt:∀ r ∈ (eget env0 t).refs,r < S.k := q2 _ h;have h2 := hsub _ h;simp only at h2;have h3 := (e1 t).1;rw [h2] at h3;exact ⟨h3.mono T K.base.encOK s2.keeps fun r hh => s2.ρ r ⟨.inl (by have := hrt r hh;omega),fun h => h⟩,fun r hh => ⟨.inl (hrt r hh),fun h => h⟩⟩
  rcases hcase with ⟨rfl,s',hI',hmu,hfin,hfo,hsub,hget⟩ | ⟨rfl,s',f,hI',hmu,hfin,hfo,hsub,hpart,hgrow⟩ | ⟨hne,hxf,hsub,hget⟩
  · obtain ⟨hr1',_,_⟩ := hr s' hI';obtain ⟨X2,w2,g2,s2,e2,hd2⟩ := key _ _ hr1' hget hsub;rw [<- w2];refine ih s' X2 a1 hI' (by omega) g2 e2 (by omega) fun a3 X3 g3 s3 e3 hs3 hd3 kp3 => ?_
    rw [hfin] at e3 ⊢;rw [hfo] at g3;exact hk a3 X3 g3 (s2.trans s3 (Nat.le_refl _)) e3 (by omega) (hd2.trans s2 s3 hd3) (kp1.trans kp3)
  · obtain ⟨hr1',_,_⟩ := hr s' hI';have hlen':(S.objs s').length = (S.objs s).length := by rw [hr1'.1,hr1.1]
    have g2 := Part.ctxM K.base g1 hpart (S.objs s').length;have e2:Qu T (X1.partM (S.objs s').length f) (S.objs s').length (lim0 (S.objs s').length) (S.canon s') a1.tmps := Qu.partM K.base e1 hpart.inj hsub (by rw [hr1'.1];exact hr1'.2.1)
    have s2 := Part.stepM (by rw [hr1.1];exact hg) g1 (by rw [hr1.1];exact s1) hpart hlen' hgrow
    rw [hr1'.1] at g2 e2;rw [hr1.1] at s2;refine ih s' (X1.partM S.k f) a1 hI' (by omega) g2 e2 (by omega) fun a3 X3 g3 s3 e3 hs3 hd3 kp3 => ?_
    rw [hfin] at e3 ⊢;rw [hfo] at g3;exact hk a3 X3 g3 (s2.trans s3 (Nat.le_refl _)) e3 (by omega) ((hd1.sub (X2 := X1.partM S.k f) rfl (fun b o _ hm => by obtain ⟨j,q,_,hl,ho⟩ := Cx.partM_mine.1 hm;exact ⟨f j,q,hl,ho⟩)).trans s2 s3 hd3) (kp1.trans kp3)
  · obtain ⟨X2,w2,g2,s2,e2,hd2⟩ := key _ _ hr2 hget hsub;have hfinal:Q (QcD (S.fin s).1) a1 X2.w := hk a1 X2 g2 s2 e2 hs1 hd2 kp1;rw [w2,<- hxf] at hfinal;cases x with
    | normal => exact (hne rfl).elim
    | exit id => exact hfinal
    | ret => exact hfinal
theorem QcP {X:Cx} {t:C.Ty} {l:List (C.A t)} {v:Value} (h:R T X false (.sl t true l) [v]):∃ a,v = .slice a l.length l.length /\ ∃ b lo,ZM T X t l.isEmpty l v b lo lo := by
 have key:∀ a:Option Addr,∃ b lo,ZM T X t true [] (.slice a 0 0) b lo lo := by
  intro a
  by_cases hq:∃ b off,a = some ⟨b,off,none⟩
  · obtain ⟨b,off,rfl⟩ := hq;exact ⟨b,off,.inr ⟨off,0,rfl,Nat.le_refl _,by simp,.inl ⟨rfl,rfl,.inl rfl⟩⟩⟩
  · exact ⟨0,0,.inl ⟨⟨a,rfl,fun b off e => hq ⟨b,off,e⟩⟩,rfl,Nat.le_refl _⟩⟩
 cases h with
 | sl0 _ _ a => exact ⟨a,rfl,key a⟩
 | @sl _ _ _ b off _ _ ha hr hc hcap =>
  have := hcap rfl;subst this;cases l with
  | nil => exact ⟨_,rfl,key _⟩
  | cons x l => exact ⟨_,rfl,b,off + (x :: l).length * T.size (T.ety t),.inr ⟨off,(x :: l).length,rfl,Nat.le_refl _,rfl,.inr ⟨rfl,rfl,⟨_,ha,hr⟩,.inl rfl⟩⟩⟩
theorem QaX (K:Q5 P T) {X:Cx} {h:Heap C} {nx t:Nat} {lim:Lim} {env:Env C} {tmps:Array Value} {ty:C.Ty} {l:List (C.A ty)} (g:G T X h nx lim) (he:Qu T X nx lim env tmps) (hn:nx < lim.top) (hs:eget env t = .sl ty true l) :
 ∃ X',X'.w = X.w /\ G T X' ((nx,.vec ty l.isEmpty l) :: h) (nx + 1) lim /\ Step X nx lim X' /\ Qu T X' (nx + 1) lim ((t,.vs nx l.length) :: env) tmps := by
 have h1 := (he t).1;rw [hs] at h1;have h2 := h1.one rfl;obtain ⟨a,hv,b,lo,hV⟩ := QcP h2;obtain ⟨X',w',ρ',g',s'⟩ := G.newRef K g hn (Nat.le_refl _) hV;refine ⟨X',w',g',s',fun u => ?_⟩;rw [Qs]
 by_cases hu:u = t
 · subst hu;simp only [if_true];refine ⟨.inr ⟨rfl,?_⟩,by simpa [D.refs] using g.new hn⟩
   rw [hv];refine .vs fun v e b' lo' hi' hq => ?_;rw [ρ'] at hq;simp only [Option.some.injEq,Loc.vec.injEq] at hq;obtain ⟨rfl,_⟩ := hq;rw [hv];exact ⟨by simp [lenV],fun _ => rfl⟩
 · simp only [hu,if_false];exact (he u).step K.base s' (by omega)
def YS (T:Tab C):TypeId -> List Nat -> Bool
 | _,[] => true
 | t,i :: p => match T.ty t with
  | .struct _ fs => Nat.blt i fs.length && YS T (fs.getD i 0) p
  | .arr n e _ => Nat.blt i n && YS T e p
  | _ => false
theorem Vh:∀ (p:List Nat) (t:TypeId),YS T t p = true -> QN T t p := by
 intro p
 induction p with
 | nil => intro t _;trivial
 | cons i p ih =>
  intro t h;simp only [YS] at h;simp only [QN];cases ht:T.ty t <;> simp only [ht,Bool.and_eq_true,Bool.false_eq_true] at h ⊢
  · exact ⟨by simpa [Nat.blt_eq] using h.1,ih _ h.2⟩
  · exact ⟨by simpa [Nat.blt_eq] using h.1,ih _ h.2⟩
theorem QaY (K:Q5 P T) {X:Cx} {h:Heap C} {nx id:Nat} {lim:Lim} {env:Env C} {tmps:Array Value} {ty:C.Ty} {l:List (C.A ty)} {u t':TypeId} {d d':D C} {p:List Nat} (g:G T X h nx lim) (he:Qu T X nx lim env tmps) (hn:nx < lim.top)
 (ho:h.get id = some (.var u d)) (hp:YS T u p = true) (hg:getPath T d p = some (.sl ty true l)) (hs:Ev.setPath T d p (.vs nx l.length) = some d') (ht:tyAt T u p = some t') (hf:fit T (.vs nx l.length:D C) (.inl t') = true) :
 ∃ X',X'.w = X.w /\ G T X' (Heap.put id (.var u d') ((nx,.vec ty l.isEmpty l) :: h)) (nx + 1) lim /\ Step X nx lim X' /\ Qu T X' (nx + 1) lim env tmps := by
 obtain ⟨b0,c0,h1,h2,h3,h4⟩ := g.var id u d ho;obtain ⟨c1,c2,c3,hc,hl,hr,_⟩ := h3.path K.base p (Vh p u hp) h4 hg;have hne:id ≠ nx := fun e => by have := (g.nums id _ ho).1.1;omega
 have hone:∃ v,c2 = [v] := by
  cases hr with
  | sl0 => exact ⟨_,rfl⟩
  | sl => exact ⟨_,rfl⟩
 obtain ⟨v,rfl⟩ := hone;obtain ⟨a,hv,b,lo,hV⟩ := QcP hr;obtain ⟨X',w',ρ',g',s'⟩ := G.newRef K g hn (Nat.le_refl _) hV
 have hvs:R T X' false (.vs nx l.length) [v] := by
  rw [hv];refine .vs fun v e b' lo' hi' hq => ?_;rw [ρ'] at hq;simp only [Option.some.injEq,Loc.vec.injEq] at hq;obtain ⟨rfl,_⟩ := hq;rw [hv];exact ⟨by simp [lenV],fun _ => rfl⟩
 have hrefs:∀ r ∈ d.refs,old nx lim r := (g.nums id _ ho).2;have ho':Heap.get id ((nx,.vec ty l.isEmpty l) :: h) = some (.var u d) := by rw [Qv];simp [hne,ho]
 obtain ⟨b1,c1',e1,e2,e3,e4⟩ := g'.var id u d ho';refine ⟨X',w',?_,s',fun t => (he t).step K.base s' (by omega)⟩
 -- the object is seen otherwise;its cells are as they were
 have hs2:(Heap.get id ((nx,.vec ty l.isEmpty l) :: h)).isSome = true := by rw [ho'];rfl
 obtain ⟨k1,k2,k3,q1,q2,q3,q4,q5⟩ := e3.setPath K.base p (Vh p u hp) e4 hs hvs ht hf;obtain ⟨m1,m2,m3,n1,n2,n3,_⟩ := e3.path K.base p (Vh p u hp) e4 hg
 have hm2:m2.length = 1 := by
  cases n3 with
  | sl0 => rfl
  | sl => rfl
 have hcc:c1'.toList = c0.toList := by
  have hw:X'.w.heap[b1]? = X.w.heap[b0]? := by
   have:X'.ρ id = X.ρ id \/ True := .inr trivial;rw [w'];have hρ:Qj (X.ρ id) (X'.ρ id) := s'.ρ id (g.nums id _ ho).1;rw [h1,e1] at hρ;simp only [Qj,Loc.var.injEq] at hρ;rw [hρ.1]
  rw [e2,h2] at hw;simp only [Option.some.injEq,Obj.cells.injEq] at hw;rw [hw.1]
 have heq:k1 ++ [v] ++ k3 = c1'.toList := by
  have a1:k1 = c1 := by
   have:(k1 ++ k2 ++ k3).take (offAt T u p) = (c1 ++ [v] ++ c3).take (offAt T u p) := by rw [<- q1,<- hc,hcc]
   rw [List.append_assoc,List.append_assoc,List.take_append_of_le_length (by omega),List.take_append_of_le_length (by omega),List.take_of_length_le (by omega),List.take_of_length_le (by omega)] at this
   exact this
  have a2:k2 ++ k3 = [v] ++ c3 := by
   have:k1 ++ (k2 ++ k3) = c1 ++ ([v] ++ c3) := by rw [<- List.append_assoc,<- List.append_assoc,<- q1,<- hc,hcc]
   rw [a1] at this;exact List.append_cancel_left this
  have a3:k3 = c3 := by
   simp only [List.length_singleton] at q3;obtain ⟨y,rfl⟩ := List.length_eq_one_iff.1 q3;simp at a2;exact a2.2
  rw [a1,a3,hcc,hc]
 rw [heq] at q4;refine ⟨?_,?_,?_,?_,?_,g'.apart,g'.outer,g'.outs,g'.low⟩
 · intro j t e hj;rw [Qm hs2] at hj
   by_cases hji:j = id
   · simp only [hji,if_true,Option.some.injEq,Ev.Obj.var.injEq] at hj;obtain ⟨rfl,rfl⟩ := hj;exact ⟨b1,c1',by rw [hji];exact e1,e2,q4,q5⟩
   · simp only [hji,if_false] at hj;exact g'.var j t e hj
 · intro j t own l hj;rw [Qm hs2] at hj
   by_cases hji:j = id
   · simp [hji] at hj
   · simp only [hji,if_false] at hj;exact g'.vec j t own l hj
 · intro j ck cv l hj;rw [Qm hs2] at hj
   by_cases hji:j = id
   · simp [hji] at hj
   · simp only [hji,if_false] at hj;exact g'.map j ck cv l hj
 · intro j l hj;rw [Qm hs2]
   by_cases hji:j = id
   · simp [hji]
   · simp only [hji,if_false];exact g'.dom j l hj
 · intro j o hj;rw [Qm hs2] at hj
   by_cases hji:j = id
   · simp only [hji,if_true,Option.some.injEq] at hj;subst hj;refine ⟨by rw [hji];exact (g'.nums id _ ho').1,fun r hr => ?_⟩
     rcases refs_setPath K.base p hs r hr with h5 | h5
     · exact (hrefs r h5).mono (by omega)
     · simp only [D.refs,List.mem_singleton] at h5;rw [h5];exact g.new hn
   · simp only [hji,if_false] at hj;exact g'.nums j o hj
inductive Fnd where
 | slot (t i:Nat)
 | path (j:Nat) (p:List Nat)
def QaF {α:Type} (T:Tab C):List Fnd -> Env C -> List Nat -> (Env C -> List Nat -> Pg C α) -> Pg C α
 | [],env,ids,k => k env ids
 | .slot t i :: r,env,ids,k => match eget env t with
  | .sl ty true [] => .nw (.vec ty true []) fun id => QaF T r ((t,.vs id 0) :: env) (ids ++ [id]) k
  | .sl ty true (x :: l) => .nw (.vec ty false (x :: l)) fun id => QaF T r ((t,.vs id (x :: l).length) :: env) (ids ++ [id]) k
  | d => match d.refs[i]? with
   | some id => QaF T r env (ids ++ [id]) k
   | none => .fail
 | .path j p :: r,env,ids,k => match ids[j]? with
  | none => .fail
  | some idj => .rd idj fun
   | .var u d => match getPath T d p with
    | some (.sl ty true []) => match tyAt T u p with
     | some t' => bif YS T u p && fit T (.vs 0 0:D C) (.inl t') then .nw (.vec ty true []) fun id => match Ev.setPath T d p (.vs id 0) with
      | some d' => .wr idj (.var u d') (QaF T r env (ids ++ [id]) k)
      | none => .fail
      else .fail
     | none => .fail
    | some (.sl ty true (x :: l)) => match tyAt T u p with
     | some t' => bif YS T u p && fit T (.vs 0 0:D C) (.inl t') then .nw (.vec ty false (x :: l)) fun id => match Ev.setPath T d p (.vs id (x :: l).length) with
      | some d' => .wr idj (.var u d') (QaF T r env (ids ++ [id]) k)
      | none => .fail
      else .fail
     | none => .fail
    | some x => match x.refs with
     | id :: _ => QaF T r env (ids ++ [id]) k
     | [] => .fail
    | none => .fail
   | _ => .fail
theorem Qfr (K:Q5 P T) {α:Type} {e:Pg.Lv} {a:α} {h':Heap C} {nx':Nat} {lim:Lim} (hlim:nx' <= lim.top) {k:Env C -> List Nat -> Pg C α} {tmps:Array Value}:∀ (l:List Fnd) (X:Cx) (h:Heap C) (nx:Nat) (tr:Tr) (env:Env C) (ids:List Nat),
 G T X h nx lim -> Qu T X nx lim env tmps -> Ex e (QaF T l env ids k) h nx a h' nx' tr ->
 ∃ X1 h1 nx1 env1 ids1 tr1,X1.w = X.w /\ G T X1 h1 nx1 lim /\ Step X nx lim X1 /\ nx <= nx1 /\ Qu T X1 nx1 lim env1 tmps /\ Ex e (k env1 ids1) h1 nx1 a h' nx' tr1 := by
 intro l
 induction l with
 | nil => intro X h nx tr env ids g he hx;exact ⟨X,h,nx,env,ids,tr,rfl,g,.refl _ _ _,Nat.le_refl _,he,hx⟩
 | cons f l ih =>
  intro X h nx tr env ids g he hx;cases f with
  | slot t i =>
   simp only [QaF] at hx
   split at hx
   · rename_i ty hq;obtain ⟨t',hx,_⟩ := Ex.nw hx;have hle := hx.le;obtain ⟨X1,w1,g1,s1,e1⟩ := QaX K g he (by omega) hq
     obtain ⟨X2,h2,n2,env2,ids2,tr2,w2,g2,s2,hn2,e2,hx2⟩ := ih X1 _ _ _ _ _ g1 e1 hx;exact ⟨X2,h2,n2,env2,ids2,tr2,by rw [w2,w1],g2,s1.trans s2 (by omega),by omega,e2,hx2⟩
   · rename_i ty x l0 hq;obtain ⟨t',hx,_⟩ := Ex.nw hx;have hle := hx.le;obtain ⟨X1,w1,g1,s1,e1⟩ := QaX K g he (by omega) hq
     obtain ⟨X2,h2,n2,env2,ids2,tr2,w2,g2,s2,hn2,e2,hx2⟩ := ih X1 _ _ _ _ _ g1 e1 hx;exact ⟨X2,h2,n2,env2,ids2,tr2,by rw [w2,w1],g2,s1.trans s2 (by omega),by omega,e2,hx2⟩
   · split at hx
     · exact ih X h nx tr env _ g he hx
     · exact (Ex.fail hx).elim
  | path j p =>
   simp only [QaF] at hx
   split at hx
   · exact (Ex.fail hx).elim
   · rename_i idj hj;obtain ⟨o,t',ho,hx,_⟩ := Ex.rd hx;cases o with
     | vec _ _ _ => exact (Ex.fail hx).elim
     | map _ _ _ => exact (Ex.fail hx).elim
     | var u d =>
      simp only at hx
      split at hx
      · rename_i ty hq
        split at hx
        · rename_i t' ht;cases hb:YS T u p && fit T (.vs 0 0:D C) (.inl t') with
          | false => rw [hb] at hx;exact (Ex.fail hx).elim
          | true =>
           rw [hb] at hx;simp only [cond_true] at hx;simp only [Bool.and_eq_true] at hb;obtain ⟨t1,hx,_⟩ := Ex.nw hx
           split at hx
           · rename_i d' hs;obtain ⟨o',t2,ho',hx,_⟩ := Ex.wr hx;have hle := hx.le;obtain ⟨X1,w1,g1,s1,e1⟩ := QaY K g he (by omega) ho hb.1 hq hs ht (by simpa [fit] using hb.2)
             obtain ⟨X2,h2,n2,env2,ids2,tr2,w2,g2,s2,hn2,e2,hx2⟩ := ih X1 _ _ _ _ _ g1 e1 hx;exact ⟨X2,h2,n2,env2,ids2,tr2,by rw [w2,w1],g2,s1.trans s2 (by omega),by omega,e2,hx2⟩
           · exact (Ex.fail hx).elim
        · exact (Ex.fail hx).elim
      · rename_i ty x l0 hq
        split at hx
        · rename_i t' ht;cases hb:YS T u p && fit T (.vs 0 0:D C) (.inl t') with
          | false => rw [hb] at hx;exact (Ex.fail hx).elim
          | true =>
           rw [hb] at hx;simp only [cond_true] at hx;simp only [Bool.and_eq_true] at hb;obtain ⟨t1,hx,_⟩ := Ex.nw hx
           split at hx
           · rename_i d' hs;obtain ⟨o',t2,ho',hx,_⟩ := Ex.wr hx;have hle := hx.le;obtain ⟨X1,w1,g1,s1,e1⟩ := QaY K g he (by omega) ho hb.1 hq hs ht (by simpa [fit] using hb.2)
             obtain ⟨X2,h2,n2,env2,ids2,tr2,w2,g2,s2,hn2,e2,hx2⟩ := ih X1 _ _ _ _ _ g1 e1 hx;exact ⟨X2,h2,n2,env2,ids2,tr2,by rw [w2,w1],g2,s1.trans s2 (by omega),by omega,e2,hx2⟩
           · exact (Ex.fail hx).elim
        · exact (Ex.fail hx).elim
      · split at hx
        · exact ih X h nx _ env _ g he hx
        · exact (Ex.fail hx).elim
      · exact (Ex.fail hx).elim
def Qtc {α:Type}:List Nat -> (List (Obj C) -> Pg C α) -> Pg C α
 | [],k => k []
 | id :: r,k => .rd id fun o => Qtc r fun os => k (o :: os)
theorem QbF {α:Type} {e:Pg.Lv} {a:α} {h h':Heap C} {nx nx':Nat}:∀ (ids:List Nat) (k:List (Obj C) -> Pg C α) (tr:Tr),Ex e (Qtc ids k) h nx a h' nx' tr -> ∃ os tr1,os.length = ids.length /\ (∀ (j id:Nat) (o:Obj C),ids[j]? = some id -> os[j]? = some o -> h.get id = some o) /\ Ex e (k os) h nx a h' nx' tr1
 | [],k,tr,hx => ⟨[],tr,rfl,by simp,hx⟩
 | id :: r,k,tr,hx => by
  obtain ⟨o,t',ho,hx,_⟩ := Ex.rd hx;obtain ⟨os,tr1,h1,h2,h3⟩ := QbF r _ _ hx;refine ⟨o :: os,tr1,by simp [h1],fun j i o' hj ho' => ?_,h3⟩
  cases j with
  | zero => simp at hj ho';rw [<- hj,<- ho'];exact ho
  | succ j => exact h2 j i o' (by simpa using hj) (by simpa using ho')
def Qo4 {α:Type}:List Nat -> List (Obj C) -> Pg C α -> Pg C α
 | [],[],k => k
 | id :: r,o :: os,k => .wr id o (Qo4 r os k)
 | _,_,_ => .fail
theorem QbG {α:Type} {e:Pg.Lv} {a:α} {h':Heap C} {nx nx':Nat} {k:Pg C α}:∀ (ids:List Nat) (os:List (Obj C)) (h:Heap C) (tr:Tr),ids.Nodup -> Ex e (Qo4 ids os k) h nx a h' nx' tr ->
 ∃ h1 tr1,os.length = ids.length /\ (∀ (j id:Nat) (o:Obj C),ids[j]? = some id -> os[j]? = some o -> h1.get id = some o) /\ (∀ id,id ∉ ids -> h1.get id = h.get id) /\ Ex e k h1 nx a h' nx' tr1
 | [],[],h,tr,_,hx => ⟨h,tr,rfl,by simp,fun _ _ => rfl,hx⟩
 | id :: r,o :: os,h,tr,hn,hx => by
  obtain ⟨o',t',ho,hx,_⟩ := Ex.wr hx;have hs:(h.get id).isSome = true := by rw [ho];rfl
  obtain ⟨hn1,hn2⟩ := List.nodup_cons.1 hn;obtain ⟨h1,tr1,q1,q2,q3,q4⟩ := QbG r os _ _ hn2 hx;refine ⟨h1,tr1,by simp [q1],fun j i p hj hp => ?_,fun i hi => ?_,q4⟩
  · cases j with
    | zero =>
     simp at hj hp;subst hj;subst hp;rw [q3 _ hn1,Qm hs];simp
    | succ j => exact q2 j i p (by simpa using hj) (by simpa using hp)
  · simp only [List.mem_cons,not_or] at hi;rw [q3 i hi.2,Qm hs];simp [hi.1]
 | [],_ :: _,_,_,_,hx => (Ex.fail hx).elim
 | _ :: _,[],_,_,_,hx => (Ex.fail hx).elim
def idx:List Nat -> Nat -> Nat
 | [],_ => 0
 | a :: l,n => bif Nat.beq a n then 0 else idx l n + 1
theorem Kx:∀ (l:List Nat) (n:Nat),n ∈ l -> l[idx l n]? = some n
 | [],n,h => by simp at h
 | a :: l,n,h => by
  rw [idx];cases hb:Nat.beq a n with
  | true => simp [Nat.eq_of_beq_eq_true hb]
  | false =>
   have hne := Nat.ne_of_beq_eq_false hb;simp only [List.mem_cons] at h;rcases h with h | h
   · exact absurd h.symm hne
   · simpa using Kx l n h
def Qfs (n:Nat):List Nat -> Bool
 | [] => true
 | a :: l => !(Nat.beq a n) && Qfs n l
theorem K6 {n:Nat}:∀ {l:List Nat},Qfs n l = true -> n ∉ l
 | [],_ => by simp
 | a :: l,h => by
  simp only [Qfs,Bool.and_eq_true,Bool.not_eq_true'] at h;simp only [List.mem_cons,not_or];exact ⟨fun e => Nat.ne_of_beq_eq_false h.1 e.symm,K6 h.2⟩
def Kd:List Nat -> Bool
 | [] => true
 | a :: l => Qfs a l && Kd l
theorem YT:∀ {l:List Nat},Kd l = true -> l.Nodup
 | [],_ => List.nodup_nil
 | a :: l,h => by
  simp only [Kd,Bool.and_eq_true] at h;exact List.nodup_cons.2 ⟨K6 h.1,YT h.2⟩
def inB (ids l:List Nat):Bool := l.all fun r => ids.any (Nat.beq r)
theorem VI {ids l:List Nat} (h:inB ids l = true):∀ r ∈ l,r ∈ ids := by
 intro r hr;have := List.all_eq_true.1 h r hr;obtain ⟨x,hx,e⟩ := List.any_eq_true.1 this;rw [Nat.eq_of_beq_eq_true e];exact hx
inductive RT (C:Cdc) where
 | fail
 | leaf (x:Ev.X) (env:Env C) (os:List (Obj C))
 | br (b:Bool) (l r:RT C)
def RT.val:RT C -> Option ((Ev.X × Env C) × List (Obj C))
 | .fail => none
 | .leaf x env os => some ((x,env),os)
 | .br b l r => bif b then l.val else r.val
def RT.pg (ids:List Nat):RT C -> Pg C (Ev.X × Env C)
 | .fail => .fail
 | .leaf x env os => Qo4 ids (os.map (Obj.ren fun j => ids.getD j 0)) (.ret (x,renE (fun j => ids.getD j 0) env))
 | .br b l r => .br b (l.pg ids) (r.pg ids)
theorem RT.pg_ok {e:Pg.Lv} {a:Ev.X × Env C} {h h':Heap C} {nx nx':Nat} {ids:List Nat}:∀ (t:RT C) (tr:Tr),Ex e (t.pg ids) h nx a h' nx' tr -> ∃ x env os,t.val = some ((x,env),os) /\ Ex e (Qo4 ids (os.map (Obj.ren fun j => ids.getD j 0)) (.ret (x,renE (fun j => ids.getD j 0) env))) h nx a h' nx' tr
 | .fail,tr,hx => (Ex.fail hx).elim
 | .leaf x env os,tr,hx => ⟨x,env,os,rfl,hx⟩
 | .br b l r,tr,hx => by
  rcases Ex.br hx with ⟨rfl,hx⟩ | ⟨rfl,hx⟩
  · exact RT.pg_ok l tr hx
  · exact RT.pg_ok r tr hx
def sumO (T:Tab C) (fs:List Fnd) (slots:List Nat) (res:Env C -> List (Obj C) -> RT C) (env:Env C):Pg C (Ev.X × Env C) :=
 QaF T fs env [] fun env ids => bif Kd ids then Qtc ids fun os =>
  bif inB ids (slots.flatMap fun t => (eget env t).refs) && inB ids (os.flatMap Obj.refs) then
   (res (slots.map fun t => (t,(eget env t).ren (idx ids))) (os.map (Obj.ren (idx ids)))).pg ids
  else .fail
 else .fail
theorem Obj.ren_ren (f g:Nat -> Nat) (o:Obj C) (h:∀ id ∈ o.refs,g (f id) = id):(o.ren f).ren g = o := by
 cases o with
 | var t d => simp only [Obj.ren];rw [D.ren_ren f g d h]
 | vec t own l => rfl
 | map _ _ _ => rfl
theorem Qo5 (K:Q5 P T) (F:Qh P T Φ) {g key:Nat} {fs:List Fnd} {slots:List Nat} {res:Env C -> List (Obj C) -> RT C} {σ:Type} {S:Qhl C σ}
 (hr:∀ fn body b,Φ.fn g = some fn -> fn.body = some body -> b ∈ QQ body -> Qr b = key -> QrE T Φ g b S)
 (hres:∀ env0 os x env' os',(res env0 os).val = some ((x,env'),os') -> ∃ q,S.Inv q /\ (∀ p ∈ S.canon q,p ∈ env0) /\ os = S.objs q /\ S.fin q = (x,env') /\ S.fobjs q = os'):QjA P T Φ g key (sumO T fs slots res) := by
 intro fn body b hf hb hbl hkey B hB X h nx lim e env x env' h' nx' tr a Q gg he hlim hsz hx hk;obtain ⟨f1,f2,f3⟩ := F.fn g fn hf;obtain ⟨c1,c2⟩ := Zs body (f3 body hb) b hbl;have hround := hr fn body b hf hb hbl hkey;obtain ⟨X1,h1,nx1,env1,ids,tr1,w1,g1,s1,hn1,e1,hx1⟩ := Qfr K hlim fs X h nx tr env [] gg he hx;cases hnd:Kd ids with
 | false => rw [hnd] at hx1;exact (Ex.fail hx1).elim
 | true =>
 rw [hnd] at hx1;simp only [cond_true] at hx1;have hnodup := YT hnd;obtain ⟨os,tr2,hlen,hos,hx2⟩ := QbF ids _ _ hx1;cases hin:inB ids (slots.flatMap fun t => (eget env1 t).refs) && inB ids (os.flatMap Obj.refs) with
 | false => rw [hin] at hx2;exact (Ex.fail hx2).elim
 | true =>
 rw [hin] at hx2;simp only [cond_true] at hx2;simp only [Bool.and_eq_true] at hin;have hin1 := VI hin.1;have hin2 := VI hin.2;obtain ⟨xx,ee,os',hq,hx3⟩ := RT.pg_ok _ _ hx2
 · · obtain ⟨q,hI,hsub,hobjs,hfin,hfo⟩ := hres _ _ _ _ _ hq;obtain ⟨hr1,hr2,_⟩ := hround q hI;obtain ⟨h2,tr3,hl2,hw1,hw2,hx4⟩ := QbG ids _ h1 _ hnodup hx3;obtain ⟨hxx,eh,en,_⟩ := Ex.ret hx4;obtain ⟨rfl,rfl⟩ := Prod.mk.inj hxx;subst eh;subst en
     let f:Nat -> Nat := fun j => ids.getD j 0
     have hfj:∀ j,j < ids.length -> ids[j]? = some (f j) := fun j hj => by simp [f,hj]
     have hk0:ids.length = S.k := by rw [<- hr1.1,<- hobjs];simp [hlen]
     have hff:∀ r,r ∈ ids -> f (idx ids r) = r := fun r hr => by
      have := Kx ids r hr;simp only [f,List.getD_eq_getElem?_getD,this,Option.getD_some]
     have hlenO:(S.objs q).length = ids.length := by rw [hr1.1,hk0]
     have part:Part h1 (S.objs q) f := by
      refine ⟨fun j o ho => ?_,fun i j hi hj hij => ?_,fun o ho r hr => by rw [hr1.1];exact hr1.2.2 o ho r hr⟩
      · rw [<- hobjs,List.getElem?_map] at ho;cases hoj:os[j]? with
        | none => simp [hoj] at ho
        | some o0 =>
         simp only [hoj,Option.map_some,Option.some.injEq] at ho;have hj:j < ids.length := by rw [<- hlen];exact (List.getElem?_eq_some_iff.1 hoj).1
         rw [hos j (f j) o0 (hfj j hj) hoj,<- ho,Obj.ren_ren];intro id hid;exact hff id (hin2 id (List.mem_flatMap.2 ⟨o0,List.mem_of_getElem? hoj,hid⟩))
      · rw [hlenO] at hi hj;have := (List.getElem?_inj hi hnodup (j := j)).1 (by rw [hfj i hi,hfj j hj];simp only [f] at hij ⊢;rw [hij])
        exact this
     have g2 := Part.ctx K.base g1 part (S.objs q).length
     have e2:Qu T (X1.part (S.objs q).length f) (S.objs q).length (lim0 (S.objs q).length) (S.canon q) a.tmps := by
      refine Qu.part K.base e1 part.inj (fun p hp => ?_) (fun p hp r hr => by rw [hr1.1];exact hr1.2.1 p hp r hr)
      have := hsub p hp;simp only [List.mem_map] at this;obtain ⟨t,ht,rfl⟩ := this;simp only;rw [D.ren_ren];intro id hid;exact hff id (hin1 id (List.mem_flatMap.2 ⟨t,ht,hid⟩))
     rw [hr1.1] at g2 e2;rw [<- w1];show (Code.loop b).wp P Q a (X1.part S.k f).w;refine wp_loop_rounds (S.μ q + 1) (Qhm K F hround hf hb c1 c2 hB (S.μ q + 1) q (X1.part S.k f) a hI (by omega) g2 e2 hsz fun a' X' g' s' e' hs' hd' kp' => ?_)
     rw [hfo] at g';rw [hfin] at e';have hlen':os'.length = (S.objs q).length := by rw [<- hfo,hr2.1,hr1.1]
     have hrefs':∀ o ∈ os',∀ r ∈ Obj.refs o,r < (S.objs q).length := fun o ho r hr => by rw [hr1.1];exact hr2.2.2 o (by rw [hfo];exact ho) r hr
     obtain ⟨X2,w2,g3,s3,hρ,hB2⟩ := Part.back K.base g1 part hlen' hrefs' (X1 := X') (lim1 := lim0 S.k) (h' := h') (by rw [hr1.1];exact g') (by rw [hr1.1];exact s') (fun j o hj => by
      have hlt:j < ids.length := by rw [<- hlenO,<- hlen'];exact (List.getElem?_eq_some_iff.1 hj).1
      exact hw1 j (f j) _ (hfj j hlt) (by rw [List.getElem?_map,hj];rfl)) (fun id hid => by
      refine hw2 id fun hm => ?_;obtain ⟨j,hj,hjj⟩ := List.getElem_of_mem hm;refine hid j (by rw [hlenO];exact hj) ?_
      simp [f,hj,hjj])
     have hold:∀ j,j < S.k -> old nx' lim (f j) := fun j hj => by
      have hj':j < (S.objs q).length := by rw [hr1.1];exact hj
      exact (g1.nums _ _ (part.at' j (S.objs q)[j] (by simp [hj']))).1
     have e3 := Qu.back (nx := nx') (lim := lim) (f := f) K.base e' (fun p hp r hr => hr2.2.1 p (by rw [hfin];exact hp) r hr) (fun j hj => hρ j (by rw [hr1.1];exact hj)) ⟨hB2,fun l r h1 _ => ⟨by rw [w2];exact h1,fun o ho => g3.mine_loop ho (by rw [w2];exact h1)⟩⟩ hold
     have := hk a' X2 g3 (s1.trans s3 hn1) e3 hs' (hd'.of_g g3 (by show X.w.heap.size <= X1.w.heap.size;rw [w1];exact Nat.le_refl _) w2) kp'
     rw [w2] at this;rw [hfin];exact this
def QbH:Nat -> Nat -> Heap C -> List (Option (Obj C))
 | _,0,_ => []
 | n,k + 1,h => h.get n :: QbH (n + 1) k h
theorem Vi:∀ (k n:Nat) (h:Heap C) (os:List (Obj C)),QbH n k h = os.map some -> ∀ j,j < k -> h.get (n + j) = os[j]?
 | 0,_,_,_,_,j,hj => by omega
 | k + 1,n,h,[],e,j,hj => by simp [QbH] at e
 | k + 1,n,h,o :: os,e,j,hj => by
  simp only [QbH,List.map_cons,List.cons.injEq] at e;cases j with
  | zero => simpa using e.1
  | succ j =>
   have := Vi k (n + 1) h os e.2 j (by omega)
   rw [show n + (j + 1) = n + 1 + j by omega,this];simp
def movP (T:Tab C) (env:Env C) (h:Heap C):List Fnd -> List Nat -> Option (List Nat)
 | [],ids => some ids
 | .slot t i :: r,ids => match (eget env t).refs[i]? with
  | some id => movP T env h r (ids ++ [id])
  | none => none
 | .path j p :: r,ids => match ids[j]? with
  | some idj => match h.get idj with
   | some (.var _ d) => match getPath T d p with
    | some x => match x.refs with
     | id :: _ => movP T env h r (ids ++ [id])
     | [] => none
    | none => none
   | _ => none
  | none => none
def QjE:Nat -> List Nat -> Bool
 | _,[] => true
 | n,i :: l => Nat.beq i n && QjE (n + 1) l
def Qel (h:Heap C) (g:Nat -> Nat):List Nat -> Option (List (Obj C))
 | [] => some []
 | i :: l => match h.get i,Qel h g l with
  | some o,some r => some (o.ren g :: r)
  | _,_ => none
def QbI {α:Type} (k:Option α):Nat -> List Nat -> List (Obj C) -> List (Obj C) -> Option α
 | _,[],_,_ => k
 | n,i :: l,o :: os,o' :: os' => bif Nat.beq i n then QbI k (n + 1) l os os' else (match o,o' with
  | .vec t _ x,.vec t' _ x' => bif decide (t' = t) then (bif Nat.blt x.length x'.length then QbI k (n + 1) l os os' else none) else none
  | _,_ => none)
 | _,_,_,_ => none
def QjF (T:Tab C) (fs:List Fnd) (k:Nat) (kc:List Nat) (os:List (Obj C)) (env:Env C) (h:Heap C):Option ((Ev.X × Env C) × List (Option (Obj C))) :=
 match movP T env h fs [] with
 | none => some ((.normal,sel kc env),QbH 0 k h)
 | some ids => bif QjE 0 ids then some ((.normal,sel kc env),QbH 0 k h) else
  bif Kd ids && Nat.beq ids.length k && inB ids ((sel kc env).flatMap fun p => p.2.refs) && inB ids (ids.flatMap fun i => match h.get i with | some o => o.refs | none => []) then (match Qel h (idx ids) ids with
   | some os' => QbI (some ((.normal,renE (idx ids) (sel kc env)),os'.map some)) 0 ids os os'
   | none => none) else none
def rndO (T:Tab C) (Φ:Fns C) (g key n k:Nat) (kc kf:List Nat) (fs:List Fnd) (env:Env C) (os:List (Obj C)):Option ((Ev.X × Env C) × List (Option (Obj C))) := (evC T Φ n g (QjB Φ g key) env).run (0,0) (hpOf 0 os) k [] fun a h _ _ => match a.1 with
 | .normal => QjF T fs k kc os a.2 h
 | x => some ((x,sel kf a.2),QbH 0 k h)
theorem QaZ {α:Type} {k:Option α} {a:α}:∀ (l:List Nat) (n:Nat) (os os':List (Obj C)),QbI k n l os os' = some a -> k = some a /\ ∀ j,j < l.length -> l.getD j 0 = n + j \/ ∃ t own x own' x',os[j]? = some (.vec t own x) /\ os'[j]? = some (.vec t own' x') /\ x.length < x'.length
 | [],n,os,os',h => ⟨by simpa [QbI] using h,fun j hj => by simp at hj⟩
 | i :: l,n,[],_,h => by simp [QbI] at h
 | i :: l,n,o :: os,[],h => by simp [QbI] at h
 | i :: l,n,o :: os,o' :: os',h => by
  simp only [QbI] at h
  have step:QbI k (n + 1) l os os' = some a -> (i = n \/ ∃ t own x own' x',o = .vec t own x /\ o' = .vec t own' x' /\ x.length < x'.length) -> k = some a /\ ∀ j,j < (i :: l).length -> (i :: l).getD j 0 = n + j \/ ∃ t own x own' x',(o :: os)[j]? = some (.vec t own x) /\ (o' :: os')[j]? = some (.vec t own' x') /\ x.length < x'.length := by
   intro h1 h2;obtain ⟨h3,h4⟩ := QaZ l (n + 1) os os' h1;refine ⟨h3,fun j hj => ?_⟩;cases j with
   | zero => simpa using h2
   | succ j =>
    have := h4 j (by simpa using hj)
    simp only [List.getD_cons_succ,List.getElem?_cons_succ];rcases this with h5 | h5
    · left;omega
    · exact .inr h5
  cases hb:Nat.beq i n with
  | true => rw [hb] at h;exact step h (.inl (Nat.eq_of_beq_eq_true hb))
  | false =>
   rw [hb] at h;simp only [cond_false] at h;cases o with
   | var t d => simp at h
   | map _ _ _ => simp at h
   | vec t own x =>
    cases o' with
    | var t d => simp at h
    | map _ _ _ => simp at h
    | vec t' own' x' =>
     simp only at h;cases ht:decide (t' = t) with
     | false => rw [ht] at h;cases h
     | true =>
      rw [ht] at h;have ht:t' = t := by simpa using ht
      subst ht;cases hl:Nat.blt x.length x'.length with
      | false => rw [hl] at h;cases h
      | true =>
       rw [hl] at h;exact step h (.inr ⟨t',own,x,own',x',rfl,rfl,by simpa [Nat.blt_eq] using hl⟩)
theorem Qa0 {h:Heap C} {g:Nat -> Nat}:∀ (l:List Nat) (os:List (Obj C)),Qel h g l = some os -> os.length = l.length /\ ∀ (j i:Nat),l[j]? = some i -> ∃ o,h.get i = some o /\ os[j]? = some (o.ren g)
 | [],os,e => by simp [Qel] at e;subst e;simp
 | i :: l,os,e => by
  simp only [Qel] at e;cases h1:h.get i with
  | none => simp [h1] at e
  | some o =>
   cases h2:Qel h g l with
   | none => simp [h1,h2] at e
   | some r =>
    simp only [h1,h2,Option.some.injEq] at e;subst e;obtain ⟨a1,a2⟩ := Qa0 l r h2;refine ⟨by simp [a1],fun j i' hj => ?_⟩
    cases j with
    | zero => simp at hj;subst hj;exact ⟨o,h1,rfl⟩
    | succ j => exact a2 j i' (by simpa using hj)
def LedO {σ:Type} (S:Qhl C σ) (s:σ) (r:(Ev.X × Env C) × List (Option (Obj C))):Prop :=
 (r.1.1 = .normal /\ ∃ s',S.Inv s' /\ S.μ s' < S.μ s /\ S.fin s' = S.fin s /\ S.fobjs s' = S.fobjs s /\ r.1.2 = S.canon s' /\ r.2 = (S.objs s').map some) \/ (r.1.1 ≠ .normal /\ r.1 = S.fin s /\ r.2 = (S.fobjs s).map some)
theorem Qtd:∀ (l:List Nat) (env:Env C) (p:Nat × D C),p ∈ sel l env -> eget env p.1 = p.2 := fun l env p hp => K5 l env p hp
theorem settle_some {fs:List Fnd} {k:Nat} {kc:List Nat} {os:List (Obj C)} {env:Env C} {h:Heap C} {r:(Ev.X × Env C) × List (Option (Obj C))} (hr:QjF T fs k kc os env h = some r) (hos:os.length = k) :
 (r = ((.normal,sel kc env),QbH 0 k h)) \/ ∃ env0 os',r = ((.normal,env0),os'.map some) /\ ∃ f,(∀ p ∈ env0,eget env p.1 = p.2.ren f) /\ (os'.length = k /\ (∀ j o,os'[j]? = some o -> h.get (f j) = some (o.ren f)) /\ (∀ i j,i < os'.length -> j < os'.length -> f i = f j -> i = j)) /\ Grow os os' f := by
 unfold QjF at hr;cases hm:movP T env h fs [] with
 | none => rw [hm] at hr;simp only [Option.some.injEq] at hr;exact .inl hr.symm
 | some ids =>
  rw [hm] at hr;simp only at hr;cases hb:QjE 0 ids with
  | true => rw [hb] at hr;simp only [cond_true,Option.some.injEq] at hr;exact .inl hr.symm
  | false =>
   rw [hb] at hr;simp only [cond_false] at hr;cases hc:Kd ids && Nat.beq ids.length k && inB ids ((sel kc env).flatMap fun p => p.2.refs) && inB ids (ids.flatMap fun i => match h.get i with | some o => o.refs | none => []) with
   | false => rw [hc] at hr;cases hr
   | true =>
    rw [hc] at hr;simp only [cond_true] at hr;simp only [Bool.and_eq_true] at hc;obtain ⟨⟨⟨c1,c2⟩,c3⟩,c4⟩ := hc;have c1 := YT c1;have c2 := Nat.eq_of_beq_eq_true c2;have c3 := VI c3;have c4 := VI c4;cases ho:Qel h (idx ids) ids with
    | none => rw [ho] at hr;cases hr
    | some os' =>
     rw [ho] at hr;simp only at hr;obtain ⟨q1,q2⟩ := QaZ _ _ _ _ hr;simp only [Option.some.injEq] at q1;obtain ⟨o1,o2⟩ := Qa0 _ _ ho
     have hff:∀ x,x ∈ ids -> ids.getD (idx ids x) 0 = x := fun x hx => by
      have := Kx ids x hx;simp only [List.getD_eq_getElem?_getD,this,Option.getD_some]
     refine .inr ⟨_,os',q1.symm,fun j => ids.getD j 0,fun p hp => ?_,⟨by rw [o1,c2],fun j o hj => ?_,fun i j hi hj hij => ?_⟩,fun j hj => ?_⟩
     · simp only [renE,List.mem_map] at hp;obtain ⟨p0,hp0,rfl⟩ := hp;simp only;rw [Qtd kc env p0 hp0,D.ren_ren];intro id hid;exact hff id (c3 id (List.mem_flatMap.2 ⟨p0,hp0,hid⟩))
     · have hjl:j < ids.length := by rw [<- o1];exact (List.getElem?_eq_some_iff.1 hj).1
       obtain ⟨o0,a1,a2⟩ := o2 j (ids.getD j 0) (by simp [hjl])
       rw [hj] at a2;simp only [Option.some.injEq] at a2;rw [a1,a2,Obj.ren_ren];intro id hid;exact hff id (c4 id (List.mem_flatMap.2 ⟨ids.getD j 0,by rw [List.getD_eq_getElem?_getD];simp [hjl],by rw [a1];exact hid⟩))
     · rw [o1] at hi hj
       exact (List.getElem?_inj hi c1 (j := j)).1 (by
        simp only [List.getD_eq_getElem?_getD] at hij;simp only [hi,hj,List.getElem?_eq_getElem,Option.getD_some] at hij ⊢;rw [hij])
     · have := q2 j (by rw [c2,<- hos];exact hj)
       simpa using this
theorem Qh.addRoundsO (K:Q5 P T) (F:Qh P T Φ) {g key:Nat} (hkeys:Qhk (JZ Φ g) = true) {σ:Type} (S:Qhl C σ) (n:Nat) (kc kf:List Nat) (fs0:List Fnd) (fs:List Fnd) (slots:List Nat) (res:Env C -> List (Obj C) -> RT C)
 (hr:∀ q,S.Inv q -> Ql S.k (S.canon q) (S.objs q) /\ Ql S.k (S.fin q).2 (S.fobjs q) /\ Leaf (rndO T Φ g key n S.k kc kf fs0 (S.canon q) (S.objs q)) (LedO S q))
 (hres:∀ env0 os x env' os',(res env0 os).val = some ((x,env'),os') -> ∃ q,S.Inv q /\ (∀ p ∈ S.canon q,p ∈ env0) /\ os = S.objs q /\ S.fin q = (x,env') /\ S.fobjs q = os'):Qh P T (Φ.addLoop g key (sumO T fs slots res)) := by
 refine F.addLoop (Qo5 K F (S := S) (fun fn body b hf hb hm hkey q hI => ?_) hres);obtain ⟨h1,h2,r,h3,h4⟩ := hr q hI;rw [rndO,QjC hkeys hf hb hm hkey] at h3;obtain ⟨⟨x,env'⟩,h',nx',tr,h5,h6⟩ := Pg.run_some h3;refine ⟨h1,h2,n,x,env',h',nx',tr,h5,?_⟩;cases x with
 | normal =>
  simp only at h6;rcases settle_some h6 h1.1 with hs | ⟨env0,os',hs,f,f1,⟨f2,f3,f4⟩,f5⟩
  · subst hs;rcases h4 with ⟨h4,s',a1,a2,a3,a3b,a4,a5⟩ | ⟨h4,h7,h8⟩
    · have hg := Vi S.k 0 h' _ a5;simp only [Nat.zero_add] at hg;exact .inl ⟨rfl,s',a1,a2,a3,a3b,by rw [<- a4];exact K5 _ _,hg⟩
    · exact (h4 rfl).elim
  · subst hs;rcases h4 with ⟨h4,s',a1,a2,a3,a3b,a4,a5⟩ | ⟨h4,h7,h8⟩
    · simp only at a4 a5;have a5:os' = S.objs s' := List.map_inj_right (fun _ _ h => Option.some.inj h) |>.1 a5;subst a4;subst a5;obtain ⟨b1,_⟩ := hr s' a1;exact .inr (.inl ⟨rfl,s',f,a1,a2,a3,a3b,f1,⟨f3,f4,by rw [b1.1];exact b1.2.2⟩,f5⟩)
    · exact (h4 rfl).elim
 | exit id =>
  simp only [Option.some.injEq] at h6;subst h6;rcases h4 with ⟨h4,_⟩ | ⟨h4,h7,h8⟩
  · cases h4
  · have hg := Vi S.k 0 h' _ h8;simp only [Nat.zero_add] at hg;exact .inr (.inr ⟨by simp,by rw [<- h7],by rw [<- h7];exact K5 _ _,hg⟩)
 | ret =>
  simp only [Option.some.injEq] at h6;subst h6;rcases h4 with ⟨h4,_⟩ | ⟨h4,h7,h8⟩
  · cases h4
  · have hg := Vi S.k 0 h' _ h8;simp only [Nat.zero_add] at hg;exact .inr (.inr ⟨by simp,by rw [<- h7],by rw [<- h7];exact K5 _ _,hg⟩)
end
section
variable {C:Cdc} {P:Program} {T:Tab C} {Φ:Fns C}
open Pg (Ex)
structure QU (C:Cdc) (σ:Type) where
 k:Nat
 canon:σ -> Env C
 objs:σ -> List (Obj C)
 fin:σ -> RT C
 Inv:σ -> Prop
 μ:σ -> Nat
def LedR {σ:Type} (S:QU C σ) (s:σ) (r:(Ev.X × Env C) × List (Option (Obj C))):Prop :=
 (r.1.1 = .normal /\ ∃ s',S.Inv s' /\ S.μ s' < S.μ s /\ (S.fin s').val = (S.fin s).val /\ r.1.2 = S.canon s' /\ r.2 = (S.objs s').map some) \/ (r.1.1 ≠ .normal /\ ∃ os,(S.fin s).val = some (r.1,os) /\ r.2 = os.map some)
def RT.refsOK (k:Nat):RT C -> Prop
 | .fail => False
 | .leaf _ env os => Ql k env os
 | .br _ l r => l.refsOK k /\ r.refsOK k
theorem RT.refsOK_val {k:Nat}:∀ {t:RT C},t.refsOK k -> ∃ x env os,t.val = some ((x,env),os) /\ Ql k env os
 | .leaf x env os,h => ⟨x,env,os,rfl,h⟩
 | .br b l r,h => by
  cases b with
  | true => exact RT.refsOK_val (t := l) h.1
  | false => exact RT.refsOK_val (t := r) h.2
def QU.toO {σ:Type} (S:QU C σ):Qhl C σ where
 k := S.k
 canon := S.canon
 objs := S.objs
 fin q := match (S.fin q).val with
  | some r => r.1
  | none => (.ret,[])
 fobjs q := match (S.fin q).val with
  | some r => r.2
  | none => []
 Inv := S.Inv
 μ := S.μ
def resR {σ:Type} (S:QU C σ) (d:Env C -> List (Obj C) -> Option (Bool × σ)) (env:Env C) (os:List (Obj C)):RT C := match d env os with
 | some (b,q) => .br b (S.fin q) .fail
 | none => .fail
def sumR (T:Tab C) (fs:List Fnd) (slots:List Nat) {σ:Type} (S:QU C σ) (d:Env C -> List (Obj C) -> Option (Bool × σ)):Env C -> Pg C (Ev.X × Env C) := sumO T fs slots (resR S d)
theorem Qh.addRoundsR (K:Q5 P T) (F:Qh P T Φ) {g key:Nat} (hkeys:Qhk (JZ Φ g) = true) {σ:Type} (S:QU C σ) (n:Nat) (kc kf:List Nat) (fs:List Fnd) (slots:List Nat) (d:Env C -> List (Obj C) -> Option (Bool × σ))
 (hr:∀ q,S.Inv q -> Ql S.k (S.canon q) (S.objs q) /\ (S.fin q).refsOK S.k /\ Leaf (rndO T Φ g key n S.k kc kf fs (S.canon q) (S.objs q)) (LedR S q))
 (hd:∀ env os b q,d env os = some (b,q) -> b = true -> S.Inv q /\ S.canon q = env /\ S.objs q = os):Qh P T (Φ.addLoop g key (sumR T fs slots S d)) := by
 refine F.addRoundsO K hkeys S.toO n kc kf fs fs slots (resR S d) (fun q hI => ?_) ?_
 · obtain ⟨h1,h2,r,h3,h4⟩ := hr q hI;obtain ⟨x,env,os,hv,hok⟩ := RT.refsOK_val h2;refine ⟨h1,by simp only [QU.toO,hv];exact hok,r,h3,?_⟩
   rcases h4 with ⟨a1,s',a2,a3,a4,a5,a6⟩ | ⟨a1,os',a2,a3⟩
   · exact .inl ⟨a1,s',a2,a3,by simp only [QU.toO,a4],by simp only [QU.toO,a4],a5,a6⟩
   · exact .inr ⟨a1,by simp only [QU.toO,a2],by simp only [QU.toO,a2];exact a3⟩
 · intro env0 os x env' os' h;unfold resR at h
   split at h
   · rename_i b q hq;cases b with
     | false => simp [RT.val] at h
     | true =>
      obtain ⟨h1,h2,h3⟩ := hd _ _ _ _ hq rfl;simp only [RT.val,cond_true] at h;exact ⟨q,h1,fun p hp => by rw [<- h2];exact hp,h3.symm,by simp only [QU.toO,h],by simp only [QU.toO,h]⟩
   · simp [RT.val] at h
def Qz {α:Type} (b:Bool) (x:α):Option α := bif b then some x else none
theorem Qi {α:Type} {b:Bool} {x y:α} (h:Qz b x = some y):b = true /\ x = y := by
 cases b with
 | false => cases h
 | true => exact ⟨rfl,Option.some.inj h⟩
theorem Qw {σ:Type} {S:QU C σ} {s:σ} {env:Env C} {os:List (Option (Obj C))} (s':σ) (h1:S.Inv s') (h2:S.μ s' < S.μ s) (h3:(S.fin s').val = (S.fin s).val) (h4:env = S.canon s') (h5:os = (S.objs s').map some):Leaf (some ((Ev.X.normal,env),os)) (LedR S s) :=
 Jn.2 (.inl ⟨rfl,s',h1,h2,h3,h4,h5⟩)
theorem Qn {σ:Type} {S:QU C σ} {s:σ} {i:Nat} {env:Env C} {os:List (Option (Obj C))} (os':List (Obj C)) (h1:(S.fin s).val = some ((.exit i,env),os')) (h2:os = os'.map some):Leaf (some ((Ev.X.exit i,env),os)) (LedR S s) :=
 Jn.2 (.inr ⟨by simp,os',h1,h2⟩)
theorem Q7 {σ:Type} {S:QU C σ} {s:σ} {env:Env C} {os:List (Option (Obj C))} (os':List (Obj C)) (h1:(S.fin s).val = some ((.ret,env),os')) (h2:os = os'.map some):Leaf (some ((Ev.X.ret,env),os)) (LedR S s) :=
 Jn.2 (.inr ⟨by simp,os',h1,h2⟩)
end
theorem Zt {a b:Int} (h:a = b):(a == b) = true := by simp [h]
theorem Zd {a b:Int} (h:¬ a = b):(a == b) = false := by simp [h]
theorem J0 {a b:Int} (h:¬ a = b):(a != b) = true := by simp [h]
theorem YU {a b:Int} (h:a = b):(a != b) = false := by simp [h]
theorem J1 {a b:Nat} (h:a = b):Nat.beq a b = true := by simp [h]
theorem VR {n b:Nat} (h:n * b <= 1099511627776):Qg n b = true := by simp [Qg,h]
theorem VS {n:Int} (h:-9223372036854775808 <= n /\ n <= 9223372036854775807):IntKind.i64.wrap n = n := Qb h.1 h.2
def Q1 (n:Int):UInt8 := UInt8.ofNat (IntKind.u8.wrap n).toNat
def leB (n:Int):Nat -> List UInt8
 | 0 => []
 | w + 1 => Q1 n :: leB (n.fdiv 256) w
def Jq:List UInt8 -> Nat
 | [] => 0
 | x :: l => x.toNat + 256 * Jq l
def QM (n:Int) (w:Nat):Bool := decide (0 <= n) && decide (n < 256 ^ w)
def putL (b:List UInt8) (n:Int) (w:Nat):List UInt8 := bif QM n w then b ++ leB n w else []
theorem QF:∀ (w:Nat) (n:Int),(leB n w).length = w
 | 0,_ => rfl
 | w + 1,n => by simp [leB,QF w]
theorem QbJ (n:Int):IntKind.u8.wrap n = n % 256 := by
 simp [IntKind.wrap,IntKind.bits,IntKind.signed]
theorem Ke:∀ (l m:List UInt8),Jq (l ++ m) = Jq l + 256 ^ l.length * Jq m
 | [],m => by simp [Jq]
 | x :: l,m => by
  simp only [List.cons_append,Jq,Ke l m,List.length_cons,Nat.pow_succ];rw [Nat.mul_add,<- Nat.mul_assoc,Nat.mul_comm 256 (256 ^ l.length),Nat.add_assoc]
theorem Qem {n:Int} (h:0 <= n):0 <= n.fdiv 256 /\ n.fdiv 256 = n / 256 := by
 have:n.fdiv 256 = n / 256 := Int.fdiv_eq_ediv_of_nonneg n (by omega)
 rw [this];omega
theorem Zk {n:Int} {w:Nat}:QM n w = true ↔ 0 <= n /\ n < 256 ^ w := by simp [QM]
theorem _root_.Int.ediv_eq_zero_iff_of_pos' {n m:Int} (h0:0 <= n) (hp:0 < m):n / m = 0 ↔ n < m := by
 constructor
 · intro h;have := Int.lt_ediv_add_one_mul_self n hp;rw [h] at this;omega
 · intro h;exact Int.ediv_eq_zero_of_lt h0 h
theorem Qvo (c:UInt8):IntKind.i64.wrap (c.toNat:Int) = (c.toNat:Int) := by
 have := c.toNat_lt;exact Qb (by omega) (by omega)
def getP (b:List UInt8) (at' w:Int):Int × Int :=
 bif decide (1 <= w) && decide (w <= 6) then
  (bif decide (0 <= at') && decide (at' + w <= b.length) then ((Jq ((b.drop at'.toNat).take w.toNat):Int),0) else (0,50))
 else (0,2)
def Qp (n a b:Int):Bool := decide (a <= n) && decide (n <= b)
theorem QB {x a b:Int}:Qp x a b = true ↔ a <= x /\ x <= b := by simp [Qp]
def ZF {α:Type} (one:α -> Bool) (two:α -> α -> Bool) (l:List α) (i:Nat):Bool := Qek one two (QjD l i) (l.drop i)
theorem K7 {α:Type} (one:α -> Bool) (two:α -> α -> Bool) (l:List α) (i:Nat) (d:α) (hlt:i < l.length) :
 ZF one two l i = (one (l.getD i d) && (decide (i = 0) || two (l.getD (i - 1) d) (l.getD i d)) && ZF one two l (i + 1)) := by
 unfold ZF;rw [List.drop_eq_getElem_cons hlt];have hi:l.getD i d = l[i] := by simp [List.getD_eq_getElem?_getD,hlt]
 have hn:QjD l (i + 1) = some l[i] := by simp [QjD,hlt]
 rw [hi,hn];simp only [Qek];cases i with
 | zero => simp [QjD]
 | succ j =>
  have:j < l.length := by omega
  simp [QjD,this]
def ZL (w:Qc):Bool := Qp w.key 0 23 && Qp w.value 0 255
def YB (x y:Qc):Bool := decide (x.key < y.key)
def Qx (l:List Qc):Bool := decide (l.length <= 4) && ZF ZL YB l 0
def mayB (r:Rec):Bool := Qp r.place 1 1048575 && Qx r.writes && (r.yes || r.writes.isEmpty)
def fitW (w:Qc):Bool := Qp w.key 0 255 && Qp w.value 0 255
def Yq (w:Qc):List UInt8 := [Q1 w.key,Q1 w.value]
def ZG (r:Rec):List UInt8 := leB r.place 3 ++ leB (bif r.yes then 1 else 0) 1 ++ leB r.writes.length 1 ++ r.writes.flatMap Yq
theorem Ze {b:List UInt8} {n:Int} {w:Nat} (h:QM n w = true):putL b n w = b ++ leB n w := by simp [putL,h]
theorem QbK {n:Int} (h:Qp n 0 255 = true):QM n 1 = true := by
 rw [QB] at h;rw [Zk];omega
theorem Qvp {n:Int} (h:Qp n 0 16777215 = true):QM n 3 = true := by
 rw [QB] at h;rw [Zk];omega
theorem YC {α β:Type} (l:List α) (i:Nat) (f:α -> List β) (h:i < l.length) (d:α):(l.drop i).flatMap f = f (l.getD i d) ++ (l.drop (i + 1)).flatMap f := by
 rw [List.drop_eq_getElem_cons h,List.flatMap_cons];simp [h]
theorem Qo6 {α:Type} {l:List α} {p:α -> Bool} (h:l.all p = true) {i:Nat} (hi:i < l.length) (d:α):p (l.getD i d) = true := by
 have:l.getD i d = l[i] := by simp [hi]
 rw [this];exact List.all_eq_true.1 h _ (List.getElem_mem hi)
theorem Qhn (w:Qc):(Yq w).length = 2 := rfl
theorem Qo7 {w:Qc} (h:ZL w = true):fitW w = true := by
 simp only [ZL,fitW,Bool.and_eq_true,QB] at h ⊢;omega
theorem QcQ {α:Type} (one:α -> Bool) (two:α -> α -> Bool):∀ (l:List α) (p:Option α),Qek one two p l = true -> l.all one = true
 | [],_,_ => rfl
 | x :: l,p,h => by
  simp only [Qek,Bool.and_eq_true] at h;simp only [List.all_cons,Bool.and_eq_true];exact ⟨h.1.1,QcQ one two l _ h.2⟩
theorem Qa1 {α:Type} {one:α -> Bool} {two:α -> α -> Bool} {l:List α} (h:ZF one two l 0 = true):l.all one = true := QcQ one two _ _ h
theorem Qte {α:Type} {p q:α -> Bool} {l:List α} (h:l.all p = true) (hpq:∀ x,p x = true -> q x = true):l.all q = true := by
 rw [List.all_eq_true] at h ⊢;exact fun x hx => hpq x (h x hx)
theorem Jr {p:Int} {y:Bool} {l:List Qc} (h:mayB ⟨p,y,l⟩ = true):(1 <= p /\ p <= 1048575) /\ l.length <= 4 /\ l.all fitW = true := by
 simp only [mayB,Bool.and_eq_true,QB,Qx,decide_eq_true_eq] at h;exact ⟨h.1.1,h.1.2.1,Qte (Qa1 h.1.2.2) fun _ => Qo7⟩
theorem Qen {α β:Type} (l:List α) (f:α -> List β) (n:Nat) (h:∀ x,(f x).length = n):(l.flatMap f).length = n * l.length := by
 induction l with
 | nil => rfl
 | cons x l ih => simp only [List.flatMap_cons,List.length_append,h,ih,List.length_cons,Nat.mul_succ];omega
open Go.Proofs
abbrev RO_:Type := Option ((X × Env RC) × List (Option (Obj RC)))
abbrev DO_:Type := Option (D RC)
noncomputable def p0:Fns RC := Qhh Tryz.prog 334 (fun f => Nat.beq f 110 || Nat.beq f 192 || Nat.beq f 161) (fun f => if Nat.beq f 12 then [(0,[0])] else if Nat.beq f 34 then [(0,[0])] else []) (fun f => false)
theorem Qtf:Qh Tryz.prog s25 p0 := Qhi (by kernel_rfl)
def Qft (n:Int) (a:Int) (b:Int):Option (Bool × D RC) := some (true,.bool (Qp n a b))
def QcR:List (D RC) -> Option (Bool × D RC)
 | [.int .i64 n,.int .i64 a,.int .i64 b] => Qft n a b
 | _ => none
noncomputable def Qfu (n:Int) (a:Int) (b:Int) := evF s25 p0 20 155 [.int .i64 n,.int .i64 a,.int .i64 b]
theorem QjG (n:Int) (a:Int) (b:Int):Qfu n a b = (bif decide (a <= n) then some (D.bool (decide (n <= b))) else some (D.bool false)) := by kernel_rfl
theorem QjH (n:Int) (a:Int) (b:Int) (h:(true) = true):Qfu n a b = some (.bool (Qp n a b)) := by
 rw [QjG];rw [Qp];cases decide (a <= n) <;> simp
noncomputable def ua_1 := p0.addSpec 155 QcR
theorem QjI:Qh Tryz.prog s25 ua_1 := Qtf.addEv Qa fun args d h => by
 unfold QcR at h
 split at h
 · unfold Qft at h;have h1 := congrArg Prod.fst (Option.some.inj h);obtain rfl:_ = d := congrArg Prod.snd (Option.some.inj h);exact ⟨by simp [D.refs],20,QjH _ _ _ h1⟩
 · cases h
def QrF (a:Int) (b:Int):Option (Bool × D RC) := some (true,.bool (ZL ⟨a,b⟩))
def QjJ:List (D RC) -> Option (Bool × D RC)
 | [.acons (.int .i64 a) (.acons (.int .i64 b) .anil)] => QrF a b
 | _ => none
noncomputable def QrG (a:Int) (b:Int) := evF s25 ua_1 20 194 [.acons (.int .i64 a) (.acons (.int .i64 b) .anil)]
theorem Qtg (a:Int) (b:Int):QrG a b = (bif Qp a (0:Int) (23:Int) then some (D.bool (Qp b (0:Int) (255:Int))) else some (D.bool false)) := by kernel_rfl
theorem Qth (a:Int) (b:Int) (h:(true) = true):QrG a b = some (.bool (ZL ⟨a,b⟩)) := by
 rw [Qtg];rw [ZL];cases Qp a 0 23 <;> simp
noncomputable def ua_2 := ua_1.addSpec 194 QjJ
theorem QjK:Qh Tryz.prog s25 ua_2 := QjI.addEv Qa fun args d h => by
 unfold QjJ at h
 split at h
 · unfold QrF at h;have h1 := congrArg Prod.fst (Option.some.inj h);obtain rfl:_ = d := congrArg Prod.snd (Option.some.inj h);exact ⟨by simp [D.refs],20,Qth _ _ h1⟩
 · cases h
def QrH (a:Int) (b:Int) (c:Int) (d:Int):Option (Bool × D RC) := some (true,.bool (YB ⟨a,b⟩ ⟨c,d⟩))
def QjL:List (D RC) -> Option (Bool × D RC)
 | [.acons (.int .i64 a) (.acons (.int .i64 b) .anil),.acons (.int .i64 c) (.acons (.int .i64 d) .anil)] => QrH a b c d
 | _ => none
noncomputable def QrI (a:Int) (b:Int) (c:Int) (d:Int) := evF s25 ua_2 20 195 [.acons (.int .i64 a) (.acons (.int .i64 b) .anil),.acons (.int .i64 c) (.acons (.int .i64 d) .anil)]
theorem Qti (a:Int) (b:Int) (c:Int) (d:Int):QrI a b c d = (some (D.bool (decide (a < c)))) := by kernel_rfl
theorem Qtj (a:Int) (b:Int) (c:Int) (d:Int) (h:(true) = true):QrI a b c d = some (.bool (YB ⟨a,b⟩ ⟨c,d⟩)) := by
 rw [Qti];rfl
noncomputable def ua_3 := ua_2.addSpec 195 QjL
theorem QjM:Qh Tryz.prog s25 ua_3 := QjK.addEv Qa fun args d h => by
 unfold QjL at h
 split at h
 · unfold QrH at h;have h1 := congrArg Prod.fst (Option.some.inj h);obtain rfl:_ = d := congrArg Prod.snd (Option.some.inj h);exact ⟨by simp [D.refs],20,Qtj _ _ _ _ h1⟩
 · cases h
structure Qfv where
 c:Bool
 l:List Qc
 i:Nat
def QbL (c:Bool) (l:List Qc) (i:Nat):Env RC := [(0,.sl (C := RC) .write c l),(1,.fn 194 .anil),(2,.fn 195 .anil),(6,.bool false),(9,.int .i64 (l.length)),(10,.int .i64 (i:Int))]
def QbM (c:Bool) (l:List Qc) (i:Nat):List (Obj RC) := []
noncomputable def QjN (c:Bool) (l:List Qc) (i:Nat) := rndO s25 ua_3 193 2 30 0 [0,1,2,6,9,10] [6] [] (QbL c l i) (QbM c l i)
theorem Qo8 (c:Bool) (l:List Qc) (i:Nat):QjN c l i = (let Z0:Int := (↑i:Int);let Z1:Int := (↑l.length:Int);let Z2:Bool := decide ((0:Int) <= Z0 /\ Z0 < Z1);let Z3:Qc := Qc.mk (0:Int) (0:Int);let Z4:Qc := List.getD l Z0.toNat Z3;let Z5:Qc := Qc.mk (Qc.key Z4) (Qc.value Z4);let Z6:Int := IntKind.wrap .i64 (Z0 - (1:Int));let Z7:Qc := List.getD l Z6.toNat Z3;let Z8:RO_ := some ((X.normal,[(0,D.sl RTy.write c l),(1,D.fn (194:Nat) .anil),(2,D.fn (195:Nat) .anil),(6,D.bool false),(9,D.int .i64 Z1),(10,D.int .i64 (IntKind.wrap .i64 (Z0 + (1:Int))))]),[]);bif decide (Z0 < Z1) then bif Z2 then bif !ZL Z5 then some ((X.ret,[(6,D.bool false)]),[]) else bif decide ((0:Int) < Z0) then bif decide ((0:Int) <= Z6 /\ Z6 < Z1) then bif Z2 then bif !YB (Qc.mk (Qc.key Z7) (Qc.value Z7)) Z5 then some ((X.ret,[(6,D.bool false)]),[]) else Z8 else none else none else Z8 else none else some ((X.exit (0:Nat),[(6,D.bool false)]),[])) := by kernel_rfl
def Vj (c:Bool) (l:List Qc) (i:Nat):RT RC := .br (ZF ZL YB l i) (.leaf (.exit 0) [(6,.bool false)] []) (.leaf .ret [(6,.bool false)] [])
def Vk (c:Bool) (l:List Qc) (i:Nat):Prop := i <= l.length /\ l.length <= 9223372036854775807
def Yc:QU RC Qfv where
 k := 0
 canon q := QbL q.c q.l q.i
 objs q := QbM q.c q.l q.i
 fin q := Vj q.c q.l q.i
 Inv q := Vk q.c q.l q.i
 μ q := q.l.length - q.i
theorem Qeo (c:Bool) (l:List Qc) (i:Nat) (hI:Vk c l i):Leaf (QjN c l i) (LedR Yc ⟨c,l,i⟩) := by
 (rw [Qo8];conv => zeta)
 unfold Vk at hI;obtain ⟨h1,h2⟩ := hI
 by_cases hlt:i < l.length
 · have w_succ:IntKind.i64.wrap ((i:Int) + 1) = ((i + 1:Nat):Int) := by rw [Qb (by omega) (by omega)];simp
   have d_lt:decide ((i:Int) < l.length) = true := by simp;omega
   have d_in:decide (0 <= (i:Int) /\ (i:Int) < l.length) = true := by simp;omega
   have t_nat:((i:Int)).toNat = i := by simp
   have w_pred:IntKind.i64.wrap ((i:Int) - 1) = (i:Int) - 1 := Qb (by omega) (by omega)
   have t_natp:((i:Int) - 1).toNat = i - 1 := by omega
   simp only [w_succ,d_lt,d_in,t_nat,w_pred,t_natp,cond_true];have hst := K7 ZL YB l i (⟨0,0⟩:Qc) hlt;generalize l.getD i (⟨0,0⟩:Qc) = x at hst ⊢;generalize l.getD (i - 1) (⟨0,0⟩:Qc) = y at hst ⊢
   have hgo:ZF ZL YB l (i + 1) = ZF ZL YB l i -> Leaf (some ((X.normal,QbL c l (i + 1)),[])) (LedR Yc ⟨c,l,i⟩) := fun he =>
    Qw ⟨c,l,i + 1⟩ ⟨hlt,h2⟩ (by simp only [Yc];omega) (by simp only [Yc,Vj,he]) rfl rfl
   have hno:ZF ZL YB l i = false -> Leaf (some ((X.ret,[(6,D.bool false)]),[])) (LedR Yc ⟨c,l,i⟩) := fun he => Q7 [] (by simp [Yc,Vj,he,RT.val]) rfl
   rw [hst] at hgo hno;cases a1:ZL x
   · exact hno (by simp [a1])
   by_cases hi:i = 0
   · have d0:decide (0 < (i:Int)) = false := by simp;omega
     simp only [d0,cond_false];exact hgo (by simp [hi,a1])
   · have d_pos:decide (0 < (i:Int)) = true := by simp;omega
     have d_inp:decide (0 <= (i:Int) - 1 /\ (i:Int) - 1 < l.length) = true := by simp;omega
     simp only [d_pos,d_inp,cond_true];cases a4:YB y x
     · exact hno (by simp [hi,a4])
     · exact hgo (by simp [a4,a1])
 · have hi:i = l.length := by omega
   have c1:decide ((i:Int) < l.length) = false := by simp;omega
   rw [c1];exact Qn [] (by simp [Yc,Vj,hi,ZF,Qek,RT.val]) rfl
def Qep (env:Env RC) (os:List (Obj RC)):Option (Bool × Qfv) := match env,os with
 | [(0,.sl .write c l),(1,.fn 194 .anil),(2,.fn 195 .anil),(6,.bool false),(9,.int .i64 x0),(10,.int .i64 x1)],[] => Qz (true) (decide (x0 = l.length) && decide (x1 = 0) && decide (l.length <= 9223372036854775807),⟨c,l,0⟩)
 | _,_ => none
noncomputable def ua_4 := ua_3.addLoop 193 2 (sumR s25 [] [0,1,2,6,9,10] Yc Qep)
theorem QjO:Qh Tryz.prog s25 ua_4 := by
 refine QjM.addRoundsR Qa (by kernel_rfl) Yc 30 [0,1,2,6,9,10] [6] [] [0,1,2,6,9,10] Qep (fun q hI => ?_) ?_
 · obtain ⟨c,l,i⟩ := q;refine ⟨?_,?_,Qeo c l i hI⟩
   · simp_all [Ql,Yc,QbL,QbM,Vk,D.refs,Obj.refs,rEnc]
   · simp_all [Yc,Vj,QbM,Vk,RT.refsOK,Ql,D.refs,Obj.refs,rEnc]
 · intro env os b q hd_ hb;unfold Qep at hd_
   split at hd_
   · obtain ⟨hs,hd_⟩ := Qi hd_;cases hd_;simp only [Bool.and_eq_true,decide_eq_true_eq] at hb;obtain ⟨⟨rfl,rfl⟩,hl⟩ := hb;exact ⟨⟨Nat.zero_le _,hl⟩,rfl,rfl⟩
   · cases hd_
def QcS (c:Bool) (l:List Qc):Option (Bool × D RC) := some (lenOK l.length,.bool (Qx l))
def Qa2:List (D RC) -> Option (Bool × D RC)
 | [.sl .write c l] => QcS c l
 | _ => none
noncomputable def QcT (c:Bool) (l:List Qc) := evF s25 ua_4 20 156 [.sl (C := RC) .write c l]
theorem Qho (c:Bool) (l:List Qc):QcT c l = (let Z0:Nat := List.length l;let Z1:Int := (↑Z0:Int);bif lenOK Z0 then bif decide (Z1 <= (4:Int)) then bif lenOK Z0 then bif decide (Z1 = Z1) && true && decide (Z0 <= (9223372036854775807:Nat)) then bif ZF ZL YB l (0:Nat) then some (D.bool true) else some (D.bool false) else none else none else some (D.bool false) else none) := by kernel_rfl
theorem Qhp (c:Bool) (l:List Qc) (h:(lenOK l.length) = true):QcT c l = some (.bool (Qx l)) := by
 (rw [Qho];conv => zeta)
 have h2:l.length <= 9223372036854775807 := YK h;have h3:(((l.length:Nat):Int) <= 4) ↔ l.length <= 4 := by omega
 rw [Qx,h]
 by_cases h4:l.length <= 4
 · simp [h4,h2,h3];cases ZF ZL YB l 0 <;> rfl
 · simp [h4,h3]
noncomputable def ua_5 := ua_4.addSpec 156 Qa2
theorem QjP:Qh Tryz.prog s25 ua_5 := QjO.addEv Qa fun args d h => by
 unfold Qa2 at h
 split at h
 · unfold QcS at h;have h1 := congrArg Prod.fst (Option.some.inj h);obtain rfl:_ = d := congrArg Prod.snd (Option.some.inj h);exact ⟨by simp [D.refs],20,Qhp _ _ h1⟩
 · cases h
def Qvq (p:Int) (y:Bool) (c:Bool) (l:List Qc):Option (Bool × D RC) := some (lenOK l.length,.bool (mayB ⟨p,y,l⟩))
def QrJ:List (D RC) -> Option (Bool × D RC)
 | [.acons (.int .i64 p) (.acons (.bool y) (.acons (.sl .write c l) .anil))] => Qvq p y c l
 | _ => none
noncomputable def Qvr (p:Int) (y:Bool) (c:Bool) (l:List Qc) := evF s25 ua_5 20 103 [.acons (.int .i64 p) (.acons (.bool y) (.acons (.sl (C := RC) .write c l) .anil))]
theorem Qvs (p:Int) (y:Bool) (c:Bool) (l:List Qc):Qvr p y c l = (let Z0:Bool := lenOK l.length;bif Qp p (1:Int) (1048575:Int) then bif Z0 then bif Qx l then bif y then some (D.bool true) else bif Z0 then some (D.bool ((↑l.length:Int) == (0:Int))) else none else some (D.bool false) else none else some (D.bool false)) := by kernel_rfl
theorem Qvt (p:Int) (y:Bool) (c:Bool) (l:List Qc) (h:(lenOK l.length) = true):Qvr p y c l = some (.bool (mayB ⟨p,y,l⟩)) := by
 (rw [Qvs];conv => zeta)
 have h3:(((l.length:Nat):Int) = 0) ↔ l.length = 0 := by omega
 simp only [mayB,h];cases Qp p 1 1048575 <;> cases Qx l <;> cases y <;> simp [h3]
 cases l <;> simp
 omega
noncomputable def ua_6 := ua_5.addSpec 103 QrJ
theorem QjQ:Qh Tryz.prog s25 ua_6 := QjP.addEv Qa fun args d h => by
 unfold QrJ at h
 split at h
 · unfold Qvq at h;have h1 := congrArg Prod.fst (Option.some.inj h);obtain rfl:_ = d := congrArg Prod.snd (Option.some.inj h);exact ⟨by simp [D.refs],20,Qvt _ _ _ _ h1⟩
 · cases h
open Go.Proofs
def Qvu (c:Bool) (b:List UInt8) (n:Int) (w:Int):Option (Bool × D RC) := Qz (w == 1 || w == 2 || w == 3 || w == 6) (decide (b.length <= 1000000000),.tup (.acons (.sl (C := RC) .u8 (!QM n w.toNat) (putL b n w.toNat)) (.acons (.int .i64 (bif QM n w.toNat then 0 else 2)) .anil)))
def QrK:List (D RC) -> Option (Bool × D RC)
 | [.sl .u8 c b,.int .i64 n,.int .i64 w] => Qvu c b n w
 | _ => none
noncomputable def QjR (c:Bool) (b:List UInt8) (n:Int) (w:Int) := evF s25 ua_6 40 105 [.sl (C := RC) .u8 c b,.int .i64 n,.int .i64 w]
theorem Qtk (c:Bool) (b:List UInt8) (n:Int):QjR c b n 1 = (let Z0:DO_ := some (D.tup (D.acons (D.sl RTy.u8 true []) (.acons (D.int .i64 2) .anil)));let Z1:Bool := lenOK b.length;let Z2:Int := (↑b.length:Int);let Z3:List UInt8 := List.drop (0:Nat) (List.take Z2.toNat b);let Z4:List UInt8 := [UInt8.ofNat (IntKind.wrap IntKind.u8 n).toNat];let Z5:Nat := List.length Z3 + List.length Z4;bif decide ((0:Int) <= n) then bif !Int.fdiv n (256:Int) == (0:Int) then Z0 else bif Z1 then bif Z1 then bif decide ((0:Int) <= (0:Int) /\ (0:Int) <= Z2 /\ Z2 <= Z2 /\ Z2 = Z2) then bif Qg Z5 (1:Nat) then bif Nat.beq Z5 (Z3 ++ Z4).length then some (D.tup (D.acons (D.sl RTy.u8 false (Z3 ++ Z4)) (.acons (D.int .i64 0) .anil))) else none else none else none else none else none else Z0) := by kernel_rfl
theorem Qtl (c:Bool) (b:List UInt8) (n:Int):QjR c b n 2 = (let Z0:DO_ := some (D.tup (D.acons (D.sl RTy.u8 true []) (.acons (D.int .i64 2) .anil)));let Z1:Bool := lenOK b.length;let Z2:Int := (↑b.length:Int);let Z3:List UInt8 := List.drop (0:Nat) (List.take Z2.toNat b);let Z4:List UInt8 := [UInt8.ofNat (IntKind.wrap IntKind.u8 n).toNat];let Z5:Nat := List.length Z3 + List.length Z4;let Z6:Nat := List.length (Z3 ++ Z4);let Z7:List UInt8 := [UInt8.ofNat (IntKind.wrap IntKind.u8 (Int.fdiv n (256:Int))).toNat];bif decide ((0:Int) <= n) then bif !Int.fdiv n (65536:Int) == (0:Int) then Z0 else bif Z1 then bif Z1 then bif decide ((0:Int) <= (0:Int) /\ (0:Int) <= Z2 /\ Z2 <= Z2 /\ Z2 = Z2) then bif Qg Z5 (1:Nat) then bif Nat.beq Z5 Z6 && Qg (Z5 + List.length Z7) (1:Nat) then bif Nat.beq (Z6 + List.length Z7) (Z3 ++ Z4 ++ Z7).length then some (D.tup (D.acons (D.sl RTy.u8 false (Z3 ++ Z4 ++ Z7)) (.acons (D.int .i64 0) .anil))) else none else none else none else none else none else none else Z0) := by kernel_rfl
theorem Qtm (c:Bool) (b:List UInt8) (n:Int):QjR c b n 3 = (let Z0:DO_ := some (D.tup (D.acons (D.sl RTy.u8 true []) (.acons (D.int .i64 2) .anil)));let Z1:Bool := lenOK b.length;let Z2:Int := (↑b.length:Int);let Z3:List UInt8 := List.drop (0:Nat) (List.take Z2.toNat b);let Z4:List UInt8 := [UInt8.ofNat (IntKind.wrap IntKind.u8 n).toNat];let Z5:Nat := List.length Z3 + List.length Z4;let Z6:Nat := List.length (Z3 ++ Z4);let Z7:Int := Int.fdiv n (256:Int);let Z8:List UInt8 := [UInt8.ofNat (IntKind.wrap IntKind.u8 Z7).toNat];let Z9:Nat := List.length (Z3 ++ Z4 ++ Z8);let Z10:List UInt8 := [UInt8.ofNat (IntKind.wrap IntKind.u8 (Int.fdiv Z7 (256:Int))).toNat];bif decide ((0:Int) <= n) then bif !Int.fdiv n (16777216:Int) == (0:Int) then Z0 else bif Z1 then bif Z1 then bif decide ((0:Int) <= (0:Int) /\ (0:Int) <= Z2 /\ Z2 <= Z2 /\ Z2 = Z2) then bif Qg Z5 (1:Nat) then bif Nat.beq Z5 Z6 && Qg (Z5 + List.length Z8) (1:Nat) then bif Nat.beq (Z6 + List.length Z8) Z9 && Qg (Z6 + List.length Z8 + List.length Z10) (1:Nat) then bif Nat.beq (Z9 + List.length Z10) (Z3 ++ Z4 ++ Z8 ++ Z10).length then some (D.tup (D.acons (D.sl RTy.u8 false (Z3 ++ Z4 ++ Z8 ++ Z10)) (.acons (D.int .i64 0) .anil))) else none else none else none else none else none else none else none else Z0) := by kernel_rfl
theorem Qtn (c:Bool) (b:List UInt8) (n:Int):QjR c b n 6 = (let Z0:DO_ := some (D.tup (D.acons (D.sl RTy.u8 true []) (.acons (D.int .i64 2) .anil)));let Z1:Bool := lenOK b.length;let Z2:Int := (↑b.length:Int);let Z3:List UInt8 := List.drop (0:Nat) (List.take Z2.toNat b);let Z4:List UInt8 := [UInt8.ofNat (IntKind.wrap IntKind.u8 n).toNat];let Z5:Nat := List.length Z3 + List.length Z4;let Z6:Nat := List.length (Z3 ++ Z4);let Z7:Int := Int.fdiv n (256:Int);let Z8:List UInt8 := [UInt8.ofNat (IntKind.wrap IntKind.u8 Z7).toNat];let Z9:Nat := List.length (Z3 ++ Z4 ++ Z8);let Z10:Int := Int.fdiv Z7 (256:Int);let Z11:List UInt8 := [UInt8.ofNat (IntKind.wrap IntKind.u8 Z10).toNat];let Z12:Nat := List.length (Z3 ++ Z4 ++ Z8 ++ Z11);let Z13:Int := Int.fdiv Z10 (256:Int);let Z14:List UInt8 := [UInt8.ofNat (IntKind.wrap IntKind.u8 Z13).toNat];let Z15:Nat := List.length (Z3 ++ Z4 ++ Z8 ++ Z11 ++ Z14);let Z16:Int := Int.fdiv Z13 (256:Int);let Z17:List UInt8 := [UInt8.ofNat (IntKind.wrap IntKind.u8 Z16).toNat];let Z18:List UInt8 := Z3 ++ Z4 ++ Z8 ++ Z11 ++ Z14 ++ Z17;let Z19:List UInt8 := [UInt8.ofNat (IntKind.wrap IntKind.u8 (Int.fdiv Z16 (256:Int))).toNat];bif decide ((0:Int) <= n) then bif !Int.fdiv n (281474976710656:Int) == (0:Int) then Z0 else bif Z1 then bif Z1 then bif decide ((0:Int) <= (0:Int) /\ (0:Int) <= Z2 /\ Z2 <= Z2 /\ Z2 = Z2) then bif Qg Z5 (1:Nat) then bif Nat.beq Z5 Z6 && Qg (Z5 + List.length Z8) (1:Nat) then bif Nat.beq (Z6 + List.length Z8) Z9 && Qg (Z6 + List.length Z8 + List.length Z11) (1:Nat) then bif Nat.beq (Z9 + List.length Z11) Z12 && Qg (Z9 + List.length Z11 + List.length Z14) (1:Nat) then bif Nat.beq (Z12 + List.length Z14) Z15 && Qg (Z12 + List.length Z14 + List.length Z17) (1:Nat) then bif Nat.beq (Z15 + List.length Z17) Z18.length && Qg (Z15 + List.length Z17 + List.length Z19) (1:Nat) then bif Nat.beq (List.length Z18 + List.length Z19) (Z18 ++ Z19).length then some (D.tup (D.acons (D.sl RTy.u8 false (Z18 ++ Z19)) (.acons (D.int .i64 0) .anil))) else none else none else none else none else none else none else none else none else none else none else Z0) := by kernel_rfl
theorem Qvv (c:Bool) (b:List UInt8) (n:Int) (w:Int) (hs:(w == 1 || w == 2 || w == 3 || w == 6) = true) (h:(decide (b.length <= 1000000000)) = true):QjR c b n w = some (.tup (.acons (.sl (C := RC) .u8 (!QM n w.toNat) (putL b n w.toNat)) (.acons (.int .i64 (bif QM n w.toNat then 0 else 2)) .anil))) := by
 have hl := of_decide_eq_true h;have hl':lenOK b.length = true := Qk (by omega)
 have hle:∀ m,1000000000 <= m -> (b.length <= m) := fun m hm => by omega
 have hz:∀ (k:Nat) (m:Int),0 <= n -> m = 256 ^ k -> 0 < m -> ((n.fdiv m == 0) = QM n k) := by
  intro k m h0 hm hp;rw [Int.fdiv_eq_ediv_of_nonneg _ (by omega),QM,<- hm]
  have:(n / m = 0) ↔ n < m := Int.ediv_eq_zero_iff_of_pos' h0 hp;rw [Bool.eq_iff_iff];simp [this,h0]
 simp only [Bool.or_eq_true,beq_iff_eq] at hs;rcases hs with ((rfl | rfl) | rfl) | rfl
 · (rw [Qtk];conv => zeta)
   show _ = some (D.tup (.acons (.sl (C := RC) .u8 (!QM n 1) (putL b n 1)) (.acons (.int .i64 (bif QM n 1 then 0 else 2)) .anil)))
   by_cases h0:0 <= n
   · simp only [h0,decide_true,cond_true,hz 1 256 h0 (by decide) (by omega)]
     cases hf:QM n 1
     · simp [putL,hf]
     · simp [putL,hf,hl',Qg,leB,Q1,hle]
   · have hf:QM n 1 = false := by simp [QM,h0]
     simp [h0,hf,putL]
 · (rw [Qtl];conv => zeta)
   show _ = some (D.tup (.acons (.sl (C := RC) .u8 (!QM n 2) (putL b n 2)) (.acons (.int .i64 (bif QM n 2 then 0 else 2)) .anil)))
   by_cases h0:0 <= n
   · simp only [h0,decide_true,cond_true,hz 2 65536 h0 (by decide) (by omega)]
     cases hf:QM n 2
     · simp [putL,hf]
     · simp [putL,hf,hl',Qg,leB,Q1,hle]
   · have hf:QM n 2 = false := by simp [QM,h0]
     simp [h0,hf,putL]
 · (rw [Qtm];conv => zeta)
   show _ = some (D.tup (.acons (.sl (C := RC) .u8 (!QM n 3) (putL b n 3)) (.acons (.int .i64 (bif QM n 3 then 0 else 2)) .anil)))
   by_cases h0:0 <= n
   · simp only [h0,decide_true,cond_true,hz 3 16777216 h0 (by decide) (by omega)]
     cases hf:QM n 3
     · simp [putL,hf]
     · simp [putL,hf,hl',Qg,leB,Q1,hle]
   · have hf:QM n 3 = false := by simp [QM,h0]
     simp [h0,hf,putL]
 · (rw [Qtn];conv => zeta)
   show _ = some (D.tup (.acons (.sl (C := RC) .u8 (!QM n 6) (putL b n 6)) (.acons (.int .i64 (bif QM n 6 then 0 else 2)) .anil)))
   by_cases h0:0 <= n
   · simp only [h0,decide_true,cond_true,hz 6 281474976710656 h0 (by decide) (by omega)]
     cases hf:QM n 6
     · simp [putL,hf]
     · simp [putL,hf,hl',Qg,leB,Q1,hle]
   · have hf:QM n 6 = false := by simp [QM,h0]
     simp [h0,hf,putL]
noncomputable def ub_1 := ua_6.addSpec 105 QrK
theorem QjS:Qh Tryz.prog s25 ub_1 := QjQ.addEv Qa fun args d h => by
 unfold QrK at h
 split at h
 · unfold Qvu at h;obtain ⟨hs,h⟩ := Qi h;obtain ⟨h1,h2⟩ := Prod.mk.inj h;obtain rfl:_ = d := h2;exact ⟨by simp [D.refs],40,Qvv _ _ _ _ hs h1⟩
 · cases h
open Go.Proofs
structure Kf where
 cp:Bool
 bs:List UInt8
 c:Bool
 l:List Qc
 i:Nat
def V6 (cp:Bool) (bs:List UInt8) (c:Bool) (l:List Qc) (i:Nat):Env RC := [(4,.ptr 0 []),(28,.sl (C := RC) .write c l),(29,.int .i64 (l.length)),(30,.int .i64 (i:Int))]
def Zu (cp:Bool) (bs:List UInt8) (c:Bool) (l:List Qc) (i:Nat):List (Obj RC) := [.var 155 (.acons (.sl (C := RC) .u8 cp bs) .anil)]
noncomputable def K8 (cp:Bool) (bs:List UInt8) (c:Bool) (l:List Qc) (i:Nat) := rndO s25 ub_1 50 11 40 1 [4,28,29,30] [] [.slot 4 0] (V6 cp bs c l i) (Zu cp bs c l i)
theorem QcU (cp:Bool) (bs:List UInt8) (c:Bool) (l:List Qc) (i:Nat):K8 cp bs c l i = (let Z0:Int := (↑i:Int);let Z1:Int := (↑l.length:Int);let Z2:Qc := List.getD l Z0.toNat (Qc.mk (0:Int) (0:Int));let Z3:List UInt8 := putL bs (Qc.key Z2) (1:Nat);bif decide (Z0 < Z1) then bif decide ((0:Int) <= Z0 /\ Z0 < Z1) then bif decide (List.length bs <= (1000000000:Nat)) then bif decide (List.length Z3 <= (1000000000:Nat)) then some ((X.normal,[(4,D.ptr 0 []),(28,D.sl RTy.write c l),(29,D.int .i64 Z1),(30,D.int .i64 (IntKind.wrap .i64 (Z0 + (1:Int))))]),[some (Obj.var 155 (.acons (D.sl RTy.u8 (!QM (Qc.value Z2) (1:Nat)) (putL Z3 (Qc.value Z2) (1:Nat))) .anil))]) else none else none else none else some ((X.exit (0:Nat),[]),[some (Obj.var 155 (.acons (D.sl RTy.u8 cp bs) .anil))])) := by kernel_rfl
def ZQ (cp:Bool) (bs:List UInt8) (c:Bool) (l:List Qc) (i:Nat):RT RC := .leaf (.exit 0) [] [.var 155 (.acons (.sl (C := RC) .u8 (cp && (l.drop i).isEmpty) (bs ++ (l.drop i).flatMap Yq)) .anil)]
def Zl (cp:Bool) (bs:List UInt8) (c:Bool) (l:List Qc) (i:Nat):Prop := i <= l.length /\ l.length <= 1000000 /\ bs.length <= 1000000 + 2 * i /\ l.all fitW = true
def Q8:QU RC Kf where
 k := 1
 canon q := V6 q.cp q.bs q.c q.l q.i
 objs q := Zu q.cp q.bs q.c q.l q.i
 fin q := ZQ q.cp q.bs q.c q.l q.i
 Inv q := Zl q.cp q.bs q.c q.l q.i
 μ q := q.l.length - q.i
theorem K9 (cp:Bool) (bs:List UInt8) (c:Bool) (l:List Qc) (i:Nat) (hI:Zl cp bs c l i):Leaf (K8 cp bs c l i) (LedR Q8 ⟨cp,bs,c,l,i⟩) := by
 (rw [QcU];conv => zeta)
 unfold Zl at hI;obtain ⟨h1,h2,h3,h4⟩ := hI
 by_cases hlt:i < l.length
 · have w_succ:IntKind.i64.wrap ((i:Int) + 1) = ((i + 1:Nat):Int) := by rw [Qb (by omega) (by omega)];simp
   have d_lt:decide ((i:Int) < l.length) = true := by simp;omega
   have d_in:decide (0 <= (i:Int) /\ (i:Int) < l.length) = true := by simp;omega
   have t_nat:((i:Int)).toNat = i := by simp
   simp only [w_succ,d_lt,d_in,t_nat,cond_true];have hf := Qo6 h4 hlt (⟨0,0⟩:Qc);have hd:(l.drop i).flatMap Yq = _ := YC l i Yq hlt (⟨0,0⟩:Qc);have he:(l.drop i).isEmpty = false := by simp;omega
   generalize l.getD i (⟨0,0⟩:Qc) = x at hf hd ⊢;simp only [fitW,Bool.and_eq_true] at hf;simp only [Ze (QbK hf.1),Ze (QbK hf.2),QbK hf.1,QbK hf.2];have n1:decide (bs.length <= 1000000000) = true := decide_eq_true (by omega)
   have n2:decide ((bs ++ leB x.key 1).length <= 1000000000) = true := decide_eq_true (by simp [QF];omega)
   simp only [Int.toNat_one,Ze (QbK hf.1),Ze (QbK hf.2),QbK hf.1,QbK hf.2,n1,n2,cond_true,Bool.not_true];refine Qw ⟨false,bs ++ leB x.key 1 ++ leB x.value 1,c,l,i + 1⟩ ⟨hlt,h2,by simp [QF];omega,h4⟩ (by simp only [Q8];omega) ?_ rfl rfl
   simp only [Q8,ZQ,hd,he,Yq,leB,RT.val];simp
 · have hi:i = l.length := by omega
   have c1:decide ((i:Int) < l.length) = false := by simp;omega
   rw [c1];exact Qn (Zu cp bs c l i) (by simp [Q8,ZQ,Zu,hi,RT.val]) rfl
def V7 (env:Env RC) (os:List (Obj RC)):Option (Bool × Kf) := match env,os with
 | [(4,.ptr 0 []),(28,.sl .write c l),(29,.int .i64 x0),(30,.int .i64 x1)],[.var 155 (.acons (.sl .u8 cp bs) .anil)] => Qz (true) (decide (x0 = l.length) && decide (x1 = 0) && decide (l.length <= 1000000 /\ bs.length <= 1000000) && l.all fitW,⟨cp,bs,c,l,0⟩)
 | _,_ => none
noncomputable def uc_1 := ub_1.addLoop 50 11 (sumR s25 [.slot 4 0] [4,28,29,30] Q8 V7)
theorem QjT:Qh Tryz.prog s25 uc_1 := by
 refine QjS.addRoundsR Qa (by kernel_rfl) Q8 40 [4,28,29,30] [] [.slot 4 0] [4,28,29,30] V7 (fun q hI => ?_) ?_
 · obtain ⟨cp,bs,c,l,i⟩ := q;refine ⟨?_,?_,K9 cp bs c l i hI⟩
   · simp_all [Ql,Q8,V6,Zu,Zl,D.refs,Obj.refs,rEnc]
   · simp_all [Q8,ZQ,Zu,Zl,RT.refsOK,Ql,D.refs,Obj.refs,rEnc]
 · intro env os b q hd_ hb;unfold V7 at hd_
   split at hd_
   · obtain ⟨hs,hd_⟩ := Qi hd_;cases hd_;simp only [Bool.and_eq_true,decide_eq_true_eq] at hb;obtain ⟨⟨⟨rfl,rfl⟩,hl⟩,ha⟩ := hb;exact ⟨⟨Nat.zero_le _,hl.1,Nat.le_trans hl.2 (Nat.le_add_right _ _),ha⟩,rfl,rfl⟩
   · cases hd_
def QjU (p:Int) (y:Bool) (c:Bool) (l:List Qc):Option (Bool × D RC) := some (lenOK l.length,.tup (.acons (.sl (C := RC) .u8 (!mayB ⟨p,y,l⟩) (bif mayB ⟨p,y,l⟩ then ZG ⟨p,y,l⟩ else [])) (.acons (.int .i64 (bif mayB ⟨p,y,l⟩ then 0 else 2)) .anil)))
def Qfw:List (D RC) -> Option (Bool × D RC)
 | [.acons (.int .i64 p) (.acons (.bool y) (.acons (.sl .write c l) .anil))] => QjU p y c l
 | _ => none
noncomputable def QjV (p:Int) (y:Bool) (c:Bool) (l:List Qc) := evF s25 uc_1 40 50 [.acons (.int .i64 p) (.acons (.bool y) (.acons (.sl (C := RC) .write c l) .anil))]
theorem Qo9 (p:Int) (y:Bool) (c:Bool) (l:List Qc):QjV p y c l = (let Z0:Nat := List.length l;let Z1:List UInt8 := putL (putL [] p (3:Nat)) (bif y then (1:Int) else (0:Int)) (1:Nat);let Z2:Int := (↑Z0:Int);bif lenOK Z0 then bif !mayB (Rec.mk p y l) then some (D.tup (D.acons (D.sl RTy.u8 true []) (.acons (D.int .i64 2) .anil))) else bif decide (List.length (putL [] p (3:Nat)) <= (1000000000:Nat)) then bif lenOK Z0 then bif decide (List.length Z1 <= (1000000000:Nat)) then bif lenOK Z0 then bif decide (Z2 = Z2) && true && decide (Z0 <= (1000000:Nat) /\ List.length (putL Z1 Z2 (1:Nat)) <= (1000000:Nat)) && List.all l fitW then some (D.tup (D.acons (D.sl RTy.u8 (!QM Z2 (1:Nat) && List.isEmpty (List.drop (0:Nat) l)) (putL Z1 Z2 (1:Nat) ++ List.flatMap Yq (List.drop (0:Nat) l))) (.acons (D.int .i64 0) .anil))) else none else none else none else none else none else none) := by kernel_rfl
theorem Qpa (p:Int) (y:Bool) (c:Bool) (l:List Qc) (h:(lenOK l.length) = true):QjV p y c l = some (.tup (.acons (.sl (C := RC) .u8 (!mayB ⟨p,y,l⟩) (bif mayB ⟨p,y,l⟩ then ZG ⟨p,y,l⟩ else [])) (.acons (.int .i64 (bif mayB ⟨p,y,l⟩ then 0 else 2)) .anil))) := by
 (rw [Qo9];conv => zeta)
 rw [h];cases hm:mayB ⟨p,y,l⟩
 · rfl
 · obtain ⟨hp,hl,hw⟩ := Jr hm;have f3 := Qvp (n := p) (by rw [QB];omega)
   have f1:QM (l.length:Int) 1 = true := QbK (by rw [QB];omega)
   have fy1:QM 1 1 = true := rfl;have fy0:QM 0 1 = true := rfl;have g1:decide (([]:List UInt8).length <= 1000000000) = true := rfl;have g2:∀ b:List UInt8,b.length <= 1000 -> decide (b.length <= 1000000000) = true := fun b hb => decide_eq_true (by omega)
   have g3:∀ b:List UInt8,b.length <= 1000 -> (decide (l.length <= 1000000 /\ b.length <= 1000000)) = true := fun b hb => by simp;omega
   cases y <;> simp only [Int.toNat_one,show Int.toNat 3 = 3 from rfl,Ze f3,Ze f1,Ze fy1,Ze fy0,f3,f1,fy1,fy0,g1,cond_true,cond_false,Bool.not_true,Bool.not_false]
   · rw [g2 _ (by simp [QF]),g2 _ (by simp [QF]),g3 _ (by simp [QF]),hw]
     simp [ZG]
   · rw [g2 _ (by simp [QF]),g2 _ (by simp [QF]),g3 _ (by simp [QF]),hw]
     simp [ZG]
noncomputable def uc_2 := uc_1.addSpec 50 Qfw
theorem QjW:Qh Tryz.prog s25 uc_2 := QjT.addEv Qa fun args d h => by
 unfold Qfw at h
 split at h
 · unfold QjU at h;have h1 := congrArg Prod.fst (Option.some.inj h);obtain rfl:_ = d := congrArg Prod.snd (Option.some.inj h);exact ⟨by simp [D.refs],40,Qpa _ _ _ _ h1⟩
 · cases h
theorem Qa3 {α:Type} [DecidableEq α] (l m:List α) (i:Nat) (d:α) (hlt:i < l.length) (hlen:l.length = m.length) :
 decide (l.drop i = m.drop i) = (decide (l.getD i d = m.getD i d) && decide (l.drop (i + 1) = m.drop (i + 1))) := by
 have e1 := List.drop_eq_getElem_cons hlt;have e2 := List.drop_eq_getElem_cons (show i < m.length by omega)
 have h1:l.getD i d = l[i] := by simp [hlt]
 have h2:m.getD i d = m[i]'(by omega) := by simp [show i < m.length by omega]
 rw [h1,h2,e1,e2,Bool.eq_iff_iff];simp only [List.cons.injEq,decide_eq_true_eq,Bool.and_eq_true]
theorem QcV {α:Type} [DecidableEq α] (l m:List α) (i:Nat) (h1:l.length <= i) (h2:m.length <= i):decide (l.drop i = m.drop i) = true := by
 simp [List.drop_eq_nil_of_le h1,List.drop_eq_nil_of_le h2]
theorem putD {n:Int} (h0:0 <= n) (h1:n <= 9223372036854775807):IntKind.i64.wrap (n.tdiv 256) = n.fdiv 256 /\ 0 <= n.fdiv 256 /\ n.fdiv 256 <= 9223372036854775807 := by
 obtain ⟨a,b⟩ := Qem h0;rw [Int.tdiv_eq_ediv_of_nonneg h0,b];exact ⟨Qb (by omega) (by omega),by omega,by omega⟩
theorem putB {n:Int} (h0:0 <= n):UInt8.ofNat (IntKind.u8.wrap (n.tmod 256)).toNat = Q1 n := by
 rw [Q1,QbJ,QbJ,Int.tmod_eq_emod_of_nonneg h0,Int.emod_emod_of_dvd _ (by decide)]
theorem leB1 (n:Int):leB n 1 = [Q1 n] := rfl
end Go.Ev
