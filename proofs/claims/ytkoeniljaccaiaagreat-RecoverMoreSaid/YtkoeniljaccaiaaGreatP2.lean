/-
  A part of the proof of a statement of this seat: the model is run over values by content, proved sound; what the functions come to. No condition beyond the given statements. (text 3)
-/
import Derived.Test.YtkoeniljaccaiaaGreatP1
import Derived.LoopN
import Derived.Test.YtkoeniljaccaiaaGreatProg
import Derived.KernelRfl
namespace Go.Ev
set_option linter.unusedVariables false
set_option linter.unusedSimpArgs false
section
variable {C:Cdc}
open Pg (Ex)
namespace Pg
theorem Ex.doms {α:Type} {p:Pg C α}:∀ {e:Lv} {h:Heap C} {n:Nat} {a:α} {h':Heap C} {n':Nat} {t:Tr},Ex e p h n a h' n' t ->
 (∀ id w,(id,w) ∈ t->(h.get id).isSome=true \/ (n <= id /\ id < n')) /\ (∀ id,h.get id=none->(h'.get id).isSome=true->n <= id /\ id < n' /\ (id,true) ∈ t):=by
 induction p with
 | ret a =>
  intro e h n a' h' n' t hx;obtain ⟨rfl,rfl,rfl,rfl⟩:=Ex.ret hx;exact ⟨fun id w hm=>by simp at hm,fun id h1 h2=>by simp [h1] at h2⟩
 | fail=>intro e h n a' h' n' t hx;exact (Ex.fail hx).elim
 | br b x y ix iy =>
  intro e h n a' h' n' t hx;rcases Ex.br hx with ⟨hb,hx⟩ | ⟨hb,hx⟩
  · exact ix hx
  · exact iy hx
 | rd id f ih =>
  intro e h n a' h' n' t hx;obtain ⟨o,t',ho,hy,rfl⟩:=Ex.rd hx;obtain ⟨h1,h2⟩:=ih o hy;refine ⟨fun i w hm=>?_,fun i h3 h4=>?_⟩
  · simp only [List.mem_append,List.mem_singleton,Prod.mk.injEq] at hm;rcases hm with hm | ⟨rfl,rfl⟩
    · exact h1 i w hm
    · exact .inl (by simp [ho])
  · obtain ⟨q1,q2,q3⟩:=h2 i h3 h4;exact ⟨q1,q2,by simp [q3]⟩
 | wr id o f ih =>
  intro e h n a' h' n' t hx;obtain ⟨o',t',ho,hy,rfl⟩:=Ex.wr hx;have hs:(h.get id).isSome=true:=by simp [ho]
  obtain ⟨h1,h2⟩:=ih hy;refine ⟨fun i w hm=>?_,fun i h3 h4=>?_⟩
  · simp only [List.mem_append,List.mem_singleton,Prod.mk.injEq] at hm;rcases hm with hm | ⟨rfl,rfl⟩
    · have:=h1 i w hm;rw [Ql hs] at this
      by_cases he:i=id
      · subst he;exact .inl hs
      · simpa [he] using this
    · exact .inl hs
  · have hne:i ≠ id:=by rintro rfl;simp [h3] at hs
    obtain ⟨q1,q2,q3⟩:=h2 i (by rw [Ql hs];simp [hne,h3]) h4
    exact ⟨q1,q2,by simp [q3]⟩
 | nw o f ih =>
  intro e h n a' h' n' t hx;obtain ⟨t',hy,rfl⟩:=Ex.nw hx;have hle:=Ex.le hy;obtain ⟨h1,h2⟩:=ih n hy;refine ⟨fun i w hm=>?_,fun i h3 h4=>?_⟩
  · simp only [List.mem_append,List.mem_singleton,Prod.mk.injEq] at hm;rcases hm with hm | ⟨rfl,rfl⟩
    · have:=h1 i w hm;rw [Qn] at this
      by_cases he:i=n
      · exact .inr (by omega)
      · simp only [he,if_false] at this;rcases this with h | h
        · exact .inl h
        · exact .inr (by omega)
    · exact .inr (by omega)
  · by_cases he:i=n
    · subst he;exact ⟨by omega,by omega,by simp⟩
    · obtain ⟨q1,q2,q3⟩:=h2 i (by rw [Qn];simp [he,h3]) h4
      exact ⟨by omega,q2,by simp [q3]⟩
 | dl id f ih =>
  intro e h n a' h' n' t hx;obtain ⟨o',t',ho,hy,rfl⟩:=Ex.dl hx;obtain ⟨h1,h2⟩:=ih hy;refine ⟨fun i w hm=>?_,fun i h3 h4=>?_⟩
  · simp only [List.mem_append,List.mem_singleton,Prod.mk.injEq] at hm;rcases hm with hm | ⟨rfl,rfl⟩
    · have:=h1 i w hm;rw [QR] at this
      by_cases he:i=id
      · subst he;exact .inl (by simp [ho])
      · simpa [he] using this
    · exact .inl (by simp [ho])
  · obtain ⟨q1,q2,q3⟩:=h2 i (by rw [QR];simp [h3]) h4
    exact ⟨q1,q2,by simp [q3]⟩
 | cnt f ih=>intro e h n a' h' n' t hx;exact ih _ _ (Ex.cnt hx)
 | upto m f ih =>
  intro e h n a' h' n' t hx;obtain ⟨hm,hx⟩:=Ex.upto hx;obtain ⟨h1,h2⟩:=ih hx;refine ⟨fun i w hi=>?_,fun i h3 h4=>?_⟩
  · rcases h1 i w hi with h | h
    · exact .inl h
    · exact .inr (by omega)
  · obtain ⟨q1,q2,q3⟩:=h2 i h3 h4;exact ⟨by omega,q2,q3⟩
 | gc lo keep f ih =>
  intro e h n a' h' n' t hx;obtain ⟨hm,hx⟩:=Ex.gc hx;obtain ⟨h1,h2⟩:=ih hx;refine ⟨fun i w hi=>?_,fun i h3 h4=>?_⟩
  · have:=h1 i w hi;rw [Yb] at this
    split at this
    · exact .inr (by simpa using this)
    · exact this
  · exact h2 i (by rw [Yb];split <;> simp [h3]) h4
 | sub p f ip ik =>
  intro e h n a' h' n' t hx;obtain ⟨v,h1,n1,t1,t2,hp,hy,rfl⟩:=Ex.sub hx;have l1:=Ex.le hp;have l2:=Ex.le hy;obtain ⟨p1,p2⟩:=ip hp;obtain ⟨k1,k2⟩:=ik _ _ hy;refine ⟨fun i w hi=>?_,fun i h3 h4=>?_⟩
  · simp only [List.mem_append] at hi;rcases hi with hi | hi
    · rcases k1 i w hi with hq | hq
      · cases hh:h.get i with
        | some o=>exact .inl rfl
        | none=>have:=p2 i hh hq;exact .inr (by omega)
      · exact .inr (by omega)
    · rcases p1 i w hi with h | h
      · exact .inl h
      · exact .inr (by omega)
  · by_cases hs:(h1.get i).isSome=true
    · have:=p2 i h3 hs;exact ⟨by omega,by omega,by simp [this.2.2]⟩
    · have:=k2 i (by simpa using hs) h4;exact ⟨by omega,by omega,by simp [this.2.2]⟩
end Pg
variable {P:Program} {T:Tab C}
def Bef (ops:Array Oper) (i j:Nat):Prop:=((Region.before ops).getD j 0).testBit i=true
theorem before_one {A:Array Nat} {i k:Nat} (es:List Edge):∀ (s:Nat),(es.foldl (fun s e=>if Region.binds .any e then s ||| 2 ^ e.on ||| A.getD e.on 0 else s) s).testBit i=true ->
 s.testBit i=true \/ ∃ e ∈ es,Region.binds .any e=true /\ (e.on=i \/ (A.getD e.on 0).testBit i=true):=by
 induction es with
 | nil=>intro s h;exact .inl h
 | cons e es ih =>
  intro s h;rw [List.foldl_cons] at h;rcases ih _ h with h | ⟨e',h1,h2,h3⟩
  · by_cases hb:Region.binds .any e=true
    · simp only [hb,if_true,Nat.testBit_or,Bool.or_eq_true,Nat.testBit_two_pow,decide_eq_true_eq] at h;rcases h with (h | h) | h
      · exact .inl h
      · exact .inr ⟨e,by simp,hb,.inl h⟩
      · exact .inr ⟨e,by simp,hb,.inr h⟩
    · simp only [hb] at h;exact .inl h
  · exact .inr ⟨e',by simp [h1],h2,h3⟩
theorem Qh9 (ops:Array Oper):∀ (l pre:List Oper) (A:Array Nat),ops.toList=pre++l->A.size=pre.length ->
 (∀ k i,(A.getD k 0).testBit i=true -> ∃ o e,ops[k]? = some o /\ e ∈ o.after /\ Region.binds .any e=true /\ (e.on=i \/ (e.on < k /\ (A.getD e.on 0).testBit i=true))) ->
 ∀ k i,((l.foldl (fun acc o=>acc.push (o.after.foldl (fun s e=>if Region.binds .any e then s ||| 2 ^ e.on ||| acc.getD e.on 0 else s) 0)) A).getD k 0).testBit i=true ->
  ∃ o e,ops[k]? = some o /\ e ∈ o.after /\ Region.binds .any e=true /\ (e.on=i \/ (e.on < k /\ ((l.foldl (fun acc o=>acc.push (o.after.foldl (fun s e=>if Region.binds .any e then s ||| 2 ^ e.on ||| acc.getD e.on 0 else s) 0)) A).getD e.on 0).testBit i=true)):=by
 intro l
 induction l with
 | nil=>intro pre A h1 h2 h3;simpa using h3
 | cons o l ih =>
  intro pre A h1 h2 h3;rw [List.foldl_cons];refine ih (pre++[o]) _ (by simp [h1]) (by simp [h2]) ?_
  intro k i hk
  have hget:∀ j,(A.push (o.after.foldl (fun s e=>if Region.binds .any e then s ||| 2 ^ e.on ||| A.getD e.on 0 else s) 0)).getD j 0=if j=A.size then (o.after.foldl (fun s e=>if Region.binds .any e then s ||| 2 ^ e.on ||| A.getD e.on 0 else s) 0) else A.getD j 0:=by
   intro j;simp only [Array.getD_eq_getD_getElem?,Array.getElem?_push]
   split <;> simp
  have hA:∀ j i,(A.getD j 0).testBit i=true->j < A.size:=by
   intro j i h;rcases Nat.lt_or_ge j A.size with h' | h'
   · exact h'
   · simp [Array.getD_eq_getD_getElem?,Array.getElem?_eq_none h'] at h
  rw [hget] at hk
  by_cases hks:k=A.size
  · simp only [hks,if_true] at hk;rw [<- Array.foldl_toList] at hk;rcases before_one (k:=k) o.after.toList 0 hk with h | ⟨e,q1,q2,q3⟩
    · simp at h
    · refine ⟨o,e,?_,by simpa using q1,q2,?_⟩
      · rw [<- Array.getElem?_toList,h1,hks,h2];simp
      · rcases q3 with q3 | q3
        · exact .inl q3
        · have:=hA _ _ q3;refine .inr ⟨by omega,?_⟩
          rw [hget];have hne:¬ e.on=A.size:=by omega
          simp only [hne,if_false];exact q3
  · simp only [hks,if_false] at hk;obtain ⟨o',e,q1,q2,q3,q4⟩:=h3 k i hk;refine ⟨o',e,q1,q2,q3,?_⟩;rcases q4 with q4 | ⟨q4,q5⟩
    · exact .inl q4
    · have:=hA _ _ q5;refine .inr ⟨q4,?_⟩;rw [hget];have hne:¬ e.on=A.size:=by omega
      simp only [hne,if_false];exact q5
theorem Bef.edge {ops:Array Oper} {i k:Nat} (h:Bef ops i k):∃ o e,ops[k]? = some o /\ e ∈ o.after /\ Region.binds .any e=true /\ (e.on=i \/ (e.on < k /\ Bef ops i e.on)):=by
 have he:Region.before ops=ops.toList.foldl (fun acc o=>acc.push (o.after.foldl (fun s e=>if Region.binds .any e then s ||| 2 ^ e.on ||| acc.getD e.on 0 else s) 0)) #[]:=by
  unfold Region.before;rw [<- Array.foldl_toList]
 unfold Bef at h ⊢;simp only [he] at h ⊢;exact Qh9 ops ops.toList [] #[] (by simp) (by simp) (fun k i hk=>by simp at hk) k i h
theorem Bef.listed {ops:Array Oper} {L:Nat->Prop} (hcl:∀ j o,L j->ops[j]? = some o -> ∀ e ∈ o.after,Region.binds .any e=true->L e.on) :
 ∀ (k i:Nat),Bef ops i k->(∀ o,ops[k]? = some o -> ∀ e ∈ o.after,Region.binds .any e=true->L e.on)->L i:=by
 intro k
 induction k using Nat.strongRecOn with
 | ind k ih =>
  intro i hb hk;obtain ⟨o,e,h1,h2,h3,h4⟩:=hb.edge;have hl:=hk o h1 e h2 h3;rcases h4 with rfl | ⟨h4,h5⟩
  · exact hl
  · exact ih e.on h4 i h5 fun o' ho' e' he' hb'=>hcl e.on o' hl ho' e' he' hb'
inductive RunL (T:Tab C) (call:FuncId->List (D C)->Pg C (D C)) (ops:Array Oper) (L base sp:Nat) (ts:Nat->Tr):List Nat->Env C->Heap C->Env C->Heap C->Prop where
 | nil {env envF:Env C} {h hF:Heap C}:(∀ t,eget env t=eget envF t)->(∀ id,h.get id=hF.get id)->RunL T call ops L base sp ts [] env h envF hF
 | cons {env env1 envF:Env C} {h h1 hF:Heap C} {i n:Nat} {o:Oper} {l:List Nat}:ops[i]? = some o->Ex (L,base+i * sp) (Jz T call ops o env) h (base+i * sp) env1 h1 n (ts i)->n <= base+(i+1) * sp ->
  RunL T call ops L base sp ts l env1 h1 envF hF->RunL T call ops L base sp ts (i::l) env h envF hF
variable {call:FuncId->List (D C)->Pg C (D C)} {ops:Array Oper} {L base sp:Nat} {ts:Nat->Tr}
theorem RunL.ext {l:List Nat} {env envF:Env C} {h hF:Heap C} (hr:RunL T call ops L base sp ts l env h envF hF):∀ (env':Env C) (h':Heap C),(∀ t,eget env' t=eget env t)->(∀ id,h'.get id=h.get id)->RunL T call ops L base sp ts l env' h' envF hF:=by
 induction hr with
 | nil h1 h2=>intro env' h' e1 e2;exact .nil (fun t=>(e1 t).trans (h1 t)) fun id=>(e2 id).trans (h2 id)
 | @cons env env1 envF h h1 hF i n o l ho hx hn _ ih =>
  intro env' h' e1 e2;obtain ⟨v,env3,q1,q2,q3⟩:=Y7 call ops o env env' (fun t _=>(e1 t).symm) hx;obtain ⟨g',k1,k2,k3⟩:=Ex.local q2 (Nat.le_refl _) h' (fun id _ _ _=>e2 id) (fun id _ _=>e2 id);refine .cons ho k1 hn (ih env3 g' (fun t=>by rw [q1,q3];simp [e1]) fun id=>?_)
  by_cases hin:base+i * sp <= id /\ id < n
  · exact k2 id hin.1 hin.2
  · have:=k3 id (by simp;omega)
    by_cases hm:(id,true) ∈ ts i
    · exact this.1 hm
    · rw [(this.2 hm).1,(this.2 hm).2,e2]
def Away (a b:Tr):Prop := ∀ id u v,(id,u) ∈ a->(id,v) ∈ b->u=false /\ v=false
theorem Qfo {a b:Tr} (h:QjE a b=true):Away a b:=by
 intro id u v hu hv;simp only [QjE,List.all_eq_true] at h;have:=h (id,u) hu (id,v) hv
 simpa using this
inductive Shp (C:Cdc) where
 | var (t:TypeId)
 | vec (t:C.Ty) (n:Nat)
 | map
 | ctl
def shp:Obj C->Shp C
 | .var t _=>.var t
 | .vec t _ l=>.vec t l.length
 | .map _ _ _=>.map
 | .ctl _=>.ctl
inductive ShPg {α:Type}:Pg C α->Prop where
 | ret (a:α):ShPg (.ret a)
 | fail:ShPg .fail
 | br {b:Bool} {x y:Pg C α}:ShPg x->ShPg y->ShPg (.br b x y)
 | rd {id:Nat} {k:Obj C->Pg C α}:(∀ o,ShPg (k o))->(∀ o o',shp o=shp o'->k o=k o')->ShPg (.rd id k)
theorem ShPg.bind {α β:Type} {p:Pg C α} {f:α->Pg C β} (hp:ShPg p) (hf:∀ a,ShPg (f a)):ShPg (p.bind f):=by
 induction hp with
 | ret a=>exact hf a
 | fail=>exact .fail
 | br _ _ ix iy=>exact .br ix iy
 | rd _ hk ih=>exact .rd ih fun o o' h=>by rw [hk o o' h]
theorem Ex.rd_intro {α:Type} {e:Pg.Lv} {id:Nat} {o:Obj C} {f:Obj C->Pg C α} {h h':Heap C} {n n':Nat} {a:α} {t:Tr} (hg:h.get id=some o) (hx:Ex e (f o) h n a h' n' t):Ex e (.rd id f) h n a h' n' (t++[(id,false)]):=by
 unfold Ex at hx ⊢;simp only [Pg.run,hg];rw [Pg.run_eq,hx];rfl
theorem ShPg.ex {α:Type} {p:Pg C α} (hp:ShPg p):∀ {e:Pg.Lv} {h h':Heap C} {n n':Nat} {a:α} {t:Tr},Ex e p h n a h' n' t ->
 h'=h /\ n'=n /\ ∀ (g:Heap C) (m:Nat),(∀ id,(g.get id).map shp=(h.get id).map shp)->Ex e p g m a g m t:=by
 induction hp with
 | ret a =>
  intro e h h' n n' a' t hx;obtain ⟨rfl,rfl,rfl,rfl⟩:=Ex.ret hx;exact ⟨rfl,rfl,fun g m _=>by simp [Ex,Pg.run]⟩
 | fail=>intro e h h' n n' a' t hx;exact (Ex.fail hx).elim
 | @br b x y _ _ ix iy =>
  intro e h h' n n' a' t hx;rcases Ex.br hx with ⟨rfl,hx⟩ | ⟨rfl,hx⟩
  · obtain ⟨h1,h2,h3⟩:=ix hx;exact ⟨h1,h2,fun g m hg=>by have:=h3 g m hg;simpa [Ex,Pg.run] using this⟩
  · obtain ⟨h1,h2,h3⟩:=iy hx;exact ⟨h1,h2,fun g m hg=>by have:=h3 g m hg;simpa [Ex,Pg.run] using this⟩
 | @rd id k _ hk ih =>
  intro e h h' n n' a' t hx;obtain ⟨o,t',ho,hy,rfl⟩:=Ex.rd hx;obtain ⟨h1,h2,h3⟩:=ih o hy;refine ⟨h1,h2,fun g m hg=>?_⟩;have hgi:=hg id;rw [ho] at hgi;cases hq:g.get id with
  | none=>rw [hq] at hgi;cases hgi
  | some o' =>
   rw [hq] at hgi;have hs:shp o'=shp o:=Option.some.inj hgi;exact Ex.rd_intro hq (by rw [hk o' o hs];exact h3 g m hg)
theorem shPg_fieldAddr (s:TypeId) (x:D C) (i:Nat):ShPg (Ye T s x i):=by
 unfold Ye
 split
 · rename_i fs _;cases Nat.blt i fs.length
   · exact .fail
   · simp only [cond_true]
     split
     · refine .rd (fun o=>?_) fun o o' h=>?_
       · unfold Qr2;split
         · rename_i u _;cases decide (tyAt T u _=some s)
           · exact .fail
           · exact .ret _
         · exact .fail
       · cases o <;> cases o' <;> simp only [shp,Shp.var.injEq,reduceCtorEq] at h
         · subst h;rfl
         all_goals rfl
     · refine .rd (fun o=>?_) fun o o' h=>?_
       · unfold QoN;split
         · refine .br ?_ .fail;rename_i ty _ _;cases Nat.beq s (T.ety ty)
           · exact .fail
           · exact .ret _
         · exact .fail
       · cases o <;> cases o' <;> simp only [shp,Shp.vec.injEq,reduceCtorEq] at h
         · rfl
         · obtain ⟨rfl,hl⟩:=h;simp only [QoN,hl]
         all_goals rfl
     · rename_i d;cases fit T d (.inl s)
       · exact .fail
       · simp only [cond_true]
         split
         · exact .ret _
         · exact .fail
     · exact .fail
 · exact .fail
theorem shPg_indexAddr (t:TypeId) (x i:D C):ShPg (Yf T t x i):=by
 unfold Yf
 split
 · rename_i k n
   split
   · rename_i e ty0 _
     split
     · rename_i ty _ l;cases decide (ty=ty0)
       · exact .fail
       · exact .br (.ret _) .fail
     · refine .rd (fun o=>?_) fun o o' h=>?_
       · unfold QoO;split
         · rename_i ty _ _;cases decide (ty=ty0)
           · exact .fail
           · exact .br (.ret _) .fail
         · exact .fail
       · cases o <;> cases o' <;> simp only [shp,Shp.vec.injEq,reduceCtorEq] at h
         · rfl
         · obtain ⟨rfl,hl⟩:=h;simp only [QoO,hl]
         all_goals rfl
     · split
       · rename_i ty _;cases decide (ty=ty0)
         · exact .fail
         · exact .br (.ret _) .fail
       · exact .fail
     · exact .fail
   · split
     · refine .br ?_ .fail
       split
       · exact .ret _
       · exact .fail
     · exact .fail
   · split
     · refine .rd (fun o=>?_) fun o o' h=>?_
       · unfold QhX;split
         · rename_i u _;cases decide (tyAt T u _=some t)
           · exact .fail
           · exact .br (.ret _) .fail
         · exact .fail
       · cases o <;> cases o' <;> simp only [shp,Shp.var.injEq,reduceCtorEq] at h
         · subst h;rfl
         all_goals rfl
     · rename_i ty m' l;cases fit T (.arr ty m' l:D C) (.inl t)
       · exact .fail
       · exact .br (.ret _) .fail
     · exact .fail
   · split
     · refine .rd (fun o=>?_) fun o o' h=>?_
       · unfold QhX;split
         · rename_i u _;cases decide (tyAt T u _=some t)
           · exact .fail
           · exact .br (.ret _) .fail
         · exact .fail
       · cases o <;> cases o' <;> simp only [shp,Shp.var.injEq,reduceCtorEq] at h
         · subst h;rfl
         all_goals rfl
     · rename_i d;cases fit T d (.inl t)
       · exact .fail
       · refine .br ?_ .fail
         split
         · exact .ret _
         · exact .fail
     · exact .fail
   · exact .fail
 · exact .fail
theorem QdH {i:Nat} {k:IntKind} {n:Int} {go:Env C->Pg C (Env C)} (hg:∀ env,ShPg (go env)) (w:Bool) (env:Env C):∀ l:List Int,ShPg (pins i k n go w env l)
 | []=>by cases w;exact hg env;exact .fail
 | j::l=>.br (hg _) (QdH hg w env l)
theorem Qfp (call:FuncId->List (D C)->Pg C (D C)) (ops:Array Oper) {o:Oper} (ho:QbL o=true) (env:Env C):ShPg (Jz T call ops o env):=by
 have hev:∀ ev:Operand->D C,ShPg (evOp T call o ev):=fun ev=>by
  unfold QbL at ho;unfold evOp
  split at ho
  · rename_i q;rw [q];exact shPg_fieldAddr _ _ _
  · rename_i q;rw [q];exact shPg_indexAddr _ _ _
  · cases ho
 have hgo:∀ env,ShPg (pinC T o (fun env=>.bind (evOp T call o (evAt env)) fun d=>.ret (put env o.dst d)) env):=fun env=>by
  have h0:∀ env:Env C,ShPg ((evOp T call o (evAt env)).bind fun d=>.ret (put env o.dst d)):=fun env=>(hev _).bind fun d=>.ret _;unfold pinC
  split
  · split
    · exact QdH h0 _ _ _
    · exact h0 _
  · exact h0 _
 unfold Jz
 split
 · exact hgo env
 · rename_i j want _
   split
   · split
     · cases want
       · exact .br (.ret _) (hgo _)
       · exact .br (hgo _) (.ret _)
     · exact .ret _
     · exact .fail
   · exact .fail
theorem Qfq {h:Heap C} {id:Nat} {o o':Obj C} (hg:h.get id=some o) (hs:shp o'=shp o):∀ i,((h.put id o').get i).map shp=(h.get i).map shp:=fun i=>by
 rw [Ql (by rw [hg];rfl)]
 by_cases e:i=id
 · subst e;rw [if_pos rfl,hg,Option.map_some,Option.map_some,hs]
 · rw [if_neg e]
theorem QaO (call:FuncId->List (D C)->Pg C (D C)) (ops:Array Oper) {o:Oper} (ho:JA o=true) {env env':Env C} {e:Pg.Lv} {h h':Heap C} {n n':Nat} {t:Tr} (hx:Ex e (Jz T call ops o env) h n env' h' n' t) :
 ∀ id,(h'.get id).map shp=(h.get id).map shp:=by
 have hev:∀ {ev:Operand->D C} {d:D C} {h h':Heap C} {n n':Nat} {t:Tr},Ex e (evOp T call o ev) h n d h' n' t -> ∀ id,(h'.get id).map shp=(h.get id).map shp:=by
  intro ev d h h' n n' t hx;unfold JA at ho
  split at ho
  · rename_i ty a x q;unfold evOp at hx;rw [q] at hx
    have hst:∀ (va v:D C) {d:D C} {h h':Heap C} {n n':Nat} {t:Tr},Ex e (YX T ty va v) h n d h' n' t -> ∀ id,(h'.get id).map shp=(h.get id).map shp:=by
     intro va v d h h' n n' t hx;unfold YX at hx
     split at hx
     · obtain ⟨o',t',ho',hy,_⟩:=Ex.rd hx;unfold Qr0 at hy
       split at hy
       · split at hy
         · rename_i u _ d' t2 _ _
           revert hy
           cases fit T v (.inl ty) && fit T v (.inl t2) with
           | false=>intro hy;exact (Ex.fail hy).elim
           | true =>
            intro hy;obtain ⟨o2,t2,h2,hz,_⟩:=Ex.wr hy;obtain ⟨_,rfl,_,_⟩:=Ex.ret hz;exact Qfq ho' rfl
         · exact (Ex.fail hy).elim
       · exact (Ex.fail hy).elim
     · obtain ⟨o',t',ho',hy,_⟩:=Ex.rd hx;unfold Qr1 at hy
       split at hy
       · split at hy
         · split at hy
           · rcases Ex.br hy with ⟨_,hy⟩ | ⟨_,hy⟩
             · revert hy
               cases fit T v (.inl ty) with
               | false=>intro hy;exact (Ex.fail hy).elim
               | true =>
                intro hy;obtain ⟨o2,t2,h2,hz,_⟩:=Ex.wr hy;obtain ⟨_,rfl,_,_⟩:=Ex.ret hz;exact Qfq ho' (by simp [shp])
             · exact (Ex.fail hy).elim
           · exact (Ex.fail hy).elim
         · exact (Ex.fail hy).elim
       · exact (Ex.fail hy).elim
     · exact (Ex.fail hx).elim
    rcases storeS_shape hx with ⟨_,hx⟩ | ⟨i,m,d1,h1,n1,t1,t2,_,q1,q2⟩
    · exact hst _ _ hx
    · intro id;rw [hst _ _ q2];simp only [frz] at q1;obtain ⟨o',t',ho',hy,_⟩:=Ex.rd q1;cases o' with
      | var _ _=>exact (Ex.fail hy).elim
      | map _ _ _=>exact (Ex.fail hy).elim
      | ctl _=>exact (Ex.fail hy).elim
      | vec tt own l =>
       rcases Ex.br hy with ⟨_,hy⟩ | ⟨_,hy⟩
       · obtain ⟨o2,t2,h2,hz,_⟩:=Ex.wr hy;obtain ⟨_,rfl,_,_⟩:=Ex.ret hz;exact Qfq (o':=.vec tt false l) ho' rfl id
       · exact (Ex.fail hy).elim
  · cases ho
 have hpin:∀ (f:Env C),pinC T o (fun env=>.bind (evOp T call o (evAt env)) fun d=>.ret (put env o.dst d)) f=(evOp T call o (evAt f)).bind fun d=>.ret (put f o.dst d):=fun f=>by
  unfold JA at ho
  split at ho
  · rename_i q;unfold pinC QhY;rw [q]
  · cases ho
 have hgo:∀ {f:Env C} {h h':Heap C} {n n':Nat} {t:Tr},Ex e (pinC T o (fun env=>.bind (evOp T call o (evAt env)) fun d=>.ret (put env o.dst d)) f) h n env' h' n' t -> ∀ id,(h'.get id).map shp=(h.get id).map shp:=by
  intro f h h' n n' t hx;rw [hpin] at hx;obtain ⟨d,h1,n1,t1,t2,q1,q2,_⟩:=Ex.bind hx;obtain ⟨_,rfl,_,_⟩:=Ex.ret q2;exact hev q1
 have hsk:∀ {f:Env C} {h h':Heap C} {n n':Nat} {t:Tr},Ex e (.ret f:Pg C (Env C)) h n env' h' n' t -> ∀ id,(h'.get id).map shp=(h.get id).map shp:=by
  intro f h h' n n' t hx;obtain ⟨_,rfl,_,_⟩:=Ex.ret hx;exact fun _=>rfl
 unfold Jz at hx
 split at hx
 · exact hgo hx
 · rename_i j want _
   split at hx
   · split at hx
     · cases want
       · rcases Ex.br hx with ⟨_,hx⟩ | ⟨_,hx⟩
         · exact hsk hx
         · exact hgo hx
       · rcases Ex.br hx with ⟨_,hx⟩ | ⟨_,hx⟩
         · exact hgo hx
         · exact hsk hx
     · exact hsk hx
     · exact (Ex.fail hx).elim
   · exact (Ex.fail hx).elim
def QdI (base sp:Nat) (l:List Nat) (h:Heap C):Prop := ∀ i ∈ l,∀ id,base+i * sp <= id->id < base+(i+1) * sp->h.get id=none
theorem QdJ {sp i k:Nat} (hne:i ≠ k) {id base:Nat} (h1:base+i * sp <= id) (h2:id < base+(i+1) * sp) (h3:base+k * sp <= id) (h4:id < base+(k+1) * sp):False:=by
 rcases Nat.lt_or_gt_of_ne hne with h | h
 · have:(i+1) * sp <= k * sp:=Nat.mul_le_mul_right _ h;omega
 · have:(k+1) * sp <= i * sp:=Nat.mul_le_mul_right _ h;omega
theorem QdI.step {l:List Nat} {h h1:Heap C} {i n:Nat} {p:Pg C (Env C)} {env1:Env C} {t:Tr} (hf:QdI base sp l h) (hx:Ex (L,base+i * sp) p h (base+i * sp) env1 h1 n t) (hn:n <= base+(i+1) * sp) (hi:i ∉ l):QdI base sp l h1:=by
 intro k hk id h2 h3;cases hg:h1.get id with
 | none=>rfl
 | some o =>
  have:=(Ex.doms hx).2 id (hf k hk id h2 h3) (by simp [hg])
  exact (QdJ (i:=i) (k:=k) (by rintro rfl;exact hi hk) (id:=id) (base:=base) (sp:=sp) (by omega) (by omega) h2 h3).elim
theorem RunL.swap {k i:Nat} {l:List Nat} {env envF:Env C} {h hF:Heap C} {ok oi:Oper} (hok:ops[k]? = some ok) (hoi:ops[i]? = some oi) (hne:k ≠ i) (hf:QdI base sp [k,i] h)
 (hap:ok.apart ops oi=true) (haw:Away (ts k) (ts i)) (hr:RunL T call ops L base sp ts (k::i::l) env h envF hF):RunL T call ops L base sp ts (i::k::l) env h envF hF:=by
 obtain ⟨a1,a2,a3⟩:=Oper.apart_spec hap;cases hr with
 | @cons _ env1 _ _ h1 _ _ nk o _ ho hk hnk hr =>
 cases hr with
 | @cons _ env2 _ _ h2 _ _ ni o' _ ho' hi hni hr =>
 obtain rfl:ok=o:=by rw [hok] at ho;exact Option.some.inj ho
 obtain rfl:oi=o':=by rw [hoi] at ho';exact Option.some.inj ho'
 have dk:=Ex.doms hk;have di:=Ex.doms hi;obtain ⟨_,_,_,lk⟩:=Ex.local hk (Nat.le_refl _) h (fun _ _ _ _=>rfl) (fun _ _ _=>rfl);have fk:∀ id,base+k * sp <= id->id < base+(k+1) * sp->h.get id=none:=fun id=>hf k (by simp) id
 have fi:∀ id,base+i * sp <= id->id < base+(i+1) * sp->h.get id=none:=fun id=>hf i (by simp) id
 have rk:∀ id,base+k * sp <= id->id < nk->base+i * sp <= id->id < ni->False:=fun id q1 q2 q3 q4=>QdJ hne q1 (by omega) q3 (by omega)
 -- the touched numbers of k lie outside i's range
 have tk:∀ id w,(id,w) ∈ ts k -> ¬ (base+i * sp <= id /\ id < base+(i+1) * sp):=by
  intro id w hm ⟨q1,q2⟩;rcases dk.1 id w hm with h' | h'
  · simp [fi id q1 q2] at h'
  · exact QdJ hne h'.1 (by omega) q1 q2
 -- the touched numbers of i lie outside k's range
 have ti:∀ id w,(id,w) ∈ ts i -> ¬ (base+k * sp <= id /\ id < base+(k+1) * sp):=by
  intro id w hm ⟨q1,q2⟩;rcases di.1 id w hm with h' | h'
  · have:=dk.2 id (fk id q1 q2) h';have:=haw id true w this.2.2 hm;simp at this
  · exact QdJ hne q1 q2 h'.1 (by omega)
 -- i from the start
 obtain ⟨vk,_,ek1,_,_⟩:=Y7 call ops ok env env (fun _ _=>rfl) hk
 obtain ⟨vi,envA,ei1,ei2,ei3⟩:=Y7 call ops oi env1 env (fun t ht=>by
  rw [ek1];have:ok.dst ≠ some t:=fun hd=>a1 t hd ht;simp [this]) hi
 obtain ⟨hA,xi,xi1,xi2⟩:=Ex.local ei2 (Nat.le_refl _) h (fun id w hm hout=>by
  have hnt:(id,true) ∉ ts k:=fun hq=>by have:=haw id true w hq hm;simp at this
  by_cases hin:base+k * sp <= id /\ id < nk
  · exact (ti id w hm ⟨hin.1,by omega⟩).elim
  · exact ((lk id (by simp;omega)).2 hnt).2.symm) (fun id q1 q2=>by
  have hnt:(id,true) ∉ ts k:=fun hq=>tk id true hq ⟨q1,by omega⟩
  have hin:¬ (base+k * sp <= id /\ id < nk):=fun hq=>rk id hq.1 hq.2 q1 q2;exact ((lk id (by simp;omega)).2 hnt).2.symm)
 -- k behind it
 obtain ⟨vk',envB,ek1',ek2,ek3⟩:=Y7 call ops ok env envA (fun t ht=>by
  rw [ei3];have:oi.dst ≠ some t:=fun hd=>a3 t hd ht;simp [this]) hk
 obtain ⟨hB,xk,xk1,xk2⟩:=Ex.local ek2 (Nat.le_refl _) hA (fun id w hm hout=>by
  have hnt:(id,true) ∉ ts i:=fun hq=>by have:=haw id w true hm hq;simp at this
  have hin:¬ (base+i * sp <= id /\ id < ni):=fun hq=>tk id w hm ⟨hq.1,by omega⟩
  exact ((xi2 id (by simp;omega)).2 hnt).1) (fun id q1 q2=>by
  have hnt:(id,true) ∉ ts i:=fun hq=>ti id true hq ⟨q1,by omega⟩
  have hin:¬ (base+i * sp <= id /\ id < ni):=fun hq=>rk id q1 q2 hq.1 hq.2;exact ((xi2 id (by simp;omega)).2 hnt).1)
 refine .cons hoi xi hni (.cons hok xk hnk (hr.ext envB hB (fun t=>?_) fun id=>?_))
 · rw [ek3,ei3,ei1]
   by_cases hdi:oi.dst=some t
   · have hdk:ok.dst ≠ some t:=fun hd=>a2 t hd hdi;simp [hdi,hdk]
   · simp only [hdi,if_false]
     by_cases hdk:ok.dst=some t
     · have e1:=ek1 t;have e2:=ek1' t;simp only [hdk,if_true] at e1 e2 ⊢;rw [e2]
     · have e1:=ek1 t;simp only [hdk,if_false] at e1 ⊢;exact e1.symm
 · by_cases hink:base+k * sp <= id /\ id < nk
   · have hini:¬ (base+i * sp <= id /\ id < ni):=fun hq=>rk id hink.1 hink.2 hq.1 hq.2;have hnt:(id,true) ∉ ts i:=fun hq=>ti id true hq ⟨hink.1,by omega⟩
     rw [xk1 id hink.1 hink.2,((xi2 id (by simp;omega)).2 hnt).2]
   · have kk:=xk2 id (by simp;omega)
     by_cases hini:base+i * sp <= id /\ id < ni
     · have hnt:(id,true) ∉ ts k:=fun hq=>tk id true hq ⟨hini.1,by omega⟩
       rw [(kk.2 hnt).1,xi1 id hini.1 hini.2]
     · have ii:=xi2 id (by simp;omega)
       by_cases hmk:(id,true) ∈ ts k
       · have hnt:(id,true) ∉ ts i:=fun hq=>by have:=haw id true true hmk hq;simp at this
         rw [kk.1 hmk,(ii.2 hnt).2]
       · rw [(kk.2 hmk).1]
         by_cases hmi:(id,true) ∈ ts i
         · exact ii.1 hmi
         · rw [(ii.2 hmi).1,(ii.2 hmi).2,(kk.2 hmk).2]
theorem RunL.swap2 {k i:Nat} {l:List Nat} {env envF:Env C} {h hF:Heap C} {ok oi:Oper} (hok:ops[k]? = some ok) (hoi:ops[i]? = some oi)
 (hap:ok.apart ops oi=true) (hpr:(QbL ok=true /\ JA oi=true) \/ (JA ok=true /\ QbL oi=true)) (hr:RunL T call ops L base sp ts (k::i::l) env h envF hF):RunL T call ops L base sp ts (i::k::l) env h envF hF:=by
 obtain ⟨a1,a2,a3⟩:=Oper.apart_spec hap;cases hr with
 | @cons _ env1 _ _ h1 _ _ nk o _ ho hk hnk hr =>
 cases hr with
 | @cons _ env2 _ _ h2 _ _ ni o' _ ho' hi hni hr =>
 obtain rfl:ok=o:=by rw [hok] at ho;exact Option.some.inj ho
 obtain rfl:oi=o':=by rw [hoi] at ho';exact Option.some.inj ho'
 obtain ⟨vk,_,ek1,_,_⟩:=Y7 call ops ok env env (fun _ _=>rfl) hk
 obtain ⟨vi,envA,ei1,ei2,ei3⟩:=Y7 call ops oi env1 env (fun t ht=>by
  rw [ek1];have:ok.dst ≠ some t:=fun hd=>a1 t hd ht;simp [this]) hi
 obtain ⟨vk',envB,ek1',ek2,ek3⟩:=Y7 call ops ok env envA (fun t ht=>by
  rw [ei3];have:oi.dst ≠ some t:=fun hd=>a3 t hd ht;simp [this]) hk
 have henv:∀ t,eget envB t=eget env2 t:=fun t=>by
  rw [ek3,ei3,ei1]
  by_cases hdi:oi.dst=some t
  · have hdk:ok.dst ≠ some t:=fun hd=>a2 t hd hdi;simp [hdi,hdk]
  · simp only [hdi,if_false]
    by_cases hdk:ok.dst=some t
    · have e1:=ek1 t;have e2:=ek1' t;simp only [hdk,if_true] at e1 e2 ⊢;rw [e2]
    · have e1:=ek1 t;simp only [hdk,if_false] at e1 ⊢;exact e1.symm
 rcases hpr with ⟨p1,p2⟩ | ⟨p1,p2⟩
 · -- an address,then a store: the store first
   obtain ⟨rfl,rfl,_⟩:=(Qfp call ops p1 env).ex hk;have hs:=QaO call ops p2 ei2;obtain ⟨_,_,q⟩:=(Qfp call ops p1 envA).ex ek2;have xk:=q h2 (base+k * sp) hs;exact .cons hoi ei2 hni (.cons hok xk hnk (hr.ext envB h2 henv fun _=>rfl))
 · -- a store,then an address: the address first
   have hs:=QaO call ops p1 hk;obtain ⟨rfl,rfl,q⟩:=(Qfp call ops p2 env).ex ei2;have xi:=q h (base+i * sp) fun id=>(hs id).symm;exact .cons hoi xi hni (.cons hok ek2 hnk (hr.ext envB _ henv fun _=>rfl))
theorem RunL.first {i:Nat} {oi:Oper} (hoi:ops[i]? = some oi):∀ (pre post:List Nat) {env envF:Env C} {h hF:Heap C},(pre++i::post).Nodup->QdI base sp (pre++i::post) h ->
 (∀ k ∈ pre,∀ ok,ops[k]? = some ok->ok.apart ops oi=true /\ (Away (ts k) (ts i) \/ Qdz ops k i=true))->RunL T call ops L base sp ts (pre++i::post) env h envF hF->RunL T call ops L base sp ts (i::(pre++post)) env h envF hF:=by
 intro pre
 induction pre with
 | nil=>intro post env envF h hF hn hf ha hr;simpa using hr
 | cons k pre ih =>
  intro post env envF h hF hn hf ha hr;rw [List.cons_append] at hr hn hf;cases hr with
  | @cons _ env1 _ _ h1 _ _ nk ok _ hok hk hnk hr =>
  have hkn:=List.nodup_cons.1 hn;have hr':=ih post hkn.2 ((show QdI base sp (pre++i::post) h from fun j hj=>hf j (List.mem_cons_of_mem _ hj)).step hk hnk hkn.1) (fun j hj=>ha j (by simp [hj])) hr
  have hki:k ≠ i:=by rintro rfl;exact hkn.1 (by simp)
  obtain ⟨q1,q2⟩:=ha k (by simp) ok hok
  rcases q2 with q2 | q2
  · exact RunL.swap hok hoi hki (fun j hj=>hf j (by simp at hj;rcases hj with rfl | rfl <;> simp)) q1 q2 (.cons hok hk hnk hr')
  · unfold Qdz at q2;rw [hok,hoi] at q2;simp only [Bool.or_eq_true,Bool.and_eq_true] at q2;exact RunL.swap2 hok hoi q1 q2 (.cons hok hk hnk hr')
end
section
variable {C:Cdc} {P:Program} {T:Tab C}
open Pg (Ex)
theorem G.relim {X:Cx} {h:Heap C} {nx nx':Nat} {lim lim':Lim} (g:G T X h nx lim) (hh:∀ id,old nx lim id->old nx' lim' id) (hl:lim'.lo <= nx'):G T X h nx' lim' :=
 ⟨g.var,g.vec,g.map,g.ctl,g.dom,fun id o ho=>⟨hh id (g.nums id o ho).1,fun r hr=>hh r ((g.nums id o ho).2 r hr)⟩,g.apart,g.outer,g.outs,hl,g.pre⟩
theorem Qu.relim {X:Cx} {env env':Env C} {tmps:Array Value} {nx nx':Nat} {lim lim':Lim} (g:Qu T X nx lim env tmps) (hh:∀ id,old nx lim id->old nx' lim' id) (he:∀ t,eget env' t=eget env t):Qu T X nx' lim' env' tmps :=
 fun t=>by rw [he];exact ⟨(g t).1,fun id hi=>hh id ((g t).2 id hi)⟩
theorem Step.relim {X X':Cx} {nx nx':Nat} {lim lim':Lim} (s:Step X nx lim X') (hh:∀ id,old nx' lim' id->old nx lim id):Step X nx' lim' X' :=
 ⟨s.O,s.os,s.tape,s.output,s.size,fun id ho=>s.ρ id (hh id ho),s.mine,s.cell,s.block,s.frz⟩
variable {call:FuncId->List (D C)->Pg C (D C)} {ops:Array Oper} {L base sp:Nat}
theorem RunL.congr {ts ts':Nat->Tr} {l:List Nat} {env envF:Env C} {h hF:Heap C} (hr:RunL T call ops L base sp ts l env h envF hF):(∀ j ∈ l,ts' j=ts j)->RunL T call ops L base sp ts' l env h envF hF:=by
 induction hr with
 | nil h1 h2=>intro _;exact .nil h1 h2
 | cons ho hx hn _ ih=>intro hh;exact .cons ho (by rw [hh _ (by simp)];exact hx) hn (ih fun j hj=>hh j (by simp [hj]))
theorem QbC:∀ (l:List Oper) (i:Nat),ops.toList.drop i=l -> ∀ {e:Pg.Lv} {env envF:Env C} {h hF:Heap C} {n nF:Nat} {tr:Tr} {acc:List (Nat × Tr)},Ex e (QbM T call ops base sp i l env acc) h n envF hF nF tr ->
 n <= base+i * sp /\ ∃ ts accF,RunL T call ops (e.1+1) base sp ts (List.range' i l.length) env h envF hF /\ nF=base+(i+l.length) * sp /\ QcC ops accF=true /\ (∀ p ∈ acc,p ∈ accF) /\ ∀ j,i <= j->j < i+l.length->ts j=[] \/ (j,ts j) ∈ accF:=by
 intro l
 induction l with
 | nil =>
  intro i hl e env envF h hF n nF tr acc hx;simp only [QbM] at hx;obtain ⟨hm,hx⟩:=Ex.upto hx;rcases Ex.br hx with ⟨hb,hx⟩ | ⟨hb,hx⟩
  · obtain ⟨rfl,rfl,rfl,rfl⟩:=Ex.ret hx;exact ⟨hm,fun _=>[],acc,.nil (fun _=>rfl) (fun _=>rfl),by simp,hb,fun p hp=>hp,fun j h1 h2=>by simp at h2;omega⟩
  · exact (Ex.fail hx).elim
 | cons o l ih =>
  intro i hl e env envF h hF n nF tr acc hx;simp only [QbM] at hx;obtain ⟨hm,hx⟩:=Ex.upto hx;obtain ⟨env1,h1,n1,t1,t2,q1,q2,_⟩:=Ex.sub hx
  have hlt:i < ops.toList.length:=by
   rcases Nat.lt_or_ge i ops.toList.length with h | h
   · exact h
   · rw [List.drop_eq_nil_of_le h] at hl;simp at hl
  have hlo:ops.toList[i]? = some o:=by
   rw [List.drop_eq_getElem_cons hlt] at hl;rw [List.getElem?_eq_getElem hlt,(List.cons.inj hl).1]
  have hio:ops[i]? = some o:=by rw [<- Array.getElem?_toList];exact hlo
  have hl2:ops.toList.drop (i+1)=l:=by
   rw [List.drop_eq_getElem_cons hlt] at hl;exact (List.cons.inj hl).2
  obtain ⟨k0,ts,accF,k1,k2,k3,k4,k5⟩:=ih (i+1) hl2 q2;refine ⟨hm,fun j=>if j=i then t1 else ts j,accF,?_,by rw [k2,List.length_cons,Nat.add_right_comm i 1 l.length];rfl,k3,?_,?_⟩
  · rw [List.length_cons,List.range'_succ];refine .cons hio (by simpa using q1) k0 (k1.congr fun j hj=>?_)
    have:=List.mem_range'_1.1 hj;have hne:¬ j=i:=by omega
    simp [hne]
  · intro p hp;refine k4 p ?_
    split
    · exact hp
    · simp [hp]
  · intro j hj1 hj2
    by_cases hj:j=i
    · subst hj;simp only [if_true];cases t1 with
      | nil=>exact .inl rfl
      | cons x t1=>exact .inr (k4 _ (by simp))
    · simp only [hj,if_false];exact k5 j (by omega) (by simp at hj2;omega)
theorem QdK {accF:List (Nat × Tr)} (h:QcC ops accF=true) {a b:Nat × Tr} (ha:a ∈ accF) (hb:b ∈ accF) (hlt:a.1 < b.1) (hn:¬ Bef ops a.1 b.1):Away a.2 b.2 \/ Qdz ops a.1 b.1=true:=by
 simp only [QcC,List.all_eq_true] at h;have:=h a ha b hb;simp only [Bool.or_eq_true,Bool.not_eq_true'] at this;rcases this with ((h1 | h1) | h1) | h1
 · exact .inl (Qfo h1)
 · have h2:Nat.blt a.1 b.1=true:=by rw [Nat.blt_eq];exact hlt
   rw [h2] at h1;cases h1
 · exact (hn h1).elim
 · exact .inr h1
structure Qj2 (ops:Array Oper):Prop where
 edges:∀ i o,ops[i]? = some o -> ∀ e ∈ o.after,Region.binds .any e=true->e.on < i
 apart:∀ i j oi oj,i < j->ops[i]? = some oi->ops[j]? = some oj->Bef ops i j \/ oi.apart ops oj=true
def HR (base sp N:Nat) (lim:Lim) (rest:List Nat) (id:Nat):Prop:=lim.H id \/ (base+N * sp <= id /\ id < lim.top) \/ ∃ j ∈ rest,base+j * sp <= id /\ id < base+(j+1) * sp
def limR (base sp N:Nat) (lim:Lim) (rest:List Nat):Lim:=⟨base,base,HR base sp N lim rest,fun id h1 h2=>by omega⟩
theorem Jc {N:Nat} {lim:Lim} {rest:List Nat} {id:Nat}:old base (limR base sp N lim rest) id ↔ ¬ HR base sp N lim rest id:=by
 unfold old limR;simp only;constructor
 · exact fun h=>h.2
 · exact fun h=>⟨by omega,h⟩
theorem QdL {listed:Array Bool} {j:Nat} (h:j < listed.size):listed.getD j true=listed.getD j false:=by simp [Array.getD_eq_getD_getElem?,h]
variable (K:QX P T)
include K
theorem Qpb {ro:Option Nat} {m:Nat} (hcall:JX P T call) {B:Nat->Bool} (hB:∀ o ∈ ops.toList,∀ t,o.dst=some t->B t=false) (hd:Qj2 ops) {ts:Nat->Tr} {lim:Lim} {envF:Env C} {hF:Heap C} (haw:∀ i j,i < j->j < ops.size -> ¬ Bef ops i j->Away (ts i) (ts j) \/ Qdz ops i j=true) (hlo:lim.lo <= base) (htop:base+ops.size * sp <= lim.top) {Q:Exit->Act->World->Prop} :
 ∀ (fuel:Nat) (rest:List Nat) (listed:Array Bool) (env:Env C) (h:Heap C) (X:Cx) (a:Act),rest.length <= fuel->rest.Pairwise (· < ·)->listed.size=ops.size->(∀ j,j ∈ rest ↔ j < ops.size /\ listed.getD j true=false) ->
  (∀ j o,listed.getD j false=true->ops[j]? = some o -> ∀ e ∈ o.after,Region.binds .any e=true->listed.getD e.on false=true)->RunL T call ops L base sp ts rest env h envF hF->QdI base sp rest h ->
  G T X h base (limR base sp ops.size lim rest)->Qu T X base (limR base sp ops.size lim rest) env a.tmps->(∀ o ∈ ops.toList,∀ t,o.dst=some t->t < a.tmps.size) ->
  (∀ a' X',G T X' hF (base+ops.size * sp) lim->Step X base lim X'->Qu T X' (base+ops.size * sp) lim envF a'.tmps->a'.tmps.size=a.tmps.size->a'.defers=a.defers->Kp B a.tmps a'.tmps->Q .normal a' X'.w) ->
  wpAnyIn (roF ro) m P .any ops Q fuel listed a X.w:=by
 intro fuel
 induction fuel with
 | zero =>
  intro rest listed env h X a hlen hsort hsz hmem hcl hr hf g he hb hk;obtain rfl:rest=[]:=List.length_eq_zero_iff.1 (by omega)
  refine ⟨?_,?_⟩
  · cases hq:Region.ready .any ops listed with
    | nil=>rfl
    | cons j _ =>
     have:j ∈ Region.ready .any ops listed:=by simp [hq]
     obtain ⟨h1,o,h2,_⟩:=mem_ready.1 this;have:=(hmem j).2 ⟨(Array.getElem?_eq_some_iff.1 h2).1,h1⟩;simp at this
  · cases hr with
    | nil e1 e2 =>
     have hold:∀ id,old base (limR base sp ops.size lim []) id->old (base+ops.size * sp) lim id:=by
      intro id ho;rw [Jc] at ho;unfold HR at ho;simp only [List.not_mem_nil,false_and,exists_false,or_false,not_or] at ho;exact ⟨by omega,ho.1⟩
     exact hk a X ((g.congr fun id=>(e2 id).symm).relim hold (by omega)) (.refl _ _ _) (he.relim hold fun t=>(e1 t).symm) rfl rfl (.refl _ _)
 | succ fuel ih =>
  intro rest listed env h X a hlen hsort hsz hmem hcl hr hf g he hb hk;refine ⟨fun hnil=>?_,fun i hi=>?_⟩
  · cases rest with
    | nil =>
     cases hr with
     | nil e1 e2 =>
      have hold:∀ id,old base (limR base sp ops.size lim []) id->old (base+ops.size * sp) lim id:=by
       intro id ho;rw [Jc] at ho;unfold HR at ho;simp only [List.not_mem_nil,false_and,exists_false,or_false,not_or] at ho;exact ⟨by omega,ho.1⟩
      exact hk a X ((g.congr fun id=>(e2 id).symm).relim hold (by omega)) (.refl _ _ _) (he.relim hold fun t=>(e1 t).symm) rfl rfl (.refl _ _)
    | cons r rest =>
     exfalso;have hr0:=(hmem r).1 (by simp)
     have:r ∈ Region.ready .any ops listed:=by
      rw [mem_ready];refine ⟨hr0.2,ops[r]'hr0.1,by simp [hr0.1],fun e hee hbb=>?_⟩
      have hlt:=hd.edges r _ (by simp [hr0.1]) e hee hbb
      cases hq:listed.getD e.on false with
      | true=>rfl
      | false =>
       have hm:=(hmem e.on).2 ⟨by omega,by rw [QdL (by omega)];exact hq⟩
       simp only [List.mem_cons] at hm;rcases hm with hm | hm
       · omega
       · have:=(List.pairwise_cons.1 hsort).1 _ hm;omega
     rw [hnil] at this;simp at this
  · obtain ⟨hl,oi,hoi,hedges⟩:=mem_ready.1 hi;have hiN:i < ops.size:=(Array.getElem?_eq_some_iff.1 hoi).1;have hir:=(hmem i).2 ⟨hiN,hl⟩;obtain ⟨pre,post,rfl⟩:=List.append_of_mem hir;have hnd:(pre++i::post).Nodup:=hsort.imp fun {x y} (hxy:x < y)=>by omega
    have hpre:∀ k ∈ pre,k < i:=fun k hk=>(List.pairwise_append.1 hsort).2.2 k hk i (by simp)
    have hr':=RunL.first hoi pre post hnd hf (fun k hk ok hok=>by
     have hlt:=hpre k hk
     have hnb:¬ Bef ops k i:=fun hbef=>by
      have hlk:=Bef.listed (ops:=ops) (L:=fun j=>listed.getD j false=true) (fun j o h1 h2 e h3 h4=>hcl j o h1 h2 e h3 h4) i k hbef (fun o ho e h1 h2=>by
       rw [hoi] at ho;obtain rfl:=Option.some.inj ho;exact hedges e h1 h2)
      have hk2:=(hmem k).1 (by simp [hk])
      rw [QdL (by omega)] at hk2
      rw [hk2.2] at hlk;cases hlk
     exact ⟨(hd.apart k i ok oi hlt hok hoi).resolve_left hnb,haw k i hlt hiN hnb⟩) hr
    cases hr' with
    | @cons _ env1 _ _ h1 _ _ n o _ ho hx hn hrun =>
    obtain rfl:oi=o:=by rw [hoi] at ho;exact Option.some.inj ho
    have hni:i ∉ pre++post:=by
     intro hm;rw [List.nodup_append] at hnd;simp only [List.mem_append] at hm;rcases hm with hm | hm
     · exact hnd.2.2 i hm i (by simp) rfl
     · exact (List.nodup_cons.1 hnd.2.1).1 hm
    have hbnd:∀ j,j < ops.size->base+(j+1) * sp <= base+ops.size * sp:=fun j hj=>by
     have:(j+1) * sp <= ops.size * sp:=Nat.mul_le_mul_right _ hj;omega
    have hrest:∀ j,j ∈ pre++post->j < ops.size:=fun j hj=>((hmem j).1 (by simp at hj ⊢;rcases hj with hj | hj <;> simp [hj])).1
    let limi:Lim:=⟨base+i * sp,base+(i+1) * sp,HR base sp ops.size lim (pre++post),fun id q1 q2=>by
     have hb1:=hbnd i hiN
     rintro (q3 | q3 | ⟨j,q3,q4,q5⟩)
     · exact lim.ok id (by omega) (by omega) q3
     · omega
     · exact QdJ (i:=i) (k:=j) (by rintro rfl;exact hni q3) q1 q2 q4 q5⟩
    have ho1:∀ id,old base (limR base sp ops.size lim (pre++i::post)) id->old (base+i * sp) limi id:=by
     intro id hid;rw [Jc] at hid;unfold HR at hid;simp only [not_or,not_exists,not_and] at hid;refine ⟨?_,?_⟩
     · have:=hid.2.2 i (by simp)
       show id < base+i * sp \/ base+(i+1) * sp <= id;omega
     · rintro (q3 | q3 | ⟨j,q3,q4,q5⟩)
       · exact hid.1 q3
       · exact hid.2.1 q3.1 q3.2
       · exact hid.2.2 j (by simp at q3 ⊢;rcases q3 with q3 | q3 <;> simp [q3]) q4 q5
    have ho2:∀ id,old n limi id->old base (limR base sp ops.size lim (pre++post)) id:=fun id hid=>Jc.2 hid.2
    have ho3:∀ id,old base lim id->old (base+i * sp) limi id:=by
     intro id hid;have hb1:=hbnd i hiN;have hc:=hid.1;refine ⟨?_,?_⟩
     · show id < base+i * sp \/ base+(i+1) * sp <= id;rcases hc with hc | hc
       · exact .inl (by omega)
       · exact .inr (by omega)
     · rintro (q3 | q3 | ⟨j,q3,q4,q5⟩)
       · exact hid.2 q3
       · rcases hc with hc | hc
         · have:base <= base+ops.size * sp:=Nat.le_add_right _ _;omega
         · omega
       · have:=hbnd j (hrest j q3);rcases hc with hc | hc
         · have:base <= base+j * sp:=Nat.le_add_right _ _;omega
         · omega
    refine Qgs K hcall (g.relim ho1 (Nat.le_refl _)) (he.relim ho1 fun _=>rfl) (lim:=limi) hn hoi (fun t ht=>hb oi (List.mem_of_getElem? (by rw [Array.getElem?_toList];exact hoi)) t ht) (fun t ht=>hB oi (List.mem_of_getElem? (by rw [Array.getElem?_toList];exact hoi)) t ht) hx fun a' X' g' s' e' hs hdf hkp=>?_
    have hsl:(pre++post).Sublist (pre++i::post):=List.Sublist.append_left (List.sublist_cons_self _ _) _
    refine ih (pre++post) (listed.setIfInBounds i true) env1 h1 X' a' (by simp at hlen ⊢;omega) (hsort.sublist hsl) (by simp [hsz]) (fun j=>?_) (fun j o hj hoj e h3 h4=>?_) hrun
     ((show QdI base sp (pre++post) h from fun j hj=>hf j (hsl.subset hj)).step hx hn hni) (g'.relim ho2 (Nat.le_refl _)) (e'.relim ho2 fun _=>rfl) (fun o ho t ht=>by rw [hs];exact hb o ho t ht) fun a2 X2 g2 s2 e2 hs2 hd2 hkp2=>?_
    · by_cases hji:j=i
      · subst hji;simp only [hni,false_iff,not_and];intro _;simp [hsz,hiN]
      · rw [getD_set_ne true (Ne.symm hji),<- hmem j];simp [hji]
    · by_cases hji:j=i
      · subst hji;rw [hoi] at hoj;obtain rfl:=Option.some.inj hoj;exact getD_set_true (hedges e h3 h4)
      · rw [getD_set_ne false (Ne.symm hji)] at hj;exact getD_set_true (hcl j o hj hoj e h3 h4)
    · exact hk a2 X2 g2 ((s'.relim ho3).trans s2 (Nat.le_refl _)) e2 (by omega) (by rw [hd2,hdf]) (hkp.trans hkp2)
theorem Qsf {ro:Option Nat} {m:Nat} {X:Cx} {h h':Heap C} {nx nx':Nat} {e:Pg.Lv} {lim:Lim} {tr:Tr} {env env':Env C} {a:Act} (hcall:JX P T call) {B:Nat->Bool} (hB:∀ o ∈ ops.toList,∀ t,o.dst=some t->B t=false) (hm:P.follows .mixedOrders=true) (hd:Qj2 ops) (g:G T X h nx lim) (he:Qu T X nx lim env a.tmps)
 (hlim:nx' <= lim.top) (hb:∀ o ∈ ops.toList,∀ t,o.dst=some t->t < a.tmps.size) (hx:Ex e (QbM T call ops nx sp 0 ops.toList env []) h nx env' h' nx' tr) {id:Nat} {Q:Exit->Act->World->Prop}
 (hk:∀ a' X',G T X' h' nx' lim->Step X nx lim X'->Qu T X' nx' lim env' a'.tmps->a'.tmps.size=a.tmps.size->a'.defers=a.defers->Kp B a.tmps a'.tmps->Q .normal a' X'.w):(Code.region id ops true).wpIn (roF ro) m P Q a X.w:=by
 obtain ⟨_,ts,accF,k1,k2,k3,_,k5⟩:=QbC ops.toList 0 rfl hx;simp only [Nat.zero_add,Array.length_toList] at k1 k2 k5;subst k2;obtain ⟨gw,sw⟩:=g.world K.base { X.w with drawn:=X.w.drawn+1 } rfl rfl rfl rfl;refine wpIn_region_any hm ?_
 have hold:∀ i,old nx lim i->old nx (limR nx sp ops.size lim (List.range' 0 ops.size)) i:=by
  intro i hi;rw [Jc];have hc:=hi.1;have h0:nx <= nx+ops.size * sp:=Nat.le_add_right _ _
  rintro (q3 | q3 | ⟨j,q3,q4,q5⟩)
  · exact hi.2 q3
  · omega
  · have hj:=(List.mem_range'_1.1 q3).2;have:(j+1) * sp <= ops.size * sp:=Nat.mul_le_mul_right _ (by omega)
    have:nx <= nx+j * sp:=Nat.le_add_right _ _;omega
 refine Qpb K hcall hB hd (ts:=ts) (fun i j hij hj hn=>?_) g.low hlim ops.size (List.range' 0 ops.size) _ env h ⟨{ X.w with drawn:=X.w.drawn+1 },X.ρ,X.O⟩ a (by simp) (List.pairwise_lt_range') (by simp) (fun j=>?_) (fun j o hj=>?_) k1 ?_
  (gw.relim hold (Nat.le_refl _)) ((he.step K.base sw (Nat.le_refl _)).relim hold fun _=>rfl) hb fun a' X' g' s' e' hs hdf hkp=>?_
 · rcases k5 i (by omega) (by omega) with h1 | h1
   · rw [h1];refine .inl ?_;intro _ _ _ hm;simp at hm
   · rcases k5 j (by omega) hj with h2 | h2
     · rw [h2];refine .inl ?_;intro _ _ _ _ hm;simp at hm
     · exact QdK k3 h1 h2 hij hn
 · simp only [List.mem_range'_1,Nat.zero_add,Nat.zero_le,true_and];constructor
   · intro h;simp [Array.getD_eq_getD_getElem?,h]
   · exact fun h=>h.1
 · exfalso
   by_cases hjn:j < ops.size
   · simp [Array.getD_eq_getD_getElem?,hjn] at hj
   · simp [Array.getD_eq_getD_getElem?,hjn] at hj
 · intro j hj i q1 q2;cases hg:h.get i with
   | none=>rfl
   | some o =>
    exfalso;have:=hold i (g.nums i o hg).1;rw [Jc] at this;exact this (.inr (.inr ⟨j,hj,q1,q2⟩))
 · exact hk a' X' g' (sw.trans s' (Nat.le_refl _)) e' hs hdf hkp
end
section
variable {C:Cdc} {P:Program} {T:Tab C}
open Pg (Ex)
variable (K:QX P T)
def resM (tmps:Array Value):ResultVar->Sem Value
 | .tmp t=>pure (tmps.getD t undef)
 | .cell a t=>do loadVar t (<- asAddr (tmps.getD a undef))
theorem Qfr {t:TypeId} {va v:Value} {w:World} (h:(Instr.loadAt t va).run P w=.ok v w):(do loadVar t (<- asAddr va):Sem Value).run P w=.ok v w:=by
 unfold Instr.loadAt Instr.sureAddr at h
 split at h
 · simpa [asAddr] using h
 · simp [stuck] at h
include K in
theorem Qia {X:Cx} {h:Heap C} {nx:Nat} {lim:Lim} {env:Env C} {tmps:Array Value} (g:G T X h nx lim) (he:Qu T X nx lim env tmps):∀ (rs:List ResultVar) {e:Pg.Lv} {l:List (D C)} {h':Heap C} {nx':Nat} {tr:Tr},
 Ex e (JC T env rs) h nx l h' nx' tr->h'=h /\ nx'=nx /\ ∃ vs,(rs.mapM (resM tmps)).run P X.w=.ok vs X.w /\ RVs T X l vs /\ ∀ d ∈ l,∀ id ∈ D.refs d,old nx lim id:=by
 intro rs
 induction rs with
 | nil =>
  intro e l h' nx' tr hx;obtain ⟨rfl,rfl,rfl,rfl⟩:=Ex.ret hx;exact ⟨rfl,rfl,[],by simp,.nil,by simp⟩
 | cons r rs ih =>
  intro e l h' nx' tr hx;cases r with
  | tmp t =>
   simp only [JC] at hx;obtain ⟨l1,h1,n1,t1,t2,q1,hx,_⟩:=Ex.bind hx;obtain ⟨rfl,rfl,rfl,rfl⟩:=Ex.ret hx;obtain ⟨rfl,rfl,vs,a1,a2,a3⟩:=ih q1;refine ⟨rfl,rfl,tmps.getD t undef::vs,by simp only [List.mapM_cons,resM,Sem.run_bind,Sem.run_pure,Result.andThen_ok,a1],.cons (he t).1 a2,?_⟩
   intro d hd;simp only [List.mem_cons] at hd;rcases hd with rfl | hd
   · exact (he t).2
   · exact a3 d hd
  | cell a t =>
   simp only [JC] at hx;obtain ⟨d1,h1,n1,t1,t2,q1,hy,_⟩:=Ex.bind hx;obtain ⟨v,k1,e1,e2,k2⟩:=QdB K g (he a) q1;subst e1;subst e2;obtain ⟨l1,h2,n2,t3,t4,q2,hz,_⟩:=Ex.bind hy;obtain ⟨rfl,rfl,rfl,rfl⟩:=Ex.ret hz;obtain ⟨rfl,rfl,vs,a1,a2,a3⟩:=ih q2;refine ⟨rfl,rfl,v::vs,by simp only [List.mapM_cons,resM,Sem.run_bind,Sem.run_pure,Result.andThen_ok,a1];rw [<- Sem.run_bind,Qfr k1];simp [a1],.cons k2.1 a2,?_⟩
   intro d hd;simp only [List.mem_cons] at hd;rcases hd with rfl | hd
   · exact k2.2
   · exact a3 d hd
end
section
variable {C:Cdc} {P:Program}
theorem R.monoE (T:Tab C) (L:Laws T) {X X':Cx} (hX:∀ b o v,X.w.cell? ⟨b,o,none⟩=some v->X.free b o->X'.w.cell? ⟨b,o,none⟩=some v /\ X'.free b o) {m:Bool} {d:D C} {vs:List Value} (h:R T X m d vs) (hd:d.refs=[] /\ d.noYl=true):R T X' m d vs :=
 h.monoG T (y:=false) L.encOK hX (fun h=>by cases h) (by rw [hd.1];simp) (.inr hd.2)
theorem RV.monoE (T:Tab C) (L:Laws T) {X X':Cx} (hX:∀ b o v,X.w.cell? ⟨b,o,none⟩=some v->X.free b o->X'.w.cell? ⟨b,o,none⟩=some v /\ X'.free b o) {d:D C} {v:Value} (h:RV T X d v) (hd:d.refs=[] /\ d.noYl=true):RV T X' d v:=by
 rcases h with ⟨h1,cs,h2,h3⟩ | ⟨h1,h2⟩
 · exact .inl ⟨h1,cs,h2.monoE T L hX hd,h3⟩
 · exact .inr ⟨h1,h2.monoE T L hX hd⟩
theorem Zr.move {T:Tab C} (L:Laws T) {X X':Cx} (hX:∀ b o v,X.w.cell? ⟨b,o,none⟩=some v->X.free b o->X'.w.cell? ⟨b,o,none⟩=some v /\ X'.free b o) {ck cv:C.Ty} {l:List (C.A ck × C.A cv)} {es:List MapEntry} (h:Zr T X ck cv l es):Zr T X' ck cv l es:=by
 induction h with
 | nil=>exact .nil
 | cons hk hv _ ih=>exact .cons (hk.monoE T L hX (L.encOK _ _)) (hv.monoE T L hX (L.encOK _ _)) ih
theorem Y0.move {T:Tab C} (L:Laws T) {X X':Cx} (hX:∀ b o v,X.w.cell? ⟨b,o,none⟩=some v->X.free b o->X'.w.cell? ⟨b,o,none⟩=some v /\ X'.free b o) {ck cv:C.Ty} {l:List (C.A ck × C.A cv)} {es:Array MapEntry} {k:Nat} (h:Y0 T X ck cv l es k):Y0 T X' ck cv l es k :=
 ⟨h.ents.move L hX,h.born,h.nodup⟩
theorem QcD.move {T:Tab C} (L:Laws T) {X X':Cx} {cc:Ctl C} {s:CtlL} (h:QcD T X cc s) (hX:∀ b o v,X.w.cell? ⟨b,o,none⟩=some v->X.free b o->X'.w.cell? ⟨b,o,none⟩=some v /\ X'.free b o)
 (hb:∀ b,s.owns b->X'.w.heap[b]? = X.w.heap[b]?):QcD T X' cc s:=by
 cases cc with
 | lp busy dn ex =>
  cases s with
  | lp b rec=>obtain ⟨pend,h3,h4⟩:=h;exact ⟨pend,(hb b rfl).trans h3,h4⟩
  | it bm r=>exact h.elim
 | it ck cv l =>
  cases s with
  | lp b rec=>exact h.elim
  | it bm r =>
   obtain ⟨hne,es,si,se,k,h3,h4,h5,h6⟩:=h;exact ⟨hne,es,si,se,k,(hb bm (.inl rfl)).trans h3,(hb r (.inr rfl)).trans h4,h5.move L hX,h6⟩
variable {T:Tab C}
theorem ZZ.move (L:Laws T) {X X':Cx} {t:C.Ty} {own:Bool} {l:List (C.A t)} {v:Value} {b lo hi:Nat} (h:ZZ T X t own l v b lo hi)
 (hX:∀ b o v,X.w.cell? ⟨b,o,none⟩=some v->X.free b o->X'.w.cell? ⟨b,o,none⟩=some v /\ X'.free b o)
 (hb:(∃ o,(Loc.vec v (T.ety t) b lo hi).owns b o)->X'.w.heap[b]? = X.w.heap[b]?) (hpos:0 < T.size (T.ety t)):ZZ T X' t own l v b lo hi:=by
 have hR:∀ cs,R T X false (.arr t l.length l) cs->R T X' false (.arr t l.length l) cs:=fun cs hr=>hr.monoE T L hX ⟨rfl,rfl⟩;rcases h with h2 | ⟨off,cp,h2,h3,h4,h5⟩
 · exact .inl h2
 · refine .inr ⟨off,cp,h2,h3,h4,?_⟩;rcases h5 with ⟨ht,hlo,h5 | ⟨cs,e,h5,h6,h7⟩⟩ | ⟨ht,hlo,⟨cs,h5,h6⟩,h7⟩
   · exact .inl ⟨ht,hlo,.inl h5⟩
   · by_cases hc:cp=0
     · exact .inl ⟨ht,hlo,.inl hc⟩
     · have hm:T.size (T.ety t) <= cp * T.size (T.ety t):=Nat.le_mul_of_pos_left _ (by omega)
       have e1:=hb ⟨off,rfl,by omega,by omega⟩
       exact .inl ⟨ht,hlo,.inr ⟨cs,e,by rw [e1];exact h5,h6,hR _ h7⟩⟩
   · refine .inr ⟨ht,hlo,⟨cs,fun j u hj=>hX _ _ _ (h5 j u hj).1 (h5 j u hj).2,hR _ h6⟩,?_⟩;rcases h7 with h7 | ⟨c0,e,h7,h8⟩
     · exact .inl h7
     · by_cases hc:cp=l.length
       · exact .inl hc
       · have hm:(l.length+1) * T.size (T.ety t) <= cp * T.size (T.ety t):=Nat.mul_le_mul_right _ (by omega)
         have e1:=hb ⟨lo,rfl,by omega,by rw [Nat.succ_mul] at hm;omega⟩
         exact .inr ⟨c0,e,by rw [e1];exact h7,h8⟩
theorem Laws.posE (L:Laws T) (t:C.Ty):0 < T.size (T.ety t):=by
 refine L.pos _ fun hn=>?_;have:=L.encFit t (T.dflt t)
 revert this
 cases T.enc t (T.dflt t) <;> simp [fit,hn]
theorem YN {w w':World} {a:Addr} (h:w'.heap[a.block]? = w.heap[a.block]?):w'.cell? a=w.cell? a:=by unfold World.cell?;rw [h]
theorem ZR {w w':World} {a:Addr} (h:w'.heap[a.block]? = w.heap[a.block]?):w'.frozen? a=w.frozen? a:=by unfold World.frozen?;rw [h]
structure QbD (X:Cx) (r:Nat) (w':World):Prop where
 size:w'.heap.size=X.w.heap.size
 block:∀ b,b ≠ r->w'.heap[b]? = X.w.heap[b]?
 mine:∀ o,¬ X.mine r o
 nocell:∀ c t f,X.w.heap[r]? ≠ some (.cells c t f)
 os:w'.os=X.w.os
 tape:w'.tape=X.w.tape
 output:w'.output=X.w.output
theorem QbD.cell {X:Cx} {r:Nat} {w':World} (t:QbD X r w'):∀ b o v,X.w.cell? ⟨b,o,none⟩=some v->X.free b o->(⟨w',X.ρ,X.O⟩:Cx).w.cell? ⟨b,o,none⟩=some v /\ (⟨w',X.ρ,X.O⟩:Cx).free b o:=by
 intro b o v hc hf;refine ⟨?_,hf⟩
 have hb:b ≠ r:=by
  rintro rfl
  unfold World.cell? at hc;cases hh:X.w.heap[b]? with
  | none=>simp [hh] at hc
  | some ob=>cases ob <;> simp [hh] at hc;exact absurd hh (t.nocell _ _ _)
 rw [show (⟨w',X.ρ,X.O⟩:Cx).w=w' from rfl,YN (t.block b hb)];exact hc
theorem QaP {X:Cx} {r:Nat} {o o':Go.Obj} (ho:X.w.heap[r]? = some o) (hn:∀ c t f,o ≠ .cells c t f) (hm:∀ q,¬ X.mine r q):QbD X r (X.w.putObj r o') :=
 ⟨World.putObj_size,fun b hb=>World.putObj_heap_other hb,hm,fun c t f h=>by rw [ho] at h;exact hn c t f (Option.some.inj h),rfl,rfl,rfl⟩
theorem RO.turn (L:Laws T) {X:Cx} {r:Nat} {w':World} (t:QbD X r w') {nx:Nat} {lim:Lim} {d:D C} {v:Value} (h:RO T X nx lim d v) (hy:d.noYl=true):RO T ⟨w',X.ρ,X.O⟩ nx lim d v:=by
 refine ⟨?_,h.2⟩;have one:∀ m cs,R T X m d cs->R T ⟨w',X.ρ,X.O⟩ m d cs:=fun m cs hr=>hr.monoG T (y:=false) L.encOK t.cell (fun h=>by cases h) (fun id _=>Qd.refl _) (.inr hy)
 rcases h.1 with ⟨h1,cs,h2,h3⟩ | ⟨h1,h2⟩
 · exact .inl ⟨h1,cs,one _ _ h2,h3⟩
 · exact .inr ⟨h1,one _ _ h2⟩
theorem G.turn (L:Laws T) {X:Cx} {h:Heap C} {nx:Nat} {lim:Lim} (g:G T X h nx lim) {r:Nat} {w':World} (t:QbD X r w'):G T ⟨w',X.ρ,X.O⟩ h nx lim where
 var id u d hg:=by
  obtain ⟨b,c,e1,e2,e3,e4⟩:=g.var id u d hg;have hb:b ≠ r:=by rintro rfl;exact t.mine 0 ⟨id,_,e1,rfl⟩
  exact ⟨b,c,e1,(t.block b hb).trans e2,e3.monoG T (y:=false) L.encOK t.cell (fun h=>by cases h) (fun id _=>Qd.refl _) (.inr (Yx _ _ e4)),e4⟩
 vec id u own l hg:=by
  obtain ⟨v,b,lo,hi,e1,e2⟩:=g.vec id u own l hg;refine ⟨v,b,lo,hi,e1,e2.move L t.cell (fun ⟨o,ho⟩=>?_) (L.posE u)⟩;have hb:b ≠ r:=by rintro rfl;exact t.mine o ⟨id,_,e1,ho⟩
  exact t.block b hb
 map id ck cv l hg:=by
  obtain ⟨b,es,k,e1,e2,e3⟩:=g.map id ck cv l hg;have hb:b ≠ r:=by rintro rfl;exact t.mine 0 ⟨id,_,e1,rfl⟩
  exact ⟨b,es,k,e1,(t.block b hb).trans e2,e3.move L t.cell⟩
 ctl id cc hg:=by
  obtain ⟨s,e1,e2⟩:=g.ctl id cc hg;refine ⟨s,e1,e2.move L t.cell fun b hb=>t.block b ?_⟩
  rintro rfl
  exact t.mine 0 ⟨id,_,e1,hb⟩
 dom:=g.dom
 nums:=g.nums
 apart:=g.apart
 outer b o hm:=by rw [t.size];exact g.outer b o hm
 outs b o ho:=by rw [t.size];exact g.outs b o ho
 low:=g.low
 pre p hp:=by
  obtain ⟨⟨u,f,h1⟩,h2⟩:=g.pre p hp
  have hb:p.1 ≠ r:=by
   intro e;rw [e] at h1;exact t.nocell _ _ _ h1
  exact ⟨⟨u,f,(t.block _ hb).trans h1⟩,h2⟩
theorem Step.turn {X0 X:Cx} {nx:Nat} {lim:Lim} (s:Step X0 nx lim X) {r:Nat} {w':World} (t:QbD X r w') (hr:X0.w.heap.size <= r):Step X0 nx lim ⟨w',X.ρ,X.O⟩ where
 O:=s.O
 os:=t.os.trans s.os
 tape:=t.tape.trans s.tape
 output:=t.output.trans s.output
 size:=by rw [t.size];exact s.size
 ρ:=s.ρ
 mine:=s.mine
 cell b o hb hm:=(YN (t.block b (by omega))).trans (s.cell b o hb hm)
 block b hb hm:=(t.block b (by omega)).trans (s.block b hb hm)
 frz a ha:=(ZR (t.block a.block (by omega))).trans (s.frz a ha)
theorem Step.back {X0 X2:Cx} {nx:Nat} {lim:Lim} {r:Nat} {w1 w3:World} (t1:QbD X0 r w1) (s:Step ⟨w1,X0.ρ,X0.O⟩ nx lim X2) (t3:QbD X2 r w3) (hr:w3.heap[r]? = X0.w.heap[r]?):Step X0 nx lim ⟨w3,X2.ρ,X2.O⟩ where
 O:=s.O
 os:=(t3.os.trans s.os).trans t1.os
 tape:=(t3.tape.trans s.tape).trans t1.tape
 output:=(t3.output.trans s.output).trans t1.output
 size:=by rw [t3.size,<- t1.size];exact s.size
 ρ:=s.ρ
 mine b o hb hm:=s.mine b o (by rw [<- t1.size] at hb;exact hb) hm
 cell b o hb hm:=by
  by_cases e:b=r
  · subst e;exact YN hr
  · exact ((YN (t3.block b e)).trans (s.cell b o (by rw [<- t1.size] at hb;exact hb) hm)).trans (YN (t1.block b e))
 block b hb hm:=by
  by_cases e:b=r
  · subst e;exact hr
  · exact ((t3.block b e).trans (s.block b (by rw [<- t1.size] at hb;exact hb) hm)).trans (t1.block b e)
 frz a ha:=by
  by_cases e:a.block=r
  · exact ZR (by rw [e];exact hr)
  · exact ((ZR (t3.block _ e)).trans (s.frz a (by rw [<- t1.size] at ha;exact ha))).trans (ZR (t1.block _ e))
def QdM (r:Nat):Deferred:={ target:=.collected r,args := #[] }
def ZC (X X':Cx) (ds base:List Deferred):Prop :=
 ∃ rs:List Nat,ds=rs.map QdM++base /\ rs.Nodup /\ ∀ r ∈ rs,X.w.heap.size <= r /\ X'.w.heap[r]? = some (.deferred (some [])) /\ ∀ o,¬ X'.mine r o
theorem ZC.of_eq {X X':Cx} {ds base:List Deferred} (h:ds=base):ZC X X' ds base:=⟨[],by simp [h],List.nodup_nil,fun r hr=>by simp at hr⟩
theorem ZC.refl (X X':Cx) (ds:List Deferred):ZC X X' ds ds:=.of_eq rfl
theorem ZC.trans0 {X X1 X2:Cx} {d0 d1 d2:List Deferred} (h:ZC X X1 d1 d0) (hsz:X.w.heap.size <= X1.w.heap.size) (hb:∀ r,r < X1.w.heap.size->(∀ o,¬ X1.mine r o)->X2.w.heap[r]? = X1.w.heap[r]? /\ ∀ o,¬ X2.mine r o) (k:ZC X1 X2 d2 d1):ZC X X2 d2 d0:=by
 obtain ⟨r1,rfl,n1,h1⟩:=h;obtain ⟨r2,rfl,n2,h2⟩:=k;refine ⟨r2++r1,by simp,?_,?_⟩
 · rw [List.nodup_append];refine ⟨n2,n1,fun a ha b hb e=>?_⟩;subst e;have q1:=(h2 a ha).1;have q2:=(Array.getElem?_eq_some_iff.1 (h1 a hb).2.1).1;omega
 · intro r hr;rcases List.mem_append.1 hr with hr | hr
   · obtain ⟨q1,q2,q3⟩:=h2 r hr;exact ⟨Nat.le_trans hsz q1,q2,q3⟩
   · obtain ⟨q1,q2,q3⟩:=h1 r hr;have hl:=(Array.getElem?_eq_some_iff.1 q2).1;obtain ⟨p1,p2⟩:=hb r hl q3;exact ⟨q1,p1.trans q2,p2⟩
theorem ZC.trans {X X1 X2:Cx} {nx n1:Nat} {lim lim1:Lim} {d0 d1 d2:List Deferred} (h:ZC X X1 d1 d0) (s:Step X nx lim X1) (s2:Step X1 n1 lim1 X2) (k:ZC X1 X2 d2 d1):ZC X X2 d2 d0 :=
 h.trans0 s.size (fun r hl q3=>⟨s2.block r hl q3,fun o ho=>q3 o (s2.mine r o hl ho)⟩) k
theorem ZC.sub {X X1 X2:Cx} {d0 d1:List Deferred} (h:ZC X X1 d1 d0) (hw:X2.w=X1.w) (hm:∀ b o,b < X1.w.heap.size->X2.mine b o->X1.mine b o):ZC X X2 d1 d0:=by
 obtain ⟨r1,rfl,n1,h1⟩:=h;exact ⟨r1,rfl,n1,fun r hr=>⟨(h1 r hr).1,by rw [hw];exact (h1 r hr).2.1,fun o ho=>(h1 r hr).2.2 o (hm r o (Array.getElem?_eq_some_iff.1 (h1 r hr).2.1).1 ho)⟩⟩
theorem Kps.refl (X:Cx):Kps X X:=⟨fun _ _ _ h1 h2=>⟨h1,h2⟩⟩
theorem G.mine_kind {X:Cx} {h:Heap C} {nx:Nat} {lim:Lim} (g:G T X h nx lim) {b o:Nat} (hm:X.mine b o):(∃ c t f,X.w.heap[b]? = some (.cells c t f)) \/ (∃ es k,X.w.heap[b]? = some (.map es k)) \/ (∃ r,X.w.heap[b]? = some (.loop r)) \/ ∃ m s c k,X.w.heap[b]? = some (.mapIter m s c k):=by
 obtain ⟨id,l,hl,ho⟩:=hm;have hd:=g.dom id l hl;cases hg:h.get id with
 | none=>rw [hg] at hd;cases hd
 | some ob =>
  cases ob with
  | var t d =>
   obtain ⟨b',c,e1,e2,_⟩:=g.var id t d hg;rw [hl] at e1;obtain rfl:=Option.some.inj e1;obtain rfl:b=b':=ho;exact .inl ⟨_,_,_,e2⟩
  | map ck cv m =>
   obtain ⟨b',es,k,e1,e2,_⟩:=g.map id ck cv m hg;rw [hl] at e1;obtain rfl:=Option.some.inj e1;obtain rfl:b=b':=ho;exact .inr (.inl ⟨_,_,e2⟩)
  | ctl cc =>
   obtain ⟨s,e1,e2⟩:=g.ctl id cc hg;rw [hl] at e1;obtain rfl:=Option.some.inj e1;cases cc with
   | lp busy dn ex =>
    cases s with
    | it _ _=>exact e2.elim
    | lp b' rec =>
     obtain rfl:b=b':=ho;obtain ⟨pend,h3,_⟩:=e2;exact .inr (.inr (.inl ⟨_,h3⟩))
   | it ck cv m =>
    cases s with
    | lp _ _=>exact e2.elim
    | it bm r =>
     obtain ⟨_,es,si,se,k,h3,h4,_⟩:=e2;rcases ho with rfl | rfl
     · exact .inr (.inl ⟨_,_,h3⟩)
     · exact .inr (.inr (.inr ⟨_,_,_,_,h4⟩))
  | vec t own m =>
   obtain ⟨v,b',lo,hi,e1,e2⟩:=g.vec id t own m hg;rw [hl] at e1;obtain rfl:=Option.some.inj e1;obtain ⟨rfl,h1,h2⟩:b=b' /\ lo <= o /\ o < hi:=ho;rcases e2 with ⟨_,_,h3⟩ | ⟨off,cp,_,_,h4,h5⟩
   · omega
   · rcases h5 with ⟨_,h6,h7 | ⟨c,e,h7,_⟩⟩ | ⟨_,h6,_,h7 | ⟨c,e,h7,_⟩⟩
     · rw [h7] at h4;omega
     · exact .inl ⟨_,_,_,h7⟩
     · rw [h7] at h4;omega
     · exact .inl ⟨_,_,_,h7⟩
theorem ZC.of_g {X Xa Xb X2:Cx} {h:Heap C} {nx:Nat} {lim:Lim} (g:G T X2 h nx lim) {d d0:List Deferred} (k:ZC Xa Xb d d0) (ha:X.w.heap.size <= Xa.w.heap.size) (hb:X2.w=Xb.w):ZC X X2 d d0:=by
 obtain ⟨rs,rfl,n1,h1⟩:=k;refine ⟨rs,rfl,n1,fun r hr=>?_⟩;obtain ⟨q1,q2,_⟩:=h1 r hr;rw [<- hb] at q2;refine ⟨Nat.le_trans ha q1,q2,fun o ho=>?_⟩;rcases g.mine_kind ho with ⟨_,_,_,e⟩ | ⟨_,_,e⟩ | ⟨_,e⟩ | ⟨_,_,_,_,e⟩ <;> rw [e] at q2 <;> cases q2
theorem ZC.since {X X1 X2:Cx} {nx:Nat} {lim:Lim} {d d':List Deferred} (s:Step X nx lim X1) (k:ZC X1 X2 d' d):ZC X X2 d' d:=by
 obtain ⟨r2,rfl,n2,h2⟩:=k;exact ⟨r2,rfl,n2,fun r hr=>⟨Nat.le_trans s.size (h2 r hr).1,(h2 r hr).2⟩⟩
theorem QdN (K:QX P T) {fn:Func} {tmps:Array Value} {R:Ending->World->Prop} {n:Nat} {X0:Cx} {nx0:Nat} {h:Heap C} {nx:Nat} {lim:Lim} {env:Env C}:∀ (rs:List Nat) (X:Cx),rs.Nodup->(∀ r ∈ rs,X0.w.heap.size <= r /\ X.w.heap[r]? = some (.deferred (some [])) /\ ∀ o,¬ X.mine r o) ->
 G T X h nx lim->Step X0 nx0 lim X->(∀ t,RO T X nx lim (eget env t) (tmps.getD t undef)) ->
 (∀ X',G T X' h nx lim->Step X0 nx0 lim X'->(∀ t,RO T X' nx lim (eget env t) (tmps.getD t undef)) -> ∃ v,(results fn tmps).run P X'.w=.ok v X'.w /\ R (.returned v) X'.w) ->
 LeavesInM Fence.wide n P fn tmps R (rs.map QdM) .returning X.w:=by
 intro rs
 induction rs with
 | nil=>intro X _ _ g s he hk;exact hk X g s he
 | cons r rs ih =>
  intro X hn hr g s he hk;obtain ⟨q1,q2,q3⟩:=hr r (by simp)
  obtain ⟨hn1,hn2⟩:=List.nodup_cons.1 hn;have t:QbD X r (X.w.putObj r (.deferred none)):=QaP q2 (fun c t f h=>by cases h) q3
  refine ⟨by simp,.inl ⟨r,X.w.putObj r (.deferred none),rfl,run_takeDeferred q2,?_⟩⟩
  have hkp:Kps X ⟨X.w.putObj r (.deferred none),X.ρ,X.O⟩:=⟨t.cell⟩;refine ih ⟨X.w.putObj r (.deferred none),X.ρ,X.O⟩ hn2 (fun r' hr'=>?_) (g.turn K.base t) (s.turn t q1) (fun u=>⟨(he u).1.mono T K.base.encOK hkp fun id _=>Qd.refl _,(he u).2⟩) hk;obtain ⟨p1,p2,p3⟩:=hr r' (by simp [hr'])
  exact ⟨p1,(t.block r' (by rintro rfl;exact hn1 hr')).trans p2,p3⟩
end
section
variable {C:Cdc} {P:Program} {T:Tab C} {Φ:Fns C}
open Pg (Ex)
def QcK:Ev.X->Exit
 | .normal=>.normal
 | .exit id=>.exit id
 | .ret=>.ret
theorem ZD {P:Program} {b:Frame} {a:Act} {k:List Item} {cs:List Frame} {w:World} {c:Code}:step P (lone (b.atR a (.code (.scope c)::k)) cs w)=.next (lone (b.atR a (.code c::.inScope c::k)) cs w) :=
 step_lone_go (by simp [stepG,stepG.exec,Frame.atR])
theorem QcL {P:Program} {b:Frame} {a:Act} {k:List Item} {cs:List Frame} {w:World} {c:Code}:step P (lone (b.atR a (.inScope c::k)) cs w)=.next (lone (b.atR a k) cs w) :=
 step_lone_go (by simp [stepG,stepG.exec,Frame.atR])
def Qsg (Q:Exit->Act->Go.World->Prop):Exit->Act->Go.World->Prop
 | .goto _,_,_=>False
 | e,a,w=>Q e a w
theorem Qib {F:Fence} {n:Nat} {P:Program} {Q:Exit->Act->Go.World->Prop} {a:Act} {w:Go.World} {c:Code} (h:c.wpIn F n P (Qsg Q) a w):(Code.scope c).wpIn F n P Q a w:=by
 intro b k cs hro hb hr;have h0:(lone (b.atR a (.code (.scope c)::k)) cs w).fenced P F:=fenced_calm hb hr rfl;obtain ⟨e,a₁,w₁,hq,harr⟩:=h b (.inScope c::k) cs hro hb hr;cases e with
 | normal=>exact ⟨.normal,a₁,w₁,hq,.head h0 ZD (StepsIn.trans harr (.one (fenced_calm hb hr rfl) QcL))⟩
 | exit id =>
  have hx:exitTo id (.inScope c::k)=exitTo id k:=by simp [exitTo]
  exact ⟨.exit id,a₁,w₁,hq,fun k' hk=>.head h0 ZD (harr.1 k' (by rw [hx];exact hk)),
   fun hr' hk=>let ⟨k₁,h1,h2⟩:=harr.2 hr' (by rw [hx];exact hk);⟨k₁,h1,.head h0 ZD h2⟩⟩
 | goto l=>exact hq.elim
 | ret=>exact ⟨_,a₁,w₁,hq,.of_steps (.one h0 ZD) harr⟩
 | panic ch=>exact ⟨_,a₁,w₁,hq,.of_steps (.one h0 ZD) harr⟩
 | outgrown=>exact ⟨_,a₁,w₁,hq,.of_steps (.one h0 ZD) harr⟩
def QN:Code->List Code
 | .seq a b=>QN a++QN b
 | .cond _ a b=>QN a++QN b
 | .block _ a=>QN a
 | .loop a=>a::QN a
 | .scope a=>QN a
 | _=>[]
theorem QaQ {nt:Nat} {ops:Array Oper} (h:opsB nt ops=true):∀ o ∈ ops.toList,∀ t,o.dst=some t->t < nt:=by
 intro o ho t ht;simp only [opsB,List.all_eq_true] at h;have:=h o ho;rw [ht] at this
 simpa [Nat.blt_eq] using this
theorem Qic {ops:Array Oper} (h:Qr4 ops=true):Qj2 ops:=by
 simp only [Qr4,List.all_eq_true,Bool.and_eq_true] at h
 have mem:∀ i o,ops[i]? = some o->(o,i) ∈ ops.toList.zipIdx:=by
  intro i o hi;rw [List.mem_zipIdx_iff_getElem?];rw [Array.getElem?_toList];exact hi
 refine ⟨fun i o hi e he hb=>?_,fun i j oi oj hij hi hj=>?_⟩
 · have:=(h (o,i) (mem i o hi)).1 e (by simpa using he)
   simpa [hb,Nat.blt_eq] using this
 · have:=(h (oi,i) (mem i oi hi)).2 (oj,j) (mem j oj hj);simp only [Bool.or_eq_true,Bool.not_eq_true'] at this;rcases this with (h1 | h1) | h1
   · have h2:Nat.blt i j=true:=by rw [Nat.blt_eq];exact hij
     rw [h2] at h1;cases h1
   · exact .inl h1
   · exact .inr h1
def QaR (B:Nat->Bool) (c:Code):Prop := ∀ t ∈ asgL c,B t=false
def Qj3 (T:Tab C) (B:Nat->Bool) (X:Cx) (nx:Nat) (lim:Lim) (h':Heap C) (nx':Nat) (env':Env C) (a:Act) (Q:Act->World->Prop):Prop :=
 ∀ a' X',G T X' h' nx' lim->Step X nx lim X'->Qu T X' nx' lim env' a'.tmps->a'.tmps.size=a.tmps.size->ZC X X' a'.defers a.defers->Kp B a.tmps a'.tmps->Q a' X'.w
def Vz (P:Program) (T:Tab C) (g:FuncId) (args:List (D C)) (d:D C):Prop :=
 ∀ (w:World) (O:Nat->Nat->Prop) (vs:List Value),(∀ b o,O b o->b < w.heap.size)->(∀ p ∈ T.pre,∃ t f,w.heap[p.1]? = some (.cells p.2 t f))->RVs T ⟨w,fun _=>none,O⟩ args vs ->
  (callFunc g ⟨vs⟩).run P w=.ok (.enter g ⟨vs⟩) w /\ Calls P g ⟨vs⟩ w fun en w' =>
   ∃ v ρ,en=.returned v /\ RV T ⟨w',ρ,O⟩ d v /\ (d.refs=[] /\ d.noYl=true) /\ w.heap.size <= w'.heap.size /\ (∀ b,b < w.heap.size->w'.heap[b]? = w.heap[b]?) /\ w'.os=w.os /\ w'.tape=w.tape /\ w'.output=w.output /\ (∀ a:Addr,a.block < w.heap.size->w'.frozen? a=w.frozen? a)
theorem Vz.call (K:QX P T) {g:FuncId} {args:List (D C)} {d:D C} (hb:Vz P T g args d) (hargs:∀ a ∈ args,D.refs a=[]) {X:Cx} {hp:Heap C} {nx:Nat} {lim:Lim} {vs:List Value} (g0:G T X hp nx lim) (hvs:RVs T X args vs) :
 (callFunc g ⟨vs⟩).run P X.w=.ok (.enter g ⟨vs⟩) X.w /\ Calls P g ⟨vs⟩ X.w (Zg T X nx lim hp nx d):=by
 have hkeep:Kps X ⟨X.w,fun _=>none,fun b o=>X.O b o \/ X.mine b o⟩ :=
  ⟨fun b o v hc hf=>⟨hc,fun h=>h.elim hf.1 hf.2,fun ⟨_,_,hq,_⟩=>by simp at hq⟩⟩
 have hvs0:RVs T ⟨X.w,fun _=>none,fun b o=>X.O b o \/ X.mine b o⟩ args vs:=by
  clear hb
  induction hvs with
  | nil=>exact .nil
  | @cons d ds v vs hv _ ih =>
   refine .cons (hv.mono T K.base.encOK (X':=⟨X.w,fun _=>none,fun b o=>X.O b o \/ X.mine b o⟩) hkeep fun id hi=>?_) (ih fun a ha=>hargs a (by simp [ha]))
   rw [hargs d (by simp)] at hi;simp at hi
 obtain ⟨q1,q2⟩:=hb X.w (fun b o=>X.O b o \/ X.mine b o) vs (fun b o ho=>ho.elim (g0.outs b o) fun hm=>(g0.outer b o hm).2) (fun p hp=>(g0.pre p hp).1) hvs0;refine ⟨q1,q2.mono fun en w' hpp=>?_⟩;obtain ⟨v,ρ,rfl,r,hd,a1,a2,a3,a4,a5,a6⟩:=hpp;obtain ⟨g',s'⟩:=g0.grow K.base w' a1 a2 a3 a4 a5 a6;refine ⟨v,⟨w',X.ρ,X.O⟩,rfl,rfl,g',s',?_,by rw [hd.1];simp⟩
 exact RV.monoE T K.base (X:=⟨w',ρ,fun b o=>X.O b o \/ X.mine b o⟩) (X':=⟨w',X.ρ,X.O⟩) (fun b o u hc hf=>⟨hc,fun ho=>hf.1 (Or.inl ho),fun hm=>hf.1 (Or.inr hm)⟩) r hd
theorem R.plain {X X':Cx} {m:Bool} {d:D C} {vs:List Value} (h:R T X m d vs):d.plain=true->R T X' m d vs:=by
 induction h with
 | bool b=>exact fun _=>.bool b
 | int h=>exact fun _=>.int h
 | str s=>exact fun _=>.str s
 | anil=>exact fun _=>.anil
 | acons _ _ i1 i2=>intro hp;simp only [D.plain,Bool.and_eq_true] at hp;exact .acons (i1 hp.1) (i2 hp.2)
 | nils=>exact fun _=>.nils
 | nilp=>exact fun _=>.nilp
 | nilfn=>exact fun _=>.nilfn
 | nilm=>exact fun _=>.nilm
 | tup _ ih=>intro hp;exact .tup (ih hp)
 | vnil=>exact fun _=>.vnil
 | vrow _ hr _ i1 i2=>intro hp;simp only [D.plain,Bool.and_eq_true] at hp;exact .vrow (i1 hp.1) hr (i2 hp.2)
 | vone _ hr _ i1 i2=>intro hp;simp only [D.plain,Bool.and_eq_true] at hp;exact .vone (i1 hp.1) hr (i2 hp.2)
 | _=>intro hp;simp [D.plain] at hp
theorem RV.plain {X X':Cx} {d:D C} {v:Value} (h:RV T X d v) (hp:d.plain=true):RV T X' d v:=by
 rcases h with ⟨h1,cs,h2,h3⟩ | ⟨h1,h2⟩
 · exact .inl ⟨h1,cs,h2.plain hp,h3⟩
 · exact .inr ⟨h1,h2.plain hp⟩
def Cx.bare (X:Cx):Cx:=⟨X.w,fun _=>none,X.O⟩
theorem Cx.bare_keep (X:Cx):∀ b o v,X.w.cell? ⟨b,o,none⟩=some v->X.free b o->X.bare.w.cell? ⟨b,o,none⟩=some v /\ X.bare.free b o :=
 fun b o v hc hf=>⟨hc,hf.1,fun ⟨_,_,hq,_⟩=>by simp [Cx.bare] at hq⟩
theorem Qj4 (K:QX P T) {X:Cx} {h h':Heap C} {nx nx':Nat} {e:Pg.Lv} {lim:Lim} {tr:Tr} {id n:Nat} {d':D C} {v:Value} (g:G T X h nx lim) (hr:R T X false (.vs id n) [v])
 (hx:Ex e (JU (.vs id n)) h nx d' h' nx' tr):h'=h /\ nx'=nx /\ R T X.bare false d' [v] /\ d'.isRow=false:=by
 simp only [JU] at hx;obtain ⟨o,t',ho,hx,_⟩:=Ex.rd hx;cases o with
 | var t d=>exact (Ex.fail hx).elim
 | map _ _ _=>exact (Ex.fail hx).elim
 | ctl _=>exact (Ex.fail hx).elim
 | vec ty own l =>
  rcases Ex.br hx with ⟨hb,hx⟩ | ⟨hb,hx⟩
  · obtain ⟨rfl,rfl,rfl,rfl⟩:=Ex.ret hx;have hn:n=l.length:=Nat.eq_of_beq_eq_true hb;obtain ⟨v0,b,lo,hi,h1,h2⟩:=g.vec id ty own l ho;have hlen:=h2.len;refine ⟨rfl,rfl,?_,rfl⟩;cases hr with
    | @vs _ _ cp a hh =>
     have hv:=(hh _ _ _ _ _ h1).2 (by rw [hlen,hn])
     rcases h2 with ⟨⟨a0,h2,_⟩,rfl,_⟩ | ⟨off,cp',h2,h3,h4,h5⟩
     · rw [h2] at hv;simp only [Value.slice.injEq] at hv;obtain ⟨_,e1,e2⟩:=hv;rw [<- e1,<- e2];exact .sl0 ty false a
     · rw [h2] at hv;simp only [Value.slice.injEq] at hv;obtain ⟨rfl,rfl,rfl⟩:=hv;have hR:∀ cs,R T X false (.arr ty l.length l) cs->R T X.bare false (.arr ty l.length l) cs:=fun cs hr=>hr.monoE T K.base X.bare_keep ⟨rfl,rfl⟩;rcases h5 with ⟨_,hlo,h5⟩ | ⟨_,hlo,⟨cs,h5,h6⟩,_⟩
       · rcases h5 with h5 | ⟨c,ce,h5,h6,h7⟩
         · have hl0:l=[]:=List.length_eq_zero_iff.1 (by omega)
           subst hl0;exact .sl (cs:=[]) (fun j u hj=>by simp at hj) (.arr0 _) h3 (fun h=>by cases h)
         · refine .sl (cs:=(c.toList.drop off).take (l.length * T.size (T.ety ty))) (fun j u hj=>?_) (hR _ h7) h3 (fun h=>by cases h)
           have hlt:j < l.length * T.size (T.ety ty):=by
            have:=(List.getElem?_eq_some_iff.1 hj).1;rw [List.length_take] at this;omega
           have hmul:l.length * T.size (T.ety ty) <= cp' * T.size (T.ety ty):=Nat.mul_le_mul_right _ h3;refine ⟨?_,(g.outer b (off+j) ⟨id,_,h1,rfl,by omega,by omega⟩).1,fun ⟨_,_,hq,_⟩=>by simp [Cx.bare] at hq⟩
           rw [List.getElem?_take_of_lt hlt,List.getElem?_drop] at hj;show X.w.cell? _=_;simp only [World.cell?,h5];rw [<- hj];simp
       · exact .sl (cs:=cs) (fun j u hj=>X.bare_keep _ _ _ (h5 j u hj).1 (h5 j u hj).2) (hR _ h6) h3 (fun h=>by cases h)
  · exact (Ex.fail hx).elim
theorem Qj5 (K:QX P T):∀ (d:D C) {m:Bool} {vs:List Value} {X:Cx} {h h':Heap C} {nx nx':Nat} {e:Pg.Lv} {lim:Lim} {tr:Tr} {d':D C},G T X h nx lim->R T X m d vs->Ex e (JU d) h nx d' h' nx' tr ->
 h'=h /\ nx'=nx /\ d'.isRow=d.isRow /\ (d'.refs=[]->d'.noYl=true->R T X.bare m d' vs):=by
 intro d
 have same:∀ (d0:D C),JU d0=.ret d0 -> ∀ {m:Bool} {vs:List Value} {X:Cx} {h h':Heap C} {nx nx':Nat} {e:Pg.Lv} {lim:Lim} {tr:Tr} {d':D C},G T X h nx lim->R T X m d0 vs->Ex e (JU d0) h nx d' h' nx' tr ->
  h'=h /\ nx'=nx /\ d'.isRow=d0.isRow /\ (d'.refs=[]->d'.noYl=true->R T X.bare m d' vs):=by
  intro d0 hd m vs X h h' nx nx' e lim tr d' g hr hx;rw [hd] at hx;obtain ⟨rfl,rfl,rfl,rfl⟩:=Ex.ret hx;exact ⟨rfl,rfl,rfl,fun h1 h2=>hr.monoE T K.base X.bare_keep ⟨h1,h2⟩⟩
 induction d with
 | acons d ds i1 i2 =>
  intro m vs X h h' nx nx' e lim tr d' g hr hx;simp only [JU] at hx;obtain ⟨d1,h1,n1,t1,t2,q1,hx,_⟩:=Ex.bind hx;obtain ⟨d2,h2,n2,t3,t4,q2,hx,_⟩:=Ex.bind hx;obtain ⟨rfl,rfl,rfl,rfl⟩:=Ex.ret hx;have hsplit:∀ (a b:D C),(D.acons a b).refs=[]->a.refs=[] /\ b.refs=[]:=fun a b h=>by simpa [D.refs] using h
  cases hr with
  | acons r1 r2 =>
   obtain ⟨rfl,rfl,_,k1⟩:=i1 g r1 q1;obtain ⟨rfl,rfl,_,k2⟩:=i2 g r2 q2;refine ⟨rfl,rfl,rfl,fun h1 h2=>?_⟩;simp only [D.noYl,Bool.and_eq_true] at h2;exact .acons (k1 (hsplit _ _ h1).1 h2.1) (k2 (hsplit _ _ h1).2 h2.2)
  | vrow r1 hrow r2 =>
   obtain ⟨rfl,rfl,e1,k1⟩:=i1 g r1 q1;obtain ⟨rfl,rfl,_,k2⟩:=i2 g r2 q2;refine ⟨rfl,rfl,rfl,fun h1 h2=>?_⟩;simp only [D.noYl,Bool.and_eq_true] at h2;exact .vrow (k1 (hsplit _ _ h1).1 h2.1) (by rw [e1];exact hrow) (k2 (hsplit _ _ h1).2 h2.2)
  | vone r1 hrow r2 =>
   obtain ⟨rfl,rfl,e1,k1⟩:=i1 g r1 q1;obtain ⟨rfl,rfl,_,k2⟩:=i2 g r2 q2;refine ⟨rfl,rfl,rfl,fun h1 h2=>?_⟩;simp only [D.noYl,Bool.and_eq_true] at h2;exact .vone (k1 (hsplit _ _ h1).1 h2.1) (by rw [e1];exact hrow) (k2 (hsplit _ _ h1).2 h2.2)
 | tup d ih =>
  intro m vs X h h' nx nx' e lim tr d' g hr hx;simp only [JU] at hx;obtain ⟨d1,h1,n1,t1,t2,q1,hx,_⟩:=Ex.bind hx;obtain ⟨rfl,rfl,rfl,rfl⟩:=Ex.ret hx;cases hr with
  | tup r1 =>
   obtain ⟨rfl,rfl,_,k1⟩:=ih g r1 q1;exact ⟨rfl,rfl,rfl,fun h1 h2=>.tup (k1 h1 h2)⟩
 | vs id n =>
  intro m vs X h h' nx nx' e lim tr d' g hr hx;have hm:m=false:=by cases hr;rfl
  subst hm;have hv:∃ v,vs=[v]:=by cases hr;exact ⟨_,rfl⟩
  obtain ⟨v,rfl⟩:=hv;obtain ⟨rfl,rfl,k1,k2⟩:=Qj4 K g hr hx;exact ⟨rfl,rfl,by rw [k2];rfl,fun _ _=>k1⟩
 | asl ta id p lo n =>
  intro m vs X h h' nx nx' e lim tr d' g hr hx;have hm:m=false:=by cases hr;rfl
  subst hm;simp only [JU] at hx;obtain ⟨o,t',ho,hx,_⟩:=Ex.rd hx;cases o with
  | var t d=>exact (Ex.fail hx).elim
  | map _ _ _=>exact (Ex.fail hx).elim
  | ctl _=>exact (Ex.fail hx).elim
  | vec ty own l =>
   rcases Ex.br hx with ⟨hb,hx⟩ | ⟨hb,hx⟩
   · obtain ⟨rfl,rfl,rfl,rfl⟩:=Ex.ret hx;simp only [Bool.and_eq_true,Nat.beq_eq] at hb;obtain ⟨hn,hlo⟩:=hb;have hlo:=Nat.le_of_ble_eq_true hlo;obtain ⟨v0,b,lo',hi',h1,h2⟩:=g.vec id ty own l ho;have hlen:=h2.len;refine ⟨rfl,rfl,rfl,fun _ _=>?_⟩;cases hr with
     | @asl _ _ _ _ cp _ ao hq hs hw =>
      obtain ⟨k1,k2⟩:=hw _ _ _ _ _ h1;obtain ⟨a0,cp0,k3,k4,k5,k6⟩:=k2 (by rw [hlen,hn])
      subst k3 k4 k5 k6
      have hrv:R T X false (.vs id (p.getD 0 0)) [.slice a0 (p.getD 0 0) cp0]:=.vs fun v e b' lo2 hi2 h5=>by
       rw [h1] at h5;cases h5;exact ⟨by simp [lenV],fun _=>rfl⟩
      have hex:Ex (0,0) (JU (.vs id (p.getD 0 0))) h' nx' (.sl ty false l) h' nx' ([]++[(id,false)]):=by
       simp only [JU];refine Ex.rd_mk ho ?_;simp only [hn];exact Ex.mk_br (.inl ⟨by simp,Ex.mk_ret _⟩)
      exact (Qj4 K g hrv hex).2.2.1.dropSl K.base lo (by omega)
   · exact (Ex.fail hx).elim
 | _=>exact same _ rfl
theorem Qgu (K:QX P T):∀ (args:List (D C)) {vs:List Value} {X:Cx} {h h':Heap C} {nx nx':Nat} {e:Pg.Lv} {lim:Lim} {tr:Tr} {args':List (D C)},G T X h nx lim->RVs T X args vs->Ex e (QoM args) h nx args' h' nx' tr ->
 h'=h /\ nx'=nx /\ ((∀ a ∈ args',D.refs a=[])->(∀ a ∈ args',D.noYl a=true)->RVs T X.bare args' vs)
 | [],vs,X,h,h',nx,nx',e,lim,tr,args',g,hr,hx=>by
  obtain ⟨rfl,rfl,rfl,rfl⟩:=Ex.ret hx;cases hr;exact ⟨rfl,rfl,fun _ _=>.nil⟩
 | d::ds,vs,X,h,h',nx,nx',e,lim,tr,args',g,hr,hx=>by
  simp only [QoM] at hx;obtain ⟨d1,h1,n1,t1,t2,q1,hx,_⟩:=Ex.bind hx;obtain ⟨d2,h2,n2,t3,t4,q2,hx,_⟩:=Ex.bind hx;obtain ⟨rfl,rfl,rfl,rfl⟩:=Ex.ret hx;cases hr with
  | @cons _ _ v vs' rv rs =>
   have key:h1=h /\ n1=nx /\ (d1.refs=[]->d1.noYl=true->RV T X.bare d1 v):=by
    rcases rv with ⟨i1,cs,r1,rfl⟩ | ⟨i1,r1⟩
    · obtain ⟨a,b,c,k⟩:=Qj5 K d g r1 q1;exact ⟨a,b,fun u1 u2=>.inl ⟨by rw [c];exact i1,cs,k u1 u2,rfl⟩⟩
    · obtain ⟨a,b,c,k⟩:=Qj5 K d g r1 q1;exact ⟨a,b,fun u1 u2=>.inr ⟨by rw [c];exact i1,k u1 u2⟩⟩
   obtain ⟨rfl,rfl,k1⟩:=key;obtain ⟨rfl,rfl,k2⟩:=Qgu K ds g rs q2;exact ⟨rfl,rfl,fun h1 h2=>.cons (k1 (h1 _ (by simp)) (h2 _ (by simp))) (k2 (fun a ha=>h1 a (by simp [ha])) (fun a ha=>h2 a (by simp [ha])))⟩
structure Qi (P:Program) (T:Tab C) (Φ:Fns C):Prop where
 fn : ∀ f fn,Φ.fn f=some fn->P.funcs[f]? = some fn /\ (fn.name == "runtime.NumGoroutine")=false /\ ∀ body,fn.body=some body->Zz fn.ntmps body=true
 spec:∀ g s args d,Φ.spec g=some s->s args=some (true,d)->(∀ a ∈ args,D.refs a=[]) /\ Vz P T g args d
 ospec:∀ g s,Φ.ospec g=some s -> ∀ args vs X h nx lim e d h' nx' tr,G T X h nx lim->RVs T X args vs->(∀ a ∈ args,∀ id ∈ D.refs a,old nx lim id)->nx' <= lim.top->Ex e (s args) h nx d h' nx' tr ->
  (callFunc g ⟨vs⟩).run P X.w=.ok (.enter g ⟨vs⟩) X.w /\ Calls P g ⟨vs⟩ X.w (Zg T X nx lim h' nx' d)
 loop:∀ f fn body b s,Φ.fn f=some fn->fn.body=some body->b ∈ QN body->Φ.loop f (Qv b)=some s -> ∀ B,QaR B b -> ∀ X h nx lim e env x env' h' nx' tr a Q,G T X h nx lim->Qu T X nx lim env a.tmps->nx' <= lim.top->fn.ntmps <= a.tmps.size ->
  Ex e (s env) h nx (x,env') h' nx' tr->Qj3 T B X nx lim h' nx' env' a (Q (QcK x))->(Code.loop b).wp P Q a X.w
theorem eget_app:∀ (env env':Env C) (t:Nat),eget (env++env') t=eget env t \/ eget (env++env') t=eget env' t
 | [],env',t=>.inr rfl
 | (j,d)::r,env',t=>by
  rw [List.cons_append,Qz,Qz]
  split
  · exact .inl rfl
  · exact eget_app r env' t
theorem QcM {l:List Nat} {t:Nat} (h:l.any (Nat.beq t)=true):∀ env:Env C,eget (keepE l env) t=.top
 | []=>rfl
 | (j,d)::r=>by
  rw [keepE];cases hj:l.any (Nat.beq j) with
  | true=>exact QcM h r
  | false =>
   simp only [cond_false];rw [Qz];have:t ≠ j:=fun e=>by rw [e,hj] at h;cases h
   simp only [this,if_false];exact QcM h r
theorem QaS {l:List Nat} {t:Nat} (h:l.any (Nat.beq t)=false):∀ env:Env C,eget (keepE l env) t=eget env t
 | []=>rfl
 | (j,d)::r=>by
  rw [keepE,Qz];cases hj:l.any (Nat.beq j) with
  | true =>
   have:t ≠ j:=fun e=>by rw [e,hj] at h;cases h
   simp only [this,if_false,cond_true];exact QaS h r
  | false =>
   simp only [cond_false];rw [Qz,QaS h r]
theorem Qu.cons_same {X:Cx} {nx:Nat} {lim:Lim} {env:Env C} {tmps:Array Value} {t:Nat} {d:D C} (he:Qu T X nx lim env tmps) (hd:eget env t=d):Qu T X nx lim ((t,d)::env) tmps:=by
 intro u;rw [Qz]
 by_cases hu:u=t
 · subst hu;simp only [if_true];rw [<- hd];exact he u
 · simp only [hu,if_false];exact he u
theorem Qsh {b:Bool}:∀ (x y d:D C),mrgD b x y=some d->d=bif b then x else y:=by
 intro x
 induction x with
 | acons x xs i1 i2 =>
  intro y d h;cases y with
  | acons y ys =>
   simp only [mrgD] at h;cases h1:mrgD b x y with
   | none=>simp [h1] at h
   | some d1 =>
    cases h2:mrgD b xs ys with
    | none=>simp [h1,h2] at h
    | some d2 =>
     simp only [h1,h2,Option.some.injEq] at h;rw [<- h,i1 _ _ h1,i2 _ _ h2];cases b <;> rfl
  | _=>simp [mrgD] at h
 | sl t c l =>
  intro y d h;cases y with
  | sl t' c' l' =>
   simp only [mrgD] at h
   split at h
   · rename_i e;subst e;simp only [Option.some.injEq] at h;rw [<- h];cases b <;> rfl
   · cases h
  | _=>simp [mrgD] at h
 | arr t n l =>
  intro y d h;cases y with
  | arr t' n' l' =>
   simp only [mrgD] at h
   split at h
   · rename_i e;subst e
     split at h
     · rename_i e;subst e;simp only [Option.some.injEq] at h;rw [<- h];cases b <;> rfl
     · cases h
   · cases h
  | _=>simp [mrgD] at h
 | tup ds i =>
  intro y d h;cases y with
  | tup es=>cases ds <;> cases es <;> simp [mrgD] at h;rw [<- h];cases b <;> rfl
  | _=>cases ds <;> simp [mrgD] at h
 | int k n =>
  intro y d h;cases y with
  | int k' n' =>
   simp only [mrgD] at h
   split at h
   · rename_i e;subst e;simp only [Option.some.injEq] at h;rw [<- h];cases b <;> rfl
   · cases h
  | _=>simp [mrgD] at h
 | _=>intro y d h;cases y <;> simp [mrgD] at h <;> rw [<- h] <;> cases b <;> rfl
theorem Qsi {X:Cx} {nx:Nat} {lim:Lim} {b:Bool} {x y d:D C} {v:Value} (h:mrgT b x y=some d) (hx:RO T X nx lim (bif b then x else y) v):RO T X nx lim d v:=by
 have key:d=.top \/ mrgD b x y=some d:=by
  unfold mrgT at h
  split at h
  · left;simpa using h.symm
  · left;simpa using h.symm
  · right;exact h
 rcases key with rfl | key
 · exact RO.mk (RV.top _ _ _) rfl
 · rw [Qsh _ _ _ key];exact hx
theorem mrgE_get {b:Bool} {x y env:Env C} {t:Nat}:∀ {l:List Nat} {r:Env C},mrgE b x y l=some r->(l.any (Nat.beq t)=true /\ mrgT b (eget x t) (eget y t)=some (eget (r++env) t)) \/ (l.any (Nat.beq t)=false /\ eget (r++env) t=eget env t)
 | [],r,h=>by simp [mrgE] at h;subst h;exact .inr ⟨rfl,rfl⟩
 | u::l,r,h=>by
  simp only [mrgE] at h;cases h1:mrgT b (eget x u) (eget y u) with
  | none=>simp [h1] at h
  | some d =>
   cases h2:mrgE b x y l with
   | none=>simp [h1,h2] at h
   | some r' =>
    simp only [h1,h2,Option.some.injEq] at h;subst h;rw [List.cons_append,Qz]
    by_cases hu:t=u
    · subst hu;left;simp [h1]
    · have hb:Nat.beq t u=false:=by cases hq:Nat.beq t u with
       | false=>rfl
       | true=>exact (hu (Nat.eq_of_beq_eq_true hq)).elim
      simp only [hu,if_false,List.any_cons,hb,Bool.false_or];exact mrgE_get h2
theorem mrgC_cases (m:Option (List Nat)) (env:Env C) (b:Bool) (p q:Pg C (Ev.X × Env C)) :
 mrgC m env b p q=.br b p q \/ ∃ l x y r,p=.ret (.normal,x) /\ q=.ret (.normal,y) /\ mrgE b x y l=some r /\ m=some l /\ mrgC m env b p q=.ret (.normal,r++env):=by
 unfold mrgC;cases m with
 | none=>exact .inl rfl
 | some l =>
  simp only
  split
  · rename_i x y
    split
    · rename_i r hr;exact .inr ⟨l,x,y,r,rfl,rfl,hr,rfl,rfl⟩
    · exact .inl rfl
  · exact .inl rfl
theorem okL {ro:Option Nat} {Φ:Fns C} {f nt:Nat} {c c1:Code} (h:YY c=true \/ ro=none /\ ∃ fn body,Φ.fn f=some fn /\ nt=fn.ntmps /\ fn.body=some body /\ ∀ b ∈ QN c,b ∈ QN body) (h1:YY c=true->YY c1=true) (h2:∀ b ∈ QN c1,b ∈ QN c) :
 YY c1=true \/ ro=none /\ ∃ fn body,Φ.fn f=some fn /\ nt=fn.ntmps /\ fn.body=some body /\ ∀ b ∈ QN c1,b ∈ QN body:=by
 rcases h with h | ⟨h,fn,body,h3,h4,h5,h6⟩
 · exact .inl (h1 h)
 · exact .inr ⟨h,fn,body,h3,h4,h5,fun b hb=>h6 b (h2 b hb)⟩
def Qgv (P:Program) (T:Tab C) (Φ:Fns C) (n:Nat):Prop := ∀ ro m f nt code,(YY code=true \/ ro=none /\ ∃ fn body,Φ.fn f=some fn /\ nt=fn.ntmps /\ fn.body=some body /\ ∀ b ∈ QN code,b ∈ QN body)->Zz nt code=true -> ∀ B,QaR B code ->
 ∀ X h nx lim e env x env' h' nx' tr a Q,G T X h nx lim->Qu T X nx lim env a.tmps->nx' <= lim.top->nt <= a.tmps.size->Ex e (evC T Φ n f code env) h nx (x,env') h' nx' tr->Qj3 T B X nx lim h' nx' env' a (Q (QcK x))->code.wpIn (roF ro) m P Q a X.w
def Qgw (P:Program) (T:Tab C) (Φ:Fns C) (n:Nat):Prop := ∀ f fn body b,Φ.fn f=some fn->fn.body=some body->Zz fn.ntmps (.loop b)=true->(∀ b' ∈ QN (.loop b),b' ∈ QN body)->Φ.loop f (Qv b)=none -> ∀ B,QaR B b ->
 ∀ X h nx lim e env x env' h' nx' tr a Q,G T X h nx lim->Qu T X nx lim env a.tmps->nx' <= lim.top->fn.ntmps <= a.tmps.size->Ex e (evC T Φ n f (.loop b) env) h nx (x,env') h' nx' tr->Qj3 T B X nx lim h' nx' env' a (Q (QcK x))->Code.rounds P b Q n a X.w
variable (K:QX P T) (F:Qi P T Φ)
def Quu (P:Program) (T:Tab C) (call:FuncId->List (D C)->Pg C (D C)):Prop :=
 ∀ f args vs X h nx lim e d h' nx' tr,G T X h nx lim->RVs T X args vs->(∀ a ∈ args,∀ id ∈ D.refs a,old nx lim id)->nx' <= lim.top->Ex e (call f args) h nx d h' nx' tr ->
  (callFunc f ⟨vs⟩).run P X.w=.ok (.enter f ⟨vs⟩) X.w /\ Calls P f ⟨vs⟩ X.w (Zg T X nx lim h' nx' d)
theorem QdO:∀ (l:List (D C)) (n t:Nat),eget (eargs n l) t=if n <= t then l.getD (t - n) .top else .top:=by
 intro l
 induction l with
 | nil=>intro n t;simp [eargs,eget]
 | cons d l ih =>
  intro n t;rw [eargs,Qz,ih]
  by_cases h1:t=n
  · subst h1;simp
  · by_cases h2:n <= t
    · have h3:n+1 <= t:=by omega
      have h4:t - n=(t - (n+1))+1:=by omega
      simp [h1,h2,h3,h4]
    · have h3:¬ n+1 <= t:=by omega
      simp [h1,h2,h3]
theorem RVs.get {X:Cx} {ds:List (D C)} {vs:List Value} (h:RVs T X ds vs):∀ t,RV T X (ds.getD t .top) (vs.getD t undef):=by
 induction h with
 | nil=>intro t;simp;exact RV.top _ _ _
 | cons h _ ih=>intro t;cases t with
  | zero=>simpa using h
  | succ t=>simpa using ih t
theorem RVs.mono' {X X':Cx} {nx:Nat} {lim:Lim} (L:Laws T) (s:Step X nx lim X') {ds:List (D C)} {vs:List Value} (h:RVs T X ds vs):(∀ d ∈ ds,∀ id ∈ D.refs d,old nx lim id)->RVs T X' ds vs:=by
 induction h with
 | nil=>intro _;exact .nil
 | cons h _ ih =>
  intro ho;exact .cons (RO.step L s (nx':=nx) ⟨h,ho _ (by simp)⟩ (Nat.le_refl _)).1 (ih fun d hd=>ho d (by simp [hd]))
def oneD:List (D C)->D C
 | []=>.tup .anil
 | [d]=>d
 | d::e::l=>.tup (D.ofList (d::e::l))
theorem Qsj (f:FuncId) (n0:Nat) (env:Env C) (rs:List ResultVar):outD T Φ f n0 env rs =
 .bind (JC T env rs) fun l=>bif Φ.keeps f then .ret (oneD l) else .bind (frz (oneD l)) fun d=>.gc n0 d.refs (.ret d):=by
 unfold outD
 congr 1
 funext l
 match l with
 | []=>rfl
 | [_]=>rfl
 | _::_::_=>rfl
theorem Qsk {X:Cx} {nx:Nat} {lim:Lim}:∀ {l:List (D C)} {us:List Value},RVs T X l us->(∀ d ∈ l,∀ id ∈ D.refs d,old nx lim id)->RO T X nx lim (oneD l) (if h:us.toArray.size=1 then us.toArray[0] else .tuple us.toArray)
 | [],[],_,_=>RO.mk (.mk rfl (.tup .vnil)) rfl
 | [d1],[u1],.cons r2 _,r3=>⟨r2,r3 d1 (by simp)⟩
 | d1::d2::l,u1::u2::us,r2,r3=>by
  refine ⟨.mk rfl ?_,fun id hid=>?_⟩
  · have hne:¬ (u1::u2::us).toArray.size=1:=by simp
    simp only [hne,dif_neg,not_false_eq_true];exact .tup r2.row
  · obtain ⟨q,hq,hi⟩:=JH _ id (by simpa [D.refs,oneD] using hid);exact r3 q hq id hi
include K F
theorem J0 {n:Nat} (hc:Qgv P T Φ n):Quu P T (QaE T Φ (evC T Φ n)):=by
 intro g args vs X h nx lim e d h' nx' tr gg hargs hrefs hlim hx;unfold QaE at hx;cases hf:Φ.fn g with
 | none=>simp only [hf] at hx;exact (Ex.fail hx).elim
 | some fn =>
  simp only [hf] at hx;cases hb:fn.body with
  | none=>simp only [hb] at hx;exact (Ex.fail hx).elim
  | some body =>
   simp only [hb] at hx;have hx:=Ex.cnt hx;obtain ⟨⟨x,env1⟩,h1,n1,t1,t2,q1,q2,_⟩:=Ex.bind hx;obtain ⟨f1,f2,f3⟩:=F.fn g fn hf;have hle1:=Ex.le q1;refine ⟨?_,?_⟩
   · simp only [callFunc,Sem.run_bind];show ((match P.funcs[g]? with | none=>_ | some fn=>_:Sem Next)).run P X.w=_
     rw [f1];simp [f2,hb]
   · refine (callsIn_wide (n:=0)).1 (callsIn_of_wp_marks f1 hb trivial (hc none 0 g fn.ntmps body (.inr ⟨rfl,fn,body,hf,rfl,hb,fun b hb=>hb⟩) (f3 body hb) (fun _=>false) (fun _ _=>rfl) X h nx lim e (eargs 0 args) x env1 h1 n1 t1 _ _ gg ?_ ?_ ?_ q1 ?_))
     · intro t;rw [QdO];simp only [Nat.zero_le,if_true,Nat.sub_zero];refine ⟨?_,?_⟩
       · have:=hargs.get t
         by_cases ht:t < vs.length
         · have e1:((⟨vs⟩:Array Value)++Array.replicate (fn.ntmps - (⟨vs⟩:Array Value).size) undef).getD t undef=vs.getD t undef:=by
            simp [Array.getD_eq_getD_getElem?,Array.getElem?_append,ht]
           rw [e1];exact this
         · have:args.getD t .top=.top:=by
            have:=hargs.length;simp [List.getD_eq_getElem?_getD];rw [List.getElem?_eq_none (by omega)];rfl
           rw [this];exact RV.top _ _ _
       · by_cases ht:t < args.length
         · have:args.getD t .top ∈ args:=by
            simp [List.getD_eq_getElem?_getD,ht]
           exact hrefs _ this
         · have:args.getD t .top=.top:=by
            simp [List.getD_eq_getElem?_getD];rw [List.getElem?_eq_none (by omega)];rfl
           rw [this];simp [D.refs]
     · have:=Ex.le q2;omega
     · simp;omega
     · intro a' XX gg0 ss0 ee0 _ hdef _;obtain ⟨rs,hrs,hnd,hmk⟩:=hdef;rw [List.append_nil] at hrs;have hall:∀ X0,G T X0 h1 n1 lim->Step X nx lim X0->Qu T X0 n1 lim env1 a'.tmps->Ex e (.bind (QdA T env1 (Φ.rest g)) fun _=>outD T Φ g nx env1 fn.results.toList) h1 n1 d h' nx' t2 -> ∃ v,(results fn a'.tmps).run P X0.w=.ok v X0.w /\ Zg T X nx lim h' nx' d (.returned v) X0.w:=?hall
       case hall =>
        intro X0 g0 s0 e0;intro q2;obtain ⟨d9,h9,n9,t9,t8,q9,q2,_⟩:=Ex.bind q2;obtain ⟨X1,w1,g1,s9,hn9⟩:=Qai K _ g0 q9;have hn9:=hn9.symm;subst hn9;have s1:=s0.trans s9 hle1;have e1:=e0.step K.base s9 (Nat.le_refl _);rw [<- w1];clear q9 g0 s0 e0;generalize h9=h1 at g1 q2;generalize t8=t2 at q2
        have hout:Ex e (outD T Φ g nx env1 fn.results.toList) h1 n1 d h' nx' t2 -> ∃ v,(results fn a'.tmps).run P X1.w=.ok v X1.w /\ Zg T X nx lim h' nx' d (.returned v) X1.w:=by
         intro q2;rw [Qsj] at q2;obtain ⟨l,h2,n2,t3,t4,q3,q4,_⟩:=Ex.bind q2;obtain ⟨e2,e3,us,r1,r2,r3⟩:=Qia K g1 e1 fn.results.toList q3;have e2:=e2.symm;have e3:=e3.symm;subst e2;subst e3
         have hrun:(results fn a'.tmps).run P X1.w=.ok (if h:us.toArray.size=1 then us.toArray[0] else .tuple us.toArray) X1.w:=by
          have hm:fn.results.mapM (resM a'.tmps)=List.toArray <$> fn.results.toList.mapM (resM a'.tmps):=by rw [Array.mapM_eq_mapM_toList]
          have e0:results fn a'.tmps=(do let vs <- fn.results.mapM (resM a'.tmps);pure (if h:vs.size=1 then vs[0] else .tuple vs)):=by
           unfold results
           congr 1
          rw [e0,hm];simp only [map_eq_pure_bind,bind_assoc,Sem.run_bind,r1,Result.andThen_ok,Sem.run_pure,pure_bind]
         have hdl:RO T X1 n1 lim (oneD l) (if h:us.toArray.size=1 then us.toArray[0] else .tuple us.toArray):=Qsk r2 r3
         generalize hvv:(if h:us.toArray.size=1 then us.toArray[0] else Value.tuple us.toArray)=vv at hrun hdl
         cases hk:Φ.keeps g with
         | true =>
          simp only [hk,cond_true] at q4;obtain ⟨c1,c2,c3,_⟩:=Ex.ret q4;rw [c1,c2,c3];exact ⟨_,hrun,_,X1,rfl,rfl,g1,s1,hdl⟩
         | false =>
          simp only [hk,cond_false] at q4;obtain ⟨d2,h3,n3,t5,t6,q5,q6,_⟩:=Ex.bind q4;obtain ⟨_,q7⟩:=Ex.gc q6;obtain ⟨c1,c2,c3,_⟩:=Ex.ret q7;rw [c1,c2,c3]
          have hfz:∃ X2,X2.w=X1.w /\ G T X2 h3 n1 lim /\ Step X1 n1 lim X2 /\ RV T X2 d2 vv /\ n3=n1 /\ ∀ id ∈ d2.refs,old n1 lim id:=by
           rcases hdl.1 with ⟨hrow,cs,hr,hv⟩ | ⟨hrow,hr⟩
           · obtain ⟨X2,a1,a2,a3,a4,a5,a6,a7⟩:=QbO K _ g1 hr hdl.2 q5;exact ⟨X2,a1,a2,a3,.inl ⟨a7.trans hrow,cs,a4,hv⟩,a5,a6⟩
           · obtain ⟨X2,a1,a2,a3,a4,a5,a6,a7⟩:=QbO K _ g1 hr hdl.2 q5;exact ⟨X2,a1,a2,a3,.inr ⟨a7.trans hrow,a4⟩,a5,a6⟩
          obtain ⟨X2,a1,a2,a3,a4,a5,a6⟩:=hfz;rw [a5];obtain ⟨X3,b1,b2,b3,_⟩:=a2.drop K.base (h':=Heap.drop nx n1 d2.refs h3) (fun i=>by rw [Yb];split <;> simp)
          exact ⟨_,hrun,_,X3,rfl,by rw [b1,a1],b2,(s1.trans a3 hle1).trans b3 hle1,RO.step K.base b3 ⟨a4,a6⟩ (Nat.le_refl _)⟩
        exact hout q2
       have fin:Ex e (.bind (QdA T env1 (Φ.rest g)) fun _=>outD T Φ g nx env1 fn.results.toList) h1 n1 d h' nx' t2->LeavesInM Fence.wide 0 P fn a'.tmps (Zg T X nx lim h' nx' d) a'.defers .returning XX.w:=fun q2=>by
        rw [hrs];exact QdN K rs XX hnd hmk gg0 ss0 ee0 fun X' g' s' e'=>hall X' g' s' e' q2
       cases x with
       | normal=>exact fin q2
       | ret=>exact fin q2
       | exit id=>exact (Ex.fail q2).elim
omit K F in
theorem Zg.since {X X':Cx} {nx nx':Nat} {lim:Lim} {h':Heap C} {d:D C} {en:Ending} {w':World} (s:Step X nx lim X') (h:Zg T X' nx lim h' nx' d en w'):Zg T X nx lim h' nx' d en w':=by
 obtain ⟨v,Y,h1,h2,h3,h4,h5⟩:=h;exact ⟨v,Y,h1,h2,h3,s.trans h4 (Nat.le_refl _),h5⟩
omit K F in
theorem K4 (E:Env C):∀ (ps:List Nat) (xs:List (D C)) (t:Nat),t ∉ ps->eget (zipE ps xs++E) t=eget E t
 | [],_,_,_=>rfl
 | _::_,[],_,_=>rfl
 | p::ps,x::xs,t,h=>by
  simp only [List.mem_cons,not_or] at h;rw [zipE,List.cons_append,Qz,if_neg h.1];exact K4 E ps xs t h.2
omit K F in
theorem Qgx (E:Env C) (t0:Nat) (x0:D C) (t:Nat) (h:t ≠ t0):∀ A:Env C,eget (A++(t0,x0)::E) t=eget (A++E) t
 | []=>by rw [List.nil_append,List.nil_append,Qz,if_neg h]
 | (j,d)::A=>by rw [List.cons_append,List.cons_append,Qz,Qz,Qgx E t0 x0 t h A]
omit K F in
theorem Qsl {nt t:Nat} {ps:List Nat} (h:ps.any (Nat.beq t)=false):t ∉ ps:=fun hm=>by
 have:ps.any (Nat.beq t)=true:=List.any_eq_true.2 ⟨t,hm,by simp⟩
 rw [this] at h;cases h
omit K F in
theorem Qsm {X:Cx} {nx:Nat} {lim:Lim} {nt:Nat}:∀ (ps:List Nat) (xs:List (D C)) (vs:List Value) (E:Env C) (tm:Array Value),okPs nt ps=true->nt <= tm.size->ps.length=xs.length->RVs T X xs vs->(∀ a ∈ xs,∀ id ∈ D.refs a,old nx lim id) ->
 (∀ t,RO T X nx lim (eget E t) (tm.getD t undef)) -> ∀ t,RO T X nx lim (eget (zipE ps xs++E) t) (((ps.zip vs).foldl (fun (tmps:Array Value) (p:Nat × Value)=>tmps.setIfInBounds p.1 p.2) tm).getD t undef):=by
 intro ps
 induction ps with
 | nil=>intro xs vs E tm _ _ _ _ _ hE t;simpa [zipE] using hE t
 | cons p ps ih =>
  intro xs vs E tm hok hsz hlen hr hx hE t;cases hr with
  | nil=>simp at hlen
  | @cons x xs v vs hv hr =>
   simp only [okPs,Bool.and_eq_true,Nat.blt_eq,Bool.not_eq_true'] at hok;obtain ⟨h1,h2,h3⟩:=hok;have hp:=Qsl (nt:=nt) h2
   have:=ih xs vs ((p,x)::E) (tm.setIfInBounds p v) h3 (by simpa using hsz) (by simpa using hlen) hr (fun a ha=>hx a (by simp [ha])) (fun u=>by
    rw [Qz]
    by_cases hu:u=p
    · subst hu;simp only [if_true]
      have e:(tm.setIfInBounds u v).getD u undef=v:=by
       have:u < tm.size:=by omega
       simp [Array.getD_eq_getD_getElem?,this]
      rw [e];exact ⟨hv,hx x (by simp)⟩
    · simp only [hu,if_false]
      have e:(tm.setIfInBounds p v).getD u undef=tm.getD u undef:=by
       simp [Array.getD_eq_getD_getElem?,Array.getElem?_setIfInBounds_ne (Ne.symm hu)]
      rw [e];exact hE u) t
   rw [List.zip_cons_cons,List.foldl_cons,zipE,List.cons_append,Qz]
   by_cases ht:t=p
   · subst ht;rw [K4 _ _ _ _ hp,Qz,if_pos rfl] at this;rw [if_pos rfl];exact this
   · rw [if_neg ht];rw [Qgx E p x t ht] at this;exact this
omit K F in
theorem QdP {X:Cx} {nx:Nat} {lim:Lim} {tm:Array Value}:∀ (slots:List Nat) (ds:List (D C)),RVs T X ds (slots.map fun t=>tm.getD t undef)->(∀ a ∈ ds,∀ id ∈ D.refs a,old nx lim id) -> ∀ t,RO T X nx lim (eget (zipE slots ds) t) (tm.getD t undef)
 | [],ds,h,_,t=>RO.mk (RV.top _ _ _) rfl
 | s::slots,[],h,_,t=>RO.mk (RV.top _ _ _) rfl
 | s::slots,d::ds,h,hr,t=>by
  cases h with
  | cons hv h =>
   rw [zipE,Qz]
   by_cases e:t=s
   · subst e;rw [if_pos rfl];exact ⟨hv,hr d (by simp)⟩
   · rw [if_neg e];exact QdP slots ds h (fun a ha=>hr a (by simp [ha])) t
omit K F in
theorem YJ:∀ (l:List (Nat × Value)) (tm:Array Value),(l.foldl (fun (tmps:Array Value) (p:Nat × Value)=>tmps.setIfInBounds p.1 p.2) tm).size=tm.size
 | [],_=>rfl
 | p::l,tm=>by rw [List.foldl_cons,YJ l];simp
omit K F in
theorem G.lpOf {X:Cx} {h:Heap C} {nx:Nat} {lim:Lim} (g:G T X h nx lim) {id l ex:Nat} {rec:Loop} {busy dn:Bool} (ho:h.get id=some (.ctl (.lp busy dn ex))) (hρ:∀ s,X.ρ id=some (.ctl s)->s=.lp l rec) :
 X.ρ id=some (.ctl (.lp l rec)) /\ ∃ pend,X.w.heap[l]? = some (.loop { rec with state:=lpSt busy dn,pending:=pend }) /\ (dn=false->pend=none) /\ (dn=true->pend=some (.exit ex)):=by
 obtain ⟨s,e1,e2⟩:=g.ctl id _ ho;obtain rfl:=hρ s e1;exact ⟨e1,e2⟩
omit F in
theorem QcN {n:Nat} (hc:Qgv P T Φ n):Qj0 P T (QbA T Φ (evC T Φ n)):=by
 intro nt slots ps asn body caps yid xs l vs X h nx lim e d h' nx' tr g hR hcr hxs hxr hlim hx;unfold QbA at hx;have hyb:Nat.beq ZP ZP=true:=by simp
 simp only [hyb,cond_true,QqC] at hx;cases hc1:(caps.noYl && xs.all D.noYl) && ((Nat.beq xs.length ps.length && okPs nt ps) && (okC nt asn && okC nt body)) with
 | false=>rw [hc1] at hx;exact (Ex.fail hx).elim
 | true =>
  rw [hc1] at hx;simp only [cond_true] at hx;simp only [Bool.and_eq_true,okC] at hc1;obtain ⟨⟨hn1,hn2⟩,⟨hlen,hps⟩,⟨ha1,ha2⟩,⟨hb1,hb2⟩⟩:=hc1;have hlen:=Nat.eq_of_beq_eq_true hlen;obtain ⟨o,tr',ho,hx,_⟩:=Ex.rd hx;cases o with
  | var _ _=>exact (Ex.fail hx).elim
  | vec _ _ _=>exact (Ex.fail hx).elim
  | map _ _ _=>exact (Ex.fail hx).elim
  | ctl cc =>
  cases cc with
  | it _ _ _=>exact (Ex.fail hx).elim
  | lp bz0 dn0 ex =>
  simp only at hx;cases hR with
  | @yl _ _ _ _ _ _ _ _ rec hw hs hcp =>
   obtain ⟨hs3,hs4,hs5,hs6⟩:=hs;subst hs4;subst hs5;obtain ⟨hρ,pend0,hb0,_⟩:=g.lpOf ho hw;have hyold:old nx lim yid:=hcr yid (by simp [D.refs])
   have hcr:∀ i ∈ caps.refs,old nx lim i:=fun i hi=>hcr i (by simp [D.refs,hi])
   have hlv:(⟨vs⟩:Array Value).size=rec.params.size:=by
    have h1:=hxs.length;have h2:ps.length=rec.params.size:=by rw [<- hs3];simp
    simp;omega
   have hy:=run_yield (P:=P) (args:=⟨vs⟩) hb0 hlv;refine ⟨_,_,_,_,hy,fun m=>roundIn_of_wpIn trivial ?_⟩;obtain ⟨⟨x1,env1⟩,h1,n1,t1,t2,q1,q2,_⟩:=Ex.bind hx;have hle1:=Ex.le q1;have hle2:=Ex.le q2;cases x1 with
   | exit id=>exact (Ex.fail q2).elim
   | ret=>exact (Ex.fail q2).elim
   | normal =>
    simp only at q2;obtain ⟨o1,t5,ho1,q2,_⟩:=Ex.rd q2;cases o1 with
    | var _ _=>exact (Ex.fail q2).elim
    | vec _ _ _=>exact (Ex.fail q2).elim
    | map _ _ _=>exact (Ex.fail q2).elim
    | ctl cc =>
    cases cc with
    | it _ _ _=>exact (Ex.fail q2).elim
    | lp bz1 dn1 ex1 =>
    simp only [QqB] at q2;rcases Ex.br q2 with ⟨hb1',q2b⟩ | ⟨_,q2⟩;rotate_left
    · exact (Ex.fail q2).elim
    clear q2;simp only [Bool.and_eq_true,Bool.not_eq_true',Nat.beq_eq] at hb1';obtain ⟨⟨rfl,rfl⟩,rfl⟩:=hb1';obtain ⟨_,t6,_,q2,_⟩:=Ex.wr q2b;obtain ⟨⟨x2,env2⟩,h2,n2,t3,t4,q3,q4,_⟩:=Ex.bind q2;have hle3:=Ex.le q3;have hle4:=Ex.le q4;obtain ⟨o2,t7,ho2,q4,_⟩:=Ex.rd q4;cases o2 with
    | var _ _=>exact (Ex.fail q4).elim
    | vec _ _ _=>exact (Ex.fail q4).elim
    | map _ _ _=>exact (Ex.fail q4).elim
    | ctl cc =>
    cases cc with
    | it _ _ _=>exact (Ex.fail q4).elim
    | lp bz2 dn2 ex2 =>
    simp only [QqA] at q4;rcases Ex.br q4 with ⟨hb2',q4b⟩ | ⟨_,q4⟩;rotate_left
    · exact (Ex.fail q4).elim
    clear q4;have q4:=q4b;clear q4b;simp only [Bool.and_eq_true,Bool.not_eq_true',Nat.beq_eq] at hb2';obtain ⟨⟨rfl,rfl⟩,rfl⟩:=hb2'
    have efold:((rec.params.zip ⟨vs⟩).foldl (fun (tmps:Array Value) (x:Nat × Value)=>match x with | (t,a)=>tmps.setIfInBounds t a) rec.tmps)=(ps.zip vs).foldl (fun (tmps:Array Value) (p:Nat × Value)=>tmps.setIfInBounds p.1 p.2) rec.tmps:=by
     rw [<- Array.foldl_toList,Array.toList_zip,hs3]
    simp only;rw [efold];refine hc (some l) m 0 nt rec.assign (.inl ha2) ha1 (fun _=>false) (fun _ _=>rfl) X h nx lim e _ .normal env1 h1 n1 t1 _ _ g ?_ (by omega) ?_ q1 ?_
    · exact Qsm ps xs vs _ rec.tmps hps hs6 hlen.symm hxs hxr (QdP slots caps.toList (hcp.toList T rfl) (fun a ha id hid=>hcr id (Y6 caps a ha id hid)))
    · show nt <= ((ps.zip vs).foldl _ rec.tmps).size;rw [YJ];exact hs6
    · intro a1 X1 g1 s1 e1 z1 _ _
      have hw1:∀ s,X1.ρ yid=some (.ctl s)->s=.lp l rec:=fun s hq=>by
       have:=s1.ρ yid hyold;rw [hρ,hq] at this
       simpa [Qd] using this
      obtain ⟨hρ1,pend1,hbk1,hp1,_⟩:=g1.lpOf ho1 hw1;obtain rfl:=hp1 rfl;obtain ⟨X1',w1',r1',g1',s1'⟩:=G.setLp K.base (busy:=true) (dn:=false) (ex:=ex2) (pend:=none) g1 ho1 hρ1 hbk1 (fun _ _ _ h=>by cases h) ⟨fun _=>rfl,fun h=>by cases h⟩
      refine ⟨X1'.w,(run_beginRound hbk1 rfl).trans ?_,?_⟩
      · rw [w1'];rfl
      refine hc (some l) m 0 nt rec.body (.inl hb2) hb1 (fun _=>false) (fun _ _=>rfl) X1' _ n1 lim e env1 x2 env2 h2 n2 t3 a1 _ g1' (Qu.step K.base s1' e1 (Nat.le_refl _)) (by omega) ?_ q3 ?_
      · have:((ps.zip vs).foldl (fun (tmps:Array Value) (p:Nat × Value)=>tmps.setIfInBounds p.1 p.2) rec.tmps).size=rec.tmps.size:=YJ _ _;rw [z1,this];exact hs6
      · intro a2 X2 g2 s2 e2 _ _ _;have hst:=(s1.trans s1' hle1).trans s2 hle1
        have hw2:∀ s,X2.ρ yid=some (.ctl s)->s=.lp l rec:=fun s hq=>by
         have:=hst.ρ yid hyold;rw [hρ,hq] at this
         simpa [Qd] using this
        obtain ⟨hρ2,pend2,hb3,hp3,_⟩:=g2.lpOf ho2 hw2;obtain rfl:=hp3 rfl;cases x2 with
        | ret=>exact (Ex.fail q4).elim
        | normal =>
         obtain ⟨_,t8,_,q4,_⟩:=Ex.wr q4;obtain ⟨rfl,rfl,rfl,rfl⟩:=Ex.ret q4;obtain ⟨X3,w3,r3,g3,s3⟩:=G.setLp K.base (busy:=false) (dn:=false) (ex:=ex2) (pend:=none) g2 ho2 hρ2 hb3 (fun _ _ _ h=>by cases h) ⟨fun _=>rfl,fun h=>by cases h⟩
         refine ⟨.bool true,X3.w,(run_endRound none hb3).trans ?_,?_⟩
         · rw [w3];rfl
         exact ⟨_,X3,rfl,rfl,g3,hst.trans s3 (by omega),RO.mk (.mk rfl (.bool true)) rfl⟩
        | exit i =>
         simp only at q4;cases hi:Nat.beq i ex2 with
         | false=>rw [hi] at q4;exact (Ex.fail q4).elim
         | true =>
         rw [hi] at q4;simp only [cond_true] at q4;obtain rfl:=Nat.eq_of_beq_eq_true hi;obtain ⟨_,t8,_,q4,_⟩:=Ex.wr q4;obtain ⟨rfl,rfl,rfl,rfl⟩:=Ex.ret q4;obtain ⟨X3,w3,r3,g3,s3⟩:=G.setLp K.base (busy:=false) (dn:=true) (ex:=i) (pend:=some (.exit i)) g2 ho2 hρ2 hb3 (fun _ _ _ h=>by cases h) ⟨fun h=>(by cases h),fun _=>rfl⟩
         refine ⟨.bool false,X3.w,(run_endRound (some (.exit i)) hb3).trans ?_,?_⟩
         · rw [w3];rfl
         exact ⟨_,X3,rfl,rfl,g3,hst.trans s3 (by omega),RO.mk (.mk rfl (.bool false)) rfl⟩
theorem K5 {n:Nat} (hc:Qgv P T Φ n):JX P T (QbA T Φ (evC T Φ n)):=by
 refine ⟨QcN K hc,?_⟩;intro g hgy args vs X h nx lim e d h' nx' tr gg hargs hrefs hlim hx;unfold QbA at hx
 have hyb:Nat.beq g ZP=false:=by
  cases h:Nat.beq g ZP with
  | false=>rfl
  | true=>exact absurd (Nat.eq_of_beq_eq_true h) hgy
 simp only [hyb,cond_false] at hx;cases hos:Φ.ospec g with
 | some s =>
  simp only [hos] at hx;obtain ⟨u,h1,n1,t1,t2,q1,q2,_⟩:=Ex.bind hx;obtain ⟨X1,w1,g1,s1,hn1⟩:=Qai K _ gg q1;subst hn1;have:=F.ospec g s hos args vs X1 h1 n1 lim e d h' nx' t2 g1 (hargs.mono' K.base s1 hrefs) hrefs hlim q2;rw [w1] at this;exact ⟨this.1,this.2.mono fun en w2 hp=>Zg.since s1 hp⟩
 | none =>
 simp only [hos] at hx;cases hs:Φ.spec g with
 | some s =>
  simp only [hs] at hx;cases hle:Φ.lend g with
  | true =>
   simp only [hle,cond_true] at hx;obtain ⟨args',h1,n1,t1,t2,q1,hx2,_⟩:=Ex.bind hx;clear hx;obtain ⟨rfl,rfl,kk⟩:=Qgu K args gg hargs q1;cases hsa:s args' with
   | none=>rw [hsa] at hx2;exact (Ex.fail hx2).elim
   | some bd =>
    obtain ⟨b,d0⟩:=bd;rw [hsa] at hx2;simp only at hx2;cases hpl:d0.plain && args'.all D.noYl with
    | false=>rw [hpl] at hx2;exact (Ex.fail hx2).elim
    | true =>
     rw [hpl] at hx2;simp only [Bool.and_eq_true] at hpl;rcases Ex.br hx2 with ⟨rfl,hx2⟩ | ⟨rfl,hx2⟩
     · obtain ⟨rfl,rfl,rfl,_⟩:=Ex.ret hx2;obtain ⟨hrf,hB⟩:=F.spec g s args' _ hs hsa;obtain ⟨c1,c2⟩:=hB X.w X.O vs gg.outs (fun p hp=>(gg.pre p hp).1) (kk hrf fun a ha=>List.all_eq_true.1 hpl.2 a ha);refine ⟨c1,c2.mono fun en w' hpp=>?_⟩;obtain ⟨v,ρ,rfl,r,hd,a1,a2,a3,a4,a5,a6⟩:=hpp;obtain ⟨g',s'⟩:=gg.grow K.base w' a1 a2 a3 a4 a5 a6;exact ⟨v,⟨w',X.ρ,X.O⟩,rfl,rfl,g',s',r.plain hpl.1,by rw [hd.1];simp⟩
     · exact (Ex.fail hx2).elim
  | false =>
  simp only [hle,cond_false] at hx;obtain ⟨args',h1,n1,t1,t2,q1,hx2,_⟩:=Ex.bind hx;clear hx;obtain ⟨X',w',g',s',r',hn,hrf⟩:=QjU K args gg hargs hrefs q1;subst hn;cases hsa:s args' with
  | none=>rw [hsa] at hx2;exact (Ex.fail hx2).elim
  | some bd =>
   obtain ⟨b,d0⟩:=bd;rw [hsa] at hx2
   have hx2:b=true /\ ∃ t3,Ex e (.ret d0) h1 n1 d h' nx' t3:=by
    cases ht:Φ.total g with
    | false =>
     simp only [ht,cond_false] at hx2;rcases Ex.br hx2 with ⟨rfl,hx2⟩ | ⟨rfl,hx2⟩
     · exact ⟨rfl,_,hx2⟩
     · exact (Ex.fail hx2).elim
    | true =>
     simp only [ht,cond_true] at hx2;cases b with
     | true=>exact ⟨rfl,_,hx2⟩
     | false=>exact (Ex.fail hx2).elim
   obtain ⟨rfl,t3,hx2⟩:=hx2;obtain ⟨rfl,rfl,rfl,_⟩:=Ex.ret hx2;obtain ⟨hrf0,hB⟩:=F.spec g s args' _ hs hsa;have:=hB.call K hrf0 g' r';rw [w'] at this;exact ⟨this.1,this.2.mono fun en w1 hp=>Zg.since s' hp⟩
 | none =>
  simp only [hs] at hx;exact J0 K F hc g args vs X h nx lim e d h' nx' tr gg hargs hrefs hlim hx
theorem QcO:∀ n,Qgv P T Φ n /\ Qgw P T Φ n:=by
 intro n
 induction n with
 | zero =>
  refine ⟨?_,?_⟩
  · intro ro m f nt code _ _ B _ X h nx lim e env x env' h' nx' tr a Q _ _ _ _ hx;exact (Ex.fail hx).elim
  · intro f fn body b _ _ _ _ _ B _ X h nx lim e env x env' h' nx' tr a Q _ _ _ _ hx;exact (Ex.fail hx).elim
 | succ n ih =>
  obtain ⟨ihC,ihR⟩:=ih;have hcall:=K5 K F ihC
  have hR:Qgw P T Φ (n+1):=by
   intro f fn body b hf hb hcb hl hnone B hB X h nx lim e env x env' h' nx' tr a Q g he hlim hsz hx hk;simp only [evC,Qr5,hnone] at hx;obtain ⟨⟨x1,env1⟩,h1,n1,t1,t2,q1,q2,_⟩:=Ex.bind hx;have hle:=Ex.le q2;have hle1:=Ex.le q1;rw [rounds_succ];refine (wpIn_wide (n:=0)).1 (ihC none 0 f fn.ntmps b (.inr ⟨rfl,fn,body,hf,rfl,hb,fun b' hb'=>hl b' (by simp [QN,hb'])⟩) (by simpa [Zz] using hcb) B hB X h nx lim e env x1 env1 h1 n1 t1 a _ g he (by omega) hsz q1 ?_)
   intro a1 X1 g1 s1 e1 hs1 hd1 kp1;cases x1 with
   | normal =>
    simp only [QoR] at q2;exact ihR f fn body b hf hb hcb hl hnone B hB X1 h1 n1 lim e env1 x env' h' nx' t2 a1 Q g1 e1 hlim (by omega) q2 fun a2 X2 g2 s2 e2 hs2 hd2 kp2=>hk a2 X2 g2 (s1.trans s2 hle1) e2 (by omega) (hd1.trans s1 s2 hd2) (kp1.trans kp2)
   | exit id =>
    obtain ⟨hxx,rfl,rfl,rfl⟩:=Ex.ret q2;obtain ⟨rfl,rfl⟩:=Prod.mk.inj hxx;exact hk a1 X1 g1 s1 e1 hs1 hd1 kp1
   | ret =>
    obtain ⟨hxx,rfl,rfl,rfl⟩:=Ex.ret q2;obtain ⟨rfl,rfl⟩:=Prod.mk.inj hxx;exact hk a1 X1 g1 s1 e1 hs1 hd1 kp1
  refine ⟨?_,hR⟩;intro ro m f nt code hfl hcb B hB X h nx lim e env x env' h' nx' tr a Q g he hlim hsz hx hk
  have done:∀ x0,Ex e (.ret (x0,env):Pg C (Ev.X × Env C)) h nx (x,env') h' nx' tr->Q (QcK x0) a X.w:=by
   intro x0 hx;obtain ⟨hxx,rfl,rfl,rfl⟩:=Ex.ret hx;obtain ⟨rfl,rfl⟩:=Prod.mk.inj hxx;exact hk a X g (.refl _ _ _) he rfl (.refl _ _ _) (.refl _ _)
  cases code with
  | skip=>exact wpIn_skip (done _ hx)
  | label l=>exact wpIn_label (done _ hx)
  | ret=>exact wpIn_ret (done _ hx)
  | exit id=>exact wpIn_exit (done _ hx)
  | region id ops draw =>
   simp only [evC] at hx;simp only [Zz,Bool.and_eq_true] at hcb;have hdst:∀ o ∈ ops.toList,∀ t,o.dst=some t->t < a.tmps.size:=fun o ho t ht=>Nat.lt_of_lt_of_le (QaQ hcb.1 o ho t ht) hsz;have hBo:∀ o ∈ ops.toList,∀ t,o.dst=some t->B t=false:=fun o ho t ht=>hB t (by simp only [asgL,List.mem_filterMap];exact ⟨o,ho,ht⟩)
   cases draw with
   | true =>
    simp only [cond_true] at hx;obtain ⟨_,h0,n0,t8,t9,q0,hx,_⟩:=Ex.bind hx;obtain ⟨X0,w0,g0,s0,hn0⟩:=Qai K _ g q0;have hn0:=hn0.symm;subst hn0;simp only [Quo] at hx;have hx:=Ex.cnt hx;obtain ⟨env1,h1,n1,t1,t2,q1,q2,_⟩:=Ex.bind hx;obtain ⟨hxx,rfl,rfl,rfl⟩:=Ex.ret q2;obtain ⟨rfl,rfl⟩:=Prod.mk.inj hxx;have hle:=Ex.le q1;rw [<- w0];exact Qsf K hcall hBo K.order (Qic (by simpa using hcb.2)) g0 (he.step K.base s0 (Nat.le_refl _)) hlim hdst q1 fun a' X' g' s' e' hs' hd' kp'=>hk a' X' g' (s0.trans s' (Nat.le_refl _)) e' hs' (.of_eq hd') kp'
   | false =>
    simp only [cond_false,regC] at hx;obtain ⟨env1,h1,n1,t1,t2,q1,q2,_⟩:=Ex.bind hx;obtain ⟨hxx,rfl,rfl,rfl⟩:=Ex.ret q2;obtain ⟨rfl,rfl⟩:=Prod.mk.inj hxx;refine wpIn_region ?_;rw [List.range_eq_range'];have:=Qgt (ro:=ro) (m:=m) K hcall hBo ops.toList 0 rfl g he hlim hdst q1 (Q:=Q) (fun a' X' g' s' e' hs' hd' kp'=>hk a' X' g' s' e' hs' (.of_eq hd') kp')
    simpa using this
  | seq c1 c2 =>
   simp only [evC] at hx;simp only [Zz,Bool.and_eq_true] at hcb;obtain ⟨⟨x1,env1⟩,h1,n1,t1,t2,q1,q2,_⟩:=Ex.bind hx;have hle:=Ex.le q2;have hle1:=Ex.le q1;refine wpIn_seq (ihC ro m f nt c1 (okL hfl (fun h=>by simp only [YY,Bool.and_eq_true] at h;exact h.1) (fun b hb=>by simp [QN,hb])) hcb.1 B (fun t ht=>hB t (by simp [asgL,ht])) X h nx lim e env x1 env1 h1 n1 t1 a _ g he (by omega) hsz q1 ?_)
   intro a1 X1 g1 s1 e1 hs1 hd1 kp1;cases x1 with
   | normal =>
    simp only [QoR] at q2;exact ihC ro m f nt c2 (okL hfl (fun h=>by simp only [YY,Bool.and_eq_true] at h;exact h.2) (fun b hb=>by simp [QN,hb])) hcb.2 B (fun t ht=>hB t (by simp [asgL,ht])) X1 h1 n1 lim e env1 x env' h' nx' t2 a1 Q g1 e1 hlim (by omega) q2 fun a2 X2 g2 s2 e2 hs2 hd2 kp2=>hk a2 X2 g2 (s1.trans s2 hle1) e2 (by omega) (hd1.trans s1 s2 hd2) (kp1.trans kp2)
   | exit id =>
    obtain ⟨hxx,rfl,rfl,rfl⟩:=Ex.ret q2;obtain ⟨rfl,rfl⟩:=Prod.mk.inj hxx;exact hk a1 X1 g1 s1 e1 hs1 hd1 kp1
   | ret =>
    obtain ⟨hxx,rfl,rfl,rfl⟩:=Ex.ret q2;obtain ⟨rfl,rfl⟩:=Prod.mk.inj hxx;exact hk a1 X1 g1 s1 e1 hs1 hd1 kp1
  | cond c c1 c2 =>
   simp only [evC,Qun] at hx;simp only [Zz,Bool.and_eq_true] at hcb
   have side0:∀ (b:Bool) (env0:Env C) (x0:Ev.X) (env1:Env C) (tr1:Tr) (B':Nat->Bool),(∀ t ∈ asgL c1++asgL c2,B' t=false)->Qu T X nx lim env0 a.tmps->a.eval c=.bool b->Ex e (evC T Φ n f (if b then c1 else c2) env0) h nx (x0,env1) h' nx' tr1 ->
    Qj3 T B' X nx lim h' nx' env1 a (Q (QcK x0))->(Code.cond c c1 c2).wpIn (roF ro) m P Q a X.w:=by
    intro b env0 x0 env1 tr1 B' hB' he0 hc0 hx0 hk0;refine wpIn_cond hc0 (ihC ro m f nt _ ?_ ?_ B' (fun t ht=>hB' t (by cases b <;> simp at ht ⊢ <;> simp [ht])) X h nx lim e env0 x0 env1 h' nx' tr1 a Q g he0 hlim hsz hx0 hk0)
    · exact okL hfl (fun h=>by simp only [YY,Bool.and_eq_true] at h;cases b <;> simp [h.1,h.2]) (fun b' hb'=>by cases b <;> simp [QN] at hb' ⊢ <;> simp [hb'])
    · cases b <;> simp [hcb.1,hcb.2]
   have side:∀ (b:Bool) (env0:Env C),Qu T X nx lim env0 a.tmps->a.eval c=.bool b->Ex e (evC T Φ n f (if b then c1 else c2) env0) h nx (x,env') h' nx' tr->(Code.cond c c1 c2).wpIn (roF ro) m P Q a X.w:=by
    intro b env0 he0 hc0 hx0;refine wpIn_cond hc0 (ihC ro m f nt _ ?_ ?_ B (fun t ht=>hB t (by cases b <;> simp [asgL] at ht ⊢ <;> simp [ht])) X h nx lim e env0 x env' h' nx' tr a Q g he0 hlim hsz hx0 hk)
    · exact okL hfl (fun h=>by simp only [YY,Bool.and_eq_true] at h;cases b <;> simp [h.1,h.2]) (fun b' hb'=>by cases b <;> simp [QN] at hb' ⊢ <;> simp [hb'])
    · cases b <;> simp [hcb.1,hcb.2]
   cases c with
   | tmp t =>
    simp only at hx;have het:=he t;generalize hq:eget env t=q at hx het;cases q with
    | bool b =>
     simp only at hx;have hv:a.eval (.tmp t)=.bool b:=het.1.bool;rcases mrgC_cases (bif pureC Φ c1 && pureC Φ c2 then some (asgL c1++asgL c2) else none) env b (evC T Φ n f c1 ((t,.bool true)::env)) (evC T Φ n f c2 ((t,.bool false)::env)) with hm | ⟨l,x1,y1,r,hp1,hp2,hr,hml,hm⟩
     · rw [hm] at hx;rcases Ex.br hx with ⟨rfl,hx⟩ | ⟨rfl,hx⟩
       · exact side true _ (he.cons_same hq) hv hx
       · exact side false _ (he.cons_same hq) hv hx
     · rw [hm] at hx;obtain ⟨hxx,rfl,rfl,rfl⟩:=Ex.ret hx;obtain ⟨rfl,rfl⟩:=Prod.mk.inj hxx
       have hl2:l=asgL c1++asgL c2:=by
        cases hpp:pureC Φ c1 && pureC Φ c2 with
        | false=>simp [hpp] at hml
        | true=>simpa [hpp] using hml.symm
       have hex:Ex e (evC T Φ n f (if b then c1 else c2) ((t,.bool b)::env)) h' nx' (.normal,bif b then x1 else y1) h' nx' []:=by
        cases b with
        | true=>simp only [if_true,hp1];simp [Ex,Pg.run]
        | false=>simp only [Bool.false_eq_true,if_false,hp2];simp [Ex,Pg.run]
       refine side0 b ((t,.bool b)::env) .normal (bif b then x1 else y1) [] (fun u=>B u || !(l.any (Nat.beq u))) (fun u hu=>?_) (he.cons_same hq) hv hex ?_
       · have h1:l.any (Nat.beq u)=true:=List.any_eq_true.2 ⟨u,by rw [hl2];exact hu,by simp⟩
         have h2:B u=false:=hB u (by simpa [asgL] using hu)
         simp only [h1,h2];rfl
       · intro a1 X1 g1 s1 e1 hs1 hd1 kp1;refine hk a1 X1 g1 s1 (fun u=>?_) hs1 hd1 (fun u hu=>kp1 u (by simp [hu]))
         rcases mrgE_get (t:=u) (env:=env) hr with ⟨h1,h2⟩ | ⟨h1,h2⟩
         · refine Qsi h2 ?_;have:=e1 u;cases b <;> simpa using this
         · rw [h2,kp1 u (by simp only [h1];simp)]
           exact (he u).step K.base s1 (Nat.le_refl _)
    | _=>exact (Ex.fail hx).elim
   | const v =>
    cases v with
    | bool b =>
     simp only at hx;rcases Ex.br hx with ⟨rfl,hx⟩ | ⟨rfl,hx⟩
     · exact side true _ he rfl hx
     · exact side false _ he rfl hx
    | _=>exact (Ex.fail hx).elim
   | global q=>exact (Ex.fail hx).elim
   | func q=>exact (Ex.fail hx).elim
  | scope c =>
   simp only [evC] at hx;refine Qib (ihC ro m f nt c (okL hfl (fun h=>by simp [YY] at h) (fun b hb=>by simpa [QN] using hb)) (by simpa [Zz] using hcb) B (fun t ht=>hB t (by simpa [asgL] using ht)) X h nx lim e env x env' h' nx' tr a _ g he hlim hsz hx ?_)
   intro a1 X1 g1 s1 e1 hs1 hd1 kp1;cases x <;> exact hk a1 X1 g1 s1 e1 hs1 hd1 kp1
  | block id c =>
   simp only [evC] at hx;obtain ⟨⟨x1,env1⟩,h1,n1,t1,t2,q1,q2,_⟩:=Ex.bind hx;have hle:=Ex.le q2;refine wpIn_block (ihC ro m f nt c (okL hfl (fun h=>by simpa [YY] using h) (fun b hb=>by simpa [QN] using hb)) (by simpa [Zz] using hcb) B (fun t ht=>hB t (by simpa [asgL] using ht)) X h nx lim e env x1 env1 h1 n1 t1 a _ g he (by omega) hsz q1 ?_)
   intro a1 X1 g1 s1 e1 hs1 hd1 kp1;cases x1 with
   | normal =>
    obtain ⟨hxx,rfl,rfl,rfl⟩:=Ex.ret q2;obtain ⟨rfl,rfl⟩:=Prod.mk.inj hxx;exact hk a1 X1 g1 s1 e1 hs1 hd1 kp1
   | exit i =>
    simp only [Qgh] at q2;show (if i=id then Q .normal a1 X1.w else Q (.exit i) a1 X1.w)
    cases hi:Nat.beq i id with
    | true =>
     simp only [hi,cond_true] at q2;obtain ⟨hxx,rfl,rfl,rfl⟩:=Ex.ret q2;obtain ⟨rfl,rfl⟩:=Prod.mk.inj hxx;have:i=id:=Nat.eq_of_beq_eq_true hi;simp only [this,if_true];exact hk a1 X1 g1 s1 e1 hs1 hd1 kp1
    | false =>
     simp only [hi,cond_false] at q2;obtain ⟨hxx,rfl,rfl,rfl⟩:=Ex.ret q2;obtain ⟨rfl,rfl⟩:=Prod.mk.inj hxx;have:i ≠ id:=Nat.ne_of_beq_eq_false hi;simp only [this,if_false];exact hk a1 X1 g1 s1 e1 hs1 hd1 kp1
   | ret =>
    obtain ⟨hxx,rfl,rfl,rfl⟩:=Ex.ret q2;obtain ⟨rfl,rfl⟩:=Prod.mk.inj hxx;exact hk a1 X1 g1 s1 e1 hs1 hd1 kp1
  | loop c =>
   obtain ⟨rfl,fn,body,hf,rfl,hb,hl⟩:=hfl.resolve_left (by simp [YY])
   refine wpIn_wide.2 ?_;cases hs:Φ.loop f (Qv c) with
   | none=>exact wp_loop_rounds (n+1) (hR f fn body c hf hb hcb hl hs B (fun t ht=>hB t (by simpa [asgL] using ht)) X h nx lim e env x env' h' nx' tr a Q g he hlim hsz hx hk)
   | some s =>
    simp only [evC,Qr5,hs] at hx;obtain ⟨⟨x1,env1⟩,h1,n1,t1,t2,q1,q2,_⟩:=Ex.bind hx;obtain ⟨hxx,rfl,rfl,_⟩:=Ex.ret q2;obtain ⟨rfl,rfl⟩:=Prod.mk.inj hxx;have hle1:=Ex.le q1;refine F.loop f fn body c s hf hb (hl c (by simp [QN])) hs (fun t=>B t || !((asgL c).any (Nat.beq t))) (fun t ht=>?_) X h nx lim e env x env1 h' nx' t1 a Q g he hlim hsz q1 ?_
    · have h1:(asgL c).any (Nat.beq t)=true:=List.any_eq_true.2 ⟨t,ht,by simp⟩
      have h2:B t=false:=hB t (by simpa [asgL] using ht)
      simp only [h1,h2];rfl
    · intro a1 X1 g1 s1 e1 hs1 hd1 kp1;refine hk a1 X1 g1 s1 (fun t=>?_) hs1 hd1 (fun t ht=>kp1 t (by simp [ht]))
      rcases eget_app env1 (keepE (asgL c) env) t with h1 | h1
      · rw [h1];exact e1 t
      · rw [h1];cases hq:(asgL c).any (Nat.beq t) with
        | true=>rw [QcM hq];exact RO.mk (RV.top _ _ _) rfl
        | false =>
         rw [QaS hq,kp1 t (by simp only [hq];simp)]
         exact (he t).step K.base s1 hle1
  | rangeFunc gq ps asn body' =>
   obtain ⟨rfl,fn,body,hf,rfl,hb,hl⟩:=hfl.resolve_left (by simp [YY])
   simp only [evC,QqE,hf] at hx;have hgo:=QE he gq;generalize hq:evAt env gq=q at hx hgo;cases q with
   | fn fid caps =>
    simp only at hx;cases hyb:Nat.beq fid ZP with
    | true=>rw [hyb] at hx;exact (Ex.fail hx).elim
    | false =>
     rw [hyb] at hx;have hfy:fid ≠ ZP:=fun e=>by rw [e] at hyb;simp at hyb
     simp only [cond_false] at hx;obtain ⟨tn0,hx,_⟩:=Ex.nw hx;obtain ⟨d0,h1,n1,t1,t2,q1,q2,_⟩:=Ex.bind hx;have hle1:=Ex.le q1;have hle2:=Ex.le q2;obtain ⟨o2,t3,ho2,q2,_⟩:=Ex.rd q2;cases o2 with
     | var _ _=>exact (Ex.fail q2).elim
     | vec _ _ _=>exact (Ex.fail q2).elim
     | map _ _ _=>exact (Ex.fail q2).elim
     | ctl cc =>
     cases cc with
     | it _ _ _=>exact (Ex.fail q2).elim
     | lp bz dn ex2 =>
     simp only [QqD] at q2;rcases Ex.br q2 with ⟨hbz,q2b⟩ | ⟨_,q2⟩;rotate_left
     · exact (Ex.fail q2).elim
     clear q2;simp only [Bool.and_eq_true,Bool.not_eq_true',Nat.beq_eq] at hbz;obtain ⟨rfl,hex⟩:=hbz;obtain ⟨_,t4,_,q2,_⟩:=Ex.dl q2b
     have hend2:(x,env')=(if dn then .exit (QbB body') else .normal,env) /\ h'=h1.del nx /\ nx'=n1:=by
      rcases Ex.br q2 with ⟨rfl,q2⟩ | ⟨rfl,q2⟩ <;> obtain ⟨e1,e2,e3,_⟩:=Ex.ret q2 <;> exact ⟨e1,e2,e3⟩
     obtain ⟨hxx,rfl,rfl⟩:=hend2;obtain ⟨rfl,rfl⟩:=Prod.mk.inj hxx;have hR:=hgo.1.one rfl;generalize hv:a.eval gq=vf at hR hgo;cases hR with
     | @fn _ _ cvs hcv =>
      refine wpIn_rangeFunc ?_;intro fnid _;rw [QjZ];obtain ⟨rc,hrc⟩:∃ rc:Loop,rc={ state:=.ready,pending:=none,fn:=fnid,tmps:=a.tmps,params:=ps,assign:=asn,body:=body',defers:=X.w.heap.size }:=⟨_,rfl⟩;have hz0:(X.w.alloc (.deferred (some []))).heap.size=X.w.heap.size+1:=by simp
      obtain ⟨g0,s0⟩:=g.grow K.base (X.w.alloc (.deferred (some []))) (by omega) (fun k hk=>RowKit.Below.heap_alloc _ _ k hk) rfl rfl rfl (fun q hq=>ZR (RowKit.Below.heap_alloc _ _ _ hq))
      obtain ⟨X1,w1,O1,ρ1,g1,s1⟩:=G.newLp K.base g0 (by omega) rc (QbB body') (by rw [hrc]) (by rw [hrc])
      simp only at w1 O1 ρ1;rw [hz0] at ρ1;have s01:=s0.trans s1 (Nat.le_refl _)
      have hK1:X1.w.heap[X.w.heap.size]? = some (.deferred (some [])):=by
       rw [w1];exact (RowKit.Below.heap_alloc _ _ _ (by simp)).trans (World.alloc_heap_new X.w _)
      have hz1:X1.w.heap.size=X.w.heap.size+2:=by rw [w1];simp
      have hys:R T X1 false (.yl fn.ntmps (KX (YH asn++YH body') env') ps.toList asn body' (D.ofList ((KX (YH asn++YH body') env').map (eget env'))) nx) [.func (.yield (X.w.heap.size+1)) #[] #[]]:=by
       refine .yl (rec:=rc) (fun s hq=>?_) (by rw [hrc];exact ⟨rfl,rfl,rfl,hsz⟩) ?_
       · rw [ρ1] at hq;cases hq;rfl
       rw [hrc]
       have:∀ sl:List Nat,RVs T X1 (sl.map (eget env')) (sl.map fun t=>a.tmps.getD t undef):=by
        intro sl
        induction sl with
        | nil=>exact .nil
        | cons t sl ih=>exact .cons ((he t).step K.base s01 (Nat.le_refl _)).1 ih
       exact (this _).row T
      have hargs:RVs T X1 (.yl fn.ntmps (KX (YH asn++YH body') env') ps.toList asn body' (D.ofList ((KX (YH asn++YH body') env').map (eget env'))) nx::caps.toList) (.func (.yield (X.w.heap.size+1)) #[] #[]::cvs) :=
       .cons (.inr ⟨rfl,hys⟩) ((hcv.toList T rfl).mono' K.base s01 (fun q hq id hid=>hgo.2 id (by simpa [D.refs] using Y6 caps q hq id hid)))
      have hrefs:∀ q ∈ (.yl fn.ntmps (KX (YH asn++YH body') env') ps.toList asn body' (D.ofList ((KX (YH asn++YH body') env').map (eget env'))) nx::caps.toList:List (D C)),∀ id ∈ D.refs q,old (nx+1) lim id:=by
       intro q hq id hid;rcases List.mem_cons.1 hq with rfl | hq
       · simp only [D.refs,List.mem_append,List.mem_singleton] at hid;rcases hid with hid | rfl
         · obtain ⟨q2,hq2,hi⟩:=JH _ id hid;obtain ⟨t,_,rfl⟩:=List.mem_map.1 hq2;exact ((he t).2 id hi).mono (by omega)
         · exact g0.new (by omega)
       · exact (hgo.2 id (by simpa [D.refs] using Y6 caps q hq id hid)).mono (by omega)
      obtain ⟨c1,c2⟩:=hcall.2 fid hfy _ _ X1 _ (nx+1) lim e d0 h1 nx' t1 g1 hargs hrefs (by omega) q1
      refine ⟨X.w.heap.size+1,[QdM X.w.heap.size],X1.w,{ target:=.fn (.func fid) ⟨cvs⟩,args := #[.func (.yield (X.w.heap.size+1)) #[] #[]] },X1.w,fid,⟨.func (.yield (X.w.heap.size+1)) #[] #[]::cvs⟩,X1.w,?_,?_,?_,?_,Qgn,?_⟩
      · rw [w1,hrc];exact run_enterLoop_outer _ _ _ _ _
      · simp only [resolve,hv];simp [go_sem]
      · intro f' _;exact roF_fn none f'
      · have e2:(#[.func (.yield (X.w.heap.size+1)) #[] #[]]:Array Value)++⟨cvs⟩=⟨.func (.yield (X.w.heap.size+1)) #[] #[]::cvs⟩:=by apply Array.ext';simp
        simp only [invoke,e2];exact c1
      · refine Qgo (c2.mono fun en w2 hp=>?_);obtain ⟨v,X2,rfl,rfl,g2,s2,r2⟩:=hp;have s02:=s01.trans s2 (Nat.le_succ _)
        have hw2:∀ s,X2.ρ nx=some (.ctl s)->s=.lp (X.w.heap.size+1) rc:=fun s hq=>by
         have:=s2.ρ nx (g0.new (by omega))
         rw [ρ1,hq] at this
         simpa [Qd] using this
        obtain ⟨hρ2,pend,hb2,hp1,hp2⟩:=g2.lpOf ho2 hw2;obtain ⟨X3,w3,g3,s3,hback⟩:=G.drop K.base g2 (h':=h1.del nx) (fun j=>by rw [QR];by_cases hj:j=nx <;> simp [hj])
        have hnm:∀ o,¬ X3.mine (X.w.heap.size+1) o:=by
         rintro o ⟨j,q,z1,z2⟩
         have:=g2.apart j nx q _ (X.w.heap.size+1) o 0 (hback j q z1) hρ2 z2 rfl;subst this;have:=g3.dom j q z1;rw [QR] at this;simp at this
        have hb3:X3.w.heap[X.w.heap.size+1]? = some (.loop { rc with state:=lpSt false dn,pending:=pend }):=by rw [w3];exact hb2
        have tn:QbD X3 (X.w.heap.size+1) (X3.w.putObj (X.w.heap.size+1) (.loop { { rc with state:=lpSt false dn,pending:=pend } with state:=.exhausted })):=QaP hb3 (fun c t f h=>by cases h) hnm
        have hend:=run_endLoop (P:=P) hb3 (by cases dn <;> simp [lpSt])
        obtain ⟨W4,hW4⟩:∃ W4,X3.w.putObj (X.w.heap.size+1) (.loop { { rc with state:=lpSt false dn,pending:=pend } with state:=.exhausted })=W4:=⟨_,rfl⟩;rw [hW4] at hend tn;rw [w3] at hend;refine ⟨pend,W4,hend,?_⟩;have s3:=(s02.trans s3 (by omega)).turn tn (by omega)
        have fin:Q (QcK (if dn then .exit (QbB body') else .normal)) { a with defers:=QdM X.w.heap.size::a.defers } W4:=by
         refine hk { a with defers:=QdM X.w.heap.size::a.defers } ⟨W4,X3.ρ,X3.O⟩ (g3.turn K.base tn) s3 (Qu.step K.base s3 he (by omega)) rfl ⟨[X.w.heap.size],rfl,by simp,fun r hr=>?_⟩ (.refl _ _)
         obtain rfl:r=X.w.heap.size:=by simpa using hr
         have hnm0:∀ o,¬ X3.mine X.w.heap.size o:=fun o ho=>by
          have h5:X2.mine X.w.heap.size o:=by
           obtain ⟨j,q,z1,z2⟩:=ho;exact ⟨j,q,hback j q z1,z2⟩
          have h6:=s2.mine _ o (by omega) h5
          rcases g1.mine_kind h6 with ⟨_,_,_,e⟩ | ⟨_,_,e⟩ | ⟨_,e⟩ | ⟨_,_,_,_,e⟩ <;> rw [e] at hK1 <;> cases hK1
         refine ⟨Nat.le_refl _,?_,hnm0⟩
         have h7:∀ o,¬ X1.mine X.w.heap.size o:=fun o ho=>by
          rcases g1.mine_kind ho with ⟨_,_,_,e⟩ | ⟨_,_,e⟩ | ⟨_,e⟩ | ⟨_,_,_,_,e⟩ <;> rw [e] at hK1 <;> cases hK1
         exact ((tn.block _ (by omega)).trans (by rw [w3];exact s2.block _ (by omega) h7)).trans hK1
        cases dn with
        | false=>obtain rfl:=hp1 rfl;exact fin
        | true =>
         obtain rfl:=hp2 rfl;subst hex;exact wpIn_exit fin
   | _=>exact (Ex.fail hx).elim
  | _=>exact (Ex.fail hx).elim
theorem Qpc (n:Nat):Quu P T (QaE T Φ (evC T Φ n)):=J0 K F (QcO K F n).1
theorem Qsn (n:Nat):JX P T (QbA T Φ (evC T Φ n)):=K5 K F (QcO K F n).1
end
section
variable {C:Cdc} {P:Program} {T:Tab C} {Φ:Fns C}
open Pg (Ex)
theorem QqJ {n:Nat} {f:FuncId} {args:List (D C)} {d:D C} (h:evF T Φ n f args=some d):∃ h' nx' tr,Ex (0,0) (QaE T Φ (evC T Φ n) f args) [] 0 d h' nx' tr /\ d.refs=[] /\ d.noYl=true:=by
 unfold evF at h;obtain ⟨a,h',n',t,h1,h2⟩:=Pg.run_some h;cases hb:a.refs.isEmpty && a.noYl with
 | false=>simp [hb] at h2
 | true =>
  simp only [hb,cond_true,Option.some.injEq] at h2;subst h2;rw [Bool.and_eq_true] at hb;exact ⟨h',n',t,h1,List.isEmpty_iff.1 hb.1,hb.2⟩
def lim0 (n:Nat):Lim:=⟨0,n,fun _=>False,fun _ _ _ h=>h⟩
theorem G.start (w:World) (O:Nat->Nat->Prop) (hO:∀ b o,O b o->b < w.heap.size) (hp:∀ p ∈ T.pre,∃ t f,w.heap[p.1]? = some (.cells p.2 t f)) (n:Nat):G T ⟨w,fun _=>none,O⟩ [] 0 (lim0 n) where
 var id t d h:=by simp [Heap.get] at h
 vec id t own l h:=by simp [Heap.get] at h
 map id ck cv l h:=by simp [Heap.get] at h
 ctl id c h:=by simp [Heap.get] at h
 dom id l h:=by simp at h
 nums id o h:=by simp [Heap.get] at h
 apart id id' l l' b o o' h:=by simp at h
 outer b o h:=by obtain ⟨_,_,h,_⟩:=h;simp at h
 outs:=hO
 low:=Nat.le_refl _
 pre p h:=⟨hp p h,fun o ⟨_,_,hq,_⟩=>by simp at hq⟩
variable (K:QX P T) (F:Qi P T Φ)
include K F
theorem QdQ {n:Nat} {f:FuncId} {args:List (D C)} {d:D C} (h:evF T Φ n f args=some d) (hargs:∀ a ∈ args,D.refs a=[]) (w:World) (O:Nat->Nat->Prop) (hO:∀ b o,O b o->b < w.heap.size) (hp:∀ p ∈ T.pre,∃ t f,w.heap[p.1]? = some (.cells p.2 t f)) {vs:List Value}
 (hvs:RVs T ⟨w,fun _=>none,O⟩ args vs):(callFunc f ⟨vs⟩).run P w=.ok (.enter f ⟨vs⟩) w /\ Calls P f ⟨vs⟩ w fun en w' =>
  ∃ v ρ,en=.returned v /\ RV T ⟨w',ρ,O⟩ d v /\ w.heap.size <= w'.heap.size /\ (∀ b,b < w.heap.size->w'.heap[b]? = w.heap[b]?) /\ w'.os=w.os /\ w'.tape=w.tape /\ w'.output=w.output /\ (∀ a:Addr,a.block < w.heap.size->w'.frozen? a=w.frozen? a):=by
 obtain ⟨h',nx',tr,hx,hd,_⟩:=QqJ h;have g:=G.start (T:=T) w O hO hp nx';obtain ⟨q1,q2⟩:=Qpc K F n f args vs _ _ _ _ _ _ _ _ _ g hvs (fun a ha id hid=>by rw [hargs a ha] at hid;simp at hid) (Nat.le_refl _) hx
 refine ⟨q1,q2.mono fun en w' hp=>?_⟩;obtain ⟨v,X',rfl,rfl,g',s',r'⟩:=hp;have hO':X'.O=O:=s'.O;refine ⟨v,X'.ρ,rfl,?_,s'.size,fun b hb=>s'.block b hb (fun o hm=>by obtain ⟨_,_,hq,_⟩:=hm;simp at hq),s'.os,s'.tape,s'.output,s'.frz⟩
 rw [<- hO'];exact r'.1
theorem Qgy {n:Nat} {f:FuncId} {args:List (D C)} {d:D C} (h:evF T Φ n f args=some d) (hargs:∀ a ∈ args,D.refs a=[]):Vz P T f args d:=by
 intro w O vs hO hp hvs;have hd:d.refs=[] /\ d.noYl=true:=by obtain ⟨_,_,_,_,hd⟩:=QqJ h;exact hd
 obtain ⟨q1,q2⟩:=QdQ K F h hargs w O hO hp hvs;refine ⟨q1,q2.mono fun en w' hpp=>?_⟩;obtain ⟨v,ρ,rfl,r,a1,a2,a3,a4,a5,a6⟩:=hpp;exact ⟨v,ρ,rfl,r,hd,a1,a2,a3,a4,a5,a6⟩
end
inductive Tree (α:Type) where
 | nil
 | node (k:Nat) (a:α) (l r:Tree α)
namespace Tree
variable {α:Type}
def get (u:Nat):Tree α->Option α
 | .nil=>none
 | .node k a l r=>bif Nat.blt u k then l.get u else bif Nat.blt k u then r.get u else some a
def all (p:Nat->α->Bool):Tree α->Bool
 | .nil=>true
 | .node k a l r=>p k a && l.all p && r.all p
theorem get_all {p:Nat->α->Bool} {u:Nat} {a:α}:∀ {t:Tree α},t.all p=true->t.get u=some a->p u a=true
 | .nil,_,h=>by simp [get] at h
 | .node k b l r,h,hg=>by
  simp only [all,Bool.and_eq_true] at h;simp only [get] at hg;cases h1:Nat.blt u k with
  | true=>rw [h1] at hg;exact get_all h.1.2 hg
  | false =>
   rw [h1] at hg;cases h2:Nat.blt k u with
   | true=>rw [h2] at hg;exact get_all h.2 hg
   | false =>
    rw [h2] at hg;simp only [cond_false,Option.some.injEq] at hg;have e1:¬ u < k:=by rw [<- Nat.blt_eq,h1];simp
    have e2:¬ k < u:=by rw [<- Nat.blt_eq,h2];simp
    obtain rfl:u=k:=by omega
    rw [<- hg];exact h.1.1
end Tree
section
variable {C:Cdc}
structure Row (C:Cdc) where
 g:GT C
 size:Nat
 bytes:Nat
 zero:Option (D C)
structure Cod (C:Cdc) where
 enc:(t:C.Ty)->C.A t->D C
 dec:(t:C.Ty)->D C->Option (C.A t)
 dflt:(t:C.Ty)->C.A t
 ety:C.Ty->TypeId
 eqb:(t:C.Ty)->C.A t->C.A t->Option Bool
 u8s:(t:C.Ty)->Option (List (C.A t)->List UInt8)
 ofU8s:(t:C.Ty)->Option (List UInt8->List (C.A t))
def ZS (cd:Cod C) (t:Tree (Row C)) (pre:List (Nat × Array Value):=[]) (settle:TypeId->Bool:=fun _=>true):Tab C where
 ty u:=match t.get u with | some r=>r.g | none=>.none
 size u:=match t.get u with | some r=>r.size | none=>0
 bytes u:=match t.get u with | some r=>r.bytes | none=>0
 enc:=cd.enc
 dec:=cd.dec
 dflt:=cd.dflt
 ety:=cd.ety
 eqb:=cd.eqb
 zero u:=match t.get u with | some r=>r.zero | none=>none
 u8s:=cd.u8s
 ofU8s:=cd.ofU8s
 pre:=pre
 settle:=settle
def gtB:GT C->GT C->Bool
 | .bool,.bool | .str,.str | .fn,.fn=>true
 | .int k,.int k'=>decide (k=k')
 | .struct a fs,.struct a' fs'=>a == a' && fs == fs'
 | .arr n e t,.arr n' e' t'=>Nat.beq n n' && Nat.beq e e' && decide (t=t')
 | .sl e t,.sl e' t'=>Nat.beq e e' && decide (t=t')
 | .ptr e,.ptr e'=>Nat.beq e e'
 | .dsl e,.dsl e'=>Nat.beq e e'
 | .map k v ck cv,.map k' v' ck' cv'=>Nat.beq k k' && Nat.beq v v' && decide (ck=ck') && decide (cv=cv')
 | _,_=>false
theorem Qj6 {a b:GT C} (h:gtB a b=true):a=b:=by
 cases a <;> cases b <;> simp_all [gtB]
variable (P:Program) (T:Tab C)
def zRl {t:C.Ty} (f:D C->List Value->Option (List Value)):List (C.A t)->List Value->Option (List Value)
 | [],cs=>some cs
 | x::l,cs=>match f (T.enc t x) cs with
  | some r=>zRl f l r
  | none=>none
def zR:Nat->D C->List Value->Option (List Value)
 | 0,_,_=>none
 | n+1,d,cs=>match d,cs with
  | .bool b,.bool b'::r=>bif b == b' then some r else none
  | .int k m,.int k' m'::r=>bif decide (k=k') && m == m' && decide (k.min <= m) && decide (m <= k.max) then some r else none
  | .str s,.string s'::r=>bif s == s'.data.toList then some r else none
  | .anil,cs=>some cs
  | .acons d ds,cs=>match zR n d cs with
   | some r=>zR n ds r
   | none=>none
  | .arr t m l,cs=>bif Nat.beq m l.length then zRl T (zR n) l cs else none
  | .nils,.slice none 0 0::r=>some r
  | .sl _ _ [],.slice none 0 0::r=>some r
  | .nilp,.pointer none::r=>some r
  | .nilfn,.nilFunc::r=>some r
  | .nilm,.map none::r=>some r
  | _,_=>none
variable {P T}
theorem QqK {X:Cx} {t:C.Ty} {f:D C->List Value->Option (List Value)} (hf:∀ d cs r,f d cs=some r -> ∃ c1,cs=c1++r /\ R T X false d c1):∀ (l:List (C.A t)) (cs r:List Value),zRl T f l cs=some r -> ∃ c1,cs=c1++r /\ R T X false (.arr t l.length l) c1
 | [],cs,r,h=>by simp [zRl] at h;exact ⟨[],by simp [h],.arr0 _⟩
 | x::l,cs,r,h=>by
  simp only [zRl] at h;cases hq:f (T.enc t x) cs with
  | none=>simp [hq] at h
  | some r1 =>
   simp only [hq] at h;obtain ⟨c1,e1,k1⟩:=hf _ _ _ hq;obtain ⟨c2,e2,k2⟩:=QqK hf l r1 r h;exact ⟨c1++c2,by rw [e1,e2,List.append_assoc],.arrS k1 k2⟩
theorem QvN {X:Cx}:∀ (n:Nat) (d:D C) (cs r:List Value),zR T n d cs=some r -> ∃ c1,cs=c1++r /\ R T X false d c1:=by
 intro n
 induction n with
 | zero=>intro d cs r h;simp [zR] at h
 | succ n ih =>
  intro d cs r h;unfold zR at h
  split at h
  · rename_i b b' q;cases hb:(b == b') with
    | false=>simp [hb] at h
    | true=>simp [hb] at h;subst h;have:=eq_of_beq hb;subst this;exact ⟨[.bool b],rfl,.bool b⟩
  · rename_i k m k' m' q;cases hb:(decide (k=k') && m == m' && decide (k.min <= m) && decide (m <= k.max)) with
    | false=>simp [hb] at h
    | true =>
     simp only [hb,cond_true,Option.some.injEq] at h;subst h;simp only [Bool.and_eq_true,decide_eq_true_eq,beq_iff_eq] at hb;obtain ⟨⟨⟨rfl,rfl⟩,h1⟩,h2⟩:=hb;exact ⟨[.int k m],rfl,.int ⟨h1,h2⟩⟩
  · rename_i s s' q;cases hb:(s == s'.data.toList) with
    | false=>simp [hb] at h
    | true =>
     simp only [hb,cond_true,Option.some.injEq] at h;subst h;have:=eq_of_beq hb;subst this;exact ⟨[.string s'],rfl,.str _⟩
  · simp at h;exact ⟨[],by simp [h],.anil⟩
  · rename_i d ds;cases hq:zR T n d cs with
    | none=>simp [hq] at h
    | some r1 =>
     simp only [hq] at h;obtain ⟨c1,e1,k1⟩:=ih _ _ _ hq;obtain ⟨c2,e2,k2⟩:=ih _ _ _ h;exact ⟨c1++c2,by rw [e1,e2,List.append_assoc],.acons k1 k2⟩
  · rename_i t m l;cases hb:Nat.beq m l.length with
    | false=>simp [hb] at h
    | true =>
     simp only [hb,cond_true] at h;have:=Nat.eq_of_beq_eq_true hb;subst this;exact QqK ih l _ _ h
  · simp at h;subst h;exact ⟨[.slice none 0 0],rfl,.nils⟩
  · simp at h;subst h;exact ⟨[.slice none 0 0],rfl,.sl0 _ _ _⟩
  · simp at h;subst h;exact ⟨[.pointer none],rfl,.nilp⟩
  · simp at h;subst h;exact ⟨[.nilFunc],rfl,.nilfn⟩
  · simp at h;subst h;exact ⟨[.map none],rfl,.nilm⟩
  · simp at h
variable (P T)
def zB (d:D C) (cs:List Value):Bool:=match zR T 50 d cs with
 | some []=>true
 | _=>false
variable {P T}
theorem Qpd {d:D C} {cs:List Value} (h:zB T d cs=true) (X:Cx):R T X false d cs:=by
 unfold zB at h
 split at h
 · rename_i hq;obtain ⟨c1,e1,k1⟩:=QvN (X:=X) _ _ _ _ hq;simp at e1;rw [e1];exact k1
 · cases h
variable (P T)
def QdR (e:TypeId) (t:C.Ty):Bool :=
 gtB (T.ty e) (T.ty (T.ety t)) && Nat.beq (T.size e) (T.size (T.ety t)) && match P.info? e with
 | some i=>Nat.beq i.size (T.size e) && Nat.beq i.bytes (T.bytes e) && Nat.blt 0 (T.bytes e) && Nat.blt 0 (T.size e) && match i.zero with
  | some z=>Nat.beq z.cells.size (T.size e) && zB T (T.enc t (T.dflt t)) z.cells.toList
  | none=>false
 | none=>false
def Qid:List Field->Nat->Bool
 | [],_=>true
 | f::fs,n=>Nat.beq f.offset n && Qid fs (n+T.size f.type)
def oneB (e:TypeId):Bool:=(match T.ty e with | .struct _ _=>false | .arr _ _ _=>false | .none=>false | _=>true) && match P.info? e with
 | some i=>Nat.beq i.size 1 && (match i.zero with | some z=>Nat.beq z.cells.size 1 && Nat.ble i.bytes 1024 | none=>false)
 | none=>false
def mapB (k v:TypeId) (ck cv:C.Ty):Bool:=gtB (T.ty k) (T.ty (T.ety ck)) && gtB (T.ty v) (T.ty (T.ety cv)) && (match T.ty k with | .int _=>true | .str=>true | .bool=>true | _=>false) && match P.info? v with
 | some i=>(match i.zero with | some (.agg cs)=>(T.enc cv (T.dflt cv)).isRow && zB T (T.enc cv (T.dflt cv)) cs.toList | some z => !(T.enc cv (T.dflt cv)).isRow && zB T (T.enc cv (T.dflt cv)) [z] | none=>false)
 | none=>false
def Q9 (u:TypeId) (g:GT C) (size:Nat):Bool:=match g,P.underlying u with
 | .bool,some .bool=>Nat.beq size 1
 | .int k,some (.int k')=>decide (k=k') && Nat.beq size 1
 | .str,some .string=>Nat.beq size 1
 | .struct false fs,some (.struct fields)=>(fields.toList.map (·.type) == fs) && Nat.beq size (QP T fs) && Qid T fields.toList 0 && !P.stoodInHeld u && !P.eqGuardType P.depth u && fields.toList.all (fun f=>f.name != "_") &&
  fs.all (fun f=>match P.info? f with | some i=>Nat.beq i.size (T.size f) && Nat.blt 0 (T.size f) | none=>false)
 | .struct true fs,some (.array n e)=>Nat.beq fs.length n && (fs == List.replicate fs.length e) && Nat.blt 0 fs.length && Nat.beq size (QP T fs) && (match P.info? e with | some i=>Nat.beq i.size (T.size e) | none=>false)
 | .arr n e t,some (.array n' e')=>Nat.beq n n' && Nat.beq e e' && !P.eqGuardType P.depth u && Nat.beq size (n * T.size e) && QdR P T e t
 | .sl e t,some (.slice e')=>Nat.beq e e' && Nat.beq size 1 && QdR P T e t
 | .ptr e,some (.pointer e')=>Nat.beq e e' && Nat.beq size 1
 | .fn,some (.func _ _ _)=>Nat.beq size 1
 | .dsl e,some (.slice e')=>Nat.beq e e' && Nat.beq size 1 && oneB P T e
 | .map k v ck cv,some (.map k' v')=>Nat.beq k k' && Nat.beq v v' && Nat.beq size 1 && mapB P T k v ck cv
 | _,_=>false
def rowB (u:TypeId) (r:Row C):Bool :=
 Nat.blt 0 r.size && (match P.info? u with
  | some i=>Nat.beq i.size r.size && (match r.zero with
   | none=>true
   | some z=>match i.zero with
    | some v=>z.refs.isEmpty && zB T z v.cells.toList
    | none=>false)
  | none=>false) && Q9 P T u r.g r.size
variable {P T}
theorem QbP:∀ (fs:List Field) (n:Nat),Qid T fs n=true -> ∀ (i:Nat) (f:Field),fs[i]? = some f->f.offset=n+QP T ((fs.map (·.type)).take i)
 | [],n,h,i,f,hf=>by simp at hf
 | g::fs,n,h,i,f,hf=>by
  simp only [Qid,Bool.and_eq_true] at h;cases i with
  | zero=>simp at hf;subst hf;simp [QP,Nat.eq_of_beq_eq_true h.1]
  | succ i =>
   have:=QbP fs _ h.2 i f (by simpa using hf)
   rw [this];simp [QP];omega
theorem Jd {e:TypeId} {t:C.Ty} (h:QdR P T e t=true):(T.ty e=T.ty (T.ety t) /\ T.size e=T.size (T.ety t)) /\ ∃ i z,P.info? e=some i /\ i.size=T.size e /\ i.bytes=T.bytes e /\ 0 < T.bytes e /\ 0 < T.size e /\ i.zero=some z /\ z.cells.size=T.size e /\
 ∀ X,R T X false (T.enc t (T.dflt t)) z.cells.toList:=by
 simp only [QdR,Bool.and_eq_true] at h;obtain ⟨⟨h1,h2⟩,h3⟩:=h;refine ⟨⟨Qj6 h1,Nat.eq_of_beq_eq_true h2⟩,?_⟩;cases hi:P.info? e with
 | none=>simp [hi] at h3
 | some i =>
  simp only [hi,Bool.and_eq_true] at h3;obtain ⟨⟨⟨⟨a1,a2⟩,a3⟩,a4⟩,a5⟩:=h3;cases hz:i.zero with
  | none=>simp [hz] at a5
  | some z =>
   simp only [hz,Bool.and_eq_true] at a5;exact ⟨i,z,rfl,Nat.eq_of_beq_eq_true a1,Nat.eq_of_beq_eq_true a2,by simpa [Nat.blt_eq] using a3,by simpa [Nat.blt_eq] using a4,hz,Nat.eq_of_beq_eq_true a5.1,Qpd a5.2⟩
theorem Qj7 {e:TypeId} (h:oneB P T e=true):(∀ d,fit T d (.inl e)=true->d.isRow=false) /\ ∃ i z,P.info? e=some i /\ i.size=1 /\ i.zero=some z /\ z.cells.size=1 /\ i.bytes <= 1024:=by
 simp only [oneB,Bool.and_eq_true] at h;obtain ⟨h1,h2⟩:=h;refine ⟨fun d hf=>?_,?_⟩
 · cases hd:T.ty e <;> simp [hd] at h1 <;> cases d <;> simp_all [fit,D.isRow]
 · cases hi:P.info? e with
   | none=>simp [hi] at h2
   | some i =>
    simp only [hi,Bool.and_eq_true] at h2;cases hz:i.zero with
    | none=>simp [hz] at h2
    | some z=>simp only [hz,Bool.and_eq_true] at h2;exact ⟨i,z,rfl,Nat.eq_of_beq_eq_true h2.1,hz,Nat.eq_of_beq_eq_true h2.2.1,Nat.le_of_ble_eq_true h2.2.2⟩
theorem Qj8 {k v:TypeId} {ck cv:C.Ty} (h:mapB P T k v ck cv=true):T.ty k=T.ty (T.ety ck) /\ T.ty v=T.ty (T.ety cv) /\ ((∃ ik,T.ty k=.int ik) \/ T.ty k=.str \/ T.ty k=.bool) /\
 ∃ i z,P.info? v=some i /\ i.zero=some z /\ ∀ X,RV T X (T.enc cv (T.dflt cv)) z:=by
 simp only [mapB,Bool.and_eq_true] at h;obtain ⟨⟨⟨h1,h2⟩,h3⟩,h4⟩:=h;refine ⟨Qj6 h1,Qj6 h2,?_,?_⟩
 · cases hd:T.ty k <;> simp [hd] at h3 ⊢
 · cases hi:P.info? v with
   | none=>simp [hi] at h4
   | some i =>
    simp only [hi] at h4;cases hz:i.zero with
    | none=>simp [hz] at h4
    | some z =>
     refine ⟨i,z,rfl,hz,fun X=>?_⟩;cases z with
     | agg cs =>
      simp only [hz,Bool.and_eq_true] at h4;exact .inl ⟨h4.1,cs.toList,Qpd h4.2 X,by simp⟩
     | _ =>
      simp only [hz,Bool.and_eq_true,Bool.not_eq_true'] at h4;exact .inr ⟨h4.1,Qpd h4.2 X⟩
theorem Quv {sz:Nat} {u:TypeId} (this:Q9 P T u (.bool) sz=true):P.underlying u=some .bool /\ sz=1:=by
 unfold Q9 at this
 split at this <;> simp_all
theorem QvO {sz:Nat} {u:TypeId} {k:IntKind} (this:Q9 P T u (.int k) sz=true):P.underlying u=some (.int k) /\ sz=1:=by
 unfold Q9 at this
 split at this <;> simp_all
theorem QvP {sz:Nat} {u:TypeId} (this:Q9 P T u (.str) sz=true):P.underlying u=some .string /\ sz=1:=by
 unfold Q9 at this
 split at this <;> simp_all
theorem QvQ {sz:Nat} {u:TypeId} {e:TypeId} (this:Q9 P T u (.ptr e) sz=true):P.underlying u=some (.pointer e) /\ sz=1:=by
 unfold Q9 at this
 split at this <;> simp_all
theorem sFnB {sz:Nat} {u:TypeId} (this:Q9 P T u (.fn) sz=true):(∃ a b c,P.underlying u=some (.func a b c)) /\ sz=1:=by
 unfold Q9 at this
 split at this <;> simp_all
theorem QvR {sz:Nat} {u:TypeId} {e:TypeId} (this:Q9 P T u (.dsl e) sz=true):P.underlying u=some (.slice e) /\ sz=1 /\ oneB P T e=true:=by
 unfold Q9 at this
 split at this <;> simp_all
 obtain ⟨⟨e1,_⟩,h⟩:=this;rw [<- e1];exact h
theorem QvS {sz:Nat} {u:TypeId} {k:TypeId} {v:TypeId} {ck:C.Ty} {cv:C.Ty} (this:Q9 P T u (.map k v ck cv) sz=true):P.underlying u=some (.map k v) /\ sz=1 /\ mapB P T k v ck cv=true:=by
 unfold Q9 at this
 split at this <;> simp_all
 obtain ⟨⟨⟨e1,e2⟩,_⟩,h⟩:=this;rw [<- e1,<- e2];exact h
theorem QvT {sz:Nat} {u:TypeId} {n:Nat} {e:TypeId} {t:C.Ty} (this:Q9 P T u (.arr n e t) sz=true):P.underlying u=some (.array n e) /\ P.eqGuardType P.depth u=false /\ sz=n * T.size e /\ QdR P T e t=true:=by
 unfold Q9 at this
 split at this <;> simp_all
 obtain ⟨⟨⟨⟨_,e1⟩,_⟩,_⟩,h⟩:=this;rw [<- e1];exact h
theorem sSlB {sz:Nat} {u:TypeId} {e:TypeId} {t:C.Ty} (this:Q9 P T u (.sl e t) sz=true):P.underlying u=some (.slice e) /\ sz=1 /\ QdR P T e t=true:=by
 unfold Q9 at this
 split at this <;> simp_all
 obtain ⟨⟨e1,_⟩,h⟩:=this;rw [<- e1];exact h
theorem sStB {sz:Nat} {u:TypeId} {fs:List TypeId} (this:Q9 P T u (.struct false fs) sz=true):∃ fields:Array Field,P.underlying u=some (.struct fields) /\ fields.toList.map (·.type)=fs /\ sz=QP T fs /\ Qid T fields.toList 0=true /\ P.stoodInHeld u=false /\ P.eqGuardType P.depth u=false /\
 (∀ f ∈ fields.toList,f.name ≠ "_") /\ ∀ f ∈ fs,∃ i,P.info? f=some i /\ i.size=T.size f /\ 0 < T.size f:=by
 unfold Q9 at this
 split at this
 case h_4 fs' fields e1 e2 =>
  simp only [GT.struct.injEq,true_and] at e1;subst e1;simp only [Bool.and_eq_true,Bool.not_eq_true',List.all_eq_true] at this;obtain ⟨⟨⟨⟨⟨⟨a1,a2⟩,a3⟩,a4⟩,a5⟩,a6⟩,a7⟩:=this;refine ⟨fields,e2,eq_of_beq a1,Nat.eq_of_beq_eq_true a2,a3,a4,a5,fun f hf=>by simpa using a6 f hf,fun f hf=>?_⟩
  have:=a7 f hf;cases hi:P.info? f with
  | none=>simp [hi] at this
  | some i=>simp only [hi,Bool.and_eq_true] at this;exact ⟨i,rfl,Nat.eq_of_beq_eq_true this.1,by simpa [Nat.blt_eq] using this.2⟩
 all_goals simp_all
theorem QvU {sz:Nat} {u:TypeId} {fs:List TypeId} (this:Q9 P T u (.struct true fs) sz=true):sz=QP T fs /\ ∃ e,P.underlying u=some (.array fs.length e) /\ fs=List.replicate fs.length e /\ 0 < fs.length /\ ∃ i,P.info? e=some i /\ i.size=T.size e:=by
 unfold Q9 at this
 split at this
 case h_5 fs' n e e1 e2 =>
  simp only [GT.struct.injEq,true_and] at e1;subst e1;simp only [Bool.and_eq_true] at this;obtain ⟨⟨⟨⟨a1,a2⟩,a3⟩,a4⟩,a5⟩:=this;have a1:=Nat.eq_of_beq_eq_true a1;refine ⟨Nat.eq_of_beq_eq_true a4,e,by rw [e2,a1],eq_of_beq a2,by simpa [Nat.blt_eq] using a3,?_⟩
  cases hi:P.info? e with
  | none=>simp [hi] at a5
  | some i=>simp only [hi] at a5;exact ⟨i,rfl,Nat.eq_of_beq_eq_true a5⟩
 all_goals simp_all
structure Quw (T:Tab C):Prop where
 encRefs:∀ t x,(T.enc t x).refs=[]
 encFit:∀ t x,fit T (T.enc t x) (.inl (T.ety t))=true
 decR:∀ X t d x cs,T.dec t d=some x->R T X false d cs->R T X false (T.enc t x) cs
 eqb:∀ t a b r,T.eqb t a b=some r->eqS (T.enc t a) (T.enc t b)=some r
 u8s:∀ t f l,T.u8s t=some f->bytesOf T l=some (f l)
 ofU8s:∀ t g l,T.ofU8s t=some g->(g l).map (T.enc t)=l.map fun b=>.int .u8 (b.toNat:Int)
theorem Qux {cd:Cod C} {t:Tree (Row C)} {pre:List (Nat × Array Value)} {settle:TypeId->Bool} (h:t.all (rowB P (ZS cd t pre settle))=true) (hc:Quw (ZS cd t pre settle)) (ho:P.follows .mixedOrders=true):QX P (ZS cd t pre settle):=by
 have row:∀ u,(ZS cd t pre settle).ty u ≠ .none -> ∃ r,t.get u=some r /\ rowB P (ZS cd t pre settle) u r=true /\ (ZS cd t pre settle).ty u=r.g /\ (ZS cd t pre settle).size u=r.size /\ (ZS cd t pre settle).zero u=r.zero:=by
  intro u hu;cases hg:t.get u with
  | none=>exact (hu (by simp [ZS,hg])).elim
  | some r=>exact ⟨r,rfl,Tree.get_all h hg,by simp [ZS,hg],by simp [ZS,hg],by simp [ZS,hg]⟩
 have shape:∀ u,(ZS cd t pre settle).ty u ≠ .none->Q9 P (ZS cd t pre settle) u ((ZS cd t pre settle).ty u) ((ZS cd t pre settle).size u)=true /\ 0 < (ZS cd t pre settle).size u /\ ∃ i,P.info? u=some i /\ i.size=(ZS cd t pre settle).size u:=by
  intro u hu;obtain ⟨r,_,h1,h2,h3,_⟩:=row u hu;simp only [rowB,Bool.and_eq_true] at h1;obtain ⟨⟨a1,a2⟩,a3⟩:=h1;refine ⟨by rw [h2,h3];exact a3,by rw [h3];simpa [Nat.blt_eq] using a1,?_⟩
  cases hi:P.info? u with
  | none=>simp [hi] at a2
  | some i=>simp only [hi,Bool.and_eq_true] at a2;exact ⟨i,rfl,by rw [h3];exact Nat.eq_of_beq_eq_true a2.1⟩
 generalize hT:ZS cd t pre settle=T at *
 have sh:∀ u g,T.ty u=g->g ≠ .none->Q9 P T u g (T.size u)=true:=fun u g hg hn=>by have:=(shape u (by rw [hg];exact hn)).1;rw [hg] at this;exact this
 have sBool:∀ u,T.ty u=.bool->P.underlying u=some .bool /\ T.size u=1:=fun u hu=>Quv (sh u _ hu (by simp))
 have sInt:∀ u k,T.ty u=.int k->P.underlying u=some (.int k) /\ T.size u=1:=fun u k hu=>QvO (sh u _ hu (by simp))
 have sStr:∀ u,T.ty u=.str->P.underlying u=some .string /\ T.size u=1:=fun u hu=>QvP (sh u _ hu (by simp))
 have sPtr:∀ u e,T.ty u=.ptr e->P.underlying u=some (.pointer e) /\ T.size u=1:=fun u k hu=>QvQ (sh u _ hu (by simp))
 have sFn:∀ u,T.ty u=.fn->(∃ a b c,P.underlying u=some (.func a b c)) /\ T.size u=1:=fun u hu=>sFnB (sh u _ hu (by simp))
 have sDsl:∀ u e,T.ty u=.dsl e->P.underlying u=some (.slice e) /\ T.size u=1 /\ oneB P T e=true:=fun u e hu=>QvR (sh u _ hu (by simp))
 have sMap:∀ u k v ck cv,T.ty u=.map k v ck cv->P.underlying u=some (.map k v) /\ T.size u=1 /\ mapB P T k v ck cv=true:=fun u k v ck cv hu=>QvS (sh u _ hu (by simp))
 have sArr:∀ u n e t,T.ty u=.arr n e t->P.underlying u=some (.array n e) /\ P.eqGuardType P.depth u=false /\ T.size u=n * T.size e /\ QdR P T e t=true:=fun u n e t hu=>QvT (sh u _ hu (by simp))
 have sSl:∀ u e t,T.ty u=.sl e t->P.underlying u=some (.slice e) /\ T.size u=1 /\ QdR P T e t=true:=fun u e t hu=>sSlB (sh u _ hu (by simp))
 have sSt:∀ u fs,T.ty u=.struct false fs -> ∃ fields:Array Field,P.underlying u=some (.struct fields) /\ fields.toList.map (·.type)=fs /\ T.size u=QP T fs /\ Qid T fields.toList 0=true /\ P.stoodInHeld u=false /\ P.eqGuardType P.depth u=false /\
  (∀ f ∈ fields.toList,f.name ≠ "_") /\ ∀ f ∈ fs,∃ i,P.info? f=some i /\ i.size=T.size f /\ 0 < T.size f:=fun u fs hu=>sStB (sh u _ hu (by simp))
 have sRow:∀ u fs,T.ty u=.struct true fs->T.size u=QP T fs /\ ∃ e,P.underlying u=some (.array fs.length e) /\ fs=List.replicate fs.length e /\ 0 < fs.length /\ ∃ i,P.info? e=some i /\ i.size=T.size e:=fun u fs hu=>QvU (sh u _ hu (by simp))
 refine ⟨⟨hc.encRefs,hc.encFit,hc.decR,hc.u8s,hc.ofU8s,?_,?_,?_,fun u hu=>(sBool u hu).2,fun u k hu=>(sInt u k hu).2,fun u hu=>(sStr u hu).2,fun u e hu=>(sPtr u e hu).2,fun u hu=>(sFn u hu).2,fun u e hu=>(sDsl u e hu).2.1,fun u k v ck cv hu=>(sMap u k v ck cv hu).2.1,fun u hu=>(shape u (fun h=>hu h)).2.1⟩,
  fun u hu=>(sBool u hu).1,fun u k hu=>(sInt u k hu).1,fun u hu=>(sStr u hu).1,?_,?_,fun u fs hu=>(sRow u fs hu).2,?_,fun u e t hu=>(sSl u e t hu).1,?_,fun u e hu=>⟨(sDsl u e hu).1,Qj7 (sDsl u e hu).2.2⟩,fun u k v ck cv hu=>⟨(sMap u k v ck cv hu).1,Qj8 (sMap u k v ck cv hu).2.2⟩,fun u e hu=>(sPtr u e hu).1,fun u hu=>(sFn u hu).1,?_,?_,hc.eqb,ho⟩
 · intro u a fs hu;cases a with
   | false=>obtain ⟨_,_,_,h3,_⟩:=sSt u fs hu;exact h3
   | true=>exact (sRow u fs hu).1
 · intro u n e t hu;obtain ⟨_,_,h3,h4⟩:=sArr u n e t hu;exact ⟨h3,(Jd h4).1⟩
 · intro u e t hu;obtain ⟨_,h3,h4⟩:=sSl u e t hu;exact ⟨h3,(Jd h4).1⟩
 · intro u fs hu;obtain ⟨fields,h1,h2,_,h4,h5,h6,h7,_⟩:=sSt u fs hu;refine ⟨fields,h1,h2,fun i f hf=>?_,h5,h6,h7⟩;have:=QbP fields.toList 0 h4 i f (by rw [Array.getElem?_toList];exact hf)
   rw [this,h2];simp
 · intro u fs f hu hf;obtain ⟨_,_,_,_,_,_,_,_,h8⟩:=sSt u fs hu;exact h8 f hf
 · intro u n e t hu;obtain ⟨h1,h2,_⟩:=sArr u n e t hu;exact ⟨h1,h2⟩
 · rintro u e t (⟨n,hu⟩ | hu)
   · exact (Jd (sArr u n e t hu).2.2.2).2
   · exact (Jd (sSl u e t hu).2.2).2
 · intro u d hf;refine (shape u (fun hn=>?_)).2.2;cases d <;> simp [fit,hn] at hf
 · intro u z hz;subst hT;cases hg:t.get u with
   | none=>simp [ZS,hg] at hz
   | some r =>
    have hr:=Tree.get_all h hg;have hz':r.zero=some z:=by simpa [ZS,hg] using hz
    simp only [rowB,Bool.and_eq_true] at hr;obtain ⟨⟨a1,a2⟩,a3⟩:=hr;cases hi:P.info? u with
    | none=>simp [hi] at a2
    | some i =>
     simp only [hi,Bool.and_eq_true,hz'] at a2;cases hv:i.zero with
     | none=>simp [hv] at a2
     | some v =>
      simp only [hv,Bool.and_eq_true] at a2;exact ⟨i,v,rfl,hv,List.isEmpty_iff.1 a2.2.1,Qpd a2.2.2⟩
end
structure Qc where
 key:Int
 value:Int
 deriving DecidableEq
structure Item where
 key:Int
 place:Int
 value:Int
 deriving DecidableEq
structure Line where
 offset:Int
 place:Int
 j:Int
 key:Int
 value:Int
 deriving DecidableEq
structure Rec where
 place:Int
 yes:Bool
 writes:List Qc
 deriving DecidableEq
structure St where
 place:Int
 items:List Item
 l0:List Line
 l1:List Line
 l2:List Line
 c0:Int
 c1:Int
 c2:Int
 deriving DecidableEq
structure Sector where
 n:Int
 b:List UInt8
 deriving DecidableEq
structure Frame where
 prog:Int
 at':Int
 r:List Int
 deriving DecidableEq
structure Qj9 where
 kind:Int
 a:Int
 b:Int
 v:Int
 gen:Int
 text:List UInt8
 args:List Int
 deriving DecidableEq
structure Event where
 client:Int
 act:Qj9
 got:Int
 deriving DecidableEq
structure Gone where
 handle:Int
 node:Bool
 epoch:Int
 deriving DecidableEq
structure Try where
 place:Int
 start:Int
 writes:List Qc
 deriving DecidableEq
structure Task where
 client:Int
 stack:List Frame
 got:List Int
 over:Bool
 deriving DecidableEq
structure Txn where
 id:Int
 start:Int
 writes:List Qc
 deriving DecidableEq
section
variable {C:Cdc} {T:Tab C} {X:Cx}
def Qpe (k:IntKind):D C->Option Int
 | .int k' n=>if k'=k then some n else none
 | _=>none
def Qso:D C->Option Bool
 | .bool b=>some b
 | _=>none
def dU8:D C->Option UInt8
 | .int .u8 n=>some (UInt8.ofNat n.toNat)
 | _=>none
def QdS (t:C.Ty) (n:Nat):D C->Option (List (C.A t))
 | .arr t' m l=>if h:t'=t then (if m=n then some (h ▸ l) else none) else none
 | _=>none
theorem Qsp {k:IntKind} {d:D C} {x:Int} {cs:List Value} (hd:Qpe k d=some x) (hr:R T X false d cs):R T X false (.int k x) cs:=by
 unfold Qpe at hd;split at hd
 · split at hd
   · rename_i h;subst h;cases hd;exact hr
   · cases hd
 · cases hd
theorem Qsq {d:D C} {x:Bool} {cs:List Value} (hd:Qso d=some x) (hr:R T X false d cs):R T X false (.bool x) cs:=by
 unfold Qso at hd;split at hd
 · cases hd;exact hr
 · cases hd
theorem QvV {d:D C} {x:UInt8} {cs:List Value} (hd:dU8 d=some x) (hr:R T X false d cs):R T X false (.int .u8 (UInt8.toNat x)) cs:=by
 unfold dU8 at hd;split at hd
 · rename_i n;cases hd;cases hr with
   | int h =>
    have h1:(0:Int) <= n:=h.1;have h2:n <= 255:=h.2
    have:((UInt8.ofNat n.toNat).toNat:Int)=n:=by
     rw [UInt8.toNat_ofNat'];have:n.toNat % 2 ^ 8=n.toNat:=Nat.mod_eq_of_lt (by omega)
     rw [this];omega
    simp only [this];exact .int h
 · cases hd
theorem Qgz {t:C.Ty} {d:D C} {x:List (C.A t)} {cs:List Value} (hd:D.asList t d=some x) (hr:R T X false d cs):R T X false (.sl t false x) cs:=by
 unfold D.asList at hd
 split at hd
 · cases hd;cases hr;exact .sl0 _ _ _
 · rename_i t' cp l
   split at hd
   · rename_i he;cases he;cases hd;cases hr with
     | sl0=>exact .sl0 _ _ _
     | sl a1 a2 a3 a4=>exact .sl a1 a2 a3 (by simp)
   · cases hd
 · cases hd
theorem QV {d ds d' ds':D C} {cs:List Value} (hr:R T X false (.acons d ds) cs) (h1:∀ c,R T X false d c->R T X false d' c) (h2:∀ c,R T X false ds c->R T X false ds' c):R T X false (.acons d' ds') cs:=by
 cases hr with
 | acons a b=>exact .acons (h1 _ a) (h2 _ b)
end
structure Disk where
 now:List (Sector)
 sure:List (Sector)
structure Setup where
 clients:Int
 width:Int
 descs:Int
 nodes:Int
structure WorldS where
 c:List (Int)
 d:Disk
inductive RTy | bool | int | item | l_u8 | line | recd | sector | u8 | write
 deriving DecidableEq
@[reducible] def RA:RTy->Type
 | .bool=>Bool
 | .int=>Int
 | .item=>Item
 | .l_u8=>List (UInt8)
 | .line=>Line
 | .recd=>Rec
 | .sector=>Sector
 | .u8=>UInt8
 | .write=>Qc
@[reducible] def RC:Cdc:=⟨RTy,inferInstance,RA⟩
def QaT (x:Sector):D RC:=.acons (.int .i64 (Sector.n x)) (.acons (.str (Sector.b x)) (.anil))
def QaU:D RC->Option Sector
 | .acons (.int .i64 a0) (.acons (.str a1) (.anil))=>some ⟨a0,a1⟩
 | _=>none
theorem Qka {T:Tab RC} {X:Cx} {d:D RC} {x:Sector} {cs:List Value} (hd:QaU d=some x) (hr:R T X false d cs):R T X false (QaT x) cs:=by
 unfold QaU at hd
 split at hd
 · skip
   cases hd;exact QV hr (fun _ h=>h) (fun _ hr=>QV hr (fun _ h=>h) (fun _ hr=>hr))
 · cases hd
def Qkb (x:Item):D RC:=.acons (.int .i64 (Item.key x)) (.acons (.int .i64 (Item.place x)) (.acons (.int .i64 (Item.value x)) (.anil)))
def Qkc:D RC->Option Item
 | .acons (.int .i64 a0) (.acons (.int .i64 a1) (.acons (.int .i64 a2) (.anil)))=>some ⟨a0,a1,a2⟩
 | _=>none
theorem Qsr {T:Tab RC} {X:Cx} {d:D RC} {x:Item} {cs:List Value} (hd:Qkc d=some x) (hr:R T X false d cs):R T X false (Qkb x) cs:=by
 unfold Qkc at hd
 split at hd
 · skip
   cases hd;exact QV hr (fun _ h=>h) (fun _ hr=>QV hr (fun _ h=>h) (fun _ hr=>QV hr (fun _ h=>h) (fun _ hr=>hr)))
 · cases hd
def Qkd (x:Line):D RC:=.acons (.int .i64 (Line.offset x)) (.acons (.int .i64 (Line.place x)) (.acons (.int .i64 (Line.j x)) (.acons (.int .i64 (Line.key x)) (.acons (.int .i64 (Line.value x)) (.anil)))))
def Qke:D RC->Option Line
 | .acons (.int .i64 a0) (.acons (.int .i64 a1) (.acons (.int .i64 a2) (.acons (.int .i64 a3) (.acons (.int .i64 a4) (.anil)))))=>some ⟨a0,a1,a2,a3,a4⟩
 | _=>none
theorem Qss {T:Tab RC} {X:Cx} {d:D RC} {x:Line} {cs:List Value} (hd:Qke d=some x) (hr:R T X false d cs):R T X false (Qkd x) cs:=by
 unfold Qke at hd
 split at hd
 · skip
   cases hd;exact QV hr (fun _ h=>h) (fun _ hr=>QV hr (fun _ h=>h) (fun _ hr=>QV hr (fun _ h=>h) (fun _ hr=>QV hr (fun _ h=>h) (fun _ hr=>QV hr (fun _ h=>h) (fun _ hr=>hr)))))
 · cases hd
def QdT (x:Qc):D RC:=.acons (.int .i64 (Qc.key x)) (.acons (.int .i64 (Qc.value x)) (.anil))
def QdU:D RC->Option Qc
 | .acons (.int .i64 a0) (.acons (.int .i64 a1) (.anil))=>some ⟨a0,a1⟩
 | _=>none
theorem Qpf {T:Tab RC} {X:Cx} {d:D RC} {x:Qc} {cs:List Value} (hd:QdU d=some x) (hr:R T X false d cs):R T X false (QdT x) cs:=by
 unfold QdU at hd
 split at hd
 · skip
   cases hd;exact QV hr (fun _ h=>h) (fun _ hr=>QV hr (fun _ h=>h) (fun _ hr=>hr))
 · cases hd
def Qst (x:Rec) (c0:Bool):D RC:=.acons (.int .i64 (Rec.place x)) (.acons (.bool (Rec.yes x)) (.acons (.sl (C:=RC) .write c0 (Rec.writes x)) (.anil)))
def eRec (x:Rec):D RC:=.acons (.int .i64 (Rec.place x)) (.acons (.bool (Rec.yes x)) (.acons (.sl (C:=RC) .write false (Rec.writes x)) (.anil)))
def dRec:D RC->Option Rec
 | .acons (.int .i64 a0) (.acons (.bool a1) (.acons (a2) (.anil)))=>match D.asList (C:=RC) .write a2 with | some b2=>(some ⟨a0,a1,b2⟩) | none=>none
 | _=>none
theorem Quy {T:Tab RC} {X:Cx} {d:D RC} {x:Rec} {cs:List Value} (hd:dRec d=some x) (hr:R T X false d cs):R T X false (eRec x) cs:=by
 unfold dRec at hd
 split at hd
 · skip
   split at hd
   case h_2=>cases hd
   rename_i h2;cases hd;exact QV hr (fun _ h=>h) (fun _ hr=>QV hr (fun _ h=>h) (fun _ hr=>QV hr (fun _ h=>Qgz h2 h) (fun _ hr=>hr)))
 · cases hd
def rEnc:(t:RTy)->RA t->D RC
 | .bool,x=>.bool (x)
 | .int,x=>.int .i64 (x)
 | .item,x=>Qkb (x)
 | .l_u8,x=>.sl (C:=RC) .u8 false (x)
 | .line,x=>Qkd (x)
 | .recd,x=>eRec (x)
 | .sector,x=>QaT (x)
 | .u8,x=>.int .u8 (UInt8.toNat x)
 | .write,x=>QdT (x)
def rDec:(t:RTy)->D RC->Option (RA t)
 | .bool=>Qso
 | .int=>Qpe .i64
 | .item=>Qkc
 | .l_u8=>D.asList (C:=RC) .u8
 | .line=>Qke
 | .recd=>dRec
 | .sector=>QaU
 | .u8=>dU8
 | .write=>QdU
def Qie:(t:RTy)->RA t
 | .bool=>(false:Bool)
 | .int=>(0:Int)
 | .item=>(⟨0,0,0⟩:Item)
 | .l_u8=>([]:List (UInt8))
 | .line=>(⟨0,0,0,0,0⟩:Line)
 | .recd=>(⟨0,false,[]⟩:Rec)
 | .sector=>(⟨0,[]⟩:Sector)
 | .u8=>(0:UInt8)
 | .write=>(⟨0,0⟩:Qc)
def rEqb:(t:RTy)->RA t->RA t->Option Bool
 | .bool=>fun (a b:Bool)=>some (a == b)
 | .int=>fun (a b:Int)=>some (a == b)
 | .item=>fun _ _=>none
 | .l_u8=>fun _ _=>none
 | .line=>fun _ _=>none
 | .recd=>fun _ _=>none
 | .sector=>fun _ _=>none
 | .u8=>fun (a b:UInt8)=>none
 | .write=>fun _ _=>none
def rU8s:(t:RTy)->Option (List (RA t)->List UInt8)
 | .u8=>some fun l=>l
 | _=>none
def Qkf:(t:RTy)->Option (List UInt8->List (RA t))
 | .u8=>some fun l=>l
 | _=>none
def rCod (ety:RTy->TypeId):Cod RC:=⟨rEnc,rDec,Qie,ety,rEqb,rU8s,Qkf⟩
theorem QvW {T:Tab RC} {X:Cx}:∀ (t:RTy) {d:D RC} {x:RA t} {cs:List Value},rDec t d=some x->R T X false d cs->R T X false (rEnc t x) cs
 | .bool,_,_,_,hd,hr=>Qsq hd hr
 | .int,_,_,_,hd,hr=>Qsp hd hr
 | .item,_,_,_,hd,hr=>Qsr hd hr
 | .l_u8,_,_,_,hd,hr=>Qgz hd hr
 | .line,_,_,_,hd,hr=>Qss hd hr
 | .recd,_,_,_,hd,hr=>Quy hd hr
 | .sector,_,_,_,hd,hr=>Qka hd hr
 | .u8,_,_,_,hd,hr=>QvV hd hr
 | .write,_,_,_,hd,hr=>Qpf hd hr
theorem QvX:∀ {t:RTy} {a b:RA t} {r:Bool},rEqb t a b=some r->eqS (rEnc t a) (rEnc t b)=some r
 | .bool,a,b,r,h=>by
  simp only [rEqb,rEnc,eqS] at h ⊢;simpa using h
 | .int,a,b,r,h=>by
  simp only [rEqb,rEnc,eqS] at h ⊢;simpa using h
 | .item,_,_,_,h=>absurd (show (none:Option Bool)=some _ from h) (by simp)
 | .l_u8,_,_,_,h=>absurd (show (none:Option Bool)=some _ from h) (by simp)
 | .line,_,_,_,h=>absurd (show (none:Option Bool)=some _ from h) (by simp)
 | .recd,_,_,_,h=>absurd (show (none:Option Bool)=some _ from h) (by simp)
 | .sector,_,_,_,h=>absurd (show (none:Option Bool)=some _ from h) (by simp)
 | .u8,_,_,_,h=>absurd (show (none:Option Bool)=some _ from h) (by simp)
 | .write,_,_,_,h=>absurd (show (none:Option Bool)=some _ from h) (by simp)
theorem QvY (t:RTy) (x:RA t):(rEnc t x).refs=[]:=by cases t <;> rfl
theorem QvZ {T:Tab RC} (he:T.enc=rEnc):∀ (t:RTy) (f:List (RA t)->List UInt8) (l:List (RA t)),rU8s t=some f->bytesOf T l=some (f l):=by
 intro t f l h;cases t <;> simp [rU8s] at h
 subst h
 induction l with
 | nil=>rfl
 | cons x l ih =>
  simp only [bytesOf,ih,he,rEnc];have:UInt8.ofNat (UInt8.toNat x)=x:=by simp
  simp [this]
theorem Qsu:∀ (t:RTy) (g:List UInt8->List (RA t)) (l:List UInt8),Qkf t=some g->(g l).map (rEnc t)=l.map fun b=>.int .u8 (b.toNat:Int):=by
 intro t g l h;cases t <;> simp [Qkf] at h
 subst h;rfl
theorem Qv0 {ety:RTy->TypeId} {t:Tree (Row RC)} {pre:List (Nat × Array Value)} {settle:TypeId->Bool} (hfit:∀ t' x,fit (ZS (rCod ety) t pre settle) (rEnc t' x) (.inl (ety t'))=true):Quw (ZS (rCod ety) t pre settle) :=
 ⟨QvY,hfit,fun X t d x cs hd hr=>QvW t hd hr,fun t a b r h=>QvX h,QvZ rfl,Qsu⟩
open Go.Proofs
set_option maxRecDepth 100000
def QqL:RTy->TypeId:=fun | .bool=>4 | .int=>3 | .item=>56 | .l_u8=>129 | .line=>112 | .recd=>51 | .sector=>76 | .u8=>5 | .write=>60
def Qkg:Tree (Row RC):=(.node 115 ⟨.fn,1,8,some .nilfn⟩ (.node 64 ⟨.fn,1,8,some .nilfn⟩ (.node 37 ⟨.fn,1,8,some .nilfn⟩ (.node 25 ⟨(.struct false [3,3,3,3]),4,32,some (.acons (.int .i64 0) (.acons (.int .i64 0) (.acons (.int .i64 0) (.acons (.int .i64 0) .anil))))⟩ (.node 9 ⟨.str,1,16,some (.str [])⟩ (.node 3 ⟨(.int .i64),1,8,some (.int .i64 0)⟩ (.node 2 ⟨(.int .i64),1,8,some (.int .i64 0)⟩ (.node 1 ⟨.fn,1,8,some .nilfn⟩ .nil .nil) .nil) (.node 5 ⟨(.int .u8),1,1,some (.int .u8 0)⟩ (.node 4 ⟨.bool,1,1,some (.bool false)⟩ .nil .nil) .nil)) (.node 22 ⟨(.sl 76 .sector),1,24,some (.sl .sector true [])⟩ (.node 21 ⟨(.int .i32),1,4,some (.int .i32 0)⟩ (.node 12 ⟨(.int .u64),1,8,some (.int .u64 0)⟩ .nil .nil) .nil) (.node 24 ⟨(.struct false [22,22]),2,48,some (.acons (.sl .sector true []) (.acons (.sl .sector true []) .anil))⟩ (.node 23 ⟨(.struct false [22,22]),2,48,some (.acons (.sl .sector true []) (.acons (.sl .sector true []) .anil))⟩ .nil .nil) .nil))) (.node 31 ⟨(.struct true [30,30,30]),3,72,some (.acons (.sl .line true []) (.acons (.sl .line true []) (.acons (.sl .line true []) .anil)))⟩ (.node 28 ⟨.fn,1,8,some .nilfn⟩ (.node 27 ⟨.fn,1,8,some .nilfn⟩ (.node 26 ⟨(.struct false [3,3,3,3]),4,32,some (.acons (.int .i64 0) (.acons (.int .i64 0) (.acons (.int .i64 0) (.acons (.int .i64 0) .anil))))⟩ .nil .nil) .nil) (.node 30 ⟨(.sl 112 .line),1,24,some (.sl .line true [])⟩ (.node 29 ⟨(.sl 56 .item),1,24,some (.sl .item true [])⟩ .nil .nil) .nil)) (.node 34 ⟨(.struct false [3,29,31,32]),8,128,some (.acons (.int .i64 0) (.acons (.sl .item true []) (.acons (.acons (.sl .line true []) (.acons (.sl .line true []) (.acons (.sl .line true []) .anil))) (.acons (.arr .int 3 (List.replicate 3 (Qie .int))) .anil))))⟩ (.node 33 ⟨(.struct false [3,29,31,32]),8,128,some (.acons (.int .i64 0) (.acons (.sl .item true []) (.acons (.acons (.sl .line true []) (.acons (.sl .line true []) (.acons (.sl .line true []) .anil))) (.acons (.arr .int 3 (List.replicate 3 (Qie .int))) .anil))))⟩ (.node 32 ⟨(.arr 3 3 .int),3,24,some (.arr .int 3 (List.replicate 3 (Qie .int)))⟩ .nil .nil) .nil) (.node 35 ⟨(.int .i64),1,8,some (.int .i64 0)⟩ .nil .nil)))) (.node 50 ⟨(.struct false [3,4,49]),3,40,some (.acons (.int .i64 0) (.acons (.bool false) (.acons (.sl .write true []) .anil)))⟩ (.node 44 ⟨.fn,1,8,some .nilfn⟩ (.node 40 ⟨(.struct false [39,24]),3,72,some (.acons (.sl .int true []) (.acons (.acons (.sl .sector true []) (.acons (.sl .sector true []) .anil)) .anil))⟩ (.node 39 ⟨(.sl 3 .int),1,24,some (.sl .int true [])⟩ (.node 38 ⟨.fn,1,8,some .nilfn⟩ .nil .nil) .nil) (.node 43 ⟨.fn,1,8,some .nilfn⟩ (.node 41 ⟨(.struct false [39,24]),3,72,some (.acons (.sl .int true []) (.acons (.acons (.sl .sector true []) (.acons (.sl .sector true []) .anil)) .anil))⟩ .nil .nil) .nil)) (.node 47 ⟨(.sl 51 .recd),1,24,some (.sl .recd true [])⟩ (.node 46 ⟨.fn,1,8,some .nilfn⟩ (.node 45 ⟨.fn,1,8,some .nilfn⟩ .nil .nil) .nil) (.node 49 ⟨(.sl 60 .write),1,24,some (.sl .write true [])⟩ (.node 48 ⟨.fn,1,8,some .nilfn⟩ .nil .nil) .nil))) (.node 58 ⟨.fn,1,8,some .nilfn⟩ (.node 54 ⟨.fn,1,8,some .nilfn⟩ (.node 52 ⟨.fn,1,8,some .nilfn⟩ (.node 51 ⟨(.struct false [3,4,49]),3,40,some (.acons (.int .i64 0) (.acons (.bool false) (.acons (.sl .write true []) .anil)))⟩ .nil .nil) .nil) (.node 56 ⟨(.struct false [3,3,3]),3,24,some (.acons (.int .i64 0) (.acons (.int .i64 0) (.acons (.int .i64 0) .anil)))⟩ (.node 55 ⟨(.struct false [3,3,3]),3,24,some (.acons (.int .i64 0) (.acons (.int .i64 0) (.acons (.int .i64 0) .anil)))⟩ .nil .nil) .nil)) (.node 61 ⟨.fn,1,8,some .nilfn⟩ (.node 60 ⟨(.struct false [3,3]),2,16,some (.acons (.int .i64 0) (.acons (.int .i64 0) .anil))⟩ (.node 59 ⟨(.struct false [3,3]),2,16,some (.acons (.int .i64 0) (.acons (.int .i64 0) .anil))⟩ .nil .nil) .nil) (.node 63 ⟨.fn,1,8,some .nilfn⟩ .nil .nil))))) (.node 91 ⟨.fn,1,8,some .nilfn⟩ (.node 76 ⟨(.struct false [3,9]),2,24,some (.acons (.int .i64 0) (.acons (.str []) .anil))⟩ (.node 70 ⟨.fn,1,8,some .nilfn⟩ (.node 67 ⟨.fn,1,8,some .nilfn⟩ (.node 66 ⟨.fn,1,8,some .nilfn⟩ (.node 65 ⟨.fn,1,8,some .nilfn⟩ .nil .nil) .nil) (.node 69 ⟨(.int .u64),1,8,some (.int .u64 0)⟩ (.node 68 ⟨.fn,1,8,some .nilfn⟩ .nil .nil) .nil)) (.node 73 ⟨.fn,1,8,some .nilfn⟩ (.node 72 ⟨.fn,1,8,some .nilfn⟩ (.node 71 ⟨.fn,1,8,some .nilfn⟩ .nil .nil) .nil) (.node 75 ⟨(.struct false [3,9]),2,24,some (.acons (.int .i64 0) (.acons (.str []) .anil))⟩ (.node 74 ⟨.fn,1,8,some .nilfn⟩ .nil .nil) .nil))) (.node 85 ⟨(.ptr 87),1,8,some .nilp⟩ (.node 81 ⟨.fn,1,8,some .nilfn⟩ (.node 79 ⟨.fn,1,8,some .nilfn⟩ (.node 77 ⟨.fn,1,8,some .nilfn⟩ .nil .nil) .nil) (.node 84 ⟨.fn,1,8,some .nilfn⟩ (.node 82 ⟨.fn,1,8,some .nilfn⟩ .nil .nil) .nil)) (.node 88 ⟨.fn,1,8,some .nilfn⟩ (.node 87 ⟨(.struct false [26,34,41]),15,232,some (.acons (.acons (.int .i64 0) (.acons (.int .i64 0) (.acons (.int .i64 0) (.acons (.int .i64 0) .anil)))) (.acons (.acons (.int .i64 0) (.acons (.sl .item true []) (.acons (.acons (.sl .line true []) (.acons (.sl .line true []) (.acons (.sl .line true []) .anil))) (.acons (.arr .int 3 (List.replicate 3 (Qie .int))) .anil)))) (.acons (.acons (.sl .int true []) (.acons (.acons (.sl .sector true []) (.acons (.sl .sector true []) .anil)) .anil)) .anil)))⟩ (.node 86 ⟨(.struct false [26,34,41]),15,232,some (.acons (.acons (.int .i64 0) (.acons (.int .i64 0) (.acons (.int .i64 0) (.acons (.int .i64 0) .anil)))) (.acons (.acons (.int .i64 0) (.acons (.sl .item true []) (.acons (.acons (.sl .line true []) (.acons (.sl .line true []) (.acons (.sl .line true []) .anil))) (.acons (.arr .int 3 (List.replicate 3 (Qie .int))) .anil)))) (.acons (.acons (.sl .int true []) (.acons (.acons (.sl .sector true []) (.acons (.sl .sector true []) .anil)) .anil)) .anil)))⟩ .nil .nil) .nil) (.node 89 ⟨(.dsl 88),1,24,some .nils⟩ .nil .nil)))) (.node 103 ⟨.fn,1,8,some .nilfn⟩ (.node 97 ⟨.fn,1,8,some .nilfn⟩ (.node 94 ⟨.fn,1,8,some .nilfn⟩ (.node 93 ⟨.fn,1,8,some .nilfn⟩ (.node 92 ⟨.fn,1,8,some .nilfn⟩ .nil .nil) .nil) (.node 96 ⟨.fn,1,8,some .nilfn⟩ (.node 95 ⟨.fn,1,8,some .nilfn⟩ .nil .nil) .nil)) (.node 100 ⟨(.map 3 3 .int .int),1,8,some .nilm⟩ (.node 99 ⟨.fn,1,8,some .nilfn⟩ (.node 98 ⟨.fn,1,8,some .nilfn⟩ .nil .nil) .nil) (.node 102 ⟨.fn,1,8,some .nilfn⟩ (.node 101 ⟨(.struct true [100,100,100]),3,24,some (.acons .nilm (.acons .nilm (.acons .nilm .anil)))⟩ .nil .nil) .nil))) (.node 110 ⟨.fn,1,8,some .nilfn⟩ (.node 106 ⟨.fn,1,8,some .nilfn⟩ (.node 105 ⟨(.dsl 100),1,24,some .nils⟩ (.node 104 ⟨.fn,1,8,some .nilfn⟩ .nil .nil) .nil) (.node 109 ⟨.fn,1,8,some .nilfn⟩ (.node 108 ⟨.fn,1,8,some .nilfn⟩ .nil .nil) .nil)) (.node 113 ⟨.fn,1,8,some .nilfn⟩ (.node 112 ⟨(.struct false [3,3,3,3,3]),5,40,some (.acons (.int .i64 0) (.acons (.int .i64 0) (.acons (.int .i64 0) (.acons (.int .i64 0) (.acons (.int .i64 0) .anil)))))⟩ (.node 111 ⟨(.struct false [3,3,3,3,3]),5,40,some (.acons (.int .i64 0) (.acons (.int .i64 0) (.acons (.int .i64 0) (.acons (.int .i64 0) (.acons (.int .i64 0) .anil)))))⟩ .nil .nil) .nil) (.node 114 ⟨.fn,1,8,some .nilfn⟩ .nil .nil)))))) (.node 168 ⟨.fn,1,8,some .nilfn⟩ (.node 144 ⟨.fn,1,8,some .nilfn⟩ (.node 129 ⟨(.sl 5 .u8),1,24,some (.sl .u8 true [])⟩ (.node 121 ⟨.fn,1,8,some .nilfn⟩ (.node 118 ⟨.fn,1,8,some .nilfn⟩ (.node 117 ⟨(.sl 4 .bool),1,24,some (.sl .bool true [])⟩ (.node 116 ⟨.fn,1,8,some .nilfn⟩ .nil .nil) .nil) (.node 120 ⟨(.int .u64),1,8,some (.int .u64 0)⟩ (.node 119 ⟨.fn,1,8,some .nilfn⟩ .nil .nil) .nil)) (.node 125 ⟨.fn,1,8,some .nilfn⟩ (.node 123 ⟨.fn,1,8,some .nilfn⟩ (.node 122 ⟨.fn,1,8,some .nilfn⟩ .nil .nil) .nil) (.node 128 ⟨.fn,1,8,some .nilfn⟩ (.node 127 ⟨.fn,1,8,some .nilfn⟩ .nil .nil) .nil))) (.node 136 ⟨.fn,1,8,some .nilfn⟩ (.node 132 ⟨.fn,1,8,some .nilfn⟩ (.node 131 ⟨.fn,1,8,some .nilfn⟩ (.node 130 ⟨.fn,1,8,some .nilfn⟩ .nil .nil) .nil) (.node 134 ⟨.fn,1,8,some .nilfn⟩ (.node 133 ⟨.fn,1,8,some .nilfn⟩ .nil .nil) .nil)) (.node 141 ⟨.fn,1,8,some .nilfn⟩ (.node 139 ⟨.fn,1,8,some .nilfn⟩ (.node 137 ⟨.fn,1,8,some .nilfn⟩ .nil .nil) .nil) (.node 142 ⟨.fn,1,8,some .nilfn⟩ .nil .nil)))) (.node 156 ⟨.fn,1,8,some .nilfn⟩ (.node 150 ⟨.fn,1,8,some .nilfn⟩ (.node 147 ⟨.fn,1,8,some .nilfn⟩ (.node 146 ⟨.fn,1,8,some .nilfn⟩ (.node 145 ⟨.fn,1,8,some .nilfn⟩ .nil .nil) .nil) (.node 149 ⟨.fn,1,8,some .nilfn⟩ (.node 148 ⟨.fn,1,8,some .nilfn⟩ .nil .nil) .nil)) (.node 153 ⟨.fn,1,8,some .nilfn⟩ (.node 152 ⟨.fn,1,8,some .nilfn⟩ (.node 151 ⟨.fn,1,8,some .nilfn⟩ .nil .nil) .nil) (.node 155 ⟨.fn,1,8,some .nilfn⟩ (.node 154 ⟨.fn,1,8,some .nilfn⟩ .nil .nil) .nil))) (.node 163 ⟨.fn,1,8,some .nilfn⟩ (.node 159 ⟨.fn,1,8,some .nilfn⟩ (.node 158 ⟨.fn,1,8,some .nilfn⟩ (.node 157 ⟨.fn,1,8,some .nilfn⟩ .nil .nil) .nil) (.node 162 ⟨.fn,1,8,some .nilfn⟩ (.node 160 ⟨.fn,1,8,some .nilfn⟩ .nil .nil) .nil)) (.node 166 ⟨.fn,1,8,some .nilfn⟩ (.node 165 ⟨.fn,1,8,some .nilfn⟩ (.node 164 ⟨.fn,1,8,some .nilfn⟩ .nil .nil) .nil) (.node 167 ⟨.fn,1,8,some .nilfn⟩ .nil .nil))))) (.node 192 ⟨(.sl 35 .int),1,24,some (.sl .int true [])⟩ (.node 180 ⟨(.struct false [129,3,4]),3,40,some (.acons (.sl .u8 true []) (.acons (.int .i64 0) (.acons (.bool false) .anil)))⟩ (.node 174 ⟨(.ptr 112),1,8,some .nilp⟩ (.node 171 ⟨(.struct false [129,4]),2,32,some (.acons (.sl .u8 true []) (.acons (.bool false) .anil))⟩ (.node 170 ⟨(.struct false [129,4]),2,32,some (.acons (.sl .u8 true []) (.acons (.bool false) .anil))⟩ (.node 169 ⟨(.ptr 171),1,8,some .nilp⟩ .nil .nil) .nil) (.node 173 ⟨.fn,1,8,some .nilfn⟩ (.node 172 ⟨.fn,1,8,some .nilfn⟩ .nil .nil) .nil)) (.node 177 ⟨.fn,1,8,some .nilfn⟩ (.node 176 ⟨.fn,1,8,some .nilfn⟩ (.node 175 ⟨.fn,1,8,some .nilfn⟩ .nil .nil) .nil) (.node 179 ⟨(.ptr 181),1,8,some .nilp⟩ (.node 178 ⟨.fn,1,8,some .nilfn⟩ .nil .nil) .nil))) (.node 187 ⟨.fn,1,8,some .nilfn⟩ (.node 184 ⟨.fn,1,8,some .nilfn⟩ (.node 183 ⟨.fn,1,8,some .nilfn⟩ (.node 181 ⟨(.struct false [129,3,4]),3,40,some (.acons (.sl .u8 true []) (.acons (.int .i64 0) (.acons (.bool false) .anil)))⟩ .nil .nil) .nil) (.node 186 ⟨.fn,1,8,some .nilfn⟩ (.node 185 ⟨.fn,1,8,some .nilfn⟩ .nil .nil) .nil)) (.node 190 ⟨(.dsl 28),1,24,some .nils⟩ (.node 189 ⟨.fn,1,8,some .nilfn⟩ (.node 188 ⟨.fn,1,8,some .nilfn⟩ .nil .nil) .nil) (.node 191 ⟨.fn,1,8,some .nilfn⟩ .nil .nil)))) (.node 203 ⟨(.struct false [129]),1,24,some (.acons (.sl .u8 true []) .anil)⟩ (.node 198 ⟨(.int .i64),1,8,some (.int .i64 0)⟩ (.node 195 ⟨.fn,1,8,some .nilfn⟩ (.node 194 ⟨.fn,1,8,some .nilfn⟩ (.node 193 ⟨.fn,1,8,some .nilfn⟩ .nil .nil) .nil) (.node 197 ⟨.fn,1,8,some .nilfn⟩ (.node 196 ⟨(.int .u32),1,4,some (.int .u32 0)⟩ .nil .nil) .nil)) (.node 201 ⟨.fn,1,8,some .nilfn⟩ (.node 200 ⟨.fn,1,8,some .nilfn⟩ (.node 199 ⟨.fn,1,8,some .nilfn⟩ .nil .nil) .nil) (.node 202 ⟨(.ptr 204),1,8,some .nilp⟩ .nil .nil))) (.node 209 ⟨.fn,1,8,some .nilfn⟩ (.node 206 ⟨.fn,1,8,some .nilfn⟩ (.node 205 ⟨.fn,1,8,some .nilfn⟩ (.node 204 ⟨(.struct false [129]),1,24,some (.acons (.sl .u8 true []) .anil)⟩ .nil .nil) .nil) (.node 208 ⟨(.sl 129 .l_u8),1,24,some (.sl .l_u8 true [])⟩ (.node 207 ⟨.fn,1,8,some .nilfn⟩ .nil .nil) .nil)) (.node 219 ⟨.fn,1,8,some .nilfn⟩ (.node 216 ⟨.fn,1,8,some .nilfn⟩ (.node 210 ⟨.fn,1,8,some .nilfn⟩ .nil .nil) .nil) (.node 220 ⟨(.ptr 5),1,8,some .nilp⟩ .nil .nil)))))))
def s28:Tab RC:=ZS (rCod QqL) Qkg
theorem Qpg:Qkg.all (rowB Tryz.prog s28)=true:=by kernel_rfl
theorem Qkh:Tryz.prog.follows .mixedOrders=true:=by kernel_rfl
theorem Qsv:∀ t x,fit s28 (rEnc t x) (.inl (QqL t))=true
 | .bool,_=>rfl
 | .int,_=>rfl
 | .item,_=>rfl
 | .l_u8,_=>rfl
 | .line,_=>rfl
 | .recd,_=>rfl
 | .sector,_=>rfl
 | .u8,_=>rfl
 | .write,_=>rfl
theorem Qb:QX Tryz.prog s28:=Qux Qpg (Qv0 Qsv) Qkh
section
variable {C:Cdc} {P:Program} {T:Tab C} {Φ:Fns C}
open Pg (Ex)
def fnB (P:Program) (f:FuncId):Bool:=match P.funcs[f]? with
 | some fn => !(fn.name == "runtime.NumGoroutine") && (match fn.body with
  | some b=>Zz fn.ntmps b
  | none=>true)
 | none=>true
def fnsB (P:Program):Nat->Bool
 | 0=>true
 | n+1=>fnB P n && fnsB P n
theorem QdV:∀ (n f:Nat),fnsB P n=true->f < n->fnB P f=true
 | 0,f,_,h=>by omega
 | n+1,f,h,hf=>by
  simp only [fnsB,Bool.and_eq_true] at h
  by_cases he:f=n
  · subst he;exact h.1
  · exact QdV n f h.2 (by omega)
def Qif (P:Program) (n:Nat) (keeps:FuncId->Bool) (rest:FuncId->List (Nat × List Nat):=fun _=>[]) (total:FuncId->Bool:=fun _=>false) (lend:FuncId->Bool:=fun _=>false):Fns C where
 fn f:=bif Nat.blt f n then P.funcs[f]? else none
 keeps:=keeps
 rest:=rest
 total:=total
 lend:=lend
 ospec _:=none
 spec _:=none
 loop _ _:=none
def Fns.addSpec (Φ:Fns C) (g:FuncId) (s:List (D C)->Option (Bool × D C)):Fns C:={ Φ with spec:=fun f=>bif Nat.beq f g then some s else Φ.spec f }
def Fns.addLoop (Φ:Fns C) (g key:Nat) (s:Env C->Pg C (Ev.X × Env C)):Fns C:={ Φ with loop:=fun f k=>bif Nat.beq f g && Nat.beq k key then some s else Φ.loop f k }
theorem Qig {n:Nat} {keeps:FuncId->Bool} {rest:FuncId->List (Nat × List Nat)} {total lend:FuncId->Bool} (h:fnsB P n=true):Qi P T (Qif P n keeps rest total lend) where
 fn f fn hf:=by
  simp only [Qif] at hf;cases hb:Nat.blt f n with
  | false=>simp [hb] at hf
  | true =>
   simp only [hb,cond_true] at hf;have:=QdV n f h (by simpa [Nat.blt_eq] using hb)
   simp only [fnB,hf,Bool.and_eq_true,Bool.not_eq_true'] at this;refine ⟨hf,this.1,fun body hbody=>?_⟩;have h2:=this.2;rw [hbody] at h2;exact h2
 spec g s args d hs:=by simp [Qif] at hs
 ospec g s hs:=by simp [Qif] at hs
 loop f fn body b s _ _ _ hs:=by simp [Qif] at hs
theorem Qi.addSpec (F:Qi P T Φ) {g:FuncId} {s:List (D C)->Option (Bool × D C)}
 (hs:∀ args d,s args=some (true,d)->(∀ a ∈ args,D.refs a=[]) /\ Vz P T g args d):Qi P T (Φ.addSpec g s) where
 fn:=F.fn
 spec f s' args d h1 h2:=by
  simp only [Fns.addSpec] at h1;cases hb:Nat.beq f g with
  | false=>simp only [hb,cond_false] at h1;exact F.spec f s' args d h1 h2
  | true =>
   simp only [hb,cond_true,Option.some.injEq] at h1;subst h1;have:=Nat.eq_of_beq_eq_true hb;subst this;exact hs args d h2
 ospec:=F.ospec
 loop:=F.loop
theorem Qi.addEv (K:QX P T) (F:Qi P T Φ) {g:FuncId} {s:List (D C)->Option (Bool × D C)} (hs:∀ args d,s args=some (true,d)->(∀ a ∈ args,D.refs a=[]) /\ ∃ n,evF T Φ n g args=some d):Qi P T (Φ.addSpec g s) :=
 F.addSpec fun args d h=>by
  obtain ⟨h1,n,h2⟩:=hs args d h;exact ⟨h1,Qgy K F h2 h1⟩
def QcP (P:Program) (T:Tab C) (Φ:Fns C) (g key:Nat) (s:Env C->Pg C (Ev.X × Env C)):Prop :=
 ∀ fn body b,Φ.fn g=some fn->fn.body=some body->b ∈ QN body->Qv b=key -> ∀ B,QaR B b -> ∀ X h nx lim e env x env' h' nx' tr a Q,G T X h nx lim->Qu T X nx lim env a.tmps->nx' <= lim.top->fn.ntmps <= a.tmps.size ->
  Ex e (s env) h nx (x,env') h' nx' tr->Qj3 T B X nx lim h' nx' env' a (Q (QcK x))->(Code.loop b).wp P Q a X.w
theorem Qi.addLoop (F:Qi P T Φ) {g key:Nat} {s:Env C->Pg C (Ev.X × Env C)} (hs:QcP P T Φ g key s):Qi P T (Φ.addLoop g key s) where
 fn:=F.fn
 spec:=F.spec
 ospec:=F.ospec
 loop f fn body b s' h1 h2 h3 h4:=by
  simp only [Fns.addLoop] at h4;cases hb:Nat.beq f g && Nat.beq (Qv b) key with
  | false=>simp only [hb,cond_false] at h4;exact F.loop f fn body b s' h1 h2 h3 h4
  | true =>
   simp only [hb,cond_true,Option.some.injEq] at h4;subst h4;simp only [Bool.and_eq_true] at hb;have e1:=Nat.eq_of_beq_eq_true hb.1;have e2:=Nat.eq_of_beq_eq_true hb.2;subst e1;exact hs fn body b h1 h2 h3 e2
def Sub (env env0:Env C):Prop := ∀ p ∈ env0,eget env p.1=p.2
theorem eget_mem:∀ (env:Env C) (t:Nat),eget env t=.top \/ (t,eget env t) ∈ env
 | [],t=>.inl rfl
 | (j,d)::r,t=>by
  rw [Qz]
  by_cases h:t=j
  · subst h;simp
  · simp only [h,if_false];rcases eget_mem r t with h' | h'
    · exact .inl h'
    · exact .inr (by simp [h'])
theorem Qu.sub {X:Cx} {nx nx':Nat} {lim lim':Lim} {env env0:Env C} {tmps:Array Value} (he:Qu T X nx lim env tmps) (hs:Sub env env0) (hr:∀ p ∈ env0,D.refs p.2=[]):Qu T X nx' lim' env0 tmps:=by
 intro t;rcases eget_mem env0 t with h | h
 · rw [h];exact RO.mk (RV.top _ _ _) rfl
 · refine ⟨?_,?_⟩
   · have:=hs _ h;simp only at this;rw [<- this];exact (he t).1
   · rw [hr _ h];simp
structure Qih (w w':World):Prop where
 size:w.heap.size <= w'.heap.size
 same:∀ b,b < w.heap.size->w'.heap[b]? = w.heap[b]?
 os:w'.os=w.os
 tape:w'.tape=w.tape
 output:w'.output=w.output
 frz:∀ a:Addr,a.block < w.heap.size->w'.frozen? a=w.frozen? a
theorem Qih.refl (w:World):Qih w w:=⟨Nat.le_refl _,fun _ _=>rfl,rfl,rfl,rfl,fun _ _=>rfl⟩
theorem Qih.trans {w w' w'':World} (h:Qih w w') (k:Qih w' w''):Qih w w'' :=
 ⟨Nat.le_trans h.size k.size,fun b hb=>(k.same b (Nat.lt_of_lt_of_le hb h.size)).trans (h.same b hb),k.os.trans h.os,k.tape.trans h.tape,k.output.trans h.output,fun a ha=>(k.frz a (Nat.lt_of_lt_of_le ha h.size)).trans (h.frz a ha)⟩
theorem Qu.move (L:Laws T) {X X':Cx} {nx nx':Nat} {lim lim':Lim} {env:Env C} {tmps:Array Value} (he:Qu T X nx lim env tmps) (hr:∀ p ∈ env,D.refs p.2=[])
 (hk:Kps X X'):Qu T X' nx' lim' env tmps:=by
 intro t
 have h0:(eget env t).refs=[]:=by
  rcases eget_mem env t with h | h
  · rw [h];rfl
  · exact hr _ h
 refine ⟨(he t).1.mono T L.encOK hk fun id hi=>?_,?_⟩
 · rw [h0] at hi;simp at hi
 · rw [h0];simp
structure LoopSt (C:Cdc) (σ:Type) where
 canon:σ->Env C
 fin:σ->Ev.X × Env C
 Inv:σ->Prop
 μ:σ->Nat
theorem Za {nt:Nat}:∀ (c:Code),Zz nt c=true -> ∀ b ∈ QN c,Zz nt b=true /\ ∀ b' ∈ QN b,b' ∈ QN c
 | .seq x y,h,b,hb=>by
  simp only [Zz,Bool.and_eq_true] at h;simp only [QN,List.mem_append] at hb ⊢;rcases hb with hb | hb
  · obtain ⟨q1,q2⟩:=Za x h.1 b hb;exact ⟨q1,fun b' h'=>.inl (q2 b' h')⟩
  · obtain ⟨q1,q2⟩:=Za y h.2 b hb;exact ⟨q1,fun b' h'=>.inr (q2 b' h')⟩
 | .cond _ x y,h,b,hb=>by
  simp only [Zz,Bool.and_eq_true] at h;simp only [QN,List.mem_append] at hb ⊢;rcases hb with hb | hb
  · obtain ⟨q1,q2⟩:=Za x h.1 b hb;exact ⟨q1,fun b' h'=>.inl (q2 b' h')⟩
  · obtain ⟨q1,q2⟩:=Za y h.2 b hb;exact ⟨q1,fun b' h'=>.inr (q2 b' h')⟩
 | .block _ x,h,b,hb=>by
  simp only [Zz] at h;simp only [QN] at hb ⊢;exact Za x h b hb
 | .loop x,h,b,hb=>by
  simp only [Zz] at h;simp only [QN,List.mem_cons] at hb ⊢;rcases hb with rfl | hb
  · exact ⟨h,fun b' h'=>.inr h'⟩
  · obtain ⟨q1,q2⟩:=Za x h b hb;exact ⟨q1,fun b' h'=>.inr (q2 b' h')⟩
 | .skip,_,b,hb=>by simp [QN] at hb
 | .region _ _ _,_,b,hb=>by simp [QN] at hb
 | .rangeFunc _ _ _ _,_,b,hb=>by simp [QN] at hb
 | .exit _,_,b,hb=>by simp [QN] at hb
 | .scope x,h,b,hb=>by
  simp only [Zz] at h;simp only [QN] at hb ⊢;exact Za x h b hb
 | .label _,_,b,hb=>by simp [QN] at hb
 | .goto _,_,b,hb=>by simp [QN] at hb
 | .ret,_,b,hb=>by simp [QN] at hb
end
section
variable {C:Cdc}
def D.ren (f:Nat->Nat):D C->D C
 | .acons d ds=>.acons (d.ren f) (ds.ren f)
 | .tup d=>.tup (d.ren f)
 | .fn g d=>.fn g (d.ren f)
 | .yl n s p a b d id=>.yl n s p a b (d.ren f) (f id)
 | .itp id=>.itp (f id)
 | .bm g d=>.bm g (d.ren f)
 | .cptr d=>.cptr (d.ren f)
 | .dsl n c d=>.dsl n c (d.ren f)
 | .mp id=>.mp (f id)
 | .vs id n=>.vs (f id) n
 | .ptr id p=>.ptr (f id) p
 | .asl t id p lo n=>.asl t (f id) p lo n
 | .vptr id n p=>.vptr (f id) n p
 | d=>d
def Obj.ren (f:Nat->Nat):Obj C->Obj C
 | .var t d=>.var t (d.ren f)
 | o=>o
theorem D.ren_refs (f:Nat->Nat):∀ d:D C,(d.ren f).refs=d.refs.map f
 | .acons d ds=>by simp [D.ren,D.refs,D.ren_refs f d,D.ren_refs f ds]
 | .tup d=>by simp [D.ren,D.refs,D.ren_refs f d]
 | .fn g d=>by simp [D.ren,D.refs,D.ren_refs f d]
 | .cptr d=>by simp [D.ren,D.refs,D.ren_refs f d]
 | .dsl _ _ d=>by simp [D.ren,D.refs,D.ren_refs f d]
 | .bm _ d=>by simp [D.ren,D.refs,D.ren_refs f d]
 | .itp id=>rfl
 | .mp id=>rfl
 | .vs id n=>rfl
 | .ptr id p=>rfl
 | .asl _ id _ _ _=>rfl
 | .vptr id n p=>rfl
 | .bool _=>rfl
 | .int _ _=>rfl
 | .str _=>rfl
 | .anil=>rfl
 | .arr _ _ _=>rfl
 | .nils=>rfl
 | .sl _ _ _=>rfl
 | .nilp=>rfl
 | .nilfn=>rfl
 | .nilm=>rfl
 | .yl _ _ _ _ _ d id=>by simp [D.ren,D.refs,D.ren_refs f d]
 | .top=>rfl
theorem Obj.ren_refs (f:Nat->Nat) (o:Obj C):(o.ren f).refs=o.refs.map f:=by
 cases o with
 | var t d=>exact D.ren_refs f d
 | vec t own l=>rfl
 | map _ _ _=>rfl
 | ctl _=>rfl
theorem D.ren_ren (f g:Nat->Nat):∀ d:D C,(∀ id ∈ d.refs,g (f id)=id)->(d.ren f).ren g=d
 | .acons d ds,h=>by
  simp only [D.refs,List.mem_append] at h;simp [D.ren,D.ren_ren f g d (fun id hi=>h id (.inl hi)),D.ren_ren f g ds (fun id hi=>h id (.inr hi))]
 | .tup d,h=>by simp [D.ren,D.ren_ren f g d (by simpa [D.refs] using h)]
 | .fn _ d,h=>by simp [D.ren,D.ren_ren f g d (by simpa [D.refs] using h)]
 | .yl _ _ _ _ _ d id,h=>by
  simp only [D.refs,List.mem_append,List.mem_singleton] at h;simp [D.ren,D.ren_ren f g d (fun i hi=>h i (.inl hi)),h id (.inr rfl)]
 | .itp id,h=>by simp [D.ren,h id (by simp [D.refs])]
 | .bm _ d,h=>by simp [D.ren,D.ren_ren f g d (by simpa [D.refs] using h)]
 | .cptr d,h=>by simp [D.ren,D.ren_ren f g d (by simpa [D.refs] using h)]
 | .dsl _ _ d,h=>by simp [D.ren,D.ren_ren f g d (by simpa [D.refs] using h)]
 | .mp id,h=>by simp [D.ren,h id (by simp [D.refs])]
 | .vs id n,h=>by simp [D.ren,h id (by simp [D.refs])]
 | .ptr id p,h=>by simp [D.ren,h id (by simp [D.refs])]
 | .asl _ id _ _ _,h=>by simp [D.ren,h id (by simp [D.refs])]
 | .vptr id n p,h=>by simp [D.ren,h id (by simp [D.refs])]
 | .bool _,_=>rfl
 | .int _ _,_=>rfl
 | .str _,_=>rfl
 | .anil,_=>rfl
 | .arr _ _ _,_=>rfl
 | .nils,_=>rfl
 | .sl _ _ _,_=>rfl
 | .nilp,_=>rfl
 | .nilfn,_=>rfl
 | .nilm,_=>rfl
 | .top,_=>rfl
theorem D.ren_same (f:Nat->Nat):∀ d:D C,d.refs=[]->d.ren f=d
 | .acons d ds,h=>by
  simp only [D.refs,List.append_eq_nil_iff] at h;simp [D.ren,D.ren_same f d h.1,D.ren_same f ds h.2]
 | .tup d,h=>by simp [D.ren,D.ren_same f d (by simpa [D.refs] using h)]
 | .fn _ d,h=>by simp [D.ren,D.ren_same f d (by simpa [D.refs] using h)]
 | .yl _ _ _ _ _ d id,h=>by simp [D.refs] at h
 | .itp id,h=>by simp [D.refs] at h
 | .bm _ d,h=>by simp [D.ren,D.ren_same f d (by simpa [D.refs] using h)]
 | .cptr d,h=>by simp [D.ren,D.ren_same f d (by simpa [D.refs] using h)]
 | .dsl _ _ d,h=>by simp [D.ren,D.ren_same f d (by simpa [D.refs] using h)]
 | .mp id,h=>by simp [D.refs] at h
 | .vs id n,h=>by simp [D.refs] at h
 | .ptr id p,h=>by simp [D.refs] at h
 | .asl _ id _ _ _,h=>by simp [D.refs] at h
 | .vptr id n p,h=>by simp [D.refs] at h
 | .bool _,_=>rfl
 | .int _ _,_=>rfl
 | .str _,_=>rfl
 | .anil,_=>rfl
 | .arr _ _ _,_=>rfl
 | .nils,_=>rfl
 | .sl _ _ _,_=>rfl
 | .nilp,_=>rfl
 | .nilfn,_=>rfl
 | .nilm,_=>rfl
 | .top,_=>rfl
theorem D.ren_noYl (f:Nat->Nat) (d:D C):(d.ren f).noYl=d.noYl:=by
 induction d with
 | acons d ds i1 i2=>simp only [D.ren,D.noYl,i1,i2]
 | tup d ih=>simpa only [D.ren,D.noYl] using ih
 | fn _ d ih=>simpa only [D.ren,D.noYl] using ih
 | cptr d ih=>simpa only [D.ren,D.noYl] using ih
 | dsl _ _ d ih=>simpa only [D.ren,D.noYl] using ih
 | bm _ d ih=>simpa only [D.ren,D.noYl] using ih
 | _=>rfl
theorem D.ren_row (f:Nat->Nat) (d:D C):(d.ren f).isRow=d.isRow:=by cases d <;> rfl
theorem D.ren_ones (f:Nat->Nat) (d:D C):(d.ren f).ones=d.ones:=by
 induction d with
 | acons d ds _ ih=>simp only [D.ren,D.ones,D.ren_row,ih]
 | _=>rfl
variable {T:Tab C}
theorem JI (f:Nat->Nat):∀ (d:D C) (u:TypeId ⊕ List TypeId),fit T (d.ren f) u=fit T d u
 | .acons d ds,.inl t=>by
  simp only [D.ren,fit]
  split <;> simp [JI f d,JI f ds]
 | .acons d ds,.inr []=>by simp [D.ren,fit]
 | .acons d ds,.inr (a::fs)=>by simp [D.ren,fit,JI f d,JI f ds]
 | .tup _,.inl _=>rfl
 | .tup _,.inr _=>rfl
 | .fn _ d,.inl _=>by simp only [D.ren,fit,D.ren_noYl]
 | .yl _ _ _ _ _ _ _,.inl _=>rfl
 | .yl _ _ _ _ _ _ _,.inr _=>rfl
 | .itp _,.inl _=>rfl
 | .itp _,.inr _=>rfl
 | .bm _ d,.inl _=>by simp only [D.ren,fit,D.ren_noYl]
 | .bm _ _,.inr _=>rfl
 | .fn _ _,.inr _=>rfl
 | .cptr d,.inl _=>by simp only [D.ren,fit,D.ren_noYl]
 | .cptr _,.inr _=>rfl
 | .dsl _ _ d,.inl _=>by simp only [D.ren,fit,D.ren_noYl]
 | .dsl _ _ _,.inr _=>rfl
 | .mp _,.inl _=>rfl
 | .mp _,.inr _=>rfl
 | .vs _ _,.inl _=>rfl
 | .vs _ _,.inr _=>rfl
 | .ptr _ _,.inl _=>rfl
 | .asl _ _ _ _ _,.inl _=>rfl
 | .asl _ _ _ _ _,.inr _=>rfl
 | .ptr _ _,.inr _=>rfl
 | .vptr _ _ _,.inl _=>rfl
 | .vptr _ _ _,.inr _=>rfl
 | .bool _,_=>rfl
 | .int _ _,_=>rfl
 | .str _,_=>rfl
 | .anil,_=>rfl
 | .arr _ _ _,_=>rfl
 | .nils,_=>rfl
 | .sl _ _ _,_=>rfl
 | .nilp,_=>rfl
 | .nilfn,_=>rfl
 | .nilm,_=>rfl
 | .top,_=>rfl
theorem R.renG {X X':Cx} {y:Bool} (f:Nat->Nat) (he:∀ t x,(T.enc t x).refs=[] /\ (T.enc t x).noYl=true) (hX:∀ b o v,X.w.cell? ⟨b,o,none⟩=some v->X.free b o->X'.w.cell? ⟨b,o,none⟩=some v /\ X'.free b o)
 (hL:y=true->True)
 {m:Bool} {d:D C} {vs:List Value} (h:R T X m d vs):(∀ id ∈ d.refs,Qd (X.ρ id) (X'.ρ (f id)))->(y=true \/ d.noYl=true)->R T X' m (d.ren f) vs:=by
 induction h with
 | bool b=>exact fun _ _=>.bool b
 | int h=>exact fun _ _=>.int h
 | str s=>exact fun _ _=>.str s
 | anil=>exact fun _ _=>.anil
 | acons _ _ i1 i2 =>
  intro hr hy;simp only [D.refs,List.mem_append] at hr;exact .acons (i1 (fun id h=>hr id (.inl h)) (hy.imp id fun h=>by simp only [D.noYl,Bool.and_eq_true] at h;exact h.1)) (i2 (fun id h=>hr id (.inr h)) (hy.imp id fun h=>by simp only [D.noYl,Bool.and_eq_true] at h;exact h.2))
 | arr0 t=>exact fun _ _=>.arr0 t
 | @arrS t n x l c1 c2 _ _ i1 i2 =>
  intro _ hy;have h1:=i1 (by simp [he]) (.inr (he _ _).2)
  rw [D.ren_same f _ (he t x).1] at h1;exact .arrS h1 (i2 (by simp [D.refs]) (.inr rfl))
 | nils=>exact fun _ _=>.nils
 | sl0 t c a=>exact fun _ _=>.sl0 t c a
 | sl ha _ hc hcap ih=>exact fun _ _=>.sl (fun j v hj=>hX _ _ _ (ha j v hj).1 (ha j v hj).2) (ih (by simp [D.refs]) (.inr rfl)) hc hcap
 | @vs id n cp a h =>
  intro hr hy;refine .vs fun v e b lo hi hv=>?_;have hc:=hr id (by simp [D.refs])
  rw [hv] at hc;cases ho:X.ρ id with
  | none=>rw [ho] at hc;simp [Qd] at hc
  | some l =>
   rw [ho] at hc;cases l with
   | var b t=>simp [Qd] at hc
   | map b0=>simp [Qd] at hc
   | ctl _=>simp [Qd] at hc
   | vec v0 e0 b0 lo0 hi0 =>
    simp only [Qd] at hc;have:=h _ _ _ _ _ ho;refine ⟨by omega,fun hl=>?_⟩
    have e1:=hc.2.2 (by omega)
    rw [e1];exact this.2 (by omega)
 | @ptr id p a h =>
  intro hr hy;refine .ptr fun b t hv=>?_;have hc:=hr id (by simp [D.refs])
  rw [hv] at hc;cases ho:X.ρ id with
  | none=>rw [ho] at hc;simp [Qd] at hc
  | some l =>
   rw [ho] at hc;cases l with
   | var b0 t0 =>
    simp only [Qd,Loc.var.injEq] at hc;obtain ⟨rfl,rfl⟩:=hc;exact h _ _ ho
   | vec v0 e0 b0 lo0 hi0=>simp [Qd] at hc
   | map b0=>simp [Qd] at hc
   | ctl _=>simp [Qd] at hc
 | @asl ta id lo n cp p ao h hs hw =>
  intro hr hy;refine .asl (fun b t hv=>?_) hs (fun v e b lo hi hv=>?_)
  · have hc:=hr id (by simp [D.refs])
    rw [hv] at hc;cases ho:X.ρ id with
    | none=>rw [ho] at hc;simp [Qd] at hc
    | some l =>
     rw [ho] at hc;cases l with
     | var b0 t0 =>
      simp only [Qd,Loc.var.injEq] at hc;obtain ⟨rfl,rfl⟩:=hc;exact h _ _ ho
     | vec v0 e0 b0 lo0 hi0=>simp [Qd] at hc
     | map b0=>simp [Qd] at hc
     | ctl _=>simp [Qd] at hc
  · have hc:=hr id (by simp [D.refs])
    rw [hv] at hc;cases ho:X.ρ id with
    | none=>rw [ho] at hc;simp [Qd] at hc
    | some l =>
     rw [ho] at hc;cases l with
     | var b t=>simp [Qd] at hc
     | map b0=>simp [Qd] at hc
     | ctl _=>simp [Qd] at hc
     | vec v0 e0 b0 lo0 hi0 =>
      simp only [Qd] at hc;have:=hw _ _ _ _ _ ho;refine ⟨by omega,fun hl=>?_⟩
      have e1:=hc.2.2 (by omega)
      rw [e1,hc.1];exact this.2 (by omega)
 | @vptr id n i p a h =>
  intro hr hy;refine .vptr fun v e b lo hi hv=>?_;have hc:=hr id (by simp [D.refs])
  rw [hv] at hc;cases ho:X.ρ id with
  | none=>rw [ho] at hc;simp [Qd] at hc
  | some l =>
   rw [ho] at hc;cases l with
   | var b t=>simp [Qd] at hc
   | map b0=>simp [Qd] at hc
   | ctl _=>simp [Qd] at hc
   | vec v0 e0 b0 lo0 hi0 =>
    simp only [Qd] at hc;have:=h _ _ _ _ _ ho;refine ⟨by omega,fun hl=>?_⟩
    have e1:=hc.2.2 (by omega)
    rw [e1,hc.1];exact this.2 (by omega)
 | cptr ha _ ih =>
  intro hr hy;exact .cptr (fun j v hj=>hX _ _ _ (ha j v hj).1 (ha j v hj).2) (ih (by simpa [D.refs] using hr) hy)
 | nilp=>exact fun _ _=>.nilp
 | dsl ha _ hn h1 hc ih =>
  intro hr hy;exact .dsl (fun j v hj=>hX _ _ _ (ha j v hj).1 (ha j v hj).2) (ih (by simpa [D.refs] using hr) hy) hn (by rw [D.ren_ones];exact h1) hc
 | @itp id r h =>
  intro hr hy;refine .itp fun s hv=>?_;have hc:=hr id (by simp [D.refs])
  rw [hv] at hc;cases ho:X.ρ id with
  | none=>rw [ho] at hc;simp [Qd] at hc
  | some l =>
   rw [ho] at hc;cases l with
   | ctl s0 =>
    simp only [Qd,Loc.ctl.injEq] at hc;obtain rfl:=hc;exact h _ ho
   | _=>simp [Qd] at hc
 | @mp id b h =>
  intro hr hy;refine .mp fun b' hv=>?_;have hc:=hr id (by simp [D.refs])
  rw [hv] at hc;cases ho:X.ρ id with
  | none=>rw [ho] at hc;simp [Qd] at hc
  | some l =>
   rw [ho] at hc;cases l with
   | map b0 =>
    simp only [Qd,Loc.map.injEq] at hc;obtain rfl:=hc;exact h _ ho
   | _=>simp [Qd] at hc
 | fn _ ih=>exact fun hr hy=>.fn (ih (by simpa [D.refs] using hr) hy)
 | nilfn=>exact fun _ _=>.nilfn
 | nilm=>exact fun _ _=>.nilm
 | bm _ hrow ih=>exact fun hr hy=>.bm (ih (by simpa [D.refs] using hr) hy) (by rw [D.ren_row];exact hrow)
 | @yl nt l id slots ps asn body caps rec hw hs _ ih =>
  intro hr hy;rcases hy with hy | hy
  · refine .yl (fun s hv=>?_) hs (ih (fun i hi=>hr i (by simp [D.refs,hi])) (.inl hy))
    have hc:=hr id (by simp [D.refs])
    rw [hv] at hc;cases ho:X.ρ id with
    | none=>rw [ho] at hc;simp [Qd] at hc
    | some l =>
     rw [ho] at hc;cases l with
     | ctl s0 =>
      simp only [Qd,Loc.ctl.injEq] at hc;obtain rfl:=hc;exact hw _ ho
     | _=>simp [Qd] at hc
  · cases hy
 | tup _ ih=>exact fun hr hy=>.tup (ih (by simpa [D.refs] using hr) hy)
 | top v=>exact fun _ _=>.top v
 | vnil=>exact fun _ _=>.vnil
 | vrow _ hr' _ i1 i2 =>
  intro hr hy;simp only [D.refs,List.mem_append] at hr;exact .vrow (i1 (fun id h=>hr id (.inl h)) (hy.imp id fun h=>by simp only [D.noYl,Bool.and_eq_true] at h;exact h.1)) (by rw [D.ren_row];exact hr') (i2 (fun id h=>hr id (.inr h)) (hy.imp id fun h=>by simp only [D.noYl,Bool.and_eq_true] at h;exact h.2))
 | vone _ hr' _ i1 i2 =>
  intro hr hy;simp only [D.refs,List.mem_append] at hr;exact .vone (i1 (fun id h=>hr id (.inl h)) (hy.imp id fun h=>by simp only [D.noYl,Bool.and_eq_true] at h;exact h.1)) (by rw [D.ren_row];exact hr') (i2 (fun id h=>hr id (.inr h)) (hy.imp id fun h=>by simp only [D.noYl,Bool.and_eq_true] at h;exact h.2))
theorem R.ren {X X':Cx} (f:Nat->Nat) (he:∀ t x,(T.enc t x).refs=[] /\ (T.enc t x).noYl=true) (hX:Kps X X')
 {m:Bool} {d:D C} {vs:List Value} (h:R T X m d vs) (hr:∀ id ∈ d.refs,Qd (X.ρ id) (X'.ρ (f id))):R T X' m (d.ren f) vs :=
 h.renG (y:=true) f he hX.cell (fun _=>trivial) hr (.inl rfl)
theorem R.renE {X X':Cx} (f:Nat->Nat) (he:∀ t x,(T.enc t x).refs=[] /\ (T.enc t x).noYl=true) (hX:∀ b o v,X.w.cell? ⟨b,o,none⟩=some v->X.free b o->X'.w.cell? ⟨b,o,none⟩=some v /\ X'.free b o)
 {m:Bool} {d:D C} {vs:List Value} (h:R T X m d vs) (hn:d.noYl=true) (hr:∀ id ∈ d.refs,Qd (X.ρ id) (X'.ρ (f id))):R T X' m (d.ren f) vs :=
 h.renG (y:=false) f he hX (fun h=>by cases h) hr (.inr hn)
theorem RV.ren {X X':Cx} (f:Nat->Nat) (he:∀ t x,(T.enc t x).refs=[] /\ (T.enc t x).noYl=true) (hX:Kps X X')
 {d:D C} {v:Value} (h:RV T X d v) (hr:∀ id ∈ d.refs,Qd (X.ρ id) (X'.ρ (f id))):RV T X' (d.ren f) v:=by
 rcases h with ⟨h1,cs,h2,h3⟩ | ⟨h1,h2⟩
 · exact .inl ⟨by rw [D.ren_row];exact h1,cs,h2.ren f he hX hr,h3⟩
 · exact .inr ⟨by rw [D.ren_row];exact h1,h2.ren f he hX hr⟩
def Cx.part (X:Cx) (k:Nat) (f:Nat->Nat):Cx :=
 ⟨X.w,fun j=>if j < k then X.ρ (f j) else none,fun b o=>X.O b o \/ (X.mine b o /\ ∀ j,j < k -> ∀ l,X.ρ (f j)=some l -> ¬ l.owns b o)⟩
theorem Cx.part_mine {X:Cx} {k:Nat} {f:Nat->Nat} {b o:Nat}:(X.part k f).mine b o ↔ ∃ j l,j < k /\ X.ρ (f j)=some l /\ l.owns b o:=by
 constructor
 · rintro ⟨j,l,h1,h2⟩
   simp only [Cx.part] at h1
   split at h1
   · exact ⟨j,l,by assumption,h1,h2⟩
   · cases h1
 · rintro ⟨j,l,h0,h1,h2⟩
   exact ⟨j,l,by simp [Cx.part,h0,h1],h2⟩
theorem Cx.part_free {X:Cx} {k:Nat} {f:Nat->Nat} {b o:Nat}:(X.part k f).free b o ↔ X.free b o:=by
 constructor
 · rintro ⟨h1,h2⟩
   refine ⟨fun h=>h1 (.inl h),fun hm=>?_⟩
   by_cases hq:∃ j l,j < k /\ X.ρ (f j)=some l /\ l.owns b o
   · exact h2 (Cx.part_mine.2 hq)
   · exact h1 (.inr ⟨hm,fun j hj l hl ho=>hq ⟨j,l,hj,hl,ho⟩⟩)
 · rintro ⟨h1,h2⟩
   refine ⟨fun h=>h.elim h1 fun h=>h2 h.1,fun hm=>?_⟩;obtain ⟨j,l,_,hl,ho⟩:=Cx.part_mine.1 hm;exact h2 ⟨f j,l,hl,ho⟩
def hpOf:Nat->List (Obj C)->Heap C
 | _,[]=>[]
 | n,o::l=>(n,o)::hpOf (n+1) l
theorem QgA:∀ (l:List (Obj C)) (n id:Nat),(hpOf n l).get id=if n <= id then l[id - n]? else none
 | [],n,id=>by simp [hpOf,Heap.get]
 | o::l,n,id=>by
  rw [hpOf,Qn,QgA l (n+1) id]
  by_cases h1:id=n
  · subst h1;simp
  · by_cases h2:n <= id
    · have h3:n+1 <= id:=by omega
      have h4:id - n=(id - (n+1))+1:=by omega
      simp [h1,h2,h3,h4]
    · have h3:¬ n+1 <= id:=by omega
      simp [h1,h2,h3]
theorem QA (l:List (Obj C)) (id:Nat):(hpOf 0 l).get id=l[id]? := by rw [QgA];simp
structure Part (h:Heap C) (os:List (Obj C)) (f:Nat->Nat):Prop where
 at':∀ j o,os[j]? = some o->h.get (f j)=some (o.ren f)
 inj:∀ i j,i < os.length->j < os.length->f i=f j->i=j
 refs:∀ o ∈ os,∀ r ∈ Obj.refs o,r < os.length
theorem QdW {f:Nat->Nat} {k:Nat} (hi:∀ i j,i < k->j < k->f i=f j->i=j):∃ g:Nat->Nat,∀ j,j < k->g (f j)=j:=by
 classical
 refine ⟨fun n=>if h:∃ j,j < k /\ f j=n then h.choose else 0,fun j hj=>?_⟩
 have hex:∃ i,i < k /\ f i=f j:=⟨j,hj,rfl⟩;simp only [hex,dif_pos];have h1:=hex.choose_spec;exact hi _ _ h1.1 hj h1.2
theorem Part.ctx (L:Laws T) {X:Cx} {h:Heap C} {nx:Nat} {lim:Lim} (g:G T X h nx lim) {os:List (Obj C)} {f:Nat->Nat} (p:Part h os f) (top:Nat):G T (X.part os.length f) (hpOf 0 os) os.length (lim0 top):=by
 obtain ⟨fi,hfi⟩:=QdW p.inj;have hX:Kps X (X.part os.length f):=⟨fun b o v h1 h2=>⟨h1,Cx.part_free.2 h2⟩⟩;refine ⟨?_,?_,?_,?_,?_,?_,?_,?_,?_,Nat.zero_le _,?_⟩
 · intro id t d ho;rw [QA] at ho;have hlt:id < os.length:=(List.getElem?_eq_some_iff.1 ho).1;obtain ⟨b,c,h1,h2,h3,h4⟩:=g.var (f id) t (d.ren f) (p.at' id _ ho);have hrefs:∀ r ∈ d.refs,r < os.length:=p.refs _ (List.mem_of_getElem? ho);refine ⟨b,c,by simp [Cx.part,hlt,h1],h2,?_,by rw [JI] at h4;exact h4⟩
   have h5:=h3.ren (X':=X.part os.length f) fi L.encOK hX (fun r hr=>by
    rw [D.ren_refs,List.mem_map] at hr;obtain ⟨r0,hr0,rfl⟩:=hr;have:=hrefs r0 hr0;simp only [hfi r0 this,Cx.part,this,if_true];exact .refl _)
   rwa [D.ren_ren f fi d (fun r hr=>hfi r (hrefs r hr))] at h5
 · intro id t own l ho;rw [QA] at ho;have hlt:id < os.length:=(List.getElem?_eq_some_iff.1 ho).1;obtain ⟨v,b,lo,hi,h1,h2⟩:=g.vec (f id) t own l (p.at' id _ ho);refine ⟨v,b,lo,hi,by simp [Cx.part,hlt,h1],?_⟩
   exact h2.move L hX.cell (fun _=>rfl) (L.posE t)
 · intro id ck cv l ho;rw [QA] at ho;have hlt:id < os.length:=(List.getElem?_eq_some_iff.1 ho).1;obtain ⟨b,es,k,h1,h2,h3⟩:=g.map (f id) ck cv l (p.at' id _ ho);exact ⟨b,es,k,by simp [Cx.part,hlt,h1],h2,h3.move L hX.cell⟩
 · intro id cc ho;rw [QA] at ho;have hlt:id < os.length:=(List.getElem?_eq_some_iff.1 ho).1;obtain ⟨s,h1,h2⟩:=g.ctl (f id) cc (p.at' id _ ho);exact ⟨s,by simp [Cx.part,hlt,h1],h2.move L hX.cell fun _ _=>rfl⟩
 · intro id l hr;simp only [Cx.part] at hr
   split at hr
   · rename_i hlt;rw [QA];simp [hlt]
   · cases hr
 · intro id o ho;rw [QA] at ho;have hlt:id < os.length:=(List.getElem?_eq_some_iff.1 ho).1;exact ⟨⟨.inl hlt,fun h=>h⟩,fun r hr=>⟨.inl (p.refs _ (List.mem_of_getElem? ho) r hr),fun h=>h⟩⟩
 · intro i j l l' b o o' h1 h2 h3 h4;simp only [Cx.part] at h1 h2
   split at h1
   · split at h2
     · exact p.inj i j (by assumption) (by assumption) (g.apart _ _ _ _ _ _ _ h1 h2 h3 h4)
     · cases h2
   · cases h1
 · intro b o hm;obtain ⟨j,l,hj,hl,ho⟩:=Cx.part_mine.1 hm;have:=g.outer b o ⟨_,l,hl,ho⟩;exact ⟨fun h=>h.elim this.1 fun h=>h.2 j hj l hl ho,this.2⟩
 · intro b o ho;exact ho.elim (g.outs b o) fun h=>(g.outer b o h.1).2
 · exact fun q hq=>⟨(g.pre q hq).1,fun o hm=>by
    obtain ⟨j,l,hj,hl,ho⟩:=Cx.part_mine.1 hm;exact (g.pre q hq).2 o ⟨_,l,hl,ho⟩⟩
theorem Part.back (L:Laws T) {X:Cx} {h h':Heap C} {nx:Nat} {lim:Lim} (g:G T X h nx lim) {os os':List (Obj C)} {f:Nat->Nat} (p:Part h os f) (hlen:os'.length=os.length) (hrefs:∀ o ∈ os',∀ r ∈ Obj.refs o,r < os.length)
 {X1:Cx} {lim1:Lim} (g1:G T X1 (hpOf 0 os') os.length lim1) (s1:Step (X.part os.length f) os.length (lim0 os.length) X1)
 (hin:∀ j o,os'[j]? = some o->h'.get (f j)=some (o.ren f)) (hout:∀ id,(∀ j,j < os.length->f j ≠ id)->h'.get id=h.get id) :
 ∃ X',X'.w=X1.w /\ G T X' h' nx lim /\ Step X nx lim X' /\ (∀ j,j < os.length->X'.ρ (f j)=X1.ρ j) /\ ∀ b o v,X1.w.cell? ⟨b,o,none⟩=some v->X1.free b o->X'.w.cell? ⟨b,o,none⟩=some v /\ X'.free b o:=by
 classical
 obtain ⟨fi,hfi⟩:=QdW p.inj
 let X':Cx:=⟨X1.w,fun id=>if ∃ j,j < os.length /\ f j=id then X1.ρ (fi id) else X.ρ id,X.O⟩
 have hρ1:∀ j,j < os.length->X'.ρ (f j)=X1.ρ j:=fun j hj=>by
  have:∃ i,i < os.length /\ f i=f j:=⟨j,hj,rfl⟩;simp only [X',this,if_true,hfi j hj]
 have hρ2:∀ id,(∀ j,j < os.length->f j ≠ id)->X'.ρ id=X.ρ id:=fun id hid=>by
  have:¬ ∃ j,j < os.length /\ f j=id:=fun ⟨j,hj,e⟩=>hid j hj e;simp only [X',this,if_false]
 have hcase:∀ id,(∃ j,j < os.length /\ f j=id) \/ (∀ j,j < os.length->f j ≠ id):=fun id=>by
  by_cases hq:∃ j,j < os.length /\ f j=id
  · exact .inl hq
  · exact .inr fun j hj e=>hq ⟨j,hj,e⟩
 have gp:=Part.ctx L g p os.length
 -- what the others own
 have hA:∀ id l b o,(∀ j,j < os.length->f j ≠ id)->X.ρ id=some l->l.owns b o->b < X.w.heap.size /\ (X.part os.length f).O b o /\ ∀ o',¬ (X.part os.length f).mine b o':=by
  intro id l b o hid hl ho;have hno:∀ j,j < os.length -> ∀ l',X.ρ (f j)=some l' -> ∀ o',¬ l'.owns b o':=fun j hj l' hl' o' ho'=>hid j hj (g.apart _ _ _ _ _ _ _ hl' hl ho' ho);refine ⟨(g.outer b o ⟨id,l,hl,ho⟩).2,.inr ⟨⟨id,l,hl,ho⟩,fun j hj l' hl'=>hno j hj l' hl' o⟩,fun o' hm=>?_⟩;obtain ⟨j,l',hj,hl',ho'⟩:=Cx.part_mine.1 hm;exact hno j hj l' hl' o' ho'
 have hmine:∀ b o,X'.mine b o->X1.mine b o \/ ∃ id l,(∀ j,j < os.length->f j ≠ id) /\ X.ρ id=some l /\ l.owns b o:=by
  rintro b o ⟨id,l,h1,h2⟩
  rcases hcase id with ⟨j,hj,rfl⟩ | hid
  · rw [hρ1 j hj] at h1;exact .inl ⟨j,l,h1,h2⟩
  · rw [hρ2 id hid] at h1;exact .inr ⟨id,l,hid,h1,h2⟩
 have hB:∀ b o,X1.free b o->X'.free b o:=by
  rintro b o ⟨h1,h2⟩
  have hO:X1.O=(X.part os.length f).O:=s1.O;refine ⟨fun h3=>h1 (by rw [hO];exact .inl h3),fun hm=>?_⟩
  rcases hmine b o hm with h3 | ⟨id,l,h3,h4,h5⟩
  · exact h2 h3
  · exact h1 (by rw [hO];exact (hA id l b o h3 h4 h5).2.1)
 have hBB:∀ b o v,X1.w.cell? ⟨b,o,none⟩=some v->X1.free b o->X'.w.cell? ⟨b,o,none⟩=some v /\ X'.free b o:=fun b o v h1 h2=>⟨h1,hB b o h2⟩
 have hC:∀ b o v,X.w.cell? ⟨b,o,none⟩=some v->X.free b o->X'.w.cell? ⟨b,o,none⟩=some v /\ X'.free b o:=by
  intro b o v h1 h2;have:=s1.keeps.cell b o v h1 (Cx.part_free.2 h2);exact hBB b o v this.1 this.2
 have hold:∀ j,j < os.length->old os.length (lim0 os.length) j:=fun j hj=>⟨.inl hj,fun h=>h⟩
 have hD:∀ id,Qd (X.ρ id) (X'.ρ id):=by
  intro id;rcases hcase id with ⟨j,hj,rfl⟩ | hid
  · rw [hρ1 j hj];have:=s1.ρ j (hold j hj)
    simpa [Cx.part,hj] using this
  · rw [hρ2 id hid];exact .refl _
 have hblk:∀ id l b o,(∀ j,j < os.length->f j ≠ id)->X.ρ id=some l->l.owns b o->X'.w.heap[b]? = X.w.heap[b]? := fun id l b o h1 h2 h3=>by
  obtain ⟨a1,a2,a3⟩:=hA id l b o h1 h2 h3;exact s1.block b a1 a3
 have hsome:∀ j,j < os.length -> ∃ o,h.get (f j)=some o:=fun j hj=>⟨_,p.at' j os[j] (by simp [hj])⟩
 have hs:Step X nx lim X':=by
  refine ⟨rfl,s1.os,s1.tape,s1.output,s1.size,fun id _=>hD id,?_,?_,?_,s1.frz⟩
  · intro b o hb hm;rcases hmine b o hm with h3 | ⟨id,l,h3,h4,h5⟩
    · obtain ⟨j,l,hj,hl,ho⟩:=Cx.part_mine.1 (s1.mine b o hb h3);exact ⟨f j,l,hl,ho⟩
    · exact ⟨id,l,h4,h5⟩
  · intro b o hb hm
    exact s1.cell b o hb fun hq=>by
     obtain ⟨j,l,hj,hl,ho⟩:=Cx.part_mine.1 hq;exact hm ⟨f j,l,hl,ho⟩
  · intro b hb hm
    exact s1.block b hb fun o hq=>by
     obtain ⟨j,l,hj,hl,ho⟩:=Cx.part_mine.1 hq;exact hm o ⟨f j,l,hl,ho⟩
 refine ⟨X',rfl,⟨?_,?_,?_,?_,?_,?_,?_,?_,?_,g.low,g.pre.step hs⟩,hs,hρ1,hBB⟩
 · intro id t d ho;rcases hcase id with ⟨j,hj,rfl⟩ | hid
   · have e1:os'[j]? = some os'[j]:=by simp [hlen,hj]
     have e2:=hin j _ e1;rw [ho] at e2
     have e3:∃ d0,os'[j]=.var t d0 /\ d=d0.ren f:=by
      cases hq:os'[j] with
      | var t0 d0=>rw [hq] at e2;simp [Obj.ren] at e2;exact ⟨d0,by rw [e2.1],e2.2⟩
      | vec t0 own0 l0=>rw [hq] at e2;simp [Obj.ren] at e2
      | map _ _ _=>rw [hq] at e2;simp [Obj.ren] at e2
      | ctl _=>rw [hq] at e2;simp [Obj.ren] at e2
     obtain ⟨d0,e4,rfl⟩:=e3;rw [e4] at e1;obtain ⟨b,c,h1,h2,h3,h4⟩:=g1.var j t d0 (by rw [QA];exact e1)
     refine ⟨b,c,by rw [hρ1 j hj];exact h1,h2,?_,by rw [JI];exact h4⟩
     refine h3.renE f L.encOK hBB (Yx _ _ h4) fun r hr=>?_;rw [hρ1 r (hrefs _ (List.mem_of_getElem? e1) r hr)];exact .refl _
   · rw [hout id hid] at ho;obtain ⟨b,c,h1,h2,h3,h4⟩:=g.var id t d ho;refine ⟨b,c,by rw [hρ2 id hid];exact h1,by rw [hblk id _ b 0 hid h1 rfl];exact h2,h3.monoG T (y:=false) L.encOK hC (fun h=>by cases h) (fun r hr=>hD r) (.inr (Yx _ _ h4)),h4⟩
 · intro id t own l ho;rcases hcase id with ⟨j,hj,rfl⟩ | hid
   · have e1:os'[j]? = some os'[j]:=by simp [hlen,hj]
     have e2:=hin j _ e1;rw [ho] at e2
     have e3:os'[j]=.vec t own l:=by
      cases hq:os'[j] with
      | var t0 d0=>rw [hq] at e2;simp [Obj.ren] at e2
      | vec t0 own0 l0=>rw [hq] at e2;simp only [Obj.ren,Option.some.injEq] at e2;exact e2.symm
      | map _ _ _=>rw [hq] at e2;simp [Obj.ren] at e2
      | ctl _=>rw [hq] at e2;simp [Obj.ren] at e2
     rw [e3] at e1;obtain ⟨v,b,lo,hi,h1,h2⟩:=g1.vec j t own l (by rw [QA];exact e1)
     exact ⟨v,b,lo,hi,by rw [hρ1 j hj];exact h1,h2.move L hBB (fun _=>rfl) (L.posE t)⟩
   · rw [hout id hid] at ho;obtain ⟨v,b,lo,hi,h1,h2⟩:=g.vec id t own l ho;exact ⟨v,b,lo,hi,by rw [hρ2 id hid];exact h1,h2.move L hC (fun ⟨o,ho'⟩=>hblk id _ b o hid h1 ho') (L.posE t)⟩
 · intro id ck cv l ho;rcases hcase id with ⟨j,hj,rfl⟩ | hid
   · have e1:os'[j]? = some os'[j]:=by simp [hlen,hj]
     have e2:=hin j _ e1;rw [ho] at e2
     have e3:os'[j]=.map ck cv l:=by
      cases hq:os'[j] with
      | var t0 d0=>rw [hq] at e2;simp [Obj.ren] at e2
      | vec t0 own0 l0=>rw [hq] at e2;simp [Obj.ren] at e2
      | map _ _ _=>rw [hq] at e2;simp only [Obj.ren,Option.some.injEq] at e2;exact e2.symm
      | ctl _=>rw [hq] at e2;simp only [Obj.ren,Option.some.injEq] at e2;exact e2.symm
     rw [e3] at e1;obtain ⟨b,es,k,h1,h2,h3⟩:=g1.map j ck cv l (by rw [QA];exact e1)
     exact ⟨b,es,k,by rw [hρ1 j hj];exact h1,h2,h3.move L hBB⟩
   · rw [hout id hid] at ho;obtain ⟨b,es,k,h1,h2,h3⟩:=g.map id ck cv l ho;exact ⟨b,es,k,by rw [hρ2 id hid];exact h1,by rw [hblk id _ b 0 hid h1 rfl];exact h2,h3.move L hC⟩
 · intro id cc ho;rcases hcase id with ⟨j,hj,rfl⟩ | hid
   · have e1:os'[j]? = some os'[j]:=by simp [hlen,hj]
     have e2:=hin j _ e1;rw [ho] at e2
     have e3:os'[j]=.ctl cc:=by
      cases hq:os'[j] <;> rw [hq] at e2 <;> simp [Obj.ren] at e2
      rw [e2]
     rw [e3] at e1;obtain ⟨s,h1,h2⟩:=g1.ctl j cc (by rw [QA];exact e1)
     exact ⟨s,by rw [hρ1 j hj];exact h1,h2.move L hBB fun _ _=>rfl⟩
   · rw [hout id hid] at ho;obtain ⟨s,h1,h2⟩:=g.ctl id cc ho;exact ⟨s,by rw [hρ2 id hid];exact h1,h2.move L hC fun b hb=>hblk id _ b 0 hid h1 hb⟩
 · intro id l hr;rcases hcase id with ⟨j,hj,rfl⟩ | hid
   · rw [hin j os'[j] (by simp [hlen,hj])];rfl
   · rw [hρ2 id hid] at hr;rw [hout id hid];exact g.dom id l hr
 · intro id o ho;rcases hcase id with ⟨j,hj,rfl⟩ | hid
   · obtain ⟨o0,h0⟩:=hsome j hj;have e1:os'[j]? = some os'[j]:=by simp [hlen,hj]
     have e2:=hin j _ e1;rw [ho] at e2;simp only [Option.some.injEq] at e2;refine ⟨(g.nums _ _ h0).1,fun r hr=>?_⟩;rw [e2,Obj.ren_refs,List.mem_map] at hr;obtain ⟨r0,hr0,rfl⟩:=hr;obtain ⟨o1,h1⟩:=hsome r0 (hrefs _ (List.mem_of_getElem? e1) r0 hr0);exact (g.nums _ _ h1).1
   · rw [hout id hid] at ho;exact g.nums id o ho
 · intro i i' l l' b o o' h1 h2 h3 h4;rcases hcase i with ⟨j,hj,rfl⟩ | hid
   · rcases hcase i' with ⟨j',hj',rfl⟩ | hid'
     · rw [hρ1 j hj] at h1;rw [hρ1 j' hj'] at h2;rw [g1.apart j j' l l' b o o' h1 h2 h3 h4]
     · rw [hρ1 j hj] at h1;rw [hρ2 i' hid'] at h2;obtain ⟨a1,a2,a3⟩:=hA i' l' b o' hid' h2 h4;exact (a3 o (s1.mine b o a1 ⟨j,l,h1,h3⟩)).elim
   · rcases hcase i' with ⟨j',hj',rfl⟩ | hid'
     · rw [hρ2 i hid] at h1;rw [hρ1 j' hj'] at h2;obtain ⟨a1,a2,a3⟩:=hA i l b o hid h1 h3;exact (a3 o' (s1.mine b o' a1 ⟨j',l',h2,h4⟩)).elim
     · rw [hρ2 i hid] at h1;rw [hρ2 i' hid'] at h2;exact g.apart i i' l l' b o o' h1 h2 h3 h4
 · intro b o hm;rcases hmine b o hm with h3 | ⟨id,l,h3,h4,h5⟩
   · have:=g1.outer b o h3;exact ⟨fun h=>this.1 (by rw [s1.O];exact .inl h),this.2⟩
   · have:=g.outer b o ⟨id,l,h4,h5⟩;exact ⟨this.1,Nat.lt_of_lt_of_le this.2 s1.size⟩
 · intro b o ho;exact Nat.lt_of_lt_of_le (g.outs b o ho) s1.size
def renE (f:Nat->Nat) (env:Env C):Env C:=env.map fun p=>(p.1,p.2.ren f)
theorem QgB (f:Nat->Nat):∀ (env:Env C) (t:Nat),eget (renE f env) t=(eget env t).ren f
 | [],t=>rfl
 | (j,d)::r,t=>by
  show eget ((j,d.ren f)::renE f r) t=_;rw [Qz,Qz,QgB f r t]
  split <;> rfl
theorem Qu.part (L:Laws T) {X:Cx} {nx:Nat} {lim:Lim} {env env0:Env C} {tmps:Array Value} {k top:Nat} {f:Nat->Nat} (he:Qu T X nx lim env tmps) (hinj:∀ i j,i < k->j < k->f i=f j->i=j)
 (hs:∀ q ∈ env0,eget env q.1=q.2.ren f) (hr:∀ q ∈ env0,∀ r ∈ q.2.refs,r < k):Qu T (X.part k f) k (lim0 top) env0 tmps:=by
 obtain ⟨fi,hfi⟩:=QdW hinj;intro t;rcases eget_mem env0 t with h | h
 · rw [h];exact RO.mk (RV.top _ _ _) rfl
 · have hrt:∀ r ∈ (eget env0 t).refs,r < k:=hr _ h;refine ⟨?_,fun r hh=>⟨.inl (hrt r hh),fun h=>h⟩⟩;have h1:=(he t).1;have h2:=hs _ h;simp only at h2;rw [h2] at h1
   have h3:=RV.ren (X:=X) (X':=X.part k f) fi L.encOK (h:=h1) ⟨fun b o v a1 a2=>⟨a1,Cx.part_free.2 a2⟩⟩ (fun r hh=>by
    rw [D.ren_refs,List.mem_map] at hh;obtain ⟨r0,hr0,rfl⟩:=hh;have:=hrt r0 hr0;simp only [hfi r0 this,Cx.part,this,if_true];exact .refl _)
   rwa [D.ren_ren f fi _ (fun r hh=>hfi r (hrt r hh))] at h3
theorem Qu.back (L:Laws T) {X1 X':Cx} {nx k:Nat} {lim lim1:Lim} {env:Env C} {tmps:Array Value} {f:Nat->Nat} (he:Qu T X1 k lim1 env tmps) (hr:∀ q ∈ env,∀ r ∈ q.2.refs,r < k)
 (hρ:∀ j,j < k->X'.ρ (f j)=X1.ρ j) (hB:Kps X1 X') (hold:∀ j,j < k->old nx lim (f j)):Qu T X' nx lim (renE f env) tmps:=by
 intro t;rw [QgB]
 have hrt:∀ r ∈ (eget env t).refs,r < k:=by
  rcases eget_mem env t with h | h
  · rw [h];simp [D.refs]
  · exact hr _ h
 refine ⟨(he t).1.ren f L.encOK hB fun r hh=>?_,fun r hh=>?_⟩
 · rw [hρ r (hrt r hh)];exact .refl _
 · rw [D.ren_refs,List.mem_map] at hh;obtain ⟨r0,hr0,rfl⟩:=hh;exact hold r0 (hrt r0 hr0)
end
def Leaf {α:Type} (o:Option α) (p:α->Prop):Prop := ∃ r,o=some r /\ p r
theorem Yg {α:Type} {c:Bool} {x y:Option α} {p:α->Prop}:Leaf (cond c x y) p ↔ (c=true->Leaf x p) /\ (c=false->Leaf y p):=by
 cases c <;> simp
theorem QaV {α:Type} {a:α} {p:α->Prop}:Leaf (some a) p ↔ p a:=by simp [Leaf]
section
variable {C:Cdc} {P:Program} {T:Tab C} {Φ:Fns C}
open Pg (Ex)
def Y8 (Φ:Fns C) (g:FuncId):List Code:=match Φ.fn g with
 | some fn=>match fn.body with
  | some b=>QN b
  | none=>[]
 | none=>[]
def VA (Φ:Fns C) (g key:Nat):Code:=((Y8 Φ g).find? fun b=>Nat.beq (Qv b) key).getD .skip
def Qak (k:Nat):List Code->Bool
 | []=>true
 | b::l => !(Nat.beq (Qv b) k) && Qak k l
def QcQ:List Code->Bool
 | []=>true
 | b::l=>Qak (Qv b) l && QcQ l
theorem J1 {k:Nat}:∀ {l:List Code},Qak k l=true -> ∀ b ∈ l,Qv b ≠ k
 | [],_,b,hb=>by simp at hb
 | c::l,h,b,hb=>by
  simp only [Qak,Bool.and_eq_true,Bool.not_eq_true'] at h;simp only [List.mem_cons] at hb;rcases hb with rfl | hb
  · exact Nat.ne_of_beq_eq_false h.1
  · exact J1 h.2 b hb
theorem QbQ {k:Nat}:∀ {l:List Code},QcQ l=true -> ∀ b ∈ l,Qv b=k->l.find? (fun b=>Nat.beq (Qv b) k)=some b
 | [],_,b,hb,_=>by simp at hb
 | c::l,h,b,hb,hk=>by
  simp only [QcQ,Bool.and_eq_true] at h;simp only [List.mem_cons] at hb;rcases hb with rfl | hb
  · simp [hk]
  · have hne:=J1 h.1 b hb;have:Nat.beq (Qv c) k=false:=beqF (by rw [<- hk];exact fun e=>hne e.symm)
    simp only [List.find?_cons,this];exact QbQ h.2 b hb hk
theorem QaW {g key:Nat} (hk:QcQ (Y8 Φ g)=true) {fn:Func} {body b:Code} (hf:Φ.fn g=some fn) (hb:fn.body=some body) (hm:b ∈ QN body) (hkey:Qv b=key):VA Φ g key=b:=by
 have:Y8 Φ g=QN body:=by simp [Y8,hf,hb]
 rw [VA,this,QbQ (by rw [<- this];exact hk) b hm hkey]
 rfl
def sel:List Nat->Env C->Env C
 | [],_=>[]
 | k::l,env=>(k,eget env k)::sel l env
def cut (kc kf:List Nat) (r:Ev.X × Env C):Ev.X × Env C:=match r.1 with
 | .normal=>(.normal,sel kc r.2)
 | x=>(x,sel kf r.2)
theorem VB:∀ (l:List Nat) (env:Env C),Sub env (sel l env)
 | [],env,p,hp=>by simp [sel] at hp
 | k::l,env,p,hp=>by
  simp only [sel,List.mem_cons] at hp;rcases hp with rfl | hp
  · rfl
  · exact VB l env p hp
end
theorem wrap_id {n:Int} (h1:-9223372036854775808 <= n) (h2:n <= 9223372036854775807):IntKind.i64.wrap n=n:=by
 simp only [IntKind.wrap,IntKind.bits,IntKind.signed];simp;omega
def Jq {α:Type} (one:α->Bool) (two:α->α->Bool):Option α->List α->Bool
 | _,[]=>true
 | p,x::l=>one x && (match p with | none=>true | some y=>two y x) && Jq one two (some x) l
def Qki {α:Type} (l:List α) (i:Nat):Option α:=match i with
 | 0=>none
 | i+1=>l[i]?
end Go.Ev
