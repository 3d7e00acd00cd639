/-
  A part of the proof of a statement of this seat: the model is run over values by content, proved sound; what the functions come to. No condition beyond the given statements. (text 3)
-/
import Derived.Test.YtkoeniljaccaiaaGreatP1
import Derived.LoopN
import Derived.Test.YtkoeniljaccaiaaGreatProg
import Derived.KernelRfl
noncomputable section
namespace Go.Ev
set_option linter.unusedVariables false
set_option linter.unusedSimpArgs false
section
variable {C:ij}
open Pg (Ex)
namespace Pg
theorem Ex.xW{α:Type}{p:Pg C α}:∀{e:Lv} {h:Heap C} {n:Nat} {a:α} {h':Heap C} {n':Nat} {t:Tr},Ex e p h n a h' n' t ->
 (∀id w,(id,w)∈t->(h.get id).isSome=true\/(n<=id/\id<n'))/\(∀id,h.get id=none->(h'.get id).isSome=true->n<=id/\id<n'/\(id,true)∈t):=by
 induction p with
 |ret a=>
  intro e h n a' h' n' t hx;obtain⟨rfl,rfl,rfl,rfl⟩:=Ex.ret hx;exact⟨fun id w hm=>by simp at hm,fun id h1 h2=>by simp[h1]at h2⟩
 |fail=>intro e h n a' h' n' t hx;exact Ex.cI hx
 |br b x y ix iy=>
  intro e h n a' h' n' t hx;rcases Ex.br hx with⟨hb,hx⟩|⟨hb,hx⟩
  ·exact ix hx
  ·exact iy hx
 |rd id f ih=>
  intro e h n a' h' n' t hx;obtain⟨o,t',ho,hy,rfl⟩:=Ex.rd hx;obtain⟨h1,h2⟩:=ih o hy;refine⟨fun i w hm=>?_,fun i h3 h4=>?_⟩
  ·simp only[aT,bE,Prod.mk.injEq]at hm;rcases hm with hm|⟨rfl,rfl⟩
   ·exact h1 i w hm
   ·exact .inl (by simp[ho])
  ·obtain⟨q1,q2,q3⟩:=h2 i h3 h4;exact⟨q1,q2,by simp[q3]⟩
 |wr id o f ih=>
  intro e h n a' h' n' t hx;obtain⟨o',t',ho,hy,rfl⟩:=Ex.wr hx;have hs:(h.get id).isSome=true:=by simp[ho]
  obtain⟨h1,h2⟩:=ih hy;refine⟨fun i w hm=>?_,fun i h3 h4=>?_⟩
  ·simp only[aT,bE,Prod.mk.injEq]at hm;rcases hm with hm|⟨rfl,rfl⟩
   ·have:=h1 i w hm;rw[Qu hs]at this
    by_cases he:i=id
    ·subst he;exact .inl hs
    ·simpa[he]using this
   ·exact .inl hs
  ·have gm:i≠id:=by rintro rfl;simp[h3]at hs
   obtain⟨q1,q2,q3⟩:=h2 i (by rw[Qu hs];simp[gm,h3]) h4;exact⟨q1,q2,by simp[q3]⟩
 |nw o f ih=>
  intro e h n a' h' n' t hx;obtain⟨t',hy,rfl⟩:=Ex.nw hx;have hle:=Ex.le hy;obtain⟨h1,h2⟩:=ih n hy;refine⟨fun i w hm=>?_,fun i h3 h4=>?_⟩
  ·simp only[aT,bE,Prod.mk.injEq]at hm;rcases hm with hm|⟨rfl,rfl⟩
   ·have:=h1 i w hm;rw[Qz]at this
    by_cases he:i=n
    ·exact .inr (by omega)
    ·simp only[he,aL]at this;rcases this with h|h
     ·exact .inl h
     ·exact .inr (by omega)
   ·exact .inr (by omega)
  ·by_cases he:i=n
   ·subst he;exact⟨by omega,by omega,by simp⟩
   ·obtain⟨q1,q2,q3⟩:=h2 i (by rw[Qz];simp[he,h3]) h4;exact⟨by omega,q2,by simp[q3]⟩
 |dl id f ih=>
  intro e h n a' h' n' t hx;obtain⟨o',t',ho,hy,rfl⟩:=Ex.dl hx;obtain⟨h1,h2⟩:=ih hy;refine⟨fun i w hm=>?_,fun i h3 h4=>?_⟩
  ·simp only[aT,bE,Prod.mk.injEq]at hm;rcases hm with hm|⟨rfl,rfl⟩
   ·have:=h1 i w hm;rw[Zp]at this
    by_cases he:i=id
    ·subst he;exact .inl (by simp[ho])
    ·simpa[he]using this
   ·exact .inl (by simp[ho])
  ·obtain⟨q1,q2,q3⟩:=h2 i (by rw[Zp];simp[h3]) h4;exact⟨q1,q2,by simp[q3]⟩
 |oY f ih=>intro e h n a' h' n' t hx;exact ih _ _ (Ex.oY hx)
 |upto m f ih=>
  intro e h n a' h' n' t hx;obtain⟨hm,hx⟩:=Ex.upto hx;obtain⟨h1,h2⟩:=ih hx;refine⟨fun i w hi=>?_,fun i h3 h4=>?_⟩
  ·rcases h1 i w hi with h|h
   ·exact .inl h
   ·exact .inr (by omega)
  ·obtain⟨q1,q2,q3⟩:=h2 i h3 h4;exact⟨by omega,q2,q3⟩
 |gc lo iZ f ih=>
  intro e h n a' h' n' t hx;obtain⟨hm,hx⟩:=Ex.gc hx;obtain⟨h1,h2⟩:=ih hx;refine⟨fun i w hi=>?_,fun i h3 h4=>?_⟩
  ·have:=h1 i w hi;rw[VF]at this
   split at this
   ·exact .inr (by simpa using this)
   ·exact this
  ·exact h2 i (by rw[VF];split<;>simp[h3]) h4
 |sub p f ip ik=>
  intro e h n a' h' n' t hx;obtain⟨v,h1,n1,t1,t2,hp,hy,rfl⟩:=Ex.sub hx;have l1:=Ex.le hp;have l2:=Ex.le hy;obtain⟨p1,p2⟩:=ip hp;obtain⟨k1,k2⟩:=ik _ _ hy;refine⟨fun i w hi=>?_,fun i h3 h4=>?_⟩
  ·simp only[aT]at hi;rcases hi with hi|hi
   ·rcases k1 i w hi with hq|hq
    ·cases hh:h.get i with
     |some o=>exact .inl rfl
     |none=>have:=p2 i hh hq;exact .inr (by omega)
    ·exact .inr (by omega)
   ·rcases p1 i w hi with h|h
    ·exact .inl h
    ·exact .inr (by omega)
  ·by_cases hs:(h1.get i).isSome=true
   ·have:=p2 i h3 hs;exact⟨by omega,by omega,by simp[this.2.2]⟩
   ·have:=k2 i (by simpa using hs) h4;exact⟨by omega,by omega,by simp[this.2.2]⟩
end Pg
variable {P:Program}{T:fA C}
def r9(ops:cV)(i j:Nat):Prop:=((Region.before ops).getD j 0).testBit i=true
theorem p9{A:Array Nat}{i k:Nat}(es:List Edge):∀(s:Nat),(es.foldl (fun s e=>if Region.binds .any e then s|||2^e.on|||A.getD e.on 0 else s) s).testBit i=true ->
 s.testBit i=true\/∃e∈es,Region.binds .any e=true/\(e.on=i\/(A.getD e.on 0).testBit i=true):=by
 induction es with
 |nil=>intro s h;exact .inl h
 |cons e es ih=>
  intro s h;rw[List.foldl_cons]at h;rcases ih _ h with h|⟨e',h1,h2,h3⟩
  ·by_cases hb:Region.binds .any e=true
   ·simp only[hb,aU,Nat.testBit_or,Bool.or_eq_true,Nat.testBit_two_pow,aa]at h;rcases h with(h|h)|h
    ·exact .inl h
    ·exact .inr ⟨e,by simp,hb,.inl h⟩
    ·exact .inr ⟨e,by simp,hb,.inr h⟩
   ·simp only[hb]at h;exact .inl h
  ·exact .inr ⟨e',by simp[h1],h2,h3⟩
theorem QoO(ops:cV):∀(l pre:ga) (A:Array Nat),ops.toList=pre++l->A.size=pre.length ->
 (∀k i,(A.getD k 0).testBit i=true->∃o e,ops[k]? = some o/\e∈o.after/\Region.binds .any e=true/\(e.on=i\/(e.on<k/\(A.getD e.on 0).testBit i=true))) ->
 ∀k i,((l.foldl (fun acc o=>acc.push (o.after.foldl (fun s e=>if Region.binds .any e then s|||2^e.on|||acc.getD e.on 0 else s) 0)) A).getD k 0).testBit i=true ->
  ∃o e,ops[k]? = some o/\e∈o.after/\Region.binds .any e=true/\(e.on=i\/(e.on<k/\((l.foldl (fun acc o=>acc.push (o.after.foldl (fun s e=>if Region.binds .any e then s|||2^e.on|||acc.getD e.on 0 else s) 0)) A).getD e.on 0).testBit i=true)):=by
 intro l
 induction l with
 |nil=>intro pre A h1 h2 h3;simpa using h3
 |cons o l ih=>
  intro pre A h1 h2 h3;rw[List.foldl_cons];refine ih (pre++[o]) _ (by simp[h1]) (by simp[h2]) ?_;intro k i hk
  have iQ:∀j,(A.push (o.after.foldl (fun s e=>if Region.binds .any e then s|||2^e.on|||A.getD e.on 0 else s) 0)).getD j 0=if j=A.size then(o.after.foldl (fun s e=>if Region.binds .any e then s|||2^e.on|||A.getD e.on 0 else s) 0)else A.getD j 0:=by
   intro j;simp only[Array.getD_eq_getD_getElem?,Array.getElem?_push]
   split<;>simp
  have hA:∀j i,(A.getD j 0).testBit i=true->j<A.size:=by
   intro j i h;rcases Nat.lt_or_ge j A.size with h'|h'
   ·exact h'
   ·simp[Array.getD_eq_getD_getElem?,Array.getElem?_eq_none h']at h
  rw[iQ]at hk
  by_cases yA:k=A.size
  ·simp only[yA,aU]at hk;rw[<-Array.foldl_toList]at hk;rcases p9 (k:=k) o.after.toList 0 hk with h|⟨e,q1,q2,q3⟩
   ·simp at h
   ·refine⟨o,e,?_,by simpa using q1,q2,?_⟩
    ·rw[<-Array.getElem?_toList,h1,yA,h2];simp
    ·rcases q3 with q3|q3
     ·exact .inl q3
     ·have:=hA _ _ q3;refine .inr ⟨by omega,?_⟩;rw[iQ];have gm:¬e.on=A.size:=by omega
      simp only[gm,aL];exact q3
  ·simp only[yA,aL]at hk;obtain⟨o',e,q1,q2,q3,q4⟩:=h3 k i hk;refine⟨o',e,q1,q2,q3,?_⟩;rcases q4 with q4|⟨q4,q5⟩
   ·exact .inl q4
   ·have:=hA _ _ q5;refine .inr ⟨q4,?_⟩;rw[iQ];have gm:¬e.on=A.size:=by omega
    simp only[gm,aL];exact q5
theorem r9.OJ{ops:cV}{i k:Nat}(h:r9 ops i k):∃o e,ops[k]? = some o/\e∈o.after/\Region.binds .any e=true/\(e.on=i\/(e.on<k/\r9 ops i e.on)):=by
 have he:Region.before ops=ops.toList.foldl (fun acc o=>acc.push (o.after.foldl (fun s e=>if Region.binds .any e then s|||2^e.on|||acc.getD e.on 0 else s) 0)) #[]:=by
  unfold Region.before;rw[<-Array.foldl_toList]
 unfold r9 at h ⊢;simp only[he]at h ⊢;exact QoO ops ops.toList [] #[] (by simp) (by simp) (fun k i hk=>by simp at hk) k i h
theorem r9.gi{ops:cV}{L:Nat->Prop}(uW:∀j o,L j->ops[j]? = some o->∀e∈o.after,Region.binds .any e=true->L e.on) :
 ∀(k i:Nat),r9 ops i k->(∀o,ops[k]? = some o->∀e∈o.after,Region.binds .any e=true->L e.on)->L i:=by
 intro k
 induction k using Nat.strongRecOn with
 |ind k ih=>
  intro i hb hk;obtain⟨o,e,h1,h2,h3,h4⟩:=hb.OJ;have hl:=hk o h1 e h2 h3;rcases h4 with rfl|⟨h4,h5⟩
  ·exact hl
  ·exact ih e.on h4 i h5 fun o' gU e' Pb jV=>uW e.on o' hl gU e' Pb jV
inductive jD(T:fA C)(call:FuncId->List (D C)->Pg C (D C))(ops:cV)(L base sp:Nat)(ts:Nat->Tr):bU->Env C->Heap C->Env C->Heap C->Prop where
 |nil {env il:Env C} {h hF:Heap C}:(∀t,c8 env t=c8 il t)->(∀id,h.get id=hF.get id)->jD T call ops L base sp ts [] env h il hF
 |cons {env eD il:Env C} {h h1 hF:Heap C} {i n:Nat} {o:Oper} {l:bU}:ops[i]? = some o->Ex (L,base+i*sp) (pV T call ops o env) h (base+i*sp) eD h1 n (ts i)->n<=base+(i+1)*sp ->
  jD T call ops L base sp ts l eD h1 il hF->jD T call ops L base sp ts (i::l) env h il hF
variable {call:FuncId->List (D C)->Pg C (D C)}{ops:cV}{L base sp:Nat}{ts:Nat->Tr}
theorem jD.ext{l:bU}{env il:Env C}{h hF:Heap C}(hr:jD T call ops L base sp ts l env h il hF):∀(dj:Env C) (h':Heap C),(∀t,c8 dj t=c8 env t)->(∀id,h'.get id=h.get id)->jD T call ops L base sp ts l dj h' il hF:=by
 induction hr with
 |nil h1 h2=>intro dj h' e1 e2;exact .nil (fun t=>(e1 t).trans (h1 t)) fun id=>(e2 id).trans (h2 id)
 | @cons env eD il h h1 hF i n o l ho hx hn _ ih=>
  intro dj h' e1 e2;obtain⟨v,kG,q1,q2,q3⟩:=J8 call ops o env dj (fun t _=>(e1 t).symm) hx;obtain⟨g',k1,k2,k3⟩:=Ex.local q2 (aq _) h' (fun id _ _ _=>e2 id) (fun id _ _=>e2 id);refine .cons ho k1 hn (ih kG g' (fun t=>by rw[q1,q3];simp[e1]) fun id=>?_)
  by_cases iY:base+i*sp<=id/\id<n
  ·exact k2 id iY.1 iY.2
  ·have:=k3 id (by simp;omega)
   by_cases hm:(id,true)∈ts i
   ·exact this.1 hm
   ·rw[(this.2 hm).1,(this.2 hm).2,e2]
def r8(a b:Tr):Prop:=∀id u v,(id,u)∈a->(id,v)∈b->u=false/\v=false
theorem Qkc{a b:Tr}(h:N0 a b=true):r8 a b:=by
 intro id u v hu hv;simp only[N0,aX]at h;have:=h (id,u) hu (id,v) hv
 simpa using this
inductive Cr(C:ij) where
 |var (t:TypeId)
 |cj (t:C.Ty) (n:Nat)
 |map
 |ek
def mF:Obj C->Cr C
 |.var t _=>.var t
 |.cj t _ l=>.cj t l.length
 |.map _ _ _=>.map
 |.ek _=>.ek
inductive j3{α:Type}:Pg C α->Prop where
 |ret (a:α):j3 (.ret a)
 |fail:j3 .fail
 |br {b:Bool} {x y:Pg C α}:j3 x->j3 y->j3 (.br b x y)
 |rd {id:Nat} {k:Obj C->Pg C α}:(∀o,j3 (k o))->(∀o o',mF o=mF o'->k o=k o')->j3 (.rd id k)
theorem j3.bind{α β:Type}{p:Pg C α}{f:α->Pg C β}(hp:j3 p)(hf:∀a,j3 (f a)):j3 (p.bind f):=by
 induction hp with
 |ret a=>exact hf a
 |fail=>exact .fail
 |br _ _ ix iy=>exact .br ix iy
 |rd _ hk ih=>exact .rd ih fun o o' h=>by rw[hk o o' h]
theorem Ex.tG{α:Type}{e:Pg.Lv}{id:Nat}{o:Obj C}{f:Obj C->Pg C α}{h h':Heap C}{n n':Nat}{a:α}{t:Tr}(hg:h.get id=some o)(hx:Ex e (f o) h n a h' n' t):Ex e (.rd id f) h n a h' n' (t++[(id,false)]):=by
 unfold Ex at hx ⊢;simp only[Pg.run,hg];rw[Pg.run_eq,hx];rfl
theorem j3.ex{α:Type}{p:Pg C α}(hp:j3 p):∀{e:Pg.Lv} {h h':Heap C} {n n':Nat} {a:α} {t:Tr},Ex e p h n a h' n' t ->
 h'=h/\n'=n/\∀(g:Heap C) (m:Nat),(∀id,(g.get id).map mF=(h.get id).map mF)->Ex e p g m a g m t:=by
 induction hp with
 |ret a=>
  intro e h h' n n' a' t hx;obtain⟨rfl,rfl,rfl,rfl⟩:=Ex.ret hx;exact⟨rfl,rfl,fun g m _=>by simp[Ex,Pg.run]⟩
 |fail=>intro e h h' n n' a' t hx;exact Ex.cI hx
 | @br b x y _ _ ix iy=>
  intro e h h' n n' a' t hx;rcases Ex.br hx with⟨rfl,hx⟩|⟨rfl,hx⟩
  ·obtain⟨h1,h2,h3⟩:=ix hx;exact⟨h1,h2,fun g m hg=>by have:=h3 g m hg;simpa[Ex,Pg.run]using this⟩
  ·obtain⟨h1,h2,h3⟩:=iy hx;exact⟨h1,h2,fun g m hg=>by have:=h3 g m hg;simpa[Ex,Pg.run]using this⟩
 | @rd id k _ hk ih=>
  intro e h h' n n' a' t hx;obtain⟨o,t',ho,hy,rfl⟩:=Ex.rd hx;obtain⟨h1,h2,h3⟩:=ih o hy;refine⟨h1,h2,fun g m hg=>?_⟩;have EX:=hg id;rw[ho]at EX;cases hq:g.get id with
  |none=>rw[hq]at EX;cases EX
  |some o'=>
   rw[hq]at EX;have hs:mF o'=mF o:=aj EX;exact Ex.tG hq (by rw[hk o' o hs];exact h3 g m hg)
theorem nD(s:TypeId)(x:D C)(i:Nat):j3 (VS T s x i):=by
 unfold VS
 split
 ·rename_i fs _;cases Nat.blt i fs.length
  ·exact .fail
  ·simp only[ag]
   split
   ·refine .rd (fun o=>?_) fun o o' h=>?_
    ·unfold IF;split
     ·rename_i u _;cases decide (gG T u _=some s)
      ·exact .fail
      ·exact .ret _
     ·exact .fail
    ·cases o<;>cases o'<;>simp only[mF,Cr.var.injEq,reduceCtorEq]at h
     ·subst h;rfl
     all_goals rfl
   ·refine .rd (fun o=>?_) fun o o' h=>?_
    ·unfold HL;split
     ·refine .br ?_ .fail;rename_i ty _ _;cases Nat.beq s (T.dG ty)
      ·exact .fail
      ·exact .ret _
     ·exact .fail
    ·cases o<;>cases o'<;>simp only[mF,Cr.cj.injEq,reduceCtorEq]at h
     ·rfl
     ·obtain⟨rfl,hl⟩:=h;simp only[HL,hl]
     all_goals rfl
   ·rename_i d;cases cZ T d (.inl s)
    ·exact .fail
    ·simp only[ag]
     split
     ·exact .ret _
     ·exact .fail
   ·exact .fail
 ·exact .fail
theorem nE(t:TypeId)(x i:D C):j3 (VT T t x i):=by
 unfold VT
 split
 ·rename_i k n
  split
  ·rename_i e ty0 _
   split
   ·rename_i ty _ l;cases decide (ty=ty0)
    ·exact .fail
    ·exact .br (.ret _) .fail
   ·refine .rd (fun o=>?_) fun o o' h=>?_
    ·unfold HM;split
     ·rename_i ty _ _;cases decide (ty=ty0)
      ·exact .fail
      ·exact .br (.ret _) .fail
     ·exact .fail
    ·cases o<;>cases o'<;>simp only[mF,Cr.cj.injEq,reduceCtorEq]at h
     ·rfl
     ·obtain⟨rfl,hl⟩:=h;simp only[HM,hl]
     all_goals rfl
   ·split
    ·rename_i ty _;cases decide (ty=ty0)
     ·exact .fail
     ·exact .br (.ret _) .fail
    ·exact .fail
   ·exact .fail
  ·split
   ·refine .br ?_ .fail
    split
    ·exact .ret _
    ·exact .fail
   ·exact .fail
  ·split
   ·refine .rd (fun o=>?_) fun o o' h=>?_
    ·unfold Cg;split
     ·rename_i u _;cases decide (gG T u _=some t)
      ·exact .fail
      ·exact .br (.ret _) .fail
     ·exact .fail
    ·cases o<;>cases o'<;>simp only[mF,Cr.var.injEq,reduceCtorEq]at h
     ·subst h;rfl
     all_goals rfl
   ·rename_i ty m' l;cases cZ T (.arr ty m' l:D C) (.inl t)
    ·exact .fail
    ·exact .br (.ret _) .fail
   ·exact .fail
  ·split
   ·refine .rd (fun o=>?_) fun o o' h=>?_
    ·unfold Cg;split
     ·rename_i u _;cases decide (gG T u _=some t)
      ·exact .fail
      ·exact .br (.ret _) .fail
     ·exact .fail
    ·cases o<;>cases o'<;>simp only[mF,Cr.var.injEq,reduceCtorEq]at h
     ·subst h;rfl
     all_goals rfl
   ·rename_i d;cases cZ T d (.inl t)
    ·exact .fail
    ·refine .br ?_ .fail
     split
     ·exact .ret _
     ·exact .fail
   ·exact .fail
  ·exact .fail
 ·exact .fail
theorem U2{i:Nat}{k:IntKind}{n:Int}{go:Env C->Pg C (Env C)}(hg:∀env,j3 (go env))(w:Bool)(env:Env C):∀l:bY,j3 (pins i k n go w env l)
 |[]=>by cases w;exact hg env;exact .fail
 |j::l=>.br (hg _) (U2 hg w env l)
theorem Nq(call:FuncId->List (D C)->Pg C (D C))(ops:cV){o:Oper}(ho:B8 o=true)(env:Env C):j3 (pV T call ops o env):=by
 have ym:∀ev:Operand->D C,j3 (j8 T call o ev):=fun ev=>by
  unfold B8 at ho;unfold j8
  split at ho
  ·rename_i q;rw[q];exact nD _ _ _
  ·rename_i q;rw[q];exact nE _ _ _
  ·cases ho
 have eM:∀env,j3 (mO T o (fun env=>.bind (j8 T call o (iD env)) fun d=>.ret (put env o.dst d)) env):=fun env=>by
  have h0:∀env:Env C,j3 ((j8 T call o (iD env)).bind fun d=>.ret (put env o.dst d)):=fun env=>(ym _).bind fun d=>.ret _;unfold mO
  split
  ·split
   ·exact U2 h0 _ _ _
   ·exact h0 _
  ·exact h0 _
 unfold pV
 split
 ·exact eM env
 ·rename_i j want _
  split
  ·split
   ·cases want
    ·exact .br (.ret _) (eM _)
    ·exact .br (eM _) (.ret _)
   ·exact .ret _
   ·exact .fail
  ·exact .fail
theorem Nr{h:Heap C}{id:Nat}{o o':Obj C}(hg:h.get id=some o)(hs:mF o'=mF o):∀i,((h.put id o').get i).map mF=(h.get i).map mF:=fun i=>by
 rw[Qu (by rw[hg];rfl)]
 by_cases e:i=id
 ·subst e;rw[ax rfl,hg,bC,bC,hs]
 ·rw[aw e]
theorem TB(call:FuncId->List (D C)->Pg C (D C))(ops:cV){o:Oper}(ho:xj o=true){env dj:Env C}{e:Pg.Lv}{h h':Heap C}{n n':Nat}{t:Tr}(hx:Ex e (pV T call ops o env) h n dj h' n' t) :
 ∀id,(h'.get id).map mF=(h.get id).map mF:=by
 have ym:∀{ev:Operand->D C} {d:D C} {h h':Heap C} {n n':Nat} {t:Tr},Ex e (j8 T call o ev) h n d h' n' t->∀id,(h'.get id).map mF=(h.get id).map mF:=by
  intro ev d h h' n n' t hx;unfold xj at ho
  split at ho
  ·rename_i ty a x q;unfold j8 at hx;rw[q]at hx
   have eI:∀(va v:D C) {d:D C} {h h':Heap C} {n n':Nat} {t:Tr},Ex e (JY T ty va v) h n d h' n' t->∀id,(h'.get id).map mF=(h.get id).map mF:=by
    intro va v d h h' n n' t hx;unfold JY at hx
    split at hx
    ·obtain⟨o',t',gU,hy,_⟩:=Ex.rd hx;unfold ID at hy
     split at hy
     ·split at hy
      ·rename_i u _ d' t2 _ _
       revert hy
       cases cZ T v (.inl ty)&&cZ T v (.inl t2)with
       |false=>intro hy;exact Ex.cI hy
       |true=>
        intro hy;obtain⟨o2,t2,h2,hz,_⟩:=Ex.wr hy;obtain⟨_,rfl,_,_⟩:=Ex.ret hz;exact Nr gU rfl
      ·exact Ex.cI hy
     ·exact Ex.cI hy
    ·obtain⟨o',t',gU,hy,_⟩:=Ex.rd hx;unfold IE at hy
     split at hy
     ·split at hy
      ·split at hy
       ·rcases Ex.br hy with⟨_,hy⟩|⟨_,hy⟩
        ·revert hy
         cases cZ T v (.inl ty)with
         |false=>intro hy;exact Ex.cI hy
         |true=>
          intro hy;obtain⟨o2,t2,h2,hz,_⟩:=Ex.wr hy;obtain⟨_,rfl,_,_⟩:=Ex.ret hz;exact Nr gU (by simp[mF])
        ·exact Ex.cI hy
       ·exact Ex.cI hy
      ·exact Ex.cI hy
     ·exact Ex.cI hy
    ·exact Ex.cI hx
   rcases lM hx with⟨_,hx⟩|⟨i,m,d1,h1,n1,t1,t2,_,q1,q2⟩
   ·exact eI _ _ hx
   ·intro id;rw[eI _ _ q2];simp only[frz]at q1;obtain⟨o',t',gU,hy,_⟩:=Ex.rd q1;cases o' with
    |var _ _=>exact Ex.cI hy
    |map _ _ _=>exact Ex.cI hy
    |ek _=>exact Ex.cI hy
    |cj tt dM l=>
     rcases Ex.br hy with⟨_,hy⟩|⟨_,hy⟩
     ·obtain⟨o2,t2,h2,hz,_⟩:=Ex.wr hy;obtain⟨_,rfl,_,_⟩:=Ex.ret hz;exact Nr (o':=.cj tt false l) gU rfl id
     ·exact Ex.cI hy
  ·cases ho
 have PF:∀(f:Env C),mO T o (fun env=>.bind (j8 T call o (iD env)) fun d=>.ret (put env o.dst d)) f=(j8 T call o (iD f)).bind fun d=>.ret (put f o.dst d):=fun f=>by
  unfold xj at ho
  split at ho
  ·rename_i q;unfold mO Ci;rw[q]
  ·cases ho
 have eM:∀{f:Env C} {h h':Heap C} {n n':Nat} {t:Tr},Ex e (mO T o (fun env=>.bind (j8 T call o (iD env)) fun d=>.ret (put env o.dst d)) f) h n dj h' n' t->∀id,(h'.get id).map mF=(h.get id).map mF:=by
  intro f h h' n n' t hx;rw[PF]at hx;obtain⟨d,h1,n1,t1,t2,q1,q2,_⟩:=Ex.bind hx;obtain⟨_,rfl,_,_⟩:=Ex.ret q2;exact ym q1
 have PN:∀{f:Env C} {h h':Heap C} {n n':Nat} {t:Tr},Ex e (.ret f:Pg C (Env C)) h n dj h' n' t->∀id,(h'.get id).map mF=(h.get id).map mF:=by
  intro f h h' n n' t hx;obtain⟨_,rfl,_,_⟩:=Ex.ret hx;exact fun _=>rfl
 unfold pV at hx
 split at hx
 ·exact eM hx
 ·rename_i j want _
  split at hx
  ·split at hx
   ·cases want
    ·rcases Ex.br hx with⟨_,hx⟩|⟨_,hx⟩
     ·exact PN hx
     ·exact eM hx
    ·rcases Ex.br hx with⟨_,hx⟩|⟨_,hx⟩
     ·exact eM hx
     ·exact PN hx
   ·exact PN hx
   ·exact Ex.cI hx
  ·exact Ex.cI hx
def wb(base sp:Nat)(l:bU)(h:Heap C):Prop:=∀i∈l,∀id,base+i*sp<=id->id<base+(i+1)*sp->h.get id=none
theorem DV{sp i k:Nat}(gm:i≠k){id base:Nat}(h1:base+i*sp<=id)(h2:id<base+(i+1)*sp)(h3:base+k*sp<=id)(h4:id<base+(k+1)*sp):False:=by
 rcases Nat.lt_or_gt_of_ne gm with h|h
 ·have:(i+1)*sp<=k*sp:=Nat.mul_le_mul_right _ h;omega
 ·have:(k+1)*sp<=i*sp:=Nat.mul_le_mul_right _ h;omega
theorem wb.step{l:bU}{h h1:Heap C}{i n:Nat}{p:Pg C (Env C)}{eD:Env C}{t:Tr}(hf:wb base sp l h)(hx:Ex (L,base+i*sp) p h (base+i*sp) eD h1 n t)(hn:n<=base+(i+1)*sp)(hi:i∉l):wb base sp l h1:=by
 intro k hk id h2 h3;cases hg:h1.get id with
 |none=>rfl
 |some o=>
  have:=(Ex.xW hx).2 id (hf k hk id h2 h3) (by simp[hg]);exact(DV (i:=i) (k:=k) (by rintro rfl;exact hi hk) (id:=id) (base:=base) (sp:=sp) (by omega) (by omega) h2 h3).elim
theorem jD.swap{k i:Nat}{l:bU}{env il:Env C}{h hF:Heap C}{ok oi:Oper}(jk:ops[k]? = some ok)(nh:ops[i]? = some oi)(gm:k≠i)(hf:wb base sp [k,i] h)
 (O0:ok.apart ops oi=true) (Cv:r8 (ts k) (ts i)) (hr:jD T call ops L base sp ts (k::i::l) env h il hF):jD T call ops L base sp ts (i::k::l) env h il hF:=by
 obtain⟨a1,a2,a3⟩:=Oper.apart_spec O0;cases hr with
 | @cons _ eD _ _ h1 _ _ nk o _ ho hk wO hr=>
 cases hr with
 | @cons _ fP _ _ h2 _ _ ni o' _ gU hi qO hr=>
 obtain rfl:ok=o:=by rw[jk]at ho;exact aj ho
 obtain rfl:oi=o':=by rw[nh]at gU;exact aj gU
 have dk:=Ex.xW hk;have di:=Ex.xW hi;obtain⟨_,_,_,lk⟩:=Ex.local hk (aq _) h (fun _ _ _ _=>rfl) (fun _ _ _=>rfl);have fk:∀id,base+k*sp<=id->id<base+(k+1)*sp->h.get id=none:=fun id=>hf k (by simp) id;have fi:∀id,base+i*sp<=id->id<base+(i+1)*sp->h.get id=none:=fun id=>hf i (by simp) id;have rk:∀id,base+k*sp<=id->id<nk->base+i*sp<=id->id<ni->False:=fun id q1 q2 q3 q4=>DV gm q1 (by omega) q3 (by omega)
 -- vI vJ numbers of k lie outside i's range
 have tk:∀id w,(id,w)∈ts k->¬(base+i*sp<=id/\id<base+(i+1)*sp):=by
  intro id w hm ⟨q1,q2⟩;rcases dk.1 id w hm with h'|h'
  ·simp[fi id q1 q2]at h'
  ·exact DV gm h'.1 (by omega) q1 q2
 -- vI vJ numbers of i lie outside k's range
 have ti:∀id w,(id,w)∈ts i->¬(base+k*sp<=id/\id<base+(k+1)*sp):=by
  intro id w hm ⟨q1,q2⟩;rcases di.1 id w hm with h'|h'
  ·have:=dk.2 id (fk id q1 q2) h';have:=Cv id true w this.2.2 hm;simp at this
  ·exact DV gm q1 q2 h'.1 (by omega)
 -- i from vI start
 obtain⟨vk,_,xY,_,_⟩:=J8 call ops ok env env (fun _ _=>rfl) hk
 obtain⟨vi,uQ,OK,Er,Es⟩:=J8 call ops oi eD env (fun t ht=>by
  rw[xY];have:ok.dst≠some t:=fun hd=>a1 t hd ht;simp[this]) hi
 obtain⟨hA,xi,xi1,Is⟩:=Ex.local Er (aq _) h (fun id w hm l8=>by
  have rA:(id,true)∉ts k:=fun hq=>by have:=Cv id true w hq hm;simp at this
  by_cases iY:base+k*sp<=id/\id<nk
  ·exact(ti id w hm ⟨iY.1,by omega⟩).elim
  ·exact((lk id (by simp;omega)).2 rA).2.symm) (fun id q1 q2=>by
  have rA:(id,true)∉ts k:=fun hq=>tk id true hq ⟨q1,by omega⟩;have iY:¬(base+k*sp<=id/\id<nk):=fun hq=>rk id hq.1 hq.2 q1 q2;exact((lk id (by simp;omega)).2 rA).2.symm)
 -- k behind it
 obtain⟨vk',sx,xZ,H2,OL⟩:=J8 call ops ok env uQ (fun t ht=>by
  rw[Es];have:oi.dst≠some t:=fun hd=>a3 t hd ht;simp[this]) hk
 obtain⟨hB,xk,xk1,xk2⟩:=Ex.local H2 (aq _) hA (fun id w hm l8=>by
  have rA:(id,true)∉ts i:=fun hq=>by have:=Cv id w true hm hq;simp at this
  have iY:¬(base+i*sp<=id/\id<ni):=fun hq=>tk id w hm ⟨hq.1,by omega⟩;exact((Is id (by simp;omega)).2 rA).1) (fun id q1 q2=>by
  have rA:(id,true)∉ts i:=fun hq=>ti id true hq ⟨q1,by omega⟩;have iY:¬(base+i*sp<=id/\id<ni):=fun hq=>rk id q1 q2 hq.1 hq.2;exact((Is id (by simp;omega)).2 rA).1)
 refine .cons nh xi qO (.cons jk xk wO (hr.ext sx hB (fun t=>?_) fun id=>?_))
 ·rw[OL,Es,OK]
  by_cases yi:oi.dst=some t
  ·have u0:ok.dst≠some t:=fun hd=>a2 t hd yi;simp[yi,u0]
  ·simp only[yi,aL]
   by_cases u0:ok.dst=some t
   ·have e1:=xY t;have e2:=xZ t;simp only[u0,aU]at e1 e2 ⊢;rw[e2]
   ·have e1:=xY t;simp only[u0,aL]at e1 ⊢;exact e1.symm
 ·by_cases sO:base+k*sp<=id/\id<nk
  ·have u6:¬(base+i*sp<=id/\id<ni):=fun hq=>rk id sO.1 sO.2 hq.1 hq.2;have rA:(id,true)∉ts i:=fun hq=>ti id true hq ⟨sO.1,by omega⟩;rw[xk1 id sO.1 sO.2,((Is id (by simp;omega)).2 rA).2]
  ·have kk:=xk2 id (by simp;omega)
   by_cases u6:base+i*sp<=id/\id<ni
   ·have rA:(id,true)∉ts k:=fun hq=>tk id true hq ⟨u6.1,by omega⟩;rw[(kk.2 rA).1,xi1 id u6.1 u6.2]
   ·have ii:=Is id (by simp;omega)
    by_cases wM:(id,true)∈ts k
    ·have rA:(id,true)∉ts i:=fun hq=>by have:=Cv id true true wM hq;simp at this
     rw[kk.1 wM,(ii.2 rA).2]
    ·rw[(kk.2 wM).1]
     by_cases Pw:(id,true)∈ts i
     ·exact ii.1 Pw
     ·rw[(ii.2 Pw).1,(ii.2 Pw).2,(kk.2 wM).2]
theorem jD.FL{k i:Nat}{l:bU}{env il:Env C}{h hF:Heap C}{ok oi:Oper}(jk:ops[k]? = some ok)(nh:ops[i]? = some oi)
 (O0:ok.apart ops oi=true) (hpr:(B8 ok=true/\xj oi=true)\/(xj ok=true/\B8 oi=true)) (hr:jD T call ops L base sp ts (k::i::l) env h il hF):jD T call ops L base sp ts (i::k::l) env h il hF:=by
 obtain⟨a1,a2,a3⟩:=Oper.apart_spec O0;cases hr with
 | @cons _ eD _ _ h1 _ _ nk o _ ho hk wO hr=>
 cases hr with
 | @cons _ fP _ _ h2 _ _ ni o' _ gU hi qO hr=>
 obtain rfl:ok=o:=by rw[jk]at ho;exact aj ho
 obtain rfl:oi=o':=by rw[nh]at gU;exact aj gU
 obtain⟨vk,_,xY,_,_⟩:=J8 call ops ok env env (fun _ _=>rfl) hk
 obtain⟨vi,uQ,OK,Er,Es⟩:=J8 call ops oi eD env (fun t ht=>by
  rw[xY];have:ok.dst≠some t:=fun hd=>a1 t hd ht;simp[this]) hi
 obtain⟨vk',sx,xZ,H2,OL⟩:=J8 call ops ok env uQ (fun t ht=>by
  rw[Es];have:oi.dst≠some t:=fun hd=>a3 t hd ht;simp[this]) hk
 have EQ:∀t,c8 sx t=c8 fP t:=fun t=>by
  rw[OL,Es,OK]
  by_cases yi:oi.dst=some t
  ·have u0:ok.dst≠some t:=fun hd=>a2 t hd yi;simp[yi,u0]
  ·simp only[yi,aL]
   by_cases u0:ok.dst=some t
   ·have e1:=xY t;have e2:=xZ t;simp only[u0,aU]at e1 e2 ⊢;rw[e2]
   ·have e1:=xY t;simp only[u0,aL]at e1 ⊢;exact e1.symm
 rcases hpr with⟨p1,p2⟩|⟨p1,p2⟩
 ·-- an address,then a store: vI store first
  obtain⟨rfl,rfl,_⟩:=(Nq call ops p1 env).ex hk;have hs:=TB call ops p2 Er;obtain⟨_,_,q⟩:=(Nq call ops p1 uQ).ex H2;have xk:=q h2 (base+k*sp) hs;exact .cons nh Er qO (.cons jk xk wO (hr.ext sx h2 EQ fun _=>rfl))
 ·-- a store,then an address: vI address first
  have hs:=TB call ops p1 hk;obtain⟨rfl,rfl,q⟩:=(Nq call ops p2 env).ex Er;have xi:=q h (base+i*sp) fun id=>(hs id).symm;exact .cons nh xi qO (.cons jk H2 wO (hr.ext sx _ EQ fun _=>rfl))
theorem jD.first{i:Nat}{oi:Oper}(nh:ops[i]? = some oi):∀(pre post:bU) {env il:Env C} {h hF:Heap C},(pre++i::post).Nodup->wb base sp (pre++i::post) h ->
 (∀k∈pre,∀ok,ops[k]? = some ok->ok.apart ops oi=true/\(r8 (ts k) (ts i)\/DU ops k i=true))->jD T call ops L base sp ts (pre++i::post) env h il hF->jD T call ops L base sp ts (i::(pre++post)) env h il hF:=by
 intro pre
 induction pre with
 |nil=>intro post env il h hF hn hf ha hr;simpa using hr
 |cons k pre ih=>
  intro post env il h hF hn hf ha hr;rw[aP]at hr hn hf;cases hr with
  | @cons _ eD _ _ h1 _ _ nk ok _ jk hk wO hr=>
  have Pt:=List.nodup_cons.1 hn;have fT:=ih post Pt.2 ((show wb base sp (pre++i::post) h from fun j hj=>hf j (aS _ hj)).step hk wO Pt.1) (fun j hj=>ha j (by simp[hj])) hr;have hki:k≠i:=by rintro rfl;exact Pt.1 (by simp)
  obtain⟨q1,q2⟩:=ha k (by simp) ok jk;rcases q2 with q2|q2
  ·exact jD.swap jk nh hki (fun j hj=>hf j (by simp at hj;rcases hj with rfl|rfl<;>simp)) q1 q2 (.cons jk hk wO fT)
  ·unfold DU at q2;rw[jk,nh]at q2;simp only[Bool.or_eq_true,ai]at q2;exact jD.FL jk nh q1 q2 (.cons jk hk wO fT)
end
section
variable {C:ij}{P:Program}{T:fA C}
open Pg (Ex)
theorem G.kq{X:Cx}{h:Heap C}{nx cM:Nat}{lim me:eL}(g:G T X h nx lim)(hh:∀id,fL nx lim id->fL cM me id)(hl:me.lo<=cM):G T X h cM me :=
 ⟨g.var,g.cj,g.map,g.ek,g.kg,fun id o ho=>⟨hh id (g.eY id o ho).1,fun r hr=>hh r ((g.eY id o ho).2 r hr)⟩,g.apart,g.outer,g.outs,hl,g.pre⟩
theorem QE.kq{X:Cx}{env dj:Env C}{tmps:b7}{nx cM:Nat}{lim me:eL}(g:QE T X nx lim env tmps)(hh:∀id,fL nx lim id->fL cM me id)(he:∀t,c8 dj t=c8 env t):QE T X cM me dj tmps :=
 fun t=>by rw[he];exact⟨(g t).1,fun id hi=>hh id ((g t).2 id hi)⟩
theorem Step.kq{X X':Cx}{nx cM:Nat}{lim me:eL}(s:Step X nx lim X')(hh:∀id,fL cM me id->fL nx lim id):Step X cM me X' :=
 ⟨s.O,s.os,s.tape,s.output,s.size,fun id ho=>s.ρ id (hh id ho),s.dI,s.cell,s.block,s.frz⟩
variable {call:FuncId->List (D C)->Pg C (D C)}{ops:cV}{L base sp:Nat}
theorem jD.congr{ts ts':Nat->Tr}{l:bU}{env il:Env C}{h hF:Heap C}(hr:jD T call ops L base sp ts l env h il hF):(∀j∈l,ts' j=ts j)->jD T call ops L base sp ts' l env h il hF:=by
 induction hr with
 |nil h1 h2=>intro _;exact .nil h1 h2
 |cons ho hx hn _ ih=>intro hh;exact .cons ho (by rw[hh _ (by simp)];exact hx) hn (ih fun j hj=>hh j (by simp[hj]))
theorem Qfo:∀(l:ga) (i:Nat),ops.toList.drop i=l->∀{e:Pg.Lv} {env il:Env C} {h hF:Heap C} {n nF:Nat} {tr:Tr} {acc:jc},Ex e (B9 T call ops base sp i l env acc) h n il hF nF tr ->
 n<=base+i*sp/\∃ts nQ,jD T call ops (e.1+1) base sp ts (List.range' i l.length) env h il hF/\nF=base+(i+l.length)*sp/\Hc ops nQ=true/\(∀p∈acc,p∈nQ)/\∀j,i<=j->j<i+l.length->ts j=[]\/(j,ts j)∈nQ:=by
 intro l
 induction l with
 |nil=>
  intro i hl e env il h hF n nF tr acc hx;simp only[B9]at hx;obtain⟨hm,hx⟩:=Ex.upto hx;rcases Ex.br hx with⟨hb,hx⟩|⟨hb,hx⟩
  ·obtain⟨rfl,rfl,rfl,rfl⟩:=Ex.ret hx;exact⟨hm,fun _=>[],acc,.nil (fun _=>rfl) (fun _=>rfl),by simp,hb,fun p hp=>hp,fun j h1 h2=>by simp at h2;omega⟩
  ·exact Ex.cI hx
 |cons o l ih=>
  intro i hl e env il h hF n nF tr acc hx;simp only[B9]at hx;obtain⟨hm,hx⟩:=Ex.upto hx;obtain⟨eD,h1,n1,t1,t2,q1,q2,_⟩:=Ex.sub hx
  have cY:i<ops.toList.length:=by
   rcases Nat.lt_or_ge i ops.toList.length with h|h
   ·exact h
   ·rw[aO h]at hl;simp at hl
  have gk:ops.toList[i]? = some o:=by
   rw[aJ cY]at hl;rw[aY cY,(List.cons.inj hl).1]
  have kB:ops[i]? = some o:=by rw[<-Array.getElem?_toList];exact gk
  have nR:ops.toList.drop (i+1)=l:=by
   rw[aJ cY]at hl;exact(List.cons.inj hl).2
  obtain⟨k0,ts,nQ,k1,k2,k3,k4,k5⟩:=ih (i+1) nR q2;refine⟨hm,fun j=>if j=i then t1 else ts j,nQ,?_,by rw[k2,aE,Nat.add_right_comm i 1 l.length];rfl,k3,?_,?_⟩
  ·rw[aE,List.range'_succ];refine .cons kB (by simpa using q1) k0 (k1.congr fun j hj=>?_);have:=List.mem_range'_1.1 hj;have gm:¬j=i:=by omega
   simp[gm]
  ·intro p hp;refine k4 p ?_
   split
   ·exact hp
   ·simp[hp]
  ·intro j hj1 kH
   by_cases hj:j=i
   ·subst hj;simp only[aU];cases t1 with
    |nil=>exact .inl rfl
    |cons x t1=>exact .inr (k4 _ (by simp))
   ·simp only[hj,aL];exact k5 j (by omega) (by simp at kH;omega)
theorem QhV{nQ:jc}(h:Hc ops nQ=true){a b:Nat×Tr}(ha:a∈nQ)(hb:b∈nQ)(cY:a.1<b.1)(hn:¬r9 ops a.1 b.1):r8 a.2 b.2\/DU ops a.1 b.1=true:=by
 simp only[Hc,aX]at h;have:=h a ha b hb;simp only[Bool.or_eq_true,Bool.not_eq_true']at this;rcases this with((h1|h1)|h1)|h1
 ·exact .inl (Qkc h1)
 ·have h2:Nat.blt a.1 b.1=true:=by rw[Nat.blt_eq];exact cY
  rw[h2]at h1;cases h1
 ·exact(hn h1).elim
 ·exact .inr h1
structure NV(ops:cV):Prop where
 Eo:∀i o,ops[i]? = some o->∀e∈o.after,Region.binds .any e=true->e.on<i
 apart:∀i j oi oj,i<j->ops[i]? = some oi->ops[j]? = some oj->r9 ops i j\/oi.apart ops oj=true
def HR(base sp N:Nat)(lim:eL)(rest:bU)(id:Nat):Prop:=lim.H id\/(base+N*sp<=id/\id<lim.top)\/∃j∈rest,base+j*sp<=id/\id<base+(j+1)*sp
def oH(base sp N:Nat)(lim:eL)(rest:bU):eL:=⟨base,base,HR base sp N lim rest,fun id h1 h2=>by omega⟩
theorem BR{N:Nat}{lim:eL}{rest:bU}{id:Nat}:fL base (oH base sp N lim rest) id↔¬HR base sp N lim rest id:=by
 unfold fL oH;simp only;constructor
 ·exact fun h=>h.2
 ·exact fun h=>⟨by omega,h⟩
theorem U3{gi:Array Bool}{j:Nat}(h:j<gi.size):gi.getD j true=gi.getD j false:=by simp[Array.getD_eq_getD_getElem?,h]
variable (K:Zq P T)
include K
theorem Qyi{ro:dD}{m:Nat}(ia:uu P T call){B:Nat->Bool}(hB:∀o∈ops.toList,∀t,o.dst=some t->B t=false)(hd:NV ops){ts:Nat->Tr}{lim:eL}{il:Env C}{hF:Heap C}(Cv:∀i j,i<j->j<ops.size->¬r9 ops i j->r8 (ts i) (ts j)\/DU ops i j=true)(gk:lim.lo<=base)(aaq:base+ops.size*sp<=lim.top){Q:Exit->Act->World->Prop} :
 ∀(lZ:Nat) (rest:bU) (gi:Array Bool) (env:Env C) (h:Heap C) (X:Cx) (a:Act),rest.length<=lZ->rest.Pairwise (· < ·)->gi.size=ops.size->(∀j,j∈rest↔j<ops.size/\gi.getD j true=false) ->
  (∀j o,gi.getD j false=true->ops[j]? = some o->∀e∈o.after,Region.binds .any e=true->gi.getD e.on false=true)->jD T call ops L base sp ts rest env h il hF->wb base sp rest h ->
  G T X h base (oH base sp ops.size lim rest)->QE T X base (oH base sp ops.size lim rest) env a.tmps->(∀o∈ops.toList,∀t,o.dst=some t->t<a.tmps.size) ->
  (∀a' X',G T X' hF (base+ops.size*sp) lim->Step X base lim X'->QE T X' (base+ops.size*sp) lim il a'.tmps->a'.tmps.size=a.tmps.size->a'.defers=a.defers->Kp B a.tmps a'.tmps->Q .normal a' X'.w) ->
  wpAnyIn (oh ro) m P .any ops Q lZ gi a X.w:=by
 intro lZ
 induction lZ with
 |zero=>
  intro rest gi env h X a dc pC fN l7 uW hr hf g he hb hk;obtain rfl:rest=[]:=List.length_eq_zero_iff.1 (by omega);refine⟨?_,?_⟩
  ·cases hq:Region.ready .any ops gi with
   |nil=>rfl
   |cons j _=>
    have:j∈Region.ready .any ops gi:=by simp[hq]
    obtain⟨h1,o,h2,_⟩:=mem_ready.1 this;have:=(l7 j).2 ⟨(aI.1 h2).1,h1⟩;simp at this
  ·cases hr with
   |nil e1 e2=>
    have gD:∀id,fL base (oH base sp ops.size lim []) id->fL (base+ops.size*sp) lim id:=by
     intro id ho;rw[BR]at ho;unfold HR at ho;simp only[List.not_mem_nil,false_and,exists_false,or_false,not_or]at ho;exact⟨by omega,ho.1⟩
    exact hk a X ((g.congr fun id=>(e2 id).symm).kq gD (by omega)) (.refl _ _ _) (he.kq gD fun t=>(e1 t).symm) rfl rfl (.refl _ _)
 |succ lZ ih=>
  intro rest gi env h X a dc pC fN l7 uW hr hf g he hb hk;refine⟨fun PA=>?_,fun i hi=>?_⟩
  ·cases rest with
   |nil=>
    cases hr with
    |nil e1 e2=>
     have gD:∀id,fL base (oH base sp ops.size lim []) id->fL (base+ops.size*sp) lim id:=by
      intro id ho;rw[BR]at ho;unfold HR at ho;simp only[List.not_mem_nil,false_and,exists_false,or_false,not_or]at ho;exact⟨by omega,ho.1⟩
     exact hk a X ((g.congr fun id=>(e2 id).symm).kq gD (by omega)) (.refl _ _ _) (he.kq gD fun t=>(e1 t).symm) rfl rfl (.refl _ _)
   |cons r rest=>
    exfalso;have o7:=(l7 r).1 (by simp)
    have:r∈Region.ready .any ops gi:=by
     rw[mem_ready];refine⟨o7.2,ops[r]'o7.1,by simp[o7.1],fun e Pd hbb=>?_⟩;have cY:=hd.Eo r _ (by simp[o7.1]) e Pd hbb;cases hq:gi.getD e.on false with
     |true=>rfl
     |false=>
      have hm:=(l7 e.on).2 ⟨by omega,by rw[U3 (by omega)];exact hq⟩;simp only[aZ]at hm;rcases hm with hm|hm
      ·omega
      ·have:=(List.pairwise_cons.1 pC).1 _ hm;omega
    rw[PA]at this;simp at this
  ·obtain⟨hl,oi,nh,sH⟩:=mem_ready.1 hi;have EY:i<ops.size:=(aI.1 nh).1;have hir:=(l7 i).2 ⟨EY,hl⟩;obtain⟨pre,post,rfl⟩:=List.append_of_mem hir;have lC:(pre++i::post).Nodup:=pC.imp fun {x y} (nW:x<y)=>by omega
   have yH:∀k∈pre,k<i:=fun k hk=>(List.pairwise_append.1 pC).2.2 k hk i (by simp)
   have fT:=jD.first nh pre post lC hf (fun k hk ok jk=>by
    have cY:=yH k hk
    have CG:¬r9 ops k i:=fun O3=>by
     have jA:=r9.gi (ops:=ops) (L:=fun j=>gi.getD j false=true) (fun j o h1 h2 e h3 h4=>uW j o h1 h2 e h3 h4) i k O3 (fun o ho e h1 h2=>by
      rw[nh]at ho;obtain rfl:=aj ho;exact sH e h1 h2)
     have CC:=(l7 k).1 (by simp[hk]);rw[U3 (by omega)]at CC;rw[CC.2]at jA;cases jA
    exact⟨(hd.apart k i ok oi cY jk nh).resolve_left CG,Cv k i cY EY CG⟩) hr
   cases fT with
   | @cons _ eD _ _ h1 _ _ n o _ ho hx hn ez=>
   obtain rfl:oi=o:=by rw[nh]at ho;exact aj ho
   have qO:i∉pre++post:=by
    intro hm;rw[List.nodup_append]at lC;simp only[aT]at hm;rcases hm with hm|hm
    ·exact lC.2.2 i hm i (by simp) rfl
    ·exact(List.nodup_cons.1 lC.2.1).1 hm
   have yg:∀j,j<ops.size->base+(j+1)*sp<=base+ops.size*sp:=fun j hj=>by
    have:(j+1)*sp<=ops.size*sp:=Nat.mul_le_mul_right _ hj;omega
   have sW:∀j,j∈pre++post->j<ops.size:=fun j hj=>((l7 j).1 (by simp at hj ⊢;rcases hj with hj|hj<;>simp[hj])).1
   let vq:eL:=⟨base+i*sp,base+(i+1)*sp,HR base sp ops.size lim (pre++post),fun id q1 q2=>by
    have ye:=yg i EY
    rintro (q3|q3|⟨j,q3,q4,q5⟩)
    ·exact lim.ok id (by omega) (by omega) q3
    ·omega
    ·exact DV (i:=i) (k:=j) (by rintro rfl;exact qO q3) q1 q2 q4 q5⟩
   have pP:∀id,fL base (oH base sp ops.size lim (pre++i::post)) id->fL (base+i*sp) vq id:=by
    intro id dU;rw[BR]at dU;unfold HR at dU;simp only[not_or,not_exists,not_and]at dU;refine⟨?_,?_⟩
    ·have:=dU.2.2 i (by simp);show id<base+i*sp\/base+(i+1)*sp<=id;omega
    ·rintro (q3|q3|⟨j,q3,q4,q5⟩)
     ·exact dU.1 q3
     ·exact dU.2.1 q3.1 q3.2
     ·exact dU.2.2 j (by simp at q3 ⊢;rcases q3 with q3|q3<;>simp[q3]) q4 q5
   have mJ:∀id,fL n vq id->fL base (oH base sp ops.size lim (pre++post)) id:=fun id dU=>BR.2 dU.2
   have ho3:∀id,fL base lim id->fL (base+i*sp) vq id:=by
    intro id dU;have ye:=yg i EY;have hc:=dU.1;refine⟨?_,?_⟩
    ·show id<base+i*sp\/base+(i+1)*sp<=id;rcases hc with hc|hc
     ·exact .inl (by omega)
     ·exact .inr (by omega)
    ·rintro (q3|q3|⟨j,q3,q4,q5⟩)
     ·exact dU.2 q3
     ·rcases hc with hc|hc
      ·have:base<=base+ops.size*sp:=Nat.le_add_right _ _;omega
      ·omega
     ·have:=yg j (sW j q3);rcases hc with hc|hc
      ·have:base<=base+j*sp:=Nat.le_add_right _ _;omega
      ·omega
   refine XJ K ia (g.kq pP (aq _)) (he.kq pP fun _=>rfl) (lim:=vq) hn nh (fun t ht=>hb oi (List.mem_of_getElem? (by rw[Array.getElem?_toList];exact nh)) t ht) (fun t ht=>hB oi (List.mem_of_getElem? (by rw[Array.getElem?_toList];exact nh)) t ht) hx fun a' X' g' s' e' hs uZ ry=>?_;have yM:(pre++post).Sublist (pre++i::post):=List.Sublist.append_left (List.sublist_cons_self _ _) _
   refine ih (pre++post) (gi.setIfInBounds i true) eD h1 X' a' (by simp at dc ⊢;omega) (pC.sublist yM) (by simp[fN]) (fun j=>?_) (fun j o hj lg e h3 h4=>?_) ez
    ((show wb base sp (pre++post) h from fun j hj=>hf j (yM.subset hj)).step hx hn qO) (g'.kq mJ (aq _)) (e'.kq mJ fun _=>rfl) (fun o ho t ht=>by rw[hs];exact hb o ho t ht) fun a2 X2 g2 s2 e2 lR oA rz=>?_
   ·by_cases ms:j=i
    ·subst ms;simp only[qO,false_iff,not_and];intro _;simp[fN,EY]
    ·rw[getD_set_ne true (Ne.symm ms),<-l7 j];simp[ms]
   ·by_cases ms:j=i
    ·subst ms;rw[nh]at lg;obtain rfl:=aj lg;exact getD_set_true (sH e h3 h4)
    ·rw[getD_set_ne false (Ne.symm ms)]at hj;exact getD_set_true (uW j o hj lg e h3 h4)
   ·exact hk a2 X2 g2 ((s'.kq ho3).trans s2 (aq _)) e2 (by omega) (by rw[oA,uZ]) (ry.trans rz)
theorem QBZ{ro:dD}{m:Nat}{X:Cx}{h h':Heap C}{nx cM:Nat}{e:Pg.Lv}{lim:eL}{tr:Tr}{env dj:Env C}{a:Act}(ia:uu P T call){B:Nat->Bool}(hB:∀o∈ops.toList,∀t,o.dst=some t->B t=false)(hm:P.follows .mixedOrders=true)(hd:NV ops)(g:G T X h nx lim)(he:QE T X nx lim env a.tmps)
 (eA:cM<=lim.top) (hb:∀o∈ops.toList,∀t,o.dst=some t->t<a.tmps.size) (hx:Ex e (B9 T call ops nx sp 0 ops.toList env []) h nx dj h' cM tr) {id:Nat} {Q:Exit->Act->World->Prop}
 (hk:∀a' X',G T X' h' cM lim->Step X nx lim X'->QE T X' cM lim dj a'.tmps->a'.tmps.size=a.tmps.size->a'.defers=a.defers->Kp B a.tmps a'.tmps->Q .normal a' X'.w):(Code.region id ops true).wpIn (oh ro) m P Q a X.w:=by
 obtain⟨_,ts,nQ,k1,k2,k3,_,k5⟩:=Qfo ops.toList 0 rfl hx;simp only[aN,Array.length_toList]at k1 k2 k5;subst k2;obtain⟨gw,sw⟩:=g.world K.base { X.w with drawn:=X.w.drawn+1 } rfl rfl rfl rfl;refine wpIn_region_any hm ?_
 have gD:∀i,fL nx lim i->fL nx (oH nx sp ops.size lim (List.range' 0 ops.size)) i:=by
  intro i hi;rw[BR];have hc:=hi.1;have h0:nx<=nx+ops.size*sp:=Nat.le_add_right _ _
  rintro (q3|q3|⟨j,q3,q4,q5⟩)
  ·exact hi.2 q3
  ·omega
  ·have hj:=(List.mem_range'_1.1 q3).2;have:(j+1)*sp<=ops.size*sp:=Nat.mul_le_mul_right _ (by omega);have:nx<=nx+j*sp:=Nat.le_add_right _ _;omega
 refine Qyi K ia hB hd (ts:=ts) (fun i j lP hj hn=>?_) g.low eA ops.size (List.range' 0 ops.size) _ env h ⟨{ X.w with drawn:=X.w.drawn+1 },X.ρ,X.O⟩ a (by simp) (List.pairwise_lt_range') (by simp) (fun j=>?_) (fun j o hj=>?_) k1 ?_
  (gw.kq gD (aq _)) ((he.step K.base sw (aq _)).kq gD fun _=>rfl) hb fun a' X' g' s' e' hs uZ ry=>?_
 ·rcases k5 i (by omega) (by omega)with h1|h1
  ·rw[h1];refine .inl ?_;intro _ _ _ hm;simp at hm
  ·rcases k5 j (by omega) hj with h2|h2
   ·rw[h2];refine .inl ?_;intro _ _ _ _ hm;simp at hm
   ·exact QhV k3 h1 h2 lP hn
 ·simp only[List.mem_range'_1,aN,aK,true_and];constructor
  ·intro h;simp[Array.getD_eq_getD_getElem?,h]
  ·exact fun h=>h.1
 ·exfalso
  by_cases Ie:j<ops.size
  ·simp[Array.getD_eq_getD_getElem?,Ie]at hj
  ·simp[Array.getD_eq_getD_getElem?,Ie]at hj
 ·intro j hj i q1 q2;cases hg:h.get i with
  |none=>rfl
  |some o=>
   exfalso;have:=gD i (g.eY i o hg).1;rw[BR]at this;exact this (.inr (.inr ⟨j,hj,q1,q2⟩))
 ·exact hk a' X' g' (sw.trans s' (aq _)) e' hs uZ ry
end
section
variable {C:ij}{P:Program}{T:fA C}
open Pg (Ex)
variable (K:Zq P T)
def rJ(tmps:b7):ResultVar->Sem Value
 |.tmp t=>pure (tmps.getD t undef)
 |.cell a t=>do loadVar t (<-asAddr (tmps.getD a undef))
theorem Qkf{t:TypeId}{va v:Value}{w:World}(h:(Instr.loadAt t va).run P w=.ok v w):(do loadVar t (<-asAddr va):Sem Value).run P w=.ok v w:=by
 unfold Instr.loadAt Instr.sureAddr at h
 split at h
 ·simpa[asAddr]using h
 ·simp[stuck]at h
include K in
theorem QoP{X:Cx}{h:Heap C}{nx:Nat}{lim:eL}{env:Env C}{tmps:b7}(g:G T X h nx lim)(he:QE T X nx lim env tmps):∀(rs:List ResultVar) {e:Pg.Lv} {l:List (D C)} {h':Heap C} {cM:Nat} {tr:Tr},
 Ex e (xl T env rs) h nx l h' cM tr->h'=h/\cM=nx/\∃vs,(rs.mapM (rJ tmps)).run P X.w=.ok vs X.w/\iu T X l vs/\∀d∈l,∀id∈D.refs d,fL nx lim id:=by
 intro rs
 induction rs with
 |nil=>
  intro e l h' cM tr hx;obtain⟨rfl,rfl,rfl,rfl⟩:=Ex.ret hx;exact⟨rfl,rfl,[],by simp,.nil,by simp⟩
 |cons r rs ih=>
  intro e l h' cM tr hx;cases r with
  |tmp t=>
   simp only[xl]at hx;obtain⟨l1,h1,n1,t1,t2,q1,hx,_⟩:=Ex.bind hx;obtain⟨rfl,rfl,rfl,rfl⟩:=Ex.ret hx;obtain⟨rfl,rfl,vs,a1,a2,a3⟩:=ih q1;refine⟨rfl,rfl,tmps.getD t undef::vs,by simp only[List.mapM_cons,rJ,aG,aF,aA,a1],.cons (he t).1 a2,?_⟩;intro d hd;simp only[aZ]at hd;rcases hd with rfl|hd
   ·exact(he t).2
   ·exact a3 d hd
  |cell a t=>
   simp only[xl]at hx;obtain⟨d1,h1,n1,t1,t2,q1,hy,_⟩:=Ex.bind hx;obtain⟨v,k1,e1,e2,k2⟩:=UZ K g (he a) q1;subst e1;subst e2;obtain⟨l1,h2,n2,t3,t4,q2,hz,_⟩:=Ex.bind hy;obtain⟨rfl,rfl,rfl,rfl⟩:=Ex.ret hz;obtain⟨rfl,rfl,vs,a1,a2,a3⟩:=ih q2;refine⟨rfl,rfl,v::vs,by simp only[List.mapM_cons,rJ,aG,aF,aA,a1];rw[<-aG,Qkf k1];simp[a1],.cons k2.1 a2,?_⟩;intro d hd;simp only[aZ]at hd;rcases hd with rfl|hd
   ·exact k2.2
   ·exact a3 d hd
end
section
variable {C:ij}{P:Program}
theorem R.lG(T:fA C)(L:Laws T){X X':Cx}(hX:∀b o v,X.w.cell? ⟨b,o,none⟩=some v->X.free b o->X'.w.cell? ⟨b,o,none⟩=some v/\X'.free b o){m:Bool}{d:D C}{vs:bT}(h:R T X m d vs)(hd:d.refs=[]/\d.eu=true):R T X' m d vs :=
 h.qS T (y:=false) L.iv hX (fun h=>by cases h) (by rw[hd.1];simp) (.inr hd.2)
theorem RV.lG(T:fA C)(L:Laws T){X X':Cx}(hX:∀b o v,X.w.cell? ⟨b,o,none⟩=some v->X.free b o->X'.w.cell? ⟨b,o,none⟩=some v/\X'.free b o){d:D C}{v:Value}(h:RV T X d v)(hd:d.refs=[]/\d.eu=true):RV T X' d v:=by
 rcases h with⟨h1,cs,h2,h3⟩|⟨h1,h2⟩
 ·exact .inl ⟨h1,cs,h2.lG T L hX hd,h3⟩
 ·exact .inr ⟨h1,h2.lG T L hX hd⟩
theorem Yx.move{T:fA C}(L:Laws T){X X':Cx}(hX:∀b o v,X.w.cell? ⟨b,o,none⟩=some v->X.free b o->X'.w.cell? ⟨b,o,none⟩=some v/\X'.free b o){ck cv:C.Ty}{l:List (C.A ck×C.A cv)}{es:ec}(h:Yx T X ck cv l es):Yx T X' ck cv l es:=by
 induction h with
 |nil=>exact .nil
 |cons hk hv _ ih=>exact .cons (hk.lG T L hX (L.iv _ _)) (hv.lG T L hX (L.iv _ _)) ih
theorem J1.move{T:fA C}(L:Laws T){X X':Cx}(hX:∀b o v,X.w.cell? ⟨b,o,none⟩=some v->X.free b o->X'.w.cell? ⟨b,o,none⟩=some v/\X'.free b o){ck cv:C.Ty}{l:List (C.A ck×C.A cv)}{es:eB}{k:Nat}(h:J1 T X ck cv l es k):J1 T X' ck cv l es k :=
 ⟨h.rj.move L hX,h.born,h.nodup⟩
theorem uG.move{T:fA C}(L:Laws T){X X':Cx}{cc:rN C}{s:qV}(h:uG T X cc s)(hX:∀b o v,X.w.cell? ⟨b,o,none⟩=some v->X.free b o->X'.w.cell? ⟨b,o,none⟩=some v/\X'.free b o)
 (hb:∀b,s.owns b->X'.w.heap[b]? = X.w.heap[b]?):uG T X' cc s:=by
 cases cc with
 |lp busy dn ex=>
  cases s with
  |lp b rec=>obtain⟨pend,h3,h4⟩:=h;exact⟨pend,(hb b rfl).trans h3,h4⟩
  |it bm r=>exact h.elim
 |it ck cv l=>
  cases s with
  |lp b rec=>exact h.elim
  |it bm r=>
   obtain⟨gm,es,si,se,k,h3,h4,h5,h6⟩:=h;exact⟨gm,es,si,se,k,(hb bm (.inl rfl)).trans h3,(hb r (.inr rfl)).trans h4,h5.move L hX,h6⟩
variable {T:fA C}
theorem Vx.move(L:Laws T){X X':Cx}{t:C.Ty}{dM:Bool}{l:List (C.A t)}{v:Value}{b lo hi:Nat}(h:Vx T X t dM l v b lo hi)
 (hX:∀b o v,X.w.cell? ⟨b,o,none⟩=some v->X.free b o->X'.w.cell? ⟨b,o,none⟩=some v/\X'.free b o)
 (hb:(∃o,(Loc.cj v (T.dG t) b lo hi).owns b o)->X'.w.heap[b]? = X.w.heap[b]?) (nj:0<T.size (T.dG t)):Vx T X' t dM l v b lo hi:=by
 have hR:∀cs,R T X false (.arr t l.length l) cs->R T X' false (.arr t l.length l) cs:=fun cs hr=>hr.lG T L hX ⟨rfl,rfl⟩;rcases h with h2|⟨off,cp,h2,h3,h4,h5⟩
 ·exact .inl h2
 ·refine .inr ⟨off,cp,h2,h3,h4,?_⟩;rcases h5 with⟨ht,gk,h5|⟨cs,e,h5,h6,h7⟩⟩|⟨ht,gk,⟨cs,h5,h6⟩,h7⟩
  ·exact .inl ⟨ht,gk,.inl h5⟩
  ·by_cases hc:cp=0
   ·exact .inl ⟨ht,gk,.inl hc⟩
   ·have hm:T.size (T.dG t)<=cp*T.size (T.dG t):=Nat.le_mul_of_pos_left _ (by omega);have e1:=hb ⟨off,rfl,by omega,by omega⟩;exact .inl ⟨ht,gk,.inr ⟨cs,e,by rw[e1];exact h5,h6,hR _ h7⟩⟩
  ·refine .inr ⟨ht,gk,⟨cs,fun j u hj=>hX _ _ _ (h5 j u hj).1 (h5 j u hj).2,hR _ h6⟩,?_⟩;rcases h7 with h7|⟨c0,e,h7,h8⟩
   ·exact .inl h7
   ·by_cases hc:cp=l.length
    ·exact .inl hc
    ·have hm:(l.length+1)*T.size (T.dG t)<=cp*T.size (T.dG t):=Nat.mul_le_mul_right _ (by omega);have e1:=hb ⟨lo,rfl,by omega,by rw[Nat.succ_mul]at hm;omega⟩;exact .inr ⟨c0,e,by rw[e1];exact h7,h8⟩
theorem Laws.tD(L:Laws T)(t:C.Ty):0<T.size (T.dG t):=by
 refine L.pos _ fun hn=>?_;have:=L.gh t (T.fh t)
 revert this
 cases T.enc t (T.fh t)<;>simp[cZ,hn]
theorem Uk{w w':World}{a:Addr}(h:w'.heap[a.block]? = w.heap[a.block]?):w'.cell? a=w.cell? a:=by unfold World.cell?;rw[h]
theorem TD{w w':World}{a:Addr}(h:w'.heap[a.block]? = w.heap[a.block]?):w'.frozen? a=w.frozen? a:=by unfold World.frozen?;rw[h]
structure xH(X:Cx)(r:Nat)(w':World):Prop where
 size:w'.heap.size=X.w.heap.size
 block:∀b,b≠r->w'.heap[b]? = X.w.heap[b]?
 dI:∀o,¬X.dI r o
 tu:∀c t f,X.w.heap[r]? ≠ some (.cells c t f)
 os:w'.os=X.w.os
 tape:w'.tape=X.w.tape
 output:w'.output=X.w.output
theorem xH.cell{X:Cx}{r:Nat}{w':World}(t:xH X r w'):∀b o v,X.w.cell? ⟨b,o,none⟩=some v->X.free b o->(⟨w',X.ρ,X.O⟩:Cx).w.cell? ⟨b,o,none⟩=some v/\(⟨w',X.ρ,X.O⟩:Cx).free b o:=by
 intro b o v hc hf;refine⟨?_,hf⟩
 have hb:b≠r:=by
  rintro rfl
  unfold World.cell? at hc;cases hh:X.w.heap[b]? with
  |none=>simp[hh]at hc
  |some ob=>cases ob<;>simp[hh]at hc;exact absurd hh (t.tu _ _ _)
 rw[show(⟨w',X.ρ,X.O⟩:Cx).w=w' from rfl,Uk (t.block b hb)];exact hc
theorem T4{X:Cx}{r:Nat}{o o':Go.Obj}(ho:X.w.heap[r]? = some o)(hn:∀c t f,o ≠ .cells c t f)(hm:∀q,¬X.dI r q):xH X r (X.w.putObj r o'):=
 ⟨World.putObj_size,fun b hb=>World.putObj_heap_other hb,hm,fun c t f h=>by rw[ho]at h;exact hn c t f (aj h),rfl,rfl,rfl⟩
theorem G.pL(L:Laws T){X:Cx}{h:Heap C}{nx:Nat}{lim:eL}(g:G T X h nx lim){r:Nat}{w':World}(t:xH X r w'):G T ⟨w',X.ρ,X.O⟩ h nx lim where
 var id u d hg:=by
  obtain⟨b,c,e1,e2,e3,e4⟩:=g.var id u d hg;have hb:b≠r:=by rintro rfl;exact t.dI 0 ⟨id,_,e1,rfl⟩
  exact⟨b,c,e1,(t.block b hb).trans e2,e3.qS T (y:=false) L.iv t.cell (fun h=>by cases h) (fun id _=>Qo.refl _) (.inr (Ji _ _ e4)),e4⟩
 cj id u dM l hg:=by
  obtain⟨v,b,lo,hi,e1,e2⟩:=g.cj id u dM l hg;refine⟨v,b,lo,hi,e1,e2.move L t.cell (fun⟨o,ho⟩=>?_) (L.tD u)⟩;have hb:b≠r:=by rintro rfl;exact t.dI o ⟨id,_,e1,ho⟩
  exact t.block b hb
 map id ck cv l hg:=by
  obtain⟨b,es,k,e1,e2,e3⟩:=g.map id ck cv l hg;have hb:b≠r:=by rintro rfl;exact t.dI 0 ⟨id,_,e1,rfl⟩
  exact⟨b,es,k,e1,(t.block b hb).trans e2,e3.move L t.cell⟩
 ek id cc hg:=by
  obtain⟨s,e1,e2⟩:=g.ek id cc hg;refine⟨s,e1,e2.move L t.cell fun b hb=>t.block b ?_⟩
  rintro rfl
  exact t.dI 0 ⟨id,_,e1,hb⟩
 kg:=g.kg
 eY:=g.eY
 apart:=g.apart
 outer b o hm:=by rw[t.size];exact g.outer b o hm
 outs b o ho:=by rw[t.size];exact g.outs b o ho
 low:=g.low
 pre p hp:=by
  obtain⟨⟨u,f,h1⟩,h2⟩:=g.pre p hp
  have hb:p.1≠r:=by
   intro e;rw[e]at h1;exact t.tu _ _ _ h1
  exact⟨⟨u,f,(t.block _ hb).trans h1⟩,h2⟩
theorem Step.pL{X0 X:Cx}{nx:Nat}{lim:eL}(s:Step X0 nx lim X){r:Nat}{w':World}(t:xH X r w')(hr:X0.w.heap.size<=r):Step X0 nx lim ⟨w',X.ρ,X.O⟩ where
 O:=s.O
 os:=t.os.trans s.os
 tape:=t.tape.trans s.tape
 output:=t.output.trans s.output
 size:=by rw[t.size];exact s.size
 ρ:=s.ρ
 dI:=s.dI
 cell b o hb hm:=(Uk (t.block b (by omega))).trans (s.cell b o hb hm)
 block b hb hm:=(t.block b (by omega)).trans (s.block b hb hm)
 frz a ha:=(TD (t.block a.block (by omega))).trans (s.frz a ha)
def DW(r:Nat):Deferred:={ target:=.collected r,args := #[] }
def VH(X X':Cx)(ds base:List Deferred):Prop :=
 ∃rs:bU,ds=rs.map DW++base/\rs.Nodup/\∀r∈rs,X.w.heap.size<=r/\X'.w.heap[r]? = some (.deferred (some []))/\∀o,¬X'.dI r o
theorem VH.of_eq{X X':Cx}{ds base:List Deferred}(h:ds=base):VH X X' ds base:=⟨[],by simp[h],List.nodup_nil,fun r hr=>by simp at hr⟩
theorem VH.refl(X X':Cx)(ds:List Deferred):VH X X' ds ds:=.of_eq rfl
theorem VH.zh{X X1 X2:Cx}{d0 d1 d2:List Deferred}(h:VH X X1 d1 d0)(fN:X.w.heap.size<=X1.w.heap.size)(hb:∀r,r<X1.w.heap.size->(∀o,¬X1.dI r o)->X2.w.heap[r]? = X1.w.heap[r]? /\ ∀o,¬X2.dI r o)(k:VH X1 X2 d2 d1):VH X X2 d2 d0:=by
 obtain⟨r1,rfl,n1,h1⟩:=h;obtain⟨r2,rfl,n2,h2⟩:=k;refine⟨r2++r1,by simp,?_,?_⟩
 ·rw[List.nodup_append];refine⟨n2,n1,fun a ha b hb e=>?_⟩;subst e;have q1:=(h2 a ha).1;have q2:=(aI.1 (h1 a hb).2.1).1;omega
 ·intro r hr;rcases aT.1 hr with hr|hr
  ·obtain⟨q1,q2,q3⟩:=h2 r hr;exact⟨bk fN q1,q2,q3⟩
  ·obtain⟨q1,q2,q3⟩:=h1 r hr;have hl:=(aI.1 q2).1;obtain⟨p1,p2⟩:=hb r hl q3;exact⟨q1,p1.trans q2,p2⟩
theorem VH.trans{X X1 X2:Cx}{nx n1:Nat}{lim lim1:eL}{d0 d1 d2:List Deferred}(h:VH X X1 d1 d0)(s:Step X nx lim X1)(s2:Step X1 n1 lim1 X2)(k:VH X1 X2 d2 d1):VH X X2 d2 d0 :=
 h.zh s.size (fun r hl q3=>⟨s2.block r hl q3,fun o ho=>q3 o (s2.dI r o hl ho)⟩) k
theorem VH.sub{X X1 X2:Cx}{d0 d1:List Deferred}(h:VH X X1 d1 d0)(hw:X2.w=X1.w)(hm:∀b o,b<X1.w.heap.size->X2.dI b o->X1.dI b o):VH X X2 d1 d0:=by
 obtain⟨r1,rfl,n1,h1⟩:=h;exact⟨r1,rfl,n1,fun r hr=>⟨(h1 r hr).1,by rw[hw];exact(h1 r hr).2.1,fun o ho=>(h1 r hr).2.2 o (hm r o (aI.1 (h1 r hr).2.1).1 ho)⟩⟩
theorem G.mg{X:Cx}{h:Heap C}{nx:Nat}{lim:eL}(g:G T X h nx lim){b o:Nat}(hm:X.dI b o):(∃c t f,X.w.heap[b]? = some (.cells c t f))\/(∃es k,X.w.heap[b]? = some (.map es k))\/(∃r,X.w.heap[b]? = some (.loop r))\/∃m s c k,X.w.heap[b]? = some (.mapIter m s c k):=by
 obtain⟨id,l,hl,ho⟩:=hm;have hd:=g.kg id l hl;cases hg:h.get id with
 |none=>rw[hg]at hd;cases hd
 |some ob=>
  cases ob with
  |var t d=>
   obtain⟨b',c,e1,e2,_⟩:=g.var id t d hg;rw[hl]at e1;obtain rfl:=aj e1;obtain rfl:b=b':=ho;exact .inl ⟨_,_,_,e2⟩
  |map ck cv m=>
   obtain⟨b',es,k,e1,e2,_⟩:=g.map id ck cv m hg;rw[hl]at e1;obtain rfl:=aj e1;obtain rfl:b=b':=ho;exact .inr (.inl ⟨_,_,e2⟩)
  |ek cc=>
   obtain⟨s,e1,e2⟩:=g.ek id cc hg;rw[hl]at e1;obtain rfl:=aj e1;cases cc with
   |lp busy dn ex=>
    cases s with
    |it _ _=>exact e2.elim
    |lp b' rec=>
     obtain rfl:b=b':=ho;obtain⟨pend,h3,_⟩:=e2;exact .inr (.inr (.inl ⟨_,h3⟩))
   |it ck cv m=>
    cases s with
    |lp _ _=>exact e2.elim
    |it bm r=>
     obtain⟨_,es,si,se,k,h3,h4,_⟩:=e2;rcases ho with rfl|rfl
     ·exact .inr (.inl ⟨_,_,h3⟩)
     ·exact .inr (.inr (.inr ⟨_,_,_,_,h4⟩))
  |cj t dM m=>
   obtain⟨v,b',lo,hi,e1,e2⟩:=g.cj id t dM m hg;rw[hl]at e1;obtain rfl:=aj e1;obtain⟨rfl,h1,h2⟩:b=b'/\lo<=o/\o<hi:=ho;rcases e2 with⟨_,_,h3⟩|⟨off,cp,_,_,h4,h5⟩
   ·omega
   ·rcases h5 with⟨_,h6,h7|⟨c,e,h7,_⟩⟩|⟨_,h6,_,h7|⟨c,e,h7,_⟩⟩
    ·rw[h7]at h4;omega
    ·exact .inl ⟨_,_,_,h7⟩
    ·rw[h7]at h4;omega
    ·exact .inl ⟨_,_,_,h7⟩
theorem VH.y3{X Xa Xb X2:Cx}{h:Heap C}{nx:Nat}{lim:eL}(g:G T X2 h nx lim){d d0:List Deferred}(k:VH Xa Xb d d0)(ha:X.w.heap.size<=Xa.w.heap.size)(hb:X2.w=Xb.w):VH X X2 d d0:=by
 obtain⟨rs,rfl,n1,h1⟩:=k;refine⟨rs,rfl,n1,fun r hr=>?_⟩;obtain⟨q1,q2,_⟩:=h1 r hr;rw[<-hb]at q2;refine⟨bk ha q1,q2,fun o ho=>?_⟩;rcases g.mg ho with⟨_,_,_,e⟩|⟨_,_,e⟩|⟨_,e⟩|⟨_,_,_,_,e⟩<;>rw[e]at q2<;>cases q2
theorem QhY(K:Zq P T){fn:Func}{tmps:b7}{R:Ending->World->Prop}{n:Nat}{X0:Cx}{nx0:Nat}{h:Heap C}{nx:Nat}{lim:eL}{env:Env C}:∀(rs:bU) (X:Cx),rs.Nodup->(∀r∈rs,X0.w.heap.size<=r/\X.w.heap[r]? = some (.deferred (some []))/\∀o,¬X.dI r o) ->
 G T X h nx lim->Step X0 nx0 lim X->(∀t,RO T X nx lim (c8 env t) (tmps.getD t undef)) ->
 (∀X',G T X' h nx lim->Step X0 nx0 lim X'->(∀t,RO T X' nx lim (c8 env t) (tmps.getD t undef))->∃v,(results fn tmps).run P X'.w=.ok v X'.w/\R (.returned v) X'.w) ->
 LeavesInM Fence.wide n P fn tmps R (rs.map DW) .returning X.w:=by
 intro rs
 induction rs with
 |nil=>intro X _ _ g s he hk;exact hk X g s he
 |cons r rs ih=>
  intro X hn hr g s he hk;obtain⟨q1,q2,q3⟩:=hr r (by simp);obtain⟨oC,ng⟩:=List.nodup_cons.1 hn;have t:xH X r (X.w.putObj r (.deferred none)):=T4 q2 (fun c t f h=>by cases h) q3;refine⟨by simp,.inl ⟨r,X.w.putObj r (.deferred none),rfl,run_takeDeferred q2,?_⟩⟩;have ry:tR X ⟨X.w.putObj r (.deferred none),X.ρ,X.O⟩:=⟨t.cell⟩;refine ih ⟨X.w.putObj r (.deferred none),X.ρ,X.O⟩ ng (fun r' fT=>?_) (g.pL K.base t) (s.pL t q1) (fun u=>⟨(he u).1.mono T K.base.iv ry fun id _=>Qo.refl _,(he u).2⟩) hk;obtain⟨p1,p2,p3⟩:=hr r' (by simp[fT]);exact⟨p1,(t.block r' (by rintro rfl;exact oC fT)).trans p2,p3⟩
end
section
variable {C:ij}{P:Program}{T:fA C}{Φ:jv C}
open Pg (Ex)
def uC:Ev.X->Exit
 |.normal=>.normal
 |.exit id=>.exit id
 |.ret=>.ret
theorem Y0{P:Program}{b:Frame}{a:Act}{k:List Item}{cs:List Frame}{w:World}{c:Code}:step P (lone (b.atR a (.code (.scope c)::k)) cs w)=.next (lone (b.atR a (.code c::.inScope c::k)) cs w):=
 step_lone_go (by simp[stepG,stepG.exec,Frame.atR])
theorem QgD{P:Program}{b:Frame}{a:Act}{k:List Item}{cs:List Frame}{w:World}{c:Code}:step P (lone (b.atR a (.inScope c::k)) cs w)=.next (lone (b.atR a k) cs w):=
 step_lone_go (by simp[stepG,stepG.exec,Frame.atR])
def QB0(Q:Exit->Act->Go.World->Prop):Exit->Act->Go.World->Prop
 |.goto _,_,_=>False
 |e,a,w=>Q e a w
theorem QoQ{F:Fence}{n:Nat}{P:Program}{Q:Exit->Act->Go.World->Prop}{a:Act}{w:Go.World}{c:Code}(h:c.wpIn F n P (QB0 Q) a w):(Code.scope c).wpIn F n P Q a w:=by
 intro b k cs yJ hb hr;have h0:(lone (b.atR a (.code (.scope c)::k)) cs w).fenced P F:=fenced_calm hb hr rfl;obtain⟨e,a₁,w₁,hq,rm⟩:=h b (.inScope c::k) cs yJ hb hr;cases e with
 |normal=>exact⟨.normal,a₁,w₁,hq,.head h0 Y0 (StepsIn.trans rm (.one (fenced_calm hb hr rfl) QgD))⟩
 |exit id=>
  have hx:exitTo id (.inScope c::k)=exitTo id k:=by simp[exitTo]
  exact⟨.exit id,a₁,w₁,hq,fun k' hk=>.head h0 Y0 (rm.1 k' (by rw[hx];exact hk)),
   fun fT hk=>let ⟨k₁,h1,h2⟩:=rm.2 fT (by rw[hx];exact hk);⟨k₁,h1,.head h0 Y0 h2⟩⟩
 |goto l=>exact hq.elim
 |ret=>exact⟨_,a₁,w₁,hq,.of_steps (.one h0 Y0) rm⟩
 |panic ch=>exact⟨_,a₁,w₁,hq,.of_steps (.one h0 Y0) rm⟩
 |outgrown=>exact⟨_,a₁,w₁,hq,.of_steps (.one h0 Y0) rm⟩
def Zi:Code->List Code
 |.seq a b=>Zi a++Zi b
 |.cond _ a b=>Zi a++Zi b
 |.block _ a=>Zi a
 |.loop a=>a::Zi a
 |.scope a=>Zi a
 |_=>[]
theorem Mp{nt:Nat}{ops:cV}(h:y4 nt ops=true):∀o∈ops.toList,∀t,o.dst=some t->t<nt:=by
 intro o ho t ht;simp only[y4,aX]at h;have:=h o ho;rw[ht]at this
 simpa[Nat.blt_eq]using this
theorem QoR{ops:cV}(h:IH ops=true):NV ops:=by
 simp only[IH,aX,ai]at h
 have mem:∀i o,ops[i]? = some o->(o,i)∈ops.toList.zipIdx:=by
  intro i o hi;rw[List.mem_zipIdx_iff_getElem?];rw[Array.getElem?_toList];exact hi
 refine⟨fun i o hi e he hb=>?_,fun i j oi oj lP hi hj=>?_⟩
 ·have:=(h (o,i) (mem i o hi)).1 e (by simpa using he)
  simpa[hb,Nat.blt_eq]using this
 ·have:=(h (oi,i) (mem i oi hi)).2 (oj,j) (mem j oj hj);simp only[Bool.or_eq_true,Bool.not_eq_true']at this;rcases this with(h1|h1)|h1
  ·have h2:Nat.blt i j=true:=by rw[Nat.blt_eq];exact lP
   rw[h2]at h1;cases h1
  ·exact .inl h1
  ·exact .inr h1
def xB(B:Nat->Bool)(c:Code):Prop:=∀t∈g8 c,B t=false
def D6(T:fA C)(B:Nat->Bool)(X:Cx)(nx:Nat)(lim:eL)(h':Heap C)(cM:Nat)(dj:Env C)(a:Act)(Q:Act->World->Prop):Prop :=
 ∀a' X',G T X' h' cM lim->Step X nx lim X'->QE T X' cM lim dj a'.tmps->a'.tmps.size=a.tmps.size->VH X X' a'.defers a.defers->Kp B a.tmps a'.tmps->Q a' X'.w
def KE(P:Program)(T:fA C)(g:FuncId)(args:List (D C))(d:D C):Prop :=
 ∀(w:World) (O:Nat->Nat->Prop) (vs:bT),(∀b o,O b o->b<w.heap.size)->(∀p∈T.pre,∃t f,w.heap[p.1]? = some (.cells p.2 t f))->iu T ⟨w,fun _=>none,O⟩ args vs ->
  (callFunc g ⟨vs⟩).run P w=.ok (.enter g ⟨vs⟩) w/\Calls P g ⟨vs⟩ w fun en w'=>
   ∃v ρ,en=.returned v/\RV T ⟨w',ρ,O⟩ d v/\(d.refs=[]/\d.eu=true)/\w.heap.size<=w'.heap.size/\(∀b,b<w.heap.size->w'.heap[b]? = w.heap[b]?)/\w'.os=w.os/\w'.tape=w.tape/\w'.output=w.output/\(∀a:Addr,a.block<w.heap.size->w'.frozen? a=w.frozen? a)
theorem KE.call(K:Zq P T){g:FuncId}{args:List (D C)}{d:D C}(hb:KE P T g args d)(gY:∀a∈args,D.refs a=[]){X:Cx}{hp:Heap C}{nx:Nat}{lim:eL}{vs:bT}(g0:G T X hp nx lim)(nV:iu T X args vs) :
 (callFunc g ⟨vs⟩).run P X.w=.ok (.enter g ⟨vs⟩) X.w/\Calls P g ⟨vs⟩ X.w (ZZ T X nx lim hp nx d):=by
 have nf:tR X ⟨X.w,fun _=>none,fun b o=>X.O b o\/X.dI b o⟩:=
  ⟨fun b o v hc hf=>⟨hc,fun h=>h.elim hf.1 hf.2,fun⟨_,_,hq,_⟩=>by simp at hq⟩⟩
 have PU:iu T ⟨X.w,fun _=>none,fun b o=>X.O b o\/X.dI b o⟩ args vs:=by
  clear hb
  induction nV with
  |nil=>exact .nil
  | @cons d ds v vs hv _ ih=>
   refine .cons (hv.mono T K.base.iv (X':=⟨X.w,fun _=>none,fun b o=>X.O b o\/X.dI b o⟩) nf fun id hi=>?_) (ih fun a ha=>gY a (by simp[ha]));rw[gY d (by simp)]at hi;simp at hi
 obtain⟨q1,q2⟩:=hb X.w (fun b o=>X.O b o\/X.dI b o) vs (fun b o ho=>ho.elim (g0.outs b o) fun hm=>(g0.outer b o hm).2) (fun p hp=>(g0.pre p hp).1) PU;refine⟨q1,q2.mono fun en w' wP=>?_⟩;obtain⟨v,ρ,rfl,r,hd,a1,a2,a3,a4,a5,a6⟩:=wP;obtain⟨g',s'⟩:=g0.grow K.base w' a1 a2 a3 a4 a5 a6;refine⟨v,⟨w',X.ρ,X.O⟩,rfl,rfl,g',s',?_,by rw[hd.1];simp⟩;exact RV.lG T K.base (X:=⟨w',ρ,fun b o=>X.O b o\/X.dI b o⟩) (X':=⟨w',X.ρ,X.O⟩) (fun b o u hc hf=>⟨hc,fun ho=>hf.1 (Or.inl ho),fun hm=>hf.1 (Or.inr hm)⟩) r hd
theorem R.plain{X X':Cx}{m:Bool}{d:D C}{vs:bT}(h:R T X m d vs):d.plain=true->R T X' m d vs:=by
 induction h with
 |bool b=>exact fun _=>.bool b
 |int h=>exact fun _=>.int h
 |str s=>exact fun _=>.str s
 |bN=>exact fun _=>.bN
 |bI _ _ i1 i2=>intro hp;simp only[D.plain,ai]at hp;exact .bI (i1 hp.1) (i2 hp.2)
 |eO=>exact fun _=>.eO
 |fw=>exact fun _=>.fw
 |cD=>exact fun _=>.cD
 |gz=>exact fun _=>.gz
 |cH _ ih=>intro hp;exact .cH (ih hp)
 |iV=>exact fun _=>.iV
 |jU _ hr _ i1 i2=>intro hp;simp only[D.plain,ai]at hp;exact .jU (i1 hp.1) hr (i2 hp.2)
 |ju _ hr _ i1 i2=>intro hp;simp only[D.plain,ai]at hp;exact .ju (i1 hp.1) hr (i2 hp.2)
 |_=>intro hp;simp[D.plain]at hp
theorem RV.plain{X X':Cx}{d:D C}{v:Value}(h:RV T X d v)(hp:d.plain=true):RV T X' d v:=by
 rcases h with⟨h1,cs,h2,h3⟩|⟨h1,h2⟩
 ·exact .inl ⟨h1,cs,h2.plain hp,h3⟩
 ·exact .inr ⟨h1,h2.plain hp⟩
def Cx.bare(X:Cx):Cx:=⟨X.w,fun _=>none,X.O⟩
theorem Cx.lV(X:Cx):∀b o v,X.w.cell? ⟨b,o,none⟩=some v->X.free b o->X.bare.w.cell? ⟨b,o,none⟩=some v/\X.bare.free b o :=
 fun b o v hc hf=>⟨hc,hf.1,fun⟨_,_,hq,_⟩=>by simp[Cx.bare]at hq⟩
theorem QqZ(K:Zq P T){X:Cx}{h h':Heap C}{nx cM:Nat}{e:Pg.Lv}{lim:eL}{tr:Tr}{id n:Nat}{d':D C}{v:Value}(g:G T X h nx lim)(hr:R T X false (.vs id n) [v])
 (hx:Ex e (qF (.vs id n)) h nx d' h' cM tr):h'=h/\cM=nx/\R T X.bare false d' [v]/\d'.dA=false:=by
 simp only[qF]at hx;obtain⟨o,t',ho,hx,_⟩:=Ex.rd hx;cases o with
 |var t d=>exact Ex.cI hx
 |map _ _ _=>exact Ex.cI hx
 |ek _=>exact Ex.cI hx
 |cj ty dM l=>
  rcases Ex.br hx with⟨hb,hx⟩|⟨hb,hx⟩
  ·obtain⟨rfl,rfl,rfl,rfl⟩:=Ex.ret hx;have hn:n=l.length:=az hb;obtain⟨v0,b,lo,hi,h1,h2⟩:=g.cj id ty dM l ho;have dc:=h2.len;refine⟨rfl,rfl,?_,rfl⟩;cases hr with
   | @vs _ _ cp a hh=>
    have hv:=(hh _ _ _ _ _ h1).2 (by rw[dc,hn]);rcases h2 with⟨⟨a0,h2,_⟩,rfl,_⟩|⟨off,lz,h2,h3,h4,h5⟩
    ·rw[h2]at hv;simp only[Value.slice.injEq]at hv;obtain⟨_,e1,e2⟩:=hv;rw[<-e1,<-e2];exact .li ty false a
    ·rw[h2]at hv;simp only[Value.slice.injEq]at hv;obtain⟨rfl,rfl,rfl⟩:=hv;have hR:∀cs,R T X false (.arr ty l.length l) cs->R T X.bare false (.arr ty l.length l) cs:=fun cs hr=>hr.lG T K.base X.lV ⟨rfl,rfl⟩;rcases h5 with⟨_,gk,h5⟩|⟨_,gk,⟨cs,h5,h6⟩,_⟩
     ·rcases h5 with h5|⟨c,ce,h5,h6,h7⟩
      ·have rX:l=[]:=List.length_eq_zero_iff.1 (by omega);subst rX;exact .sl (cs:=[]) (fun j u hj=>by simp at hj) (.iK _) h3 (fun h=>by cases h)
      ·refine .sl (cs:=(c.toList.drop off).take (l.length*T.size (T.dG ty))) (fun j u hj=>?_) (hR _ h7) h3 (fun h=>by cases h)
       have cY:j<l.length*T.size (T.dG ty):=by
        have:=(av.1 hj).1;rw[bp]at this;omega
       have hmul:l.length*T.size (T.dG ty)<=lz*T.size (T.dG ty):=Nat.mul_le_mul_right _ h3;refine⟨?_,(g.outer b (off+j) ⟨id,_,h1,rfl,by omega,by omega⟩).1,fun⟨_,_,hq,_⟩=>by simp[Cx.bare]at hq⟩;rw[List.getElem?_take_of_lt cY,List.getElem?_drop]at hj;show X.w.cell? _=_;simp only[World.cell?,h5];rw[<-hj];simp
     ·exact .sl (cs:=cs) (fun j u hj=>X.lV _ _ _ (h5 j u hj).1 (h5 j u hj).2) (hR _ h6) h3 (fun h=>by cases h)
  ·exact Ex.cI hx
theorem Qq0(K:Zq P T):∀(d:D C) {m:Bool} {vs:bT} {X:Cx} {h h':Heap C} {nx cM:Nat} {e:Pg.Lv} {lim:eL} {tr:Tr} {d':D C},G T X h nx lim->R T X m d vs->Ex e (qF d) h nx d' h' cM tr ->
 h'=h/\cM=nx/\d'.dA=d.dA/\(d'.refs=[]->d'.eu=true->R T X.bare m d' vs):=by
 intro d
 have same:∀(d0:D C),qF d0=.ret d0->∀{m:Bool} {vs:bT} {X:Cx} {h h':Heap C} {nx cM:Nat} {e:Pg.Lv} {lim:eL} {tr:Tr} {d':D C},G T X h nx lim->R T X m d0 vs->Ex e (qF d0) h nx d' h' cM tr ->
  h'=h/\cM=nx/\d'.dA=d0.dA/\(d'.refs=[]->d'.eu=true->R T X.bare m d' vs):=by
  intro d0 hd m vs X h h' nx cM e lim tr d' g hr hx;rw[hd]at hx;obtain⟨rfl,rfl,rfl,rfl⟩:=Ex.ret hx;exact⟨rfl,rfl,rfl,fun h1 h2=>hr.lG T K.base X.lV ⟨h1,h2⟩⟩
 induction d with
 |bI d ds i1 i2=>
  intro m vs X h h' nx cM e lim tr d' g hr hx;simp only[qF]at hx;obtain⟨d1,h1,n1,t1,t2,q1,hx,_⟩:=Ex.bind hx;obtain⟨d2,h2,n2,t3,t4,q2,hx,_⟩:=Ex.bind hx;obtain⟨rfl,rfl,rfl,rfl⟩:=Ex.ret hx;have l9:∀(a b:D C),(D.bI a b).refs=[]->a.refs=[]/\b.refs=[]:=fun a b h=>by simpa[D.refs]using h
  cases hr with
  |bI r1 r2=>
   obtain⟨rfl,rfl,_,k1⟩:=i1 g r1 q1;obtain⟨rfl,rfl,_,k2⟩:=i2 g r2 q2;refine⟨rfl,rfl,rfl,fun h1 h2=>?_⟩;simp only[D.eu,ai]at h2;exact .bI (k1 (l9 _ _ h1).1 h2.1) (k2 (l9 _ _ h1).2 h2.2)
  |jU r1 fU r2=>
   obtain⟨rfl,rfl,e1,k1⟩:=i1 g r1 q1;obtain⟨rfl,rfl,_,k2⟩:=i2 g r2 q2;refine⟨rfl,rfl,rfl,fun h1 h2=>?_⟩;simp only[D.eu,ai]at h2;exact .jU (k1 (l9 _ _ h1).1 h2.1) (by rw[e1];exact fU) (k2 (l9 _ _ h1).2 h2.2)
  |ju r1 fU r2=>
   obtain⟨rfl,rfl,e1,k1⟩:=i1 g r1 q1;obtain⟨rfl,rfl,_,k2⟩:=i2 g r2 q2;refine⟨rfl,rfl,rfl,fun h1 h2=>?_⟩;simp only[D.eu,ai]at h2;exact .ju (k1 (l9 _ _ h1).1 h2.1) (by rw[e1];exact fU) (k2 (l9 _ _ h1).2 h2.2)
 |cH d ih=>
  intro m vs X h h' nx cM e lim tr d' g hr hx;simp only[qF]at hx;obtain⟨d1,h1,n1,t1,t2,q1,hx,_⟩:=Ex.bind hx;obtain⟨rfl,rfl,rfl,rfl⟩:=Ex.ret hx;cases hr with
  |cH r1=>
   obtain⟨rfl,rfl,_,k1⟩:=ih g r1 q1;exact⟨rfl,rfl,rfl,fun h1 h2=>.cH (k1 h1 h2)⟩
 |vs id n=>
  intro m vs X h h' nx cM e lim tr d' g hr hx;have hm:m=false:=by cases hr;rfl
  subst hm;have hv:∃v,vs=[v]:=by cases hr;exact⟨_,rfl⟩
  obtain⟨v,rfl⟩:=hv;obtain⟨rfl,rfl,k1,k2⟩:=QqZ K g hr hx;exact⟨rfl,rfl,by rw[k2];rfl,fun _ _=>k1⟩
 |jR ta id p lo n=>
  intro m vs X h h' nx cM e lim tr d' g hr hx;have hm:m=false:=by cases hr;rfl
  subst hm;simp only[qF]at hx;obtain⟨o,t',ho,hx,_⟩:=Ex.rd hx;cases o with
  |var t d=>exact Ex.cI hx
  |map _ _ _=>exact Ex.cI hx
  |ek _=>exact Ex.cI hx
  |cj ty dM l=>
   rcases Ex.br hx with⟨hb,hx⟩|⟨hb,hx⟩
   ·obtain⟨rfl,rfl,rfl,rfl⟩:=Ex.ret hx;simp only[ai,Nat.beq_eq]at hb;obtain⟨hn,gk⟩:=hb;have gk:=Nat.le_of_ble_eq_true gk;obtain⟨v0,b,jt,ks,h1,h2⟩:=g.cj id ty dM l ho;have dc:=h2.len;refine⟨rfl,rfl,rfl,fun _ _=>?_⟩;cases hr with
    | @jR _ _ _ _ cp _ ao hq hs hw=>
     obtain⟨k1,k2⟩:=hw _ _ _ _ _ h1;obtain⟨a0,xT,k3,k4,k5,k6⟩:=k2 (by rw[dc,hn]);subst k3 k4 k5 k6
     have mU:R T X false (.vs id (p.getD 0 0)) [.slice a0 (p.getD 0 0) xT]:=.vs fun v e b' lo2 qi h5=>by
      rw[h1]at h5;cases h5;exact⟨by simp[hJ],fun _=>rfl⟩
     have dX:Ex (0,0) (qF (.vs id (p.getD 0 0))) h' cM (.sl ty false l) h' cM ([]++[(id,false)]):=by
      simp only[qF];refine Ex.rd_mk ho ?_;simp only[hn];exact Ex.lF (.inl ⟨by simp,Ex.oK _⟩)
     exact(QqZ K g mU dX).2.2.1.xX K.base lo (by omega)
   ·exact Ex.cI hx
 |_=>exact same _ rfl
theorem XL(K:Zq P T):∀(args:List (D C)) {vs:bT} {X:Cx} {h h':Heap C} {nx cM:Nat} {e:Pg.Lv} {lim:eL} {tr:Tr} {iJ:List (D C)},G T X h nx lim->iu T X args vs->Ex e (HK args) h nx iJ h' cM tr ->
 h'=h/\cM=nx/\((∀a∈iJ,D.refs a=[])->(∀a∈iJ,D.eu a=true)->iu T X.bare iJ vs)
 |[],vs,X,h,h',nx,cM,e,lim,tr,iJ,g,hr,hx=>by
  obtain⟨rfl,rfl,rfl,rfl⟩:=Ex.ret hx;cases hr;exact⟨rfl,rfl,fun _ _=>.nil⟩
 |d::ds,vs,X,h,h',nx,cM,e,lim,tr,iJ,g,hr,hx=>by
  simp only[HK]at hx;obtain⟨d1,h1,n1,t1,t2,q1,hx,_⟩:=Ex.bind hx;obtain⟨d2,h2,n2,t3,t4,q2,hx,_⟩:=Ex.bind hx;obtain⟨rfl,rfl,rfl,rfl⟩:=Ex.ret hx;cases hr with
  | @cons _ _ v vs' rv rs=>
   have key:h1=h/\n1=nx/\(d1.refs=[]->d1.eu=true->RV T X.bare d1 v):=by
    rcases rv with⟨i1,cs,r1,rfl⟩|⟨i1,r1⟩
    ·obtain⟨a,b,c,k⟩:=Qq0 K d g r1 q1;exact⟨a,b,fun u1 u2=>.inl ⟨by rw[c];exact i1,cs,k u1 u2,rfl⟩⟩
    ·obtain⟨a,b,c,k⟩:=Qq0 K d g r1 q1;exact⟨a,b,fun u1 u2=>.inr ⟨by rw[c];exact i1,k u1 u2⟩⟩
   obtain⟨rfl,rfl,k1⟩:=key;obtain⟨rfl,rfl,k2⟩:=XL K ds g rs q2;exact⟨rfl,rfl,fun h1 h2=>.cons (k1 (h1 _ (by simp)) (h2 _ (by simp))) (k2 (fun a ha=>h1 a (by simp[ha])) (fun a ha=>h2 a (by simp[ha])))⟩
structure Qj(P:Program)(T:fA C)(Φ:jv C):Prop where
 fn : ∀ f fn,Φ.fn f=some fn->P.funcs[f]? = some fn /\ (fn.name == "runtime.NumGoroutine")=false /\ ∀ body,fn.body=some body->YV fn.ntmps body=true
 spec:∀g s args d,Φ.spec g=some s->s args=some (true,d)->(∀a∈args,D.refs a=[])/\KE P T g args d
 jJ:∀g s,Φ.jJ g=some s->∀args vs X h nx lim e d h' cM tr,G T X h nx lim->iu T X args vs->(∀a∈args,∀id∈D.refs a,fL nx lim id)->cM<=lim.top->Ex e (s args) h nx d h' cM tr ->
  (callFunc g ⟨vs⟩).run P X.w=.ok (.enter g ⟨vs⟩) X.w/\Calls P g ⟨vs⟩ X.w (ZZ T X nx lim h' cM d)
 loop:∀f fn body b s,Φ.fn f=some fn->fn.body=some body->b∈Zi body->Φ.loop f (QF b)=some s->∀B,xB B b->∀X h nx lim e env x dj h' cM tr a Q,G T X h nx lim->QE T X nx lim env a.tmps->cM<=lim.top->fn.ntmps<=a.tmps.size ->
  Ex e (s env) h nx (x,dj) h' cM tr->D6 T B X nx lim h' cM dj a (Q (uC x))->(Code.loop b).wp P Q a X.w
theorem pt:∀(env dj:Env C) (t:Nat),c8 (env++dj) t=c8 env t\/c8 (env++dj) t=c8 dj t
 |[],dj,t=>.inr rfl
 |(j,d)::r,dj,t=>by
  rw[aP,QP,QP]
  split
  ·exact .inl rfl
  ·exact pt r dj t
theorem MK{l:bU}{t:Nat}(h:l.any (Nat.beq t)=true):∀env:Env C,c8 (my l env) t=.top
 |[]=>rfl
 |(j,d)::r=>by
  rw[my];cases hj:l.any (Nat.beq j)with
  |true=>exact MK h r
  |false=>
   simp only[ah];rw[QP];have:t≠j:=fun e=>by rw[e,hj]at h;cases h
   simp only[this,aL];exact MK h r
theorem Mq{l:bU}{t:Nat}(h:l.any (Nat.beq t)=false):∀env:Env C,c8 (my l env) t=c8 env t
 |[]=>rfl
 |(j,d)::r=>by
  rw[my,QP];cases hj:l.any (Nat.beq j)with
  |true=>
   have:t≠j:=fun e=>by rw[e,hj]at h;cases h
   simp only[this,aL,ag];exact Mq h r
  |false=>
   simp only[ah];rw[QP,Mq h r]
theorem QE.lX{X:Cx}{nx:Nat}{lim:eL}{env:Env C}{tmps:b7}{t:Nat}{d:D C}(he:QE T X nx lim env tmps)(hd:c8 env t=d):QE T X nx lim ((t,d)::env) tmps:=by
 intro u;rw[QP]
 by_cases hu:u=t
 ·subst hu;simp only[aU];rw[<-hd];exact he u
 ·simp only[hu,aL];exact he u
theorem QB1{b:Bool}:∀(x y d:D C),kJ b x y=some d->d=bif b then x else y:=by
 intro x
 induction x with
 |bI x xs i1 i2=>
  intro y d h;cases y with
  |bI y ys=>
   simp only[kJ]at h;cases h1:kJ b x y with
   |none=>simp[h1]at h
   |some d1=>
    cases h2:kJ b xs ys with
    |none=>simp[h1,h2]at h
    |some d2=>
     simp only[h1,h2,aD]at h;rw[<-h,i1 _ _ h1,i2 _ _ h2];cases b<;>rfl
  |_=>simp[kJ]at h
 |sl t c l=>
  intro y d h;cases y with
  |sl t' c' l'=>
   simp only[kJ]at h
   split at h
   ·rename_i e;subst e;simp only[aD]at h;rw[<-h];cases b<;>rfl
   ·cases h
  |_=>simp[kJ]at h
 |arr t n l=>
  intro y d h;cases y with
  |arr t' n' l'=>
   simp only[kJ]at h
   split at h
   ·rename_i e;subst e
    split at h
    ·rename_i e;subst e;simp only[aD]at h;rw[<-h];cases b<;>rfl
    ·cases h
   ·cases h
  |_=>simp[kJ]at h
 |cH ds i=>
  intro y d h;cases y with
  |cH es=>cases ds<;>cases es<;>simp[kJ]at h;rw[<-h];cases b<;>rfl
  |_=>cases ds<;>simp[kJ]at h
 |int k n=>
  intro y d h;cases y with
  |int k' n'=>
   simp only[kJ]at h
   split at h
   ·rename_i e;subst e;simp only[aD]at h;rw[<-h];cases b<;>rfl
   ·cases h
  |_=>simp[kJ]at h
 |_=>intro y d h;cases y<;>simp[kJ]at h<;>rw[<-h]<;>cases b<;>rfl
theorem QB2{X:Cx}{nx:Nat}{lim:eL}{b:Bool}{x y d:D C}{v:Value}(h:tq b x y=some d)(hx:RO T X nx lim (bif b then x else y) v):RO T X nx lim d v:=by
 have key:d=.top\/kJ b x y=some d:=by
  unfold tq at h
  split at h
  ·left;simpa using h.symm
  ·left;simpa using h.symm
  ·right;exact h
 rcases key with rfl|key
 ·exact RO.mk (RV.top _ _ _) rfl
 ·rw[QB1 _ _ _ key];exact hx
theorem pG{b:Bool}{x y env:Env C}{t:Nat}:∀{l:bU} {r:Env C},qv b x y l=some r->(l.any (Nat.beq t)=true/\tq b (c8 x t) (c8 y t)=some (c8 (r++env) t))\/(l.any (Nat.beq t)=false/\c8 (r++env) t=c8 env t)
 |[],r,h=>by simp[qv]at h;subst h;exact .inr ⟨rfl,rfl⟩
 |u::l,r,h=>by
  simp only[qv]at h;cases h1:tq b (c8 x u) (c8 y u)with
  |none=>simp[h1]at h
  |some d=>
   cases h2:qv b x y l with
   |none=>simp[h1,h2]at h
   |some r'=>
    simp only[h1,h2,aD]at h;subst h;rw[aP,QP]
    by_cases hu:t=u
    ·subst hu;left;simp[h1]
    ·have hb:Nat.beq t u=false:=by cases hq:Nat.beq t u with
      |false=>rfl
      |true=>exact(hu (az hq)).elim
     simp only[hu,aL,List.any_cons,hb,Bool.false_or];exact pG h2
theorem qu(m:gH)(env:Env C)(b:Bool)(p q:Pg C (Ev.X×Env C)) :
 vA m env b p q=.br b p q\/∃l x y r,p=.ret (.normal,x)/\q=.ret (.normal,y)/\qv b x y l=some r/\m=some l/\vA m env b p q=.ret (.normal,r++env):=by
 unfold vA;cases m with
 |none=>exact .inl rfl
 |some l=>
  simp only
  split
  ·rename_i x y
   split
   ·rename_i r hr;exact .inr ⟨l,x,y,r,rfl,rfl,hr,rfl,rfl⟩
   ·exact .inl rfl
  ·exact .inl rfl
theorem CP{ro:dD}{Φ:jv C}{f nt:Nat}{c c1:Code}(h:JZ c=true\/ro=none/\∃fn body,Φ.fn f=some fn/\nt=fn.ntmps/\fn.body=some body/\∀b∈Zi c,b∈Zi body)(h1:JZ c=true->JZ c1=true)(h2:∀b∈Zi c1,b∈Zi c) :
 JZ c1=true\/ro=none/\∃fn body,Φ.fn f=some fn/\nt=fn.ntmps/\fn.body=some body/\∀b∈Zi c1,b∈Zi body:=by
 rcases h with h|⟨h,fn,body,h3,h4,h5,h6⟩
 ·exact .inl (h1 h)
 ·exact .inr ⟨h,fn,body,h3,h4,h5,fun b hb=>h6 b (h2 b hb)⟩
def Hu(P:Program)(T:fA C)(Φ:jv C)(n:Nat):Prop:=∀ro m f nt code,(JZ code=true\/ro=none/\∃fn body,Φ.fn f=some fn/\nt=fn.ntmps/\fn.body=some body/\∀b∈Zi code,b∈Zi body)->YV nt code=true->∀B,xB B code ->
 ∀X h nx lim e env x dj h' cM tr a Q,G T X h nx lim->QE T X nx lim env a.tmps->cM<=lim.top->nt<=a.tmps.size->Ex e (kl T Φ n f code env) h nx (x,dj) h' cM tr->D6 T B X nx lim h' cM dj a (Q (uC x))->code.wpIn (oh ro) m P Q a X.w
def XM(P:Program)(T:fA C)(Φ:jv C)(n:Nat):Prop:=∀f fn body b,Φ.fn f=some fn->fn.body=some body->YV fn.ntmps (.loop b)=true->(∀b'∈Zi (.loop b),b'∈Zi body)->Φ.loop f (QF b)=none->∀B,xB B b ->
 ∀X h nx lim e env x dj h' cM tr a Q,G T X h nx lim->QE T X nx lim env a.tmps->cM<=lim.top->fn.ntmps<=a.tmps.size->Ex e (kl T Φ n f (.loop b) env) h nx (x,dj) h' cM tr->D6 T B X nx lim h' cM dj a (Q (uC x))->Code.rounds P b Q n a X.w
variable (K:Zq P T)(F:Qj P T Φ)
def Ta(P:Program)(T:fA C)(call:FuncId->List (D C)->Pg C (D C)):Prop :=
 ∀f args vs X h nx lim e d h' cM tr,G T X h nx lim->iu T X args vs->(∀a∈args,∀id∈D.refs a,fL nx lim id)->cM<=lim.top->Ex e (call f args) h nx d h' cM tr ->
  (callFunc f ⟨vs⟩).run P X.w=.ok (.enter f ⟨vs⟩) X.w/\Calls P f ⟨vs⟩ X.w (ZZ T X nx lim h' cM d)
theorem Mr:∀(l:List (D C)) (n t:Nat),c8 (hY n l) t=if n<=t then l.getD (t-n) .top else .top:=by
 intro l
 induction l with
 |nil=>intro n t;simp[hY,c8]
 |cons d l ih=>
  intro n t;rw[hY,QP,ih]
  by_cases h1:t=n
  ·subst h1;simp
  ·by_cases h2:n<=t
   ·have h3:n+1<=t:=by omega
    have h4:t-n=(t-(n+1))+1:=by omega
    simp[h1,h2,h3,h4]
   ·have h3:¬n+1<=t:=by omega
    simp[h1,h2,h3]
theorem iu.get{X:Cx}{ds:List (D C)}{vs:bT}(h:iu T X ds vs):∀t,RV T X (ds.getD t .top) (vs.getD t undef):=by
 induction h with
 |nil=>intro t;simp;exact RV.top _ _ _
 |cons h _ ih=>intro t;cases t with
  |zero=>simpa using h
  |succ t=>simpa using ih t
theorem iu.wX{X X':Cx}{nx:Nat}{lim:eL}(L:Laws T)(s:Step X nx lim X'){ds:List (D C)}{vs:bT}(h:iu T X ds vs):(∀d∈ds,∀id∈D.refs d,fL nx lim id)->iu T X' ds vs:=by
 induction h with
 |nil=>intro _;exact .nil
 |cons h _ ih=>
  intro ho;exact .cons (RO.step L s (cM:=nx) ⟨h,ho _ (by simp)⟩ (aq _)).1 (ih fun d hd=>ho d (by simp[hd]))
def tC:List (D C)->D C
 |[]=>.cH .bN
 |[d]=>d
 |d::e::l=>.cH (D.ofList (d::e::l))
theorem QB3(f:FuncId)(n0:Nat)(env:Env C)(rs:List ResultVar):rH T Φ f n0 env rs =
 .bind (xl T env rs) fun l=>bif Φ.keeps f then .ret (tC l)else .bind (frz (tC l)) fun d=>.gc n0 d.refs (.ret d):=by
 unfold rH
 congr 1
 funext l
 match l with
 |[]=>rfl
 |[_]=>rfl
 |_::_::_=>rfl
theorem QB4{X:Cx}{nx:Nat}{lim:eL}:∀{l:List (D C)} {us:bT},iu T X l us->(∀d∈l,∀id∈D.refs d,fL nx lim id)->RO T X nx lim (tC l) (if h:us.toArray.size=1 then us.toArray[0]else .tuple us.toArray)
 |[],[],_,_=>RO.mk (.mk rfl (.cH .iV)) rfl
 |[d1],[u1],.cons r2 _,r3=>⟨r2,r3 d1 (by simp)⟩
 |d1::d2::l,u1::u2::us,r2,r3=>by
  refine⟨.mk rfl ?_,fun id dU=>?_⟩
  ·have gm:¬(u1::u2::us).toArray.size=1:=by simp
   simp only[gm,dif_neg,not_false_eq_true];exact .cH r2.row
  ·obtain⟨q,hq,hi⟩:=LF _ id (by simpa[D.refs,tC]using dU);exact r3 q hq id hi
include K F
theorem To{n:Nat}(hc:Hu P T Φ n):Ta P T (vP T Φ (kl T Φ n)):=by
 intro g args vs X h nx lim e d h' cM tr gg gY hrefs eA hx;unfold vP at hx;cases hf:Φ.fn g with
 |none=>simp only[hf]at hx;exact Ex.cI hx
 |some fn=>
  simp only[hf]at hx;cases hb:fn.body with
  |none=>simp only[hb]at hx;exact Ex.cI hx
  |some body=>
   simp only[hb]at hx;have hx:=Ex.oY hx;obtain⟨⟨x,eD⟩,h1,n1,t1,t2,q1,q2,_⟩:=Ex.bind hx;obtain⟨f1,f2,f3⟩:=F.fn g fn hf;have k8:=Ex.le q1;refine⟨?_,?_⟩
   ·simp only[callFunc,aG];show((match P.funcs[g]? with|none=>_|some fn=>_:Sem Next)).run P X.w=_;rw[f1];simp[f2,hb]
   ·refine(callsIn_wide (n:=0)).1 (callsIn_of_wp_marks f1 hb trivial (hc none 0 g fn.ntmps body (.inr ⟨rfl,fn,body,hf,rfl,hb,fun b hb=>hb⟩) (f3 body hb) (fun _=>false) (fun _ _=>rfl) X h nx lim e (hY 0 args) x eD h1 n1 t1 _ _ gg ?_ ?_ ?_ q1 ?_))
    ·intro t;rw[Mr];simp only[aK,aU,Nat.sub_zero];refine⟨?_,?_⟩
     ·have:=gY.get t
      by_cases ht:t<vs.length
      ·have e1:((⟨vs⟩:b7)++Array.replicate (fn.ntmps-(⟨vs⟩:b7).size) undef).getD t undef=vs.getD t undef:=by
        simp[Array.getD_eq_getD_getElem?,Array.getElem?_append,ht]
       rw[e1];exact this
      ·have:args.getD t .top=.top:=by
        have:=gY.length;simp[ar];rw[bc (by omega)];rfl
       rw[this];exact RV.top _ _ _
     ·by_cases ht:t<args.length
      ·have:args.getD t .top∈args:=by
        simp[ar,ht]
       exact hrefs _ this
      ·have:args.getD t .top=.top:=by
        simp[ar];rw[bc (by omega)];rfl
       rw[this];simp[D.refs]
    ·have:=Ex.le q2;omega
    ·simp;omega
    ·intro a' XX gg0 ss0 ee0 _ Pa _;obtain⟨rs,Fc,lC,wM⟩:=Pa;rw[aR]at Fc;have hall:∀X0,G T X0 h1 n1 lim->Step X nx lim X0->QE T X0 n1 lim eD a'.tmps->Ex e (.bind (wa T eD (Φ.rest g)) fun _=>rH T Φ g nx eD fn.results.toList) h1 n1 d h' cM t2->∃v,(results fn a'.tmps).run P X0.w=.ok v X0.w/\ZZ T X nx lim h' cM d (.returned v) X0.w:=?hall
     case hall=>
      intro X0 g0 s0 e0;intro q2;obtain⟨d9,h9,n9,t9,t8,q9,q2,_⟩:=Ex.bind q2;obtain⟨X1,w1,g1,s9,Py⟩:=GF K _ g0 q9;have Py:=Py.symm;subst Py;have s1:=s0.trans s9 k8;have e1:=e0.step K.base s9 (aq _);rw[<-w1];clear q9 g0 s0 e0;generalize h9=h1 at g1 q2;generalize t8=t2 at q2
      have l8:Ex e (rH T Φ g nx eD fn.results.toList) h1 n1 d h' cM t2->∃v,(results fn a'.tmps).run P X1.w=.ok v X1.w/\ZZ T X nx lim h' cM d (.returned v) X1.w:=by
       intro q2;rw[QB3]at q2;obtain⟨l,h2,n2,t3,t4,q3,q4,_⟩:=Ex.bind q2;obtain⟨e2,e3,us,r1,r2,r3⟩:=QoP K g1 e1 fn.results.toList q3;have e2:=e2.symm;have e3:=e3.symm;subst e2;subst e3
       have ez:(results fn a'.tmps).run P X1.w=.ok (if h:us.toArray.size=1 then us.toArray[0]else .tuple us.toArray) X1.w:=by
        have hm:fn.results.mapM (rJ a'.tmps)=List.toArray <$> fn.results.toList.mapM (rJ a'.tmps):=by rw[Array.mapM_eq_mapM_toList]
        have e0:results fn a'.tmps=(do let vs <-fn.results.mapM (rJ a'.tmps);pure (if h:vs.size=1 then vs[0]else .tuple vs)):=by
         unfold results
         congr 1
        rw[e0,hm];simp only[map_eq_pure_bind,bind_assoc,aG,r1,aA,aF,pure_bind]
       have EK:RO T X1 n1 lim (tC l) (if h:us.toArray.size=1 then us.toArray[0]else .tuple us.toArray):=QB4 r2 r3;generalize hvv:(if h:us.toArray.size=1 then us.toArray[0]else Value.tuple us.toArray)=vv at ez EK;cases hk:Φ.keeps g with
       |true=>
        simp only[hk,ag]at q4;obtain⟨c1,c2,c3,_⟩:=Ex.ret q4;rw[c1,c2,c3];exact⟨_,ez,_,X1,rfl,rfl,g1,s1,EK⟩
       |false=>
        simp only[hk,ah]at q4;obtain⟨d2,h3,n3,t5,t6,q5,q6,_⟩:=Ex.bind q4;obtain⟨_,q7⟩:=Ex.gc q6;obtain⟨c1,c2,c3,_⟩:=Ex.ret q7;rw[c1,c2,c3]
        have H8:∃X2,X2.w=X1.w/\G T X2 h3 n1 lim/\Step X1 n1 lim X2/\RV T X2 d2 vv/\n3=n1/\∀id∈d2.refs,fL n1 lim id:=by
         rcases EK.1 with⟨fU,cs,hr,hv⟩|⟨fU,hr⟩
         ·obtain⟨X2,a1,a2,a3,a4,a5,a6,a7⟩:=Cb K _ g1 hr EK.2 q5;exact⟨X2,a1,a2,a3,.inl ⟨a7.trans fU,cs,a4,hv⟩,a5,a6⟩
         ·obtain⟨X2,a1,a2,a3,a4,a5,a6,a7⟩:=Cb K _ g1 hr EK.2 q5;exact⟨X2,a1,a2,a3,.inr ⟨a7.trans fU,a4⟩,a5,a6⟩
        obtain⟨X2,a1,a2,a3,a4,a5,a6⟩:=H8;rw[a5];obtain⟨X3,b1,b2,b3,_⟩:=a2.drop K.base (h':=Heap.drop nx n1 d2.refs h3) (fun i=>by rw[VF];split<;>simp);exact⟨_,ez,_,X3,rfl,by rw[b1,a1],b2,(s1.trans a3 k8).trans b3 k8,RO.step K.base b3 ⟨a4,a6⟩ (aq _)⟩
      exact l8 q2
     have fin:Ex e (.bind (wa T eD (Φ.rest g)) fun _=>rH T Φ g nx eD fn.results.toList) h1 n1 d h' cM t2->LeavesInM Fence.wide 0 P fn a'.tmps (ZZ T X nx lim h' cM d) a'.defers .returning XX.w:=fun q2=>by
      rw[Fc];exact QhY K rs XX lC wM gg0 ss0 ee0 fun X' g' s' e'=>hall X' g' s' e' q2
     cases x with
     |normal=>exact fin q2
     |ret=>exact fin q2
     |exit id=>exact Ex.cI q2
omit K F in
theorem ZZ.since{X X':Cx}{nx cM:Nat}{lim:eL}{h':Heap C}{d:D C}{en:Ending}{w':World}(s:Step X nx lim X')(h:ZZ T X' nx lim h' cM d en w'):ZZ T X nx lim h' cM d en w':=by
 obtain⟨v,Y,h1,h2,h3,h4,h5⟩:=h;exact⟨v,Y,h1,h2,h3,s.trans h4 (aq _),h5⟩
omit K F in
theorem TE(E:Env C):∀(ps:bU) (xs:List (D C)) (t:Nat),t∉ps->c8 (n5 ps xs++E) t=c8 E t
 |[],_,_,_=>rfl
 |_::_,[],_,_=>rfl
 |p::ps,x::xs,t,h=>by
  simp only[aZ,not_or]at h;rw[n5,aP,QP,aw h.1];exact TE E ps xs t h.2
omit K F in
theorem XN(E:Env C)(t0:Nat)(x0:D C)(t:Nat)(h:t≠t0):∀A:Env C,c8 (A++(t0,x0)::E) t=c8 (A++E) t
 |[]=>by rw[aH,aH,QP,aw h]
 |(j,d)::A=>by rw[aP,aP,QP,QP,XN E t0 x0 t h A]
omit K F in
theorem QB5{nt t:Nat}{ps:bU}(h:ps.any (Nat.beq t)=false):t∉ps:=fun hm=>by
 have:ps.any (Nat.beq t)=true:=List.any_eq_true.2 ⟨t,hm,by simp⟩;rw[this]at h;cases h
omit K F in
theorem QB6{X:Cx}{nx:Nat}{lim:eL}{nt:Nat}:∀(ps:bU) (xs:List (D C)) (vs:bT) (E:Env C) (tm:b7),tA nt ps=true->nt<=tm.size->ps.length=xs.length->iu T X xs vs->(∀a∈xs,∀id∈D.refs a,fL nx lim id) ->
 (∀t,RO T X nx lim (c8 E t) (tm.getD t undef))->∀t,RO T X nx lim (c8 (n5 ps xs++E) t) (((ps.zip vs).foldl (fun(tmps:b7) (p:Nat×Value)=>tmps.setIfInBounds p.1 p.2) tm).getD t undef):=by
 intro ps
 induction ps with
 |nil=>intro xs vs E tm _ _ _ _ _ hE t;simpa[n5]using hE t
 |cons p ps ih=>
  intro xs vs E tm jk fN dc hr hx hE t;cases hr with
  |nil=>simp at dc
  | @cons x xs v vs hv hr=>
   simp only[tA,ai,Nat.blt_eq,Bool.not_eq_true']at jk;obtain⟨h1,h2,h3⟩:=jk;have hp:=QB5 (nt:=nt) h2
   have:=ih xs vs ((p,x)::E) (tm.setIfInBounds p v) h3 (by simpa using fN) (by simpa using dc) hr (fun a ha=>hx a (by simp[ha])) (fun u=>by
    rw[QP]
    by_cases hu:u=p
    ·subst hu;simp only[aU]
     have e:(tm.setIfInBounds u v).getD u undef=v:=by
      have:u<tm.size:=by omega
      simp[Array.getD_eq_getD_getElem?,this]
     rw[e];exact⟨hv,hx x (by simp)⟩
    ·simp only[hu,aL]
     have e:(tm.setIfInBounds p v).getD u undef=tm.getD u undef:=by
      simp[Array.getD_eq_getD_getElem?,Array.getElem?_setIfInBounds_ne (Ne.symm hu)]
     rw[e];exact hE u) t
   rw[List.zip_cons_cons,List.foldl_cons,n5,aP,QP]
   by_cases ht:t=p
   ·subst ht;rw[TE _ _ _ _ hp,QP,ax rfl]at this;rw[ax rfl];exact this
   ·rw[aw ht];rw[XN E p x t ht]at this;exact this
omit K F in
theorem U4{X:Cx}{nx:Nat}{lim:eL}{tm:b7}:∀(dW:bU) (ds:List (D C)),iu T X ds (dW.map fun t=>tm.getD t undef)->(∀a∈ds,∀id∈D.refs a,fL nx lim id)->∀t,RO T X nx lim (c8 (n5 dW ds) t) (tm.getD t undef)
 |[],ds,h,_,t=>RO.mk (RV.top _ _ _) rfl
 |s::dW,[],h,_,t=>RO.mk (RV.top _ _ _) rfl
 |s::dW,d::ds,h,hr,t=>by
  cases h with
  |cons hv h=>
   rw[n5,QP]
   by_cases e:t=s
   ·subst e;rw[ax rfl];exact⟨hv,hr d (by simp)⟩
   ·rw[aw e];exact U4 dW ds h (fun a ha=>hr a (by simp[ha])) t
omit K F in
theorem Ju:∀(l:eW) (tm:b7),(l.foldl (fun(tmps:b7) (p:Nat×Value)=>tmps.setIfInBounds p.1 p.2) tm).size=tm.size
 |[],_=>rfl
 |p::l,tm=>by rw[List.foldl_cons,Ju l];simp
omit K F in
theorem G.vr{X:Cx}{h:Heap C}{nx:Nat}{lim:eL}(g:G T X h nx lim){id l ex:Nat}{rec:Loop}{busy dn:Bool}(ho:h.get id=some (.ek (.lp busy dn ex)))(hρ:∀s,X.ρ id=some (.ek s)->s=.lp l rec) :
 X.ρ id=some (.ek (.lp l rec))/\∃pend,X.w.heap[l]? = some (.loop { rec with state:=oI busy dn,pending:=pend })/\(dn=false->pend=none)/\(dn=true->pend=some (.exit ex)):=by
 obtain⟨s,e1,e2⟩:=g.ek id _ ho;obtain rfl:=hρ s e1;exact⟨e1,e2⟩
omit F in
theorem QgF{n:Nat}(hc:Hu P T Φ n):QqV P T (uc T Φ (kl T Φ n)):=by
 intro nt dW ps jC body fC om xs l vs X h nx lim e d h' cM tr g hR Cz uk hxr eA hx;unfold uc at hx;have o9:Nat.beq Ve Ve=true:=by simp
 simp only[o9,ag,Sd]at hx;cases wI:(fC.eu&&xs.all D.eu)&&((Nat.beq xs.length ps.length&&tA nt ps)&&(Fx nt jC&&Fx nt body))with
 |false=>rw[wI]at hx;exact Ex.cI hx
 |true=>
  rw[wI]at hx;simp only[ag]at hx;simp only[ai,Fx]at wI;obtain⟨⟨oC,ng⟩,⟨dc,CH⟩,⟨OZ,qK⟩,⟨ye,uU⟩⟩:=wI;have dc:=az dc;obtain⟨o,la,ho,hx,_⟩:=Ex.rd hx;cases o with
  |var _ _=>exact Ex.cI hx
  |cj _ _ _=>exact Ex.cI hx
  |map _ _ _=>exact Ex.cI hx
  |ek cc=>
  cases cc with
  |it _ _ _=>exact Ex.cI hx
  |lp bz0 dn0 ex=>
  simp only at hx;cases hR with
  | @yl _ _ _ _ _ _ _ _ rec hw hs nK=>
   obtain⟨r5,hs4,hs5,yK⟩:=hs;subst hs4;subst hs5;obtain⟨hρ,aag,rn,_⟩:=g.vr ho hw;have wT:fL nx lim om:=Cz om (by simp[D.refs]);have Cz:∀i∈fC.refs,fL nx lim i:=fun i hi=>Cz i (by simp[D.refs,hi])
   have hlv:(⟨vs⟩:b7).size=rec.params.size:=by
    have h1:=uk.length;have h2:ps.length=rec.params.size:=by rw[<-r5];simp
    simp;omega
   have hy:=run_yield (P:=P) (args:=⟨vs⟩) rn hlv;refine⟨_,_,_,_,hy,fun m=>roundIn_of_wpIn trivial ?_⟩;obtain⟨⟨x1,eD⟩,h1,n1,t1,t2,q1,q2,_⟩:=Ex.bind hx;have k8:=Ex.le q1;have vd:=Ex.le q2;cases x1 with
   |exit id=>exact Ex.cI q2
   |ret=>exact Ex.cI q2
   |normal=>
    simp only at q2;obtain⟨o1,t5,pP,q2,_⟩:=Ex.rd q2;cases o1 with
    |var _ _=>exact Ex.cI q2
    |cj _ _ _=>exact Ex.cI q2
    |map _ _ _=>exact Ex.cI q2
    |ek cc=>
    cases cc with
    |it _ _ _=>exact Ex.cI q2
    |lp bz1 dn1 ex1=>
    simp only[Sc]at q2;rcases Ex.br q2 with⟨Ez,P8⟩|⟨_,q2⟩;rotate_left
    ·exact Ex.cI q2
    clear q2;simp only[ai,Bool.not_eq_true',Nat.beq_eq]at Ez;obtain⟨⟨rfl,rfl⟩,rfl⟩:=Ez;obtain⟨_,t6,_,q2,_⟩:=Ex.wr P8;obtain⟨⟨x2,fP⟩,h2,n2,t3,t4,q3,q4,_⟩:=Ex.bind q2;have aam:=Ex.le q3;have aan:=Ex.le q4;obtain⟨o2,t7,mJ,q4,_⟩:=Ex.rd q4;cases o2 with
    |var _ _=>exact Ex.cI q4
    |cj _ _ _=>exact Ex.cI q4
    |map _ _ _=>exact Ex.cI q4
    |ek cc=>
    cases cc with
    |it _ _ _=>exact Ex.cI q4
    |lp bz2 dn2 H4=>
    simp only[Sb]at q4;rcases Ex.br q4 with⟨EA,q4b⟩|⟨_,q4⟩;rotate_left
    ·exact Ex.cI q4
    clear q4;have q4:=q4b;clear q4b;simp only[ai,Bool.not_eq_true',Nat.beq_eq]at EA;obtain⟨⟨rfl,rfl⟩,rfl⟩:=EA
    have Ep:((rec.params.zip ⟨vs⟩).foldl (fun(tmps:b7) (x:Nat×Value)=>match x with|(t,a)=>tmps.setIfInBounds t a) rec.tmps)=(ps.zip vs).foldl (fun(tmps:b7) (p:Nat×Value)=>tmps.setIfInBounds p.1 p.2) rec.tmps:=by
     rw[<-Array.foldl_toList,Array.toList_zip,r5]
    simp only;rw[Ep];refine hc (some l) m 0 nt rec.assign (.inl qK) OZ (fun _=>false) (fun _ _=>rfl) X h nx lim e _ .normal eD h1 n1 t1 _ _ g ?_ (by omega) ?_ q1 ?_
    ·exact QB6 ps xs vs _ rec.tmps CH yK dc.symm uk hxr (U4 dW fC.toList (nK.toList T rfl) (fun a ha id dU=>Cz id (J7 fC a ha id dU)))
    ·show nt<=((ps.zip vs).foldl _ rec.tmps).size;rw[Ju];exact yK
    ·intro a1 X1 g1 s1 e1 z1 _ _
     have pD:∀s,X1.ρ om=some (.ek s)->s=.lp l rec:=fun s hq=>by
      have:=s1.ρ om wT;rw[hρ,hq]at this
      simpa[Qo]using this
     obtain⟨qn,aah,EC,E9,_⟩:=g1.vr pP pD;obtain rfl:=E9 rfl;obtain⟨X1',w1',r1',OV,s1'⟩:=G.tM K.base (busy:=true) (dn:=false) (ex:=H4) (pend:=none) g1 pP qn EC (fun _ _ _ h=>by cases h) ⟨fun _=>rfl,fun h=>by cases h⟩;refine⟨X1'.w,(run_beginRound EC rfl).trans ?_,?_⟩
     ·rw[w1'];rfl
     refine hc (some l) m 0 nt rec.body (.inl uU) ye (fun _=>false) (fun _ _=>rfl) X1' _ n1 lim e eD x2 fP h2 n2 t3 a1 _ OV (QE.step K.base s1' e1 (aq _)) (by omega) ?_ q3 ?_
     ·have:((ps.zip vs).foldl (fun(tmps:b7) (p:Nat×Value)=>tmps.setIfInBounds p.1 p.2) rec.tmps).size=rec.tmps.size:=Ju _ _;rw[z1,this];exact yK
     ·intro a2 X2 g2 s2 e2 _ _ _;have eI:=(s1.trans s1' k8).trans s2 k8
      have s8:∀s,X2.ρ om=some (.ek s)->s=.lp l rec:=fun s hq=>by
       have:=eI.ρ om wT;rw[hρ,hq]at this
       simpa[Qo]using this
      obtain⟨pR,aai,sD,hp3,_⟩:=g2.vr mJ s8;obtain rfl:=hp3 rfl;cases x2 with
      |ret=>exact Ex.cI q4
      |normal=>
       obtain⟨_,t8,_,q4,_⟩:=Ex.wr q4;obtain⟨rfl,rfl,rfl,rfl⟩:=Ex.ret q4;obtain⟨X3,w3,r3,g3,s3⟩:=G.tM K.base (busy:=false) (dn:=false) (ex:=H4) (pend:=none) g2 mJ pR sD (fun _ _ _ h=>by cases h) ⟨fun _=>rfl,fun h=>by cases h⟩;refine⟨.bool true,X3.w,(run_endRound none sD).trans ?_,?_⟩
       ·rw[w3];rfl
       exact⟨_,X3,rfl,rfl,g3,eI.trans s3 (by omega),RO.mk (.mk rfl (.bool true)) rfl⟩
      |exit i=>
       simp only at q4;cases hi:Nat.beq i H4 with
       |false=>rw[hi]at q4;exact Ex.cI q4
       |true=>
       rw[hi]at q4;simp only[ag]at q4;obtain rfl:=az hi;obtain⟨_,t8,_,q4,_⟩:=Ex.wr q4;obtain⟨rfl,rfl,rfl,rfl⟩:=Ex.ret q4;obtain⟨X3,w3,r3,g3,s3⟩:=G.tM K.base (busy:=false) (dn:=true) (ex:=i) (pend:=some (.exit i)) g2 mJ pR sD (fun _ _ _ h=>by cases h) ⟨fun h=>(by cases h),fun _=>rfl⟩;refine⟨.bool false,X3.w,(run_endRound (some (.exit i)) sD).trans ?_,?_⟩
       ·rw[w3];rfl
       exact⟨_,X3,rfl,rfl,g3,eI.trans s3 (by omega),RO.mk (.mk rfl (.bool false)) rfl⟩
theorem TF{n:Nat}(hc:Hu P T Φ n):uu P T (uc T Φ (kl T Φ n)):=by
 refine⟨QgF K hc,?_⟩;intro g hgy args vs X h nx lim e d h' cM tr gg gY hrefs eA hx;unfold uc at hx
 have o9:Nat.beq g Ve=false:=by
  cases h:Nat.beq g Ve with
  |false=>rfl
  |true=>exact absurd (az h) hgy
 simp only[o9,ah]at hx;cases qP:Φ.jJ g with
 |some s=>
  simp only[qP]at hx;obtain⟨u,h1,n1,t1,t2,q1,q2,_⟩:=Ex.bind hx;obtain⟨X1,w1,g1,s1,oC⟩:=GF K _ gg q1;subst oC;have:=F.jJ g s qP args vs X1 h1 n1 lim e d h' cM t2 g1 (gY.wX K.base s1 hrefs) hrefs eA q2;rw[w1]at this;exact⟨this.1,this.2.mono fun en w2 hp=>ZZ.since s1 hp⟩
 |none=>
 simp only[qP]at hx;cases hs:Φ.spec g with
 |some s=>
  simp only[hs]at hx;cases hle:Φ.qt g with
  |true=>
   simp only[hle,ag]at hx;obtain⟨iJ,h1,n1,t1,t2,q1,fW,_⟩:=Ex.bind hx;clear hx;obtain⟨rfl,rfl,kk⟩:=XL K args gg gY q1;cases yL:s iJ with
   |none=>rw[yL]at fW;exact Ex.cI fW
   |some bd=>
    obtain⟨b,d0⟩:=bd;rw[yL]at fW;simp only at fW;cases rY:d0.plain&&iJ.all D.eu with
    |false=>rw[rY]at fW;exact Ex.cI fW
    |true=>
     rw[rY]at fW;simp only[ai]at rY;rcases Ex.br fW with⟨rfl,fW⟩|⟨rfl,fW⟩
     ·obtain⟨rfl,rfl,rfl,_⟩:=Ex.ret fW;obtain⟨rZ,hB⟩:=F.spec g s iJ _ hs yL;obtain⟨c1,c2⟩:=hB X.w X.O vs gg.outs (fun p hp=>(gg.pre p hp).1) (kk rZ fun a ha=>aX.1 rY.2 a ha);refine⟨c1,c2.mono fun en w' wP=>?_⟩;obtain⟨v,ρ,rfl,r,hd,a1,a2,a3,a4,a5,a6⟩:=wP;obtain⟨g',s'⟩:=gg.grow K.base w' a1 a2 a3 a4 a5 a6;exact⟨v,⟨w',X.ρ,X.O⟩,rfl,rfl,g',s',r.plain rY.1,by rw[hd.1];simp⟩
     ·exact Ex.cI fW
  |false=>
  simp only[hle,ah]at hx;obtain⟨iJ,h1,n1,t1,t2,q1,fW,_⟩:=Ex.bind hx;clear hx;obtain⟨X',w',g',s',r',hn,rZ⟩:=QqP K args gg gY hrefs q1;subst hn;cases yL:s iJ with
  |none=>rw[yL]at fW;exact Ex.cI fW
  |some bd=>
   obtain⟨b,d0⟩:=bd;rw[yL]at fW
   have fW:b=true/\∃t3,Ex e (.ret d0) h1 n1 d h' cM t3:=by
    cases ht:Φ.total g with
    |false=>
     simp only[ht,ah]at fW;rcases Ex.br fW with⟨rfl,fW⟩|⟨rfl,fW⟩
     ·exact⟨rfl,_,fW⟩
     ·exact Ex.cI fW
    |true=>
     simp only[ht,ag]at fW;cases b with
     |true=>exact⟨rfl,_,fW⟩
     |false=>exact Ex.cI fW
   obtain⟨rfl,t3,fW⟩:=fW;obtain⟨rfl,rfl,rfl,_⟩:=Ex.ret fW;obtain⟨PH,hB⟩:=F.spec g s iJ _ hs yL;have:=hB.call K PH g' r';rw[w']at this;exact⟨this.1,this.2.mono fun en w1 hp=>ZZ.since s' hp⟩
 |none=>
  simp only[hs]at hx;exact To K F hc g args vs X h nx lim e d h' cM tr gg gY hrefs eA hx
theorem G4:∀n,Hu P T Φ n/\XM P T Φ n:=by
 intro n
 induction n with
 |zero=>
  refine⟨?_,?_⟩
  ·intro ro m f nt code _ _ B _ X h nx lim e env x dj h' cM tr a Q _ _ _ _ hx;exact Ex.cI hx
  ·intro f fn body b _ _ _ _ _ B _ X h nx lim e env x dj h' cM tr a Q _ _ _ _ hx;exact Ex.cI hx
 |succ n ih=>
  obtain⟨wU,ihR⟩:=ih;have ia:=TF K F wU
  have hR:XM P T Φ (n+1):=by
   intro f fn body b hf hb nH hl mu B hB X h nx lim e env x dj h' cM tr a Q g he eA fN hx hk;simp only[kl,II,mu]at hx;obtain⟨⟨x1,eD⟩,h1,n1,t1,t2,q1,q2,_⟩:=Ex.bind hx;have hle:=Ex.le q2;have k8:=Ex.le q1;rw[rounds_succ];refine(wpIn_wide (n:=0)).1 (wU none 0 f fn.ntmps b (.inr ⟨rfl,fn,body,hf,rfl,hb,fun b' jV=>hl b' (by simp[Zi,jV])⟩) (by simpa[YV]using nH) B hB X h nx lim e env x1 eD h1 n1 t1 a _ g he (by omega) fN q1 ?_);intro a1 X1 g1 s1 e1 lQ mI mW;cases x1 with
   |normal=>
    simp only[HP]at q2;exact ihR f fn body b hf hb nH hl mu B hB X1 h1 n1 lim e eD x dj h' cM t2 a1 Q g1 e1 eA (by omega) q2 fun a2 X2 g2 s2 e2 lR oA P0=>hk a2 X2 g2 (s1.trans s2 k8) e2 (by omega) (mI.trans s1 s2 oA) (mW.trans P0)
   |exit id=>
    obtain⟨kh,rfl,rfl,rfl⟩:=Ex.ret q2;obtain⟨rfl,rfl⟩:=Prod.mk.inj kh;exact hk a1 X1 g1 s1 e1 lQ mI mW
   |ret=>
    obtain⟨kh,rfl,rfl,rfl⟩:=Ex.ret q2;obtain⟨rfl,rfl⟩:=Prod.mk.inj kh;exact hk a1 X1 g1 s1 e1 lQ mI mW
  refine⟨?_,hR⟩;intro ro m f nt code iH nH B hB X h nx lim e env x dj h' cM tr a Q g he eA fN hx hk
  have done:∀x0,Ex e (.ret (x0,env):Pg C (Ev.X×Env C)) h nx (x,dj) h' cM tr->Q (uC x0) a X.w:=by
   intro x0 hx;obtain⟨kh,rfl,rfl,rfl⟩:=Ex.ret hx;obtain⟨rfl,rfl⟩:=Prod.mk.inj kh;exact hk a X g (.refl _ _ _) he rfl (.refl _ _ _) (.refl _ _)
  cases code with
  |skip=>exact wpIn_skip (done _ hx)
  |label l=>exact wpIn_label (done _ hx)
  |ret=>exact wpIn_ret (done _ hx)
  |exit id=>exact wpIn_exit (done _ hx)
  |region id ops draw=>
   simp only[kl]at hx;simp only[YV,ai]at nH;have EN:∀o∈ops.toList,∀t,o.dst=some t->t<a.tmps.size:=fun o ho t ht=>bj (Mp nH.1 o ho t ht) fN;have hBo:∀o∈ops.toList,∀t,o.dst=some t->B t=false:=fun o ho t ht=>hB t (by simp only[g8,List.mem_filterMap];exact⟨o,ho,ht⟩);cases draw with
   |true=>
    simp only[ag]at hx;obtain⟨_,h0,n0,t8,t9,q0,hx,_⟩:=Ex.bind hx;obtain⟨X0,w0,g0,s0,wN⟩:=GF K _ g q0;have wN:=wN.symm;subst wN;simp only[S9]at hx;have hx:=Ex.oY hx;obtain⟨eD,h1,n1,t1,t2,q1,q2,_⟩:=Ex.bind hx;obtain⟨kh,rfl,rfl,rfl⟩:=Ex.ret q2;obtain⟨rfl,rfl⟩:=Prod.mk.inj kh;have hle:=Ex.le q1;rw[<-w0];exact QBZ K ia hBo K.order (QoR (by simpa using nH.2)) g0 (he.step K.base s0 (aq _)) eA EN q1 fun a' X' g' s' e' pB uX vo=>hk a' X' g' (s0.trans s' (aq _)) e' pB (.of_eq uX) vo
   |false=>
    simp only[ah,FA]at hx;obtain⟨eD,h1,n1,t1,t2,q1,q2,_⟩:=Ex.bind hx;obtain⟨kh,rfl,rfl,rfl⟩:=Ex.ret q2;obtain⟨rfl,rfl⟩:=Prod.mk.inj kh;refine wpIn_region ?_;rw[List.range_eq_range'];have:=XK (ro:=ro) (m:=m) K ia hBo ops.toList 0 rfl g he eA EN q1 (Q:=Q) (fun a' X' g' s' e' pB uX vo=>hk a' X' g' s' e' pB (.of_eq uX) vo)
    simpa using this
  |seq c1 c2=>
   simp only[kl]at hx;simp only[YV,ai]at nH;obtain⟨⟨x1,eD⟩,h1,n1,t1,t2,q1,q2,_⟩:=Ex.bind hx;have hle:=Ex.le q2;have k8:=Ex.le q1;refine wpIn_seq (wU ro m f nt c1 (CP iH (fun h=>by simp only[JZ,ai]at h;exact h.1) (fun b hb=>by simp[Zi,hb])) nH.1 B (fun t ht=>hB t (by simp[g8,ht])) X h nx lim e env x1 eD h1 n1 t1 a _ g he (by omega) fN q1 ?_);intro a1 X1 g1 s1 e1 lQ mI mW;cases x1 with
   |normal=>
    simp only[HP]at q2;exact wU ro m f nt c2 (CP iH (fun h=>by simp only[JZ,ai]at h;exact h.2) (fun b hb=>by simp[Zi,hb])) nH.2 B (fun t ht=>hB t (by simp[g8,ht])) X1 h1 n1 lim e eD x dj h' cM t2 a1 Q g1 e1 eA (by omega) q2 fun a2 X2 g2 s2 e2 lR oA P0=>hk a2 X2 g2 (s1.trans s2 k8) e2 (by omega) (mI.trans s1 s2 oA) (mW.trans P0)
   |exit id=>
    obtain⟨kh,rfl,rfl,rfl⟩:=Ex.ret q2;obtain⟨rfl,rfl⟩:=Prod.mk.inj kh;exact hk a1 X1 g1 s1 e1 lQ mI mW
   |ret=>
    obtain⟨kh,rfl,rfl,rfl⟩:=Ex.ret q2;obtain⟨rfl,rfl⟩:=Prod.mk.inj kh;exact hk a1 X1 g1 s1 e1 lQ mI mW
  |cond c c1 c2=>
   simp only[kl,S8]at hx;simp only[YV,ai]at nH
   have FI:∀(b:Bool) (fe:Env C) (x0:Ev.X) (eD:Env C) (oS:Tr) (B':Nat->Bool),(∀t∈g8 c1++g8 c2,B' t=false)->QE T X nx lim fe a.tmps->a.eval c=.bool b->Ex e (kl T Φ n f (if b then c1 else c2) fe) h nx (x0,eD) h' cM oS ->
    D6 T B' X nx lim h' cM eD a (Q (uC x0))->(Code.cond c c1 c2).wpIn (oh ro) m P Q a X.w:=by
    intro b fe x0 eD oS B' hB' Pc Cw lS sP;refine wpIn_cond Cw (wU ro m f nt _ ?_ ?_ B' (fun t ht=>hB' t (by cases b<;>simp at ht ⊢ <;>simp[ht])) X h nx lim e fe x0 eD h' cM oS a Q g Pc eA fN lS sP)
    ·exact CP iH (fun h=>by simp only[JZ,ai]at h;cases b<;>simp[h.1,h.2]) (fun b' jV=>by cases b<;>simp[Zi]at jV ⊢ <;>simp[jV])
    ·cases b<;>simp[nH.1,nH.2]
   have side:∀(b:Bool) (fe:Env C),QE T X nx lim fe a.tmps->a.eval c=.bool b->Ex e (kl T Φ n f (if b then c1 else c2) fe) h nx (x,dj) h' cM tr->(Code.cond c c1 c2).wpIn (oh ro) m P Q a X.w:=by
    intro b fe Pc Cw lS;refine wpIn_cond Cw (wU ro m f nt _ ?_ ?_ B (fun t ht=>hB t (by cases b<;>simp[g8]at ht ⊢ <;>simp[ht])) X h nx lim e fe x dj h' cM tr a Q g Pc eA fN lS hk)
    ·exact CP iH (fun h=>by simp only[JZ,ai]at h;cases b<;>simp[h.1,h.2]) (fun b' jV=>by cases b<;>simp[Zi]at jV ⊢ <;>simp[jV])
    ·cases b<;>simp[nH.1,nH.2]
   cases c with
   |tmp t=>
    simp only at hx;have het:=he t;generalize hq:c8 env t=q at hx het;cases q with
    |bool b=>
     simp only at hx;have hv:a.eval (.tmp t)=.bool b:=het.1.bool;rcases qu (bif lh Φ c1&&lh Φ c2 then some (g8 c1++g8 c2)else none) env b (kl T Φ n f c1 ((t,.bool true)::env)) (kl T Φ n f c2 ((t,.bool false)::env))with hm|⟨l,x1,y1,r,E9,PE,hr,hml,hm⟩
     ·rw[hm]at hx;rcases Ex.br hx with⟨rfl,hx⟩|⟨rfl,hx⟩
      ·exact side true _ (he.lX hq) hv hx
      ·exact side false _ (he.lX hq) hv hx
     ·rw[hm]at hx;obtain⟨kh,rfl,rfl,rfl⟩:=Ex.ret hx;obtain⟨rfl,rfl⟩:=Prod.mk.inj kh
      have nR:l=g8 c1++g8 c2:=by
       cases wP:lh Φ c1&&lh Φ c2 with
       |false=>simp[wP]at hml
       |true=>simpa[wP]using hml.symm
      have dX:Ex e (kl T Φ n f (if b then c1 else c2) ((t,.bool b)::env)) h' cM (.normal,bif b then x1 else y1) h' cM []:=by
       cases b with
       |true=>simp only[aU,E9];simp[Ex,Pg.run]
       |false=>simp only[bu,aL,PE];simp[Ex,Pg.run]
      refine FI b ((t,.bool b)::env) .normal (bif b then x1 else y1) [] (fun u=>B u || !(l.any (Nat.beq u))) (fun u hu=>?_) (he.lX hq) hv dX ?_
      ·have h1:l.any (Nat.beq u)=true:=List.any_eq_true.2 ⟨u,by rw[nR];exact hu,by simp⟩;have h2:B u=false:=hB u (by simpa[g8]using hu);simp only[h1,h2];rfl
      ·intro a1 X1 g1 s1 e1 lQ mI mW;refine hk a1 X1 g1 s1 (fun u=>?_) lQ mI (fun u hu=>mW u (by simp[hu]));rcases pG (t:=u) (env:=env) hr with⟨h1,h2⟩|⟨h1,h2⟩
       ·refine QB2 h2 ?_;have:=e1 u;cases b<;>simpa using this
       ·rw[h2,mW u (by simp only[h1];simp)];exact(he u).step K.base s1 (aq _)
    |_=>exact Ex.cI hx
   |const v=>
    cases v with
    |bool b=>
     simp only at hx;rcases Ex.br hx with⟨rfl,hx⟩|⟨rfl,hx⟩
     ·exact side true _ he rfl hx
     ·exact side false _ he rfl hx
    |_=>exact Ex.cI hx
   |global q=>exact Ex.cI hx
   |func q=>exact Ex.cI hx
  |scope c=>
   simp only[kl]at hx;refine QoQ (wU ro m f nt c (CP iH (fun h=>by simp[JZ]at h) (fun b hb=>by simpa[Zi]using hb)) (by simpa[YV]using nH) B (fun t ht=>hB t (by simpa[g8]using ht)) X h nx lim e env x dj h' cM tr a _ g he eA fN hx ?_);intro a1 X1 g1 s1 e1 lQ mI mW;cases x<;>exact hk a1 X1 g1 s1 e1 lQ mI mW
  |block id c=>
   simp only[kl]at hx;obtain⟨⟨x1,eD⟩,h1,n1,t1,t2,q1,q2,_⟩:=Ex.bind hx;have hle:=Ex.le q2;refine wpIn_block (wU ro m f nt c (CP iH (fun h=>by simpa[JZ]using h) (fun b hb=>by simpa[Zi]using hb)) (by simpa[YV]using nH) B (fun t ht=>hB t (by simpa[g8]using ht)) X h nx lim e env x1 eD h1 n1 t1 a _ g he (by omega) fN q1 ?_);intro a1 X1 g1 s1 e1 lQ mI mW;cases x1 with
   |normal=>
    obtain⟨kh,rfl,rfl,rfl⟩:=Ex.ret q2;obtain⟨rfl,rfl⟩:=Prod.mk.inj kh;exact hk a1 X1 g1 s1 e1 lQ mI mW
   |exit i=>
    simp only[Xz]at q2;show(if i=id then Q .normal a1 X1.w else Q (.exit i) a1 X1.w);cases hi:Nat.beq i id with
    |true=>
     simp only[hi,ag]at q2;obtain⟨kh,rfl,rfl,rfl⟩:=Ex.ret q2;obtain⟨rfl,rfl⟩:=Prod.mk.inj kh;have:i=id:=az hi;simp only[this,aU];exact hk a1 X1 g1 s1 e1 lQ mI mW
    |false=>
     simp only[hi,ah]at q2;obtain⟨kh,rfl,rfl,rfl⟩:=Ex.ret q2;obtain⟨rfl,rfl⟩:=Prod.mk.inj kh;have:i≠id:=Nat.ne_of_beq_eq_false hi;simp only[this,aL];exact hk a1 X1 g1 s1 e1 lQ mI mW
   |ret=>
    obtain⟨kh,rfl,rfl,rfl⟩:=Ex.ret q2;obtain⟨rfl,rfl⟩:=Prod.mk.inj kh;exact hk a1 X1 g1 s1 e1 lQ mI mW
  |loop c=>
   obtain⟨rfl,fn,body,hf,rfl,hb,hl⟩:=iH.resolve_left (by simp[JZ]);refine wpIn_wide.2 ?_;cases hs:Φ.loop f (QF c)with
   |none=>exact wp_loop_rounds (n+1) (hR f fn body c hf hb nH hl hs B (fun t ht=>hB t (by simpa[g8]using ht)) X h nx lim e env x dj h' cM tr a Q g he eA fN hx hk)
   |some s=>
    simp only[kl,II,hs]at hx;obtain⟨⟨x1,eD⟩,h1,n1,t1,t2,q1,q2,_⟩:=Ex.bind hx;obtain⟨kh,rfl,rfl,_⟩:=Ex.ret q2;obtain⟨rfl,rfl⟩:=Prod.mk.inj kh;have k8:=Ex.le q1;refine F.loop f fn body c s hf hb (hl c (by simp[Zi])) hs (fun t=>B t || !((g8 c).any (Nat.beq t))) (fun t ht=>?_) X h nx lim e env x eD h' cM t1 a Q g he eA fN q1 ?_
    ·have h1:(g8 c).any (Nat.beq t)=true:=List.any_eq_true.2 ⟨t,ht,by simp⟩;have h2:B t=false:=hB t (by simpa[g8]using ht);simp only[h1,h2];rfl
    ·intro a1 X1 g1 s1 e1 lQ mI mW;refine hk a1 X1 g1 s1 (fun t=>?_) lQ mI (fun t ht=>mW t (by simp[ht]));rcases pt eD (my (g8 c) env) t with h1|h1
     ·rw[h1];exact e1 t
     ·rw[h1];cases hq:(g8 c).any (Nat.beq t)with
      |true=>rw[MK hq];exact RO.mk (RV.top _ _ _) rfl
      |false=>
       rw[Mq hq,mW t (by simp only[hq];simp)];exact(he t).step K.base s1 k8
  |rangeFunc gq ps jC jj=>
   obtain⟨rfl,fn,body,hf,rfl,hb,hl⟩:=iH.resolve_left (by simp[JZ]);simp only[kl,Sf,hf]at hx;have eM:=Q1 he gq;generalize hq:iD env gq=q at hx eM;cases q with
   |fn pN fC=>
    simp only at hx;cases o9:Nat.beq pN Ve with
    |true=>rw[o9]at hx;exact Ex.cI hx
    |false=>
     rw[o9]at hx;have kw:pN≠Ve:=fun e=>by rw[e]at o9;simp at o9
     simp only[ah]at hx;obtain⟨tn0,hx,_⟩:=Ex.nw hx;obtain⟨d0,h1,n1,t1,t2,q1,q2,_⟩:=Ex.bind hx;have k8:=Ex.le q1;have vd:=Ex.le q2;obtain⟨o2,t3,mJ,q2,_⟩:=Ex.rd q2;cases o2 with
     |var _ _=>exact Ex.cI q2
     |cj _ _ _=>exact Ex.cI q2
     |map _ _ _=>exact Ex.cI q2
     |ek cc=>
     cases cc with
     |it _ _ _=>exact Ex.cI q2
     |lp bz dn H4=>
     simp only[Se]at q2;rcases Ex.br q2 with⟨hbz,P8⟩|⟨_,q2⟩;rotate_left
     ·exact Ex.cI q2
     clear q2;simp only[ai,Bool.not_eq_true',Nat.beq_eq]at hbz;obtain⟨rfl,dX⟩:=hbz;obtain⟨_,t4,_,q2,_⟩:=Ex.dl P8
     have EP:(x,dj)=(if dn then .exit (ud jj)else .normal,env)/\h'=h1.del nx/\cM=n1:=by
      rcases Ex.br q2 with⟨rfl,q2⟩|⟨rfl,q2⟩<;>obtain⟨e1,e2,e3,_⟩:=Ex.ret q2<;>exact⟨e1,e2,e3⟩
     obtain⟨kh,rfl,rfl⟩:=EP;obtain⟨rfl,rfl⟩:=Prod.mk.inj kh;have hR:=eM.1.one rfl;generalize hv:a.eval gq=vf at hR eM;cases hR with
     | @fn _ _ wF hcv=>
      refine wpIn_rangeFunc ?_;intro OS _;rw[QqU];obtain⟨rc,Fa⟩:∃rc:Loop,rc={ state:=.ready,pending:=none,fn:=OS,tmps:=a.tmps,params:=ps,assign:=jC,body:=jj,defers:=X.w.heap.size }:=⟨_,rfl⟩;have CN:(X.w.alloc (.deferred (some []))).heap.size=X.w.heap.size+1:=by simp
      obtain⟨g0,s0⟩:=g.grow K.base (X.w.alloc (.deferred (some []))) (by omega) (fun k hk=>RowKit.Below.heap_alloc _ _ k hk) rfl rfl rfl (fun q hq=>TD (RowKit.Below.heap_alloc _ _ _ hq));obtain⟨X1,w1,O1,ρ1,g1,s1⟩:=G.Fv K.base g0 (by omega) rc (ud jj) (by rw[Fa]) (by rw[Fa]);simp only at w1 O1 ρ1;rw[CN]at ρ1;have Rc:=s0.trans s1 (aq _)
      have Ew:X1.w.heap[X.w.heap.size]? = some (.deferred (some [])):=by
       rw[w1];exact(RowKit.Below.heap_alloc _ _ _ (by simp)).trans (World.alloc_heap_new X.w _)
      have PY:X1.w.heap.size=X.w.heap.size+2:=by rw[w1];simp
      have hys:R T X1 false (.yl fn.ntmps (vQ (Js jC++Js jj) dj) ps.toList jC jj (D.ofList ((vQ (Js jC++Js jj) dj).map (c8 dj))) nx) [.func (.yield (X.w.heap.size+1)) #[] #[]]:=by
       refine .yl (rec:=rc) (fun s hq=>?_) (by rw[Fa];exact⟨rfl,rfl,rfl,fN⟩) ?_
       ·rw[ρ1]at hq;cases hq;rfl
       rw[Fa]
       have:∀sl:bU,iu T X1 (sl.map (c8 dj)) (sl.map fun t=>a.tmps.getD t undef):=by
        intro sl
        induction sl with
        |nil=>exact .nil
        |cons t sl ih=>exact .cons ((he t).step K.base Rc (aq _)).1 ih
       exact(this _).row T
      have gY:iu T X1 (.yl fn.ntmps (vQ (Js jC++Js jj) dj) ps.toList jC jj (D.ofList ((vQ (Js jC++Js jj) dj).map (c8 dj))) nx::fC.toList) (.func (.yield (X.w.heap.size+1)) #[] #[]::wF):=
       .cons (.inr ⟨rfl,hys⟩) ((hcv.toList T rfl).wX K.base Rc (fun q hq id dU=>eM.2 id (by simpa[D.refs]using J7 fC q hq id dU)))
      have hrefs:∀q∈(.yl fn.ntmps (vQ (Js jC++Js jj) dj) ps.toList jC jj (D.ofList ((vQ (Js jC++Js jj) dj).map (c8 dj))) nx::fC.toList:List (D C)),∀id∈D.refs q,fL (nx+1) lim id:=by
       intro q hq id dU;rcases aZ.1 hq with rfl|hq
       ·simp only[D.refs,aT,bE]at dU;rcases dU with dU|rfl
        ·obtain⟨q2,CI,hi⟩:=LF _ id dU;obtain⟨t,_,rfl⟩:=List.mem_map.1 CI;exact((he t).2 id hi).mono (by omega)
        ·exact g0.new (by omega)
       ·exact(eM.2 id (by simpa[D.refs]using J7 fC q hq id dU)).mono (by omega)
      obtain⟨c1,c2⟩:=ia.2 pN kw _ _ X1 _ (nx+1) lim e d0 h1 cM t1 g1 gY hrefs (by omega) q1;refine⟨X.w.heap.size+1,[DW X.w.heap.size],X1.w,{ target:=.fn (.func pN) ⟨wF⟩,args := #[.func (.yield (X.w.heap.size+1)) #[] #[]] },X1.w,pN,⟨.func (.yield (X.w.heap.size+1)) #[] #[]::wF⟩,X1.w,?_,?_,?_,?_,Ht,?_⟩
      ·rw[w1,Fa];exact run_enterLoop_outer _ _ _ _ _
      ·simp only[resolve,hv];simp[go_sem]
      ·intro f' _;exact oM none f'
      ·have e2:(#[.func (.yield (X.w.heap.size+1)) #[] #[]]:b7)++⟨wF⟩=⟨.func (.yield (X.w.heap.size+1)) #[] #[]::wF⟩:=by apply Array.ext';simp
       simp only[invoke,e2];exact c1
      ·refine XF (c2.mono fun en w2 hp=>?_);obtain⟨v,X2,rfl,rfl,g2,s2,r2⟩:=hp;have s02:=Rc.trans s2 (Nat.le_succ _)
       have s8:∀s,X2.ρ nx=some (.ek s)->s=.lp (X.w.heap.size+1) rc:=fun s hq=>by
        have:=s2.ρ nx (g0.new (by omega));rw[ρ1,hq]at this
        simpa[Qo]using this
       obtain⟨pR,pend,uU,E9,PE⟩:=g2.vr mJ s8;obtain⟨X3,w3,g3,s3,m9⟩:=G.drop K.base g2 (h':=h1.del nx) (fun j=>by rw[Zp];by_cases hj:j=nx<;>simp[hj])
       have vg:∀o,¬X3.dI (X.w.heap.size+1) o:=by
        rintro o ⟨j,q,z1,z2⟩
        have:=g2.apart j nx q _ (X.w.heap.size+1) o 0 (m9 j q z1) pR z2 rfl;subst this;have:=g3.kg j q z1;rw[Zp]at this;simp at this
       have sD:X3.w.heap[X.w.heap.size+1]? = some (.loop { rc with state:=oI false dn,pending:=pend }):=by rw[w3];exact uU
       have tn:xH X3 (X.w.heap.size+1) (X3.w.putObj (X.w.heap.size+1) (.loop { { rc with state:=oI false dn,pending:=pend }with state:=.exhausted })):=T4 sD (fun c t f h=>by cases h) vg;have sJ:=run_endLoop (P:=P) sD (by cases dn<;>simp[oI]);obtain⟨W4,hW4⟩:∃W4,X3.w.putObj (X.w.heap.size+1) (.loop { { rc with state:=oI false dn,pending:=pend }with state:=.exhausted })=W4:=⟨_,rfl⟩;rw[hW4]at sJ tn;rw[w3]at sJ;refine⟨pend,W4,sJ,?_⟩;have s3:=(s02.trans s3 (by omega)).pL tn (by omega)
       have fin:Q (uC (if dn then .exit (ud jj)else .normal)) { a with defers:=DW X.w.heap.size::a.defers } W4:=by
        refine hk { a with defers:=DW X.w.heap.size::a.defers } ⟨W4,X3.ρ,X3.O⟩ (g3.pL K.base tn) s3 (QE.step K.base s3 he (by omega)) rfl ⟨[X.w.heap.size],rfl,by simp,fun r hr=>?_⟩ (.refl _ _);obtain rfl:r=X.w.heap.size:=by simpa using hr
        have PB:∀o,¬X3.dI X.w.heap.size o:=fun o ho=>by
         have h5:X2.dI X.w.heap.size o:=by
          obtain⟨j,q,z1,z2⟩:=ho;exact⟨j,q,m9 j q z1,z2⟩
         have h6:=s2.dI _ o (by omega) h5;rcases g1.mg h6 with⟨_,_,_,e⟩|⟨_,_,e⟩|⟨_,e⟩|⟨_,_,_,_,e⟩<;>rw[e]at Ew<;>cases Ew
        refine⟨aq _,?_,PB⟩
        have h7:∀o,¬X1.dI X.w.heap.size o:=fun o ho=>by
         rcases g1.mg ho with⟨_,_,_,e⟩|⟨_,_,e⟩|⟨_,e⟩|⟨_,_,_,_,e⟩<;>rw[e]at Ew<;>cases Ew
        exact((tn.block _ (by omega)).trans (by rw[w3];exact s2.block _ (by omega) h7)).trans Ew
       cases dn with
       |false=>obtain rfl:=E9 rfl;exact fin
       |true=>
        obtain rfl:=PE rfl;subst dX;exact wpIn_exit fin
   |_=>exact Ex.cI hx
  |_=>exact Ex.cI hx
theorem XO(n:Nat):Ta P T (vP T Φ (kl T Φ n)):=To K F (G4 K F n).1
theorem QB7(n:Nat):uu P T (uc T Φ (kl T Φ n)):=TF K F (G4 K F n).1
end
section
variable {C:ij}{P:Program}{T:fA C}{Φ:jv C}
open Pg (Ex)
theorem Sk{n:Nat}{f:FuncId}{args:List (D C)}{d:D C}(h:eU T Φ n f args=some d):∃h' cM tr,Ex (0,0) (vP T Φ (kl T Φ n) f args) [] 0 d h' cM tr/\d.refs=[]/\d.eu=true:=by
 unfold eU at h;obtain⟨a,h',n',t,h1,h2⟩:=Pg.fK h;cases hb:a.refs.isEmpty&&a.eu with
 |false=>simp[hb]at h2
 |true=>
  simp only[hb,ag,aD]at h2;subst h2;rw[ai]at hb;exact⟨h',n',t,h1,List.isEmpty_iff.1 hb.1,hb.2⟩
def eQ(n:Nat):eL:=⟨0,n,fun _=>False,fun _ _ _ h=>h⟩
theorem G.start(w:World)(O:Nat->Nat->Prop)(hO:∀b o,O b o->b<w.heap.size)(hp:∀p∈T.pre,∃t f,w.heap[p.1]? = some (.cells p.2 t f))(n:Nat):G T ⟨w,fun _=>none,O⟩ [] 0 (eQ n) where
 var id t d h:=by simp[Heap.get]at h
 cj id t dM l h:=by simp[Heap.get]at h
 map id ck cv l h:=by simp[Heap.get]at h
 ek id c h:=by simp[Heap.get]at h
 kg id l h:=by simp at h
 eY id o h:=by simp[Heap.get]at h
 apart id ka l l' b o o' h:=by simp at h
 outer b o h:=by obtain⟨_,_,h,_⟩:=h;simp at h
 outs:=hO
 low:=aq _
 pre p h:=⟨hp p h,fun o ⟨_,_,hq,_⟩=>by simp at hq⟩
variable (K:Zq P T)(F:Qj P T Φ)
include K F
theorem UT{n:Nat}{f:FuncId}{args:List (D C)}{d:D C}(h:eU T Φ n f args=some d)(gY:∀a∈args,D.refs a=[])(w:World)(O:Nat->Nat->Prop)(hO:∀b o,O b o->b<w.heap.size)(hp:∀p∈T.pre,∃t f,w.heap[p.1]? = some (.cells p.2 t f)){vs:bT}
 (nV:iu T ⟨w,fun _=>none,O⟩ args vs):(callFunc f ⟨vs⟩).run P w=.ok (.enter f ⟨vs⟩) w/\Calls P f ⟨vs⟩ w fun en w'=>
  ∃v ρ,en=.returned v/\RV T ⟨w',ρ,O⟩ d v/\w.heap.size<=w'.heap.size/\(∀b,b<w.heap.size->w'.heap[b]? = w.heap[b]?)/\w'.os=w.os/\w'.tape=w.tape/\w'.output=w.output/\(∀a:Addr,a.block<w.heap.size->w'.frozen? a=w.frozen? a):=by
 obtain⟨h',cM,tr,hx,hd,_⟩:=Sk h;have g:=G.start (T:=T) w O hO hp cM;obtain⟨q1,q2⟩:=XO K F n f args vs _ _ _ _ _ _ _ _ _ g nV (fun a ha id dU=>by rw[gY a ha]at dU;simp at dU) (aq _) hx;refine⟨q1,q2.mono fun en w' hp=>?_⟩;obtain⟨v,X',rfl,rfl,g',s',r'⟩:=hp;have uT:X'.O=O:=s'.O;refine⟨v,X'.ρ,rfl,?_,s'.size,fun b hb=>s'.block b hb (fun o hm=>by obtain⟨_,_,hq,_⟩:=hm;simp at hq),s'.os,s'.tape,s'.output,s'.frz⟩;rw[<-uT];exact r'.1
theorem XP{n:Nat}{f:FuncId}{args:List (D C)}{d:D C}(h:eU T Φ n f args=some d)(gY:∀a∈args,D.refs a=[]):KE P T f args d:=by
 intro w O vs hO hp nV;have hd:d.refs=[]/\d.eu=true:=by obtain⟨_,_,_,_,hd⟩:=Sk h;exact hd
 obtain⟨q1,q2⟩:=UT K F h gY w O hO hp nV;refine⟨q1,q2.mono fun en w' wP=>?_⟩;obtain⟨v,ρ,rfl,r,a1,a2,a3,a4,a5,a6⟩:=wP;exact⟨v,ρ,rfl,r,hd,a1,a2,a3,a4,a5,a6⟩
end
inductive Tree(α:Type) where
 |nil
 |node (k:Nat) (a:α) (l r:Tree α)
namespace Tree
variable {α:Type}
def get(u:Nat):Tree α->Option α
 |.nil=>none
 |.node k a l r=>bif Nat.blt u k then l.get u else bif Nat.blt k u then r.get u else some a
def all(p:Nat->α->Bool):Tree α->Bool
 |.nil=>true
 |.node k a l r=>p k a&&l.all p&&r.all p
theorem mS{p:Nat->α->Bool}{u:Nat}{a:α}:∀{t:Tree α},t.all p=true->t.get u=some a->p u a=true
 |.nil,_,h=>by simp[get]at h
 |.node k b l r,h,hg=>by
  simp only[all,ai]at h;simp only[get]at hg;cases h1:Nat.blt u k with
  |true=>rw[h1]at hg;exact mS h.1.2 hg
  |false=>
   rw[h1]at hg;cases h2:Nat.blt k u with
   |true=>rw[h2]at hg;exact mS h.2 hg
   |false=>
    rw[h2]at hg;simp only[ah,aD]at hg;have e1:¬u<k:=by rw[<-Nat.blt_eq,h1];simp
    have e2:¬k<u:=by rw[<-Nat.blt_eq,h2];simp
    obtain rfl:u=k:=by omega
    rw[<-hg];exact h.1.1
end Tree
section
variable {C:ij}
structure Row(C:ij) where
 (g:GT C)(size bytes:Nat)(zero:Option (D C))
structure It(C:ij) where
 (enc:(t:C.Ty)->C.A t->D C)(dec:(t:C.Ty)->D C->Option (C.A t))(fh:(t:C.Ty)->C.A t)(dG:C.Ty->TypeId)(sy:(t:C.Ty)->C.A t->C.A t->dH)(um:(t:C.Ty)->Option (List (C.A t)->bK))(kD:(t:C.Ty)->Option (bK->List (C.A t)))
def Vg(cd:It C)(t:Tree (Row C))(pre:fE:=[])(settle:TypeId->Bool:=fun _=>true):fA C where
 ty u:=match t.get u with|some r=>r.g|none=>.none
 size u:=match t.get u with|some r=>r.size|none=>0
 bytes u:=match t.get u with|some r=>r.bytes|none=>0
 enc:=cd.enc
 dec:=cd.dec
 fh:=cd.fh
 dG:=cd.dG
 sy:=cd.sy
 zero u:=match t.get u with|some r=>r.zero|none=>none
 um:=cd.um
 kD:=cd.kD
 pre:=pre
 settle:=settle
def Eu:GT C->GT C->Bool
 |.bool,.bool |.str,.str |.fn,.fn=>true
 |.int k,.int k'=>decide (k=k')
 |.struct a fs,.struct a' OT=>a==a'&&fs==OT
 |.arr n e t,.arr n' e' t'=>Nat.beq n n'&&Nat.beq e e'&&decide (t=t')
 |.sl e t,.sl e' t'=>Nat.beq e e'&&decide (t=t')
 |.ptr e,.ptr e'=>Nat.beq e e'
 |.fY e,.fY e'=>Nat.beq e e'
 |.map k v ck cv,.map k' v' ly kM=>Nat.beq k k'&&Nat.beq v v'&&decide (ck=ly)&&decide (cv=kM)
 |_,_=>false
theorem NS{a b:GT C}(h:Eu a b=true):a=b:=by
 cases a<;>cases b<;>simp_all[Eu]
variable (P:Program)(T:fA C)
def FV{t:C.Ty}(f:D C->bT->fQ):List (C.A t)->bT->fQ
 |[],cs=>some cs
 |x::l,cs=>match f (T.enc t x) cs with
  |some r=>FV f l r
  |none=>none
def zR:Nat->D C->bT->fQ
 |0,_,_=>none
 |n+1,d,cs=>match d,cs with
  |.bool b,.bool b'::r=>bif b==b' then some r else none
  |.int k m,.int k' m'::r=>bif decide (k=k')&&m==m'&&decide (k.min<=m)&&decide (m<=k.max)then some r else none
  |.str s,.string s'::r=>bif s==s'.data.toList then some r else none
  |.bN,cs=>some cs
  |.bI d ds,cs=>match zR n d cs with
   |some r=>zR n ds r
   |none=>none
  |.arr t m l,cs=>bif Nat.beq m l.length then FV T (zR n) l cs else none
  |.eO,.slice none 0 0::r=>some r
  |.sl _ _ [],.slice none 0 0::r=>some r
  |.fw,.pointer none::r=>some r
  |.cD,.nilFunc::r=>some r
  |.gz,.map none::r=>some r
  |_,_=>none
variable {P T}
theorem Sl{X:Cx}{t:C.Ty}{f:D C->bT->fQ}(hf:∀d cs r,f d cs=some r->∃c1,cs=c1++r/\R T X false d c1):∀(l:List (C.A t)) (cs r:bT),FV T f l cs=some r->∃c1,cs=c1++r/\R T X false (.arr t l.length l) c1
 |[],cs,r,h=>by simp[FV]at h;exact⟨[],by simp[h],.iK _⟩
 |x::l,cs,r,h=>by
  simp only[FV]at h;cases hq:f (T.enc t x) cs with
  |none=>simp[hq]at h
  |some r1=>
   simp only[hq]at h;obtain⟨c1,e1,k1⟩:=hf _ _ _ hq;obtain⟨c2,e2,k2⟩:=Sl hf l r1 r h;exact⟨c1++c2,by rw[e1,e2,ay],.jz k1 k2⟩
theorem QFz{X:Cx}:∀(n:Nat) (d:D C) (cs r:bT),zR T n d cs=some r->∃c1,cs=c1++r/\R T X false d c1:=by
 intro n
 induction n with
 |zero=>intro d cs r h;simp[zR]at h
 |succ n ih=>
  intro d cs r h;unfold zR at h
  split at h
  ·rename_i b b' q;cases hb:(b==b')with
   |false=>simp[hb]at h
   |true=>simp[hb]at h;subst h;have:=eq_of_beq hb;subst this;exact⟨[.bool b],rfl,.bool b⟩
  ·rename_i k m k' m' q;cases hb:(decide (k=k')&&m==m'&&decide (k.min<=m)&&decide (m<=k.max))with
   |false=>simp[hb]at h
   |true=>
    simp only[hb,ag,aD]at h;subst h;simp only[ai,aa,bi]at hb;obtain⟨⟨⟨rfl,rfl⟩,h1⟩,h2⟩:=hb;exact⟨[.int k m],rfl,.int ⟨h1,h2⟩⟩
  ·rename_i s s' q;cases hb:(s==s'.data.toList)with
   |false=>simp[hb]at h
   |true=>
    simp only[hb,ag,aD]at h;subst h;have:=eq_of_beq hb;subst this;exact⟨[.string s'],rfl,.str _⟩
  ·simp at h;exact⟨[],by simp[h],.bN⟩
  ·rename_i d ds;cases hq:zR T n d cs with
   |none=>simp[hq]at h
   |some r1=>
    simp only[hq]at h;obtain⟨c1,e1,k1⟩:=ih _ _ _ hq;obtain⟨c2,e2,k2⟩:=ih _ _ _ h;exact⟨c1++c2,by rw[e1,e2,ay],.bI k1 k2⟩
  ·rename_i t m l;cases hb:Nat.beq m l.length with
   |false=>simp[hb]at h
   |true=>
    simp only[hb,ag]at h;have:=az hb;subst this;exact Sl ih l _ _ h
  ·simp at h;subst h;exact⟨[.slice none 0 0],rfl,.eO⟩
  ·simp at h;subst h;exact⟨[.slice none 0 0],rfl,.li _ _ _⟩
  ·simp at h;subst h;exact⟨[.pointer none],rfl,.fw⟩
  ·simp at h;subst h;exact⟨[.nilFunc],rfl,.cD⟩
  ·simp at h;subst h;exact⟨[.map none],rfl,.gz⟩
  ·simp at h
variable (P T)
def zB(d:D C)(cs:bT):Bool:=match zR T 50 d cs with
 |some []=>true
 |_=>false
variable {P T}
theorem HS{d:D C}{cs:bT}(h:zB T d cs=true)(X:Cx):R T X false d cs:=by
 unfold zB at h
 split at h
 ·rename_i hq;obtain⟨c1,e1,k1⟩:=QFz (X:=X) _ _ _ _ hq;simp at e1;rw[e1];exact k1
 ·cases h
variable (P T)
def v7(e:TypeId)(t:C.Ty):Bool :=
 Eu (T.ty e) (T.ty (T.dG t))&&Nat.beq (T.size e) (T.size (T.dG t))&&match P.info? e with
 |some i=>Nat.beq i.size (T.size e)&&Nat.beq i.bytes (T.bytes e)&&Nat.blt 0 (T.bytes e)&&Nat.blt 0 (T.size e)&&match i.zero with
  |some z=>Nat.beq z.cells.size (T.size e)&&zB T (T.enc t (T.fh t)) z.cells.toList
  |none=>false
 |none=>false
def Cj:List Field->Nat->Bool
 |[],_=>true
 |f::fs,n=>Nat.beq f.offset n&&Cj fs (n+T.size f.type)
def tB(e:TypeId):Bool:=(match T.ty e with |.struct _ _=>false |.arr _ _ _=>false |.none=>false|_=>true)&&match P.info? e with
 |some i=>Nat.beq i.size 1&&(match i.zero with|some z=>Nat.beq z.cells.size 1&&Nat.ble i.bytes 1024|none=>false)
 |none=>false
def tl(k v:TypeId)(ck cv:C.Ty):Bool:=Eu (T.ty k) (T.ty (T.dG ck))&&Eu (T.ty v) (T.ty (T.dG cv))&&(match T.ty k with |.int _=>true |.str=>true |.bool=>true|_=>false)&&match P.info? v with
 |some i=>(match i.zero with|some (.agg cs)=>(T.enc cv (T.fh cv)).dA&&zB T (T.enc cv (T.fh cv)) cs.toList|some z=>!(T.enc cv (T.fh cv)).dA&&zB T (T.enc cv (T.fh cv)) [z]|none=>false)
 |none=>false
def ZT(u:TypeId)(g:GT C)(size:Nat):Bool:=match g,P.underlying u with
 |.bool,some .bool=>Nat.beq size 1
 |.int k,some (.int k')=>decide (k=k')&&Nat.beq size 1
 |.str,some .string=>Nat.beq size 1
 | .struct false fs,some (.struct db)=>(db.toList.map (·.type) == fs) && Nat.beq size (Zl T fs) && Cj T db.toList 0 && !P.stoodInHeld u && !P.eqGuardType P.depth u && db.toList.all (fun f=>f.name != "_") &&
  fs.all (fun f=>match P.info? f with|some i=>Nat.beq i.size (T.size f)&&Nat.blt 0 (T.size f)|none=>false)
 |.struct true fs,some (.array n e)=>Nat.beq fs.length n&&(fs==List.replicate fs.length e)&&Nat.blt 0 fs.length&&Nat.beq size (Zl T fs)&&(match P.info? e with|some i=>Nat.beq i.size (T.size e)|none=>false)
 |.arr n e t,some (.array n' e')=>Nat.beq n n'&&Nat.beq e e' && !P.eqGuardType P.depth u&&Nat.beq size (n*T.size e)&&v7 P T e t
 |.sl e t,some (.slice e')=>Nat.beq e e'&&Nat.beq size 1&&v7 P T e t
 |.ptr e,some (.pointer e')=>Nat.beq e e'&&Nat.beq size 1
 |.fn,some (.func _ _ _)=>Nat.beq size 1
 |.fY e,some (.slice e')=>Nat.beq e e'&&Nat.beq size 1&&tB P T e
 |.map k v ck cv,some (.map k' v')=>Nat.beq k k'&&Nat.beq v v'&&Nat.beq size 1&&tl P T k v ck cv
 |_,_=>false
def tJ(u:TypeId)(r:Row C):Bool :=
 Nat.blt 0 r.size&&(match P.info? u with
  |some i=>Nat.beq i.size r.size&&(match r.zero with
   |none=>true
   |some z=>match i.zero with
    |some v=>z.refs.isEmpty&&zB T z v.cells.toList
    |none=>false)
  |none=>false)&&ZT P T u r.g r.size
variable {P T}
theorem Ul:∀(fs:List Field) (n:Nat),Cj T fs n=true->∀(i:Nat) (f:Field),fs[i]? = some f->f.offset=n+Zl T ((fs.map (·.type)).take i)
 |[],n,h,i,f,hf=>by simp at hf
 |g::fs,n,h,i,f,hf=>by
  simp only[Cj,ai]at h;cases i with
  |zero=>simp at hf;subst hf;simp[Zl,az h.1]
  |succ i=>
   have:=Ul fs _ h.2 i f (by simpa using hf);rw[this];simp[Zl];omega
theorem FW{e:TypeId}{t:C.Ty}(h:v7 P T e t=true):(T.ty e=T.ty (T.dG t)/\T.size e=T.size (T.dG t))/\∃i z,P.info? e=some i/\i.size=T.size e/\i.bytes=T.bytes e/\0<T.bytes e/\0<T.size e/\i.zero=some z/\z.cells.size=T.size e /\
 ∀X,R T X false (T.enc t (T.fh t)) z.cells.toList:=by
 simp only[v7,ai]at h;obtain⟨⟨h1,h2⟩,h3⟩:=h;refine⟨⟨NS h1,az h2⟩,?_⟩;cases hi:P.info? e with
 |none=>simp[hi]at h3
 |some i=>
  simp only[hi,ai]at h3;obtain⟨⟨⟨⟨a1,a2⟩,a3⟩,a4⟩,a5⟩:=h3;cases hz:i.zero with
  |none=>simp[hz]at a5
  |some z=>
   simp only[hz,ai]at a5;exact⟨i,z,rfl,az a1,az a2,by simpa[Nat.blt_eq]using a3,by simpa[Nat.blt_eq]using a4,hz,az a5.1,HS a5.2⟩
theorem Qq2{e:TypeId}(h:tB P T e=true):(∀d,cZ T d (.inl e)=true->d.dA=false)/\∃i z,P.info? e=some i/\i.size=1/\i.zero=some z/\z.cells.size=1/\i.bytes<=1024:=by
 simp only[tB,ai]at h;obtain⟨h1,h2⟩:=h;refine⟨fun d hf=>?_,?_⟩
 ·cases hd:T.ty e<;>simp[hd]at h1<;>cases d<;>simp_all[cZ,D.dA]
 ·cases hi:P.info? e with
  |none=>simp[hi]at h2
  |some i=>
   simp only[hi,ai]at h2;cases hz:i.zero with
   |none=>simp[hz]at h2
   |some z=>simp only[hz,ai]at h2;exact⟨i,z,rfl,az h2.1,hz,az h2.2.1,Nat.le_of_ble_eq_true h2.2.2⟩
theorem Qq3{k v:TypeId}{ck cv:C.Ty}(h:tl P T k v ck cv=true):T.ty k=T.ty (T.dG ck)/\T.ty v=T.ty (T.dG cv)/\((∃ik,T.ty k=.int ik)\/T.ty k=.str\/T.ty k=.bool) /\
 ∃i z,P.info? v=some i/\i.zero=some z/\∀X,RV T X (T.enc cv (T.fh cv)) z:=by
 simp only[tl,ai]at h;obtain⟨⟨⟨h1,h2⟩,h3⟩,h4⟩:=h;refine⟨NS h1,NS h2,?_,?_⟩
 ·cases hd:T.ty k<;>simp[hd]at h3 ⊢
 ·cases hi:P.info? v with
  |none=>simp[hi]at h4
  |some i=>
   simp only[hi]at h4;cases hz:i.zero with
   |none=>simp[hz]at h4
   |some z=>
    refine⟨i,z,rfl,hz,fun X=>?_⟩;cases z with
    |agg cs=>
     simp only[hz,ai]at h4;exact .inl ⟨h4.1,cs.toList,HS h4.2 X,by simp⟩
    |_=>
     simp only[hz,ai,Bool.not_eq_true']at h4;exact .inr ⟨h4.1,HS h4.2 X⟩
theorem QEu{sz:Nat}{u:TypeId}(this:ZT P T u (.bool) sz=true):P.underlying u=some .bool/\sz=1:=by
 unfold ZT at this
 split at this<;>simp_all
theorem QFA{sz:Nat}{u:TypeId}{k:IntKind}(this:ZT P T u (.int k) sz=true):P.underlying u=some (.int k)/\sz=1:=by
 unfold ZT at this
 split at this<;>simp_all
theorem QFB{sz:Nat}{u:TypeId}(this:ZT P T u (.str) sz=true):P.underlying u=some .string/\sz=1:=by
 unfold ZT at this
 split at this<;>simp_all
theorem QFC{sz:Nat}{u e:TypeId}(this:ZT P T u (.ptr e) sz=true):P.underlying u=some (.pointer e)/\sz=1:=by
 unfold ZT at this
 split at this<;>simp_all
theorem Re{sz:Nat}{u:TypeId}(this:ZT P T u (.fn) sz=true):(∃a b c,P.underlying u=some (.func a b c))/\sz=1:=by
 unfold ZT at this
 split at this<;>simp_all
theorem QFD{sz:Nat}{u e:TypeId}(this:ZT P T u (.fY e) sz=true):P.underlying u=some (.slice e)/\sz=1/\tB P T e=true:=by
 unfold ZT at this
 split at this<;>simp_all
 obtain⟨⟨e1,_⟩,h⟩:=this;rw[<-e1];exact h
theorem QFE{sz:Nat}{u k v:TypeId}{ck cv:C.Ty}(this:ZT P T u (.map k v ck cv) sz=true):P.underlying u=some (.map k v)/\sz=1/\tl P T k v ck cv=true:=by
 unfold ZT at this
 split at this<;>simp_all
 obtain⟨⟨⟨e1,e2⟩,_⟩,h⟩:=this;rw[<-e1,<-e2];exact h
theorem QFF{sz:Nat}{u:TypeId}{n:Nat}{e:TypeId}{t:C.Ty}(this:ZT P T u (.arr n e t) sz=true):P.underlying u=some (.array n e)/\P.eqGuardType P.depth u=false/\sz=n*T.size e/\v7 P T e t=true:=by
 unfold ZT at this
 split at this<;>simp_all
 obtain⟨⟨⟨⟨_,e1⟩,_⟩,_⟩,h⟩:=this;rw[<-e1];exact h
theorem Ri{sz:Nat}{u e:TypeId}{t:C.Ty}(this:ZT P T u (.sl e t) sz=true):P.underlying u=some (.slice e)/\sz=1/\v7 P T e t=true:=by
 unfold ZT at this
 split at this<;>simp_all
 obtain⟨⟨e1,_⟩,h⟩:=this;rw[<-e1];exact h
theorem Rk{sz:Nat}{u:TypeId}{fs:cK}(this:ZT P T u (.struct false fs) sz=true):∃db:Array Field,P.underlying u=some (.struct db)/\db.toList.map (·.type)=fs/\sz=Zl T fs/\Cj T db.toList 0=true/\P.stoodInHeld u=false/\P.eqGuardType P.depth u=false /\
 (∀ f ∈ db.toList,f.name ≠ "_") /\ ∀ f ∈ fs,∃ i,P.info? f=some i /\ i.size=T.size f /\ 0 < T.size f:=by
 unfold ZT at this
 split at this
 case h_4 OT db e1 e2=>
  simp only[GT.struct.injEq,true_and]at e1;subst e1;simp only[ai,Bool.not_eq_true',aX]at this;obtain⟨⟨⟨⟨⟨⟨a1,a2⟩,a3⟩,a4⟩,a5⟩,a6⟩,a7⟩:=this;refine⟨db,e2,eq_of_beq a1,az a2,a3,a4,a5,fun f hf=>by simpa using a6 f hf,fun f hf=>?_⟩;have:=a7 f hf;cases hi:P.info? f with
  |none=>simp[hi]at this
  |some i=>simp only[hi,ai]at this;exact⟨i,rfl,az this.1,by simpa[Nat.blt_eq]using this.2⟩
 all_goals simp_all
theorem QFG{sz:Nat}{u:TypeId}{fs:cK}(this:ZT P T u (.struct true fs) sz=true):sz=Zl T fs/\∃e,P.underlying u=some (.array fs.length e)/\fs=List.replicate fs.length e/\0<fs.length/\∃i,P.info? e=some i/\i.size=T.size e:=by
 unfold ZT at this
 split at this
 case h_5 OT n e e1 e2=>
  simp only[GT.struct.injEq,true_and]at e1;subst e1;simp only[ai]at this;obtain⟨⟨⟨⟨a1,a2⟩,a3⟩,a4⟩,a5⟩:=this;have a1:=az a1;refine⟨az a4,e,by rw[e2,a1],eq_of_beq a2,by simpa[Nat.blt_eq]using a3,?_⟩;cases hi:P.info? e with
  |none=>simp[hi]at a5
  |some i=>simp only[hi]at a5;exact⟨i,rfl,az a5⟩
 all_goals simp_all
structure Tb(T:fA C):Prop where
 fI:∀t x,(T.enc t x).refs=[]
 gh:∀t x,cZ T (T.enc t x) (.inl (T.dG t))=true
 mH:∀X t d x cs,T.dec t d=some x->R T X false d cs->R T X false (T.enc t x) cs
 sy:∀t a b r,T.sy t a b=some r->o5 (T.enc t a) (T.enc t b)=some r
 um:∀t f l,T.um t=some f->bytesOf T l=some (f l)
 kD:∀t g l,T.kD t=some g->(g l).map (T.enc t)=l.map fun b=>.int .u8 (b.toNat:Int)
theorem QEw{cd:It C}{t:Tree (Row C)}{pre:fE}{settle:TypeId->Bool}(h:t.all (tJ P (Vg cd t pre settle))=true)(hc:Tb (Vg cd t pre settle))(ho:P.follows .mixedOrders=true):Zq P (Vg cd t pre settle):=by
 have row:∀u,(Vg cd t pre settle).ty u ≠ .none->∃r,t.get u=some r/\tJ P (Vg cd t pre settle) u r=true/\(Vg cd t pre settle).ty u=r.g/\(Vg cd t pre settle).size u=r.size/\(Vg cd t pre settle).zero u=r.zero:=by
  intro u hu;cases hg:t.get u with
  |none=>exact(hu (by simp[Vg,hg])).elim
  |some r=>exact⟨r,rfl,Tree.mS h hg,by simp[Vg,hg],by simp[Vg,hg],by simp[Vg,hg]⟩
 have shape:∀u,(Vg cd t pre settle).ty u ≠ .none->ZT P (Vg cd t pre settle) u ((Vg cd t pre settle).ty u) ((Vg cd t pre settle).size u)=true/\0<(Vg cd t pre settle).size u/\∃i,P.info? u=some i/\i.size=(Vg cd t pre settle).size u:=by
  intro u hu;obtain⟨r,_,h1,h2,h3,_⟩:=row u hu;simp only[tJ,ai]at h1;obtain⟨⟨a1,a2⟩,a3⟩:=h1;refine⟨by rw[h2,h3];exact a3,by rw[h3];simpa[Nat.blt_eq]using a1,?_⟩;cases hi:P.info? u with
  |none=>simp[hi]at a2
  |some i=>simp only[hi,ai]at a2;exact⟨i,rfl,by rw[h3];exact az a2.1⟩
 generalize hT:Vg cd t pre settle=T at *
 have sh:∀u g,T.ty u=g->g ≠ .none->ZT P T u g (T.size u)=true:=fun u g hg hn=>by have:=(shape u (by rw[hg];exact hn)).1;rw[hg]at this;exact this
 have xb:∀u,T.ty u=.bool->P.underlying u=some .bool/\T.size u=1:=fun u hu=>QEu (sh u _ hu (by simp));have FD:∀u k,T.ty u=.int k->P.underlying u=some (.int k)/\T.size u=1:=fun u k hu=>QFA (sh u _ hu (by simp));have FG:∀u,T.ty u=.str->P.underlying u=some .string/\T.size u=1:=fun u hu=>QFB (sh u _ hu (by simp));have FE:∀u e,T.ty u=.ptr e->P.underlying u=some (.pointer e)/\T.size u=1:=fun u k hu=>QFC (sh u _ hu (by simp));have sFn:∀u,T.ty u=.fn->(∃a b c,P.underlying u=some (.func a b c))/\T.size u=1:=fun u hu=>Re (sh u _ hu (by simp));have zb:∀u e,T.ty u=.fY e->P.underlying u=some (.slice e)/\T.size u=1/\tB P T e=true:=fun u e hu=>QFD (sh u _ hu (by simp));have zc:∀u k v ck cv,T.ty u=.map k v ck cv->P.underlying u=some (.map k v)/\T.size u=1/\tl P T k v ck cv=true:=fun u k v ck cv hu=>QFE (sh u _ hu (by simp));have za:∀u n e t,T.ty u=.arr n e t->P.underlying u=some (.array n e)/\P.eqGuardType P.depth u=false/\T.size u=n*T.size e/\v7 P T e t=true:=fun u n e t hu=>QFF (sh u _ hu (by simp));have Rh:∀u e t,T.ty u=.sl e t->P.underlying u=some (.slice e)/\T.size u=1/\v7 P T e t=true:=fun u e t hu=>Ri (sh u _ hu (by simp))
 have Rj:∀u fs,T.ty u=.struct false fs->∃db:Array Field,P.underlying u=some (.struct db)/\db.toList.map (·.type)=fs/\T.size u=Zl T fs/\Cj T db.toList 0=true/\P.stoodInHeld u=false/\P.eqGuardType P.depth u=false /\
  (∀ f ∈ db.toList,f.name ≠ "_") /\ ∀ f ∈ fs,∃ i,P.info? f=some i /\ i.size=T.size f /\ 0 < T.size f:=fun u fs hu=>Rk (sh u _ hu (by simp))
 have FF:∀u fs,T.ty u=.struct true fs->T.size u=Zl T fs/\∃e,P.underlying u=some (.array fs.length e)/\fs=List.replicate fs.length e/\0<fs.length/\∃i,P.info? e=some i/\i.size=T.size e:=fun u fs hu=>QFG (sh u _ hu (by simp))
 refine⟨⟨hc.fI,hc.gh,hc.mH,hc.um,hc.kD,?_,?_,?_,fun u hu=>(xb u hu).2,fun u k hu=>(FD u k hu).2,fun u hu=>(FG u hu).2,fun u e hu=>(FE u e hu).2,fun u hu=>(sFn u hu).2,fun u e hu=>(zb u e hu).2.1,fun u k v ck cv hu=>(zc u k v ck cv hu).2.1,fun u hu=>(shape u (fun h=>hu h)).2.1⟩,
  fun u hu=>(xb u hu).1,fun u k hu=>(FD u k hu).1,fun u hu=>(FG u hu).1,?_,?_,fun u fs hu=>(FF u fs hu).2,?_,fun u e t hu=>(Rh u e t hu).1,?_,fun u e hu=>⟨(zb u e hu).1,Qq2 (zb u e hu).2.2⟩,fun u k v ck cv hu=>⟨(zc u k v ck cv hu).1,Qq3 (zc u k v ck cv hu).2.2⟩,fun u e hu=>(FE u e hu).1,fun u hu=>(sFn u hu).1,?_,?_,hc.sy,ho⟩
 ·intro u a fs hu;cases a with
  |false=>obtain⟨_,_,_,h3,_⟩:=Rj u fs hu;exact h3
  |true=>exact(FF u fs hu).1
 ·intro u n e t hu;obtain⟨_,_,h3,h4⟩:=za u n e t hu;exact⟨h3,(FW h4).1⟩
 ·intro u e t hu;obtain⟨_,h3,h4⟩:=Rh u e t hu;exact⟨h3,(FW h4).1⟩
 ·intro u fs hu;obtain⟨db,h1,h2,_,h4,h5,h6,h7,_⟩:=Rj u fs hu;refine⟨db,h1,h2,fun i f hf=>?_,h5,h6,h7⟩;have:=Ul db.toList 0 h4 i f (by rw[Array.getElem?_toList];exact hf);rw[this,h2];simp
 ·intro u fs f hu hf;obtain⟨_,_,_,_,_,_,_,_,h8⟩:=Rj u fs hu;exact h8 f hf
 ·intro u n e t hu;obtain⟨h1,h2,_⟩:=za u n e t hu;exact⟨h1,h2⟩
 ·rintro u e t (⟨n,hu⟩|hu)
  ·exact(FW (za u n e t hu).2.2.2).2
  ·exact(FW (Rh u e t hu).2.2).2
 ·intro u d hf;refine(shape u (fun hn=>?_)).2.2;cases d<;>simp[cZ,hn]at hf
 ·intro u z hz;subst hT;cases hg:t.get u with
  |none=>simp[Vg,hg]at hz
  |some r=>
   have hr:=Tree.mS h hg;have PX:r.zero=some z:=by simpa[Vg,hg]using hz
   simp only[tJ,ai]at hr;obtain⟨⟨a1,a2⟩,a3⟩:=hr;cases hi:P.info? u with
   |none=>simp[hi]at a2
   |some i=>
    simp only[hi,ai,PX]at a2;cases hv:i.zero with
    |none=>simp[hv]at a2
    |some v=>
     simp only[hv,ai]at a2;exact⟨i,v,rfl,hv,List.isEmpty_iff.1 a2.2.1,HS a2.2.2⟩
end
structure Qq where
 key:Int
 value:Int
 deriving DecidableEq
abbrev cA:=List Qq
structure Item where
 key:Int
 b8:Int
 value:Int
 deriving DecidableEq
abbrev bM:=List Item
structure cC where
 offset:Int
 b8:Int
 j:Int
 key:Int
 value:Int
 deriving DecidableEq
abbrev bJ:=List cC
structure Rec where
 b8:Int
 yes:Bool
 dV:cA
 deriving DecidableEq
abbrev gB:=Option Rec
abbrev dC:=List Rec
structure St where
 b8:Int
 bV:bM
 l0:bJ
 l1:bJ
 l2:bJ
 c0:Int
 c1:Int
 c2:Int
 deriving DecidableEq
structure cB where
 n:Int
 b:bK
 deriving DecidableEq
abbrev bL:=List cB
structure Frame where
 prog:Int
 ot:Int
 r:bY
 deriving DecidableEq
structure QEx where
 kind:Int
 a:Int
 b:Int
 v:Int
 gen:Int
 text:bK
 args:bY
 deriving DecidableEq
structure Event where
 m6:Int
 act:QEx
 got:Int
 deriving DecidableEq
structure aaj where
 handle:Int
 node:Bool
 aaa:Int
 deriving DecidableEq
structure Try where
 b8:Int
 start:Int
 dV:cA
 deriving DecidableEq
structure Task where
 m6:Int
 stack:List Frame
 got:bY
 over:Bool
 deriving DecidableEq
structure Txn where
 id:Int
 start:Int
 dV:cA
 deriving DecidableEq
section
variable {C:ij}{T:fA C}{X:Cx}
def HT(k:IntKind):D C->je
 |.int k' n=>if k'=k then some n else none
 |_=>none
def Iu:D C->dH
 |.bool b=>some b
 |_=>none
def OG:D C->Option UInt8
 |.int .u8 n=>some (UInt8.ofNat n.toNat)
 |_=>none
def DP(t:C.Ty)(n:Nat):D C->Option (List (C.A t))
 |.arr t' m l=>if h:t'=t then(if m=n then some (h▸l)else none)else none
 |_=>none
theorem QB9{k:IntKind}{d:D C}{x:Int}{cs:bT}(hd:HT k d=some x)(hr:R T X false d cs):R T X false (.int k x) cs:=by
 unfold HT at hd;split at hd
 ·split at hd
  ·rename_i h;subst h;cases hd;exact hr
  ·cases hd
 ·cases hd
theorem QCa{d:D C}{x:Bool}{cs:bT}(hd:Iu d=some x)(hr:R T X false d cs):R T X false (.bool x) cs:=by
 unfold Iu at hd;split at hd
 ·cases hd;exact hr
 ·cases hd
theorem QFH{d:D C}{x:UInt8}{cs:bT}(hd:OG d=some x)(hr:R T X false d cs):R T X false (.int .u8 (UInt8.toNat x)) cs:=by
 unfold OG at hd;split at hd
 ·rename_i n;cases hd;cases hr with
  |int h=>
   have h1:(0:Int)<=n:=h.1;have h2:n<=255:=h.2
   have:((UInt8.ofNat n.toNat).toNat:Int)=n:=by
    rw[UInt8.toNat_ofNat'];have:n.toNat%2^8=n.toNat:=Nat.mod_eq_of_lt (by omega);rw[this];omega
   simp only[this];exact .int h
 ·cases hd
theorem Xs{t:C.Ty}{d:D C}{x:List (C.A t)}{cs:bT}(hd:D.j6 t d=some x)(hr:R T X false d cs):R T X false (.sl t false x) cs:=by
 unfold D.j6 at hd
 split at hd
 ·cases hd;cases hr;exact .li _ _ _
 ·rename_i t' cp l
  split at hd
  ·rename_i he;cases he;cases hd;cases hr with
   |li=>exact .li _ _ _
   |sl a1 a2 a3 a4=>exact .sl a1 a2 a3 (by simp)
  ·cases hd
 ·cases hd
theorem Zt{d ds d' ri:D C}{cs:bT}(hr:R T X false (.bI d ds) cs)(h1:∀c,R T X false d c->R T X false d' c)(h2:∀c,R T X false ds c->R T X false ri c):R T X false (.bI d' ri) cs:=by
 cases hr with
 |bI a b=>exact .bI (h1 _ a) (h2 _ b)
end
structure qW where
 now:List (cB)
 sure:List (cB)
structure xI where
 (ou width sv nodes:Int)
structure OC where
 c:List (Int)
 d:qW
inductive ca|bool|int|cE|mc|bP|iT|bS|u8|write
 deriving DecidableEq
@[reducible] def RA:ca->Type
 |.bool=>Bool
 |.int=>Int
 |.cE=>Item
 |.mc=>List (UInt8)
 |.bP=>cC
 |.iT=>Rec
 |.bS=>cB
 |.u8=>UInt8
 |.write=>Qq
@[reducible] def RC:ij:=⟨ca,inferInstance,RA⟩
abbrev bQ:=D RC
abbrev bX:=Env RC
abbrev jd:=Option bQ
abbrev fB:=List (Nat×bQ)
abbrev pM:=List (Option (Obj RC))
abbrev bZ:=Option (Obj RC)
abbrev b9:=List bZ
abbrev bW:=List bQ
abbrev bR:=List (Obj RC)
abbrev bO:=Option (Bool×bQ)
def cb{α:Type}(b:Bool)(x:Option α):Option α:=bif b then x else none
def ep(a b:Int):Bool:=decide (0<=a/\a<b)
def cq(x:Int):bQ:=.int .i64 x
def cX(x:Int):Int:=IntKind.wrap .i64 x
abbrev cL (t:RC.Ty)(c:Bool)(l:List (RC.A t))(r:bQ):bQ:=.bI (.sl t c l) r
abbrev cG (x:Int)(r:bQ):bQ:=.bI (.int .i64 x) r
def DG(x:cB):bQ:=.bI (.int .i64 (cB.n x)) (.bI (.str (cB.b x)) (.bN))
def DH:bQ->Option cB
 |.bI (.int .i64 a0) (.bI (.str a1) (.bN))=>some ⟨a0,a1⟩
 |_=>none
theorem Qq4{T:fA RC}{X:Cx}{d:bQ}{x:cB}{cs:bT}(hd:DH d=some x)(hr:R T X false d cs):R T X false (DG x) cs:=by
 unfold DH at hd
 split at hd
 ·skip
  cases hd;exact Zt hr (fun _ h=>h) (fun _ hr=>Zt hr (fun _ h=>h) (fun _ hr=>hr))
 ·cases hd
def D0(x:Item):bQ:=.bI (.int .i64 (Item.key x)) (cG (Item.b8 x) (cG (Item.value x) (.bN)))
def D1:bQ->Option Item
 |.bI (.int .i64 a0) (.bI (.int .i64 a1) (.bI (.int .i64 a2) (.bN)))=>some ⟨a0,a1,a2⟩
 |_=>none
theorem QCb{T:fA RC}{X:Cx}{d:bQ}{x:Item}{cs:bT}(hd:D1 d=some x)(hr:R T X false d cs):R T X false (D0 x) cs:=by
 unfold D1 at hd
 split at hd
 ·skip
  cases hd;exact Zt hr (fun _ h=>h) (fun _ hr=>Zt hr (fun _ h=>h) (fun _ hr=>Zt hr (fun _ h=>h) (fun _ hr=>hr)))
 ·cases hd
def D2(x:cC):bQ:=.bI (.int .i64 (cC.offset x)) (cG (cC.b8 x) (cG (cC.j x) (cG (cC.key x) (cG (cC.value x) (.bN)))))
def D3:bQ->Option cC
 |.bI (.int .i64 a0) (.bI (.int .i64 a1) (.bI (.int .i64 a2) (.bI (.int .i64 a3) (.bI (.int .i64 a4) (.bN)))))=>some ⟨a0,a1,a2,a3,a4⟩
 |_=>none
theorem QCc{T:fA RC}{X:Cx}{d:bQ}{x:cC}{cs:bT}(hd:D3 d=some x)(hr:R T X false d cs):R T X false (D2 x) cs:=by
 unfold D3 at hd
 split at hd
 ·skip
  cases hd;exact Zt hr (fun _ h=>h) (fun _ hr=>Zt hr (fun _ h=>h) (fun _ hr=>Zt hr (fun _ h=>h) (fun _ hr=>Zt hr (fun _ h=>h) (fun _ hr=>Zt hr (fun _ h=>h) (fun _ hr=>hr)))))
 ·cases hd
def DQ(x:Qq):bQ:=.bI (.int .i64 (Qq.key x)) (cG (Qq.value x) (.bN))
def DR:bQ->Option Qq
 |.bI (.int .i64 a0) (.bI (.int .i64 a1) (.bN))=>some ⟨a0,a1⟩
 |_=>none
theorem Qyl{T:fA RC}{X:Cx}{d:bQ}{x:Qq}{cs:bT}(hd:DR d=some x)(hr:R T X false d cs):R T X false (DQ x) cs:=by
 unfold DR at hd
 split at hd
 ·skip
  cases hd;exact Zt hr (fun _ h=>h) (fun _ hr=>Zt hr (fun _ h=>h) (fun _ hr=>hr))
 ·cases hd
def IX(x:Rec)(c0:Bool):bQ:=.bI (.int .i64 (Rec.b8 x)) (.bI (.bool (Rec.yes x)) (cL .write c0 (Rec.dV x) (.bN)))
def En(x:Rec):bQ:=.bI (.int .i64 (Rec.b8 x)) (.bI (.bool (Rec.yes x)) (cL .write false (Rec.dV x) (.bN)))
def su:bQ->gB
 |.bI (.int .i64 a0) (.bI (.bool a1) (.bI (a2) (.bN)))=>match D.j6 (C:=RC) .write a2 with|some b2=>(some ⟨a0,a1,b2⟩)|none=>none
 |_=>none
theorem QEy{T:fA RC}{X:Cx}{d:bQ}{x:Rec}{cs:bT}(hd:su d=some x)(hr:R T X false d cs):R T X false (En x) cs:=by
 unfold su at hd
 split at hd
 ·skip
  split at hd
  case h_2=>cases hd
  rename_i h2;cases hd;exact Zt hr (fun _ h=>h) (fun _ hr=>Zt hr (fun _ h=>h) (fun _ hr=>Zt hr (fun _ h=>Xs h2 h) (fun _ hr=>hr)))
 ·cases hd
def Sm(x:qW)(c0 c1:Bool):bQ:=.bI (.sl (C:=RC) .bS c0 (qW.now x)) (cL .bS c1 (qW.sure x) (.bN))
def Sn(x:xI):bQ:=.bI (.int .i64 (xI.ou x)) (cG (xI.width x) (cG (xI.sv x) (cG (xI.nodes x) (.bN))))
def de:(t:ca)->RA t->bQ
 |.bool,x=>.bool (x)
 |.int,x=>.int .i64 (x)
 |.cE,x=>D0 (x)
 |.mc,x=>.sl (C:=RC) .u8 false (x)
 |.bP,x=>D2 (x)
 |.iT,x=>En (x)
 |.bS,x=>DG (x)
 |.u8,x=>.int .u8 (UInt8.toNat x)
 |.write,x=>DQ (x)
def vE:(t:ca)->bQ->Option (RA t)
 |.bool=>Iu
 |.int=>HT .i64
 |.cE=>D1
 |.mc=>D.j6 (C:=RC) .u8
 |.bP=>D3
 |.iT=>su
 |.bS=>DH
 |.u8=>OG
 |.write=>DR
def Ck:(t:ca)->RA t
 |.bool=>(false:Bool)
 |.int=>(0:Int)
 |.cE=>(⟨0,0,0⟩:Item)
 |.mc=>([]:List (UInt8))
 |.bP=>(⟨0,0,0,0,0⟩:cC)
 |.iT=>(⟨0,false,[]⟩:Rec)
 |.bS=>(⟨0,[]⟩:cB)
 |.u8=>(0:UInt8)
 |.write=>(⟨0,0⟩:Qq)
def vF:(t:ca)->RA t->RA t->dH
 |.bool=>fun(a b:Bool)=>some (a==b)
 |.int=>fun(a b:Int)=>some (a==b)
 |.cE=>fun _ _=>none
 |.mc=>fun _ _=>none
 |.bP=>fun _ _=>none
 |.iT=>fun _ _=>none
 |.bS=>fun _ _=>none
 |.u8=>fun(a b:UInt8)=>none
 |.write=>fun _ _=>none
def y5:(t:ca)->Option (List (RA t)->bK)
 |.u8=>some fun l=>l
 |_=>none
def NT:(t:ca)->Option (bK->List (RA t))
 |.u8=>some fun l=>l
 |_=>none
def tF(dG:ca->TypeId):It RC:=⟨de,vE,Ck,dG,vF,y5,NT⟩
theorem QFI{T:fA RC}{X:Cx}:∀(t:ca) {d:bQ} {x:RA t} {cs:bT},vE t d=some x->R T X false d cs->R T X false (de t x) cs
 |.bool,_,_,_,hd,hr=>QCa hd hr
 |.int,_,_,_,hd,hr=>QB9 hd hr
 |.cE,_,_,_,hd,hr=>QCb hd hr
 |.mc,_,_,_,hd,hr=>Xs hd hr
 |.bP,_,_,_,hd,hr=>QCc hd hr
 |.iT,_,_,_,hd,hr=>QEy hd hr
 |.bS,_,_,_,hd,hr=>Qq4 hd hr
 |.u8,_,_,_,hd,hr=>QFH hd hr
 |.write,_,_,_,hd,hr=>Qyl hd hr
theorem QFJ:∀{t:ca} {a b:RA t} {r:Bool},vF t a b=some r->o5 (de t a) (de t b)=some r
 |.bool,a,b,r,h=>by
  simp only[vF,de,o5]at h ⊢;simpa using h
 |.int,a,b,r,h=>by
  simp only[vF,de,o5]at h ⊢;simpa using h
 |.cE,_,_,_,h=>absurd (show(none:dH)=some _ from h) (by simp)
 |.mc,_,_,_,h=>absurd (show(none:dH)=some _ from h) (by simp)
 |.bP,_,_,_,h=>absurd (show(none:dH)=some _ from h) (by simp)
 |.iT,_,_,_,h=>absurd (show(none:dH)=some _ from h) (by simp)
 |.bS,_,_,_,h=>absurd (show(none:dH)=some _ from h) (by simp)
 |.u8,_,_,_,h=>absurd (show(none:dH)=some _ from h) (by simp)
 |.write,_,_,_,h=>absurd (show(none:dH)=some _ from h) (by simp)
theorem QFK(t:ca)(x:RA t):(de t x).refs=[]:=by cases t<;>rfl
theorem QFL{T:fA RC}(he:T.enc=de):∀(t:ca) (f:List (RA t)->bK) (l:List (RA t)),y5 t=some f->bytesOf T l=some (f l):=by
 intro t f l h;cases t<;>simp[y5]at h
 subst h
 induction l with
 |nil=>rfl
 |cons x l ih=>
  simp only[bytesOf,ih,he,de];have:UInt8.ofNat (UInt8.toNat x)=x:=by simp
  simp[this]
theorem QCe:∀(t:ca) (g:bK->List (RA t)) (l:bK),NT t=some g->(g l).map (de t)=l.map fun b=>.int .u8 (b.toNat:Int):=by
 intro t g l h;cases t<;>simp[NT]at h
 subst h;rfl
theorem QFM{dG:ca->TypeId}{t:Tree (Row RC)}{pre:fE}{settle:TypeId->Bool}(ln:∀t' x,cZ (Vg (tF dG) t pre settle) (de t' x) (.inl (dG t'))=true):Tb (Vg (tF dG) t pre settle):=
 ⟨QFK,ln,fun X t d x cs hd hr=>QFI t hd hr,fun t a b r h=>QFJ h,QFL rfl,QCe⟩
open Go.Proofs
set_option maxRecDepth 100000
def So:ca->TypeId:=fun |.bool=>4 |.int=>3 |.cE=>56 |.mc=>129 |.bP=>112 |.iT=>51 |.bS=>76 |.u8=>5 |.write=>60
def Qra:Tree (Row RC):=(.node 115 ⟨.fn,1,8,some .cD⟩ (.node 64 ⟨.fn,1,8,some .cD⟩ (.node 37 ⟨.fn,1,8,some .cD⟩ (.node 25 ⟨(.struct false [3,3,3,3]),4,32,some (cG 0 (cG 0 (cG 0 (cG 0 .bN))))⟩ (.node 9 ⟨.str,1,16,some (.str [])⟩ (.node 3 ⟨(.int .i64),1,8,some (.int .i64 0)⟩ (.node 2 ⟨(.int .i64),1,8,some (.int .i64 0)⟩ (.node 1 ⟨.fn,1,8,some .cD⟩ .nil .nil) .nil) (.node 5 ⟨(.int .u8),1,1,some (.int .u8 0)⟩ (.node 4 ⟨.bool,1,1,some (.bool false)⟩ .nil .nil) .nil)) (.node 22 ⟨(.sl 76 .bS),1,24,some (.sl .bS true [])⟩ (.node 21 ⟨(.int .i32),1,4,some (.int .i32 0)⟩ (.node 12 ⟨(.int .u64),1,8,some (.int .u64 0)⟩ .nil .nil) .nil) (.node 24 ⟨(.struct false [22,22]),2,48,some (.bI (.sl .bS true []) (.bI (.sl .bS true []) .bN))⟩ (.node 23 ⟨(.struct false [22,22]),2,48,some (.bI (.sl .bS true []) (.bI (.sl .bS true []) .bN))⟩ .nil .nil) .nil))) (.node 31 ⟨(.struct true [30,30,30]),3,72,some (.bI (.sl .bP true []) (.bI (.sl .bP true []) (.bI (.sl .bP true []) .bN)))⟩ (.node 28 ⟨.fn,1,8,some .cD⟩ (.node 27 ⟨.fn,1,8,some .cD⟩ (.node 26 ⟨(.struct false [3,3,3,3]),4,32,some (cG 0 (cG 0 (cG 0 (cG 0 .bN))))⟩ .nil .nil) .nil) (.node 30 ⟨(.sl 112 .bP),1,24,some (.sl .bP true [])⟩ (.node 29 ⟨(.sl 56 .cE),1,24,some (.sl .cE true [])⟩ .nil .nil) .nil)) (.node 34 ⟨(.struct false [3,29,31,32]),8,128,some (cG 0 (.bI (.sl .cE true []) (.bI (.bI (.sl .bP true []) (.bI (.sl .bP true []) (.bI (.sl .bP true []) .bN))) (.bI (.arr .int 3 (List.replicate 3 (Ck .int))) .bN))))⟩ (.node 33 ⟨(.struct false [3,29,31,32]),8,128,some (cG 0 (.bI (.sl .cE true []) (.bI (.bI (.sl .bP true []) (.bI (.sl .bP true []) (.bI (.sl .bP true []) .bN))) (.bI (.arr .int 3 (List.replicate 3 (Ck .int))) .bN))))⟩ (.node 32 ⟨(.arr 3 3 .int),3,24,some (.arr .int 3 (List.replicate 3 (Ck .int)))⟩ .nil .nil) .nil) (.node 35 ⟨(.int .i64),1,8,some (.int .i64 0)⟩ .nil .nil)))) (.node 50 ⟨(.struct false [3,4,49]),3,40,some (cG 0 (.bI (.bool false) (.bI (.sl .write true []) .bN)))⟩ (.node 44 ⟨.fn,1,8,some .cD⟩ (.node 40 ⟨(.struct false [39,24]),3,72,some (.bI (.sl .int true []) (.bI (.bI (.sl .bS true []) (.bI (.sl .bS true []) .bN)) .bN))⟩ (.node 39 ⟨(.sl 3 .int),1,24,some (.sl .int true [])⟩ (.node 38 ⟨.fn,1,8,some .cD⟩ .nil .nil) .nil) (.node 43 ⟨.fn,1,8,some .cD⟩ (.node 41 ⟨(.struct false [39,24]),3,72,some (.bI (.sl .int true []) (.bI (.bI (.sl .bS true []) (.bI (.sl .bS true []) .bN)) .bN))⟩ .nil .nil) .nil)) (.node 47 ⟨(.sl 51 .iT),1,24,some (.sl .iT true [])⟩ (.node 46 ⟨.fn,1,8,some .cD⟩ (.node 45 ⟨.fn,1,8,some .cD⟩ .nil .nil) .nil) (.node 49 ⟨(.sl 60 .write),1,24,some (.sl .write true [])⟩ (.node 48 ⟨.fn,1,8,some .cD⟩ .nil .nil) .nil))) (.node 58 ⟨.fn,1,8,some .cD⟩ (.node 54 ⟨.fn,1,8,some .cD⟩ (.node 52 ⟨.fn,1,8,some .cD⟩ (.node 51 ⟨(.struct false [3,4,49]),3,40,some (cG 0 (.bI (.bool false) (.bI (.sl .write true []) .bN)))⟩ .nil .nil) .nil) (.node 56 ⟨(.struct false [3,3,3]),3,24,some (cG 0 (cG 0 (cG 0 .bN)))⟩ (.node 55 ⟨(.struct false [3,3,3]),3,24,some (cG 0 (cG 0 (cG 0 .bN)))⟩ .nil .nil) .nil)) (.node 61 ⟨.fn,1,8,some .cD⟩ (.node 60 ⟨(.struct false [3,3]),2,16,some (cG 0 (cG 0 .bN))⟩ (.node 59 ⟨(.struct false [3,3]),2,16,some (cG 0 (cG 0 .bN))⟩ .nil .nil) .nil) (.node 63 ⟨.fn,1,8,some .cD⟩ .nil .nil))))) (.node 91 ⟨.fn,1,8,some .cD⟩ (.node 76 ⟨(.struct false [3,9]),2,24,some (cG 0 (.bI (.str []) .bN))⟩ (.node 70 ⟨.fn,1,8,some .cD⟩ (.node 67 ⟨.fn,1,8,some .cD⟩ (.node 66 ⟨.fn,1,8,some .cD⟩ (.node 65 ⟨.fn,1,8,some .cD⟩ .nil .nil) .nil) (.node 69 ⟨(.int .u64),1,8,some (.int .u64 0)⟩ (.node 68 ⟨.fn,1,8,some .cD⟩ .nil .nil) .nil)) (.node 73 ⟨.fn,1,8,some .cD⟩ (.node 72 ⟨.fn,1,8,some .cD⟩ (.node 71 ⟨.fn,1,8,some .cD⟩ .nil .nil) .nil) (.node 75 ⟨(.struct false [3,9]),2,24,some (cG 0 (.bI (.str []) .bN))⟩ (.node 74 ⟨.fn,1,8,some .cD⟩ .nil .nil) .nil))) (.node 85 ⟨(.ptr 87),1,8,some .fw⟩ (.node 81 ⟨.fn,1,8,some .cD⟩ (.node 79 ⟨.fn,1,8,some .cD⟩ (.node 77 ⟨.fn,1,8,some .cD⟩ .nil .nil) .nil) (.node 84 ⟨.fn,1,8,some .cD⟩ (.node 82 ⟨.fn,1,8,some .cD⟩ .nil .nil) .nil)) (.node 88 ⟨.fn,1,8,some .cD⟩ (.node 87 ⟨(.struct false [26,34,41]),15,232,some (.bI (cG 0 (cG 0 (cG 0 (cG 0 .bN)))) (.bI (cG 0 (.bI (.sl .cE true []) (.bI (.bI (.sl .bP true []) (.bI (.sl .bP true []) (.bI (.sl .bP true []) .bN))) (.bI (.arr .int 3 (List.replicate 3 (Ck .int))) .bN)))) (.bI (.bI (.sl .int true []) (.bI (.bI (.sl .bS true []) (.bI (.sl .bS true []) .bN)) .bN)) .bN)))⟩ (.node 86 ⟨(.struct false [26,34,41]),15,232,some (.bI (cG 0 (cG 0 (cG 0 (cG 0 .bN)))) (.bI (cG 0 (.bI (.sl .cE true []) (.bI (.bI (.sl .bP true []) (.bI (.sl .bP true []) (.bI (.sl .bP true []) .bN))) (.bI (.arr .int 3 (List.replicate 3 (Ck .int))) .bN)))) (.bI (.bI (.sl .int true []) (.bI (.bI (.sl .bS true []) (.bI (.sl .bS true []) .bN)) .bN)) .bN)))⟩ .nil .nil) .nil) (.node 89 ⟨(.fY 88),1,24,some .eO⟩ .nil .nil)))) (.node 103 ⟨.fn,1,8,some .cD⟩ (.node 97 ⟨.fn,1,8,some .cD⟩ (.node 94 ⟨.fn,1,8,some .cD⟩ (.node 93 ⟨.fn,1,8,some .cD⟩ (.node 92 ⟨.fn,1,8,some .cD⟩ .nil .nil) .nil) (.node 96 ⟨.fn,1,8,some .cD⟩ (.node 95 ⟨.fn,1,8,some .cD⟩ .nil .nil) .nil)) (.node 100 ⟨(.map 3 3 .int .int),1,8,some .gz⟩ (.node 99 ⟨.fn,1,8,some .cD⟩ (.node 98 ⟨.fn,1,8,some .cD⟩ .nil .nil) .nil) (.node 102 ⟨.fn,1,8,some .cD⟩ (.node 101 ⟨(.struct true [100,100,100]),3,24,some (.bI .gz (.bI .gz (.bI .gz .bN)))⟩ .nil .nil) .nil))) (.node 110 ⟨.fn,1,8,some .cD⟩ (.node 106 ⟨.fn,1,8,some .cD⟩ (.node 105 ⟨(.fY 100),1,24,some .eO⟩ (.node 104 ⟨.fn,1,8,some .cD⟩ .nil .nil) .nil) (.node 109 ⟨.fn,1,8,some .cD⟩ (.node 108 ⟨.fn,1,8,some .cD⟩ .nil .nil) .nil)) (.node 113 ⟨.fn,1,8,some .cD⟩ (.node 112 ⟨(.struct false [3,3,3,3,3]),5,40,some (cG 0 (cG 0 (cG 0 (cG 0 (cG 0 .bN)))))⟩ (.node 111 ⟨(.struct false [3,3,3,3,3]),5,40,some (cG 0 (cG 0 (cG 0 (cG 0 (cG 0 .bN)))))⟩ .nil .nil) .nil) (.node 114 ⟨.fn,1,8,some .cD⟩ .nil .nil)))))) (.node 168 ⟨.fn,1,8,some .cD⟩ (.node 144 ⟨.fn,1,8,some .cD⟩ (.node 129 ⟨(.sl 5 .u8),1,24,some (.sl .u8 true [])⟩ (.node 121 ⟨.fn,1,8,some .cD⟩ (.node 118 ⟨.fn,1,8,some .cD⟩ (.node 117 ⟨(.sl 4 .bool),1,24,some (.sl .bool true [])⟩ (.node 116 ⟨.fn,1,8,some .cD⟩ .nil .nil) .nil) (.node 120 ⟨(.int .u64),1,8,some (.int .u64 0)⟩ (.node 119 ⟨.fn,1,8,some .cD⟩ .nil .nil) .nil)) (.node 125 ⟨.fn,1,8,some .cD⟩ (.node 123 ⟨.fn,1,8,some .cD⟩ (.node 122 ⟨.fn,1,8,some .cD⟩ .nil .nil) .nil) (.node 128 ⟨.fn,1,8,some .cD⟩ (.node 127 ⟨.fn,1,8,some .cD⟩ .nil .nil) .nil))) (.node 136 ⟨.fn,1,8,some .cD⟩ (.node 132 ⟨.fn,1,8,some .cD⟩ (.node 131 ⟨.fn,1,8,some .cD⟩ (.node 130 ⟨.fn,1,8,some .cD⟩ .nil .nil) .nil) (.node 134 ⟨.fn,1,8,some .cD⟩ (.node 133 ⟨.fn,1,8,some .cD⟩ .nil .nil) .nil)) (.node 141 ⟨.fn,1,8,some .cD⟩ (.node 139 ⟨.fn,1,8,some .cD⟩ (.node 137 ⟨.fn,1,8,some .cD⟩ .nil .nil) .nil) (.node 142 ⟨.fn,1,8,some .cD⟩ .nil .nil)))) (.node 156 ⟨.fn,1,8,some .cD⟩ (.node 150 ⟨.fn,1,8,some .cD⟩ (.node 147 ⟨.fn,1,8,some .cD⟩ (.node 146 ⟨.fn,1,8,some .cD⟩ (.node 145 ⟨.fn,1,8,some .cD⟩ .nil .nil) .nil) (.node 149 ⟨.fn,1,8,some .cD⟩ (.node 148 ⟨.fn,1,8,some .cD⟩ .nil .nil) .nil)) (.node 153 ⟨.fn,1,8,some .cD⟩ (.node 152 ⟨.fn,1,8,some .cD⟩ (.node 151 ⟨.fn,1,8,some .cD⟩ .nil .nil) .nil) (.node 155 ⟨.fn,1,8,some .cD⟩ (.node 154 ⟨.fn,1,8,some .cD⟩ .nil .nil) .nil))) (.node 163 ⟨.fn,1,8,some .cD⟩ (.node 159 ⟨.fn,1,8,some .cD⟩ (.node 158 ⟨.fn,1,8,some .cD⟩ (.node 157 ⟨.fn,1,8,some .cD⟩ .nil .nil) .nil) (.node 162 ⟨.fn,1,8,some .cD⟩ (.node 160 ⟨.fn,1,8,some .cD⟩ .nil .nil) .nil)) (.node 166 ⟨.fn,1,8,some .cD⟩ (.node 165 ⟨.fn,1,8,some .cD⟩ (.node 164 ⟨.fn,1,8,some .cD⟩ .nil .nil) .nil) (.node 167 ⟨.fn,1,8,some .cD⟩ .nil .nil))))) (.node 192 ⟨(.sl 35 .int),1,24,some (.sl .int true [])⟩ (.node 180 ⟨(.struct false [129,3,4]),3,40,some (.bI (.sl .u8 true []) (cG 0 (.bI (.bool false) .bN)))⟩ (.node 174 ⟨(.ptr 112),1,8,some .fw⟩ (.node 171 ⟨(.struct false [129,4]),2,32,some (.bI (.sl .u8 true []) (.bI (.bool false) .bN))⟩ (.node 170 ⟨(.struct false [129,4]),2,32,some (.bI (.sl .u8 true []) (.bI (.bool false) .bN))⟩ (.node 169 ⟨(.ptr 171),1,8,some .fw⟩ .nil .nil) .nil) (.node 173 ⟨.fn,1,8,some .cD⟩ (.node 172 ⟨.fn,1,8,some .cD⟩ .nil .nil) .nil)) (.node 177 ⟨.fn,1,8,some .cD⟩ (.node 176 ⟨.fn,1,8,some .cD⟩ (.node 175 ⟨.fn,1,8,some .cD⟩ .nil .nil) .nil) (.node 179 ⟨(.ptr 181),1,8,some .fw⟩ (.node 178 ⟨.fn,1,8,some .cD⟩ .nil .nil) .nil))) (.node 187 ⟨.fn,1,8,some .cD⟩ (.node 184 ⟨.fn,1,8,some .cD⟩ (.node 183 ⟨.fn,1,8,some .cD⟩ (.node 181 ⟨(.struct false [129,3,4]),3,40,some (.bI (.sl .u8 true []) (cG 0 (.bI (.bool false) .bN)))⟩ .nil .nil) .nil) (.node 186 ⟨.fn,1,8,some .cD⟩ (.node 185 ⟨.fn,1,8,some .cD⟩ .nil .nil) .nil)) (.node 190 ⟨(.fY 28),1,24,some .eO⟩ (.node 189 ⟨.fn,1,8,some .cD⟩ (.node 188 ⟨.fn,1,8,some .cD⟩ .nil .nil) .nil) (.node 191 ⟨.fn,1,8,some .cD⟩ .nil .nil)))) (.node 203 ⟨(.struct false [129]),1,24,some (.bI (.sl .u8 true []) .bN)⟩ (.node 198 ⟨(.int .i64),1,8,some (.int .i64 0)⟩ (.node 195 ⟨.fn,1,8,some .cD⟩ (.node 194 ⟨.fn,1,8,some .cD⟩ (.node 193 ⟨.fn,1,8,some .cD⟩ .nil .nil) .nil) (.node 197 ⟨.fn,1,8,some .cD⟩ (.node 196 ⟨(.int .u32),1,4,some (.int .u32 0)⟩ .nil .nil) .nil)) (.node 201 ⟨.fn,1,8,some .cD⟩ (.node 200 ⟨.fn,1,8,some .cD⟩ (.node 199 ⟨.fn,1,8,some .cD⟩ .nil .nil) .nil) (.node 202 ⟨(.ptr 204),1,8,some .fw⟩ .nil .nil))) (.node 209 ⟨.fn,1,8,some .cD⟩ (.node 206 ⟨.fn,1,8,some .cD⟩ (.node 205 ⟨.fn,1,8,some .cD⟩ (.node 204 ⟨(.struct false [129]),1,24,some (.bI (.sl .u8 true []) .bN)⟩ .nil .nil) .nil) (.node 208 ⟨(.sl 129 .mc),1,24,some (.sl .mc true [])⟩ (.node 207 ⟨.fn,1,8,some .cD⟩ .nil .nil) .nil)) (.node 219 ⟨.fn,1,8,some .cD⟩ (.node 216 ⟨.fn,1,8,some .cD⟩ (.node 210 ⟨.fn,1,8,some .cD⟩ .nil .nil) .nil) (.node 220 ⟨(.ptr 5),1,8,some .fw⟩ .nil .nil)))))))
def cF:fA RC:=Vg (tF So) Qra
theorem Qym:Qra.all (tJ Tryz.prog cF)=true:=by kernel_rfl
theorem Qrb:Tryz.prog.follows .mixedOrders=true:=by kernel_rfl
theorem QCf:∀t x,cZ cF (de t x) (.inl (So t))=true
 |.bool,_=>rfl
 |.int,_=>rfl
 |.cE,_=>rfl
 |.mc,_=>rfl
 |.bP,_=>rfl
 |.iT,_=>rfl
 |.bS,_=>rfl
 |.u8,_=>rfl
 |.write,_=>rfl
theorem Qb:Zq Tryz.prog cF:=QEw Qym (QFM QCf) Qrb
section
variable {C:ij}{P:Program}{T:fA C}{Φ:jv C}
open Pg (Ex)
def OR(P:Program)(f:FuncId):Bool:=match P.funcs[f]? with
 | some fn => !(fn.name == "runtime.NumGoroutine") && (match fn.body with
  |some b=>YV fn.ntmps b
  |none=>true)
 |none=>true
def uR(P:Program):Nat->Bool
 |0=>true
 |n+1=>OR P n&&uR P n
theorem UU:∀(n f:Nat),uR P n=true->f<n->OR P f=true
 |0,f,_,h=>by omega
 |n+1,f,h,hf=>by
  simp only[uR,ai]at h
  by_cases he:f=n
  ·subst he;exact h.1
  ·exact UU n f h.2 (by omega)
def Cl(P:Program)(n:Nat)(keeps:FuncId->Bool)(rest:FuncId->eV:=fun _=>[])(total:FuncId->Bool:=fun _=>false)(qt:FuncId->Bool:=fun _=>false):jv C where
 fn f:=bif Nat.blt f n then P.funcs[f]? else none
 keeps:=keeps
 rest:=rest
 total:=total
 qt:=qt
 jJ _:=none
 spec _:=none
 loop _ _:=none
def jv.cm(Φ:jv C)(g:FuncId)(s:List (D C)->Option (Bool×D C)):jv C:={ Φ with spec:=fun f=>bif Nat.beq f g then some s else Φ.spec f }
def jv.kL(Φ:jv C)(g:FuncId)(s:List (D C)->Pg C (D C)):jv C:={ Φ with jJ:=fun f=>bif Nat.beq f g then some s else Φ.jJ f }
def jv.cP(Φ:jv C)(g key:Nat)(s:Env C->Pg C (Ev.X×Env C)):jv C:={ Φ with loop:=fun f k=>bif Nat.beq f g&&Nat.beq k key then some s else Φ.loop f k }
theorem QoV{n:Nat}{keeps:FuncId->Bool}{rest:FuncId->eV}{total qt:FuncId->Bool}(h:uR P n=true):Qj P T (Cl P n keeps rest total qt) where
 fn f fn hf:=by
  simp only[Cl]at hf;cases hb:Nat.blt f n with
  |false=>simp[hb]at hf
  |true=>
   simp only[hb,ag]at hf;have:=UU n f h (by simpa[Nat.blt_eq]using hb);simp only[OR,hf,ai,Bool.not_eq_true']at this;refine⟨hf,this.1,fun body EE=>?_⟩;have h2:=this.2;rw[EE]at h2;exact h2
 spec g s args d hs:=by simp[Cl]at hs
 jJ g s hs:=by simp[Cl]at hs
 loop f fn body b s _ _ _ hs:=by simp[Cl]at hs
theorem Qj.cm(F:Qj P T Φ){g:FuncId}{s:List (D C)->Option (Bool×D C)}
 (hs:∀args d,s args=some (true,d)->(∀a∈args,D.refs a=[])/\KE P T g args d):Qj P T (Φ.cm g s) where
 fn:=F.fn
 spec f s' args d h1 h2:=by
  simp only[jv.cm]at h1;cases hb:Nat.beq f g with
  |false=>simp only[hb,ah]at h1;exact F.spec f s' args d h1 h2
  |true=>
   simp only[hb,ag,aD]at h1;subst h1;have:=az hb;subst this;exact hs args d h2
 jJ:=F.jJ
 loop:=F.loop
theorem Qj.c6(K:Zq P T)(F:Qj P T Φ){g:FuncId}{s:List (D C)->Option (Bool×D C)}(hs:∀args d,s args=some (true,d)->(∀a∈args,D.refs a=[])/\∃n,eU T Φ n g args=some d):Qj P T (Φ.cm g s):=
 F.cm fun args d h=>by
  obtain⟨h1,n,h2⟩:=hs args d h;exact⟨h1,XP K F h2 h1⟩
def Qrc(P:Program)(T:fA C)(g:FuncId)(s:List (D C)->Pg C (D C)):Prop :=
 ∀args vs X h nx lim e d h' cM tr,G T X h nx lim->iu T X args vs->(∀a∈args,∀id∈D.refs a,fL nx lim id)->cM<=lim.top->Ex e (s args) h nx d h' cM tr ->
  (callFunc g ⟨vs⟩).run P X.w=.ok (.enter g ⟨vs⟩) X.w/\Calls P g ⟨vs⟩ X.w (ZZ T X nx lim h' cM d)
theorem Qj.kL(F:Qj P T Φ){g:FuncId}{s:List (D C)->Pg C (D C)}(hs:Qrc P T g s):Qj P T (Φ.kL g s) where
 fn:=F.fn
 spec:=F.spec
 jJ f s' h1:=by
  simp only[jv.kL]at h1;cases hb:Nat.beq f g with
  |false=>simp only[hb,ah]at h1;exact F.jJ f s' h1
  |true=>
   simp only[hb,ag,aD]at h1;subst h1;have:=az hb;subst this;exact hs
 loop:=F.loop
def G5(P:Program)(T:fA C)(Φ:jv C)(g key:Nat)(s:Env C->Pg C (Ev.X×Env C)):Prop :=
 ∀fn body b,Φ.fn g=some fn->fn.body=some body->b∈Zi body->QF b=key->∀B,xB B b->∀X h nx lim e env x dj h' cM tr a Q,G T X h nx lim->QE T X nx lim env a.tmps->cM<=lim.top->fn.ntmps<=a.tmps.size ->
  Ex e (s env) h nx (x,dj) h' cM tr->D6 T B X nx lim h' cM dj a (Q (uC x))->(Code.loop b).wp P Q a X.w
theorem Qj.cP(F:Qj P T Φ){g key:Nat}{s:Env C->Pg C (Ev.X×Env C)}(hs:G5 P T Φ g key s):Qj P T (Φ.cP g key s) where
 fn:=F.fn
 spec:=F.spec
 jJ:=F.jJ
 loop f fn body b s' h1 h2 h3 h4:=by
  simp only[jv.cP]at h4;cases hb:Nat.beq f g&&Nat.beq (QF b) key with
  |false=>simp only[hb,ah]at h4;exact F.loop f fn body b s' h1 h2 h3 h4
  |true=>
   simp only[hb,ag,aD]at h4;subst h4;simp only[ai]at hb;have e1:=az hb.1;have e2:=az hb.2;subst e1;exact hs fn body b h1 h2 h3 e2
def Sub(env fe:Env C):Prop:=∀p∈fe,c8 env p.1=p.2
theorem iL:∀(env:Env C) (t:Nat),c8 env t=.top\/(t,c8 env t)∈env
 |[],t=>.inl rfl
 |(j,d)::r,t=>by
  rw[QP]
  by_cases h:t=j
  ·subst h;simp
  ·simp only[h,aL];rcases iL r t with h'|h'
   ·exact .inl h'
   ·exact .inr (by simp[h'])
theorem ZV{nt:Nat}:∀(c:Code),YV nt c=true->∀b∈Zi c,YV nt b=true/\∀b'∈Zi b,b'∈Zi c
 |.seq x y,h,b,hb=>by
  simp only[YV,ai]at h;simp only[Zi,aT]at hb ⊢;rcases hb with hb|hb
  ·obtain⟨q1,q2⟩:=ZV x h.1 b hb;exact⟨q1,fun b' h'=>.inl (q2 b' h')⟩
  ·obtain⟨q1,q2⟩:=ZV y h.2 b hb;exact⟨q1,fun b' h'=>.inr (q2 b' h')⟩
 |.cond _ x y,h,b,hb=>by
  simp only[YV,ai]at h;simp only[Zi,aT]at hb ⊢;rcases hb with hb|hb
  ·obtain⟨q1,q2⟩:=ZV x h.1 b hb;exact⟨q1,fun b' h'=>.inl (q2 b' h')⟩
  ·obtain⟨q1,q2⟩:=ZV y h.2 b hb;exact⟨q1,fun b' h'=>.inr (q2 b' h')⟩
 |.block _ x,h,b,hb=>by
  simp only[YV]at h;simp only[Zi]at hb ⊢;exact ZV x h b hb
 |.loop x,h,b,hb=>by
  simp only[YV]at h;simp only[Zi,aZ]at hb ⊢;rcases hb with rfl|hb
  ·exact⟨h,fun b' h'=>.inr h'⟩
  ·obtain⟨q1,q2⟩:=ZV x h b hb;exact⟨q1,fun b' h'=>.inr (q2 b' h')⟩
 |.skip,_,b,hb=>by simp[Zi]at hb
 |.region _ _ _,_,b,hb=>by simp[Zi]at hb
 |.rangeFunc _ _ _ _,_,b,hb=>by simp[Zi]at hb
 |.exit _,_,b,hb=>by simp[Zi]at hb
 |.scope x,h,b,hb=>by
  simp only[YV]at h;simp only[Zi]at hb ⊢;exact ZV x h b hb
 |.label _,_,b,hb=>by simp[Zi]at hb
 |.goto _,_,b,hb=>by simp[Zi]at hb
 |.ret,_,b,hb=>by simp[Zi]at hb
end
section
variable {C:ij}
def D.eT(f:Nat->Nat):D C->D C
 |.bI d ds=>.bI (d.eT f) (ds.eT f)
 |.cH d=>.cH (d.eT f)
 |.fn g d=>.fn g (d.eT f)
 |.yl n s p a b d id=>.yl n s p a b (d.eT f) (f id)
 |.ku id=>.ku (f id)
 |.bm g d=>.bm g (d.eT f)
 |.dS d=>.dS (d.eT f)
 |.fY n c d=>.fY n c (d.eT f)
 |.mp id=>.mp (f id)
 |.vs id n=>.vs (f id) n
 |.ptr id p=>.ptr (f id) p
 |.jR t id p lo n=>.jR t (f id) p lo n
 |.fx id n p=>.fx (f id) n p
 |d=>d
def Obj.eT(f:Nat->Nat):Obj C->Obj C
 |.var t d=>.var t (d.eT f)
 |o=>o
theorem D.ft(f:Nat->Nat):∀d:D C,(d.eT f).refs=d.refs.map f
 |.bI d ds=>by simp[D.eT,D.refs,D.ft f d,D.ft f ds]
 |.cH d=>by simp[D.eT,D.refs,D.ft f d]
 |.fn g d=>by simp[D.eT,D.refs,D.ft f d]
 |.dS d=>by simp[D.eT,D.refs,D.ft f d]
 |.fY _ _ d=>by simp[D.eT,D.refs,D.ft f d]
 |.bm _ d=>by simp[D.eT,D.refs,D.ft f d]
 |.ku id=>rfl
 |.mp id=>rfl
 |.vs id n=>rfl
 |.ptr id p=>rfl
 |.jR _ id _ _ _=>rfl
 |.fx id n p=>rfl
 |.bool _=>rfl
 |.int _ _=>rfl
 |.str _=>rfl
 |.bN=>rfl
 |.arr _ _ _=>rfl
 |.eO=>rfl
 |.sl _ _ _=>rfl
 |.fw=>rfl
 |.cD=>rfl
 |.gz=>rfl
 |.yl _ _ _ _ _ d id=>by simp[D.eT,D.refs,D.ft f d]
 |.top=>rfl
theorem Obj.ft(f:Nat->Nat)(o:Obj C):(o.eT f).refs=o.refs.map f:=by
 cases o with
 |var t d=>exact D.ft f d
 |cj t dM l=>rfl
 |map _ _ _=>rfl
 |ek _=>rfl
theorem D.eH(f g:Nat->Nat):∀d:D C,(∀id∈d.refs,g (f id)=id)->(d.eT f).eT g=d
 |.bI d ds,h=>by
  simp only[D.refs,aT]at h;simp[D.eT,D.eH f g d (fun id hi=>h id (.inl hi)),D.eH f g ds (fun id hi=>h id (.inr hi))]
 |.cH d,h=>by simp[D.eT,D.eH f g d (by simpa[D.refs]using h)]
 |.fn _ d,h=>by simp[D.eT,D.eH f g d (by simpa[D.refs]using h)]
 |.yl _ _ _ _ _ d id,h=>by
  simp only[D.refs,aT,bE]at h;simp[D.eT,D.eH f g d (fun i hi=>h i (.inl hi)),h id (.inr rfl)]
 |.ku id,h=>by simp[D.eT,h id (by simp[D.refs])]
 |.bm _ d,h=>by simp[D.eT,D.eH f g d (by simpa[D.refs]using h)]
 |.dS d,h=>by simp[D.eT,D.eH f g d (by simpa[D.refs]using h)]
 |.fY _ _ d,h=>by simp[D.eT,D.eH f g d (by simpa[D.refs]using h)]
 |.mp id,h=>by simp[D.eT,h id (by simp[D.refs])]
 |.vs id n,h=>by simp[D.eT,h id (by simp[D.refs])]
 |.ptr id p,h=>by simp[D.eT,h id (by simp[D.refs])]
 |.jR _ id _ _ _,h=>by simp[D.eT,h id (by simp[D.refs])]
 |.fx id n p,h=>by simp[D.eT,h id (by simp[D.refs])]
 |.bool _,_=>rfl
 |.int _ _,_=>rfl
 |.str _,_=>rfl
 |.bN,_=>rfl
 |.arr _ _ _,_=>rfl
 |.eO,_=>rfl
 |.sl _ _ _,_=>rfl
 |.fw,_=>rfl
 |.cD,_=>rfl
 |.gz,_=>rfl
 |.top,_=>rfl
theorem D.jm(f:Nat->Nat):∀d:D C,d.refs=[]->d.eT f=d
 |.bI d ds,h=>by
  simp only[D.refs,List.append_eq_nil_iff]at h;simp[D.eT,D.jm f d h.1,D.jm f ds h.2]
 |.cH d,h=>by simp[D.eT,D.jm f d (by simpa[D.refs]using h)]
 |.fn _ d,h=>by simp[D.eT,D.jm f d (by simpa[D.refs]using h)]
 |.yl _ _ _ _ _ d id,h=>by simp[D.refs]at h
 |.ku id,h=>by simp[D.refs]at h
 |.bm _ d,h=>by simp[D.eT,D.jm f d (by simpa[D.refs]using h)]
 |.dS d,h=>by simp[D.eT,D.jm f d (by simpa[D.refs]using h)]
 |.fY _ _ d,h=>by simp[D.eT,D.jm f d (by simpa[D.refs]using h)]
 |.mp id,h=>by simp[D.refs]at h
 |.vs id n,h=>by simp[D.refs]at h
 |.ptr id p,h=>by simp[D.refs]at h
 |.jR _ id _ _ _,h=>by simp[D.refs]at h
 |.fx id n p,h=>by simp[D.refs]at h
 |.bool _,_=>rfl
 |.int _ _,_=>rfl
 |.str _,_=>rfl
 |.bN,_=>rfl
 |.arr _ _ _,_=>rfl
 |.eO,_=>rfl
 |.sl _ _ _,_=>rfl
 |.fw,_=>rfl
 |.cD,_=>rfl
 |.gz,_=>rfl
 |.top,_=>rfl
theorem D.lJ(f:Nat->Nat)(d:D C):(d.eT f).eu=d.eu:=by
 induction d with
 |bI d ds i1 i2=>simp only[D.eT,D.eu,i1,i2]
 |cH d ih=>simpa only[D.eT,D.eu]using ih
 |fn _ d ih=>simpa only[D.eT,D.eu]using ih
 |dS d ih=>simpa only[D.eT,D.eu]using ih
 |fY _ _ d ih=>simpa only[D.eT,D.eu]using ih
 |bm _ d ih=>simpa only[D.eT,D.eu]using ih
 |_=>rfl
theorem D.kX(f:Nat->Nat)(d:D C):(d.eT f).dA=d.dA:=by cases d<;>rfl
theorem D.tH(f:Nat->Nat)(d:D C):(d.eT f).hQ=d.hQ:=by
 induction d with
 |bI d ds _ ih=>simp only[D.eT,D.hQ,D.kX,ih]
 |_=>rfl
variable {T:fA C}
theorem xn(f:Nat->Nat):∀(d:D C) (u:TypeId ⊕ cK),cZ T (d.eT f) u=cZ T d u
 |.bI d ds,.inl t=>by
  simp only[D.eT,cZ]
  split<;>simp[xn f d,xn f ds]
 |.bI d ds,.inr []=>by simp[D.eT,cZ]
 |.bI d ds,.inr (a::fs)=>by simp[D.eT,cZ,xn f d,xn f ds]
 |.cH _,.inl _=>rfl
 |.cH _,.inr _=>rfl
 |.fn _ d,.inl _=>by simp only[D.eT,cZ,D.lJ]
 |.yl _ _ _ _ _ _ _,.inl _=>rfl
 |.yl _ _ _ _ _ _ _,.inr _=>rfl
 |.ku _,.inl _=>rfl
 |.ku _,.inr _=>rfl
 |.bm _ d,.inl _=>by simp only[D.eT,cZ,D.lJ]
 |.bm _ _,.inr _=>rfl
 |.fn _ _,.inr _=>rfl
 |.dS d,.inl _=>by simp only[D.eT,cZ,D.lJ]
 |.dS _,.inr _=>rfl
 |.fY _ _ d,.inl _=>by simp only[D.eT,cZ,D.lJ]
 |.fY _ _ _,.inr _=>rfl
 |.mp _,.inl _=>rfl
 |.mp _,.inr _=>rfl
 |.vs _ _,.inl _=>rfl
 |.vs _ _,.inr _=>rfl
 |.ptr _ _,.inl _=>rfl
 |.jR _ _ _ _ _,.inl _=>rfl
 |.jR _ _ _ _ _,.inr _=>rfl
 |.ptr _ _,.inr _=>rfl
 |.fx _ _ _,.inl _=>rfl
 |.fx _ _ _,.inr _=>rfl
 |.bool _,_=>rfl
 |.int _ _,_=>rfl
 |.str _,_=>rfl
 |.bN,_=>rfl
 |.arr _ _ _,_=>rfl
 |.eO,_=>rfl
 |.sl _ _ _,_=>rfl
 |.fw,_=>rfl
 |.cD,_=>rfl
 |.gz,_=>rfl
 |.top,_=>rfl
theorem R.FB{X X':Cx}{y:Bool}(f:Nat->Nat)(he:∀t x,(T.enc t x).refs=[]/\(T.enc t x).eu=true)(hX:∀b o v,X.w.cell? ⟨b,o,none⟩=some v->X.free b o->X'.w.cell? ⟨b,o,none⟩=some v/\X'.free b o)
 (hL:y=true->True)
 {m:Bool} {d:D C} {vs:bT} (h:R T X m d vs):(∀id∈d.refs,Qo (X.ρ id) (X'.ρ (f id)))->(y=true\/d.eu=true)->R T X' m (d.eT f) vs:=by
 induction h with
 |bool b=>exact fun _ _=>.bool b
 |int h=>exact fun _ _=>.int h
 |str s=>exact fun _ _=>.str s
 |bN=>exact fun _ _=>.bN
 |bI _ _ i1 i2=>
  intro hr hy;simp only[D.refs,aT]at hr;exact .bI (i1 (fun id h=>hr id (.inl h)) (hy.imp id fun h=>by simp only[D.eu,ai]at h;exact h.1)) (i2 (fun id h=>hr id (.inr h)) (hy.imp id fun h=>by simp only[D.eu,ai]at h;exact h.2))
 |iK t=>exact fun _ _=>.iK t
 | @jz t n x l c1 c2 _ _ i1 i2=>
  intro _ hy;have h1:=i1 (by simp[he]) (.inr (he _ _).2);rw[D.jm f _ (he t x).1]at h1;exact .jz h1 (i2 (by simp[D.refs]) (.inr rfl))
 |eO=>exact fun _ _=>.eO
 |li t c a=>exact fun _ _=>.li t c a
 |sl ha _ hc kZ ih=>exact fun _ _=>.sl (fun j v hj=>hX _ _ _ (ha j v hj).1 (ha j v hj).2) (ih (by simp[D.refs]) (.inr rfl)) hc kZ
 | @vs id n cp a h=>
  intro hr hy;refine .vs fun v e b lo hi hv=>?_;have hc:=hr id (by simp[D.refs]);rw[hv]at hc;cases ho:X.ρ id with
  |none=>rw[ho]at hc;simp[Qo]at hc
  |some l=>
   rw[ho]at hc;cases l with
   |var b t=>simp[Qo]at hc
   |map b0=>simp[Qo]at hc
   |ek _=>simp[Qo]at hc
   |cj v0 e0 b0 rD rq=>
    simp only[Qo]at hc;have:=h _ _ _ _ _ ho;refine⟨by omega,fun hl=>?_⟩;have e1:=hc.2.2 (by omega);rw[e1];exact this.2 (by omega)
 | @ptr id p a h=>
  intro hr hy;refine .ptr fun b t hv=>?_;have hc:=hr id (by simp[D.refs]);rw[hv]at hc;cases ho:X.ρ id with
  |none=>rw[ho]at hc;simp[Qo]at hc
  |some l=>
   rw[ho]at hc;cases l with
   |var b0 t0=>
    simp only[Qo,Loc.var.injEq]at hc;obtain⟨rfl,rfl⟩:=hc;exact h _ _ ho
   |cj v0 e0 b0 rD rq=>simp[Qo]at hc
   |map b0=>simp[Qo]at hc
   |ek _=>simp[Qo]at hc
 | @jR ta id lo n cp p ao h hs hw=>
  intro hr hy;refine .jR (fun b t hv=>?_) hs (fun v e b lo hi hv=>?_)
  ·have hc:=hr id (by simp[D.refs]);rw[hv]at hc;cases ho:X.ρ id with
   |none=>rw[ho]at hc;simp[Qo]at hc
   |some l=>
    rw[ho]at hc;cases l with
    |var b0 t0=>
     simp only[Qo,Loc.var.injEq]at hc;obtain⟨rfl,rfl⟩:=hc;exact h _ _ ho
    |cj v0 e0 b0 rD rq=>simp[Qo]at hc
    |map b0=>simp[Qo]at hc
    |ek _=>simp[Qo]at hc
  ·have hc:=hr id (by simp[D.refs]);rw[hv]at hc;cases ho:X.ρ id with
   |none=>rw[ho]at hc;simp[Qo]at hc
   |some l=>
    rw[ho]at hc;cases l with
    |var b t=>simp[Qo]at hc
    |map b0=>simp[Qo]at hc
    |ek _=>simp[Qo]at hc
    |cj v0 e0 b0 rD rq=>
     simp only[Qo]at hc;have:=hw _ _ _ _ _ ho;refine⟨by omega,fun hl=>?_⟩;have e1:=hc.2.2 (by omega);rw[e1,hc.1];exact this.2 (by omega)
 | @fx id n i p a h=>
  intro hr hy;refine .fx fun v e b lo hi hv=>?_;have hc:=hr id (by simp[D.refs]);rw[hv]at hc;cases ho:X.ρ id with
  |none=>rw[ho]at hc;simp[Qo]at hc
  |some l=>
   rw[ho]at hc;cases l with
   |var b t=>simp[Qo]at hc
   |map b0=>simp[Qo]at hc
   |ek _=>simp[Qo]at hc
   |cj v0 e0 b0 rD rq=>
    simp only[Qo]at hc;have:=h _ _ _ _ _ ho;refine⟨by omega,fun hl=>?_⟩;have e1:=hc.2.2 (by omega);rw[e1,hc.1];exact this.2 (by omega)
 |dS ha _ ih=>
  intro hr hy;exact .dS (fun j v hj=>hX _ _ _ (ha j v hj).1 (ha j v hj).2) (ih (by simpa[D.refs]using hr) hy)
 |fw=>exact fun _ _=>.fw
 |fY ha _ hn h1 hc ih=>
  intro hr hy;exact .fY (fun j v hj=>hX _ _ _ (ha j v hj).1 (ha j v hj).2) (ih (by simpa[D.refs]using hr) hy) hn (by rw[D.tH];exact h1) hc
 | @ku id r h=>
  intro hr hy;refine .ku fun s hv=>?_;have hc:=hr id (by simp[D.refs]);rw[hv]at hc;cases ho:X.ρ id with
  |none=>rw[ho]at hc;simp[Qo]at hc
  |some l=>
   rw[ho]at hc;cases l with
   |ek s0=>
    simp only[Qo,Loc.ek.injEq]at hc;obtain rfl:=hc;exact h _ ho
   |_=>simp[Qo]at hc
 | @mp id b h=>
  intro hr hy;refine .mp fun b' hv=>?_;have hc:=hr id (by simp[D.refs]);rw[hv]at hc;cases ho:X.ρ id with
  |none=>rw[ho]at hc;simp[Qo]at hc
  |some l=>
   rw[ho]at hc;cases l with
   |map b0=>
    simp only[Qo,Loc.map.injEq]at hc;obtain rfl:=hc;exact h _ ho
   |_=>simp[Qo]at hc
 |fn _ ih=>exact fun hr hy=>.fn (ih (by simpa[D.refs]using hr) hy)
 |cD=>exact fun _ _=>.cD
 |gz=>exact fun _ _=>.gz
 |bm _ fU ih=>exact fun hr hy=>.bm (ih (by simpa[D.refs]using hr) hy) (by rw[D.kX];exact fU)
 | @yl nt l id dW ps jC body fC rec hw hs _ ih=>
  intro hr hy;rcases hy with hy|hy
  ·refine .yl (fun s hv=>?_) hs (ih (fun i hi=>hr i (by simp[D.refs,hi])) (.inl hy));have hc:=hr id (by simp[D.refs]);rw[hv]at hc;cases ho:X.ρ id with
   |none=>rw[ho]at hc;simp[Qo]at hc
   |some l=>
    rw[ho]at hc;cases l with
    |ek s0=>
     simp only[Qo,Loc.ek.injEq]at hc;obtain rfl:=hc;exact hw _ ho
    |_=>simp[Qo]at hc
  ·cases hy
 |cH _ ih=>exact fun hr hy=>.cH (ih (by simpa[D.refs]using hr) hy)
 |top v=>exact fun _ _=>.top v
 |iV=>exact fun _ _=>.iV
 |jU _ fT _ i1 i2=>
  intro hr hy;simp only[D.refs,aT]at hr;exact .jU (i1 (fun id h=>hr id (.inl h)) (hy.imp id fun h=>by simp only[D.eu,ai]at h;exact h.1)) (by rw[D.kX];exact fT) (i2 (fun id h=>hr id (.inr h)) (hy.imp id fun h=>by simp only[D.eu,ai]at h;exact h.2))
 |ju _ fT _ i1 i2=>
  intro hr hy;simp only[D.refs,aT]at hr;exact .ju (i1 (fun id h=>hr id (.inl h)) (hy.imp id fun h=>by simp only[D.eu,ai]at h;exact h.1)) (by rw[D.kX];exact fT) (i2 (fun id h=>hr id (.inr h)) (hy.imp id fun h=>by simp only[D.eu,ai]at h;exact h.2))
theorem R.eT{X X':Cx}(f:Nat->Nat)(he:∀t x,(T.enc t x).refs=[]/\(T.enc t x).eu=true)(hX:tR X X')
 {m:Bool} {d:D C} {vs:bT} (h:R T X m d vs) (hr:∀id∈d.refs,Qo (X.ρ id) (X'.ρ (f id))):R T X' m (d.eT f) vs :=
 h.FB (y:=true) f he hX.cell (fun _=>trivial) hr (.inl rfl)
theorem R.nA{X X':Cx}(f:Nat->Nat)(he:∀t x,(T.enc t x).refs=[]/\(T.enc t x).eu=true)(hX:∀b o v,X.w.cell? ⟨b,o,none⟩=some v->X.free b o->X'.w.cell? ⟨b,o,none⟩=some v/\X'.free b o)
 {m:Bool} {d:D C} {vs:bT} (h:R T X m d vs) (hn:d.eu=true) (hr:∀id∈d.refs,Qo (X.ρ id) (X'.ρ (f id))):R T X' m (d.eT f) vs :=
 h.FB (y:=false) f he hX (fun h=>by cases h) hr (.inr hn)
theorem RV.eT{X X':Cx}(f:Nat->Nat)(he:∀t x,(T.enc t x).refs=[]/\(T.enc t x).eu=true)(hX:tR X X')
 {d:D C} {v:Value} (h:RV T X d v) (hr:∀id∈d.refs,Qo (X.ρ id) (X'.ρ (f id))):RV T X' (d.eT f) v:=by
 rcases h with⟨h1,cs,h2,h3⟩|⟨h1,h2⟩
 ·exact .inl ⟨by rw[D.kX];exact h1,cs,h2.eT f he hX hr,h3⟩
 ·exact .inr ⟨by rw[D.kX];exact h1,h2.eT f he hX hr⟩
def Cx.part(X:Cx)(k:Nat)(f:Nat->Nat):Cx :=
 ⟨X.w,fun j=>if j<k then X.ρ (f j)else none,fun b o=>X.O b o\/(X.dI b o/\∀j,j<k->∀l,X.ρ (f j)=some l->¬l.owns b o)⟩
theorem Cx.iw{X:Cx}{k:Nat}{f:Nat->Nat}{b o:Nat}:(X.part k f).dI b o↔∃j l,j<k/\X.ρ (f j)=some l/\l.owns b o:=by
 constructor
 ·rintro ⟨j,l,h1,h2⟩
  simp only[Cx.part]at h1
  split at h1
  ·exact⟨j,l,by assumption,h1,h2⟩
  ·cases h1
 ·rintro ⟨j,l,h0,h1,h2⟩
  exact⟨j,l,by simp[Cx.part,h0,h1],h2⟩
theorem Cx.mi{X:Cx}{k:Nat}{f:Nat->Nat}{b o:Nat}:(X.part k f).free b o↔X.free b o:=by
 constructor
 ·rintro ⟨h1,h2⟩
  refine⟨fun h=>h1 (.inl h),fun hm=>?_⟩
  by_cases hq:∃j l,j<k/\X.ρ (f j)=some l/\l.owns b o
  ·exact h2 (Cx.iw.2 hq)
  ·exact h1 (.inr ⟨hm,fun j hj l hl ho=>hq ⟨j,l,hj,hl,ho⟩⟩)
 ·rintro ⟨h1,h2⟩
  refine⟨fun h=>h.elim h1 fun h=>h2 h.1,fun hm=>?_⟩;obtain⟨j,l,_,hl,ho⟩:=Cx.iw.1 hm;exact h2 ⟨f j,l,hl,ho⟩
def ic:Nat->List (Obj C)->Heap C
 |_,[]=>[]
 |n,o::l=>(n,o)::ic (n+1) l
theorem Xt:∀(l:List (Obj C)) (n id:Nat),(ic n l).get id=if n<=id then l[id-n]? else none
 |[],n,id=>by simp[ic,Heap.get]
 |o::l,n,id=>by
  rw[ic,Qz,Xt l (n+1) id]
  by_cases h1:id=n
  ·subst h1;simp
  ·by_cases h2:n<=id
   ·have h3:n+1<=id:=by omega
    have h4:id-n=(id-(n+1))+1:=by omega
    simp[h1,h2,h3,h4]
   ·have h3:¬n+1<=id:=by omega
    simp[h1,h2,h3]
theorem QM(l:List (Obj C))(id:Nat):(ic 0 l).get id=l[id]? := by rw[Xt];simp
structure Part(h:Heap C)(os:List (Obj C))(f:Nat->Nat):Prop where
 ot:∀j o,os[j]? = some o->h.get (f j)=some (o.eT f)
 inj:∀i j,i<os.length->j<os.length->f i=f j->i=j
 refs:∀o∈os,∀r∈Obj.refs o,r<os.length
theorem DS{f:Nat->Nat}{k:Nat}(hi:∀i j,i<k->j<k->f i=f j->i=j):∃g:Nat->Nat,∀j,j<k->g (f j)=j:=by
 classical
 refine⟨fun n=>if h:∃j,j<k/\f j=n then h.choose else 0,fun j hj=>?_⟩;have dX:∃i,i<k/\f i=f j:=⟨j,hj,rfl⟩;simp only[dX,dif_pos];have h1:=dX.choose_spec;exact hi _ _ h1.1 hj h1.2
theorem Part.ctx(L:Laws T){X:Cx}{h:Heap C}{nx:Nat}{lim:eL}(g:G T X h nx lim){os:List (Obj C)}{f:Nat->Nat}(p:Part h os f)(top:Nat):G T (X.part os.length f) (ic 0 os) os.length (eQ top):=by
 obtain⟨fi,mT⟩:=DS p.inj;have hX:tR X (X.part os.length f):=⟨fun b o v h1 h2=>⟨h1,Cx.mi.2 h2⟩⟩;refine⟨?_,?_,?_,?_,?_,?_,?_,?_,?_,aK _,?_⟩
 ·intro id t d ho;rw[QM]at ho;have cY:id<os.length:=(av.1 ho).1;obtain⟨b,c,h1,h2,h3,h4⟩:=g.var (f id) t (d.eT f) (p.ot id _ ho);have hrefs:∀r∈d.refs,r<os.length:=p.refs _ (List.mem_of_getElem? ho);refine⟨b,c,by simp[Cx.part,cY,h1],h2,?_,by rw[xn]at h4;exact h4⟩
  have h5:=h3.eT (X':=X.part os.length f) fi L.iv hX (fun r hr=>by
   rw[D.ft,List.mem_map]at hr;obtain⟨r0,o7,rfl⟩:=hr;have:=hrefs r0 o7;simp only[mT r0 this,Cx.part,this,aU];exact .refl _)
  rwa [D.eH f fi d (fun r hr=>mT r (hrefs r hr))]at h5
 ·intro id t dM l ho;rw[QM]at ho;have cY:id<os.length:=(av.1 ho).1;obtain⟨v,b,lo,hi,h1,h2⟩:=g.cj (f id) t dM l (p.ot id _ ho);refine⟨v,b,lo,hi,by simp[Cx.part,cY,h1],?_⟩;exact h2.move L hX.cell (fun _=>rfl) (L.tD t)
 ·intro id ck cv l ho;rw[QM]at ho;have cY:id<os.length:=(av.1 ho).1;obtain⟨b,es,k,h1,h2,h3⟩:=g.map (f id) ck cv l (p.ot id _ ho);exact⟨b,es,k,by simp[Cx.part,cY,h1],h2,h3.move L hX.cell⟩
 ·intro id cc ho;rw[QM]at ho;have cY:id<os.length:=(av.1 ho).1;obtain⟨s,h1,h2⟩:=g.ek (f id) cc (p.ot id _ ho);exact⟨s,by simp[Cx.part,cY,h1],h2.move L hX.cell fun _ _=>rfl⟩
 ·intro id l hr;simp only[Cx.part]at hr
  split at hr
  ·rename_i cY;rw[QM];simp[cY]
  ·cases hr
 ·intro id o ho;rw[QM]at ho;have cY:id<os.length:=(av.1 ho).1;exact⟨⟨.inl cY,fun h=>h⟩,fun r hr=>⟨.inl (p.refs _ (List.mem_of_getElem? ho) r hr),fun h=>h⟩⟩
 ·intro i j l l' b o o' h1 h2 h3 h4;simp only[Cx.part]at h1 h2
  split at h1
  ·split at h2
   ·exact p.inj i j (by assumption) (by assumption) (g.apart _ _ _ _ _ _ _ h1 h2 h3 h4)
   ·cases h2
  ·cases h1
 ·intro b o hm;obtain⟨j,l,hj,hl,ho⟩:=Cx.iw.1 hm;have:=g.outer b o ⟨_,l,hl,ho⟩;exact⟨fun h=>h.elim this.1 fun h=>h.2 j hj l hl ho,this.2⟩
 ·intro b o ho;exact ho.elim (g.outs b o) fun h=>(g.outer b o h.1).2
 ·exact fun q hq=>⟨(g.pre q hq).1,fun o hm=>by
   obtain⟨j,l,hj,hl,ho⟩:=Cx.iw.1 hm;exact(g.pre q hq).2 o ⟨_,l,hl,ho⟩⟩
theorem Part.back(L:Laws T){X:Cx}{h h':Heap C}{nx:Nat}{lim:eL}(g:G T X h nx lim){os fm:List (Obj C)}{f:Nat->Nat}(p:Part h os f)(dc:fm.length=os.length)(hrefs:∀o∈fm,∀r∈Obj.refs o,r<os.length)
 {X1:Cx} {lim1:eL} (g1:G T X1 (ic 0 fm) os.length lim1) (s1:Step (X.part os.length f) os.length (eQ os.length) X1)
 (iY:∀j o,fm[j]? = some o->h'.get (f j)=some (o.eT f)) (l8:∀id,(∀j,j<os.length->f j≠id)->h'.get id=h.get id) :
 ∃X',X'.w=X1.w/\G T X' h' nx lim/\Step X nx lim X'/\(∀j,j<os.length->X'.ρ (f j)=X1.ρ j)/\∀b o v,X1.w.cell? ⟨b,o,none⟩=some v->X1.free b o->X'.w.cell? ⟨b,o,none⟩=some v/\X'.free b o:=by
 classical
 obtain⟨fi,mT⟩:=DS p.inj
 let X':Cx:=⟨X1.w,fun id=>if ∃j,j<os.length/\f j=id then X1.ρ (fi id)else X.ρ id,X.O⟩
 have qn:∀j,j<os.length->X'.ρ (f j)=X1.ρ j:=fun j hj=>by
  have:∃i,i<os.length/\f i=f j:=⟨j,hj,rfl⟩;simp only[X',this,aU,mT j hj]
 have pR:∀id,(∀j,j<os.length->f j≠id)->X'.ρ id=X.ρ id:=fun id dU=>by
  have:¬ ∃j,j<os.length/\f j=id:=fun⟨j,hj,e⟩=>dU j hj e;simp only[X',this,aL]
 have kn:∀id,(∃j,j<os.length/\f j=id)\/(∀j,j<os.length->f j≠id):=fun id=>by
  by_cases hq:∃j,j<os.length/\f j=id
  ·exact .inl hq
  ·exact .inr fun j hj e=>hq ⟨j,hj,e⟩
 have gp:=Part.ctx L g p os.length
 -- Rx vI ej dM
 have hA:∀id l b o,(∀j,j<os.length->f j≠id)->X.ρ id=some l->l.owns b o->b<X.w.heap.size/\(X.part os.length f).O b o/\∀o',¬(X.part os.length f).dI b o':=by
  intro id l b o dU hl ho;have gT:∀j,j<os.length->∀l',X.ρ (f j)=some l'->∀o',¬l'.owns b o':=fun j hj l' kR o' gU=>dU j hj (g.apart _ _ _ _ _ _ _ kR hl gU ho);refine⟨(g.outer b o ⟨id,l,hl,ho⟩).2,.inr ⟨⟨id,l,hl,ho⟩,fun j hj l' kR=>gT j hj l' kR o⟩,fun o' hm=>?_⟩;obtain⟨j,l',hj,kR,gU⟩:=Cx.iw.1 hm;exact gT j hj l' kR o' gU
 have gu:∀b o,X'.dI b o->X1.dI b o\/∃id l,(∀j,j<os.length->f j≠id)/\X.ρ id=some l/\l.owns b o:=by
  rintro b o ⟨id,l,h1,h2⟩
  rcases kn id with⟨j,hj,rfl⟩|dU
  ·rw[qn j hj]at h1;exact .inl ⟨j,l,h1,h2⟩
  ·rw[pR id dU]at h1;exact .inr ⟨id,l,dU,h1,h2⟩
 have hB:∀b o,X1.free b o->X'.free b o:=by
  rintro b o ⟨h1,h2⟩
  have hO:X1.O=(X.part os.length f).O:=s1.O;refine⟨fun h3=>h1 (by rw[hO];exact .inl h3),fun hm=>?_⟩;rcases gu b o hm with h3|⟨id,l,h3,h4,h5⟩
  ·exact h2 h3
  ·exact h1 (by rw[hO];exact(hA id l b o h3 h4 h5).2.1)
 have Ct:∀b o v,X1.w.cell? ⟨b,o,none⟩=some v->X1.free b o->X'.w.cell? ⟨b,o,none⟩=some v/\X'.free b o:=fun b o v h1 h2=>⟨h1,hB b o h2⟩
 have hC:∀b o v,X.w.cell? ⟨b,o,none⟩=some v->X.free b o->X'.w.cell? ⟨b,o,none⟩=some v/\X'.free b o:=by
  intro b o v h1 h2;have:=s1.keeps.cell b o v h1 (Cx.mi.2 h2);exact Ct b o v this.1 this.2
 have gD:∀j,j<os.length->fL os.length (eQ os.length) j:=fun j hj=>⟨.inl hj,fun h=>h⟩
 have hD:∀id,Qo (X.ρ id) (X'.ρ id):=by
  intro id;rcases kn id with⟨j,hj,rfl⟩|dU
  ·rw[qn j hj];have:=s1.ρ j (gD j hj)
   simpa[Cx.part,hj]using this
  ·rw[pR id dU];exact .refl _
 have kQ:∀id l b o,(∀j,j<os.length->f j≠id)->X.ρ id=some l->l.owns b o->X'.w.heap[b]? = X.w.heap[b]? := fun id l b o h1 h2 h3=>by
  obtain⟨a1,a2,a3⟩:=hA id l b o h1 h2 h3;exact s1.block b a1 a3
 have dK:∀j,j<os.length->∃o,h.get (f j)=some o:=fun j hj=>⟨_,p.ot j os[j] (by simp[hj])⟩
 have hs:Step X nx lim X':=by
  refine⟨rfl,s1.os,s1.tape,s1.output,s1.size,fun id _=>hD id,?_,?_,?_,s1.frz⟩
  ·intro b o hb hm;rcases gu b o hm with h3|⟨id,l,h3,h4,h5⟩
   ·obtain⟨j,l,hj,hl,ho⟩:=Cx.iw.1 (s1.dI b o hb h3);exact⟨f j,l,hl,ho⟩
   ·exact⟨id,l,h4,h5⟩
  ·intro b o hb hm
   exact s1.cell b o hb fun hq=>by
    obtain⟨j,l,hj,hl,ho⟩:=Cx.iw.1 hq;exact hm ⟨f j,l,hl,ho⟩
  ·intro b hb hm
   exact s1.block b hb fun o hq=>by
    obtain⟨j,l,hj,hl,ho⟩:=Cx.iw.1 hq;exact hm o ⟨f j,l,hl,ho⟩
 refine⟨X',rfl,⟨?_,?_,?_,?_,?_,?_,?_,?_,?_,g.low,g.pre.step hs⟩,hs,qn,Ct⟩
 ·intro id t d ho;rcases kn id with⟨j,hj,rfl⟩|dU
  ·have e1:fm[j]? = some fm[j]:=by simp[dc,hj]
   have e2:=iY j _ e1;rw[ho]at e2
   have e3:∃d0,fm[j]=.var t d0/\d=d0.eT f:=by
    cases hq:fm[j]with
    |var t0 d0=>rw[hq]at e2;simp[Obj.eT]at e2;exact⟨d0,by rw[e2.1],e2.2⟩
    |cj t0 Fy l0=>rw[hq]at e2;simp[Obj.eT]at e2
    |map _ _ _=>rw[hq]at e2;simp[Obj.eT]at e2
    |ek _=>rw[hq]at e2;simp[Obj.eT]at e2
   obtain⟨d0,e4,rfl⟩:=e3;rw[e4]at e1;obtain⟨b,c,h1,h2,h3,h4⟩:=g1.var j t d0 (by rw[QM];exact e1);refine⟨b,c,by rw[qn j hj];exact h1,h2,?_,by rw[xn];exact h4⟩;refine h3.nA f L.iv Ct (Ji _ _ h4) fun r hr=>?_;rw[qn r (hrefs _ (List.mem_of_getElem? e1) r hr)];exact .refl _
  ·rw[l8 id dU]at ho;obtain⟨b,c,h1,h2,h3,h4⟩:=g.var id t d ho;refine⟨b,c,by rw[pR id dU];exact h1,by rw[kQ id _ b 0 dU h1 rfl];exact h2,h3.qS T (y:=false) L.iv hC (fun h=>by cases h) (fun r hr=>hD r) (.inr (Ji _ _ h4)),h4⟩
 ·intro id t dM l ho;rcases kn id with⟨j,hj,rfl⟩|dU
  ·have e1:fm[j]? = some fm[j]:=by simp[dc,hj]
   have e2:=iY j _ e1;rw[ho]at e2
   have e3:fm[j]=.cj t dM l:=by
    cases hq:fm[j]with
    |var t0 d0=>rw[hq]at e2;simp[Obj.eT]at e2
    |cj t0 Fy l0=>rw[hq]at e2;simp only[Obj.eT,aD]at e2;exact e2.symm
    |map _ _ _=>rw[hq]at e2;simp[Obj.eT]at e2
    |ek _=>rw[hq]at e2;simp[Obj.eT]at e2
   rw[e3]at e1;obtain⟨v,b,lo,hi,h1,h2⟩:=g1.cj j t dM l (by rw[QM];exact e1);exact⟨v,b,lo,hi,by rw[qn j hj];exact h1,h2.move L Ct (fun _=>rfl) (L.tD t)⟩
  ·rw[l8 id dU]at ho;obtain⟨v,b,lo,hi,h1,h2⟩:=g.cj id t dM l ho;exact⟨v,b,lo,hi,by rw[pR id dU];exact h1,h2.move L hC (fun⟨o,gU⟩=>kQ id _ b o dU h1 gU) (L.tD t)⟩
 ·intro id ck cv l ho;rcases kn id with⟨j,hj,rfl⟩|dU
  ·have e1:fm[j]? = some fm[j]:=by simp[dc,hj]
   have e2:=iY j _ e1;rw[ho]at e2
   have e3:fm[j]=.map ck cv l:=by
    cases hq:fm[j]with
    |var t0 d0=>rw[hq]at e2;simp[Obj.eT]at e2
    |cj t0 Fy l0=>rw[hq]at e2;simp[Obj.eT]at e2
    |map _ _ _=>rw[hq]at e2;simp only[Obj.eT,aD]at e2;exact e2.symm
    |ek _=>rw[hq]at e2;simp only[Obj.eT,aD]at e2;exact e2.symm
   rw[e3]at e1;obtain⟨b,es,k,h1,h2,h3⟩:=g1.map j ck cv l (by rw[QM];exact e1);exact⟨b,es,k,by rw[qn j hj];exact h1,h2,h3.move L Ct⟩
  ·rw[l8 id dU]at ho;obtain⟨b,es,k,h1,h2,h3⟩:=g.map id ck cv l ho;exact⟨b,es,k,by rw[pR id dU];exact h1,by rw[kQ id _ b 0 dU h1 rfl];exact h2,h3.move L hC⟩
 ·intro id cc ho;rcases kn id with⟨j,hj,rfl⟩|dU
  ·have e1:fm[j]? = some fm[j]:=by simp[dc,hj]
   have e2:=iY j _ e1;rw[ho]at e2
   have e3:fm[j]=.ek cc:=by
    cases hq:fm[j]<;>rw[hq]at e2<;>simp[Obj.eT]at e2
    rw[e2]
   rw[e3]at e1;obtain⟨s,h1,h2⟩:=g1.ek j cc (by rw[QM];exact e1);exact⟨s,by rw[qn j hj];exact h1,h2.move L Ct fun _ _=>rfl⟩
  ·rw[l8 id dU]at ho;obtain⟨s,h1,h2⟩:=g.ek id cc ho;exact⟨s,by rw[pR id dU];exact h1,h2.move L hC fun b hb=>kQ id _ b 0 dU h1 hb⟩
 ·intro id l hr;rcases kn id with⟨j,hj,rfl⟩|dU
  ·rw[iY j fm[j] (by simp[dc,hj])];rfl
  ·rw[pR id dU]at hr;rw[l8 id dU];exact g.kg id l hr
 ·intro id o ho;rcases kn id with⟨j,hj,rfl⟩|dU
  ·obtain⟨o0,h0⟩:=dK j hj;have e1:fm[j]? = some fm[j]:=by simp[dc,hj]
   have e2:=iY j _ e1;rw[ho]at e2;simp only[aD]at e2;refine⟨(g.eY _ _ h0).1,fun r hr=>?_⟩;rw[e2,Obj.ft,List.mem_map]at hr;obtain⟨r0,o7,rfl⟩:=hr;obtain⟨o1,h1⟩:=dK r0 (hrefs _ (List.mem_of_getElem? e1) r0 o7);exact(g.eY _ _ h1).1
  ·rw[l8 id dU]at ho;exact g.eY id o ho
 ·intro i i' l l' b o o' h1 h2 h3 h4;rcases kn i with⟨j,hj,rfl⟩|dU
  ·rcases kn i' with⟨j',mr,rfl⟩|u5
   ·rw[qn j hj]at h1;rw[qn j' mr]at h2;rw[g1.apart j j' l l' b o o' h1 h2 h3 h4]
   ·rw[qn j hj]at h1;rw[pR i' u5]at h2;obtain⟨a1,a2,a3⟩:=hA i' l' b o' u5 h2 h4;exact(a3 o (s1.dI b o a1 ⟨j,l,h1,h3⟩)).elim
  ·rcases kn i' with⟨j',mr,rfl⟩|u5
   ·rw[pR i dU]at h1;rw[qn j' mr]at h2;obtain⟨a1,a2,a3⟩:=hA i l b o dU h1 h3;exact(a3 o' (s1.dI b o' a1 ⟨j',l',h2,h4⟩)).elim
   ·rw[pR i dU]at h1;rw[pR i' u5]at h2;exact g.apart i i' l l' b o o' h1 h2 h3 h4
 ·intro b o hm;rcases gu b o hm with h3|⟨id,l,h3,h4,h5⟩
  ·have:=g1.outer b o h3;exact⟨fun h=>this.1 (by rw[s1.O];exact .inl h),this.2⟩
  ·have:=g.outer b o ⟨id,l,h4,h5⟩;exact⟨this.1,bj this.2 s1.size⟩
 ·intro b o ho;exact bj (g.outs b o ho) s1.size
def nA(f:Nat->Nat)(env:Env C):Env C:=env.map fun p=>(p.1,p.2.eT f)
theorem Xu(f:Nat->Nat):∀(env:Env C) (t:Nat),c8 (nA f env) t=(c8 env t).eT f
 |[],t=>rfl
 |(j,d)::r,t=>by
  show c8 ((j,d.eT f)::nA f r) t=_;rw[QP,QP,Xu f r t]
  split<;>rfl
theorem QE.part(L:Laws T){X:Cx}{nx:Nat}{lim:eL}{env fe:Env C}{tmps:b7}{k top:Nat}{f:Nat->Nat}(he:QE T X nx lim env tmps)(yw:∀i j,i<k->j<k->f i=f j->i=j)
 (hs:∀q∈fe,c8 env q.1=q.2.eT f) (hr:∀q∈fe,∀r∈q.2.refs,r<k):QE T (X.part k f) k (eQ top) fe tmps:=by
 obtain⟨fi,mT⟩:=DS yw;intro t;rcases iL fe t with h|h
 ·rw[h];exact RO.mk (RV.top _ _ _) rfl
 ·have oE:∀r∈(c8 fe t).refs,r<k:=hr _ h;refine⟨?_,fun r hh=>⟨.inl (oE r hh),fun h=>h⟩⟩;have h1:=(he t).1;have h2:=hs _ h;simp only at h2;rw[h2]at h1
  have h3:=RV.eT (X:=X) (X':=X.part k f) fi L.iv (h:=h1) ⟨fun b o v a1 a2=>⟨a1,Cx.mi.2 a2⟩⟩ (fun r hh=>by
   rw[D.ft,List.mem_map]at hh;obtain⟨r0,o7,rfl⟩:=hh;have:=oE r0 o7;simp only[mT r0 this,Cx.part,this,aU];exact .refl _)
  rwa [D.eH f fi _ (fun r hh=>mT r (oE r hh))]at h3
theorem QE.back(L:Laws T){X1 X':Cx}{nx k:Nat}{lim lim1:eL}{env:Env C}{tmps:b7}{f:Nat->Nat}(he:QE T X1 k lim1 env tmps)(hr:∀q∈env,∀r∈q.2.refs,r<k)
 (hρ:∀j,j<k->X'.ρ (f j)=X1.ρ j) (hB:tR X1 X') (gD:∀j,j<k->fL nx lim (f j)):QE T X' nx lim (nA f env) tmps:=by
 intro t;rw[Xu]
 have oE:∀r∈(c8 env t).refs,r<k:=by
  rcases iL env t with h|h
  ·rw[h];simp[D.refs]
  ·exact hr _ h
 refine⟨(he t).1.eT f L.iv hB fun r hh=>?_,fun r hh=>?_⟩
 ·rw[hρ r (oE r hh)];exact .refl _
 ·rw[D.ft,List.mem_map]at hh;obtain⟨r0,o7,rfl⟩:=hh;exact gD r0 (oE r0 o7)
end
def dw{α:Type}(o:Option α)(p:α->Prop):Prop:=∃r,o=some r/\p r
theorem Yc{α:Type}{c:Bool}{x y:Option α}{p:α->Prop}:dw (cond c x y) p↔(c=true->dw x p)/\(c=false->dw y p):=by
 cases c<;>simp
theorem Gp{α:Type}{a:α}{p:α->Prop}:dw (some a) p↔p a:=by simp[dw]
section
variable {C:ij}{P:Program}{T:fA C}{Φ:jv C}
open Pg (Ex)
def J9(Φ:jv C)(g:FuncId):List Code:=match Φ.fn g with
 |some fn=>match fn.body with
  |some b=>Zi b
  |none=>[]
 |none=>[]
def KF(Φ:jv C)(g key:Nat):Code:=((J9 Φ g).find? fun b=>Nat.beq (QF b) key).getD .skip
def GH(k:Nat):List Code->Bool
 |[]=>true
 |b::l=>!(Nat.beq (QF b) k)&&GH k l
def uD:List Code->Bool
 |[]=>true
 |b::l=>GH (QF b) l&&uD l
theorem Tp{k:Nat}:∀{l:List Code},GH k l=true->∀b∈l,QF b≠k
 |[],_,b,hb=>by simp at hb
 |c::l,h,b,hb=>by
  simp only[GH,ai,Bool.not_eq_true']at h;simp only[aZ]at hb;rcases hb with rfl|hb
  ·exact Nat.ne_of_beq_eq_false h.1
  ·exact Tp h.2 b hb
theorem Um{k:Nat}:∀{l:List Code},uD l=true->∀b∈l,QF b=k->l.find? (fun b=>Nat.beq (QF b) k)=some b
 |[],_,b,hb,_=>by simp at hb
 |c::l,h,b,hb,hk=>by
  simp only[uD,ai]at h;simp only[aZ]at hb;rcases hb with rfl|hb
  ·simp[hk]
  ·have gm:=Tp h.1 b hb;have:Nat.beq (QF c) k=false:=mZ (by rw[<-hk];exact fun e=>gm e.symm);simp only[List.find?_cons,this];exact Um h.2 b hb hk
theorem Ms{g key:Nat}(hk:uD (J9 Φ g)=true){fn:Func}{body b:Code}(hf:Φ.fn g=some fn)(hb:fn.body=some body)(hm:b∈Zi body)(j9:QF b=key):KF Φ g key=b:=by
 have:J9 Φ g=Zi body:=by simp[J9,hf,hb]
 rw[KF,this,Um (by rw[<-this];exact hk) b hm j9];rfl
def qT:bU->Env C->Env C
 |[],_=>[]
 |k::l,env=>(k,c8 env k)::qT l env
def cut(kc kf:bU)(r:Ev.X×Env C):Ev.X×Env C:=match r.1 with
 |.normal=>(.normal,qT kc r.2)
 |x=>(x,qT kf r.2)
theorem KG:∀(l:bU) (env:Env C),Sub env (qT l env)
 |[],env,p,hp=>by simp[qT]at hp
 |k::l,env,p,hp=>by
  simp only[qT,aZ]at hp;rcases hp with rfl|hp
  ·rfl
  ·exact KG l env p hp
end
theorem cu{n:Int}(h1:-9223372036854775808<=n)(h2:n<=9223372036854775807):IntKind.i64.wrap n=n:=by
 simp only[IntKind.wrap,IntKind.bits,IntKind.signed];simp;omega
theorem fa (i:Nat)(h:i<9223372036854775807):IntKind.i64.wrap ((i:Int)+1)=((i+1:Nat):Int):=by rw[cu (by omega) (by omega)];simp
def qY{α:Type}(one:α->Bool)(two:α->α->Bool):Option α->List α->Bool
 |_,[]=>true
 |p,x::l=>one x&&(match p with|none=>true|some y=>two y x)&&qY one two (some x) l
def D8{α:Type}(l:List α)(i:Nat):Option α:=match i with
 |0=>none
 |i+1=>l[i]?
end Go.Ev
