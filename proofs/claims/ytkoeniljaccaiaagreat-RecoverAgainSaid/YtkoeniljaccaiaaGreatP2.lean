/-
  A part of the proof of a statement of this seat: the model is run over values by content, proved sound; what the functions come to. No condition beyond the given statements. (text 3)
-/
import Derived.Test.YtkoeniljaccaiaaGreatP1
import Derived.LoopN
import Derived.Test.YtkoeniljaccaiaaGreatProg
import Derived.KernelRfl
noncomputable section
namespace Go.Ev
set_option linter.unusedVariables false
set_option linter.unusedSimpArgs false
section
variable {C:gR}
open Pg (Ex)
namespace Pg
theorem Ex.yC{α:Type}{p:Pg C α}:∀{e:Lv} {h:Heap C} {n:Nat} {a:α} {h':Heap C} {n':Nat} {t:Tr},Ex e p h n a h' n' t ->
 (∀id w,(id,w)∈t->(h.get id).isSome=true\/(n<=id/\id<n'))/\(∀id,h.get id=none->(h'.get id).isSome=true->n<=id/\id<n'/\(id,true)∈t):=by
 induction p with
 |ret a=>
  intro e h n a' h' n' t hx;obtain⟨rfl,rfl,rfl,rfl⟩:=Ex.ret hx;exact⟨fun id w hm=>by simp at hm,fun id h1 h2=>by simp[h1]at h2⟩
 |fail=>intro e h n a' h' n' t hx;exact Ex.cB hx
 |br b x y ix iy=>
  intro e h n a' h' n' t hx;rcases Ex.br hx with⟨hb,hx⟩|⟨hb,hx⟩
  ·exact ix hx
  ·exact iy hx
 |rd id f ih=>
  intro e h n a' h' n' t hx;obtain⟨o,t',ho,hy,rfl⟩:=Ex.rd hx;obtain⟨h1,h2⟩:=ih o hy;refine⟨fun i w hm=>?_,fun i h3 h4=>?_⟩
  ·simp only[aT,bE,Prod.mk.injEq]at hm;rcases hm with hm|⟨rfl,rfl⟩
   ·exact h1 i w hm
   ·exact .inl (by simp[ho])
  ·obtain⟨q1,q2,q3⟩:=h2 i h3 h4;exact⟨q1,q2,by simp[q3]⟩
 |wr id o f ih=>
  intro e h n a' h' n' t hx;obtain⟨o',t',ho,hy,rfl⟩:=Ex.wr hx;have hs:(h.get id).isSome=true:=by simp[ho]
  obtain⟨h1,h2⟩:=ih hy;refine⟨fun i w hm=>?_,fun i h3 h4=>?_⟩
  ·simp only[aT,bE,Prod.mk.injEq]at hm;rcases hm with hm|⟨rfl,rfl⟩
   ·have:=h1 i w hm;rw[Qv hs]at this
    by_cases he:i=id
    ·subst he;exact .inl hs
    ·simpa[he]using this
   ·exact .inl hs
  ·have fg:i≠id:=by rintro rfl;simp[h3]at hs
   obtain⟨q1,q2,q3⟩:=h2 i (by rw[Qv hs];simp[fg,h3]) h4;exact⟨q1,q2,by simp[q3]⟩
 |nw o f ih=>
  intro e h n a' h' n' t hx;obtain⟨t',hy,rfl⟩:=Ex.nw hx;have hle:=Ex.le hy;obtain⟨h1,h2⟩:=ih n hy;refine⟨fun i w hm=>?_,fun i h3 h4=>?_⟩
  ·simp only[aT,bE,Prod.mk.injEq]at hm;rcases hm with hm|⟨rfl,rfl⟩
   ·have:=h1 i w hm;rw[Qy]at this
    by_cases he:i=n
    ·exact .inr (by omega)
    ·simp only[he,aL]at this;rcases this with h|h
     ·exact .inl h
     ·exact .inr (by omega)
   ·exact .inr (by omega)
  ·by_cases he:i=n
   ·subst he;exact⟨by omega,by omega,by simp⟩
   ·obtain⟨q1,q2,q3⟩:=h2 i (by rw[Qy];simp[he,h3]) h4;exact⟨by omega,q2,by simp[q3]⟩
 |dl id f ih=>
  intro e h n a' h' n' t hx;obtain⟨o',t',ho,hy,rfl⟩:=Ex.dl hx;obtain⟨h1,h2⟩:=ih hy;refine⟨fun i w hm=>?_,fun i h3 h4=>?_⟩
  ·simp only[aT,bE,Prod.mk.injEq]at hm;rcases hm with hm|⟨rfl,rfl⟩
   ·have:=h1 i w hm;rw[Zn]at this
    by_cases he:i=id
    ·subst he;exact .inl (by simp[ho])
    ·simpa[he]using this
   ·exact .inl (by simp[ho])
  ·obtain⟨q1,q2,q3⟩:=h2 i (by rw[Zn];simp[h3]) h4;exact⟨q1,q2,by simp[q3]⟩
 |oY f ih=>intro e h n a' h' n' t hx;exact ih _ _ (Ex.oY hx)
 |upto m f ih=>
  intro e h n a' h' n' t hx;obtain⟨hm,hx⟩:=Ex.upto hx;obtain⟨h1,h2⟩:=ih hx;refine⟨fun i w hi=>?_,fun i h3 h4=>?_⟩
  ·rcases h1 i w hi with h|h
   ·exact .inl h
   ·exact .inr (by omega)
  ·obtain⟨q1,q2,q3⟩:=h2 i h3 h4;exact⟨by omega,q2,q3⟩
 |gc lo iC f ih=>
  intro e h n a' h' n' t hx;obtain⟨hm,hx⟩:=Ex.gc hx;obtain⟨h1,h2⟩:=ih hx;refine⟨fun i w hi=>?_,fun i h3 h4=>?_⟩
  ·have:=h1 i w hi;rw[VN]at this
   split at this
   ·exact .inr (by simpa using this)
   ·exact this
  ·exact h2 i (by rw[VN];split<;>simp[h3]) h4
 |sub p f ip ik=>
  intro e h n a' h' n' t hx;obtain⟨v,h1,n1,t1,t2,hp,hy,rfl⟩:=Ex.sub hx;have l1:=Ex.le hp;have l2:=Ex.le hy;obtain⟨p1,p2⟩:=ip hp;obtain⟨k1,k2⟩:=ik _ _ hy;refine⟨fun i w hi=>?_,fun i h3 h4=>?_⟩
  ·simp only[aT]at hi;rcases hi with hi|hi
   ·rcases k1 i w hi with hq|hq
    ·cases hh:h.get i with
     |some o=>exact .inl rfl
     |none=>have:=p2 i hh hq;exact .inr (by omega)
    ·exact .inr (by omega)
   ·rcases p1 i w hi with h|h
    ·exact .inl h
    ·exact .inr (by omega)
  ·by_cases hs:(h1.get i).isSome=true
   ·have:=p2 i h3 hs;exact⟨by omega,by omega,by simp[this.2.2]⟩
   ·have:=k2 i (by simpa using hs) h4;exact⟨by omega,by omega,by simp[this.2.2]⟩
end Pg
variable {P:Program}{T:fh C}
def sv(ops:cO)(i j:Nat):Prop:=((Region.before ops).getD j 0).testBit i=true
theorem ql{A:Array Nat}{i k:Nat}(es:List Edge):∀(s:Nat),(es.foldl (fun s e=>if Region.binds .any e then s|||2^e.on|||A.getD e.on 0 else s) s).testBit i=true ->
 s.testBit i=true\/∃e∈es,Region.binds .any e=true/\(e.on=i\/(A.getD e.on 0).testBit i=true):=by
 induction es with
 |nil=>intro s h;exact .inl h
 |cons e es ih=>
  intro s h;rw[List.foldl_cons]at h;rcases ih _ h with h|⟨e',h1,h2,h3⟩
  ·by_cases hb:Region.binds .any e=true
   ·simp only[hb,aU,Nat.testBit_or,Bool.or_eq_true,Nat.testBit_two_pow,aa]at h;rcases h with(h|h)|h
    ·exact .inl h
    ·exact .inr ⟨e,by simp,hb,.inl h⟩
    ·exact .inr ⟨e,by simp,hb,.inr h⟩
   ·simp only[hb]at h;exact .inl h
  ·exact .inr ⟨e',by simp[h1],h2,h3⟩
theorem Qp8(ops:cO):∀(l pre:fQ) (A:Array Nat),ops.toList=pre++l->A.size=pre.length ->
 (∀k i,(A.getD k 0).testBit i=true->∃o e,ops[k]? = some o/\e∈o.after/\Region.binds .any e=true/\(e.on=i\/(e.on<k/\(A.getD e.on 0).testBit i=true))) ->
 ∀k i,((l.foldl (fun acc o=>acc.push (o.after.foldl (fun s e=>if Region.binds .any e then s|||2^e.on|||acc.getD e.on 0 else s) 0)) A).getD k 0).testBit i=true ->
  ∃o e,ops[k]? = some o/\e∈o.after/\Region.binds .any e=true/\(e.on=i\/(e.on<k/\((l.foldl (fun acc o=>acc.push (o.after.foldl (fun s e=>if Region.binds .any e then s|||2^e.on|||acc.getD e.on 0 else s) 0)) A).getD e.on 0).testBit i=true)):=by
 intro l
 induction l with
 |nil=>intro pre A h1 h2 h3;simpa using h3
 |cons o l ih=>
  intro pre A h1 h2 h3;rw[List.foldl_cons];refine ih (pre++[o]) _ (by simp[h1]) (by simp[h2]) ?_;intro k i hk
  have iq:∀j,(A.push (o.after.foldl (fun s e=>if Region.binds .any e then s|||2^e.on|||A.getD e.on 0 else s) 0)).getD j 0=if j=A.size then(o.after.foldl (fun s e=>if Region.binds .any e then s|||2^e.on|||A.getD e.on 0 else s) 0)else A.getD j 0:=by
   intro j;simp only[Array.getD_eq_getD_getElem?,Array.getElem?_push]
   split<;>simp
  have hA:∀j i,(A.getD j 0).testBit i=true->j<A.size:=by
   intro j i h;rcases Nat.lt_or_ge j A.size with h'|h'
   ·exact h'
   ·simp[Array.getD_eq_getD_getElem?,Array.getElem?_eq_none h']at h
  rw[iq]at hk
  by_cases vQ:k=A.size
  ·simp only[vQ,aU]at hk;rw[<-Array.foldl_toList]at hk;rcases ql (k:=k) o.after.toList 0 hk with h|⟨e,q1,q2,q3⟩
   ·simp at h
   ·refine⟨o,e,?_,by simpa using q1,q2,?_⟩
    ·rw[<-Array.getElem?_toList,h1,vQ,h2];simp
    ·rcases q3 with q3|q3
     ·exact .inl q3
     ·have:=hA _ _ q3;refine .inr ⟨by omega,?_⟩;rw[iq];have fg:¬e.on=A.size:=by omega
      simp only[fg,aL];exact q3
  ·simp only[vQ,aL]at hk;obtain⟨o',e,q1,q2,q3,q4⟩:=h3 k i hk;refine⟨o',e,q1,q2,q3,?_⟩;rcases q4 with q4|⟨q4,q5⟩
   ·exact .inl q4
   ·have:=hA _ _ q5;refine .inr ⟨q4,?_⟩;rw[iq];have fg:¬e.on=A.size:=by omega
    simp only[fg,aL];exact q5
theorem sv.Ry{ops:cO}{i k:Nat}(h:sv ops i k):∃o e,ops[k]? = some o/\e∈o.after/\Region.binds .any e=true/\(e.on=i\/(e.on<k/\sv ops i e.on)):=by
 have he:Region.before ops=ops.toList.foldl (fun acc o=>acc.push (o.after.foldl (fun s e=>if Region.binds .any e then s|||2^e.on|||acc.getD e.on 0 else s) 0)) #[]:=by
  unfold Region.before;rw[<-Array.foldl_toList]
 unfold sv at h ⊢;simp only[he]at h ⊢;exact Qp8 ops ops.toList [] #[] (by simp) (by simp) (fun k i hk=>by simp at hk) k i h
theorem sv.fT{ops:cO}{L:Nat->Prop}(o6:∀j o,L j->ops[j]? = some o->∀e∈o.after,Region.binds .any e=true->L e.on) :
 ∀(k i:Nat),sv ops i k->(∀o,ops[k]? = some o->∀e∈o.after,Region.binds .any e=true->L e.on)->L i:=by
 intro k
 induction k using Nat.strongRecOn with
 |ind k ih=>
  intro i hb hk;obtain⟨o,e,h1,h2,h3,h4⟩:=hb.Ry;have hl:=hk o h1 e h2 h3;rcases h4 with rfl|⟨h4,h5⟩
  ·exact hl
  ·exact ih e.on h4 i h5 fun o' gz e' R3 iW=>o6 e.on o' hl gz e' R3 iW
inductive iX(T:fh C)(call:FuncId->List (D C)->Pg C (D C))(ops:cO)(L base sp:Nat)(ts:Nat->Tr):bU->Env C->Heap C->Env C->Heap C->Prop where
 |nil {env gS:Env C} {h hF:Heap C}:(∀t,cR env t=cR gS t)->(∀id,h.get id=hF.get id)->iX T call ops L base sp ts [] env h gS hF
 |cons {env dS gS:Env C} {h h1 hF:Heap C} {i n:Nat} {o:Oper} {l:bU}:ops[i]? = some o->Ex (L,base+i*sp) (qg T call ops o env) h (base+i*sp) dS h1 n (ts i)->n<=base+(i+1)*sp ->
  iX T call ops L base sp ts l dS h1 gS hF->iX T call ops L base sp ts (i::l) env h gS hF
variable {call:FuncId->List (D C)->Pg C (D C)}{ops:cO}{L base sp:Nat}{ts:Nat->Tr}
theorem iX.ext{l:bU}{env gS:Env C}{h hF:Heap C}(hr:iX T call ops L base sp ts l env h gS hF):∀(cZ:Env C) (h':Heap C),(∀t,cR cZ t=cR env t)->(∀id,h'.get id=h.get id)->iX T call ops L base sp ts l cZ h' gS hF:=by
 induction hr with
 |nil h1 h2=>intro cZ h' e1 e2;exact .nil (fun t=>(e1 t).trans (h1 t)) fun id=>(e2 id).trans (h2 id)
 | @cons env dS gS h h1 hF i n o l ho hx hn _ ih=>
  intro cZ h' e1 e2;obtain⟨v,j4,q1,q2,q3⟩:=Kj call ops o env cZ (fun t _=>(e1 t).symm) hx;obtain⟨g',k1,k2,k3⟩:=Ex.local q2 (aq _) h' (fun id _ _ _=>e2 id) (fun id _ _=>e2 id);refine .cons ho k1 hn (ih j4 g' (fun t=>by rw[q1,q3];simp[e1]) fun id=>?_)
  by_cases iB:base+i*sp<=id/\id<n
  ·exact k2 id iB.1 iB.2
  ·have:=k3 id (by simp;omega)
   by_cases hm:(id,true)∈ts i
   ·exact this.1 hm
   ·rw[(this.2 hm).1,(this.2 hm).2,e2]
def su(a b:Tr):Prop:=∀id u v,(id,u)∈a->(id,v)∈b->u=false/\v=false
theorem QlH{a b:Tr}(h:PN a b=true):su a b:=by
 intro id u v hu hv;simp only[PN,aX]at h;have:=h (id,u) hu (id,v) hv
 simpa using this
inductive C3(C:gR) where
 |var (t:TypeId)
 |vec (t:C.Ty) (n:Nat)
 |map
 |dG
def ms:Obj C->C3 C
 |.var t _=>.var t
 |.vec t _ l=>.vec t l.length
 |.map _ _ _=>.map
 |.dG _=>.dG
inductive jr{α:Type}:Pg C α->Prop where
 |ret (a:α):jr (.ret a)
 |fail:jr .fail
 |br {b:Bool} {x y:Pg C α}:jr x->jr y->jr (.br b x y)
 |rd {id:Nat} {k:Obj C->Pg C α}:(∀o,jr (k o))->(∀o o',ms o=ms o'->k o=k o')->jr (.rd id k)
theorem jr.bind{α β:Type}{p:Pg C α}{f:α->Pg C β}(hp:jr p)(hf:∀a,jr (f a)):jr (p.bind f):=by
 induction hp with
 |ret a=>exact hf a
 |fail=>exact .fail
 |br _ _ ix iy=>exact .br ix iy
 |rd _ hk ih=>exact .rd ih fun o o' h=>by rw[hk o o' h]
theorem Ex.tY{α:Type}{e:Pg.Lv}{id:Nat}{o:Obj C}{f:Obj C->Pg C α}{h h':Heap C}{n n':Nat}{a:α}{t:Tr}(hg:h.get id=some o)(hx:Ex e (f o) h n a h' n' t):Ex e (.rd id f) h n a h' n' (t++[(id,false)]):=by
 unfold Ex at hx ⊢;simp only[Pg.run,hg];rw[Pg.run_eq,hx];rfl
theorem jr.ex{α:Type}{p:Pg C α}(hp:jr p):∀{e:Pg.Lv} {h h':Heap C} {n n':Nat} {a:α} {t:Tr},Ex e p h n a h' n' t ->
 h'=h/\n'=n/\∀(g:Heap C) (m:Nat),(∀id,(g.get id).map ms=(h.get id).map ms)->Ex e p g m a g m t:=by
 induction hp with
 |ret a=>
  intro e h h' n n' a' t hx;obtain⟨rfl,rfl,rfl,rfl⟩:=Ex.ret hx;exact⟨rfl,rfl,fun g m _=>by simp[Ex,Pg.run]⟩
 |fail=>intro e h h' n n' a' t hx;exact Ex.cB hx
 | @br b x y _ _ ix iy=>
  intro e h h' n n' a' t hx;rcases Ex.br hx with⟨rfl,hx⟩|⟨rfl,hx⟩
  ·obtain⟨h1,h2,h3⟩:=ix hx;exact⟨h1,h2,fun g m hg=>by have:=h3 g m hg;simpa[Ex,Pg.run]using this⟩
  ·obtain⟨h1,h2,h3⟩:=iy hx;exact⟨h1,h2,fun g m hg=>by have:=h3 g m hg;simpa[Ex,Pg.run]using this⟩
 | @rd id k _ hk ih=>
  intro e h h' n n' a' t hx;obtain⟨o,t',ho,hy,rfl⟩:=Ex.rd hx;obtain⟨h1,h2,h3⟩:=ih o hy;refine⟨h1,h2,fun g m hg=>?_⟩;have Gn:=hg id;rw[ho]at Gn;cases hq:g.get id with
  |none=>rw[hq]at Gn;cases Gn
  |some o'=>
   rw[hq]at Gn;have hs:ms o'=ms o:=aj Gn;exact Ex.tY hq (by rw[hk o' o hs];exact h3 g m hg)
theorem nA(s:TypeId)(x:D C)(i:Nat):jr (VZ T s x i):=by
 unfold VZ
 split
 ·rename_i fs _;cases Nat.blt i fs.length
  ·exact .fail
  ·simp only[ag]
   split
   ·refine .rd (fun o=>?_) fun o o' h=>?_
    ·unfold Ms;split
     ·rename_i u _;cases decide (gn T u _=some s)
      ·exact .fail
      ·exact .ret _
     ·exact .fail
    ·cases o<;>cases o'<;>simp only[ms,C3.var.injEq,reduceCtorEq]at h
     ·subst h;rfl
     all_goals rfl
   ·refine .rd (fun o=>?_) fun o o' h=>?_
    ·unfold Lj;split
     ·refine .br ?_ .fail;rename_i ty _ _;cases Nat.beq s (T.dp ty)
      ·exact .fail
      ·exact .ret _
     ·exact .fail
    ·cases o<;>cases o'<;>simp only[ms,C3.vec.injEq,reduceCtorEq]at h
     ·rfl
     ·obtain⟨rfl,hl⟩:=h;simp only[Lj,hl]
     all_goals rfl
   ·rename_i d;cases fit T d (.inl s)
    ·exact .fail
    ·simp only[ag]
     split
     ·exact .ret _
     ·exact .fail
   ·exact .fail
 ·exact .fail
theorem nB(t:TypeId)(x i:D C):jr (V0 T t x i):=by
 unfold V0
 split
 ·rename_i k n
  split
  ·rename_i e ty0 _
   split
   ·rename_i ty _ l;cases decide (ty=ty0)
    ·exact .fail
    ·exact .br (.ret _) .fail
   ·refine .rd (fun o=>?_) fun o o' h=>?_
    ·unfold Lk;split
     ·rename_i ty _ _;cases decide (ty=ty0)
      ·exact .fail
      ·exact .br (.ret _) .fail
     ·exact .fail
    ·cases o<;>cases o'<;>simp only[ms,C3.vec.injEq,reduceCtorEq]at h
     ·rfl
     ·obtain⟨rfl,hl⟩:=h;simp only[Lk,hl]
     all_goals rfl
   ·split
    ·rename_i ty _;cases decide (ty=ty0)
     ·exact .fail
     ·exact .br (.ret _) .fail
    ·exact .fail
   ·exact .fail
  ·split
   ·refine .br ?_ .fail
    split
    ·exact .ret _
    ·exact .fail
   ·exact .fail
  ·split
   ·refine .rd (fun o=>?_) fun o o' h=>?_
    ·unfold CN;split
     ·rename_i u _;cases decide (gn T u _=some t)
      ·exact .fail
      ·exact .br (.ret _) .fail
     ·exact .fail
    ·cases o<;>cases o'<;>simp only[ms,C3.var.injEq,reduceCtorEq]at h
     ·subst h;rfl
     all_goals rfl
   ·rename_i ty m' l;cases fit T (.arr ty m' l:D C) (.inl t)
    ·exact .fail
    ·exact .br (.ret _) .fail
   ·exact .fail
  ·split
   ·refine .rd (fun o=>?_) fun o o' h=>?_
    ·unfold CN;split
     ·rename_i u _;cases decide (gn T u _=some t)
      ·exact .fail
      ·exact .br (.ret _) .fail
     ·exact .fail
    ·cases o<;>cases o'<;>simp only[ms,C3.var.injEq,reduceCtorEq]at h
     ·subst h;rfl
     all_goals rfl
   ·rename_i d;cases fit T d (.inl t)
    ·exact .fail
    ·refine .br ?_ .fail
     split
     ·exact .ret _
     ·exact .fail
   ·exact .fail
  ·exact .fail
 ·exact .fail
theorem Qi4{i:Nat}{k:IntKind}{n:Int}{go:Env C->Pg C (Env C)}(hg:∀env,jr (go env))(w:Bool)(env:Env C):∀l:bQ,jr (pins i k n go w env l)
 |[]=>by cases w;exact hg env;exact .fail
 |j::l=>.br (hg _) (Qi4 hg w env l)
theorem OZ(call:FuncId->List (D C)->Pg C (D C))(ops:cO){o:Oper}(ho:CD o=true)(env:Env C):jr (qg T call ops o env):=by
 have yR:∀ev:Operand->D C,jr (jt T call o ev):=fun ev=>by
  unfold CD at ho;unfold jt
  split at ho
  ·rename_i q;rw[q];exact nA _ _ _
  ·rename_i q;rw[q];exact nB _ _ _
  ·cases ho
 have fe:∀env,jr (mF T o (fun env=>.bind (jt T call o (gZ env)) fun d=>.ret (put env o.dst d)) env):=fun env=>by
  have h0:∀env:Env C,jr ((jt T call o (gZ env)).bind fun d=>.ret (put env o.dst d)):=fun env=>(yR _).bind fun d=>.ret _;unfold mF
  split
  ·split
   ·exact Qi4 h0 _ _ _
   ·exact h0 _
  ·exact h0 _
 unfold qg
 split
 ·exact fe env
 ·rename_i j want _
  split
  ·split
   ·cases want
    ·exact .br (.ret _) (fe _)
    ·exact .br (fe _) (.ret _)
   ·exact .ret _
   ·exact .fail
  ·exact .fail
theorem O0{h:Heap C}{id:Nat}{o o':Obj C}(hg:h.get id=some o)(hs:ms o'=ms o):∀i,((h.put id o').get i).map ms=(h.get i).map ms:=fun i=>by
 rw[Qv (by rw[hg];rfl)]
 by_cases e:i=id
 ·subst e;rw[ax rfl,hg,bC,bC,hs]
 ·rw[aw e]
theorem Xe(call:FuncId->List (D C)->Pg C (D C))(ops:cO){o:Oper}(ho:xX o=true){env cZ:Env C}{e:Pg.Lv}{h h':Heap C}{n n':Nat}{t:Tr}(hx:Ex e (qg T call ops o env) h n cZ h' n' t) :
 ∀id,(h'.get id).map ms=(h.get id).map ms:=by
 have yR:∀{ev:Operand->D C} {d:D C} {h h':Heap C} {n n':Nat} {t:Tr},Ex e (jt T call o ev) h n d h' n' t->∀id,(h'.get id).map ms=(h.get id).map ms:=by
  intro ev d h h' n n' t hx;unfold xX at ho
  split at ho
  ·rename_i ty a x q;unfold jt at hx;rw[q]at hx
   have dV:∀(va v:D C) {d:D C} {h h':Heap C} {n n':Nat} {t:Tr},Ex e (J9 T ty va v) h n d h' n' t->∀id,(h'.get id).map ms=(h.get id).map ms:=by
    intro va v d h h' n n' t hx;unfold J9 at hx
    split at hx
    ·obtain⟨o',t',gz,hy,_⟩:=Ex.rd hx;unfold Mq at hy
     split at hy
     ·split at hy
      ·rename_i u _ d' t2 _ _
       revert hy
       cases fit T v (.inl ty)&&fit T v (.inl t2)with
       |false=>intro hy;exact Ex.cB hy
       |true=>
        intro hy;obtain⟨o2,t2,h2,hz,_⟩:=Ex.wr hy;obtain⟨_,rfl,_,_⟩:=Ex.ret hz;exact O0 gz rfl
      ·exact Ex.cB hy
     ·exact Ex.cB hy
    ·obtain⟨o',t',gz,hy,_⟩:=Ex.rd hx;unfold Mr at hy
     split at hy
     ·split at hy
      ·split at hy
       ·rcases Ex.br hy with⟨_,hy⟩|⟨_,hy⟩
        ·revert hy
         cases fit T v (.inl ty)with
         |false=>intro hy;exact Ex.cB hy
         |true=>
          intro hy;obtain⟨o2,t2,h2,hz,_⟩:=Ex.wr hy;obtain⟨_,rfl,_,_⟩:=Ex.ret hz;exact O0 gz (by simp[ms])
        ·exact Ex.cB hy
       ·exact Ex.cB hy
      ·exact Ex.cB hy
     ·exact Ex.cB hy
    ·exact Ex.cB hx
   rcases lA hx with⟨_,hx⟩|⟨i,m,d1,h1,n1,t1,t2,_,q1,q2⟩
   ·exact dV _ _ hx
   ·intro id;rw[dV _ _ q2];simp only[frz]at q1;obtain⟨o',t',gz,hy,_⟩:=Ex.rd q1;cases o' with
    |var _ _=>exact Ex.cB hy
    |map _ _ _=>exact Ex.cB hy
    |dG _=>exact Ex.cB hy
    |vec tt own l=>
     rcases Ex.br hy with⟨_,hy⟩|⟨_,hy⟩
     ·obtain⟨o2,t2,h2,hz,_⟩:=Ex.wr hy;obtain⟨_,rfl,_,_⟩:=Ex.ret hz;exact O0 (o':=.vec tt false l) gz rfl id
     ·exact Ex.cB hy
  ·cases ho
 have Sz:∀(f:Env C),mF T o (fun env=>.bind (jt T call o (gZ env)) fun d=>.ret (put env o.dst d)) f=(jt T call o (gZ f)).bind fun d=>.ret (put f o.dst d):=fun f=>by
  unfold xX at ho
  split at ho
  ·rename_i q;unfold mF CO;rw[q]
  ·cases ho
 have fe:∀{f:Env C} {h h':Heap C} {n n':Nat} {t:Tr},Ex e (mF T o (fun env=>.bind (jt T call o (gZ env)) fun d=>.ret (put env o.dst d)) f) h n cZ h' n' t->∀id,(h'.get id).map ms=(h.get id).map ms:=by
  intro f h h' n n' t hx;rw[Sz]at hx;obtain⟨d,h1,n1,t1,t2,q1,q2,_⟩:=Ex.bind hx;obtain⟨_,rfl,_,_⟩:=Ex.ret q2;exact yR q1
 have SJ:∀{f:Env C} {h h':Heap C} {n n':Nat} {t:Tr},Ex e (.ret f:Pg C (Env C)) h n cZ h' n' t->∀id,(h'.get id).map ms=(h.get id).map ms:=by
  intro f h h' n n' t hx;obtain⟨_,rfl,_,_⟩:=Ex.ret hx;exact fun _=>rfl
 unfold qg at hx
 split at hx
 ·exact fe hx
 ·rename_i j want _
  split at hx
  ·split at hx
   ·cases want
    ·rcases Ex.br hx with⟨_,hx⟩|⟨_,hx⟩
     ·exact SJ hx
     ·exact fe hx
    ·rcases Ex.br hx with⟨_,hx⟩|⟨_,hx⟩
     ·exact fe hx
     ·exact SJ hx
   ·exact SJ hx
   ·exact Ex.cB hx
  ·exact Ex.cB hx
def wT(base sp:Nat)(l:bU)(h:Heap C):Prop:=∀i∈l,∀id,base+i*sp<=id->id<base+(i+1)*sp->h.get id=none
theorem E0{sp i k:Nat}(fg:i≠k){id base:Nat}(h1:base+i*sp<=id)(h2:id<base+(i+1)*sp)(h3:base+k*sp<=id)(h4:id<base+(k+1)*sp):False:=by
 rcases Nat.lt_or_gt_of_ne fg with h|h
 ·have:(i+1)*sp<=k*sp:=Nat.mul_le_mul_right _ h;omega
 ·have:(k+1)*sp<=i*sp:=Nat.mul_le_mul_right _ h;omega
theorem wT.step{l:bU}{h h1:Heap C}{i n:Nat}{p:Pg C (Env C)}{dS:Env C}{t:Tr}(hf:wT base sp l h)(hx:Ex (L,base+i*sp) p h (base+i*sp) dS h1 n t)(hn:n<=base+(i+1)*sp)(hi:i∉l):wT base sp l h1:=by
 intro k hk id h2 h3;cases hg:h1.get id with
 |none=>rfl
 |some o=>
  have:=(Ex.yC hx).2 id (hf k hk id h2 h3) (by simp[hg]);exact(E0 (i:=i) (k:=k) (by rintro rfl;exact hi hk) (id:=id) (base:=base) (sp:=sp) (by omega) (by omega) h2 h3).elim
theorem iX.swap{k i:Nat}{l:bU}{env gS:Env C}{h hF:Heap C}{ok oi:Oper}(ig:ops[k]? = some ok)(nc:ops[i]? = some oi)(fg:k≠i)(hf:wT base sp [k,i] h)
 (RR:ok.apart ops oi=true) (Dc:su (ts k) (ts i)) (hr:iX T call ops L base sp ts (k::i::l) env h gS hF):iX T call ops L base sp ts (i::k::l) env h gS hF:=by
 obtain⟨a1,a2,a3⟩:=Oper.apart_spec RR;cases hr with
 | @cons _ dS _ _ h1 _ _ nk o _ ho hk xr hr=>
 cases hr with
 | @cons _ fE _ _ h2 _ _ ni o' _ gz hi rh hr=>
 obtain rfl:ok=o:=by rw[ig]at ho;exact aj ho
 obtain rfl:oi=o':=by rw[nc]at gz;exact aj gz
 have dk:=Ex.yC hk;have di:=Ex.yC hi;obtain⟨_,_,_,lk⟩:=Ex.local hk (aq _) h (fun _ _ _ _=>rfl) (fun _ _ _=>rfl);have fk:∀id,base+k*sp<=id->id<base+(k+1)*sp->h.get id=none:=fun id=>hf k (by simp) id;have fi:∀id,base+i*sp<=id->id<base+(i+1)*sp->h.get id=none:=fun id=>hf i (by simp) id;have rk:∀id,base+k*sp<=id->id<nk->base+i*sp<=id->id<ni->False:=fun id q1 q2 q3 q4=>E0 fg q1 (by omega) q3 (by omega)
 -- wy wz numbers of k lie outside i's range
 have tk:∀id w,(id,w)∈ts k->¬(base+i*sp<=id/\id<base+(i+1)*sp):=by
  intro id w hm ⟨q1,q2⟩;rcases dk.1 id w hm with h'|h'
  ·simp[fi id q1 q2]at h'
  ·exact E0 fg h'.1 (by omega) q1 q2
 -- wy wz numbers of i lie outside k's range
 have ti:∀id w,(id,w)∈ts i->¬(base+k*sp<=id/\id<base+(k+1)*sp):=by
  intro id w hm ⟨q1,q2⟩;rcases di.1 id w hm with h'|h'
  ·have:=dk.2 id (fk id q1 q2) h';have:=Dc id true w this.2.2 hm;simp at this
  ·exact E0 fg q1 q2 h'.1 (by omega)
 -- i from wy start
 obtain⟨vk,_,yE,_,_⟩:=Kj call ops ok env env (fun _ _=>rfl) hk
 obtain⟨vi,vB,Rz,FO,FP⟩:=Kj call ops oi dS env (fun t ht=>by
  rw[yE];have:ok.dst≠some t:=fun hd=>a1 t hd ht;simp[this]) hi
 obtain⟨hA,xi,xi1,L7⟩:=Ex.local FO (aq _) h (fun id w hm kC=>by
  have rW:(id,true)∉ts k:=fun hq=>by have:=Dc id true w hq hm;simp at this
  by_cases iB:base+k*sp<=id/\id<nk
  ·exact(ti id w hm ⟨iB.1,by omega⟩).elim
  ·exact((lk id (by simp;omega)).2 rW).2.symm) (fun id q1 q2=>by
  have rW:(id,true)∉ts k:=fun hq=>tk id true hq ⟨q1,by omega⟩;have iB:¬(base+k*sp<=id/\id<nk):=fun hq=>rk id hq.1 hq.2 q1 q2;exact((lk id (by simp;omega)).2 rW).2.symm)
 -- k behind it
 obtain⟨vk',sL,yF,Lu,RB⟩:=Kj call ops ok env vB (fun t ht=>by
  rw[FP];have:oi.dst≠some t:=fun hd=>a3 t hd ht;simp[this]) hk
 obtain⟨hB,xk,xk1,xk2⟩:=Ex.local Lu (aq _) hA (fun id w hm kC=>by
  have rW:(id,true)∉ts i:=fun hq=>by have:=Dc id w true hm hq;simp at this
  have iB:¬(base+i*sp<=id/\id<ni):=fun hq=>tk id w hm ⟨hq.1,by omega⟩;exact((L7 id (by simp;omega)).2 rW).1) (fun id q1 q2=>by
  have rW:(id,true)∉ts i:=fun hq=>ti id true hq ⟨q1,by omega⟩;have iB:¬(base+i*sp<=id/\id<ni):=fun hq=>rk id q1 q2 hq.1 hq.2;exact((L7 id (by simp;omega)).2 rW).1)
 refine .cons nc xi rh (.cons ig xk xr (hr.ext sL hB (fun t=>?_) fun id=>?_))
 ·rw[RB,FP,Rz]
  by_cases yO:oi.dst=some t
  ·have pU:ok.dst≠some t:=fun hd=>a2 t hd yO;simp[yO,pU]
  ·simp only[yO,aL]
   by_cases pU:ok.dst=some t
   ·have e1:=yE t;have e2:=yF t;simp only[pU,aU]at e1 e2 ⊢;rw[e2]
   ·have e1:=yE t;simp only[pU,aL]at e1 ⊢;exact e1.symm
 ·by_cases s8:base+k*sp<=id/\id<nk
  ·have vP:¬(base+i*sp<=id/\id<ni):=fun hq=>rk id s8.1 s8.2 hq.1 hq.2;have rW:(id,true)∉ts i:=fun hq=>ti id true hq ⟨s8.1,by omega⟩;rw[xk1 id s8.1 s8.2,((L7 id (by simp;omega)).2 rW).2]
  ·have kk:=xk2 id (by simp;omega)
   by_cases vP:base+i*sp<=id/\id<ni
   ·have rW:(id,true)∉ts k:=fun hq=>tk id true hq ⟨vP.1,by omega⟩;rw[(kk.2 rW).1,xi1 id vP.1 vP.2]
   ·have ii:=L7 id (by simp;omega)
    by_cases xo:(id,true)∈ts k
    ·have rW:(id,true)∉ts i:=fun hq=>by have:=Dc id true true xo hq;simp at this
     rw[kk.1 xo,(ii.2 rW).2]
    ·rw[(kk.2 xo).1]
     by_cases Sp:(id,true)∈ts i
     ·exact ii.1 Sp
     ·rw[(ii.2 Sp).1,(ii.2 Sp).2,(kk.2 xo).2]
theorem iX.Hg{k i:Nat}{l:bU}{env gS:Env C}{h hF:Heap C}{ok oi:Oper}(ig:ops[k]? = some ok)(nc:ops[i]? = some oi)
 (RR:ok.apart ops oi=true) (hpr:(CD ok=true/\xX oi=true)\/(xX ok=true/\CD oi=true)) (hr:iX T call ops L base sp ts (k::i::l) env h gS hF):iX T call ops L base sp ts (i::k::l) env h gS hF:=by
 obtain⟨a1,a2,a3⟩:=Oper.apart_spec RR;cases hr with
 | @cons _ dS _ _ h1 _ _ nk o _ ho hk xr hr=>
 cases hr with
 | @cons _ fE _ _ h2 _ _ ni o' _ gz hi rh hr=>
 obtain rfl:ok=o:=by rw[ig]at ho;exact aj ho
 obtain rfl:oi=o':=by rw[nc]at gz;exact aj gz
 obtain⟨vk,_,yE,_,_⟩:=Kj call ops ok env env (fun _ _=>rfl) hk
 obtain⟨vi,vB,Rz,FO,FP⟩:=Kj call ops oi dS env (fun t ht=>by
  rw[yE];have:ok.dst≠some t:=fun hd=>a1 t hd ht;simp[this]) hi
 obtain⟨vk',sL,yF,Lu,RB⟩:=Kj call ops ok env vB (fun t ht=>by
  rw[FP];have:oi.dst≠some t:=fun hd=>a3 t hd ht;simp[this]) hk
 have Gg:∀t,cR sL t=cR fE t:=fun t=>by
  rw[RB,FP,Rz]
  by_cases yO:oi.dst=some t
  ·have pU:ok.dst≠some t:=fun hd=>a2 t hd yO;simp[yO,pU]
  ·simp only[yO,aL]
   by_cases pU:ok.dst=some t
   ·have e1:=yE t;have e2:=yF t;simp only[pU,aU]at e1 e2 ⊢;rw[e2]
   ·have e1:=yE t;simp only[pU,aL]at e1 ⊢;exact e1.symm
 rcases hpr with⟨p1,p2⟩|⟨p1,p2⟩
 ·-- an address,then a store: wy store first
  obtain⟨rfl,rfl,_⟩:=(OZ call ops p1 env).ex hk;have hs:=Xe call ops p2 FO;obtain⟨_,_,q⟩:=(OZ call ops p1 vB).ex Lu;have xk:=q h2 (base+k*sp) hs;exact .cons nc FO rh (.cons ig xk xr (hr.ext sL h2 Gg fun _=>rfl))
 ·-- a store,then an address: wy address first
  have hs:=Xe call ops p1 hk;obtain⟨rfl,rfl,q⟩:=(OZ call ops p2 env).ex FO;have xi:=q h (base+i*sp) fun id=>(hs id).symm;exact .cons nc xi rh (.cons ig Lu xr (hr.ext sL _ Gg fun _=>rfl))
theorem iX.first{i:Nat}{oi:Oper}(nc:ops[i]? = some oi):∀(pre post:bU) {env gS:Env C} {h hF:Heap C},(pre++i::post).Nodup->wT base sp (pre++i::post) h ->
 (∀k∈pre,∀ok,ops[k]? = some ok->ok.apart ops oi=true/\(su (ts k) (ts i)\/E3 ops k i=true))->iX T call ops L base sp ts (pre++i::post) env h gS hF->iX T call ops L base sp ts (i::(pre++post)) env h gS hF:=by
 intro pre
 induction pre with
 |nil=>intro post env gS h hF hn hf ha hr;simpa using hr
 |cons k pre ih=>
  intro post env gS h hF hn hf ha hr;rw[aP]at hr hn hf;cases hr with
  | @cons _ dS _ _ h1 _ _ nk ok _ ig hk xr hr=>
  have Sj:=List.nodup_cons.1 hn;have fK:=ih post Sj.2 ((show wT base sp (pre++i::post) h from fun j hj=>hf j (aS _ hj)).step hk xr Sj.1) (fun j hj=>ha j (by simp[hj])) hr;have hki:k≠i:=by rintro rfl;exact Sj.1 (by simp)
  obtain⟨q1,q2⟩:=ha k (by simp) ok ig;rcases q2 with q2|q2
  ·exact iX.swap ig nc hki (fun j hj=>hf j (by simp at hj;rcases hj with rfl|rfl<;>simp)) q1 q2 (.cons ig hk xr fK)
  ·unfold E3 at q2;rw[ig,nc]at q2;simp only[Bool.or_eq_true,ai]at q2;exact iX.Hg ig nc q1 q2 (.cons ig hk xr fK)
end
section
variable {C:gR}{P:Program}{T:fh C}
open Pg (Ex)
theorem G.jK{X:Cx}{h:Heap C}{nx cF:Nat}{lim lY:ek}(g:G T X h nx lim)(hh:∀id,ft nx lim id->ft cF lY id)(hl:lY.lo<=cF):G T X h cF lY :=
 ⟨g.var,g.vec,g.map,g.dG,g.jA,fun id o ho=>⟨hh id (g.eL id o ho).1,fun r hr=>hh r ((g.eL id o ho).2 r hr)⟩,g.apart,g.outer,g.outs,hl,g.pre⟩
theorem QB.jK{X:Cx}{env cZ:Env C}{tmps:bY}{nx cF:Nat}{lim lY:ek}(g:QB T X nx lim env tmps)(hh:∀id,ft nx lim id->ft cF lY id)(he:∀t,cR cZ t=cR env t):QB T X cF lY cZ tmps :=
 fun t=>by rw[he];exact⟨(g t).1,fun id hi=>hh id ((g t).2 id hi)⟩
theorem Step.jK{X X':Cx}{nx cF:Nat}{lim lY:ek}(s:Step X nx lim X')(hh:∀id,ft cF lY id->ft nx lim id):Step X cF lY X' :=
 ⟨s.O,s.os,s.tape,s.output,s.size,fun id ho=>s.ρ id (hh id ho),s.du,s.cell,s.block,s.frz⟩
variable {call:FuncId->List (D C)->Pg C (D C)}{ops:cO}{L base sp:Nat}
theorem iX.congr{ts ts':Nat->Tr}{l:bU}{env gS:Env C}{h hF:Heap C}(hr:iX T call ops L base sp ts l env h gS hF):(∀j∈l,ts' j=ts j)->iX T call ops L base sp ts' l env h gS hF:=by
 induction hr with
 |nil h1 h2=>intro _;exact .nil h1 h2
 |cons ho hx hn _ ih=>intro hh;exact .cons ho (by rw[hh _ (by simp)];exact hx) hn (ih fun j hj=>hh j (by simp[hj]))
theorem Qf0:∀(l:fQ) (i:Nat),ops.toList.drop i=l->∀{e:Pg.Lv} {env gS:Env C} {h hF:Heap C} {n nF:Nat} {tr:Tr} {acc:iE},Ex e (CE T call ops base sp i l env acc) h n gS hF nF tr ->
 n<=base+i*sp/\∃ts nT,iX T call ops (e.1+1) base sp ts (List.range' i l.length) env h gS hF/\nF=base+(i+l.length)*sp/\IJ ops nT=true/\(∀p∈acc,p∈nT)/\∀j,i<=j->j<i+l.length->ts j=[]\/(j,ts j)∈nT:=by
 intro l
 induction l with
 |nil=>
  intro i hl e env gS h hF n nF tr acc hx;simp only[CE]at hx;obtain⟨hm,hx⟩:=Ex.upto hx;rcases Ex.br hx with⟨hb,hx⟩|⟨hb,hx⟩
  ·obtain⟨rfl,rfl,rfl,rfl⟩:=Ex.ret hx;exact⟨hm,fun _=>[],acc,.nil (fun _=>rfl) (fun _=>rfl),by simp,hb,fun p hp=>hp,fun j h1 h2=>by simp at h2;omega⟩
  ·exact Ex.cB hx
 |cons o l ih=>
  intro i hl e env gS h hF n nF tr acc hx;simp only[CE]at hx;obtain⟨hm,hx⟩:=Ex.upto hx;obtain⟨dS,h1,n1,t1,t2,q1,q2,_⟩:=Ex.sub hx
  have cU:i<ops.toList.length:=by
   rcases Nat.lt_or_ge i ops.toList.length with h|h
   ·exact h
   ·rw[aO h]at hl;simp at hl
  have fX:ops.toList[i]? = some o:=by
   rw[aJ cU]at hl;rw[aY cU,(List.cons.inj hl).1]
  have oI:ops[i]? = some o:=by rw[<-Array.getElem?_toList];exact fX
  have me:ops.toList.drop (i+1)=l:=by
   rw[aJ cU]at hl;exact(List.cons.inj hl).2
  obtain⟨k0,ts,nT,k1,k2,k3,k4,k5⟩:=ih (i+1) me q2;refine⟨hm,fun j=>if j=i then t1 else ts j,nT,?_,by rw[k2,aE,Nat.add_right_comm i 1 l.length];rfl,k3,?_,?_⟩
  ·rw[aE,List.range'_succ];refine .cons oI (by simpa using q1) k0 (k1.congr fun j hj=>?_);have:=List.mem_range'_1.1 hj;have fg:¬j=i:=by omega
   simp[fg]
  ·intro p hp;refine k4 p ?_
   split
   ·exact hp
   ·simp[hp]
  ·intro j hj1 jM
   by_cases hj:j=i
   ·subst hj;simp only[aU];cases t1 with
    |nil=>exact .inl rfl
    |cons x t1=>exact .inr (k4 _ (by simp))
   ·simp only[hj,aL];exact k5 j (by omega) (by simp at jM;omega)
theorem Qi7{nT:iE}(h:IJ ops nT=true){a b:Nat×Tr}(ha:a∈nT)(hb:b∈nT)(cU:a.1<b.1)(hn:¬sv ops a.1 b.1):su a.2 b.2\/E3 ops a.1 b.1=true:=by
 simp only[IJ,aX]at h;have:=h a ha b hb;simp only[Bool.or_eq_true,Bool.not_eq_true']at this;rcases this with((h1|h1)|h1)|h1
 ·exact .inl (QlH h1)
 ·have h2:Nat.blt a.1 b.1=true:=by rw[Nat.blt_eq];exact cU
  rw[h2]at h1;cases h1
 ·exact(hn h1).elim
 ·exact .inr h1
structure PG(ops:cO):Prop where
 FM:∀i o,ops[i]? = some o->∀e∈o.after,Region.binds .any e=true->e.on<i
 apart:∀i j oi oj,i<j->ops[i]? = some oi->ops[j]? = some oj->sv ops i j\/oi.apart ops oj=true
def HR(base sp N:Nat)(lim:ek)(rest:bU)(id:Nat):Prop:=lim.H id\/(base+N*sp<=id/\id<lim.top)\/∃j∈rest,base+j*sp<=id/\id<base+(j+1)*sp
def oN(base sp N:Nat)(lim:ek)(rest:bU):ek:=⟨base,base,HR base sp N lim rest,fun id h1 h2=>by omega⟩
theorem Co{N:Nat}{lim:ek}{rest:bU}{id:Nat}:ft base (oN base sp N lim rest) id↔¬HR base sp N lim rest id:=by
 unfold ft oN;simp only;constructor
 ·exact fun h=>h.2
 ·exact fun h=>⟨by omega,h⟩
theorem Qi8{fT:Array Bool}{j:Nat}(h:j<fT.size):fT.getD j true=fT.getD j false:=by simp[Array.getD_eq_getD_getElem?,h]
variable (K:Zo P T)
include K
theorem QAr{ro:dg}{m:Nat}(gN:uO P T call){B:Nat->Bool}(hB:∀o∈ops.toList,∀t,o.dst=some t->B t=false)(hd:PG ops){ts:Nat->Tr}{lim:ek}{gS:Env C}{hF:Heap C}(Dc:∀i j,i<j->j<ops.size->¬sv ops i j->su (ts i) (ts j)\/E3 ops i j=true)(fX:lim.lo<=base)(aau:base+ops.size*sp<=lim.top){Q:Exit->Act->World->Prop} :
 ∀(lP:Nat) (rest:bU) (fT:Array Bool) (env:Env C) (h:Heap C) (X:Cx) (a:Act),rest.length<=lP->rest.Pairwise (· < ·)->fT.size=ops.size->(∀j,j∈rest↔j<ops.size/\fT.getD j true=false) ->
  (∀j o,fT.getD j false=true->ops[j]? = some o->∀e∈o.after,Region.binds .any e=true->fT.getD e.on false=true)->iX T call ops L base sp ts rest env h gS hF->wT base sp rest h ->
  G T X h base (oN base sp ops.size lim rest)->QB T X base (oN base sp ops.size lim rest) env a.tmps->(∀o∈ops.toList,∀t,o.dst=some t->t<a.tmps.size) ->
  (∀a' X',G T X' hF (base+ops.size*sp) lim->Step X base lim X'->QB T X' (base+ops.size*sp) lim gS a'.tmps->a'.tmps.size=a.tmps.size->a'.defers=a.defers->Kp B a.tmps a'.tmps->Q .normal a' X'.w) ->
  wpAnyIn (ou ro) m P .any ops Q lP fT a X.w:=by
 intro lP
 induction lP with
 |zero=>
  intro rest fT env h X a hlen pB fB ki o6 hr hf g he hb hk;obtain rfl:rest=[]:=List.length_eq_zero_iff.1 (by omega);refine⟨?_,?_⟩
  ·cases hq:Region.ready .any ops fT with
   |nil=>rfl
   |cons j _=>
    have:j∈Region.ready .any ops fT:=by simp[hq]
    obtain⟨h1,o,h2,_⟩:=mem_ready.1 this;have:=(ki j).2 ⟨(aI.1 h2).1,h1⟩;simp at this
  ·cases hr with
   |nil e1 e2=>
    have hold:∀id,ft base (oN base sp ops.size lim []) id->ft (base+ops.size*sp) lim id:=by
     intro id ho;rw[Co]at ho;unfold HR at ho;simp only[List.not_mem_nil,false_and,exists_false,or_false,not_or]at ho;exact⟨by omega,ho.1⟩
    exact hk a X ((g.congr fun id=>(e2 id).symm).jK hold (by omega)) (.refl _ _ _) (he.jK hold fun t=>(e1 t).symm) rfl rfl (.refl _ _)
 |succ lP ih=>
  intro rest fT env h X a hlen pB fB ki o6 hr hf g he hb hk;refine⟨fun Sv=>?_,fun i hi=>?_⟩
  ·cases rest with
   |nil=>
    cases hr with
    |nil e1 e2=>
     have hold:∀id,ft base (oN base sp ops.size lim []) id->ft (base+ops.size*sp) lim id:=by
      intro id ho;rw[Co]at ho;unfold HR at ho;simp only[List.not_mem_nil,false_and,exists_false,or_false,not_or]at ho;exact⟨by omega,ho.1⟩
     exact hk a X ((g.congr fun id=>(e2 id).symm).jK hold (by omega)) (.refl _ _ _) (he.jK hold fun t=>(e1 t).symm) rfl rfl (.refl _ _)
   |cons r rest=>
    exfalso;have o8:=(ki r).1 (by simp)
    have:r∈Region.ready .any ops fT:=by
     rw[mem_ready];refine⟨o8.2,ops[r]'o8.1,by simp[o8.1],fun e R5 hbb=>?_⟩;have cU:=hd.FM r _ (by simp[o8.1]) e R5 hbb;cases hq:fT.getD e.on false with
     |true=>rfl
     |false=>
      have hm:=(ki e.on).2 ⟨by omega,by rw[Qi8 (by omega)];exact hq⟩;simp only[aZ]at hm;rcases hm with hm|hm
      ·omega
      ·have:=(List.pairwise_cons.1 pB).1 _ hm;omega
    rw[Sv]at this;simp at this
  ·obtain⟨hl,oi,nc,sU⟩:=mem_ready.1 hi;have Gp:i<ops.size:=(aI.1 nc).1;have hir:=(ki i).2 ⟨Gp,hl⟩;obtain⟨pre,post,rfl⟩:=List.append_of_mem hir;have ll:(pre++i::post).Nodup:=pB.imp fun {x y} (tF:x<y)=>by omega
   have za:∀k∈pre,k<i:=fun k hk=>(List.pairwise_append.1 pB).2.2 k hk i (by simp)
   have fK:=iX.first nc pre post ll hf (fun k hk ok ig=>by
    have cU:=za k hk
    have Dl:¬sv ops k i:=fun RU=>by
     have jo:=sv.fT (ops:=ops) (L:=fun j=>fT.getD j false=true) (fun j o h1 h2 e h3 h4=>o6 j o h1 h2 e h3 h4) i k RU (fun o ho e h1 h2=>by
      rw[nc]at ho;obtain rfl:=aj ho;exact sU e h1 h2)
     have uH:=(ki k).1 (by simp[hk]);rw[Qi8 (by omega)]at uH;rw[uH.2]at jo;cases jo
    exact⟨(hd.apart k i ok oi cU ig nc).resolve_left Dl,Dc k i cU Gp Dl⟩) hr
   cases fK with
   | @cons _ dS _ _ h1 _ _ n o _ ho hx hn eB=>
   obtain rfl:oi=o:=by rw[nc]at ho;exact aj ho
   have rh:i∉pre++post:=by
    intro hm;rw[List.nodup_append]at ll;simp only[aT]at hm;rcases hm with hm|hm
    ·exact ll.2.2 i hm i (by simp) rfl
    ·exact(List.nodup_cons.1 ll.2.1).1 hm
   have yM:∀j,j<ops.size->base+(j+1)*sp<=base+ops.size*sp:=fun j hj=>by
    have:(j+1)*sp<=ops.size*sp:=Nat.mul_le_mul_right _ hj;omega
   have tw:∀j,j∈pre++post->j<ops.size:=fun j hj=>((ki j).1 (by simp at hj ⊢;rcases hj with hj|hj<;>simp[hj])).1
   let wa:ek:=⟨base+i*sp,base+(i+1)*sp,HR base sp ops.size lim (pre++post),fun id q1 q2=>by
    have yK:=yM i Gp
    rintro (q3|q3|⟨j,q3,q4,q5⟩)
    ·exact lim.ok id (by omega) (by omega) q3
    ·omega
    ·exact E0 (i:=i) (k:=j) (by rintro rfl;exact rh q3) q1 q2 q4 q5⟩
   have pV:∀id,ft base (oN base sp ops.size lim (pre++i::post)) id->ft (base+i*sp) wa id:=by
    intro id dD;rw[Co]at dD;unfold HR at dD;simp only[not_or,not_exists,not_and]at dD;refine⟨?_,?_⟩
    ·have:=dD.2.2 i (by simp);show id<base+i*sp\/base+(i+1)*sp<=id;omega
    ·rintro (q3|q3|⟨j,q3,q4,q5⟩)
     ·exact dD.1 q3
     ·exact dD.2.1 q3.1 q3.2
     ·exact dD.2.2 j (by simp at q3 ⊢;rcases q3 with q3|q3<;>simp[q3]) q4 q5
   have mz:∀id,ft n wa id->ft base (oN base sp ops.size lim (pre++post)) id:=fun id dD=>Co.2 dD.2
   have ho3:∀id,ft base lim id->ft (base+i*sp) wa id:=by
    intro id dD;have yK:=yM i Gp;have hc:=dD.1;refine⟨?_,?_⟩
    ·show id<base+i*sp\/base+(i+1)*sp<=id;rcases hc with hc|hc
     ·exact .inl (by omega)
     ·exact .inr (by omega)
    ·rintro (q3|q3|⟨j,q3,q4,q5⟩)
     ·exact dD.2 q3
     ·rcases hc with hc|hc
      ·have:base<=base+ops.size*sp:=Nat.le_add_right _ _;omega
      ·omega
     ·have:=yM j (tw j q3);rcases hc with hc|hc
      ·have:base<=base+j*sp:=Nat.le_add_right _ _;omega
      ·omega
   refine Qnb K gN (g.jK pV (aq _)) (he.jK pV fun _=>rfl) (lim:=wa) hn nc (fun t ht=>hb oi (List.mem_of_getElem? (by rw[Array.getElem?_toList];exact nc)) t ht) (fun t ht=>hB oi (List.mem_of_getElem? (by rw[Array.getElem?_toList];exact nc)) t ht) hx fun a' X' g' s' e' hs vL rR=>?_;have ze:(pre++post).Sublist (pre++i::post):=List.Sublist.append_left (List.sublist_cons_self _ _) _
   refine ih (pre++post) (fT.setIfInBounds i true) dS h1 X' a' (by simp at hlen ⊢;omega) (pB.sublist ze) (by simp[fB]) (fun j=>?_) (fun j o hj kj e h3 h4=>?_) eB
    ((show wT base sp (pre++post) h from fun j hj=>hf j (ze.subset hj)).step hx hn rh) (g'.jK mz (aq _)) (e'.jK mz fun _=>rfl) (fun o ho t ht=>by rw[hs];exact hb o ho t ht) fun a2 X2 g2 s2 e2 kJ oG rS=>?_
   ·by_cases mc:j=i
    ·subst mc;simp only[rh,false_iff,not_and];intro _;simp[fB,Gp]
    ·rw[getD_set_ne true (Ne.symm mc),<-ki j];simp[mc]
   ·by_cases mc:j=i
    ·subst mc;rw[nc]at kj;obtain rfl:=aj kj;exact getD_set_true (sU e h3 h4)
    ·rw[getD_set_ne false (Ne.symm mc)]at hj;exact getD_set_true (o6 j o hj kj e h3 h4)
   ·exact hk a2 X2 g2 ((s'.jK ho3).trans s2 (aq _)) e2 (by omega) (by rw[oG,vL]) (rR.trans rS)
theorem QEz{ro:dg}{m:Nat}{X:Cx}{h h':Heap C}{nx cF:Nat}{e:Pg.Lv}{lim:ek}{tr:Tr}{env cZ:Env C}{a:Act}(gN:uO P T call){B:Nat->Bool}(hB:∀o∈ops.toList,∀t,o.dst=some t->B t=false)(hm:P.follows .mixedOrders=true)(hd:PG ops)(g:G T X h nx lim)(he:QB T X nx lim env a.tmps)
 (dP:cF<=lim.top) (hb:∀o∈ops.toList,∀t,o.dst=some t->t<a.tmps.size) (hx:Ex e (CE T call ops nx sp 0 ops.toList env []) h nx cZ h' cF tr) {id:Nat} {Q:Exit->Act->World->Prop}
 (hk:∀a' X',G T X' h' cF lim->Step X nx lim X'->QB T X' cF lim cZ a'.tmps->a'.tmps.size=a.tmps.size->a'.defers=a.defers->Kp B a.tmps a'.tmps->Q .normal a' X'.w):(Code.region id ops true).wpIn (ou ro) m P Q a X.w:=by
 obtain⟨_,ts,nT,k1,k2,k3,_,k5⟩:=Qf0 ops.toList 0 rfl hx;simp only[aN,Array.length_toList]at k1 k2 k5;subst k2;obtain⟨gw,sw⟩:=g.world K.base { X.w with drawn:=X.w.drawn+1 } rfl rfl rfl rfl;refine wpIn_region_any hm ?_
 have hold:∀i,ft nx lim i->ft nx (oN nx sp ops.size lim (List.range' 0 ops.size)) i:=by
  intro i hi;rw[Co];have hc:=hi.1;have h0:nx<=nx+ops.size*sp:=Nat.le_add_right _ _
  rintro (q3|q3|⟨j,q3,q4,q5⟩)
  ·exact hi.2 q3
  ·omega
  ·have hj:=(List.mem_range'_1.1 q3).2;have:(j+1)*sp<=ops.size*sp:=Nat.mul_le_mul_right _ (by omega);have:nx<=nx+j*sp:=Nat.le_add_right _ _;omega
 refine QAr K gN hB hd (ts:=ts) (fun i j lf hj hn=>?_) g.low dP ops.size (List.range' 0 ops.size) _ env h ⟨{ X.w with drawn:=X.w.drawn+1 },X.ρ,X.O⟩ a (by simp) (List.pairwise_lt_range') (by simp) (fun j=>?_) (fun j o hj=>?_) k1 ?_
  (gw.jK hold (aq _)) ((he.step K.base sw (aq _)).jK hold fun _=>rfl) hb fun a' X' g' s' e' hs vL rR=>?_
 ·rcases k5 i (by omega) (by omega)with h1|h1
  ·rw[h1];refine .inl ?_;intro _ _ _ hm;simp at hm
  ·rcases k5 j (by omega) hj with h2|h2
   ·rw[h2];refine .inl ?_;intro _ _ _ _ hm;simp at hm
   ·exact Qi7 k3 h1 h2 lf hn
 ·simp only[List.mem_range'_1,aN,aK,true_and];constructor
  ·intro h;simp[Array.getD_eq_getD_getElem?,h]
  ·exact fun h=>h.1
 ·exfalso
  by_cases LK:j<ops.size
  ·simp[Array.getD_eq_getD_getElem?,LK]at hj
  ·simp[Array.getD_eq_getD_getElem?,LK]at hj
 ·intro j hj i q1 q2;cases hg:h.get i with
  |none=>rfl
  |some o=>
   exfalso;have:=hold i (g.eL i o hg).1;rw[Co]at this;exact this (.inr (.inr ⟨j,hj,q1,q2⟩))
 ·exact hk a' X' g' (sw.trans s' (aq _)) e' hs vL rR
end
section
variable {C:gR}{P:Program}{T:fh C}
open Pg (Ex)
variable (K:Zo P T)
def r9(tmps:bY):ResultVar->Sem Value
 |.tmp t=>pure (tmps.getD t undef)
 |.cell a t=>do loadVar t (<-asAddr (tmps.getD a undef))
theorem QlK{t:TypeId}{va v:Value}{w:World}(h:(Instr.loadAt t va).run P w=.ok v w):(do loadVar t (<-asAddr va):Sem Value).run P w=.ok v w:=by
 unfold Instr.loadAt Instr.sureAddr at h
 split at h
 ·simpa[asAddr]using h
 ·simp[stuck]at h
include K in
theorem Qp9{X:Cx}{h:Heap C}{nx:Nat}{lim:ek}{env:Env C}{tmps:bY}(g:G T X h nx lim)(he:QB T X nx lim env tmps):∀(rs:List ResultVar) {e:Pg.Lv} {l:List (D C)} {h':Heap C} {cF:Nat} {tr:Tr},
 Ex e (xY T env rs) h nx l h' cF tr->h'=h/\cF=nx/\∃vs,(rs.mapM (r9 tmps)).run P X.w=.ok vs X.w/\gV T X l vs/\∀d∈l,∀id∈D.refs d,ft nx lim id:=by
 intro rs
 induction rs with
 |nil=>
  intro e l h' cF tr hx;obtain⟨rfl,rfl,rfl,rfl⟩:=Ex.ret hx;exact⟨rfl,rfl,[],by simp,.nil,by simp⟩
 |cons r rs ih=>
  intro e l h' cF tr hx;cases r with
  |tmp t=>
   simp only[xY]at hx;obtain⟨l1,h1,n1,t1,t2,q1,hx,_⟩:=Ex.bind hx;obtain⟨rfl,rfl,rfl,rfl⟩:=Ex.ret hx;obtain⟨rfl,rfl,vs,a1,a2,a3⟩:=ih q1;refine⟨rfl,rfl,tmps.getD t undef::vs,by simp only[List.mapM_cons,r9,aG,aF,aA,a1],.cons (he t).1 a2,?_⟩;intro d hd;simp only[aZ]at hd;rcases hd with rfl|hd
   ·exact(he t).2
   ·exact a3 d hd
  |cell a t=>
   simp only[xY]at hx;obtain⟨d1,h1,n1,t1,t2,q1,hy,_⟩:=Ex.bind hx;obtain⟨v,k1,e1,e2,k2⟩:=QiY K g (he a) q1;subst e1;subst e2;obtain⟨l1,h2,n2,t3,t4,q2,hz,_⟩:=Ex.bind hy;obtain⟨rfl,rfl,rfl,rfl⟩:=Ex.ret hz;obtain⟨rfl,rfl,vs,a1,a2,a3⟩:=ih q2;refine⟨rfl,rfl,v::vs,by simp only[List.mapM_cons,r9,aG,aF,aA,a1];rw[<-aG,QlK k1];simp[a1],.cons k2.1 a2,?_⟩;intro d hd;simp only[aZ]at hd;rcases hd with rfl|hd
   ·exact k2.2
   ·exact a3 d hd
end
section
variable {C:gR}{P:Program}
theorem R.ls(T:fh C)(L:Laws T){X X':Cx}(hX:∀b o v,X.w.cell? ⟨b,o,none⟩=some v->X.free b o->X'.w.cell? ⟨b,o,none⟩=some v/\X'.free b o){m:Bool}{d:D C}{vs:bT}(h:R T X m d vs)(hd:d.refs=[]/\d.dM=true):R T X' m d vs :=
 h.rm T (y:=false) L.gX hX (fun h=>by cases h) (by rw[hd.1];simp) (.inr hd.2)
theorem RV.ls(T:fh C)(L:Laws T){X X':Cx}(hX:∀b o v,X.w.cell? ⟨b,o,none⟩=some v->X.free b o->X'.w.cell? ⟨b,o,none⟩=some v/\X'.free b o){d:D C}{v:Value}(h:RV T X d v)(hd:d.refs=[]/\d.dM=true):RV T X' d v:=by
 rcases h with⟨h1,cs,h2,h3⟩|⟨h1,h2⟩
 ·exact .inl ⟨h1,cs,h2.ls T L hX hd,h3⟩
 ·exact .inr ⟨h1,h2.ls T L hX hd⟩
theorem YF.move{T:fh C}(L:Laws T){X X':Cx}(hX:∀b o v,X.w.cell? ⟨b,o,none⟩=some v->X.free b o->X'.w.cell? ⟨b,o,none⟩=some v/\X'.free b o){ck cv:C.Ty}{l:List (C.A ck×C.A cv)}{es:dF}(h:YF T X ck cv l es):YF T X' ck cv l es:=by
 induction h with
 |nil=>exact .nil
 |cons hk hv _ ih=>exact .cons (hk.ls T L hX (L.gX _ _)) (hv.ls T L hX (L.gX _ _)) ih
theorem Kc.move{T:fh C}(L:Laws T){X X':Cx}(hX:∀b o v,X.w.cell? ⟨b,o,none⟩=some v->X.free b o->X'.w.cell? ⟨b,o,none⟩=some v/\X'.free b o){ck cv:C.Ty}{l:List (C.A ck×C.A cv)}{es:dR}{k:Nat}(h:Kc T X ck cv l es k):Kc T X' ck cv l es k :=
 ⟨h.rJ.move L hX,h.born,h.nodup⟩
theorem u5.move{T:fh C}(L:Laws T){X X':Cx}{cc:ru C}{s:ry}(h:u5 T X cc s)(hX:∀b o v,X.w.cell? ⟨b,o,none⟩=some v->X.free b o->X'.w.cell? ⟨b,o,none⟩=some v/\X'.free b o)
 (hb:∀b,s.owns b->X'.w.heap[b]? = X.w.heap[b]?):u5 T X' cc s:=by
 cases cc with
 |lp busy dn ex=>
  cases s with
  |lp b rec=>obtain⟨pend,h3,h4⟩:=h;exact⟨pend,(hb b rfl).trans h3,h4⟩
  |it bm r=>exact h.elim
 |it ck cv l=>
  cases s with
  |lp b rec=>exact h.elim
  |it bm r=>
   obtain⟨fg,es,si,se,k,h3,h4,h5,h6⟩:=h;exact⟨fg,es,si,se,k,(hb bm (.inl rfl)).trans h3,(hb r (.inr rfl)).trans h4,h5.move L hX,h6⟩
variable {T:fh C}
theorem VJ.move(L:Laws T){X X':Cx}{t:C.Ty}{own:Bool}{l:List (C.A t)}{v:Value}{b lo hi:Nat}(h:VJ T X t own l v b lo hi)
 (hX:∀b o v,X.w.cell? ⟨b,o,none⟩=some v->X.free b o->X'.w.cell? ⟨b,o,none⟩=some v/\X'.free b o)
 (hb:(∃o,(Loc.vec v (T.dp t) b lo hi).owns b o)->X'.w.heap[b]? = X.w.heap[b]?) (mA:0<T.size (T.dp t)):VJ T X' t own l v b lo hi:=by
 have hR:∀cs,R T X false (.arr t l.length l) cs->R T X' false (.arr t l.length l) cs:=fun cs hr=>hr.ls T L hX ⟨rfl,rfl⟩;rcases h with h2|⟨off,cp,h2,h3,h4,h5⟩
 ·exact .inl h2
 ·refine .inr ⟨off,cp,h2,h3,h4,?_⟩;rcases h5 with⟨ht,fX,h5|⟨cs,e,h5,h6,h7⟩⟩|⟨ht,fX,⟨cs,h5,h6⟩,h7⟩
  ·exact .inl ⟨ht,fX,.inl h5⟩
  ·by_cases hc:cp=0
   ·exact .inl ⟨ht,fX,.inl hc⟩
   ·have hm:T.size (T.dp t)<=cp*T.size (T.dp t):=Nat.le_mul_of_pos_left _ (by omega);have e1:=hb ⟨off,rfl,by omega,by omega⟩;exact .inl ⟨ht,fX,.inr ⟨cs,e,by rw[e1];exact h5,h6,hR _ h7⟩⟩
  ·refine .inr ⟨ht,fX,⟨cs,fun j u hj=>hX _ _ _ (h5 j u hj).1 (h5 j u hj).2,hR _ h6⟩,?_⟩;rcases h7 with h7|⟨c0,e,h7,h8⟩
   ·exact .inl h7
   ·by_cases hc:cp=l.length
    ·exact .inl hc
    ·have hm:(l.length+1)*T.size (T.dp t)<=cp*T.size (T.dp t):=Nat.mul_le_mul_right _ (by omega);have e1:=hb ⟨lo,rfl,by omega,by rw[Nat.succ_mul]at hm;omega⟩;exact .inr ⟨c0,e,by rw[e1];exact h7,h8⟩
theorem Laws.tV(L:Laws T)(t:C.Ty):0<T.size (T.dp t):=by
 refine L.pos _ fun hn=>?_;have:=L.fS t (T.eU t)
 revert this
 cases T.enc t (T.eU t)<;>simp[fit,hn]
theorem XV{w w':World}{a:Addr}(h:w'.heap[a.block]? = w.heap[a.block]?):w'.cell? a=w.cell? a:=by unfold World.cell?;rw[h]
theorem WU{w w':World}{a:Addr}(h:w'.heap[a.block]? = w.heap[a.block]?):w'.frozen? a=w.frozen? a:=by unfold World.frozen?;rw[h]
structure yk(X:Cx)(r:Nat)(w':World):Prop where
 size:w'.heap.size=X.w.heap.size
 block:∀b,b≠r->w'.heap[b]? = X.w.heap[b]?
 du:∀o,¬X.du r o
 tN:∀c t f,X.w.heap[r]? ≠ some (.cells c t f)
 os:w'.os=X.w.os
 tape:w'.tape=X.w.tape
 output:w'.output=X.w.output
theorem yk.cell{X:Cx}{r:Nat}{w':World}(t:yk X r w'):∀b o v,X.w.cell? ⟨b,o,none⟩=some v->X.free b o->(⟨w',X.ρ,X.O⟩:Cx).w.cell? ⟨b,o,none⟩=some v/\(⟨w',X.ρ,X.O⟩:Cx).free b o:=by
 intro b o v hc hf;refine⟨?_,hf⟩
 have hb:b≠r:=by
  rintro rfl
  unfold World.cell? at hc;cases hh:X.w.heap[b]? with
  |none=>simp[hh]at hc
  |some ob=>cases ob<;>simp[hh]at hc;exact absurd hh (t.tN _ _ _)
 rw[show(⟨w',X.ρ,X.O⟩:Cx).w=w' from rfl,XV (t.block b hb)];exact hc
theorem Xf{X:Cx}{r:Nat}{o o':Go.Obj}(ho:X.w.heap[r]? = some o)(hn:∀c t f,o ≠ .cells c t f)(hm:∀q,¬X.du r q):yk X r (X.w.putObj r o'):=
 ⟨World.putObj_size,fun b hb=>World.putObj_heap_other hb,hm,fun c t f h=>by rw[ho]at h;exact hn c t f (aj h),rfl,rfl,rfl⟩
theorem G.pN(L:Laws T){X:Cx}{h:Heap C}{nx:Nat}{lim:ek}(g:G T X h nx lim){r:Nat}{w':World}(t:yk X r w'):G T ⟨w',X.ρ,X.O⟩ h nx lim where
 var id u d hg:=by
  obtain⟨b,c,e1,e2,e3,e4⟩:=g.var id u d hg;have hb:b≠r:=by rintro rfl;exact t.du 0 ⟨id,_,e1,rfl⟩
  exact⟨b,c,e1,(t.block b hb).trans e2,e3.rm T (y:=false) L.gX t.cell (fun h=>by cases h) (fun id _=>Qp.refl _) (.inr (Jr _ _ e4)),e4⟩
 vec id u own l hg:=by
  obtain⟨v,b,lo,hi,e1,e2⟩:=g.vec id u own l hg;refine⟨v,b,lo,hi,e1,e2.move L t.cell (fun⟨o,ho⟩=>?_) (L.tV u)⟩;have hb:b≠r:=by rintro rfl;exact t.du o ⟨id,_,e1,ho⟩
  exact t.block b hb
 map id ck cv l hg:=by
  obtain⟨b,es,k,e1,e2,e3⟩:=g.map id ck cv l hg;have hb:b≠r:=by rintro rfl;exact t.du 0 ⟨id,_,e1,rfl⟩
  exact⟨b,es,k,e1,(t.block b hb).trans e2,e3.move L t.cell⟩
 dG id cc hg:=by
  obtain⟨s,e1,e2⟩:=g.dG id cc hg;refine⟨s,e1,e2.move L t.cell fun b hb=>t.block b ?_⟩
  rintro rfl
  exact t.du 0 ⟨id,_,e1,hb⟩
 jA:=g.jA
 eL:=g.eL
 apart:=g.apart
 outer b o hm:=by rw[t.size];exact g.outer b o hm
 outs b o ho:=by rw[t.size];exact g.outs b o ho
 low:=g.low
 pre p hp:=by
  obtain⟨⟨u,f,h1⟩,h2⟩:=g.pre p hp
  have hb:p.1≠r:=by
   intro e;rw[e]at h1;exact t.tN _ _ _ h1
  exact⟨⟨u,f,(t.block _ hb).trans h1⟩,h2⟩
theorem Step.pN{X0 X:Cx}{nx:Nat}{lim:ek}(s:Step X0 nx lim X){r:Nat}{w':World}(t:yk X r w')(hr:X0.w.heap.size<=r):Step X0 nx lim ⟨w',X.ρ,X.O⟩ where
 O:=s.O
 os:=t.os.trans s.os
 tape:=t.tape.trans s.tape
 output:=t.output.trans s.output
 size:=by rw[t.size];exact s.size
 ρ:=s.ρ
 du:=s.du
 cell b o hb hm:=(XV (t.block b (by omega))).trans (s.cell b o hb hm)
 block b hb hm:=(t.block b (by omega)).trans (s.block b hb hm)
 frz a ha:=(WU (t.block a.block (by omega))).trans (s.frz a ha)
def E1(r:Nat):Deferred:={ target:=.collected r,args := #[] }
def VP(X X':Cx)(ds base:List Deferred):Prop :=
 ∃rs:bU,ds=rs.map E1++base/\rs.Nodup/\∀r∈rs,X.w.heap.size<=r/\X'.w.heap[r]? = some (.deferred (some []))/\∀o,¬X'.du r o
theorem VP.of_eq{X X':Cx}{ds base:List Deferred}(h:ds=base):VP X X' ds base:=⟨[],by simp[h],List.nodup_nil,fun r hr=>by simp at hr⟩
theorem VP.refl(X X':Cx)(ds:List Deferred):VP X X' ds ds:=.of_eq rfl
theorem VP.zN{X X1 X2:Cx}{d0 d1 d2:List Deferred}(h:VP X X1 d1 d0)(fB:X.w.heap.size<=X1.w.heap.size)(hb:∀r,r<X1.w.heap.size->(∀o,¬X1.du r o)->X2.w.heap[r]? = X1.w.heap[r]? /\ ∀o,¬X2.du r o)(k:VP X1 X2 d2 d1):VP X X2 d2 d0:=by
 obtain⟨r1,rfl,n1,h1⟩:=h;obtain⟨r2,rfl,n2,h2⟩:=k;refine⟨r2++r1,by simp,?_,?_⟩
 ·rw[List.nodup_append];refine⟨n2,n1,fun a ha b hb e=>?_⟩;subst e;have q1:=(h2 a ha).1;have q2:=(aI.1 (h1 a hb).2.1).1;omega
 ·intro r hr;rcases aT.1 hr with hr|hr
  ·obtain⟨q1,q2,q3⟩:=h2 r hr;exact⟨bk fB q1,q2,q3⟩
  ·obtain⟨q1,q2,q3⟩:=h1 r hr;have hl:=(aI.1 q2).1;obtain⟨p1,p2⟩:=hb r hl q3;exact⟨q1,p1.trans q2,p2⟩
theorem VP.trans{X X1 X2:Cx}{nx n1:Nat}{lim lim1:ek}{d0 d1 d2:List Deferred}(h:VP X X1 d1 d0)(s:Step X nx lim X1)(s2:Step X1 n1 lim1 X2)(k:VP X1 X2 d2 d1):VP X X2 d2 d0 :=
 h.zN s.size (fun r hl q3=>⟨s2.block r hl q3,fun o ho=>q3 o (s2.du r o hl ho)⟩) k
theorem VP.sub{X X1 X2:Cx}{d0 d1:List Deferred}(h:VP X X1 d1 d0)(hw:X2.w=X1.w)(hm:∀b o,b<X1.w.heap.size->X2.du b o->X1.du b o):VP X X2 d1 d0:=by
 obtain⟨r1,rfl,n1,h1⟩:=h;exact⟨r1,rfl,n1,fun r hr=>⟨(h1 r hr).1,by rw[hw];exact(h1 r hr).2.1,fun o ho=>(h1 r hr).2.2 o (hm r o (aI.1 (h1 r hr).2.1).1 ho)⟩⟩
theorem G.lZ{X:Cx}{h:Heap C}{nx:Nat}{lim:ek}(g:G T X h nx lim){b o:Nat}(hm:X.du b o):(∃c t f,X.w.heap[b]? = some (.cells c t f))\/(∃es k,X.w.heap[b]? = some (.map es k))\/(∃r,X.w.heap[b]? = some (.loop r))\/∃m s c k,X.w.heap[b]? = some (.mapIter m s c k):=by
 obtain⟨id,l,hl,ho⟩:=hm;have hd:=g.jA id l hl;cases hg:h.get id with
 |none=>rw[hg]at hd;cases hd
 |some ob=>
  cases ob with
  |var t d=>
   obtain⟨b',c,e1,e2,_⟩:=g.var id t d hg;rw[hl]at e1;obtain rfl:=aj e1;obtain rfl:b=b':=ho;exact .inl ⟨_,_,_,e2⟩
  |map ck cv m=>
   obtain⟨b',es,k,e1,e2,_⟩:=g.map id ck cv m hg;rw[hl]at e1;obtain rfl:=aj e1;obtain rfl:b=b':=ho;exact .inr (.inl ⟨_,_,e2⟩)
  |dG cc=>
   obtain⟨s,e1,e2⟩:=g.dG id cc hg;rw[hl]at e1;obtain rfl:=aj e1;cases cc with
   |lp busy dn ex=>
    cases s with
    |it _ _=>exact e2.elim
    |lp b' rec=>
     obtain rfl:b=b':=ho;obtain⟨pend,h3,_⟩:=e2;exact .inr (.inr (.inl ⟨_,h3⟩))
   |it ck cv m=>
    cases s with
    |lp _ _=>exact e2.elim
    |it bm r=>
     obtain⟨_,es,si,se,k,h3,h4,_⟩:=e2;rcases ho with rfl|rfl
     ·exact .inr (.inl ⟨_,_,h3⟩)
     ·exact .inr (.inr (.inr ⟨_,_,_,_,h4⟩))
  |vec t own m=>
   obtain⟨v,b',lo,hi,e1,e2⟩:=g.vec id t own m hg;rw[hl]at e1;obtain rfl:=aj e1;obtain⟨rfl,h1,h2⟩:b=b'/\lo<=o/\o<hi:=ho;rcases e2 with⟨_,_,h3⟩|⟨off,cp,_,_,h4,h5⟩
   ·omega
   ·rcases h5 with⟨_,h6,h7|⟨c,e,h7,_⟩⟩|⟨_,h6,_,h7|⟨c,e,h7,_⟩⟩
    ·rw[h7]at h4;omega
    ·exact .inl ⟨_,_,_,h7⟩
    ·rw[h7]at h4;omega
    ·exact .inl ⟨_,_,_,h7⟩
theorem VP.zu{X Xa Xb X2:Cx}{h:Heap C}{nx:Nat}{lim:ek}(g:G T X2 h nx lim){d d0:List Deferred}(k:VP Xa Xb d d0)(ha:X.w.heap.size<=Xa.w.heap.size)(hb:X2.w=Xb.w):VP X X2 d d0:=by
 obtain⟨rs,rfl,n1,h1⟩:=k;refine⟨rs,rfl,n1,fun r hr=>?_⟩;obtain⟨q1,q2,_⟩:=h1 r hr;rw[<-hb]at q2;refine⟨bk ha q1,q2,fun o ho=>?_⟩;rcases g.lZ ho with⟨_,_,_,e⟩|⟨_,_,e⟩|⟨_,e⟩|⟨_,_,_,_,e⟩<;>rw[e]at q2<;>cases q2
theorem Qja(K:Zo P T){fn:Func}{tmps:bY}{R:Ending->World->Prop}{n:Nat}{X0:Cx}{nx0:Nat}{h:Heap C}{nx:Nat}{lim:ek}{env:Env C}:∀(rs:bU) (X:Cx),rs.Nodup->(∀r∈rs,X0.w.heap.size<=r/\X.w.heap[r]? = some (.deferred (some []))/\∀o,¬X.du r o) ->
 G T X h nx lim->Step X0 nx0 lim X->(∀t,RO T X nx lim (cR env t) (tmps.getD t undef)) ->
 (∀X',G T X' h nx lim->Step X0 nx0 lim X'->(∀t,RO T X' nx lim (cR env t) (tmps.getD t undef))->∃v,(results fn tmps).run P X'.w=.ok v X'.w/\R (.returned v) X'.w) ->
 LeavesInM Fence.wide n P fn tmps R (rs.map E1) .returning X.w:=by
 intro rs
 induction rs with
 |nil=>intro X _ _ g s he hk;exact hk X g s he
 |cons r rs ih=>
  intro X hn hr g s he hk;obtain⟨q1,q2,q3⟩:=hr r (by simp);obtain⟨oJ,na⟩:=List.nodup_cons.1 hn;have t:yk X r (X.w.putObj r (.deferred none)):=Xf q2 (fun c t f h=>by cases h) q3;refine⟨by simp,.inl ⟨r,X.w.putObj r (.deferred none),rfl,run_takeDeferred q2,?_⟩⟩;have rR:ul X ⟨X.w.putObj r (.deferred none),X.ρ,X.O⟩:=⟨t.cell⟩;refine ih ⟨X.w.putObj r (.deferred none),X.ρ,X.O⟩ na (fun r' fK=>?_) (g.pN K.base t) (s.pN t q1) (fun u=>⟨(he u).1.mono T K.base.gX rR fun id _=>Qp.refl _,(he u).2⟩) hk;obtain⟨p1,p2,p3⟩:=hr r' (by simp[fK]);exact⟨p1,(t.block r' (by rintro rfl;exact oJ fK)).trans p2,p3⟩
end
section
variable {C:gR}{P:Program}{T:fh C}{Φ:iR C}
open Pg (Ex)
def u6:Ev.X->Exit
 |.normal=>.normal
 |.exit id=>.exit id
 |.ret=>.ret
theorem Y2{P:Program}{b:Frame}{a:Act}{k:List Item}{cs:List Frame}{w:World}{c:Code}:step P (lone (b.atR a (.code (.scope c)::k)) cs w)=.next (lone (b.atR a (.code c::.inScope c::k)) cs w):=
 step_lone_go (by simp[stepG,stepG.exec,Frame.atR])
theorem QhA{P:Program}{b:Frame}{a:Act}{k:List Item}{cs:List Frame}{w:World}{c:Code}:step P (lone (b.atR a (.inScope c::k)) cs w)=.next (lone (b.atR a k) cs w):=
 step_lone_go (by simp[stepG,stepG.exec,Frame.atR])
def QEA(Q:Exit->Act->Go.World->Prop):Exit->Act->Go.World->Prop
 |.goto _,_,_=>False
 |e,a,w=>Q e a w
theorem Qqa{F:Fence}{n:Nat}{P:Program}{Q:Exit->Act->Go.World->Prop}{a:Act}{w:Go.World}{c:Code}(h:c.wpIn F n P (QEA Q) a w):(Code.scope c).wpIn F n P Q a w:=by
 intro b k cs vZ hb hr;have h0:(lone (b.atR a (.code (.scope c)::k)) cs w).fenced P F:=fenced_calm hb hr rfl;obtain⟨e,a₁,w₁,hq,rM⟩:=h b (.inScope c::k) cs vZ hb hr;cases e with
 |normal=>exact⟨.normal,a₁,w₁,hq,.head h0 Y2 (StepsIn.trans rM (.one (fenced_calm hb hr rfl) QhA))⟩
 |exit id=>
  have hx:exitTo id (.inScope c::k)=exitTo id k:=by simp[exitTo]
  exact⟨.exit id,a₁,w₁,hq,fun k' hk=>.head h0 Y2 (rM.1 k' (by rw[hx];exact hk)),
   fun fK hk=>let ⟨k₁,h1,h2⟩:=rM.2 fK (by rw[hx];exact hk);⟨k₁,h1,.head h0 Y2 h2⟩⟩
 |goto l=>exact hq.elim
 |ret=>exact⟨_,a₁,w₁,hq,.of_steps (.one h0 Y2) rM⟩
 |panic ch=>exact⟨_,a₁,w₁,hq,.of_steps (.one h0 Y2) rM⟩
 |outgrown=>exact⟨_,a₁,w₁,hq,.of_steps (.one h0 Y2) rM⟩
def Zd:Code->List Code
 |.seq a b=>Zd a++Zd b
 |.cond _ a b=>Zd a++Zd b
 |.block _ a=>Zd a
 |.loop a=>a::Zd a
 |.scope a=>Zd a
 |_=>[]
theorem N1{nt:Nat}{ops:cO}(h:zw nt ops=true):∀o∈ops.toList,∀t,o.dst=some t->t<nt:=by
 intro o ho t ht;simp only[zw,aX]at h;have:=h o ho;rw[ht]at this
 simpa[Nat.blt_eq]using this
theorem Qqb{ops:cO}(h:Mu ops=true):PG ops:=by
 simp only[Mu,aX,ai]at h
 have mem:∀i o,ops[i]? = some o->(o,i)∈ops.toList.zipIdx:=by
  intro i o hi;rw[List.mem_zipIdx_iff_getElem?];rw[Array.getElem?_toList];exact hi
 refine⟨fun i o hi e he hb=>?_,fun i j oi oj lf hi hj=>?_⟩
 ·have:=(h (o,i) (mem i o hi)).1 e (by simpa using he)
  simpa[hb,Nat.blt_eq]using this
 ·have:=(h (oi,i) (mem i oi hi)).2 (oj,j) (mem j oj hj);simp only[Bool.or_eq_true,Bool.not_eq_true']at this;rcases this with(h1|h1)|h1
  ·have h2:Nat.blt i j=true:=by rw[Nat.blt_eq];exact lf
   rw[h2]at h1;cases h1
  ·exact .inl h1
  ·exact .inr h1
def yd(B:Nat->Bool)(c:Code):Prop:=∀t∈gI c,B t=false
def Fg(T:fh C)(B:Nat->Bool)(X:Cx)(nx:Nat)(lim:ek)(h':Heap C)(cF:Nat)(cZ:Env C)(a:Act)(Q:Act->World->Prop):Prop :=
 ∀a' X',G T X' h' cF lim->Step X nx lim X'->QB T X' cF lim cZ a'.tmps->a'.tmps.size=a.tmps.size->VP X X' a'.defers a.defers->Kp B a.tmps a'.tmps->Q a' X'.w
def K4(P:Program)(T:fh C)(g:FuncId)(args:List (D C))(d:D C):Prop :=
 ∀(w:World) (O:Nat->Nat->Prop) (vs:bT),(∀b o,O b o->b<w.heap.size)->(∀p∈T.pre,∃t f,w.heap[p.1]? = some (.cells p.2 t f))->gV T ⟨w,fun _=>none,O⟩ args vs ->
  (callFunc g ⟨vs⟩).run P w=.ok (.enter g ⟨vs⟩) w/\Calls P g ⟨vs⟩ w fun en w'=>
   ∃v ρ,en=.returned v/\RV T ⟨w',ρ,O⟩ d v/\(d.refs=[]/\d.dM=true)/\w.heap.size<=w'.heap.size/\(∀b,b<w.heap.size->w'.heap[b]? = w.heap[b]?)/\w'.os=w.os/\w'.tape=w.tape/\w'.output=w.output/\(∀a:Addr,a.block<w.heap.size->w'.frozen? a=w.frozen? a)
theorem K4.call(K:Zo P T){g:FuncId}{args:List (D C)}{d:D C}(hb:K4 P T g args d)(gH:∀a∈args,D.refs a=[]){X:Cx}{hp:Heap C}{nx:Nat}{lim:ek}{vs:bT}(g0:G T X hp nx lim)(nY:gV T X args vs) :
 (callFunc g ⟨vs⟩).run P X.w=.ok (.enter g ⟨vs⟩) X.w/\Calls P g ⟨vs⟩ X.w (ZU T X nx lim hp nx d):=by
 have li:ul X ⟨X.w,fun _=>none,fun b o=>X.O b o\/X.du b o⟩:=
  ⟨fun b o v hc hf=>⟨hc,fun h=>h.elim hf.1 hf.2,fun⟨_,_,hq,_⟩=>by simp at hq⟩⟩
 have SS:gV T ⟨X.w,fun _=>none,fun b o=>X.O b o\/X.du b o⟩ args vs:=by
  clear hb
  induction nY with
  |nil=>exact .nil
  | @cons d ds v vs hv _ ih=>
   refine .cons (hv.mono T K.base.gX (X':=⟨X.w,fun _=>none,fun b o=>X.O b o\/X.du b o⟩) li fun id hi=>?_) (ih fun a ha=>gH a (by simp[ha]));rw[gH d (by simp)]at hi;simp at hi
 obtain⟨q1,q2⟩:=hb X.w (fun b o=>X.O b o\/X.du b o) vs (fun b o ho=>ho.elim (g0.outs b o) fun hm=>(g0.outer b o hm).2) (fun p hp=>(g0.pre p hp).1) SS;refine⟨q1,q2.mono fun en w' xt=>?_⟩;obtain⟨v,ρ,rfl,r,hd,a1,a2,a3,a4,a5,a6⟩:=xt;obtain⟨g',s'⟩:=g0.grow K.base w' a1 a2 a3 a4 a5 a6;refine⟨v,⟨w',X.ρ,X.O⟩,rfl,rfl,g',s',?_,by rw[hd.1];simp⟩;exact RV.ls T K.base (X:=⟨w',ρ,fun b o=>X.O b o\/X.du b o⟩) (X':=⟨w',X.ρ,X.O⟩) (fun b o u hc hf=>⟨hc,fun ho=>hf.1 (Or.inl ho),fun hm=>hf.1 (Or.inr hm)⟩) r hd
theorem R.plain{X X':Cx}{m:Bool}{d:D C}{vs:bT}(h:R T X m d vs):d.plain=true->R T X' m d vs:=by
 induction h with
 |bool b=>exact fun _=>.bool b
 |int h=>exact fun _=>.int h
 |str s=>exact fun _=>.str s
 |bN=>exact fun _=>.bN
 |bI _ _ i1 i2=>intro hp;simp only[D.plain,ai]at hp;exact .bI (i1 hp.1) (i2 hp.2)
 |ez=>exact fun _=>.ez
 |eX=>exact fun _=>.eX
 |cm=>exact fun _=>.cm
 |gf=>exact fun _=>.gf
 |cG _ ih=>intro hp;exact .cG (ih hp)
 |iu=>exact fun _=>.iu
 |jh _ hr _ i1 i2=>intro hp;simp only[D.plain,ai]at hp;exact .jh (i1 hp.1) hr (i2 hp.2)
 |iQ _ hr _ i1 i2=>intro hp;simp only[D.plain,ai]at hp;exact .iQ (i1 hp.1) hr (i2 hp.2)
 |_=>intro hp;simp[D.plain]at hp
theorem RV.plain{X X':Cx}{d:D C}{v:Value}(h:RV T X d v)(hp:d.plain=true):RV T X' d v:=by
 rcases h with⟨h1,cs,h2,h3⟩|⟨h1,h2⟩
 ·exact .inl ⟨h1,cs,h2.plain hp,h3⟩
 ·exact .inr ⟨h1,h2.plain hp⟩
def Cx.bare(X:Cx):Cx:=⟨X.w,fun _=>none,X.O⟩
theorem Cx.lK(X:Cx):∀b o v,X.w.cell? ⟨b,o,none⟩=some v->X.free b o->X.bare.w.cell? ⟨b,o,none⟩=some v/\X.bare.free b o :=
 fun b o v hc hf=>⟨hc,hf.1,fun⟨_,_,hq,_⟩=>by simp[Cx.bare]at hq⟩
theorem QsP(K:Zo P T){X:Cx}{h h':Heap C}{nx cF:Nat}{e:Pg.Lv}{lim:ek}{tr:Tr}{id n:Nat}{d':D C}{v:Value}(g:G T X h nx lim)(hr:R T X false (.vs id n) [v])
 (hx:Ex e (qS (.vs id n)) h nx d' h' cF tr):h'=h/\cF=nx/\R T X.bare false d' [v]/\d'.de=false:=by
 simp only[qS]at hx;obtain⟨o,t',ho,hx,_⟩:=Ex.rd hx;cases o with
 |var t d=>exact Ex.cB hx
 |map _ _ _=>exact Ex.cB hx
 |dG _=>exact Ex.cB hx
 |vec ty own l=>
  rcases Ex.br hx with⟨hb,hx⟩|⟨hb,hx⟩
  ·obtain⟨rfl,rfl,rfl,rfl⟩:=Ex.ret hx;have hn:n=l.length:=az hb;obtain⟨v0,b,lo,hi,h1,h2⟩:=g.vec id ty own l ho;have hlen:=h2.len;refine⟨rfl,rfl,?_,rfl⟩;cases hr with
   | @vs _ _ cp a hh=>
    have hv:=(hh _ _ _ _ _ h1).2 (by rw[hlen,hn]);rcases h2 with⟨⟨a0,h2,_⟩,rfl,_⟩|⟨off,lh,h2,h3,h4,h5⟩
    ·rw[h2]at hv;simp only[Value.slice.injEq]at hv;obtain⟨_,e1,e2⟩:=hv;rw[<-e1,<-e2];exact .kN ty false a
    ·rw[h2]at hv;simp only[Value.slice.injEq]at hv;obtain⟨rfl,rfl,rfl⟩:=hv;have hR:∀cs,R T X false (.arr ty l.length l) cs->R T X.bare false (.arr ty l.length l) cs:=fun cs hr=>hr.ls T K.base X.lK ⟨rfl,rfl⟩;rcases h5 with⟨_,fX,h5⟩|⟨_,fX,⟨cs,h5,h6⟩,_⟩
     ·rcases h5 with h5|⟨c,ce,h5,h6,h7⟩
      ·have vS:l=[]:=List.length_eq_zero_iff.1 (by omega);subst vS;exact .sl (cs:=[]) (fun j u hj=>by simp at hj) (.ia _) h3 (fun h=>by cases h)
      ·refine .sl (cs:=(c.toList.drop off).take (l.length*T.size (T.dp ty))) (fun j u hj=>?_) (hR _ h7) h3 (fun h=>by cases h)
       have cU:j<l.length*T.size (T.dp ty):=by
        have:=(av.1 hj).1;rw[bp]at this;omega
       have hmul:l.length*T.size (T.dp ty)<=lh*T.size (T.dp ty):=Nat.mul_le_mul_right _ h3;refine⟨?_,(g.outer b (off+j) ⟨id,_,h1,rfl,by omega,by omega⟩).1,fun⟨_,_,hq,_⟩=>by simp[Cx.bare]at hq⟩;rw[List.getElem?_take_of_lt cU,List.getElem?_drop]at hj;show X.w.cell? _=_;simp only[World.cell?,h5];rw[<-hj];simp
     ·exact .sl (cs:=cs) (fun j u hj=>X.lK _ _ _ (h5 j u hj).1 (h5 j u hj).2) (hR _ h6) h3 (fun h=>by cases h)
  ·exact Ex.cB hx
theorem QsQ(K:Zo P T):∀(d:D C) {m:Bool} {vs:bT} {X:Cx} {h h':Heap C} {nx cF:Nat} {e:Pg.Lv} {lim:ek} {tr:Tr} {d':D C},G T X h nx lim->R T X m d vs->Ex e (qS d) h nx d' h' cF tr ->
 h'=h/\cF=nx/\d'.de=d.de/\(d'.refs=[]->d'.dM=true->R T X.bare m d' vs):=by
 intro d
 have same:∀(d0:D C),qS d0=.ret d0->∀{m:Bool} {vs:bT} {X:Cx} {h h':Heap C} {nx cF:Nat} {e:Pg.Lv} {lim:ek} {tr:Tr} {d':D C},G T X h nx lim->R T X m d0 vs->Ex e (qS d0) h nx d' h' cF tr ->
  h'=h/\cF=nx/\d'.de=d0.de/\(d'.refs=[]->d'.dM=true->R T X.bare m d' vs):=by
  intro d0 hd m vs X h h' nx cF e lim tr d' g hr hx;rw[hd]at hx;obtain⟨rfl,rfl,rfl,rfl⟩:=Ex.ret hx;exact⟨rfl,rfl,rfl,fun h1 h2=>hr.ls T K.base X.lK ⟨h1,h2⟩⟩
 induction d with
 |bI d ds i1 i2=>
  intro m vs X h h' nx cF e lim tr d' g hr hx;simp only[qS]at hx;obtain⟨d1,h1,n1,t1,t2,q1,hx,_⟩:=Ex.bind hx;obtain⟨d2,h2,n2,t3,t4,q2,hx,_⟩:=Ex.bind hx;obtain⟨rfl,rfl,rfl,rfl⟩:=Ex.ret hx;have lS:∀(a b:D C),(D.bI a b).refs=[]->a.refs=[]/\b.refs=[]:=fun a b h=>by simpa[D.refs]using h
  cases hr with
  |bI r1 r2=>
   obtain⟨rfl,rfl,_,k1⟩:=i1 g r1 q1;obtain⟨rfl,rfl,_,k2⟩:=i2 g r2 q2;refine⟨rfl,rfl,rfl,fun h1 h2=>?_⟩;simp only[D.dM,ai]at h2;exact .bI (k1 (lS _ _ h1).1 h2.1) (k2 (lS _ _ h1).2 h2.2)
  |jh r1 fA r2=>
   obtain⟨rfl,rfl,e1,k1⟩:=i1 g r1 q1;obtain⟨rfl,rfl,_,k2⟩:=i2 g r2 q2;refine⟨rfl,rfl,rfl,fun h1 h2=>?_⟩;simp only[D.dM,ai]at h2;exact .jh (k1 (lS _ _ h1).1 h2.1) (by rw[e1];exact fA) (k2 (lS _ _ h1).2 h2.2)
  |iQ r1 fA r2=>
   obtain⟨rfl,rfl,e1,k1⟩:=i1 g r1 q1;obtain⟨rfl,rfl,_,k2⟩:=i2 g r2 q2;refine⟨rfl,rfl,rfl,fun h1 h2=>?_⟩;simp only[D.dM,ai]at h2;exact .iQ (k1 (lS _ _ h1).1 h2.1) (by rw[e1];exact fA) (k2 (lS _ _ h1).2 h2.2)
 |cG d ih=>
  intro m vs X h h' nx cF e lim tr d' g hr hx;simp only[qS]at hx;obtain⟨d1,h1,n1,t1,t2,q1,hx,_⟩:=Ex.bind hx;obtain⟨rfl,rfl,rfl,rfl⟩:=Ex.ret hx;cases hr with
  |cG r1=>
   obtain⟨rfl,rfl,_,k1⟩:=ih g r1 q1;exact⟨rfl,rfl,rfl,fun h1 h2=>.cG (k1 h1 h2)⟩
 |vs id n=>
  intro m vs X h h' nx cF e lim tr d' g hr hx;have hm:m=false:=by cases hr;rfl
  subst hm;have hv:∃v,vs=[v]:=by cases hr;exact⟨_,rfl⟩
  obtain⟨v,rfl⟩:=hv;obtain⟨rfl,rfl,k1,k2⟩:=QsP K g hr hx;exact⟨rfl,rfl,by rw[k2];rfl,fun _ _=>k1⟩
 |jg ta id p lo n=>
  intro m vs X h h' nx cF e lim tr d' g hr hx;have hm:m=false:=by cases hr;rfl
  subst hm;simp only[qS]at hx;obtain⟨o,t',ho,hx,_⟩:=Ex.rd hx;cases o with
  |var t d=>exact Ex.cB hx
  |map _ _ _=>exact Ex.cB hx
  |dG _=>exact Ex.cB hx
  |vec ty own l=>
   rcases Ex.br hx with⟨hb,hx⟩|⟨hb,hx⟩
   ·obtain⟨rfl,rfl,rfl,rfl⟩:=Ex.ret hx;simp only[ai,Nat.beq_eq]at hb;obtain⟨hn,fX⟩:=hb;have fX:=Nat.le_of_ble_eq_true fX;obtain⟨v0,b,iP,jl,h1,h2⟩:=g.vec id ty own l ho;have hlen:=h2.len;refine⟨rfl,rfl,rfl,fun _ _=>?_⟩;cases hr with
    | @jg _ _ _ _ cp _ ao hq hs hw=>
     obtain⟨k1,k2⟩:=hw _ _ _ _ _ h1;obtain⟨a0,yz,k3,k4,k5,k6⟩:=k2 (by rw[hlen,hn]);subst k3 k4 k5 k6
     have mQ:R T X false (.vs id (p.getD 0 0)) [.slice a0 (p.getD 0 0) yz]:=.vs fun v e b' lo2 qw h5=>by
      rw[h1]at h5;cases h5;exact⟨by simp[gJ],fun _=>rfl⟩
     have hex:Ex (0,0) (qS (.vs id (p.getD 0 0))) h' cF (.sl ty false l) h' cF ([]++[(id,false)]):=by
      simp only[qS];refine Ex.rd_mk ho ?_;simp only[hn];exact Ex.lq (.inl ⟨by simp,Ex.oQ _⟩)
     exact(QsP K g mQ hex).2.2.1.yD K.base lo (by omega)
   ·exact Ex.cB hx
 |_=>exact same _ rfl
theorem Qnd(K:Zo P T):∀(args:List (D C)) {vs:bT} {X:Cx} {h h':Heap C} {nx cF:Nat} {e:Pg.Lv} {lim:ek} {tr:Tr} {hZ:List (D C)},G T X h nx lim->gV T X args vs->Ex e (Li args) h nx hZ h' cF tr ->
 h'=h/\cF=nx/\((∀a∈hZ,D.refs a=[])->(∀a∈hZ,D.dM a=true)->gV T X.bare hZ vs)
 |[],vs,X,h,h',nx,cF,e,lim,tr,hZ,g,hr,hx=>by
  obtain⟨rfl,rfl,rfl,rfl⟩:=Ex.ret hx;cases hr;exact⟨rfl,rfl,fun _ _=>.nil⟩
 |d::ds,vs,X,h,h',nx,cF,e,lim,tr,hZ,g,hr,hx=>by
  simp only[Li]at hx;obtain⟨d1,h1,n1,t1,t2,q1,hx,_⟩:=Ex.bind hx;obtain⟨d2,h2,n2,t3,t4,q2,hx,_⟩:=Ex.bind hx;obtain⟨rfl,rfl,rfl,rfl⟩:=Ex.ret hx;cases hr with
  | @cons _ _ v vs' rv rs=>
   have key:h1=h/\n1=nx/\(d1.refs=[]->d1.dM=true->RV T X.bare d1 v):=by
    rcases rv with⟨i1,cs,r1,rfl⟩|⟨i1,r1⟩
    ·obtain⟨a,b,c,k⟩:=QsQ K d g r1 q1;exact⟨a,b,fun u1 u2=>.inl ⟨by rw[c];exact i1,cs,k u1 u2,rfl⟩⟩
    ·obtain⟨a,b,c,k⟩:=QsQ K d g r1 q1;exact⟨a,b,fun u1 u2=>.inr ⟨by rw[c];exact i1,k u1 u2⟩⟩
   obtain⟨rfl,rfl,k1⟩:=key;obtain⟨rfl,rfl,k2⟩:=Qnd K ds g rs q2;exact⟨rfl,rfl,fun h1 h2=>.cons (k1 (h1 _ (by simp)) (h2 _ (by simp))) (k2 (fun a ha=>h1 a (by simp[ha])) (fun a ha=>h2 a (by simp[ha])))⟩
structure Qk(P:Program)(T:fh C)(Φ:iR C):Prop where
 fn : ∀ f fn,Φ.fn f=some fn->P.funcs[f]? = some fn /\ (fn.name == "runtime.NumGoroutine")=false /\ ∀ body,fn.body=some body->Y0 fn.ntmps body=true
 spec:∀g s args d,Φ.spec g=some s->s args=some (true,d)->(∀a∈args,D.refs a=[])/\K4 P T g args d
 jd:∀g s,Φ.jd g=some s->∀args vs X h nx lim e d h' cF tr,G T X h nx lim->gV T X args vs->(∀a∈args,∀id∈D.refs a,ft nx lim id)->cF<=lim.top->Ex e (s args) h nx d h' cF tr ->
  (callFunc g ⟨vs⟩).run P X.w=.ok (.enter g ⟨vs⟩) X.w/\Calls P g ⟨vs⟩ X.w (ZU T X nx lim h' cF d)
 loop:∀f fn body b s,Φ.fn f=some fn->fn.body=some body->b∈Zd body->Φ.loop f (QC b)=some s->∀B,yd B b->∀X h nx lim e env x cZ h' cF tr a Q,G T X h nx lim->QB T X nx lim env a.tmps->cF<=lim.top->fn.ntmps<=a.tmps.size ->
  Ex e (s env) h nx (x,cZ) h' cF tr->Fg T B X nx lim h' cF cZ a (Q (u6 x))->(Code.loop b).wp P Q a X.w
theorem pq:∀(env cZ:Env C) (t:Nat),cR (env++cZ) t=cR env t\/cR (env++cZ) t=cR cZ t
 |[],cZ,t=>.inr rfl
 |(j,d)::r,cZ,t=>by
  rw[aP,QG,QG]
  split
  ·exact .inl rfl
  ·exact pq r cZ t
theorem Oo{l:bU}{t:Nat}(h:l.any (Nat.beq t)=true):∀env:Env C,cR (mj l env) t=.top
 |[]=>rfl
 |(j,d)::r=>by
  rw[mj];cases hj:l.any (Nat.beq j)with
  |true=>exact Oo h r
  |false=>
   simp only[ah];rw[QG];have:t≠j:=fun e=>by rw[e,hj]at h;cases h
   simp only[this,aL];exact Oo h r
theorem N2{l:bU}{t:Nat}(h:l.any (Nat.beq t)=false):∀env:Env C,cR (mj l env) t=cR env t
 |[]=>rfl
 |(j,d)::r=>by
  rw[mj,QG];cases hj:l.any (Nat.beq j)with
  |true=>
   have:t≠j:=fun e=>by rw[e,hj]at h;cases h
   simp only[this,aL,ag];exact N2 h r
  |false=>
   simp only[ah];rw[QG,N2 h r]
theorem QB.lN{X:Cx}{nx:Nat}{lim:ek}{env:Env C}{tmps:bY}{t:Nat}{d:D C}(he:QB T X nx lim env tmps)(hd:cR env t=d):QB T X nx lim ((t,d)::env) tmps:=by
 intro u;rw[QG]
 by_cases hu:u=t
 ·subst hu;simp only[aU];rw[<-hd];exact he u
 ·simp only[hu,aL];exact he u
theorem QEB{b:Bool}:∀(x y d:D C),j7 b x y=some d->d=bif b then x else y:=by
 intro x
 induction x with
 |bI x xs i1 i2=>
  intro y d h;cases y with
  |bI y ys=>
   simp only[j7]at h;cases h1:j7 b x y with
   |none=>simp[h1]at h
   |some d1=>
    cases h2:j7 b xs ys with
    |none=>simp[h1,h2]at h
    |some d2=>
     simp only[h1,h2,aD]at h;rw[<-h,i1 _ _ h1,i2 _ _ h2];cases b<;>rfl
  |_=>simp[j7]at h
 |sl t c l=>
  intro y d h;cases y with
  |sl t' c' l'=>
   simp only[j7]at h
   split at h
   ·rename_i e;subst e;simp only[aD]at h;rw[<-h];cases b<;>rfl
   ·cases h
  |_=>simp[j7]at h
 |arr t n l=>
  intro y d h;cases y with
  |arr t' n' l'=>
   simp only[j7]at h
   split at h
   ·rename_i e;subst e
    split at h
    ·rename_i e;subst e;simp only[aD]at h;rw[<-h];cases b<;>rfl
    ·cases h
   ·cases h
  |_=>simp[j7]at h
 |cG ds i=>
  intro y d h;cases y with
  |cG es=>cases ds<;>cases es<;>simp[j7]at h;rw[<-h];cases b<;>rfl
  |_=>cases ds<;>simp[j7]at h
 |int k n=>
  intro y d h;cases y with
  |int k' n'=>
   simp only[j7]at h
   split at h
   ·rename_i e;subst e;simp only[aD]at h;rw[<-h];cases b<;>rfl
   ·cases h
  |_=>simp[j7]at h
 |_=>intro y d h;cases y<;>simp[j7]at h<;>rw[<-h]<;>cases b<;>rfl
theorem QEC{X:Cx}{nx:Nat}{lim:ek}{b:Bool}{x y d:D C}{v:Value}(h:tM b x y=some d)(hx:RO T X nx lim (bif b then x else y) v):RO T X nx lim d v:=by
 have key:d=.top\/j7 b x y=some d:=by
  unfold tM at h
  split at h
  ·left;simpa using h.symm
  ·left;simpa using h.symm
  ·right;exact h
 rcases key with rfl|key
 ·exact RO.mk (RV.top _ _ _) rfl
 ·rw[QEB _ _ _ key];exact hx
theorem pH{b:Bool}{x y env:Env C}{t:Nat}:∀{l:bU} {r:Env C},qF b x y l=some r->(l.any (Nat.beq t)=true/\tM b (cR x t) (cR y t)=some (cR (r++env) t))\/(l.any (Nat.beq t)=false/\cR (r++env) t=cR env t)
 |[],r,h=>by simp[qF]at h;subst h;exact .inr ⟨rfl,rfl⟩
 |u::l,r,h=>by
  simp only[qF]at h;cases h1:tM b (cR x u) (cR y u)with
  |none=>simp[h1]at h
  |some d=>
   cases h2:qF b x y l with
   |none=>simp[h1,h2]at h
   |some r'=>
    simp only[h1,h2,aD]at h;subst h;rw[aP,QG]
    by_cases hu:t=u
    ·subst hu;left;simp[h1]
    ·have hb:Nat.beq t u=false:=by cases hq:Nat.beq t u with
      |false=>rfl
      |true=>exact(hu (az hq)).elim
     simp only[hu,aL,List.any_cons,hb,Bool.false_or];exact pH h2
theorem qE(m:gu)(env:Env C)(b:Bool)(p q:Pg C (Ev.X×Env C)) :
 wi m env b p q=.br b p q\/∃l x y r,p=.ret (.normal,x)/\q=.ret (.normal,y)/\qF b x y l=some r/\m=some l/\wi m env b p q=.ret (.normal,r++env):=by
 unfold wi;cases m with
 |none=>exact .inl rfl
 |some l=>
  simp only
  split
  ·rename_i x y
   split
   ·rename_i r hr;exact .inr ⟨l,x,y,r,rfl,rfl,hr,rfl,rfl⟩
   ·exact .inl rfl
  ·exact .inl rfl
theorem Dx{ro:dg}{Φ:iR C}{f nt:Nat}{c c1:Code}(h:Ka c=true\/ro=none/\∃fn body,Φ.fn f=some fn/\nt=fn.ntmps/\fn.body=some body/\∀b∈Zd c,b∈Zd body)(h1:Ka c=true->Ka c1=true)(h2:∀b∈Zd c1,b∈Zd c) :
 Ka c1=true\/ro=none/\∃fn body,Φ.fn f=some fn/\nt=fn.ntmps/\fn.body=some body/\∀b∈Zd c1,b∈Zd body:=by
 rcases h with h|⟨h,fn,body,h3,h4,h5,h6⟩
 ·exact .inl (h1 h)
 ·exact .inr ⟨h,fn,body,h3,h4,h5,fun b hb=>h6 b (h2 b hb)⟩
def I8(P:Program)(T:fh C)(Φ:iR C)(n:Nat):Prop:=∀ro m f nt code,(Ka code=true\/ro=none/\∃fn body,Φ.fn f=some fn/\nt=fn.ntmps/\fn.body=some body/\∀b∈Zd code,b∈Zd body)->Y0 nt code=true->∀B,yd B code ->
 ∀X h nx lim e env x cZ h' cF tr a Q,G T X h nx lim->QB T X nx lim env a.tmps->cF<=lim.top->nt<=a.tmps.size->Ex e (jE T Φ n f code env) h nx (x,cZ) h' cF tr->Fg T B X nx lim h' cF cZ a (Q (u6 x))->code.wpIn (ou ro) m P Q a X.w
def Qnf(P:Program)(T:fh C)(Φ:iR C)(n:Nat):Prop:=∀f fn body b,Φ.fn f=some fn->fn.body=some body->Y0 fn.ntmps (.loop b)=true->(∀b'∈Zd (.loop b),b'∈Zd body)->Φ.loop f (QC b)=none->∀B,yd B b ->
 ∀X h nx lim e env x cZ h' cF tr a Q,G T X h nx lim->QB T X nx lim env a.tmps->cF<=lim.top->fn.ntmps<=a.tmps.size->Ex e (jE T Φ n f (.loop b) env) h nx (x,cZ) h' cF tr->Fg T B X nx lim h' cF cZ a (Q (u6 x))->Code.rounds P b Q n a X.w
variable (K:Zo P T)(F:Qk P T Φ)
def Wi(P:Program)(T:fh C)(call:FuncId->List (D C)->Pg C (D C)):Prop :=
 ∀f args vs X h nx lim e d h' cF tr,G T X h nx lim->gV T X args vs->(∀a∈args,∀id∈D.refs a,ft nx lim id)->cF<=lim.top->Ex e (call f args) h nx d h' cF tr ->
  (callFunc f ⟨vs⟩).run P X.w=.ok (.enter f ⟨vs⟩) X.w/\Calls P f ⟨vs⟩ X.w (ZU T X nx lim h' cF d)
theorem NN:∀(l:List (D C)) (n t:Nat),cR (gG n l) t=if n<=t then l.getD (t-n) .top else .top:=by
 intro l
 induction l with
 |nil=>intro n t;simp[gG,cR]
 |cons d l ih=>
  intro n t;rw[gG,QG,ih]
  by_cases h1:t=n
  ·subst h1;simp
  ·by_cases h2:n<=t
   ·have h3:n+1<=t:=by omega
    have h4:t-n=(t-(n+1))+1:=by omega
    simp[h1,h2,h3,h4]
   ·have h3:¬n+1<=t:=by omega
    simp[h1,h2,h3]
theorem gV.get{X:Cx}{ds:List (D C)}{vs:bT}(h:gV T X ds vs):∀t,RV T X (ds.getD t .top) (vs.getD t undef):=by
 induction h with
 |nil=>intro t;simp;exact RV.top _ _ _
 |cons h _ ih=>intro t;cases t with
  |zero=>simpa using h
  |succ t=>simpa using ih t
theorem gV.xE{X X':Cx}{nx:Nat}{lim:ek}(L:Laws T)(s:Step X nx lim X'){ds:List (D C)}{vs:bT}(h:gV T X ds vs):(∀d∈ds,∀id∈D.refs d,ft nx lim id)->gV T X' ds vs:=by
 induction h with
 |nil=>intro _;exact .nil
 |cons h _ ih=>
  intro ho;exact .cons (RO.step L s (cF:=nx) ⟨h,ho _ (by simp)⟩ (aq _)).1 (ih fun d hd=>ho d (by simp[hd]))
def tU:List (D C)->D C
 |[]=>.cG .bN
 |[d]=>d
 |d::e::l=>.cG (D.ofList (d::e::l))
theorem QED(f:FuncId)(n0:Nat)(env:Env C)(rs:List ResultVar):r8 T Φ f n0 env rs =
 .bind (xY T env rs) fun l=>bif Φ.keeps f then .ret (tU l)else .bind (frz (tU l)) fun d=>.gc n0 d.refs (.ret d):=by
 unfold r8
 congr 1
 funext l
 match l with
 |[]=>rfl
 |[_]=>rfl
 |_::_::_=>rfl
theorem QEE{X:Cx}{nx:Nat}{lim:ek}:∀{l:List (D C)} {us:bT},gV T X l us->(∀d∈l,∀id∈D.refs d,ft nx lim id)->RO T X nx lim (tU l) (if h:us.toArray.size=1 then us.toArray[0]else .tuple us.toArray)
 |[],[],_,_=>RO.mk (.mk rfl (.cG .iu)) rfl
 |[d1],[u1],.cons r2 _,r3=>⟨r2,r3 d1 (by simp)⟩
 |d1::d2::l,u1::u2::us,r2,r3=>by
  refine⟨.mk rfl ?_,fun id dD=>?_⟩
  ·have fg:¬(u1::u2::us).toArray.size=1:=by simp
   simp only[fg,dif_neg,not_false_eq_true];exact .cG r2.row
  ·obtain⟨q,hq,hi⟩:=Ns _ id (by simpa[D.refs,tU]using dD);exact r3 q hq id hi
include K F
theorem WD{n:Nat}(hc:I8 P T Φ n):Wi P T (wR T Φ (jE T Φ n)):=by
 intro g args vs X h nx lim e d h' cF tr gg gH hrefs dP hx;unfold wR at hx;cases hf:Φ.fn g with
 |none=>simp only[hf]at hx;exact Ex.cB hx
 |some fn=>
  simp only[hf]at hx;cases hb:fn.body with
  |none=>simp only[hb]at hx;exact Ex.cB hx
  |some body=>
   simp only[hb]at hx;have hx:=Ex.oY hx;obtain⟨⟨x,dS⟩,h1,n1,t1,t2,q1,q2,_⟩:=Ex.bind hx;obtain⟨f1,f2,f3⟩:=F.fn g fn hf;have kB:=Ex.le q1;refine⟨?_,?_⟩
   ·simp only[callFunc,aG];show((match P.funcs[g]? with|none=>_|some fn=>_:Sem Next)).run P X.w=_;rw[f1];simp[f2,hb]
   ·refine(callsIn_wide (n:=0)).1 (callsIn_of_wp_marks f1 hb trivial (hc none 0 g fn.ntmps body (.inr ⟨rfl,fn,body,hf,rfl,hb,fun b hb=>hb⟩) (f3 body hb) (fun _=>false) (fun _ _=>rfl) X h nx lim e (gG 0 args) x dS h1 n1 t1 _ _ gg ?_ ?_ ?_ q1 ?_))
    ·intro t;rw[NN];simp only[aK,aU,Nat.sub_zero];refine⟨?_,?_⟩
     ·have:=gH.get t
      by_cases ht:t<vs.length
      ·have e1:((⟨vs⟩:bY)++Array.replicate (fn.ntmps-(⟨vs⟩:bY).size) undef).getD t undef=vs.getD t undef:=by
        simp[Array.getD_eq_getD_getElem?,Array.getElem?_append,ht]
       rw[e1];exact this
      ·have:args.getD t .top=.top:=by
        have:=gH.length;simp[ar];rw[bc (by omega)];rfl
       rw[this];exact RV.top _ _ _
     ·by_cases ht:t<args.length
      ·have:args.getD t .top∈args:=by
        simp[ar,ht]
       exact hrefs _ this
      ·have:args.getD t .top=.top:=by
        simp[ar];rw[bc (by omega)];rfl
       rw[this];simp[D.refs]
    ·have:=Ex.le q2;omega
    ·simp;omega
    ·intro a' XX gg0 ss0 ee0 _ R2 _;obtain⟨rs,GG,ll,xo⟩:=R2;rw[aR]at GG;have hall:∀X0,G T X0 h1 n1 lim->Step X nx lim X0->QB T X0 n1 lim dS a'.tmps->Ex e (.bind (wV T dS (Φ.rest g)) fun _=>r8 T Φ g nx dS fn.results.toList) h1 n1 d h' cF t2->∃v,(results fn a'.tmps).run P X0.w=.ok v X0.w/\ZU T X nx lim h' cF d (.returned v) X0.w:=?hall
     case hall=>
      intro X0 g0 s0 e0;intro q2;obtain⟨d9,h9,n9,t9,t8,q9,q2,_⟩:=Ex.bind q2;obtain⟨X1,w1,g1,s9,Sr⟩:=Ik K _ g0 q9;have Sr:=Sr.symm;subst Sr;have s1:=s0.trans s9 kB;have e1:=e0.step K.base s9 (aq _);rw[<-w1];clear q9 g0 s0 e0;generalize h9=h1 at g1 q2;generalize t8=t2 at q2
      have kC:Ex e (r8 T Φ g nx dS fn.results.toList) h1 n1 d h' cF t2->∃v,(results fn a'.tmps).run P X1.w=.ok v X1.w/\ZU T X nx lim h' cF d (.returned v) X1.w:=by
       intro q2;rw[QED]at q2;obtain⟨l,h2,n2,t3,t4,q3,q4,_⟩:=Ex.bind q2;obtain⟨e2,e3,us,r1,r2,r3⟩:=Qp9 K g1 e1 fn.results.toList q3;have e2:=e2.symm;have e3:=e3.symm;subst e2;subst e3
       have eB:(results fn a'.tmps).run P X1.w=.ok (if h:us.toArray.size=1 then us.toArray[0]else .tuple us.toArray) X1.w:=by
        have hm:fn.results.mapM (r9 a'.tmps)=List.toArray <$> fn.results.toList.mapM (r9 a'.tmps):=by rw[Array.mapM_eq_mapM_toList]
        have e0:results fn a'.tmps=(do let vs <-fn.results.mapM (r9 a'.tmps);pure (if h:vs.size=1 then vs[0]else .tuple vs)):=by
         unfold results
         congr 1
        rw[e0,hm];simp only[map_eq_pure_bind,bind_assoc,aG,r1,aA,aF,pure_bind]
       have Ga:RO T X1 n1 lim (tU l) (if h:us.toArray.size=1 then us.toArray[0]else .tuple us.toArray):=QEE r2 r3;generalize hvv:(if h:us.toArray.size=1 then us.toArray[0]else Value.tuple us.toArray)=vv at eB Ga;cases hk:Φ.keeps g with
       |true=>
        simp only[hk,ag]at q4;obtain⟨c1,c2,c3,_⟩:=Ex.ret q4;rw[c1,c2,c3];exact⟨_,eB,_,X1,rfl,rfl,g1,s1,Ga⟩
       |false=>
        simp only[hk,ah]at q4;obtain⟨d2,h3,n3,t5,t6,q5,q6,_⟩:=Ex.bind q4;obtain⟨_,q7⟩:=Ex.gc q6;obtain⟨c1,c2,c3,_⟩:=Ex.ret q7;rw[c1,c2,c3]
        have LD:∃X2,X2.w=X1.w/\G T X2 h3 n1 lim/\Step X1 n1 lim X2/\RV T X2 d2 vv/\n3=n1/\∀id∈d2.refs,ft n1 lim id:=by
         rcases Ga.1 with⟨fA,cs,hr,hv⟩|⟨fA,hr⟩
         ·obtain⟨X2,a1,a2,a3,a4,a5,a6,a7⟩:=CG K _ g1 hr Ga.2 q5;exact⟨X2,a1,a2,a3,.inl ⟨a7.trans fA,cs,a4,hv⟩,a5,a6⟩
         ·obtain⟨X2,a1,a2,a3,a4,a5,a6,a7⟩:=CG K _ g1 hr Ga.2 q5;exact⟨X2,a1,a2,a3,.inr ⟨a7.trans fA,a4⟩,a5,a6⟩
        obtain⟨X2,a1,a2,a3,a4,a5,a6⟩:=LD;rw[a5];obtain⟨X3,b1,b2,b3,_⟩:=a2.drop K.base (h':=Heap.drop nx n1 d2.refs h3) (fun i=>by rw[VN];split<;>simp);exact⟨_,eB,_,X3,rfl,by rw[b1,a1],b2,(s1.trans a3 kB).trans b3 kB,RO.step K.base b3 ⟨a4,a6⟩ (aq _)⟩
      exact kC q2
     have fin:Ex e (.bind (wV T dS (Φ.rest g)) fun _=>r8 T Φ g nx dS fn.results.toList) h1 n1 d h' cF t2->LeavesInM Fence.wide 0 P fn a'.tmps (ZU T X nx lim h' cF d) a'.defers .returning XX.w:=fun q2=>by
      rw[GG];exact Qja K rs XX ll xo gg0 ss0 ee0 fun X' g' s' e'=>hall X' g' s' e' q2
     cases x with
     |normal=>exact fin q2
     |ret=>exact fin q2
     |exit id=>exact Ex.cB q2
omit K F in
theorem ZU.since{X X':Cx}{nx cF:Nat}{lim:ek}{h':Heap C}{d:D C}{en:Ending}{w':World}(s:Step X nx lim X')(h:ZU T X' nx lim h' cF d en w'):ZU T X nx lim h' cF d en w':=by
 obtain⟨v,Y,h1,h2,h3,h4,h5⟩:=h;exact⟨v,Y,h1,h2,h3,s.trans h4 (aq _),h5⟩
omit K F in
theorem WI(E:Env C):∀(ps:bU) (xs:List (D C)) (t:Nat),t∉ps->cR (oc ps xs++E) t=cR E t
 |[],_,_,_=>rfl
 |_::_,[],_,_=>rfl
 |p::ps,x::xs,t,h=>by
  simp only[aZ,not_or]at h;rw[oc,aP,QG,aw h.1];exact WI E ps xs t h.2
omit K F in
theorem Qng(E:Env C)(t0:Nat)(x0:D C)(t:Nat)(h:t≠t0):∀A:Env C,cR (A++(t0,x0)::E) t=cR (A++E) t
 |[]=>by rw[aH,aH,QG,aw h]
 |(j,d)::A=>by rw[aP,aP,QG,QG,Qng E t0 x0 t h A]
omit K F in
theorem QEF{nt t:Nat}{ps:bU}(h:ps.any (Nat.beq t)=false):t∉ps:=fun hm=>by
 have:ps.any (Nat.beq t)=true:=List.any_eq_true.2 ⟨t,hm,by simp⟩;rw[this]at h;cases h
omit K F in
theorem QEG{X:Cx}{nx:Nat}{lim:ek}{nt:Nat}:∀(ps:bU) (xs:List (D C)) (vs:bT) (E:Env C) (tm:bY),tS nt ps=true->nt<=tm.size->ps.length=xs.length->gV T X xs vs->(∀a∈xs,∀id∈D.refs a,ft nx lim id) ->
 (∀t,RO T X nx lim (cR E t) (tm.getD t undef))->∀t,RO T X nx lim (cR (oc ps xs++E) t) (((ps.zip vs).foldl (fun(tmps:bY) (p:Nat×Value)=>tmps.setIfInBounds p.1 p.2) tm).getD t undef):=by
 intro ps
 induction ps with
 |nil=>intro xs vs E tm _ _ _ _ _ hE t;simpa[oc]using hE t
 |cons p ps ih=>
  intro xs vs E tm ig fB hlen hr hx hE t;cases hr with
  |nil=>simp at hlen
  | @cons x xs v vs hv hr=>
   simp only[tS,ai,Nat.blt_eq,Bool.not_eq_true']at ig;obtain⟨h1,h2,h3⟩:=ig;have hp:=QEF (nt:=nt) h2
   have:=ih xs vs ((p,x)::E) (tm.setIfInBounds p v) h3 (by simpa using fB) (by simpa using hlen) hr (fun a ha=>hx a (by simp[ha])) (fun u=>by
    rw[QG]
    by_cases hu:u=p
    ·subst hu;simp only[aU]
     have e:(tm.setIfInBounds u v).getD u undef=v:=by
      have:u<tm.size:=by omega
      simp[Array.getD_eq_getD_getElem?,this]
     rw[e];exact⟨hv,hx x (by simp)⟩
    ·simp only[hu,aL]
     have e:(tm.setIfInBounds p v).getD u undef=tm.getD u undef:=by
      simp[Array.getD_eq_getD_getElem?,Array.getElem?_setIfInBounds_ne (Ne.symm hu)]
     rw[e];exact hE u) t
   rw[List.zip_cons_cons,List.foldl_cons,oc,aP,QG]
   by_cases ht:t=p
   ·subst ht;rw[WI _ _ _ _ hp,QG,ax rfl]at this;rw[ax rfl];exact this
   ·rw[aw ht];rw[Qng E p x t ht]at this;exact this
omit K F in
theorem Qjb{X:Cx}{nx:Nat}{lim:ek}{tm:bY}:∀(dE:bU) (ds:List (D C)),gV T X ds (dE.map fun t=>tm.getD t undef)->(∀a∈ds,∀id∈D.refs a,ft nx lim id)->∀t,RO T X nx lim (cR (oc dE ds) t) (tm.getD t undef)
 |[],ds,h,_,t=>RO.mk (RV.top _ _ _) rfl
 |s::dE,[],h,_,t=>RO.mk (RV.top _ _ _) rfl
 |s::dE,d::ds,h,hr,t=>by
  cases h with
  |cons hv h=>
   rw[oc,QG]
   by_cases e:t=s
   ·subst e;rw[ax rfl];exact⟨hv,hr d (by simp)⟩
   ·rw[aw e];exact Qjb dE ds h (fun a ha=>hr a (by simp[ha])) t
omit K F in
theorem JD:∀(l:eJ) (tm:bY),(l.foldl (fun(tmps:bY) (p:Nat×Value)=>tmps.setIfInBounds p.1 p.2) tm).size=tm.size
 |[],_=>rfl
 |p::l,tm=>by rw[List.foldl_cons,JD l];simp
omit K F in
theorem G.wb{X:Cx}{h:Heap C}{nx:Nat}{lim:ek}(g:G T X h nx lim){id l ex:Nat}{rec:Loop}{busy dn:Bool}(ho:h.get id=some (.dG (.lp busy dn ex)))(hρ:∀s,X.ρ id=some (.dG s)->s=.lp l rec) :
 X.ρ id=some (.dG (.lp l rec))/\∃pend,X.w.heap[l]? = some (.loop { rec with state:=oO busy dn,pending:=pend })/\(dn=false->pend=none)/\(dn=true->pend=some (.exit ex)):=by
 obtain⟨s,e1,e2⟩:=g.dG id _ ho;obtain rfl:=hρ s e1;exact⟨e1,e2⟩
omit F in
theorem QhC{n:Nat}(hc:I8 P T Φ n):QsL P T (uB T Φ (jE T Φ n)):=by
 intro nt dE ps iV body fj ow xs l vs X h nx lim e d h' cF tr g hR vI uJ hxr dP hx;unfold uB at hx;have pd:Nat.beq Vr Vr=true:=by simp
 simp only[pd,ag,TU]at hx;cases xl:(fj.dM&&xs.all D.dM)&&((Nat.beq xs.length ps.length&&tS nt ps)&&(G1 nt iV&&G1 nt body))with
 |false=>rw[xl]at hx;exact Ex.cB hx
 |true=>
  rw[xl]at hx;simp only[ag]at hx;simp only[ai,G1]at xl;obtain⟨⟨oJ,na⟩,⟨hlen,Dm⟩,⟨RQ,ra⟩,⟨yK,vG⟩⟩:=xl;have hlen:=az hlen;obtain⟨o,kG,ho,hx,_⟩:=Ex.rd hx;cases o with
  |var _ _=>exact Ex.cB hx
  |vec _ _ _=>exact Ex.cB hx
  |map _ _ _=>exact Ex.cB hx
  |dG cc=>
  cases cc with
  |it _ _ _=>exact Ex.cB hx
  |lp bz0 dn0 ex=>
  simp only at hx;cases hR with
  | @yl _ _ _ _ _ _ _ _ rec hw hs nN=>
   obtain⟨so,hs4,hs5,zc⟩:=hs;subst hs4;subst hs5;obtain⟨hρ,aaj,rN,_⟩:=g.wb ho hw;have xz:ft nx lim ow:=vI ow (by simp[D.refs]);have vI:∀i∈fj.refs,ft nx lim i:=fun i hi=>vI i (by simp[D.refs,hi])
   have hlv:(⟨vs⟩:bY).size=rec.params.size:=by
    have h1:=uJ.length;have h2:ps.length=rec.params.size:=by rw[<-so];simp
    simp;omega
   have hy:=run_yield (P:=P) (args:=⟨vs⟩) rN hlv;refine⟨_,_,_,_,hy,fun m=>roundIn_of_wpIn trivial ?_⟩;obtain⟨⟨x1,dS⟩,h1,n1,t1,t2,q1,q2,_⟩:=Ex.bind hx;have kB:=Ex.le q1;have vU:=Ex.le q2;cases x1 with
   |exit id=>exact Ex.cB q2
   |ret=>exact Ex.cB q2
   |normal=>
    simp only at q2;obtain⟨o1,t5,pV,q2,_⟩:=Ex.rd q2;cases o1 with
    |var _ _=>exact Ex.cB q2
    |vec _ _ _=>exact Ex.cB q2
    |map _ _ _=>exact Ex.cB q2
    |dG cc=>
    cases cc with
    |it _ _ _=>exact Ex.cB q2
    |lp bz1 dn1 ex1=>
    simp only[TT]at q2;rcases Ex.br q2 with⟨FW,Tb⟩|⟨_,q2⟩;rotate_left
    ·exact Ex.cB q2
    clear q2;simp only[ai,Bool.not_eq_true',Nat.beq_eq]at FW;obtain⟨⟨rfl,rfl⟩,rfl⟩:=FW;obtain⟨_,t6,_,q2,_⟩:=Ex.wr Tb;obtain⟨⟨x2,fE⟩,h2,n2,t3,t4,q3,q4,_⟩:=Ex.bind q2;have aaq:=Ex.le q3;have aar:=Ex.le q4;obtain⟨o2,t7,mz,q4,_⟩:=Ex.rd q4;cases o2 with
    |var _ _=>exact Ex.cB q4
    |vec _ _ _=>exact Ex.cB q4
    |map _ _ _=>exact Ex.cB q4
    |dG cc=>
    cases cc with
    |it _ _ _=>exact Ex.cB q4
    |lp bz2 dn2 Lx=>
    simp only[TS]at q4;rcases Ex.br q4 with⟨FX,q4b⟩|⟨_,q4⟩;rotate_left
    ·exact Ex.cB q4
    clear q4;have q4:=q4b;clear q4b;simp only[ai,Bool.not_eq_true',Nat.beq_eq]at FX;obtain⟨⟨rfl,rfl⟩,rfl⟩:=FX
    have FN:((rec.params.zip ⟨vs⟩).foldl (fun(tmps:bY) (x:Nat×Value)=>match x with|(t,a)=>tmps.setIfInBounds t a) rec.tmps)=(ps.zip vs).foldl (fun(tmps:bY) (p:Nat×Value)=>tmps.setIfInBounds p.1 p.2) rec.tmps:=by
     rw[<-Array.foldl_toList,Array.toList_zip,so]
    simp only;rw[FN];refine hc (some l) m 0 nt rec.assign (.inl ra) RQ (fun _=>false) (fun _ _=>rfl) X h nx lim e _ .normal dS h1 n1 t1 _ _ g ?_ (by omega) ?_ q1 ?_
    ·exact QEG ps xs vs _ rec.tmps Dm zc hlen.symm uJ hxr (Qjb dE fj.toList (nN.toList T rfl) (fun a ha id dD=>vI id (Ki fj a ha id dD)))
    ·show nt<=((ps.zip vs).foldl _ rec.tmps).size;rw[JD];exact zc
    ·intro a1 X1 g1 s1 e1 z1 _ _
     have pC:∀s,X1.ρ ow=some (.dG s)->s=.lp l rec:=fun s hq=>by
      have:=s1.ρ ow xz;rw[hρ,hq]at this
      simpa[Qp]using this
     obtain⟨qB,aak,FZ,GA,_⟩:=g1.wb pV pC;obtain rfl:=GA rfl;obtain⟨X1',w1',r1',RM,s1'⟩:=G.uh K.base (busy:=true) (dn:=false) (ex:=Lx) (pend:=none) g1 pV qB FZ (fun _ _ _ h=>by cases h) ⟨fun _=>rfl,fun h=>by cases h⟩;refine⟨X1'.w,(run_beginRound FZ rfl).trans ?_,?_⟩
     ·rw[w1'];rfl
     refine hc (some l) m 0 nt rec.body (.inl vG) yK (fun _=>false) (fun _ _=>rfl) X1' _ n1 lim e dS x2 fE h2 n2 t3 a1 _ RM (QB.step K.base s1' e1 (aq _)) (by omega) ?_ q3 ?_
     ·have:((ps.zip vs).foldl (fun(tmps:bY) (p:Nat×Value)=>tmps.setIfInBounds p.1 p.2) rec.tmps).size=rec.tmps.size:=JD _ _;rw[z1,this];exact zc
     ·intro a2 X2 g2 s2 e2 _ _ _;have dV:=(s1.trans s1' kB).trans s2 kB
      have tD:∀s,X2.ρ ow=some (.dG s)->s=.lp l rec:=fun s hq=>by
       have:=dV.ρ ow xz;rw[hρ,hq]at this
       simpa[Qp]using this
      obtain⟨pX,aal,sP,hp3,_⟩:=g2.wb mz tD;obtain rfl:=hp3 rfl;cases x2 with
      |ret=>exact Ex.cB q4
      |normal=>
       obtain⟨_,t8,_,q4,_⟩:=Ex.wr q4;obtain⟨rfl,rfl,rfl,rfl⟩:=Ex.ret q4;obtain⟨X3,w3,r3,g3,s3⟩:=G.uh K.base (busy:=false) (dn:=false) (ex:=Lx) (pend:=none) g2 mz pX sP (fun _ _ _ h=>by cases h) ⟨fun _=>rfl,fun h=>by cases h⟩;refine⟨.bool true,X3.w,(run_endRound none sP).trans ?_,?_⟩
       ·rw[w3];rfl
       exact⟨_,X3,rfl,rfl,g3,dV.trans s3 (by omega),RO.mk (.mk rfl (.bool true)) rfl⟩
      |exit i=>
       simp only at q4;cases hi:Nat.beq i Lx with
       |false=>rw[hi]at q4;exact Ex.cB q4
       |true=>
       rw[hi]at q4;simp only[ag]at q4;obtain rfl:=az hi;obtain⟨_,t8,_,q4,_⟩:=Ex.wr q4;obtain⟨rfl,rfl,rfl,rfl⟩:=Ex.ret q4;obtain⟨X3,w3,r3,g3,s3⟩:=G.uh K.base (busy:=false) (dn:=true) (ex:=i) (pend:=some (.exit i)) g2 mz pX sP (fun _ _ _ h=>by cases h) ⟨fun h=>(by cases h),fun _=>rfl⟩;refine⟨.bool false,X3.w,(run_endRound (some (.exit i)) sP).trans ?_,?_⟩
       ·rw[w3];rfl
       exact⟨_,X3,rfl,rfl,g3,dV.trans s3 (by omega),RO.mk (.mk rfl (.bool false)) rfl⟩
theorem WJ{n:Nat}(hc:I8 P T Φ n):uO P T (uB T Φ (jE T Φ n)):=by
 refine⟨QhC K hc,?_⟩;intro g hgy args vs X h nx lim e d h' cF tr gg gH hrefs dP hx;unfold uB at hx
 have pd:Nat.beq g Vr=false:=by
  cases h:Nat.beq g Vr with
  |false=>rfl
  |true=>exact absurd (az h) hgy
 simp only[pd,ah]at hx;cases ri:Φ.jd g with
 |some s=>
  simp only[ri]at hx;obtain⟨u,h1,n1,t1,t2,q1,q2,_⟩:=Ex.bind hx;obtain⟨X1,w1,g1,s1,oJ⟩:=Ik K _ gg q1;subst oJ;have:=F.jd g s ri args vs X1 h1 n1 lim e d h' cF t2 g1 (gH.xE K.base s1 hrefs) hrefs dP q2;rw[w1]at this;exact⟨this.1,this.2.mono fun en w2 hp=>ZU.since s1 hp⟩
 |none=>
 simp only[ri]at hx;cases hs:Φ.spec g with
 |some s=>
  simp only[hs]at hx;cases hle:Φ.qD g with
  |true=>
   simp only[hle,ag]at hx;obtain⟨hZ,h1,n1,t1,t2,q1,fN,_⟩:=Ex.bind hx;clear hx;obtain⟨rfl,rfl,kk⟩:=Qnd K args gg gH q1;cases zd:s hZ with
   |none=>rw[zd]at fN;exact Ex.cB fN
   |some bd=>
    obtain⟨b,d0⟩:=bd;rw[zd]at fN;simp only at fN;cases qy:d0.plain&&hZ.all D.dM with
    |false=>rw[qy]at fN;exact Ex.cB fN
    |true=>
     rw[qy]at fN;simp only[ai]at qy;rcases Ex.br fN with⟨rfl,fN⟩|⟨rfl,fN⟩
     ·obtain⟨rfl,rfl,rfl,_⟩:=Ex.ret fN;obtain⟨sn,hB⟩:=F.spec g s hZ _ hs zd;obtain⟨c1,c2⟩:=hB X.w X.O vs gg.outs (fun p hp=>(gg.pre p hp).1) (kk sn fun a ha=>aX.1 qy.2 a ha);refine⟨c1,c2.mono fun en w' xt=>?_⟩;obtain⟨v,ρ,rfl,r,hd,a1,a2,a3,a4,a5,a6⟩:=xt;obtain⟨g',s'⟩:=gg.grow K.base w' a1 a2 a3 a4 a5 a6;exact⟨v,⟨w',X.ρ,X.O⟩,rfl,rfl,g',s',r.plain qy.1,by rw[hd.1];simp⟩
     ·exact Ex.cB fN
  |false=>
  simp only[hle,ah]at hx;obtain⟨hZ,h1,n1,t1,t2,q1,fN,_⟩:=Ex.bind hx;clear hx;obtain⟨X',w',g',s',r',hn,sn⟩:=QsF K args gg gH hrefs q1;subst hn;cases zd:s hZ with
  |none=>rw[zd]at fN;exact Ex.cB fN
  |some bd=>
   obtain⟨b,d0⟩:=bd;rw[zd]at fN
   have fN:b=true/\∃t3,Ex e (.ret d0) h1 n1 d h' cF t3:=by
    cases ht:Φ.total g with
    |false=>
     simp only[ht,ah]at fN;rcases Ex.br fN with⟨rfl,fN⟩|⟨rfl,fN⟩
     ·exact⟨rfl,_,fN⟩
     ·exact Ex.cB fN
    |true=>
     simp only[ht,ag]at fN;cases b with
     |true=>exact⟨rfl,_,fN⟩
     |false=>exact Ex.cB fN
   obtain⟨rfl,t3,fN⟩:=fN;obtain⟨rfl,rfl,rfl,_⟩:=Ex.ret fN;obtain⟨SC,hB⟩:=F.spec g s hZ _ hs zd;have:=hB.call K SC g' r';rw[w']at this;exact⟨this.1,this.2.mono fun en w1 hp=>ZU.since s' hp⟩
 |none=>
  simp only[hs]at hx;exact WD K F hc g args vs X h nx lim e d h' cF tr gg gH hrefs dP hx
theorem IC:∀n,I8 P T Φ n/\Qnf P T Φ n:=by
 intro n
 induction n with
 |zero=>
  refine⟨?_,?_⟩
  ·intro ro m f nt code _ _ B _ X h nx lim e env x cZ h' cF tr a Q _ _ _ _ hx;exact Ex.cB hx
  ·intro f fn body b _ _ _ _ _ B _ X h nx lim e env x cZ h' cF tr a Q _ _ _ _ hx;exact Ex.cB hx
 |succ n ih=>
  obtain⟨xA,ihR⟩:=ih;have gN:=WJ K F xA
  have hR:Qnf P T Φ (n+1):=by
   intro f fn body b hf hb nJ hl mh B hB X h nx lim e env x cZ h' cF tr a Q g he dP fB hx hk;simp only[jE,Mv,mh]at hx;obtain⟨⟨x1,dS⟩,h1,n1,t1,t2,q1,q2,_⟩:=Ex.bind hx;have hle:=Ex.le q2;have kB:=Ex.le q1;rw[rounds_succ];refine(wpIn_wide (n:=0)).1 (xA none 0 f fn.ntmps b (.inr ⟨rfl,fn,body,hf,rfl,hb,fun b' iW=>hl b' (by simp[Zd,iW])⟩) (by simpa[Y0]using nJ) B hB X h nx lim e env x1 dS h1 n1 t1 a _ g he (by omega) fB q1 ?_);intro a1 X1 g1 s1 e1 lF my mS;cases x1 with
   |normal=>
    simp only[Ln]at q2;exact ihR f fn body b hf hb nJ hl mh B hB X1 h1 n1 lim e dS x cZ h' cF t2 a1 Q g1 e1 dP (by omega) q2 fun a2 X2 g2 s2 e2 kJ oG S0=>hk a2 X2 g2 (s1.trans s2 kB) e2 (by omega) (my.trans s1 s2 oG) (mS.trans S0)
   |exit id=>
    obtain⟨jB,rfl,rfl,rfl⟩:=Ex.ret q2;obtain⟨rfl,rfl⟩:=Prod.mk.inj jB;exact hk a1 X1 g1 s1 e1 lF my mS
   |ret=>
    obtain⟨jB,rfl,rfl,rfl⟩:=Ex.ret q2;obtain⟨rfl,rfl⟩:=Prod.mk.inj jB;exact hk a1 X1 g1 s1 e1 lF my mS
  refine⟨?_,hR⟩;intro ro m f nt code hY nJ B hB X h nx lim e env x cZ h' cF tr a Q g he dP fB hx hk
  have done:∀x0,Ex e (.ret (x0,env):Pg C (Ev.X×Env C)) h nx (x,cZ) h' cF tr->Q (u6 x0) a X.w:=by
   intro x0 hx;obtain⟨jB,rfl,rfl,rfl⟩:=Ex.ret hx;obtain⟨rfl,rfl⟩:=Prod.mk.inj jB;exact hk a X g (.refl _ _ _) he rfl (.refl _ _ _) (.refl _ _)
  cases code with
  |skip=>exact wpIn_skip (done _ hx)
  |label l=>exact wpIn_label (done _ hx)
  |ret=>exact wpIn_ret (done _ hx)
  |exit id=>exact wpIn_exit (done _ hx)
  |region id ops draw=>
   simp only[jE]at hx;simp only[Y0,ai]at nJ;have Gd:∀o∈ops.toList,∀t,o.dst=some t->t<a.tmps.size:=fun o ho t ht=>bj (N1 nJ.1 o ho t ht) fB;have hBo:∀o∈ops.toList,∀t,o.dst=some t->B t=false:=fun o ho t ht=>hB t (by simp only[gI,List.mem_filterMap];exact⟨o,ho,ht⟩);cases draw with
   |true=>
    simp only[ag]at hx;obtain⟨_,h0,n0,t8,t9,q0,hx,_⟩:=Ex.bind hx;obtain⟨X0,w0,g0,s0,xq⟩:=Ik K _ g q0;have xq:=xq.symm;subst xq;simp only[Wh]at hx;have hx:=Ex.oY hx;obtain⟨dS,h1,n1,t1,t2,q1,q2,_⟩:=Ex.bind hx;obtain⟨jB,rfl,rfl,rfl⟩:=Ex.ret q2;obtain⟨rfl,rfl⟩:=Prod.mk.inj jB;have hle:=Ex.le q1;rw[<-w0];exact QEz K gN hBo K.order (Qqb (by simpa using nJ.2)) g0 (he.step K.base s0 (aq _)) dP Gd q1 fun a' X' g' s' e' pA vJ v9=>hk a' X' g' (s0.trans s' (aq _)) e' pA (.of_eq vJ) v9
   |false=>
    simp only[ah,G5]at hx;obtain⟨dS,h1,n1,t1,t2,q1,q2,_⟩:=Ex.bind hx;obtain⟨jB,rfl,rfl,rfl⟩:=Ex.ret q2;obtain⟨rfl,rfl⟩:=Prod.mk.inj jB;refine wpIn_region ?_;rw[List.range_eq_range'];have:=Qnc (ro:=ro) (m:=m) K gN hBo ops.toList 0 rfl g he dP Gd q1 (Q:=Q) (fun a' X' g' s' e' pA vJ v9=>hk a' X' g' s' e' pA (.of_eq vJ) v9)
    simpa using this
  |seq c1 c2=>
   simp only[jE]at hx;simp only[Y0,ai]at nJ;obtain⟨⟨x1,dS⟩,h1,n1,t1,t2,q1,q2,_⟩:=Ex.bind hx;have hle:=Ex.le q2;have kB:=Ex.le q1;refine wpIn_seq (xA ro m f nt c1 (Dx hY (fun h=>by simp only[Ka,ai]at h;exact h.1) (fun b hb=>by simp[Zd,hb])) nJ.1 B (fun t ht=>hB t (by simp[gI,ht])) X h nx lim e env x1 dS h1 n1 t1 a _ g he (by omega) fB q1 ?_);intro a1 X1 g1 s1 e1 lF my mS;cases x1 with
   |normal=>
    simp only[Ln]at q2;exact xA ro m f nt c2 (Dx hY (fun h=>by simp only[Ka,ai]at h;exact h.2) (fun b hb=>by simp[Zd,hb])) nJ.2 B (fun t ht=>hB t (by simp[gI,ht])) X1 h1 n1 lim e dS x cZ h' cF t2 a1 Q g1 e1 dP (by omega) q2 fun a2 X2 g2 s2 e2 kJ oG S0=>hk a2 X2 g2 (s1.trans s2 kB) e2 (by omega) (my.trans s1 s2 oG) (mS.trans S0)
   |exit id=>
    obtain⟨jB,rfl,rfl,rfl⟩:=Ex.ret q2;obtain⟨rfl,rfl⟩:=Prod.mk.inj jB;exact hk a1 X1 g1 s1 e1 lF my mS
   |ret=>
    obtain⟨jB,rfl,rfl,rfl⟩:=Ex.ret q2;obtain⟨rfl,rfl⟩:=Prod.mk.inj jB;exact hk a1 X1 g1 s1 e1 lF my mS
  |cond c c1 c2=>
   simp only[jE,Wg]at hx;simp only[Y0,ai]at nJ
   have Hd:∀(b:Bool) (eQ:Env C) (x0:Ev.X) (dS:Env C) (oW:Tr) (B':Nat->Bool),(∀t∈gI c1++gI c2,B' t=false)->QB T X nx lim eQ a.tmps->a.eval c=.bool b->Ex e (jE T Φ n f (if b then c1 else c2) eQ) h nx (x0,dS) h' cF oW ->
    Fg T B' X nx lim h' cF dS a (Q (u6 x0))->(Code.cond c c1 c2).wpIn (ou ro) m P Q a X.w:=by
    intro b eQ x0 dS oW B' hB' R4 De kE tf;refine wpIn_cond De (xA ro m f nt _ ?_ ?_ B' (fun t ht=>hB' t (by cases b<;>simp at ht ⊢ <;>simp[ht])) X h nx lim e eQ x0 dS h' cF oW a Q g R4 dP fB kE tf)
    ·exact Dx hY (fun h=>by simp only[Ka,ai]at h;cases b<;>simp[h.1,h.2]) (fun b' iW=>by cases b<;>simp[Zd]at iW ⊢ <;>simp[iW])
    ·cases b<;>simp[nJ.1,nJ.2]
   have side:∀(b:Bool) (eQ:Env C),QB T X nx lim eQ a.tmps->a.eval c=.bool b->Ex e (jE T Φ n f (if b then c1 else c2) eQ) h nx (x,cZ) h' cF tr->(Code.cond c c1 c2).wpIn (ou ro) m P Q a X.w:=by
    intro b eQ R4 De kE;refine wpIn_cond De (xA ro m f nt _ ?_ ?_ B (fun t ht=>hB t (by cases b<;>simp[gI]at ht ⊢ <;>simp[ht])) X h nx lim e eQ x cZ h' cF tr a Q g R4 dP fB kE hk)
    ·exact Dx hY (fun h=>by simp only[Ka,ai]at h;cases b<;>simp[h.1,h.2]) (fun b' iW=>by cases b<;>simp[Zd]at iW ⊢ <;>simp[iW])
    ·cases b<;>simp[nJ.1,nJ.2]
   cases c with
   |tmp t=>
    simp only at hx;have het:=he t;generalize hq:cR env t=q at hx het;cases q with
    |bool b=>
     simp only at hx;have hv:a.eval (.tmp t)=.bool b:=het.1.bool;rcases qE (bif kL Φ c1&&kL Φ c2 then some (gI c1++gI c2)else none) env b (jE T Φ n f c1 ((t,.bool true)::env)) (jE T Φ n f c2 ((t,.bool false)::env))with hm|⟨l,x1,y1,r,GA,vY,hr,hml,hm⟩
     ·rw[hm]at hx;rcases Ex.br hx with⟨rfl,hx⟩|⟨rfl,hx⟩
      ·exact side true _ (he.lN hq) hv hx
      ·exact side false _ (he.lN hq) hv hx
     ·rw[hm]at hx;obtain⟨jB,rfl,rfl,rfl⟩:=Ex.ret hx;obtain⟨rfl,rfl⟩:=Prod.mk.inj jB
      have me:l=gI c1++gI c2:=by
       cases xt:kL Φ c1&&kL Φ c2 with
       |false=>simp[xt]at hml
       |true=>simpa[xt]using hml.symm
      have hex:Ex e (jE T Φ n f (if b then c1 else c2) ((t,.bool b)::env)) h' cF (.normal,bif b then x1 else y1) h' cF []:=by
       cases b with
       |true=>simp only[aU,GA];simp[Ex,Pg.run]
       |false=>simp only[bu,aL,vY];simp[Ex,Pg.run]
      refine Hd b ((t,.bool b)::env) .normal (bif b then x1 else y1) [] (fun u=>B u || !(l.any (Nat.beq u))) (fun u hu=>?_) (he.lN hq) hv hex ?_
      ·have h1:l.any (Nat.beq u)=true:=List.any_eq_true.2 ⟨u,by rw[me];exact hu,by simp⟩;have h2:B u=false:=hB u (by simpa[gI]using hu);simp only[h1,h2];rfl
      ·intro a1 X1 g1 s1 e1 lF my mS;refine hk a1 X1 g1 s1 (fun u=>?_) lF my (fun u hu=>mS u (by simp[hu]));rcases pH (t:=u) (env:=env) hr with⟨h1,h2⟩|⟨h1,h2⟩
       ·refine QEC h2 ?_;have:=e1 u;cases b<;>simpa using this
       ·rw[h2,mS u (by simp only[h1];simp)];exact(he u).step K.base s1 (aq _)
    |_=>exact Ex.cB hx
   |const v=>
    cases v with
    |bool b=>
     simp only at hx;rcases Ex.br hx with⟨rfl,hx⟩|⟨rfl,hx⟩
     ·exact side true _ he rfl hx
     ·exact side false _ he rfl hx
    |_=>exact Ex.cB hx
   |global q=>exact Ex.cB hx
   |func q=>exact Ex.cB hx
  |scope c=>
   simp only[jE]at hx;refine Qqa (xA ro m f nt c (Dx hY (fun h=>by simp[Ka]at h) (fun b hb=>by simpa[Zd]using hb)) (by simpa[Y0]using nJ) B (fun t ht=>hB t (by simpa[gI]using ht)) X h nx lim e env x cZ h' cF tr a _ g he dP fB hx ?_);intro a1 X1 g1 s1 e1 lF my mS;cases x<;>exact hk a1 X1 g1 s1 e1 lF my mS
  |block id c=>
   simp only[jE]at hx;obtain⟨⟨x1,dS⟩,h1,n1,t1,t2,q1,q2,_⟩:=Ex.bind hx;have hle:=Ex.le q2;refine wpIn_block (xA ro m f nt c (Dx hY (fun h=>by simpa[Ka]using h) (fun b hb=>by simpa[Zd]using hb)) (by simpa[Y0]using nJ) B (fun t ht=>hB t (by simpa[gI]using ht)) X h nx lim e env x1 dS h1 n1 t1 a _ g he (by omega) fB q1 ?_);intro a1 X1 g1 s1 e1 lF my mS;cases x1 with
   |normal=>
    obtain⟨jB,rfl,rfl,rfl⟩:=Ex.ret q2;obtain⟨rfl,rfl⟩:=Prod.mk.inj jB;exact hk a1 X1 g1 s1 e1 lF my mS
   |exit i=>
    simp only[Qm0]at q2;show(if i=id then Q .normal a1 X1.w else Q (.exit i) a1 X1.w);cases hi:Nat.beq i id with
    |true=>
     simp only[hi,ag]at q2;obtain⟨jB,rfl,rfl,rfl⟩:=Ex.ret q2;obtain⟨rfl,rfl⟩:=Prod.mk.inj jB;have:i=id:=az hi;simp only[this,aU];exact hk a1 X1 g1 s1 e1 lF my mS
    |false=>
     simp only[hi,ah]at q2;obtain⟨jB,rfl,rfl,rfl⟩:=Ex.ret q2;obtain⟨rfl,rfl⟩:=Prod.mk.inj jB;have:i≠id:=Nat.ne_of_beq_eq_false hi;simp only[this,aL];exact hk a1 X1 g1 s1 e1 lF my mS
   |ret=>
    obtain⟨jB,rfl,rfl,rfl⟩:=Ex.ret q2;obtain⟨rfl,rfl⟩:=Prod.mk.inj jB;exact hk a1 X1 g1 s1 e1 lF my mS
  |loop c=>
   obtain⟨rfl,fn,body,hf,rfl,hb,hl⟩:=hY.resolve_left (by simp[Ka]);refine wpIn_wide.2 ?_;cases hs:Φ.loop f (QC c)with
   |none=>exact wp_loop_rounds (n+1) (hR f fn body c hf hb nJ hl hs B (fun t ht=>hB t (by simpa[gI]using ht)) X h nx lim e env x cZ h' cF tr a Q g he dP fB hx hk)
   |some s=>
    simp only[jE,Mv,hs]at hx;obtain⟨⟨x1,dS⟩,h1,n1,t1,t2,q1,q2,_⟩:=Ex.bind hx;obtain⟨jB,rfl,rfl,_⟩:=Ex.ret q2;obtain⟨rfl,rfl⟩:=Prod.mk.inj jB;have kB:=Ex.le q1;refine F.loop f fn body c s hf hb (hl c (by simp[Zd])) hs (fun t=>B t || !((gI c).any (Nat.beq t))) (fun t ht=>?_) X h nx lim e env x dS h' cF t1 a Q g he dP fB q1 ?_
    ·have h1:(gI c).any (Nat.beq t)=true:=List.any_eq_true.2 ⟨t,ht,by simp⟩;have h2:B t=false:=hB t (by simpa[gI]using ht);simp only[h1,h2];rfl
    ·intro a1 X1 g1 s1 e1 lF my mS;refine hk a1 X1 g1 s1 (fun t=>?_) lF my (fun t ht=>mS t (by simp[ht]));rcases pq dS (mj (gI c) env) t with h1|h1
     ·rw[h1];exact e1 t
     ·rw[h1];cases hq:(gI c).any (Nat.beq t)with
      |true=>rw[Oo hq];exact RO.mk (RV.top _ _ _) rfl
      |false=>
       rw[N2 hq,mS t (by simp only[hq];simp)];exact(he t).step K.base s1 kB
  |rangeFunc gq ps iV iK=>
   obtain⟨rfl,fn,body,hf,rfl,hb,hl⟩:=hY.resolve_left (by simp[Ka]);simp only[jE,TW,hf]at hx;have fe:=QQ he gq;generalize hq:gZ env gq=q at hx fe;cases q with
   |fn pT fj=>
    simp only at hx;cases pd:Nat.beq pT Vr with
    |true=>rw[pd]at hx;exact Ex.cB hx
    |false=>
     rw[pd]at hx;have jR:pT≠Vr:=fun e=>by rw[e]at pd;simp at pd
     simp only[ah]at hx;obtain⟨tn0,hx,_⟩:=Ex.nw hx;obtain⟨d0,h1,n1,t1,t2,q1,q2,_⟩:=Ex.bind hx;have kB:=Ex.le q1;have vU:=Ex.le q2;obtain⟨o2,t3,mz,q2,_⟩:=Ex.rd q2;cases o2 with
     |var _ _=>exact Ex.cB q2
     |vec _ _ _=>exact Ex.cB q2
     |map _ _ _=>exact Ex.cB q2
     |dG cc=>
     cases cc with
     |it _ _ _=>exact Ex.cB q2
     |lp bz dn Lx=>
     simp only[TV]at q2;rcases Ex.br q2 with⟨hbz,Tb⟩|⟨_,q2⟩;rotate_left
     ·exact Ex.cB q2
     clear q2;simp only[ai,Bool.not_eq_true',Nat.beq_eq]at hbz;obtain⟨rfl,hex⟩:=hbz;obtain⟨_,t4,_,q2,_⟩:=Ex.dl Tb
     have Gf:(x,cZ)=(if dn then .exit (uC iK)else .normal,env)/\h'=h1.del nx/\cF=n1:=by
      rcases Ex.br q2 with⟨rfl,q2⟩|⟨rfl,q2⟩<;>obtain⟨e1,e2,e3,_⟩:=Ex.ret q2<;>exact⟨e1,e2,e3⟩
     obtain⟨jB,rfl,rfl⟩:=Gf;obtain⟨rfl,rfl⟩:=Prod.mk.inj jB;have hR:=fe.1.one rfl;generalize hv:a.eval gq=vf at hR fe;cases hR with
     | @fn _ _ xc hcv=>
      refine wpIn_rangeFunc ?_;intro RJ _;rw[QsK];obtain⟨rc,GB⟩:∃rc:Loop,rc={ state:=.ready,pending:=none,fn:=RJ,tmps:=a.tmps,params:=ps,assign:=iV,body:=iK,defers:=X.w.heap.size }:=⟨_,rfl⟩;have Dv:(X.w.alloc (.deferred (some []))).heap.size=X.w.heap.size+1:=by simp
      obtain⟨g0,s0⟩:=g.grow K.base (X.w.alloc (.deferred (some []))) (by omega) (fun k hk=>RowKit.Below.heap_alloc _ _ k hk) rfl rfl rfl (fun q hq=>WU (RowKit.Below.heap_alloc _ _ _ hq));obtain⟨X1,w1,O1,ρ1,g1,s1⟩:=G.GY K.base g0 (by omega) rc (uC iK) (by rw[GB]) (by rw[GB]);simp only at w1 O1 ρ1;rw[Dv]at ρ1;have Tf:=s0.trans s1 (aq _)
      have FV:X1.w.heap[X.w.heap.size]? = some (.deferred (some [])):=by
       rw[w1];exact(RowKit.Below.heap_alloc _ _ _ (by simp)).trans (World.alloc_heap_new X.w _)
      have SX:X1.w.heap.size=X.w.heap.size+2:=by rw[w1];simp
      have hys:R T X1 false (.yl fn.ntmps (wS (JB iV++JB iK) cZ) ps.toList iV iK (D.ofList ((wS (JB iV++JB iK) cZ).map (cR cZ))) nx) [.func (.yield (X.w.heap.size+1)) #[] #[]]:=by
       refine .yl (rec:=rc) (fun s hq=>?_) (by rw[GB];exact⟨rfl,rfl,rfl,fB⟩) ?_
       ·rw[ρ1]at hq;cases hq;rfl
       rw[GB]
       have:∀sl:bU,gV T X1 (sl.map (cR cZ)) (sl.map fun t=>a.tmps.getD t undef):=by
        intro sl
        induction sl with
        |nil=>exact .nil
        |cons t sl ih=>exact .cons ((he t).step K.base Tf (aq _)).1 ih
       exact(this _).row T
      have gH:gV T X1 (.yl fn.ntmps (wS (JB iV++JB iK) cZ) ps.toList iV iK (D.ofList ((wS (JB iV++JB iK) cZ).map (cR cZ))) nx::fj.toList) (.func (.yield (X.w.heap.size+1)) #[] #[]::xc):=
       .cons (.inr ⟨rfl,hys⟩) ((hcv.toList T rfl).xE K.base Tf (fun q hq id dD=>fe.2 id (by simpa[D.refs]using Ki fj q hq id dD)))
      have hrefs:∀q∈(.yl fn.ntmps (wS (JB iV++JB iK) cZ) ps.toList iV iK (D.ofList ((wS (JB iV++JB iK) cZ).map (cR cZ))) nx::fj.toList:List (D C)),∀id∈D.refs q,ft (nx+1) lim id:=by
       intro q hq id dD;rcases aZ.1 hq with rfl|hq
       ·simp only[D.refs,aT,bE]at dD;rcases dD with dD|rfl
        ·obtain⟨q2,Dn,hi⟩:=Ns _ id dD;obtain⟨t,_,rfl⟩:=List.mem_map.1 Dn;exact((he t).2 id hi).mono (by omega)
        ·exact g0.new (by omega)
       ·exact(fe.2 id (by simpa[D.refs]using Ki fj q hq id dD)).mono (by omega)
      obtain⟨c1,c2⟩:=gN.2 pT jR _ _ X1 _ (nx+1) lim e d0 h1 cF t1 g1 gH hrefs (by omega) q1;refine⟨X.w.heap.size+1,[E1 X.w.heap.size],X1.w,{ target:=.fn (.func pT) ⟨xc⟩,args := #[.func (.yield (X.w.heap.size+1)) #[] #[]] },X1.w,pT,⟨.func (.yield (X.w.heap.size+1)) #[] #[]::xc⟩,X1.w,?_,?_,?_,?_,I2,?_⟩
      ·rw[w1,GB];exact run_enterLoop_outer _ _ _ _ _
      ·simp only[resolve,hv];simp[go_sem]
      ·intro f' _;exact oR none f'
      ·have e2:(#[.func (.yield (X.w.heap.size+1)) #[] #[]]:bY)++⟨xc⟩=⟨.func (.yield (X.w.heap.size+1)) #[] #[]::xc⟩:=by apply Array.ext';simp
       simp only[invoke,e2];exact c1
      ·refine Qm7 (c2.mono fun en w2 hp=>?_);obtain⟨v,X2,rfl,rfl,g2,s2,r2⟩:=hp;have s02:=Tf.trans s2 (Nat.le_succ _)
       have tD:∀s,X2.ρ nx=some (.dG s)->s=.lp (X.w.heap.size+1) rc:=fun s hq=>by
        have:=s2.ρ nx (g0.new (by omega));rw[ρ1,hq]at this
        simpa[Qp]using this
       obtain⟨pX,pend,vG,GA,vY⟩:=g2.wb mz tD;obtain⟨X3,w3,g3,s3,m7⟩:=G.drop K.base g2 (h':=h1.del nx) (fun j=>by rw[Zn];by_cases hj:j=nx<;>simp[hj])
       have vW:∀o,¬X3.du (X.w.heap.size+1) o:=by
        rintro o ⟨j,q,z1,z2⟩
        have:=g2.apart j nx q _ (X.w.heap.size+1) o 0 (m7 j q z1) pX z2 rfl;subst this;have:=g3.jA j q z1;rw[Zn]at this;simp at this
       have sP:X3.w.heap[X.w.heap.size+1]? = some (.loop { rc with state:=oO false dn,pending:=pend }):=by rw[w3];exact vG
       have tn:yk X3 (X.w.heap.size+1) (X3.w.putObj (X.w.heap.size+1) (.loop { { rc with state:=oO false dn,pending:=pend }with state:=.exhausted })):=Xf sP (fun c t f h=>by cases h) vW;have sV:=run_endLoop (P:=P) sP (by cases dn<;>simp[oO]);obtain⟨W4,hW4⟩:∃W4,X3.w.putObj (X.w.heap.size+1) (.loop { { rc with state:=oO false dn,pending:=pend }with state:=.exhausted })=W4:=⟨_,rfl⟩;rw[hW4]at sV tn;rw[w3]at sV;refine⟨pend,W4,sV,?_⟩;have s3:=(s02.trans s3 (by omega)).pN tn (by omega)
       have fin:Q (u6 (if dn then .exit (uC iK)else .normal)) { a with defers:=E1 X.w.heap.size::a.defers } W4:=by
        refine hk { a with defers:=E1 X.w.heap.size::a.defers } ⟨W4,X3.ρ,X3.O⟩ (g3.pN K.base tn) s3 (QB.step K.base s3 he (by omega)) rfl ⟨[X.w.heap.size],rfl,by simp,fun r hr=>?_⟩ (.refl _ _);obtain rfl:r=X.w.heap.size:=by simpa using hr
        have Sw:∀o,¬X3.du X.w.heap.size o:=fun o ho=>by
         have h5:X2.du X.w.heap.size o:=by
          obtain⟨j,q,z1,z2⟩:=ho;exact⟨j,q,m7 j q z1,z2⟩
         have h6:=s2.du _ o (by omega) h5;rcases g1.lZ h6 with⟨_,_,_,e⟩|⟨_,_,e⟩|⟨_,e⟩|⟨_,_,_,_,e⟩<;>rw[e]at FV<;>cases FV
        refine⟨aq _,?_,Sw⟩
        have h7:∀o,¬X1.du X.w.heap.size o:=fun o ho=>by
         rcases g1.lZ ho with⟨_,_,_,e⟩|⟨_,_,e⟩|⟨_,e⟩|⟨_,_,_,_,e⟩<;>rw[e]at FV<;>cases FV
        exact((tn.block _ (by omega)).trans (by rw[w3];exact s2.block _ (by omega) h7)).trans FV
       cases dn with
       |false=>obtain rfl:=GA rfl;exact fin
       |true=>
        obtain rfl:=vY rfl;subst hex;exact wpIn_exit fin
   |_=>exact Ex.cB hx
  |_=>exact Ex.cB hx
theorem Qnh(n:Nat):Wi P T (wR T Φ (jE T Φ n)):=WD K F (IC K F n).1
theorem QEH(n:Nat):uO P T (uB T Φ (jE T Φ n)):=WJ K F (IC K F n).1
end
section
variable {C:gR}{P:Program}{T:fh C}{Φ:iR C}
open Pg (Ex)
theorem T1{n:Nat}{f:FuncId}{args:List (D C)}{d:D C}(h:eO T Φ n f args=some d):∃h' cF tr,Ex (0,0) (wR T Φ (jE T Φ n) f args) [] 0 d h' cF tr/\d.refs=[]/\d.dM=true:=by
 unfold eO at h;obtain⟨a,h',n',t,h1,h2⟩:=Pg.fw h;cases hb:a.refs.isEmpty&&a.dM with
 |false=>simp[hb]at h2
 |true=>
  simp only[hb,ag,aD]at h2;subst h2;rw[ai]at hb;exact⟨h',n',t,h1,List.isEmpty_iff.1 hb.1,hb.2⟩
def eA(n:Nat):ek:=⟨0,n,fun _=>False,fun _ _ _ h=>h⟩
theorem G.start(w:World)(O:Nat->Nat->Prop)(hO:∀b o,O b o->b<w.heap.size)(hp:∀p∈T.pre,∃t f,w.heap[p.1]? = some (.cells p.2 t f))(n:Nat):G T ⟨w,fun _=>none,O⟩ [] 0 (eA n) where
 var id t d h:=by simp[Heap.get]at h
 vec id t own l h:=by simp[Heap.get]at h
 map id ck cv l h:=by simp[Heap.get]at h
 dG id c h:=by simp[Heap.get]at h
 jA id l h:=by simp at h
 eL id o h:=by simp[Heap.get]at h
 apart id jv l l' b o o' h:=by simp at h
 outer b o h:=by obtain⟨_,_,h,_⟩:=h;simp at h
 outs:=hO
 low:=aq _
 pre p h:=⟨hp p h,fun o ⟨_,_,hq,_⟩=>by simp at hq⟩
variable (K:Zo P T)(F:Qk P T Φ)
include K F
theorem Qjc{n:Nat}{f:FuncId}{args:List (D C)}{d:D C}(h:eO T Φ n f args=some d)(gH:∀a∈args,D.refs a=[])(w:World)(O:Nat->Nat->Prop)(hO:∀b o,O b o->b<w.heap.size)(hp:∀p∈T.pre,∃t f,w.heap[p.1]? = some (.cells p.2 t f)){vs:bT}
 (nY:gV T ⟨w,fun _=>none,O⟩ args vs):(callFunc f ⟨vs⟩).run P w=.ok (.enter f ⟨vs⟩) w/\Calls P f ⟨vs⟩ w fun en w'=>
  ∃v ρ,en=.returned v/\RV T ⟨w',ρ,O⟩ d v/\w.heap.size<=w'.heap.size/\(∀b,b<w.heap.size->w'.heap[b]? = w.heap[b]?)/\w'.os=w.os/\w'.tape=w.tape/\w'.output=w.output/\(∀a:Addr,a.block<w.heap.size->w'.frozen? a=w.frozen? a):=by
 obtain⟨h',cF,tr,hx,hd,_⟩:=T1 h;have g:=G.start (T:=T) w O hO hp cF;obtain⟨q1,q2⟩:=Qnh K F n f args vs _ _ _ _ _ _ _ _ _ g nY (fun a ha id dD=>by rw[gH a ha]at dD;simp at dD) (aq _) hx;refine⟨q1,q2.mono fun en w' hp=>?_⟩;obtain⟨v,X',rfl,rfl,g',s',r'⟩:=hp;have vF:X'.O=O:=s'.O;refine⟨v,X'.ρ,rfl,?_,s'.size,fun b hb=>s'.block b hb (fun o hm=>by obtain⟨_,_,hq,_⟩:=hm;simp at hq),s'.os,s'.tape,s'.output,s'.frz⟩;rw[<-vF];exact r'.1
theorem Qni{n:Nat}{f:FuncId}{args:List (D C)}{d:D C}(h:eO T Φ n f args=some d)(gH:∀a∈args,D.refs a=[]):K4 P T f args d:=by
 intro w O vs hO hp nY;have hd:d.refs=[]/\d.dM=true:=by obtain⟨_,_,_,_,hd⟩:=T1 h;exact hd
 obtain⟨q1,q2⟩:=Qjc K F h gH w O hO hp nY;refine⟨q1,q2.mono fun en w' xt=>?_⟩;obtain⟨v,ρ,rfl,r,a1,a2,a3,a4,a5,a6⟩:=xt;exact⟨v,ρ,rfl,r,hd,a1,a2,a3,a4,a5,a6⟩
end
inductive Tree(α:Type) where
 |nil
 |node (k:Nat) (a:α) (l r:Tree α)
namespace Tree
variable {α:Type}
def get(u:Nat):Tree α->Option α
 |.nil=>none
 |.node k a l r=>bif Nat.blt u k then l.get u else bif Nat.blt k u then r.get u else some a
def all(p:Nat->α->Bool):Tree α->Bool
 |.nil=>true
 |.node k a l r=>p k a&&l.all p&&r.all p
theorem mO{p:Nat->α->Bool}{u:Nat}{a:α}:∀{t:Tree α},t.all p=true->t.get u=some a->p u a=true
 |.nil,_,h=>by simp[get]at h
 |.node k b l r,h,hg=>by
  simp only[all,ai]at h;simp only[get]at hg;cases h1:Nat.blt u k with
  |true=>rw[h1]at hg;exact mO h.1.2 hg
  |false=>
   rw[h1]at hg;cases h2:Nat.blt k u with
   |true=>rw[h2]at hg;exact mO h.2 hg
   |false=>
    rw[h2]at hg;simp only[ah,aD]at hg;have e1:¬u<k:=by rw[<-Nat.blt_eq,h1];simp
    have e2:¬k<u:=by rw[<-Nat.blt_eq,h2];simp
    obtain rfl:u=k:=by omega
    rw[<-hg];exact h.1.1
end Tree
section
variable {C:gR}
structure Row(C:gR) where
 (g:GT C)(size bytes:Nat)(zero:Option (D C))
structure L8(C:gR) where
 (enc:(t:C.Ty)->C.A t->D C)(dec:(t:C.Ty)->D C->Option (C.A t))(eU:(t:C.Ty)->C.A t)(dp:C.Ty->TypeId)(sM:(t:C.Ty)->C.A t->C.A t->dq)(uK:(t:C.Ty)->Option (List (C.A t)->bL))(jZ:(t:C.Ty)->Option (bL->List (C.A t)))
def Vt(cd:L8 C)(t:Tree (Row C))(pre:fq:=[])(settle:TypeId->Bool:=fun _=>true):fh C where
 ty u:=match t.get u with|some r=>r.g|none=>.none
 size u:=match t.get u with|some r=>r.size|none=>0
 bytes u:=match t.get u with|some r=>r.bytes|none=>0
 enc:=cd.enc
 dec:=cd.dec
 eU:=cd.eU
 dp:=cd.dp
 sM:=cd.sM
 zero u:=match t.get u with|some r=>r.zero|none=>none
 uK:=cd.uK
 jZ:=cd.jZ
 pre:=pre
 settle:=settle
def FQ:GT C->GT C->Bool
 |.bool,.bool |.str,.str |.fn,.fn=>true
 |.int k,.int k'=>decide (k=k')
 |.struct a fs,.struct a' RK=>a==a'&&fs==RK
 |.arr n e t,.arr n' e' t'=>Nat.beq n n'&&Nat.beq e e'&&decide (t=t')
 |.sl e t,.sl e' t'=>Nat.beq e e'&&decide (t=t')
 |.ptr e,.ptr e'=>Nat.beq e e'
 |.fO e,.fO e'=>Nat.beq e e'
 |.map k v ck cv,.map k' v' lc ka=>Nat.beq k k'&&Nat.beq v v'&&decide (ck=lc)&&decide (cv=ka)
 |_,_=>false
theorem PH{a b:GT C}(h:FQ a b=true):a=b:=by
 cases a<;>cases b<;>simp_all[FQ]
variable (P:Program)(T:fh C)
def Hm{t:C.Ty}(f:D C->bT->fH):List (C.A t)->bT->fH
 |[],cs=>some cs
 |x::l,cs=>match f (T.enc t x) cs with
  |some r=>Hm f l r
  |none=>none
def zR:Nat->D C->bT->fH
 |0,_,_=>none
 |n+1,d,cs=>match d,cs with
  |.bool b,.bool b'::r=>bif b==b' then some r else none
  |.int k m,.int k' m'::r=>bif decide (k=k')&&m==m'&&decide (k.min<=m)&&decide (m<=k.max)then some r else none
  |.str s,.string s'::r=>bif s==s'.data.toList then some r else none
  |.bN,cs=>some cs
  |.bI d ds,cs=>match zR n d cs with
   |some r=>zR n ds r
   |none=>none
  |.arr t m l,cs=>bif Nat.beq m l.length then Hm T (zR n) l cs else none
  |.ez,.slice none 0 0::r=>some r
  |.sl _ _ [],.slice none 0 0::r=>some r
  |.eX,.pointer none::r=>some r
  |.cm,.nilFunc::r=>some r
  |.gf,.map none::r=>some r
  |_,_=>none
variable {P T}
theorem T2{X:Cx}{t:C.Ty}{f:D C->bT->fH}(hf:∀d cs r,f d cs=some r->∃c1,cs=c1++r/\R T X false d c1):∀(l:List (C.A t)) (cs r:bT),Hm T f l cs=some r->∃c1,cs=c1++r/\R T X false (.arr t l.length l) c1
 |[],cs,r,h=>by simp[Hm]at h;exact⟨[],by simp[h],.ia _⟩
 |x::l,cs,r,h=>by
  simp only[Hm]at h;cases hq:f (T.enc t x) cs with
  |none=>simp[hq]at h
  |some r1=>
   simp only[hq]at h;obtain⟨c1,e1,k1⟩:=hf _ _ _ hq;obtain⟨c2,e2,k2⟩:=T2 hf l r1 r h;exact⟨c1++c2,by rw[e1,e2,ay],.iS k1 k2⟩
theorem QIL{X:Cx}:∀(n:Nat) (d:D C) (cs r:bT),zR T n d cs=some r->∃c1,cs=c1++r/\R T X false d c1:=by
 intro n
 induction n with
 |zero=>intro d cs r h;simp[zR]at h
 |succ n ih=>
  intro d cs r h;unfold zR at h
  split at h
  ·rename_i b b' q;cases hb:(b==b')with
   |false=>simp[hb]at h
   |true=>simp[hb]at h;subst h;have:=eq_of_beq hb;subst this;exact⟨[.bool b],rfl,.bool b⟩
  ·rename_i k m k' m' q;cases hb:(decide (k=k')&&m==m'&&decide (k.min<=m)&&decide (m<=k.max))with
   |false=>simp[hb]at h
   |true=>
    simp only[hb,ag,aD]at h;subst h;simp only[ai,aa,bi]at hb;obtain⟨⟨⟨rfl,rfl⟩,h1⟩,h2⟩:=hb;exact⟨[.int k m],rfl,.int ⟨h1,h2⟩⟩
  ·rename_i s s' q;cases hb:(s==s'.data.toList)with
   |false=>simp[hb]at h
   |true=>
    simp only[hb,ag,aD]at h;subst h;have:=eq_of_beq hb;subst this;exact⟨[.string s'],rfl,.str _⟩
  ·simp at h;exact⟨[],by simp[h],.bN⟩
  ·rename_i d ds;cases hq:zR T n d cs with
   |none=>simp[hq]at h
   |some r1=>
    simp only[hq]at h;obtain⟨c1,e1,k1⟩:=ih _ _ _ hq;obtain⟨c2,e2,k2⟩:=ih _ _ _ h;exact⟨c1++c2,by rw[e1,e2,ay],.bI k1 k2⟩
  ·rename_i t m l;cases hb:Nat.beq m l.length with
   |false=>simp[hb]at h
   |true=>
    simp only[hb,ag]at h;have:=az hb;subst this;exact T2 ih l _ _ h
  ·simp at h;subst h;exact⟨[.slice none 0 0],rfl,.ez⟩
  ·simp at h;subst h;exact⟨[.slice none 0 0],rfl,.kN _ _ _⟩
  ·simp at h;subst h;exact⟨[.pointer none],rfl,.eX⟩
  ·simp at h;subst h;exact⟨[.nilFunc],rfl,.cm⟩
  ·simp at h;subst h;exact⟨[.map none],rfl,.gf⟩
  ·simp at h
variable (P T)
def zB(d:D C)(cs:bT):Bool:=match zR T 50 d cs with
 |some []=>true
 |_=>false
variable {P T}
theorem Ho{d:D C}{cs:bT}(h:zB T d cs=true)(X:Cx):R T X false d cs:=by
 unfold zB at h
 split at h
 ·rename_i hq;obtain⟨c1,e1,k1⟩:=QIL (X:=X) _ _ _ _ hq;simp at e1;rw[e1];exact k1
 ·cases h
variable (P T)
def wX(e:TypeId)(t:C.Ty):Bool :=
 FQ (T.ty e) (T.ty (T.dp t))&&Nat.beq (T.size e) (T.size (T.dp t))&&match P.info? e with
 |some i=>Nat.beq i.size (T.size e)&&Nat.beq i.bytes (T.bytes e)&&Nat.blt 0 (T.bytes e)&&Nat.blt 0 (T.size e)&&match i.zero with
  |some z=>Nat.beq z.cells.size (T.size e)&&zB T (T.enc t (T.eU t)) z.cells.toList
  |none=>false
 |none=>false
def CS:List Field->Nat->Bool
 |[],_=>true
 |f::fs,n=>Nat.beq f.offset n&&CS fs (n+T.size f.type)
def tT(e:TypeId):Bool:=(match T.ty e with |.struct _ _=>false |.arr _ _ _=>false |.none=>false|_=>true)&&match P.info? e with
 |some i=>Nat.beq i.size 1&&(match i.zero with|some z=>Nat.beq z.cells.size 1&&Nat.ble i.bytes 1024|none=>false)
 |none=>false
def tK(k v:TypeId)(ck cv:C.Ty):Bool:=FQ (T.ty k) (T.ty (T.dp ck))&&FQ (T.ty v) (T.ty (T.dp cv))&&(match T.ty k with |.int _=>true |.str=>true |.bool=>true|_=>false)&&match P.info? v with
 |some i=>(match i.zero with|some (.agg cs)=>(T.enc cv (T.eU cv)).de&&zB T (T.enc cv (T.eU cv)) cs.toList|some z=>!(T.enc cv (T.eU cv)).de&&zB T (T.enc cv (T.eU cv)) [z]|none=>false)
 |none=>false
def ZN(u:TypeId)(g:GT C)(size:Nat):Bool:=match g,P.underlying u with
 |.bool,some .bool=>Nat.beq size 1
 |.int k,some (.int k')=>decide (k=k')&&Nat.beq size 1
 |.str,some .string=>Nat.beq size 1
 | .struct false fs,some (.struct fields)=>(fields.toList.map (·.type) == fs) && Nat.beq size (Zh T fs) && CS T fields.toList 0 && !P.stoodInHeld u && !P.eqGuardType P.depth u && fields.toList.all (fun f=>f.name != "_") &&
  fs.all (fun f=>match P.info? f with|some i=>Nat.beq i.size (T.size f)&&Nat.blt 0 (T.size f)|none=>false)
 |.struct true fs,some (.array n e)=>Nat.beq fs.length n&&(fs==List.replicate fs.length e)&&Nat.blt 0 fs.length&&Nat.beq size (Zh T fs)&&(match P.info? e with|some i=>Nat.beq i.size (T.size e)|none=>false)
 |.arr n e t,some (.array n' e')=>Nat.beq n n'&&Nat.beq e e' && !P.eqGuardType P.depth u&&Nat.beq size (n*T.size e)&&wX P T e t
 |.sl e t,some (.slice e')=>Nat.beq e e'&&Nat.beq size 1&&wX P T e t
 |.ptr e,some (.pointer e')=>Nat.beq e e'&&Nat.beq size 1
 |.fn,some (.func _ _ _)=>Nat.beq size 1
 |.fO e,some (.slice e')=>Nat.beq e e'&&Nat.beq size 1&&tT P T e
 |.map k v ck cv,some (.map k' v')=>Nat.beq k k'&&Nat.beq v v'&&Nat.beq size 1&&tK P T k v ck cv
 |_,_=>false
def ue(u:TypeId)(r:Row C):Bool :=
 Nat.blt 0 r.size&&(match P.info? u with
  |some i=>Nat.beq i.size r.size&&(match r.zero with
   |none=>true
   |some z=>match i.zero with
    |some v=>z.refs.isEmpty&&zB T z v.cells.toList
    |none=>false)
  |none=>false)&&ZN P T u r.g r.size
variable {P T}
theorem XW:∀(fs:List Field) (n:Nat),CS T fs n=true->∀(i:Nat) (f:Field),fs[i]? = some f->f.offset=n+Zh T ((fs.map (·.type)).take i)
 |[],n,h,i,f,hf=>by simp at hf
 |g::fs,n,h,i,f,hf=>by
  simp only[CS,ai]at h;cases i with
  |zero=>simp at hf;subst hf;simp[Zh,az h.1]
  |succ i=>
   have:=XW fs _ h.2 i f (by simpa using hf);rw[this];simp[Zh];omega
theorem HF{e:TypeId}{t:C.Ty}(h:wX P T e t=true):(T.ty e=T.ty (T.dp t)/\T.size e=T.size (T.dp t))/\∃i z,P.info? e=some i/\i.size=T.size e/\i.bytes=T.bytes e/\0<T.bytes e/\0<T.size e/\i.zero=some z/\z.cells.size=T.size e /\
 ∀X,R T X false (T.enc t (T.eU t)) z.cells.toList:=by
 simp only[wX,ai]at h;obtain⟨⟨h1,h2⟩,h3⟩:=h;refine⟨⟨PH h1,az h2⟩,?_⟩;cases hi:P.info? e with
 |none=>simp[hi]at h3
 |some i=>
  simp only[hi,ai]at h3;obtain⟨⟨⟨⟨a1,a2⟩,a3⟩,a4⟩,a5⟩:=h3;cases hz:i.zero with
  |none=>simp[hz]at a5
  |some z=>
   simp only[hz,ai]at a5;exact⟨i,z,rfl,az a1,az a2,by simpa[Nat.blt_eq]using a3,by simpa[Nat.blt_eq]using a4,hz,az a5.1,Ho a5.2⟩
theorem QsS{e:TypeId}(h:tT P T e=true):(∀d,fit T d (.inl e)=true->d.de=false)/\∃i z,P.info? e=some i/\i.size=1/\i.zero=some z/\z.cells.size=1/\i.bytes<=1024:=by
 simp only[tT,ai]at h;obtain⟨h1,h2⟩:=h;refine⟨fun d hf=>?_,?_⟩
 ·cases hd:T.ty e<;>simp[hd]at h1<;>cases d<;>simp_all[fit,D.de]
 ·cases hi:P.info? e with
  |none=>simp[hi]at h2
  |some i=>
   simp only[hi,ai]at h2;cases hz:i.zero with
   |none=>simp[hz]at h2
   |some z=>simp only[hz,ai]at h2;exact⟨i,z,rfl,az h2.1,hz,az h2.2.1,Nat.le_of_ble_eq_true h2.2.2⟩
theorem QsT{k v:TypeId}{ck cv:C.Ty}(h:tK P T k v ck cv=true):T.ty k=T.ty (T.dp ck)/\T.ty v=T.ty (T.dp cv)/\((∃ik,T.ty k=.int ik)\/T.ty k=.str\/T.ty k=.bool) /\
 ∃i z,P.info? v=some i/\i.zero=some z/\∀X,RV T X (T.enc cv (T.eU cv)) z:=by
 simp only[tK,ai]at h;obtain⟨⟨⟨h1,h2⟩,h3⟩,h4⟩:=h;refine⟨PH h1,PH h2,?_,?_⟩
 ·cases hd:T.ty k<;>simp[hd]at h3 ⊢
 ·cases hi:P.info? v with
  |none=>simp[hi]at h4
  |some i=>
   simp only[hi]at h4;cases hz:i.zero with
   |none=>simp[hz]at h4
   |some z=>
    refine⟨i,z,rfl,hz,fun X=>?_⟩;cases z with
    |agg cs=>
     simp only[hz,ai]at h4;exact .inl ⟨h4.1,cs.toList,Ho h4.2 X,by simp⟩
    |_=>
     simp only[hz,ai,Bool.not_eq_true']at h4;exact .inr ⟨h4.1,Ho h4.2 X⟩
theorem QHq{sz:Nat}{u:TypeId}(this:ZN P T u (.bool) sz=true):P.underlying u=some .bool/\sz=1:=by
 unfold ZN at this
 split at this<;>simp_all
theorem QIM{sz:Nat}{u:TypeId}{k:IntKind}(this:ZN P T u (.int k) sz=true):P.underlying u=some (.int k)/\sz=1:=by
 unfold ZN at this
 split at this<;>simp_all
theorem QIN{sz:Nat}{u:TypeId}(this:ZN P T u (.str) sz=true):P.underlying u=some .string/\sz=1:=by
 unfold ZN at this
 split at this<;>simp_all
theorem QIO{sz:Nat}{u e:TypeId}(this:ZN P T u (.ptr e) sz=true):P.underlying u=some (.pointer e)/\sz=1:=by
 unfold ZN at this
 split at this<;>simp_all
theorem Tg{sz:Nat}{u:TypeId}(this:ZN P T u (.fn) sz=true):(∃a b c,P.underlying u=some (.func a b c))/\sz=1:=by
 unfold ZN at this
 split at this<;>simp_all
theorem QIP{sz:Nat}{u e:TypeId}(this:ZN P T u (.fO e) sz=true):P.underlying u=some (.slice e)/\sz=1/\tT P T e=true:=by
 unfold ZN at this
 split at this<;>simp_all
 obtain⟨⟨e1,_⟩,h⟩:=this;rw[<-e1];exact h
theorem QIQ{sz:Nat}{u k v:TypeId}{ck cv:C.Ty}(this:ZN P T u (.map k v ck cv) sz=true):P.underlying u=some (.map k v)/\sz=1/\tK P T k v ck cv=true:=by
 unfold ZN at this
 split at this<;>simp_all
 obtain⟨⟨⟨e1,e2⟩,_⟩,h⟩:=this;rw[<-e1,<-e2];exact h
theorem QIR{sz:Nat}{u:TypeId}{n:Nat}{e:TypeId}{t:C.Ty}(this:ZN P T u (.arr n e t) sz=true):P.underlying u=some (.array n e)/\P.eqGuardType P.depth u=false/\sz=n*T.size e/\wX P T e t=true:=by
 unfold ZN at this
 split at this<;>simp_all
 obtain⟨⟨⟨⟨_,e1⟩,_⟩,_⟩,h⟩:=this;rw[<-e1];exact h
theorem Tk{sz:Nat}{u e:TypeId}{t:C.Ty}(this:ZN P T u (.sl e t) sz=true):P.underlying u=some (.slice e)/\sz=1/\wX P T e t=true:=by
 unfold ZN at this
 split at this<;>simp_all
 obtain⟨⟨e1,_⟩,h⟩:=this;rw[<-e1];exact h
theorem Tm{sz:Nat}{u:TypeId}{fs:cD}(this:ZN P T u (.struct false fs) sz=true):∃fields:Array Field,P.underlying u=some (.struct fields)/\fields.toList.map (·.type)=fs/\sz=Zh T fs/\CS T fields.toList 0=true/\P.stoodInHeld u=false/\P.eqGuardType P.depth u=false /\
 (∀ f ∈ fields.toList,f.name ≠ "_") /\ ∀ f ∈ fs,∃ i,P.info? f=some i /\ i.size=T.size f /\ 0 < T.size f:=by
 unfold ZN at this
 split at this
 case h_4 RK fields e1 e2=>
  simp only[GT.struct.injEq,true_and]at e1;subst e1;simp only[ai,Bool.not_eq_true',aX]at this;obtain⟨⟨⟨⟨⟨⟨a1,a2⟩,a3⟩,a4⟩,a5⟩,a6⟩,a7⟩:=this;refine⟨fields,e2,eq_of_beq a1,az a2,a3,a4,a5,fun f hf=>by simpa using a6 f hf,fun f hf=>?_⟩;have:=a7 f hf;cases hi:P.info? f with
  |none=>simp[hi]at this
  |some i=>simp only[hi,ai]at this;exact⟨i,rfl,az this.1,by simpa[Nat.blt_eq]using this.2⟩
 all_goals simp_all
theorem QIS{sz:Nat}{u:TypeId}{fs:cD}(this:ZN P T u (.struct true fs) sz=true):sz=Zh T fs/\∃e,P.underlying u=some (.array fs.length e)/\fs=List.replicate fs.length e/\0<fs.length/\∃i,P.info? e=some i/\i.size=T.size e:=by
 unfold ZN at this
 split at this
 case h_5 RK n e e1 e2=>
  simp only[GT.struct.injEq,true_and]at e1;subst e1;simp only[ai]at this;obtain⟨⟨⟨⟨a1,a2⟩,a3⟩,a4⟩,a5⟩:=this;have a1:=az a1;refine⟨az a4,e,by rw[e2,a1],eq_of_beq a2,by simpa[Nat.blt_eq]using a3,?_⟩;cases hi:P.info? e with
  |none=>simp[hi]at a5
  |some i=>simp only[hi]at a5;exact⟨i,rfl,az a5⟩
 all_goals simp_all
structure Wj(T:fh C):Prop where
 fv:∀t x,(T.enc t x).refs=[]
 fS:∀t x,fit T (T.enc t x) (.inl (T.dp t))=true
 mw:∀X t d x cs,T.dec t d=some x->R T X false d cs->R T X false (T.enc t x) cs
 sM:∀t a b r,T.sM t a b=some r->o5 (T.enc t a) (T.enc t b)=some r
 uK:∀t f l,T.uK t=some f->bytesOf T l=some (f l)
 jZ:∀t g l,T.jZ t=some g->(g l).map (T.enc t)=l.map fun b=>.int .u8 (b.toNat:Int)
theorem QHs{cd:L8 C}{t:Tree (Row C)}{pre:fq}{settle:TypeId->Bool}(h:t.all (ue P (Vt cd t pre settle))=true)(hc:Wj (Vt cd t pre settle))(ho:P.follows .mixedOrders=true):Zo P (Vt cd t pre settle):=by
 have row:∀u,(Vt cd t pre settle).ty u ≠ .none->∃r,t.get u=some r/\ue P (Vt cd t pre settle) u r=true/\(Vt cd t pre settle).ty u=r.g/\(Vt cd t pre settle).size u=r.size/\(Vt cd t pre settle).zero u=r.zero:=by
  intro u hu;cases hg:t.get u with
  |none=>exact(hu (by simp[Vt,hg])).elim
  |some r=>exact⟨r,rfl,Tree.mO h hg,by simp[Vt,hg],by simp[Vt,hg],by simp[Vt,hg]⟩
 have shape:∀u,(Vt cd t pre settle).ty u ≠ .none->ZN P (Vt cd t pre settle) u ((Vt cd t pre settle).ty u) ((Vt cd t pre settle).size u)=true/\0<(Vt cd t pre settle).size u/\∃i,P.info? u=some i/\i.size=(Vt cd t pre settle).size u:=by
  intro u hu;obtain⟨r,_,h1,h2,h3,_⟩:=row u hu;simp only[ue,ai]at h1;obtain⟨⟨a1,a2⟩,a3⟩:=h1;refine⟨by rw[h2,h3];exact a3,by rw[h3];simpa[Nat.blt_eq]using a1,?_⟩;cases hi:P.info? u with
  |none=>simp[hi]at a2
  |some i=>simp only[hi,ai]at a2;exact⟨i,rfl,by rw[h3];exact az a2.1⟩
 generalize hT:Vt cd t pre settle=T at *
 have sh:∀u g,T.ty u=g->g ≠ .none->ZN P T u g (T.size u)=true:=fun u g hg hn=>by have:=(shape u (by rw[hg];exact hn)).1;rw[hg]at this;exact this
 have xH:∀u,T.ty u=.bool->P.underlying u=some .bool/\T.size u=1:=fun u hu=>QHq (sh u _ hu (by simp));have G8:∀u k,T.ty u=.int k->P.underlying u=some (.int k)/\T.size u=1:=fun u k hu=>QIM (sh u _ hu (by simp));have Hb:∀u,T.ty u=.str->P.underlying u=some .string/\T.size u=1:=fun u hu=>QIN (sh u _ hu (by simp));have G9:∀u e,T.ty u=.ptr e->P.underlying u=some (.pointer e)/\T.size u=1:=fun u k hu=>QIO (sh u _ hu (by simp));have sFn:∀u,T.ty u=.fn->(∃a b c,P.underlying u=some (.func a b c))/\T.size u=1:=fun u hu=>Tg (sh u _ hu (by simp));have zG:∀u e,T.ty u=.fO e->P.underlying u=some (.slice e)/\T.size u=1/\tT P T e=true:=fun u e hu=>QIP (sh u _ hu (by simp));have zH:∀u k v ck cv,T.ty u=.map k v ck cv->P.underlying u=some (.map k v)/\T.size u=1/\tK P T k v ck cv=true:=fun u k v ck cv hu=>QIQ (sh u _ hu (by simp));have zF:∀u n e t,T.ty u=.arr n e t->P.underlying u=some (.array n e)/\P.eqGuardType P.depth u=false/\T.size u=n*T.size e/\wX P T e t=true:=fun u n e t hu=>QIR (sh u _ hu (by simp));have Tj:∀u e t,T.ty u=.sl e t->P.underlying u=some (.slice e)/\T.size u=1/\wX P T e t=true:=fun u e t hu=>Tk (sh u _ hu (by simp))
 have Tl:∀u fs,T.ty u=.struct false fs->∃fields:Array Field,P.underlying u=some (.struct fields)/\fields.toList.map (·.type)=fs/\T.size u=Zh T fs/\CS T fields.toList 0=true/\P.stoodInHeld u=false/\P.eqGuardType P.depth u=false /\
  (∀ f ∈ fields.toList,f.name ≠ "_") /\ ∀ f ∈ fs,∃ i,P.info? f=some i /\ i.size=T.size f /\ 0 < T.size f:=fun u fs hu=>Tm (sh u _ hu (by simp))
 have Ha:∀u fs,T.ty u=.struct true fs->T.size u=Zh T fs/\∃e,P.underlying u=some (.array fs.length e)/\fs=List.replicate fs.length e/\0<fs.length/\∃i,P.info? e=some i/\i.size=T.size e:=fun u fs hu=>QIS (sh u _ hu (by simp))
 refine⟨⟨hc.fv,hc.fS,hc.mw,hc.uK,hc.jZ,?_,?_,?_,fun u hu=>(xH u hu).2,fun u k hu=>(G8 u k hu).2,fun u hu=>(Hb u hu).2,fun u e hu=>(G9 u e hu).2,fun u hu=>(sFn u hu).2,fun u e hu=>(zG u e hu).2.1,fun u k v ck cv hu=>(zH u k v ck cv hu).2.1,fun u hu=>(shape u (fun h=>hu h)).2.1⟩,
  fun u hu=>(xH u hu).1,fun u k hu=>(G8 u k hu).1,fun u hu=>(Hb u hu).1,?_,?_,fun u fs hu=>(Ha u fs hu).2,?_,fun u e t hu=>(Tj u e t hu).1,?_,fun u e hu=>⟨(zG u e hu).1,QsS (zG u e hu).2.2⟩,fun u k v ck cv hu=>⟨(zH u k v ck cv hu).1,QsT (zH u k v ck cv hu).2.2⟩,fun u e hu=>(G9 u e hu).1,fun u hu=>(sFn u hu).1,?_,?_,hc.sM,ho⟩
 ·intro u a fs hu;cases a with
  |false=>obtain⟨_,_,_,h3,_⟩:=Tl u fs hu;exact h3
  |true=>exact(Ha u fs hu).1
 ·intro u n e t hu;obtain⟨_,_,h3,h4⟩:=zF u n e t hu;exact⟨h3,(HF h4).1⟩
 ·intro u e t hu;obtain⟨_,h3,h4⟩:=Tj u e t hu;exact⟨h3,(HF h4).1⟩
 ·intro u fs hu;obtain⟨fields,h1,h2,_,h4,h5,h6,h7,_⟩:=Tl u fs hu;refine⟨fields,h1,h2,fun i f hf=>?_,h5,h6,h7⟩;have:=XW fields.toList 0 h4 i f (by rw[Array.getElem?_toList];exact hf);rw[this,h2];simp
 ·intro u fs f hu hf;obtain⟨_,_,_,_,_,_,_,_,h8⟩:=Tl u fs hu;exact h8 f hf
 ·intro u n e t hu;obtain⟨h1,h2,_⟩:=zF u n e t hu;exact⟨h1,h2⟩
 ·rintro u e t (⟨n,hu⟩|hu)
  ·exact(HF (zF u n e t hu).2.2.2).2
  ·exact(HF (Tj u e t hu).2.2).2
 ·intro u d hf;refine(shape u (fun hn=>?_)).2.2;cases d<;>simp[fit,hn]at hf
 ·intro u z hz;subst hT;cases hg:t.get u with
  |none=>simp[Vt,hg]at hz
  |some r=>
   have hr:=Tree.mO h hg;have SW:r.zero=some z:=by simpa[Vt,hg]using hz
   simp only[ue,ai]at hr;obtain⟨⟨a1,a2⟩,a3⟩:=hr;cases hi:P.info? u with
   |none=>simp[hi]at a2
   |some i=>
    simp only[hi,ai,SW]at a2;cases hv:i.zero with
    |none=>simp[hv]at a2
    |some v=>
     simp only[hv,ai]at a2;exact⟨i,v,rfl,hv,List.isEmpty_iff.1 a2.2.1,Ho a2.2.2⟩
end
structure Qo where
 key:Int
 value:Int
 deriving DecidableEq
abbrev ca:=List Qo
structure Item where
 key:Int
 place:Int
 value:Int
 deriving DecidableEq
abbrev cX:=Option Item
abbrev bM:=List Item
structure cg where
 offset:Int
 place:Int
 j:Int
 key:Int
 value:Int
 deriving DecidableEq
abbrev bJ:=List cg
structure Rec where
 place:Int
 yes:Bool
 writes:ca
 deriving DecidableEq
abbrev gi:=Option Rec
abbrev bS:=List Rec
structure St where
 place:Int
 items:bM
 l0:bJ
 l1:bJ
 l2:bJ
 c0:Int
 c1:Int
 c2:Int
 deriving DecidableEq
structure cE where
 n:Int
 b:bL
 deriving DecidableEq
abbrev bK:=List cE
structure Frame where
 prog:Int
 mN:Int
 r:bQ
 deriving DecidableEq
structure QHt where
 kind:Int
 a:Int
 b:Int
 v:Int
 gen:Int
 text:bL
 args:bQ
 deriving DecidableEq
structure Event where
 mZ:Int
 act:QHt
 got:Int
 deriving DecidableEq
structure aam where
 handle:Int
 node:Bool
 aac:Int
 deriving DecidableEq
structure Try where
 place:Int
 start:Int
 writes:ca
 deriving DecidableEq
structure Task where
 mZ:Int
 stack:List Frame
 got:bQ
 over:Bool
 deriving DecidableEq
structure Txn where
 id:Int
 start:Int
 writes:ca
 deriving DecidableEq
section
variable {C:gR}{T:fh C}{X:Cx}
def Hp(k:IntKind):D C->iG
 |.int k' n=>if k'=k then some n else none
 |_=>none
def Mf:D C->dq
 |.bool b=>some b
 |_=>none
def Rv:D C->Option UInt8
 |.int .u8 n=>some (UInt8.ofNat n.toNat)
 |_=>none
def E5(t:C.Ty)(n:Nat):D C->Option (List (C.A t))
 |.arr t' m l=>if h:t'=t then(if m=n then some (h▸l)else none)else none
 |_=>none
theorem QEJ{k:IntKind}{d:D C}{x:Int}{cs:bT}(hd:Hp k d=some x)(hr:R T X false d cs):R T X false (.int k x) cs:=by
 unfold Hp at hd;split at hd
 ·split at hd
  ·rename_i h;subst h;cases hd;exact hr
  ·cases hd
 ·cases hd
theorem QEK{d:D C}{x:Bool}{cs:bT}(hd:Mf d=some x)(hr:R T X false d cs):R T X false (.bool x) cs:=by
 unfold Mf at hd;split at hd
 ·cases hd;exact hr
 ·cases hd
theorem QIT{d:D C}{x:UInt8}{cs:bT}(hd:Rv d=some x)(hr:R T X false d cs):R T X false (.int .u8 (UInt8.toNat x)) cs:=by
 unfold Rv at hd;split at hd
 ·rename_i n;cases hd;cases hr with
  |int h=>
   have h1:(0:Int)<=n:=h.1;have h2:n<=255:=h.2
   have:((UInt8.ofNat n.toNat).toNat:Int)=n:=by
    rw[UInt8.toNat_ofNat'];have:n.toNat%2^8=n.toNat:=Nat.mod_eq_of_lt (by omega);rw[this];omega
   simp only[this];exact .int h
 ·cases hd
theorem Qnj{t:C.Ty}{d:D C}{x:List (C.A t)}{cs:bT}(hd:D.js t d=some x)(hr:R T X false d cs):R T X false (.sl t false x) cs:=by
 unfold D.js at hd
 split at hd
 ·cases hd;cases hr;exact .kN _ _ _
 ·rename_i t' cp l
  split at hd
  ·rename_i he;cases he;cases hd;cases hr with
   |kN=>exact .kN _ _ _
   |sl a1 a2 a3 a4=>exact .sl a1 a2 a3 (by simp)
  ·cases hd
 ·cases hd
theorem Zs{d ds d' rI:D C}{cs:bT}(hr:R T X false (.bI d ds) cs)(h1:∀c,R T X false d c->R T X false d' c)(h2:∀c,R T X false ds c->R T X false rI c):R T X false (.bI d' rI) cs:=by
 cases hr with
 |bI a b=>exact .bI (h1 _ a) (h2 _ b)
end
structure L9 where
 now:List (cE)
 sure:List (cE)
structure aaa where
 (Lq width aab nodes:Int)
structure Rr where
 c:List (Int)
 d:L9
inductive b9|bool|int|item|lW|line|dU|bR|u8|write
 deriving DecidableEq
@[reducible] def RA:b9->Type
 |.bool=>Bool
 |.int=>Int
 |.item=>Item
 |.lW=>List (UInt8)
 |.line=>cg
 |.dU=>Rec
 |.bR=>cE
 |.u8=>UInt8
 |.write=>Qo
@[reducible] def RC:gR:=⟨b9,inferInstance,RA⟩
abbrev bV:=D RC
abbrev bX:=Env RC
abbrev iF:=Option bV
abbrev er:=List (Nat×bV)
abbrev cf:=Option (Obj RC)
abbrev cb:=List cf
abbrev bW:=List bV
abbrev bP:=List (Obj RC)
abbrev bO:=Option (Bool×bV)
def b7{α:Type}(b:Bool)(x:Option α):Option α:=bif b then x else none
def dH(a b:Int):Bool:=decide (0<=a/\a<b)
def cj(x:Int):bV:=.int .i64 x
def c6(x:Int):Int:=IntKind.wrap .i64 x
abbrev cL (t:RC.Ty)(c:Bool)(l:List (RC.A t))(r:bV):bV:=.bI (.sl t c l) r
abbrev cH (x:Int)(r:bV):bV:=.bI (.int .i64 x) r
def EG(x:cE):bV:=.bI (.int .i64 (cE.n x)) (.bI (.str (cE.b x)) (.bN))
def EH:bV->Option cE
 |.bI (.int .i64 a0) (.bI (.str a1) (.bN))=>some ⟨a0,a1⟩
 |_=>none
theorem QsU{T:fh RC}{X:Cx}{d:bV}{x:cE}{cs:bT}(hd:EH d=some x)(hr:R T X false d cs):R T X false (EG x) cs:=by
 unfold EH at hd
 split at hd
 ·skip
  cases hd;exact Zs hr (fun _ h=>h) (fun _ hr=>Zs hr (fun _ h=>h) (fun _ hr=>hr))
 ·cases hd
def Fh(x:Item):bV:=.bI (.int .i64 (Item.key x)) (cH (Item.place x) (cH (Item.value x) (.bN)))
def Fi:bV->cX
 |.bI (.int .i64 a0) (.bI (.int .i64 a1) (.bI (.int .i64 a2) (.bN)))=>some ⟨a0,a1,a2⟩
 |_=>none
theorem QEL{T:fh RC}{X:Cx}{d:bV}{x:Item}{cs:bT}(hd:Fi d=some x)(hr:R T X false d cs):R T X false (Fh x) cs:=by
 unfold Fi at hd
 split at hd
 ·skip
  cases hd;exact Zs hr (fun _ h=>h) (fun _ hr=>Zs hr (fun _ h=>h) (fun _ hr=>Zs hr (fun _ h=>h) (fun _ hr=>hr)))
 ·cases hd
def Fj(x:cg):bV:=.bI (.int .i64 (cg.offset x)) (cH (cg.place x) (cH (cg.j x) (cH (cg.key x) (cH (cg.value x) (.bN)))))
def Fk:bV->Option cg
 |.bI (.int .i64 a0) (.bI (.int .i64 a1) (.bI (.int .i64 a2) (.bI (.int .i64 a3) (.bI (.int .i64 a4) (.bN)))))=>some ⟨a0,a1,a2,a3,a4⟩
 |_=>none
theorem QEM{T:fh RC}{X:Cx}{d:bV}{x:cg}{cs:bT}(hd:Fk d=some x)(hr:R T X false d cs):R T X false (Fj x) cs:=by
 unfold Fk at hd
 split at hd
 ·skip
  cases hd;exact Zs hr (fun _ h=>h) (fun _ hr=>Zs hr (fun _ h=>h) (fun _ hr=>Zs hr (fun _ h=>h) (fun _ hr=>Zs hr (fun _ h=>h) (fun _ hr=>Zs hr (fun _ h=>h) (fun _ hr=>hr)))))
 ·cases hd
def E6(x:Qo):bV:=.bI (.int .i64 (Qo.key x)) (cH (Qo.value x) (.bN))
def E7:bV->Option Qo
 |.bI (.int .i64 a0) (.bI (.int .i64 a1) (.bN))=>some ⟨a0,a1⟩
 |_=>none
theorem QAu{T:fh RC}{X:Cx}{d:bV}{x:Qo}{cs:bT}(hd:E7 d=some x)(hr:R T X false d cs):R T X false (E6 x) cs:=by
 unfold E7 at hd
 split at hd
 ·skip
  cases hd;exact Zs hr (fun _ h=>h) (fun _ hr=>Zs hr (fun _ h=>h) (fun _ hr=>hr))
 ·cases hd
def Mg(x:Rec)(c0:Bool):bV:=.bI (.int .i64 (Rec.place x)) (.bI (.bool (Rec.yes x)) (cL .write c0 (Rec.writes x) (.bN)))
def FL(x:Rec):bV:=.bI (.int .i64 (Rec.place x)) (.bI (.bool (Rec.yes x)) (cL .write false (Rec.writes x) (.bN)))
def sH:bV->gi
 |.bI (.int .i64 a0) (.bI (.bool a1) (.bI (a2) (.bN)))=>match D.js (C:=RC) .write a2 with|some b2=>(some ⟨a0,a1,b2⟩)|none=>none
 |_=>none
theorem QHu{T:fh RC}{X:Cx}{d:bV}{x:Rec}{cs:bT}(hd:sH d=some x)(hr:R T X false d cs):R T X false (FL x) cs:=by
 unfold sH at hd
 split at hd
 ·skip
  split at hd
  case h_2=>cases hd
  rename_i h2;cases hd;exact Zs hr (fun _ h=>h) (fun _ hr=>Zs hr (fun _ h=>h) (fun _ hr=>Zs hr (fun _ h=>Qnj h2 h) (fun _ hr=>hr)))
 ·cases hd
def cV:(t:b9)->RA t->bV
 |.bool,x=>.bool (x)
 |.int,x=>.int .i64 (x)
 |.item,x=>Fh (x)
 |.lW,x=>.sl (C:=RC) .u8 false (x)
 |.line,x=>Fj (x)
 |.dU,x=>FL (x)
 |.bR,x=>EG (x)
 |.u8,x=>.int .u8 (UInt8.toNat x)
 |.write,x=>E6 (x)
def wu:(t:b9)->bV->Option (RA t)
 |.bool=>Mf
 |.int=>Hp .i64
 |.item=>Fi
 |.lW=>D.js (C:=RC) .u8
 |.line=>Fk
 |.dU=>sH
 |.bR=>EH
 |.u8=>Rv
 |.write=>E7
def CT:(t:b9)->RA t
 |.bool=>(false:Bool)
 |.int=>(0:Int)
 |.item=>(⟨0,0,0⟩:Item)
 |.lW=>([]:List (UInt8))
 |.line=>(⟨0,0,0,0,0⟩:cg)
 |.dU=>(⟨0,false,[]⟩:Rec)
 |.bR=>(⟨0,[]⟩:cE)
 |.u8=>(0:UInt8)
 |.write=>(⟨0,0⟩:Qo)
def wv:(t:b9)->RA t->RA t->dq
 |.bool=>fun(a b:Bool)=>some (a==b)
 |.int=>fun(a b:Int)=>some (a==b)
 |.item=>fun _ _=>none
 |.lW=>fun _ _=>none
 |.line=>fun _ _=>none
 |.dU=>fun _ _=>none
 |.bR=>fun _ _=>none
 |.u8=>fun(a b:UInt8)=>none
 |.write=>fun _ _=>none
def zy:(t:b9)->Option (List (RA t)->bL)
 |.u8=>some fun l=>l
 |_=>none
def PI:(t:b9)->Option (bL->List (RA t))
 |.u8=>some fun l=>l
 |_=>none
def tX(dp:b9->TypeId):L8 RC:=⟨cV,wu,CT,dp,wv,zy,PI⟩
theorem QIU{T:fh RC}{X:Cx}:∀(t:b9) {d:bV} {x:RA t} {cs:bT},wu t d=some x->R T X false d cs->R T X false (cV t x) cs
 |.bool,_,_,_,hd,hr=>QEK hd hr
 |.int,_,_,_,hd,hr=>QEJ hd hr
 |.item,_,_,_,hd,hr=>QEL hd hr
 |.lW,_,_,_,hd,hr=>Qnj hd hr
 |.line,_,_,_,hd,hr=>QEM hd hr
 |.dU,_,_,_,hd,hr=>QHu hd hr
 |.bR,_,_,_,hd,hr=>QsU hd hr
 |.u8,_,_,_,hd,hr=>QIT hd hr
 |.write,_,_,_,hd,hr=>QAu hd hr
theorem QIV:∀{t:b9} {a b:RA t} {r:Bool},wv t a b=some r->o5 (cV t a) (cV t b)=some r
 |.bool,a,b,r,h=>by
  simp only[wv,cV,o5]at h ⊢;simpa using h
 |.int,a,b,r,h=>by
  simp only[wv,cV,o5]at h ⊢;simpa using h
 |.item,_,_,_,h=>absurd (show(none:dq)=some _ from h) (by simp)
 |.lW,_,_,_,h=>absurd (show(none:dq)=some _ from h) (by simp)
 |.line,_,_,_,h=>absurd (show(none:dq)=some _ from h) (by simp)
 |.dU,_,_,_,h=>absurd (show(none:dq)=some _ from h) (by simp)
 |.bR,_,_,_,h=>absurd (show(none:dq)=some _ from h) (by simp)
 |.u8,_,_,_,h=>absurd (show(none:dq)=some _ from h) (by simp)
 |.write,_,_,_,h=>absurd (show(none:dq)=some _ from h) (by simp)
theorem QIW(t:b9)(x:RA t):(cV t x).refs=[]:=by cases t<;>rfl
theorem QIX{T:fh RC}(he:T.enc=cV):∀(t:b9) (f:List (RA t)->bL) (l:List (RA t)),zy t=some f->bytesOf T l=some (f l):=by
 intro t f l h;cases t<;>simp[zy]at h
 subst h
 induction l with
 |nil=>rfl
 |cons x l ih=>
  simp only[bytesOf,ih,he,cV];have:UInt8.ofNat (UInt8.toNat x)=x:=by simp
  simp[this]
theorem QEO:∀(t:b9) (g:bL->List (RA t)) (l:bL),PI t=some g->(g l).map (cV t)=l.map fun b=>.int .u8 (b.toNat:Int):=by
 intro t g l h;cases t<;>simp[PI]at h
 subst h;rfl
theorem QIY{dp:b9->TypeId}{t:Tree (Row RC)}{pre:fq}{settle:TypeId->Bool}(kS:∀t' x,fit (Vt (tX dp) t pre settle) (cV t' x) (.inl (dp t'))=true):Wj (Vt (tX dp) t pre settle):=
 ⟨QIW,kS,fun X t d x cs hd hr=>QIU t hd hr,fun t a b r h=>QIV h,QIX rfl,QEO⟩
open Go.Proofs
set_option maxRecDepth 100000
def T3:b9->TypeId:=fun |.bool=>4 |.int=>3 |.item=>56 |.lW=>129 |.line=>112 |.dU=>51 |.bR=>76 |.u8=>5 |.write=>60
def Qs0:Tree (Row RC):=(.node 115 ⟨.fn,1,8,some .cm⟩ (.node 64 ⟨.fn,1,8,some .cm⟩ (.node 37 ⟨.fn,1,8,some .cm⟩ (.node 25 ⟨(.struct false [3,3,3,3]),4,32,some (cH 0 (cH 0 (cH 0 (cH 0 .bN))))⟩ (.node 9 ⟨.str,1,16,some (.str [])⟩ (.node 3 ⟨(.int .i64),1,8,some (.int .i64 0)⟩ (.node 2 ⟨(.int .i64),1,8,some (.int .i64 0)⟩ (.node 1 ⟨.fn,1,8,some .cm⟩ .nil .nil) .nil) (.node 5 ⟨(.int .u8),1,1,some (.int .u8 0)⟩ (.node 4 ⟨.bool,1,1,some (.bool false)⟩ .nil .nil) .nil)) (.node 22 ⟨(.sl 76 .bR),1,24,some (.sl .bR true [])⟩ (.node 21 ⟨(.int .i32),1,4,some (.int .i32 0)⟩ (.node 12 ⟨(.int .u64),1,8,some (.int .u64 0)⟩ .nil .nil) .nil) (.node 24 ⟨(.struct false [22,22]),2,48,some (.bI (.sl .bR true []) (.bI (.sl .bR true []) .bN))⟩ (.node 23 ⟨(.struct false [22,22]),2,48,some (.bI (.sl .bR true []) (.bI (.sl .bR true []) .bN))⟩ .nil .nil) .nil))) (.node 31 ⟨(.struct true [30,30,30]),3,72,some (.bI (.sl .line true []) (.bI (.sl .line true []) (.bI (.sl .line true []) .bN)))⟩ (.node 28 ⟨.fn,1,8,some .cm⟩ (.node 27 ⟨.fn,1,8,some .cm⟩ (.node 26 ⟨(.struct false [3,3,3,3]),4,32,some (cH 0 (cH 0 (cH 0 (cH 0 .bN))))⟩ .nil .nil) .nil) (.node 30 ⟨(.sl 112 .line),1,24,some (.sl .line true [])⟩ (.node 29 ⟨(.sl 56 .item),1,24,some (.sl .item true [])⟩ .nil .nil) .nil)) (.node 34 ⟨(.struct false [3,29,31,32]),8,128,some (cH 0 (.bI (.sl .item true []) (.bI (.bI (.sl .line true []) (.bI (.sl .line true []) (.bI (.sl .line true []) .bN))) (.bI (.arr .int 3 (List.replicate 3 (CT .int))) .bN))))⟩ (.node 33 ⟨(.struct false [3,29,31,32]),8,128,some (cH 0 (.bI (.sl .item true []) (.bI (.bI (.sl .line true []) (.bI (.sl .line true []) (.bI (.sl .line true []) .bN))) (.bI (.arr .int 3 (List.replicate 3 (CT .int))) .bN))))⟩ (.node 32 ⟨(.arr 3 3 .int),3,24,some (.arr .int 3 (List.replicate 3 (CT .int)))⟩ .nil .nil) .nil) (.node 35 ⟨(.int .i64),1,8,some (.int .i64 0)⟩ .nil .nil)))) (.node 50 ⟨(.struct false [3,4,49]),3,40,some (cH 0 (.bI (.bool false) (.bI (.sl .write true []) .bN)))⟩ (.node 44 ⟨.fn,1,8,some .cm⟩ (.node 40 ⟨(.struct false [39,24]),3,72,some (.bI (.sl .int true []) (.bI (.bI (.sl .bR true []) (.bI (.sl .bR true []) .bN)) .bN))⟩ (.node 39 ⟨(.sl 3 .int),1,24,some (.sl .int true [])⟩ (.node 38 ⟨.fn,1,8,some .cm⟩ .nil .nil) .nil) (.node 43 ⟨.fn,1,8,some .cm⟩ (.node 41 ⟨(.struct false [39,24]),3,72,some (.bI (.sl .int true []) (.bI (.bI (.sl .bR true []) (.bI (.sl .bR true []) .bN)) .bN))⟩ .nil .nil) .nil)) (.node 47 ⟨(.sl 51 .dU),1,24,some (.sl .dU true [])⟩ (.node 46 ⟨.fn,1,8,some .cm⟩ (.node 45 ⟨.fn,1,8,some .cm⟩ .nil .nil) .nil) (.node 49 ⟨(.sl 60 .write),1,24,some (.sl .write true [])⟩ (.node 48 ⟨.fn,1,8,some .cm⟩ .nil .nil) .nil))) (.node 58 ⟨.fn,1,8,some .cm⟩ (.node 54 ⟨.fn,1,8,some .cm⟩ (.node 52 ⟨.fn,1,8,some .cm⟩ (.node 51 ⟨(.struct false [3,4,49]),3,40,some (cH 0 (.bI (.bool false) (.bI (.sl .write true []) .bN)))⟩ .nil .nil) .nil) (.node 56 ⟨(.struct false [3,3,3]),3,24,some (cH 0 (cH 0 (cH 0 .bN)))⟩ (.node 55 ⟨(.struct false [3,3,3]),3,24,some (cH 0 (cH 0 (cH 0 .bN)))⟩ .nil .nil) .nil)) (.node 61 ⟨.fn,1,8,some .cm⟩ (.node 60 ⟨(.struct false [3,3]),2,16,some (cH 0 (cH 0 .bN))⟩ (.node 59 ⟨(.struct false [3,3]),2,16,some (cH 0 (cH 0 .bN))⟩ .nil .nil) .nil) (.node 63 ⟨.fn,1,8,some .cm⟩ .nil .nil))))) (.node 91 ⟨.fn,1,8,some .cm⟩ (.node 76 ⟨(.struct false [3,9]),2,24,some (cH 0 (.bI (.str []) .bN))⟩ (.node 70 ⟨.fn,1,8,some .cm⟩ (.node 67 ⟨.fn,1,8,some .cm⟩ (.node 66 ⟨.fn,1,8,some .cm⟩ (.node 65 ⟨.fn,1,8,some .cm⟩ .nil .nil) .nil) (.node 69 ⟨(.int .u64),1,8,some (.int .u64 0)⟩ (.node 68 ⟨.fn,1,8,some .cm⟩ .nil .nil) .nil)) (.node 73 ⟨.fn,1,8,some .cm⟩ (.node 72 ⟨.fn,1,8,some .cm⟩ (.node 71 ⟨.fn,1,8,some .cm⟩ .nil .nil) .nil) (.node 75 ⟨(.struct false [3,9]),2,24,some (cH 0 (.bI (.str []) .bN))⟩ (.node 74 ⟨.fn,1,8,some .cm⟩ .nil .nil) .nil))) (.node 85 ⟨(.ptr 87),1,8,some .eX⟩ (.node 81 ⟨.fn,1,8,some .cm⟩ (.node 79 ⟨.fn,1,8,some .cm⟩ (.node 77 ⟨.fn,1,8,some .cm⟩ .nil .nil) .nil) (.node 84 ⟨.fn,1,8,some .cm⟩ (.node 82 ⟨.fn,1,8,some .cm⟩ .nil .nil) .nil)) (.node 88 ⟨.fn,1,8,some .cm⟩ (.node 87 ⟨(.struct false [26,34,41]),15,232,some (.bI (cH 0 (cH 0 (cH 0 (cH 0 .bN)))) (.bI (cH 0 (.bI (.sl .item true []) (.bI (.bI (.sl .line true []) (.bI (.sl .line true []) (.bI (.sl .line true []) .bN))) (.bI (.arr .int 3 (List.replicate 3 (CT .int))) .bN)))) (.bI (.bI (.sl .int true []) (.bI (.bI (.sl .bR true []) (.bI (.sl .bR true []) .bN)) .bN)) .bN)))⟩ (.node 86 ⟨(.struct false [26,34,41]),15,232,some (.bI (cH 0 (cH 0 (cH 0 (cH 0 .bN)))) (.bI (cH 0 (.bI (.sl .item true []) (.bI (.bI (.sl .line true []) (.bI (.sl .line true []) (.bI (.sl .line true []) .bN))) (.bI (.arr .int 3 (List.replicate 3 (CT .int))) .bN)))) (.bI (.bI (.sl .int true []) (.bI (.bI (.sl .bR true []) (.bI (.sl .bR true []) .bN)) .bN)) .bN)))⟩ .nil .nil) .nil) (.node 89 ⟨(.fO 88),1,24,some .ez⟩ .nil .nil)))) (.node 103 ⟨.fn,1,8,some .cm⟩ (.node 97 ⟨.fn,1,8,some .cm⟩ (.node 94 ⟨.fn,1,8,some .cm⟩ (.node 93 ⟨.fn,1,8,some .cm⟩ (.node 92 ⟨.fn,1,8,some .cm⟩ .nil .nil) .nil) (.node 96 ⟨.fn,1,8,some .cm⟩ (.node 95 ⟨.fn,1,8,some .cm⟩ .nil .nil) .nil)) (.node 100 ⟨(.map 3 3 .int .int),1,8,some .gf⟩ (.node 99 ⟨.fn,1,8,some .cm⟩ (.node 98 ⟨.fn,1,8,some .cm⟩ .nil .nil) .nil) (.node 102 ⟨.fn,1,8,some .cm⟩ (.node 101 ⟨(.struct true [100,100,100]),3,24,some (.bI .gf (.bI .gf (.bI .gf .bN)))⟩ .nil .nil) .nil))) (.node 110 ⟨.fn,1,8,some .cm⟩ (.node 106 ⟨.fn,1,8,some .cm⟩ (.node 105 ⟨(.fO 100),1,24,some .ez⟩ (.node 104 ⟨.fn,1,8,some .cm⟩ .nil .nil) .nil) (.node 109 ⟨.fn,1,8,some .cm⟩ (.node 108 ⟨.fn,1,8,some .cm⟩ .nil .nil) .nil)) (.node 113 ⟨.fn,1,8,some .cm⟩ (.node 112 ⟨(.struct false [3,3,3,3,3]),5,40,some (cH 0 (cH 0 (cH 0 (cH 0 (cH 0 .bN)))))⟩ (.node 111 ⟨(.struct false [3,3,3,3,3]),5,40,some (cH 0 (cH 0 (cH 0 (cH 0 (cH 0 .bN)))))⟩ .nil .nil) .nil) (.node 114 ⟨.fn,1,8,some .cm⟩ .nil .nil)))))) (.node 168 ⟨.fn,1,8,some .cm⟩ (.node 144 ⟨.fn,1,8,some .cm⟩ (.node 129 ⟨(.sl 5 .u8),1,24,some (.sl .u8 true [])⟩ (.node 121 ⟨.fn,1,8,some .cm⟩ (.node 118 ⟨.fn,1,8,some .cm⟩ (.node 117 ⟨(.sl 4 .bool),1,24,some (.sl .bool true [])⟩ (.node 116 ⟨.fn,1,8,some .cm⟩ .nil .nil) .nil) (.node 120 ⟨(.int .u64),1,8,some (.int .u64 0)⟩ (.node 119 ⟨.fn,1,8,some .cm⟩ .nil .nil) .nil)) (.node 125 ⟨.fn,1,8,some .cm⟩ (.node 123 ⟨.fn,1,8,some .cm⟩ (.node 122 ⟨.fn,1,8,some .cm⟩ .nil .nil) .nil) (.node 128 ⟨.fn,1,8,some .cm⟩ (.node 127 ⟨.fn,1,8,some .cm⟩ .nil .nil) .nil))) (.node 136 ⟨.fn,1,8,some .cm⟩ (.node 132 ⟨.fn,1,8,some .cm⟩ (.node 131 ⟨.fn,1,8,some .cm⟩ (.node 130 ⟨.fn,1,8,some .cm⟩ .nil .nil) .nil) (.node 134 ⟨.fn,1,8,some .cm⟩ (.node 133 ⟨.fn,1,8,some .cm⟩ .nil .nil) .nil)) (.node 141 ⟨.fn,1,8,some .cm⟩ (.node 139 ⟨.fn,1,8,some .cm⟩ (.node 137 ⟨.fn,1,8,some .cm⟩ .nil .nil) .nil) (.node 142 ⟨.fn,1,8,some .cm⟩ .nil .nil)))) (.node 156 ⟨.fn,1,8,some .cm⟩ (.node 150 ⟨.fn,1,8,some .cm⟩ (.node 147 ⟨.fn,1,8,some .cm⟩ (.node 146 ⟨.fn,1,8,some .cm⟩ (.node 145 ⟨.fn,1,8,some .cm⟩ .nil .nil) .nil) (.node 149 ⟨.fn,1,8,some .cm⟩ (.node 148 ⟨.fn,1,8,some .cm⟩ .nil .nil) .nil)) (.node 153 ⟨.fn,1,8,some .cm⟩ (.node 152 ⟨.fn,1,8,some .cm⟩ (.node 151 ⟨.fn,1,8,some .cm⟩ .nil .nil) .nil) (.node 155 ⟨.fn,1,8,some .cm⟩ (.node 154 ⟨.fn,1,8,some .cm⟩ .nil .nil) .nil))) (.node 163 ⟨.fn,1,8,some .cm⟩ (.node 159 ⟨.fn,1,8,some .cm⟩ (.node 158 ⟨.fn,1,8,some .cm⟩ (.node 157 ⟨.fn,1,8,some .cm⟩ .nil .nil) .nil) (.node 162 ⟨.fn,1,8,some .cm⟩ (.node 160 ⟨.fn,1,8,some .cm⟩ .nil .nil) .nil)) (.node 166 ⟨.fn,1,8,some .cm⟩ (.node 165 ⟨.fn,1,8,some .cm⟩ (.node 164 ⟨.fn,1,8,some .cm⟩ .nil .nil) .nil) (.node 167 ⟨.fn,1,8,some .cm⟩ .nil .nil))))) (.node 192 ⟨(.sl 35 .int),1,24,some (.sl .int true [])⟩ (.node 180 ⟨(.struct false [129,3,4]),3,40,some (.bI (.sl .u8 true []) (cH 0 (.bI (.bool false) .bN)))⟩ (.node 174 ⟨(.ptr 112),1,8,some .eX⟩ (.node 171 ⟨(.struct false [129,4]),2,32,some (.bI (.sl .u8 true []) (.bI (.bool false) .bN))⟩ (.node 170 ⟨(.struct false [129,4]),2,32,some (.bI (.sl .u8 true []) (.bI (.bool false) .bN))⟩ (.node 169 ⟨(.ptr 171),1,8,some .eX⟩ .nil .nil) .nil) (.node 173 ⟨.fn,1,8,some .cm⟩ (.node 172 ⟨.fn,1,8,some .cm⟩ .nil .nil) .nil)) (.node 177 ⟨.fn,1,8,some .cm⟩ (.node 176 ⟨.fn,1,8,some .cm⟩ (.node 175 ⟨.fn,1,8,some .cm⟩ .nil .nil) .nil) (.node 179 ⟨(.ptr 181),1,8,some .eX⟩ (.node 178 ⟨.fn,1,8,some .cm⟩ .nil .nil) .nil))) (.node 187 ⟨.fn,1,8,some .cm⟩ (.node 184 ⟨.fn,1,8,some .cm⟩ (.node 183 ⟨.fn,1,8,some .cm⟩ (.node 181 ⟨(.struct false [129,3,4]),3,40,some (.bI (.sl .u8 true []) (cH 0 (.bI (.bool false) .bN)))⟩ .nil .nil) .nil) (.node 186 ⟨.fn,1,8,some .cm⟩ (.node 185 ⟨.fn,1,8,some .cm⟩ .nil .nil) .nil)) (.node 190 ⟨(.fO 28),1,24,some .ez⟩ (.node 189 ⟨.fn,1,8,some .cm⟩ (.node 188 ⟨.fn,1,8,some .cm⟩ .nil .nil) .nil) (.node 191 ⟨.fn,1,8,some .cm⟩ .nil .nil)))) (.node 203 ⟨(.struct false [129]),1,24,some (.bI (.sl .u8 true []) .bN)⟩ (.node 198 ⟨(.int .i64),1,8,some (.int .i64 0)⟩ (.node 195 ⟨.fn,1,8,some .cm⟩ (.node 194 ⟨.fn,1,8,some .cm⟩ (.node 193 ⟨.fn,1,8,some .cm⟩ .nil .nil) .nil) (.node 197 ⟨.fn,1,8,some .cm⟩ (.node 196 ⟨(.int .u32),1,4,some (.int .u32 0)⟩ .nil .nil) .nil)) (.node 201 ⟨.fn,1,8,some .cm⟩ (.node 200 ⟨.fn,1,8,some .cm⟩ (.node 199 ⟨.fn,1,8,some .cm⟩ .nil .nil) .nil) (.node 202 ⟨(.ptr 204),1,8,some .eX⟩ .nil .nil))) (.node 209 ⟨.fn,1,8,some .cm⟩ (.node 206 ⟨.fn,1,8,some .cm⟩ (.node 205 ⟨.fn,1,8,some .cm⟩ (.node 204 ⟨(.struct false [129]),1,24,some (.bI (.sl .u8 true []) .bN)⟩ .nil .nil) .nil) (.node 208 ⟨(.sl 129 .lW),1,24,some (.sl .lW true [])⟩ (.node 207 ⟨.fn,1,8,some .cm⟩ .nil .nil) .nil)) (.node 219 ⟨.fn,1,8,some .cm⟩ (.node 216 ⟨.fn,1,8,some .cm⟩ (.node 210 ⟨.fn,1,8,some .cm⟩ .nil .nil) .nil) (.node 220 ⟨(.ptr 5),1,8,some .eX⟩ .nil .nil)))))))
def cu:fh RC:=Vt (tX T3) Qs0
theorem QAv:Qs0.all (ue Tryz.prog cu)=true:=by kernel_rfl
theorem Qs1:Tryz.prog.follows .mixedOrders=true:=by kernel_rfl
theorem QEP:∀t x,fit cu (cV t x) (.inl (T3 t))=true
 |.bool,_=>rfl
 |.int,_=>rfl
 |.item,_=>rfl
 |.lW,_=>rfl
 |.line,_=>rfl
 |.dU,_=>rfl
 |.bR,_=>rfl
 |.u8,_=>rfl
 |.write,_=>rfl
theorem Qb:Zo Tryz.prog cu:=QHs QAv (QIY QEP) Qs1
section
variable {C:gR}{P:Program}{T:fh C}{Φ:iR C}
open Pg (Ex)
def RI(P:Program)(f:FuncId):Bool:=match P.funcs[f]? with
 | some fn => !(fn.name == "runtime.NumGoroutine") && (match fn.body with
  |some b=>Y0 fn.ntmps b
  |none=>true)
 |none=>true
def vC(P:Program):Nat->Bool
 |0=>true
 |n+1=>RI P n&&vC P n
theorem Qjh:∀(n f:Nat),vC P n=true->f<n->RI P f=true
 |0,f,_,h=>by omega
 |n+1,f,h,hf=>by
  simp only[vC,ai]at h
  by_cases he:f=n
  ·subst he;exact h.1
  ·exact Qjh n f h.2 (by omega)
def CU(P:Program)(n:Nat)(keeps:FuncId->Bool)(rest:FuncId->eI:=fun _=>[])(total:FuncId->Bool:=fun _=>false)(qD:FuncId->Bool:=fun _=>false):iR C where
 fn f:=bif Nat.blt f n then P.funcs[f]? else none
 keeps:=keeps
 rest:=rest
 total:=total
 qD:=qD
 jd _:=none
 spec _:=none
 loop _ _:=none
def iR.b8(Φ:iR C)(g:FuncId)(s:List (D C)->Option (Bool×D C)):iR C:={ Φ with spec:=fun f=>bif Nat.beq f g then some s else Φ.spec f }
def iR.jP(Φ:iR C)(g:FuncId)(s:List (D C)->Pg C (D C)):iR C:={ Φ with jd:=fun f=>bif Nat.beq f g then some s else Φ.jd f }
def iR.cJ(Φ:iR C)(g key:Nat)(s:Env C->Pg C (Ev.X×Env C)):iR C:={ Φ with loop:=fun f k=>bif Nat.beq f g&&Nat.beq k key then some s else Φ.loop f k }
theorem Qqf{n:Nat}{keeps:FuncId->Bool}{rest:FuncId->eI}{total qD:FuncId->Bool}(h:vC P n=true):Qk P T (CU P n keeps rest total qD) where
 fn f fn hf:=by
  simp only[CU]at hf;cases hb:Nat.blt f n with
  |false=>simp[hb]at hf
  |true=>
   simp only[hb,ag]at hf;have:=Qjh n f h (by simpa[Nat.blt_eq]using hb);simp only[RI,hf,ai,Bool.not_eq_true']at this;refine⟨hf,this.1,fun body F3=>?_⟩;have h2:=this.2;rw[F3]at h2;exact h2
 spec g s args d hs:=by simp[CU]at hs
 jd g s hs:=by simp[CU]at hs
 loop f fn body b s _ _ _ hs:=by simp[CU]at hs
theorem Qk.b8(F:Qk P T Φ){g:FuncId}{s:List (D C)->Option (Bool×D C)}
 (hs:∀args d,s args=some (true,d)->(∀a∈args,D.refs a=[])/\K4 P T g args d):Qk P T (Φ.b8 g s) where
 fn:=F.fn
 spec f s' args d h1 h2:=by
  simp only[iR.b8]at h1;cases hb:Nat.beq f g with
  |false=>simp only[hb,ah]at h1;exact F.spec f s' args d h1 h2
  |true=>
   simp only[hb,ag,aD]at h1;subst h1;have:=az hb;subst this;exact hs args d h2
 jd:=F.jd
 loop:=F.loop
theorem Qk.cQ(K:Zo P T)(F:Qk P T Φ){g:FuncId}{s:List (D C)->Option (Bool×D C)}(hs:∀args d,s args=some (true,d)->(∀a∈args,D.refs a=[])/\∃n,eO T Φ n g args=some d):Qk P T (Φ.b8 g s):=
 F.b8 fun args d h=>by
  obtain⟨h1,n,h2⟩:=hs args d h;exact⟨h1,Qni K F h2 h1⟩
def Qs2(P:Program)(T:fh C)(g:FuncId)(s:List (D C)->Pg C (D C)):Prop :=
 ∀args vs X h nx lim e d h' cF tr,G T X h nx lim->gV T X args vs->(∀a∈args,∀id∈D.refs a,ft nx lim id)->cF<=lim.top->Ex e (s args) h nx d h' cF tr ->
  (callFunc g ⟨vs⟩).run P X.w=.ok (.enter g ⟨vs⟩) X.w/\Calls P g ⟨vs⟩ X.w (ZU T X nx lim h' cF d)
theorem Qk.jP(F:Qk P T Φ){g:FuncId}{s:List (D C)->Pg C (D C)}(hs:Qs2 P T g s):Qk P T (Φ.jP g s) where
 fn:=F.fn
 spec:=F.spec
 jd f s' h1:=by
  simp only[iR.jP]at h1;cases hb:Nat.beq f g with
  |false=>simp only[hb,ah]at h1;exact F.jd f s' h1
  |true=>
   simp only[hb,ag,aD]at h1;subst h1;have:=az hb;subst this;exact hs
 loop:=F.loop
def ID(P:Program)(T:fh C)(Φ:iR C)(g key:Nat)(s:Env C->Pg C (Ev.X×Env C)):Prop :=
 ∀fn body b,Φ.fn g=some fn->fn.body=some body->b∈Zd body->QC b=key->∀B,yd B b->∀X h nx lim e env x cZ h' cF tr a Q,G T X h nx lim->QB T X nx lim env a.tmps->cF<=lim.top->fn.ntmps<=a.tmps.size ->
  Ex e (s env) h nx (x,cZ) h' cF tr->Fg T B X nx lim h' cF cZ a (Q (u6 x))->(Code.loop b).wp P Q a X.w
theorem Qk.cJ(F:Qk P T Φ){g key:Nat}{s:Env C->Pg C (Ev.X×Env C)}(hs:ID P T Φ g key s):Qk P T (Φ.cJ g key s) where
 fn:=F.fn
 spec:=F.spec
 jd:=F.jd
 loop f fn body b s' h1 h2 h3 h4:=by
  simp only[iR.cJ]at h4;cases hb:Nat.beq f g&&Nat.beq (QC b) key with
  |false=>simp only[hb,ah]at h4;exact F.loop f fn body b s' h1 h2 h3 h4
  |true=>
   simp only[hb,ag,aD]at h4;subst h4;simp only[ai]at hb;have e1:=az hb.1;have e2:=az hb.2;subst e1;exact hs fn body b h1 h2 h3 e2
def Sub(env eQ:Env C):Prop:=∀p∈eQ,cR env p.1=p.2
theorem ic:∀(env:Env C) (t:Nat),cR env t=.top\/(t,cR env t)∈env
 |[],t=>.inl rfl
 |(j,d)::r,t=>by
  rw[QG]
  by_cases h:t=j
  ·subst h;simp
  ·simp only[h,aL];rcases ic r t with h'|h'
   ·exact .inl h'
   ·exact .inr (by simp[h'])
theorem ZR{nt:Nat}:∀(c:Code),Y0 nt c=true->∀b∈Zd c,Y0 nt b=true/\∀b'∈Zd b,b'∈Zd c
 |.seq x y,h,b,hb=>by
  simp only[Y0,ai]at h;simp only[Zd,aT]at hb ⊢;rcases hb with hb|hb
  ·obtain⟨q1,q2⟩:=ZR x h.1 b hb;exact⟨q1,fun b' h'=>.inl (q2 b' h')⟩
  ·obtain⟨q1,q2⟩:=ZR y h.2 b hb;exact⟨q1,fun b' h'=>.inr (q2 b' h')⟩
 |.cond _ x y,h,b,hb=>by
  simp only[Y0,ai]at h;simp only[Zd,aT]at hb ⊢;rcases hb with hb|hb
  ·obtain⟨q1,q2⟩:=ZR x h.1 b hb;exact⟨q1,fun b' h'=>.inl (q2 b' h')⟩
  ·obtain⟨q1,q2⟩:=ZR y h.2 b hb;exact⟨q1,fun b' h'=>.inr (q2 b' h')⟩
 |.block _ x,h,b,hb=>by
  simp only[Y0]at h;simp only[Zd]at hb ⊢;exact ZR x h b hb
 |.loop x,h,b,hb=>by
  simp only[Y0]at h;simp only[Zd,aZ]at hb ⊢;rcases hb with rfl|hb
  ·exact⟨h,fun b' h'=>.inr h'⟩
  ·obtain⟨q1,q2⟩:=ZR x h b hb;exact⟨q1,fun b' h'=>.inr (q2 b' h')⟩
 |.skip,_,b,hb=>by simp[Zd]at hb
 |.region _ _ _,_,b,hb=>by simp[Zd]at hb
 |.rangeFunc _ _ _ _,_,b,hb=>by simp[Zd]at hb
 |.exit _,_,b,hb=>by simp[Zd]at hb
 |.scope x,h,b,hb=>by
  simp only[Y0]at h;simp only[Zd]at hb ⊢;exact ZR x h b hb
 |.label _,_,b,hb=>by simp[Zd]at hb
 |.goto _,_,b,hb=>by simp[Zd]at hb
 |.ret,_,b,hb=>by simp[Zd]at hb
end
section
variable {C:gR}
def D.eF(f:Nat->Nat):D C->D C
 |.bI d ds=>.bI (d.eF f) (ds.eF f)
 |.cG d=>.cG (d.eF f)
 |.fn g d=>.fn g (d.eF f)
 |.yl n s p a b d id=>.yl n s p a b (d.eF f) (f id)
 |.jN id=>.jN (f id)
 |.bm g d=>.bm g (d.eF f)
 |.dC d=>.dC (d.eF f)
 |.fO n c d=>.fO n c (d.eF f)
 |.mp id=>.mp (f id)
 |.vs id n=>.vs (f id) n
 |.ptr id p=>.ptr (f id) p
 |.jg t id p lo n=>.jg t (f id) p lo n
 |.eY id n p=>.eY (f id) n p
 |d=>d
def Obj.eF(f:Nat->Nat):Obj C->Obj C
 |.var t d=>.var t (d.eF f)
 |o=>o
theorem D.eW(f:Nat->Nat):∀d:D C,(d.eF f).refs=d.refs.map f
 |.bI d ds=>by simp[D.eF,D.refs,D.eW f d,D.eW f ds]
 |.cG d=>by simp[D.eF,D.refs,D.eW f d]
 |.fn g d=>by simp[D.eF,D.refs,D.eW f d]
 |.dC d=>by simp[D.eF,D.refs,D.eW f d]
 |.fO _ _ d=>by simp[D.eF,D.refs,D.eW f d]
 |.bm _ d=>by simp[D.eF,D.refs,D.eW f d]
 |.jN id=>rfl
 |.mp id=>rfl
 |.vs id n=>rfl
 |.ptr id p=>rfl
 |.jg _ id _ _ _=>rfl
 |.eY id n p=>rfl
 |.bool _=>rfl
 |.int _ _=>rfl
 |.str _=>rfl
 |.bN=>rfl
 |.arr _ _ _=>rfl
 |.ez=>rfl
 |.sl _ _ _=>rfl
 |.eX=>rfl
 |.cm=>rfl
 |.gf=>rfl
 |.yl _ _ _ _ _ d id=>by simp[D.eF,D.refs,D.eW f d]
 |.top=>rfl
theorem Obj.eW(f:Nat->Nat)(o:Obj C):(o.eF f).refs=o.refs.map f:=by
 cases o with
 |var t d=>exact D.eW f d
 |vec t own l=>rfl
 |map _ _ _=>rfl
 |dG _=>rfl
theorem D.dZ(f g:Nat->Nat):∀d:D C,(∀id∈d.refs,g (f id)=id)->(d.eF f).eF g=d
 |.bI d ds,h=>by
  simp only[D.refs,aT]at h;simp[D.eF,D.dZ f g d (fun id hi=>h id (.inl hi)),D.dZ f g ds (fun id hi=>h id (.inr hi))]
 |.cG d,h=>by simp[D.eF,D.dZ f g d (by simpa[D.refs]using h)]
 |.fn _ d,h=>by simp[D.eF,D.dZ f g d (by simpa[D.refs]using h)]
 |.yl _ _ _ _ _ d id,h=>by
  simp only[D.refs,aT,bE]at h;simp[D.eF,D.dZ f g d (fun i hi=>h i (.inl hi)),h id (.inr rfl)]
 |.jN id,h=>by simp[D.eF,h id (by simp[D.refs])]
 |.bm _ d,h=>by simp[D.eF,D.dZ f g d (by simpa[D.refs]using h)]
 |.dC d,h=>by simp[D.eF,D.dZ f g d (by simpa[D.refs]using h)]
 |.fO _ _ d,h=>by simp[D.eF,D.dZ f g d (by simpa[D.refs]using h)]
 |.mp id,h=>by simp[D.eF,h id (by simp[D.refs])]
 |.vs id n,h=>by simp[D.eF,h id (by simp[D.refs])]
 |.ptr id p,h=>by simp[D.eF,h id (by simp[D.refs])]
 |.jg _ id _ _ _,h=>by simp[D.eF,h id (by simp[D.refs])]
 |.eY id n p,h=>by simp[D.eF,h id (by simp[D.refs])]
 |.bool _,_=>rfl
 |.int _ _,_=>rfl
 |.str _,_=>rfl
 |.bN,_=>rfl
 |.arr _ _ _,_=>rfl
 |.ez,_=>rfl
 |.sl _ _ _,_=>rfl
 |.eX,_=>rfl
 |.cm,_=>rfl
 |.gf,_=>rfl
 |.top,_=>rfl
theorem D.iL(f:Nat->Nat):∀d:D C,d.refs=[]->d.eF f=d
 |.bI d ds,h=>by
  simp only[D.refs,List.append_eq_nil_iff]at h;simp[D.eF,D.iL f d h.1,D.iL f ds h.2]
 |.cG d,h=>by simp[D.eF,D.iL f d (by simpa[D.refs]using h)]
 |.fn _ d,h=>by simp[D.eF,D.iL f d (by simpa[D.refs]using h)]
 |.yl _ _ _ _ _ d id,h=>by simp[D.refs]at h
 |.jN id,h=>by simp[D.refs]at h
 |.bm _ d,h=>by simp[D.eF,D.iL f d (by simpa[D.refs]using h)]
 |.dC d,h=>by simp[D.eF,D.iL f d (by simpa[D.refs]using h)]
 |.fO _ _ d,h=>by simp[D.eF,D.iL f d (by simpa[D.refs]using h)]
 |.mp id,h=>by simp[D.refs]at h
 |.vs id n,h=>by simp[D.refs]at h
 |.ptr id p,h=>by simp[D.refs]at h
 |.jg _ id _ _ _,h=>by simp[D.refs]at h
 |.eY id n p,h=>by simp[D.refs]at h
 |.bool _,_=>rfl
 |.int _ _,_=>rfl
 |.str _,_=>rfl
 |.bN,_=>rfl
 |.arr _ _ _,_=>rfl
 |.ez,_=>rfl
 |.sl _ _ _,_=>rfl
 |.eX,_=>rfl
 |.cm,_=>rfl
 |.gf,_=>rfl
 |.top,_=>rfl
theorem D.lv(f:Nat->Nat)(d:D C):(d.eF f).dM=d.dM:=by
 induction d with
 |bI d ds i1 i2=>simp only[D.eF,D.dM,i1,i2]
 |cG d ih=>simpa only[D.eF,D.dM]using ih
 |fn _ d ih=>simpa only[D.eF,D.dM]using ih
 |dC d ih=>simpa only[D.eF,D.dM]using ih
 |fO _ _ d ih=>simpa only[D.eF,D.dM]using ih
 |bm _ d ih=>simpa only[D.eF,D.dM]using ih
 |_=>rfl
theorem D.kv(f:Nat->Nat)(d:D C):(d.eF f).de=d.de:=by cases d<;>rfl
theorem D.uc(f:Nat->Nat)(d:D C):(d.eF f).gK=d.gK:=by
 induction d with
 |bI d ds _ ih=>simp only[D.eF,D.gK,D.kv,ih]
 |_=>rfl
variable {T:fh C}
theorem ya(f:Nat->Nat):∀(d:D C) (u:TypeId ⊕ cD),fit T (d.eF f) u=fit T d u
 |.bI d ds,.inl t=>by
  simp only[D.eF,fit]
  split<;>simp[ya f d,ya f ds]
 |.bI d ds,.inr []=>by simp[D.eF,fit]
 |.bI d ds,.inr (a::fs)=>by simp[D.eF,fit,ya f d,ya f ds]
 |.cG _,.inl _=>rfl
 |.cG _,.inr _=>rfl
 |.fn _ d,.inl _=>by simp only[D.eF,fit,D.lv]
 |.yl _ _ _ _ _ _ _,.inl _=>rfl
 |.yl _ _ _ _ _ _ _,.inr _=>rfl
 |.jN _,.inl _=>rfl
 |.jN _,.inr _=>rfl
 |.bm _ d,.inl _=>by simp only[D.eF,fit,D.lv]
 |.bm _ _,.inr _=>rfl
 |.fn _ _,.inr _=>rfl
 |.dC d,.inl _=>by simp only[D.eF,fit,D.lv]
 |.dC _,.inr _=>rfl
 |.fO _ _ d,.inl _=>by simp only[D.eF,fit,D.lv]
 |.fO _ _ _,.inr _=>rfl
 |.mp _,.inl _=>rfl
 |.mp _,.inr _=>rfl
 |.vs _ _,.inl _=>rfl
 |.vs _ _,.inr _=>rfl
 |.ptr _ _,.inl _=>rfl
 |.jg _ _ _ _ _,.inl _=>rfl
 |.jg _ _ _ _ _,.inr _=>rfl
 |.ptr _ _,.inr _=>rfl
 |.eY _ _ _,.inl _=>rfl
 |.eY _ _ _,.inr _=>rfl
 |.bool _,_=>rfl
 |.int _ _,_=>rfl
 |.str _,_=>rfl
 |.bN,_=>rfl
 |.arr _ _ _,_=>rfl
 |.ez,_=>rfl
 |.sl _ _ _,_=>rfl
 |.eX,_=>rfl
 |.cm,_=>rfl
 |.gf,_=>rfl
 |.top,_=>rfl
theorem R.G6{X X':Cx}{y:Bool}(f:Nat->Nat)(he:∀t x,(T.enc t x).refs=[]/\(T.enc t x).dM=true)(hX:∀b o v,X.w.cell? ⟨b,o,none⟩=some v->X.free b o->X'.w.cell? ⟨b,o,none⟩=some v/\X'.free b o)
 (hL:y=true->True)
 {m:Bool} {d:D C} {vs:bT} (h:R T X m d vs):(∀id∈d.refs,Qp (X.ρ id) (X'.ρ (f id)))->(y=true\/d.dM=true)->R T X' m (d.eF f) vs:=by
 induction h with
 |bool b=>exact fun _ _=>.bool b
 |int h=>exact fun _ _=>.int h
 |str s=>exact fun _ _=>.str s
 |bN=>exact fun _ _=>.bN
 |bI _ _ i1 i2=>
  intro hr hy;simp only[D.refs,aT]at hr;exact .bI (i1 (fun id h=>hr id (.inl h)) (hy.imp id fun h=>by simp only[D.dM,ai]at h;exact h.1)) (i2 (fun id h=>hr id (.inr h)) (hy.imp id fun h=>by simp only[D.dM,ai]at h;exact h.2))
 |ia t=>exact fun _ _=>.ia t
 | @iS t n x l c1 c2 _ _ i1 i2=>
  intro _ hy;have h1:=i1 (by simp[he]) (.inr (he _ _).2);rw[D.iL f _ (he t x).1]at h1;exact .iS h1 (i2 (by simp[D.refs]) (.inr rfl))
 |ez=>exact fun _ _=>.ez
 |kN t c a=>exact fun _ _=>.kN t c a
 |sl ha _ hc kz ih=>exact fun _ _=>.sl (fun j v hj=>hX _ _ _ (ha j v hj).1 (ha j v hj).2) (ih (by simp[D.refs]) (.inr rfl)) hc kz
 | @vs id n cp a h=>
  intro hr hy;refine .vs fun v e b lo hi hv=>?_;have hc:=hr id (by simp[D.refs]);rw[hv]at hc;cases ho:X.ρ id with
  |none=>rw[ho]at hc;simp[Qp]at hc
  |some l=>
   rw[ho]at hc;cases l with
   |var b t=>simp[Qp]at hc
   |map b0=>simp[Qp]at hc
   |dG _=>simp[Qp]at hc
   |vec v0 e0 b0 rZ rP=>
    simp only[Qp]at hc;have:=h _ _ _ _ _ ho;refine⟨by omega,fun hl=>?_⟩;have e1:=hc.2.2 (by omega);rw[e1];exact this.2 (by omega)
 | @ptr id p a h=>
  intro hr hy;refine .ptr fun b t hv=>?_;have hc:=hr id (by simp[D.refs]);rw[hv]at hc;cases ho:X.ρ id with
  |none=>rw[ho]at hc;simp[Qp]at hc
  |some l=>
   rw[ho]at hc;cases l with
   |var b0 t0=>
    simp only[Qp,Loc.var.injEq]at hc;obtain⟨rfl,rfl⟩:=hc;exact h _ _ ho
   |vec v0 e0 b0 rZ rP=>simp[Qp]at hc
   |map b0=>simp[Qp]at hc
   |dG _=>simp[Qp]at hc
 | @jg ta id lo n cp p ao h hs hw=>
  intro hr hy;refine .jg (fun b t hv=>?_) hs (fun v e b lo hi hv=>?_)
  ·have hc:=hr id (by simp[D.refs]);rw[hv]at hc;cases ho:X.ρ id with
   |none=>rw[ho]at hc;simp[Qp]at hc
   |some l=>
    rw[ho]at hc;cases l with
    |var b0 t0=>
     simp only[Qp,Loc.var.injEq]at hc;obtain⟨rfl,rfl⟩:=hc;exact h _ _ ho
    |vec v0 e0 b0 rZ rP=>simp[Qp]at hc
    |map b0=>simp[Qp]at hc
    |dG _=>simp[Qp]at hc
  ·have hc:=hr id (by simp[D.refs]);rw[hv]at hc;cases ho:X.ρ id with
   |none=>rw[ho]at hc;simp[Qp]at hc
   |some l=>
    rw[ho]at hc;cases l with
    |var b t=>simp[Qp]at hc
    |map b0=>simp[Qp]at hc
    |dG _=>simp[Qp]at hc
    |vec v0 e0 b0 rZ rP=>
     simp only[Qp]at hc;have:=hw _ _ _ _ _ ho;refine⟨by omega,fun hl=>?_⟩;have e1:=hc.2.2 (by omega);rw[e1,hc.1];exact this.2 (by omega)
 | @eY id n i p a h=>
  intro hr hy;refine .eY fun v e b lo hi hv=>?_;have hc:=hr id (by simp[D.refs]);rw[hv]at hc;cases ho:X.ρ id with
  |none=>rw[ho]at hc;simp[Qp]at hc
  |some l=>
   rw[ho]at hc;cases l with
   |var b t=>simp[Qp]at hc
   |map b0=>simp[Qp]at hc
   |dG _=>simp[Qp]at hc
   |vec v0 e0 b0 rZ rP=>
    simp only[Qp]at hc;have:=h _ _ _ _ _ ho;refine⟨by omega,fun hl=>?_⟩;have e1:=hc.2.2 (by omega);rw[e1,hc.1];exact this.2 (by omega)
 |dC ha _ ih=>
  intro hr hy;exact .dC (fun j v hj=>hX _ _ _ (ha j v hj).1 (ha j v hj).2) (ih (by simpa[D.refs]using hr) hy)
 |eX=>exact fun _ _=>.eX
 |fO ha _ hn h1 hc ih=>
  intro hr hy;exact .fO (fun j v hj=>hX _ _ _ (ha j v hj).1 (ha j v hj).2) (ih (by simpa[D.refs]using hr) hy) hn (by rw[D.uc];exact h1) hc
 | @jN id r h=>
  intro hr hy;refine .jN fun s hv=>?_;have hc:=hr id (by simp[D.refs]);rw[hv]at hc;cases ho:X.ρ id with
  |none=>rw[ho]at hc;simp[Qp]at hc
  |some l=>
   rw[ho]at hc;cases l with
   |dG s0=>
    simp only[Qp,Loc.dG.injEq]at hc;obtain rfl:=hc;exact h _ ho
   |_=>simp[Qp]at hc
 | @mp id b h=>
  intro hr hy;refine .mp fun b' hv=>?_;have hc:=hr id (by simp[D.refs]);rw[hv]at hc;cases ho:X.ρ id with
  |none=>rw[ho]at hc;simp[Qp]at hc
  |some l=>
   rw[ho]at hc;cases l with
   |map b0=>
    simp only[Qp,Loc.map.injEq]at hc;obtain rfl:=hc;exact h _ ho
   |_=>simp[Qp]at hc
 |fn _ ih=>exact fun hr hy=>.fn (ih (by simpa[D.refs]using hr) hy)
 |cm=>exact fun _ _=>.cm
 |gf=>exact fun _ _=>.gf
 |bm _ fA ih=>exact fun hr hy=>.bm (ih (by simpa[D.refs]using hr) hy) (by rw[D.kv];exact fA)
 | @yl nt l id dE ps iV body fj rec hw hs _ ih=>
  intro hr hy;rcases hy with hy|hy
  ·refine .yl (fun s hv=>?_) hs (ih (fun i hi=>hr i (by simp[D.refs,hi])) (.inl hy));have hc:=hr id (by simp[D.refs]);rw[hv]at hc;cases ho:X.ρ id with
   |none=>rw[ho]at hc;simp[Qp]at hc
   |some l=>
    rw[ho]at hc;cases l with
    |dG s0=>
     simp only[Qp,Loc.dG.injEq]at hc;obtain rfl:=hc;exact hw _ ho
    |_=>simp[Qp]at hc
  ·cases hy
 |cG _ ih=>exact fun hr hy=>.cG (ih (by simpa[D.refs]using hr) hy)
 |top v=>exact fun _ _=>.top v
 |iu=>exact fun _ _=>.iu
 |jh _ fK _ i1 i2=>
  intro hr hy;simp only[D.refs,aT]at hr;exact .jh (i1 (fun id h=>hr id (.inl h)) (hy.imp id fun h=>by simp only[D.dM,ai]at h;exact h.1)) (by rw[D.kv];exact fK) (i2 (fun id h=>hr id (.inr h)) (hy.imp id fun h=>by simp only[D.dM,ai]at h;exact h.2))
 |iQ _ fK _ i1 i2=>
  intro hr hy;simp only[D.refs,aT]at hr;exact .iQ (i1 (fun id h=>hr id (.inl h)) (hy.imp id fun h=>by simp only[D.dM,ai]at h;exact h.1)) (by rw[D.kv];exact fK) (i2 (fun id h=>hr id (.inr h)) (hy.imp id fun h=>by simp only[D.dM,ai]at h;exact h.2))
theorem R.eF{X X':Cx}(f:Nat->Nat)(he:∀t x,(T.enc t x).refs=[]/\(T.enc t x).dM=true)(hX:ul X X')
 {m:Bool} {d:D C} {vs:bT} (h:R T X m d vs) (hr:∀id∈d.refs,Qp (X.ρ id) (X'.ρ (f id))):R T X' m (d.eF f) vs :=
 h.G6 (y:=true) f he hX.cell (fun _=>trivial) hr (.inl rfl)
theorem R.nr{X X':Cx}(f:Nat->Nat)(he:∀t x,(T.enc t x).refs=[]/\(T.enc t x).dM=true)(hX:∀b o v,X.w.cell? ⟨b,o,none⟩=some v->X.free b o->X'.w.cell? ⟨b,o,none⟩=some v/\X'.free b o)
 {m:Bool} {d:D C} {vs:bT} (h:R T X m d vs) (hn:d.dM=true) (hr:∀id∈d.refs,Qp (X.ρ id) (X'.ρ (f id))):R T X' m (d.eF f) vs :=
 h.G6 (y:=false) f he hX (fun h=>by cases h) hr (.inr hn)
theorem RV.eF{X X':Cx}(f:Nat->Nat)(he:∀t x,(T.enc t x).refs=[]/\(T.enc t x).dM=true)(hX:ul X X')
 {d:D C} {v:Value} (h:RV T X d v) (hr:∀id∈d.refs,Qp (X.ρ id) (X'.ρ (f id))):RV T X' (d.eF f) v:=by
 rcases h with⟨h1,cs,h2,h3⟩|⟨h1,h2⟩
 ·exact .inl ⟨by rw[D.kv];exact h1,cs,h2.eF f he hX hr,h3⟩
 ·exact .inr ⟨by rw[D.kv];exact h1,h2.eF f he hX hr⟩
def Cx.part(X:Cx)(k:Nat)(f:Nat->Nat):Cx :=
 ⟨X.w,fun j=>if j<k then X.ρ (f j)else none,fun b o=>X.O b o\/(X.du b o/\∀j,j<k->∀l,X.ρ (f j)=some l->¬l.owns b o)⟩
theorem Cx.gY{X:Cx}{k:Nat}{f:Nat->Nat}{b o:Nat}:(X.part k f).du b o↔∃j l,j<k/\X.ρ (f j)=some l/\l.owns b o:=by
 constructor
 ·rintro ⟨j,l,h1,h2⟩
  simp only[Cx.part]at h1
  split at h1
  ·exact⟨j,l,by assumption,h1,h2⟩
  ·cases h1
 ·rintro ⟨j,l,h0,h1,h2⟩
  exact⟨j,l,by simp[Cx.part,h0,h1],h2⟩
theorem Cx.l5{X:Cx}{k:Nat}{f:Nat->Nat}{b o:Nat}:(X.part k f).free b o↔X.free b o:=by
 constructor
 ·rintro ⟨h1,h2⟩
  refine⟨fun h=>h1 (.inl h),fun hm=>?_⟩
  by_cases hq:∃j l,j<k/\X.ρ (f j)=some l/\l.owns b o
  ·exact h2 (Cx.gY.2 hq)
  ·exact h1 (.inr ⟨hm,fun j hj l hl ho=>hq ⟨j,l,hj,hl,ho⟩⟩)
 ·rintro ⟨h1,h2⟩
  refine⟨fun h=>h.elim h1 fun h=>h2 h.1,fun hm=>?_⟩;obtain⟨j,l,_,hl,ho⟩:=Cx.gY.1 hm;exact h2 ⟨f j,l,hl,ho⟩
def gO:Nat->List (Obj C)->Heap C
 |_,[]=>[]
 |n,o::l=>(n,o)::gO (n+1) l
theorem Qnk:∀(l:List (Obj C)) (n id:Nat),(gO n l).get id=if n<=id then l[id-n]? else none
 |[],n,id=>by simp[gO,Heap.get]
 |o::l,n,id=>by
  rw[gO,Qy,Qnk l (n+1) id]
  by_cases h1:id=n
  ·subst h1;simp
  ·by_cases h2:n<=id
   ·have h3:n+1<=id:=by omega
    have h4:id-n=(id-(n+1))+1:=by omega
    simp[h1,h2,h3,h4]
   ·have h3:¬n+1<=id:=by omega
    simp[h1,h2,h3]
theorem QE(l:List (Obj C))(id:Nat):(gO 0 l).get id=l[id]? := by rw[Qnk];simp
structure Part(h:Heap C)(os:List (Obj C))(f:Nat->Nat):Prop where
 mN:∀j o,os[j]? = some o->h.get (f j)=some (o.eF f)
 inj:∀i j,i<os.length->j<os.length->f i=f j->i=j
 refs:∀o∈os,∀r∈Obj.refs o,r<os.length
theorem E8{f:Nat->Nat}{k:Nat}(hi:∀i j,i<k->j<k->f i=f j->i=j):∃g:Nat->Nat,∀j,j<k->g (f j)=j:=by
 classical
 refine⟨fun n=>if h:∃j,j<k/\f j=n then h.choose else 0,fun j hj=>?_⟩;have hex:∃i,i<k/\f i=f j:=⟨j,hj,rfl⟩;simp only[hex,dif_pos];have h1:=hex.choose_spec;exact hi _ _ h1.1 hj h1.2
theorem Part.ctx(L:Laws T){X:Cx}{h:Heap C}{nx:Nat}{lim:ek}(g:G T X h nx lim){os:List (Obj C)}{f:Nat->Nat}(p:Part h os f)(top:Nat):G T (X.part os.length f) (gO 0 os) os.length (eA top):=by
 obtain⟨fi,mP⟩:=E8 p.inj;have hX:ul X (X.part os.length f):=⟨fun b o v h1 h2=>⟨h1,Cx.l5.2 h2⟩⟩;refine⟨?_,?_,?_,?_,?_,?_,?_,?_,?_,aK _,?_⟩
 ·intro id t d ho;rw[QE]at ho;have cU:id<os.length:=(av.1 ho).1;obtain⟨b,c,h1,h2,h3,h4⟩:=g.var (f id) t (d.eF f) (p.mN id _ ho);have hrefs:∀r∈d.refs,r<os.length:=p.refs _ (List.mem_of_getElem? ho);refine⟨b,c,by simp[Cx.part,cU,h1],h2,?_,by rw[ya]at h4;exact h4⟩
  have h5:=h3.eF (X':=X.part os.length f) fi L.gX hX (fun r hr=>by
   rw[D.eW,List.mem_map]at hr;obtain⟨r0,o8,rfl⟩:=hr;have:=hrefs r0 o8;simp only[mP r0 this,Cx.part,this,aU];exact .refl _)
  rwa [D.dZ f fi d (fun r hr=>mP r (hrefs r hr))]at h5
 ·intro id t own l ho;rw[QE]at ho;have cU:id<os.length:=(av.1 ho).1;obtain⟨v,b,lo,hi,h1,h2⟩:=g.vec (f id) t own l (p.mN id _ ho);refine⟨v,b,lo,hi,by simp[Cx.part,cU,h1],?_⟩;exact h2.move L hX.cell (fun _=>rfl) (L.tV t)
 ·intro id ck cv l ho;rw[QE]at ho;have cU:id<os.length:=(av.1 ho).1;obtain⟨b,es,k,h1,h2,h3⟩:=g.map (f id) ck cv l (p.mN id _ ho);exact⟨b,es,k,by simp[Cx.part,cU,h1],h2,h3.move L hX.cell⟩
 ·intro id cc ho;rw[QE]at ho;have cU:id<os.length:=(av.1 ho).1;obtain⟨s,h1,h2⟩:=g.dG (f id) cc (p.mN id _ ho);exact⟨s,by simp[Cx.part,cU,h1],h2.move L hX.cell fun _ _=>rfl⟩
 ·intro id l hr;simp only[Cx.part]at hr
  split at hr
  ·rename_i cU;rw[QE];simp[cU]
  ·cases hr
 ·intro id o ho;rw[QE]at ho;have cU:id<os.length:=(av.1 ho).1;exact⟨⟨.inl cU,fun h=>h⟩,fun r hr=>⟨.inl (p.refs _ (List.mem_of_getElem? ho) r hr),fun h=>h⟩⟩
 ·intro i j l l' b o o' h1 h2 h3 h4;simp only[Cx.part]at h1 h2
  split at h1
  ·split at h2
   ·exact p.inj i j (by assumption) (by assumption) (g.apart _ _ _ _ _ _ _ h1 h2 h3 h4)
   ·cases h2
  ·cases h1
 ·intro b o hm;obtain⟨j,l,hj,hl,ho⟩:=Cx.gY.1 hm;have:=g.outer b o ⟨_,l,hl,ho⟩;exact⟨fun h=>h.elim this.1 fun h=>h.2 j hj l hl ho,this.2⟩
 ·intro b o ho;exact ho.elim (g.outs b o) fun h=>(g.outer b o h.1).2
 ·exact fun q hq=>⟨(g.pre q hq).1,fun o hm=>by
   obtain⟨j,l,hj,hl,ho⟩:=Cx.gY.1 hm;exact(g.pre q hq).2 o ⟨_,l,hl,ho⟩⟩
theorem Part.back(L:Laws T){X:Cx}{h h':Heap C}{nx:Nat}{lim:ek}(g:G T X h nx lim){os eV:List (Obj C)}{f:Nat->Nat}(p:Part h os f)(hlen:eV.length=os.length)(hrefs:∀o∈eV,∀r∈Obj.refs o,r<os.length)
 {X1:Cx} {lim1:ek} (g1:G T X1 (gO 0 eV) os.length lim1) (s1:Step (X.part os.length f) os.length (eA os.length) X1)
 (iB:∀j o,eV[j]? = some o->h'.get (f j)=some (o.eF f)) (kC:∀id,(∀j,j<os.length->f j≠id)->h'.get id=h.get id) :
 ∃X',X'.w=X1.w/\G T X' h' nx lim/\Step X nx lim X'/\(∀j,j<os.length->X'.ρ (f j)=X1.ρ j)/\∀b o v,X1.w.cell? ⟨b,o,none⟩=some v->X1.free b o->X'.w.cell? ⟨b,o,none⟩=some v/\X'.free b o:=by
 classical
 obtain⟨fi,mP⟩:=E8 p.inj
 let X':Cx:=⟨X1.w,fun id=>if ∃j,j<os.length/\f j=id then X1.ρ (fi id)else X.ρ id,X.O⟩
 have qB:∀j,j<os.length->X'.ρ (f j)=X1.ρ j:=fun j hj=>by
  have:∃i,i<os.length/\f i=f j:=⟨j,hj,rfl⟩;simp only[X',this,aU,mP j hj]
 have pX:∀id,(∀j,j<os.length->f j≠id)->X'.ρ id=X.ρ id:=fun id dD=>by
  have:¬ ∃j,j<os.length/\f j=id:=fun⟨j,hj,e⟩=>dD j hj e;simp only[X',this,aL]
 have jF:∀id,(∃j,j<os.length/\f j=id)\/(∀j,j<os.length->f j≠id):=fun id=>by
  by_cases hq:∃j,j<os.length/\f j=id
  ·exact .inl hq
  ·exact .inr fun j hj e=>hq ⟨j,hj,e⟩
 have gp:=Part.ctx L g p os.length
 -- Tx wy dI own
 have hA:∀id l b o,(∀j,j<os.length->f j≠id)->X.ρ id=some l->l.owns b o->b<X.w.heap.size/\(X.part os.length f).O b o/\∀o',¬(X.part os.length f).du b o':=by
  intro id l b o dD hl ho;have gv:∀j,j<os.length->∀l',X.ρ (f j)=some l'->∀o',¬l'.owns b o':=fun j hj l' kA o' gz=>dD j hj (g.apart _ _ _ _ _ _ _ kA hl gz ho);refine⟨(g.outer b o ⟨id,l,hl,ho⟩).2,.inr ⟨⟨id,l,hl,ho⟩,fun j hj l' kA=>gv j hj l' kA o⟩,fun o' hm=>?_⟩;obtain⟨j,l',hj,kA,gz⟩:=Cx.gY.1 hm;exact gv j hj l' kA o' gz
 have fY:∀b o,X'.du b o->X1.du b o\/∃id l,(∀j,j<os.length->f j≠id)/\X.ρ id=some l/\l.owns b o:=by
  rintro b o ⟨id,l,h1,h2⟩
  rcases jF id with⟨j,hj,rfl⟩|dD
  ·rw[qB j hj]at h1;exact .inl ⟨j,l,h1,h2⟩
  ·rw[pX id dD]at h1;exact .inr ⟨id,l,dD,h1,h2⟩
 have hB:∀b o,X1.free b o->X'.free b o:=by
  rintro b o ⟨h1,h2⟩
  have hO:X1.O=(X.part os.length f).O:=s1.O;refine⟨fun h3=>h1 (by rw[hO];exact .inl h3),fun hm=>?_⟩;rcases fY b o hm with h3|⟨id,l,h3,h4,h5⟩
  ·exact h2 h3
  ·exact h1 (by rw[hO];exact(hA id l b o h3 h4 h5).2.1)
 have C8:∀b o v,X1.w.cell? ⟨b,o,none⟩=some v->X1.free b o->X'.w.cell? ⟨b,o,none⟩=some v/\X'.free b o:=fun b o v h1 h2=>⟨h1,hB b o h2⟩
 have hC:∀b o v,X.w.cell? ⟨b,o,none⟩=some v->X.free b o->X'.w.cell? ⟨b,o,none⟩=some v/\X'.free b o:=by
  intro b o v h1 h2;have:=s1.keeps.cell b o v h1 (Cx.l5.2 h2);exact C8 b o v this.1 this.2
 have hold:∀j,j<os.length->ft os.length (eA os.length) j:=fun j hj=>⟨.inl hj,fun h=>h⟩
 have hD:∀id,Qp (X.ρ id) (X'.ρ id):=by
  intro id;rcases jF id with⟨j,hj,rfl⟩|dD
  ·rw[qB j hj];have:=s1.ρ j (hold j hj)
   simpa[Cx.part,hj]using this
  ·rw[pX id dD];exact .refl _
 have kh:∀id l b o,(∀j,j<os.length->f j≠id)->X.ρ id=some l->l.owns b o->X'.w.heap[b]? = X.w.heap[b]? := fun id l b o h1 h2 h3=>by
  obtain⟨a1,a2,a3⟩:=hA id l b o h1 h2 h3;exact s1.block b a1 a3
 have dv:∀j,j<os.length->∃o,h.get (f j)=some o:=fun j hj=>⟨_,p.mN j os[j] (by simp[hj])⟩
 have hs:Step X nx lim X':=by
  refine⟨rfl,s1.os,s1.tape,s1.output,s1.size,fun id _=>hD id,?_,?_,?_,s1.frz⟩
  ·intro b o hb hm;rcases fY b o hm with h3|⟨id,l,h3,h4,h5⟩
   ·obtain⟨j,l,hj,hl,ho⟩:=Cx.gY.1 (s1.du b o hb h3);exact⟨f j,l,hl,ho⟩
   ·exact⟨id,l,h4,h5⟩
  ·intro b o hb hm
   exact s1.cell b o hb fun hq=>by
    obtain⟨j,l,hj,hl,ho⟩:=Cx.gY.1 hq;exact hm ⟨f j,l,hl,ho⟩
  ·intro b hb hm
   exact s1.block b hb fun o hq=>by
    obtain⟨j,l,hj,hl,ho⟩:=Cx.gY.1 hq;exact hm o ⟨f j,l,hl,ho⟩
 refine⟨X',rfl,⟨?_,?_,?_,?_,?_,?_,?_,?_,?_,g.low,g.pre.step hs⟩,hs,qB,C8⟩
 ·intro id t d ho;rcases jF id with⟨j,hj,rfl⟩|dD
  ·have e1:eV[j]? = some eV[j]:=by simp[hlen,hj]
   have e2:=iB j _ e1;rw[ho]at e2
   have e3:∃d0,eV[j]=.var t d0/\d=d0.eF f:=by
    cases hq:eV[j]with
    |var t0 d0=>rw[hq]at e2;simp[Obj.eF]at e2;exact⟨d0,by rw[e2.1],e2.2⟩
    |vec t0 G3 l0=>rw[hq]at e2;simp[Obj.eF]at e2
    |map _ _ _=>rw[hq]at e2;simp[Obj.eF]at e2
    |dG _=>rw[hq]at e2;simp[Obj.eF]at e2
   obtain⟨d0,e4,rfl⟩:=e3;rw[e4]at e1;obtain⟨b,c,h1,h2,h3,h4⟩:=g1.var j t d0 (by rw[QE];exact e1);refine⟨b,c,by rw[qB j hj];exact h1,h2,?_,by rw[ya];exact h4⟩;refine h3.nr f L.gX C8 (Jr _ _ h4) fun r hr=>?_;rw[qB r (hrefs _ (List.mem_of_getElem? e1) r hr)];exact .refl _
  ·rw[kC id dD]at ho;obtain⟨b,c,h1,h2,h3,h4⟩:=g.var id t d ho;refine⟨b,c,by rw[pX id dD];exact h1,by rw[kh id _ b 0 dD h1 rfl];exact h2,h3.rm T (y:=false) L.gX hC (fun h=>by cases h) (fun r hr=>hD r) (.inr (Jr _ _ h4)),h4⟩
 ·intro id t own l ho;rcases jF id with⟨j,hj,rfl⟩|dD
  ·have e1:eV[j]? = some eV[j]:=by simp[hlen,hj]
   have e2:=iB j _ e1;rw[ho]at e2
   have e3:eV[j]=.vec t own l:=by
    cases hq:eV[j]with
    |var t0 d0=>rw[hq]at e2;simp[Obj.eF]at e2
    |vec t0 G3 l0=>rw[hq]at e2;simp only[Obj.eF,aD]at e2;exact e2.symm
    |map _ _ _=>rw[hq]at e2;simp[Obj.eF]at e2
    |dG _=>rw[hq]at e2;simp[Obj.eF]at e2
   rw[e3]at e1;obtain⟨v,b,lo,hi,h1,h2⟩:=g1.vec j t own l (by rw[QE];exact e1);exact⟨v,b,lo,hi,by rw[qB j hj];exact h1,h2.move L C8 (fun _=>rfl) (L.tV t)⟩
  ·rw[kC id dD]at ho;obtain⟨v,b,lo,hi,h1,h2⟩:=g.vec id t own l ho;exact⟨v,b,lo,hi,by rw[pX id dD];exact h1,h2.move L hC (fun⟨o,gz⟩=>kh id _ b o dD h1 gz) (L.tV t)⟩
 ·intro id ck cv l ho;rcases jF id with⟨j,hj,rfl⟩|dD
  ·have e1:eV[j]? = some eV[j]:=by simp[hlen,hj]
   have e2:=iB j _ e1;rw[ho]at e2
   have e3:eV[j]=.map ck cv l:=by
    cases hq:eV[j]with
    |var t0 d0=>rw[hq]at e2;simp[Obj.eF]at e2
    |vec t0 G3 l0=>rw[hq]at e2;simp[Obj.eF]at e2
    |map _ _ _=>rw[hq]at e2;simp only[Obj.eF,aD]at e2;exact e2.symm
    |dG _=>rw[hq]at e2;simp only[Obj.eF,aD]at e2;exact e2.symm
   rw[e3]at e1;obtain⟨b,es,k,h1,h2,h3⟩:=g1.map j ck cv l (by rw[QE];exact e1);exact⟨b,es,k,by rw[qB j hj];exact h1,h2,h3.move L C8⟩
  ·rw[kC id dD]at ho;obtain⟨b,es,k,h1,h2,h3⟩:=g.map id ck cv l ho;exact⟨b,es,k,by rw[pX id dD];exact h1,by rw[kh id _ b 0 dD h1 rfl];exact h2,h3.move L hC⟩
 ·intro id cc ho;rcases jF id with⟨j,hj,rfl⟩|dD
  ·have e1:eV[j]? = some eV[j]:=by simp[hlen,hj]
   have e2:=iB j _ e1;rw[ho]at e2
   have e3:eV[j]=.dG cc:=by
    cases hq:eV[j]<;>rw[hq]at e2<;>simp[Obj.eF]at e2
    rw[e2]
   rw[e3]at e1;obtain⟨s,h1,h2⟩:=g1.dG j cc (by rw[QE];exact e1);exact⟨s,by rw[qB j hj];exact h1,h2.move L C8 fun _ _=>rfl⟩
  ·rw[kC id dD]at ho;obtain⟨s,h1,h2⟩:=g.dG id cc ho;exact⟨s,by rw[pX id dD];exact h1,h2.move L hC fun b hb=>kh id _ b 0 dD h1 hb⟩
 ·intro id l hr;rcases jF id with⟨j,hj,rfl⟩|dD
  ·rw[iB j eV[j] (by simp[hlen,hj])];rfl
  ·rw[pX id dD]at hr;rw[kC id dD];exact g.jA id l hr
 ·intro id o ho;rcases jF id with⟨j,hj,rfl⟩|dD
  ·obtain⟨o0,h0⟩:=dv j hj;have e1:eV[j]? = some eV[j]:=by simp[hlen,hj]
   have e2:=iB j _ e1;rw[ho]at e2;simp only[aD]at e2;refine⟨(g.eL _ _ h0).1,fun r hr=>?_⟩;rw[e2,Obj.eW,List.mem_map]at hr;obtain⟨r0,o8,rfl⟩:=hr;obtain⟨o1,h1⟩:=dv r0 (hrefs _ (List.mem_of_getElem? e1) r0 o8);exact(g.eL _ _ h1).1
  ·rw[kC id dD]at ho;exact g.eL id o ho
 ·intro i i' l l' b o o' h1 h2 h3 h4;rcases jF i with⟨j,hj,rfl⟩|dD
  ·rcases jF i' with⟨j',mb,rfl⟩|vO
   ·rw[qB j hj]at h1;rw[qB j' mb]at h2;rw[g1.apart j j' l l' b o o' h1 h2 h3 h4]
   ·rw[qB j hj]at h1;rw[pX i' vO]at h2;obtain⟨a1,a2,a3⟩:=hA i' l' b o' vO h2 h4;exact(a3 o (s1.du b o a1 ⟨j,l,h1,h3⟩)).elim
  ·rcases jF i' with⟨j',mb,rfl⟩|vO
   ·rw[pX i dD]at h1;rw[qB j' mb]at h2;obtain⟨a1,a2,a3⟩:=hA i l b o dD h1 h3;exact(a3 o' (s1.du b o' a1 ⟨j',l',h2,h4⟩)).elim
   ·rw[pX i dD]at h1;rw[pX i' vO]at h2;exact g.apart i i' l l' b o o' h1 h2 h3 h4
 ·intro b o hm;rcases fY b o hm with h3|⟨id,l,h3,h4,h5⟩
  ·have:=g1.outer b o h3;exact⟨fun h=>this.1 (by rw[s1.O];exact .inl h),this.2⟩
  ·have:=g.outer b o ⟨id,l,h4,h5⟩;exact⟨this.1,bj this.2 s1.size⟩
 ·intro b o ho;exact bj (g.outs b o ho) s1.size
def nr(f:Nat->Nat)(env:Env C):Env C:=env.map fun p=>(p.1,p.2.eF f)
theorem Qnl(f:Nat->Nat):∀(env:Env C) (t:Nat),cR (nr f env) t=(cR env t).eF f
 |[],t=>rfl
 |(j,d)::r,t=>by
  show cR ((j,d.eF f)::nr f r) t=_;rw[QG,QG,Qnl f r t]
  split<;>rfl
theorem QB.part(L:Laws T){X:Cx}{nx:Nat}{lim:ek}{env eQ:Env C}{tmps:bY}{k top:Nat}{f:Nat->Nat}(he:QB T X nx lim env tmps)(yZ:∀i j,i<k->j<k->f i=f j->i=j)
 (hs:∀q∈eQ,cR env q.1=q.2.eF f) (hr:∀q∈eQ,∀r∈q.2.refs,r<k):QB T (X.part k f) k (eA top) eQ tmps:=by
 obtain⟨fi,mP⟩:=E8 yZ;intro t;rcases ic eQ t with h|h
 ·rw[h];exact RO.mk (RV.top _ _ _) rfl
 ·have oM:∀r∈(cR eQ t).refs,r<k:=hr _ h;refine⟨?_,fun r hh=>⟨.inl (oM r hh),fun h=>h⟩⟩;have h1:=(he t).1;have h2:=hs _ h;simp only at h2;rw[h2]at h1
  have h3:=RV.eF (X:=X) (X':=X.part k f) fi L.gX (h:=h1) ⟨fun b o v a1 a2=>⟨a1,Cx.l5.2 a2⟩⟩ (fun r hh=>by
   rw[D.eW,List.mem_map]at hh;obtain⟨r0,o8,rfl⟩:=hh;have:=oM r0 o8;simp only[mP r0 this,Cx.part,this,aU];exact .refl _)
  rwa [D.dZ f fi _ (fun r hh=>mP r (oM r hh))]at h3
theorem QB.back(L:Laws T){X1 X':Cx}{nx k:Nat}{lim lim1:ek}{env:Env C}{tmps:bY}{f:Nat->Nat}(he:QB T X1 k lim1 env tmps)(hr:∀q∈env,∀r∈q.2.refs,r<k)
 (hρ:∀j,j<k->X'.ρ (f j)=X1.ρ j) (hB:ul X1 X') (hold:∀j,j<k->ft nx lim (f j)):QB T X' nx lim (nr f env) tmps:=by
 intro t;rw[Qnl]
 have oM:∀r∈(cR env t).refs,r<k:=by
  rcases ic env t with h|h
  ·rw[h];simp[D.refs]
  ·exact hr _ h
 refine⟨(he t).1.eF f L.gX hB fun r hh=>?_,fun r hh=>?_⟩
 ·rw[hρ r (oM r hh)];exact .refl _
 ·rw[D.eW,List.mem_map]at hh;obtain⟨r0,o8,rfl⟩:=hh;exact hold r0 (oM r0 o8)
end
def c8{α:Type}(o:Option α)(p:α->Prop):Prop:=∃r,o=some r/\p r
theorem ZO{α:Type}{c:Bool}{x y:Option α}{p:α->Prop}:c8 (cond c x y) p↔(c=true->c8 x p)/\(c=false->c8 y p):=by
 cases c<;>simp
theorem HP{α:Type}{a:α}{p:α->Prop}:c8 (some a) p↔p a:=by simp[c8]
section
variable {C:gR}{P:Program}{T:fh C}{Φ:iR C}
open Pg (Ex)
def Kk(Φ:iR C)(g:FuncId):List Code:=match Φ.fn g with
 |some fn=>match fn.body with
  |some b=>Zd b
  |none=>[]
 |none=>[]
def K5(Φ:iR C)(g key:Nat):Code:=((Kk Φ g).find? fun b=>Nat.beq (QC b) key).getD .skip
def Im(k:Nat):List Code->Bool
 |[]=>true
 |b::l=>!(Nat.beq (QC b) k)&&Im k l
def u0:List Code->Bool
 |[]=>true
 |b::l=>Im (QC b) l&&u0 l
theorem WE{k:Nat}:∀{l:List Code},Im k l=true->∀b∈l,QC b≠k
 |[],_,b,hb=>by simp at hb
 |c::l,h,b,hb=>by
  simp only[Im,ai,Bool.not_eq_true']at h;simp only[aZ]at hb;rcases hb with rfl|hb
  ·exact Nat.ne_of_beq_eq_false h.1
  ·exact WE h.2 b hb
theorem XY{k:Nat}:∀{l:List Code},u0 l=true->∀b∈l,QC b=k->l.find? (fun b=>Nat.beq (QC b) k)=some b
 |[],_,b,hb,_=>by simp at hb
 |c::l,h,b,hb,hk=>by
  simp only[u0,ai]at h;simp only[aZ]at hb;rcases hb with rfl|hb
  ·simp[hk]
  ·have fg:=WE h.1 b hb;have:Nat.beq (QC c) k=false:=mY (by rw[<-hk];exact fun e=>fg e.symm);simp only[List.find?_cons,this];exact XY h.2 b hb hk
theorem NO{g key:Nat}(hk:u0 (Kk Φ g)=true){fn:Func}{body b:Code}(hf:Φ.fn g=some fn)(hb:fn.body=some body)(hm:b∈Zd body)(ju:QC b=key):K5 Φ g key=b:=by
 have:Kk Φ g=Zd body:=by simp[Kk,hf,hb]
 rw[K5,this,XY (by rw[<-this];exact hk) b hm ju];rfl
def rn:bU->Env C->Env C
 |[],_=>[]
 |k::l,env=>(k,cR env k)::rn l env
def cut(kc kf:bU)(r:Ev.X×Env C):Ev.X×Env C:=match r.1 with
 |.normal=>(.normal,rn kc r.2)
 |x=>(x,rn kf r.2)
theorem K6:∀(l:bU) (env:Env C),Sub env (rn l env)
 |[],env,p,hp=>by simp[rn]at hp
 |k::l,env,p,hp=>by
  simp only[rn,aZ]at hp;rcases hp with rfl|hp
  ·rfl
  ·exact K6 l env p hp
end
theorem cC{n:Int}(h1:-9223372036854775808<=n)(h2:n<=9223372036854775807):IntKind.i64.wrap n=n:=by
 simp only[IntKind.wrap,IntKind.bits,IntKind.signed];simp;omega
theorem eG (i:Nat)(h:i<9223372036854775807):IntKind.i64.wrap ((i:Int)+1)=((i+1:Nat):Int):=by rw[cC (by omega) (by omega)];simp
def pO{α:Type}(one:α->Bool)(two:α->α->Bool):Option α->List α->Bool
 |_,[]=>true
 |p,x::l=>one x&&(match p with|none=>true|some y=>two y x)&&pO one two (some x) l
def Ff{α:Type}(l:List α)(i:Nat):Option α:=match i with
 |0=>none
 |i+1=>l[i]?
end Go.Ev
