/-
  A part of the proof of a statement of this seat: the model is run over values by content, proved sound; what the functions come to. No condition beyond the given statements. (text 8)
-/
import Derived.Test.YtkoeniljaccaiaaGreatP6
import Derived.KernelRfl
noncomputable section
namespace Go.Ev
open Go.Proofs
set_option maxRecDepth 100000
set_option linter.unusedVariables false
set_option linter.unusedSimpArgs false
def ua:Code:=(LV 130).1
def ub:Code:=(LV 130).2
def qM(key:Int)(c:Bool)(cs:bQ)(l:bM):bP:=[.var 39 (.sl (C:=RC) .int c cs),.var 3 (.int .i64 key),.var 39 (.sl (C:=RC) .int c cs),.var 3 (.int .i64 key),.var 29 (.vs 5 l.length),.vec .item true l,.dG (.lp false false 0)]
structure Qpl where
 (key:Int)(c:Bool)(cs:bQ)(l:bM)(w:Int)(n:Nat)
def Pm(key:Int)(c:Bool)(cs:bQ)(l:bM)(w:Int)(n:Nat):bX:=[(0,.yl 27 [4,3,2] [10] (ua) (ub) (.bI (.ptr 4 []) (.bI (.ptr 3 []) (.bI (.ptr 2 []) .bN))) 6),(1,.ptr 1 []),(2,.ptr 0 []),(5,.int .i64 w),(6,.int .i64 (n:Int))]
def I1(key:Int)(c:Bool)(cs:bQ)(l:bM)(w:Int)(n:Nat):bP:=[.var 39 (.sl (C:=RC) .int c cs),.var 3 (.int .i64 key),.var 39 (.sl (C:=RC) .int ((c)) ((cs))),.var 3 (.int .i64 ((key))),.var 29 (.vs 5 (l.length)),.vec .item true l,.dG (.lp false false 0)]
def QyG key c cs l w n:=dQ cu zZ 194 4 60 7 [0,1,2,5,6] [] [.slot 2 0,.slot 1 0,.slot 0 2,.slot 0 1,.slot 0 0,.path 4 [],.slot 0 3] (Pm key c cs l w n) (I1 key c cs l w n)
theorem QCb key c cs l w n:QyG key c cs l w n=(let Z0:=Zm (bare w) 1 true;let Z1:cf:=some (Obj.var 39 (D.sl b9.int c cs));let Z2:cf:=some (Obj.var 3 (cj key));let Z3:=l.length;let Z4:cb:=[some (Obj.dG (ru.lp false false 0))];let Z5:cb:=Z1::Z2::Z1::Z2::some (Obj.var 29 (D.vs 5 Z3))::some (Obj.vec b9.item true l)::Z4;let Z6:=Zm (bare w) 2 true;let Z7:Int:=(cs.length:Int);let Z8:bM:=[Item.mk key (qJ w) (bits .i64 (fun(x:Nat) (u v:BitVec x)=>u&&&v) (List.getD cs Z6.toNat 0) 255)];let Z9:=List.getD cs Z0.toNat 0;bif decide ((n:Int)<160)then bif w !=0 then bif decide (Z0<0)then some ((X.ret,[]),Z5)else b7 (dH Z6 Z7) (b7 (Nat.beq Z3 Z3&&Qg (Z3+Z8.length) 24) (b7 (dH Z0 Z7) (some ((X.normal,[(0,D.yl 27 [(4:Nat),(3:Nat),(2:Nat)] [(10:Nat)] ua ub (D.bI (D.ptr 4 []) (.bI (D.ptr 3 []) (.bI (D.ptr 2 []) .bN))) 6),(1,D.ptr 1 []),(2,D.ptr 0 []),(5,cj (if Z9<0 then (0:Int)else Z9)),(6,cj (c6 ((n:Int)+1)))]),Z1::Z2::Z1::Z2::some (Obj.var 29 (D.vs 5 (Z3+Z8.length)))::some (Obj.vec b9.item true (l++Z8))::Z4))))else some ((X.exit 0,[]),Z5)else some ((X.exit 0,[]),Z5)):=by kernel_rfl
def Jm(key:Int)(c:Bool)(cs:bQ)(l:bM)(w:Int)(n:Nat):RT RC:=.br (rG cs (160-n) w) (.leaf .ret [] (qM key c cs (l++qL cs key (160-n) w))) (.leaf (.exit 0) [] (qM key c cs (l++qL cs key (160-n) w)))
def DG(key:Int)(c:Bool)(cs:bQ)(l:bM)(w:Int)(n:Nat):Prop:=cs.length=771/\n<=160/\l.length<=n
def Cy:QD RC Qpl where
 k:=7
 cM q:=Pm q.key q.c q.cs q.l q.w q.n
 cK q:=I1 q.key q.c q.cs q.l q.w q.n
 fin q:=Jm q.key q.c q.cs q.l q.w q.n
 Inv q:=DG q.key q.c q.cs q.l q.w q.n
 μ q:=160-q.n
theorem QmK key c cs l w n(hI:DG key c cs l w n):c8 (QyG key c cs l w n) (dj Cy ⟨key,c,cs,l,w,n⟩):=by
 (rw[QCb];delta b7 dH cj c6;conv=>zeta)
 unfold DG at hI;obtain⟨qu,hn,hl⟩:=hI
 have c9:∀(L:bM) (b:Bool),rG cs (160-n) w=b->l++qL cs key (160-n) w=L->(Jm key c cs l w n).val=some ((bif b then X.ret else X.exit 0,[]),qM key c cs L):=fun L b h1 h2=>by
  unfold Jm;simp only[RT.val,h1,h2];cases b<;>rfl
 by_cases aao:n<160
 ·have dn:decide ((n:Int)<160)=true:=ab (by omega);obtain⟨m,hm⟩:∃m,160-n=m+1:=⟨159-n,by omega⟩;rw[hm]at c9;rw[dn,ag]
  by_cases hw:w=0
  ·have ew:(w !=0)=false:=by simp[hw]
   rw[ew,ah];subst hw;have h0 := @Nf cs key (m+1);exact Qh (qM key c cs l) (c9 l false h0.2 (by rw[h0.1,aR])) rfl
  ·have ew:(w !=0)=true:=by simp[hw]
   rw[ew,ag];rcases qm w with⟨b1,b2⟩|⟨b1,b2,b3⟩
   ·have d1:decide (Zm (bare w) 1 true<0)=true:=ab (by omega);rw[d1,ag];have h0 := @QGy cs key w hw (by omega) m;exact QW (qM key c cs l) (c9 l true h0.2 (by rw[h0.1,aR])) rfl
   ·have d1:decide (Zm (bare w) 1 true<0)=false:=ad (by omega);have d2:decide (0<=Zm (bare w) 2 true/\Zm (bare w) 2 true<((771:Nat):Int))=true:=ab (by omega);have d3:decide (0<=Zm (bare w) 1 true/\Zm (bare w) 1 true<((771:Nat):Int))=true:=ab (by omega);have w1:=eG n (by omega)
    have h0 := @Uv cs key w hw (by omega) m;have hb:∀n:Nat,Nat.beq n n=true:=fun n=>by simp
    have e1:∀x:Item,l.length+([x]:bM).length=(l++[x]).length:=fun x=>by simp
    have s1:∀x:Item,Qg (l++[x]).length 24=true:=fun x=>by simp[Qg];omega
    obtain⟨x,hx⟩:∃x:Item,x=Item.mk key (qJ w) (cs.getD (Zm (bare w) 2 true).toNat 0%256):=⟨_,rfl⟩;rw[<-hx]at h0;rw[qu];simp only[d1,d2,d3,w1,FD,e1,s1,hb,au,ag,ah,<-hx];refine Qi (S:=Cy) (s:=⟨key,c,cs,l,w,n⟩) ⟨key,c,cs,l++[x],wh (cs.getD (Zm (bare w) 1 true).toNat 0),n+1⟩ (show DG key c cs (l++[x]) (wh (cs.getD (Zm (bare w) 1 true).toNat 0)) (n+1)from⟨qu,by omega,by simp;omega⟩) (show 160-(n+1)<160-n by omega) ?_ rfl rfl;show(Jm key c cs (l++[x]) (wh (cs.getD (Zm (bare w) 1 true).toNat 0)) (n+1)).val=(Jm key c cs l w n).val;rw[c9 _ _ h0.2 rfl,h0.1];unfold Jm;rw[show 160-(n+1)=m by omega];simp only[RT.val,ay,aP,aH];cases rG cs m (wh (cs.getD (Zm (bare w) 1 true).toNat 0))<;>rfl
 ·have dn:decide ((n:Int)<160)=false:=ad (by omega);rw[dn,ah];have e:160-n=0:=by omega
  rw[e]at c9;exact Qh (qM key c cs l) (c9 l false rfl (by show l++[]=l;simp)) rfl
def Pn(env:bX)(os:bP):Option (Bool×Qpl):=match env,os with
 |[(0,.yl 27 [4,3,2] [10] x0 x1 (.bI (.ptr 4 []) (.bI (.ptr 3 []) (.bI (.ptr 2 []) .bN))) 6),(1,.ptr 1 []),(2,.ptr 0 []),(5,.int .i64 w),(6,.int .i64 x2)],[.var 39 (.sl .int c cs),.var 3 (.int .i64 key),.var 39 (.sl .int x3 x4),.var 3 (.int .i64 x5),.var 29 (.vs 5 x6),.vec .item true l,.dG (.lp false false 0)]=>some (dO (x0=ua)&&dO (x1=ub)&&decide (x2=0)&&decide (x3=(c))&&decide (x4=(cs))&&decide (x5=(key))&&decide (x6=l.length)&&decide (cs.length=771)&&l.isEmpty,⟨key,c,cs,l,w,0⟩)
 |_,_=>none
def z0:=zZ.cJ 194 4 (ey cu [.slot 2 0,.slot 1 0,.slot 0 2,.slot 0 1,.slot 0 0,.path 4 [],.slot 0 3] [0,1,2,5,6] Cy Pn)
theorem QyH:Qk Tryz.prog cu z0:=by
 refine QyF.cq Qb (by kernel_rfl) Cy 60 [0,1,2,5,6] [] [.slot 2 0,.slot 1 0,.slot 0 2,.slot 0 1,.slot 0 0,.path 4 [],.slot 0 3] [0,1,2,5,6] Pn (fun q hI=>?_) ?_
 ·obtain⟨key,c,cs,l,w,n⟩:=q;refine⟨?_,?_,QmK key c cs l w n hI⟩
  ·simp_all[Qj,Cy,Pm,I1,DG,D.refs,Obj.refs,cV]
  ·simp[Cy,Jm,I1,qM,RT.cT,Qj,D.refs,Obj.refs]
 ·intro env os b q cN hb;unfold Pn at cN
  split at cN
  ·cases cN;simp only[ai,aa]at hb;obtain⟨⟨⟨⟨⟨⟨⟨⟨h1,h2⟩,rfl⟩,rfl⟩,rfl⟩,rfl⟩,rfl⟩,hA⟩,hl⟩:=hb;have h1:=Q9.1 h1;have h2:=Q9.1 h2;subst h1;subst h2;have hl:=List.isEmpty_iff.1 hl;subst hl;exact⟨⟨hA,aK _,aq _⟩,rfl,rfl⟩
  ·cases cN
def Qk0:bW->bO
 |[.sl .int c cs,.int .i64 key]=>some (Qd cs.length,.sl (C:=RC) .item false (Ve cs key))
 |_=>none
def Qpn(c:Bool)(cs:bQ)(key:Int):=ky cu z0 80 130 [.sl (C:=RC) .int c cs,.int .i64 key]
theorem QyI c cs key:Qpn c cs key=(let Z0:=cs.length;let Z1:Int:=dY 21 key 24;let fR:=List.getD cs Z1.toNat 0;let eH:Int:=if fR<0 then (0:Int)else fR;let fW:bM:=[]++qL cs key 160 eH;let gD:fI:=b7 (Nat.beq fW.length fW.length) (some (D.sl b9.item false fW));b7 (Qd Z0) (bif (Z0:Int)!=771 then some (D.sl b9.item false [])else bif decide (Z1<0)then some (D.sl b9.item false [])else b7 (dH Z1 (Z0:Int)) (b7 (dO (ua=ua)&&dO (ub=ub)&&true&&decide (c=c)&&decide (cs=cs)&&decide (key=key)&&true&&decide (Z0=771)&&true) (bif rG cs 160 eH then gD else gD)))):=by kernel_rfl
theorem QyJ c cs key(h:(Qd cs.length)=true):Qpn c cs key=some (.sl (C:=RC) .item false (Ve cs key)):=by
 (rw[QyI];delta b7 dH;conv=>zeta)
 refine Qa h ?_;have no:sy cs key=false->some (D.sl (C:=RC) .item false [])=some (.sl (C:=RC) .item false (Ve cs key)):=fun e=>by simp only[Ve,e,ah]
 refine Qw (fun e=>no ?_) fun e0=>?_
 ·have:¬cs.length=771:=fun q=>by rw[q]at e;exact absurd e (by decide)
  unfold sy;rw[ad this];rfl
 have hl:cs.length=771:=Xg e0
 by_cases hk:0<=key/\key<24
 ·have lr:dY 21 key 24=21+key:=by unfold dY;rw[ax hk]
  rw[lr];have ok:sy cs key=true:=by unfold sy;rw[ab hl,ab hk.1,ab hk.2];rfl
  have hw:(if cs.getD (21+key).toNat 0<0 then 0 else cs.getD (21+key).toNat 0)=wh (cs.getD (21+key).toNat 0):=rfl;simp only[Ve,ok,ag,hw];refine Qq (ad (by omega)) (Qa (ab ⟨by omega,by omega⟩) ?_);refine Qa (eK (eK (eK (eK (eK (eK (eK (eK (Q1 (by first|exact trivial|kernel_rfl)) (Q1 (by first|exact trivial|kernel_rfl))) rfl) (by simp)) (by simp)) (by simp)) rfl) (ab hl)) rfl) ?_;cases rG cs 160 (wh (cs.getD (21+key).toNat 0))
  ·exact Qq rfl (Qa (Zp rfl) rfl)
  ·exact Qa rfl (Qa (Zp rfl) rfl)
 ·have lr:dY 21 key 24 = -1:=by unfold dY;rw[aw hk]
  rw[lr];refine Qa rfl (no ?_);unfold sy
  by_cases k0:0<=key
  ·rw[ad (show ¬key<24 by omega)];simp
  ·rw[ad k0];simp
def z4:=z0.b8 130 Qk0
theorem QyK:Qk Tryz.prog cu z4:=QyH.iv Qb fun args d h=>by
 unfold Qk0 at h
 split at h
 ·obtain⟨h1,rfl⟩:=ak h;exact⟨by simp[D.refs],80,QyJ _ _ _ h1⟩
 ·cases h
structure Qhe where
 (p:Int)(c:Bool)(l:bM)(i:Nat)
def N5(p:Int)(c:Bool)(l:bM)(i:Nat):bX:=[(2,.int .i64 p),(6,.ptr 0 []),(7,.bool false),(12,.sl (C:=RC) .item c l),(13,.int .i64 (l.length)),(14,.int .i64 (i:Int))]
def HS(p:Int)(c:Bool)(l:bM)(i:Nat):bP:=[.var 56 (cH 0 (cH 0 (cH 0 .bN)))]
def Qk1 p c l i:=dQ cu z4 72 2 40 1 [2,6,7,12,13,14] [7] [.slot 6 0] (N5 p c l i) (HS p c l i)
theorem QrZ p c l i:Qk1 p c l i=(let Z0:Int:=(i:Int);let Z1:Int:=(l.length:Int);let Z2:Item:=List.getD l Z0.toNat (Item.mk 0 0 0);let Z3:bV:=cj 0;let Z4:cb:=[some (Obj.var 56 (.bI Z3 (D.bI Z3 (D.bI Z3 .bN))))];bif decide (Z0<Z1)then b7 (dH Z0 Z1) (bif decide (Item.place Z2<=p)then some ((X.exit 0,[(7,D.bool true)]),[some (Obj.var 56 (.bI (cj (Item.key Z2)) (.bI (cj (Item.place Z2)) (.bI (cj (Item.value Z2)) .bN))))])else some ((X.normal,[(2,cj p),(6,D.ptr 0 []),(7,D.bool false),(12,D.sl b9.item c l),(13,cj Z1),(14,cj (c6 (Z0+1)))]),Z4))else some ((X.exit 0,[(7,D.bool false)]),Z4)):=by kernel_rfl
def KG(p:Int)(c:Bool)(l:bM)(i:Nat):RT RC:=.leaf (.exit 0) [(7,.bool (Vd p (l.drop i)).isSome)] [.var 56 (cH ((Vd p (l.drop i)).getD ⟨0,0,0⟩).key (cH ((Vd p (l.drop i)).getD ⟨0,0,0⟩).place (cH ((Vd p (l.drop i)).getD ⟨0,0,0⟩).value .bN)))]
def Jn(p:Int)(c:Bool)(l:bM)(i:Nat):Prop:=i<=l.length/\l.length<=1000
def Jo:QD RC Qhe where
 k:=1
 cM q:=N5 q.p q.c q.l q.i
 cK q:=HS q.p q.c q.l q.i
 fin q:=KG q.p q.c q.l q.i
 Inv q:=Jn q.p q.c q.l q.i
 μ q:=q.l.length-q.i
theorem Qiw p c l i(hI:Jn p c l i):c8 (Qk1 p c l i) (dj Jo ⟨p,c,l,i⟩):=by
 (rw[QrZ];delta b7 dH cj c6;conv=>zeta)
 unfold Jn at hI;obtain⟨h1,h2⟩:=hI;have c9:∀o:cX,Vd p (l.drop i)=o->(KG p c l i).val=some ((.exit 0,[(7,.bool o.isSome)]),[.var 56 (cH (o.getD ⟨0,0,0⟩).key (cH (o.getD ⟨0,0,0⟩).place (cH (o.getD ⟨0,0,0⟩).value .bN)))]):=fun o ho=>by subst ho;rfl
 by_cases cU:i<l.length
 ·have cP:=eG i (by omega)
  have eu:=ga (show i<l.length by omega)
  have et:=fL (show i<l.length by omega)
  have dh:=bw i
  simp only[cP,eu,et,dh,ag];have hd:=QrT (p:=p) cU
  by_cases q:(l.getD i ⟨0,0,0⟩).place<=p
  ·rw[ax q]at hd;rw[ab q,ag];exact Qh _ (c9 _ hd) rfl
  ·rw[aw q]at hd;rw[ad q,ah];exact Qi ⟨p,c,l,i+1⟩ ⟨cU,h2⟩ (by simp only[Jo];omega) (by simp only[Jo,KG,hd]) rfl rfl
 ·have hi:i=l.length:=by omega
  subst hi;have c1:decide ((l.length:Int)<l.length)=false:=by simp
  simp only[c1,ah];exact Qh _ (c9 none Qyt) rfl
def N6(env:bX)(os:bP):Option (Bool×Qhe):=match env,os with
 |[(2,.int .i64 p),(6,.ptr 0 []),(7,.bool false),(12,.sl .item c l),(13,.int .i64 x0),(14,.int .i64 x1)],[.var 56 (.bI (.int .i64 0) (.bI (.int .i64 0) (.bI (.int .i64 0) .bN)))]=>some (decide (x0=l.length)&&decide (x1=0)&&decide (l.length<=1000),⟨p,c,l,0⟩)
 |_,_=>none
def z5:=z4.cJ 72 2 (ey cu [.slot 6 0] [2,6,7,12,13,14] Jo N6)
theorem QyL:Qk Tryz.prog cu z5:=by
 refine QyK.cq Qb (by kernel_rfl) Jo 40 [2,6,7,12,13,14] [7] [.slot 6 0] [2,6,7,12,13,14] N6 (fun q hI=>?_) ?_
 ·obtain⟨p,c,l,i⟩:=q;refine⟨?_,?_,Qiw p c l i hI⟩
  ·simp_all[Qj,Jo,N5,HS,Jn,D.refs,Obj.refs,cV]
  ·simp_all[Jo,KG,HS,Jn,RT.cT,Qj,D.refs,Obj.refs,cV]
 ·intro env os b q cN hb;unfold N6 at cN
  split at cN
  ·cases cN;simp only[ai,aa]at hb;obtain⟨⟨rfl,rfl⟩,hl⟩:=hb;exact⟨⟨aK _,hl⟩,rfl,rfl⟩
  ·cases cN
def Qk2:bW->bO
 |[.sl .int c cs,.int .i64 key,.int .i64 p]=>some (Qd cs.length,.cG (.bI (cH ((Vd p (Ve cs key)).getD ⟨0,0,0⟩).key (cH ((Vd p (Ve cs key)).getD ⟨0,0,0⟩).place (cH ((Vd p (Ve cs key)).getD ⟨0,0,0⟩).value .bN))) (.bI (.bool (Vd p (Ve cs key)).isSome) .bN)))
 |_=>none
def Qpp(c:Bool)(cs:bQ)(key p:Int):=eO cu z5 80 72 [.sl (C:=RC) .int c cs,.int .i64 key,.int .i64 p]
theorem QyM c cs key p:Qpp c cs key p=(let Z0:=List.length (Ve cs key);let Z1:cX:=Vd p (List.drop 0 (Ve cs key));let Z2:Item:=Option.getD Z1 (Item.mk 0 0 0);b7 (Qd cs.length) (b7 (Qd Z0) (b7 (decide ((Z0:Int)=(Z0:Int))&&true&&decide (Z0<=1000)) (some (D.cG (D.bI (D.bI (cj (Item.key Z2)) (.bI (cj (Item.place Z2)) (.bI (cj (Item.value Z2)) .bN))) (.bI (D.bool (Option.isSome Z1)) .bN))))))):=by kernel_rfl
theorem QyN c cs key p(h:(Qd cs.length)=true):Qpp c cs key p=some (.cG (.bI (cH ((Vd p (Ve cs key)).getD ⟨0,0,0⟩).key (cH ((Vd p (Ve cs key)).getD ⟨0,0,0⟩).place (cH ((Vd p (Ve cs key)).getD ⟨0,0,0⟩).value .bN))) (.bI (.bool (Vd p (Ve cs key)).isSome) .bN))):=by
 (rw[QyM];delta b7 cj;conv=>zeta)
 have hr:=Qys cs key;exact Qa h (Qa (Qe (by omega)) (Qa (by simp;omega) rfl))
def z6:=z5.b8 72 Qk2
theorem QyO:Qk Tryz.prog cu z6:=QyL.cQ Qb fun args d h=>by
 unfold Qk2 at h
 split at h
 ·obtain⟨h1,rfl⟩:=ak h;exact⟨by simp[D.refs],80,QyN _ _ _ _ h1⟩
 ·cases h
open Go.Proofs
structure Qk3 where
 (c:Bool)(cs:bQ)(a:Bool)(now:bK)(b:Bool)(sure:bK)(sp:Int)(l:bM)(f0:Bool)(l0:bJ)(f1:Bool)(l1:bJ)(f2:Bool)(l2:bJ)(c0 c1 c2:Int)(k:Nat)
def OQ(c:Bool)(cs:bQ)(a:Bool)(now:bK)(b:Bool)(sure:bK)(sp:Int)(l:bM)(f0:Bool)(l0:bJ)(f1:Bool)(l1:bJ)(f2:Bool)(l2:bJ)(c0 c1 c2:Int)(k:Nat):bX:=[(1,.ptr 0 []),(2,.ptr 1 []),(18,.int .i64 (k:Int))]
def Ck(c:Bool)(cs:bQ)(a:Bool)(now:bK)(b:Bool)(sure:bK)(sp:Int)(l:bM)(f0:Bool)(l0:bJ)(f1:Bool)(l1:bJ)(f2:Bool)(l2:bJ)(c0 c1 c2:Int)(k:Nat):bP:=[.var 41 (cL .int c cs (.bI (cL .bR a now (cL .bR b sure .bN)) .bN)),.var 34 (cH sp (.bI (.vs 2 (l.length)) (.bI (cL .line f0 l0 (cL .line f1 l1 (cL .line f2 l2 .bN))) (.bI (.arr (C:=RC) .int 3 [c0,c1,c2]) .bN)))),.vec .item true l]
def Qpq c cs a now b sure sp l f0 l0 f1 l1 f2 l2 c0 c1 c2 k:=dQ cu z6 26 5 60 3 [1,2,18] [] [.slot 1 0,.slot 2 0,.path 1 [1]] (OQ c cs a now b sure sp l f0 l0 f1 l1 f2 l2 c0 c1 c2 k) (Ck c cs a now b sure sp l f0 l0 f1 l1 f2 l2 c0 c1 c2 k)
theorem QyP c cs a now b sure sp l f0 l0 f1 l1 f2 l2 c0 c1 c2 k:Qpq c cs a now b sure sp l f0 l0 f1 l1 f2 l2 c0 c1 c2 k=(let Z0:Int:=(k:Int);let Z1:=l.length;let Z2:Item:=Option.getD (Vd sp (Ve cs Z0)) (Item.mk 0 0 0);let Z3:bM:=[Item.mk (Item.key Z2) (Item.place Z2) (Item.value Z2)];let Z4:X×bX:=(X.normal,[(1,D.ptr 0 []),(2,D.ptr 1 []),(18,cj (c6 (Z0+1)))]);let Z5:cf:=some (Obj.var 41 (.bI (D.sl b9.int c cs) (.bI (D.bI (D.sl b9.bR a now) (.bI (D.sl b9.bR b sure) .bN)) .bN)));let Z6:bV:=D.bI (D.bI (D.sl b9.line f0 l0) (.bI (D.sl b9.line f1 l1) (.bI (D.sl b9.line f2 l2) .bN))) (.bI (D.arr b9.int 3 [c0,c1,c2]) .bN);let Z7:cb:=[Z5,some (Obj.var 34 (.bI (cj sp) (.bI (D.vs 2 Z1) Z6))),some (Obj.vec b9.item true l)];bif decide (Z0<24)then b7 (Qd cs.length) (bif Option.isSome (Vd sp (Ve cs Z0))then b7 (Nat.beq Z1 Z1&&Qg (Z1+Z3.length) 24) (some (Z4,[Z5,some (Obj.var 34 (.bI (cj sp) (.bI (D.vs 2 (Z1+Z3.length)) Z6))),some (Obj.vec b9.item true (l++Z3))]))else some (Z4,Z7))else some ((X.exit 0,[]),Z7)):=by kernel_rfl
def Yk(c:Bool)(cs:bQ)(a:Bool)(now:bK)(b:Bool)(sure:bK)(sp:Int)(l:bM)(f0:Bool)(l0:bJ)(f1:Bool)(l1:bJ)(f2:Bool)(l2:bJ)(c0 c1 c2:Int)(k:Nat):RT RC:=.leaf (.exit 0) [] (Ck c cs a now b sure sp (l++uD cs sp (24-k) k) f0 l0 f1 l1 f2 l2 c0 c1 c2 k)
def Vg(c:Bool)(cs:bQ)(a:Bool)(now:bK)(b:Bool)(sure:bK)(sp:Int)(l:bM)(f0:Bool)(l0:bJ)(f1:Bool)(l1:bJ)(f2:Bool)(l2:bJ)(c0 c1 c2:Int)(k:Nat):Prop:=k<=24/\Qd cs.length=true/\l.length<=k
def KH:QD RC Qk3 where
 k:=3
 cM q:=OQ q.c q.cs q.a q.now q.b q.sure q.sp q.l q.f0 q.l0 q.f1 q.l1 q.f2 q.l2 q.c0 q.c1 q.c2 q.k
 cK q:=Ck q.c q.cs q.a q.now q.b q.sure q.sp q.l q.f0 q.l0 q.f1 q.l1 q.f2 q.l2 q.c0 q.c1 q.c2 q.k
 fin q:=Yk q.c q.cs q.a q.now q.b q.sure q.sp q.l q.f0 q.l0 q.f1 q.l1 q.f2 q.l2 q.c0 q.c1 q.c2 q.k
 Inv q:=Vg q.c q.cs q.a q.now q.b q.sure q.sp q.l q.f0 q.l0 q.f1 q.l1 q.f2 q.l2 q.c0 q.c1 q.c2 q.k
 μ q:=24-q.k
theorem Qk4 c cs a now b sure sp l f0 l0 f1 l1 f2 l2 c0 c1 c2 k(hI:Vg c cs a now b sure sp l f0 l0 f1 l1 f2 l2 c0 c1 c2 k):c8 (Qpq c cs a now b sure sp l f0 l0 f1 l1 f2 l2 c0 c1 c2 k) (dj KH ⟨c,cs,a,now,b,sure,sp,l,f0,l0,f1,l1,f2,l2,c0,c1,c2,k⟩):=by
 (rw[QyP];delta b7 cj c6;conv=>zeta)
 unfold Vg at hI;obtain⟨hk,hc,hl⟩:=hI;have c9:∀L:bM,l++uD cs sp (24-k) k=L->(Yk c cs a now b sure sp l f0 l0 f1 l1 f2 l2 c0 c1 c2 k).val=some ((.exit 0,[]),Ck c cs a now b sure sp L f0 l0 f1 l1 f2 l2 c0 c1 c2 k):=fun L h=>by subst h;rfl
 by_cases xg:k<24
 ·obtain⟨m,hm⟩:∃m,24-k=m+1:=⟨23-k,by omega⟩;have rT:24-(k+1)=m:=by omega
  have w1:=eG k (by omega)
  have d1:decide ((k:Int)<24)=true:=ab (by omega);have hb:∀n:Nat,Nat.beq n n=true:=fun n=>by simp
  have lX:∀x:Item,Item.mk x.key x.place x.value=x:=fun _=>rfl;rw[hm,QrU]at c9;simp only[d1,w1,hc,lX,ag];cases ho:Vd sp (Ve cs (k:Int))with
  |none=>
   rw[ho]at c9;simp only[Option.isSome_none,ah];refine Qi (S:=KH) (s:=⟨c,cs,a,now,b,sure,sp,l,f0,l0,f1,l1,f2,l2,c0,c1,c2,k⟩) ⟨c,cs,a,now,b,sure,sp,l,f0,l0,f1,l1,f2,l2,c0,c1,c2,k+1⟩ (show Vg c cs a now b sure sp l f0 l0 f1 l1 f2 l2 c0 c1 c2 (k+1)from⟨xg,hc,by omega⟩) (show 24-(k+1)<24-k by omega) ?_ rfl rfl;show(Yk c cs a now b sure sp l f0 l0 f1 l1 f2 l2 c0 c1 c2 (k+1)).val=(Yk c cs a now b sure sp l f0 l0 f1 l1 f2 l2 c0 c1 c2 k).val;rw[c9 _ rfl];unfold Yk;rw[rT];rfl
  |some x=>
   rw[ho]at c9;have e1:l.length+([x]:bM).length=(l++[x]).length:=by simp
   have s1:Qg (l++[x]).length 24=true:=by simp[Qg];omega
   simp only[Option.isSome_some,ba,e1,s1,hb,au,ag];refine Qi (S:=KH) (s:=⟨c,cs,a,now,b,sure,sp,l,f0,l0,f1,l1,f2,l2,c0,c1,c2,k⟩) ⟨c,cs,a,now,b,sure,sp,l++[x],f0,l0,f1,l1,f2,l2,c0,c1,c2,k+1⟩ (show Vg c cs a now b sure sp (l++[x]) f0 l0 f1 l1 f2 l2 c0 c1 c2 (k+1)from⟨xg,hc,by simp;omega⟩) (show 24-(k+1)<24-k by omega) ?_ rfl rfl;show(Yk c cs a now b sure sp (l++[x]) f0 l0 f1 l1 f2 l2 c0 c1 c2 (k+1)).val=(Yk c cs a now b sure sp l f0 l0 f1 l1 f2 l2 c0 c1 c2 k).val;rw[c9 (l++[x]++uD cs sp m (k+1)) (by simp)];unfold Yk;rw[rT];rfl
 ·have d1:decide ((k:Int)<24)=false:=ad (by omega);rw[d1,ah];have e:24-k=0:=by omega
  rw[e]at c9;exact Qh _ (c9 l (by show l++[]=l;simp)) rfl
def OR(env:bX)(os:bP):Option (Bool×Qk3):=match env,os with
 |[(1,.ptr 0 []),(2,.ptr 1 []),(18,.int .i64 x0)],[.var 41 (.bI (.sl .int c cs) (.bI (.bI (.sl .bR a now) (.bI (.sl .bR b sure) .bN)) .bN)),.var 34 (.bI (.int .i64 sp) (.bI (.vs 2 x1) (.bI (.bI (.sl .line f0 l0) (.bI (.sl .line f1 l1) (.bI (.sl .line f2 l2) .bN))) (.bI (.arr .int 3 [c0,c1,c2]) .bN)))),.vec .item true l]=>some (decide (x0=0)&&decide (x1=l.length)&&Qd cs.length&&l.isEmpty,⟨c,cs,a,now,b,sure,sp,l,f0,l0,f1,l1,f2,l2,c0,c1,c2,0⟩)
 |_,_=>none
def z7:=z6.cJ 26 5 (ey cu [.slot 1 0,.slot 2 0,.path 1 [1]] [1,2,18] KH OR)
theorem QyQ:Qk Tryz.prog cu z7:=by
 refine QyO.cq Qb (by kernel_rfl) KH 60 [1,2,18] [] [.slot 1 0,.slot 2 0,.path 1 [1]] [1,2,18] OR (fun q hI=>?_) ?_
 ·obtain⟨c,cs,a,now,b,sure,sp,l,f0,l0,f1,l1,f2,l2,c0,c1,c2,k⟩:=q;refine⟨?_,?_,Qk4 c cs a now b sure sp l f0 l0 f1 l1 f2 l2 c0 c1 c2 k hI⟩
  ·simp_all[Qj,KH,OQ,Ck,Vg,D.refs,Obj.refs,cV]
  ·simp_all[KH,Yk,Ck,Vg,RT.cT,Qj,D.refs,Obj.refs,cV]
 ·intro env os b q cN hb;unfold OR at cN
  split at cN
  ·cases cN;simp only[ai,aa]at hb;obtain⟨⟨⟨h1,h2⟩,hA⟩,hl⟩:=hb;have hl:=List.isEmpty_iff.1 hl;subst h1;subst h2;subst hl;exact⟨⟨aK _,hA,aK _⟩,rfl,rfl⟩
  ·cases cN
def Qk5:bW->bO
 |[.bI (.sl .int c cs) (.bI (.bI (.sl .bR a now) (.bI (.sl .bR b sure) .bN)) .bN)]=>some (Qd cs.length&&lx cs,.cG (.bI (qN (vp cs)) (cH (vq cs) .bN)))
 |_=>none
def Qps(c:Bool)(cs:bQ)(a:Bool)(now:bK)(b:Bool)(sure:bK):=ky cu z7 120 26 [.bI (.sl (C:=RC) .int c cs) (.bI (cL .bR a now (cL .bR b sure .bN)) .bN)]
theorem QyR c cs a now b sure:Qps c cs a now b sure=(let Z0:=Qd cs.length;let Z1:Int:=(cs.length:Int);let Z2:bV:=cj 0;let Z3:bV:=D.sl b9.line false [];let Z4:bV:=.bN;let Z5:Bool:=Z0&&lx cs;let Z6:=List.getD cs 0 0;let Z7:bM:=[]++uD cs Z6 24 0;let Z8:fI:=none;bif Z0 then bif Z1 !=771 then some (D.cG (D.bI (D.bI Z2 (D.bI (D.sl b9.item false []) (.bI (D.bI Z3 (D.bI Z3 (D.bI Z3 Z4))) (.bI (D.arr b9.int 3 (List.replicate 3 0)) Z4)))) (.bI (cj 2) Z4)))else bif decide ((0:Int)<=0/\(0:Int)<Z1)then bif Z0&&true then bif Z5 then bif decide ((0:Int)<=48/\(48:Int)<Z1)then bif Z5 then bif decide ((0:Int)<=49/\(49:Int)<Z1)then bif Z5 then bif decide ((0:Int)<=50/\(50:Int)<Z1)then bif Nat.beq Z7.length Z7.length then some (D.cG (D.bI (D.bI (cj Z6) (.bI (D.sl b9.item false Z7) (.bI (D.bI (D.sl b9.line false (VG cs 0)) (.bI (D.sl b9.line false (VG cs 1)) (.bI (D.sl b9.line false (VG cs 2)) Z4))) (.bI (D.arr b9.int 3 [List.getD cs 48 0,List.getD cs 49 0,List.getD cs 50 0]) Z4)))) (.bI Z2 Z4)))else Z8 else Z8 else Z8 else Z8 else Z8 else Z8 else Z8 else Z8 else Z8 else Z8):=by kernel_rfl
theorem QyS c cs a now b sure(h:(Qd cs.length&&lx cs)=true):Qps c cs a now b sure=some (.cG (.bI (qN (vp cs)) (cH (vq cs) .bN))):=by
 (rw[QyR];delta cj;conv=>zeta)
 have hh:=h;rw[ai]at hh;refine Qa hh.1 ?_
 by_cases hl:cs.length=771
 ·have z:∀n:Int,0<=n->n<771->decide (0<=n/\n<(cs.length:Int))=true:=fun n h0 h1=>ab ⟨h0,by omega⟩;simp only[vp,vq,ab hl,ag];exact Qq (by rw[hl];rfl) (Qa (z 0 (by decide) (by decide)) (Qa (eK hh.1 rfl) (Qa h (Qa (z 48 (by decide) (by decide)) (Qa h (Qa (z 49 (by decide) (by decide)) (Qa h (Qa (z 50 (by decide) (by decide)) (Qa (Zp rfl) rfl)))))))))
 ·simp only[vp,vq,ad hl,ah];exact Qa (by simp;omega) rfl
def z8:=z7.b8 26 Qk5
theorem QyT:Qk Tryz.prog cu z8:=QyQ.iv Qb fun args d h=>by
 unfold Qk5 at h
 split at h
 ·obtain⟨h1,rfl⟩:=ak h;exact⟨by simp[D.refs,qN],120,QyS _ _ _ _ _ _ h1⟩
 ·cases h
def ZJ(l:bM)(k:Int):cX:=l.find? fun x=>decide (x.key=k)
def pQ(l:bM):Prop:=l.Pairwise fun x y=>x.key<y.key
theorem OS(y:Item):jJ [] y=[y]:=rfl
theorem N7(x:Item)(l:bM)(y:Item):jJ (x::l) y=if x.key<y.key then x::jJ l y else if x.key=y.key then y::l else y::x::l:=by
 by_cases h:x.key<y.key
 ·rw[ax h];simp only[jJ,ir,CZ,ax h,List.take_succ_cons,List.drop_succ_cons,aP]
 ·rw[aw h];simp only[jJ,ir,CZ,aw h,List.take_zero,bG,aH]
  by_cases h2:x.key=y.key
  ·rw[ax h2,ax h2]
  ·rw[aw h2,aw h2]
theorem pK{l:bM}{y z:Item}(h:z∈jJ l y):z=y\/z∈l:=by
 induction l with
 |nil=>rw[OS]at h;simp at h;exact .inl h
 |cons x l ih=>
  rw[N7]at h
  split at h
  ·rcases aZ.1 h with rfl|h
   ·exact .inr (aV ..)
   ·rcases ih h with h|h
    ·exact .inl h
    ·exact .inr (aS _ h)
  ·split at h
   ·rcases aZ.1 h with h|h
    ·exact .inl h
    ·exact .inr (aS _ h)
   ·rcases aZ.1 h with h|h
    ·exact .inl h
    ·exact .inr h
theorem Qk6{l:bM}{y:Item}(h:pQ l):pQ (jJ l y):=by
 induction l with
 |nil=>rw[OS];exact List.pairwise_singleton _ _
 |cons x l ih=>
  obtain⟨h1,h2⟩:=List.pairwise_cons.1 h;rw[N7]
  split
  ·rename_i cU;refine List.pairwise_cons.2 ⟨fun z hz=>?_,ih h2⟩;rcases pK hz with rfl|hz
   ·exact cU
   ·exact h1 z hz
  ·rename_i hn
   split
   ·rename_i he;exact List.pairwise_cons.2 ⟨fun z hz=>by have:=h1 z hz;omega,h2⟩
   ·rename_i he;refine List.pairwise_cons.2 ⟨fun z hz=>?_,h⟩;rcases aZ.1 hz with rfl|hz
    ·omega
    ·have:=h1 z hz;omega
theorem QyU{l:bM}{y:Item}(h:pQ l)(k:Int):ZJ (jJ l y) k=if k=y.key then some y else ZJ l k:=by
 induction l with
 |nil=>
  rw[OS];unfold ZJ;rw[List.find?_cons]
  by_cases hk:k=y.key
  ·rw[ax hk,ab hk.symm]
  ·rw[aw hk,ad (fun e=>hk e.symm)]
 |cons x l ih=>
  obtain⟨h1,h2⟩:=List.pairwise_cons.1 h;have ih:=ih h2;rw[N7];unfold ZJ at ih ⊢
  split
  ·rename_i cU;rw[List.find?_cons,List.find?_cons,ih]
   by_cases hk:k=y.key
   ·rw[ax hk,ad (by omega)];simp[hk]
   ·rw[aw hk,aw hk]
  ·rename_i hn
   split
   ·rename_i he;rw[List.find?_cons,List.find?_cons]
    by_cases hk:k=y.key
    ·rw[ax hk,ab hk.symm]
    ·rw[aw hk,ad (fun e=>hk e.symm),ad (by omega)]
   ·rename_i he;rw[List.find?_cons]
    by_cases hk:k=y.key
    ·rw[ax hk,ab hk.symm]
    ·rw[aw hk,ad (fun e=>hk e.symm)]
theorem Qhf(p:Int):∀{ws:ca} {l:bM},pQ l->pQ (pj p l ws)
 |[],l,h=>h
 |w::ws,l,h=>by
  have:pj p l (w::ws)=pj p (jJ l ⟨w.key,p,w.value⟩) ws:=rfl;rw[this];exact Qhf p (Qk6 h)
def qU(ws:ca)(k:Int):Option Qo:=ws.reverse.find? fun w=>decide (w.key=k)
theorem Qhg(p k:Int):∀{ws:ca} {l:bM},pQ l->ZJ (pj p l ws) k=match qU ws k with|some w=>some ⟨k,p,w.value⟩|none=>ZJ l k
 |[],l,h=>rfl
 |w::ws,l,h=>by
  have e:pj p l (w::ws)=pj p (jJ l ⟨w.key,p,w.value⟩) ws:=rfl;rw[e,Qhg p k (Qk6 h),QyU h];unfold qU;rw[List.reverse_cons,List.find?_append];cases ws.reverse.find? (fun w=>decide (w.key=k))with
  |some v=>rfl
  |none=>
   simp only[Option.none_or,List.find?_cons,List.find?_nil]
   by_cases hk:w.key=k
   ·rw[ab hk,ax hk.symm];simp[hk]
   ·rw[ad hk,aw (fun e=>hk e.symm)]
theorem Qr0{s:St}{r:Rec}(h:pQ s.items):pQ (ZB s r).items:=by
 unfold ZB;cases r.yes
 ·exact h
 ·exact Qhf _ h
theorem Qr1{s:St}{r:Rec}(hr:dW r=true)(h:pQ s.items)(k:Int):ZJ (ZB s r).items k=match qU r.writes k with|some w=>some ⟨k,r.place,w.value⟩|none=>ZJ s.items k:=by
 unfold ZB;cases hy:r.yes
 ·have hw:r.writes=[]:=by
   simp only[dW,hy,Bool.false_or,ai,List.isEmpty_iff]at hr;exact hr.2
  rw[hw];rfl
 ·exact Qhg _ _ h
theorem QmM(s:St)(r:Rec):(ZB s r).place=r.place:=by unfold ZB;cases r.yes<;>rfl
theorem Qk7:∀{l:bS} {s:St},pQ s.items->pQ (l.foldl ZB s).items
 |[],s,h=>h
 |r::l,s,h=>Qk7 (l:=l) (Qr0 h)
theorem Qr2{l:bS}{s:St}(r:Rec):((l++[r]).foldl ZB s).place=r.place:=by
 rw[List.foldl_append];exact QmM _ _
def dz:Rec:=⟨0,false,[]⟩
def kq(d:bK)(r:Rec):bK:=d.set (ej r.place).toNat ⟨r.place,fD r⟩
def jx(l:bS):bK:=l.foldl kq QX
def fV(l:bS):Prop:=∀i,i<l.length->(l.getD i dz).place=(i:Int)+1/\dW (l.getD i dz)=true
theorem ku l(r:Rec):jx (l++[r])=kq (jx l) r:=by simp[jx]
theorem YY{l:bS}(h:fV l)(n:Nat):fV (l.take n):=by
 intro i hi;rw[bp]at hi
 have:(l.take n).getD i dz=l.getD i dz:=by
  simp only[ar];rw[List.getElem?_take_of_lt (by omega)]
 rw[this];exact h i (by omega)
theorem Vo{p:bS->Prop}(h0:p [])(h1:∀l r,p l->p (l++[r]))(l:bS):p l:=by
 have:∀n (l:bS),l.length=n->p l:=by
  intro n
  induction n with
  |zero=>intro l hl;rw[List.length_eq_zero_iff.1 hl];exact h0
  |succ n ih=>
   intro l hl;have fg:l≠[]:=by intro e;subst e;simp at hl
   rw[<-List.dropLast_concat_getLast fg];exact h1 _ _ (ih _ (by simp[hl]))
 exact this _ l rfl
theorem Cl l:(jx l).length=33:=by
 refine Vo (p:=fun l=>(jx l).length=33) rfl (fun l r h=>?_) l;rw[ku,kq,bf,h]
theorem Vp{l:bS}{r:Rec}(h:fV (l++[r])):fV l/\r.place=(l.length:Int)+1/\dW r=true:=by
 refine⟨?_,?_⟩
 ·have:=YY h l.length
  simpa using this
 ·have:=h l.length (by simp)
  simpa[ar]using this
theorem lQ{d:bK}{k:Nat}(x:cE)(hk:k<d.length)(j:Nat):(d.set k x).getD j cW=if j=k then x else d.getD j cW:=by
 by_cases e:j=k
 ·subst e;simp[hk]
 ·rw[aw e];simp only[ar];rw[List.getElem?_set_ne (fun q=>e q.symm)]
def jy(p:Nat):Nat:=p%32
theorem Ej(p:Nat):ej (p:Int)=(jy p:Int)/\(ej (p:Int)).toNat=jy p:=by
 unfold ej jy;rw[aw (by omega)];omega
structure uN(l:bS):Prop where
 top:∀p:Nat,1<=p->p<=l.length->l.length<p+32->(jx l).getD (jy p) cW=⟨(p:Int),fD (l.getD (p-1) dz)⟩
 up:∀p:Nat,1<=p->p<=l.length->(p:Int)<=((jx l).getD (jy p) cW).n
 all:∀j,(jx l).getD j cW=cW\/∃p:Nat,1<=p/\p<=l.length/\(jx l).getD j cW=⟨(p:Int),fD (l.getD (p-1) dz)⟩
theorem tI{l:bS}:fV l->uN l:=by
 refine Vo (p:=fun l=>fV l->uN l) (fun _=>⟨fun p h1 h2=>by simp at h2;omega,fun p h1 h2=>by simp at h2;omega,fun j=>.inl ?_⟩) (fun l r ih h=>?_) l
 ·show(List.replicate 33 cW).getD j cW=cW;simp only[ar,List.getElem?_replicate]
  split<;>rfl
 ·obtain⟨h1,hp,hm⟩:=Vp h;have ih:=ih h1;have hk:(ej r.place).toNat=jy (l.length+1):=by rw[hp];exact(Ej (l.length+1)).2
  have uH:jy (l.length+1)<(jx l).length:=by rw[Cl];unfold jy;omega
  have iw:∀j,(jx (l++[r])).getD j cW=if j=jy (l.length+1)then⟨r.place,fD r⟩else(jx l).getD j cW:=by
   intro j;rw[ku,kq,hk];exact lQ _ uH j
  have hold:∀p:Nat,1<=p->p<=l.length->(l++[r]).getD (p-1) dz=l.getD (p-1) dz:=by
   intro p q1 q2;simp only[ar];rw[List.getElem?_append_left (by omega)]
  have rV:(l++[r]).getD (l.length+1-1) dz=r:=by simp[ar]
  have hlen:(l++[r]).length=l.length+1:=by simp
  refine⟨fun p q1 q2 q3=>?_,fun p q1 q2=>?_,fun j=>?_⟩
  ·rw[iw]
   by_cases e:p=l.length+1
   ·subst e;rw[ax rfl,rV,hp];simp
   ·have fg:jy p≠jy (l.length+1):=by unfold jy;omega
    rw[aw fg,hold p q1 (by omega)];exact ih.top p q1 (by omega) (by omega)
  ·rw[iw]
   split
   ·show(p:Int)<=r.place;rw[hp];omega
   ·rename_i fg;exact ih.up p q1 (by have:p≠l.length+1:=fun e=>fg (by rw[e]);omega)
  ·rw[iw]
   split
   ·exact .inr ⟨l.length+1,by omega,by omega,by rw[rV,hp];simp⟩
   ·rcases ih.all j with q|⟨p,q1,q2,q3⟩
    ·exact .inl q
    ·exact .inr ⟨p,q1,by omega,by rw[q3,hold p q1 q2]⟩
theorem IL{r:Rec}(h:dW r=true):fD r=YJ r.place (VL r)/\okF r.place (VL r)=true/\(fD r).length<=25/\fD r≠[]:=by
 have h1:=XJ h;have h2:=(Vw (p:=r.place) (y:=r.yes) (l:=r.writes) h).1;have e:fD r=YJ r.place (VL r):=by simp only[fD,h,ag]
 refine⟨e,?_,?_,?_⟩
 ·simp only[okF,ai,aa];omega
 ·rw[e,VV];omega
 ·rw[e];intro q;have:=ap List.length q;rw[VV]at this;simp at this
theorem uN.zq{l:bS}(h:uN l)(j:Nat):0<=((jx l).getD j cW).n/\((jx l).getD j cW).n<=l.length:=by
 rcases h.all j with q|⟨p,q1,q2,q3⟩
 ·rw[q];simp[cW]
 ·rw[q3];simp only;omega
theorem Qpt{l:bS}(h:fV l)(hl:l.length<=1000):Yu (jx l)=true:=by
 refine On (Cl l) fun s hs=>?_;obtain⟨j,hj,rfl⟩:=Qoh hs;rcases(tI h).all j with q|⟨p,q1,q2,q3⟩
 ·rw[q];rfl
 ·rw[q3];have:=(IL (h (p-1) (by omega)).2).2.2.1;simp only[Q8,ai,aa,Bool.or_eq_true];exact⟨⟨⟨by omega,by omega⟩,by omega⟩,.inl (by omega)⟩
theorem Qk8{l:bS}(h:fV l)(hl:l.length<=1000){s:Nat}(hs:s<=l.length)(kJ:l.length<=s+1):Ql (jx l) (jx (l.take s))=true:=by
 have r1:=Qpt h hl;have r2:=Qpt (YY h s) (by rw[bp];omega);simp only[Ql,r1,r2,Bool.true_and];rw[EU (by rw[Cl,Cl])];intro i hi
 by_cases e:s=l.length
 ·rw[e,List.take_length];exact Int.le_refl _
 ·have fg:l≠[]:=by intro q;subst q;simp at e hs;omega
  obtain⟨l',r,rfl⟩:∃l' r,l=l'++[r]:=⟨_,_,(List.dropLast_concat_getLast fg).symm⟩;simp only[aC,List.length_singleton]at *;have e1:s=l'.length:=by omega
  subst e1;obtain⟨h1,hp,hm⟩:=Vp h;rw[List.take_left',ku,kq]
  ·have hk:(ej r.place).toNat=jy (l'.length+1):=by rw[hp];exact(Ej (l'.length+1)).2
   have uH:jy (l'.length+1)<(jx l').length:=by rw[Cl];unfold jy;omega
   rw[hk,lQ _ uH];have:=((tI h1).zq i).2
   split
   ·simp only;omega
   ·exact Int.le_refl _
  ·rfl
theorem QIg{l:bS}(h:fV l)(hl:l.length<=1000){sure:bK}(hd:Ql (jx l) sure=true){i:Nat}(hi:i<l.length)(hw:l.length<=i+32):kH (jx l) sure ((i:Int)+1)=some (l.getD i dz):=by
 obtain⟨hp,hm⟩:=h i hi;obtain⟨e1,e2,e3,e4⟩:=IL hm;have hs:(ej ((i:Int)+1)).toNat=jy (i+1):=(Ej (i+1)).2;have ht:=(tI h).top (i+1) (by omega) (by omega) (by omega);simp only[Nat.add_sub_cancel]at ht;unfold kH;rw[ax ⟨hd,by omega,by omega⟩,hs,ht];generalize l.getD i dz=r at *;unfold FE;rw[ax (by simp)];have hn:((i+1:Nat):Int)=r.place:=by omega
 rw[hn,e1,Qj2 e2];simp only[Option.bind_some,Qvq hm];rw[ax (by omega)]
structure lH(now:bK)(l:bS):Prop where
 seq:fV l
 le:l.length<=1000
 eq:∀j,j<32->now.getD j cW=(jx l).getD j cW
theorem QyV p:jy p<32:=by unfold jy;omega
theorem QGD{now sure:bK}{l:bS}(h:lH now l)(hd:Ql now sure=true){i:Nat}(hi:i<l.length)(hw:l.length<=i+32):kH now sure ((i:Int)+1)=some (l.getD i dz):=by
 have h0:=QIg h.seq h.le (Qk8 h.seq h.le (aq _) (by omega)) hi hw;have hs:(ej ((i:Int)+1)).toNat=jy (i+1):=(Ej (i+1)).2;have hle:=h.le;unfold kH at h0 ⊢;rw[ax ⟨Qk8 h.seq h.le (aq _) (by omega),by omega,by omega⟩]at h0;rw[ax ⟨hd,by omega,by omega⟩,hs,h.eq _ (QyV _),<-hs];exact h0
theorem Qk9{now sure:bK}{l:bS}(h:lH now l){b:Nat}(hb:l.length<=b):kH now sure ((b:Int)+1)=none:=by
 unfold kH
 split
 ·have hs:(ej ((b:Int)+1)).toNat=jy (b+1):=(Ej (b+1)).2;have:=((tI h.seq).zq (jy (b+1))).2;unfold FE;rw[hs,h.eq _ (QyV _),aw (by omega)]
 ·rfl
theorem Qla{now sure:bK}{l:bS}(h:lH now l)(hd:Ql now sure=true):∀(k i:Nat),i<=l.length->l.length<=i+k->l.length<=i+32->jV now sure k ((i:Int)+1)=l.drop i
 |0,i,h1,h2,_=>by rw[aO (by omega)];rfl
 |k+1,i,h1,h2,h3=>by
  unfold jV
  by_cases e:i<l.length
  ·rw[QGD h hd e h3];have ih:=Qla h hd k (i+1) e (by omega) (by omega);have e2:((i+1:Nat):Int)+1=(i:Int)+1+1:=by omega
   rw[e2]at ih;simp only[ih];rw[aJ e];simp[ar,e]
  ·have e2:i=l.length:=by omega
   subst e2;rw[Qk9 h (aq _)];simp
theorem Qpu{now sure:bK}{l:bS}(h:lH now l)(hd:Ql now sure=true){b:Nat}(h1:b<=l.length)(h2:l.length<=b+32):jI now sure (b:Int)=l.drop b:=by
 have hle:=h.le;have hb:decide (0<=(b:Int)/\(b:Int)<=1048575)=true:=ab (by omega);simp only[jI,hd,hb,au,ag];exact Qla h hd 32 b h1 h2 h2
theorem QCc{now sure:bK}{l:bS}(h:lH now l){b:Nat}(h1:l.length<=b):jI now sure (b:Int)=[]:=by
 unfold jI;cases Ql now sure&&decide (0<=(b:Int)/\(b:Int)<=1048575)
 ·rfl
 ·simp only[ag];show jV now sure 32 ((b:Int)+1)=[];unfold jV;rw[Qk9 h h1]
theorem QCd{now sure:bK}(h:now.getD 32 cW=cW):ef now sure=none/\jH now sure=0:=by
 have h1:ef now sure=none:=by
  unfold ef ja;cases JG now sure 32
  ·rfl
  ·simp only[ag];rw[show((32:Int)).toNat=32 from rfl,h];rfl
 exact⟨h1,by unfold jH;rw[h1];rfl⟩
theorem QyW{now sure:bK}{l:bS}(h:lH now l)(hd:Ql now sure=true)(uG:now.getD 32 cW=cW)(hl:l.length<=32):Yd now sure=l.foldl ZB ⟨0,[],[],[],[],0,0,0⟩:=by
 obtain⟨h1,h2⟩:=QCd (sure:=sure) uG;unfold Yd qf;rw[hd,h1,h2];have:=Qpu h hd (b:=0) (aK _) (by omega);simp only[ag];rw[show((0:Nat):Int)=0 from rfl]at this;rw[this,bG];rfl
theorem QGE{r:Rec}(h:dW r=true):Q8 ⟨r.place,fD r⟩=true:=by
 have h1:=(IL h).2.2.1;have h2:=(Vw (p:=r.place) (y:=r.yes) (l:=r.writes) h).1;simp only[Q8,ai,aa,Bool.or_eq_true];exact⟨⟨⟨by omega,by omega⟩,by omega⟩,.inl (by omega)⟩
theorem Qlb(j:Nat):QX.getD j cW=cW:=by
 show(List.replicate 33 cW).getD j cW=cW;simp only[ar,List.getElem?_replicate]
 split<;>rfl
theorem QyX{l:bS}(h:fV l){s:St}(hs:s.place=0):(l.foldl ZB s).place=(l.length:Int):=by
 revert h
 refine Vo (p:=fun l=>fV l->(l.foldl ZB s).place=(l.length:Int)) (fun _=>hs) (fun l r _ h=>?_) l;obtain⟨_,hp,_⟩:=Vp h;rw[Qr2,hp];simp
def jY:cg:=⟨0,0,0,0,0⟩
def pl(A:bJ)(i:Nat):Int:=(A.getD i jY).place
def kw(p q:Int):Nat->ca->bJ->bJ
 |_,[],out=>out
 |j,w::ws,out=>kw p q (j+1) ws (if w.key/8=q then out++[⟨(out.length:Int),p,j,w.key%8,w.value⟩]else out)
def fJ(q:Int):bS->bJ->bJ
 |[],out=>out
 |r::l,out=>fJ q l (kw r.place q 0 r.writes out)
theorem OE p q:∀(ws:ca) (j:Nat) (out:bJ),kw p q j ws out=out++ZG p q (out.length:Int) j ws
 |[],j,out=>by simp[kw,ZG]
 |w::ws,j,out=>by
  unfold kw ZG;rw[OE p q ws]
  split
  ·simp[Int.natCast_add]
  ·rfl
theorem VH q:∀(l:bS) (r:Rec) (out:bJ),fJ q (l++[r]) out=fJ q l out++ZG r.place q ((fJ q l out).length:Int) 0 r.writes
 |[],r,out=>by
  show kw r.place q 0 r.writes out=_;rw[OE];rfl
 |x::l,r,out=>VH q l r _
def pR(x:bJ):Int:=if 16<x.length then pl x (x.length-17)else 0
def ZX(x:bJ):bJ:=(x.drop (x.length-16)).filter fun y=>decide (pR x<y.place)
structure lG(A:bJ)(m:Int):Prop where
 mono:∀i j,i<=j->j<A.length->pl A i<=pl A j
 few:∀i,i+4<A.length->pl A i<pl A (i+4)
 off:∀i,i<A.length->(A.getD i jY).offset=(i:Int)
 kM:∀i,i<A.length->1<=pl A i/\pl A i<=m
 sO:∀x∈A,0<=x.j/\x.j<=3/\0<=x.key/\x.key<=7/\0<=x.value/\x.value<=255
theorem Qlc{r:Rec}(h:dW r=true):∀w∈r.writes,0<=w.value/\w.value<=255:=by
 intro w hw;unfold dW ZV at h;simp only[ai]at h;have:=aX.1 (Yf h.1.2.2) w hw;unfold Vu at this;simp only[ai,Qf]at this;exact this.2
theorem KJ(p q:Int):∀(ws:ca) (nx:Int) (j:Nat),(∀k,k<(ZG p q nx j ws).length->((ZG p q nx j ws).getD k jY).place=p/\((ZG p q nx j ws).getD k jY).offset=nx+(k:Int)) /\
 (∀x∈ZG p q nx j ws,(j:Int)<=x.j/\x.j<((j+ws.length:Nat):Int)/\0<=x.key/\x.key<=7/\∃w∈ws,x.value=w.value)
 |[],nx,j=>⟨fun k hk=>by simp[ZG]at hk,fun x hx=>by simp[ZG]at hx⟩
 |w::ws,nx,j=>by
  unfold ZG
  split
  ·obtain⟨h1,h2⟩:=KJ p q ws (nx+1) (j+1);refine⟨fun k hk=>?_,fun x hx=>?_⟩
   ·cases k with
    |zero=>simp
    |succ k=>
     simp only[aE]at hk;have:=h1 k (by omega);simp only[List.getD_cons_succ];exact⟨this.1,by rw[this.2];omega⟩
   ·rcases aZ.1 hx with rfl|hx
    ·refine⟨by simp,by simp;omega,?_,?_,w,aV ..,rfl⟩
     ·show 0<=w.key%8;omega
     ·show w.key%8<=7;omega
    ·obtain⟨a,b,c,d,v,hv,e⟩:=h2 x hx;exact⟨by omega,by simp only[aE];omega,c,d,v,aS _ hv,e⟩
  ·obtain⟨h1,h2⟩:=KJ p q ws nx (j+1);refine⟨h1,fun x hx=>?_⟩;obtain⟨a,b,c,d,v,hv,e⟩:=h2 x hx;exact⟨by omega,by simp only[aE];omega,c,d,v,aS _ hv,e⟩
theorem N8{A N:bJ}(i:Nat):(A++N).getD i jY=if i<A.length then A.getD i jY else N.getD (i-A.length) jY:=by
 simp only[ar]
 split
 ·rename_i h;rw[List.getElem?_append_left h]
 ·rename_i h;rw[List.getElem?_append_right (by omega)]
theorem uS{A N:bJ}(i:Nat):pl (A++N) i=if i<A.length then pl A i else pl N (i-A.length):=by
 unfold pl;rw[N8];split<;>rfl
theorem lG.nil(m:Int):lG [] m:=⟨fun i j _ h=>by simp at h,fun i h=>by simp at h,fun i h=>by simp at h,fun i h=>by simp at h,fun x h=>by cases h⟩
theorem lG.snoc{A:bJ}{m:Int}{r:Rec}(h:lG A m)(m0:0<=m)(hp:r.place=m+1)(hm:dW r=true)(q:Int):lG (A++ZG r.place q (A.length:Int) 0 r.writes) (m+1):=by
 obtain⟨n1,n2⟩:=KJ r.place q r.writes (A.length:Int) 0;have hn:=J0 r.place q r.writes (A.length:Int) 0;have h4:=JH hm;generalize ZG r.place q (A.length:Int) 0 r.writes=N at *;have hN:∀k,k<N.length->pl N k=m+1:=fun k hk=>by rw[<-hp];exact(n1 k hk).1
 refine⟨fun i j lf hj=>?_,fun i hi=>?_,fun i hi=>?_,fun i hi=>?_,fun x hx=>?_⟩
 ·rw[aC]at hj;rw[uS,uS]
  by_cases h1:j<A.length
  ·rw[ax (by omega),ax h1];exact h.mono i j lf h1
  ·rw[aw h1,hN (j-A.length) (by omega)]
   by_cases h2:i<A.length
   ·rw[ax h2];have:=(h.kM i h2).2;omega
   ·rw[aw h2,hN (i-A.length) (by omega)];exact Int.le_refl _
 ·rw[aC]at hi;rw[uS,uS]
  by_cases h1:i+4<A.length
  ·rw[ax (by omega),ax h1];exact h.few i h1
  ·rw[aw h1,hN (i+4-A.length) (by omega),ax (by omega)];have:=(h.kM i (by omega)).2;omega
 ·rw[aC]at hi;rw[N8]
  by_cases h1:i<A.length
  ·rw[ax h1];exact h.off i h1
  ·rw[aw h1,(n1 (i-A.length) (by omega)).2];omega
 ·rw[aC]at hi;rw[uS]
  by_cases h1:i<A.length
  ·rw[ax h1];have:=h.kM i h1;omega
  ·rw[aw h1,hN _ (by omega)];omega
 ·rcases aT.1 hx with hx|hx
  ·exact h.sO x hx
  ·obtain⟨a,b,c,d,w,hw,e⟩:=n2 x hx;have:=Qlc hm w hw;exact⟨by omega,by omega,c,d,by omega,by omega⟩
theorem allI{q:Int}{l:bS}:fV l->lG (fJ q l []) (l.length:Int):=by
 refine Vo (p:=fun l=>fV l->lG (fJ q l []) (l.length:Int)) (fun _=>lG.nil _) (fun l r ih h=>?_) l;obtain⟨h1,hp,hm⟩:=Vp h;rw[VH,aC];exact(ih h1).snoc (by omega) hp hm q
theorem KK q{l:bS}:fV l->(fJ q l []).length<=4*l.length:=by
 refine Vo (p:=fun l=>fV l->(fJ q l []).length<=4*l.length) (fun _=>aq _) (fun l r ih h=>?_) l;obtain⟨h1,hp,hm⟩:=Vp h;have:=ih h1;have h2:=J0 r.place q r.writes ((fJ q l []).length:Int) 0;have h3:=JH hm;rw[VH,aC,aC];simp only[List.length_singleton];omega
theorem KL{A:bJ}{c:Int}:∀(n a d:Nat),d=a+n->d<=A.length->(∀i,a<=i->i<d->¬c<pl A i)->(∀i,d<=i->i<A.length->c<pl A i)->(A.drop a).filter (fun x=>decide (c<x.place))=A.drop d
 |0,a,d,hd,hA,_,h2=>by
  have:d=a:=by omega
  subst this;rw[List.filter_eq_self];intro x hx;obtain⟨k,hk,rfl⟩:=List.getElem_of_mem hx;rw[bq]at hk;have:=h2 (d+k) (by omega) (by omega);unfold pl at this;rw[ar,aY (by omega),ba]at this;rw[List.getElem_drop];exact ab this
 |n+1,a,d,hd,hA,h1,h2=>by
  have ha:a<A.length:=by omega
  rw[aJ ha,List.filter_cons];have:=h1 a (aq _) (by omega);unfold pl at this;rw[ar,aY ha,ba]at this;rw[aw (by rw[ad this];simp)];exact KL n (a+1) d (by omega) hA (fun i q1 q2=>h1 i (by omega) q2) h2
theorem Uz{A:bJ}{c:Int}(hm:∀i j,i<=j->j<A.length->pl A i<=pl A j):∀(n a:Nat),a+n=A.length->∃d,a<=d/\d<=A.length/\(∀i,a<=i->i<d->¬c<pl A i)/\(∀i,d<=i->i<A.length->c<pl A i)
 |0,a,h=>⟨a,aq _,by omega,fun i _ _=>by omega,fun i _ _=>by omega⟩
 |n+1,a,h=>by
  by_cases q:c<pl A a
  ·exact⟨a,aq _,by omega,fun i _ _=>by omega,fun i h1 h2=>by have:=hm a i h1 h2;omega⟩
  ·obtain⟨d,d1,d2,d3,d4⟩:=Uz hm n (a+1) (by omega);refine⟨d,by omega,d2,fun i h1 h2=>?_,d4⟩
   by_cases e:i=a
   ·subst e;exact q
   ·exact d3 i (by omega) h2
structure mK(A L:bJ)(c:Int):Prop where
 ex:∃d,d<=A.length/\L=A.drop d/\(∀i,d<=i->i<A.length->c<pl A i)/\(A.length<=16->d=0/\c=0)/\(16<A.length->A.length-17<d/\∀i,A.length-17<=i->i<d->pl A i=c)
theorem mK.eq{A L:bJ}{c:Int}(h:mK A L c):L=ZX A/\c=pR A:=by
 obtain⟨d,d1,rfl,d3,d4,d5⟩:=h.ex;unfold ZX pR
 by_cases q:16<A.length
 ·rw[ax q];obtain⟨e1,e2⟩:=d5 q;rw[e2 _ (aq _) e1];refine⟨(KL (d-(A.length-16)) (A.length-16) d (by omega) d1 (fun i h1 h2=>?_) d3).symm,rfl⟩;rw[e2 i (by omega) h2];omega
 ·rw[aw q];obtain⟨rfl,rfl⟩:=d4 (by omega);exact⟨(KL 0 (A.length-16) 0 (by omega) d1 (fun i h1 h2=>by omega) d3).symm,rfl⟩
theorem mK.nil:mK [] [] 0:=⟨0,aq _,rfl,fun i _ h=>by simp at h,fun _=>⟨rfl,rfl⟩,fun h=>by simp at h⟩
theorem mK.ne{A L:bJ}{c m:Int}(hA:lG A m)(h:mK A L c)(hn:A≠[]):∃d,d<A.length/\L=A.drop d:=by
 obtain⟨d,d1,d2,d3,d4,d5⟩:=h.ex;have hl:0<A.length:=List.length_pos_iff.2 hn;refine⟨d,?_,d2⟩
 by_cases q:16<A.length
 ·obtain⟨e1,e2⟩:=d5 q
  by_cases e:d<A.length
  ·exact e
  ·have h1:=e2 (A.length-17) (aq _) e1;have h2:=e2 (A.length-17+4) (by omega) (by omega);have:=hA.few (A.length-17) (by omega);omega
 ·have:=d4 (by omega);omega
theorem HT(A:bJ)(d i:Nat):(A.drop d).getD i jY=A.getD (d+i) jY:=by
 simp only[ar,List.getElem?_drop]
theorem mK.next{A L:bJ}{c m:Int}(hA:lG A m)(h:mK A L c):uX L=(A.length:Int):=by
 by_cases hn:A=[]
 ·subst hn;obtain⟨d,d1,rfl,_⟩:=h.ex;simp[uX]
 ·obtain⟨d,d1,rfl⟩:=h.ne hA hn;unfold uX;rw[ax (by rw[bq];omega)];have:=HT A d ((A.drop d).length-1);unfold jY at this;rw[this,bq,show d+(A.length-d-1)=A.length-1 by omega];have:=hA.off (A.length-1) (by omega);unfold jY at this;rw[this];omega
theorem mK.may{A L:bJ}{c m:Int}(hA:lG A m)(h:mK A L c)(hl:A.length<4194304)(hm:m<=1048575):L.all Zb=true:=by
 obtain⟨d,d1,rfl,_⟩:=h.ex;rw[aX];intro x hx;have hx:=List.mem_of_mem_drop hx;obtain⟨k,hk,e⟩:=List.getElem_of_mem hx;have h1:=hA.off k hk;have h2:=hA.kM k hk;have h3:=hA.sO x hx;unfold pl at h2;rw[ar,aY hk,ba,e]at h1 h2;exact ab (by omega)
theorem mK.step{A L:bJ}{c m:Int}{r:Rec}(hA:lG A m)(h:mK A L c)(m0:0<=m)(hl:A.length<4194304)(hmm:m<=1048575)(hp:r.place=m+1)(hm:dW r=true)(hy:r.yes=true)(q:Int) :
 mK (A++ZG r.place q (A.length:Int) 0 r.writes) (KW L r q) (pP L c r q):=by
 have hA':=hA.snoc m0 hp hm q;have hnx:=h.next hA;have ig:(sC L r&&r.yes)=true:=by simp only[sC,h.may hA hl hmm,hm,hy,au]
 have hN:∀k,k<(ZG r.place q (A.length:Int) 0 r.writes).length->pl (ZG r.place q (A.length:Int) 0 r.writes) k=m+1:=fun k hk=>by rw[<-hp];exact((KJ r.place q r.writes (A.length:Int) 0).1 k hk).1
 unfold KW pP;simp only[ig,ag];unfold KV;rw[hnx];generalize hNd:ZG r.place q (A.length:Int) 0 r.writes=N at *;have GD:=hA.kM;have Su:=h.ne hA;obtain⟨d,d1,rfl,d3,d4,d5⟩:=h.ex;have e0:A.drop d++N=(A++N).drop d:=by rw[List.drop_append_of_le_length d1]
 have hlen:(A.drop d++N).length=(A++N).length-d:=by rw[e0,bq]
 have hAN:(A++N).length=A.length+N.length:=aC
 by_cases FR:(A.drop d++N).length<=16
 ·rw[ab FR];simp only[ag];refine⟨d,by omega,e0,fun i h1 h2=>?_,fun h1=>?_,fun h1=>?_⟩
  ·rw[uS]
   split
   ·rename_i h3;exact d3 i h1 h3
   ·rename_i h3;rw[hN _ (by omega)]
    by_cases hAe:A=[]
    ·subst hAe;have:=(d4 (by simp)).2;omega
    ·obtain⟨d',d1',e'⟩:=Su hAe
     have hd:d<A.length:=by
      have:=ap List.length e';rw[bq,bq]at this;omega
     have:=d3 d (aq _) hd;have:=(GD d hd).2;omega
  ·exact d4 (by omega)
  ·by_cases q16:16<A.length
   ·obtain⟨e1,e2⟩:=d5 q16;refine⟨by omega,fun i h2 h3=>?_⟩;rw[uS,ax (by omega)];exact e2 i (by omega) h3
   ·have:=(d4 (by omega)).1;omega
 ·rw[ad FR];simp only[ah];have hB:16<(A++N).length:=by omega
  have F6:u9 (A.drop d++N)=pl (A++N) ((A++N).length-17):=by
   unfold u9 pl;rw[e0];have:=HT (A++N) d (((A++N).drop d).length-17);unfold jY at this;rw[this,bq,show d+((A++N).length-d-17)=(A++N).length-17 by omega];rfl
  have li:Cz (A.drop d++N)=((A++N).drop ((A++N).length-16)).filter fun x=>decide (pl (A++N) ((A++N).length-17)<x.place):=by
   unfold Cz;rw[F6,hlen,e0,bD,show d+((A++N).length-d-16)=(A++N).length-16 by omega]
  rw[F6,li];obtain⟨t,t1,t2,t3,t4⟩:=Uz (A:=A++N) (c:=pl (A++N) ((A++N).length-17)) hA'.mono 16 ((A++N).length-16) (by omega);refine⟨t,t2,KL (t-((A++N).length-16)) _ t (by omega) t2 t3 t4,t4,fun h1=>by omega,fun _=>⟨by omega,fun i h1 h2=>?_⟩⟩
  by_cases e:i=(A++N).length-17
  ·rw[e]
  ·have q1:=t3 i (by omega) h2;have q2:=hA'.mono ((A++N).length-17) i h1 (by omega);omega
def yf(l:bS)(i:Nat):Bool:=dW (l.getD i dz)&&(decide (i=0)||decide ((l.getD (i-1) dz).place<(l.getD i dz).place))
def JL(l:bS):Nat->Nat->Bool
 |0,_=>true
 |n+1,i=>yf l i&&JL l n (i+1)
theorem Qpv{l:bS}(h:fV l):∀n i,i+n<=l.length->JL l n i=true
 |0,_,_=>rfl
 |n+1,i,hl=>by
  have h1:=h i (by omega);simp only[JL,yf,h1.2,Qpv h n (i+1) (by omega),Bool.true_and,Bool.and_true,Bool.or_eq_true,aa]
  by_cases e:i=0
  ·exact .inl e
  ·have h2:=h (i-1) (by omega);right;omega
def stZ:St:=⟨0,[],[],[],[],0,0,0⟩
def QP(l:bS):St:=l.foldl ZB stZ
theorem NH l(r:Rec):QP (l++[r])=ZB (QP l) r:=by
 unfold QP;rw[List.foldl_append];rfl
theorem Nl{l:bS}(h:fV l):(QP l).place=(l.length:Int):=QyX h rfl
theorem Qhh l:pQ (QP l).items:=Qk7 (l:=l) (s:=stZ) List.Pairwise.nil
def yx(key p:Int):ca->cX->cX
 |[],o=>o
 |w::ws,o=>yx key p ws (if w.key=key then some ⟨key,p,w.value⟩else o)
def atR(s key:Int):bS->cX->cX
 |[],o=>o
 |r::l,o=>if s<r.place then o else atR s key l (yx key r.place r.writes o)
theorem OF key p:∀(ws:ca) (o:cX),yx key p ws o=match qU ws key with|some w=>some ⟨key,p,w.value⟩|none=>o
 |[],o=>rfl
 |w::ws,o=>by
  unfold yx;rw[OF key p ws];unfold qU;rw[List.reverse_cons,List.find?_append];cases ws.reverse.find? (fun w=>decide (w.key=key))with
  |some v=>rfl
  |none=>
   simp only[Option.none_or,List.find?_cons,List.find?_nil]
   by_cases hk:w.key=key
   ·rw[ab hk,ax hk]
   ·rw[ad hk,aw hk]
def yw(key:Int)(l:bS)(o:cX):cX:=l.foldl (fun o r=>yx key r.place r.writes o) o
theorem Qpw{key:Int}{s:Nat}:∀{l:bS} {i:Nat} (o:cX),(∀m,m<l.length->(l.getD m dz).place=((i+m:Nat):Int)+1)->i<=s->atR (s:Int) key l o=yw key (l.take (s-i)) o
 |[],i,o,_,_=>by simp[atR,yw]
 |r::l,i,o,h,hi=>by
  have h0:=h 0 (by simp);simp only[List.getD_cons_zero,Nat.add_zero]at h0;unfold atR
  by_cases q:i<s
  ·rw[aw (by omega),show s-i=(s-(i+1))+1 by omega,List.take_succ_cons]
   exact Qpw (l:=l) (i:=i+1) _ (fun m hm=>by
    have:=h (m+1) (by simp;omega);simp only[List.getD_cons_succ]at this;rw[this];omega) q
  ·rw[ax (by omega),show s-i=0 by omega];rfl
theorem QCe{key:Int}{l:bS}:fV l->yw key l none=ZJ (QP l).items key:=by
 refine Vo (p:=fun l=>fV l->yw key l none=ZJ (QP l).items key) (fun _=>rfl) (fun l r ih h=>?_) l;obtain⟨h1,hp,hm⟩:=Vp h;have e:yw key (l++[r]) none=yx key r.place r.writes (yw key l none):=by unfold yw;rw[List.foldl_append];rfl
 rw[e,OF,NH,Qr1 hm (Qhh l),ih h1]<;>cases qU r.writes key<;>rfl
def Ye(l:bS)(s:Int):Nat->Nat->bM
 |0,_=>[]
 |n+1,k=>(atR s (k:Int) l none).toList++Ye l s n (k+1)
theorem DH{f:Int->cX}:∀(n k:Nat) (L:bM),pQ L->(∀x∈L,(k:Int)<=x.key/\x.key<((k+n:Nat):Int))->(∀j:Nat,k<=j->f (j:Int)=ZJ L (j:Int))->∀g:Nat->Nat->bM,(∀k,g 0 k=[])->(∀n k,g (n+1) k=(f (k:Int)).toList++g n (k+1))->g n k=L
 |0,k,L,hs,hk,hf,g,g0,g1=>by
  rw[g0];cases L with
  |nil=>rfl
  |cons x L=>have:=hk x (aV ..);omega
 |n+1,k,L,hs,hk,hf,g,g0,g1=>by
  rw[g1,hf k (aq _)];cases L with
  |nil=>
   have:=DH n (k+1) [] List.Pairwise.nil (fun x hx=>by cases hx) (fun j hj=>hf j (by omega)) g g0 g1;rw[this];rfl
  |cons x L=>
   obtain⟨h1,h2⟩:=List.pairwise_cons.1 hs;have hx:=hk x (aV ..)
   by_cases e:x.key=(k:Int)
   ·have e1:ZJ (x::L) (k:Int)=some x:=by unfold ZJ;rw[List.find?_cons,ab e]
    have:=DH n (k+1) L h2 (fun y hy=>by have:=h1 y hy;have:=hk y (aS _ hy);omega) (fun j hj=>by
     rw[hf j (by omega)];unfold ZJ;rw[List.find?_cons,ad (by omega)]) g g0 g1
    rw[e1,this];rfl
   ·have e1:ZJ (x::L) (k:Int)=none:=by
     unfold ZJ;rw[List.find?_eq_none];intro y hy;rcases aZ.1 hy with rfl|hy
     ·simpa using e
     ·have:=h1 y hy;simp;omega
    have:=DH n (k+1) (x::L) hs (fun y hy=>by
     have:=hk y hy;rcases aZ.1 hy with rfl|hy
     ·omega
     ·have:=h1 y hy;omega) (fun j hj=>hf j (by omega)) g g0 g1
    rw[e1,this];rfl
structure TE(it:bM)(m:Int):Prop where
 sort:pQ it
 all:∀x∈it,0<=x.key/\x.key<=23/\1<=x.place/\x.place<=m/\0<=x.value/\x.value<=255
theorem ot(p:Int):∀{ws:ca} {it:bM} {x:Item},x∈pj p it ws->x∈it\/∃w∈ws,x=⟨w.key,p,w.value⟩
 |[],it,x,h=>.inl h
 |w::ws,it,x,h=>by
  have e:pj p it (w::ws)=pj p (jJ it ⟨w.key,p,w.value⟩) ws:=rfl;rw[e]at h;rcases ot p h with h|⟨v,hv,e⟩
  ·rcases pK h with rfl|h
   ·exact .inr ⟨w,aV ..,rfl⟩
   ·exact .inl h
  ·exact .inr ⟨v,aS _ hv,e⟩
theorem SZ{l:bS}:fV l->TE (QP l).items (l.length:Int):=by
 refine Vo (p:=fun l=>fV l->TE (QP l).items (l.length:Int)) (fun _=>⟨List.Pairwise.nil,fun x h=>by cases h⟩) (fun l r ih h=>?_) l;obtain⟨h1,hp,hm⟩:=Vp h;have ih:=ih h1;refine⟨Qhh _,fun x hx=>?_⟩;rw[NH]at hx
 have hold:x∈(QP l).items->0<=x.key/\x.key<=23/\1<=x.place/\x.place<=((l++[r]).length:Int)/\0<=x.value/\x.value<=255:=fun hx=>by
  have:=ih.all x hx;simp only[aC,List.length_singleton];omega
 unfold ZB at hx;cases hy:r.yes
 ·rw[hy]at hx;exact hold hx
 ·rw[hy]at hx;rcases ot _ hx with hx|⟨w,hw,rfl⟩
  ·exact hold hx
  ·have:=QkB hm w hw;have:=Qlc hm w hw;simp only[aC,List.length_singleton];show 0<=w.key/\w.key<=23/\1<=r.place/\r.place<=_/\0<=w.value/\w.value<=255;omega
theorem Qr3{l:bS}(h:fV l){s:Nat}(hs:s<=l.length):Ye l (s:Int) 24 0=(QP (l.take s)).items:=by
 have hI:=SZ (YY h s);refine DH (f:=fun k=>atR (s:Int) k l none) 24 0 _ hI.sort (fun x hx=>by have:=hI.all x hx;omega) (fun j _=>?_) (fun n k=>Ye l (s:Int) n k) (fun _=>rfl) (fun _ _=>rfl);show atR (s:Int) (j:Int) l none=_;rw[Qpw (i:=0) none (fun m hm=>by rw[aN];exact(h m hm).1) (aK _),Nat.sub_zero,QCe (YY h s)]
def cA(l:bS)(a b q:Int):bJ:=(fJ q l []).filter fun x=>decide (a<x.place)&&decide (x.place<=b)
theorem NI{q:Int}{s:Nat}{l:bS}:fV l->s<=l.length->cA l 0 (s:Int) q=fJ q (l.take s) []:=by
 refine Vo (p:=fun l=>fV l->s<=l.length->cA l 0 (s:Int) q=fJ q (l.take s) []) (fun _ _=>by simp[cA,fJ]) (fun l r ih h hs=>?_) l;obtain⟨h1,hp,hm⟩:=Vp h
 by_cases e:s<=l.length
 ·rw[List.take_append_of_le_length e,<-ih h1 e];unfold cA;rw[VH,List.filter_append];have hn:=(KJ r.place q r.writes ((fJ q l []).length:Int) 0).1
  have:(ZG r.place q ((fJ q l []).length:Int) 0 r.writes).filter (fun x=>decide (0<x.place)&&decide (x.place<=(s:Int)))=[]:=by
   rw[List.filter_eq_nil_iff];intro x hx;obtain⟨k,hk,e1⟩:=List.getElem_of_mem hx;have:=(hn k hk).1;rw[ar,aY hk,ba,e1]at this;simp;omega
  rw[this,aR]
 ·have e2:s=(l++[r]).length:=by simp only[aC,List.length_singleton]at hs ⊢;omega
  rw[e2,List.take_length];unfold cA;rw[List.filter_eq_self];intro x hx;have hA:=allI (q:=q) h;obtain⟨k,hk,e1⟩:=List.getElem_of_mem hx;have:=hA.kM k hk;unfold pl at this;rw[ar,aY hk,ba,e1,aC,List.length_singleton]at this;simp;omega
theorem QCf{r:Rec}(hm:dW r=true)(hy:r.yes=false):r.writes=[]:=by
 simp only[dW,hy,Bool.false_or,ai,List.isEmpty_iff]at hm;exact hm.2
theorem S5{l:bS}:fV l->l.length<=1000->mK (fJ 0 l []) (QP l).l0 (QP l).c0/\mK (fJ 1 l []) (QP l).l1 (QP l).c1/\mK (fJ 2 l []) (QP l).l2 (QP l).c2:=by
 refine Vo (p:=fun l=>fV l->l.length<=1000->mK (fJ 0 l []) (QP l).l0 (QP l).c0/\mK (fJ 1 l []) (QP l).l1 (QP l).c1/\mK (fJ 2 l []) (QP l).l2 (QP l).c2) (fun _ _=>⟨mK.nil,mK.nil,mK.nil⟩) (fun l r ih h hl=>?_) l;obtain⟨h1,hp,hm⟩:=Vp h;simp only[aC,List.length_singleton]at hl;obtain⟨i0,i1,i2⟩:=ih h1 (by omega);rw[NH,VH,VH,VH];unfold ZB;cases hy:r.yes
 ·rw[QCf hm hy];simp only[ZG,aR,ah];exact⟨i0,i1,i2⟩
 ·have a0:=KK 0 h1;have a1:=KK 1 h1;have a2:=KK 2 h1;exact⟨i0.step (allI h1) (by omega) (by omega) (by omega) hp hm hy 0,i1.step (allI h1) (by omega) (by omega) (by omega) hp hm hy 1,i2.step (allI h1) (by omega) (by omega) (by omega) hp hm hy 2⟩
def Zx(l:bS)(s:Int):St:=⟨s,Ye l s 24 0,ZX (cA l 0 s 0),ZX (cA l 0 s 1),ZX (cA l 0 s 2),pR (cA l 0 s 0),pR (cA l 0 s 1),pR (cA l 0 s 2)⟩
theorem Qhi{l:bS}(h:fV l)(hl:l.length<=1000){s:Nat}(hs:s<=l.length):Zx l (s:Int)=QP (l.take s):=by
 have hq:=YY h s;have hn:(l.take s).length=s:=by rw[bp];omega
 obtain⟨i0,i1,i2⟩:=S5 hq (by omega);have hp:=Nl hq;rw[hn]at hp;unfold Zx;rw[Qr3 h hs,NI h hs,NI h hs,NI h hs,<-i0.eq.1,<-i0.eq.2,<-i1.eq.1,<-i1.eq.2,<-i2.eq.1,<-i2.eq.2,<-hp]
theorem N9{α:Type}{one:α->Bool}{two:α->α->Bool}{l:List α}{d:α}(h1:∀i,i<l.length->one (l.getD i d)=true)(h2:∀i,i+1<l.length->two (l.getD i d) (l.getD (i+1) d)=true):∀n i,i+n=l.length->QN one two l i=true
 |0,i,h=>HH one two l i (by omega)
 |n+1,i,h=>by
  rw[Yz one two l i d (by omega),h1 i (by omega),N9 h1 h2 n (i+1) (by omega)];cases i with
  |zero=>rfl
  |succ i=>
   have:=h2 i (by omega);simp only[Nat.add_sub_cancel,this,Bool.or_true,Bool.and_true]
def jn(A:bJ)(i:Nat):Int:=(A.getD i jY).j
def xM(A:bJ):Prop:=∀i,i+1<A.length->pl A i<pl A (i+1)\/(pl A i=pl A (i+1)/\jn A i<jn A (i+1))
theorem Po(p q:Int):∀(ws:ca) (nx:Int) (j:Nat) (k:Nat),k+1<(ZG p q nx j ws).length->jn (ZG p q nx j ws) k<jn (ZG p q nx j ws) (k+1)
 |[],nx,j,k,h=>by simp[ZG]at h
 |w::ws,nx,j,k,h=>by
  unfold ZG at h ⊢
  split at h
  ·rename_i hk;rw[ax hk];obtain⟨_,h2⟩:=KJ p q ws (nx+1) (j+1);have ih:=Po p q ws (nx+1) (j+1);generalize ZG p q (nx+1) (j+1) ws=N at *;simp only[aE]at h;unfold jn at ih ⊢;cases k with
   |zero=>
    simp only[List.getD_cons_zero,List.getD_cons_succ]
    have hm:N.getD 0 jY∈N:=by
     have:N.getD 0 jY=N[0]:=by simp[show 0<N.length by omega]
     rw[this];exact bA _
    have:=(h2 _ hm).1;show(j:Int)<_;omega
   |succ k=>
    simp only[List.getD_cons_succ];exact ih k (by omega)
  ·rename_i hk;rw[aw hk];exact Po p q ws nx (j+1) k h
theorem yu{q:Int}{l:bS}:fV l->xM (fJ q l []):=by
 refine Vo (p:=fun l=>fV l->xM (fJ q l [])) (fun _ i h=>by simp[fJ]at h) (fun l r ih h=>?_) l;obtain⟨h1,hp,hm⟩:=Vp h;have ih:=ih h1;have hA:=allI (q:=q) h1;rw[VH];have n1:=(KJ r.place q r.writes ((fJ q l []).length:Int) 0).1;have n2:=Po r.place q r.writes ((fJ q l []).length:Int) 0;generalize fJ q l []=A at *;generalize ZG r.place q (A.length:Int) 0 r.writes=N at *;intro i hi;rw[aC]at hi
 have hj:∀i,jn (A++N) i=if i<A.length then jn A i else jn N (i-A.length):=fun i=>by
  unfold jn;rw[N8];split<;>rfl
 rw[uS,uS,hj,hj]
 by_cases a1:i+1<A.length
 ·rw[ax (by omega),ax a1,ax (by omega),ax a1];exact ih i a1
 ·by_cases a2:i<A.length
  ·rw[ax a2,aw a1];left;have e1:=(hA.kM i a2).2;have e2:=(n1 (i+1-A.length) (by omega)).1;unfold pl at e1 ⊢;omega
  ·rw[aw a2,aw a1,aw a2,aw a1];right;have e1:=(n1 (i-A.length) (by omega)).1;have e2:=(n1 (i+1-A.length) (by omega)).1;have e3:=n2 (i-A.length) (by omega);unfold pl;rw[show i+1-A.length=i-A.length+1 by omega]at e2 ⊢;exact⟨by omega,e3⟩
theorem Oa{A L:bJ}{c m p:Int}(hA:lG A m)(hJ:xM A)(h:mK A L c)(hm:m<=p)(m0:0<=m)(hl:A.length<=4000)(hp:p<=1048575):ZW p c L=true:=by
 have fg:=h.ne hA;obtain⟨d,d1,rfl,d3,d4,d5⟩:=h.ex;have hlen:(A.drop d).length=A.length-d:=bq
 have hL:(A.drop d).length<=16:=by
  by_cases q:16<A.length
  ·have:=(d5 q).1;omega
  ·omega
 have hc:0<=c/\c<=p:=by
  by_cases q:16<A.length
  ·obtain⟨e1,e2⟩:=d5 q;have:=e2 (A.length-17) (aq _) e1;have:=hA.kM (A.length-17) (by omega);omega
  ·have:=(d4 (by omega)).2;omega
 have hg:∀i,(A.drop d).getD i jY=A.getD (d+i) jY:=HT A d;unfold ZW;rw[ai,ai,ai];refine⟨⟨⟨Qf.2 hc,ab hL⟩,?_⟩,?_⟩
 ·rw[Bool.or_eq_true]
  by_cases e:A.drop d=[]
  ·left;rw[e];rfl
  ·right;have:0<(A.drop d).length:=List.length_pos_iff.2 e;have e1:=hg 0;unfold jY at e1;rw[e1];exact ab (d3 d (aq _) (by omega))
 ·refine N9 (d:=jY) (fun i hi=>?_) (fun i hi=>?_) (A.drop d).length 0 (by omega)
  ·rw[hg];have jl:d+i<A.length:=by omega
   have e1:=hA.off (d+i) jl;have e2:=hA.kM (d+i) jl
   have ki:A.getD (d+i) jY∈A:=by
    have:A.getD (d+i) jY=A[d+i]:=by simp[jl]
    rw[this];exact bA _
   have e3:=hA.sO _ ki;unfold pl at e2;unfold YN;simp only[ai,Qf];omega
  ·rw[hg,hg];have e1:=hA.off (d+i) (by omega);have e2:=hA.off (d+(i+1)) (by omega);have e3:=hJ (d+i) (by omega);unfold pl jn at e3;rw[show d+i+1=d+(i+1)by omega]at e3;have w:IntKind.i64.wrap ((A.getD (d+i) jY).offset+1)=(A.getD (d+i) jY).offset+1:=cC (by omega) (by omega);unfold YA;rw[w,ai,Bool.or_eq_true,ai,bi,bi,aa,aa];exact⟨by omega,e3⟩
theorem QGF{it:bM}(h:pQ it){i:Nat}(hi:i+1<it.length):(it.getD i ⟨0,0,0⟩).key<(it.getD (i+1) ⟨0,0,0⟩).key:=by
 have:=List.pairwise_iff_getElem.1 h i (i+1) (by omega) hi (by omega)
 simpa[hi,show i<it.length by omega]using this
def nU(s:St)(p:Int):St:=⟨p,s.items,s.l0,s.l1,s.l2,s.c0,s.c1,s.c2⟩
theorem KM{l:bS}(h:fV l)(hl:l.length<=1000){p:Int}(hp:(l.length:Int)<=p)(vY:p<=1048575):Qu (nU (QP l) p)=true:=by
 obtain⟨i0,i1,i2⟩:=S5 h hl;have hI:=SZ h;have a0:=KK 0 h;have a1:=KK 1 h;have a2:=KK 2 h;unfold Qu nU;simp only[ai];refine⟨⟨⟨⟨Qf.2 (by omega),?_⟩,Oa (allI h) (yu h) i0 hp (by omega) (by omega) vY⟩,Oa (allI h) (yu h) i1 hp (by omega) (by omega) vY⟩,Oa (allI h) (yu h) i2 hp (by omega) (by omega) vY⟩;refine N9 (d:=⟨0,0,0⟩) (fun i hi=>?_) (fun i hi=>ab (QGF hI.sort hi)) (QP l).items.length 0 (by omega)
 have ki:(QP l).items.getD i ⟨0,0,0⟩∈(QP l).items:=by
  have:(QP l).items.getD i ⟨0,0,0⟩=(QP l).items[i]:=by simp[hi]
  rw[this];exact bA _
 have:=hI.all _ ki;unfold Y5;simp only[ai,Qf];omega
theorem Zf{cs:bQ}{i:Nat}(v:Int)(hi:i<cs.length)(j:Nat):(cs.set i v).getD j 0=if j=i then v else cs.getD j 0:=by
 by_cases e:j=i
 ·subst e;simp[hi]
 ·rw[aw e];simp only[ar];rw[List.getElem?_set_ne (fun q=>e q.symm)]
def hm(n:Nat):Nat:=n%4*40+n/4
theorem QyY(n:Nat):Jy 4 40 (n:Int)=(hm n:Int):=by unfold Jy hm;omega
theorem M0{n:Nat}(h:n<24):hm n<160:=by unfold hm;omega
theorem Wr{n m:Nat}(h:n<24)(h2:m<24)(fg:n≠m):hm n≠hm m:=by unfold hm;omega
def GP(x:Item):Int:=x.key*256+x.value
theorem QCg{cs:bQ}{s:Nat}{x:Item}(hs:s<160)(k0:0<=x.key)(k1:x.key<=23)(v0:0<=x.value)(v1:x.value<=255):sD cs (s:Int) x=(((cs.set (291+3*s) 3).set (292+3*s) 0).set (293+3*s) (GP x)).set (21+x.key.toNat) (iN x.place (256+(s:Int))):=by
 have f:∀f:Int,0<=f->f<3->(dt 291 (s:Int) f 160 3).toNat=291+3*s+f.toNat:=fun f f0 f1=>by
  unfold dt;rw[ax ⟨by omega,by omega,f0,f1⟩];omega
 have r:(dY 21 x.key 24).toNat=21+x.key.toNat:=by unfold dY;rw[ax (by omega)];omega
 have w:IntKind.i64.wrap (IntKind.i64.wrap (x.key*256)+x.value)=GP x:=by
  have w0:IntKind.i64.wrap (x.key*256)=x.key*256:=cC (by omega) (by omega);rw[w0,cC (by omega) (by omega)];rfl
 unfold sD;rw[f 0 (by decide) (by decide),f 1 (by decide) (by decide),f 2 (by decide) (by decide),r,w];simp only[show(0:Int).toNat=0 from rfl,show(1:Int).toNat=1 from rfl,show(2:Int).toNat=2 from rfl,Nat.add_zero];rw[show 291+3*s+1=292+3*s by omega,show 291+3*s+2=293+3*s by omega]
theorem Qpx{cs:bQ}{s:Nat}{x:Item}(hl:cs.length=771)(hs:s<160)(k0:0<=x.key)(k1:x.key<=23)(v0:0<=x.value)(v1:x.value<=255)(j:Nat) :
 (sD cs (s:Int) x).getD j 0=if j=21+x.key.toNat then iN x.place (256+(s:Int))else if j=293+3*s then GP x else if j=292+3*s then 0 else if j=291+3*s then 3 else cs.getD j 0:=by
 rw[QCg hs k0 k1 v0 v1,Zf _ (by simp;omega),Zf _ (by simp;omega),Zf _ (by simp;omega),Zf _ (by omega)]
structure rz(l:bM):Prop where
 sort:pQ l
 all:∀x∈l,0<=x.key/\x.key<=23/\1<=x.place/\x.place<=1048575/\0<=x.value/\x.value<=255
theorem rz.tail{x:Item}{l:bM}(h:rz (x::l)):rz l:=⟨(List.pairwise_cons.1 h.sort).2,fun y hy=>h.all y (aS _ hy)⟩
theorem Hy:∀{l:bM} {n:Nat} {cs:bQ},rz l->n+l.length<=24->cs.length=771->∀j,(∀x∈l,j≠21+x.key.toNat)->(∀i,i<l.length->j≠291+3*hm (n+i)/\j≠292+3*hm (n+i)/\j≠293+3*hm (n+i))->(YW 4 40 n l cs).getD j 0=cs.getD j 0
 |[],n,cs,_,_,_,j,_,_=>rfl
 |x::l,n,cs,h,hn,hl,j,h1,h2=>by
  rw[aE]at hn;unfold YW
  rw[Hy h.tail (by omega) (by rw[Oi];exact hl) j (fun y hy=>h1 y (aS _ hy)) (fun i hi=>by
   have:=h2 (i+1) (by simp;omega)
   rwa [show n+(i+1)=n+1+i by omega]at this)]
  have hx:=h.all x (aV ..);have e1:=h1 x (aV ..);have e2:=h2 0 (by simp);rw[Nat.add_zero]at e2;rw[QyY,Qpx hl (M0 (by omega)) (by omega) (by omega) (by omega) (by omega),aw e1,aw e2.2.2,aw e2.2.1,aw e2.1]
theorem Qld:∀{l:bM} {n:Nat} {cs:bQ},rz l->n+l.length<=24->cs.length=771->∀i,i<l.length ->
 (YW 4 40 n l cs).getD (291+3*hm (n+i)) 0=3/\(YW 4 40 n l cs).getD (292+3*hm (n+i)) 0=0/\(YW 4 40 n l cs).getD (293+3*hm (n+i)) 0=GP (l.getD i ⟨0,0,0⟩) /\
 (YW 4 40 n l cs).getD (21+(l.getD i ⟨0,0,0⟩).key.toNat) 0=iN (l.getD i ⟨0,0,0⟩).place (256+(hm (n+i):Int))
 |[],n,cs,_,_,_,i,hi=>by simp at hi
 |x::l,n,cs,h,hn,hl,i,hi=>by
  rw[aE]at hn hi;have hx:=h.all x (aV ..);have me:(sD cs (Jy 4 40 (n:Int)) x).length=771:=by rw[Oi];exact hl
  unfold YW;cases i with
  |succ i=>
   have:=Qld h.tail (n:=n+1) (by omega) me i (by omega);rw[show n+(i+1)=n+1+i by omega];simp only[List.getD_cons_succ];exact this
  |zero=>
   simp only[List.getD_cons_zero,Nat.add_zero];have GC:=(List.pairwise_cons.1 h.sort).1;have hs:=M0 (n:=n) (by omega)
   have out:∀j,j=291+3*hm n\/j=292+3*hm n\/j=293+3*hm n\/j=21+x.key.toNat->(YW 4 40 (n+1) l (sD cs (Jy 4 40 (n:Int)) x)).getD j 0=(sD cs (Jy 4 40 (n:Int)) x).getD j 0:=fun j hj=>by
    refine Hy h.tail (by omega) me j (fun y hy=>?_) fun i hi=>?_
    ·have:=GC y hy;have:=h.all y (aS _ hy);omega
    ·have:=Wr (n:=n) (m:=n+1+i) (by omega) (by omega) (by omega);omega
   rw[out _ (.inl rfl),out _ (.inr (.inl rfl)),out _ (.inr (.inr (.inl rfl))),out _ (.inr (.inr (.inr rfl))),QyY];have mN:=fun j=>Qpx (s:=hm n) (x:=x) hl hs (by omega) (by omega) (by omega) (by omega) j;rw[mN,mN,mN,mN];refine⟨?_,?_,?_,ax rfl⟩
   ·rw[aw (by omega),aw (by omega),aw (by omega),ax rfl]
   ·rw[aw (by omega),aw (by omega),ax rfl]
   ·rw[aw (by omega),ax rfl]
theorem QmO(q:Int)(x:cg)(l:bJ)(cs:bQ):Zv q (x::l) cs=Zv q l ((cs.set (da q x.offset).toNat (fx x)).set (dY 45 q 3).toNat (IntKind.i64.wrap (x.offset+1))):=rfl
structure sB(l:bJ)(o:Int):Prop where
 o0:0<=o
 off:∀i,i<l.length->(l.getD i jY).offset=o+(i:Int)
 may:∀x∈l,Zb x=true
theorem sB.tail{x:cg}{l:bJ}{o:Int}(h:sB (x::l) o):sB l (o+1):=⟨by have:=h.o0;omega,fun i hi=>by
 have:=h.off (i+1) (by simp;omega);simp only[List.getD_cons_succ]at this;rw[this];omega,fun y hy=>h.may y (aS _ hy)⟩
def mU(q:Nat)(o:Int):Nat:=51+16*q+(o%16).toNat
theorem Re{q:Nat}{o:Int}(hq:q<=2)(ho:0<=o):(da (q:Int) o).toNat=mU q o:=by
 unfold da mU;rw[ax (by omega)];omega
theorem HU{q:Nat}(hq:q<=2):∀{l:bJ} {o:Int} {cs:bQ},sB l o->l.length<=16->cs.length=771 ->
 (∀j,j≠45+q->(∀i,i<l.length->j≠mU q (o+(i:Int)))->(Zv (q:Int) l cs).getD j 0=cs.getD j 0) /\
 (∀i,i<l.length->(Zv (q:Int) l cs).getD (mU q (o+(i:Int))) 0=fx (l.getD i jY)) /\
 (Zv (q:Int) l cs).getD (45+q) 0=if l=[]then cs.getD (45+q) 0 else o+(l.length:Int)
 |[],o,cs,h,hl,hc=>⟨fun j _ _=>rfl,fun i hi=>by simp at hi,by rw[ax rfl];rfl⟩
 |x::l,o,cs,h,hl,hc=>by
  rw[aE]at hl;have kE:=h.off 0 (by simp);simp only[List.getD_cons_zero]at kE;have lU:=h.o0;have hxm:=h.may x (aV ..);simp only[Zb,aa]at hxm;have e1:(da (q:Int) x.offset).toNat=mU q o:=by rw[Re hq (by omega),kE];simp
  have e2:(dY 45 (q:Int) 3).toNat=45+q:=by unfold dY;rw[ax (by omega)];omega
  have w:IntKind.i64.wrap (x.offset+1)=o+1:=by rw[cC (by omega) (by omega)];omega
  have Dq:∀o:Int,51+16*q<=mU q o/\mU q o<=66+16*q:=fun o=>by unfold mU;omega
  rw[QmO,e1,e2,w];have me:((cs.set (mU q o) (fx x)).set (45+q) (o+1)).length=771:=by simp[hc]
  have hg:∀j,((cs.set (mU q o) (fx x)).set (45+q) (o+1)).getD j 0=if j=45+q then o+1 else if j=mU q o then fx x else cs.getD j 0:=fun j=>by
   have:=Dq o;rw[Zf _ (by simp;omega),Zf _ (by omega)]
  obtain⟨i1,i2,i3⟩:=HU hq h.tail (by omega) me;have fg:∀i:Nat,i<l.length->mU q (o+1+(i:Int))≠mU q o:=fun i hi=>by unfold mU;omega
  refine⟨fun j h1 h2=>?_,fun i hi=>?_,?_⟩
  ·have hj:=h2 0 (by simp);simp only[Int.natCast_zero,Int.add_zero]at hj
   rw[i1 j h1 (fun i hi=>by
    have:=h2 (i+1) (by simp;omega)
    rwa [show o+((i+1:Nat):Int)=o+1+(i:Int)by omega]at this),hg,aw h1,aw hj]
  ·cases i with
   |zero=>
    have hr:=Dq o;simp only[List.getD_cons_zero,Int.natCast_zero,Int.add_zero];rw[i1 _ (by omega) (fun i hi=>(fg i hi).symm),hg,aw (by omega),ax rfl]
   |succ i=>
    simp only[aE]at hi;have:=i2 i (by omega);simp only[List.getD_cons_succ];rw[show o+((i+1:Nat):Int)=o+1+(i:Int)by omega];exact this
  ·rw[aw (by simp),i3]
   split
   ·rename_i e;subst e;rw[hg,ax rfl];simp
   ·simp;omega
structure qd(S:St):Prop where
 pl:0<=S.place/\S.place<=1048575
 it:rz S.items
 ip:∀x∈S.items,x.place<=S.place
 il:S.items.length<=24
 l0:∃o,sB S.l0 o
 n0:S.l0.length<=16
 l1:∃o,sB S.l1 o
 n1:S.l1.length<=16
 l2:∃o,sB S.l2 o
 n2:S.l2.length<=16
theorem QIi:((List.range 291).all fun k=>QK.getD k 0==(if k=1 then 1 else 0))=true:=by kernel_rfl
theorem Ws{a:Nat}(h:a<291)(h1:a≠1):QK.getD a 0=0:=by
 have:=aX.1 QIi a (List.mem_range.2 h);rw[aw h1]at this;exact eq_of_beq this
theorem uw:QK.length=771:=by kernel_rfl
theorem QGH:KU 0=none:=by kernel_rfl
theorem Qpy{M:bQ}{q:Nat}{L:bJ}{o:Int}(hq:q<=2)(h:sB L o)(hl:L.length<=16)(om:∀i:Nat,i<L.length->M.getD (mU q (o+(i:Int))) 0=fx (L.getD i jY))(e:Nat)(he:e=0\/(1<=o/\M.getD (mU q (o-1)) 0=0)) :
 ∀t,t<=L.length->pF M (q:Int) (t+e) (o+(t:Int)-1)=(L.take t).reverse
 |0,_=>by
  rw[List.take_zero,List.reverse_nil,aN];rcases he with rfl|⟨h1,h2⟩
  ·rfl
  ·cases e with
   |zero=>rfl
   |succ e=>
    simp only[Int.natCast_zero,Int.add_zero];unfold pF;rw[Re hq (by omega),h2,QGH,aw (by simp)]
 |t+1,ht=>by
  have ih:=Qpy hq h hl om e he t (by omega);have ho:=h.o0
  have hm:L.getD t jY∈L:=by
   have:L.getD t jY=L[t]:=by simp[show t<L.length by omega]
   rw[this];exact bA _
  have rU:=h.may _ hm
  have hr:KU (fx (L.getD t jY))=some (L.getD t jY):=by
   have:fx (L.getD t jY)=uz (L.getD t jY):=by simp only[fx,rU,ag]
   rw[this];exact Qmj rU
  have oK:=h.off t (by omega);rw[show t+1+e=(t+e)+1 by omega,show o+((t+1:Nat):Int)-1=o+(t:Int)by omega];unfold pF;rw[Re hq (by omega),om t (by omega),hr];have vZ:YE (fx (L.getD t jY))=L.getD t jY:=by unfold YE;rw[hr];rfl
  rw[vZ,ax ⟨rfl,oK⟩,ih];rw[List.take_succ_eq_append_getElem (by omega),List.reverse_append];simp[show t<L.length by omega]
theorem Nm{M:bQ}{q:Nat}{L:bJ}{o:Int}(hq:q<=2)(hM:M.length=771)(h:sB L o)(hl:L.length<=16)(om:∀i:Nat,i<L.length->M.getD (mU q (o+(i:Int))) 0=fx (L.getD i jY))
 (hzero:∀o',0<=o'->(∀i:Nat,i<L.length->mU q o'≠mU q (o+(i:Int)))->M.getD (mU q o') 0=0) (rO:M.getD (45+q) 0=if L=[]then 0 else o+(L.length:Int)):VG M (q:Int)=L:=by
 have ho:=h.o0
 have eC:lL M (q:Int)=M.getD (45+q) 0:=by
  unfold lL dY;rw[ax (by omega),show(45+(q:Int)).toNat=45+q by omega]
 by_cases hL:L=[]
 ·subst hL;rw[ax rfl]at rO
  have ok:Vf M (q:Int)=true:=by
   unfold Vf;rw[eC,rO,ab hM,ab (show(0:Int)<=(q:Int)by omega),ab (show(q:Int)<3 by omega)];rfl
  unfold VG;rw[ok,ag];unfold Lh;rw[eC,rO];rfl
 ·rw[aw hL]at rO;have mA:0<L.length:=List.length_pos_iff.2 hL;have mg:=h.off (L.length-1) (by omega)
  have rU:Zb (L.getD (L.length-1) jY)=true:=h.may _ (by
   have:L.getD (L.length-1) jY=L[L.length-1]:=by simp[show L.length-1<L.length by omega]
   rw[this];exact bA _)
  simp only[Zb,aa]at rU
  have ok:Vf M (q:Int)=true:=by
   unfold Vf;rw[eC,rO,ab hM,ab (show(0:Int)<=(q:Int)by omega),ab (show(q:Int)<3 by omega),ab (show 0<=o+(L.length:Int)by omega),ab (show o+(L.length:Int)<=4194304 by omega)];rfl
  unfold VG;rw[ok,ag];unfold Lh;rw[eC,rO];have hm:(o+(L.length:Int)-max 0 (o+(L.length:Int)-16)).toNat=L.length+((o+(L.length:Int)-max 0 (o+(L.length:Int)-16)).toNat-L.length):=by omega
  rw[hm,Qpy hq h hl om _ ?_ L.length (aq _),List.take_length,List.reverse_reverse]
  by_cases q0:(o+(L.length:Int)-max 0 (o+(L.length:Int)-16)).toNat-L.length=0
  ·exact .inl q0
  ·right;refine⟨by omega,hzero (o-1) (by omega) fun i hi=>?_⟩;unfold mU;omega
theorem NJ{S:St}(h:qd S):∃M,M=Jq QK 4 40 S/\M.length=771/\M.getD 0 0=S.place/\M.getD 48 0=S.c0/\M.getD 49 0=S.c1/\M.getD 50 0=S.c2 /\
 VG M 0=S.l0/\VG M 1=S.l1/\VG M 2=S.l2/\(∀j,(j<45\/291<=j)->M.getD j 0=(YW 4 40 0 S.items ((((QK.set 0 S.place).set 3 S.place).set 4 S.place).set 1 (S.place+1))).getD j 0):=by
 obtain⟨o0,h0⟩:=h.l0;obtain⟨o1,h1⟩:=h.l1;obtain⟨o2,h2⟩:=h.l2;have hp:=h.pl
 have off:∀{l:bJ} {o:Int},sB l o->∀x∈l,0<=x.offset:=fun hk x hx=>by
  have:=hk.may x hx;simp only[Zb,aa]at this;omega
 have hme:=QGv (n0:=QK) (c:=4) (kk:=40) (s:=S) (by decide) (by decide) (by decide) (by decide) (fun x hx=>by have:=h.it.all x hx;omega) (by have:=h.il;omega) (off h0) (off h1) (off h2);refine⟨_,rfl,?_⟩;rw[<-hme];unfold Wq;have w:IntKind.i64.wrap (S.place+1)=S.place+1:=cC (by omega) (by omega);rw[w];have hB:((((QK.set 0 S.place).set 3 S.place).set 4 S.place).set 1 (S.place+1)).length=771:=by simp[uw]
 have gB:∀j,((((QK.set 0 S.place).set 3 S.place).set 4 S.place).set 1 (S.place+1)).getD j 0=if j=1 then S.place+1 else if j=4 then S.place else if j=3 then S.place else if j=0 then S.place else QK.getD j 0:=fun j=>by
  rw[Zf _ (by simp[uw]),Zf _ (by simp[uw]),Zf _ (by simp[uw]),Zf _ (by simp[uw])]
 generalize (((QK.set 0 S.place).set 3 S.place).set 4 S.place).set 1 (S.place+1)=B at *
 have hC:(YW 4 40 0 S.items B).length=771:=by rw[Xv];exact hB
 have G2:∀j,(j<21\/(45<=j/\j<291))->(YW 4 40 0 S.items B).getD j 0=B.getD j 0:=fun j hj=>Hy h.it (by have:=h.il;omega) hB j (fun x hx=>by have:=h.it.all x hx;omega) fun i hi=>by omega
 generalize YW 4 40 0 S.items B=C at *
 have q0:((0:Nat):Int)=0:=rfl;have q1:((1:Nat):Int)=1:=rfl;have q2:((2:Nat):Int)=2:=rfl;obtain⟨a1,a2,a3⟩:=HU (q:=0) (by decide) h0 h.n0 hC;rw[q0]at a1 a2 a3;have S2:((Zv 0 S.l0 C).set 48 S.c0).length=771:=by rw[bf,Vc];exact hC
 have g0:∀j,((Zv 0 S.l0 C).set 48 S.c0).getD j 0=if j=48 then S.c0 else(Zv 0 S.l0 C).getD j 0:=fun j=>Zf _ (by rw[Vc,hC];decide) j
 generalize (Zv 0 S.l0 C).set 48 S.c0=D0 at *
 generalize Zv 0 S.l0 C=X0 at *
 obtain⟨b1,b2,b3⟩:=HU (q:=1) (by decide) h1 h.n1 S2;rw[q1]at b1 b2 b3;have S3:((Zv 1 S.l1 D0).set 49 S.c1).length=771:=by rw[bf,Vc];exact S2
 have g1:∀j,((Zv 1 S.l1 D0).set 49 S.c1).getD j 0=if j=49 then S.c1 else(Zv 1 S.l1 D0).getD j 0:=fun j=>Zf _ (by rw[Vc,S2];decide) j
 generalize (Zv 1 S.l1 D0).set 49 S.c1=D1 at *
 generalize Zv 1 S.l1 D0=X1 at *
 obtain⟨c1,c2,c3⟩:=HU (q:=2) (by decide) h2 h.n2 S3;rw[q2]at c1 c2 c3;have lM:((Zv 2 S.l2 D1).set 50 S.c2).length=771:=by rw[bf,Vc];exact S3
 have g2:∀j,((Zv 2 S.l2 D1).set 50 S.c2).getD j 0=if j=50 then S.c2 else(Zv 2 S.l2 D1).getD j 0:=fun j=>Zf _ (by rw[Vc,S3];decide) j
 generalize (Zv 2 S.l2 D1).set 50 S.c2=M at *
 generalize Zv 2 S.l2 D1=X2 at *
 have sr:∀(q:Nat) (o:Int),51+16*q<=mU q o/\mU q o<=66+16*q:=fun q o=>by unfold mU;omega
 -- a cell zM no other partition LX
 have n2:∀j,j≠50->j≠47->¬(83<=j/\j<=98)->M.getD j 0=D1.getD j 0:=fun j e1 e2 e3=>by
  rw[g2,aw e1,c1 j e2 fun i hi=>by have:=sr 2 (o2+(i:Int));omega]
 have n1:∀j,j≠49->j≠46->¬(67<=j/\j<=82)->D1.getD j 0=D0.getD j 0:=fun j e1 e2 e3=>by
  rw[g1,aw e1,b1 j e2 fun i hi=>by have:=sr 1 (o1+(i:Int));omega]
 have n0:∀j,j≠48->j≠45->¬(51<=j/\j<=66)->D0.getD j 0=C.getD j 0:=fun j e1 e2 e3=>by
  rw[g0,aw e1,a1 j e2 fun i hi=>by have:=sr 0 (o0+(i:Int));omega]
 have zC:∀j,45<=j->j<=98->C.getD j 0=0:=fun j h1 h2=>by
  rw[G2 j (.inr ⟨h1,by omega⟩),gB,aw (by omega),aw (by omega),aw (by omega),aw (by omega),Ws (by omega) (by omega)]
 refine⟨lM,?_,?_,?_,?_,?_,?_,?_,?_⟩
 ·rw[n2 0 (by omega) (by omega) (by omega),n1 0 (by omega) (by omega) (by omega),n0 0 (by omega) (by omega) (by omega),G2 0 (.inl (by omega)),gB];rfl
 ·rw[n2 48 (by omega) (by omega) (by omega),n1 48 (by omega) (by omega) (by omega),g0,ax rfl]
 ·rw[n2 49 (by omega) (by omega) (by omega),g1,ax rfl]
 ·rw[g2,ax rfl]
 ·refine Nm (q:=0) (by decide) lM h0 h.n0 (fun i hi=>?_) (fun o' gz fg=>?_) ?_
  ·have:=sr 0 (o0+(i:Int));rw[n2 _ (by omega) (by omega) (by omega),n1 _ (by omega) (by omega) (by omega),g0,aw (by omega),a2 i hi]
  ·have:=sr 0 o';rw[n2 _ (by omega) (by omega) (by omega),n1 _ (by omega) (by omega) (by omega),g0,aw (by omega),a1 _ (by omega) fg,zC _ (by omega) (by omega)]
  ·rw[n2 _ (by omega) (by omega) (by omega),n1 _ (by omega) (by omega) (by omega),g0,aw (by omega),a3,zC _ (by omega) (by omega)]
 ·refine Nm (q:=1) (by decide) lM h1 h.n1 (fun i hi=>?_) (fun o' gz fg=>?_) ?_
  ·have:=sr 1 (o1+(i:Int));rw[n2 _ (by omega) (by omega) (by omega),g1,aw (by omega),b2 i hi]
  ·have:=sr 1 o';rw[n2 _ (by omega) (by omega) (by omega),g1,aw (by omega),b1 _ (by omega) fg,n0 _ (by omega) (by omega) (by omega),zC _ (by omega) (by omega)]
  ·rw[n2 _ (by omega) (by omega) (by omega),g1,aw (by omega),b3,n0 _ (by omega) (by omega) (by omega),zC _ (by omega) (by omega)]
 ·refine Nm (q:=2) (by decide) lM h2 h.n2 (fun i hi=>?_) (fun o' gz fg=>?_) ?_
  ·have:=sr 2 (o2+(i:Int));rw[g2,aw (by omega),c2 i hi]
  ·have:=sr 2 o';rw[g2,aw (by omega),c1 _ (by omega) fg,n1 _ (by omega) (by omega) (by omega),n0 _ (by omega) (by omega) (by omega),zC _ (by omega) (by omega)]
  ·rw[g2,aw (by omega),c3,n1 _ (by omega) (by omega) (by omega),n0 _ (by omega) (by omega) (by omega),zC _ (by omega) (by omega)]
 ·intro j hj;rw[n2 _ (by omega) (by omega) (by omega),n1 _ (by omega) (by omega) (by omega),n0 _ (by omega) (by omega) (by omega)]
def wN(p:Int)(s:Nat):Int:=p*1048576+(256+(s:Int))
theorem QGI{p:Int}{s:Nat}(h1:1<=p)(h2:p<=1048575)(hs:s<160):iN p (256+(s:Int))=wN p s:=by
 unfold iN wN;rw[ax ⟨by omega,h2,.inl (by omega)⟩]
theorem OG{p:Int}{s:Nat}(h1:1<=p)(h2:p<=1048575)(hs:s<160):0<wN p s/\wh (wN p s)=wN p s/\qJ (wN p s)=p/\bare (wN p s)=256+(s:Int)/\Zm (bare (wN p s)) 1 true=292+3*(s:Int)/\Zm (bare (wN p s)) 2 true=293+3*(s:Int):=by
 have hi:wM (wN p s)=wN p s:=JY (by unfold wN;omega);have hb:bare (wN p s)=256+(s:Int):=by unfold bare;rw[hi];unfold wN;omega
 have hc:∀f:Int,0<=f->f<3->Zm (256+(s:Int)) f true=291+3*(s:Int)+f:=fun f f0 f1=>by
  unfold Zm dt;rw[aw (by omega),ag,ax ⟨by omega,by omega,f0,f1⟩];omega
 refine⟨by unfold wN;omega,by unfold wh;rw[aw (by unfold wN;omega)],by unfold qJ;rw[hi];unfold wN;omega,hb,?_,?_⟩
 ·rw[hb,hc 1 (by decide) (by decide)];omega
 ·rw[hb,hc 2 (by decide) (by decide)];omega
structure M1(M:bQ)(k:Nat)(o:cX)(s:Nat):Prop where
 no:o=none->M.getD (21+k) 0=0
 yes:∀x,o=some x->s<160/\x.key=(k:Int)/\1<=x.place/\x.place<=1048575/\0<=x.value/\x.value<=255/\M.getD (21+k) 0=wN x.place s/\M.getD (291+3*s) 0=3/\M.getD (292+3*s) 0=0/\M.getD (293+3*s) 0=(k:Int)*256+x.value
def xC(l:bM)(k:Int):Nat:=l.findIdx fun x=>decide (x.key=k)
theorem Ob{l:bM}{k:Int}{x:Item}(h:ZJ l k=some x):xC l k<l.length/\l.getD (xC l k) ⟨0,0,0⟩=x/\x.key=k:=by
 have h1:=List.find?_some h;simp only[aa]at h1;have hm:=List.mem_of_find?_eq_some h;have cU:xC l k<l.length:=List.findIdx_lt_length_of_exists ⟨x,hm,ab h1⟩;refine⟨cU,?_,h1⟩
 have e:l.find? (fun x=>decide (x.key=k))=some l[xC l k]:=by
  rw[List.find?_eq_some_iff_getElem];refine⟨List.findIdx_getElem (w:=cU),xC l k,cU,rfl,fun j hj=>?_⟩;have:=List.not_of_lt_findIdx hj
  simpa using this
 unfold ZJ at h;rw[e]at h;have:=aj h;simp[ar,cU,this]
theorem Qpz{S:St}(h:qd S){M:bQ}(hc:∀j,(j<45\/291<=j)->M.getD j 0=(YW 4 40 0 S.items ((((QK.set 0 S.place).set 3 S.place).set 4 S.place).set 1 (S.place+1))).getD j 0)(k:Nat)(hk:k<24):M1 M k (ZJ S.items (k:Int)) (hm (xC S.items (k:Int))):=by
 have hB:((((QK.set 0 S.place).set 3 S.place).set 4 S.place).set 1 (S.place+1)).length=771:=by simp[uw]
 have Se:=h.il;refine⟨fun hn=>?_,fun x hx=>?_⟩
 ·rw[hc _ (.inl (by omega)),Hy h.it (by omega) hB (21+k) (fun x hx e=>?_) fun i hi=>by omega]
  ·rw[Zf _ (by simp[uw]),Zf _ (by simp[uw]),Zf _ (by simp[uw]),Zf _ (by simp[uw]),aw (by omega),aw (by omega),aw (by omega),aw (by omega),Ws (by omega) (by omega)]
  ·have kE:=h.it.all x hx;unfold ZJ at hn;rw[List.find?_eq_none]at hn;have:=hn x hx;simp at this;omega
 ·obtain⟨i1,i2,i3⟩:=Ob hx;obtain⟨c1,c2,c3,c4⟩:=Qld h.it (n:=0) (cs:=(((QK.set 0 S.place).set 3 S.place).set 4 S.place).set 1 (S.place+1)) (by omega) hB _ i1;rw[aN,i2]at c3 c4;rw[aN]at c1 c2;have kE:=h.it.all x (List.mem_of_find?_eq_some hx);have hs:=M0 (n:=xC S.items (k:Int)) (by omega);refine⟨hs,i3,by omega,by omega,by omega,by omega,?_,?_,?_,?_⟩
  ·rw[hc _ (.inl (by omega)),show 21+k=21+x.key.toNat by omega,c4,QGI (by omega) (by omega) hs]
  ·rw[hc _ (.inr (by omega)),c1]
  ·rw[hc _ (.inr (by omega)),c2]
  ·rw[hc _ (.inr (by omega)),c3];unfold GP;rw[i3]
theorem Qy0{M:bQ}(hM:M.length=771){k:Nat}(hk:k<24){o:cX}{s:Nat}(h:M1 M k o s):Ve M (k:Int)=o.toList:=by
 have ok:sy M (k:Int)=true:=by
  unfold sy;rw[ab hM,ab (show(0:Int)<=(k:Int)by omega),ab (show(k:Int)<24 by omega)];rfl
 unfold Ve;rw[ok,ag,show(21+(k:Int)).toNat=21+k by omega];cases o with
 |none=>
  rw[h.no rfl];exact(@Nf M (k:Int) 160).1
 |some x=>
  obtain⟨hs,hx,p1,p2,v1,v2,e1,e2,e3,e4⟩:=h.yes x rfl;obtain⟨a1,a2,a3,a4,a5,a6⟩:=OG p1 p2 hs;rw[e1,a2];have hg:=(@Uv M (k:Int) (wN x.place s) (by omega) (by omega) 159).1;rw[hg,a3,a5,a6,show(292+3*(s:Int)).toNat=292+3*s by omega,show(293+3*(s:Int)).toNat=293+3*s by omega,e3,e4];have e5:((k:Int)*256+x.value)%256=x.value:=by omega
  rw[e5,show wh 0=0 from rfl,(@Nf M (k:Int) 159).1,<-hx];rfl
theorem Qy1{S:St}(h:qd S):vp (Jq QK 4 40 S)=S/\vq (Jq QK 4 40 S)=0:=by
 obtain⟨M,e,hM,m0,m48,m49,m50,l0,l1,l2,hc⟩:=NJ h;rw[<-e];refine⟨?_,by unfold vq;rw[ab hM];rfl⟩;unfold vp;rw[ab hM,ag,m0,m48,m49,m50,l0,l1,l2]
 have hi:uD M S.place 24 0=S.items:=by
  refine DH (f:=fun j=>Vd S.place (Ve M j)) 24 0 S.items h.it.sort (fun x hx=>by have:=h.it.all x hx;omega) (fun j _=>?_) (fun n k=>uD M S.place n k) (fun _=>rfl) (fun _ _=>rfl);show Vd S.place (Ve M (j:Int))=_
  by_cases hj:j<24
  ·rw[Qy0 hM hj (Qpz h hc j hj)];cases hf:ZJ S.items (j:Int)with
   |none=>rfl
   |some x=>
    have:=h.ip x (List.mem_of_find?_eq_some hf);show Vd S.place [x]=_;unfold Vd;rw[List.find?_cons,ab this]
  ·have ok:sy M (j:Int)=false:=by
    unfold sy;rw[ad (show ¬(j:Int)<24 by omega)];simp
   unfold Ve;rw[ok,ah]
   have:ZJ S.items (j:Int)=none:=by
    unfold ZJ;rw[List.find?_eq_none];intro x hx;have:=h.it.all x hx;simp;omega
   rw[this];rfl
 rw[hi]
theorem Qy2{l:bS}(h:fV l)(hl:l.length<=1000){p:Int}(hp:(l.length:Int)<=p)(vY:p<=1048575):qd (nU (QP l) p):=by
 obtain⟨i0,i1,i2⟩:=S5 h hl;have hI:=SZ h;have hs:=J3 (KM h hl hp vY)
 have ln:∀{q:Int} {L:bJ} {c:Int},mK (fJ q l []) L c->∃o,sB L o:=fun {q L c} hL=>by
  have hA:=allI (q:=q) h;have a0:=KK q h;have rU:=hL.may hA (by omega) (by omega);obtain⟨d,d1,rfl,_⟩:=hL.ex;refine⟨(d:Int),by omega,fun i hi=>?_,fun x hx=>aX.1 rU x hx⟩;rw[bq]at hi;rw[HT,hA.off _ (by omega)];omega
 refine⟨by show 0<=p/\_;omega,⟨hI.sort,fun x hx=>by have:=hI.all x hx;omega⟩,fun x hx=>by show x.place<=p;have:=hI.all x hx;omega,hs.2.1,ln i0,hs.2.2.2.1.1,ln i1,hs.2.2.2.2.1.1,ln i2,hs.2.2.2.2.2.1⟩
structure DK(l:bS)(D:bK):Prop where
 j6:lH D l
 kx:Ql D D=true
 ck:(D.getD 32 cW=cW/\l.length<=32)\/(∃c:Nat,1<=c/\c<=l.length/\l.length<=c+32/\D.getD 32 cW=⟨(c:Int),eN (c:Int) (QP (l.take c))⟩) \/
  (∃b:Int,(l.length:Int)<=b/\1<=b/\b<=1000/\D.getD 32 cW=⟨b,eN b (nU (QP l) b)⟩)
def hU(l:bS)(D:bK):Int:=if(l.length:Int)<(D.getD 32 cW).n then(D.getD 32 cW).n else(l.length:Int)
theorem HV{l:bS}(h:fV l):nU (QP l) (l.length:Int)=QP l:=by
 have:=Nl h;unfold nU;rw[<-this]
theorem Oc{l:bS}(h:fV l)(hl:l.length<=1000){b:Int}(h1:(l.length:Int)<=b)(h0:1<=b)(h2:b<=1048575):fF b (nU (QP l) b)=true:=by
 have hs:=KM h hl h1 h2;unfold fF;rw[hs,ab h0,ab h2,ab (show(nU (QP l) b).place<=b from Int.le_refl _)];rfl
theorem DK.top{l:bS}{D:bK}(h:DK l D):(l.length:Int)<=hU l D/\hU l D<=1000/\(D.getD 32 cW).n<=hU l D:=by
 have:=h.j6.le
 have hn:(D.getD 32 cW).n<=1000:=by
  rcases h.ck with⟨e,_⟩|⟨c,c1,c2,_,e⟩|⟨b,b1,_,b2,e⟩<;>rw[e]
  ·decide
  ·show(c:Int)<=1000;omega
  ·exact b2
 unfold hU
 split<;>omega
theorem DK.from{l:bS}{D:bK}(h:DK l D):Yd D D=nU (QP l) (hU l D):=by
 have hq:=h.j6.seq;have hle:=h.j6.le;rcases h.ck with⟨e,uG⟩|⟨c,c1,c2,c3,e⟩|⟨b,b1,b0,b2,e⟩
 ·have ht:hU l D=(l.length:Int):=by unfold hU;rw[e,aw (by simp[cW])]
  rw[ht,HV hq];exact QyW h.j6 h.kx e uG
 ·have ht:hU l D=(l.length:Int):=by unfold hU;rw[e,aw (by simp;omega)]
  rw[ht,HV hq];have Dp:=YY hq c;have Di:(l.take c).length=c:=by rw[bp];omega
  have qy:=Nl Dp;rw[Di]at qy
  have iw:nU (QP (l.take c)) (c:Int)=QP (l.take c):=by
   have:=HV Dp
   rwa [Di]at this
  have hk:fF (c:Int) (QP (l.take c))=true:=by
   have:=Oc Dp (by omega) (b:=(c:Int)) (by omega) (by omega) (by omega)
   rwa [iw]at this
  obtain⟨r1,r2,r3⟩:=QvT h.kx hk e
  have hb:qf D D=QP (l.take c):=by
   unfold qf;rw[r2,r3];show St.mk _ _ _ _ _ _ _ _=_;simp only[ec,ba];rw[<-qy]
  unfold Yd;rw[h.kx,ag,hb,r3,Qpu h.j6 h.kx c2 c3];unfold QP;rw[<-List.foldl_append,bn]
 ·have hk:=Oc hq hle b1 b0 (by omega);obtain⟨r1,r2,r3⟩:=QvT h.kx hk e
  have hb:qf D D=nU (QP l) b:=by
   unfold qf;rw[r2,r3];rfl
  have ht:hU l D=b:=by
   unfold hU;rw[e]
   split
   ·rfl
   ·rename_i q;simp only at q;omega
  have hpn:=QCc (sure:=D) h.j6 (b:=b.toNat) (by omega);rw[show((b.toNat:Nat):Int)=b by omega]at hpn;unfold Yd;rw[h.kx,ag,hb,r3,hpn,ht];rfl
def okW(w:Int):Prop:=2<=w/\w<=8
theorem Qy3{w:Int}(h:okW w):Yj 4 w 4 40=true:=by
 unfold Yj;rw[Qf.2 (show(2:Int)<=w/\w<=8 from h)];rfl
theorem DK.base{l:bS}{D:bK}(h:DK l D){w:Int}(hw:okW w):J2 D D 4 w 4 40=0/\Q7 D D 4 w 4 40=nU (QP l) (hU l D+w):=by
 have ht:=h.top;obtain⟨w1,w2⟩:=hw;have hp:(Yd D D).place=hU l D:=by rw[h.from];rfl
 have hle:YV (hU l D) w=0:=by
  unfold YV;rw[ab (show 0<=hU l D/\hU l D<=1048575/\2<=w/\w<=8 by omega),ad (show ¬1048575<hU l D+w by omega)];rfl
 have e:J2 D D 4 w 4 40=0:=by
  unfold J2;rw[h.kx,Qy3 ⟨w1,w2⟩,hp,hle];rfl
 refine⟨e,?_⟩;unfold Q7 uY;rw[e,hp,hle];simp only[h.from];rfl
theorem DK.make{l:bS}{D:bK}(h:DK l D){w:Int}(hw:okW w):ZY D D 4 w 4 40 (Q7 D D 4 w 4 40)=0/\j8 D D 4 w 4 40=0:=by
 have ht:=h.top;have xy:=hw;obtain⟨w1,w2⟩:=xy;obtain⟨e,hs⟩:=h.base hw;have dV:=KM h.j6.seq h.j6.le (p:=hU l D+w) (by omega) (by omega);have hi:=(J3 dV).2.1
 have hm:ZY D D 4 w 4 40 (Q7 D D 4 w 4 40)=0:=by
  rw[hs];unfold ZY;rw[h.kx,Qy3 hw,dV,ad (by omega)];rfl
 exact⟨hm,by unfold j8;rw[e,hm];rfl⟩
theorem DK.world{l:bS}{D:bK}(h:DK l D){w:Int}(hw:okW w):ZM QK D D 4 w 4 40 3=Jq QK 4 40 (nU (QP l) (hU l D+w))/\qd (nU (QP l) (hU l D+w)):=by
 have ht:=h.top;have xy:=hw;obtain⟨w1,w2⟩:=xy;refine⟨?_,Qy2 h.j6.seq h.j6.le (by omega) (by omega)⟩;unfold ZM;rw[(h.make hw).2,(h.base hw).2];rfl
theorem DK.FJ{l:bS}{D:bK}(h:DK l D){w:Int}(hw:okW w)(hl:l.length<=900)(hn:¬(l.length:Int)<(D.getD 32 cW).n)(stop lost:Int)(hs:stop<=2) :
 ∃C,dK lost 33 0 (uQ D D 4 w 4 40 stop) (KF D D 4 w 4 40 stop)=(C,C)/\DK l C/\Ql (uQ D D 4 w 4 40 stop) (KF D D 4 w 4 40 stop)=true:=by
 have xy:=hw;obtain⟨w1,w2⟩:=xy;have hE:=(h.make hw).2;obtain⟨hb,hS⟩:=h.base hw;have ht:hU l D=(l.length:Int):=by unfold hU;rw[aw hn]
 have ig:=(Uu hb (h.make hw).1).2.2.2.2
 have hP:(∀j,j<32->(l7 D D 4 w 4 40).getD j cW=D.getD j cW)/\(l7 D D 4 w 4 40).getD 32 cW=⟨(l.length:Int)+w,eN ((l.length:Int)+w) (nU (QP l) ((l.length:Int)+w))⟩:=by
  have Gz:QH D D 32 ((l.length:Int)+w) (eN ((l.length:Int)+w) (nU (QP l) ((l.length:Int)+w)))=true:=by
   have:=ig;rw[hS,ht]at this;exact this
  have Lz:=(Zg h.kx).1
  have hR:l7 D D 4 w 4 40=eD D D 32 ((l.length:Int)+w) (eN ((l.length:Int)+w) (nU (QP l) ((l.length:Int)+w))):=by
   unfold l7;rw[hS,ht];rfl
  rw[hR];refine⟨fun j hj=>?_,?_⟩
  ·simp only[eD,Gz,ag];rw[show(32:Int).toNat=32 from rfl,H4 (by omega),aw (by omega)]
  ·rw[UP Gz,ax (by omega)]
 have hQ:tZ D D 4 w 4 40=D:=by
  unfold tZ Zj;rw[ig];rfl
 have yH:=JX ig
 have yI:Ql (l7 D D 4 w 4 40) D=true:=by
  have:Ql (l7 D D 4 w 4 40) (tZ D D 4 w 4 40)=true:=yH
  rwa [hQ]at this
 have hPr:Yu (l7 D D 4 w 4 40)=true:=(ZI yI).1
 have gen:∀X Y,Ql X Y=true->(∀j,j<32->X.getD j cW=D.getD j cW/\Y.getD j cW=D.getD j cW)->(X.getD 32 cW=D.getD 32 cW\/X.getD 32 cW=(l7 D D 4 w 4 40).getD 32 cW)->(Y.getD 32 cW=D.getD 32 cW\/Y.getD 32 cW=(l7 D D 4 w 4 40).getD 32 cW)->∃C,dK lost 33 0 X Y=(C,C)/\DK l C:=fun X Y hd hj hx hy=>by
  obtain⟨c1,c2,c3⟩:=QBi lost hd;have l1:=Zg hd;have iw:=H5 lost 33 0 X Y (by omega) (by omega);refine⟨(dK lost 33 0 X Y).1,Prod.ext rfl c1.symm,⟨h.j6.seq,h.j6.le,fun j h1=>?_⟩,by rw[<-c1]at c2;exact c2,?_⟩
  ·rw[(iw j).1,ax (by omega),(hj j h1).1,(hj j h1).2]
   split<;>exact h.j6.eq j h1
  ·have uG:(dK lost 33 0 X Y).1.getD 32 cW=D.getD 32 cW\/(dK lost 33 0 X Y).1.getD 32 cW=(l7 D D 4 w 4 40).getD 32 cW:=by
    rcases c3 with e|e<;>rw[e]
    ·exact hx
    ·exact hy
   rcases uG with e|e<;>rw[e]
   ·exact h.ck
   ·rw[hP.2];right;right;exact⟨_,by omega,by omega,by omega,rfl⟩
 unfold uQ KF;rw[hE,hQ];simp only[beq_self_eq_true,ag]
 by_cases s0:stop<=0
 ·rw[ab s0];simp only[ag];obtain⟨C,c1,c2⟩:=gen D D h.kx (fun j _=>⟨rfl,rfl⟩) (.inl rfl) (.inl rfl);exact⟨C,c1,c2,h.kx⟩
 ·rw[ad s0];simp only[ah]
  by_cases s1:stop=1
  ·subst s1;simp only[beq_self_eq_true,ag];obtain⟨C,c1,c2⟩:=gen _ D yI (fun j hj=>⟨hP.1 j hj,rfl⟩) (.inr rfl) (.inl rfl);exact⟨C,c1,c2,yI⟩
  ·have e1:(stop==1)=false:=by simpa using s1
   rw[e1];simp only[ah];have LA:=Ky hPr;obtain⟨C,c1,c2⟩:=gen _ _ LA (fun j hj=>⟨hP.1 j hj,hP.1 j hj⟩) (.inr rfl) (.inr rfl);exact⟨C,c1,c2,LA⟩
def jL(l:bS):Prop:=JL l l.length 0=true/\l.length<=100
theorem QpA{l:bS}:∀{n i:Nat},JL l n i=true->∀m,i<=m->m<i+n->dW (l.getD m dz)=true
 |0,i,_,m,h1,h2=>by omega
 |n+1,i,h,m,h1,h2=>by
  simp only[JL,yf,ai]at h
  by_cases e:m=i
  ·subst e;exact h.1.1
  ·exact QpA h.2 m (by omega) (by omega)
theorem jL.may{l:bS}(h:jL l){i:Nat}(hi:i<l.length):dW (l.getD i dz)=true:=QpA h.1 i (aK _) (by omega)
theorem jL.lens{l:bS}(h:jL l):(l.all fun r=>Qd r.writes.length)=true:=aX.2 fun r hr=>by
 obtain⟨i,hi,rfl⟩:=List.getElem_of_mem hr;have:=h.may hi;have e:l.getD i dz=l[i]:=by simp[hi]
 rw[e]at this;exact Qe (bk (JH this) (by decide))
def pY:Item:=⟨0,0,0⟩
def jQ(key p:Int)(ws:ca)(x:Item)(b:Bool):Item×Bool:=match qU ws key with
 |some w=>(⟨key,p,w.value⟩,true)
 |none=>(x,b)
def l4(x:Item)(b:Bool):cX:=if b=true then some x else none
theorem Qr4{ws:ca}{j:Nat}(key:Int)(h:j<ws.length):qU (ws.drop j) key=(qU (ws.drop (j+1)) key).or (if(ws.getD j ⟨0,0⟩).key=key then some (ws.getD j ⟨0,0⟩)else none):=by
 have e:ws.getD j ⟨0,0⟩=ws[j]:=by simp[h]
 unfold qU;rw[aJ h,List.reverse_cons,List.find?_append,e,List.find?_cons,List.find?_nil]
 by_cases q:ws[j].key=key
 ·rw[ab q,ax q]
 ·rw[ad q,aw q]
theorem QGK{key p:Int}{ws:ca}{j:Nat}{x:Item}{b:Bool}(h:j<ws.length):jQ key p (ws.drop j) x b=if(ws.getD j ⟨0,0⟩).key=key then jQ key p (ws.drop (j+1)) ⟨key,p,(ws.getD j ⟨0,0⟩).value⟩ true else jQ key p (ws.drop (j+1)) x b:=by
 unfold jQ;rw[Qr4 key h]
 by_cases q:(ws.getD j ⟨0,0⟩).key=key
 ·rw[ax q,ax q];cases qU (ws.drop (j+1)) key<;>rfl
 ·rw[aw q,aw q];cases qU (ws.drop (j+1)) key<;>rfl
theorem QCh key p ws x b:l4 (jQ key p ws x b).1 (jQ key p ws x b).2=yx key p ws (l4 x b):=by
 rw[OF];unfold jQ;cases qU ws key<;>rfl
theorem Qy4 key p ws x b(h:b=false->x=pY):(jQ key p ws x b).2=false->(jQ key p ws x b).1=pY:=by
 unfold jQ;cases qU ws key with
 |none=>exact h
 |some w=>intro q;cases q
theorem QGL{p q:Int}{ws:ca}{j:Nat}{out:bJ}(h:j<ws.length):kw p q j (ws.drop j) out=kw p q (j+1) (ws.drop (j+1)) (if(ws.getD j ⟨0,0⟩).key/8=q then out++[⟨(out.length:Int),p,j,(ws.getD j ⟨0,0⟩).key%8,(ws.getD j ⟨0,0⟩).value⟩]else out):=by
 have e:ws.getD j ⟨0,0⟩=ws[j]:=by simp[h]
 rw[aJ h,e];rfl
theorem QpB p q(j:Nat)(ws:ca)(out:bJ):(kw p q j ws out).length<=out.length+ws.length:=by
 rw[OE,aC];have:=J0 p q ws (out.length:Int) j;omega
theorem Qy5 q:∀(l:bS) (out:bJ),(∀r∈l,r.writes.length<=4)->(fJ q l out).length<=out.length+4*l.length
 |[],out,_=>aq _
 |r::l,out,h=>by
  have h1:=Qy5 q l (kw r.place q 0 r.writes out) (fun x hx=>h x (aS _ hx));have h2:=QpB r.place q 0 r.writes out;have h3:=h r (aV ..);show(fJ q l _).length<=_;rw[aE];omega
theorem Qle q{l:bS}(h:jL l):(fJ q l []).length<=1000:=by
 have:=Qy5 q l [] (fun r hr=>by
  obtain⟨i,hi,rfl⟩:=List.getElem_of_mem hr;have:=h.may hi;have e:l.getD i dz=l[i]:=by simp[hi]
  rw[e]at this;exact JH this)
 have:=h.2;simp at *;omega
open Go.Proofs
structure QpC where
 (c:Bool)(l:bS)(i:Nat)
def IM(c:Bool)(l:bS)(i:Nat):bX:=[(0,.sl (C:=RC) .dU c l),(2,.int .i64 0),(3,.int .i64 (i:Int))]
def IN(c:Bool)(l:bS)(i:Nat):bP:=[]
def Qy6 c l i:=dQ cu z8 53 2 40 0 [0,2,3] [2] [] (IM c l i) (IN c l i)
theorem QCi c l i:Qy6 c l i=(let Z0:Int:=(i:Int);let Z1:Int:=(l.length:Int);let Z2:Bool:=dH Z0 Z1;let Z3:Rec:=Rec.mk 0 false [];let Z4:Rec:=List.getD l Z0.toNat Z3;let Z5:=c6 (Z0-1);let Z6:Nat×bV:=(2,cj 0);let Z7:mL:=some ((X.normal,[(0,D.sl b9.dU c l),Z6,(3,cj (c6 (Z0+1)))]),[]);b7 (Qd l.length) (bif decide (Z0<Z1)then b7 Z2 (b7 (Qd Z4.writes.length) (bif !dW (Rec.mk Z4.place Z4.yes Z4.writes)then some ((X.ret,[(2,cj 2)]),[])else bif decide ((0:Int)<Z0)then b7 Z2 (b7 (dH Z5 Z1) (bif decide (Rec.place Z4<=Rec.place (List.getD l Z5.toNat Z3))then some ((X.ret,[(2,cj 2)]),[])else Z7))else Z7))else some ((X.exit 0,[Z6]),[]))):=by kernel_rfl
def DI(c:Bool)(l:bS)(i:Nat):RT RC:=.br (JL l (l.length-i) i) (.leaf (.exit 0) [(2,.int .i64 0)] []) (.leaf .ret [(2,.int .i64 2)] [])
def DJ(c:Bool)(l:bS)(i:Nat):Prop:=i<=l.length/\l.length<=1000/\(l.all fun r=>Qd r.writes.length)=true
def wB:QD RC QpC where
 k:=0
 cM q:=IM q.c q.l q.i
 cK q:=IN q.c q.l q.i
 fin q:=DI q.c q.l q.i
 Inv q:=DJ q.c q.l q.i
 μ q:=q.l.length-q.i
theorem QmP c l i(hI:DJ c l i):c8 (Qy6 c l i) (dj wB ⟨c,l,i⟩):=by
 (rw[QCi];delta b7 dH cj c6;conv=>zeta)
 unfold DJ at hI;obtain⟨h1,h2,h3⟩:=hI;have lk:Qd l.length=true:=Qe (by omega);have c9:∀b:Bool,JL l (l.length-i) i=b->(DI c l i).val=bif b then some ((.exit 0,[(2,.int .i64 0)]),[])else some ((.ret,[(2,.int .i64 2)]),[]):=fun b hb=>by subst hb;rfl
 rw[lk,ag]
 by_cases cU:i<l.length
 ·have w1:=eG i (by omega)
  have w2:IntKind.i64.wrap ((i:Int)-1)=(i:Int)-1:=cC (by omega) (by omega);have d1:=ga (show i<l.length by omega)
  have d2:=fL (show i<l.length by omega)
  have t1:=bw i
  have t2:((i:Int)-1).toNat=i-1:=by omega
  have hs:JL l (l.length-i) i=(yf l i&&JL l (l.length-(i+1)) (i+1)):=by
   rw[show l.length-i=(l.length-(i+1))+1 by omega];rfl
  have hw:Qd (l.getD i ⟨0,false,[]⟩).writes.length=true:=by
   have:=aX.1 h3 l[i] (bA cU)
   simpa[cU]using this
  have fe:yf l i=true->c8 (some ((X.normal,IM c l (i+1)),[])) (dj wB ⟨c,l,i⟩):=fun e=>by
   rw[hs,e]at c9;refine Qi ⟨c,l,i+1⟩ ⟨cU,h2,h3⟩ (by simp only[wB];omega) ?_ rfl rfl;show(DI c l (i+1)).val=(DI c l i).val;rw[c9 _ rfl];rfl
  have gv:yf l i=false->c8 (some ((X.ret,[(2,D.int .i64 2)]),[])) (dj wB ⟨c,l,i⟩):=fun e=>by
   rw[hs,e]at c9;exact QW [] (c9 false rfl) rfl
  have hr:yf l i=(dW (l.getD i ⟨0,false,[]⟩)&&(decide (i=0)||decide ((l.getD (i-1) ⟨0,false,[]⟩).place<(l.getD i ⟨0,false,[]⟩).place))):=rfl;simp only[d1,d2,t1,t2,w1,w2,hw,ag];generalize l.getD i ⟨0,false,[]⟩=x at *;generalize l.getD (i-1) ⟨0,false,[]⟩=y at *;cases a3:dW x
  ·exact gv (by rw[hr,a3];rfl)
  ·have a3':dW ⟨x.place,x.yes,x.writes⟩=true:=a3;simp only[a3',bg,ah]
   by_cases e0:i=0
   ·subst e0;exact fe (by rw[hr,a3];rfl)
   ·have d3:decide (0<(i:Int))=true:=by simp;omega
    have d4:decide (0<=(i:Int)-1/\(i:Int)-1<l.length)=true:=by simp;omega
    simp only[d3,d4,ag]
    by_cases q:x.place<=y.place
    ·rw[ab q,ag];exact gv (by rw[hr,a3,ad e0,ad (show ¬y.place<x.place by omega)];rfl)
    ·rw[ad q,ah];exact fe (by rw[hr,a3,ab (show y.place<x.place by omega)];simp)
 ·have hi:i=l.length:=by omega
  have c1:decide ((i:Int)<l.length)=false:=by simp;omega
  rw[c1,ah];have e:l.length-i=0:=by omega
  rw[e]at c9;exact Qh [] (c9 true rfl) rfl
def Pp(env:bX)(os:bP):Option (Bool×QpC):=match env,os with
 |[(0,.sl .dU c l),(2,.int .i64 0),(3,.int .i64 x0)],[]=>Qt (true) (decide (x0=0)&&decide (l.length<=1000)&&l.all fun r=>Qd r.writes.length,⟨c,l,0⟩)
 |_,_=>none
def z9:=z8.cJ 53 2 (ey cu [] [0,2,3] wB Pp)
theorem Qy7:Qk Tryz.prog cu z9:=by
 refine QyT.cq Qb (by kernel_rfl) wB 40 [0,2,3] [2] [] [0,2,3] Pp (fun q hI=>?_) ?_
 ·obtain⟨c,l,i⟩:=q;refine⟨?_,?_,QmP c l i hI⟩
  ·simp_all[Qj,wB,IM,IN,DJ,D.refs,Obj.refs,cV]
  ·simp_all[wB,DI,IN,DJ,RT.cT,Qj,D.refs,Obj.refs,cV]
 ·intro env os b q cN hb;unfold Pp at cN
  split at cN
  ·obtain⟨hs,cN⟩:=Qc cN;cases cN;simp only[ai,aa]at hb;obtain⟨⟨rfl,h1⟩,h2⟩:=hb;exact⟨⟨aK _,h1,h2⟩,rfl,rfl⟩
  ·cases cN
def Qy8:bW->bO
 |[.sl .dU c l]=>some (decide (l.length<=1000)&&l.all fun r=>Qd r.writes.length,.int .i64 (bif JL l l.length 0 then 0 else 2))
 |_=>none
def UA(c:Bool)(l:bS):=eO cu z9 40 53 [.sl (C:=RC) .dU c l]
theorem QGM c l:UA c l=(bif decide (List.length l<=(1000:Nat))&&List.all l fun(r:Rec)=>Qd r.writes.length then bif JL l (List.length l-0) (0:Nat)then some (D.int .i64 0)else some (D.int .i64 2)else none):=by kernel_rfl
theorem QGN c l(h:(decide (l.length<=1000)&&l.all fun r=>Qd r.writes.length)=true):UA c l=some (.int .i64 (bif JL l l.length 0 then 0 else 2)):=by
 rw[QGM];refine Qa h ?_;rw[Nat.sub_zero];cases JL l l.length 0<;>rfl
def Aa:=z9.b8 53 Qy8
theorem Qy9:Qk Tryz.prog cu Aa:=Qy7.cQ Qb fun args d h=>by
 unfold Qy8 at h
 split at h
 ·obtain⟨h1,rfl⟩:=ak h;exact⟨by simp[D.refs],40,QGN _ _ h1⟩
 ·cases h
def nS(l:bS)(i:Nat):Prop:=jL l/\i<l.length
structure Qza where
 (c:Bool)(l:bS)(s key xk xp xv:Int)(b:Bool)(i:Int)(j:Nat)
def Rm(c:Bool)(l:bS)(s key xk xp xv:Int)(b:Bool)(i:Int)(j:Nat):bX:=[(0,.sl (C:=RC) .dU c l),(1,.int .i64 s),(2,.int .i64 key),(8,.ptr 0 []),(9,.bool b),(10,.int .i64 i),(11,.int .i64 (j:Int))]
def Ld(c:Bool)(l:bS)(s key xk xp xv:Int)(b:Bool)(i:Int)(j:Nat):bP:=[.var 56 (cH xk (cH xp (cH xv .bN)))]
def UB c l s key xk xp xv b i j:=dQ cu Aa 137 9 40 1 [0,1,2,8,9,10,11] [9] [.slot 8 0] (Rm c l s key xk xp xv b i j) (Ld c l s key xk xp xv b i j)
theorem QGO c l s key xk xp xv b i j:UB c l s key xk xp xv b i j=(let Z0:Bool:=dH i (l.length:Int);let Z1:Rec:=List.getD l i.toNat (Rec.mk 0 false []);let Z2:=List.length Z1.writes;let Z3:Int:=(j:Int);let Z4:Bool:=dH Z3 (Z2:Int);let Z5:Qo:=List.getD Z1.writes Z3.toNat (Qo.mk 0 0);let Z6:Nat×bV:=(0,D.sl b9.dU c l);let Z7:Nat×bV:=(1,cj s);let Z8:bV:=cj key;let Z9:Nat×bV:=(8,D.ptr 0 []);let db:er:=[(10,cj i),(11,cj (c6 (Z3+1)))];let dB:cb:=[some (Obj.var 56 (.bI (cj xk) (.bI (cj xp) (.bI (cj xv) .bN))))];b7 Z0 (b7 (Qd Z2) (bif decide (Z3<(Z2:Int))then b7 Z0 (b7 Z4 (bif Qo.key Z5==key then b7 Z0 (b7 Z0 (b7 Z4 (some ((X.normal,Z6::Z7::(2,Z8)::Z9::(9,D.bool true)::db),[some (Obj.var 56 (.bI Z8 (D.bI (cj Z1.place) (.bI (cj (Qo.value Z5)) .bN))))]))))else some ((X.normal,Z6::Z7::(2,Z8)::Z9::(9,D.bool b)::db),dB)))else some ((X.exit 2,[(9,D.bool b)]),dB)))):=by kernel_rfl
def KN(c:Bool)(l:bS)(s key xk xp xv:Int)(b:Bool)(i:Int)(j:Nat):RT RC:=.leaf (.exit 2) [(9,.bool (jQ key (l.getD i.toNat dz).place ((l.getD i.toNat dz).writes.drop j) ⟨xk,xp,xv⟩ b).2)] [.var 56 (cH (jQ key (l.getD i.toNat dz).place ((l.getD i.toNat dz).writes.drop j) ⟨xk,xp,xv⟩ b).1.key (cH (jQ key (l.getD i.toNat dz).place ((l.getD i.toNat dz).writes.drop j) ⟨xk,xp,xv⟩ b).1.place (cH (jQ key (l.getD i.toNat dz).place ((l.getD i.toNat dz).writes.drop j) ⟨xk,xp,xv⟩ b).1.value .bN)))]
def Ek(c:Bool)(l:bS)(s key xk xp xv:Int)(b:Bool)(i:Int)(j:Nat):Prop:=nS l i.toNat/\0<=i/\j<=(l.getD i.toNat dz).writes.length
def uT:QD RC Qza where
 k:=1
 cM q:=Rm q.c q.l q.s q.key q.xk q.xp q.xv q.b q.i q.j
 cK q:=Ld q.c q.l q.s q.key q.xk q.xp q.xv q.b q.i q.j
 fin q:=KN q.c q.l q.s q.key q.xk q.xp q.xv q.b q.i q.j
 Inv q:=Ek q.c q.l q.s q.key q.xk q.xp q.xv q.b q.i q.j
 μ q:=(q.l.getD q.i.toNat dz).writes.length-q.j
theorem Qr5 c l s key xk xp xv b i j(hI:Ek c l s key xk xp xv b i j):c8 (UB c l s key xk xp xv b i j) (dj uT ⟨c,l,s,key,xk,xp,xv,b,i,j⟩):=by
 (rw[QGO];delta b7 dH cj c6;conv=>zeta)
 unfold Ek at hI;obtain⟨⟨hR,hi⟩,i0,hj⟩:=hI;have hm:=hR.may hi;have h4:=JH hm;have FT:∀j,j<=(l.getD i.toNat dz).writes.length->nS l i.toNat/\0<=i/\j<=(l.getD i.toNat dz).writes.length:=fun j h=>⟨⟨hR,hi⟩,i0,h⟩;have vE:∀xk xp xv b j,uT.μ ⟨c,l,s,key,xk,xp,xv,b,i,j⟩=(l.getD i.toNat dz).writes.length-j:=fun _ _ _ _ _=>rfl;have FU:∀xk xp xv b j,uT.Inv ⟨c,l,s,key,xk,xp,xv,b,i,j⟩=(nS l i.toNat/\0<=i/\j<=(l.getD i.toNat dz).writes.length):=fun _ _ _ _ _=>rfl;have di:decide (0<=i/\i<(l.length:Int))=true:=ab (by omega);have c9:∀xk xp xv b j (y:Item×Bool),jQ key (l.getD i.toNat dz).place ((l.getD i.toNat dz).writes.drop j) ⟨xk,xp,xv⟩ b=y->(KN c l s key xk xp xv b i j).val=some ((.exit 2,[(9,.bool y.2)]),[.var 56 (cH y.1.key (cH y.1.place (cH y.1.value .bN)))]):=fun _ _ _ _ _ y h=>by subst h;rfl
 unfold dz at *
 generalize l.getD i.toNat ⟨0,false,[]⟩=R at *
 have lk:Qd R.writes.length=true:=Qe (by omega);simp only[di,lk,ag]
 by_cases cU:j<R.writes.length
 ·have w1:=eG j (by omega)
  have d1:=ga (show j<R.writes.length by omega)
  have d2:=fL (show j<R.writes.length by omega)
  have t1:=bw j
  have hs:=QGK (key:=key) (p:=R.place) (x:=⟨xk,xp,xv⟩) (b:=b) cU;simp only[d1,d2,w1,t1,ag];generalize R.writes.getD j ⟨0,0⟩=x at *
  by_cases q:x.key=key
  ·rw[ax q]at hs;simp only[CW q,ag];refine Qi (S:=uT) (s:=⟨c,l,s,key,xk,xp,xv,b,i,j⟩) ⟨c,l,s,key,key,R.place,x.value,true,i,j+1⟩ (by rw[FU];exact FT _ cU) (by rw[vE,vE];omega) ?_ rfl rfl;show(KN c l s key key R.place x.value true i (j+1)).val=(KN c l s key xk xp xv b i j).val;rw[c9 _ _ _ _ (j+1) _ rfl,c9 _ _ _ _ j _ hs]
  ·rw[aw q]at hs;simp only[CX q,ah];refine Qi (S:=uT) (s:=⟨c,l,s,key,xk,xp,xv,b,i,j⟩) ⟨c,l,s,key,xk,xp,xv,b,i,j+1⟩ (by rw[FU];exact FT _ cU) (by rw[vE,vE];omega) ?_ rfl rfl;show(KN c l s key xk xp xv b i (j+1)).val=(KN c l s key xk xp xv b i j).val;rw[c9 _ _ _ _ (j+1) _ rfl,c9 _ _ _ _ j _ hs]
 ·have he:R.writes.drop j=[]:=aO (by omega);have z1:decide ((j:Int)<R.writes.length)=false:=by simp;omega
  rw[z1,ah];exact Qh _ (c9 _ _ _ _ j (⟨xk,xp,xv⟩,b) (by rw[he];rfl)) rfl
def Ro(env:bX)(os:bP):Option (Bool×Qza):=match env,os with
 |[(0,.sl .dU c l),(1,.int .i64 s),(2,.int .i64 key),(8,.ptr 0 []),(9,.bool b),(10,.int .i64 i),(11,.int .i64 x0)],[.var 56 (.bI (.int .i64 xk) (.bI (.int .i64 xp) (.bI (.int .i64 xv) .bN)))]=>some (decide (x0=0)&&dO (nS l i.toNat/\0<=i),⟨c,l,s,key,xk,xp,xv,b,i,0⟩)
 |_,_=>none
def Ab:=Aa.cJ 137 9 (ey cu [.slot 8 0] [0,1,2,8,9,10,11] uT Ro)
theorem Qzd:Qk Tryz.prog cu Ab:=by
 refine Qy9.cq Qb (by kernel_rfl) uT 40 [0,1,2,8,9,10,11] [9] [.slot 8 0] [0,1,2,8,9,10,11] Ro (fun q hI=>?_) ?_
 ·obtain⟨c,l,s,key,xk,xp,xv,b,i,j⟩:=q;refine⟨?_,?_,Qr5 c l s key xk xp xv b i j hI⟩
  ·simp_all[Qj,uT,Rm,Ld,Ek,D.refs,Obj.refs,cV]
  ·simp_all[uT,KN,Ld,Ek,RT.cT,Qj,D.refs,Obj.refs,cV]
 ·intro env os b q cN hb;unfold Ro at cN
  split at cN
  ·cases cN;simp only[ai,aa]at hb;obtain⟨rfl,h1⟩:=hb;have h1:=Q9.1 h1;exact⟨⟨h1.1,h1.2,aK _⟩,rfl,rfl⟩
  ·cases cN
structure Qze where
 (c:Bool)(l:bS)(s key xk xp xv:Int)(b:Bool)(i:Nat)
def Rp(c:Bool)(l:bS)(s key xk xp xv:Int)(b:Bool)(i:Nat):bX:=[(0,.sl (C:=RC) .dU c l),(1,.int .i64 s),(2,.int .i64 key),(8,.ptr 0 []),(9,.bool b),(10,.int .i64 (i:Int))]
def Le(c:Bool)(l:bS)(s key xk xp xv:Int)(b:Bool)(i:Nat):bP:=[.var 56 (cH xk (cH xp (cH xv .bN)))]
def UC c l s key xk xp xv b i:=dQ cu Ab 137 5 40 1 [0,1,2,8,9,10] [9] [.slot 8 0] (Rp c l s key xk xp xv b i) (Le c l s key xk xp xv b i)
theorem QGP c l s key xk xp xv b i:UC c l s key xk xp xv b i=(let Z0:Int:=(i:Int);let Z1:=Int.toNat Z0;let Z2:mL:=some ((X.exit 0,[(9,D.bool b)]),[some (Obj.var 56 (.bI (cj xk) (.bI (cj xp) (.bI (cj xv) .bN))))]);let Z3:Item×Bool:=jQ key (List.getD l Z1 dz).place (List.drop 0 (List.getD l Z1 dz).writes) (Item.mk xk xp xv) b;let Z4:Item:=Z3.1;b7 (Qd l.length) (bif decide (Z0<(l.length:Int))then b7 (dH Z0 (l.length:Int)) (bif decide (s<Rec.place (List.getD l Z1 (Rec.mk 0 false [])))then Z2 else b7 (dO (nS l Z1/\(0:Int)<=Z0)) (some ((X.normal,[(0,D.sl b9.dU c l),(1,cj s),(2,cj key),(8,D.ptr 0 []),(9,D.bool Z3.2),(10,cj (c6 (Z0+1)))]),[some (Obj.var 56 (.bI (cj (Item.key Z4)) (.bI (cj (Item.place Z4)) (.bI (cj (Item.value Z4)) .bN))))])))else Z2)):=by kernel_rfl
def Cm(c:Bool)(l:bS)(s key xk xp xv:Int)(b:Bool)(i:Nat):RT RC:=.leaf (.exit 0) [(9,.bool (atR s key (l.drop i) (l4 ⟨xk,xp,xv⟩ b)).isSome)] [.var 56 (cH ((atR s key (l.drop i) (l4 ⟨xk,xp,xv⟩ b)).getD pY).key (cH ((atR s key (l.drop i) (l4 ⟨xk,xp,xv⟩ b)).getD pY).place (cH ((atR s key (l.drop i) (l4 ⟨xk,xp,xv⟩ b)).getD pY).value .bN)))]
def El(c:Bool)(l:bS)(s key xk xp xv:Int)(b:Bool)(i:Nat):Prop:=jL l/\i<=l.length/\(b=false->xk=0/\xp=0/\xv=0)
def CI:QD RC Qze where
 k:=1
 cM q:=Rp q.c q.l q.s q.key q.xk q.xp q.xv q.b q.i
 cK q:=Le q.c q.l q.s q.key q.xk q.xp q.xv q.b q.i
 fin q:=Cm q.c q.l q.s q.key q.xk q.xp q.xv q.b q.i
 Inv q:=El q.c q.l q.s q.key q.xk q.xp q.xv q.b q.i
 μ q:=q.l.length-q.i
theorem Qr6 c l s key xk xp xv b i(hI:El c l s key xk xp xv b i):c8 (UC c l s key xk xp xv b i) (dj CI ⟨c,l,s,key,xk,xp,xv,b,i⟩):=by
 (rw[QGP];delta b7 dH cj c6;conv=>zeta)
 unfold El at hI;obtain⟨hR,hi,hz⟩:=hI;have lk:Qd l.length=true:=Qe (by have:=hR.2;omega);have c9:∀xk xp xv b i (y:cX),atR s key (l.drop i) (l4 ⟨xk,xp,xv⟩ b)=y->(Cm c l s key xk xp xv b i).val=some ((.exit 0,[(9,.bool y.isSome)]),[.var 56 (cH (y.getD pY).key (cH (y.getD pY).place (cH (y.getD pY).value .bN)))]):=fun _ _ _ _ _ y h=>by subst h;rfl
 have kC:atR s key (l.drop i) (l4 ⟨xk,xp,xv⟩ b)=l4 ⟨xk,xp,xv⟩ b->(Cm c l s key xk xp xv b i).val=some ((.exit 0,[(9,.bool b)]),[.var 56 (cH xk (cH xp (cH xv .bN)))]):=fun e=>by
  rw[c9 _ _ _ _ _ _ e];cases b
  ·obtain⟨rfl,rfl,rfl⟩:=hz rfl;rfl
  ·rfl
 rw[lk,ag]
 by_cases cU:i<l.length
 ·have w1:IntKind.i64.wrap ((i:Int)+1)=((i+1:Nat):Int):=by have:=hR.2;rw[cC (by omega) (by omega)];simp
  have d1:=ga (show i<l.length by omega)
  have d2:=fL (show i<l.length by omega)
  have t1:=bw i
  have hd:l.drop i=l.getD i dz::l.drop (i+1):=by rw[aJ cU];simp[cU]
  have hc:dO (nS l ((i:Int)).toNat/\0<=(i:Int))=true:=Q1 ⟨⟨hR,by omega⟩,by omega⟩
  have hs:atR s key (l.drop i) (l4 ⟨xk,xp,xv⟩ b)=if s<(l.getD i dz).place then l4 ⟨xk,xp,xv⟩ b else atR s key (l.drop (i+1)) (l4 (jQ key (l.getD i dz).place (l.getD i dz).writes ⟨xk,xp,xv⟩ b).1 (jQ key (l.getD i dz).place (l.getD i dz).writes ⟨xk,xp,xv⟩ b).2):=by
   rw[hd,QCh];rfl
  have hz2:=Qy4 key (l.getD i dz).place (l.getD i dz).writes ⟨xk,xp,xv⟩ b (fun e=>by obtain⟨rfl,rfl,rfl⟩:=hz e;rfl);simp only[d1,d2,w1,hc,ag];simp only[t1,bG];unfold dz at *;generalize l.getD i ⟨0,false,[]⟩=R at *
  by_cases q:s<R.place
  ·rw[ax q]at hs;simp only[ab q,ag];exact Qh _ (kC hs) rfl
  ·rw[aw q]at hs;simp only[ad q,ah];generalize jQ key R.place R.writes ⟨xk,xp,xv⟩ b=y at *;refine Qi (S:=CI) (s:=⟨c,l,s,key,xk,xp,xv,b,i⟩) ⟨c,l,s,key,y.1.key,y.1.place,y.1.value,y.2,i+1⟩ (show jL l/\i+1<=l.length/\(y.2=false->y.1.key=0/\y.1.place=0/\y.1.value=0)from⟨hR,cU,fun e=>by rw[hz2 e];exact⟨rfl,rfl,rfl⟩⟩) (show l.length-(i+1)<l.length-i by omega) ?_ rfl rfl;show(Cm c l s key y.1.key y.1.place y.1.value y.2 (i+1)).val=(Cm c l s key xk xp xv b i).val;rw[c9 _ _ _ _ i _ hs,c9 _ _ _ _ (i+1) _ rfl]
 ·have he:l.drop i=[]:=aO (by omega);have z1:decide ((i:Int)<l.length)=false:=by simp;omega
  rw[z1,ah];exact Qh _ (kC (by rw[he];rfl)) rfl
def Rq(env:bX)(os:bP):Option (Bool×Qze):=match env,os with
 |[(0,.sl .dU c l),(1,.int .i64 s),(2,.int .i64 key),(8,.ptr 0 []),(9,.bool b),(10,.int .i64 x0)],[.var 56 (.bI (.int .i64 xk) (.bI (.int .i64 xp) (.bI (.int .i64 xv) .bN)))]=>some (decide (x0=0)&&dO (jL l/\b=false/\xk=0/\xp=0/\xv=0),⟨c,l,s,key,xk,xp,xv,b,0⟩)
 |_,_=>none
def Ac:=Ab.cJ 137 5 (ey cu [.slot 8 0] [0,1,2,8,9,10] CI Rq)
theorem Qzh:Qk Tryz.prog cu Ac:=by
 refine Qzd.cq Qb (by kernel_rfl) CI 40 [0,1,2,8,9,10] [9] [.slot 8 0] [0,1,2,8,9,10] Rq (fun q hI=>?_) ?_
 ·obtain⟨c,l,s,key,xk,xp,xv,b,i⟩:=q;refine⟨?_,?_,Qr6 c l s key xk xp xv b i hI⟩
  ·simp_all[Qj,CI,Rp,Le,El,D.refs,Obj.refs,cV]
  ·simp_all[CI,Cm,Le,El,RT.cT,Qj,D.refs,Obj.refs,cV]
 ·intro env os b q cN hb;unfold Rq at cN
  split at cN
  ·cases cN;simp only[ai,aa]at hb;obtain⟨rfl,h1⟩:=hb;have h1:=Q9.1 h1;exact⟨⟨h1.1,aK _,fun _=>h1.2.2⟩,rfl,rfl⟩
  ·cases cN
def Qzi:bW->bO
 |[.sl .dU c l,.int .i64 s,.int .i64 key]=>some (dO (jL l),.cG (.bI (cH ((atR s key l none).getD pY).key (cH ((atR s key l none).getD pY).place (cH ((atR s key l none).getD pY).value .bN))) (.bI (.bool (atR s key l none).isSome) .bN)))
 |_=>none
def T9(c:Bool)(l:bS)(s key:Int):=eO cu Ac 60 137 [.sl (C:=RC) .dU c l,.int .i64 s,.int .i64 key]
theorem QGQ c l s key:T9 c l s key=(let Z0:bV:=cj 0;let Z1:cX:=atR s key (List.drop 0 l) (l4 (Item.mk 0 0 0) false);let Z2:Item:=Option.getD Z1 pY;b7 (decide (l.length<=1000)&&List.all l fun(r:Rec)=>Qd r.writes.length) (bif (bif JL l l.length 0 then (0:Int)else (2:Int))!=0 then some (D.cG (D.bI (D.bI Z0 (D.bI Z0 (D.bI Z0 .bN))) (.bI (D.bool false) .bN)))else b7 (dO (jL l/\false=false/\(0:Int)=0/\(0:Int)=0/\(0:Int)=0)) (some (D.cG (D.bI (D.bI (cj (Item.key Z2)) (.bI (cj (Item.place Z2)) (.bI (cj (Item.value Z2)) .bN))) (.bI (D.bool (Option.isSome Z1)) .bN)))))):=by kernel_rfl
theorem QGR c l s key(h:(dO (jL l))=true):T9 c l s key=some (.cG (.bI (cH ((atR s key l none).getD pY).key (cH ((atR s key l none).getD pY).place (cH ((atR s key l none).getD pY).value .bN))) (.bI (.bool (atR s key l none).isSome) .bN))):=by
 (rw[QGQ];delta b7 cj;conv=>zeta)
 have hR:=Q9.1 h;refine Qa (eK (ab (by have:=hR.2;omega)) hR.lens) ?_;rw[hR.1];refine Qq rfl (Qa (Q1 ⟨hR,rfl,rfl,rfl,rfl⟩) ?_);rw[bG];rfl
def Ad:=Ac.b8 137 Qzi
theorem Qzj:Qk Tryz.prog cu Ad:=Qzh.cQ Qb fun args d h=>by
 unfold Qzi at h
 split at h
 ·obtain⟨h1,rfl⟩:=ak h;exact⟨by simp[D.refs],60,QGR _ _ _ _ h1⟩
 ·cases h
structure Qlf where
 (c:Bool)(l:bS)(s:Int)(it:bM)(k:Nat)
def OH(c:Bool)(l:bS)(s:Int)(it:bM)(k:Nat):bX:=[(0,.sl (C:=RC) .dU c l),(1,.int .i64 s),(5,.vs 0 (it.length)),(6,.int .i64 (k:Int))]
def Ir(c:Bool)(l:bS)(s:Int)(it:bM)(k:Nat):bP:=[.vec .item true it]
def QpF c l s it k:=dQ cu Ad 77 3 40 1 [0,1,5,6] [5] [.slot 5 0] (OH c l s it k) (Ir c l s it k)
theorem Qzk c l s it k:QpF c l s it k=(let Z0:Int:=(k:Int);let Z1:=it.length;let Z2:Item:=Option.getD (atR s Z0 l none) pY;let Z3:bM:=[Item.mk (Item.key Z2) (Item.place Z2) (Item.value Z2)];let Z4:Nat×bV:=(0,D.sl b9.dU c l);let Z5:Nat×bV:=(1,cj s);let Z6:er:=[(6,cj (c6 (Z0+1)))];let Z7:Nat×bV:=(5,D.vs 0 Z1);bif decide (Z0<24)then b7 (dO (jL l)) (bif Option.isSome (atR s Z0 l none)then b7 (Nat.beq Z1 Z1&&Qg (Z1+Z3.length) 24) (some ((X.normal,Z4::Z5::(5,D.vs 0 (Z1+Z3.length))::Z6),[some (Obj.vec b9.item true (it++Z3))]))else some ((X.normal,Z4::Z5::Z7::Z6),[some (Obj.vec b9.item true it)]))else some ((X.exit 0,[Z7]),[some (Obj.vec b9.item true it)])):=by kernel_rfl
def Yl(c:Bool)(l:bS)(s:Int)(it:bM)(k:Nat):RT RC:=.leaf (.exit 0) [(5,.vs 0 (it++Ye l s (24-k) k).length)] [.vec .item true (it++Ye l s (24-k) k)]
def Vh(c:Bool)(l:bS)(s:Int)(it:bM)(k:Nat):Prop:=jL l/\k<=24/\it.length<=k
def KO:QD RC Qlf where
 k:=1
 cM q:=OH q.c q.l q.s q.it q.k
 cK q:=Ir q.c q.l q.s q.it q.k
 fin q:=Yl q.c q.l q.s q.it q.k
 Inv q:=Vh q.c q.l q.s q.it q.k
 μ q:=24-q.k
theorem Qlg c l s it k(hI:Vh c l s it k):c8 (QpF c l s it k) (dj KO ⟨c,l,s,it,k⟩):=by
 (rw[Qzk];delta b7 cj c6;conv=>zeta)
 unfold Vh at hI;obtain⟨hR,hk,hl⟩:=hI;have c9:∀L:bM,it++Ye l s (24-k) k=L->(Yl c l s it k).val=some ((.exit 0,[(5,.vs 0 L.length)]),[.vec .item true L]):=fun L h=>by subst h;rfl
 by_cases xg:k<24
 ·obtain⟨m,hm⟩:∃m,24-k=m+1:=⟨23-k,by omega⟩;have rT:24-(k+1)=m:=by omega
  have w1:=eG k (by omega)
  have d1:decide ((k:Int)<24)=true:=ab (by omega);have hb:∀n:Nat,Nat.beq n n=true:=fun n=>by simp
  have lX:∀x:Item,Item.mk x.key x.place x.value=x:=fun _=>rfl;have dV:Ye l s (m+1) k=(atR s (k:Int) l none).toList++Ye l s m (k+1):=rfl;rw[hm,dV]at c9;simp only[d1,w1,Q1 hR,lX,ag];cases ho:atR s (k:Int) l none with
  |none=>
   rw[ho]at c9;simp only[Option.isSome_none,ah];refine Qi (S:=KO) (s:=⟨c,l,s,it,k⟩) ⟨c,l,s,it,k+1⟩ (show Vh c l s it (k+1)from⟨hR,xg,by omega⟩) (show 24-(k+1)<24-k by omega) ?_ rfl rfl;show(Yl c l s it (k+1)).val=(Yl c l s it k).val;rw[c9 _ rfl];unfold Yl;rw[rT];rfl
  |some x=>
   rw[ho]at c9;have e1:it.length+([x]:bM).length=(it++[x]).length:=by simp
   have s1:Qg (it++[x]).length 24=true:=by simp[Qg];omega
   simp only[Option.isSome_some,ba,e1,s1,hb,au,ag];refine Qi (S:=KO) (s:=⟨c,l,s,it,k⟩) ⟨c,l,s,it++[x],k+1⟩ (show Vh c l s (it++[x]) (k+1)from⟨hR,xg,by simp;omega⟩) (show 24-(k+1)<24-k by omega) ?_ rfl rfl;show(Yl c l s (it++[x]) (k+1)).val=(Yl c l s it k).val;rw[c9 (it++[x]++Ye l s m (k+1)) (by simp)];unfold Yl;rw[rT];rfl
 ·have d1:decide ((k:Int)<24)=false:=ad (by omega);rw[d1,ah];have e:24-k=0:=by omega
  rw[e]at c9;exact Qh _ (c9 it (by show it++[]=it;simp)) rfl
def OI(env:bX)(os:bP):Option (Bool×Qlf):=match env,os with
 |[(0,.sl .dU c l),(1,.int .i64 s),(5,.vs 0 x0),(6,.int .i64 x1)],[.vec .item true it]=>some (decide (x0=it.length)&&decide (x1=0)&&dO (jL l)&&it.isEmpty,⟨c,l,s,it,0⟩)
 |_,_=>none
def Ae:=Ad.cJ 77 3 (ey cu [.slot 5 0] [0,1,5,6] KO OI)
theorem Qzl:Qk Tryz.prog cu Ae:=by
 refine Qzj.cq Qb (by kernel_rfl) KO 40 [0,1,5,6] [5] [.slot 5 0] [0,1,5,6] OI (fun q hI=>?_) ?_
 ·obtain⟨c,l,s,it,k⟩:=q;refine⟨?_,?_,Qlg c l s it k hI⟩
  ·simp_all[Qj,KO,OH,Ir,Vh,D.refs,Obj.refs,cV]
  ·simp_all[KO,Yl,Ir,Vh,RT.cT,Qj,D.refs,Obj.refs,cV]
 ·intro env os b q cN hb;unfold OI at cN
  split at cN
  ·cases cN;simp only[ai,aa]at hb;obtain⟨⟨⟨h1,h2⟩,hA⟩,hl⟩:=hb;have hl:=List.isEmpty_iff.1 hl;subst h1;subst h2;subst hl;exact⟨⟨Q9.1 hA,aK _,aK _⟩,rfl,rfl⟩
  ·cases cN
def QpG:bW->bO
 |[.sl .dU c l,.int .i64 s]=>some (dO (jL l),.sl (C:=RC) .item false (Ye l s 24 0))
 |_=>none
def Qzn(c:Bool)(l:bS)(s:Int):=ky cu Ae 60 77 [.sl (C:=RC) .dU c l,.int .i64 s]
theorem QCj c l s:Qzn c l s=(let Z0:bM:=[]++Ye l s (24:Nat) (0:Nat);b7 (dO (jL l)&&true) (b7 (Nat.beq Z0.length Z0.length) (some (D.sl b9.item false Z0)))):=by kernel_rfl
theorem QCk c l s(h:(dO (jL l))=true):Qzn c l s=some (.sl (C:=RC) .item false (Ye l s 24 0)):=by
 (rw[QCj];delta b7;conv=>zeta)
 exact Qa (eK h rfl) (Qa (Zp rfl) rfl)
def Af:=Ae.b8 77 QpG
theorem Qzo:Qk Tryz.prog cu Af:=Qzl.iv Qb fun args d h=>by
 unfold QpG at h
 split at h
 ·obtain⟨h1,rfl⟩:=ak h;exact⟨by simp[D.refs],60,QCk _ _ _ h1⟩
 ·cases h
structure Qlh where
 (c:Bool)(l:bS)(q:Int)(out:bJ)(i:Int)(j:Nat)
def OJ(c:Bool)(l:bS)(q:Int)(out:bJ)(i:Int)(j:Nat):bX:=[(0,.sl (C:=RC) .dU c l),(1,.int .i64 q),(5,.vs 0 (out.length)),(6,.int .i64 i),(7,.int .i64 (j:Int))]
def Is(c:Bool)(l:bS)(q:Int)(out:bJ)(i:Int)(j:Nat):bP:=[.vec .line true out]
def QpH c l q out i j:=dQ cu Af 138 6 40 1 [0,1,5,6,7] [5] [.slot 5 0] (OJ c l q out i j) (Is c l q out i j)
theorem Qzp c l q out i j:QpH c l q out i j=(let Z0:Bool:=dH i (l.length:Int);let Z1:Rec:=List.getD l i.toNat (Rec.mk 0 false []);let Z2:=List.length Z1.writes;let Z3:Int:=(j:Int);let Z4:Qo:=List.getD Z1.writes Z3.toNat (Qo.mk 0 0);let Z5:=out.length;let Z6:bJ:=[cg.mk (Z5:Int) Z1.place Z3 (Int.tmod (Qo.key Z4) 8) (Qo.value Z4)];let Z7:Nat×bV:=(0,D.sl b9.dU c l);let Z8:Nat×bV:=(1,cj q);let Z9:er:=[(6,cj i),(7,cj (c6 (Z3+1)))];let db:Nat×bV:=(5,D.vs 0 Z5);b7 Z0 (b7 (Qd Z2) (bif decide (Z3<(Z2:Int))then b7 Z0 (b7 (dH Z3 (Z2:Int)) (bif c6 (Int.tdiv (Qo.key Z4) 8)==q then b7 (Qd Z5) (b7 Z0 (b7 (Nat.beq Z5 Z5&&Qg (Z5+Z6.length) 40) (some ((X.normal,Z7::Z8::(5,D.vs 0 (Z5+Z6.length))::Z9),[some (Obj.vec b9.line true (out++Z6))]))))else some ((X.normal,Z7::Z8::db::Z9),[some (Obj.vec b9.line true out)])))else some ((X.exit 2,[db]),[some (Obj.vec b9.line true out)])))):=by kernel_rfl
def Vi(c:Bool)(l:bS)(q:Int)(out:bJ)(i:Int)(j:Nat):RT RC:=.leaf (.exit 2) [(5,.vs 0 (kw (l.getD i.toNat dz).place q j ((l.getD i.toNat dz).writes.drop j) out).length)] [.vec .line true (kw (l.getD i.toNat dz).place q j ((l.getD i.toNat dz).writes.drop j) out)]
def J6(c:Bool)(l:bS)(q:Int)(out:bJ)(i:Int)(j:Nat):Prop:=nS l i.toNat/\0<=i/\j<=(l.getD i.toNat dz).writes.length/\out.length<=1000+j
def VT:QD RC Qlh where
 k:=1
 cM q:=OJ q.c q.l q.q q.out q.i q.j
 cK q:=Is q.c q.l q.q q.out q.i q.j
 fin q:=Vi q.c q.l q.q q.out q.i q.j
 Inv q:=J6 q.c q.l q.q q.out q.i q.j
 μ q:=(q.l.getD q.i.toNat dz).writes.length-q.j
theorem Qli c l q out i j(hI:J6 c l q out i j):c8 (QpH c l q out i j) (dj VT ⟨c,l,q,out,i,j⟩):=by
 (rw[Qzp];delta b7 dH cj c6;conv=>zeta)
 unfold J6 at hI;obtain⟨⟨hR,hi⟩,i0,hj,ho⟩:=hI;have hm:=hR.may hi;have h4:=JH hm;have vQ:=QoS hm;have hp:=(Vw (p:=(l.getD i.toNat dz).place) (y:=(l.getD i.toNat dz).yes) (l:=(l.getD i.toNat dz).writes) hm).1;have FT:∀out j,j<=(l.getD i.toNat dz).writes.length->out.length<=1000+j->VT.Inv ⟨c,l,q,out,i,j⟩:=fun out j h1 h2=>⟨⟨hR,hi⟩,i0,h1,h2⟩;have vE:∀out j,VT.μ ⟨c,l,q,out,i,j⟩=(l.getD i.toNat dz).writes.length-j:=fun _ _=>rfl;have di:decide (0<=i/\i<(l.length:Int))=true:=ab (by omega);have c9:∀out j (L:bJ),kw (l.getD i.toNat dz).place q j ((l.getD i.toNat dz).writes.drop j) out=L->(Vi c l q out i j).val=some ((.exit 2,[(5,.vs 0 L.length)]),[.vec .line true L]):=fun _ _ L h=>by subst h;rfl
 unfold dz at *
 generalize l.getD i.toNat ⟨0,false,[]⟩=R at *
 have lk:Qd R.writes.length=true:=Qe (by omega);simp only[di,lk,ag]
 by_cases cU:j<R.writes.length
 ·have w1:=eG j (by omega)
  have d1:=ga (show j<R.writes.length by omega)
  have d2:=fL (show j<R.writes.length by omega)
  have t1:=bw j
  have ju:=QkC vQ cU;have hs:=QGL (p:=R.place) (q:=q) (out:=out) cU;simp only[d1,d2,w1,t1,ag];generalize R.writes.getD j ⟨0,0⟩=x at *;have e1:IntKind.i64.wrap (x.key.tdiv 8)=x.key/8:=by rw[Int.tdiv_eq_ediv_of_nonneg (by omega)];exact cC (by omega) (by omega)
  have e2:x.key.tmod 8=x.key%8:=Int.tmod_eq_emod_of_nonneg (by omega);simp only[e1,e2]
  by_cases hq:x.key/8=q
  ·rw[ax hq]at hs;have lo:Qd out.length=true:=Qe (by omega);obtain⟨X,hX⟩:∃X,X=cg.mk (out.length:Int) R.place (j:Int) (x.key%8) x.value:=⟨_,rfl⟩;rw[<-hX]at hs;have e4:out.length+([X]:bJ).length=(out++[X]).length:=by simp
   have s1:Qg (out++[X]).length 40=true:=Zt (by simp;omega);simp only[CW hq,lo,<-hX,e4,s1,Zp rfl,au,ag];refine Qi (S:=VT) (s:=⟨c,l,q,out,i,j⟩) ⟨c,l,q,out++[X],i,j+1⟩ (FT _ _ cU (by simp;omega)) (by rw[vE,vE];omega) ?_ rfl rfl;show(Vi c l q (out++[X]) i (j+1)).val=(Vi c l q out i j).val;rw[c9 _ (j+1) _ rfl,c9 _ j _ hs]
  ·rw[aw hq]at hs;simp only[CX hq,ah];refine Qi (S:=VT) (s:=⟨c,l,q,out,i,j⟩) ⟨c,l,q,out,i,j+1⟩ (FT _ _ cU (by omega)) (by rw[vE,vE];omega) ?_ rfl rfl;show(Vi c l q out i (j+1)).val=(Vi c l q out i j).val;rw[c9 _ (j+1) _ rfl,c9 _ j _ hs]
 ·have he:R.writes.drop j=[]:=aO (by omega);have z1:decide ((j:Int)<R.writes.length)=false:=by simp;omega
  rw[z1,ah];exact Qh _ (c9 _ j out (by rw[he];rfl)) rfl
def OK(env:bX)(os:bP):Option (Bool×Qlh):=match env,os with
 |[(0,.sl .dU c l),(1,.int .i64 q),(5,.vs 0 x0),(6,.int .i64 i),(7,.int .i64 x1)],[.vec .line true out]=>some (decide (x0=out.length)&&decide (x1=0)&&dO (nS l i.toNat/\0<=i/\out.length<=1000),⟨c,l,q,out,i,0⟩)
 |_,_=>none
def Ag:=Af.cJ 138 6 (ey cu [.slot 5 0] [0,1,5,6,7] VT OK)
theorem Qzq:Qk Tryz.prog cu Ag:=by
 refine Qzo.cq Qb (by kernel_rfl) VT 40 [0,1,5,6,7] [5] [.slot 5 0] [0,1,5,6,7] OK (fun q hI=>?_) ?_
 ·obtain⟨c,l,q,out,i,j⟩:=q;refine⟨?_,?_,Qli c l q out i j hI⟩
  ·simp_all[Qj,VT,OJ,Is,J6,D.refs,Obj.refs,cV]
  ·simp_all[VT,Vi,Is,J6,RT.cT,Qj,D.refs,Obj.refs,cV]
 ·intro env os b q cN hb;unfold OK at cN
  split at cN
  ·cases cN;simp only[ai,aa]at hb;obtain⟨⟨rfl,rfl⟩,h1⟩:=hb;have h1:=Q9.1 h1;exact⟨⟨h1.1,h1.2.1,aK _,h1.2.2⟩,rfl,rfl⟩
  ·cases cN
structure Qlj where
 (c:Bool)(l:bS)(q:Int)(out:bJ)(i:Nat)
def OL(c:Bool)(l:bS)(q:Int)(out:bJ)(i:Nat):bX:=[(0,.sl (C:=RC) .dU c l),(1,.int .i64 q),(5,.vs 0 (out.length)),(6,.int .i64 (i:Int))]
def It(c:Bool)(l:bS)(q:Int)(out:bJ)(i:Nat):bP:=[.vec .line true out]
def QpI c l q out i:=dQ cu Ag 138 3 40 1 [0,1,5,6] [5] [.slot 5 0] (OL c l q out i) (It c l q out i)
theorem Qzr c l q out i:QpI c l q out i=(let Z0:Int:=(i:Int);let Z1:=out.length;let Z2:Rec:=List.getD l Z0.toNat dz;let Z3:bJ:=kw Z2.place q 0 (List.drop 0 Z2.writes) out;b7 (Qd l.length) (bif decide (Z0<(l.length:Int))then b7 (decide (Z1=Z1)&&true&&dO (nS l Z0.toNat/\(0:Int)<=Z0/\Z1<=1000)) (some ((X.normal,[(0,D.sl b9.dU c l),(1,cj q),(5,D.vs 0 Z3.length),(6,cj (c6 (Z0+1)))]),[some (Obj.vec b9.line true Z3)]))else some ((X.exit 0,[(5,D.vs 0 Z1)]),[some (Obj.vec b9.line true out)]))):=by kernel_rfl
def J7(c:Bool)(l:bS)(q:Int)(out:bJ)(i:Nat):RT RC:=.leaf (.exit 0) [(5,.vs 0 (fJ q (l.drop i) out).length)] [.vec .line true (fJ q (l.drop i) out)]
def VY(c:Bool)(l:bS)(q:Int)(out:bJ)(i:Nat):Prop:=jL l/\i<=l.length/\out.length<=4*i
def Cn:QD RC Qlj where
 k:=1
 cM q:=OL q.c q.l q.q q.out q.i
 cK q:=It q.c q.l q.q q.out q.i
 fin q:=J7 q.c q.l q.q q.out q.i
 Inv q:=VY q.c q.l q.q q.out q.i
 μ q:=q.l.length-q.i
theorem Qlk c l q out i(hI:VY c l q out i):c8 (QpI c l q out i) (dj Cn ⟨c,l,q,out,i⟩):=by
 (rw[Qzr];delta b7 cj c6;conv=>zeta)
 unfold VY at hI;obtain⟨hR,hi,ho⟩:=hI;have m6:=hR.2;have lk:Qd l.length=true:=Qe (by omega);have c9:∀out i (L:bJ),fJ q (l.drop i) out=L->(J7 c l q out i).val=some ((.exit 0,[(5,.vs 0 L.length)]),[.vec .line true L]):=fun _ _ L h=>by subst h;rfl
 rw[lk,ag]
 by_cases cU:i<l.length
 ·have w1:=eG i (by omega)
  have d1:=ga (show i<l.length by omega)
  have t1:=bw i
  have hd:l.drop i=l.getD i dz::l.drop (i+1):=by rw[aJ cU];simp[cU]
  have h4:=JH (hR.may cU);have Db:=QpB (l.getD i dz).place q 0 (l.getD i dz).writes out;have hc:dO (nS l ((i:Int)).toNat/\0<=(i:Int)/\out.length<=1000)=true:=Q1 ⟨⟨hR,by omega⟩,by omega,by omega⟩;have hs:fJ q (l.drop i) out=fJ q (l.drop (i+1)) (kw (l.getD i dz).place q 0 (l.getD i dz).writes out):=by rw[hd];rfl
  simp only[d1,w1,hc,aM,au,ag];simp only[t1,bG];generalize kw (l.getD i dz).place q 0 (l.getD i dz).writes out=L at *;refine Qi (S:=Cn) (s:=⟨c,l,q,out,i⟩) ⟨c,l,q,L,i+1⟩ (show VY c l q L (i+1)from⟨hR,cU,by omega⟩) (show l.length-(i+1)<l.length-i by omega) ?_ rfl rfl;show(J7 c l q L (i+1)).val=(J7 c l q out i).val;rw[c9 _ (i+1) _ rfl,c9 _ i _ hs]
 ·have he:l.drop i=[]:=aO (by omega);have z1:decide ((i:Int)<l.length)=false:=by simp;omega
  rw[z1,ah];exact Qh _ (c9 _ i out (by rw[he];rfl)) rfl
def OM(env:bX)(os:bP):Option (Bool×Qlj):=match env,os with
 |[(0,.sl .dU c l),(1,.int .i64 q),(5,.vs 0 x0),(6,.int .i64 x1)],[.vec .line true out]=>some (decide (x0=out.length)&&decide (x1=0)&&dO (jL l)&&out.isEmpty,⟨c,l,q,out,0⟩)
 |_,_=>none
def Ah:=Ag.cJ 138 3 (ey cu [.slot 5 0] [0,1,5,6] Cn OM)
theorem Qzs:Qk Tryz.prog cu Ah:=by
 refine Qzq.cq Qb (by kernel_rfl) Cn 40 [0,1,5,6] [5] [.slot 5 0] [0,1,5,6] OM (fun q hI=>?_) ?_
 ·obtain⟨c,l,q,out,i⟩:=q;refine⟨?_,?_,Qlk c l q out i hI⟩
  ·simp_all[Qj,Cn,OL,It,VY,D.refs,Obj.refs,cV]
  ·simp_all[Cn,J7,It,VY,RT.cT,Qj,D.refs,Obj.refs,cV]
 ·intro env os b q cN hb;unfold OM at cN
  split at cN
  ·cases cN;simp only[ai,aa]at hb;obtain⟨⟨⟨h1,h2⟩,hA⟩,hl⟩:=hb;have hl:=List.isEmpty_iff.1 hl;subst h1;subst h2;subst hl;exact⟨⟨Q9.1 hA,aK _,aK _⟩,rfl,rfl⟩
  ·cases cN
def QpJ:bW->bO
 |[.sl .dU c l,.int .i64 q]=>some (dO (jL l),.sl (C:=RC) .line false (fJ q l []))
 |_=>none
def Qzu(c:Bool)(l:bS)(q:Int):=ky cu Ah 60 138 [.sl (C:=RC) .dU c l,.int .i64 q]
theorem QCl c l q:Qzu c l q=(let Z0:bJ:=fJ q (List.drop (0:Nat) l) [];b7 (dO (jL l)&&true) (b7 (Nat.beq Z0.length Z0.length) (some (D.sl b9.line false Z0)))):=by kernel_rfl
theorem QCm c l q(h:(dO (jL l))=true):Qzu c l q=some (.sl (C:=RC) .line false (fJ q l [])):=by
 (rw[QCl];delta b7;conv=>zeta)
 refine Qa (eK h rfl) (Qa (Zp rfl) ?_);rw[bG]
def M2:=Ah.b8 138 QpJ
theorem Qr7:Qk Tryz.prog cu M2:=Qzs.iv Qb fun args d h=>by
 unfold QpJ at h
 split at h
 ·obtain⟨h1,rfl⟩:=ak h;exact⟨by simp[D.refs],60,QCm _ _ _ h1⟩
 ·cases h
structure Qll where
 (a b:Int)(out:bJ)(c:Bool)(A:bJ)(i:Nat)
def Iu(a b:Int)(out:bJ)(c:Bool)(A:bJ)(i:Nat):bX:=[(1,.int .i64 a),(2,.int .i64 b),(9,.vs 0 (out.length)),(10,.sl (C:=RC) .line c A),(11,.int .i64 (i:Int))]
def Iv(a b:Int)(out:bJ)(c:Bool)(A:bJ)(i:Nat):bP:=[.vec .line true out]
def QpK a b out c A i:=dQ cu M2 78 6 40 1 [1,2,9,10,11] [9] [.slot 9 0] (Iu a b out c A i) (Iv a b out c A i)
theorem Qzv a b out c A i:QpK a b out c A i=(let Z0:Int:=(i:Int);let Z1:Bool:=dH Z0 (A.length:Int);let Z2:cg:=List.getD A Z0.toNat (cg.mk 0 0 0 0 0);let Z3:=cg.place Z2;let Z4:=out.length;let Z5:bJ:=[cg.mk (cg.offset Z2) Z3 (cg.j Z2) (cg.key Z2) (cg.value Z2)];let Z6:Nat×bV:=(1,cj a);let Z7:Nat×bV:=(2,cj b);let Z8:er:=[(10,D.sl b9.line c A),(11,cj (c6 (Z0+1)))];let Z9:Nat×bV:=(9,D.vs 0 Z4);let db:mL:=some ((X.normal,Z6::Z7::Z9::Z8),[some (Obj.vec b9.line true out)]);b7 (Qd A.length) (bif decide (Z0<(A.length:Int))then b7 Z1 (bif decide (a<Z3)then b7 Z1 (bif decide (Z3<=b)then b7 Z1 (b7 (Nat.beq Z4 Z4&&Qg (Z4+Z5.length) 40) (some ((X.normal,Z6::Z7::(9,D.vs 0 (Z4+Z5.length))::Z8),[some (Obj.vec b9.line true (out++Z5))])))else db)else db)else some ((X.exit 0,[Z9]),[some (Obj.vec b9.line true out)]))):=by kernel_rfl
def Vj(a b:Int)(out:bJ)(c:Bool)(A:bJ)(i:Nat):RT RC:=.leaf (.exit 0) [(9,.vs 0 (out++(A.drop i).filter fun x=>decide (a<x.place)&&decide (x.place<=b)).length)] [.vec .line true (out++(A.drop i).filter fun x=>decide (a<x.place)&&decide (x.place<=b))]
def Vk(a b:Int)(out:bJ)(c:Bool)(A:bJ)(i:Nat):Prop:=i<=A.length/\A.length<=1000/\out.length<=i
def JA:QD RC Qll where
 k:=1
 cM q:=Iu q.a q.b q.out q.c q.A q.i
 cK q:=Iv q.a q.b q.out q.c q.A q.i
 fin q:=Vj q.a q.b q.out q.c q.A q.i
 Inv q:=Vk q.a q.b q.out q.c q.A q.i
 μ q:=q.A.length-q.i
theorem Qlm a b out c A i(hI:Vk a b out c A i):c8 (QpK a b out c A i) (dj JA ⟨a,b,out,c,A,i⟩):=by
 (rw[Qzv];delta b7 dH cj c6;conv=>zeta)
 unfold Vk at hI;obtain⟨hi,hA,ho⟩:=hI;have lk:Qd A.length=true:=Qe (by omega);have c9:∀out i (L:bJ),(out++(A.drop i).filter fun x=>decide (a<x.place)&&decide (x.place<=b))=L->(Vj a b out c A i).val=some ((.exit 0,[(9,.vs 0 L.length)]),[.vec .line true L]):=fun _ _ L h=>by subst h;rfl
 rw[lk,ag]
 by_cases cU:i<A.length
 ·have w1:=eG i (by omega)
  have d1:=ga (show i<A.length by omega)
  have d2:=fL (show i<A.length by omega)
  have t1:=bw i
  have hd:A.drop i=A.getD i ⟨0,0,0,0,0⟩::A.drop (i+1):=by rw[aJ cU];simp[cU]
  have lX:∀x:cg,cg.mk x.offset x.place x.j x.key x.value=x:=fun _=>rfl;simp only[d1,d2,w1,t1,lX,ag]
  have hs:(out++(A.drop i).filter fun x=>decide (a<x.place)&&decide (x.place<=b))=(if a<(A.getD i ⟨0,0,0,0,0⟩).place/\(A.getD i ⟨0,0,0,0,0⟩).place<=b then out++[A.getD i ⟨0,0,0,0,0⟩]else out)++(A.drop (i+1)).filter fun x=>decide (a<x.place)&&decide (x.place<=b):=by
   rw[hd,List.filter_cons]
   by_cases q1:a<(A.getD i ⟨0,0,0,0,0⟩).place
   ·by_cases q2:(A.getD i ⟨0,0,0,0,0⟩).place<=b
    ·rw[ax (by rw[ab q1,ab q2];rfl),ax ⟨q1,q2⟩];simp
    ·rw[aw (by rw[ad q2];simp),aw (fun e=>q2 e.2)]
   ·rw[aw (by rw[ad q1];simp),aw (fun e=>q1 e.1)]
  generalize A.getD i ⟨0,0,0,0,0⟩=X at *
  have kK:¬(a<X.place/\X.place<=b)->c8 (some ((Ev.X.normal,Iu a b out c A (i+1)),[some (Obj.vec (C:=RC) .line true out)])) (dj JA ⟨a,b,out,c,A,i⟩):=fun q=>by
   rw[aw q]at hs;refine Qi (S:=JA) (s:=⟨a,b,out,c,A,i⟩) ⟨a,b,out,c,A,i+1⟩ (show Vk a b out c A (i+1)from⟨cU,hA,by omega⟩) (show A.length-(i+1)<A.length-i by omega) ?_ rfl rfl;show(Vj a b out c A (i+1)).val=(Vj a b out c A i).val;rw[c9 _ (i+1) _ rfl,c9 _ i _ hs]
  by_cases q1:a<X.place
  ·rw[ab q1,ag]
   by_cases q2:X.place<=b
   ·rw[ax ⟨q1,q2⟩]at hs;have e4:out.length+([X]:bJ).length=(out++[X]).length:=by simp
    have s1:Qg (out++[X]).length 40=true:=Zt (by simp;omega);simp only[ab q2,e4,s1,Zp rfl,au,ag];refine Qi (S:=JA) (s:=⟨a,b,out,c,A,i⟩) ⟨a,b,out++[X],c,A,i+1⟩ (show Vk a b (out++[X]) c A (i+1)from⟨cU,hA,by simp;omega⟩) (show A.length-(i+1)<A.length-i by omega) ?_ rfl rfl;show(Vj a b (out++[X]) c A (i+1)).val=(Vj a b out c A i).val;rw[c9 _ (i+1) _ rfl,c9 _ i _ hs]
   ·simp only[ad q2,ah];exact kK (fun e=>q2 e.2)
  ·rw[ad q1,ah];exact kK (fun e=>q1 e.1)
 ·have he:A.drop i=[]:=aO (by omega);have z1:decide ((i:Int)<A.length)=false:=by simp;omega
  rw[z1,ah];exact Qh _ (c9 _ i out (by rw[he];simp)) rfl
def ON(env:bX)(os:bP):Option (Bool×Qll):=match env,os with
 |[(1,.int .i64 a),(2,.int .i64 b),(9,.vs 0 x0),(10,.sl .line c A),(11,.int .i64 x1)],[.vec .line true out]=>some (decide (x0=out.length)&&decide (x1=0)&&decide (A.length<=1000)&&out.isEmpty,⟨a,b,out,c,A,0⟩)
 |_,_=>none
def M3:=M2.cJ 78 6 (ey cu [.slot 9 0] [1,2,9,10,11] JA ON)
theorem Qr8:Qk Tryz.prog cu M3:=by
 refine Qr7.cq Qb (by kernel_rfl) JA 40 [1,2,9,10,11] [9] [.slot 9 0] [1,2,9,10,11] ON (fun q hI=>?_) ?_
 ·obtain⟨a,b,out,c,A,i⟩:=q;refine⟨?_,?_,Qlm a b out c A i hI⟩
  ·simp_all[Qj,JA,Iu,Iv,Vk,D.refs,Obj.refs,cV]
  ·simp_all[JA,Vj,Iv,Vk,RT.cT,Qj,D.refs,Obj.refs,cV]
 ·intro env os b q cN hb;unfold ON at cN
  split at cN
  ·cases cN;simp only[ai,aa]at hb;obtain⟨⟨⟨h1,h2⟩,hA⟩,hl⟩:=hb;have hl:=List.isEmpty_iff.1 hl;subst h1;subst h2;subst hl;exact⟨⟨aK _,hA,aK _⟩,rfl,rfl⟩
  ·cases cN
def QpL:bW->bO
 |[.sl .dU c l,.int .i64 a,.int .i64 b,.int .i64 q]=>some (dO (jL l)&&decide (0<=q/\q<3),.sl (C:=RC) .line false (cA l a b q))
 |_=>none
def Qzx(c:Bool)(l:bS)(a b q:Int):=ky cu M3 60 78 [.sl (C:=RC) .dU c l,.int .i64 a,.int .i64 b,.int .i64 q]
theorem QCn c l a b q:Qzx c l a b q=(let Z0:fI:=some (D.sl b9.line false []);let Z1:bJ:=[]++List.filter (fun(x:cg)=>decide (a<cg.place x)&&decide (cg.place x<=b)) (List.drop 0 (fJ q l []));b7 (decide (l.length<=1000)&&List.all l fun(r:Rec)=>Qd r.writes.length) (bif (bif JL l l.length 0 then (0:Int)else (2:Int))!=0 then Z0 else bif decide (q<0)then Z0 else bif decide ((3:Int)<=q)then Z0 else b7 (dO (jL l)) (b7 (decide (List.length (fJ q l [])<=1000)&&true) (b7 (Nat.beq Z1.length Z1.length) (some (D.sl b9.line false Z1)))))):=by kernel_rfl
theorem QCo c l a b q(h:(dO (jL l)&&decide (0<=q/\q<3))=true):Qzx c l a b q=some (.sl (C:=RC) .line false (cA l a b q)):=by
 (rw[QCn];delta b7;conv=>zeta)
 rw[ai]at h;obtain⟨hc,hq⟩:=h;have hq:=af hq;have hR:=Q9.1 hc;refine Qa (eK (ab (by have:=hR.2;omega)) hR.lens) ?_;rw[hR.1];have hl:=Qle q hR;refine Qq rfl (Qq (ad (by omega)) (Qq (ad (by omega)) (Qa hc (Qa (eK (ab hl) rfl) (Qa (Zp rfl) ?_)))));rw[bG,aH];rfl
def M4:=M3.b8 78 QpL
theorem Qr9:Qk Tryz.prog cu M4:=Qr8.iv Qb fun args d h=>by
 unfold QpL at h
 split at h
 ·obtain⟨h1,rfl⟩:=ak h;exact⟨by simp[D.refs],60,QCo _ _ _ _ _ h1⟩
 ·cases h
def pf(A:bJ)(q:Int)(m0 m1 m2:bJ)(cl:bQ)(i:Int):Prop:=A.length<=1000/\0<=q/\q<3/\cl.length=3/\0<=i/\i<=A.length/\m0.length<=i+1000/\m1.length<=i+1000/\m2.length<=i+1000
def fb(q n:Int)(m A:bJ)(i c:Int):bJ:=if q=n then m++(A.drop i.toNat).filter fun x=>decide (c<x.place)else m
theorem OO{q n:Int}{m A:bJ}{i c:Int}(h:A.length<=i.toNat):fb q n m A i c=m:=by
 unfold fb;rw[aO h];simp
theorem QJ{q n:Int}(h:q≠n)(m A:bJ)(i c:Int):fb q n m A i c=m:=aw h
theorem Pq{q:Int}{m A:bJ}{i c:Int}(i0:0<=i)(h:i.toNat<A.length):fb q q m A i c=fb q q (if c<(A.getD i.toNat ⟨0,0,0,0,0⟩).place then m++[A.getD i.toNat ⟨0,0,0,0,0⟩]else m) A (i+1) c:=by
 have e:A.getD i.toNat ⟨0,0,0,0,0⟩=A[i.toNat]:=by simp[h]
 have ei:(i+1).toNat=i.toNat+1:=by omega
 unfold fb;rw[ax rfl,ax rfl,aJ h,List.filter_cons,e,ei]
 by_cases hq:c<A[i.toNat].place
 ·rw[ab hq,ax rfl,ax hq];simp
 ·rw[ad hq,aw (by simp),aw hq]
def rB(l:bS)(s:Int)(m0 m1 m2:bJ)(cl:bQ)(q:Nat):Prop:=jL l/\q<=3/\cl.length=3/\(∀n,q<=n->cl.getD n 0=0)/\(q<=0->m0=[])/\(q<=1->m1=[])/\(q<=2->m2=[])/\m0.length<=1000/\m1.length<=1000/\m2.length<=1000
def mG(q n:Nat)(m f:bJ):bJ:=if q<=n then f else m
def pL(l:bS)(s:Int)(cl:bQ)(q:Nat):bQ:=[if q<=0 then pR (cA l 0 s 0)else cl.getD 0 0,if q<=1 then pR (cA l 0 s 1)else cl.getD 1 0,if q<=2 then pR (cA l 0 s 2)else cl.getD 2 0]
theorem Nn{l:bS}(h:jL l)(a b q:Int):(cA l a b q).length<=1000:=by
 unfold cA;exact bk (List.length_filter_le _ _) (Qle q h)
theorem Hz{l:bS}(h:jL l)(a b q:Int):(ZX (cA l a b q)).length<=1000:=by
 unfold ZX;have:=List.length_filter_le (fun y:cg=>decide (pR (cA l a b q)<y.place)) ((cA l a b q).drop ((cA l a b q).length-16));have:=Nn h a b q;rw[bq]at *;omega
theorem Wt{l:bS}{s:Int}{m0 m1 m2:bJ}{cl jC:bQ}{q:Nat}{F:Int}(h:rB l s m0 m1 m2 cl q)(hq:q<3)(hF:F=(((cA l 0 s (q:Int)).length-16:Nat):Int))(hl:jC.length=3)(hc:jC.getD q 0=pR (cA l 0 s (q:Int)))(ho:∀n,n≠q->jC.getD n 0=cl.getD n 0) :
 pf (cA l 0 s (q:Int)) (q:Int) m0 m1 m2 jC F /\
 rB l s (fb (q:Int) 0 m0 (cA l 0 s (q:Int)) F (jC.getD ((q:Int)).toNat 0)) (fb (q:Int) 1 m1 (cA l 0 s (q:Int)) F (jC.getD ((q:Int)).toNat 0)) (fb (q:Int) 2 m2 (cA l 0 s (q:Int)) F (jC.getD ((q:Int)).toNat 0)) jC (q+1) /\
 mG (q+1) 0 (fb (q:Int) 0 m0 (cA l 0 s (q:Int)) F (jC.getD ((q:Int)).toNat 0)) (ZX (cA l 0 s 0))=mG q 0 m0 (ZX (cA l 0 s 0)) /\
 mG (q+1) 1 (fb (q:Int) 1 m1 (cA l 0 s (q:Int)) F (jC.getD ((q:Int)).toNat 0)) (ZX (cA l 0 s 1))=mG q 1 m1 (ZX (cA l 0 s 1)) /\
 mG (q+1) 2 (fb (q:Int) 2 m2 (cA l 0 s (q:Int)) F (jC.getD ((q:Int)).toNat 0)) (ZX (cA l 0 s 2))=mG q 2 m2 (ZX (cA l 0 s 2)) /\
 pL l s jC (q+1)=pL l s cl q:=by
 obtain⟨hR,q3,o6,hz,e0,e1,e2,n0,n1,n2⟩:=h;have nV:=Nn hR 0 s (q:Int);have mg:=Hz hR 0 s (q:Int);have htq:((q:Int)).toNat=q:=by omega
 have tz:∀m:bJ,m=[]->fb (q:Int) (q:Int) m (cA l 0 s (q:Int)) F (jC.getD ((q:Int)).toNat 0)=ZX (cA l 0 s (q:Int)):=fun m hm=>by
  subst hm;unfold fb ZX;rw[ax rfl,htq,hc,hF,aH]
  congr 1
 have oo:∀(n:Nat) (m:bJ),n≠q->fb (q:Int) (n:Int) m (cA l 0 s (q:Int)) F (jC.getD ((q:Int)).toNat 0)=m:=fun n m hn=>QJ (by omega) _ _ _ _;have hO3:pf (cA l 0 s (q:Int)) (q:Int) m0 m1 m2 jC F:=⟨nV,by omega,by omega,hl,by omega,by omega,by omega,by omega,by omega⟩;have LS:∀n,q+1<=n->jC.getD n 0=0:=fun n hn=>by rw[ho n (by omega)];exact hz n (by omega)
 refine⟨hO3,?_⟩;have hq3:q=0\/q=1\/q=2:=by omega
 rcases hq3 with rfl|rfl|rfl
 ·have a0:=tz m0 (e0 (by omega));have a1:=oo 1 m1 (by omega);have a2:=oo 2 m2 (by omega);simp only[Int.natCast_zero,Int.natCast_one,show((2:Nat):Int)=2 from rfl]at a0 a1 a2 mg hc ⊢;rw[a0,a1,a2];refine⟨⟨hR,by omega,hl,LS,fun h=>by omega,fun _=>e1 (by omega),fun _=>e2 (by omega),mg,n1,n2⟩,rfl,rfl,rfl,?_⟩;unfold pL;rw[hc];rfl
 ·have a0:=oo 0 m0 (by omega);have a1:=tz m1 (e1 (by omega));have a2:=oo 2 m2 (by omega);simp only[Int.natCast_zero,Int.natCast_one,show((2:Nat):Int)=2 from rfl]at a0 a1 a2 mg hc ⊢;rw[a0,a1,a2];refine⟨⟨hR,by omega,hl,LS,fun h=>by omega,fun h=>by omega,fun _=>e2 (by omega),n0,mg,n2⟩,rfl,rfl,rfl,?_⟩;unfold pL;rw[hc,ho 0 (by omega)];rfl
 ·have a0:=oo 0 m0 (by omega);have a1:=oo 1 m1 (by omega);have a2:=tz m2 (e2 (by omega));simp only[Int.natCast_zero,Int.natCast_one,show((2:Nat):Int)=2 from rfl]at a0 a1 a2 mg hc ⊢;rw[a0,a1,a2];refine⟨⟨hR,by omega,hl,LS,fun h=>by omega,fun h=>by omega,fun h=>by omega,n0,n1,mg⟩,rfl,rfl,rfl,?_⟩;unfold pL;rw[hc,ho 0 (by omega),ho 1 (by omega)];rfl
open Go.Proofs
structure QpM where
 (q:Int)(fc:Bool)(A:bJ)(sp:Int)(fi:Bool)(it:bM)(m0 m1 m2:bJ)(cl:bQ)(i:Int)
def IP(q:Int)(fc:Bool)(A:bJ)(sp:Int)(fi:Bool)(it:bM)(m0 m1 m2:bJ)(cl:bQ)(i:Int):bX:=[(6,.ptr 0 []),(7,.int .i64 q),(8,.sl (C:=RC) .line fc A),(10,.int .i64 i)]
def xT(q:Int)(fc:Bool)(A:bJ)(sp:Int)(fi:Bool)(it:bM)(m0 m1 m2:bJ)(cl:bQ)(i:Int):bP:=[.var 34 (cH sp (cL .item fi it (.bI (.bI (.vs 1 (m0.length)) (.bI (.vs 2 (m1.length)) (.bI (.vs 3 (m2.length)) .bN))) (.bI (.arr (C:=RC) .int 3 cl) .bN)))),.vec .line true m0,.vec .line true m1,.vec .line true m2]
def Qzy q fc A sp fi it m0 m1 m2 cl i:=dQ cu M4 29 12 60 4 [6,7,8,10] [] [.slot 6 0,.path 0 [2,0],.path 0 [2,1],.path 0 [2,2]] (IP q fc A sp fi it m0 m1 m2 cl i) (xT q fc A sp fi it m0 m1 m2 cl i)
theorem QCp q fc A sp fi it m0 m1 m2 cl i:Qzy q fc A sp fi it m0 m1 m2 cl i=(let Z0:Bool:=dH i (A.length:Int);let Z1:cg:=List.getD A i.toNat (cg.mk 0 0 0 0 0);let Z2:Bool:=q==0;let Z3:=m0.length;let Z4:bJ:=[cg.mk (cg.offset Z1) (cg.place Z1) (cg.j Z1) (cg.key Z1) (cg.value Z1)];let Z5:=Z4.length;let Z6:X×bX:=(X.normal,[(6,D.ptr 0 []),(7,cj q),(8,D.sl b9.line fc A),(10,cj (c6 (i+1)))]);let Z7:bV:=cj sp;let Z8:bV:=D.sl b9.item fi it;let Z9:=m1.length;let db:=m2.length;let dB:bV:=D.bI (D.vs 3 db) .bN;let eo:bV:=D.bI (D.vs 2 Z9) dB;let fa:bV:=D.bI (D.arr b9.int 3 cl) .bN;let fM:cb:=[some (Obj.vec b9.line true m1),some (Obj.vec b9.line true m2)];let fz:Bool:=q==1;let fy:Bool:=q==2;let fR:bV:=D.vs 1 Z3;let eH:cf:=some (Obj.vec b9.line true m0);let fW:cb:=some (Obj.var 34 (.bI Z7 (D.bI Z8 (D.bI (D.bI fR eo) fa))))::eH::fM;b7 (Qd A.length) (bif decide (i<(A.length:Int))then b7 Z0 (b7 (dH q 3) (bif decide (List.getD cl q.toNat 0<cg.place Z1)then bif Z2 then b7 Z0 (b7 (Nat.beq Z3 Z3&&Qg (Z3+Z5) 40) (bif Z2 then some (Z6,some (Obj.var 34 (.bI Z7 (D.bI Z8 (D.bI (D.bI (D.vs 1 (Z3+Z5)) eo) fa))))::some (Obj.vec b9.line true (m0++Z4))::fM)else bif fz then none else b7 fy none))else bif fz then b7 Z0 (b7 (Nat.beq Z9 Z9&&Qg (Z9+Z5) 40) (bif Z2 then none else bif fz then some (Z6,[some (Obj.var 34 (.bI Z7 (D.bI Z8 (D.bI (D.bI fR (D.bI (D.vs 2 (Z9+Z5)) dB)) fa)))),eH,some (Obj.vec b9.line true (m1++Z4)),some (Obj.vec b9.line true m2)])else b7 fy none))else b7 fy (b7 Z0 (b7 (Nat.beq db db&&Qg (db+Z5) 40) (bif Z2 then none else bif fz then none else b7 fy (some (Z6,[some (Obj.var 34 (.bI Z7 (D.bI Z8 (D.bI (D.bI fR (D.bI (D.vs 2 Z9) (.bI (D.vs 3 (db+Z5)) .bN))) fa)))),eH,some (Obj.vec b9.line true m1),some (Obj.vec b9.line true (m2++Z4))])))))else some (Z6,fW)))else some ((X.exit 2,[]),fW))):=by kernel_rfl
def DL(q:Int)(fc:Bool)(A:bJ)(sp:Int)(fi:Bool)(it:bM)(m0 m1 m2:bJ)(cl:bQ)(i:Int):RT RC:=.leaf (.exit 2) [] (xT q fc A sp fi it (fb q 0 m0 A i (cl.getD q.toNat 0)) (fb q 1 m1 A i (cl.getD q.toNat 0)) (fb q 2 m2 A i (cl.getD q.toNat 0)) cl i)
def DN(q:Int)(fc:Bool)(A:bJ)(sp:Int)(fi:Bool)(it:bM)(m0 m1 m2:bJ)(cl:bQ)(i:Int):Prop:=pf A q m0 m1 m2 cl i
def xU:QD RC QpM where
 k:=4
 cM q:=IP q.q q.fc q.A q.sp q.fi q.it q.m0 q.m1 q.m2 q.cl q.i
 cK q:=xT q.q q.fc q.A q.sp q.fi q.it q.m0 q.m1 q.m2 q.cl q.i
 fin q:=DL q.q q.fc q.A q.sp q.fi q.it q.m0 q.m1 q.m2 q.cl q.i
 Inv q:=DN q.q q.fc q.A q.sp q.fi q.it q.m0 q.m1 q.m2 q.cl q.i
 μ q:=(q.A.length-q.i).toNat
theorem QmS q fc A sp fi it m0 m1 m2 cl i(hI:DN q fc A sp fi it m0 m1 m2 cl i):c8 (Qzy q fc A sp fi it m0 m1 m2 cl i) (dj xU ⟨q,fc,A,sp,fi,it,m0,m1,m2,cl,i⟩):=by
 (rw[QCp];delta b7 dH cj c6;conv=>zeta)
 unfold DN at hI;obtain⟨hA,q0,q3,o6,i0,iA,l0,l1,l2⟩:=hI;have lk:Qd A.length=true:=Qe (by omega);have c9:∀(m0 m1 m2:bJ) (i:Int) (x0 x1 x2:bJ),fb q 0 m0 A i (cl.getD q.toNat 0)=x0->fb q 1 m1 A i (cl.getD q.toNat 0)=x1->fb q 2 m2 A i (cl.getD q.toNat 0)=x2->(DL q fc A sp fi it m0 m1 m2 cl i).val=some ((.exit 2,[]),xT q fc A sp fi it x0 x1 x2 cl 0):=fun m0 m1 m2 i x0 x1 x2 h0 h1 h2=>by subst h0;subst h1;subst h2;rfl
 rw[lk,ag]
 by_cases cU:i<(A.length:Int)
 ·have w1:IntKind.i64.wrap (i+1)=i+1:=cC (by omega) (by omega);have d1:decide (i<(A.length:Int))=true:=ab cU;have d2:decide (0<=i/\i<(A.length:Int))=true:=ab ⟨i0,cU⟩;have d3:decide (0<=q/\q<3)=true:=ab ⟨q0,q3⟩;have lX:∀x:cg,cg.mk x.offset x.place x.j x.key x.value=x:=fun _=>rfl
  have fe:∀n0 n1 n2:bJ,(n0.length:Int)<=i+1+1000->(n1.length:Int)<=i+1+1000->(n2.length:Int)<=i+1+1000->fb q 0 m0 A i (cl.getD q.toNat 0)=fb q 0 n0 A (i+1) (cl.getD q.toNat 0)->fb q 1 m1 A i (cl.getD q.toNat 0)=fb q 1 n1 A (i+1) (cl.getD q.toNat 0)->fb q 2 m2 A i (cl.getD q.toNat 0)=fb q 2 n2 A (i+1) (cl.getD q.toNat 0) ->
   c8 (some ((Ev.X.normal,IP q fc A sp fi it n0 n1 n2 cl (i+1)),(xT q fc A sp fi it n0 n1 n2 cl (i+1)).map some)) (dj xU ⟨q,fc,A,sp,fi,it,m0,m1,m2,cl,i⟩):=fun n0 n1 n2 k0 k1 k2 g0 g1 g2=>by
   refine Qi (S:=xU) (s:=⟨q,fc,A,sp,fi,it,m0,m1,m2,cl,i⟩) ⟨q,fc,A,sp,fi,it,n0,n1,n2,cl,i+1⟩ (show pf A q n0 n1 n2 cl (i+1)from⟨hA,q0,q3,o6,by omega,by omega,k0,k1,k2⟩) (show((A.length:Int)-(i+1)).toNat<((A.length:Int)-i).toNat by omega) ?_ rfl rfl;show(DL q fc A sp fi it n0 n1 n2 cl (i+1)).val=(DL q fc A sp fi it m0 m1 m2 cl i).val;rw[c9 n0 n1 n2 (i+1) _ _ _ rfl rfl rfl,c9 m0 m1 m2 i _ _ _ g0 g1 g2]
  simp only[d1,d2,d3,w1,lX,ag];have hq:q=0\/q=1\/q=2:=by omega
  obtain⟨X,hX⟩:∃X,X=A.getD i.toNat ⟨0,0,0,0,0⟩:=⟨_,rfl⟩;rw[<-hX];rcases hq with rfl|rfl|rfl
  ·have z:∀m:bJ,fb (0:Int) (0:Int) m A i (cl.getD ((0:Int)).toNat 0)=fb (0:Int) (0:Int) (if cl.getD ((0:Int)).toNat 0<X.place then m++[X]else m) A (i+1) (cl.getD ((0:Int)).toNat 0):=fun m=>by
    rw[hX];exact Pq i0 (by omega)
   by_cases hc:cl.getD ((0:Int)).toNat 0<X.place
   ·have e4:m0.length+([X]:bJ).length=(m0++[X]).length:=by simp
    have s1:Qg (m0++[X]).length 40=true:=Zt (by simp;omega);simp only[ab hc,show((0:Int)==0)=true from rfl,e4,s1,Zp rfl,au,ag,ah];exact fe (m0++[X]) m1 m2 (by first|omega|(simp;omega)) (by first|omega|(simp;omega)) (by first|omega|(simp;omega)) (by rw[z m0,ax hc]) (by rw[QJ (by decide),QJ (by decide)]) (by rw[QJ (by decide),QJ (by decide)])
   ·simp only[ad hc,ah];exact fe m0 m1 m2 (by omega) (by omega) (by omega) (by rw[z m0,aw hc]) (by rw[QJ (by decide),QJ (by decide)]) (by rw[QJ (by decide),QJ (by decide)])
  ·have z:∀m:bJ,fb (1:Int) (1:Int) m A i (cl.getD ((1:Int)).toNat 0)=fb (1:Int) (1:Int) (if cl.getD ((1:Int)).toNat 0<X.place then m++[X]else m) A (i+1) (cl.getD ((1:Int)).toNat 0):=fun m=>by
    rw[hX];exact Pq i0 (by omega)
   by_cases hc:cl.getD ((1:Int)).toNat 0<X.place
   ·have e4:m1.length+([X]:bJ).length=(m1++[X]).length:=by simp
    have s1:Qg (m1++[X]).length 40=true:=Zt (by simp;omega);simp only[ab hc,show((1:Int)==0)=false from rfl,show((1:Int)==1)=true from rfl,e4,s1,Zp rfl,au,ag,ah];exact fe m0 (m1++[X]) m2 (by first|omega|(simp;omega)) (by first|omega|(simp;omega)) (by first|omega|(simp;omega)) (by rw[QJ (by decide),QJ (by decide)]) (by rw[z m1,ax hc]) (by rw[QJ (by decide),QJ (by decide)])
   ·simp only[ad hc,ah];exact fe m0 m1 m2 (by omega) (by omega) (by omega) (by rw[QJ (by decide),QJ (by decide)]) (by rw[z m1,aw hc]) (by rw[QJ (by decide),QJ (by decide)])
  ·have z:∀m:bJ,fb (2:Int) (2:Int) m A i (cl.getD ((2:Int)).toNat 0)=fb (2:Int) (2:Int) (if cl.getD ((2:Int)).toNat 0<X.place then m++[X]else m) A (i+1) (cl.getD ((2:Int)).toNat 0):=fun m=>by
    rw[hX];exact Pq i0 (by omega)
   by_cases hc:cl.getD ((2:Int)).toNat 0<X.place
   ·have e4:m2.length+([X]:bJ).length=(m2++[X]).length:=by simp
    have s1:Qg (m2++[X]).length 40=true:=Zt (by simp;omega);simp only[ab hc,show((2:Int)==0)=false from rfl,show((2:Int)==1)=false from rfl,show((2:Int)==2)=true from rfl,e4,s1,Zp rfl,au,ag,ah];exact fe m0 m1 (m2++[X]) (by first|omega|(simp;omega)) (by first|omega|(simp;omega)) (by first|omega|(simp;omega)) (by rw[QJ (by decide),QJ (by decide)]) (by rw[QJ (by decide),QJ (by decide)]) (by rw[z m2,ax hc])
   ·simp only[ad hc,ah];exact fe m0 m1 m2 (by omega) (by omega) (by omega) (by rw[QJ (by decide),QJ (by decide)]) (by rw[QJ (by decide),QJ (by decide)]) (by rw[z m2,aw hc])
 ·have z1:decide (i<(A.length:Int))=false:=ad cU;rw[z1,ah];exact Qh _ (c9 m0 m1 m2 i m0 m1 m2 (OO (by omega)) (OO (by omega)) (OO (by omega))) rfl
def Pr(env:bX)(os:bP):Option (Bool×QpM):=match env,os with
 |[(6,.ptr 0 []),(7,.int .i64 q),(8,.sl .line fc A),(10,.int .i64 i)],[.var 34 (.bI (.int .i64 sp) (.bI (.sl .item fi it) (.bI (.bI (.vs 1 x0) (.bI (.vs 2 x1) (.bI (.vs 3 x2) .bN))) (.bI (.arr .int 3 cl) .bN)))),.vec .line true m0,.vec .line true m1,.vec .line true m2]=>some (decide (x0=m0.length)&&decide (x1=m1.length)&&decide (x2=m2.length)&&dO (pf A q m0 m1 m2 cl i),⟨q,fc,A,sp,fi,it,m0,m1,m2,cl,i⟩)
 |_,_=>none
def Ai:=M4.cJ 29 12 (ey cu [.slot 6 0,.path 0 [2,0],.path 0 [2,1],.path 0 [2,2]] [6,7,8,10] xU Pr)
theorem Qzz:Qk Tryz.prog cu Ai:=by
 refine Qr9.cq Qb (by kernel_rfl) xU 60 [6,7,8,10] [] [.slot 6 0,.path 0 [2,0],.path 0 [2,1],.path 0 [2,2]] [6,7,8,10] Pr (fun q hI=>?_) ?_
 ·obtain⟨q,fc,A,sp,fi,it,m0,m1,m2,cl,i⟩:=q;refine⟨?_,?_,QmS q fc A sp fi it m0 m1 m2 cl i hI⟩
  ·simp_all[Qj,xU,IP,xT,DN,D.refs,Obj.refs,cV]
  ·simp_all[xU,DL,xT,DN,RT.cT,Qj,D.refs,Obj.refs,cV]
 ·intro env os b q cN hb;unfold Pr at cN
  split at cN
  ·cases cN;simp only[ai,aa]at hb;obtain⟨⟨⟨h1,h2⟩,h3⟩,hA⟩:=hb;subst h1;subst h2;subst h3;exact⟨Q9.1 hA,rfl,rfl⟩
  ·cases cN
structure QpN where
 (c:Bool)(l:bS)(s sp:Int)(fi:Bool)(it:bM)(m0 m1 m2:bJ)(cl:bQ)(q:Nat)
def IQ(c:Bool)(l:bS)(s sp:Int)(fi:Bool)(it:bM)(m0 m1 m2:bJ)(cl:bQ)(q:Nat):bX:=[(0,.sl (C:=RC) .dU c l),(1,.int .i64 s),(6,.ptr 0 []),(7,.int .i64 (q:Int))]
def xV(c:Bool)(l:bS)(s sp:Int)(fi:Bool)(it:bM)(m0 m1 m2:bJ)(cl:bQ)(q:Nat):bP:=[.var 34 (cH sp (cL .item fi it (.bI (.bI (.vs 1 (m0.length)) (.bI (.vs 2 (m1.length)) (.bI (.vs 3 (m2.length)) .bN))) (.bI (.arr (C:=RC) .int 3 cl) .bN)))),.vec .line true m0,.vec .line true m1,.vec .line true m2]
def QzA c l s sp fi it m0 m1 m2 cl q:=dQ cu Ai 29 5 80 4 [0,1,6,7] [] [.slot 6 0,.path 0 [2,0],.path 0 [2,1],.path 0 [2,2]] (IQ c l s sp fi it m0 m1 m2 cl q) (xV c l s sp fi it m0 m1 m2 cl q)
theorem QCq c l s sp fi it m0 m1 m2 cl q:QzA c l s sp fi it m0 m1 m2 cl q=(let Z0:Int:=(q:Int);let Z1:Bool:=dH Z0 3;let Z2:bJ:=cA l 0 s Z0;let Z3:Int:=(Z2.length:Int);let Z4:=c6 (Z3-16);let Z5:Int:=if (0:Int)<Z4 then Z4 else (0:Int);let Z6:=c6 (Z5-1);let Z7:=m0.length;let Z8:=m1.length;let Z9:=m2.length;let db:Bool:=decide (Z7=Z7)&&decide (Z8=Z8)&&decide (Z9=Z9);let dB:=Int.toNat Z0;let eo:=List.set cl dB (cg.place (List.getD Z2 Z6.toNat (cg.mk 0 0 0 0 0)));let fa:X×bX:=(X.normal,[(0,D.sl b9.dU c l),(1,cj s),(6,D.ptr 0 []),(7,cj (c6 (Z0+1)))]);let fM:bV:=cj sp;let fz:bV:=D.sl b9.item fi it;let fy:=List.getD eo dB 0;let fR:bJ:=fb Z0 0 m0 Z2 Z5 fy;let eH:bJ:=fb Z0 1 m1 Z2 Z5 fy;let fW:bJ:=fb Z0 2 m2 Z2 Z5 fy;let gD:=List.getD cl dB 0;let iJ:bJ:=fb Z0 0 m0 Z2 Z5 gD;let gQ:bJ:=fb Z0 1 m1 Z2 Z5 gD;let iY:bJ:=fb Z0 2 m2 Z2 Z5 gD;let im:bV:=D.bI (D.arr b9.int 3 cl) .bN;bif decide (Z0<3)then b7 (dO (jL l)&&Z1) (b7 (Qd Z2.length) (bif decide ((0:Int)<Z5)then b7 (dH Z6 Z3) (b7 Z1 (b7 (db&&dO (pf Z2 Z0 m0 m1 m2 eo Z5)) (some (fa,[some (Obj.var 34 (.bI fM (D.bI fz (D.bI (D.bI (D.vs 1 fR.length) (.bI (D.vs 2 eH.length) (.bI (D.vs 3 fW.length) .bN))) (.bI (D.arr b9.int 3 eo) .bN))))),some (Obj.vec b9.line true fR),some (Obj.vec b9.line true eH),some (Obj.vec b9.line true fW)]))))else b7 (db&&dO (pf Z2 Z0 m0 m1 m2 cl Z5)) (some (fa,[some (Obj.var 34 (.bI fM (D.bI fz (D.bI (D.bI (D.vs 1 iJ.length) (.bI (D.vs 2 gQ.length) (.bI (D.vs 3 iY.length) .bN))) im)))),some (Obj.vec b9.line true iJ),some (Obj.vec b9.line true gQ),some (Obj.vec b9.line true iY)]))))else some ((X.exit 0,[]),[some (Obj.var 34 (.bI fM (D.bI fz (D.bI (D.bI (D.vs 1 Z7) (.bI (D.vs 2 Z8) (.bI (D.vs 3 Z9) .bN))) im)))),some (Obj.vec b9.line true m0),some (Obj.vec b9.line true m1),some (Obj.vec b9.line true m2)])):=by kernel_rfl
def Jp(c:Bool)(l:bS)(s sp:Int)(fi:Bool)(it:bM)(m0 m1 m2:bJ)(cl:bQ)(q:Nat):RT RC:=.leaf (.exit 0) [] (xV c l s sp fi it (mG q 0 m0 (ZX (cA l 0 s 0))) (mG q 1 m1 (ZX (cA l 0 s 1))) (mG q 2 m2 (ZX (cA l 0 s 2))) (pL l s cl q) q)
def DO(c:Bool)(l:bS)(s sp:Int)(fi:Bool)(it:bM)(m0 m1 m2:bJ)(cl:bQ)(q:Nat):Prop:=rB l s m0 m1 m2 cl q
def xW:QD RC QpN where
 k:=4
 cM q:=IQ q.c q.l q.s q.sp q.fi q.it q.m0 q.m1 q.m2 q.cl q.q
 cK q:=xV q.c q.l q.s q.sp q.fi q.it q.m0 q.m1 q.m2 q.cl q.q
 fin q:=Jp q.c q.l q.s q.sp q.fi q.it q.m0 q.m1 q.m2 q.cl q.q
 Inv q:=DO q.c q.l q.s q.sp q.fi q.it q.m0 q.m1 q.m2 q.cl q.q
 μ q:=3-q.q
theorem QmU c l s sp fi it m0 m1 m2 cl q(hI:DO c l s sp fi it m0 m1 m2 cl q):c8 (QzA c l s sp fi it m0 m1 m2 cl q) (dj xW ⟨c,l,s,sp,fi,it,m0,m1,m2,cl,q⟩):=by
 (rw[QCq];delta b7 dH cj c6;conv=>zeta)
 unfold DO at hI;have hSO:=hI;obtain⟨hR,q3,o6,hz,e0,e1,e2,n0,n1,n2⟩:=hI
 by_cases hq:q<3
 ·have w1:=eG q (by omega)
  have d1:decide ((q:Int)<3)=true:=ab (by omega);have d2:decide (0<=(q:Int)/\(q:Int)<3)=true:=ab (by omega);have tq:=bw q
  have nV:=Nn hR 0 s (q:Int);have dV:=fun(jC:bQ) (F:Int)=>Wt (jC:=jC) (F:=F) hSO hq
  have fe:∀(jC:bQ) (F:Int),F=(((cA l 0 s (q:Int)).length-16:Nat):Int)->jC.length=3->jC.getD q 0=pR (cA l 0 s (q:Int))->(∀n,n≠q->jC.getD n 0=cl.getD n 0)->dO (pf (cA l 0 s (q:Int)) (q:Int) m0 m1 m2 jC F)=true /\
   c8 (some ((Ev.X.normal,IQ c l s sp fi it (fb (q:Int) 0 m0 (cA l 0 s (q:Int)) F (jC.getD ((q:Int)).toNat 0)) (fb (q:Int) 1 m1 (cA l 0 s (q:Int)) F (jC.getD ((q:Int)).toNat 0)) (fb (q:Int) 2 m2 (cA l 0 s (q:Int)) F (jC.getD ((q:Int)).toNat 0)) jC (q+1)),(xV c l s sp fi it (fb (q:Int) 0 m0 (cA l 0 s (q:Int)) F (jC.getD ((q:Int)).toNat 0)) (fb (q:Int) 1 m1 (cA l 0 s (q:Int)) F (jC.getD ((q:Int)).toNat 0)) (fb (q:Int) 2 m2 (cA l 0 s (q:Int)) F (jC.getD ((q:Int)).toNat 0)) jC (q+1)).map some)) (dj xW ⟨c,l,s,sp,fi,it,m0,m1,m2,cl,q⟩):=fun jC F hF hl hc ho=>by
   obtain⟨k0,k1,k2,k3,k4,k5⟩:=Wt (jC:=jC) (F:=F) hSO hq hF hl hc ho;refine⟨Q1 k0,?_⟩;generalize fb (q:Int) 0 m0 (cA l 0 s (q:Int)) F (jC.getD ((q:Int)).toNat 0)=a0 at *;generalize fb (q:Int) 1 m1 (cA l 0 s (q:Int)) F (jC.getD ((q:Int)).toNat 0)=a1 at *;generalize fb (q:Int) 2 m2 (cA l 0 s (q:Int)) F (jC.getD ((q:Int)).toNat 0)=a2 at *;refine Qi (S:=xW) (s:=⟨c,l,s,sp,fi,it,m0,m1,m2,cl,q⟩) ⟨c,l,s,sp,fi,it,a0,a1,a2,jC,q+1⟩ (show rB l s a0 a1 a2 jC (q+1)from k1) (show 3-(q+1)<3-q by omega) ?_ rfl rfl;show(Jp c l s sp fi it a0 a1 a2 jC (q+1)).val=(Jp c l s sp fi it m0 m1 m2 cl q).val;unfold Jp;rw[k2,k3,k4,k5];rfl
  have RZ:(dO (jL l)&&decide (0<=(q:Int)/\(q:Int)<3))=true:=eK (Q1 hR) d2;have lk:Qd (cA l 0 s (q:Int)).length=true:=Qe (by omega);have w2:IntKind.i64.wrap (((cA l 0 s (q:Int)).length:Int)-16)=((cA l 0 s (q:Int)).length:Int)-16:=cC (by omega) (by omega);simp only[d1,RZ,lk,w1,w2,ag]
  by_cases FR:16<(cA l 0 s (q:Int)).length
  ·have hF:(if 0<((cA l 0 s (q:Int)).length:Int)-16 then((cA l 0 s (q:Int)).length:Int)-16 else 0)=(((cA l 0 s (q:Int)).length-16:Nat):Int):=by rw[ax (by omega)];omega
   rw[hF];have w3:IntKind.i64.wrap ((((cA l 0 s (q:Int)).length-16:Nat):Int)-1)=(((cA l 0 s (q:Int)).length-17:Nat):Int):=by rw[cC (by omega) (by omega)];omega
   have t3:((((cA l 0 s (q:Int)).length-17:Nat):Int)).toNat=(cA l 0 s (q:Int)).length-17:=by omega
   have d3:decide (0<(((cA l 0 s (q:Int)).length-16:Nat):Int))=true:=ab (by omega);have d4:decide (0<=(((cA l 0 s (q:Int)).length-17:Nat):Int)/\(((cA l 0 s (q:Int)).length-17:Nat):Int)<((cA l 0 s (q:Int)).length:Int))=true:=ab (by omega);simp only[w3,t3,d2,d3,d4,tq,ag]
   have qt:(cl.set q ((cA l 0 s (q:Int)).getD ((cA l 0 s (q:Int)).length-17) ⟨0,0,0,0,0⟩).place).getD q 0=pR (cA l 0 s (q:Int)):=by
    unfold pR pl jY;rw[ax FR];simp[o6,hq]
   have hoo:∀n,n≠q->(cl.set q ((cA l 0 s (q:Int)).getD ((cA l 0 s (q:Int)).length-17) ⟨0,0,0,0,0⟩).place).getD n 0=cl.getD n 0:=fun n hn=>by
    simp only[ar];rw[List.getElem?_set_ne (fun e=>hn e.symm)]
   obtain⟨g1,g2⟩:=fe _ _ rfl (by rw[bf];exact o6) qt hoo;simp only[tq]at g2;simp only[g1,aM,au,ag];exact g2
  ·have hF:(if 0<((cA l 0 s (q:Int)).length:Int)-16 then((cA l 0 s (q:Int)).length:Int)-16 else 0)=(((cA l 0 s (q:Int)).length-16:Nat):Int):=by rw[aw (by omega)];omega
   rw[hF];have d3:decide (0<(((cA l 0 s (q:Int)).length-16:Nat):Int))=false:=ad (by omega)
   have qt:cl.getD q 0=pR (cA l 0 s (q:Int)):=by
    unfold pR;rw[aw FR];exact hz q (aq _)
   obtain⟨g1,g2⟩:=fe cl _ rfl o6 qt (fun _ _=>rfl);simp only[d3,g1,aM,au,ag,ah];exact g2
 ·have z1:decide ((q:Int)<3)=false:=ad (by omega);rw[z1,ah];have h3:q=3:=by omega
  subst h3;refine Qh (xV c l s sp fi it m0 m1 m2 cl 3) ?_ rfl;show(Jp c l s sp fi it m0 m1 m2 cl 3).val=_
  have qt:pL l s cl 3=cl:=by
   match cl,o6 with
   |[a,b,d],_=>rfl
  unfold Jp;rw[qt];rfl
def Ps(env:bX)(os:bP):Option (Bool×QpN):=match env,os with
 |[(0,.sl .dU c l),(1,.int .i64 s),(6,.ptr 0 []),(7,.int .i64 x0)],[.var 34 (.bI (.int .i64 sp) (.bI (.sl .item fi it) (.bI (.bI (.vs 1 x1) (.bI (.vs 2 x2) (.bI (.vs 3 x3) .bN))) (.bI (.arr .int 3 cl) .bN)))),.vec .line true m0,.vec .line true m1,.vec .line true m2]=>some (decide (x0=0)&&decide (x1=m0.length)&&decide (x2=m1.length)&&decide (x3=m2.length)&&dO (rB l s m0 m1 m2 cl 0),⟨c,l,s,sp,fi,it,m0,m1,m2,cl,0⟩)
 |_,_=>none
def Aj:=Ai.cJ 29 5 (ey cu [.slot 6 0,.path 0 [2,0],.path 0 [2,1],.path 0 [2,2]] [0,1,6,7] xW Ps)
theorem QzB:Qk Tryz.prog cu Aj:=by
 refine Qzz.cq Qb (by kernel_rfl) xW 80 [0,1,6,7] [] [.slot 6 0,.path 0 [2,0],.path 0 [2,1],.path 0 [2,2]] [0,1,6,7] Ps (fun q hI=>?_) ?_
 ·obtain⟨c,l,s,sp,fi,it,m0,m1,m2,cl,q⟩:=q;refine⟨?_,?_,QmU c l s sp fi it m0 m1 m2 cl q hI⟩
  ·simp_all[Qj,xW,IQ,xV,DO,D.refs,Obj.refs,cV]
  ·simp_all[xW,Jp,xV,DO,RT.cT,Qj,D.refs,Obj.refs,cV]
 ·intro env os b q cN hb;unfold Ps at cN
  split at cN
  ·cases cN;simp only[ai,aa]at hb;obtain⟨⟨⟨⟨h0,h1⟩,h2⟩,h3⟩,hA⟩:=hb;subst h0;subst h1;subst h2;subst h3;exact⟨Q9.1 hA,rfl,rfl⟩
  ·cases cN
def QzC:bW->bO
 |[.sl .dU c l,.int .i64 s]=>some (dO (jL l)&&decide (0<=s/\s<=1048575),.cG (.bI (qN (Zx l s)) (cH 0 .bN)))
 |_=>none
def Ua(c:Bool)(l:bS)(s:Int):=ky cu Aj 100 29 [.sl (C:=RC) .dU c l,.int .i64 s]
theorem QGV c l s:Ua c l s=(let Z0:bV:=cj 0;let Z1:bV:=D.sl b9.line false [];let Z2:bV:=.bN;let Z3:=List.replicate 3 0;let Z4:fI:=some (D.cG (D.bI (D.bI Z0 (D.bI (D.sl b9.item false []) (.bI (D.bI Z1 (D.bI Z1 (D.bI Z1 Z2))) (.bI (D.arr b9.int 3 Z3) Z2)))) (.bI (cj 2) Z2)));let Z5:bJ:=mG 0 0 [] (ZX (cA l 0 s 0));let Z6:bJ:=mG 0 1 [] (ZX (cA l 0 s 1));let Z7:bJ:=mG 0 2 [] (ZX (cA l 0 s 2));b7 (decide (l.length<=1000)&&List.all l fun(r:Rec)=>Qd r.writes.length) (bif (bif JL l l.length 0 then (0:Int)else (2:Int))!=0 then Z4 else bif decide (s<0)then Z4 else bif decide ((1048575:Int)<s)then Z4 else b7 (dO (jL l)) (b7 (dO (rB l s [] [] [] Z3 0)) (b7 (Nat.beq Z5.length Z5.length) (b7 (Nat.beq Z6.length Z6.length) (b7 (Nat.beq Z7.length Z7.length) (some (D.cG (D.bI (D.bI (cj s) (.bI (D.sl b9.item false (Ye l s 24 0)) (.bI (D.bI (D.sl b9.line false Z5) (.bI (D.sl b9.line false Z6) (.bI (D.sl b9.line false Z7) Z2))) (.bI (D.arr b9.int 3 (pL l s Z3 0)) Z2)))) (.bI Z0 Z2)))))))))):=by kernel_rfl
theorem QGW c l s(h:(dO (jL l)&&decide (0<=s/\s<=1048575))=true):Ua c l s=some (.cG (.bI (qN (Zx l s)) (cH 0 .bN))):=by
 (rw[QGV];delta b7 cj;conv=>zeta)
 rw[ai]at h;obtain⟨hc,hs⟩:=h;have hs:=af hs;have hR:=Q9.1 hc;refine Qa (eK (ab (by have:=hR.2;omega)) hR.lens) ?_;rw[hR.1];refine Qq rfl (Qq (ad (by omega)) (Qq (ad (by omega)) (Qa hc (Qa (Q1 ⟨hR,by decide,rfl,fun n _=>?_,fun _=>rfl,fun _=>rfl,fun _=>rfl,by decide,by decide,by decide⟩) (Qa (Zp rfl) (Qa (Zp rfl) (Qa (Zp rfl) rfl)))))));rcases n with _|_|_|n<;>rfl
def Ak:=Aj.b8 29 QzC
theorem QzD:Qk Tryz.prog cu Ak:=QzB.iv Qb fun args d h=>by
 unfold QzC at h
 split at h
 ·obtain⟨h1,rfl⟩:=ak h;exact⟨by simp[D.refs,qN],100,QGW _ _ _ h1⟩
 ·cases h
def sx(cs:bQ)(k w kr:Int)(seen:df):Prop:=cs.length=771/\seen.length=160/\0<=k/\k<24/\(w=0\/∃(s:Nat) (p:Int),s<160/\1<=p/\p<=1048575/\p<kr/\w=wN p s/\cs.getD (291+3*s) 0=3/\cs.getD (292+3*s) 0=0/\0<=cs.getD (293+3*s) 0/\cs.getD (293+3*s) 0<65536/\cs.getD (293+3*s) 0/256=k/\seen.getD s false=false)
def qV(w:Int)(seen:df):df:=if w=0 then seen else seen.set (bare w%256).toNat true
def Fu(cs:bQ):Nat->Nat->df->df
 |0,_,s=>s
 |n+1,k,s=>Fu cs n (k+1) (qV (cs.getD (21+k) 0) s)
def lI(cs:bQ)(seen:df)(k:Nat):Prop:=cs.length=771/\seen.length=160/\k<=24/\∃(o:Nat->cX) (s:Nat->Nat),(∀j,j<24->M1 cs j (o j) (s j))/\(∀i j,i<24->j<24->i≠j->o i≠none->o j≠none->s i≠s j)/\(∀j,k<=j->j<24->o j≠none->seen.getD (s j) false=false)
theorem lI.now{cs:bQ}{seen:df}{k:Nat}(h:lI cs seen k)(hk:k<24):sx cs (k:Int) (cs.getD (21+k) 0) 1048576 seen:=by
 obtain⟨h1,h2,_,o,s,h3,h4,h5⟩:=h;refine⟨h1,h2,by omega,by omega,?_⟩;have Gq:=h3 k hk;cases ho:o k with
 |none=>left;exact Gq.no ho
 |some x=>
  right;obtain⟨a1,a2,a3,a4,a5,a6,a7,a8,a9,a10⟩:=Gq.yes x ho;refine⟨s k,x.place,a1,a3,a4,by omega,a7,a8,a9,by omega,by omega,by omega,h5 k (aq _) hk (by rw[ho];simp)⟩
theorem lI.step{cs:bQ}{seen:df}{k:Nat}(h:lI cs seen k)(hk:k<24):lI cs (qV (cs.getD (21+k) 0) seen) (k+1):=by
 obtain⟨h1,h2,_,o,s,h3,h4,h5⟩:=h;have hl:(qV (cs.getD (21+k) 0) seen).length=160:=by unfold qV;split<;>simp[h2]
 refine⟨h1,hl,hk,o,s,h3,h4,fun j hj jM kj=>?_⟩;have Gq:=h3 k hk;have ft:=h5 j (by omega) jM kj;unfold qV;cases ho:o k with
 |none=>rw[ax (Gq.no ho)];exact ft
 |some x=>
  obtain⟨a1,a2,a3,a4,a5,a6,a7,a8,a9,a10⟩:=Gq.yes x ho;obtain⟨b1,b2,b3,b4,b5,b6⟩:=OG a3 a4 a1;have fg:=h4 k j hk jM (by omega) (by rw[ho];simp) kj;rw[a7,aw (by omega),b4];have e:((256+(s k:Int))%256).toNat=s k:=by omega
  rw[e];simp only[ar];rw[List.getElem?_set_ne fg]
  simpa[ar]using ft
theorem QGX{s:Nat}(hs:s<160):Zm (256+(s:Int)) 1 true=292+3*(s:Int):=by
 unfold Zm dt;rw[aw (by omega),ag,ax ⟨by omega,by omega,by decide,by decide⟩];omega
theorem QGY{s:Nat}(hs:s<160):Zm (256+(s:Int)) 2 true=293+3*(s:Int):=by
 unfold Zm dt;rw[aw (by omega),ag,ax ⟨by omega,by omega,by decide,by decide⟩];omega
theorem Qsa{S:St}(h:qd S):lI (Jq QK 4 40 S) (List.replicate 160 false) 0:=by
 obtain⟨M,e,hM,_,_,_,_,_,_,_,hc⟩:=NJ h;rw[<-e];refine⟨hM,by simp,by omega,fun j=>ZJ S.items (j:Int),fun j=>hm (xC S.items (j:Int)),fun j hj=>Qpz h hc j hj,fun i j hi hj fg h1 h2=>?_,fun j _ _ _=>?_⟩
 ·cases e1:ZJ S.items (i:Int)with
  |none=>exact absurd e1 h1
  |some x=>
   cases e2:ZJ S.items (j:Int)with
   |none=>exact absurd e2 h2
   |some y=>
    obtain⟨p1,p2,p3⟩:=Ob e1;obtain⟨q1,q2,q3⟩:=Ob e2;have Se:=h.il;refine Wr (by omega) (by omega) fun e=>?_;rw[e]at p2;rw[p2]at q2;rw[q2]at p3;omega
 ·simp only[ar,List.getElem?_replicate]
  split<;>rfl
open Go.Proofs
structure QzF where
 (c:Bool)(cs:bQ)(k w kr:Int)(seen:df)
def nv(c:Bool)(cs:bQ)(k w kr:Int)(seen:df):bX:=[(0,.sl (C:=RC) .int c cs),(3,.vs 0 (seen.length)),(4,.int .i64 k),(5,.int .i64 w),(6,.int .i64 kr)]
def Lf(c:Bool)(cs:bQ)(k w kr:Int)(seen:df):bP:=[.vec .bool true seen]
def Ub c cs k w kr seen:=dQ cu Ak 31 9 60 1 [0,3,4,5,6] [] [.slot 3 0] (nv c cs k w kr seen) (Lf c cs k w kr seen)
theorem QGZ c cs k w kr seen:Ub c cs k w kr seen=(let Z0:mL:=some ((X.ret,[]),[some (Obj.vec b9.bool true seen)]);let Z1:Int:=(cs.length:Int);let Z2:Int:=bare w;let Z3:=Zm Z2 0 true;let Z4:=Int.fdiv (bare Z2) 256;let Z5:=seen.length;let Z6:=Nat.beq Z5 Z5;let Z7:=Int.tmod Z2 256;let Z8:Bool:=Z6&&dH Z7 (Z5:Int);let Z9:=Zm Z2 2 true;let db:Bool:=dH Z9 Z1;let dB:=List.getD cs Z9.toNat 0;let eo:cb:=[some (Obj.vec b9.bool true (List.set seen Z7.toNat true))];let fa:=Zm Z2 1 true;bif w !=0 then bif decide (w<0)then Z0 else bif decide (qJ w<1)then Z0 else bif decide (kr<=qJ w)then Z0 else b7 (Qd cs.length) (bif Z1 !=771 then Z0 else bif decide (Z3<0)then Z0 else bif decide (Z4<1)then Z0 else bif decide ((1023:Int)<Z4)then Z0 else bif c6 (Int.tdiv Z2 256)!=Z4 then Z0 else b7 (dH Z3 Z1) (bif !List.getD cs Z3.toNat 0==c6 (c6 (Z4*2)+1)then Z0 else b7 Z8 (b7 Z6 (bif List.getD seen Z7.toNat false then Z0 else b7 Z8 (b7 Z6 (b7 db (bif decide (dB<0)then some ((X.ret,[]),eo)else b7 db (bif Int.fdiv dB 256!=k then some ((X.ret,[]),eo)else b7 (dH fa Z1) (some ((X.normal,[(0,D.sl b9.int c cs),(3,D.vs 0 Z5),(4,cj k),(5,cj (List.getD cs fa.toNat 0)),(6,cj (qJ w))]),eo))))))))))else some ((X.exit 2,[]),[some (Obj.vec b9.bool true seen)])):=by kernel_rfl
def Em(c:Bool)(cs:bQ)(k w kr:Int)(seen:df):RT RC:=.leaf (.exit 2) [] [.vec .bool true (qV w seen)]
def En(c:Bool)(cs:bQ)(k w kr:Int)(seen:df):Prop:=sx cs k w kr seen
def CJ:QD RC QzF where
 k:=1
 cM q:=nv q.c q.cs q.k q.w q.kr q.seen
 cK q:=Lf q.c q.cs q.k q.w q.kr q.seen
 fin q:=Em q.c q.cs q.k q.w q.kr q.seen
 Inv q:=En q.c q.cs q.k q.w q.kr q.seen
 μ q:=(if q.w=0 then 0 else 1)
theorem Qsb c cs k w kr seen(hI:En c cs k w kr seen):c8 (Ub c cs k w kr seen) (dj CJ ⟨c,cs,k,w,kr,seen⟩):=by
 (rw[QGZ];delta b7 dH cj c6;conv=>zeta)
 unfold En at hI;obtain⟨hl,SK,k0,k24,hw⟩:=hI;have c9:∀w kr seen X,qV w seen=X->(Em c cs k w kr seen).val=some ((.exit 2,[]),[.vec .bool true X]):=fun w kr seen X h=>by subst h;rfl
 rcases hw with rfl|⟨s,p,hs,p1,p2,pw,hwN,c1,c2,v0,v1,vk,SI⟩
 ·have z:((0:Int)!=0)=false:=rfl;rw[z,ah];exact Qh _ (c9 0 kr seen seen rfl) rfl
 ·obtain⟨b1,b2,b3,b4,b5,b6⟩:=OG p1 p2 hs;rw[<-hwN]at b1 b2 b3 b4 b5 b6
  have b0:Zm (256+(s:Int)) 0 true=291+3*(s:Int):=by
   unfold Zm dt;rw[aw (by omega),ag,ax ⟨by omega,by omega,by decide,by decide⟩];omega
  have bb:bare (256+(s:Int))=256+(s:Int):=by
   unfold bare;rw[JY (by omega)];omega
  have e1:(256+(s:Int)).fdiv 256=1:=by rw[aQ _ (by decide)];omega
  have e2:(256+(s:Int)).tdiv 256=1:=by rw[Int.tdiv_eq_ediv_of_nonneg (by omega)];omega
  have e3:(256+(s:Int)).tmod 256=(s:Int):=by rw[Int.tmod_eq_emod_of_nonneg (by omega)];omega
  have n1:(w !=0)=true:=Mh (by omega);have n2:decide (w<0)=false:=ad (by omega);have n3:decide (p<1)=false:=ad (by omega);have n4:decide (kr<=p)=false:=ad (by omega);have lk:Qd cs.length=true:=Qe (by omega);have n5:((cs.length:Int)!=771)=false:=u4 (by omega);have n6:decide (291+3*(s:Int)<0)=false:=ad (by omega);have n7:decide (0<=291+3*(s:Int)/\291+3*(s:Int)<(cs.length:Int))=true:=ab (by omega);have n8:decide (0<=(s:Int)/\(s:Int)<(seen.length:Int))=true:=ab (by omega);have n9:decide (0<=293+3*(s:Int)/\293+3*(s:Int)<(cs.length:Int))=true:=ab (by omega);have n10:decide (0<=292+3*(s:Int)/\292+3*(s:Int)<(cs.length:Int))=true:=ab (by omega);have t1:(291+3*(s:Int)).toNat=291+3*s:=by omega
  have t2:(292+3*(s:Int)).toNat=292+3*s:=by omega
  have t3:(293+3*(s:Int)).toNat=293+3*s:=by omega
  have t4:((s:Int)).toNat=s:=by omega
  have n11:decide (cs.getD (293+3*s) 0<0)=false:=ad (by omega);have n12:(cs.getD (293+3*s) 0).fdiv 256=k:=by rw[aQ _ (by decide)];exact vk
  have x1:decide ((1:Int)<1)=false:=rfl;have x2:decide ((1023:Int)<1)=false:=rfl;have x3:(IntKind.i64.wrap 1 !=1)=false:=by kernel_rfl
  have x4:(!(3:Int)==IntKind.i64.wrap (IntKind.i64.wrap (1*2)+1))=false:=by kernel_rfl
  simp only[n1,n2,b3,n3,n4,lk,n5,b0,n6,bb,e1,x1,x2,b4,e2,x3,n7,t1,c1,x4,e3,n8,t4,SI,QGY hs,QGX hs,n9,t3,n11,n12,u4 rfl,n10,t2,c2,Zp rfl,au,ag,ah]
  have hsw:qV w seen=seen.set s true:=by
   unfold qV;rw[aw (by omega),b4,show((256+(s:Int))%256).toNat=s by omega]
  refine Qi (S:=CJ) (s:=⟨c,cs,k,w,kr,seen⟩) ⟨c,cs,k,0,p,seen.set s true⟩ (show sx cs k 0 p (seen.set s true)from⟨hl,by rw[bf];exact SK,k0,k24,.inl rfl⟩) (show(if(0:Int)=0 then 0 else 1)<(if w=0 then 0 else 1)by rw[ax rfl,aw (by omega)];decide) ?_ (by show _=nv c cs k 0 p (seen.set s true);unfold nv;rw[bf]) rfl;show(Em c cs k 0 p (seen.set s true)).val=(Em c cs k w kr seen).val;rw[c9 0 p (seen.set s true) _ rfl,c9 w kr seen _ hsw];rfl
def Ri(env:bX)(os:bP):Option (Bool×QzF):=match env,os with
 |[(0,.sl .int c cs),(3,.vs 0 x0),(4,.int .i64 k),(5,.int .i64 w),(6,.int .i64 kr)],[.vec .bool true seen]=>some (decide (x0=seen.length)&&dO (sx cs k w kr seen),⟨c,cs,k,w,kr,seen⟩)
 |_,_=>none
def Al:=Ak.cJ 31 9 (ey cu [.slot 3 0] [0,3,4,5,6] CJ Ri)
theorem QzH:Qk Tryz.prog cu Al:=by
 refine QzD.cq Qb (by kernel_rfl) CJ 60 [0,3,4,5,6] [] [.slot 3 0] [0,3,4,5,6] Ri (fun q hI=>?_) ?_
 ·obtain⟨c,cs,k,w,kr,seen⟩:=q;refine⟨?_,?_,Qsb c cs k w kr seen hI⟩
  ·simp_all[Qj,CJ,nv,Lf,En,D.refs,Obj.refs,cV]
  ·simp_all[CJ,Em,Lf,En,RT.cT,Qj,D.refs,Obj.refs,cV]
 ·intro env os b q cN hb;unfold Ri at cN
  split at cN
  ·cases cN;simp only[ai,aa]at hb;obtain⟨h1,hA⟩:=hb;subst h1;exact⟨Q9.1 hA,rfl,rfl⟩
  ·cases cN
structure QzI where
 (c:Bool)(cs:bQ)(seen:df)(k:Nat)
def Fc(c:Bool)(cs:bQ)(seen:df)(k:Nat):bX:=[(0,.sl (C:=RC) .int c cs),(3,.vs 0 (seen.length)),(4,.int .i64 (k:Int))]
def Lg(c:Bool)(cs:bQ)(seen:df)(k:Nat):bP:=[.vec .bool true seen]
def Uc c cs seen k:=dQ cu Al 31 5 60 1 [0,3,4] [] [.slot 3 0] (Fc c cs seen k) (Lg c cs seen k)
theorem QG0 c cs seen k:Uc c cs seen k=(let Z0:Int:=(k:Int);let Z1:Int:=dY 21 Z0 24;let Z2:=seen.length;let Z3:=List.getD cs Z1.toNat 0;bif decide (Z0<24)then b7 (dH Z1 (cs.length:Int)) (b7 (decide (Z2=Z2)&&dO (sx cs Z0 Z3 1048576 seen)) (some ((X.normal,[(0,D.sl b9.int c cs),(3,D.vs 0 Z2),(4,cj (c6 (Z0+1)))]),[some (Obj.vec b9.bool true (qV Z3 seen))])))else some ((X.exit 0,[]),[some (Obj.vec b9.bool true seen)])):=by kernel_rfl
def Eo(c:Bool)(cs:bQ)(seen:df)(k:Nat):RT RC:=.leaf (.exit 0) [] [.vec .bool true (Fu cs (24-k) k seen)]
def Ep(c:Bool)(cs:bQ)(seen:df)(k:Nat):Prop:=lI cs seen k
def CK:QD RC QzI where
 k:=1
 cM q:=Fc q.c q.cs q.seen q.k
 cK q:=Lg q.c q.cs q.seen q.k
 fin q:=Eo q.c q.cs q.seen q.k
 Inv q:=Ep q.c q.cs q.seen q.k
 μ q:=24-q.k
theorem Qsc c cs seen k(hI:Ep c cs seen k):c8 (Uc c cs seen k) (dj CK ⟨c,cs,seen,k⟩):=by
 (rw[QG0];delta b7 dH cj c6;conv=>zeta)
 unfold Ep at hI;have hOk:=hI;obtain⟨hl,SK,hk,_⟩:=hI;have c9:∀seen k X,Fu cs (24-k) k seen=X->(Eo c cs seen k).val=some ((.exit 0,[]),[.vec .bool true X]):=fun seen k X h=>by subst h;rfl
 by_cases xg:k<24
 ·have w1:=eG k (by omega)
  have d1:decide ((k:Int)<24)=true:=ab (by omega);have lr:dY 21 (k:Int) 24=21+(k:Int):=Qyn (by omega) (by omega);have d2:decide (0<=21+(k:Int)/\21+(k:Int)<(cs.length:Int))=true:=ab (by omega);have t1:(21+(k:Int)).toNat=21+k:=by omega
  have hn:=Q1 (hOk.now xg);have dV:=hOk.step xg;simp only[d1,lr,d2,t1,w1,hn,aM,au,ag];refine Qi (S:=CK) (s:=⟨c,cs,seen,k⟩) ⟨c,cs,qV (cs.getD (21+k) 0) seen,k+1⟩ (show lI cs _ (k+1)from dV) (show 24-(k+1)<24-k by omega) ?_ (by show _=Fc c cs (qV (cs.getD (21+k) 0) seen) (k+1);unfold Fc;rw[dV.2.1,SK]) rfl;show(Eo c cs (qV (cs.getD (21+k) 0) seen) (k+1)).val=(Eo c cs seen k).val
  have e:Fu cs (24-k) k seen=Fu cs (24-(k+1)) (k+1) (qV (cs.getD (21+k) 0) seen):=by
   rw[show 24-k=(24-(k+1))+1 by omega];rfl
  rw[c9 _ (k+1) _ rfl,c9 seen k _ e]
 ·have z1:decide ((k:Int)<24)=false:=ad (by omega);rw[z1,ah];exact Qh _ (c9 seen k seen (by rw[show 24-k=0 by omega];rfl)) rfl
def Rj(env:bX)(os:bP):Option (Bool×QzI):=match env,os with
 |[(0,.sl .int c cs),(3,.vs 0 x0),(4,.int .i64 x1)],[.vec .bool true seen]=>some (decide (x0=seen.length)&&decide (x1=0)&&dO (lI cs seen 0),⟨c,cs,seen,0⟩)
 |_,_=>none
def Am:=Al.cJ 31 5 (ey cu [.slot 3 0] [0,3,4] CK Rj)
theorem QzK:Qk Tryz.prog cu Am:=by
 refine QzH.cq Qb (by kernel_rfl) CK 60 [0,3,4] [] [.slot 3 0] [0,3,4] Rj (fun q hI=>?_) ?_
 ·obtain⟨c,cs,seen,k⟩:=q;refine⟨?_,?_,Qsc c cs seen k hI⟩
  ·simp_all[Qj,CK,Fc,Lg,Ep,D.refs,Obj.refs,cV]
  ·simp_all[CK,Eo,Lg,Ep,RT.cT,Qj,D.refs,Obj.refs,cV]
 ·intro env os b q cN hb;unfold Rj at cN
  split at cN
  ·cases cN;simp only[ai,aa]at hb;obtain⟨⟨h1,h2⟩,hA⟩:=hb;subst h1;subst h2;exact⟨Q9.1 hA,rfl,rfl⟩
  ·cases cN
def Ud:bW->bO
 |[.sl .int c cs]=>some (dO (lI cs (List.replicate 160 false) 0),.bool true)
 |_=>none
def Wu(c:Bool)(cs:bQ):=eO cu Am 80 31 [.sl (C:=RC) .int c cs]
theorem QIn c cs:Wu c cs=(bif Qd cs.length then bif(↑cs.length:Int)!=(771:Int)then some (D.bool false)else bif dO (lI cs (List.replicate (160:Nat) false) (0:Nat))then some (D.bool true)else none else none):=by kernel_rfl
theorem QIo c cs(h:(dO (lI cs (List.replicate 160 false) 0))=true):Wu c cs=some (.bool true):=by
 rw[QIn];have hl:=(Q9.1 h).1;exact Qa (Qe (by omega)) (Qq (u4 (by omega)) (Qa h rfl))
def An:=Am.b8 31 Ud
theorem QzL:Qk Tryz.prog cu An:=QzK.cQ Qb fun args d h=>by
 unfold Ud at h
 split at h
 ·obtain⟨h1,rfl⟩:=ak h;exact⟨by simp[D.refs],80,QIo _ _ h1⟩
 ·cases h
structure QzM where
 (p:Int)(ci:Bool)(items:bM)(k0 k1 k2:Bool)(l0 l1 l2:bJ)(c0 c1 c2 q:Int)(di:Bool)(cS:bM)(j0 j1 j2:Bool)(m0 m1 m2:bJ)(d0 d1 d2:Int)(i:Nat)
def Rk(p:Int)(ci:Bool)(items:bM)(k0 k1 k2:Bool)(l0 l1 l2:bJ)(c0 c1 c2 q:Int)(di:Bool)(cS:bM)(j0 j1 j2:Bool)(m0 m1 m2:bJ)(d0 d1 d2:Int)(i:Nat):bX:=[(2,.ptr 0 []),(3,.ptr 1 []),(4,.bool false),(5,.int .i64 (i:Int))]
def CL(p:Int)(ci:Bool)(items:bM)(k0 k1 k2:Bool)(l0 l1 l2:bJ)(c0 c1 c2 q:Int)(di:Bool)(cS:bM)(j0 j1 j2:Bool)(m0 m1 m2:bJ)(d0 d1 d2:Int)(i:Nat):bP:=[.var 34 (cH p (cL .item ci items (.bI (cL .line k0 l0 (cL .line k1 l1 (cL .line k2 l2 .bN))) (.bI (.arr (C:=RC) .int 3 [c0,c1,c2]) .bN)))),.var 34 (cH q (cL .item di cS (.bI (cL .line j0 m0 (cL .line j1 m1 (cL .line j2 m2 .bN))) (.bI (.arr (C:=RC) .int 3 [d0,d1,d2]) .bN))))]
def Ue p ci items k0 k1 k2 l0 l1 l2 c0 c1 c2 q di cS j0 j1 j2 m0 m1 m2 d0 d1 d2 i:=dQ cu An 30 4 40 2 [2,3,4,5] [4] [.slot 2 0,.slot 3 0] (Rk p ci items k0 k1 k2 l0 l1 l2 c0 c1 c2 q di cS j0 j1 j2 m0 m1 m2 d0 d1 d2 i) (CL p ci items k0 k1 k2 l0 l1 l2 c0 c1 c2 q di cS j0 j1 j2 m0 m1 m2 d0 d1 d2 i)
theorem QG1 p ci items k0 k1 k2 l0 l1 l2 c0 c1 c2 q di cS j0 j1 j2 m0 m1 m2 d0 d1 d2 i:Ue p ci items k0 k1 k2 l0 l1 l2 c0 c1 c2 q di cS j0 j1 j2 m0 m1 m2 d0 d1 d2 i=(let Z0:Int:=(i:Int);let Z1:Item:=Item.mk 0 0 0;let Z2:Item:=List.getD items Z0.toNat Z1;let Z3:Item:=List.getD cS Z0.toNat Z1;let Z4:cb:=[some (Obj.var 34 (.bI (cj p) (.bI (D.sl b9.item ci items) (.bI (D.bI (D.sl b9.line k0 l0) (.bI (D.sl b9.line k1 l1) (.bI (D.sl b9.line k2 l2) .bN))) (.bI (D.arr b9.int 3 [c0,c1,c2]) .bN))))),some (Obj.var 34 (.bI (cj q) (.bI (D.sl b9.item di cS) (.bI (D.bI (D.sl b9.line j0 m0) (.bI (D.sl b9.line j1 m1) (.bI (D.sl b9.line j2 m2) .bN))) (.bI (D.arr b9.int 3 [d0,d1,d2]) .bN)))))];b7 (Qd items.length) (bif decide (Z0<(items.length:Int))then b7 (dH Z0 (items.length:Int)) (b7 (dH Z0 (cS.length:Int)) (bif !(Item.key Z2==Item.key Z3&&(Item.place Z2==Item.place Z3&&(Item.value Z2==Item.value Z3&&true)))then some ((X.ret,[(4,D.bool false)]),Z4)else some ((X.normal,[(2,D.ptr 0 []),(3,D.ptr 1 []),(4,D.bool false),(5,cj (c6 (Z0+1)))]),Z4)))else some ((X.exit 0,[(4,D.bool false)]),Z4))):=by kernel_rfl
def QpQ(p:Int)(ci:Bool)(items:bM)(k0 k1 k2:Bool)(l0 l1 l2:bJ)(c0 c1 c2 q:Int)(di:Bool)(cS:bM)(j0 j1 j2:Bool)(m0 m1 m2:bJ)(d0 d1 d2:Int)(i:Nat):RT RC:=.leaf (.exit 0) [(4,.bool false)] (CL p ci items k0 k1 k2 l0 l1 l2 c0 c1 c2 q di cS j0 j1 j2 m0 m1 m2 d0 d1 d2 i)
def Er(p:Int)(ci:Bool)(items:bM)(k0 k1 k2:Bool)(l0 l1 l2:bJ)(c0 c1 c2 q:Int)(di:Bool)(cS:bM)(j0 j1 j2:Bool)(m0 m1 m2:bJ)(d0 d1 d2:Int)(i:Nat):Prop:=i<=items.length/\items.length<=1000/\items=cS
def CM:QD RC QzM where
 k:=2
 cM q:=Rk q.p q.ci q.items q.k0 q.k1 q.k2 q.l0 q.l1 q.l2 q.c0 q.c1 q.c2 q.q q.di q.cS q.j0 q.j1 q.j2 q.m0 q.m1 q.m2 q.d0 q.d1 q.d2 q.i
 cK q:=CL q.p q.ci q.items q.k0 q.k1 q.k2 q.l0 q.l1 q.l2 q.c0 q.c1 q.c2 q.q q.di q.cS q.j0 q.j1 q.j2 q.m0 q.m1 q.m2 q.d0 q.d1 q.d2 q.i
 fin q:=QpQ q.p q.ci q.items q.k0 q.k1 q.k2 q.l0 q.l1 q.l2 q.c0 q.c1 q.c2 q.q q.di q.cS q.j0 q.j1 q.j2 q.m0 q.m1 q.m2 q.d0 q.d1 q.d2 q.i
 Inv q:=Er q.p q.ci q.items q.k0 q.k1 q.k2 q.l0 q.l1 q.l2 q.c0 q.c1 q.c2 q.q q.di q.cS q.j0 q.j1 q.j2 q.m0 q.m1 q.m2 q.d0 q.d1 q.d2 q.i
 μ q:=q.items.length-q.i
theorem Qsd p ci items k0 k1 k2 l0 l1 l2 c0 c1 c2 q di cS j0 j1 j2 m0 m1 m2 d0 d1 d2 i(hI:Er p ci items k0 k1 k2 l0 l1 l2 c0 c1 c2 q di cS j0 j1 j2 m0 m1 m2 d0 d1 d2 i):c8 (Ue p ci items k0 k1 k2 l0 l1 l2 c0 c1 c2 q di cS j0 j1 j2 m0 m1 m2 d0 d1 d2 i) (dj CM ⟨p,ci,items,k0,k1,k2,l0,l1,l2,c0,c1,c2,q,di,cS,j0,j1,j2,m0,m1,m2,d0,d1,d2,i⟩):=by
 (rw[QG1];delta b7 dH cj c6;conv=>zeta)
 unfold Er at hI;obtain⟨h1,h2,h3⟩:=hI;subst h3;have lk:Qd items.length=true:=Qe (by omega);rw[lk,ag]
 by_cases cU:i<items.length
 ·have cP:=eG i (by omega)
  have eu:=ga (show i<items.length by omega)
  have et:=fL (show i<items.length by omega)
  have dh:=bw i
  simp only[cP,eu,et,dh,ag];simp only[beq_self_eq_true,au,bg,ah];exact Qi (S:=CM) (s:=⟨p,ci,items,k0,k1,k2,l0,l1,l2,c0,c1,c2,q,di,items,j0,j1,j2,m0,m1,m2,d0,d1,d2,i⟩) ⟨p,ci,items,k0,k1,k2,l0,l1,l2,c0,c1,c2,q,di,items,j0,j1,j2,m0,m1,m2,d0,d1,d2,i+1⟩ ⟨cU,h2,rfl⟩ (show items.length-(i+1)<items.length-i by omega) rfl rfl rfl
 ·have z1:decide ((i:Int)<items.length)=false:=by simp;omega
  simp only[z1,ah];exact Qh (CL p ci items k0 k1 k2 l0 l1 l2 c0 c1 c2 q di items j0 j1 j2 m0 m1 m2 d0 d1 d2 i) rfl rfl
def Rl(env:bX)(os:bP):Option (Bool×QzM):=match env,os with
 |[(2,.ptr 0 []),(3,.ptr 1 []),(4,.bool false),(5,.int .i64 x0)],[.var 34 (.bI (.int .i64 p) (.bI (.sl .item ci items) (.bI (.bI (.sl .line k0 l0) (.bI (.sl .line k1 l1) (.bI (.sl .line k2 l2) .bN))) (.bI (.arr .int 3 [c0,c1,c2]) .bN)))),.var 34 (.bI (.int .i64 q) (.bI (.sl .item di cS) (.bI (.bI (.sl .line j0 m0) (.bI (.sl .line j1 m1) (.bI (.sl .line j2 m2) .bN))) (.bI (.arr .int 3 [d0,d1,d2]) .bN))))]=>some (decide (x0=0)&&decide (items.length<=1000/\items=cS),⟨p,ci,items,k0,k1,k2,l0,l1,l2,c0,c1,c2,q,di,cS,j0,j1,j2,m0,m1,m2,d0,d1,d2,0⟩)
 |_,_=>none
def Ao:=An.cJ 30 4 (ey cu [.slot 2 0,.slot 3 0] [2,3,4,5] CM Rl)
theorem QzP:Qk Tryz.prog cu Ao:=by
 refine QzL.cq Qb (by kernel_rfl) CM 40 [2,3,4,5] [4] [.slot 2 0,.slot 3 0] [2,3,4,5] Rl (fun q hI=>?_) ?_
 ·obtain⟨p,ci,items,k0,k1,k2,l0,l1,l2,c0,c1,c2,q,di,cS,j0,j1,j2,m0,m1,m2,d0,d1,d2,i⟩:=q;refine⟨?_,?_,Qsd p ci items k0 k1 k2 l0 l1 l2 c0 c1 c2 q di cS j0 j1 j2 m0 m1 m2 d0 d1 d2 i hI⟩
  ·simp_all[Qj,CM,Rk,CL,Er,D.refs,Obj.refs,cV]
  ·simp_all[CM,QpQ,CL,Er,RT.cT,Qj,D.refs,Obj.refs,cV]
 ·intro env os b q cN hb;unfold Rl at cN
  split at cN
  ·cases cN;simp only[ai,aa]at hb;obtain⟨rfl,hl⟩:=hb;exact⟨⟨aK _,hl.1,hl.2⟩,rfl,rfl⟩
  ·cases cN
def Uf:bW->bO
 |[.bI (.int .i64 p) (.bI (.sl .item ci items) (.bI (.bI (.sl .line k0 l0) (.bI (.sl .line k1 l1) (.bI (.sl .line k2 l2) .bN))) (.bI (.arr .int 3 [c0,c1,c2]) .bN))),.bI (.int .i64 q) (.bI (.sl .item di cS) (.bI (.bI (.sl .line j0 m0) (.bI (.sl .line j1 m1) (.bI (.sl .line j2 m2) .bN))) (.bI (.arr .int 3 [d0,d1,d2]) .bN)))]=>some (decide (items.length<=1000/\l0.length<=1000/\l1.length<=1000/\l2.length<=1000/\items=cS/\l0=m0/\l1=m1/\l2=m2/\c0=d0/\c1=d1/\c2=d2),.bool true)
 |_=>none
def Wv(p:Int)(ci:Bool)(items:bM)(k0 k1 k2:Bool)(l0 l1 l2:bJ)(c0 c1 c2 q:Int)(di:Bool)(cS:bM)(j0 j1 j2:Bool)(m0 m1 m2:bJ)(d0 d1 d2:Int):=eO cu Ao 40 30 [.bI (.int .i64 p) (cL .item ci items (.bI (cL .line k0 l0 (cL .line k1 l1 (cL .line k2 l2 .bN))) (.bI (.arr (C:=RC) .int 3 [c0,c1,c2]) .bN))),.bI (.int .i64 q) (cL .item di cS (.bI (cL .line j0 m0 (cL .line j1 m1 (cL .line j2 m2 .bN))) (.bI (.arr (C:=RC) .int 3 [d0,d1,d2]) .bN)))]
theorem QIr p ci items k0 k1 k2 l0 l1 l2 c0 c1 c2 q di cS j0 j1 j2 m0 m1 m2 d0 d1 d2:Wv p ci items k0 k1 k2 l0 l1 l2 c0 c1 c2 q di cS j0 j1 j2 m0 m1 m2 d0 d1 d2=(let Z0:=items.length;let Z1:fI:=some (D.bool false);b7 (Qd Z0) (b7 (Qd cS.length) (bif (Z0:Int)!=(cS.length:Int)then Z1 else b7 (decide (Z0<=1000/\items=cS)) (b7 (Qd l0.length&&Qd m0.length) (bif !decide (l0=m0)then Z1 else bif c0 !=d0 then Z1 else b7 (Qd l1.length&&Qd m1.length) (bif !decide (l1=m1)then Z1 else bif c1 !=d1 then Z1 else b7 (Qd l2.length&&Qd m2.length) (bif !decide (l2=m2)then Z1 else bif c2 !=d2 then Z1 else some (D.bool true)))))))):=by kernel_rfl
theorem QIs p ci items k0 k1 k2 l0 l1 l2 c0 c1 c2 q di cS j0 j1 j2 m0 m1 m2 d0 d1 d2(h:(decide (items.length<=1000/\l0.length<=1000/\l1.length<=1000/\l2.length<=1000/\items=cS/\l0=m0/\l1=m1/\l2=m2/\c0=d0/\c1=d1/\c2=d2))=true):Wv p ci items k0 k1 k2 l0 l1 l2 c0 c1 c2 q di cS j0 j1 j2 m0 m1 m2 d0 d1 d2=some (.bool true):=by
 (rw[QIr];delta b7;conv=>zeta)
 obtain⟨h1,h2,h3,h4,rfl,rfl,rfl,rfl,rfl,rfl,rfl⟩:=af h;have a1:=Qe (show items.length<=9223372036854775807 by omega);have a2:=Qe (show l0.length<=9223372036854775807 by omega);have a3:=Qe (show l1.length<=9223372036854775807 by omega);have a4:=Qe (show l2.length<=9223372036854775807 by omega);refine Qa a1 (Qa a1 (Qq (u4 rfl) (Qa (ab ⟨h1,rfl⟩) ?_)));exact Qa (eK a2 a2) (Qq (by simp) (Qq (u4 rfl) (Qa (eK a3 a3) (Qq (by simp) (Qq (u4 rfl) (Qa (eK a4 a4) (Qq (by simp) (Qq (u4 rfl) rfl))))))))
def Ap:=Ao.b8 30 Uf
theorem QzQ:Qk Tryz.prog cu Ap:=QzP.cQ Qb fun args d h=>by
 unfold Uf at h
 split at h
 ·obtain⟨h1,rfl⟩:=ak h;exact⟨by simp[D.refs],40,QIs _ _ _ _ _ _ _ _ _ _ _ _ _ _ _ _ _ _ _ _ _ _ _ _ h1⟩
 ·cases h
def DA(x y:bK):bK:=bif Ql x y then x else[]
def FI(now:bK)(c:Int)(s:St):bK×Bool:=(DA (eD now now 32 c (eN c s)) (Zj now now 32 c (eN c s)),!Ql (eD now now 32 c (eN c s)) (Zj now now 32 c (eN c s)))
def mT(now:bK)(r:Rec):bK×Bool:=(DA (eD now now (ej r.place) r.place (fD r)) (Zj now now (ej r.place) r.place (fD r)),!Ql (eD now now (ej r.place) r.place (fD r)) (Zj now now (ej r.place) r.place (fD r)))
def uF(l:bS)(c:Int)(i:Nat)(d:bK×Bool):bK×Bool:=if 0<c/\(i:Int)=c then FI d.1 c (Zx l c)else d
def gh(l:bS)(c:Int):Nat->Nat->bK×Bool->(bK×Bool)×Bool
 |0,_,d=>(d,true)
 |n+1,i,d=>if(l.getD i dz).place=(i:Int)+1 then(if c<=(i:Int)/\c+32<(i:Int)+1 then(uF l c i d,false)else gh l c n (i+1) (mT (uF l c i d).1 (l.getD i dz)))else(d,false)
theorem QpR{x y:bK}(h:Qn x=true):Qn (DA x y)=true:=by
 unfold DA;cases Ql x y
 ·rfl
 ·exact h
theorem QCr now c s:Qn (FI now c s).1=true:=QpR (D7 _ _ _ _ _).1
theorem QCs now r:Qn (mT now r).1=true:=QpR (D7 _ _ _ _ _).1
theorem Xh l s:∀n k,(Ye l s n k).length<=n
 |0,_=>aq _
 |n+1,k=>by
  have:=Xh l s n (k+1);unfold Ye;cases atR s (k:Int) l none<;>simp<;>omega
def qZ(l:bS)(ck:Int):Int:=if ck<0\/(l.length:Int)<=ck then 0 else ck
def ph(l:bS)(ck:Int):bK×Bool:=bif JL l l.length 0&&decide (l.length<=100)then((gh l (qZ l ck) l.length 0 (QX,false)).1.1,(gh l (qZ l ck) l.length 0 (QX,false)).2)else(QX,false)
end Go.Ev
