/-
  A part of the proof of a statement of this seat: the model is run over values by content, proved sound; what the functions come to. No condition beyond the given statements. (text 9)
-/
import Derived.Test.YtkoeniljaccaiaaGreatP7
import Derived.OpenShut
import Derived.ReadAgain
noncomputable section
namespace Go.Ev
open Go.Proofs
set_option maxRecDepth 100000
set_option linter.unusedVariables false
set_option linter.unusedSimpArgs false
def Qlo:bW->bO
 |[.bI (.sl .bR c now) (.bI (.sl .bR d sure) .bN)]=>some (Qn now&&Qn sure,.cG (.bI (cL .bR (!Ql now sure) (bif Ql now sure then now else[]) (cL .bR (!Ql now sure) (bif Ql now sure then now else[]) .bN)) (cH (bif Ql now sure then 0 else 2) .bN)))
 |_=>none
def QpT(c:Bool)(now:bK)(d:Bool)(sure:bK):=eO cu Ap 40 49 [.bI (.sl (C:=RC) .bR c now) (cL .bR d sure .bN)]
theorem QzR c now d sure:QpT c now d sure=(let Z0:bV:=D.sl b9.bR true [];let Z1:Nat:=(0:Nat)+now.length;let Z2:bK:=List.replicate 0 (cE.mk 0 []);let Z3:=List.length (Z2++now);b7 (Qn now&&Qn sure) (bif (bif Ql now sure then (0:Int)else (2:Int))!=0 then some (D.cG (D.bI (D.bI Z0 (D.bI Z0 .bN)) (.bI (cj 2) .bN)))else b7 (Qg Z1 24) (b7 (Qg ((0:Nat)+sure.length) 24) (b7 (Nat.beq Z1 Z3) (b7 (Qg ((0:Nat)+Z3) 24) (b7 (Nat.beq Z1 Z3) (b7 (Nat.beq ((0:Nat)+Z3) (Z2++(Z2++now)).length) (some (D.cG (D.bI (D.bI (D.sl b9.bR false (Z2++now)) (.bI (D.sl b9.bR false (Z2++(Z2++now))) .bN)) (.bI (cj 0) .bN))))))))))):=by kernel_rfl
theorem QzS c now d sure(h:(Qn now&&Qn sure)=true):QpT c now d sure=some (.cG (.bI (cL .bR (!Ql now sure) (bif Ql now sure then now else[]) (cL .bR (!Ql now sure) (bif Ql now sure then now else[]) .bN)) (cH (bif Ql now sure then 0 else 2) .bN))):=by
 (rw[QzR];delta b7 cj;conv=>zeta)
 refine Qa h ?_;cases hd:Ql now sure
 ·exact Qa rfl rfl
 refine Qq rfl ?_;obtain⟨l1,l2⟩:=Zg hd;have s1:Qg now.length 24=true:=by rw[l1];rfl
 have s2:Qg sure.length 24=true:=by rw[l2];rfl
 simp only[bF,aH,aN,s1,s2,Zp rfl,au,ag,bg]
def Aq:=Ap.b8 49 Qlo
theorem QzT:Qk Tryz.prog cu Aq:=QzQ.cQ Qb fun args d h=>by
 unfold Qlo at h
 split at h
 ·obtain⟨h1,rfl⟩:=ak h;exact⟨by simp[D.refs],40,QzS _ _ _ _ h1⟩
 ·cases h
def rA(l:bS)(c:Int)(now:bK)(i:Nat):Prop:=jL l/\0<=c/\c<=1000/\Qn now=true/\i<=l.length
structure Ug where
 (k:Bool)(l:bS)(c:Int)(a:Bool)(now:bK)(i:Nat)
def C1(k:Bool)(l:bS)(c:Int)(a:Bool)(now:bK)(i:Nat):bX:=[(0,.sl (C:=RC) .dU k l),(1,.int .i64 c),(4,.ptr 0 []),(5,.bool false),(6,.ptr 1 []),(7,.int .i64 (i:Int))]
def yo(k:Bool)(l:bS)(c:Int)(a:Bool)(now:bK)(i:Nat):bP:=[.var 24 (cL .bR true [] (cL .bR true [] .bN)),.var 24 (cL .bR a now (cL .bR ((a)) ((now)) .bN))]
def Ww k l c a now i:=dQ cu Aq 19 7 100 2 [0,1,4,5,6,7] [5] [.slot 4 0,.slot 6 0] (C1 k l c a now i) (yo k l c a now i)
theorem QIu k l c a now i:Ww k l c a now i=(let Z0:Int:=(i:Int);let Z1:Bool:=dH Z0 (l.length:Int);let Z2:Rec:=List.getD l Z0.toNat (Rec.mk 0 false []);let Z3:=Rec.place Z2;let Z4:=c6 (Z0+1);let Z5:X×bX:=(X.ret,[(5,D.bool false)]);let Z6:bV:=D.sl b9.bR a now;let Z7:bV:=.bN;let Z8:cf:=some (Obj.var 24 (.bI Z6 (D.bI Z6 Z7)));let Z9:=Qn now&&Qn now;let db:St:=Zx l c;let dB:bL:=eN c (St.mk db.place db.items db.l0 db.l1 db.l2 db.c0 db.c1 db.c2);let eo:bK:=eD now now 32 c dB;let fa:Bool:=decide (c6 (c+32)<Z4);let fM:=Ql eo (Zj now now 32 c dB);let fz:bK:=bif fM then eo else [];let fy:bV:=D.sl b9.bR (!fM) fz;let fR:cf:=some (Obj.var 24 (.bI fy (D.bI fy Z7)));let eH:=Qd Z2.writes.length;let fW:bL:=fD (Rec.mk Z3 Z2.yes Z2.writes);let gD:bK:=eD fz fz (ej Z3) Z3 fW;let iJ:X×bX:=(X.normal,[(0,D.sl b9.dU k l),(1,cj c),(4,D.ptr 0 []),(5,D.bool false),(6,D.ptr 1 []),(7,cj Z4)]);let gQ:cf:=some (Obj.var 24 (.bI (D.sl b9.bR true []) (.bI (D.sl b9.bR true []) Z7)));let iY:=Ql gD (Zj fz fz (ej Z3) Z3 fW);let im:bV:=D.sl b9.bR (!iY) (bif iY then gD else []);let nE:mL:=b7 Z1 (b7 (Qn fz&&Qn fz&&eH) (b7 (Qn gD&&Qn (Zj fz fz (ej Z3) Z3 fW)) (some (iJ,[gQ,some (Obj.var 24 (.bI im (D.bI im Z7)))]))));let nG:bK:=eD now now (ej Z3) Z3 fW;let nH:=Ql nG (Zj now now (ej Z3) Z3 fW);let od:bV:=D.sl b9.bR (!nH) (bif nH then nG else []);let ji:mL:=b7 Z1 (b7 (Z9&&eH) (b7 (Qn nG&&Qn (Zj now now (ej Z3) Z3 fW)) (some (iJ,[gQ,some (Obj.var 24 (.bI od (D.bI od Z7)))]))));let la:mL:=bif decide (c<=Z0)then bif fa then some (Z5,[Z8,Z8])else ji else ji;b7 (Qd l.length) (bif decide (Z0<(l.length:Int))then b7 Z1 (bif Z3 !=Z4 then some (Z5,[Z8,Z8])else bif decide ((0:Int)<c)then bif Z0==c then b7 (dO (jL l)&&decide ((0:Int)<=c/\c<=1048575)) (b7 (Z9&&decide (List.length db.items<=9223372036854775807/\List.length db.l0<=9223372036854775807/\List.length db.l1<=9223372036854775807/\List.length db.l2<=9223372036854775807)) (b7 (Qn eo&&Qn (Zj now now 32 c dB)) (bif decide (c<=Z0)then bif fa then some (Z5,[fR,fR])else nE else nE)))else la else la)else some ((X.exit 0,[(5,D.bool false)]),[gQ,Z8]))):=by kernel_rfl
def EP(k:Bool)(l:bS)(c:Int)(a:Bool)(now:bK)(i:Nat):RT RC:=.br (gh l c (l.length-i) i (now,a)).2 (.leaf (.exit 0) [(5,.bool false)] [.var 24 (cL .bR true [] (cL .bR true [] .bN)),.var 24 (cL .bR (gh l c (l.length-i) i (now,a)).1.2 (gh l c (l.length-i) i (now,a)).1.1 (cL .bR (gh l c (l.length-i) i (now,a)).1.2 (gh l c (l.length-i) i (now,a)).1.1 .bN))]) (.leaf .ret [(5,.bool false)] [.var 24 (cL .bR (gh l c (l.length-i) i (now,a)).1.2 (gh l c (l.length-i) i (now,a)).1.1 (cL .bR (gh l c (l.length-i) i (now,a)).1.2 (gh l c (l.length-i) i (now,a)).1.1 .bN)),.var 24 (cL .bR (gh l c (l.length-i) i (now,a)).1.2 (gh l c (l.length-i) i (now,a)).1.1 (cL .bR (gh l c (l.length-i) i (now,a)).1.2 (gh l c (l.length-i) i (now,a)).1.1 .bN))])
def EQ(k:Bool)(l:bS)(c:Int)(a:Bool)(now:bK)(i:Nat):Prop:=rA l c now i
def u7:QD RC Ug where
 k:=2
 cM q:=C1 q.k q.l q.c q.a q.now q.i
 cK q:=yo q.k q.l q.c q.a q.now q.i
 fin q:=EP q.k q.l q.c q.a q.now q.i
 Inv q:=EQ q.k q.l q.c q.a q.now q.i
 μ q:=q.l.length-q.i
theorem QzU k l c a now i(hI:EQ k l c a now i):c8 (Ww k l c a now i) (dj u7 ⟨k,l,c,a,now,i⟩):=by
 (rw[QIu];delta b7 dH cj c6;conv=>zeta)
 unfold EQ at hI;obtain⟨hR,c0,c1,hg,hi⟩:=hI;have m6:=hR.2;have lk:Qd l.length=true:=Qe (by omega);have c9:∀(a:Bool) (now:bK) (i:Nat) (M:(bK×Bool)×Bool),gh l c (l.length-i) i (now,a)=M->(EP k l c a now i).val=bif M.2 then some ((.exit 0,[(5,.bool false)]),[.var 24 (cL .bR true [] (cL .bR true [] .bN)),.var 24 (cL .bR M.1.2 M.1.1 (cL .bR M.1.2 M.1.1 .bN))])else some ((.ret,[(5,.bool false)]),[.var 24 (cL .bR M.1.2 M.1.1 (cL .bR M.1.2 M.1.1 .bN)),.var 24 (cL .bR M.1.2 M.1.1 (cL .bR M.1.2 M.1.1 .bN))]):=fun a now i M h=>by subst h;rfl
 rw[lk,ag]
 by_cases cU:i<l.length
 ·have w1:=eG i (by omega)
  have w2:IntKind.i64.wrap (c+32)=c+32:=cC (by omega) (by omega);have d1:=ga (show i<l.length by omega)
  have d2:=fL (show i<l.length by omega)
  have t1:=bw i
  have hn:l.length-i=(l.length-(i+1))+1:=by omega
  have hm:=hR.may cU
  have dV:gh l c (l.length-i) i (now,a)=if(l.getD i dz).place=(i:Int)+1 then(if c<=(i:Int)/\c+32<(i:Int)+1 then(uF l c i (now,a),false)else gh l c (l.length-(i+1)) (i+1) (mT (uF l c i (now,a)).1 (l.getD i dz)))else((now,a),false):=by
   rw[hn];rfl
  unfold dz at dV hm;have hww:Qd (l.getD i ⟨0,false,[]⟩).writes.length=true:=Qe (bk (JH hm) (by decide));simp only[d1,d2,w1,w2,t1,ag];generalize l.getD i ⟨0,false,[]⟩=x at *;have lX:Rec.mk x.place x.yes x.writes=x:=rfl;simp only[lX,hww]
  by_cases hp:x.place=(i:Int)+1
  ·rw[ax hp]at dV;have n1:(x.place !=((i+1:Nat):Int))=false:=u4 (by omega);rw[n1,ah]
   have tail:∀(E:bK) (f:Bool),Qn E=true->uF l c i (now,a)=(E,f) ->
    (c<=(i:Int)/\c+32<((i+1:Nat):Int)->c8 (some ((Ev.X.ret,[(5,D.bool false)]),[some (Obj.var 24 (cL .bR f E (cL .bR f E .bN))),some (Obj.var 24 (cL .bR f E (cL .bR f E .bN)))])) (dj u7 ⟨k,l,c,a,now,i⟩)) /\
    (¬(c<=(i:Int)/\c+32<((i+1:Nat):Int))->c8 (some ((Ev.X.normal,C1 k l c (mT E x).2 (mT E x).1 (i+1)),(yo k l c (mT E x).2 (mT E x).1 (i+1)).map some)) (dj u7 ⟨k,l,c,a,now,i⟩)):=fun E f hE nL=>by
    rw[nL]at dV;refine⟨fun hc=>?_,fun hc=>?_⟩
    ·rw[ax (by omega)]at dV;exact QW _ (c9 a now i _ dV) rfl
    ·rw[aw (by omega)]at dV;refine Qi (S:=u7) (s:=⟨k,l,c,a,now,i⟩) ⟨k,l,c,(mT E x).2,(mT E x).1,i+1⟩ (show rA l c (mT E x).1 (i+1)from⟨hR,c0,c1,QCs E x,cU⟩) (show l.length-(i+1)<l.length-i by omega) ?_ rfl rfl;show(EP k l c (mT E x).2 (mT E x).1 (i+1)).val=(EP k l c a now i).val;rw[c9 (mT E x).2 (mT E x).1 (i+1) _ rfl,c9 a now i _ dV]
   have fin:∀(E:bK) (f:Bool),Qn E=true->uF l c i (now,a)=(E,f)->∀t,t=(bif decide (c<=(i:Int))then(bif decide (c+32<((i+1:Nat):Int))then some ((Ev.X.ret,[(5,D.bool false)]),[some (Obj.var 24 (cL .bR f E (cL .bR f E .bN))),some (Obj.var 24 (cL .bR f E (cL .bR f E .bN)))])else some ((Ev.X.normal,C1 k l c (mT E x).2 (mT E x).1 (i+1)),(yo k l c (mT E x).2 (mT E x).1 (i+1)).map some))else some ((Ev.X.normal,C1 k l c (mT E x).2 (mT E x).1 (i+1)),(yo k l c (mT E x).2 (mT E x).1 (i+1)).map some))->c8 t (dj u7 ⟨k,l,c,a,now,i⟩):=fun E f hE nL t ht=>by
    subst ht;obtain⟨h1,h2⟩:=tail E f hE nL
    by_cases q1:c<=(i:Int)
    ·rw[ab q1,ag]
     by_cases q2:c+32<((i+1:Nat):Int)
     ·rw[ab q2,ag];exact h1 ⟨q1,q2⟩
     ·rw[ad q2,ah];exact h2 (fun e=>q2 e.2)
    ·rw[ad q1,ah];exact h2 (fun e=>q1 e.1)
   have hP:∀E:bK,(Qn (eD E E (ej x.place) x.place (fD x))&&Qn (Zj E E (ej x.place) x.place (fD x)))=true:=fun E=>by
    have:=D7 E E (ej x.place) x.place (fD x);rw[this.1,this.2];rfl
   have GZ:¬(0<c/\(i:Int)=c)->uF l c i (now,a)=(now,a):=fun e=>aw e
   by_cases q0:0<c
   ·rw[ab q0,ag]
    by_cases qi:(i:Int)=c
    ·have RZ:(dO (jL l)&&decide (0<=c/\c<=1048575))=true:=eK (Q1 hR) (ab (by omega))
     have hls:decide ((Zx l c).items.length<=9223372036854775807/\(Zx l c).l0.length<=9223372036854775807/\(Zx l c).l1.length<=9223372036854775807/\(Zx l c).l2.length<=9223372036854775807)=true:=by
      have a0:=Hz hR 0 c 0;have a1:=Hz hR 0 c 1;have a2:=Hz hR 0 c 2;have a3:=Xh l c 24 0;refine ab ⟨?_,?_,?_,?_⟩
      ·show(Ye l c 24 0).length<=_;omega
      ·show(ZX (cA l 0 c 0)).length<=_;omega
      ·show(ZX (cA l 0 c 1)).length<=_;omega
      ·show(ZX (cA l 0 c 2)).length<=_;omega
     have nL:uF l c i (now,a)=FI now c (Zx l c):=ax ⟨q0,qi⟩;have gk:=D7 now now 32 c (eN c (Zx l c));have hE:=QCr now c (Zx l c);have hE2:Qn (bif Ql (eD now now 32 c (eN c (Zx l c))) (Zj now now 32 c (eN c (Zx l c)))then eD now now 32 c (eN c (Zx l c))else[])=true:=hE;have hPE:=hP (bif Ql (eD now now 32 c (eN c (Zx l c))) (Zj now now 32 c (eN c (Zx l c)))then eD now now 32 c (eN c (Zx l c))else[]);simp only[CW qi,RZ,hg,hls,P5,gk.1,gk.2,hE2,hPE,au,ag];exact fin _ _ hE nL _ rfl
    ·simp only[CX qi,hg,hP now,au,ag,ah];exact fin now a hg (GZ fun e=>qi e.2) _ rfl
   ·rw[ad q0,ah];simp only[hg,hP now,au,ag];exact fin now a hg (GZ fun e=>q0 e.1) _ rfl
  ·rw[aw hp]at dV;have n1:(x.place !=((i+1:Nat):Int))=true:=Mh (by omega);rw[n1,ag];exact QW _ (c9 a now i _ dV) rfl
 ·have z1:decide ((i:Int)<l.length)=false:=by simp;omega
  have e:l.length-i=0:=by omega
  rw[z1,ah];exact Qh _ (c9 a now i ((now,a),true) (by rw[e];rfl)) rfl
def MX(env:bX)(os:bP):Option (Bool×Ug):=match env,os with
 |[(0,.sl .dU k l),(1,.int .i64 c),(4,.ptr 0 []),(5,.bool false),(6,.ptr 1 []),(7,.int .i64 x0)],[.var 24 (.bI (.sl .bR true []) (.bI (.sl .bR true []) .bN)),.var 24 (.bI (.sl .bR a now) (.bI (.sl .bR x1 x2) .bN))]=>some (decide (x0=0)&&decide (x1=(a))&&decide (x2=(now))&&dO (rA l c now 0),⟨k,l,c,a,now,0⟩)
 |_,_=>none
def Ar:=Aq.cJ 19 7 (ey cu [.slot 4 0,.slot 6 0] [0,1,4,5,6,7] u7 MX)
theorem QzV:Qk Tryz.prog cu Ar:=by
 refine QzT.cq Qb (by kernel_rfl) u7 100 [0,1,4,5,6,7] [5] [.slot 4 0,.slot 6 0] [0,1,4,5,6,7] MX (fun q hI=>?_) ?_
 ·obtain⟨k,l,c,a,now,i⟩:=q;refine⟨?_,?_,QzU k l c a now i hI⟩
  ·simp_all[Qj,u7,C1,yo,EQ,D.refs,Obj.refs,cV]
  ·simp_all[u7,EP,yo,EQ,RT.cT,Qj,D.refs,Obj.refs,cV]
 ·intro env os b q cN hb;unfold MX at cN
  split at cN
  ·cases cN;simp only[ai,aa]at hb;obtain⟨⟨⟨rfl,h1⟩,h2⟩,h3⟩:=hb;subst h1;subst h2;exact⟨Q9.1 h3,rfl,rfl⟩
  ·cases cN
def UW:bW->bO
 |[.sl .dU k l,.int .i64 ck]=>some (decide (l.length<=1000)&&l.all fun r=>Qd r.writes.length,.cG (.bI (cL .bR false (ph l ck).1 (cL .bR false (ph l ck).1 .bN)) (.bI (.bool (ph l ck).2) .bN)))
 |_=>none
def Wx(k:Bool)(l:bS)(ck:Int):=ky cu Ar 100 19 [.sl (C:=RC) .dU k l,.int .i64 ck]
theorem QIx k l ck:Wx k l ck=(let Z0:=l.length;let Z1:bK:=List.replicate 33 (cE.mk 0 []);let Z2:bV:=D.sl b9.bR false Z1;let Z3:bV:=.bN;let Z4:bV:=D.bI (D.bool false) Z3;let Z5:fI:=some (D.cG (D.bI (D.bI Z2 (D.bI Z2 Z3)) Z4));let Z6:(bK×Bool)×Bool:=gh l 0 (Z0-0) 0 (Z1,false);let Z7:bV:=D.sl b9.bR false Z6.1.1;let Z8:bV:=D.bI Z7 (D.bI Z7 Z3);let Z9:bV:=D.bI (D.bool true) Z3;let db:Int:=bif decide ((Z0:Int)<=ck)then (0:Int)else ck;let dB:(bK×Bool)×Bool:=gh l db (Z0-0) 0 (Z1,false);let eo:bV:=D.sl b9.bR false dB.1.1;let fa:bV:=D.bI eo (D.bI eo Z3);b7 (decide (Z0<=1000)&&List.all l fun(r:Rec)=>Qd r.writes.length) (bif (bif JL l Z0 0 then (0:Int)else (2:Int))!=0 then Z5 else b7 (Qd Z0) (bif decide ((100:Int)<(Z0:Int))then Z5 else bif decide (ck<0)then b7 (dO (rA l 0 Z1 0)) (bif Z6.2 then some (D.cG (D.bI Z8 Z9))else some (D.cG (D.bI Z8 Z4)))else b7 (Qd Z0) (b7 (dO (rA l db Z1 0)) (bif dB.2 then some (D.cG (D.bI fa Z9))else some (D.cG (D.bI fa Z4))))))):=by kernel_rfl
theorem QIy k l ck(h:(decide (l.length<=1000)&&l.all fun r=>Qd r.writes.length)=true):Wx k l ck=some (.cG (.bI (cL .bR false (ph l ck).1 (cL .bR false (ph l ck).1 .bN)) (.bI (.bool (ph l ck).2) .bN))):=by
 (rw[QIx];delta b7;conv=>zeta)
 refine Qa h ?_;rw[ai]at h;have aae:=af h.1;have lk:Qd l.length=true:=Qe (by omega);have eE:(List.replicate 33 ⟨0,[]⟩:bK)=QX:=rfl;rw[eE];cases hr:JL l l.length 0
 ·refine Qa rfl ?_;unfold ph;rw[hr];rfl
 refine Qq rfl (Qa lk ?_)
 by_cases m6:l.length<=100
 ·have hR:jL l:=⟨hr,m6⟩
  have hM:ph l ck=((gh l (qZ l ck) l.length 0 (QX,false)).1.1,(gh l (qZ l ck) l.length 0 (QX,false)).2):=by
   unfold ph;rw[hr,ab m6];rfl
  refine Qq (by simp;omega) ?_;rw[hM,Nat.sub_zero]
  have go:∀c,c=qZ l ck->(bif dO (rA l c QX 0)then(bif(gh l c l.length 0 (QX,false)).2 then some (D.cG (C:=RC) (.bI (cL .bR false (gh l c l.length 0 (QX,false)).1.1 (cL .bR false (gh l c l.length 0 (QX,false)).1.1 .bN)) (.bI (.bool true) .bN)))else some (D.cG (C:=RC) (.bI (cL .bR false (gh l c l.length 0 (QX,false)).1.1 (cL .bR false (gh l c l.length 0 (QX,false)).1.1 .bN)) (.bI (.bool false) .bN))))else none)=some (.cG (.bI (cL .bR false (gh l (qZ l ck) l.length 0 (QX,false)).1.1 (cL .bR false (gh l (qZ l ck) l.length 0 (QX,false)).1.1 .bN)) (.bI (.bool (gh l (qZ l ck) l.length 0 (QX,false)).2) .bN))):=fun c hc=>by
   have vI:0<=c/\c<=1000:=by rw[hc];unfold qZ;split<;>omega
   subst hc;refine Qa (Q1 ⟨hR,vI.1,vI.2,rfl,aK _⟩) ?_;cases (gh l (qZ l ck) l.length 0 (QX,false)).2<;>rfl
  by_cases q:ck<0
  ·refine Qa (ab q) (go 0 ?_);unfold qZ;rw[ax (.inl q)]
  ·refine Qq (ad q) (Qa lk (go _ ?_));unfold qZ
   by_cases q2:(l.length:Int)<=ck
   ·rw[ab q2,ax (.inr q2)];rfl
   ·rw[ad q2,aw (by omega)];rfl
 ·refine Qa (by simp;omega) ?_;unfold ph;rw[hr,ad m6];rfl
def As:=Ar.b8 19 UW
theorem QzW:Qk Tryz.prog cu As:=QzV.iv Qb fun args d h=>by
 unfold UW at h
 split at h
 ·obtain⟨h1,rfl⟩:=ak h;exact⟨by simp[D.refs],100,QIy _ _ _ h1⟩
 ·cases h
theorem QpU{l:bS}{c:Int}:∀{n i:Nat} {d:bK×Bool},(gh l c n i d).2=true->∀m,i<=m->m<i+n->(l.getD m dz).place=(m:Int)+1/\¬(c<=(m:Int)/\c+32<(m:Int)+1)
 |0,i,d,_,m,h1,h2=>by omega
 |n+1,i,d,h,m,h1,h2=>by
  unfold gh at h
  by_cases hp:(l.getD i dz).place=(i:Int)+1
  ·rw[ax hp]at h
   by_cases hc:c<=(i:Int)/\c+32<(i:Int)+1
   ·rw[ax hc]at h;cases h
   ·rw[aw hc]at h
    by_cases e:m=i
    ·subst e;exact⟨hp,hc⟩
    ·exact QpU h m (by omega) (by omega)
  ·rw[aw hp]at h;cases h
theorem QCt{l:bS}{D:bK}{i:Nat}(hq:fV l)(hl:l.length<=100)(hi:i<l.length)(hL:lH D (l.take i))(hd:Ql D D=true) :
 ∃E,mT D (l.getD i dz)=(E,false)/\lH E (l.take (i+1))/\Ql E E=true/\E.getD 32 cW=D.getD 32 cW:=by
 obtain⟨hp,hm⟩:=hq i hi;have hlen:(l.take i).length=i:=by rw[bp];omega
 have SN:l.take (i+1)=l.take i++[l.getD i dz]:=by
  rw[List.take_succ_eq_append_getElem hi];simp[hi]
 generalize l.getD i dz=r at *
 have hb:=XN r.place;have Lz:=(Zg hd).1;have hk:(ej r.place).toNat<32:=by omega
 have ok:QH D D (ej r.place) r.place (fD r)=true:=by
  simp only[QH,hd,Bool.true_and,ai,aa,Bool.not_eq_true',beq_eq_false_iff_ne];exact⟨⟨⟨⟨by omega,by omega⟩,by omega⟩,(IL hm).2.2.2⟩,QGE hm⟩
 have hn:(D.getD (ej r.place).toNat cW).n<r.place:=by
  rw[hL.eq _ hk];have:=((tI hL.seq).zq (ej r.place).toNat).2;rw[hlen]at this;omega
 have hN:eD D D (ej r.place) r.place (fD r)=kq D r:=by
  simp only[eD,ok,ag];rw[KR,ax hn];rfl
 have hS:Zj D D (ej r.place) r.place (fD r)=D:=by simp only[Zj,ok,ag]
 have pU:=JX ok;rw[hN,hS]at pU;have fA:=(ZI pU).1;have kD:∀(X:bK) (hX:X.length=33) j,(kq X r).getD j cW=if j=(ej r.place).toNat then⟨r.place,fD r⟩else X.getD j cW:=fun X hX j=>lQ _ (by omega) j
 refine⟨kq D r,?_,⟨YY hq (i+1),by rw[bp];omega,fun j hj=>?_⟩,Ky fA,?_⟩
 ·unfold mT DA;rw[hN,hS,pU];rfl
 ·rw[SN,ku,kD D Lz,kD _ (Cl _),hL.eq j hj]
 ·rw[kD D Lz,aw (by omega)]
theorem QCu{l:bS}{D:bK}{c:Nat}(hq:fV l)(hl:l.length<=100)(h1:1<=c)(hc:c<=l.length)(hL:lH D (l.take c))(hd:Ql D D=true)(uG:D.getD 32 cW=cW) :
 ∃E,FI D (c:Int) (Zx l (c:Int))=(E,false)/\lH E (l.take c)/\Ql E E=true/\E.getD 32 cW=⟨(c:Int),eN (c:Int) (QP (l.take c))⟩:=by
 rw[Qhi hq (by omega) hc];have Dp:=YY hq c;have Di:(l.take c).length=c:=by rw[bp];omega
 have hk:fF (c:Int) (QP (l.take c))=true:=by
  have:=Oc Dp (by omega) (b:=(c:Int)) (by omega) (by omega) (by omega);have e:=HV Dp;rw[Di]at e
  rwa [e]at this
 have ok:QH D D 32 (c:Int) (eN (c:Int) (QP (l.take c)))=true:=by rw[Qof,hd,hk];rfl
 have Lz:=(Zg hd).1;have hS:Zj D D 32 (c:Int) (eN (c:Int) (QP (l.take c)))=D:=by simp only[Zj,ok,ag]
 have pU:=JX ok;have fA:=(ZI pU).1;refine⟨eD D D 32 (c:Int) (eN (c:Int) (QP (l.take c))),?_,⟨hL.seq,hL.le,fun j hj=>?_⟩,Ky fA,?_⟩
 ·unfold FI DA;rw[pU];rfl
 ·simp only[eD,ok,ag];rw[show(32:Int).toNat=32 from rfl,H4 (by omega),aw (by omega)];exact hL.eq j hj
 ·rw[UP ok,uG,ax (by simp[cW];omega)]
structure DM(l:bS)(c i:Nat)(D:bK):Prop where
 j6:lH D (l.take i)
 kx:Ql D D=true
 ck:D.getD 32 cW=if 0<c/\c<i then⟨(c:Int),eN (c:Int) (QP (l.take c))⟩else cW
theorem QzX{l:bS}{c:Nat}(hq:fV l)(hl:l.length<=100)(hc:c<=l.length):∀{n i:Nat} {d:bK×Bool},i+n=l.length->DM l c i d.1->(gh l (c:Int) n i d).2=true->DM l c l.length (gh l (c:Int) n i d).1.1
 |0,i,d,h,hD,_=>by
  have:i=l.length:=by omega
  rw[<-this];exact hD
 |n+1,i,d,h,hD,hr=>by
  have hp:=(hq i (by omega)).1;unfold gh at hr ⊢;rw[ax hp]at hr ⊢
  by_cases qt:(c:Int)<=(i:Int)/\(c:Int)+32<(i:Int)+1
  ·rw[ax qt]at hr;cases hr
  ·rw[aw qt]at hr ⊢
   have nL:∃E f,uF l (c:Int) i d=(E,f)/\lH E (l.take i)/\Ql E E=true/\E.getD 32 cW=if 0<c/\c<i+1 then⟨(c:Int),eN (c:Int) (QP (l.take c))⟩else cW:=by
    unfold uF
    by_cases q:0<(c:Int)/\(i:Int)=(c:Int)
    ·rw[ax q];have e:i=c:=by omega
     subst e;have uG:=hD.ck;rw[aw (by omega)]at uG;obtain⟨E,e1,e2,e3,e4⟩:=QCu hq hl (by omega) hc hD.j6 hD.kx uG;exact⟨E,false,e1,e2,e3,by rw[ax (by omega)];exact e4⟩
    ·rw[aw q];refine⟨d.1,d.2,rfl,hD.j6,hD.kx,?_⟩;rw[hD.ck]
     by_cases q2:0<c/\c<i
     ·rw[ax q2,ax (by omega)]
     ·rw[aw q2,aw (by omega)]
   obtain⟨E,f,e1,e2,e3,e4⟩:=nL;rw[e1]at hr ⊢;obtain⟨G,g1,g2,g3,g4⟩:=QCt hq hl (show i<l.length by omega) e2 e3;rw[g1]at hr ⊢;exact QzX hq hl hc (by omega) ⟨g2,g3,by rw[g4];exact e4⟩ hr
theorem QG3{l:bS}{ck:Int}(h:(ph l ck).2=true):fV l/\l.length<=100/\DK l (ph l ck).1/\¬(l.length:Int)<((ph l ck).1.getD 32 cW).n:=by
 unfold ph at h ⊢;cases hr:JL l l.length 0&&decide (l.length<=100)
 ·rw[hr]at h;cases h
 ·rw[hr]at h;simp only[ag]at h ⊢;rw[ai]at hr;have hR:jL l:=⟨hr.1,af hr.2⟩;have m6:=hR.2;have hs:=QpU h;have hq:fV l:=fun i hi=>⟨(hs i (aK _) (by omega)).1,hR.may hi⟩
  obtain⟨c,hc,o6⟩:∃c:Nat,qZ l ck=(c:Int)/\(c=0\/c<l.length):=by
   unfold qZ
   by_cases q:ck<0\/(l.length:Int)<=ck
   ·exact⟨0,by rw[ax q];rfl,.inl rfl⟩
   ·exact⟨ck.toNat,by rw[aw q];omega,by omega⟩
  rw[hc]at h hs ⊢;have hD0:DM l c 0 QX:=⟨⟨YY hq 0,by simp,fun j _=>by rw[List.take_zero];rfl⟩,rfl,by rw[aw (by omega),Qlb]⟩;have hD:=QzX hq m6 (c:=c) (by omega) (n:=l.length) (i:=0) (d:=(QX,false)) (by omega) hD0 h;generalize (gh l (c:Int) l.length 0 (QX,false)).1.1=D at *;obtain⟨d1,d2,d3⟩:=hD;rw[List.take_length]at d1
  have mg:l.length=0\/¬((c:Int)<=((l.length-1:Nat):Int)/\(c:Int)+32<((l.length-1:Nat):Int)+1):=by
   by_cases q:l.length=0
   ·exact .inl q
   ·exact .inr (hs (l.length-1) (aK _) (by omega)).2
  refine⟨hq,m6,⟨d1,d2,?_⟩,?_⟩
  ·by_cases q:0<c/\c<l.length
   ·rw[ax q]at d3;right;left;exact⟨c,by omega,by omega,by omega,d3⟩
   ·rw[aw q]at d3;left;exact⟨d3,by omega⟩
  ·rw[d3]
   split
   ·show ¬(l.length:Int)<(c:Int);omega
   ·show ¬(l.length:Int)<0;omega
def xJ(p:Int×Int):Prop:=p.2<9223372036854775808
theorem Pt(n:Int):IntKind.i64.wrap n<9223372036854775808:=by
 have:=(JM .i64 n).2;have e:IntKind.i64.max=9223372036854775807:=by decide
 omega
theorem YZ{k v:Int}(hv:v<9223372036854775808):∀{m:bZ},(∀p∈m,xJ p)->∀p∈fU m k v,xJ p
 |[],_,p,h=>by
  simp[fU,g8]at h;subst h;exact hv
 |(a,b)::m,hm,p,h=>by
  unfold fU g8 at h
  by_cases hk:k=a
  ·rw[ab hk]at h;simp only[ag,aZ]at h;rcases h with rfl|h
   ·exact hv
   ·exact hm p (aS _ h)
  ·rw[ad hk]at h;simp only[ah,aZ]at h;rcases h with rfl|h
   ·exact hm _ (aV ..)
   ·exact YZ hv (fun p hp=>hm p (aS _ hp)) p h
theorem QCv(l:cg):fx l<9223372036854775808:=by
 unfold fx;cases h:Zb l
 ·exact(by decide:(0:Int)<9223372036854775808)
 ·simp only[Zb,aa]at h;simp only[ag,uz];omega
theorem QCw(p h:Int):iN p h<9223372036854775808:=by
 unfold iN
 split
 ·rename_i h;unfold jO at h;omega
 ·decide
theorem HW(q:Int):∀(l:bJ) {m:bZ},(∀p∈m,xJ p)->∀p∈Yv q m l,xJ p
 |[],m,h=>h
 |x::l,m,h=>HW q l (m:=fU (fU m (da q x.offset) (fx x)) (dY 45 q 3) (IntKind.i64.wrap (x.offset+1))) (YZ (Pt _) (YZ (QCv x) h))
theorem Qlp(c k:Int):∀(l:bM) (n:Nat) {m:bZ},(∀p∈m,xJ p)->∀p∈Q6 c k n l m,xJ p
 |[],_,m,h=>h
 |x::l,n,m,h=>by
  unfold Q6;refine Qlp c k l (n+1) ?_;unfold vj;exact YZ (QCw _ _) (YZ (Pt _) (YZ (by decide) (YZ (by decide) h)))
theorem Cp:∀(m:bZ) {cs:bQ},lx cs=true->(∀p∈m,xJ p)->lx (QM cs m)=true
 |[],cs,h,_=>h
 |p::m,cs,h,hm=>by
  refine Cp m (cs:=cs.set p.1.toNat p.2) ?_ (fun q hq=>hm q (aS _ hq));refine aX.2 fun v hv=>?_;rcases List.mem_or_eq_of_mem_set hv with h1|rfl
  ·exact aX.1 h v h1
  ·exact ab (hm p (aV ..))
theorem QG4:lx QK=true:=by kernel_rfl
theorem QCx{S:St}(h1:S.place<=1048575)(h2:S.c0<9223372036854775808/\S.c1<9223372036854775808/\S.c2<9223372036854775808):lx (Jq QK 4 40 S)=true:=by
 have nil:∀p∈([]:bZ),xJ p:=fun p h=>by cases h
 have hp:S.place<9223372036854775808:=by omega
 exact Cp _ (Cp _ (Cp _ (Cp _ (Cp _ QG4 (HW 0 _ (YZ h2.1 nil))) (HW 1 _ (YZ h2.2.1 nil))) (HW 2 _ (YZ h2.2.2 nil))) (YZ (Pt _) (YZ hp (YZ hp (YZ hp nil))))) (Qlp 4 40 _ 0 nil)
theorem QmY{s:St}(h:Qu s=true):s.c0<9223372036854775808/\s.c1<9223372036854775808/\s.c2<9223372036854775808:=by
 have hp:=(J3 h).1;unfold Qu ZW at h;simp only[ai,Qf]at h;omega
structure RW3(l:bS)(D:bK)(w:Int)(W:bQ):Prop where
 eq:W=Jq QK 4 40 (nU (QP l) (hU l D+w))
 ok:qd (nU (QP l) (hU l D+w))
 len:W.length=771
 pl:W.getD 0 0=hU l D+w
 kM:lx W=true
 told:vp W=nU (QP l) (hU l D+w)
 xL:vq W=0
theorem DK.rw{l:bS}{D:bK}(h:DK l D){w:Int}(hw:okW w):RW3 l D w (ZM QK D D 4 w 4 40 3):=by
 obtain⟨e,ok⟩:=h.world hw;have ht:=h.top;obtain⟨w1,w2⟩:=hw;have dV:=KM h.j6.seq h.j6.le (p:=hU l D+w) (by omega) (by omega);obtain⟨M,eM,hM,m0,_⟩:=NJ ok;have SM:=Qy1 ok;rw[<-e]at eM SM;refine⟨e,ok,by rw[<-eM];exact hM,by rw[<-eM];exact m0,?_,SM.1,SM.2⟩;rw[e];exact QCx (by show hU l D+w<=1048575;omega) (QmY dV)
theorem QIz{w:Int}(h:((bif Yj 4 w 4 40 then(0:Int)else 2)!=0)=false):okW w:=by
 cases e:Yj 4 w 4 40
 ·rw[e]at h;cases h
 ·unfold Yj at e;simp only[ai,Qf]at e;exact⟨e.1.1.2.1,e.1.1.2.2⟩
theorem min2(stop:Int):(if 2<stop then 2 else stop)<=2:=by split<;>omega
open Go.Proofs
def yg(l:bS):Nat->Nat->Bool
 |0,_=>true
 |n+1,i=>!decide (40<((l.getD i dz).writes.length:Int))&&yg l n (i+1)
structure UX where
 (c:Bool)(l:bS)(i:Nat)
def MY(c:Bool)(l:bS)(i:Nat):bX:=[(0,.sl (C:=RC) .dU c l),(10,.bool false),(11,.int .i64 (i:Int))]
def Hv(c:Bool)(l:bS)(i:Nat):bP:=[]
def Wl c l i:=dQ cu As 6 4 40 0 [0,10,11] [10] [] (MY c l i) (Hv c l i)
theorem QIB c l i:Wl c l i=(let Z0:Int:=(i:Int);let Z1:=List.length (List.getD l Z0.toNat (Rec.mk 0 false [])).writes;b7 (Qd l.length) (bif decide (Z0<(l.length:Int))then b7 (dH Z0 (l.length:Int)) (b7 (Qd Z1) (bif decide ((40:Int)<(Z1:Int))then some ((X.ret,[(10,D.bool true)]),[])else some ((X.normal,[(0,D.sl b9.dU c l),(10,D.bool false),(11,cj (c6 (Z0+1)))]),[])))else some ((X.exit 0,[(10,D.bool false)]),[]))):=by kernel_rfl
def ER(c:Bool)(l:bS)(i:Nat):RT RC:=.br (yg l (l.length-i) i) (.leaf (.exit 0) [(10,.bool false)] []) (.leaf .ret [(10,.bool true)] [])
def ES(c:Bool)(l:bS)(i:Nat):Prop:=i<=l.length/\l.length<=100/\(l.all fun r=>Qd r.writes.length)=true
def C2:QD RC UX where
 k:=0
 cM q:=MY q.c q.l q.i
 cK q:=Hv q.c q.l q.i
 fin q:=ER q.c q.l q.i
 Inv q:=ES q.c q.l q.i
 μ q:=q.l.length-q.i
theorem QzY c l i(hI:ES c l i):c8 (Wl c l i) (dj C2 ⟨c,l,i⟩):=by
 (rw[QIB];delta b7 dH cj c6;conv=>zeta)
 unfold ES at hI;obtain⟨h1,h2,h3⟩:=hI;have lk:Qd l.length=true:=Qe (by omega);have c9:∀b:Bool,yg l (l.length-i) i=b->(ER c l i).val=bif b then some ((.exit 0,[(10,.bool false)]),[])else some ((.ret,[(10,.bool true)]),[]):=fun b hb=>by subst hb;rfl
 rw[lk,ag]
 by_cases cU:i<l.length
 ·have w1:=eG i (by omega)
  have d1:=ga (show i<l.length by omega)
  have d2:=fL (show i<l.length by omega)
  have t1:=bw i
  have hs:yg l (l.length-i) i=(!decide (40<((l.getD i dz).writes.length:Int))&&yg l (l.length-(i+1)) (i+1)):=by
   rw[show l.length-i=(l.length-(i+1))+1 by omega];rfl
  have hw:Qd (l.getD i ⟨0,false,[]⟩).writes.length=true:=by
   have:=aX.1 h3 l[i] (bA cU)
   simpa[cU]using this
  simp only[d1,d2,t1,w1,hw,ag];unfold dz at hs;generalize l.getD i ⟨0,false,[]⟩=x at *;cases a1:decide (40<(x.writes.length:Int))
  ·rw[hs,a1]at c9;refine Qi ⟨c,l,i+1⟩ ⟨cU,h2,h3⟩ (by simp only[C2];omega) ?_ rfl rfl;show(ER c l (i+1)).val=(ER c l i).val;rw[c9 _ rfl];rfl
  ·rw[hs,a1]at c9;exact QW [] (c9 false rfl) rfl
 ·have hi:i=l.length:=by omega
  have c1:decide ((i:Int)<l.length)=false:=by simp;omega
  rw[c1,ah];have e:l.length-i=0:=by omega
  rw[e]at c9;exact Qh [] (c9 true rfl) rfl
def MZ(env:bX)(os:bP):Option (Bool×UX):=match env,os with
 |[(0,.sl .dU c l),(10,.bool false),(11,.int .i64 x0)],[]=>Qt (true) (decide (x0=0)&&decide (l.length<=100)&&l.all fun r=>Qd r.writes.length,⟨c,l,0⟩)
 |_,_=>none
def At:=As.cJ 6 4 (ey cu [] [0,10,11] C2 MZ)
theorem QzZ:Qk Tryz.prog cu At:=by
 refine QzW.cq Qb (by kernel_rfl) C2 40 [0,10,11] [10] [] [0,10,11] MZ (fun q hI=>?_) ?_
 ·obtain⟨c,l,i⟩:=q;refine⟨?_,?_,QzY c l i hI⟩
  ·simp_all[Qj,C2,MY,Hv,ES,D.refs,Obj.refs,cV]
  ·simp_all[C2,ER,Hv,ES,RT.cT,Qj,D.refs,Obj.refs,cV]
 ·intro env os b q cN hb;unfold MZ at cN
  split at cN
  ·obtain⟨hs,cN⟩:=Qc cN;cases cN;simp only[ai,aa]at hb;obtain⟨⟨rfl,h1⟩,h2⟩:=hb;exact⟨⟨aK _,h1,h2⟩,rfl,rfl⟩
  ·cases cN
def Od(c:Bool)(l:bS)(ck stop w lost:Int):=eO cu At 300 6 [.sl (C:=RC) .dU c l,.int .i64 ck,.int .i64 stop,.int .i64 w,.int .u64 lost]
theorem Qsg c l ck stop w lost:Od c l ck stop w lost=(let Z0:=l.length;let Z1:Int:=(Z0:Int);let Z2:fI:=some (D.bool true);let Z3:=List.all l fun(r:Rec)=>Qd r.writes.length;let Z4:bK:=Prod.fst (ph l ck);let Z5:Bool:=j8 Z4 Z4 4 w 4 40!=0;let Z6:fI:=some (D.bool false);let Z7:=ZM nC Z4 Z4 4 w 4 40 3;let Z8:=Qd Z7.length;let Z9:Int:=(Z7.length:Int);let db:St:=vp Z7;let dB:=List.length db.items;let eo:=List.length db.l0;let fa:=List.length db.l1;let fM:=List.length db.l2;let fz:St:=Zx l Z1;let fy:Int:=if(2:Int)<stop then(2:Int)else stop;let fR:bK:=uQ Z4 Z4 4 w 4 40 fy;let eH:bK:=KF Z4 Z4 4 w 4 40 fy;let fW:bK:=bif Ql fR eH then Prod.fst (dK lost 33 0 fR eH)else[];let gD:bK:=bif Ql fR eH then Prod.snd (dK lost 33 0 fR eH)else[];let iJ:=ZM nC fW gD 4 w 4 40 3;let gQ:St:=vp iJ;let iY:=St.place db;let im:fI:=none;bif Qd Z0 then bif decide ((100:Int)<Z1)then Z2 else bif decide (Z0<=100)&&Z3 then bif yg l (Z0-0) 0then bif decide (Z0<=1000)&&Z3 then bif !Prod.snd (ph l ck)then Z2 else bif(bif Yj 4 w 4 40then(0:Int)else(2:Int))!=0then Z2 else bif Qn Z4&&Qn Z4 then bif Z5 then Z6 else bif Z8 then bif Z9 !=771then Z6 else bif decide ((0:Int)<=0/\(0:Int)<Z9)then bif Qd Z0 then bif List.getD Z7 0 0!=IntKind.wrap .i64 (Z1+w)then Z6 else bif Z8&&lx Z7 then bif Qd Z0 then bif dO (jL l)&&decide ((0:Int)<=Z1/\Z1<=1048575)then bif vq Z7 !=0then Z6 else bif decide (dB<=1000/\eo<=1000/\fa<=1000/\fM<=1000/\St.items db=St.items fz/\St.l0 db=St.l0 fz/\St.l1 db=St.l1 fz/\St.l2 db=St.l2 fz/\St.c0 db=St.c0 fz/\St.c1 db=St.c1 fz/\St.c2 db=St.c2 fz)then bif dO (lI Z7 (List.replicate 160 false) 0)then bif Qn Z4&&Qn Z4 then bif Z5 then Z6 else bif Qn fR&&Qn eH then bif Qn fW&&Qn gD then bif Qd iJ.length&&lx iJ then bif j8 fW gD 4 w 4 40!=0then Z6 else bif vq iJ !=0then Z6 else bif decide (St.place gQ<iY)then Z6 else bif Qd dB&&Qd gQ.items.length&&(Qd eo&&Qd gQ.l0.length)&&(Qd fa&&Qd gQ.l1.length)&&(Qd fM&&Qd gQ.l2.length)then bif decide (St.mk iY db.items db.l0 db.l1 db.l2 db.c0 db.c1 db.c2=St.mk iY gQ.items gQ.l0 gQ.l1 gQ.l2 gQ.c0 gQ.c1 gQ.c2)then Z2 else Z6 else im else im else im else im else im else im else im else im else im else im else im else im else im else im else im else Z2 else im else im):=by kernel_rfl
theorem Qsh c l ck stop w lost(h:(Qd l.length&&l.all fun r=>Qd r.writes.length)=true):Od c l ck stop w lost=some (.bool true):=by
 (rw[Qsg];conv=>zeta)
 rw[ai]at h;obtain⟨h1,h2⟩:=h;refine Qa h1 ?_
 by_cases m6:l.length<=100
 rotate_left
 ·exact Qa (ab (by omega)) rfl
 refine Qq (ad (by omega)) (Qa (eK (ab m6) h2) ?_);cases hs:yg l (l.length-0) 0
 ·rfl
 refine(show(bif true then _ else _)=_ from ?_);rw[ag];refine Qa (eK (ab (by omega)) h2) (Qw (fun _=>rfl) fun hm=>?_);obtain⟨hq,_,hD,hn⟩:=QG3 (l:=l) (ck:=ck) (by simpa using hm);generalize (ph l ck).1=D at *;refine Qw (fun _=>rfl) fun hk=>?_;have hw:=QIz hk;rw[Ht];obtain⟨C,hc,hC,hd⟩:=hD.FJ hw (by omega) hn (if 2<stop then 2 else stop) lost (min2 stop);simp only[hd,hc,ag];have r1:=hD.rw hw;have r2:=hC.rw hw;have LF:=Kx hD.kx;have hgC:=Kx hC.kx;have hgN:=Kx hd;have e1:=(hD.make hw).2;have e2:=(hC.make hw).2;have t1:=hD.top;have t2:=hC.top;have ht:hU l D=(l.length:Int):=by unfold hU;rw[aw hn]
 have dV:Zx l (l.length:Int)=QP l:=by
  have:=Qhi hq (by omega) (s:=l.length) (aq _)
  rwa [List.take_length]at this
 have o1:=r1.ok
 have hwr:IntKind.i64.wrap ((l.length:Int)+w)=(l.length:Int)+w:=by
  obtain⟨w1,w2⟩:=hw;exact cC (by omega) (by omega)
 generalize ZM QK D D 4 w 4 40 3=W1 at *
 generalize ZM QK C C 4 w 4 40 3=W2 at *
 have l1:Qd W1.length=true:=Qe (by have:=r1.len;omega);have l2:Qd W2.length=true:=Qe (by have:=r2.len;omega);have ti1:(QP l).items.length<=24:=o1.il;have ti2:(QP l).l0.length<=16:=o1.n0;have ti3:(QP l).l1.length<=16:=o1.n1;have ti4:(QP l).l2.length<=16:=o1.n2;refine Qa (eK LF.1 LF.1) (Qq (by rw[e1];rfl) (Qa l1 (Qq (by rw[r1.len];rfl) (Qa (by rw[r1.len];rfl) (Qa h1 (Qq (by rw[r1.pl,hwr,ht];simp) ?_))))));refine Qa (eK l1 r1.kM) (Qa h1 (Qa (eK (Q1 ⟨Qpv hq l.length 0 (by omega),m6⟩) (ab ⟨by omega,by omega⟩)) (Qq (by rw[r1.xL];rfl) ?_)));rw[dV,r1.told,r2.told];simp only[nU];refine Qa (ab ⟨by omega,by omega,by omega,by omega,by simp⟩) (Qa (Q1 (by rw[r1.eq];exact Qsa o1)) ?_);refine Qa (eK LF.1 LF.1) (Qq (by rw[e1];rfl) (Qa (eK hgN.1 hgN.2) (Qa (eK hgC.1 hgC.1) (Qa (eK l2 r2.kM) (Qq (by rw[e2];rfl) (Qq (by rw[r2.xL];rfl) (Qq (ad (by omega)) ?_)))))));rw[Qe (show(QP l).items.length<=_ by omega),Qe (show(QP l).l0.length<=_ by omega),Qe (show(QP l).l1.length<=_ by omega),Qe (show(QP l).l2.length<=_ by omega)];simp
open Go.ChangeShapes Go.WideShapes Go.RowKit
section
variable {C:gR}
def kR(gA:(t:C.Ty)->C.A t->Prop):D C->Prop
 |.int k n=>k.min<=n/\n<=k.max
 |.str s=>s.length<=maxLen
 |.bI d ds=>kR gA d/\kR gA ds
 |.arr t n l=>l.length=n/\∀x∈l,gA t x
 |.sl t _ l=>l.length<=maxLen/\∀x∈l,gA t x
 |_=>True
def ij(T:fh C):Nat->TypeId->Bool
 |0,_=>false
 |k+1,t=>match T.ty t with
  |.bool |.int _ |.str=>true
  |.struct _ fs=>fs.all (ij T k)
  |.arr _ e _=>ij T k e
  |.sl e _=>ij T k e
  |_=>false
structure DC(T:fh C)(gA:(t:C.Ty)->C.A t->Prop):Prop where
 dec:∀t d,fit T d (.inl (T.dp t))=true->d.refs=[]->kR gA d->(∃k u,T.ty u=T.ty (T.dp t)/\ij T k u=true)->∃x,T.dec t d=some x/\gA t x
variable {P:Program}{T:fh C}{gA:(t:C.Ty)->C.A t->Prop}
def X0(W:World):Cx:=⟨W,fun _=>none,fun _ _=>False⟩
theorem QG7 W(b o:Nat):(X0 W).free b o:=⟨fun h=>h,fun⟨_,_,h,_⟩=>by simp[X0]at h⟩
theorem Wm{X:Cx}(t:C.Ty)(sz:Nat):∀(n:Nat) (cs:bT),cs.length=n*sz->(∀i,i<n->∃x:C.A t,R T X false (T.enc t x) ((cs.drop (i*sz)).take sz)/\gA t x) ->
 ∃l:List (C.A t),R T X false (.arr t n l) cs/\l.length=n/\∀x∈l,gA t x
 |0,cs,hl,_=>by
  obtain rfl:cs=[]:=by simpa using hl
  exact⟨[],.ia _,rfl,by simp⟩
 |n+1,cs,hl,h=>by
  obtain⟨x,hx,gx⟩:=h 0 (by omega)
  obtain⟨l,hr,hn,gl⟩:=Wm t sz n (cs.drop sz) (by rw[bq,hl,Nat.succ_mul];omega) fun i hi=>by
   obtain⟨y,hy,gy⟩:=h (i+1) (by omega);refine⟨y,?_,gy⟩;rw[bD];rw[show sz+i*sz=(i+1)*sz by rw[Nat.succ_mul];omega];exact hy
  refine⟨x::l,?_,by simp[hn],by simpa using⟨gx,gl⟩⟩;have:=R.iS hx hr
  simpa using this
theorem He{W:World}(t:C.Ty)(b sz:Nat):∀(n off:Nat),(∀i,i<n->∃(x:C.A t) (ci:bT),R T (X0 W) false (T.enc t x) ci/\ci.length=sz/\(∀j,j<sz->W.cell? ⟨b,off+i*sz+j,none⟩=ci[j]?)/\gA t x) ->
 ∃(l:List (C.A t)) (cs:bT),R T (X0 W) false (.arr t n l) cs/\l.length=n/\(X0 W).at b off cs/\∀x∈l,gA t x
 |0,off,_=>⟨[],[],.ia _,rfl,fun j v h=>by simp at h,by simp⟩
 |n+1,off,h=>by
  obtain⟨x,ci,hx,hlen,hc,gx⟩:=h 0 (by omega)
  obtain⟨l,cs,hr,hn,iw,gl⟩:=He t b sz n (off+sz) fun i hi=>by
   obtain⟨y,c2,hy,h2,h3,gy⟩:=h (i+1) (by omega);refine⟨y,c2,hy,h2,fun j hj=>?_,gy⟩;have:=h3 j hj
   rwa [show off+(i+1)*sz+j=off+sz+i*sz+j by rw[Nat.succ_mul];omega]at this
  refine⟨x::l,ci++cs,.iS hx hr,by simp[hn],fun j v hj=>⟨?_,QG7 _ _ _⟩,by simpa using⟨gx,gl⟩⟩
  by_cases cU:j<ci.length
  ·rw[List.getElem?_append_left cU]at hj;have:=hc j (by omega);simp only[Nat.zero_mul,Nat.add_zero]at this;exact this.trans hj
  ·rw[List.getElem?_append_right (by omega)]at hj;have:=(iw _ _ hj).1
   rwa [show off+sz+(j-ci.length)=off+j by omega]at this
theorem zJ{X:Cx}:∀(fs:cD) (cs:bT),(∀i f,fs[i]? = some f->∃d,R T X false d ((cs.drop (Zh T (fs.take i))).take (T.size f))/\fit T d (.inl f)=true/\kR gA d/\d.refs=[]) ->
 ∃d,R T X false d (cs.take (Zh T fs))/\fit T d (.inr fs)=true/\kR gA d/\d.refs=[]/\d.de=true/\(∀t a,T.ty t=.struct a fs->fit T d (.inl t)=true)
 |[],cs,_=>⟨.bN,by simpa[Zh]using R.bN,rfl,trivial,rfl,rfl,fun t a ht=>by simp[fit,ht]⟩
 |f::fs,cs,h=>by
  obtain⟨d,hd,fd,gd,rd⟩:=h 0 f rfl
  obtain⟨ds,hr,fr,gr,rr,_,_⟩:=zJ fs (cs.drop (T.size f)) fun i g hg=>by
   obtain⟨e,he,h2⟩:=h (i+1) g (by simpa using hg);refine⟨e,?_,h2⟩
   simpa[Zh,bD]using he
  refine⟨.bI d ds,?_,by simp[fit,fd,fr],⟨gd,gr⟩,by simp[D.refs,rd,rr],rfl,fun t a ht=>by simp[fit,ht,fd,fr]⟩;have:=R.bI hd hr
  simpa[Zh,List.take_add]using this
theorem ZK{t:TypeId}{i:TypeInfo}(h:P.info? t=some i):P.cellsOf t=i.size:=by
 simp[Program.cellsOf,h]
theorem QID(K:Zo P T)(hd:DC T gA){H:Type}{enc:TypeId×Value->H}{W:World}:∀(k:Nat) (t:TypeId),ij T k t=true->∀(lP:Nat) (cs:bT) (x:DataW H×List MemPlace),DataW.trod enc P W 0 (fun _=>true) true lP t cs=some x ->
 ∃d,R T (X0 W) false d cs/\fit T d (.inl t)=true/\kR gA d/\d.refs=[]:=by
 intro k
 induction k with
 |zero=>intro t h;simp[ij]at h
 |succ k ih=>
  intro t hp lP cs x h;unfold ij at hp
  split at hp
  ·rename_i ht;obtain⟨b,rfl,_⟩:=DataW.trod_bool (K.ov t ht) h;exact⟨.bool b,.bool b,by simp[fit,ht],trivial,rfl⟩
  ·rename_i kd ht;obtain⟨n,rfl,_,hw⟩:=DataW.trod_int (K.nD t kd ht) h;have xy:kd.min<=n/\n<=kd.max:=by simpa[Lit.wf]using hw
   exact⟨.int kd n,.int xy,by simp[fit,ht],xy,rfl⟩
  ·rename_i ht;obtain⟨s,rfl,_,hs⟩:=DataW.trod_string (K.k9 t ht) h;exact⟨.str s.data.toList,.str s.data.toList,by simp[fit,ht],by simpa[kR]using hs,rfl⟩
  ·rename_i nZ fs ht;cases nZ with
   |true=>
    obtain⟨el,hu,sj,mA,inf,sm,qw⟩:=K.qR t fs ht;obtain⟨xs,m,_,_,hlen,uJ,yQ⟩:=DataW.trod_array hu h
    have iq:∀i f,fs[i]? = some f->f=el/\i<fs.length:=fun i f hf=>by
     have:=(av.1 hf).1;rw[sj,List.getElem?_replicate]at hf;simp at hf;exact⟨hf.2.symm,this⟩
    have zg:∀i,i<=fs.length->Zh T (fs.take i)=i*T.size el:=by
     intro i hi;rw[sj,List.take_replicate,Nat.min_eq_left hi];clear hi
     induction i with
     |zero=>simp[Zh]
     |succ i ih=>simp only[List.replicate_succ,Zh,ih];rw[Nat.succ_mul];omega
    obtain⟨d,hr,_,gd,rd,_,kS⟩:=zJ (T:=T) (X:=X0 W) (gA:=gA) fs cs fun i f hf=>by
     obtain⟨rfl,hi⟩:=iq i f hf;have:=yQ i hi;rw[ZK sm,qw]at this;have hx:xs[i]? = some xs[i]:=by simp[uJ,hi]
     rw[hx]at this;obtain⟨d,h1,h2,h3,h4⟩:=ih f (aX.1 hp _ (List.mem_of_getElem? hf)) m _ _ this;refine⟨d,?_,h2,h3,h4⟩;rw[zg i (by omega)];exact h1
    obtain⟨inf,sm,qw⟩:=K.v8 t d (kS t _ ht);rw[ZK sm,qw,K.base.jf t _ fs ht]at hlen;rw[<-hlen,List.take_length]at hr;exact⟨d,hr,kS t _ ht,gd,rd⟩
   |false=>
    obtain⟨fields,hu,sj,oK,_⟩:=K.jW t fs ht;obtain⟨xs,n,_,_,hlen,uJ,yQ⟩:=DataW.trod_struct hu h
    obtain⟨d,hr,_,gd,rd,_,kS⟩:=zJ (T:=T) (X:=X0 W) (gA:=gA) fs cs fun i f hf=>by
     rw[<-sj,bB]at hf;cases mP:fields.toList[i]? with
     |none=>simp[mP]at hf
     |some sO=>
      simp only[mP,bC,aD]at hf;have R6:fields[i]? = some sO:=by rw[<-Array.getElem?_toList];exact mP
      have:=yQ i sO R6
      have hx:∃y,xs[i]? = some y:=by
       have:i<fields.size:=(aI.1 R6).1;exact⟨xs[i],by simp[uJ,this]⟩
      obtain⟨y,hy⟩:=hx;rw[hy]at this;subst hf;have ki:sO.type∈fs:=by rw[<-sj];exact List.mem_map.2 ⟨sO,by exact List.mem_of_getElem? mP,rfl⟩
      obtain⟨d,h1,h2,h3,h4⟩:=ih sO.type (aX.1 hp _ ki) n _ _ this;obtain⟨inf,sm,qw,_⟩:=K.qQ t fs sO.type ht ki;refine⟨d,?_,h2,h3,h4⟩;rw[oK i sO R6,ZK sm,qw]at h1;exact h1
    obtain⟨inf,sm,qw⟩:=K.v8 t d (kS t _ ht);rw[ZK sm,qw,K.base.jf t _ fs ht]at hlen;rw[<-hlen,List.take_length]at hr;exact⟨d,hr,kS t _ ht,gd,rd⟩
  ·rename_i n e ct ht;obtain⟨hu,_⟩:=K.oa t n e ct ht;obtain⟨xs,m,_,_,hlen,uJ,yQ⟩:=DataW.trod_array hu h;obtain⟨inf,z,sm,qw,_⟩:=K.kP t e ct (.inl ⟨n,ht⟩);obtain⟨it,hj1,jM⟩:=K.v8 t (.arr ct n []) (by simp[fit,ht]);obtain⟨lF,kJ,so⟩:=K.base.kO t n e ct ht;rw[ZK hj1,jM,lF]at hlen
   obtain⟨l,hr,hn,gl⟩:=Wm (T:=T) (X:=X0 W) (gA:=gA) ct (T.size e) n cs hlen fun i hi=>by
    have:=yQ i hi;rw[ZK sm,qw]at this;have hx:xs[i]? = some xs[i]:=by simp[uJ,hi]
    rw[hx]at this;obtain⟨d,h1,h2,h3,h4⟩:=ih e hp m _ _ this;obtain⟨x,h5,h6⟩:=hd.dec ct d (by rw[<-YL kJ];exact h2) h4 h3 ⟨k,e,kJ,hp⟩;exact⟨x,K.base.mw _ _ _ _ _ h5 h1,h6⟩
   exact⟨.arr ct n l,hr,by simp[fit,ht],⟨hn,gl⟩,rfl⟩
  ·rename_i e ct ht;have hu:=K.oX t e ct ht;obtain⟨inf,z,sm,qw,_,_,mA,_⟩:=K.kP t e ct (.inr ht);obtain⟨lF,kJ,so⟩:=K.base.mH t e ct ht;rcases DataW.trod_slice hu h with⟨rfl,_⟩|⟨a,len,cap,kI,rest,m,_,rfl,_,_,Di,nM,yQ,he,tw,_⟩
   ·exact⟨.sl ct false [],.kN _ _ _,by simp[fit,ht],by simp[kR],rfl⟩
   ·by_cases De:cap=0
    ·subst De;obtain rfl:len=0:=by omega
     exact⟨.sl ct false [],.kN _ _ _,by simp[fit,ht],by simp[kR],rfl⟩
    ·have xu:a.spot=none:=by
      have key:∀i y,i=0->(W.cells? 0 (a.add (i*P.cellsOf e)) (P.cellsOf e)).bind (DataW.trod enc P W 0 (fun _=>true) true m e)=some y->a.spot=none:=by
       intro i y rP hy;subst rP;rw[ZK sm,qw]at hy;cases qu:W.cells? 0 (a.add (0*T.size e)) (T.size e)with
       |none=>rw[qu]at hy;cases hy
       |some ci=>
        obtain⟨_,h2,h3⟩:=World.cells?_some qu;have h4:=h3 0 mA;have h5:ci[0]? = some ci[0]:=by simp
        rw[h5]at h4;have:=World.cell?_spot h4
        simpa[Addr.add]using this
      by_cases vS:0<len
      ·have:=he 0 vS;have hx:kI[0]? = some kI[0]:=by simp
       exact key 0 _ rfl (this.trans hx)
      ·have ks:=tw rfl;have:=ks.2 0 (by omega);have h0:0<rest.length:=by omega
       have hx:rest[0]? = some rest[0]:=by simp
       exact key _ _ (by omega) (this.trans hx)
     obtain⟨b,off,sp⟩:=a;simp only at xu;subst xu
     obtain⟨l,cs,hr,hn,iw,gl⟩:=He (T:=T) (W:=W) (gA:=gA) ct b (T.size e) len off fun i hi=>by
      have:=he i hi;have hx:kI[i]? = some kI[i]:=by simp[yQ,hi]
      rw[hx,ZK sm,qw]at this;cases qu:W.cells? 0 ((⟨b,off,none⟩:Addr).add (i*T.size e)) (T.size e)with
      |none=>simp[qu]at this
      |some ci=>
       simp only[qu,Option.bind_some]at this;obtain⟨_,h2,h3⟩:=World.cells?_some qu;obtain⟨d,k1,k2,k3,k4⟩:=ih e hp m _ _ this;obtain⟨x,k5,k6⟩:=hd.dec ct d (by rw[<-YL kJ];exact k2) k4 k3 ⟨k,e,kJ,hp⟩;refine⟨x,ci,K.base.mw _ _ _ _ _ k5 k1,h2,fun j hj=>?_,k6⟩;have:=h3 j hj
       rwa [add_plain,add_plain]at this
     subst hn;exact⟨.sl ct false l,.sl iw hr Di (by simp),by simp[fit,ht],⟨by omega,gl⟩,rfl⟩
  ·cases hp
theorem Qsi(K:Zo P T){W:World}{r:Reach}{base:Nat}{t:TypeId}{v:Value}{d:D C}(hv:Value.okWide P W r base t v)(hp:∃k,ij T k t=true)(hf:fit T d (.inl t)=true)(hr:R T (X0 W) false d v.cells.toList)(sn:d.refs=[]):RV T (X0 W) d v:=by
 obtain⟨k,hp⟩:=hp;cases k with
 |zero=>simp[ij]at hp
 |succ k=>
  unfold ij at hp
  split at hp
  ·rename_i ht;obtain⟨b,rfl⟩:=okWide_bool (K.ov t ht) hv;refine .inr ⟨?_,by simpa[Value.cells]using hr⟩;cases d<;>simp[fit,ht]at hf<;>rfl
  ·rename_i kd ht;obtain⟨b,rfl⟩:=okWide_int (K.nD t kd ht) hv;refine .inr ⟨?_,by simpa[Value.cells]using hr⟩;cases d<;>simp[fit,ht]at hf<;>rfl
  ·rename_i ht;obtain⟨b,rfl⟩:=okWide_string (K.k9 t ht) hv;refine .inr ⟨?_,by simpa[Value.cells]using hr⟩;cases d<;>simp[fit,ht]at hf<;>rfl
  ·rename_i nZ fs ht
   have:∃cs,v=.agg cs:=by
    cases nZ with
    |false=>
     obtain⟨fields,hu,_⟩:=K.jW t fs ht;obtain⟨cs,rfl,_⟩:=okWide_struct hu hv;exact⟨cs,rfl⟩
    |true=>
     obtain⟨el,hu,_⟩:=K.qR t fs ht;simp only[Value.okWide,hu]at hv;obtain⟨cs,rfl,_⟩:=hv;exact⟨cs,rfl⟩
   obtain⟨cs,rfl⟩:=this;refine .inl ⟨?_,cs.toList,by simpa[Value.cells]using hr,rfl⟩;cases d<;>simp[fit,ht]at hf<;>rfl
  ·rename_i n e ct ht;obtain⟨hu,_⟩:=K.oa t n e ct ht
   have:∃cs,v=.agg cs:=by
    simp only[Value.okWide,hu]at hv;obtain⟨cs,rfl,_⟩:=hv;exact⟨cs,rfl⟩
   obtain⟨cs,rfl⟩:=this;refine .inl ⟨?_,cs.toList,by simpa[Value.cells]using hr,rfl⟩;cases d<;>simp[fit,ht]at hf<;>rfl
  ·rename_i e ct ht;obtain⟨a,len,cap,rfl⟩:=okWide_slice (K.oX t e ct ht) hv;refine .inr ⟨?_,by simpa[Value.cells]using hr⟩;cases d<;>simp[fit,ht]at hf<;>rfl
  ·cases hp
inductive Fits(T:fh C)(gA:(t:C.Ty)->C.A t->Prop):cD->List (D C)->Prop
 |nil:Fits T gA [] []
 |cons {t:TypeId} {ts:cD} {d:D C} {ds:List (D C)} (hf:fit T d (.inl t)=true) (hg:kR gA d) (hr:d.refs=[]) (h:Fits T gA ts ds):Fits T gA (t::ts) (d::ds)
theorem Fits.refs{ts:cD}{ds:List (D C)}(h:Fits T gA ts ds):∀a∈ds,D.refs a=[]:=by
 induction h with
 |nil=>simp
 |cons _ _ hr _ ih=>simpa using⟨hr,ih⟩
theorem Qlq(K:Zo P T)(hd:DC T gA){H:Type}{enc:TypeId×Value->H}{W:World}{r:Reach}{base:Nat}:∀(ts:cD) (vs:bT) (ds:List (DataW H)) (ps:List MemPlace),(∀t∈ts,∃k,ij T k t=true) ->
 (∀(j:Nat) t v,ts[j]? = some t->vs[j]? = some v->Value.okWide P W r base t v)->DataW.TrodAll enc P W 0 (fun _=>true) true ts vs ds ps->∃al,Fits T gA ts al/\gV T (X0 W) al vs
 |[],vs,ds,ps,_,_,h=>by
  obtain⟨rfl,rfl,rfl⟩:=trodAll_nil h;exact⟨[],.nil,.nil⟩
 |t::ts,vs,ds,ps,hp,hv,h=>by
  obtain⟨v,LY,d,Lr,p,q,rfl,rfl,rfl,⟨lP,h1⟩,h2⟩:=trodAll_cons h;obtain⟨al,f1,r1⟩:=Qlq K hd ts LY Lr q (fun t ht=>hp t (by simp[ht])) (fun j t v a b=>hv (j+1) t v (by simpa using a) (by simpa using b)) h2;obtain⟨k,hk⟩:=hp t (by simp);obtain⟨a,k1,k2,k3,k4⟩:=QID K hd k t hk lP _ _ h1;exact⟨a::al,.cons k2 k3 k4 f1,.cons (Qsi K (hv 0 t v rfl rfl) ⟨k,hk⟩ k2 k1 k4) r1⟩
theorem Wn(hl:laidOutB P=true){H:Type}{enc:TypeId×Value->H}{W W':World}{sp:Nat->Bool}:∀(ts:cD) (vs:bT) (ds:List (DataW H)) (ps:List MemPlace),(∀t∈ts,P.readableRec t=true/\t<P.types.size) ->
 DataW.TrodAll enc P W 0 (fun _=>true) true ts vs ds ps->(∀p∈ps,W.sameAt W' p)->(∀p∈ps,sp p.block=true)->DataW.TrodAll enc P W' 0 sp true ts vs ds ps
 |[],vs,ds,ps,_,h,_,_=>by
  obtain⟨rfl,rfl,rfl⟩:=trodAll_nil h;exact trodAll_mk0
 |t::ts,vs,ds,ps,ht,h,h3,h4=>by
  obtain⟨v,LY,d,Lr,p,q,rfl,rfl,rfl,h1,h2⟩:=trodAll_cons h
  exact trodAll_cons_mk (WideElems.Trod_stays hl (ht t (by simp)).1 (ht t (by simp)).2 h1 (fun x hx=>h3 x (by simp[hx])) (fun x hx=>h4 x (by simp[hx])))
   (Wn hl ts LY Lr q (fun t h=>ht t (by simp[h])) h2 (fun x hx=>h3 x (by simp[hx])) (fun x hx=>h4 x (by simp[hx])))
theorem QiR{H:Type}{enc:TypeId×Value->H}{f:Func}{s:ChangeSpec}{apart fresh handsOn again:Bool}{W W':World}{args:bY}{v:Value}{ds gs:List (DataW H)}{before pa pv:List MemPlace}
 (hW:DataW.Whole enc P f.params.toList s.vars apart W args.toList ds gs before)
 (kl:∀(b:Nat) (sp:Nat->Bool) (hd:Bool),DataW.TrodAll enc P W' b sp hd f.resultTypes.toList (v.resultList f.resultTypes.size) (s.fn H (ds++gs)).results [])
 (gH:∀sp:Nat->Bool,(∀p∈before,sp p.block=true)->DataW.TrodAll enc P W' 0 sp true f.params.toList args.toList (s.fn H (ds++gs)).args pa)
 (nj:∀sp:Nat->Bool,(∀p∈before,sp p.block=true)->DataW.TrodVars enc P W' sp s.vars (s.fn H (ds++gs)).vars pv)
 (Dm:before=pa++pv) (hk:W.keptBut W' (· ∈ before)) (LD:∀a:Addr,a.block<W.heap.size->W'.frozen? a=W.frozen? a)
 (ig:∀(j:Nat) (t:TypeId) (r:Value),f.resultTypes[j]? = some t->(v.resultList f.resultTypes.size)[j]? = some r->Value.okWide P W' .any 0 t r) :
 s.post enc P f apart fresh handsOn again W args v W':=by
 have hold:∀p∈before,(fun b=>decide (b<W.heap.size)) p.block=true:=fun p hp=>by simpa using hW.lt p hp
 refine⟨ds,gs,before,[],pa,pv,hW,kl _ _ _,gH _ hold,nj _ hold,World.keptBut_mono (fun p hp=>⟨hp,?_⟩) hk,fun _=>?_⟩
 ·rw[Dm,aT]at hp;exact Or.inr hp
 ·have cU:=hW.lt;obtain⟨_,_,_,_,_,hz,hn⟩:=hW;refine⟨ig,_,_,([]++pa)++pv,⟨[]++pa,pv,trodAll_append (gH _ (fun _ _=>rfl)) (kl _ _ _),nj _ (fun _ _=>rfl),rfl,?_,?_⟩,?_⟩
  ·intro b off hp;have hb:MemPlace.cell b off∈before:=by rw[Dm];simpa using hp
   rw[LD _ (by simpa[MemPlace.block]using cU _ hb)];exact hz b off hb
  ·intro ha;have:=hn ha;rw[Dm]at this
   simpa using this
  ·intro p hp _;rw[Dm]
   simpa using hp
theorem Qlr(K:Zo P T){Φ:iR C}(F:Qk P T Φ)(hd:DC T gA)(hl:laidOutB P=true){f:FuncId}{fn:Func}{s:ChangeSpec}{tb:TypeId}{m:Nat}
 (kl:fn.resultTypes = #[tb]) (hb:P.underlying tb=some .bool) (nj:s.vars=[])
 (SO:fn.params.toList.all (fun t=>ij T m t&&P.readableRec t&&Nat.blt t P.types.size)=true)
 (tA:∀(H:Type) (ds:List (DataW H)),ds.length=fn.params.toList.length->s.fn H ds={ results:=[.lit (.bool true)],args:=ds })
 (yR:∀ds:List (D C),Fits T gA fn.params.toList ds->∃n,eO T Φ n f ds=some (.bool true))
 (H:Type) (enc:TypeId×Value->H) (W:World) (base:Nat) (args:bY) (ds gs:List (DataW H)) (before:List MemPlace)
 (nX:∀(j:Nat) t v,fn.params[j]? = some t->args[j]? = some v->Value.okWide P W .any base t v)
 (hW:DataW.Whole enc P fn.params.toList s.vars false W args.toList ds gs before) (za:∀p∈T.pre,∃t f,W.heap[p.1]? = some (.cells p.2 t f)) :
 Calls P f args W fun e W'=>∃v,e=.returned v/\s.post enc P fn false true false false W args v W':=by
 have GK:∀t∈fn.params.toList,ij T m t=true/\P.readableRec t=true/\t<P.types.size:=by
  intro t ht;have:=aX.1 SO t ht;simp only[ai]at this;exact⟨this.1.1,this.1.2,by simpa[Nat.blt_eq]using this.2⟩
 have hW':=hW;obtain⟨p,q,hA,hV,rfl,LD,ll⟩:=hW;rw[nj]at hV;obtain⟨rfl,rfl⟩:=trodVars_none hV;obtain⟨al,hf,hr⟩:=Qlq (gA:=gA) K hd (r:=.any) (base:=base) _ _ _ _ (fun t ht=>⟨m,(GK t ht).1⟩) (fun j t v a b=>nX j t v (by rw[<-Array.getElem?_toList];exact a) (by rw[<-Array.getElem?_toList];exact b)) hA;obtain⟨n,hn⟩:=yR al hf;have hc:=(Qjc K F hn hf.refs W (fun _ _=>False) (fun _ _ h=>h.elim) za (vs:=args.toList) hr).2;have ea:(⟨args.toList⟩:bY)=args:=by simp
 rw[ea]at hc;refine hc.mono fun e W' hp=>?_;obtain⟨v,ρ,rfl,rv,a1,a2,a3,a4,a5,a6⟩:=hp;obtain rfl:=rv.bool
 have hlen:ds.length=fn.params.toList.length:=by
  have:∀(ts:cD) (vs:bT) (ds:List (DataW H)) (ps:List MemPlace),DataW.TrodAll enc P W 0 (fun _=>true) true ts vs ds ps->ds.length=ts.length:=by
   intro ts
   induction ts with
   |nil=>intro vs ds ps h;obtain⟨rfl,rfl,rfl⟩:=trodAll_nil h;rfl
   |cons t ts ih=>
    intro vs ds ps h;obtain⟨v,LY,d,Lr,p,q,rfl,rfl,rfl,h1,h2⟩:=trodAll_cons h;simp[ih _ _ _ h2]
  exact this _ _ _ _ hA
 have hs:=tA H ds hlen;have FY:Below W.heap.size W W':=⟨a3,a4,a5,a1,a2⟩;have cU:∀x∈p,x.block<W.heap.size:=fun x hx=>by simpa using hW'.lt x (by simpa using hx)
 refine⟨_,rfl,QiR (pa:=p) (pv:=[]) hW' ?_ ?_ ?_ (by simp) (FY.frame _) a6 ?_⟩
 ·intro b sp hd;simp only[aR];rw[hs,kl];exact trodAll_cons_mk (p:=[]) (p':=[]) (shut_bool hb _) trodAll_mk0
 ·intro sp zf;simp only[aR]at zf ⊢;rw[hs];exact Wn hl _ _ _ _ (fun t ht=>(GK t ht).2) hA (fun x hx=>FY.same (cU x hx)) zf
 ·intro sp zf;simp only[aR];rw[hs,nj];rfl
 ·exact ok_one kl rfl (okWide_bool_mk hb _)
theorem QmZ(K:Zo P T){Φ:iR C}(F:Qk P T Φ)(hd:DC T gA)(hl:laidOutB P=true){f:FuncId}{fn:Func}{s:ChangeSpec}{tb:TypeId}{m:Nat}
 (kl:fn.resultTypes = #[tb]) (hb:P.underlying tb=some .bool) (nj:s.vars=[])
 (SO:fn.params.toList.all (fun t=>ij T m t&&P.readableRec t&&Nat.blt t P.types.size)=true)
 (tA:∀(H:Type) (ds:List (DataW H)),ds.length=fn.params.toList.length->s.fn H ds={ results:=[.lit (.bool true)],args:=ds })
 (yR:∀ds:List (D C),Fits T gA fn.params.toList ds->∃n,eO T Φ n f ds=some (.bool true))
 (H:Type) (enc:TypeId×Value->H) (W:World) (base:Nat) (args:bY) (ds gs:List (DataW H)) (before:List MemPlace)
 (nX:∀(j:Nat) t v,fn.params[j]? = some t->args[j]? = some v->Value.okWide P W .any base t v)
 (hW:DataW.Whole enc P fn.params.toList s.vars false W args.toList ds gs before) (h0:T.pre=[]:=by rfl) :
 Calls P f args W fun e W'=>∃v,e=.returned v/\s.post enc P fn false true false false W args v W' :=
 Qlr K F hd hl kl hb nj SO tA yR H enc W base args ds gs before nX hW (by rw[h0];intro p hp;cases hp)
end
def i64(n:Int):Prop := -9223372036854775808<=n/\n<=9223372036854775807
theorem J8{n:Int}(h:IntKind.i64.min<=n/\n<=IntKind.i64.max):i64 n:=by
 simpa[i64,IntKind.min,IntKind.max,IntKind.signed,IntKind.bits]using h
section
variable {C:gR}{T:fh C}{d:D C}{u:TypeId}
theorem ZT{k:IntKind}(hu:T.ty u=.int k)(hf:fit T d (.inl u)=true):∃n,d=.int k n:=by
 cases d<;>simp[fit,hu]at hf
 subst hf;exact⟨_,rfl⟩
theorem QpV(hu:T.ty u=.bool)(hf:fit T d (.inl u)=true):∃n,d=.bool n:=by
 cases d<;>simp[fit,hu]at hf
 exact⟨_,rfl⟩
theorem QG8(hu:T.ty u=.str)(hf:fit T d (.inl u)=true):∃n,d=.str n:=by
 cases d<;>simp[fit,hu]at hf
 exact⟨_,rfl⟩
theorem Rh{e:TypeId}{t:C.Ty}(hu:T.ty u=.sl e t)(hf:fit T d (.inl u)=true)(hr:d.refs=[]):∃c l,d=.sl t c l:=by
 cases d<;>simp[fit,hu]at hf
 ·subst hf;exact⟨_,_,rfl⟩
 ·simp[D.refs]at hr
 ·simp[D.refs]at hr
theorem Fe{a:Bool}{f:TypeId}{fs:cD}(hu:T.ty u=.struct a (f::fs))(hf:fit T d (.inl u)=true):∃x y,d=.bI x y/\fit T x (.inl f)=true/\fit T y (.inr fs)=true:=by
 cases d<;>simp[fit,hu]at hf
 exact⟨_,_,rfl,hf.1,hf.2⟩
theorem Vq{f:TypeId}{fs:cD}(hf:fit T d (.inr (f::fs))=true):∃a b,d=.bI a b/\fit T a (.inl f)=true/\fit T b (.inr fs)=true:=by
 cases d<;>simp[fit]at hf
 exact⟨_,_,rfl,hf.1,hf.2⟩
theorem ET(hf:fit T d (.inr [])=true):d=.bN:=by
 cases d<;>simp[fit]at hf
 rfl
end
end Go.Ev
