/-
  A part of the proof of a statement of this seat: the model is run over values by content, proved sound; what the functions come to. No condition beyond the given statements. (text 6)
-/
import Derived.Test.YtkoeniljaccaiaaGreatP4
noncomputable section
namespace Go.Ev
open Go.Proofs
set_option maxRecDepth 100000
set_option linter.unusedVariables false
set_option linter.unusedSimpArgs false
def QuR:bW->bO
 |[.bI (.int .i64 n) (.bI (.str b) .bN)]=>some (Qd b.length,.bool (Q8 ⟨n,b⟩))
 |_=>none
def UI(n:Int)(b:bL):=eO cu MW 40 85 [.bI (.int .i64 n) (.bI (.str b) .bN)]
theorem QFA n b:UI n b=(let Z0:fI:=some (D.bool false);bif decide ((0:Int)<=n)then bif decide (n<=1048575)then bif Qd b.length then bif decide ((b.length:Int)<=640)then bif decide ((0:Int)<n)then some (D.bool true)else some (D.bool (b==Array.toList #[]))else Z0 else none else Z0 else Z0):=by kernel_rfl
theorem QFB n b(h:(Qd b.length)=true):UI n b=some (.bool (Q8 ⟨n,b⟩)):=by
 (rw[QFA];conv=>zeta)
 have hb:decide (((b.length:Nat):Int)<=640)=decide (b.length<=640):=by rw[decide_eq_decide];omega
 simp only[Q8,h,hb,ag];cases decide (0<=n)<;>cases decide (n<=1048575)<;>cases decide (b.length<=640)<;>cases decide (0<n)<;>cases b<;>rfl
def Bd:=MW.b8 85 QuR
theorem QuS:Qk Tryz.prog cu Bd:=QqY.cQ Qb fun args d h=>by
 unfold QuR at h
 split at h
 ·obtain⟨h1,rfl⟩:=ak h;exact⟨by simp[D.refs],40,QFB _ _ h1⟩
 ·cases h
structure QuT where
 (c:Bool)(l:bK)(i:Nat)
def PU(c:Bool)(l:bK)(i:Nat):bX:=[(0,.sl (C:=RC) .bR c l),(1,.fn 143 (.bI (.ptr 0 []) .bN)),(4,.int .i64 0),(7,.int .i64 (l.length)),(8,.int .i64 (i:Int))]
def wK(c:Bool)(l:bK)(i:Nat):bP:=[.var 123 (.fn 85 .bN)]
def UJ c l i:=dQ cu Bd 177 2 40 1 [0,1,4,7,8] [4] [.slot 1 0] (PU c l i) (wK c l i)
theorem QFC c l i:UJ c l i=(let Z0:Int:=(i:Int);let Z1:Int:=(l.length:Int);let Z2:cE:=List.getD l Z0.toNat (cE.mk 0 []);let Z3:cb:=[some (Obj.var 123 (D.fn 85 .bN))];let Z4:Nat×bV:=(4,cj 0);bif decide (Z0<Z1)then b7 (dH Z0 Z1) (b7 (Qd (cE.b Z2).length) (bif !Q8 (cE.mk (cE.n Z2) (cE.b Z2))then some ((X.ret,[(4,cj Z0)]),Z3)else some ((X.normal,[(0,D.sl b9.bR c l),(1,D.fn 143 (.bI (D.ptr 0 []) .bN)),Z4,(7,cj Z1),(8,cj (c6 (Z0+1)))]),Z3)))else some ((X.exit 0,[Z4]),Z3)):=by kernel_rfl
def Ez(c:Bool)(l:bK)(i:Nat):RT RC:=.br (l.drop i |>.all Q8) (.leaf (.exit 0) [(4,.int .i64 0)] (wK c l i)) (.leaf .ret [(4,.int .i64 (CR l i))] (wK c l i))
def EA(c:Bool)(l:bK)(i:Nat):Prop:=i<=l.length/\Qn l=true
def uV:QD RC QuT where
 k:=1
 cM q:=PU q.c q.l q.i
 cK q:=wK q.c q.l q.i
 fin q:=Ez q.c q.l q.i
 Inv q:=EA q.c q.l q.i
 μ q:=q.l.length-q.i
theorem Qq2 c l i(hI:EA c l i):c8 (UJ c l i) (dj uV ⟨c,l,i⟩):=by
 (rw[QFC];delta b7 dH cj c6;conv=>zeta)
 unfold EA at hI;obtain⟨h1,hg⟩:=hI;have h2:=(YT.1 hg).1
 by_cases cU:i<l.length
 ·have cP:=eG i (by omega)
  have eu:=ga (show i<l.length by omega)
  have et:=fL (show i<l.length by omega)
  have dh:=bw i
  have gU:IntKind.i64.wrap ((i:Int)-1)=(i:Int)-1:=cC (by omega) (by omega);have gT:((i:Int)-1).toNat=i-1:=by omega
  simp only[cP,eu,et,dh,gU,gT,ag];have jo:=QnR hg i cU (⟨0,[]⟩:cE);have dV:=Kt l Q8 i cU (⟨0,[]⟩:cE);have hb:=Qq0 l i cU (⟨0,[]⟩:cE);generalize l.getD i (⟨0,[]⟩:cE)=x at dV hb jo ⊢;simp only[jo,ag];cases a1:Q8 x
  ·exact QW (wK c l i) (by simp[uV,Ez,dV,hb,a1,RT.val]) rfl
  ·exact Qi ⟨c,l,i+1⟩ ⟨cU,hg⟩ (by simp only[uV];omega) (by simp[uV,Ez,dV,hb,a1];rfl) rfl rfl
 ·have hi:i=l.length:=by omega
  have c1:decide ((i:Int)<l.length)=false:=by simp;omega
  rw[c1];exact Qh (wK c l i) (by simp[uV,Ez,hi,RT.val]) rfl
def PV(env:bX)(os:bP):Option (Bool×QuT):=match env,os with
 |[(0,.sl .bR c l),(1,.fn 143 (.bI (.ptr 0 []) .bN)),(4,.int .i64 0),(7,.int .i64 x0),(8,.int .i64 x1)],[.var 123 (.fn 85 .bN)]=>some (decide (x0=l.length)&&decide (x1=0)&&Qn l,⟨c,l,0⟩)
 |_,_=>none
def Be:=Bd.cJ 177 2 (ey cu [.slot 1 0] [0,1,4,7,8] uV PV)
theorem QuW:Qk Tryz.prog cu Be:=by
 refine QuS.cq Qb (by kernel_rfl) uV 40 [0,1,4,7,8] [4] [.slot 1 0] [0,1,4,7,8] PV (fun q hI=>?_) ?_
 ·obtain⟨c,l,i⟩:=q;refine⟨?_,?_,Qq2 c l i hI⟩
  ·simp_all[Qj,uV,PU,wK,EA,D.refs,Obj.refs,cV]
  ·simp_all[uV,Ez,wK,EA,RT.cT,Qj,D.refs,Obj.refs,cV]
 ·intro env os b q cN hb;unfold PV at cN
  split at cN
  ·cases cN;simp only[ai,aa]at hb;obtain⟨⟨rfl,rfl⟩,hl⟩:=hb;exact⟨⟨aK _,hl⟩,rfl,rfl⟩
  ·cases cN
def QuX:bW->bO
 |[.sl .bR c l,.int .i64 33,.fn 85 .bN]=>some (Qn l,.bool (Yu l))
 |_=>none
def UK(c:Bool)(l:bK):=eO cu Be 40 84 [.sl (C:=RC) .bR c l,.int .i64 33,.fn 85 .bN]
theorem QFD c l:UK c l=(let Z0:=Qd l.length;let Z1:Int:=(l.length:Int);b7 Z0 (bif Z1==33 then b7 Z0 (b7 (decide (Z1=Z1)&&true&&Qn l) (bif List.all (List.drop 0 l) Q8 then some (D.bool true)else some (D.bool !decide ((0:Int)<=(↑(CR l 0):Int)))))else some (D.bool false))):=by kernel_rfl
theorem QFE c l(h:(Qn l)=true):UK c l=some (.bool (Yu l)):=by
 (rw[QFD];delta b7;conv=>zeta)
 have hl:=(YT.1 h).1;have lk:=Qe hl;have hb:=QA2 l 0;simp only[h,lk,Yu,ag,bG]
 by_cases e:l.length=33
 ·have e2:((l.length:Int)==33)=true:=by simp[e]
  cases hm:l.all Q8<;>simp[e,hm]<;>omega
 ·have e2:((l.length:Int)==33)=false:=by simp;omega
  simp[e,e2]
def Bf:=Be.b8 84 QuX
theorem QuY:Qk Tryz.prog cu Bf:=QuW.cQ Qb fun args d h=>by
 unfold QuX at h
 split at h
 ·obtain⟨h1,rfl⟩:=ak h;exact⟨by simp[D.refs],40,QFE _ _ h1⟩
 ·cases h
structure QuZ where
 (c:Bool)(now:bK)(r:bV)(d:Bool)(sure:bK)(i:Nat)
def PQ(c:Bool)(now:bK)(r:bV)(d:Bool)(sure:bK)(i:Nat):bX:=[(1,.ptr 0 []),(2,.int .i64 0),(16,.sl (C:=RC) .bR c now),(17,.int .i64 (now.length)),(18,.int .i64 (i:Int))]
def wL(c:Bool)(now:bK)(r:bV)(d:Bool)(sure:bK)(i:Nat):bP:=[.var 24 (.bI r (cL .bR d sure .bN))]
def UL c now r d sure i:=dQ cu Bf 33 4 40 1 [1,2,16,17,18] [2] [.slot 1 0] (PQ c now r d sure i) (wL c now r d sure i)
theorem QFF c now r d sure i:UL c now r d sure i=(let Z0:Int:=(i:Int);let Z1:Int:=(now.length:Int);let Z2:cb:=[some (Obj.var 24 (.bI r (D.bI (D.sl b9.bR d sure) .bN)))];let Z3:Nat×bV:=(2,cj 0);bif decide (Z0<Z1)then b7 (dH Z0 Z1) (b7 (dH Z0 (sure.length:Int)) (bif decide (cE.n (List.getD now Z0.toNat (cE.mk 0 []))<cE.n (List.getD sure Z0.toNat (cE.mk 0 [])))then some ((X.ret,[(2,cj 2)]),Z2)else some ((X.normal,[(1,D.ptr 0 []),Z3,(16,D.sl b9.bR c now),(17,cj Z1),(18,cj (c6 (Z0+1)))]),Z2)))else some ((X.exit 0,[Z3]),Z2)):=by kernel_rfl
def EB(c:Bool)(now:bK)(r:bV)(d:Bool)(sure:bK)(i:Nat):RT RC:=.br (qe now sure i) (.leaf (.exit 0) [(2,.int .i64 0)] (wL c now r d sure i)) (.leaf .ret [(2,.int .i64 2)] (wL c now r d sure i))
def EC(c:Bool)(now:bK)(r:bV)(d:Bool)(sure:bK)(i:Nat):Prop:=r.refs=[]/\i<=now.length/\now.length<=9223372036854775807/\now.length=sure.length
def uW:QD RC QuZ where
 k:=1
 cM q:=PQ q.c q.now q.r q.d q.sure q.i
 cK q:=wL q.c q.now q.r q.d q.sure q.i
 fin q:=EB q.c q.now q.r q.d q.sure q.i
 Inv q:=EC q.c q.now q.r q.d q.sure q.i
 μ q:=q.now.length-q.i
theorem Qq3 c now r d sure i(hI:EC c now r d sure i):c8 (UL c now r d sure i) (dj uW ⟨c,now,r,d,sure,i⟩):=by
 (rw[QFF];delta b7 dH cj c6;conv=>zeta)
 unfold EC at hI;obtain⟨h0,h1,h2,h3⟩:=hI
 by_cases cU:i<now.length
 ·have cP:=eG i (by omega)
  have eu:=ga (show i<now.length by omega)
  have et:=fL (show i<now.length by omega)
  have dh:=bw i
  have gU:IntKind.i64.wrap ((i:Int)-1)=(i:Int)-1:=cC (by omega) (by omega);have gT:((i:Int)-1).toNat=i-1:=by omega
  simp only[cP,eu,et,dh,gU,gT,ag];have So:i<sure.length:=by omega
  have sK:=fL (show i<sure.length by omega)
  simp only[sK,ag];have dV:=XD (now:=now) (sure:=sure) i cU (by omega) (⟨0,[]⟩:cE);generalize now.getD i (⟨0,[]⟩:cE)=x at dV ⊢;generalize sure.getD i (⟨0,[]⟩:cE)=y at dV ⊢;cases a1:decide (y.n<=x.n)
  ·have a2:decide (x.n<y.n)=true:=by simp at a1 ⊢;exact a1
   simp only[a2,ag];exact QW (wL c now r d sure i) (by simp[uW,EB,dV,a1,RT.val]) rfl
  ·have a2:decide (x.n<y.n)=false:=by simp at a1 ⊢;exact a1
   simp only[a2,ah];exact Qi ⟨c,now,r,d,sure,i+1⟩ ⟨h0,cU,h2,h3⟩ (by simp only[uW];omega) (by simp[uW,EB,dV,a1];rfl) rfl rfl
 ·have hi:i=now.length:=by omega
  have c1:decide ((i:Int)<now.length)=false:=by simp;omega
  rw[c1];exact Qh (wL c now r d sure i) (by simp[uW,EB,hi,QjT,RT.val]) rfl
def PR(env:bX)(os:bP):Option (Bool×QuZ):=match env,os with
 |[(1,.ptr 0 []),(2,.int .i64 0),(16,.sl .bR c now),(17,.int .i64 x0),(18,.int .i64 x1)],[.var 24 (.bI r (.bI (.sl .bR d sure) .bN))]=>Qt (r.refs.isEmpty) (decide (x0=now.length)&&decide (x1=0)&&decide (now.length<=9223372036854775807/\now.length=sure.length),⟨c,now,r,d,sure,0⟩)
 |_,_=>none
def Bg:=Bf.cJ 33 4 (ey cu [.slot 1 0] [1,2,16,17,18] uW PR)
theorem Qu2:Qk Tryz.prog cu Bg:=by
 refine QuY.cq Qb (by kernel_rfl) uW 40 [1,2,16,17,18] [2] [.slot 1 0] [1,2,16,17,18] PR (fun q hI=>?_) ?_
 ·obtain⟨c,now,r,d,sure,i⟩:=q;refine⟨?_,?_,Qq3 c now r d sure i hI⟩
  ·simp_all[Qj,uW,PQ,wL,EC,D.refs,Obj.refs,cV]
  ·simp_all[uW,EB,wL,EC,RT.cT,Qj,D.refs,Obj.refs,cV]
 ·intro env os b q cN hb;unfold PR at cN
  split at cN
  ·obtain⟨hs,cN⟩:=Qc cN;cases cN;simp only[ai,aa]at hb;obtain⟨⟨rfl,rfl⟩,hl⟩:=hb;exact⟨⟨List.isEmpty_iff.1 hs,aK _,hl⟩,rfl,rfl⟩
  ·cases cN
def QjU:bW->bO
 |[.bI (.sl .bR c now) (.bI (.sl .bR d sure) .bN)]=>some (Qn now&&Qn sure,.int .i64 (bif Ql now sure then 0 else 2))
 |_=>none
def QnT(c:Bool)(now:bK)(d:Bool)(sure:bK):=eO cu Bg 40 33 [.bI (.sl (C:=RC) .bR c now) (cL .bR d sure .bN)]
theorem Qu3 c now d sure:QnT c now d sure=(let Z0:fI:=some (cj 2);let Z1:=now.length;b7 (Qn now) (bif !Yu now then Z0 else b7 (Qn sure) (bif !Yu sure then Z0 else b7 (Qd Z1) (b7 (decide ((Z1:Int)=(Z1:Int))&&true&&decide (Z1<=9223372036854775807/\Z1=sure.length)) (bif qe now sure 0 then some (cj 0)else Z0))))):=by kernel_rfl
theorem Qu4 c now d sure(h:(Qn now&&Qn sure)=true):QnT c now d sure=some (.int .i64 (bif Ql now sure then 0 else 2)):=by
 (rw[Qu3];delta b7 cj;conv=>zeta)
 rw[ai]at h;obtain⟨hg,o7⟩:=h;have hl:=(YT.1 hg).1;have hs:=(YT.1 o7).1;have lk:=Qe hl;simp only[hg,o7,lk,au,ag,Ql];cases h1:Yu now
 ·rfl
 cases h2:Yu sure
 ·rfl
 have l1:=DZ h1;have l2:=DZ h2;have e:decide (now.length<=9223372036854775807/\now.length=sure.length)=true:=by simp;omega
 cases h3:qe now sure 0<;>simp[e]
def Bh:=Bg.b8 33 QjU
theorem Qu5:Qk Tryz.prog cu Bh:=Qu2.cQ Qb fun args d h=>by
 unfold QjU at h
 split at h
 ·obtain⟨h1,rfl⟩:=ak h;exact⟨by simp[D.refs],40,Qu4 _ _ _ _ h1⟩
 ·cases h
def QjV:bW->bO
 |[.sl .bR c l]=>some (decide (0<l.length/\l.length<=1000000),.sl (C:=RC) .bR false l)
 |_=>none
def QnV(c:Bool)(l:bK):=eO cu Bh 40 190 [.sl (C:=RC) .bR c l]
theorem Qu6 c l:QnV c l=(let Z0:Nat:=(0:Nat)+List.length l;let Z1:bK:=List.replicate (0:Nat) (cE.mk (0:Int) [])++l;bif List.isEmpty l then none else b7 (Qg Z0 (24:Nat)) (b7 (Nat.beq Z0 Z1.length) (some (D.sl b9.bR false Z1)))):=by kernel_rfl
theorem Qu7 c l(h:(decide (0<l.length/\l.length<=1000000))=true):QnV c l=some (.sl (C:=RC) .bR false l):=by
 (rw[Qu6];delta b7;conv=>zeta)
 obtain⟨h1,h2⟩:=af h;have e0:l.isEmpty=false:=by cases l<;>simp_all
 have e1:Qg l.length 24=true:=by simp[Qg];omega
 have eb:∀n:Nat,n.beq n=true:=fun n=>by simp
 simp only[e0,e1,ah,ag,List.replicate,aH,aN,eb]
def Bi:=Bh.b8 190 QjV
theorem Qu8:Qk Tryz.prog cu Bi:=Qu5.cQ Qb fun args d h=>by
 unfold QjV at h
 split at h
 ·obtain⟨h1,rfl⟩:=ak h;exact⟨by simp[D.refs],40,Qu7 _ _ h1⟩
 ·cases h
def QnW:bW->bO
 |[.sl .bR c l,.int .i64 k,.bI (.int .i64 n) (.bI (.str b) .bN)]=>some (decide (0<=k/\k<l.length/\l.length<=1000000),.sl (C:=RC) .bR false (l.set k.toNat ⟨n,b⟩))
 |_=>none
def Qva(c:Bool)(l:bK)(k n:Int)(b:bL):=eO cu Bi 40 191 [.sl (C:=RC) .bR c l,.int .i64 k,.bI (.int .i64 n) (.bI (.str b) .bN)]
theorem QA3 c l k n b:Qva c l k n b=(let Z0:Int:=(l.length:Int);let Z1:bK:=List.drop 0 (List.take k.toNat l);let Z2:=Z1.length+List.length [cE.mk n b];let Z3:=c6 (k+1);let Z4:=List.length (Z1++[cE.mk n b]);let Z5:=List.length (List.drop Z3.toNat l);let Z6:bK:=Z1++[cE.mk n b]++List.drop Z3.toNat l;b7 (decide ((0:Int)<=0/\(0:Int)<=k/\k<=Z0/\k=k)) (b7 (Qg Z2 24) (b7 (decide ((0:Int)<=Z3/\Z3<=Z0)) (b7 (Nat.beq Z2 Z4&&Qg (Z2+Z5) 24) (b7 (Nat.beq (Z4+Z5) Z6.length) (some (D.sl b9.bR false Z6))))))):=by kernel_rfl
theorem QA4 c l k n b(h:(decide (0<=k/\k<l.length/\l.length<=1000000))=true):Qva c l k n b=some (.sl (C:=RC) .bR false (l.set k.toNat ⟨n,b⟩)):=by
 (rw[QA3];delta b7 c6;conv=>zeta)
 obtain⟨h0,h1,h2⟩:=af h;have w1:IntKind.i64.wrap (k+1)=k+1:=cC (by omega) (by omega);have t1:(k+1).toNat=k.toNat+1:=by omega
 have hk:k.toNat<l.length:=by omega
 have e0:=QHU l k.toNat (⟨n,b⟩:cE) hk;have m1:min k.toNat l.length=k.toNat:=by omega
 simp only[w1,t1,bG,bp,aE,bH,aC,bq,m1,aN]
 repeat (refine Qa (by first|assumption|exact Qe (by omega)|exact Zt (by omega)|(simp;done)|(simp;omega)|(simp[Qg];omega)) ?_)
 rw[e0]
def Bj:=Bi.b8 191 QnW
theorem Qvb:Qk Tryz.prog cu Bj:=Qu8.cQ Qb fun args d h=>by
 unfold QnW at h
 split at h
 ·obtain⟨h1,rfl⟩:=ak h;exact⟨by simp[D.refs],40,QA4 _ _ _ _ _ h1⟩
 ·cases h
def Qvc:bW->bO
 |[.bI (.sl .bR c now) (.bI (.sl .bR d sure) .bN),.int .i64 k,.int .i64 n,.str b]=>some (Qn now&&Qn sure&&Qd b.length,.cG (.bI (cL .bR (!QH now sure k n b) (eD now sure k n b) (cL .bR (!QH now sure k n b) (Zj now sure k n b) .bN)) (cH (bif QH now sure k n b then 0 else 2) .bN)))
 |_=>none
def UM(c:Bool)(now:bK)(d:Bool)(sure:bK)(k n:Int)(b:bL):=eO cu Bj 40 164 [.bI (.sl (C:=RC) .bR c now) (cL .bR d sure .bN),.int .i64 k,.int .i64 n,.str b]
theorem QFG c now d sure k n b:UM c now d sure k n b=(let Z0:bV:=D.sl b9.bR true [];let Z1:fI:=some (D.cG (D.bI (D.bI Z0 (D.bI Z0 .bN)) (.bI (cj 2) .bN)));let Z2:=now.length;let Z3:bV:=D.bI (D.sl b9.bR false sure) .bN;let Z4:bV:=D.bI (cj 0) .bN;b7 (Qn now&&Qn sure) (bif (bif Ql now sure then (0:Int)else (2:Int))!=0 then Z1 else bif decide (k<0)then Z1 else bif decide ((33:Int)<=k)then Z1 else bif decide (n<1)then Z1 else bif b==Array.toList #[]then Z1 else b7 (Qd b.length) (bif !Q8 (cE.mk n b)then Z1 else b7 (decide ((0:Nat)<Z2/\Z2<=1000000)) (b7 (decide ((0:Nat)<sure.length/\sure.length<=1000000)) (b7 (dH k (Z2:Int)) (bif decide (cE.n (List.getD now k.toNat (cE.mk 0 []))<n)then b7 (decide ((0:Int)<=k/\k<(Z2:Int)/\Z2<=1000000)) (some (D.cG (D.bI (D.bI (D.sl b9.bR false (List.set now k.toNat (cE.mk n b))) Z3) Z4)))else some (D.cG (D.bI (D.bI (D.sl b9.bR false now) Z3) Z4)))))))):=by kernel_rfl
theorem QFH c now d sure k n b(h:(Qn now&&Qn sure&&Qd b.length)=true):UM c now d sure k n b=some (.cG (.bI (cL .bR (!QH now sure k n b) (eD now sure k n b) (cL .bR (!QH now sure k n b) (Zj now sure k n b) .bN)) (cH (bif QH now sure k n b then 0 else 2) .bN))):=by
 (rw[QFG];delta b7 dH cj;conv=>zeta)
 simp only[ai]at h;obtain⟨⟨hg,o7⟩,hb⟩:=h;have yV:(Qn now&&Qn sure)=true:=by rw[hg,o7];rfl
 have no:QH now sure k n b=false->some (D.cG (.bI (cL .bR true [] (cL .bR true [] .bN)) (cH 2 .bN)))=some (.cG (.bI (cL .bR (!QH now sure k n b) (eD now sure k n b) (cL .bR (!QH now sure k n b) (Zj now sure k n b) .bN)) (cH (bif QH now sure k n b then 0 else 2) .bN))):=fun e=>by simp only[e,eD,Zj];rfl
 refine Qa yV ?_;cases hd:Ql now sure
 ·exact Qa rfl (no (Q5 fun f=>by rw[hd]at f;cases f.1))
 obtain⟨l1,l2⟩:=Zg hd;refine Qq rfl (Qw (fun e=>no (Q5 fun f=>by simp only[aa]at e;omega)) fun e1=>?_);refine(Qw (fun e=>no (Q5 fun f=>by simp only[aa]at e;omega)) fun e2=>?_);refine(Qw (fun e=>no (Q5 fun f=>by simp only[aa]at e;omega)) fun e3=>?_);refine(Qw (fun e=>no (Q5 fun f=>f.2.2.2.2.1 (by simpa using e))) fun e4=>?_);refine Qa hb ?_;refine(Qw (fun e=>no (Q5 fun f=>by rw[f.2.2.2.2.2]at e;cases e)) fun e5=>?_);simp only[ae]at e1 e2 e3
 have ok:QH now sure k n b=true:=by
  simp only[QH,hd,Bool.true_and,ai,aa];exact⟨⟨⟨⟨by omega,by omega⟩,by omega⟩,by simpa using e4⟩,by simpa using e5⟩
 rw[ok];simp only[eD,Zj,ok,ag,bg]
 repeat (refine Qa (by first|assumption|exact Qe (by omega)|exact Zt (by omega)|(simp;done)|(simp;omega)|(simp[Qg];omega)) ?_)
 refine Qw (fun e=>?_) fun e=>?_<;>simp only[aa,ae]at e
 ·have pn:KR now k.toNat n b=now.set k.toNat ⟨n,b⟩:=ax e;rw[pn]
  repeat (refine Qa (by first|assumption|exact Qe (by omega)|exact Zt (by omega)|(simp;done)|(simp;omega)|(simp[Qg];omega)) ?_)
  rfl
 ·have pn:KR now k.toNat n b=now:=aw e;rw[pn]
def Bk:=Bj.b8 164 Qvc
theorem Qvd:Qk Tryz.prog cu Bk:=Qvb.cQ Qb fun args d h=>by
 unfold Qvc at h
 split at h
 ·obtain⟨h1,rfl⟩:=ak h;exact⟨by simp[D.refs],40,QFH _ _ _ _ _ _ _ h1⟩
 ·cases h
def Qve:bW->bO
 |[.bI (.sl .bR c now) (.bI (.sl .bR d sure) .bN),.int .i64 k]=>some (Qn now&&Qn sure,.cG (.bI (cH (ja now sure k).n (.bI (.str (ja now sure k).b) .bN)) (cH (bif JG now sure k then 0 else 2) .bN)))
 |_=>none
def UN(c:Bool)(now:bK)(d:Bool)(sure:bK)(k:Int):=eO cu Bk 40 86 [.bI (.sl (C:=RC) .bR c now) (cL .bR d sure .bN),.int .i64 k]
theorem QFI c now d sure k:UN c now d sure k=(let Z0:bV:=cj 0;let Z1:fI:=some (D.cG (D.bI (D.bI Z0 (D.bI (D.str []) .bN)) (.bI (cj 2) .bN)));let Z2:cE:=List.getD now k.toNat (cE.mk 0 []);b7 (Qn now&&Qn sure) (bif (bif Ql now sure then (0:Int)else (2:Int))!=0 then Z1 else bif decide (k<0)then Z1 else bif decide ((33:Int)<=k)then Z1 else b7 (dH k (now.length:Int)) (some (D.cG (D.bI (D.bI (cj (cE.n Z2)) (.bI (D.str (cE.b Z2)) .bN)) (.bI Z0 .bN)))))):=by kernel_rfl
theorem QFJ c now d sure k(h:(Qn now&&Qn sure)=true):UN c now d sure k=some (.cG (.bI (cH (ja now sure k).n (.bI (.str (ja now sure k).b) .bN)) (cH (bif JG now sure k then 0 else 2) .bN))):=by
 (rw[QFI];delta b7 dH cj;conv=>zeta)
 have yV:=h;rw[ai]at h;obtain⟨hg,o7⟩:=h;have no:JG now sure k=false->some (D.cG (.bI (cH 0 (.bI (.str []) .bN)) (cH 2 .bN)))=some (.cG (.bI (cH (ja now sure k).n (.bI (.str (ja now sure k).b) .bN)) (cH (bif JG now sure k then 0 else 2) .bN)):bV):=fun e=>by simp only[ja,e];rfl
 refine Qa yV ?_;cases hd:Ql now sure
 ·exact Qa rfl (no (by simp[JG,hd]))
 obtain⟨l1,l2⟩:=Zg hd;refine Qq rfl (Qw (fun e=>no (by simp only[aa]at e;simp[JG];omega)) fun e1=>?_);refine(Qw (fun e=>no (by simp only[aa]at e;simp[JG];omega)) fun e2=>?_);simp only[ae]at e1 e2;have ok:JG now sure k=true:=by simp[JG,hd];omega
 rw[ok];simp only[ja,ok,ag,cW]
 repeat (refine Qa (by first|assumption|exact Qe (by omega)|exact Zt (by omega)|(simp;done)|(simp;omega)|(simp[Qg];omega)) ?_)
 rfl
def Bl:=Bk.b8 86 Qve
theorem Qvf:Qk Tryz.prog cu Bl:=Qvd.cQ Qb fun args d h=>by
 unfold Qve at h
 split at h
 ·obtain⟨h1,rfl⟩:=ak h;exact⟨by simp[D.refs],40,QFJ _ _ _ _ _ h1⟩
 ·cases h
structure QnX where
 (c:Bool)(l:bK)(i:Nat)
def IA(c:Bool)(l:bK)(i:Nat):bX:=[(0,.sl (C:=RC) .bR c l),(2,.bool false),(3,.int .i64 (i:Int))]
def IB(c:Bool)(l:bK)(i:Nat):bP:=[]
def Qvg c l i:=dQ cu Bl 93 4 40 0 [0,2,3] [2] [] (IA c l i) (IB c l i)
theorem QA5 c l i:Qvg c l i=(let Z0:Int:=(i:Int);let Z1:Bool:=dH Z0 (l.length:Int);let Z2:cE:=List.getD l Z0.toNat (cE.mk 0 []);let Z3:=cE.n Z2;let Z4:mL:=some ((X.ret,[(2,D.bool false)]),[]);let Z5:=List.length (cE.b Z2);let Z6:mL:=some ((X.normal,[(0,D.sl b9.bR c l),(2,D.bool false),(3,cj (c6 (Z0+1)))]),[]);b7 (Qd l.length) (bif decide (Z0<(l.length:Int))then b7 Z1 (bif decide (Z3<0)then Z4 else b7 Z1 (bif decide ((1048575:Int)<Z3)then Z4 else b7 Z1 (b7 (Qd Z5) (bif decide ((640:Int)<(Z5:Int))then Z4 else b7 Z1 (bif Z3==0 then b7 Z1 (bif !cE.b Z2==Array.toList #[]then Z4 else Z6)else Z6)))))else some ((X.exit 0,[(2,D.bool false)]),[]))):=by kernel_rfl
def D2(c:Bool)(l:bK)(i:Nat):RT RC:=.br (l.drop i |>.all Q8) (.leaf (.exit 0) [(2,.bool false)] []) (.leaf .ret [(2,.bool false)] [])
def D3(c:Bool)(l:bK)(i:Nat):Prop:=i<=l.length/\Qn l=true
def Je:QD RC QnX where
 k:=0
 cM q:=IA q.c q.l q.i
 cK q:=IB q.c q.l q.i
 fin q:=D2 q.c q.l q.i
 Inv q:=D3 q.c q.l q.i
 μ q:=q.l.length-q.i
theorem Ql6 c l i(hI:D3 c l i):c8 (Qvg c l i) (dj Je ⟨c,l,i⟩):=by
 (rw[QA5];delta b7 dH cj c6;conv=>zeta)
 unfold D3 at hI;obtain⟨h1,hg⟩:=hI;have h2:=(YT.1 hg).1;have th:Qd l.length=true:=Qe h2
 by_cases cU:i<l.length
 ·have cP:=eG i (by omega)
  have eu:=ga (show i<l.length by omega)
  have et:=fL (show i<l.length by omega)
  have dh:=bw i
  simp only[cP,eu,et,dh,ag];have jo:=QnR hg i cU (⟨0,[]⟩:cE);have dV:=Kt l Q8 i cU (⟨0,[]⟩:cE);generalize l.getD i (⟨0,[]⟩:cE)=x at dV jo ⊢;simp only[th,jo,ag]
  have fe:Q8 x=true->c8 (some ((X.normal,IA c l (i+1)),[])) (dj Je ⟨c,l,i⟩):=fun e=>
   Qi ⟨c,l,i+1⟩ ⟨cU,hg⟩ (by simp only[Je];omega) (by simp[Je,D2,dV,e]) rfl rfl
  have gv:Q8 x=false->c8 (some ((X.ret,[(2,D.bool false)]),[])) (dj Je ⟨c,l,i⟩):=fun e=>QW [] (by simp[Je,D2,dV,e,RT.val]) rfl;have hm:Q8 x=(decide (0<=x.n)&&decide (x.n<=1048575)&&decide (x.b.length<=640)&&(decide (0<x.n)||x.b==[])):=rfl;rw[hm]at fe gv
  repeat' (refine ZO.2 ⟨fun oE=>?_,fun oE=>?_⟩)
  all_goals first|exact gv (by clear fe gv dV hm;simp_all<;>omega)|exact fe (by clear fe gv dV hm;simp_all<;>omega)
 ·have hi:i=l.length:=by omega
  have c1:decide ((i:Int)<l.length)=false:=by simp;omega
  rw[th,c1];exact Qh [] (by simp[Je,D2,hi,RT.val]) rfl
def OV(env:bX)(os:bP):Option (Bool×QnX):=match env,os with
 |[(0,.sl .bR c l),(2,.bool false),(3,.int .i64 x0)],[]=>some (decide (x0=0)&&Qn l,⟨c,l,0⟩)
 |_,_=>none
def ME:=Bl.cJ 93 4 (ey cu [] [0,2,3] Je OV)
theorem Qq4:Qk Tryz.prog cu ME:=by
 refine Qvf.cq Qb (by kernel_rfl) Je 40 [0,2,3] [2] [] [0,2,3] OV (fun q hI=>?_) ?_
 ·obtain⟨c,l,i⟩:=q;refine⟨?_,?_,Ql6 c l i hI⟩
  ·simp_all[Qj,Je,IA,IB,D3,D.refs,Obj.refs,cV]
  ·simp_all[Je,D2,IB,D3,RT.cT,Qj,D.refs,Obj.refs,cV]
 ·intro env os b q cN hb;unfold OV at cN
  split at cN
  ·cases cN;simp only[ai,aa]at hb;obtain⟨rfl,hl⟩:=hb;exact⟨⟨aK _,hl⟩,rfl,rfl⟩
  ·cases cN
def QnY:bW->bO
 |[.sl .bR c l]=>some (Qn l,.bool (Yu l))
 |_=>none
def Qvi(c:Bool)(l:bK):=eO cu ME 40 93 [.sl (C:=RC) .bR c l]
theorem QA6 c l:Qvi c l=(bif Qd l.length then bif(↑l.length:Int)!=(33:Int)then some (D.bool false)else bif Qn l then bif List.all (List.drop (0:Nat) l) Q8 then some (D.bool true)else some (D.bool false)else none else none):=by kernel_rfl
theorem QA7 c l(h:(Qn l)=true):Qvi c l=some (.bool (Yu l)):=by
 rw[QA6];have hl:=(YT.1 h).1;have lk:=Qe hl;simp only[h,lk,Yu,ag,bG]
 by_cases e:l.length=33
 ·have e2:((l.length:Int)!=33)=false:=by simp[e]
  cases hm:l.all Q8<;>simp[e,hm]
 ·have e2:((l.length:Int)!=33)=true:=by simp[bne];omega
  simp[e,e2]
def MF:=ME.b8 93 QnY
theorem Qq5:Qk Tryz.prog cu MF:=Qq4.cQ Qb fun args d h=>by
 unfold QnY at h
 split at h
 ·obtain⟨h1,rfl⟩:=ak h;exact⟨by simp[D.refs],40,QA7 _ _ h1⟩
 ·cases h
structure QnZ where
 (c:Bool)(now:bK)(d:Bool)(sure:bK)(i:Nat)
def OW(c:Bool)(now:bK)(d:Bool)(sure:bK)(i:Nat):bX:=[(1,.ptr 0 []),(2,.int .i64 0),(3,.int .i64 (i:Int))]
def wE(c:Bool)(now:bK)(d:Bool)(sure:bK)(i:Nat):bP:=[.var 24 (cL .bR c now (cL .bR d sure .bN))]
def Qvj c now d sure i:=dQ cu MF 37 4 40 1 [1,2,3] [2] [.slot 1 0] (OW c now d sure i) (wE c now d sure i)
theorem QA8 c now d sure i:Qvj c now d sure i=(let Z0:Int:=(i:Int);let Z1:cb:=[some (Obj.var 24 (.bI (D.sl b9.bR c now) (.bI (D.sl b9.bR d sure) .bN)))];let Z2:Nat×bV:=(2,cj 0);b7 (Qd now.length) (bif decide (Z0<(now.length:Int))then b7 (dH Z0 (sure.length:Int)) (b7 (dH Z0 (now.length:Int)) (bif decide (cE.n (List.getD now Z0.toNat (cE.mk 0 []))<cE.n (List.getD sure Z0.toNat (cE.mk 0 [])))then some ((X.ret,[(2,cj 2)]),Z1)else some ((X.normal,[(1,D.ptr 0 []),Z2,(3,cj (c6 (Z0+1)))]),Z1)))else some ((X.exit 0,[Z2]),Z1))):=by kernel_rfl
def D4(c:Bool)(now:bK)(d:Bool)(sure:bK)(i:Nat):RT RC:=.br (qe now sure i) (.leaf (.exit 0) [(2,.int .i64 0)] (wE c now d sure i)) (.leaf .ret [(2,.int .i64 2)] (wE c now d sure i))
def D5(c:Bool)(now:bK)(d:Bool)(sure:bK)(i:Nat):Prop:=i<=now.length/\now.length<=9223372036854775807/\now.length=sure.length
def Kv:QD RC QnZ where
 k:=1
 cM q:=OW q.c q.now q.d q.sure q.i
 cK q:=wE q.c q.now q.d q.sure q.i
 fin q:=D4 q.c q.now q.d q.sure q.i
 Inv q:=D5 q.c q.now q.d q.sure q.i
 μ q:=q.now.length-q.i
theorem Ql9 c now d sure i(hI:D5 c now d sure i):c8 (Qvj c now d sure i) (dj Kv ⟨c,now,d,sure,i⟩):=by
 (rw[QA8];delta b7 dH cj c6;conv=>zeta)
 unfold D5 at hI;obtain⟨h1,h2,h3⟩:=hI;have th:Qd now.length=true:=Qe h2
 by_cases cU:i<now.length
 ·have cP:=eG i (by omega)
  have eu:=ga (show i<now.length by omega)
  have et:=fL (show i<now.length by omega)
  have dh:=bw i
  simp only[cP,eu,et,dh,ag];have So:i<sure.length:=by omega
  have sK:=fL (show i<sure.length by omega)
  simp only[sK,th,ag];have dV:=XD (now:=now) (sure:=sure) i cU (by omega) (⟨0,[]⟩:cE);generalize now.getD i (⟨0,[]⟩:cE)=x at dV ⊢;generalize sure.getD i (⟨0,[]⟩:cE)=y at dV ⊢;cases a1:decide (y.n<=x.n)
  ·have a2:decide (x.n<y.n)=true:=by simp at a1 ⊢;exact a1
   simp only[a2,ag];exact QW (wE c now d sure i) (by simp[Kv,D4,dV,a1,RT.val]) rfl
  ·have a2:decide (x.n<y.n)=false:=by simp at a1 ⊢;exact a1
   simp only[a2,ah];exact Qi ⟨c,now,d,sure,i+1⟩ ⟨cU,h2,h3⟩ (by simp only[Kv];omega) (by simp[Kv,D4,dV,a1];rfl) rfl rfl
 ·have hi:i=now.length:=by omega
  have c1:decide ((i:Int)<now.length)=false:=by simp;omega
  rw[th,c1];exact Qh (wE c now d sure i) (by simp[Kv,D4,hi,QjT,RT.val]) rfl
def Pu(env:bX)(os:bP):Option (Bool×QnZ):=match env,os with
 |[(1,.ptr 0 []),(2,.int .i64 0),(3,.int .i64 x0)],[.var 24 (.bI (.sl .bR c now) (.bI (.sl .bR d sure) .bN))]=>some (decide (x0=0)&&decide (now.length<=9223372036854775807/\now.length=sure.length),⟨c,now,d,sure,0⟩)
 |_,_=>none
def MG:=MF.cJ 37 4 (ey cu [.slot 1 0] [1,2,3] Kv Pu)
theorem Qq6:Qk Tryz.prog cu MG:=by
 refine Qq5.cq Qb (by kernel_rfl) Kv 40 [1,2,3] [2] [.slot 1 0] [1,2,3] Pu (fun q hI=>?_) ?_
 ·obtain⟨c,now,d,sure,i⟩:=q;refine⟨?_,?_,Ql9 c now d sure i hI⟩
  ·simp_all[Qj,Kv,OW,wE,D5,D.refs,Obj.refs,cV]
  ·simp_all[Kv,D4,wE,D5,RT.cT,Qj,D.refs,Obj.refs,cV]
 ·intro env os b q cN hb;unfold Pu at cN
  split at cN
  ·cases cN;simp only[ai,aa]at hb;obtain⟨rfl,hl⟩:=hb;exact⟨⟨aK _,hl⟩,rfl,rfl⟩
  ·cases cN
def QjW:bW->bO
 |[.bI (.sl .bR c now) (.bI (.sl .bR d sure) .bN)]=>some (Qn now&&Qn sure,.int .i64 (bif Ql now sure then 0 else 2))
 |_=>none
def Qn1(c:Bool)(now:bK)(d:Bool)(sure:bK):=eO cu MG 40 37 [.bI (.sl (C:=RC) .bR c now) (cL .bR d sure .bN)]
theorem Qvk c now d sure:Qn1 c now d sure=(let Z0:fI:=some (cj 2);b7 (Qn now) (bif !Yu now then Z0 else b7 (Qn sure) (bif !Yu sure then Z0 else b7 (decide (now.length<=9223372036854775807/\now.length=sure.length)) (bif qe now sure 0 then some (cj 0)else Z0)))):=by kernel_rfl
theorem Qvl c now d sure(h:(Qn now&&Qn sure)=true):Qn1 c now d sure=some (.int .i64 (bif Ql now sure then 0 else 2)):=by
 (rw[Qvk];delta b7 cj;conv=>zeta)
 rw[ai]at h;obtain⟨hg,o7⟩:=h;have hl:=(YT.1 hg).1;simp only[hg,o7,ag,Ql];cases h1:Yu now
 ·rfl
 cases h2:Yu sure
 ·rfl
 have l1:=DZ h1;have l2:=DZ h2;have e:decide (now.length<=9223372036854775807/\now.length=sure.length)=true:=by simp;omega
 cases h3:qe now sure 0<;>simp[e]
def MH:=MG.b8 37 QjW
theorem Qq7:Qk Tryz.prog cu MH:=Qq6.cQ Qb fun args d h=>by
 unfold QjW at h
 split at h
 ·obtain⟨h1,rfl⟩:=ak h;exact⟨by simp[D.refs],40,Qvl _ _ _ _ h1⟩
 ·cases h
def Qn2:bW->bO
 |[.bI (.sl .bR c now) (.bI (.sl .bR d sure) .bN),.int .i64 k,.int .i64 n,.str b]=>some (Qn now&&Qn sure&&Qd b.length,.cG (.bI (cL .bR (!QH now sure k n b) (eD now sure k n b) (cL .bR (!QH now sure k n b) (Zj now sure k n b) .bN)) (cH (bif QH now sure k n b then 0 else 2) .bN)))
 |_=>none
def Qvn(c:Bool)(now:bK)(d:Bool)(sure:bK)(k n:Int)(b:bL):=eO cu MH 40 48 [.bI (.sl (C:=RC) .bR c now) (cL .bR d sure .bN),.int .i64 k,.int .i64 n,.str b]
theorem QA9 c now d sure k n b:Qvn c now d sure k n b=(let Z0:bV:=D.sl b9.bR true [];let Z1:fI:=some (D.cG (D.bI (D.bI Z0 (D.bI Z0 .bN)) (.bI (cj 2) .bN)));let Z2:Nat:=(0:Nat)+now.length;let Z3:Nat:=(0:Nat)+sure.length;let Z4:bK:=List.replicate 0 (cE.mk 0 []);let Z5:=List.length (Z4++now);let Z6:=Nat.beq Z2 Z5;let Z7:Bool:=Z6&&dH k (Z5:Int);let Z8:bK:=List.set (Z4++now) k.toNat (cE.mk n b);let Z9:=Nat.beq Z3 (Z4++sure).length;let db:bV:=D.bI (D.sl b9.bR false (Z4++sure)) .bN;let dB:bV:=D.bI (cj 0) .bN;let eo:fI:=none;bif Qn now&&Qn sure then bif (bif Ql now sure then (0:Int)else (2:Int))!=0 then Z1 else bif decide (k<0)then Z1 else bif decide ((33:Int)<=k)then Z1 else bif decide (n<1)then Z1 else bif decide ((1048575:Int)<n)then Z1 else bif b==Array.toList #[]then Z1 else bif Qd b.length then bif decide ((640:Int)<(b.length:Int))then Z1 else bif Qg Z2 24 then bif Qg Z3 24 then bif Z7 then bif Z6 then bif Z6 then bif decide (cE.n (List.getD (Z4++now) k.toNat (cE.mk 0 []))<n)then bif Z7 then bif Z6 then bif Nat.beq Z2 Z8.length then bif Z9 then some (D.cG (D.bI (D.bI (D.sl b9.bR false Z8) db) dB))else eo else eo else eo else eo else bif Z6 then bif Z9 then some (D.cG (D.bI (D.bI (D.sl b9.bR false (Z4++now)) db) dB))else eo else eo else eo else eo else eo else eo else eo else eo else eo):=by kernel_rfl
theorem QBa c now d sure k n b(h:(Qn now&&Qn sure&&Qd b.length)=true):Qvn c now d sure k n b=some (.cG (.bI (cL .bR (!QH now sure k n b) (eD now sure k n b) (cL .bR (!QH now sure k n b) (Zj now sure k n b) .bN)) (cH (bif QH now sure k n b then 0 else 2) .bN))):=by
 (rw[QA9];delta dH cj;conv=>zeta)
 simp only[ai]at h;obtain⟨⟨hg,o7⟩,hb⟩:=h;have yV:(Qn now&&Qn sure)=true:=by rw[hg,o7];rfl
 have no:QH now sure k n b=false->some (D.cG (.bI (cL .bR true [] (cL .bR true [] .bN)) (cH 2 .bN)))=some (.cG (.bI (cL .bR (!QH now sure k n b) (eD now sure k n b) (cL .bR (!QH now sure k n b) (Zj now sure k n b) .bN)) (cH (bif QH now sure k n b then 0 else 2) .bN))):=fun e=>by simp only[e,eD,Zj];rfl
 refine Qa yV ?_;cases hd:Ql now sure
 ·exact Qa rfl (no (Q5 fun f=>by rw[hd]at f;cases f.1))
 obtain⟨l1,l2⟩:=Zg hd;refine Qq rfl (Qw (fun e=>no (Q5 fun f=>by simp only[aa]at e;omega)) fun e1=>?_);refine(Qw (fun e=>no (Q5 fun f=>by simp only[aa]at e;omega)) fun e2=>?_);refine(Qw (fun e=>no (Q5 fun f=>by simp only[aa]at e;omega)) fun e3=>?_);have mf:Q8 ⟨n,b⟩=true->n<=1048575/\b.length<=640:=fun e=>by simp only[Q8,ai,aa]at e;exact⟨e.1.1.2,e.1.2⟩
 refine(Qw (fun e=>no (Q5 fun f=>by have:=mf f.2.2.2.2.2;simp only[aa]at e;omega)) fun e4=>?_);refine(Qw (fun e=>no (Q5 fun f=>f.2.2.2.2.1 (by simpa using e))) fun e5=>?_);refine Qa hb ?_;refine(Qw (fun e=>no (Q5 fun f=>by have:=mf f.2.2.2.2.2;simp only[aa]at e;omega)) fun e6=>?_);simp only[ae]at e1 e2 e3 e4 e6
 have ok:QH now sure k n b=true:=by
  have d1:0<n:=by omega
  simp only[QH,hd,Q8,Bool.true_and,ai,aa,d1,aM,Bool.true_or];exact⟨⟨⟨⟨by omega,by omega⟩,by omega⟩,by simpa using e5⟩,⟨⟨by omega,by omega⟩,by omega⟩,trivial⟩
 rw[ok];have r0:∀l:bK,List.replicate 0 (⟨0,[]⟩:cE)++l=l:=fun l=>rfl;have eb:∀n:Nat,n.beq n=true:=fun n=>by simp
 have s1:Qg now.length 24=true:=by simp[Qg];omega
 have s2:Qg sure.length 24=true:=by simp[Qg];omega
 have dk:decide (0<=k/\k<(now.length:Int))=true:=by simp;omega
 simp only[eD,Zj,ok,ag,bg,r0,aN,bf,eb,s1,s2,dk,au];refine Qw (fun e=>?_) fun e=>?_<;>simp only[aa,ae]at e
 ·have pn:KR now k.toNat n b=now.set k.toNat ⟨n,b⟩:=ax e;rw[pn]
 ·have pn:KR now k.toNat n b=now:=aw e;rw[pn]
def MI:=MH.b8 48 Qn2
theorem Qq8:Qk Tryz.prog cu MI:=Qq7.cQ Qb fun args d h=>by
 unfold Qn2 at h
 split at h
 ·obtain⟨h1,rfl⟩:=ak h;exact⟨by simp[D.refs],40,QBa _ _ _ _ _ _ _ h1⟩
 ·cases h
structure XE where
 (lost:Int)(now sure:bK)(i:Nat)
def jD(lost:Int)(now sure:bK)(i:Nat):bX:=[(1,.int .u64 lost),(6,.ptr 0 []),(7,.int .i64 (i:Int))]
def gW(lost:Int)(now sure:bK)(i:Nat):bP:=[.var 24 (.bI (.vs 1 (now.length)) (.bI (.vs 2 (sure.length)) .bN)),.vec (C:=RC) .bR true now,.vec (C:=RC) .bR true sure]
def QjX lost now sure i:=dQ cu MI 32 5 40 3 [1,6,7] [] [.slot 6 0,.path 0 [0],.path 0 [1]] (jD lost now sure i) (gW lost now sure i)
theorem Qq9 lost now sure i:QjX lost now sure i=(let Z0:Int:=(i:Int);let Z1:=sure.length;let Z2:=Nat.beq Z1 Z1;let Z3:Bool:=Z2&&dH Z0 (Z1:Int);let Z4:=now.length;let Z5:=Nat.beq Z4 Z4;let Z6:Bool:=Z5&&dH Z0 (Z4:Int);let Z7:X×bX:=(X.normal,[(1,D.int IntKind.u64 lost),(6,D.ptr 0 []),(7,cj (c6 (Z0+1)))]);let Z8:cf:=some (Obj.var 24 (.bI (D.vs 1 Z4) (.bI (D.vs 2 Z1) .bN)));let Z9:=Int.toNat Z0;let db:cE:=List.getD sure Z9 (cE.mk 0 []);let dB:cE:=List.getD now Z9 (cE.mk 0 []);bif decide (Z0<33)then bif bits IntKind.u64 (fun(x:Nat) (u v:BitVec x)=>u&&&v) (Int.fdiv lost ((2:Int)^min (IntKind.wrap IntKind.u64 Z0).toNat 64)) 1==1 then b7 Z3 (b7 Z2 (b7 Z6 (b7 Z5 (some (Z7,[Z8,some (Obj.vec b9.bR true (List.set now Z9 (cE.mk (cE.n db) (cE.b db)))),some (Obj.vec b9.bR true sure)])))))else b7 Z6 (b7 Z5 (b7 Z3 (b7 Z2 (some (Z7,[Z8,some (Obj.vec b9.bR true now),some (Obj.vec b9.bR true (List.set sure Z9 (cE.mk (cE.n dB) (cE.b dB))))])))))else some ((X.exit 0,[]),[Z8,some (Obj.vec b9.bR true now),some (Obj.vec b9.bR true sure)])):=by kernel_rfl
def Jf(lost:Int)(now sure:bK)(i:Nat):RT RC:=.leaf (.exit 0) [] [.var 24 (.bI (.vs 1 (dK lost (33-i) i now sure).1.length) (.bI (.vs 2 (dK lost (33-i) i now sure).2.length) .bN)),.vec (C:=RC) .bR true (dK lost (33-i) i now sure).1,.vec (C:=RC) .bR true (dK lost (33-i) i now sure).2]
def Jg(lost:Int)(now sure:bK)(i:Nat):Prop:=i<=33/\now.length=33/\sure.length=33
def eS:QD RC XE where
 k:=3
 cM q:=jD q.lost q.now q.sure q.i
 cK q:=gW q.lost q.now q.sure q.i
 fin q:=Jf q.lost q.now q.sure q.i
 Inv q:=Jg q.lost q.now q.sure q.i
 μ q:=33-q.i
theorem Qh7 lost now sure i(hI:Jg lost now sure i):c8 (QjX lost now sure i) (dj eS ⟨lost,now,sure,i⟩):=by
 (rw[Qq9];delta b7 dH cj c6;conv=>zeta)
 unfold Jg at hI;obtain⟨h1,h2,h3⟩:=hI;have eb:∀n:Nat,n.beq n=true:=fun n=>by simp
 by_cases cU:(i:Int)<33
 ·have cP:=eG i (by omega)
  have d1:decide ((i:Int)<33)=true:=by simp;omega
  have d2:=fL (show i<now.length by omega)
  have d3:=fL (show i<sure.length by omega)
  have dh:=bw i
  have hs:33-i=(33-(i+1))+1:=by omega
  simp only[d1,d2,d3,eb,cP,dh,au,ag];refine ZO.2 ⟨fun hb=>?_,fun hb=>?_⟩
  ·have iW:CP lost i=true:=hb;refine Qi ⟨lost,now.set i (sure.getD i cW),sure,i+1⟩ (by refine⟨by show i+1<=33;omega,?_,h3⟩;rw[bf];exact h2) (by simp only[eS];omega) ?_ (by simp[eS,jD]) (by simp[eS,gW,cW]);simp only[eS,Jf,hs,dK,iW,aU]
  ·have iW:CP lost i=false:=hb;refine Qi ⟨lost,now,sure.set i (now.getD i cW),i+1⟩ (by refine⟨by show i+1<=33;omega,h2,?_⟩;rw[bf];exact h3) (by simp only[eS];omega) ?_ (by simp[eS,jD]) (by simp[eS,gW,cW]);simp only[eS,Jf,hs,dK,iW,bu,aL]
 ·have hi:i=33:=by omega
  have d1:decide ((i:Int)<33)=false:=by simp;omega
  rw[d1];exact Qh (gW lost now sure i) (by simp[eS,Jf,gW,hi,dK,RT.val]) rfl
def NL(env:bX)(os:bP):Option (Bool×XE):=match env,os with
 |[(1,.int .u64 lost),(6,.ptr 0 []),(7,.int .i64 x0)],[.var 24 (.bI (.vs 1 x1) (.bI (.vs 2 x2) .bN)),.vec .bR true now,.vec .bR true sure]=>some (decide (x0=0)&&decide (x1=now.length)&&decide (x2=sure.length)&&decide (now.length=33/\sure.length=33),⟨lost,now,sure,0⟩)
 |_,_=>none
def MJ:=MI.cJ 32 5 (ey cu [.slot 6 0,.path 0 [0],.path 0 [1]] [1,6,7] eS NL)
theorem Qra:Qk Tryz.prog cu MJ:=by
 refine Qq8.cq Qb (by kernel_rfl) eS 40 [1,6,7] [] [.slot 6 0,.path 0 [0],.path 0 [1]] [1,6,7] NL (fun q hI=>?_) ?_
 ·obtain⟨lost,now,sure,i⟩:=q;refine⟨?_,?_,Qh7 lost now sure i hI⟩
  ·simp_all[Qj,eS,jD,gW,Jg,D.refs,Obj.refs,cV]
  ·simp_all[eS,Jf,gW,Jg,RT.cT,Qj,D.refs,Obj.refs,cV]
 ·intro env os b q cN hb;unfold NL at cN
  split at cN
  ·cases cN;simp only[ai,aa]at hb;obtain⟨⟨⟨rfl,rfl⟩,rfl⟩,hl⟩:=hb;exact⟨⟨aK _,hl⟩,rfl,rfl⟩
  ·cases cN
def XF:bW->bO
 |[.bI (.sl .bR c now) (.bI (.sl .bR d sure) .bN),.int .u64 lost]=>some (Qn now&&Qn sure,.cG (.bI (cL .bR (!Ql now sure) (bif Ql now sure then(dK lost 33 0 now sure).1 else[]) (cL .bR (!Ql now sure) (bif Ql now sure then(dK lost 33 0 now sure).2 else[]) .bN)) (cH (bif Ql now sure then 0 else 2) .bN)))
 |_=>none
def QjZ(c:Bool)(now:bK)(d:Bool)(sure:bK)(lost:Int):=eO cu MJ 40 32 [.bI (.sl (C:=RC) .bR c now) (cL .bR d sure .bN),.int .u64 lost]
theorem Qrb c now d sure lost:QjZ c now d sure lost=(let Z0:bV:=D.sl b9.bR true [];let Z1:Nat:=(0:Nat)+now.length;let Z2:Nat:=(0:Nat)+sure.length;let Z3:bK:=List.replicate 0 (cE.mk 0 []);let Z4:=List.length (Z3++now);let Z5:=List.length (Z3++sure);let Z6:bK×bK:=dK lost 33 0 (Z3++now) (Z3++sure);let Z7:=List.length Z6.1;let Z8:=List.length Z6.2;b7 (Qn now&&Qn sure) (bif (bif Ql now sure then (0:Int)else (2:Int))!=0 then some (D.cG (D.bI (D.bI Z0 (D.bI Z0 .bN)) (.bI (cj 2) .bN)))else b7 (Qg Z1 24) (b7 (Qg Z2 24) (b7 (decide (Z1=Z4)&&decide (Z2=Z5)&&decide (Z4=33/\Z5=33)) (b7 (Nat.beq Z7 Z7) (b7 (Nat.beq Z8 Z8) (some (D.cG (D.bI (D.bI (D.sl b9.bR false Z6.1) (.bI (D.sl b9.bR false Z6.2) .bN)) (.bI (cj 0) .bN)))))))))):=by kernel_rfl
theorem Qrc c now d sure lost(h:(Qn now&&Qn sure)=true):QjZ c now d sure lost=some (.cG (.bI (cL .bR (!Ql now sure) (bif Ql now sure then(dK lost 33 0 now sure).1 else[]) (cL .bR (!Ql now sure) (bif Ql now sure then(dK lost 33 0 now sure).2 else[]) .bN)) (cH (bif Ql now sure then 0 else 2) .bN))):=by
 (rw[Qrb];delta b7 cj;conv=>zeta)
 have yV:=h;rw[ai]at h;obtain⟨hg,o7⟩:=h;refine Qa yV ?_;cases hd:Ql now sure
 ·exact Qa rfl rfl
 obtain⟨l1,l2⟩:=Zg hd;have r0:∀l:bK,List.replicate 0 (⟨0,[]⟩:cE)++l=l:=fun l=>rfl;have eb:∀n:Nat,n.beq n=true:=fun n=>by simp
 have s1:Qg now.length 24=true:=by simp[Qg];omega
 have s2:Qg sure.length 24=true:=by simp[Qg];omega
 have d3:decide (now.length=33/\sure.length=33)=true:=ab ⟨l1,l2⟩;refine Qq rfl ?_;simp only[r0,eb,s1,s2,d3,aN,aM,au,ag,bg]
def MK:=MJ.b8 32 XF
theorem Qrd:Qk Tryz.prog cu MK:=Qra.cQ Qb fun args d h=>by
 unfold XF at h
 split at h
 ·obtain⟨h1,rfl⟩:=ak h;exact⟨by simp[D.refs],40,Qrc _ _ _ _ _ h1⟩
 ·cases h
theorem Qvo{b:bL}{r:Rec}(h:Yb b=some r):dW r=true:=by
 unfold Yb at h
 split at h
 ·rename_i q;cases h;exact q.2.2.2
 ·cases h
theorem Qj0{b:bL}{s:St}(h:Zc b=some s):Qu s=true:=by
 rw[Oy]at h
 split at h
 ·split at h
  ·rename_i q;cases h;exact q.2
  ·cases h
 ·cases h
theorem YU{w:Nat}{n:Int}(l:bL)(h:QL n w=true):jz w (fC n w++l)=some (n,l):=by
 rw[Yn]at h;have e:=Qs w n;unfold jz;rw[ax (by simp;omega),List.take_left' e,List.drop_left' e,K9 w n h.1 h.2]
theorem XG:∀(l:bM) (r:bL),l.all lO=true->wF l.length (l.flatMap Yo++r)=some (l,r)
 |[],r,_=>rfl
 |x::l,r,h=>by
  simp only[List.all_cons,ai]at h;have hx:=h.1;simp only[lO,ai]at hx;simp only[aE,wF,List.flatMap_cons,Yo,ay];rw[YU _ (KS hx.1.1)];simp only[Option.bind_some];rw[YU _ (Vv hx.1.2)];simp only[Option.bind_some];rw[YU _ (KS hx.2)];simp only[Option.bind_some];rw[XG l r h.2];rfl
def tR:Int->bJ->Prop
 |_,[]=>True
 |o,x::l=>x.offset=o/\tR (o+1) l
theorem XH:∀(l:bJ) (o:Int) (r:bL),l.all Y6=true->tR o l->CB l.length o (l.flatMap Zz++r)=some (l,r)
 |[],o,r,_,_=>rfl
 |x::l,o,r,h,ho=>by
  simp only[List.all_cons,ai]at h;have hx:=h.1;simp only[Y6,ai]at hx;obtain⟨⟨⟨x1,x2⟩,x3⟩,x4⟩:=hx;have hf:Qm (x.key*16+x.j) 0 255=true:=by rw[Qf]at x2 x3 ⊢;omega
  simp only[aE,CB,List.flatMap_cons,Zz,ay];rw[YU _ (Vv x1)];simp only[Option.bind_some];rw[YU _ (KS hf)];simp only[Option.bind_some];rw[YU _ (KS x4)];simp only[Option.bind_some];rw[XH l (o+1) r h.2 ho.2];rw[Qf]at x2 x3;have e1:(x.key*16+x.j)%16=x.j:=by omega
  have e2:(x.key*16+x.j)/16=x.key:=by omega
  simp only[Option.bind_some,e1,e2,<-ho.1]
theorem NM{c:Int}{l:bJ}(r:bL)(hc:0<=c/\c<=1048575)(hl:l.length<=16)(ha:l.all Y6=true)(hf:0<=QA l/\QA l<=4194303)(ho:tR (QA l) l):rC (Qx c l++r)=some ((c,l),r):=by
 simp only[rC,Qx,ay];rw[YU _ (Vv (by rw[Qf];omega))];simp only[Option.bind_some];rw[YU _ (KS (by rw[Qf];omega))];simp only[Option.bind_some];rw[YU _ (Vv (by rw[Qf];omega))];simp only[Option.bind_some];rw[aw]
 ·rw[bw,XH l _ r ha ho];rfl
 ·rintro ⟨h1,h2⟩
  have:l=[]:=List.length_eq_zero_iff.1 (by omega);subst this;simp[QA]at h2
theorem XI{p:Int}:∀(l:bJ) (o:Int),(∀x∈l.head?,x.offset=o)->pO (YN p) YA none l=true->tR o l
 |[],_,_,_=>trivial
 |[x],o,h,_=>⟨h x (by simp),trivial⟩
 |x::y::l,o,h,he=>by
  simp only[pO,ai]at he;have hx:=h x (by simp);refine⟨hx,XI (y::l) (o+1) ?_ (by simp only[pO,ai];exact⟨⟨he.2.1.1,trivial⟩,he.2.2⟩)⟩;have h1:=he.1.1;have h2:=he.2.1.2;simp only[YN,ai,Qf]at h1;simp only[YA,ai,bi]at h2;intro z hz;simp only[List.head?_cons,Option.mem_def,aD]at hz;subst hz;rw[h2.1,cC (by omega) (by omega),hx]
theorem Oe{p c:Int}{l:bJ}(h:ZW p c l=true):tR (QA l) l:=by
 simp only[ZW,ai]at h;refine XI (p:=p) l _ ?_ h.2;cases l with
 |nil=>intro x hx;cases hx
 |cons y l=>intro x hx;simp only[List.head?_cons,Option.mem_def,aD]at hx;subst hx;rfl
theorem Qvp{s:St}(h:Qu s=true):Zc (YB s)=some s:=by
 obtain⟨p,it,l0,l1,l2,c0,c1,c2⟩:=s;obtain⟨hp,hn,hi,h0,h1,h2⟩:=YI h;have hh:=h;simp only[Qu,ai]at hh;have o0:=Oe hh.1.1.2;have o1:=Oe hh.1.2;have o2:=Oe hh.2
 have e:yb (YB ⟨p,it,l0,l1,l2,c0,c1,c2⟩)=some (⟨p,it,l0,l1,l2,c0,c1,c2⟩,[]):=by
  simp only[yb,YB,ay];rw[YU _ (Vv (by rw[Qf];omega))];simp only[Option.bind_some];rw[YU _ (KS (by rw[Qf];omega))];simp only[Option.bind_some];rw[bw,XG it _ hi];simp only[Option.bind_some];rw[NM _ h0.1 h0.2.1 h0.2.2.1 h0.2.2.2 o0];simp only[Option.bind_some];rw[NM _ h1.1 h1.2.1 h1.2.2.1 h1.2.2.2 o1];simp only[Option.bind_some];rw[<-aR (Qx c2 l2),NM _ h2.1 h2.2.1 h2.2.2.1 h2.2.2.2 o2];rfl
 rw[Oy,e];simp[h]
theorem Qj1:∀(l:ca),l.all sN=true->JV l.length (l.flatMap Js)=l
 |[],_=>rfl
 |w::l,h=>by
  simp only[List.all_cons,ai]at h;have hw:=h.1;simp only[sN,ai]at hw;simp[JV,Js,Nw hw.1,Nw hw.2,Qj1 l h.2]
theorem Qvq{r:Rec}(h:dW r=true):Yb (VL r)=some r:=by
 obtain⟨p,y,l⟩:=r;obtain⟨hp,hl,hw⟩:=Vw h;have e0:VL ⟨p,y,l⟩=QI p::QI (p.fdiv 256)::QI ((p.fdiv 256).fdiv 256)::QI (bif y then 1 else 0)::QI l.length::l.flatMap Js:=by simp[VL,tJ,jT]
 have e1:(cI [QI p,QI (p.fdiv 256),QI ((p.fdiv 256).fdiv 256)]:Int)=p:=K9 3 p (by omega) (by omega);have e2:((QI (l.length:Int)).toNat:Int)=l.length:=Nw (by rw[Qf];omega);have e3:(QI (l.length:Int)).toNat=l.length:=by omega
 have e4:(QI (bif y then 1 else 0)).toNat=bif y then 1 else 0:=by cases y<;>decide
 have e5:((bif y then 1 else 0)==1)=y:=by cases y<;>rfl
 have e6:(bif y then 1 else 0)<=1:=by cases y<;>decide
 have e7:(l.flatMap Js).length=2*l.length:=Zi l Js 2 Qgn;rw[e0,Yb];have t3:∀(a b c d e:UInt8) (t:bL),(a::b::c::d::e::t).take 3=[a,b,c]:=fun _ _ _ _ _ _=>rfl;have d5:∀(a b c d e:UInt8) (t:bL),(a::b::c::d::e::t).drop 5=t:=fun _ _ _ _ _ _=>rfl;have g3:∀(a b c d e:UInt8) (t:bL),(a::b::c::d::e::t).getD 3 0=d:=fun _ _ _ _ _ _=>rfl;have g4:∀(a b c d e:UInt8) (t:bL),(a::b::c::d::e::t).getD 4 0=e:=fun _ _ _ _ _ _=>rfl;simp only[t3,d5,g3,g4,e1,e3,e4,e5,Qj1 l hw,h,aE,e7];rw[ax ⟨by omega,e6,by omega,trivial⟩]
theorem XJ{r:Rec}(h:dW r=true):(VL r).length<=13:=by
 obtain⟨p,y,l⟩:=r;obtain⟨hp,hl,hw⟩:=Vw h;simp only[VL,aC,Qs,Zi l Js 2 Qgn];omega
theorem Qh8(c:Int)(l:bJ):(Qx c l).length=7+5*l.length:=by
 simp only[Qx,aC,Qs,Zi l Zz 5 YH]
theorem Kw{s:St}(h:Qu s=true):(YB s).length<=385:=by
 obtain⟨p,it,l0,l1,l2,c0,c1,c2⟩:=s;obtain⟨hp,hn,hi,h0,h1,h2⟩:=YI h;simp only[YB,aC,Qs,Zi it Yo 5 HI,Qh8];omega
def xf(b:bL):Int:=((pi b).getD (0,[])).1
def xe(b:bL):bL:=((pi b).getD (0,[])).2
theorem Qvr{b:bL}{a w:Int}(h1:1<=w)(h2:w<=6)(h3:0<=a)(h4:a+w<=b.length):dT b a w=((cI ((b.drop a.toNat).take w.toNat):Int),0):=by simp[dT,h1,h2,h3,h4]
theorem QBb{b:bL}{a w:Int}(h1:1<=w)(h2:w<=6)(h4:b.length<a+w):dT b a w=(0,50):=by
 have:¬a+w<=(b.length:Int):=by omega
 simp[dT,h1,h2,this]
theorem xQ{n:Int}{l:bL}(h:¬(1<=n/\n<=1048575/\l.length<=600)):okF n l=false:=by
 cases e:okF n l
 ·rfl
 ·simp only[okF,ai,aa]at e;exact absurd ⟨e.1.1,e.1.2,e.2⟩ h
def p7(s:cE):fG:=(pi s.b).bind fun p=>if p.1=s.n then some p.2 else none
theorem Qj2{n:Int}{l:bL}(h:okF n l=true):p7 ⟨n,YJ n l⟩=some l:=by
 simp[p7,Ql5 h]
def lg(s:cE):Option St:=(p7 s).bind fun l=>(Zc l).bind fun st=>if st.place<=s.n then some st else none
def kg(now sure:bK):Int:=bif JG now sure 32 then(bif(ja now sure 32).n==0 then 60 else bif(lg (ja now sure 32)).isNone then 50 else 0)else 2
def ef(now sure:bK):Option St:=bif JG now sure 32 then(bif(ja now sure 32).n==0 then none else lg (ja now sure 32))else none
def jH(now sure:bK):Int:=bif(ef now sure).isNone then 0 else(ja now sure 32).n
def fF(n:Int)(s:St):Bool:=decide (1<=n)&&decide (n<=1048575)&&decide (s.place<=n)&&Qu s
def eN(n:Int)(s:St):bL:=bif fF n s then YJ n (YB s)else[]
theorem P3{n:Int}{s:St}(h:fF n s=true):okF n (YB s)=true:=by
 simp only[fF,ai,aa]at h;have:=Kw h.2;simp only[okF,ai,aa];omega
theorem Pv{n:Int}{s:St}:(eN n s).length<=397:=by
 unfold eN;cases h:fF n s
 ·simp
 ·simp only[fF,ai,aa]at h;have:=Kw h.2;simp only[ag,VV];omega
theorem QHV{n:Int}{s:St}(h:fF n s=true):eN n s≠[]:=by
 intro e;have:=ap List.length e;simp[eN,h,VV]at this
theorem QFR{n:Int}{s:St}(h:fF n s=true):lg ⟨n,eN n s⟩=some s:=by
 have hF:=P3 h;simp only[fF,ai,aa]at h;have e:fF n s=true:=by simp only[fF,ai,aa];exact h
 simp only[lg,eN,e,ag,Qj2 hF,Option.bind_some,Qvp h.2,ax h.1.2]
theorem QBc(now sure:bK)(k:Int):(ja now sure k).b.length<=640:=by
 unfold ja;cases h:JG now sure k
 ·simp[cW]
 ·have l:=h;simp only[JG,ai,aa,Ql,Yu]at l;have hm:k.toNat<now.length:=by omega
  have e:now.getD k.toNat cW=now[k.toNat]:=by simp[hm]
  have m:=aX.1 l.1.1.1.2 _ (bA hm);simp only[Q8,ai,aa]at m;rw[ag,e];exact m.1.2
theorem Jv{n:Int}{s:St}(h:¬(1<=n/\n<=1048575/\s.place<=n/\Qu s=true)):fF n s=false:=by
 cases e:fF n s
 ·rfl
 ·simp only[fF,ai,aa]at e;exact absurd ⟨e.1.1.1,e.1.1.2,e.1.2,e.2⟩ h
theorem Qvt s:((p7 s).getD []).length<=s.b.length:=by
 unfold p7;cases h:pi s.b with
 |none=>simp
 |some p=>
  obtain⟨n,l⟩:=p;have h2:=ap List.length (QAP h).2;rw[VV]at h2
  by_cases e:n=s.n
  ·simp[e];omega
  ·simp[e]
open Go.Proofs
def Qj3:bW->bO
 |[.int .i64 n]=>some (decide (n<=1000000),.int .i64 (bif decide (n<0)||decide (600<n)then 0 else n+12))
 |_=>none
def Qn4(n:Int):=eO cu MK 40 204 [.int .i64 n]
theorem Qvu n:Qn4 n=(let Z0:fI:=some (cj 0);bif decide (n<(0:Int))then Z0 else bif decide ((600:Int)<n)then Z0 else some (cj (c6 (c6 ((8:Int)+n)+(4:Int))))):=by kernel_rfl
theorem Qvv n(h:(decide (n<=1000000))=true):Qn4 n=some (.int .i64 (bif decide (n<0)||decide (600<n)then 0 else n+12)):=by
 (rw[Qvu];delta cj c6;conv=>zeta)
 have hl:=af h
 by_cases h0:n<0
 ·simp[h0]
 by_cases h6:600<n
 ·simp[h0,h6]
 have w1:IntKind.i64.wrap (8+n)=8+n:=cC (by omega) (by omega);have w2:IntKind.i64.wrap (8+n+4)=8+n+4:=cC (by omega) (by omega);simp[h0,h6,w1,w2];omega
def Bm:=MK.b8 204 Qj3
theorem Qvw:Qk Tryz.prog cu Bm:=Qrd.cQ Qb fun args d h=>by
 unfold Qj3 at h
 split at h
 ·obtain⟨h1,rfl⟩:=ak h;exact⟨by simp[D.refs],40,Qvv _ h1⟩
 ·cases h
def XK:bW->bO
 |[.int .i64 n,.str b]=>some (decide (b.length<=1000000),.cG (.bI (.str (bif okF n b then YJ n b else[])) (cH (bif okF n b then 0 else 2) .bN)))
 |_=>none
def Qj5(n:Int)(b:bL):=eO cu Bm 60 189 [.int .i64 n,.str b]
theorem Qre n b:Qj5 n b=(let Z0:fI:=some (D.cG (D.bI (D.str (Array.toList #[])) (.bI (D.int .i64 2) .bN)));let Z1:=b.length;let Z2:Int:=(Z1:Int);let Z3:Nat:=(0:Nat)+List.length (dy [] n 6);let Z4:=List.length ([]++dy [] n 6);let Z5:=List.length (dy [] Z2 2);let Z6:bL:=[]++dy [] n 6++dy [] Z2 2;let Z7:=List.length (Z6++b);let Z8:fI:=none;bif(bif QL n 6then(0:Int)else(2:Int))!=0then Z0 else bif decide (n<1)then Z0 else bif decide ((1048575:Int)<n)then Z0 else bif Qd Z1 then bif decide (Z2<=1000000)then bif(bif decide (Z2<0)||decide ((600:Int)<Z2)then(0:Int)else Z2+12)==0then Z0 else bif Qd Z1 then bif Qg Z1 1then bif Qg Z3 1then bif Nat.beq Z3 Z4&&Qg (Z3+Z5) 1then bif Nat.beq (Z4+Z5) Z6.length&&Qg (Z4+Z5+Z1) 1then bif Nat.beq (Z6.length+Z1) Z7 then bif decide (Z7<=1000000)then some (D.cG (D.bI (D.str (Va (Z6++b))) (.bI (D.int .i64 0) .bN)))else Z8 else Z8 else Z8 else Z8 else Z8 else Z8 else Z8 else Z8 else Z8):=by kernel_rfl
theorem Qrf n b(h:(decide (b.length<=1000000))=true):Qj5 n b=some (.cG (.bI (.str (bif okF n b then YJ n b else[])) (cH (bif okF n b then 0 else 2) .bN))):=by
 (rw[Qre];conv=>zeta)
 have hl:=af h;have lb:Qd b.length=true:=Qe (by omega);have ld:decide ((b.length:Int)<=1000000)=true:=by simp;omega
 have no:okF n b=false->some (D.cG (.bI (.str []) (cH 2 .bN)))=some (.cG (.bI (.str (bif okF n b then YJ n b else[])) (cH (bif okF n b then 0 else 2) .bN)):bV):=fun e=>by rw[e];rfl
 refine Qw (fun e=>no (xQ fun f=>by rw[show QL n 6=true by rw[Yn];omega]at e;cases e)) fun e0=>?_;refine Qw (fun e=>no (xQ fun f=>by simp only[aa]at e;omega)) fun e1=>?_;refine Qw (fun e=>no (xQ fun f=>by simp only[aa]at e;omega)) fun e2=>?_;refine Qa lb (Qa ld ?_);simp only[ae]at e1 e2
 by_cases h6:600<(b.length:Int)
 ·refine Qa ?_ (no (xQ fun f=>by omega));simp[h6]
 refine Qq ?_ ?_
 ·have:¬(b.length:Int)<0:=by omega
  simp[this,h6];omega
 have ok:okF n b=true:=by simp only[okF,ai,aa];omega
 have f6:QL n 6=true:=by rw[Yn];omega
 have f2:QL (b.length:Int) 2=true:=by rw[Yn];omega
 have p6:dy [] n 6=fC n 6:=(QZ f6).trans (aH _);have p2:dy [] (b.length:Int) 2=fC b.length 2:=(QZ f2).trans (aH _);simp only[p6,p2,aH,Qs,aC,aN];have hb6:b.length<=600:=by omega
 have es:∀k:Nat,k<=700->Qg k 1=true:=fun k hk=>Zt (by omega);have eb:∀n:Nat,n.beq n=true:=fun n=>by simp
 have ed:decide (6+2+b.length<=1000000)=true:=by simp;omega
 simp(disch:=omega) only[es,eb,lb,ed,au,ag];rw[ok];rfl
def Bn:=Bm.b8 189 XK
theorem Qvx:Qk Tryz.prog cu Bn:=Qvw.cQ Qb fun args d h=>by
 unfold XK at h
 split at h
 ·obtain⟨h1,rfl⟩:=ak h;exact⟨by simp[D.refs],60,Qrf _ _ h1⟩
 ·cases h
def Qj6:bW->bO
 |[.str b]=>some (decide (b.length<=1000000),.cG (cH (xf b) (.bI (.str (xe b)) (cH (bif(pi b).isNone then 50 else 0) .bN))))
 |_=>none
def Qn6(b:bL):=eO cu Bn 60 144 [.str b]
theorem Qvy b:Qn6 b=(let Z0:bL:=(fun(l:bL)=>l) b;let Z1:=Option.getD (Yi Z0) [];let Z2:=Z1.length;let Z3:Bool:=decide (Z2<=1000000000000);let Z4:bV:=cj 0;let Z5:fI:=some (D.cG (D.bI Z4 (D.bI (D.str (Array.toList #[])) (.bI (cj 50) .bN))));let Z6:Int×Int:=dT Z1 6 2;let Z7:Int:=(Z2:Int);let Z8:=Prod.fst (dT Z1 0 6);b7 (Qg b.length 1) (b7 (decide (Z0.length<=1000000)) (b7 Z3 (b7 Z3 (bif (bif Option.isNone (Yi Z0)then (50:Int)else (0:Int))!=0 then Z5 else bif Z6.2 !=0 then Z5 else b7 (Qd Z2) (bif bif Z6.1 !=c6 (c6 (Z7-6)-2)then true else bif decide ((600:Int)<Z6.1)then true else bif decide (Z8<1)then true else decide ((1048575:Int)<Z8)then Z5 else b7 (Qd Z2) (b7 (Qd Z2) (b7 (decide ((0:Int)<=8/\(8:Int)<=Z7/\Z7<=Z7/\Z7=Z7)) (some (D.cG (D.bI (cj Z8) (.bI (D.str (List.drop 8 (List.take Z7.toNat Z1))) (.bI Z4 .bN))))))))))))):=by kernel_rfl
theorem Qvz b(h:(decide (b.length<=1000000))=true):Qn6 b=some (.cG (cH (xf b) (.bI (.str (xe b)) (cH (bif(pi b).isNone then 50 else 0) .bN)))):=by
 (rw[Qvy];delta b7 cj c6;conv=>zeta)
 have hl:=af h;have hs:Qg b.length 1=true:=Zt (by omega);cases hq:Yi b with
 |none=>
  have hr:pi b=none:=by simp[pi,hq]
  simp[hs,hl,hq,hr,xf,xe]
 |some x=>
  have hx:=Qug hq;have lk:Qd x.length=true:=Qe (by omega);have d1:x.length<=1000000000000:=by omega
  have hr:pi b=if 8<=x.length/\cI ((x.drop 6).take 2)+8=x.length/\x.length<=608/\1<=cI (x.take 6)/\cI (x.take 6)<=1048575 then some ((cI (x.take 6):Int),x.drop 8)else none:=by simp only[pi,hq]
  by_cases h8:x.length<8
  ·have g2:dT x 6 2=(0,50):=QBb (by omega) (by omega) (by omega);have fK:pi b=none:=by rw[hr,aw (by omega)]
   simp[hs,hl,hq,fK,g2,d1,xf,xe]
  ·have g2:dT x 6 2=((cI ((x.drop 6).take 2):Int),0):=Qvr (by omega) (by omega) (by omega) (by omega);have g6:dT x 0 6=((cI (x.take 6):Int),0):=Qvr (by omega) (by omega) (by omega) (by omega);have w1:IntKind.i64.wrap ((x.length:Int)-6)=x.length-6:=cC (by omega) (by omega);have w2:IntKind.i64.wrap ((x.length:Int)-6-2)=x.length-6-2:=cC (by omega) (by omega);have dd:(0:Int)<=8/\8<=(x.length:Int)/\(x.length:Int)<=x.length/\(x.length:Int)=x.length:=by omega
   generalize cI ((x.drop 6).take 2)=v2 at hr g2;generalize cI (x.take 6)=v6 at hr g6
   by_cases C:8<=x.length/\v2+8=x.length/\x.length<=608/\1<=v6/\v6<=1048575
   ·rw[ax C]at hr;have c1:((v2:Int)!=(x.length:Int)-6-2)=false:=by simp[bne];omega
    have c2:¬600<(v2:Int):=by omega
    have c3:¬(v6:Int)<1:=by omega
    have c4:¬1048575<(v6:Int):=by omega
    have dx:(8:Int)<=x.length:=by omega
    simp[hs,hl,hq,hr,g2,g6,d1,xf,xe,lk,w1,w2,c1,c2,c3,c4,dx]
   ·rw[aw C]at hr
    have c5:(bif((v2:Int)!=(x.length:Int)-6-2)then true else bif decide (600<(v2:Int))then true else bif decide ((v6:Int)<1)then true else decide (1048575<(v6:Int)))=true:=by
     cases c1:((v2:Int)!=(x.length:Int)-6-2)
     ·simp[bne]at c1
      by_cases c2:600<(v2:Int)
      ·simp[c2]
      by_cases c3:(v6:Int)<1
      ·simp[c3]
      by_cases c4:1048575<(v6:Int)
      ·simp[c4]
      ·exact absurd ⟨by omega,by omega,by omega,by omega,by omega⟩ C
     ·rfl
    simp only[hs,hl,hq,hr,g2,g6,d1,xf,xe,lk,w1,w2,c5,ba,Option.getD_none,Option.isNone_some,Option.isNone_none,ag,ah,aM];rfl
def Bo:=Bn.b8 144 Qj6
theorem QvA:Qk Tryz.prog cu Bo:=Qvx.cQ Qb fun args d h=>by
 unfold Qj6 at h
 split at h
 ·obtain⟨h1,rfl⟩:=ak h;exact⟨by simp[D.refs],60,Qvz _ h1⟩
 ·cases h
def QvB:bW->bO
 |[.bI (.int .i64 n) (.bI (.str b) .bN)]=>some (decide (b.length<=1000000),.cG (.bI (.str ((p7 ⟨n,b⟩).getD [])) (.bI (.bool (p7 ⟨n,b⟩).isSome) .bN)))
 |_=>none
def UO(n:Int)(b:bL):=eO cu Bo 40 87 [.bI (.int .i64 n) (.bI (.str b) .bN)]
theorem QFS n b:UO n b=(let Z0:fI:=some (D.cG (D.bI (D.str (Array.toList #[])) (.bI (D.bool false) .bN)));bif decide (b.length<=1000000)then bif(bif Option.isNone (pi b)then(50:Int)else(0:Int))!=0then Z0 else bif xf b !=n then Z0 else some (D.cG (D.bI (D.str (xe b)) (.bI (D.bool true) .bN)))else none):=by kernel_rfl
theorem QFT n b(h:(decide (b.length<=1000000))=true):UO n b=some (.cG (.bI (.str ((p7 ⟨n,b⟩).getD [])) (.bI (.bool (p7 ⟨n,b⟩).isSome) .bN))):=by
 (rw[QFS];conv=>zeta)
 rw[h];simp only[xf,xe,p7,ag];cases hr:pi b with
 |none=>rfl
 |some p=>
  obtain⟨m,l⟩:=p
  by_cases e:m=n
  ·subst e;simp[bne]
  ·have e2:(m !=n)=true:=by simpa[bne]using e
   simp[e,e2]
def Bp:=Bo.b8 87 QvB
theorem QvC:Qk Tryz.prog cu Bp:=QvA.cQ Qb fun args d h=>by
 unfold QvB at h
 split at h
 ·obtain⟨h1,rfl⟩:=ak h;exact⟨by simp[D.refs],40,QFT _ _ h1⟩
 ·cases h
open Go.Proofs
def Qj7:bW->bO
 |[.int .i64 n,.bI (.int .i64 p) (.bI (.sl .item ci items) (.bI (.bI (.sl .line k0 l0) (.bI (.sl .line k1 l1) (.bI (.sl .line k2 l2) .bN))) (.bI (.arr .int 3 [c0,c1,c2]) .bN)))]=>some (decide (items.length<=9223372036854775807/\l0.length<=9223372036854775807/\l1.length<=9223372036854775807/\l2.length<=9223372036854775807),.cG (.bI (.str (eN n ⟨p,items,l0,l1,l2,c0,c1,c2⟩)) (cH (bif fF n ⟨p,items,l0,l1,l2,c0,c1,c2⟩then 0 else 2) .bN)))
 |_=>none
def Qn8(n p:Int)(ci:Bool)(items:bM)(k0 k1 k2:Bool)(l0 l1 l2:bJ)(c0 c1 c2:Int):=eO cu Bp 40 162 [.int .i64 n,.bI (.int .i64 p) (cL .item ci items (.bI (cL .line k0 l0 (cL .line k1 l1 (cL .line k2 l2 .bN))) (.bI (.arr (C:=RC) .int 3 [c0,c1,c2]) .bN)))]
theorem QvD n p ci items k0 k1 k2 l0 l1 l2 c0 c1 c2:Qn8 n p ci items k0 k1 k2 l0 l1 l2 c0 c1 c2=(let Z0:fI:=some (D.cG (D.bI (D.str (Array.toList #[])) (.bI (cj 2) .bN)));let Z1:St:=St.mk p items l0 l1 l2 c0 c1 c2;let Z2:List (RA b9.u8):=(fun(l:List (RA b9.u8))=>l) (bif Qu Z1 then YB Z1 else []);b7 (decide (items.length<=9223372036854775807/\l0.length<=9223372036854775807/\l1.length<=9223372036854775807/\l2.length<=9223372036854775807)) (bif decide (n<1)then Z0 else bif decide ((1048575:Int)<n)then Z0 else bif bif decide (n<p)then true else (bif Qu Z1 then (0:Int)else (2:Int))!=0 then Z0 else b7 (decide (Z2.length<=1000000)) (some (D.cG (D.bI (D.str (bif okF n Z2 then YJ n Z2 else [])) (.bI (cj (bif okF n Z2 then (0:Int)else (2:Int))) .bN)))))):=by kernel_rfl
theorem QvE n p ci items k0 k1 k2 l0 l1 l2 c0 c1 c2(h:(decide (items.length<=9223372036854775807/\l0.length<=9223372036854775807/\l1.length<=9223372036854775807/\l2.length<=9223372036854775807))=true):Qn8 n p ci items k0 k1 k2 l0 l1 l2 c0 c1 c2=some (.cG (.bI (.str (eN n ⟨p,items,l0,l1,l2,c0,c1,c2⟩)) (cH (bif fF n ⟨p,items,l0,l1,l2,c0,c1,c2⟩then 0 else 2) .bN))):=by
 (rw[QvD];delta b7 cj;conv=>zeta)
 generalize hs:(⟨p,items,l0,l1,l2,c0,c1,c2⟩:St)=s;have hp:s.place=p:=by rw[<-hs]
 have no:fF n s=false->some (D.cG (.bI (.str []) (cH 2 .bN)))=some (.cG (.bI (.str (eN n s)) (cH (bif fF n s then 0 else 2) .bN)):bV):=fun e=>by simp only[eN,e];rfl
 refine Qa h ?_;have no2:∀m:Int,fF n s=false->some (D.cG (.bI (.str []) (cH 2 .bN)))=some (.cG (.bI (.str (eN n s)) (cH (bif fF n s then 0 else 2) .bN)):bV):=fun _=>no;refine Qw (fun e=>no (Jv fun f=>by simp only[aa]at e;omega)) fun e1=>?_;refine Qw (fun e=>no (Jv fun f=>by simp only[aa]at e;omega)) fun e2=>?_;cases dV:Qu s
 ·exact Qa (by cases decide (n<p)<;>rfl) (no (Jv fun f=>by rw[dV]at f;cases f.2.2.2))
 by_cases hnp:n<p
 ·exact Qa (by rw[ab hnp];rfl) (no (Jv fun f=>by omega))
 refine Qq (by rw[ad hnp];rfl) ?_;simp only[ae]at e1 e2;have ok:fF n s=true:=by simp only[fF,ai,aa];exact⟨⟨⟨by omega,by omega⟩,by omega⟩,dV⟩
 have oF:=P3 ok;have hl:=Kw dV;simp only[ag];refine Qa (by simp;omega) ?_;rw[oF];simp only[eN,ok,ag]
def Bq:=Bp.b8 162 Qj7
theorem QvF:Qk Tryz.prog cu Bq:=QvC.cQ Qb fun args d h=>by
 unfold Qj7 at h
 split at h
 ·obtain⟨h1,rfl⟩:=ak h;exact⟨by simp[D.refs],40,QvE _ _ _ _ _ _ _ _ _ _ _ _ _ h1⟩
 ·cases h
def Qj8:bW->bO
 |[.bI (.sl .bR c now) (.bI (.sl .bR d sure) .bN)]=>some (Qn now&&Qn sure,.cG (cH (jH now sure) (.bI (cH (ec (ef now sure)).place (cL .item (ef now sure).isNone (ec (ef now sure)).items (.bI (cL .line (ef now sure).isNone (ec (ef now sure)).l0 (cL .line (ef now sure).isNone (ec (ef now sure)).l1 (cL .line (ef now sure).isNone (ec (ef now sure)).l2 .bN))) (.bI (.arr (C:=RC) .int 3 [(ec (ef now sure)).c0,(ec (ef now sure)).c1,(ec (ef now sure)).c2]) .bN)))) (cH (kg now sure) .bN))))
 |_=>none
def Qoa(c:Bool)(now:bK)(d:Bool)(sure:bK):=eO cu Bq 40 34 [.bI (.sl (C:=RC) .bR c now) (cL .bR d sure .bN)]
theorem QvG c now d sure:Qoa c now d sure=(let Z0:Int:=bif JG now sure 32 then (0:Int)else (2:Int);let Z1:bV:=cj 0;let Z2:bV:=D.sl b9.line true [];let Z3:bV:=.bN;let Z4:bV:=D.bI Z1 (D.bI (D.sl b9.item true []) (.bI (D.bI Z2 (D.bI Z2 (D.bI Z2 Z3))) (.bI (D.arr b9.int 3 (List.replicate 3 0)) Z3)));let Z5:cE:=ja now sure 32;let Z6:=cE.n Z5;let Z7:=Option.getD (p7 (cE.mk Z6 (cE.b Z5))) [];let Z8:bL:=(fun(l:bL)=>l) Z7;let Z9:fI:=some (D.cG (D.bI Z1 (D.bI Z4 (D.bI (cj 50) Z3))));let db:=Option.isNone (Zc Z8);let dB:St:=ec (Zc Z8);b7 (Qn now&&Qn sure) (bif Z0 !=0 then some (D.cG (D.bI Z1 (D.bI Z4 (D.bI (cj Z0) Z3))))else bif Z6==0 then some (D.cG (D.bI Z1 (D.bI Z4 (D.bI (cj 60) Z3))))else b7 (decide (List.length (cE.b Z5)<=1000000)) (b7 (Qg Z7.length 1) (b7 (decide (Z8.length<=1000000)) (bif !Option.isSome (p7 (cE.mk Z6 (cE.b Z5)))then Z9 else bif (bif db then (50:Int)else (0:Int))!=0 then Z9 else bif decide (Z6<St.place dB)then Z9 else some (D.cG (D.bI (cj Z6) (.bI (D.bI (cj dB.place) (.bI (D.sl b9.item db dB.items) (.bI (D.bI (D.sl b9.line db dB.l0) (.bI (D.sl b9.line db dB.l1) (.bI (D.sl b9.line db dB.l2) Z3))) (.bI (D.arr b9.int 3 [St.c0 dB,St.c1 dB,St.c2 dB]) Z3)))) (.bI Z1 Z3))))))))):=by kernel_rfl
theorem QvH c now d sure(h:(Qn now&&Qn sure)=true):Qoa c now d sure=some (.cG (cH (jH now sure) (.bI (cH (ec (ef now sure)).place (cL .item (ef now sure).isNone (ec (ef now sure)).items (.bI (cL .line (ef now sure).isNone (ec (ef now sure)).l0 (cL .line (ef now sure).isNone (ec (ef now sure)).l1 (cL .line (ef now sure).isNone (ec (ef now sure)).l2 .bN))) (.bI (.arr (C:=RC) .int 3 [(ec (ef now sure)).c0,(ec (ef now sure)).c1,(ec (ef now sure)).c2]) .bN)))) (cH (kg now sure) .bN)))):=by
 (rw[QvG];delta b7 cj;conv=>zeta)
 refine Qa h ?_;have no:∀e:Int,ef now sure=none->kg now sure=e->some (D.cG (cH 0 (.bI (cH 0 (cL .item true [] (.bI (cL .line true [] (cL .line true [] (cL .line true [] .bN))) (.bI (.arr (C:=RC) .int 3 (List.replicate 3 0)) .bN)))) (cH e .bN))))=some (.cG (cH (jH now sure) (.bI (cH (ec (ef now sure)).place (cL .item (ef now sure).isNone (ec (ef now sure)).items (.bI (cL .line (ef now sure).isNone (ec (ef now sure)).l0 (cL .line (ef now sure).isNone (ec (ef now sure)).l1 (cL .line (ef now sure).isNone (ec (ef now sure)).l2 .bN))) (.bI (.arr (C:=RC) .int 3 [(ec (ef now sure)).c0,(ec (ef now sure)).c1,(ec (ef now sure)).c2]) .bN)))) (cH (kg now sure) .bN)))):=fun e h1 h2=>by simp only[jH,h1,h2];rfl
 cases hk:JG now sure 32
 ·exact Qa rfl (no 2 (by simp[ef,hk]) (by simp[kg,hk]))
 refine Qq rfl ?_;have hn:=QBc now sure 32;generalize hs:ja now sure 32=s at hn ⊢;obtain⟨n,b⟩:=s;have hf:=Qvt ⟨n,b⟩
 dsimp only at hn hf ⊢
 refine Qw (fun e=>no 60 (by simp[ef,hk,hs,e]) (by simp[kg,hk,hs,e])) fun e0=>?_;refine Qa (by simp;omega) (Qa (Zt (by omega)) (Qa (by simp;omega) ?_));cases ho:p7 ⟨n,b⟩with
 |none=>exact Qa rfl (no 50 (by simp[ef,hk,hs,e0,lg,ho]) (by simp[kg,hk,hs,e0,lg,ho]))
 |some l=>
  refine Qq rfl ?_;simp only[ba];have hc:Zc l=none\/∃st,Zc l=some st:=by cases Zc l<;>simp
  rcases hc with hr|⟨st,hr⟩
  ·exact Qa (by rw[hr];rfl) (no 50 (by simp[ef,hk,hs,e0,lg,ho,hr]) (by simp[kg,hk,hs,e0,lg,ho,hr]))
  ·refine Qq (by rw[hr];rfl) ?_
   by_cases hp:st.place<=n
   ·refine Qq (by simp[hr,ec];omega) ?_;have e1:ef now sure=some st:=by simp[ef,hk,hs,e0,lg,ho,hr,hp]
    have e2:kg now sure=0:=by simp[kg,hk,hs,e0,lg,ho,hr,hp]
    have e3:jH now sure=n:=by simp[jH,e1,hs]
    simp only[e1,e2,e3,hr]
   ·exact Qa (by simp[hr,ec];omega) (no 50 (by simp[ef,hk,hs,e0,lg,ho,hr,hp]) (by simp[kg,hk,hs,e0,lg,ho,hr,hp]))
def Br:=Bq.b8 34 Qj8
theorem QvI:Qk Tryz.prog cu Br:=QvF.cQ Qb fun args d h=>by
 unfold Qj8 at h
 split at h
 ·obtain⟨h1,rfl⟩:=ak h;exact⟨by simp[D.refs],40,QvH _ _ _ _ h1⟩
 ·cases h
def Qob:bW->bO
 |[.bI (.sl .bR c now) (.bI (.sl .bR d sure) .bN),.int .i64 n,.bI (.int .i64 p) (.bI (.sl .item ci items) (.bI (.bI (.sl .line k0 l0) (.bI (.sl .line k1 l1) (.bI (.sl .line k2 l2) .bN))) (.bI (.arr .int 3 [c0,c1,c2]) .bN)))]=>some (Qn now&&Qn sure&&decide (items.length<=9223372036854775807/\l0.length<=9223372036854775807/\l1.length<=9223372036854775807/\l2.length<=9223372036854775807),.cG (.bI (cL .bR (!QH now sure 32 n (eN n ⟨p,items,l0,l1,l2,c0,c1,c2⟩)) (eD now sure 32 n (eN n ⟨p,items,l0,l1,l2,c0,c1,c2⟩)) (cL .bR (!QH now sure 32 n (eN n ⟨p,items,l0,l1,l2,c0,c1,c2⟩)) (Zj now sure 32 n (eN n ⟨p,items,l0,l1,l2,c0,c1,c2⟩)) .bN)) (cH (bif QH now sure 32 n (eN n ⟨p,items,l0,l1,l2,c0,c1,c2⟩)then 0 else 2) .bN)))
 |_=>none
def QvK(c:Bool)(now:bK)(d:Bool)(sure:bK)(n p:Int)(ci:Bool)(items:bM)(k0 k1 k2:Bool)(l0 l1 l2:bJ)(c0 c1 c2:Int):=eO cu Br 40 104 [.bI (.sl (C:=RC) .bR c now) (cL .bR d sure .bN),.int .i64 n,.bI (.int .i64 p) (cL .item ci items (.bI (cL .line k0 l0 (cL .line k1 l1 (cL .line k2 l2 .bN))) (.bI (.arr (C:=RC) .int 3 [c0,c1,c2]) .bN)))]
theorem QBd c now d sure n p ci items k0 k1 k2 l0 l1 l2 c0 c1 c2:QvK c now d sure n p ci items k0 k1 k2 l0 l1 l2 c0 c1 c2=(let Z0:=Qn now&&Qn sure;let Z1:Int:=bif Ql now sure then (0:Int)else (2:Int);let Z2:bV:=D.sl b9.bR true [];let Z3:bV:=.bN;let Z4:bV:=D.bI Z2 (D.bI Z2 Z3);let Z5:St:=St.mk p items l0 l1 l2 c0 c1 c2;let Z6:=QH now sure 32 n (eN n Z5);let Z7:fI:=b7 (Z0&&Qd (eN n Z5).length) (some (D.cG (D.bI (D.bI (D.sl b9.bR (!Z6) (eD now sure 32 n (eN n Z5))) (.bI (D.sl b9.bR (!Z6) (Zj now sure 32 n (eN n Z5))) Z3)) (.bI (cj (bif Z6 then (0:Int)else (2:Int))) Z3))));let Z8:Int:=bif fF n Z5 then (0:Int)else (2:Int);b7 (decide (items.length<=9223372036854775807/\l0.length<=9223372036854775807/\l1.length<=9223372036854775807/\l2.length<=9223372036854775807)) (b7 Z0 (bif Z1 !=0 then bif Z1 !=0 then some (D.cG (D.bI Z4 (D.bI (cj Z1) Z3)))else Z7 else bif Z8 !=0 then bif Z8 !=0 then some (D.cG (D.bI Z4 (D.bI (cj Z8) Z3)))else Z7 else Z7))):=by kernel_rfl
theorem QBe c now d sure n p ci items k0 k1 k2 l0 l1 l2 c0 c1 c2(h:(Qn now&&Qn sure&&decide (items.length<=9223372036854775807/\l0.length<=9223372036854775807/\l1.length<=9223372036854775807/\l2.length<=9223372036854775807))=true):QvK c now d sure n p ci items k0 k1 k2 l0 l1 l2 c0 c1 c2=some (.cG (.bI (cL .bR (!QH now sure 32 n (eN n ⟨p,items,l0,l1,l2,c0,c1,c2⟩)) (eD now sure 32 n (eN n ⟨p,items,l0,l1,l2,c0,c1,c2⟩)) (cL .bR (!QH now sure 32 n (eN n ⟨p,items,l0,l1,l2,c0,c1,c2⟩)) (Zj now sure 32 n (eN n ⟨p,items,l0,l1,l2,c0,c1,c2⟩)) .bN)) (cH (bif QH now sure 32 n (eN n ⟨p,items,l0,l1,l2,c0,c1,c2⟩)then 0 else 2) .bN))):=by
 (rw[QBd];delta b7 cj;conv=>zeta)
 generalize hs:(⟨p,items,l0,l1,l2,c0,c1,c2⟩:St)=s;rw[ai,ai]at h;obtain⟨⟨hg,o7⟩,hl⟩:=h;refine Qa hl ?_;have no:QH now sure 32 n (eN n s)=false->some (D.cG (.bI (cL .bR true [] (cL .bR true [] .bN)) (cH 2 .bN)))=some (.cG (.bI (cL .bR (!QH now sure 32 n (eN n s)) (eD now sure 32 n (eN n s)) (cL .bR (!QH now sure 32 n (eN n s)) (Zj now sure 32 n (eN n s)) .bN)) (cH (bif QH now sure 32 n (eN n s)then 0 else 2) .bN))):=fun e=>by simp only[e,eD,Zj];rfl
 have Sl:Qd (eN n s).length=true:=Qe (by have := @Pv n s;omega);have hall:(Qn now&&Qn sure&&Qd (eN n s).length)=true:=by rw[hg,o7,Sl];rfl
 refine Qa (by rw[hg,o7];rfl) ?_;cases hd:Ql now sure
 ·exact Qa rfl (Qa rfl (no (Q5 fun f=>by rw[hd]at f;cases f.1)))
 refine Qq rfl ?_;cases hk:fF n s
 ·exact Qa rfl (Qa rfl (no (Q5 fun f=>f.2.2.2.2.1 (by simp[eN,hk]))))
 ·exact Qq rfl (Qa hall rfl)
def Bs:=Br.b8 104 Qob
theorem QvL:Qk Tryz.prog cu Bs:=QvI.cQ Qb fun args d h=>by
 unfold Qob at h
 split at h
 ·obtain⟨h1,rfl⟩:=ak h;exact⟨by simp[D.refs],40,QBe _ _ _ _ _ _ _ _ _ _ _ _ _ _ _ _ _ h1⟩
 ·cases h
def XL:bW->bO
 |[.int .i64 n,.str b]=>some (decide (b.length<=1000000),.cG (.bI (.str (bif okF n b then YJ n b else[])) (cH (bif okF n b then 0 else 2) .bN)))
 |_=>none
def Qka(n:Int)(b:bL):=eO cu Bs 60 107 [.int .i64 n,.str b]
theorem Qrg n b:Qka n b=(let Z0:fI:=some (D.cG (D.bI (D.str (Array.toList #[])) (.bI (D.int .i64 2) .bN)));let Z1:=Qd b.length;let Z2:Int:=(b.length:Int);let Z3:bL:=[]++[]++fC n 6;let Z4:=List.length ([]++Z3);let Z5:bL:=[]++Z3++fC Z2 2;let Z6:=Z5.length;let Z7:bL:=(fun(l:bL)=>l) b;let Z8:=List.length (Z5++Z7);let Z9:fI:=none;bif decide (n<1)then Z0 else bif decide ((1048575:Int)<n)then Z0 else bif Z1 then bif decide ((600:Int)<Z2)then Z0 else bif decide (n<=9223372036854775807/\(1:Int)<=6/\(6:Int)<=6)&&QL n 6then bif decide ((0:Int)<=n/\n<=9223372036854775807/\(0:Int)<=6/\(6:Int)<=6/\(0:Nat)<=1000000)then bif Z1 then bif decide (Z2<=9223372036854775807/\(1:Int)<=2/\(2:Int)<=6)&&QL Z2 2then bif decide ((0:Nat)+Z3.length=Z4)&&true&&decide ((0:Int)<=Z2/\Z2<=9223372036854775807/\(0:Int)<=2/\(2:Int)<=6/\Z4<=1000000)then bif Nat.beq Z6 Z6&&Qg (Z6+Z7.length) 1then bif Nat.beq (Z6+Z7.length) Z8 then bif decide (Z8<=1000000)then some (D.cG (D.bI (D.str (Va (Z5++Z7))) (.bI (D.int .i64 0) .bN)))else Z9 else Z9 else Z9 else Z9 else Z9 else Z9 else Z9 else Z9 else Z9):=by kernel_rfl
theorem Qrh n b(h:(decide (b.length<=1000000))=true):Qka n b=some (.cG (.bI (.str (bif okF n b then YJ n b else[])) (cH (bif okF n b then 0 else 2) .bN))):=by
 (rw[Qrg];conv=>zeta)
 have hl:=af h;have lb:Qd b.length=true:=Qe (by omega);have no:okF n b=false->some (D.cG (.bI (.str []) (cH 2 .bN)))=some (.cG (.bI (.str (bif okF n b then YJ n b else[])) (cH (bif okF n b then 0 else 2) .bN)):bV):=fun e=>by rw[e];rfl
 refine Qw (fun e=>no (xQ fun f=>by simp only[aa]at e;omega)) fun e1=>?_;refine Qw (fun e=>no (xQ fun f=>by simp only[aa]at e;omega)) fun e2=>?_;refine Qa lb (Qw (fun e=>no (xQ fun f=>by simp only[aa]at e;omega)) fun e3=>?_);simp only[ae]at e1 e2 e3;have ok:okF n b=true:=by simp only[okF,ai,aa];omega
 have f6:QL n 6=true:=by rw[Yn];omega
 have f2:QL (b.length:Int) 2=true:=by rw[Yn];omega
 have eb:∀n:Nat,n.beq n=true:=fun n=>by simp
 have s1:Qg (6+2+b.length) 1=true:=Zt (by omega);have g1:decide (n<=9223372036854775807/\(1:Int)<=6/\(6:Int)<=6)=true:=ab (by omega);have g2:decide (0<=n/\n<=9223372036854775807/\(0:Int)<=6/\(6:Int)<=6/\0<=1000000)=true:=ab (by omega);have g3:decide ((b.length:Int)<=9223372036854775807/\(1:Int)<=2/\(2:Int)<=6)=true:=ab (by omega);have g4:decide (0<=(b.length:Int)/\(b.length:Int)<=9223372036854775807/\(0:Int)<=2/\(2:Int)<=6/\6<=1000000)=true:=ab (by omega);have g5:decide (6+2+b.length<=1000000)=true:=ab (by omega);simp only[aH,Qs,aC,f6,f2,eb,lb,s1,aN,au,ag];refine Qa (by rw[g1];rfl) (Qa g2 (Qa (by rw[g3];rfl) (Qa (by rw[g4];rfl) (Qa g5 ?_))));rw[ok];rfl
def Bt:=Bs.b8 107 XL
theorem QvM:Qk Tryz.prog cu Bt:=QvL.cQ Qb fun args d h=>by
 unfold XL at h
 split at h
 ·obtain⟨h1,rfl⟩:=ak h;exact⟨by simp[D.refs],60,Qrh _ _ h1⟩
 ·cases h
def Qkb:bW->bO
 |[.int .i64 n,.bI (.int .i64 p) (.bI (.sl .item ci items) (.bI (.bI (.sl .line k0 l0) (.bI (.sl .line k1 l1) (.bI (.sl .line k2 l2) .bN))) (.bI (.arr .int 3 [c0,c1,c2]) .bN)))]=>some (decide (items.length<=9223372036854775807/\l0.length<=9223372036854775807/\l1.length<=9223372036854775807/\l2.length<=9223372036854775807),.cG (.bI (.str (eN n ⟨p,items,l0,l1,l2,c0,c1,c2⟩)) (cH (bif fF n ⟨p,items,l0,l1,l2,c0,c1,c2⟩then 0 else 2) .bN)))
 |_=>none
def Qod(n p:Int)(ci:Bool)(items:bM)(k0 k1 k2:Bool)(l0 l1 l2:bJ)(c0 c1 c2:Int):=eO cu Bt 40 47 [.int .i64 n,.bI (.int .i64 p) (cL .item ci items (.bI (cL .line k0 l0 (cL .line k1 l1 (cL .line k2 l2 .bN))) (.bI (.arr (C:=RC) .int 3 [c0,c1,c2]) .bN)))]
theorem QvN n p ci items k0 k1 k2 l0 l1 l2 c0 c1 c2:Qod n p ci items k0 k1 k2 l0 l1 l2 c0 c1 c2=(let Z0:bV:=D.str (Array.toList #[]);let Z1:fI:=some (D.cG (D.bI Z0 (D.bI (cj 2) .bN)));let Z2:St:=St.mk p items l0 l1 l2 c0 c1 c2;let Z3:Int:=bif Qu Z2 then (0:Int)else (2:Int);let Z4:List (RA b9.u8):=(fun(l:List (RA b9.u8))=>l) (bif Qu Z2 then YB Z2 else []);bif decide (n<1)then Z1 else bif decide ((1048575:Int)<n)then Z1 else bif decide (n<p)then Z1 else b7 (decide (items.length<=9223372036854775807/\l0.length<=9223372036854775807/\l1.length<=9223372036854775807/\l2.length<=9223372036854775807)) (bif Z3 !=0 then some (D.cG (D.bI Z0 (D.bI (cj Z3) .bN)))else b7 (decide (Z4.length<=1000000)) (some (D.cG (D.bI (D.str (bif okF n Z4 then YJ n Z4 else [])) (.bI (cj (bif okF n Z4 then (0:Int)else (2:Int))) .bN)))))):=by kernel_rfl
theorem QvO n p ci items k0 k1 k2 l0 l1 l2 c0 c1 c2(h:(decide (items.length<=9223372036854775807/\l0.length<=9223372036854775807/\l1.length<=9223372036854775807/\l2.length<=9223372036854775807))=true):Qod n p ci items k0 k1 k2 l0 l1 l2 c0 c1 c2=some (.cG (.bI (.str (eN n ⟨p,items,l0,l1,l2,c0,c1,c2⟩)) (cH (bif fF n ⟨p,items,l0,l1,l2,c0,c1,c2⟩then 0 else 2) .bN))):=by
 (rw[QvN];delta b7 cj;conv=>zeta)
 generalize hs:(⟨p,items,l0,l1,l2,c0,c1,c2⟩:St)=s;have hp:s.place=p:=by rw[<-hs]
 have no:fF n s=false->some (D.cG (.bI (.str []) (cH 2 .bN)))=some (.cG (.bI (.str (eN n s)) (cH (bif fF n s then 0 else 2) .bN)):bV):=fun e=>by simp only[eN,e];rfl
 refine Qw (fun e=>no (Jv fun f=>by simp only[aa]at e;omega)) fun e1=>?_;refine Qw (fun e=>no (Jv fun f=>by simp only[aa]at e;omega)) fun e2=>?_;refine Qw (fun e=>no (Jv fun f=>by simp only[aa]at e;omega)) fun e3=>?_;refine Qa h ?_;cases dV:Qu s
 ·exact Qa rfl (no (Jv fun f=>by rw[dV]at f;cases f.2.2.2))
 simp only[ae]at e1 e2 e3;have ok:fF n s=true:=by simp only[fF,ai,aa];exact⟨⟨⟨by omega,by omega⟩,by omega⟩,dV⟩
 have oF:=P3 ok;have hl:=Kw dV;refine Qq rfl ?_;simp only[ag];refine Qa (by simp;omega) ?_;rw[oF];simp only[eN,ok,ag]
def Bu:=Bt.b8 47 Qkb
theorem QvP:Qk Tryz.prog cu Bu:=QvM.cQ Qb fun args d h=>by
 unfold Qkb at h
 split at h
 ·obtain⟨h1,rfl⟩:=ak h;exact⟨by simp[D.refs],40,QvO _ _ _ _ _ _ _ _ _ _ _ _ _ h1⟩
 ·cases h
def Qoe:bW->bO
 |[.bI (.sl .bR c now) (.bI (.sl .bR d sure) .bN),.int .i64 n,.bI (.int .i64 p) (.bI (.sl .item ci items) (.bI (.bI (.sl .line k0 l0) (.bI (.sl .line k1 l1) (.bI (.sl .line k2 l2) .bN))) (.bI (.arr .int 3 [c0,c1,c2]) .bN)))]=>some (Qn now&&Qn sure&&decide (items.length<=9223372036854775807/\l0.length<=9223372036854775807/\l1.length<=9223372036854775807/\l2.length<=9223372036854775807),.cG (.bI (cL .bR (!QH now sure 32 n (eN n ⟨p,items,l0,l1,l2,c0,c1,c2⟩)) (eD now sure 32 n (eN n ⟨p,items,l0,l1,l2,c0,c1,c2⟩)) (cL .bR (!QH now sure 32 n (eN n ⟨p,items,l0,l1,l2,c0,c1,c2⟩)) (Zj now sure 32 n (eN n ⟨p,items,l0,l1,l2,c0,c1,c2⟩)) .bN)) (cH (bif QH now sure 32 n (eN n ⟨p,items,l0,l1,l2,c0,c1,c2⟩)then 0 else 2) .bN)))
 |_=>none
def QvR(c:Bool)(now:bK)(d:Bool)(sure:bK)(n p:Int)(ci:Bool)(items:bM)(k0 k1 k2:Bool)(l0 l1 l2:bJ)(c0 c1 c2:Int):=eO cu Bu 40 54 [.bI (.sl (C:=RC) .bR c now) (cL .bR d sure .bN),.int .i64 n,.bI (.int .i64 p) (cL .item ci items (.bI (cL .line k0 l0 (cL .line k1 l1 (cL .line k2 l2 .bN))) (.bI (.arr (C:=RC) .int 3 [c0,c1,c2]) .bN)))]
theorem QBf c now d sure n p ci items k0 k1 k2 l0 l1 l2 c0 c1 c2:QvR c now d sure n p ci items k0 k1 k2 l0 l1 l2 c0 c1 c2=(let Z0:=Qn now&&Qn sure;let Z1:bV:=D.sl b9.bR true [];let Z2:bV:=.bN;let Z3:bV:=D.bI Z1 (D.bI Z1 Z2);let Z4:St:=St.mk p items l0 l1 l2 c0 c1 c2;let Z5:Int:=bif fF n Z4 then (0:Int)else (2:Int);let Z6:=QH now sure 32 n (eN n Z4);b7 Z0 (bif (bif Ql now sure then (0:Int)else (2:Int))!=0 then some (D.cG (D.bI Z3 (D.bI (cj 2) Z2)))else b7 (decide (items.length<=9223372036854775807/\l0.length<=9223372036854775807/\l1.length<=9223372036854775807/\l2.length<=9223372036854775807)) (bif Z5 !=0 then some (D.cG (D.bI Z3 (D.bI (cj Z5) Z2)))else b7 (Z0&&Qd (eN n Z4).length) (some (D.cG (D.bI (D.bI (D.sl b9.bR (!Z6) (eD now sure 32 n (eN n Z4))) (.bI (D.sl b9.bR (!Z6) (Zj now sure 32 n (eN n Z4))) Z2)) (.bI (cj (bif Z6 then (0:Int)else (2:Int))) Z2))))))):=by kernel_rfl
theorem QBg c now d sure n p ci items k0 k1 k2 l0 l1 l2 c0 c1 c2(h:(Qn now&&Qn sure&&decide (items.length<=9223372036854775807/\l0.length<=9223372036854775807/\l1.length<=9223372036854775807/\l2.length<=9223372036854775807))=true):QvR c now d sure n p ci items k0 k1 k2 l0 l1 l2 c0 c1 c2=some (.cG (.bI (cL .bR (!QH now sure 32 n (eN n ⟨p,items,l0,l1,l2,c0,c1,c2⟩)) (eD now sure 32 n (eN n ⟨p,items,l0,l1,l2,c0,c1,c2⟩)) (cL .bR (!QH now sure 32 n (eN n ⟨p,items,l0,l1,l2,c0,c1,c2⟩)) (Zj now sure 32 n (eN n ⟨p,items,l0,l1,l2,c0,c1,c2⟩)) .bN)) (cH (bif QH now sure 32 n (eN n ⟨p,items,l0,l1,l2,c0,c1,c2⟩)then 0 else 2) .bN))):=by
 (rw[QBf];delta b7 cj;conv=>zeta)
 generalize hs:(⟨p,items,l0,l1,l2,c0,c1,c2⟩:St)=s;rw[ai,ai]at h;obtain⟨⟨hg,o7⟩,hl⟩:=h;have no:QH now sure 32 n (eN n s)=false->some (D.cG (.bI (cL .bR true [] (cL .bR true [] .bN)) (cH 2 .bN)))=some (.cG (.bI (cL .bR (!QH now sure 32 n (eN n s)) (eD now sure 32 n (eN n s)) (cL .bR (!QH now sure 32 n (eN n s)) (Zj now sure 32 n (eN n s)) .bN)) (cH (bif QH now sure 32 n (eN n s)then 0 else 2) .bN))):=fun e=>by simp only[e,eD,Zj];rfl
 have Sl:Qd (eN n s).length=true:=Qe (by have := @Pv n s;omega);have hall:(Qn now&&Qn sure&&Qd (eN n s).length)=true:=by rw[hg,o7,Sl];rfl
 refine Qa (by rw[hg,o7];rfl) ?_;cases hd:Ql now sure
 ·exact Qa rfl (no (Q5 fun f=>by rw[hd]at f;cases f.1))
 refine Qq rfl (Qa hl ?_);cases hk:fF n s
 ·exact Qa rfl (no (Q5 fun f=>f.2.2.2.2.1 (by simp[eN,hk])))
 ·exact Qq rfl (Qa hall rfl)
def Bv:=Bu.b8 54 Qoe
theorem QvS:Qk Tryz.prog cu Bv:=QvP.cQ Qb fun args d h=>by
 unfold Qoe at h
 split at h
 ·obtain⟨h1,rfl⟩:=ak h;exact⟨by simp[D.refs],40,QBg _ _ _ _ _ _ _ _ _ _ _ _ _ _ _ _ _ h1⟩
 ·cases h
theorem D6{l:bK}(h:Yu l=true):∀s∈l,Q8 s=true:=by
 simp only[Yu,ai]at h;exact aX.1 h.2
theorem On{l:bK}(h1:l.length=33)(h2:∀s∈l,Q8 s=true):Yu l=true:=by
 simp only[Yu,ai,aa];exact⟨h1,aX.2 h2⟩
theorem XM{l:bK}(h:Yu l=true):Qn l=true:=by
 have h1:=DZ h;rw[YT];refine⟨by omega,fun s hs=>Qe ?_⟩;have:=D6 h s hs;simp only[Q8,ai,aa]at this;omega
theorem ZI{now sure:bK}(h:Ql now sure=true):Yu now=true/\Yu sure=true/\qe now sure 0=true:=by
 simp only[Ql,ai]at h;exact⟨h.1.1,h.1.2,h.2⟩
theorem EU{now sure:bK}(hl:now.length=sure.length):qe now sure 0=true↔∀i,i<now.length->(sure.getD i cW).n<=(now.getD i cW).n:=by
 unfold qe;rw[bG,aX];constructor
 ·intro h i hi;have hz:i<(now.zip sure).length:=by simp;omega
  have h3:=h _ (bA hz);simp only[List.getElem_zip,aa]at h3;have qw:i<sure.length:=by omega
  simpa[hi,qw]using h3
 ·intro h p hp;obtain⟨i,hi,rfl⟩:=List.getElem_of_mem hp;have h1:i<now.length:=by simp at hi;omega
  have h2:i<sure.length:=by omega
  have:=h i h1;simp only[List.getElem_zip,aa]
  simpa[h1,h2]using this
theorem Kx{now sure:bK}(h:Ql now sure=true):Qn now=true/\Qn sure=true :=
 ⟨XM (ZI h).1,XM (ZI h).2.1⟩
theorem qK{now:bK}{k:Nat}{n:Int}{b:bL}{s:cE}(h:s∈KR now k n b):s∈now\/s=⟨n,b⟩:=by
 unfold KR at h
 split at h
 ·exact List.mem_or_eq_of_mem_set h
 ·exact .inl h
theorem H4{now:bK}{k:Nat}{n:Int}{b:bL}(hk:k<now.length)(j:Nat):(KR now k n b).getD j cW=if j=k/\(now.getD k cW).n<n then⟨n,b⟩else now.getD j cW:=by
 unfold KR
 by_cases h:(now.getD k cW).n<n
 ·rw[ax h]
  by_cases hj:j=k
  ·subst hj;rw[ax ⟨rfl,h⟩];simp[hk]
  ·rw[aw (fun q=>hj q.1)];simp only[ar];rw[List.getElem?_set_ne (fun q=>hj q.symm)]
 ·rw[aw h,aw (fun q=>h q.2)]
theorem JX{now sure:bK}{k n:Int}{b:bL}(h:QH now sure k n b=true):Ql (eD now sure k n b) (Zj now sure k n b)=true:=by
 obtain⟨hd,h0,h1,h2,h3,h4⟩:=Ku h;obtain⟨d1,d2,d3⟩:=ZI hd;obtain⟨l1,l2⟩:=Zg hd;simp only[eD,Zj,h,ag,Ql,ai];have hk:k.toNat<now.length:=by omega
 refine⟨⟨On (by rw[NB];exact l1) fun s hs=>?_,d2⟩,?_⟩
 ·rcases qK hs with q|rfl
  ·exact D6 d1 s q
  ·exact h4
 ·rw[EU (by rw[NB];omega)];intro i hi;rw[NB]at hi;have:=(EU (by omega)).1 d3 i hi;rw[H4 hk]
  split
  ·rename_i q;obtain⟨rfl,q⟩:=q;have h5:(sure.getD k.toNat cW).n<=(now.getD k.toNat cW).n:=this;show(sure.getD k.toNat cW).n<=n;omega
  ·exact this
theorem D7(now sure:bK)(k n:Int)(b:bL):Qn (eD now sure k n b)=true/\Qn (Zj now sure k n b)=true:=by
 cases h:QH now sure k n b
 ·simp only[eD,Zj,h,ah];exact⟨rfl,rfl⟩
 ·exact Kx (JX h)
theorem Qof{now sure:bK}{n:Int}{s:St}:QH now sure 32 n (eN n s)=(Ql now sure&&fF n s):=by
 cases h:QH now sure 32 n (eN n s)
 ·cases hd:Ql now sure
  ·rfl
  cases hk:fF n s
  ·rfl
  exfalso
  have h2:QH now sure 32 n (eN n s)=true:=by
   have hl := @Pv n s;have fg:=QHV hk;have Ss:(eN n s==[])=false:=by simpa using fg
   simp only[fF,ai,aa]at hk;have p1:decide (0<=n)=true:=by simp;omega
   have p2:decide (n<=1048575)=true:=by simp;omega
   have p3:decide ((eN n s).length<=640)=true:=by simp;omega
   have p4:decide (0<n)=true:=by simp;omega
   have p5:decide (1<=n)=true:=by simp;omega
   simp only[QH,hd,Q8,Ss,p1,p2,p3,p4,p5];rfl
  rw[h2]at h;cases h
 ·obtain⟨h1,h2,h3,h4,h5,h6⟩:=Ku h;rw[h1];cases hk:fF n s
  ·exact absurd (by simp[eN,hk]) h5
  ·rfl
theorem Qog(now sure:bK):JG now sure 32=Ql now sure:=by simp[JG]
theorem QvT{a b:bK}{n:Int}{s:St}(h1:Ql a b=true)(hk:fF n s=true)(h:a.getD 32 cW=⟨n,eN n s⟩):kg a b=0/\ef a b=some s/\jH a b=n:=by
 have e:ja a b 32=⟨n,eN n s⟩:=by simp only[ja,Qog,h1,ag];exact h
 have hn:(n==0)=false:=by simp only[fF,ai,aa]at hk;simp;omega
 simp only[kg,ef,jH,Qog,h1,e,QFR hk,hn,ag,ah,Option.isNone_some,and_self]
theorem H5(lost:Int):∀(k i:Nat) (n s:bK),i+k<=n.length->i+k<=s.length->∀j,(dK lost k i n s).1.getD j cW=(if i<=j/\j<i+k then(if CP lost j=true then s.getD j cW else n.getD j cW)else n.getD j cW)/\(dK lost k i n s).2.getD j cW=(if i<=j/\j<i+k then(if CP lost j=true then s.getD j cW else n.getD j cW)else s.getD j cW)
 |0,i,n,s,_,_,j=>by
  rw[aw (by omega),aw (by omega)];exact⟨rfl,rfl⟩
 |k+1,i,n,s,h1,h2,j=>by
  unfold dK
  have kD:∀(l:bK) (x:cE),i<l.length->(l.set i x).getD j cW=if j=i then x else l.getD j cW:=by
   intro l x hl
   by_cases e:j=i
   ·subst e;simp[hl]
   ·rw[aw e];simp only[ar];rw[List.getElem?_set_ne (fun q=>e q.symm)]
  by_cases hb:CP lost i=true
  ·rw[ax hb];obtain⟨q1,q2⟩:=H5 lost k (i+1) (n.set i (s.getD i cW)) s (by rw[bf];omega) (by omega) j;rw[q1,q2,kD _ _ (by omega)]
   by_cases e:j=i
   ·subst e;have f1:¬(j+1<=j/\j<j+1+k):=by omega
    have f2:j<=j/\j<j+(k+1):=by omega
    simp only[f1,f2,hb,aU,aL,and_self,bu]
   ·by_cases e2:i+1<=j/\j<i+1+k
    ·have f2:i<=j/\j<i+(k+1):=by omega
     simp only[e,e2,f2,aU,aL,and_self]
    ·have f2:¬(i<=j/\j<i+(k+1)):=by omega
     simp only[e,e2,f2,aU,aL,and_self]
  ·rw[aw hb];obtain⟨q1,q2⟩:=H5 lost k (i+1) n (s.set i (n.getD i cW)) (by omega) (by rw[bf];omega) j;rw[q1,q2,kD _ _ (by omega)]
   by_cases e:j=i
   ·subst e;have f1:¬(j+1<=j/\j<j+1+k):=by omega
    have f2:j<=j/\j<j+(k+1):=by omega
    simp only[f1,f2,hb,aU,aL,and_self,bu]
   ·by_cases e2:i+1<=j/\j<i+1+k
    ·have f2:i<=j/\j<i+(k+1):=by omega
     simp only[e,e2,f2,aU,aL,and_self]
    ·have f2:¬(i<=j/\j<i+(k+1)):=by omega
     simp only[e,e2,f2,aU,aL,and_self]
theorem QBh{l m:bK}(h:l.length=m.length)(hg:∀j,l.getD j cW=m.getD j cW):l=m:=by
 refine List.ext_getElem h fun i h1 h2=>?_;have:=hg i
 simpa[h1,h2]using this
theorem Qoh{l:bK}{s:cE}(h:s∈l):∃j,j<l.length/\s=l.getD j cW:=by
 obtain⟨i,hi,rfl⟩:=List.getElem_of_mem h;exact⟨i,hi,by simp[hi]⟩
theorem QBi{now sure:bK}(lost:Int)(h:Ql now sure=true):(dK lost 33 0 now sure).1=(dK lost 33 0 now sure).2/\Ql (dK lost 33 0 now sure).1 (dK lost 33 0 now sure).2=true/\((dK lost 33 0 now sure).1.getD 32 cW=now.getD 32 cW\/(dK lost 33 0 now sure).1.getD 32 cW=sure.getD 32 cW):=by
 obtain⟨d1,d2,d3⟩:=ZI h;obtain⟨l1,l2⟩:=Zg h;obtain⟨c1,c2⟩:=NC lost 33 0 now sure;have ha:=H5 lost 33 0 now sure (by omega) (by omega)
 have he:(dK lost 33 0 now sure).1=(dK lost 33 0 now sure).2:=QBh (by omega) fun j=>by
  obtain⟨q1,q2⟩:=ha j;rw[q1,q2]
  by_cases e:0<=j/\j<0+33
  ·rw[ax e,ax e]
  ·rw[aw e,aw e];have n1:now.length<=j:=by omega
   have n2:sure.length<=j:=by omega
   simp[n1,n2]
 have hr:Yu (dK lost 33 0 now sure).1=true:=On (by omega) fun s hs=>by
  obtain⟨j,hj,rfl⟩:=Qoh hs;rw[(ha j).1,ax (by omega)];have m1:Q8 (sure.getD j cW)=true:=D6 d2 _ (by simp[show j<sure.length from by omega]);have m2:Q8 (now.getD j cW)=true:=D6 d1 _ (by simp[show j<now.length from by omega])
  split
  ·exact m1
  ·exact m2
 refine⟨he,?_,?_⟩
 ·rw[<-he];simp only[Ql,hr,Bool.true_and];rw[EU rfl];intro i _;exact Int.le_refl _
 ·rw[(ha 32).1,ax (by omega)]
  split
  ·exact .inr rfl
  ·exact .inl rfl
theorem Ky{l:bK}(h:Yu l=true):Ql l l=true:=by
 simp only[Ql,h,Bool.true_and];rw[EU rfl];intro i _;exact Int.le_refl _
theorem Qmc{now sure:bK}{s:St}(h:ef now sure=some s):Qu s=true:=by
 unfold ef at h;cases h1:JG now sure 32
 ·rw[h1]at h;cases h
 rw[h1]at h;cases h2:((ja now sure 32).n==0)
 ·rw[h2]at h;simp only[ag,ah,lg,Option.bind_eq_some_iff]at h;obtain⟨_,_,_,h3,h4⟩:=h
  split at h4
  ·cases h4;exact Qj0 h3
  ·cases h4
 ·rw[h2]at h;cases h
theorem UP{now sure:bK}{n:Int}{b:bL}(h:QH now sure 32 n b=true):(eD now sure 32 n b).getD 32 cW=if(now.getD 32 cW).n<n then⟨n,b⟩else now.getD 32 cW:=by
 obtain⟨l1,l2⟩:=Zg (Ku h).1;simp only[eD,h,ag];rw[H4 (by omega)]
 by_cases q:(now.getD 32 cW).n<n
 ·rw[ax ⟨rfl,q⟩,ax q]
 ·rw[aw (fun e=>q e.2),aw q]
def ej(p:Int):Int:=if p<0 then 0 else p%32
def fD(r:Rec):bL:=bif dW r then YJ r.place (VL r)else[]
def FE(s:cE)(p:Int):gi:=if s.n=p then(p7 s).bind fun l=>(Yb l).bind fun r=>if r.place=p then some r else none else none
def kH(now sure:bK)(p:Int):gi:=if Ql now sure=true/\1<=p/\p<=1048575 then FE (now.getD (ej p).toNat cW) p else none
def jV(now sure:bK):Nat->Int->bS
 |0,_=>[]
 |n+1,p=>match kH now sure p with
  |some r=>r::jV now sure n (p+1)
  |none=>[]
def jI(now sure:bK)(b:Int):bS:=bif Ql now sure&&decide (0<=b/\b<=1048575)then jV now sure 32 (b+1)else[]
def wq(now sure:bK)(b:Int):Int:=bif Ql now sure&&decide (0<=b/\b<=1048575)then 0 else 2
theorem XN p:0<=ej p/\ej p<32:=by
 unfold ej;split<;>omega
theorem Qoi now sure:∀(n:Nat) (p:Int),(jV now sure n p).length<=n
 |0,p=>by simp[jV]
 |n+1,p=>by
  unfold jV
  split
  ·have:=Qoi now sure n (p+1);simp;omega
  ·simp
theorem QFU{now sure:bK}{p:Int}{r:Rec}(h:kH now sure p=some r):dW r=true/\r.place=p/\Ql now sure=true/\1<=p/\p<=1048575:=by
 unfold kH at h
 split at h
 ·rename_i q;unfold FE at h
  split at h
  ·rw[Option.bind_eq_some_iff]at h;obtain⟨w,_,h⟩:=h;rw[Option.bind_eq_some_iff]at h;obtain⟨r',h1,h⟩:=h
   split at h
   ·rename_i e;cases h;exact⟨Qvo h1,e,q⟩
   ·cases h
  ·cases h
 ·cases h
theorem JH{r:Rec}(h:dW r=true):r.writes.length<=4:=(Vw (p:=r.place) (y:=r.yes) (l:=r.writes) h).2.1
theorem Qoj now sure:∀(n:Nat) (p:Int),∀r∈jV now sure n p,dW r=true
 |0,p,r,h=>by simp[jV]at h
 |n+1,p,r,h=>by
  unfold jV at h
  split at h
  ·rename_i r' h';rcases aZ.1 h with rfl|h
   ·exact(QFU h').1
   ·exact Qoj now sure n (p+1) r h
  ·simp at h
theorem Qok now sure b:(jI now sure b).length<=32:=by
 unfold jI;cases Ql now sure&&decide (0<=b/\b<=1048575)
 ·simp
 ·exact Qoi _ _ _ _
theorem Qol now sure b:∀r∈jI now sure b,dW r=true:=by
 unfold jI;cases Ql now sure&&decide (0<=b/\b<=1048575)
 ·simp
 ·exact Qoj _ _ _ _
open Go.Proofs
def qp(r:Rec):Int:=bif dW r then 0 else 2
theorem QFV p:(if p<0 then 0 else p).tmod 32=ej p:=by
 unfold ej
 split
 ·rfl
 ·rw[Int.tmod_eq_emod_of_nonneg (by omega)]
theorem UQ{r:Rec}(h:dW r=true):okF r.place (VL r)=true/\(VL r).length<=13:=by
 have h1:=XJ h;have h2:=(Vw (p:=r.place) (y:=r.yes) (l:=r.writes) h).1;refine⟨?_,h1⟩;simp only[okF,ai,aa];omega
theorem QFW{now sure:bK}{p:Int}(h:Ql now sure=false):kH now sure p=none:=aw (by rw[h];simp)
theorem QvU{now sure:bK}{p:Int}(h:¬(1<=p/\p<=1048575)):kH now sure p=none:=aw (fun e=>h e.2)
theorem QIZ{now sure:bK}(h:Ql now sure=true)(k:Nat):(now.getD k cW).b.length<=640:=by
 by_cases hk:k<now.length
 ·have e:now.getD k cW=now[k]:=by simp[hk]
  have:=D6 (ZI h).1 _ (bA hk);rw[e];simp only[Q8,ai,aa]at this;exact this.1.2
 ·have e:now.getD k cW=cW:=by simp[hk]
  rw[e];simp[cW]
def XO:bW->bO
 |[.int .i64 p]=>some (true,.int .i64 (ej p))
 |_=>none
def Qkd(p:Int):=eO cu Bv 20 180 [.int .i64 p]
theorem Qri p:Qkd p=(some (D.int .i64 (Int.tmod (if p<(0:Int)then(0:Int)else p) (32:Int)))):=by kernel_rfl
theorem Qrj p(h:(true)=true):Qkd p=some (.int .i64 (ej p)):=by
 rw[Qri];rw[QFV]
def Bw:=Bv.b8 180 XO
theorem QvV:Qk Tryz.prog cu Bw:=QvS.cQ Qb fun args d h=>by
 unfold XO at h
 split at h
 ·obtain⟨h1,rfl⟩:=ak h;exact⟨by simp[D.refs],20,Qrj _ h1⟩
 ·cases h
def XP:bW->bO
 |[.int .i64 p]=>some (true,.int .i64 (ej p))
 |_=>none
def Qkf(p:Int):=eO cu Bw 20 56 [.int .i64 p]
theorem Qrk p:Qkf p=(bif decide (p<(0:Int))then some (D.int .i64 0)else some (D.int .i64 (Int.tmod p (32:Int)))):=by kernel_rfl
theorem Qrl p(h:(true)=true):Qkf p=some (.int .i64 (ej p)):=by
 rw[Qrk];refine Qw (fun e=>?_) fun e=>?_
 ·simp only[aa]at e;rw[ej,ax e]
 ·simp only[ae]at e;rw[ej,aw e,Int.tmod_eq_emod_of_nonneg (by omega)]
def Bx:=Bw.b8 56 XP
theorem QvW:Qk Tryz.prog cu Bx:=QvV.cQ Qb fun args d h=>by
 unfold XP at h
 split at h
 ·obtain⟨h1,rfl⟩:=ak h;exact⟨by simp[D.refs],20,Qrl _ h1⟩
 ·cases h
def Qkg:bW->bO
 |[.bI (.int .i64 p) (.bI (.bool y) (.bI (.sl .write c l) .bN))]=>some (Qd l.length,.cG (.bI (.str (fD ⟨p,y,l⟩)) (cH (qp ⟨p,y,l⟩) .bN)))
 |_=>none
def Qon(p:Int)(y c:Bool)(l:ca):=eO cu Bx 20 55 [.bI (.int .i64 p) (.bI (.bool y) (cL .write c l .bN))]
theorem QvX p y c l:Qon p y c l=(let Z0:List (RA b9.u8):=(fun(l:List (RA b9.u8))=>l) (bif dW (Rec.mk p y l)then VL (Rec.mk p y l)else []);b7 (Qd l.length) (bif (bif dW (Rec.mk p y l)then (0:Int)else (2:Int))!=0 then some (D.cG (D.bI (D.str (Array.toList #[])) (.bI (cj 2) .bN)))else b7 (decide (Z0.length<=1000000)) (some (D.cG (D.bI (D.str (bif okF p Z0 then YJ p Z0 else [])) (.bI (cj (bif okF p Z0 then (0:Int)else (2:Int))) .bN)))))):=by kernel_rfl
theorem QvY p y c l(h:(Qd l.length)=true):Qon p y c l=some (.cG (.bI (.str (fD ⟨p,y,l⟩)) (cH (qp ⟨p,y,l⟩) .bN))):=by
 (rw[QvX];delta b7 cj;conv=>zeta)
 refine Qa h ?_;cases hm:dW ⟨p,y,l⟩
 ·simp only[fD,qp,hm];rfl
 ·obtain⟨h1,h2⟩:=UQ hm;have h3:decide ((VL ⟨p,y,l⟩).length<=1000000)=true:=ab (by omega);simp only[fD,qp,hm,h1,h3,ag,ah,bg];rfl
def By:=Bx.b8 55 Qkg
theorem QvZ:Qk Tryz.prog cu By:=QvW.cQ Qb fun args d h=>by
 unfold Qkg at h
 split at h
 ·obtain⟨h1,rfl⟩:=ak h;exact⟨by simp[D.refs],20,QvY _ _ _ _ h1⟩
 ·cases h
def UR:bW->bO
 |[.bI (.sl .bR c now) (.bI (.sl .bR d sure) .bN),.int .i64 p]=>some (Qn now&&Qn sure,.cG (.bI (cH (iT (kH now sure p)).place (.bI (.bool (iT (kH now sure p)).yes) (cL .write (kH now sure p).isNone (iT (kH now sure p)).writes .bN))) (.bI (.bool (kH now sure p).isSome) .bN)))
 |_=>none
def Wa(c:Bool)(now:bK)(d:Bool)(sure:bK)(p:Int):=eO cu By 60 148 [.bI (.sl (C:=RC) .bR c now) (cL .bR d sure .bN),.int .i64 p]
theorem QHY c now d sure p:Wa c now d sure p=(let Z0:fI:=some (D.cG (D.bI (D.bI (cj 0) (.bI (D.bool false) (.bI (D.sl b9.write true []) .bN))) (.bI (D.bool false) .bN)));let Z1:cE:=List.getD now (ej p).toNat (cE.mk 0 []);let Z2:fG:=p7 (cE.mk (cE.n Z1) (cE.b Z1));let Z3:bL:=(fun(l:bL)=>l) (Option.getD Z2 []);let Z4:=Option.isNone (Yb Z3);let Z5:Rec:=iT (Yb Z3);b7 (Qn now&&Qn sure) (bif (bif Ql now sure then (0:Int)else (2:Int))!=0 then Z0 else bif decide (p<1)then Z0 else bif decide ((0:Int)<=p)then bif !decide (p<=1048575)then Z0 else b7 (dH (ej p) (now.length:Int)) (bif !cE.n Z1==p then Z0 else b7 (decide (List.length (cE.b Z1)<=1000000)) (bif !Option.isSome Z2 then Z0 else b7 (Qg (Option.getD Z2 []).length 1) (b7 (decide (Z3.length<=1000000)) (bif (bif Z4 then (50:Int)else (0:Int))==0 then bif !Rec.place Z5==p then Z0 else some (D.cG (D.bI (D.bI (cj Z5.place) (.bI (D.bool Z5.yes) (.bI (D.sl b9.write Z4 Z5.writes) .bN))) (.bI (D.bool true) .bN)))else Z0))))else Z0)):=by kernel_rfl
theorem QHZ c now d sure p(h:(Qn now&&Qn sure)=true):Wa c now d sure p=some (.cG (.bI (cH (iT (kH now sure p)).place (.bI (.bool (iT (kH now sure p)).yes) (cL .write (kH now sure p).isNone (iT (kH now sure p)).writes .bN))) (.bI (.bool (kH now sure p).isSome) .bN))):=by
 (rw[QHY];delta b7 dH cj;conv=>zeta)
 have no:kH now sure p=none->some (D.cG (.bI (cH 0 (.bI (.bool false) (cL .write true [] .bN))) (.bI (.bool false) .bN)))=some (.cG (.bI (cH (iT (kH now sure p)).place (.bI (.bool (iT (kH now sure p)).yes) (cL .write (kH now sure p).isNone (iT (kH now sure p)).writes .bN))) (.bI (.bool (kH now sure p).isSome) .bN))):=fun e=>by simp only[e];rfl
 refine Qa h ?_;cases hd:Ql now sure
 ·exact Qa rfl (no (QFW hd))
 obtain⟨l1,l2⟩:=Zg hd;refine Qq rfl ?_;refine Qw (fun e=>no (QvU (by simp only[aa]at e;omega))) fun e1=>?_;simp only[ae]at e1;refine Qa (ab (by omega)) ?_;refine Qw (fun e=>no (QvU (by simp only[Bool.not_eq_true',ae]at e;omega))) fun e2=>?_;simp only[Bool.not_eq_false',aa]at e2;obtain⟨s0,s1⟩:=XN p;refine Qa (ab (by omega)) ?_;have hb:=QIZ hd (ej p).toNat;have eq:kH now sure p=FE (now.getD (ej p).toNat cW) p:=ax ⟨hd,by omega,e2⟩;have e0:(⟨0,[]⟩:cE)=cW:=rfl;rw[e0];generalize now.getD (ej p).toNat cW=s at hb eq ⊢;obtain⟨n,b⟩:=s
 dsimp only at hb eq ⊢
 have hf:=Qvt ⟨n,b⟩
 dsimp only at hf
 rcases Decidable.em (n=p)with hn|hn;rotate_left
 ·exact Qa (by rw[CX hn];rfl) (no (eq.trans (aw hn)))
 refine Qq (by rw[CW hn];rfl) ?_;have eq:=eq.trans (ax hn);refine Qa (ab (by omega)) ?_;cases ho:p7 ⟨n,b⟩with
 |none=>exact Qa rfl (no (by rw[eq,ho];rfl))
 |some w=>
  rw[ho]at hf eq;simp only[ba,Option.bind_some]at hf eq;refine Qq rfl ?_;simp only[ba];refine Qa (Zt (by omega)) ?_;refine Qa (ab (by show w.length<=1000000;omega)) ?_;have hr:Yb w=none\/∃r,Yb w=some r:=by cases Yb w<;>simp
  rcases hr with hr|⟨r,hr⟩
  ·rw[hr]at eq ⊢;exact Qq rfl (no eq)
  ·rw[hr]at eq ⊢;refine Qa rfl ?_;simp only[Option.bind_some]at eq
   by_cases hp:r.place=p
   ·refine Qq (by show(!(r.place==p))=false;rw[CW hp];rfl) ?_;rw[eq.trans (ax hp)];rfl
   ·exact Qa (by show(!(r.place==p))=true;rw[CX hp];rfl) (no (eq.trans (aw hp)))
def Bz:=By.b8 148 UR
theorem Qv0:Qk Tryz.prog cu Bz:=QvZ.cQ Qb fun args d h=>by
 unfold UR at h
 split at h
 ·obtain⟨h1,rfl⟩:=ak h;exact⟨by simp[D.refs],60,QHZ _ _ _ _ _ h1⟩
 ·cases h
def Qoo:bW->bO
 |[.bI (.sl .bR c now) (.bI (.sl .bR d sure) .bN),.bI (.int .i64 p) (.bI (.bool y) (.bI (.sl .write cw l) .bN))]=>some (Qn now&&Qn sure&&Qd l.length,.cG (.bI (cL .bR (!QH now sure (ej p) p (fD ⟨p,y,l⟩)) (eD now sure (ej p) p (fD ⟨p,y,l⟩)) (cL .bR (!QH now sure (ej p) p (fD ⟨p,y,l⟩)) (Zj now sure (ej p) p (fD ⟨p,y,l⟩)) .bN)) (cH (bif QH now sure (ej p) p (fD ⟨p,y,l⟩)then 0 else 2) .bN)))
 |_=>none
def Qv2(c:Bool)(now:bK)(d:Bool)(sure:bK)(p:Int)(y cw:Bool)(l:ca):=eO cu Bz 60 22 [.bI (.sl (C:=RC) .bR c now) (cL .bR d sure .bN),.bI (.int .i64 p) (.bI (.bool y) (cL .write cw l .bN))]
theorem QBj c now d sure p y cw l:Qv2 c now d sure p y cw l=(let Z0:bV:=D.sl b9.bR true [];let Z1:fI:=some (D.cG (D.bI (D.bI Z0 (D.bI Z0 .bN)) (.bI (cj 2) .bN)));let Z2:=Qn now&&Qn sure;let Z3:bL:=fD (Rec.mk p y l);let Z4:=QH now sure (ej p) p Z3;b7 (Qd l.length) (bif qp (Rec.mk p y l)!=0 then Z1 else b7 Z2 (bif (bif Ql now sure then (0:Int)else (2:Int))!=0 then Z1 else b7 (Z2&&Qd Z3.length) (some (D.cG (D.bI (D.bI (D.sl b9.bR (!Z4) (eD now sure (ej p) p Z3)) (.bI (D.sl b9.bR (!Z4) (Zj now sure (ej p) p Z3)) .bN)) (.bI (cj (bif Z4 then (0:Int)else (2:Int))) .bN))))))):=by kernel_rfl
theorem QBk c now d sure p y cw l(h:(Qn now&&Qn sure&&Qd l.length)=true):Qv2 c now d sure p y cw l=some (.cG (.bI (cL .bR (!QH now sure (ej p) p (fD ⟨p,y,l⟩)) (eD now sure (ej p) p (fD ⟨p,y,l⟩)) (cL .bR (!QH now sure (ej p) p (fD ⟨p,y,l⟩)) (Zj now sure (ej p) p (fD ⟨p,y,l⟩)) .bN)) (cH (bif QH now sure (ej p) p (fD ⟨p,y,l⟩)then 0 else 2) .bN))):=by
 (rw[QBj];delta b7 cj;conv=>zeta)
 simp only[ai]at h;obtain⟨⟨hg,o7⟩,hl⟩:=h;refine Qa hl ?_;cases hm:dW ⟨p,y,l⟩
 ·have e1:fD ⟨p,y,l⟩=[]:=by simp only[fD,hm];rfl
  have e2:QH now sure (ej p) p []=false:=Q5 fun f=>f.2.2.2.2.1 rfl;rw[e1,e2];simp only[qp,hm,eD,Zj,e2];rfl
 ·have e3:Qd (fD ⟨p,y,l⟩).length=true:=by
   have:=(UQ hm).2;simp only[fD,hm,ag,VV];exact Qe (by omega)
  refine Qq (by simp only[qp,hm];rfl) ?_;rw[hg,o7,e3];cases hd:Ql now sure
  ·have e2:QH now sure (ej p) p (fD ⟨p,y,l⟩)=false:=Q5 fun f=>by rw[hd]at f;cases f.1
   simp only[eD,Zj,e2];rfl
  ·rfl
def BA:=Bz.b8 22 Qoo
theorem Qv3:Qk Tryz.prog cu BA:=Qv0.cQ Qb fun args d h=>by
 unfold Qoo at h
 split at h
 ·obtain⟨h1,rfl⟩:=ak h;exact⟨by simp[D.refs],60,QBk _ _ _ _ _ _ _ _ h1⟩
 ·cases h
open Go.Proofs
def eR(o:gi):Rec:=⟨(iT o).place,(iT o).yes,(iT o).writes⟩
def zA(e:Bool)(l:bS):iF:=some (.cG (cL .dU e l (cH 0 .bN)))
def tW(now sure:bK)(b:Int):Nat->Nat->Bool->bS->iF
 |0,_,e,acc=>zA e acc
 |n+1,i,e,acc=>bif Qn now&&Qn sure then(bif !(kH now sure (IntKind.i64.wrap (b+(i:Int)))).isSome then zA e acc else tW now sure b n (i+1) false (acc++[eR (kH now sure (IntKind.i64.wrap (b+(i:Int))))]))else none
theorem Qv4{now sure:bK}{n:Nat}{p:Int}{r:Rec}(h:kH now sure p=some r):jV now sure (n+1) p=r::jV now sure n (p+1):=by
 conv=>lhs;unfold jV
 rw[h]
theorem Qv5{now sure:bK}{b:Int}(hg:(Qn now&&Qn sure)=true)(h0:0<=b)(h1:b<=1048575):∀(n i:Nat) (e:Bool) (acc:bS),i+n<=1000 ->
 tW now sure b n i e acc=zA (e&&(jV now sure n (b+(i:Int))).isEmpty) (acc++jV now sure n (b+(i:Int)))
 |0,i,e,acc,_=>by simp[tW,jV]
 |n+1,i,e,acc,h=>by
  have w:IntKind.i64.wrap (b+(i:Int))=b+(i:Int):=cC (by omega) (by omega);unfold tW;rw[hg,w];cases ha:kH now sure (b+(i:Int))with
  |none=>simp[jV,ha]
  |some r=>
   have e1:b+((i+1:Nat):Int)=b+(i:Int)+1:=by omega
   have:=Qv5 hg h0 h1 n (i+1) false (acc++[eR (some r)]) (by omega);rw[e1]at this;simp only[Option.isSome_some,bg,ag,ah,this];rw[Qv4 ha];simp[eR,iT]
def zx(now sure:bK)(b:Int):iF:=
 bif Qn now&&Qn sure then(bif(bif Ql now sure then(0:Int)else 2)!=0 then some (.cG (cL .dU true [] (cH 2 .bN)))else bif decide (0<=b)then(bif !decide (b<=1048575)then some (.cG (cL .dU true [] (cH 2 .bN)))else tW now sure b 32 1 true [])else some (.cG (cL .dU true [] (cH 2 .bN))))else none
theorem QFX{now sure:bK}{b:Int}(h:(Qn now&&Qn sure)=true):zx now sure b=some (.cG (cL .dU (jI now sure b).isEmpty (jI now sure b) (cH (wq now sure b) .bN))):=by
 unfold zx jI wq;rw[h];cases hd:Ql now sure
 ·rfl
 by_cases q:0<=b/\b<=1048575
 ·have t:=Qv5 h q.1 q.2 32 1 true [] (by omega);rw[ab q,ab q.1,ab q.2,t];rfl
 ·rw[ad q];cases h1:decide (0<=b)
  ·rfl
  cases h2:decide (b<=1048575)
  ·rfl
  simp only[aa]at h1 h2;exact absurd ⟨h1,h2⟩ q
def Qop:bW->bO
 |[.bI (.sl .bR c now) (.bI (.sl .bR d sure) .bN),.int .i64 b]=>some (Qn now&&Qn sure,.cG (cL .dU (jI now sure b).isEmpty (jI now sure b) (cH (wq now sure b) .bN)))
 |_=>none
def Qv7(c:Bool)(now:bK)(d:Bool)(sure:bK)(b:Int):=eO cu BA 800 35 [.bI (.sl (C:=RC) .bR c now) (cL .bR d sure .bN),.int .i64 b]
theorem QFY c now d sure b:Qv7 c now d sure b=zx now sure b:=by kernel_rfl
theorem QBl c now d sure b(h:(Qn now&&Qn sure)=true):Qv7 c now d sure b=some (.cG (cL .dU (jI now sure b).isEmpty (jI now sure b) (cH (wq now sure b) .bN))):=by
 rw[QFY];exact QFX h
def BB:=BA.b8 35 Qop
theorem Qv8:Qk Tryz.prog cu BB:=Qv3.cQ Qb fun args d h=>by
 unfold Qop at h
 split at h
 ·obtain⟨h1,rfl⟩:=ak h;exact⟨by simp[D.refs],800,QBl _ _ _ _ _ h1⟩
 ·cases h
def dY(first n many:Int):Int:=if 0<=n/\n<many then first+n else -1
def da(q o:Int):Int:=if 0<=q/\q<=2/\0<=o then 51+16*q+o%16 else -1
def dt(first slot f many fields:Int):Int:=if 0<=slot/\slot<many/\0<=f/\f<fields then first+slot*fields+f else -1
def Yj(c w d n:Int):Bool:=Qm c 1 4&&Qm w 2 8&&Qm d 1 4&&Qm n 4 40
def pE(c w d n mZ:Int)(node:Bool):Int×Int:=if Yj c w d n=true/\0<=mZ/\mZ<c then(mZ*(bif node then n else d),bif node then n else d)else(0,0)
theorem VW(n:Int):(BitVec.ofInt IntKind.i64.bits n).toNat=(n%18446744073709551616).toNat:=by
 rw[BitVec.toNat_ofInt];simp only[IntKind.bits]
 congr 1
theorem VX{x a b:Int}(h:Qm x a b=false):¬(a<=x/\x<=b):=by rw[<-Qf];simp[h]
theorem Qv9{p w:Int}(h:0<=p):p.tmod w=p%w:=Int.tmod_eq_emod_of_nonneg h
theorem JI{α:Type}{c:Bool}{x y z:α}(h1:c=true->x=z)(h2:c=false->y=z):cond c x y=z:=by cases c;exact h2 rfl;exact h1 rfl
theorem QBm{c w d n:Int}(h:Yj c w d n=true):(1<=c/\c<=4)/\(2<=w/\w<=8)/\(1<=d/\d<=4)/\4<=n/\n<=40:=by
 simp only[Yj,ai,Qf]at h;omega
def QK:bQ:=0::1::List.replicate 289 0++(List.replicate 160 [(0:Int),-1,0]).flatten
open Go.Proofs
def US:bW->bO
 |[.int .i64 n,.int .i64 a,.int .i64 b]=>some (true,.bool (Qm n a b))
 |_=>none
def UY(n a b:Int):=eO cu BB 20 101 [.int .i64 n,.int .i64 a,.int .i64 b]
theorem QH2 n a b:UY n a b=(bif decide (a<=n)then some (D.bool (decide (n<=b)))else some (D.bool false)):=by kernel_rfl
theorem QH3 n a b(h:(true)=true):UY n a b=some (.bool (Qm n a b)):=by
 rw[QH2];rw[Qm];cases decide (a<=n)<;>simp
def BC:=BB.b8 101 US
theorem Qwa:Qk Tryz.prog cu BC:=Qv8.cQ Qb fun args d h=>by
 unfold US at h
 split at h
 ·obtain⟨h1,rfl⟩:=ak h;exact⟨by simp[D.refs],20,QH3 _ _ _ h1⟩
 ·cases h
def XQ:bW->bO
 |[.int .i64 q,.int .i64 o]=>some (true,.int .i64 (da q o))
 |_=>none
def Qki(q o:Int):=eO cu BC 20 118 [.int .i64 q,.int .i64 o]
theorem Qrm q o:Qki q o=(let Z0:fI:=some (cj (-1:Int));bif !Qm q (0:Int) (2:Int)then Z0 else bif decide (o<(0:Int))then Z0 else some (cj (c6 (c6 ((51:Int)+c6 ((16:Int)*q))+Int.tmod o (16:Int))))):=by kernel_rfl
theorem Qrn q o(h:(true)=true):Qki q o=some (.int .i64 (da q o)):=by
 (rw[Qrm];delta cj c6;conv=>zeta)
 unfold da;cases h1:Qm q 0 2
 ·have h2:=VX h1;rw[aw (by omega)];rfl
 ·rw[Qf]at h1;simp only[bg,ah];refine JI (fun h0=>?_) fun h0=>?_<;>simp only[aa,ae]at h0
  ·rw[aw (by omega)]
  ·rw[Qv9 (by omega),cC (n:=16*q) (by omega) (by omega),cC (n:=51+16*q) (by omega) (by omega),cC (by omega) (by omega),ax ⟨h1.1,h1.2,by omega⟩]
def BD:=BC.b8 118 XQ
theorem Qwb:Qk Tryz.prog cu BD:=Qwa.cQ Qb fun args d h=>by
 unfold XQ at h
 split at h
 ·obtain⟨h1,rfl⟩:=ak h;exact⟨by simp[D.refs],20,Qrn _ _ h1⟩
 ·cases h
def Qoq:bW->bO
 |[.int .i64 a,.int .i64 n,.int .i64 m]=>some (true,.int .i64 (bif decide (0<=n)&&decide (n<m)then IntKind.i64.wrap (a+n)else -1))
 |_=>none
def Qwd(a n m:Int):=eO cu BD 20 133 [.int .i64 a,.int .i64 n,.int .i64 m]
theorem QBn a n m:Qwd a n m=(let Z0:fI:=some (cj (-1:Int));bif decide (n<(0:Int))then Z0 else bif decide (m<=n)then Z0 else some (cj (c6 (a+n)))):=by kernel_rfl
theorem QBo a n m(h:(true)=true):Qwd a n m=some (.int .i64 (bif decide (0<=n)&&decide (n<m)then IntKind.i64.wrap (a+n)else -1)):=by
 (rw[QBn];delta cj c6;conv=>zeta)
 refine JI (fun h0=>?_) fun h0=>?_<;>simp only[aa,ae]at h0
 ·rw[ad (p:=0<=n) (by omega)];rfl
 refine JI (fun h1=>?_) fun h1=>?_<;>simp only[aa,ae]at h1
 ·rw[ad (p:=n<m) (by omega),Bool.and_false];rfl
 ·rw[ab (p:=0<=n) (by omega),ab (p:=n<m) (by omega)];rfl
def BE:=BD.b8 133 Qoq
theorem Qwe:Qk Tryz.prog cu BE:=Qwb.cQ Qb fun args d h=>by
 unfold Qoq at h
 split at h
 ·obtain⟨h1,rfl⟩:=ak h;exact⟨by simp[D.refs],20,QBo _ _ _ h1⟩
 ·cases h
def Qor:bW->bO
 |[.int .i64 a,.int .i64 s,.int .i64 n,.int .i64 m]=>some (true,.int .i64 (bif decide (0<=n)&&decide (n<m)then IntKind.i64.wrap (a+IntKind.i64.wrap (s*n))else -1))
 |_=>none
def Qwg(a s n m:Int):=eO cu BE 20 127 [.int .i64 a,.int .i64 s,.int .i64 n,.int .i64 m]
theorem QBp a s n m:Qwg a s n m=(let Z0:fI:=some (cj (-1:Int));bif decide (n<(0:Int))then Z0 else bif decide (m<=n)then Z0 else some (cj (c6 (a+c6 (s*n))))):=by kernel_rfl
theorem QBq a s n m(h:(true)=true):Qwg a s n m=some (.int .i64 (bif decide (0<=n)&&decide (n<m)then IntKind.i64.wrap (a+IntKind.i64.wrap (s*n))else -1)):=by
 (rw[QBp];delta cj c6;conv=>zeta)
 refine JI (fun h0=>?_) fun h0=>?_<;>simp only[aa,ae]at h0
 ·rw[ad (p:=0<=n) (by omega)];rfl
 refine JI (fun h1=>?_) fun h1=>?_<;>simp only[aa,ae]at h1
 ·rw[ad (p:=n<m) (by omega),Bool.and_false];rfl
 ·rw[ab (p:=0<=n) (by omega),ab (p:=n<m) (by omega)];rfl
def BF:=BE.b8 127 Qor
theorem Qwh:Qk Tryz.prog cu BF:=Qwe.cQ Qb fun args d h=>by
 unfold Qor at h
 split at h
 ·obtain⟨h1,rfl⟩:=ak h;exact⟨by simp[D.refs],20,QBq _ _ _ _ h1⟩
 ·cases h
def Qkj:bW->bO
 |[.int .i64 n]=>some (true,.int .i64 (dY 21 n 24))
 |_=>none
def Qot(n:Int):=eO cu BF 20 124 [.int .i64 n]
theorem Qwi n:Qot n=(some (D.int .i64 (bif decide ((0:Int)<=n)&&decide (n<(24:Int))then IntKind.wrap .i64 ((21:Int)+n)else(-1:Int)))):=by kernel_rfl
theorem Qwj n(h:(true)=true):Qot n=some (.int .i64 (dY 21 n 24)):=by
 rw[Qwi]
 congr 2
 unfold dY
 by_cases h0:0<=n
 ·by_cases h1:n<24
  ·simp(disch:=omega) only[ab h0,ab h1,au,ag,sA];rw[ax ⟨h0,h1⟩]
  ·simp only[ad h1,Bool.and_false,ah];rw[aw (by omega)]
 ·simp only[ad h0,Bool.false_and,ah];rw[aw (by omega)]
def BG:=BF.b8 124 Qkj
theorem Qwk:Qk Tryz.prog cu BG:=Qwh.cQ Qb fun args d h=>by
 unfold Qkj at h
 split at h
 ·obtain⟨h1,rfl⟩:=ak h;exact⟨by simp[D.refs],20,Qwj _ h1⟩
 ·cases h
def Qkk:bW->bO
 |[.int .i64 n]=>some (true,.int .i64 (dY 21 n 24))
 |_=>none
def Qov(n:Int):=eO cu BG 20 67 [.int .i64 n]
theorem Qwl n:Qov n=(some (D.int .i64 (bif decide ((0:Int)<=n)&&decide (n<(24:Int))then IntKind.wrap .i64 ((21:Int)+IntKind.wrap .i64 ((1:Int)*n))else(-1:Int)))):=by kernel_rfl
theorem Qwm n(h:(true)=true):Qov n=some (.int .i64 (dY 21 n 24)):=by
 rw[Qwl]
 congr 2
 unfold dY
 by_cases h0:0<=n
 ·by_cases h1:n<24
  ·simp(disch:=omega) only[ab h0,ab h1,au,ag,Int.one_mul,sA];rw[ax ⟨h0,h1⟩]
  ·simp only[ad h1,Bool.and_false,ah];rw[aw (by omega)]
 ·simp only[ad h0,Bool.false_and,ah];rw[aw (by omega)]
def BH:=BG.b8 67 Qkk
theorem Qwn:Qk Tryz.prog cu BH:=Qwk.cQ Qb fun args d h=>by
 unfold Qkk at h
 split at h
 ·obtain⟨h1,rfl⟩:=ak h;exact⟨by simp[D.refs],20,Qwm _ h1⟩
 ·cases h
def XR:bW->bO
 |[.int .i64 n]=>some (true,.int .i64 (dY 45 n 3))
 |_=>none
def Qkm(n:Int):=eO cu BH 20 119 [.int .i64 n]
theorem Qro n:Qkm n=(some (D.int .i64 (bif decide ((0:Int)<=n)&&decide (n<(3:Int))then IntKind.wrap .i64 ((45:Int)+n)else(-1:Int)))):=by kernel_rfl
theorem Qrp n(h:(true)=true):Qkm n=some (.int .i64 (dY 45 n 3)):=by
 rw[Qro]
 congr 2
 unfold dY
 by_cases h0:0<=n
 ·by_cases h1:n<3
  ·simp(disch:=omega) only[ab h0,ab h1,au,ag,sA];rw[ax ⟨h0,h1⟩]
  ·simp only[ad h1,Bool.and_false,ah];rw[aw (by omega)]
 ·simp only[ad h0,Bool.false_and,ah];rw[aw (by omega)]
def BI:=BH.b8 119 XR
theorem Qwo:Qk Tryz.prog cu BI:=Qwn.cQ Qb fun args d h=>by
 unfold XR at h
 split at h
 ·obtain⟨h1,rfl⟩:=ak h;exact⟨by simp[D.refs],20,Qrp _ h1⟩
 ·cases h
def Qow:bW->bO
 |[.int .i64 n]=>some (true,.int .i64 (dY 48 n 3))
 |_=>none
def Qwq(n:Int):=eO cu BI 20 74 [.int .i64 n]
theorem QBr n:Qwq n=(some (D.int .i64 (bif decide ((0:Int)<=n)&&decide (n<(3:Int))then IntKind.wrap .i64 ((48:Int)+n)else(-1:Int)))):=by kernel_rfl
theorem QBs n(h:(true)=true):Qwq n=some (.int .i64 (dY 48 n 3)):=by
 rw[QBr]
 congr 2
 unfold dY
 by_cases h0:0<=n
 ·by_cases h1:n<3
  ·simp(disch:=omega) only[ab h0,ab h1,au,ag,sA];rw[ax ⟨h0,h1⟩]
  ·simp only[ad h1,Bool.and_false,ah];rw[aw (by omega)]
 ·simp only[ad h0,Bool.false_and,ah];rw[aw (by omega)]
def BJ:=BI.b8 74 Qow
theorem Qwr:Qk Tryz.prog cu BJ:=Qwo.cQ Qb fun args d h=>by
 unfold Qow at h
 split at h
 ·obtain⟨h1,rfl⟩:=ak h;exact⟨by simp[D.refs],20,QBs _ h1⟩
 ·cases h
def Qox:bW->bO
 |[.int .i64 n]=>some (true,.int .i64 (dY 48 n 3))
 |_=>none
def Qwt(n:Int):=eO cu BJ 20 71 [.int .i64 n]
theorem QBt n:Qwt n=(some (D.int .i64 (bif decide ((0:Int)<=n)&&decide (n<(3:Int))then IntKind.wrap .i64 ((48:Int)+IntKind.wrap .i64 ((1:Int)*n))else(-1:Int)))):=by kernel_rfl
theorem QBu n(h:(true)=true):Qwt n=some (.int .i64 (dY 48 n 3)):=by
 rw[QBt]
 congr 2
 unfold dY
 by_cases h0:0<=n
 ·by_cases h1:n<3
  ·simp(disch:=omega) only[ab h0,ab h1,au,ag,Int.one_mul,sA];rw[ax ⟨h0,h1⟩]
  ·simp only[ad h1,Bool.and_false,ah];rw[aw (by omega)]
 ·simp only[ad h0,Bool.false_and,ah];rw[aw (by omega)]
def BK:=BJ.b8 71 Qox
theorem Qwu:Qk Tryz.prog cu BK:=Qwr.cQ Qb fun args d h=>by
 unfold Qox at h
 split at h
 ·obtain⟨h1,rfl⟩:=ak h;exact⟨by simp[D.refs],20,QBu _ h1⟩
 ·cases h
def XS:bW->bO
 |[.int .i64 a,.int .i64 s,.int .i64 f,.int .i64 m,.int .i64 k]=>some (true,.int .i64 (bif Qm s 0 (IntKind.i64.wrap (m-1))&&Qm f 0 (IntKind.i64.wrap (k-1))then IntKind.i64.wrap (IntKind.i64.wrap (a+IntKind.i64.wrap (s*k))+f)else -1))
 |_=>none
def Qko(a s f m k:Int):=eO cu BK 20 168 [.int .i64 a,.int .i64 s,.int .i64 f,.int .i64 m,.int .i64 k]
theorem Qrq a s f m k:Qko a s f m k=(let Z0:fI:=some (cj (-1:Int));bif !Qm s 0 (c6 (m-1))then Z0 else bif !Qm f 0 (c6 (k-1))then Z0 else some (cj (c6 (c6 (a+c6 (s*k))+f)))):=by kernel_rfl
theorem Qrr a s f m k(h:(true)=true):Qko a s f m k=some (.int .i64 (bif Qm s 0 (IntKind.i64.wrap (m-1))&&Qm f 0 (IntKind.i64.wrap (k-1))then IntKind.i64.wrap (IntKind.i64.wrap (a+IntKind.i64.wrap (s*k))+f)else -1)):=by
 (rw[Qrq];delta cj c6;conv=>zeta)
 cases Qm s 0 (IntKind.i64.wrap (m-1))<;>cases Qm f 0 (IntKind.i64.wrap (k-1))<;>rfl
def ML:=BK.b8 168 XS
theorem Qrs:Qk Tryz.prog cu ML:=Qwu.cQ Qb fun args d h=>by
 unfold XS at h
 split at h
 ·obtain⟨h1,rfl⟩:=ak h;exact⟨by simp[D.refs],20,Qrr _ _ _ _ _ h1⟩
 ·cases h
def Qkp:bW->bO
 |[.int .i64 s,.int .i64 f]=>some (true,.int .i64 (dt 99 s f 16 12))
 |_=>none
def Qoz(s f:Int):=eO cu ML 20 195 [.int .i64 s,.int .i64 f]
theorem Qwv s f:Qoz s f=(some (D.int .i64 (bif Qm s (0:Int) (15:Int)&&Qm f (0:Int) (11:Int)then IntKind.wrap .i64 (IntKind.wrap .i64 ((99:Int)+IntKind.wrap .i64 (s*(12:Int)))+f)else(-1:Int)))):=by kernel_rfl
theorem Qww s f(h:(true)=true):Qoz s f=some (.int .i64 (dt 99 s f 16 12)):=by
 rw[Qwv]
 congr 2
 unfold dt;cases h0:Qm s 0 15
 ·have:=VX h0;rw[aw (by omega)];rfl
 cases h1:Qm f 0 11
 ·have:=VX h1;rw[aw (by omega)];rfl
 rw[Qf]at h0 h1;rw[ax (by omega)];simp(disch:=omega) only[au,ag,sA]
def Mx:=ML.b8 195 Qkp
theorem Qrt:Qk Tryz.prog cu Mx:=Qrs.cQ Qb fun args d h=>by
 unfold Qkp at h
 split at h
 ·obtain⟨h1,rfl⟩:=ak h;exact⟨by simp[D.refs],20,Qww _ _ h1⟩
 ·cases h
def Qkq:bW->bO
 |[.int .i64 s,.int .i64 f]=>some (true,.int .i64 (dt 99 s f 16 12))
 |_=>none
def QoB(s f:Int):=eO cu Mx 20 176 [.int .i64 s,.int .i64 f]
theorem Qwx s f:QoB s f=(let Z0:fI:=some (cj (-1:Int));let Z1:Int:=bif decide ((0:Int)<=s)&&decide (s<16)then c6 ((99:Int)+c6 ((12:Int)*s))else (-1:Int);bif decide (f<0)then Z0 else bif decide ((11:Int)<f)then Z0 else bif decide (Z1<0)then Z0 else some (cj (c6 (Z1+f)))):=by kernel_rfl
theorem Qwy s f(h:(true)=true):QoB s f=some (.int .i64 (dt 99 s f 16 12)):=by
 (rw[Qwx];delta cj c6;conv=>zeta)
 unfold dt;refine JI (fun h0=>?_) fun h0=>?_<;>simp only[aa,ae]at h0
 ·rw[aw (by omega)]
 refine JI (fun h1=>?_) fun h1=>?_<;>simp only[aa,ae]at h1
 ·rw[aw (by omega)]
 by_cases h2:0<=s
 ·by_cases h3:s<16
  ·simp(disch:=omega) only[ab h2,ab h3,au,ag,sA];rw[ad (by omega),ax (by omega)];simp(disch:=omega) only[ah,sA]
   congr 2;omega
  ·simp only[ad h3,Bool.and_false,ah];rw[aw (by omega)];rfl
 ·simp only[ad h2,Bool.false_and,ah];rw[aw (by omega)];rfl
def My:=Mx.b8 176 Qkq
theorem Qru:Qk Tryz.prog cu My:=Qrt.cQ Qb fun args d h=>by
 unfold Qkq at h
 split at h
 ·obtain⟨h1,rfl⟩:=ak h;exact⟨by simp[D.refs],20,Qwy _ _ h1⟩
 ·cases h
def Qkr:bW->bO
 |[.int .i64 s,.int .i64 f]=>some (true,.int .i64 (dt 291 s f 160 3))
 |_=>none
def QoD(s f:Int):=eO cu My 20 120 [.int .i64 s,.int .i64 f]
theorem Qwz s f:QoD s f=(some (D.int .i64 (bif Qm s (0:Int) (159:Int)&&Qm f (0:Int) (2:Int)then IntKind.wrap .i64 (IntKind.wrap .i64 ((291:Int)+IntKind.wrap .i64 (s*(3:Int)))+f)else(-1:Int)))):=by kernel_rfl
theorem QwA s f(h:(true)=true):QoD s f=some (.int .i64 (dt 291 s f 160 3)):=by
 rw[Qwz]
 congr 2
 unfold dt;cases h0:Qm s 0 159
 ·have:=VX h0;rw[aw (by omega)];rfl
 cases h1:Qm f 0 2
 ·have:=VX h1;rw[aw (by omega)];rfl
 rw[Qf]at h0 h1;rw[ax (by omega)];simp(disch:=omega) only[au,ag,sA]
def Mz:=My.b8 120 Qkr
theorem Qrv:Qk Tryz.prog cu Mz:=Qru.cQ Qb fun args d h=>by
 unfold Qkr at h
 split at h
 ·obtain⟨h1,rfl⟩:=ak h;exact⟨by simp[D.refs],20,QwA _ _ h1⟩
 ·cases h
def Qks:bW->bO
 |[.int .i64 s,.int .i64 f]=>some (true,.int .i64 (dt 291 s f 160 3))
 |_=>none
def QoF(s f:Int):=eO cu Mz 20 65 [.int .i64 s,.int .i64 f]
theorem QwB s f:QoF s f=(let Z0:fI:=some (cj (-1:Int));let Z1:Int:=bif decide ((0:Int)<=s)&&decide (s<160)then c6 ((291:Int)+c6 ((3:Int)*s))else (-1:Int);bif decide (f<0)then Z0 else bif decide ((2:Int)<f)then Z0 else bif decide (Z1<0)then Z0 else some (cj (c6 (Z1+f)))):=by kernel_rfl
theorem QwC s f(h:(true)=true):QoF s f=some (.int .i64 (dt 291 s f 160 3)):=by
 (rw[QwB];delta cj c6;conv=>zeta)
 unfold dt;refine JI (fun h0=>?_) fun h0=>?_<;>simp only[aa,ae]at h0
 ·rw[aw (by omega)]
 refine JI (fun h1=>?_) fun h1=>?_<;>simp only[aa,ae]at h1
 ·rw[aw (by omega)]
 by_cases h2:0<=s
 ·by_cases h3:s<160
  ·simp(disch:=omega) only[ab h2,ab h3,au,ag,sA];rw[ad (by omega),ax (by omega)];simp(disch:=omega) only[ah,sA]
   congr 2;omega
  ·simp only[ad h3,Bool.and_false,ah];rw[aw (by omega)];rfl
 ·simp only[ad h2,Bool.false_and,ah];rw[aw (by omega)];rfl
def MA:=Mz.b8 65 Qks
theorem Qrw:Qk Tryz.prog cu MA:=Qrv.cQ Qb fun args d h=>by
 unfold Qks at h
 split at h
 ·obtain⟨h1,rfl⟩:=ak h;exact⟨by simp[D.refs],20,QwC _ _ h1⟩
 ·cases h
def Xi:bW->bO
 |[.bI (.int .i64 c) (.bI (.int .i64 w) (.bI (.int .i64 d) (.bI (.int .i64 k) .bN)))]=>some (true,.int .i64 (bif Yj c w d k then 0 else 2))
 |_=>none
def XT(c w d k:Int):=eO cu MA 20 41 [.bI (.int .i64 c) (cH w (cH d (cH k .bN)))]
theorem Qmd c w d k:XT c w d k=(let Z0:fI:=some (D.int .i64 2);bif Qm c (1:Int) (4:Int)then bif Qm w (2:Int) (8:Int)then bif Qm d (1:Int) (4:Int)then bif Qm k (4:Int) (40:Int)then some (D.int .i64 0)else Z0 else Z0 else Z0 else Z0):=by kernel_rfl
theorem Qme c w d k(h:(true)=true):XT c w d k=some (.int .i64 (bif Yj c w d k then 0 else 2)):=by
 (rw[Qmd];conv=>zeta)
 unfold Yj;cases Qm c 1 4<;>cases Qm w 2 8<;>cases Qm d 1 4<;>cases Qm k 4 40<;>rfl
def MB:=MA.b8 41 Xi
theorem Qrx:Qk Tryz.prog cu MB:=Qrw.cQ Qb fun args d h=>by
 unfold Xi at h
 split at h
 ·obtain⟨h1,rfl⟩:=ak h;exact⟨by simp[D.refs],20,Qme _ _ _ _ h1⟩
 ·cases h
def Xj:bW->bO
 |[.bI (.int .i64 c) (.bI (.int .i64 w) (.bI (.int .i64 d) (.bI (.int .i64 k) .bN)))]=>some (true,.int .i64 (bif Yj c w d k then 0 else 2))
 |_=>none
def Xp(c w d k:Int):=eO cu MB 20 28 [.bI (.int .i64 c) (cH w (cH d (cH k .bN)))]
theorem Qmf c w d k:Xp c w d k=(let Z0:fI:=some (D.int .i64 2);bif decide (c<1)then Z0 else bif decide ((4:Int)<c)then Z0 else bif decide (w<2)then Z0 else bif decide ((8:Int)<w)then Z0 else bif decide (d<1)then Z0 else bif decide ((4:Int)<d)then Z0 else bif decide (k<4)then Z0 else bif decide ((40:Int)<k)then Z0 else some (D.int .i64 0)):=by kernel_rfl
theorem Qmg c w d k(h:(true)=true):Xp c w d k=some (.int .i64 (bif Yj c w d k then 0 else 2)):=by
 (rw[Qmf];conv=>zeta)
 unfold Yj Qm
 iterate 8
  refine JI (fun h0=>?_) fun h0=>?_<;>simp only[aa,ae]at h0
  ·first
    |rw[ad (p:=1<=c) (by omega)];simp;done
    |rw[ad (p:=c<=4) (by omega)];simp;done
    |rw[ad (p:=2<=w) (by omega)];simp;done
    |rw[ad (p:=w<=8) (by omega)];simp;done
    |rw[ad (p:=1<=d) (by omega)];simp;done
    |rw[ad (p:=d<=4) (by omega)];simp;done
    |rw[ad (p:=4<=k) (by omega)];simp;done
    |rw[ad (p:=k<=40) (by omega)];simp;done
 rw[ab (p:=1<=c) (by omega),ab (p:=c<=4) (by omega),ab (p:=2<=w) (by omega),ab (p:=w<=8) (by omega),ab (p:=1<=d) (by omega),ab (p:=d<=4) (by omega),ab (p:=4<=k) (by omega),ab (p:=k<=40) (by omega)];rfl
def MC:=MB.b8 28 Xj
theorem Qry:Qk Tryz.prog cu MC:=Qrx.cQ Qb fun args d h=>by
 unfold Xj at h
 split at h
 ·obtain⟨h1,rfl⟩:=ak h;exact⟨by simp[D.refs],20,Qmg _ _ _ _ h1⟩
 ·cases h
def QwD:bW->bO
 |[.bI (.int .i64 c) (.bI (.int .i64 w) (.bI (.int .i64 d) (.bI (.int .i64 k) .bN))),.int .i64 i,.bool b]=>some (true,.cG (cH (pE c w d k i b).1 (cH (pE c w d k i b).2 .bN)))
 |_=>none
def UT(c w d k i:Int)(b:Bool):=eO cu MC 20 170 [.bI (.int .i64 c) (cH w (cH d (cH k .bN))),.int .i64 i,.bool b]
theorem QF6 c w d k i b:UT c w d k i b=(let Z0:bV:=cj 0;let Z1:fI:=some (D.cG (D.bI Z0 (D.bI Z0 .bN)));bif (bif Yj c w d k then (0:Int)else (2:Int))!=0 then Z1 else bif !Qm i 0 (c6 (c-1))then Z1 else bif b then some (D.cG (D.bI (cj (c6 (i*k))) (.bI (cj k) .bN)))else some (D.cG (D.bI (cj (c6 (i*d))) (.bI (cj d) .bN)))):=by kernel_rfl
theorem QF7 c w d k i b(h:(true)=true):UT c w d k i b=some (.cG (cH (pE c w d k i b).1 (cH (pE c w d k i b).2 .bN))):=by
 (rw[QF6];delta cj c6;conv=>zeta)
 unfold pE;cases hk:Yj c w d k
 ·simp;done
 ·have hb:=QBm hk;simp only[cC (n:=c-1) (by omega) (by omega),ag,bne_self_eq_false,ah];cases h0:Qm i 0 (c-1)
  ·have:=VX h0;rw[aw (by omega)];rfl
  rw[Qf]at h0;simp only[bg,ah]
  have hmul:∀x:Int,1<=x->x<=40->IntKind.i64.wrap (i*x)=i*x:=fun x h1 h2=>by
   have hi:i=0\/i=1\/i=2\/i=3:=by omega
   rcases hi with rfl|rfl|rfl|rfl<;>exact cC (by omega) (by omega)
  rw[ax ⟨trivial,by omega,by omega⟩,hmul k (by omega) (by omega),hmul d (by omega) (by omega)];cases b<;>rfl
def MD:=MC.b8 170 QwD
theorem Qrz:Qk Tryz.prog cu MD:=Qry.cQ Qb fun args d h=>by
 unfold QwD at h
 split at h
 ·obtain⟨h1,rfl⟩:=ak h;exact⟨by simp[D.refs],20,QF7 _ _ _ _ _ _ h1⟩
 ·cases h
def wM(w:Int):Int:=if 0<=w/\w<=1099510841343 then w else 0
def qJ(w:Int):Int:=wM w/1048576
def bare(w:Int):Int:=wM w%1048576
def jO(p h:Int):Prop:=0<=p/\p<=1048575/\(256<=h/\h<=262143\/h=0/\p=0)
instance instOkWord(p h:Int):Decidable (jO p h):=by unfold jO;infer_instance
def iN(p h:Int):Int:=if jO p h then p*1048576+h else 0
def CY(p h:Int):Int:=if jO p h then 0 else 2
theorem Qkt w:0<=wM w/\wM w<=1099510841343:=by unfold wM;split<;>omega
theorem VF{w:Int}(h:¬(0<=w/\w<=1099510841343)):wM w=0:=aw h
theorem JY{w:Int}(h:0<=w/\w<=1099510841343):wM w=w:=ax h
theorem UU{w:Int}(h:0<=w):w.fdiv 1048576=w/1048576:=aQ _ (by decide)
theorem QI0{n:Int}(h:0<=n/\n<1099511627776):bits .i64 (fun _ u v=>u&&&v) n 1099511627775=n:=by
 unfold bits;rw[BitVec.toNat_and,VW,VW];have e:((1099511627775:Int)%18446744073709551616).toNat=2^40-1:=by decide
 rw[e,Nat.and_two_pow_sub_one_eq_mod,cC (by omega) (by omega)];omega
theorem UZ(n:Int):bits .i64 (fun _ u v=>u&&&v) n 1048575=n%1048576:=by
 unfold bits;rw[BitVec.toNat_and,VW,VW];have e:((1048575:Int)%18446744073709551616).toNat=2^20-1:=by decide
 rw[e,Nat.and_two_pow_sub_one_eq_mod,cC (by omega) (by omega)];omega
theorem S7{p h:Int}(hp:0<=p/\p<=1048575)(hh:0<=h/\h<1048576):bits .i64 (fun _ u v=>u|||v) (p*1048576) h=p*1048576+h:=by
 obtain⟨p,rfl⟩:∃n:Nat,p=n:=⟨p.toNat,by omega⟩;obtain⟨h,rfl⟩:∃n:Nat,h=n:=⟨h.toNat,by omega⟩;unfold bits;have e:(p:Int)*1048576=((p*1048576:Nat):Int):=by simp
 rw[e]
 have h1:∀x:Nat,x<2^64->(BitVec.ofInt IntKind.i64.bits (x:Int)).toNat=x:=by
  intro x hx;rw[BitVec.toNat_ofInt];simp only[IntKind.bits];omega
 rw[BitVec.toNat_or,h1 _ (by omega),h1 _ (by omega)]
 have h2:p*1048576|||h=p*1048576+h:=by
  rw[Nat.mul_comm p 1048576,show(1048576:Nat)=2^20 from rfl,<-Nat.two_pow_add_eq_or_of_lt (by omega)]
 rw[h2,cC (by omega) (by omega)];simp
theorem QwE{C:gR}{p h:Int}(hw:jO p h):(D.cG (.bI (.int .i64 (p*1048576+h)) (.bI (.int .i64 0) .bN)):D C)=.cG (.bI (.int .i64 (iN p h)) (.bI (.int .i64 (CY p h)) .bN)):=by
 rw[iN,CY,ax hw,ax hw]
theorem QwF{C:gR}{p h:Int}(hw:¬jO p h):(D.cG (.bI (.int .i64 0) (.bI (.int .i64 2) .bN)):D C)=.cG (.bI (.int .i64 (iN p h)) (.bI (.int .i64 (CY p h)) .bN)):=by
 rw[iN,CY,aw hw,aw hw]
theorem IS(x:Nat)(hx:x<2^64):(BitVec.ofInt IntKind.i64.bits (x:Int)).toNat=x:=by
 rw[BitVec.toNat_ofInt];simp only[IntKind.bits];omega
theorem Qib(n:Int)(k:Nat)(h0:0<=n)(h1:n<9223372036854775808)(hk:k<=62) :
 bits .i64 (fun _ u v=>u&&&v) n ((2^k-1:Nat):Int)=n%((2^k:Nat):Int):=by
 obtain⟨m,rfl⟩:=Int.eq_ofNat_of_zero_le h0;have hp:2^k<=2^62:=Nat.pow_le_pow_right (by omega) hk;have hq:0<2^k:=Nat.pow_pos (by omega);unfold bits;rw[BitVec.toNat_and,IS _ (by omega),IS _ (by omega),Nat.and_two_pow_sub_one_eq_mod];have:=Nat.mod_lt m hq;rw[cC (by omega) (by omega)];simp
theorem Qmh(a b:Int)(k:Nat)(ha:0<=a)(hb:0<=b)(h1:b<((2^k:Nat):Int))(h2:a*((2^k:Nat):Int)+b<9223372036854775808) :
 bits .i64 (fun _ u v=>u|||v) (a*((2^k:Nat):Int)) b=a*((2^k:Nat):Int)+b:=by
 obtain⟨a,rfl⟩:=Int.eq_ofNat_of_zero_le ha;obtain⟨b,rfl⟩:=Int.eq_ofNat_of_zero_le hb;have e:(a:Int)*((2^k:Nat):Int)=((a*2^k:Nat):Int):=by simp
 have h2':a*2^k+b<9223372036854775808:=by rw[e]at h2;omega
 have h1':b<2^k:=by omega
 unfold bits;rw[e,BitVec.toNat_or,IS _ (by omega),IS _ (by omega)]
 have h3:a*2^k|||b=a*2^k+b:=by
  rw[Nat.mul_comm,<-Nat.two_pow_add_eq_or_of_lt h1']
 rw[h3,cC (by omega) (by omega)];simp
theorem Jw(m a b:Int)(k:Nat)(hm:m=((2^k:Nat):Int))(ha:0<=a)(hb:0<=b)(h1:b<m)(h2:a*m+b<9223372036854775808) :
 bits .i64 (fun _ u v=>u|||v) (a*m) b=a*m+b:=by
 subst hm;exact Qmh a b k ha hb h1 h2
theorem Vn(n m:Int)(k:Nat)(hm:m+1=((2^k:Nat):Int))(h0:0<=n)(h1:n<9223372036854775808)(hk:k<=62) :
 bits .i64 (fun _ u v=>u&&&v) n m=n%(m+1):=by
 have hq:0<2^k:=Nat.pow_pos (by omega);rw[hm,<-Qib n k h0 h1 hk]
 congr 1
 omega
def Zb(l:cg):Bool:=decide (0<=l.offset/\l.offset<4194304/\1<=l.place/\l.place<=1048575/\0<=l.j/\l.j<=3/\0<=l.key/\l.key<=7/\0<=l.value/\l.value<=255)
def uz(l:cg):Int:=(l.offset+1)*8589934592+l.place*8192+l.j*2048+l.key*256+l.value
def qX(w:Int):cg:=⟨w/8589934592-1,w/8192%1048576,w/2048%4,w/256%8,w%256⟩
def KU(w:Int):Option cg:=if 0<=w/\Zb (qX w)=true then some (qX w)else none
def fx(l:cg):Int:=bif Zb l then uz l else 0
theorem QBv{o p j k v:Int}(h:Zb ⟨o,p,j,k,v⟩=true) :
 bits .i64 (fun _ u v=>u|||v) (bits .i64 (fun _ u v=>u|||v) (bits .i64 (fun _ u v=>u|||v) (bits .i64 (fun _ u v=>u|||v) ((o+1)*8589934592) (p*8192)) (j*2048)) (k*256)) v=uz ⟨o,p,j,k,v⟩:=by
 unfold Zb at h;rw[aa]at h;simp only at h;have e1:=Jw 8589934592 (o+1) (p*8192) 33 (by decide) (by omega) (by omega) (by omega) (by omega);have e2:=Jw 8192 ((o+1)*1048576+p) (j*2048) 13 (by decide) (by omega) (by omega) (by omega) (by omega);have e3:=Jw 2048 (((o+1)*1048576+p)*4+j) (k*256) 11 (by decide) (by omega) (by omega) (by omega) (by omega);have e4:=Jw 256 ((((o+1)*1048576+p)*4+j)*8+k) v 8 (by decide) (by omega) (by omega) (by omega) (by omega)
 rw[e1,show(o+1)*8589934592+p*8192=((o+1)*1048576+p)*8192 by omega,e2,
  show((o+1)*1048576+p)*8192+j*2048=(((o+1)*1048576+p)*4+j)*2048 by omega,e3,
  show(((o+1)*1048576+p)*4+j)*2048+k*256=((((o+1)*1048576+p)*4+j)*8+k)*256 by omega,e4]
 unfold uz;simp only;omega
theorem Qmi{l:cg}(h:Zb l=true):qX (uz l)=l/\0<=uz l/\uz l<9223372036854775808:=by
 obtain⟨o,p,j,k,v⟩:=l;unfold Zb at h;rw[aa]at h;simp only at h;unfold qX uz;simp only[cg.mk.injEq];omega
theorem Qmj{l:cg}(h:Zb l=true):KU (uz l)=some l:=by
 obtain⟨h1,h2,_⟩:=Qmi h;unfold KU;rw[h1,ax ⟨h2,h⟩]
def YE(w:Int):cg:=(KU w).getD ⟨0,0,0,0,0⟩
section
variable {C:gR}{P:Program}{T:fh C}{Φ:iR C}
open Pg (Ex)
def dO(P:Prop):Bool := @decide P (Classical.propDecidable P)
theorem Q9{P:Prop}:dO P=true↔P:=by
 unfold dO;exact @decide_eq_true_iff P (Classical.propDecidable P)
theorem Q1{P:Prop}(h:P):dO P=true:=Q9.2 h
structure nR(C:gR)(σ:Type) where
 (k:Nat)(args:σ->List (D C))(cK:σ->List (Obj C))(fin:σ->RT C)(Inv:σ->Prop)
noncomputable def C7(T:fh C)(Φ:iR C)(g n k:Nat)(args:List (D C))(os:List (Obj C)):Option (D C×List (Option (Obj C))):=
 (wR T Φ (jE T Φ n) g args).run (0,0) (gO 0 os) k [] fun d h _ _=>some (d,ux 0 k h)
def p9{σ:Type}(S:nR C σ)(s:σ)(r:D C×List (Option (Obj C))):Prop:=∃os,(S.fin s).val=some ((.ret,[(0,r.1)]),os)/\r.2=os.map some
def G7{σ:Type}(S:nR C σ)(d:Env C->List (Obj C)->Option (Bool×σ))(env:Env C)(os:List (Obj C)):RT C:=match d env os with
 |some (b,q)=>.br b (S.fin q) .fail
 |none=>.fail
def qO(T:fh C)(fs:c7)(n:Nat){σ:Type}(S:nR C σ)(d:Env C->List (Obj C)->Option (Bool×σ))(args:List (D C)):Pg C (D C):=
 bif Nat.beq args.length n then .bind (pM T fs (List.range n) (G7 S d) (gG 0 args)) fun r=>.ret (cR r.2 0)else .fail
theorem QB.args(K:Zo P T){X:Cx}{nx:Nat}{lim:ek}{args:List (D C)}{vs:bT}(h:gV T X args vs)(hr:∀a∈args,∀id∈D.refs a,ft nx lim id):QB T X nx lim (gG 0 args) (⟨vs⟩:bY):=by
 intro t;rw[NN];simp only[aK,aU,Nat.sub_zero];refine⟨?_,?_⟩
 ·have:=h.get t;have e:(⟨vs⟩:bY).getD t undef=vs.getD t undef:=by simp[Array.getD_eq_getD_getElem?]
  rw[e];exact this
 ·by_cases ht:t<args.length
  ·exact hr _ (by simp[ar,ht])
  ·have:args.getD t .top=.top:=by
    simp only[ar];rw[bc (by omega)];rfl
   rw[this];simp[D.refs]
theorem gV.tQ{X:Cx}:∀(args:List (D C)) (vs:bT),args.length=vs.length->(∀i,i<args.length->RV T X (args.getD i .top) (vs.getD i undef))->gV T X args vs
 |[],[],_,_=>.nil
 |[],_::_,h,_=>by simp at h
 |_::_,[],h,_=>by simp at h
 |d::ds,v::vs,h,hg=>.cons (by simpa using hg 0 (by simp)) (gV.tQ ds vs (by simpa using h) fun i hi=>by simpa using hg (i+1) (by simpa using hi))
theorem gV.zt{X:Cx}{nx:Nat}{lim:ek}{args:List (D C)}{vs:bT}(hl:args.length=vs.length)(h:QB T X nx lim (gG 0 args) (⟨vs⟩:bY)):gV T X args vs:=by
 refine gV.tQ args vs hl fun i hi=>?_;have:=(h i).1;rw[NN]at this
 simpa[Array.getD_eq_getD_getElem?]using this
theorem Qku:∀(l:List (D C)) (n i:Nat) (h:i<l.length),(n+i,l[i])∈gG n l
 |[],_,_,h=>by simp at h
 |d::l,n,0,_=>by simp[gG]
 |d::l,n,i+1,h=>by
  have:=Qku l (n+1) i (by simpa using h);simp only[gG,aZ];right;rw[show n+(i+1)=n+1+i by omega]
  simpa using this
theorem QwG(K:Zo P T){X X1:Cx}{h':Heap C}{k cF:Nat}(g1:G T X1 h' cF (eA cF))(s1:Step X k (eA cF) X1)(hle:k<=cF){os:List (Obj C)}{d:D C}{v:Value}(q:Qj k [(0,d)] os)
 (iq:∀j,j<k->h'.get j=os[j]?) (rd:RO T X1 cF (eA cF) d v):∃X2,X2.w=X1.w/\G T X2 (gO 0 os) k (eA k)/\Step X k (eA k) X2/\RO T X2 k (eA k) d v:=by
 obtain⟨q1,q2,q3⟩:=q
 obtain⟨X2,w2,g2,s2,hρ⟩:=G.drop K.base g1 (h':=gO 0 os) (fun id=>by
  rw[QE]
  by_cases dD:id<k
  ·exact .inl (iq id dD).symm
  ·exact .inr (bc (by omega)))
 have mh:∀id,¬id<k->X2.ρ id=none:=fun id dD=>by
  cases hq:X2.ρ id with
  |none=>rfl
  |some l=>
   have:=g2.jA id l hq;rw[QE,bc (by omega)]at this;cases this
 have s3:=s1.trans s2 hle;refine⟨X2,w2,g2.l8 (JN q1 q3) (aq _) (aK _) (fun _ h=>h),⟨s3.O,s3.os,s3.tape,s3.output,s3.size,fun id ho=>?_,s3.du,s3.cell,s3.block,s3.frz⟩,?_⟩
 ·by_cases dD:id<k
  ·exact s3.ρ id ⟨.inl dD,fun h=>h⟩
  ·rw[mh id dD];cases X.ρ id<;>simp[Qp]
 ·have oM:∀r∈d.refs,r<k:=q2 (0,d) (by simp);exact⟨rd.1.mono T K.base.gX s2.keeps fun r hh=>s2.ρ r ⟨.inl (by have:=oM r hh;omega),fun h=>h⟩,fun r hh=>⟨.inl (oM r hh),fun h=>h⟩⟩
theorem QBw(K:Zo P T)(F:Qk P T Φ){g:Nat}{fs:c7}{m n:Nat}{σ:Type}{S:nR C σ}
 (hr:∀q,S.Inv q->Qj S.k (gG 0 (S.args q)) (S.cK q)/\(S.fin q).cT S.k/\(S.args q).length=m/\c8 (C7 T Φ g n S.k (S.args q) (S.cK q)) (p9 S q))
 (d:Env C->List (Obj C)->Option (Bool×σ)) (hd:∀env os b q,d env os=some (b,q)->b=true->S.Inv q/\gG 0 (S.args q)=env/\S.cK q=os):Qs2 P T g (qO T fs m S d):=by
 intro args vs X h nx lim e dd h' cF tr gg gH hrefs dP hx;unfold qO at hx;cases hm:Nat.beq args.length m with
 |false=>rw[hm]at hx;exact Ex.cB hx
 |true=>
 rw[hm]at hx;simp only[ag]at hx;have hm:=az hm;obtain⟨⟨x,cZ⟩,h9,n9,t8,t9,kE,SB,_⟩:=Ex.bind hx;obtain⟨hdd,e1h,e1n,_⟩:=Ex.ret SB;subst e1h;subst e1n;have he:=QB.args K gH hrefs;unfold pM at kE;obtain⟨X1,h1,pZ,dS,ids,oW,w1,g1,s1,oJ,e1,lU⟩:=Oq K dP fs X h nx _ _ [] gg he kE;cases ll:K8 ids with
 |false=>rw[ll]at lU;exact Ex.cB lU
 |true=>
 rw[ll]at lU;simp only[ag]at lU;have iO:=Y4 ll;obtain⟨os,mI,hlen,ri,fN⟩:=Ea ids _ _ lU;cases iB:pD ids ((List.range m).flatMap fun t=>(cR dS t).refs)&&pD ids (os.flatMap Obj.refs)with
 |false=>rw[iB]at fN;exact Ex.cB fN
 |true=>
 rw[iB]at fN;simp only[ag]at fN;simp only[ai]at iB;have qx:=Vl iB.1;have pu:=Vl iB.2;obtain⟨xx,ee,eV,hq,zk⟩:=RT.pJ _ _ fN;unfold G7 at hq
 split at hq
 ·rename_i b q hdq;cases b with
  |false=>simp[RT.val]at hq
  |true=>
  simp only[RT.val,ag]at hq;obtain⟨hI,R0,jX⟩:=hd _ _ _ _ hdq rfl;obtain⟨fZ,ks,Gu,r,hr3,hr4⟩:=hr q hI;obtain⟨h2,Tp,me,pC,tD,zl⟩:=Eb ids _ h1 _ iO zk;obtain⟨jB,eh,en,_⟩:=Ex.ret zl;obtain⟨rfl,rfl⟩:=Prod.mk.inj jB;subst eh;subst en
  let f:Nat->Nat:=fun j=>ids.getD j 0
  have oH:∀j,j<ids.length->ids[j]? = some (f j):=fun j hj=>by simp[f,hj]
  have tf:ids.length=S.k:=by rw[<-fZ.1,jX];simp[hlen]
  have re:∀r,r∈ids->f (idx ids r)=r:=fun r hr=>by
   have:=Kl ids r hr;simp only[f,ar,this,ba]
  have jb:(S.cK q).length=ids.length:=by rw[fZ.1,tf]
  have part:Part h1 (S.cK q) f:=by
   refine⟨fun j o ho=>?_,fun i j hi hj lf=>?_,fun o ho r hr=>by rw[fZ.1];exact fZ.2.2 o ho r hr⟩
   ·rw[jX,bB]at ho;cases kj:os[j]? with
    |none=>simp[kj]at ho
    |some o0=>
     simp only[kj,bC,aD]at ho;have hj:j<ids.length:=by rw[<-hlen];exact(av.1 kj).1
     rw[ri j (f j) o0 (oH j hj) kj,<-ho,Obj.dZ];intro id dD;exact re id (pu id (List.mem_flatMap.2 ⟨o0,List.mem_of_getElem? kj,dD⟩))
   ·rw[jb]at hi hj;have:=(List.getElem?_inj hi iO (j:=j)).1 (by rw[oH i hi,oH j hj];simp only[f]at lf ⊢;rw[lf]);exact this
  have g2:=Part.ctx K.base g1 part (S.cK q).length
  have e2:QB T (X1.part (S.cK q).length f) (S.cK q).length (eA (S.cK q).length) (gG 0 (S.args q)) (⟨vs⟩:bY):=by
   refine QB.part K.base e1 part.inj (fun p hp=>?_) (fun p hp r hr=>by rw[fZ.1];exact fZ.2.1 p hp r hr);rw[R0]at hp;simp only[List.mem_map]at hp;obtain⟨t,ht,rfl⟩:=hp;simp only;rw[D.dZ];intro id dD;exact re id (qx id (List.mem_flatMap.2 ⟨t,ht,dD⟩))
  rw[fZ.1]at g2 e2;obtain⟨d0,hh,nn,tt,hex,dv⟩:=Pg.fw hr3;simp only[aD]at dv;subst dv;obtain⟨os2,sq,hg2⟩:=hr4;rw[hq]at sq;simp only[aD,Prod.mk.injEq]at sq;obtain⟨⟨rfl,rfl⟩,rfl⟩:=sq;have xm:=YM S.k 0 hh _ hg2;simp only[aN]at xm;obtain⟨x5,aan,os5,SR,vX⟩:=RT.iD ks;rw[hq]at SR;simp only[aD,Prod.mk.injEq]at SR;obtain⟨⟨rfl,rfl⟩,rfl⟩:=SR;have hle:S.k<=nn:=hex.le;have g0:G T (X1.part S.k f) (gO 0 (S.cK q)) S.k (eA nn):=g2.l8 (JN fZ.1 fZ.2.2) (aq _) (aK _) (fun _ h=>h);have nY:gV T (X1.part S.k f) (S.args q) vs:=gV.zt (by rw[Gu,<-hm];exact gV.length T gH) e2
  have zb:∀a∈S.args q,∀id∈D.refs a,ft S.k (eA nn) id:=fun a ha id dD=>⟨.inl (by
   obtain⟨i,hi,hia⟩:=List.getElem_of_mem ha;refine fZ.2.1 (0+i,a) ?_ id dD;rw[<-hia];exact Qku _ _ _ hi),fun h=>h⟩
  obtain⟨c1,c2⟩:=Qnh K F n g (S.args q) vs (X1.part S.k f) (gO 0 (S.cK q)) S.k (eA nn) (0,0) d0 hh nn tt g0 nY zb (aq _) hex;have hw:(X1.part S.k f).w=X.w:=w1;rw[hw]at c1 c2;refine⟨c1,c2.mono fun en w9 hp=>?_⟩;obtain⟨v,X2,rfl,hX2,g3,s3,ro3⟩:=hp;obtain⟨X3,w3,g4,s4,ro4⟩:=QwG K g3 s3 hle vX xm ro3;have jG:eV.length=(S.cK q).length:=by rw[vX.1,fZ.1]
  have kU:∀o∈eV,∀r∈Obj.refs o,r<(S.cK q).length:=fun o ho r hr=>by rw[fZ.1];exact vX.2.2 o ho r hr
  obtain⟨X4,w4,g5,s5,hρ,sd⟩:=Part.back K.base g1 part jG kU (X1:=X3) (lim1:=eA S.k) (h':=h') (by rw[fZ.1];exact g4) (by rw[fZ.1];exact s4) (fun j o hj=>by
   have cU:j<ids.length:=by rw[<-jb,<-jG];exact(av.1 hj).1
   exact pC j (f j) _ (oH j cU) (by rw[bB,hj];rfl)) (fun id dD=>by
   refine tD id fun hm=>?_;obtain⟨j,hj,y3⟩:=List.getElem_of_mem hm;refine dD j (by rw[jb];exact hj) ?_;simp[f,hj,y3])
  have hold:∀j,j<S.k->ft cF lim (f j):=fun j hj=>by
   have mb:j<(S.cK q).length:=by rw[fZ.1];exact hj
   exact(g1.eL _ _ (part.mN j (S.cK q)[j] (by simp[mb]))).1
  have e4:QB T X3 S.k (eA S.k) [(0,d0)] (#[v]:bY):=fun t=>by
   rw[QG]
   by_cases ht:t=0
   ·subst ht;simpa using ro4
   ·simp only[ht,aL,cR];exact RO.mk (RV.top _ _ _) rfl
  have e5:=QB.back (nx:=cF) (lim:=lim) (f:=f) K.base e4 (fun p hp r hr=>vX.2.1 p hp r hr) (fun j hj=>hρ j (by rw[fZ.1];exact hj)) ⟨sd⟩ hold;have ro5:=e5 0;refine⟨v,X4,rfl,by rw[w4,w3,hX2],g5,s1.trans s5 oJ,?_⟩;rw[hdd];exact ro5
 ·simp[RT.val]at hq
theorem Qk.oB(K:Zo P T)(F:Qk P T Φ){g:Nat}{σ:Type}(S:nR C σ)(n m:Nat)(fs:c7)(d:Env C->List (Obj C)->Option (Bool×σ))
 (hr:∀q,S.Inv q->Qj S.k (gG 0 (S.args q)) (S.cK q)/\(S.fin q).cT S.k/\(S.args q).length=m/\c8 (C7 T Φ g n S.k (S.args q) (S.cK q)) (p9 S q))
 (hd:∀env os b q,d env os=some (b,q)->b=true->S.Inv q/\gG 0 (S.args q)=env/\S.cK q=os):Qk P T (Φ.jP g (qO T fs m S d)):=F.jP (QBw K F hr d hd)
theorem Hu{σ:Type}{S:nR C σ}{s:σ}{d:D C}{os:List (Option (Obj C))}(eV:List (Obj C))(h1:(S.fin s).val=some ((.ret,[(0,d)]),eV))(h2:os=eV.map some):c8 (some (d,os)) (p9 S s):=
 HP.2 ⟨eV,h1,h2⟩
end
def Zm(h f:Int)(nd:Bool):Int:=if h<0 then -1 else bif nd then dt 291 (h%256) f 160 3 else dt 99 (h%256) f 16 12
def wh(x:Int):Int:=if x<0 then 0 else x
open Go.Proofs
def QwH:bW->bO
 |[.int .i64 w]=>some (true,.int .i64 (qJ w))
 |_=>none
def Uh(w:Int):=eO cu MD 20 174 [.int .i64 w]
theorem QF9 w:Uh w=(let Z0:fI:=some (D.int .i64 0);bif decide (w<(0:Int))then Z0 else bif decide ((1099510841343:Int)<w)then Z0 else some (D.int .i64 (bits .i64 (fun(x:Nat) (u v:BitVec x)=>u&&&v) (Int.fdiv w (1048576:Int)) (1099511627775:Int)))):=by kernel_rfl
theorem QGa w(h:(true)=true):Uh w=some (.int .i64 (qJ w)):=by
 (rw[QF9];conv=>zeta)
 unfold qJ;refine JI (fun h0=>?_) fun h0=>JI (fun h1=>?_) fun h1=>?_<;>simp only[aa,ae]at *
 ·rw[VF (by omega)];rfl
 ·rw[VF (by omega)];rfl
 ·rw[JY (by omega),UU (by omega),QI0 (by omega)]
def BL:=MD.b8 174 QwH
theorem QwI:Qk Tryz.prog cu BL:=Qrz.cQ Qb fun args d h=>by
 unfold QwH at h
 split at h
 ·obtain⟨h1,rfl⟩:=ak h;exact⟨by simp[D.refs],20,QGa _ h1⟩
 ·cases h
def QoG:bW->bO
 |[.int .i64 p,.int .i64 d]=>some (true,.cG (cH (iN p d) (cH (CY p d) .bN)))
 |_=>none
def QwK(p d:Int):=eO cu BL 20 123 [.int .i64 p,.int .i64 d]
theorem QBy p d:QwK p d=(let Z0:Bool:=decide (p<0);let Z1:bV:=cj 0;let Z2:fI:=some (D.cG (D.bI Z1 (D.bI (cj 2) .bN)));let Z3:Bool:=decide ((1048575:Int)<p);let Z4:fI:=some (D.cG (D.bI (cj (bits .i64 (fun(x:Nat) (u v:BitVec x)=>u|||v) (c6 (p*1048576)) d)) (.bI Z1 .bN)));let Z5:fI:=bif d !=0 then Z2 else bif p !=0 then Z2 else Z4;bif decide ((256:Int)<=d)then bif Z0 then Z2 else bif Z3 then Z2 else bif !decide (d<=262143)then Z5 else Z4 else bif Z0 then Z2 else bif Z3 then Z2 else Z5):=by kernel_rfl
theorem QBz p d(h:(true)=true):QwK p d=some (.cG (cH (iN p d) (cH (CY p d) .bN))):=by
 (rw[QBy];delta cj c6;conv=>zeta)
 have ww:0<=p->p<=1048575->IntKind.i64.wrap (p*1048576)=p*1048576:=fun h1 h2=>cC (by omega) (by omega)
 repeat' (refine JI (fun hc=>?_) fun hc=>?_)
 all_goals
  simp only[aa,ae,bi,bne_iff_ne,ne_eq,Bool.not_eq_true',Bool.not_eq_false',bne_eq_false_iff_eq,beq_eq_false_iff_ne]at *
  first
  |exact ap some (QwF (by unfold jO;omega))
  |(rw[ww (by omega) (by omega),S7 (by omega) (by omega)];exact ap some (QwE (by unfold jO;omega)))
def BM:=BL.b8 123 QoG
theorem QwL:Qk Tryz.prog cu BM:=QwI.cQ Qb fun args d h=>by
 unfold QoG at h
 split at h
 ·obtain⟨h1,rfl⟩:=ak h;exact⟨by simp[D.refs],20,QBz _ _ h1⟩
 ·cases h
def QwM:bW->bO
 |[.int .i64 w]=>some (true,.int .i64 (qJ w))
 |_=>none
def Ui(w:Int):=eO cu BM 20 80 [.int .i64 w]
theorem QGb w:Ui w=(let Z0:fI:=some (D.int .i64 0);bif decide (w<(0:Int))then Z0 else bif decide ((1099510841343:Int)<w)then Z0 else some (D.int .i64 (Int.fdiv w (1048576:Int)))):=by kernel_rfl
theorem QGc w(h:(true)=true):Ui w=some (.int .i64 (qJ w)):=by
 (rw[QGb];conv=>zeta)
 unfold qJ;refine JI (fun h0=>?_) fun h0=>JI (fun h1=>?_) fun h1=>?_<;>simp only[aa,ae]at *
 ·rw[VF (by omega)];rfl
 ·rw[VF (by omega)];rfl
 ·rw[JY (by omega),UU (by omega)]
def BN:=BM.b8 80 QwM
theorem QwN:Qk Tryz.prog cu BN:=QwL.cQ Qb fun args d h=>by
 unfold QwM at h
 split at h
 ·obtain⟨h1,rfl⟩:=ak h;exact⟨by simp[D.refs],20,QGc _ h1⟩
 ·cases h
def QoH:bW->bO
 |[.int .i64 w]=>some (true,.int .i64 (bare w))
 |_=>none
def QwP(w:Int):=eO cu BN 20 79 [.int .i64 w]
theorem QBA w:QwP w=(let Z0:fI:=some (D.int .i64 0);bif decide (w<(0:Int))then Z0 else bif decide ((1099510841343:Int)<w)then Z0 else some (D.int .i64 (bits .i64 (fun(x:Nat) (u v:BitVec x)=>u&&&v) w (1048575:Int)))):=by kernel_rfl
theorem QBB w(h:(true)=true):QwP w=some (.int .i64 (bare w)):=by
 (rw[QBA];conv=>zeta)
 unfold bare;refine JI (fun h0=>?_) fun h0=>JI (fun h1=>?_) fun h1=>?_<;>simp only[aa,ae]at *
 ·rw[VF (by omega)];rfl
 ·rw[VF (by omega)];rfl
 ·rw[JY (by omega),UZ]
def BO:=BN.b8 79 QoH
theorem QwQ:Qk Tryz.prog cu BO:=QwN.cQ Qb fun args d h=>by
 unfold QoH at h
 split at h
 ·obtain⟨h1,rfl⟩:=ak h;exact⟨by simp[D.refs],20,QBB _ h1⟩
 ·cases h
def QoI:bW->bO
 |[.int .i64 w]=>some (true,.int .i64 (bare w))
 |_=>none
def QwS(w:Int):=eO cu BO 20 173 [.int .i64 w]
theorem QBC w:QwS w=(let Z0:fI:=some (D.int .i64 0);bif decide (w<(0:Int))then Z0 else bif decide ((1099510841343:Int)<w)then Z0 else some (D.int .i64 (bits .i64 (fun(x:Nat) (u v:BitVec x)=>u&&&v) (Int.fdiv w (1:Int)) (1048575:Int)))):=by kernel_rfl
theorem QBD w(h:(true)=true):QwS w=some (.int .i64 (bare w)):=by
 (rw[QBC];conv=>zeta)
 unfold bare;refine JI (fun h0=>?_) fun h0=>JI (fun h1=>?_) fun h1=>?_<;>simp only[aa,ae]at *
 ·rw[VF (by omega)];rfl
 ·rw[VF (by omega)];rfl
 ·rw[JY (by omega),Int.fdiv_one,UZ]
def BP:=BO.b8 173 QoI
theorem QwT:Qk Tryz.prog cu BP:=QwQ.cQ Qb fun args d h=>by
 unfold QoI at h
 split at h
 ·obtain⟨h1,rfl⟩:=ak h;exact⟨by simp[D.refs],20,QBD _ h1⟩
 ·cases h
theorem FD(n:Int):bits .i64 (fun _ u v=>u&&&v) n 255=n%256:=by
 unfold bits;rw[BitVec.toNat_and,VW,VW];have e:((255:Int)%18446744073709551616).toNat=2^8-1:=by decide
 rw[e,Nat.and_two_pow_sub_one_eq_mod,cC (by omega) (by omega)];omega
def Xq:bW->bO
 |[.int .i64 a,.int .i64 f,.bool nd]=>some (true,.int .i64 (Zm a f nd))
 |_=>none
def Qkw(a f:Int)(nd:Bool):=eO cu BP 20 172 [.int .i64 a,.int .i64 f,.bool nd]
theorem QrB a f nd:Qkw a f nd=(let Z0:Int:=bits .i64 (fun(x:Nat) (u v:BitVec x)=>u&&&v) a 255;bif decide (a<0)then some (cj (-1:Int))else bif nd then some (cj (dt 291 Z0 f 160 3))else some (cj (dt 99 Z0 f 16 12))):=by kernel_rfl
theorem QrC a f nd(h:(true)=true):Qkw a f nd=some (.int .i64 (Zm a f nd)):=by
 (rw[QrB];delta cj;conv=>zeta)
 unfold Zm;rw[FD];refine JI (fun h0=>?_) fun h0=>?_<;>simp only[aa,ae]at h0
 ·rw[ax h0]
 ·rw[aw h0];cases nd<;>rfl
def BQ:=BP.b8 172 Xq
theorem QwU:Qk Tryz.prog cu BQ:=QwT.cQ Qb fun args d h=>by
 unfold Xq at h
 split at h
 ·obtain⟨h1,rfl⟩:=ak h;exact⟨by simp[D.refs],20,QrC _ _ _ h1⟩
 ·cases h
def Xr:bW->bO
 |[.int .i64 a,.int .i64 f,.bool nd]=>some (true,.int .i64 (Zm a f nd))
 |_=>none
def Qky(a f:Int)(nd:Bool):=eO cu BQ 20 140 [.int .i64 a,.int .i64 f,.bool nd]
theorem QrD a f nd:Qky a f nd=(let Z0:Int:=Int.tmod a (256:Int);bif decide (a<(0:Int))then some (cj (-1:Int))else bif nd then some (cj (dt (291:Int) Z0 f (160:Int) (3:Int)))else some (cj (dt (99:Int) Z0 f (16:Int) (12:Int)))):=by kernel_rfl
theorem QrE a f nd(h:(true)=true):Qky a f nd=some (.int .i64 (Zm a f nd)):=by
 (rw[QrD];delta cj;conv=>zeta)
 unfold Zm;refine JI (fun h0=>?_) fun h0=>?_<;>simp only[aa,ae]at h0
 ·rw[ax h0]
 ·rw[aw h0,Qv9 (by omega)];cases nd<;>rfl
def BR:=BQ.b8 140 Xr
theorem QwV:Qk Tryz.prog cu BR:=QwU.cQ Qb fun args d h=>by
 unfold Xr at h
 split at h
 ·obtain⟨h1,rfl⟩:=ak h;exact⟨by simp[D.refs],20,QrE _ _ _ h1⟩
 ·cases h
open Go.Proofs
theorem QI1{n:Int}(k:Nat)(h:0<=n):(n.fdiv (2^k)==0)=decide (n<2^k):=by
 have hp:(0:Int)<2^k:=Int.pow_pos (by decide);rw[aQ _ (Int.le_of_lt hp)]
 by_cases q:n<2^k
 ·rw[ab q,Int.ediv_eq_zero_of_lt h q];rfl
 ·rw[ad q]
  have:n/2^k≠0:=fun e=>q (by
   have h1:=Int.ediv_mul_add_emod n (2^k);have h2:=Int.emod_lt_of_pos n hp;rw[e]at h1;omega)
  simpa using this
theorem Of{o p j k v:Int}(h:¬(0<=o/\o<4194304/\1<=p/\p<=1048575/\0<=j/\j<=3/\0<=k/\k<=7/\0<=v/\v<=255)):Zb ⟨o,p,j,k,v⟩=false:=ad h
theorem Og{o p j k v:Int}(h:0<=o/\o<4194304/\1<=p/\p<=1048575/\0<=j/\j<=3/\0<=k/\k<=7/\0<=v/\v<=255):Zb ⟨o,p,j,k,v⟩=true:=ab h
def QoJ:bW->bO
 |[.int .i64 n,.int .i64 a,.int .i64 b]=>some (decide (0<=a/\0<=b/\b<=63),.bool (decide (a<=n/\n<2^b.toNat)))
 |_=>none
def QwX(n a b:Int):=eO cu BR 20 186 [.int .i64 n,.int .i64 a,.int .i64 b]
theorem QBE n a b:QwX n a b=(bif decide (a<=n)then bif decide (b<(0:Int))then none else some (D.bool (Int.fdiv n ((2:Int)^min b.toNat (64:Nat))==(0:Int)))else some (D.bool false)):=by kernel_rfl
theorem QBF n a b(h:(decide (0<=a/\0<=b/\b<=63))=true):QwX n a b=some (.bool (decide (a<=n/\n<2^b.toNat))):=by
 rw[QBE];obtain⟨h1,h2,h3⟩:=af h;have hm:min b.toNat 64=b.toNat:=by omega
 rw[ad (show ¬b<0 by omega),hm];simp only[ah];refine Qw (fun q=>?_) fun q=>?_
 ·have q:=af q;rw[QI1 _ (by omega)]
  by_cases q2:n<2^b.toNat
  ·rw[ab q2,ab (show a<=n/\n<2^b.toNat from⟨q,q2⟩)]
  ·rw[ad q2,ad (fun e=>q2 e.2)]
 ·have q:=of_decide_eq_false q;rw[ad (fun e=>q e.1)]
def BS:=BR.b8 186 QoJ
theorem QwY:Qk Tryz.prog cu BS:=QwV.cQ Qb fun args d h=>by
 unfold QoJ at h
 split at h
 ·obtain⟨h1,rfl⟩:=ak h;exact⟨by simp[D.refs],20,QBF _ _ _ h1⟩
 ·cases h
def Qkz:bW->bO
 |[.bI (.int .i64 o) (.bI (.int .i64 p) (.bI (.int .i64 j) (.bI (.int .i64 k) (.bI (.int .i64 v) .bN))))]=>some (true,.cG (cH (fx ⟨o,p,j,k,v⟩) (cH (bif Zb ⟨o,p,j,k,v⟩then 0 else 2) .bN)))
 |_=>none
def QoL(o p j k v:Int):=eO cu BS 60 117 [.bI (.int .i64 o) (cH p (cH j (cH k (cH v .bN))))]
theorem QwZ o p j k v:QoL o p j k v=(let Z0:bV:=cj 0;let Z1:fI:=some (D.cG (D.bI Z0 (D.bI (cj 2) .bN)));bif dH o 4194304 then bif decide ((1:Int)<=p/\p<1048576)then bif dH j 4 then bif dH k 8 then bif !dH v 256 then Z1 else some (D.cG (D.bI (cj (bits .i64 (fun(x:Nat) (u v:BitVec x)=>u|||v) (bits .i64 (fun(x:Nat) (u v:BitVec x)=>u|||v) (bits .i64 (fun(x:Nat) (u v:BitVec x)=>u|||v) (bits .i64 (fun(x:Nat) (u v:BitVec x)=>u|||v) (c6 (c6 (o+1)*8589934592)) (c6 (p*8192))) (c6 (j*2048))) (c6 (k*256))) v)) (.bI Z0 .bN)))else Z1 else Z1 else Z1 else Z1):=by kernel_rfl
theorem Qw0 o p j k v(h:(true)=true):QoL o p j k v=some (.cG (cH (fx ⟨o,p,j,k,v⟩) (cH (bif Zb ⟨o,p,j,k,v⟩then 0 else 2) .bN))):=by
 (rw[QwZ];delta dH cj c6;conv=>zeta)
 have no:(¬(0<=o/\o<4194304/\1<=p/\p<=1048575/\0<=j/\j<=3/\0<=k/\k<=7/\0<=v/\v<=255))->some (D.cG (C:=RC) (cH 0 (cH 2 .bN)))=some (.cG (cH (fx ⟨o,p,j,k,v⟩) (cH (bif Zb ⟨o,p,j,k,v⟩then 0 else 2) .bN))):=fun e=>by simp only[fx,Of e];rfl
 iterate 4
  refine Qw (fun _=>?_) fun e=>no (by simp only[ae]at e;omega)
 refine Qw (fun e=>no (by simp only[Bool.not_eq_true',ae]at e;omega)) fun e=>?_;simp only[Bool.not_eq_false',aa]at *;have hm:Zb ⟨o,p,j,k,v⟩=true:=Og (by omega);have w1:IntKind.i64.wrap (o+1)=o+1:=cC (by omega) (by omega);have w2:IntKind.i64.wrap ((o+1)*8589934592)=(o+1)*8589934592:=cC (by omega) (by omega);have w3:IntKind.i64.wrap (p*8192)=p*8192:=cC (by omega) (by omega);have w4:IntKind.i64.wrap (j*2048)=j*2048:=cC (by omega) (by omega);have w5:IntKind.i64.wrap (k*256)=k*256:=cC (by omega) (by omega);simp only[fx,hm,w1,w2,w3,w4,w5,ag,QBv hm]
def BT:=BS.b8 117 Qkz
theorem Qw1:Qk Tryz.prog cu BT:=QwY.cQ Qb fun args d h=>by
 unfold Qkz at h
 split at h
 ·obtain⟨h1,rfl⟩:=ak h;exact⟨by simp[D.refs],60,Qw0 _ _ _ _ _ h1⟩
 ·cases h
theorem QBG{w:Int}(h0:0<=w)(h1:w<9223372036854775808) :
 IntKind.i64.wrap (w.fdiv 8589934592-1)=(qX w).offset/\bits .i64 (fun _ u v=>u&&&v) (w.fdiv 8192) 1048575=(qX w).place/\bits .i64 (fun _ u v=>u&&&v) (w.fdiv 2048) 3=(qX w).j /\
 bits .i64 (fun _ u v=>u&&&v) (w.fdiv 256) 7=(qX w).key/\bits .i64 (fun _ u v=>u&&&v) w 255=(qX w).value:=by
 have f1:w.fdiv 8589934592=w/8589934592:=aQ _ (by decide);have f2:w.fdiv 8192=w/8192:=aQ _ (by decide);have f3:w.fdiv 2048=w/2048:=aQ _ (by decide);have f4:w.fdiv 256=w/256:=aQ _ (by decide);rw[f1,f2,f3,f4];refine⟨cC (by omega) (by omega),?_,?_,?_,?_⟩
 ·exact Vn _ 1048575 20 (by decide) (by omega) (by omega) (by decide)
 ·exact Vn _ 3 2 (by decide) (by omega) (by omega) (by decide)
 ·exact Vn _ 7 3 (by decide) (by omega) (by omega) (by decide)
 ·exact Vn _ 255 8 (by decide) (by omega) (by omega) (by decide)
theorem Qw2{w:Int}(h:w<0):KU w=none:=aw (fun e=>by omega)
theorem Qw3{w:Int}(h:0<=w)(hm:Zb (qX w)=true):KU w=some (qX w):=ax ⟨h,hm⟩
theorem QBH{w:Int}(hm:Zb (qX w)=false):KU w=none:=aw (fun e=>by rw[hm]at e;cases e.2)
def QkA:bW->bO
 |[.int .i64 w]=>some (decide (w<9223372036854775808),.cG (.bI (cH (YE w).offset (cH (YE w).place (cH (YE w).j (cH (YE w).key (cH (YE w).value .bN))))) (.bI (.bool (KU w).isSome) .bN)))
 |_=>none
def QoN(w:Int):=eO cu BT 60 131 [.int .i64 w]
theorem Qw4 w:QoN w=(let Z0:bV:=cj 0;let Z1:fI:=some (D.cG (D.bI (D.bI Z0 (D.bI Z0 (D.bI Z0 (D.bI Z0 (D.bI Z0 .bN))))) (.bI (D.bool false) .bN)));let Z2:=c6 (Int.fdiv w 8589934592-1);let Z3:Int:=bits .i64 (fun(x:Nat) (u v:BitVec x)=>u&&&v) (Int.fdiv w 8192) 1048575;let Z4:Int:=bits .i64 (fun(x:Nat) (u v:BitVec x)=>u&&&v) (Int.fdiv w 2048) 3;let Z5:Int:=bits .i64 (fun(x:Nat) (u v:BitVec x)=>u&&&v) (Int.fdiv w 256) 7;let Z6:Int:=bits .i64 (fun(x:Nat) (u v:BitVec x)=>u&&&v) w 255;bif decide (w<0)then Z1 else bif dH Z2 4194304 then bif decide ((1:Int)<=Z3/\Z3<1048576)then bif dH Z4 4 then bif dH Z5 8 then bif !dH Z6 256 then Z1 else some (D.cG (D.bI (D.bI (cj Z2) (.bI (cj Z3) (.bI (cj Z4) (.bI (cj Z5) (.bI (cj Z6) .bN))))) (.bI (D.bool true) .bN)))else Z1 else Z1 else Z1 else Z1):=by kernel_rfl
theorem Qw5 w(h:(decide (w<9223372036854775808))=true):QoN w=some (.cG (.bI (cH (YE w).offset (cH (YE w).place (cH (YE w).j (cH (YE w).key (cH (YE w).value .bN))))) (.bI (.bool (KU w).isSome) .bN))):=by
 (rw[Qw4];delta dH cj c6;conv=>zeta)
 have h1:=af h;have no:KU w=none->some (D.cG (C:=RC) (.bI (cH 0 (cH 0 (cH 0 (cH 0 (cH 0 .bN))))) (.bI (.bool false) .bN)))=some (.cG (.bI (cH (YE w).offset (cH (YE w).place (cH (YE w).j (cH (YE w).key (cH (YE w).value .bN))))) (.bI (.bool (KU w).isSome) .bN))):=fun e=>by simp only[YE,e];rfl
 refine Qw (fun q=>no (Qw2 (af q))) fun q=>?_;have q:=of_decide_eq_false q;obtain⟨a1,a2,a3,a4,a5⟩:=QBG (by omega) h1;rw[a1,a2,a3,a4,a5];generalize hl:qX w=l;have no2:Zb l=false->KU w=none:=fun e=>QBH (by rw[hl];exact e);obtain⟨o,p,j,k,v⟩:=l;have no3:¬(0<=o/\o<4194304/\1<=p/\p<=1048575/\0<=j/\j<=3/\0<=k/\k<=7/\0<=v/\v<=255)->KU w=none:=fun e=>no2 (Of e);simp only
 iterate 4
  refine Qw (fun _=>?_) fun e=>no (no3 (by simp only[ae]at e;omega))
 refine Qw (fun e=>no (no3 (by simp only[Bool.not_eq_true',ae]at e;omega))) fun e=>?_;simp only[Bool.not_eq_false',aa]at *;have hm:Zb (qX w)=true:=by rw[hl];exact Og (by omega)
 simp only[YE,Qw3 (by omega) hm,ba,hl];rfl
def BU:=BT.b8 131 QkA
theorem Qw6:Qk Tryz.prog cu BU:=Qw1.cQ Qb fun args d h=>by
 unfold QkA at h
 split at h
 ·obtain⟨h1,rfl⟩:=ak h;exact⟨by simp[D.refs],60,Qw5 _ h1⟩
 ·cases h
def ir:bM->Int->Nat
 |[],_=>0
 |y::l,a=>if y.key<a then ir l a+1 else 0
def CZ(l:bM)(a:Int):bM:=match l.drop (ir l a)with
 |y::r=>if y.key=a then r else y::r
 |[]=>[]
def jJ(l:bM)(x:Item):bM:=l.take (ir l x.key)++x::CZ l x.key
theorem IU:∀(l:bM) (a:Int),ir l a<=l.length
 |[],_=>aq _
 |y::l,a=>by
  unfold ir
  split
  ·have:=IU l a;simp;omega
  ·simp
theorem Qw7:∀{l:bM} {a:Int} {k:Nat} {d:Item},k<l.length->k<=ir l a->(k<ir l a↔(l.getD k d).key<a)
 |[],_,k,_,h,_=>by simp at h
 |y::l,a,0,d,_,_=>by
  unfold ir
  by_cases h:y.key<a<;>simp[h]
 |y::l,a,k+1,d,h,hk=>by
  unfold ir at hk ⊢
  by_cases hy:y.key<a
  ·simp only[hy,aU]at hk ⊢;have:=Qw7 (l:=l) (a:=a) (k:=k) (d:=d) (by simpa using h) (by omega);simp only[List.getD_cons_succ];omega
  ·simp only[hy,aL]at hk;omega
theorem Xs l a(d:Item):CZ l a=if ir l a<l.length/\(l.getD (ir l a) d).key=a then l.drop (ir l a+1)else l.drop (ir l a):=by
 unfold CZ
 by_cases h:ir l a<l.length
 ·have e:l.drop (ir l a)=l.getD (ir l a) d::l.drop (ir l a+1):=by
   rw[aJ h];simp[h]
  rw[e]
  by_cases hk:(l.getD (ir l a) d).key=a
  ·rw[ax ⟨h,hk⟩];simp only[hk,aU]
  ·rw[aw (fun q=>hk q.2)];simp only[hk,aL]
 ·have e:l.drop (ir l a)=[]:=aO (by omega);rw[e,aw (fun q=>h q.1)]
theorem QoO l x:(jJ l x).length<=l.length+1:=by
 have:=IU l x.key;rw[jJ,Xs l x.key ⟨0,0,0⟩]
 split<;>simp<;>omega
open Go.Proofs
structure QoP where
 (c:Bool)(l:bM)(a p v:Int)(k:Nat)
def Pw(c:Bool)(l:bM)(a p v:Int)(k:Nat):bX:=[(0,.sl (C:=RC) .item c l),(3,.ptr 0 []),(5,.int .i64 (k:Int))]
def xR(c:Bool)(l:bM)(a p v:Int)(k:Nat):bP:=[.var 56 (cH a (cH p (cH v .bN)))]
def Qw8 c l a p v k:=dQ cu BU 91 2 40 1 [0,3,5] [5] [.slot 3 0] (Pw c l a p v k) (xR c l a p v k)
theorem QBI c l a p v k:Qw8 c l a p v k=(let Z0:Int:=(k:Int);let Z1:cb:=[some (Obj.var 56 (.bI (cj a) (.bI (cj p) (.bI (cj v) .bN))))];let Z2:mL:=some ((X.exit 0,[(5,cj Z0)]),Z1);b7 (Qd l.length) (bif decide (Z0<(l.length:Int))then b7 (dH Z0 (l.length:Int)) (bif decide (Item.key (List.getD l Z0.toNat (Item.mk 0 0 0))<a)then some ((X.normal,[(0,D.sl b9.item c l),(3,D.ptr 0 []),(5,cj (c6 (Z0+1)))]),Z1)else Z2)else Z2)):=by kernel_rfl
def H6(c:Bool)(l:bM)(a p v:Int)(k:Nat):RT RC:=.leaf (.exit 0) [(5,.int .i64 (ir l a:Int))] (xR c l a p v k)
def D8(c:Bool)(l:bM)(a p v:Int)(k:Nat):Prop:=k<=ir l a/\Qd l.length=true
def Kz:QD RC QoP where
 k:=1
 cM q:=Pw q.c q.l q.a q.p q.v q.k
 cK q:=xR q.c q.l q.a q.p q.v q.k
 fin q:=H6 q.c q.l q.a q.p q.v q.k
 Inv q:=D8 q.c q.l q.a q.p q.v q.k
 μ q:=q.l.length-q.k
theorem Qml c l a p v k(hI:D8 c l a p v k):c8 (Qw8 c l a p v k) (dj Kz ⟨c,l,a,p,v,k⟩):=by
 (rw[QBI];delta b7 dH cj c6;conv=>zeta)
 unfold D8 at hI;obtain⟨h1,h2⟩:=hI;have hl:=VM h2;have hi:=IU l a
 by_cases cU:k<l.length
 ·have cP:=eG k (by omega)
  have eu:=ga (show k<l.length by omega)
  have et:=fL (show k<l.length by omega)
  have dh:=bw k
  simp only[cP,eu,et,dh,ag];simp only[h2,ag];have iw:=Qw7 (d:=(⟨0,0,0⟩:Item)) cU h1
  by_cases hk:(l.getD k ⟨0,0,0⟩).key<a
  ·rw[ab hk];simp only[ag];exact Qi (S:=Kz) ⟨c,l,a,p,v,k+1⟩ ⟨iw.2 hk,h2⟩ (by simp only[Kz];omega) rfl rfl rfl
  ·rw[ad hk];simp only[ah];have e:k=ir l a:=by omega
   exact Qh (xR c l a p v k) (by simp only[Kz,H6,RT.val,<-e]) rfl
 ·have d1:decide ((k:Int)<l.length)=false:=by simp;omega
  rw[h2,d1];simp only[ag,ah];have e:k=ir l a:=by omega
  exact Qh (xR c l a p v k) (by simp only[Kz,H6,RT.val,<-e]) rfl
def Px(env:bX)(os:bP):Option (Bool×QoP):=match env,os with
 |[(0,.sl .item c l),(3,.ptr 0 []),(5,.int .i64 x0)],[.var 56 (.bI (.int .i64 a) (.bI (.int .i64 p) (.bI (.int .i64 v) .bN)))]=>some (decide (x0=0)&&Qd l.length,⟨c,l,a,p,v,0⟩)
 |_,_=>none
def BV:=BU.cJ 91 2 (ey cu [.slot 3 0] [0,3,5] Kz Px)
theorem Qw9:Qk Tryz.prog cu BV:=by
 refine Qw6.cq Qb (by kernel_rfl) Kz 40 [0,3,5] [5] [.slot 3 0] [0,3,5] Px (fun q hI=>?_) ?_
 ·obtain⟨c,l,a,p,v,k⟩:=q;refine⟨?_,?_,Qml c l a p v k hI⟩
  ·simp_all[Qj,Kz,Pw,xR,D8,D.refs,Obj.refs,cV]
  ·simp_all[Kz,H6,xR,D8,RT.cT,Qj,D.refs,Obj.refs,cV]
 ·intro env os b q cN hb;unfold Px at cN
  split at cN
  ·cases cN;simp only[ai,aa]at hb;obtain⟨rfl,h2⟩:=hb;exact⟨⟨aK _,h2⟩,rfl,rfl⟩
  ·cases cN
def QoQ:bW->bO
 |[.sl .item c l,.bI (.int .i64 a) (.bI (.int .i64 p) (.bI (.int .i64 v) .bN))]=>some (decide (l.length<=1000),.sl (C:=RC) .item false (jJ l ⟨a,p,v⟩))
 |_=>none
def Qxb(c:Bool)(l:bM)(a p v:Int):=eO cu BV 40 91 [.sl (C:=RC) .item c l,.bI (.int .i64 a) (cH p (cH v .bN))]
theorem QBJ c l a p v:Qxb c l a p v=(let Z0:Int:=(↑(ir l a):Int);let Z1:bM:=List.drop Z0.toNat l;let Z2:=Z1.length;let Z3:Bool:=decide ((0:Int)<=0/\(0:Int)<=Z0/\Z0<=(l.length:Int)/\Z0=Z0);let Z4:bM:=List.drop 0 (List.take Z0.toNat l);let Z5:=Z4.length+List.length [Item.mk a p v];let Z6:bM:=Z4++[Item.mk a p v];let Z7:=Z6.length;let Z8:=List.length (List.drop 1 Z1);let Z9:bM:=Z6++List.drop 1 Z1;let db:fI:=none;let dB:fI:=bif Z3 then bif Qg Z5 24then bif Nat.beq Z5 Z7&&Qg (Z5+Z2) 24then bif Nat.beq (Z7+Z2) (Z6++Z1).length then some (D.sl b9.item false (Z6++Z1))else db else db else db else db;bif Qd l.length then bif decide ((0:Int)<=Z0/\Z0<=(l.length:Int))then bif Qd Z2 then bif decide ((0:Int)<(Z2:Int))then bif decide ((0:Int)<=0/\(0:Int)<(Z2:Int))then bif Item.key (List.getD Z1 0 (Item.mk 0 0 0))==a then bif decide ((0:Int)<=1/\(1:Int)<=(Z2:Int))then bif Z3 then bif Qg Z5 24then bif Nat.beq Z5 Z7&&Qg (Z5+Z8) 24then bif Nat.beq (Z7+Z8) Z9.length then some (D.sl b9.item false Z9)else db else db else db else db else db else dB else db else dB else db else db else db):=by kernel_rfl
theorem QBK c l a p v(h:(decide (l.length<=1000))=true):Qxb c l a p v=some (.sl (C:=RC) .item false (jJ l ⟨a,p,v⟩)):=by
 (rw[QBJ];conv=>zeta)
 have hl:l.length<=1000:=by simpa using h
 have hi:=IU l a;have hr:=Xs l a ⟨0,0,0⟩;show _=some (D.sl (C:=RC) b9.item false (l.take (ir l a)++⟨a,p,v⟩::CZ l a));rw[hr];generalize ir l a=K at *;have t:=bw K
 have g0:(l.drop K).getD 0 (⟨0,0,0⟩:Item)=l.getD K ⟨0,0,0⟩:=by simp[ar]
 simp only[t,g0,bq,bp,bG,aC,aE,bH];refine Qa (Qe (by omega)) (Qa (by simp;omega) (Qa (Qe (by omega)) ?_))
 by_cases cU:K<l.length
 ·refine Qa (by simp;omega) (Qa (by simp;omega) ?_)
  by_cases hk:(l.getD K ⟨0,0,0⟩).key=a
  ·rw[ax ⟨cU,hk⟩];refine Qa (by simpa using hk) (Qa (by simp;omega) (Qa (by simp;omega) (Qa (Zt (by omega)) (Qa (by rw[ai];exact⟨Zp (by omega),Zt (by omega)⟩) (Qa (Zp (by omega)) ?_)))));simp[bD,Nat.add_comm]
  ·rw[aw fun q=>hk q.2];refine Qq (by simpa using hk) (Qa (by simp;omega) (Qa (Zt (by omega)) (Qa (by rw[ai];exact⟨Zp (by omega),Zt (by omega)⟩) (Qa (Zp (by omega)) ?_))));simp
 ·rw[aw fun q=>cU q.1];refine Qq (by simp;omega) (Qa (by simp;omega) (Qa (Zt (by omega)) (Qa (by rw[ai];exact⟨Zp (by omega),Zt (by omega)⟩) (Qa (Zp (by omega)) ?_))));simp
def BW:=BV.b8 91 QoQ
theorem Qxc:Qk Tryz.prog cu BW:=Qw9.cQ Qb fun args d h=>by
 unfold QoQ at h
 split at h
 ·obtain⟨h1,rfl⟩:=ak h;exact⟨by simp[D.refs],40,QBK _ _ _ _ _ h1⟩
 ·cases h
def dN{α:Type}(p:α->Bool):List α->Nat
 |[]=>0
 |x::l=>bif p x then 0 else dN p l+1
theorem ND{α:Type}(p:α->Bool):∀l:List α,dN p l<=l.length
 |[]=>aq _
 |x::l=>by
  unfold dN;cases p x<;>simp[ND p l]
theorem JZ{α:Type}(p:α->Bool):∀l:List α,(dN p l<l.length)↔l.any p=true
 |[]=>by simp[dN]
 |x::l=>by
  unfold dN;have:=JZ p l;cases h:p x<;>simp[h,this]
theorem NE{α:Type}(p:α->Bool):∀{l:List α} {k:Nat} {d:α},k<l.length->k<=dN p l->(k<dN p l↔p (l.getD k d)=false)
 |[],k,_,h,_=>by simp at h
 |x::l,0,d,_,_=>by
  unfold dN;cases h:p x<;>simp[h]
 |x::l,k+1,d,h,hk=>by
  unfold dN at hk ⊢;cases hx:p x
  ·simp only[hx,ah]at hk ⊢;have:=NE p (l:=l) (k:=k) (d:=d) (by simpa using h) (by omega);simp only[List.getD_cons_succ];exact⟨fun q=>this.1 (by omega),fun q=>by have:=this.2 q;omega⟩
  ·simp only[hx,ag]at hk;omega
theorem Qmn{α:Type}{p:α->Bool}{l:List α}:(dN (fun x=>!p x) l<l.length)↔l.all p=false:=by
 rw[JZ];simp
theorem QoR(x:cg):cg.mk x.offset x.place x.j x.key x.value=x:=rfl
def j3(cut:Int):Nat->bJ->Nat->Nat->bJ×Nat
 |0,w,i,_=>(w,i)
 |n+1,w,i,j=>if(w.getD j ⟨0,0,0,0,0⟩).place<=cut then j3 cut n w i (j+1)else j3 cut n (w.set i (w.getD j ⟨0,0,0,0,0⟩)) (i+1) (j+1)
theorem IV(cut:Int):∀(n:Nat) (w:bJ) (i j:Nat),i<=j->j+n=w.length ->
 (j3 cut n w i j).1.length=w.length/\(j3 cut n w i j).2<=w.length/\(j3 cut n w i j).1.take (j3 cut n w i j).2=w.take i++(w.drop j).filter fun x=>decide (cut<x.place)
 |0,w,i,j,h1,h2=>by
  have:w.drop j=[]:=aO (by omega);rw[this];exact⟨rfl,by simp only[j3];omega,by simp[j3]⟩
 |n+1,w,i,j,h1,h2=>by
  have hj:j<w.length:=by omega
  have e:w.drop j=w.getD j ⟨0,0,0,0,0⟩::w.drop (j+1):=by
   rw[aJ hj];simp[hj]
  unfold j3;generalize w.getD j ⟨0,0,0,0,0⟩=x at e ⊢
  by_cases hp:x.place<=cut
  ·rw[ax hp];obtain⟨a,b,c⟩:=IV cut n w i (j+1) (by omega) (by omega);refine⟨a,b,?_⟩;rw[c,e,List.filter_cons_of_neg (by simpa using hp)]
  ·rw[aw hp];obtain⟨a,b,c⟩:=IV cut n (w.set i x) (i+1) (j+1) (by omega) (by rw[bf];omega);rw[bf]at a b;refine⟨a,b,?_⟩;rw[c,e,List.filter_cons_of_pos (by simpa using hp)]
   have e1:(w.set i x).take (i+1)=w.take i++[x]:=by
    rw[List.take_add_one,List.take_set_of_le (aq _)];simp[show i<w.length by omega]
   have e2:(w.set i x).drop (j+1)=w.drop (j+1):=by rw[List.drop_set_of_lt (by omega)]
   rw[e1,e2];simp
theorem JJ(cut:Int):∀{M:bJ},(M.any fun x=>decide (x.place<=cut))=true ->
 M.filter (fun x=>decide (cut<x.place))=M.take (dN (fun x=>decide (x.place<=cut)) M)++(M.drop (dN (fun x=>decide (x.place<=cut)) M+1)).filter fun x=>decide (cut<x.place)
 |[],h=>by simp at h
 |x::M,h=>by
  unfold dN
  by_cases hx:x.place<=cut
  ·rw[List.filter_cons_of_neg (by simpa using hx)];simp[hx]
  ·have hM:(M.any fun x=>decide (x.place<=cut))=true:=by simpa[hx]using h
   rw[List.filter_cons_of_pos (by simp;omega),JJ cut hM];simp[hx]
theorem Xk(cut:Int){M:bJ}(h:(M.any fun x=>decide (x.place<=cut))=false):M.filter (fun x=>decide (cut<x.place))=M:=by
 rw[List.filter_eq_self];intro x hx;have:=List.any_eq_false.1 h x hx;simp only[aa]at this ⊢;omega
def ZG(p q:Int):Int->Nat->ca->bJ
 |_,_,[]=>[]
 |nx,j,w::r=>if w.key/8=q then⟨nx,p,j,w.key%8,w.value⟩::ZG p q (nx+1) (j+1) r else ZG p q nx (j+1) r
theorem J0 p q:∀(w:ca) (nx:Int) (j:Nat),(ZG p q nx j w).length<=w.length
 |[],_,_=>aq _
 |w::r,nx,j=>by
  unfold ZG
  split
  ·have:=J0 p q r (nx+1) (j+1);simp;omega
  ·have:=J0 p q r nx (j+1);simp;omega
def uX(l:bJ):Int:=if 0<l.length then(l.getD (l.length-1) ⟨0,0,0,0,0⟩).offset+1 else 0
def sC(l:bJ)(r:Rec):Bool:=l.all Zb&&dW r
def KV(l:bJ)(r:Rec)(q:Int):bJ:=l++ZG r.place q (uX l) 0 r.writes
def u9(l:bJ):Int:=(l.getD (l.length-17) ⟨0,0,0,0,0⟩).place
def Cz(l:bJ):bJ:=(l.drop (l.length-16)).filter fun x=>decide (u9 l<x.place)
def KW(l:bJ)(r:Rec)(q:Int):bJ :=
 bif sC l r&&r.yes then(bif decide ((KV l r q).length<=16)then KV l r q else Cz (KV l r q))else l
def pP(l:bJ)(cut:Int)(r:Rec)(q:Int):Int :=
 bif sC l r&&r.yes then(bif decide ((KV l r q).length<=16)then cut else u9 (KV l r q))else cut
theorem Oh l r q:(KW l r q).length<=max l.length 16:=by
 unfold KW;cases sC l r&&r.yes
 ·simp;omega
 ·simp only[ag]
  by_cases h:(KV l r q).length<=16
  ·rw[ab h];simp only[ag];omega
  ·rw[ad h];simp only[ah];have:=List.length_filter_le (fun x:cg=>decide (u9 (KV l r q)<x.place)) ((KV l r q).drop ((KV l r q).length-16));unfold Cz;simp only[bq]at this;omega
theorem QkB{r:Rec}(h:dW r=true):∀w∈r.writes,0<=w.key/\w.key<=23:=by
 intro w hw;unfold dW ZV at h;simp only[ai]at h;have:=aX.1 (Yf h.1.2.2) w hw;unfold Vu at this;simp only[ai,Qf]at this;exact this.1
def CA(ws:ca):Bool:=ws.all fun w=>decide (0<=w.key/\w.key<=23)
theorem QkC{ws:ca}(h:CA ws=true){i:Nat}(hi:i<ws.length):0<=(ws.getD i ⟨0,0⟩).key/\(ws.getD i ⟨0,0⟩).key<=23:=by
 have:=aX.1 h ws[i] (bA hi);simp only[aa]at this
 simpa[hi]using this
theorem QoS{r:Rec}(h:dW r=true):CA r.writes=true:=aX.2 fun w hw=>by simpa using QkB h w hw
section
variable {C:gR}{P:Program}{T:fh C}{Φ:iR C}
open Pg (Ex)
end
section
variable {C:gR}{P:Program}{T:fh C}{Φ:iR C}
open Pg (Ex)
end
section
variable {C:gR}{P:Program}{T:fh C}{Φ:iR C}
open Pg (Ex)
def D.nQ:D C->D C
 |.bI d ds=>.bI d.nQ ds.nQ
 |.cG d=>.cG d.nQ
 |.sl t _ l=>.sl t false l
 |d=>d
theorem D.lz:∀d:D C,d.nQ.refs=d.refs
 |.bI d ds=>by simp[D.nQ,D.refs,D.lz d,D.lz ds]
 |.cG d=>by simp[D.nQ,D.refs,D.lz d]
 |.sl _ _ _=>rfl
 |.bool _ |.int _ _ |.str _ |.bN |.arr _ _ _ |.ez |.vs _ _ |.ptr _ _ |.eY _ _ _ |.dC _ |.eX |.fn _ _ |.cm |.gf |.bm _ _ |.yl _ _ _ _ _ _ _ |.fO _ _ _ |.jN _ |.mp _ |.jg _ _ _ _ _ |.top=>rfl
theorem D.ly:∀d:D C,d.nQ.dM=d.dM
 |.bI d ds=>by simp only[D.nQ,D.dM,D.ly d,D.ly ds]
 |.cG d=>by simp only[D.nQ,D.dM,D.ly d]
 |.sl _ _ _=>rfl
 |.bool _ |.int _ _ |.str _ |.bN |.arr _ _ _ |.ez |.vs _ _ |.ptr _ _ |.eY _ _ _ |.dC _ |.eX |.fn _ _ |.cm |.gf |.bm _ _ |.yl _ _ _ _ _ _ _ |.fO _ _ _ |.jN _ |.mp _ |.jg _ _ _ _ _ |.top=>rfl
theorem D.mV:∀d:D C,d.nQ.de=d.de
 |.bI _ _ |.cG _ |.sl _ _ _=>rfl
 |.bool _ |.int _ _ |.str _ |.bN |.arr _ _ _ |.ez |.vs _ _ |.ptr _ _ |.eY _ _ _ |.dC _ |.eX |.fn _ _ |.cm |.gf |.bm _ _ |.yl _ _ _ _ _ _ _ |.fO _ _ _ |.jN _ |.mp _ |.jg _ _ _ _ _ |.top=>rfl
theorem R.nQ{X:Cx}{m:Bool}{d:D C}{vs:bT}(h:R T X m d vs):R T X m d.nQ vs:=by
 induction h with
 |bI _ _ i1 i2=>exact .bI i1 i2
 |cG _ ih=>exact .cG ih
 |kN t c a=>exact .kN t false a
 |sl ha h hc _ _=>exact .sl ha h hc (fun h=>by cases h)
 |jh _ hr _ i1 i2=>exact .jh i1 (by rw[D.mV];exact hr) i2
 |iQ _ hr _ i1 i2=>exact .iQ i1 (by rw[D.mV];exact hr) i2
 |bool b=>exact .bool b
 |int h=>exact .int h
 |str s=>exact .str s
 |bN=>exact .bN
 |ia t=>exact .ia t
 |iS h1 h2 _ _=>exact .iS h1 h2
 |ez=>exact .ez
 |vs h=>exact .vs h
 |ptr h=>exact .ptr h
 |eY h=>exact .eY h
 |dC h1 h2 _=>exact .dC h1 h2
 |eX=>exact .eX
 |fn h _=>exact .fn h
 |cm=>exact .cm
 |gf=>exact .gf
 |bm h1 h2 _=>exact .bm h1 h2
 |yl h1 h2 h3 _=>exact .yl h1 h2 h3
 |fO h1 h2 h3 h4 h5 _=>exact .fO h1 h2 h3 h4 h5
 |jN h=>exact .jN h
 |mp h=>exact .mp h
 |jg h1 h2 h3=>exact .jg h1 h2 h3
 |top v=>exact .top v
 |iu=>exact .iu
theorem RV.nQ{X:Cx}{d:D C}{v:Value}(h:RV T X d v):RV T X d.nQ v:=by
 rcases h with⟨h1,cs,h2,h3⟩|⟨h1,h2⟩
 ·exact .inl ⟨by rw[D.mV];exact h1,cs,h2.nQ,h3⟩
 ·exact .inr ⟨by rw[D.mV];exact h1,h2.nQ⟩
noncomputable def ky(T:fh C)(Φ:iR C)(n:Nat)(f:FuncId)(args:List (D C)):Option (D C):=(wR T Φ (jE T Φ n) f args).run (0,0) [] 0 [] fun d _ _ _=>bif d.refs.isEmpty&&d.dM then some d.nQ else none
theorem Qxd{n:Nat}{f:FuncId}{args:List (D C)}{d:D C}(h:ky T Φ n f args=some d):∃d0,eO T Φ n f args=some d0/\d0.nQ=d:=by
 unfold ky at h;obtain⟨a,h1,n1,t1,hx,hk⟩:=Pg.fw h;cases hc:(a.refs.isEmpty&&a.dM)with
 |false=>rw[hc]at hk;cases hk
 |true=>
  rw[hc]at hk;refine⟨a,?_,aj hk⟩;unfold eO;rw[Pg.nz hx];simp only[hc,ag]
theorem K4.nQ{g:FuncId}{args:List (D C)}{d:D C}(h:K4 P T g args d):K4 P T g args d.nQ:=by
 intro w O vs h1 h2 h3;obtain⟨q1,q2⟩:=h w O vs h1 h2 h3;refine⟨q1,q2.mono fun en w' hp=>?_⟩;obtain⟨v,ρ,e,r,⟨d1,d2⟩,rest⟩:=hp;exact⟨v,ρ,e,r.nQ,⟨by rw[D.lz];exact d1,by rw[D.ly];exact d2⟩,rest⟩
theorem Qk.iv(K:Zo P T)(F:Qk P T Φ){g:FuncId}{s:List (D C)->Option (Bool×D C)}(hs:∀args d,s args=some (true,d)->(∀a∈args,D.refs a=[])/\∃n,ky T Φ n g args=some d):Qk P T (Φ.b8 g s):=
 F.b8 fun args d h=>by
  obtain⟨h1,n,h2⟩:=hs args d h;obtain⟨d0,h3,rfl⟩:=Qxd h2;exact⟨h1,(Qni K F h3 h1).nQ⟩
end
section
variable {C:gR}{P:Program}{T:fh C}{Φ:iR C}
open Pg (Ex)
def rF{α:Type}(T:fh C):c7->Env C->bU->(Env C->bU->Pg C α)->Pg C α
 |[],env,ids,k=>k env ids
 |.slot t i::r,env,ids,k=>match cR env t with
  |.sl ty true []=>.nw (.vec ty true []) fun id=>rF T r ((t,.vs id 0)::env) (ids++[id]) k
  |.sl ty true (x::l)=>.nw (.vec ty false (x::l)) fun id=>rF T r ((t,.vs id (x::l).length)::env) (ids++[id]) k
  |d=>match d.refs[i]? with
   |some id=>rF T r env (ids++[id]) k
   |none=>.fail
 |.xD t::r,env,ids,k=>match cR env t with
  |.sl ty true l=>.br l.isEmpty (.nw (.vec ty true l) fun id=>rF T r ((t,.vs id l.length)::env) (ids++[id]) k) (.nw (.vec ty false l) fun id=>rF T r ((t,.vs id l.length)::env) (ids++[id]) k)
  |_=>.fail
 |.path j p::r,env,ids,k=>match ids[j]? with
  |none=>.fail
  |some tH=>.rd tH fun
   |.var u d=>match eT T d p with
    |some (.sl ty true [])=>match gn T u p with
     |some t'=>bif Y3 T u p&&fit T (.vs 0 0:D C) (.inl t')then .nw (.vec ty true []) fun id=>match Ev.setPath T d p (.vs id 0)with
      |some d'=>.wr tH (.var u d') (rF T r env (ids++[id]) k)
      |none=>.fail
      else .fail
     |none=>.fail
    |some (.sl ty true (x::l))=>match gn T u p with
     |some t'=>bif Y3 T u p&&fit T (.vs 0 0:D C) (.inl t')then .nw (.vec ty false (x::l)) fun id=>match Ev.setPath T d p (.vs id (x::l).length)with
      |some d'=>.wr tH (.var u d') (rF T r env (ids++[id]) k)
      |none=>.fail
      else .fail
     |none=>.fail
    |some x=>match x.refs with
     |id::_=>rF T r env (ids++[id]) k
     |[]=>.fail
    |none=>.fail
   |_=>.fail
theorem QBL(K:Zo P T){α:Type}{e:Pg.Lv}{a:α}{h':Heap C}{cF:Nat}{lim:ek}(dP:cF<=lim.top){k:Env C->bU->Pg C α}{tmps:bY}:∀(l:c7) (X:Cx) (h:Heap C) (nx:Nat) (tr:Tr) (env:Env C) (ids:bU),
 G T X h nx lim->QB T X nx lim env tmps->Ex e (rF T l env ids k) h nx a h' cF tr ->
 ∃X1 h1 pZ dS zm oW,X1.w=X.w/\G T X1 h1 pZ lim/\Step X nx lim X1/\nx<=pZ/\QB T X1 pZ lim dS tmps/\Ex e (k dS zm) h1 pZ a h' cF oW:=by
 intro l
 induction l with
 |nil=>intro X h nx tr env ids g he hx;exact⟨X,h,nx,env,ids,tr,rfl,g,.refl _ _ _,aq _,he,hx⟩
 |cons f l ih=>
  intro X h nx tr env ids g he hx;cases f with
  |slot t i=>
   simp only[rF]at hx
   split at hx
   ·rename_i ty hq;obtain⟨t',hx,_⟩:=Ex.nw hx;have hle:=hx.le;obtain⟨X1,w1,g1,s1,e1⟩:=VU K g he (by omega) hq;obtain⟨X2,h2,n2,fE,jS,mI,w2,g2,s2,na,e2,fN⟩:=ih X1 _ _ _ _ _ g1 e1 hx;exact⟨X2,h2,n2,fE,jS,mI,by rw[w2,w1],g2,s1.trans s2 (by omega),by omega,e2,fN⟩
   ·rename_i ty x l0 hq;obtain⟨t',hx,_⟩:=Ex.nw hx;have hle:=hx.le;obtain⟨X1,w1,g1,s1,e1⟩:=VU K g he (by omega) hq;obtain⟨X2,h2,n2,fE,jS,mI,w2,g2,s2,na,e2,fN⟩:=ih X1 _ _ _ _ _ g1 e1 hx;exact⟨X2,h2,n2,fE,jS,mI,by rw[w2,w1],g2,s1.trans s2 (by omega),by omega,e2,fN⟩
   ·split at hx
    ·exact ih X h nx tr env _ g he hx
    ·exact Ex.cB hx
  |xD t=>
   simp only[rF]at hx
   split at hx
   ·rename_i ty l0 hq;rcases Ex.br hx with⟨hb,hx⟩|⟨hb,hx⟩
    all_goals
     obtain⟨t',hx,_⟩:=Ex.nw hx;have hle:=hx.le;obtain⟨X1,w1,g1,s1,e1⟩:=VU K g he (by omega) hq;rw[hb]at g1;obtain⟨X2,h2,n2,fE,jS,mI,w2,g2,s2,na,e2,fN⟩:=ih X1 _ _ _ _ _ g1 e1 hx;exact⟨X2,h2,n2,fE,jS,mI,by rw[w2,w1],g2,s1.trans s2 (by omega),by omega,e2,fN⟩
   ·exact Ex.cB hx
  |path j p=>
   simp only[rF]at hx
   split at hx
   ·exact Ex.cB hx
   ·rename_i tH hj;obtain⟨o,t',ho,hx,_⟩:=Ex.rd hx;cases o with
    |vec _ _ _=>exact Ex.cB hx
    |map _ _ _=>exact Ex.cB hx
    |dG _=>exact Ex.cB hx
    |var u d=>
     simp only at hx
     split at hx
     ·rename_i ty hq
      split at hx
      ·rename_i t' ht;cases hb:Y3 T u p&&fit T (.vs 0 0:D C) (.inl t')with
       |false=>rw[hb]at hx;exact Ex.cB hx
       |true=>
        rw[hb]at hx;simp only[ag]at hx;simp only[ai]at hb;obtain⟨t1,hx,_⟩:=Ex.nw hx
        split at hx
        ·rename_i d' hs;obtain⟨o',t2,gz,hx,_⟩:=Ex.wr hx;have hle:=hx.le;obtain⟨X1,w1,g1,s1,e1⟩:=HG K g he (by omega) ho hb.1 hq hs ht (by simpa[fit]using hb.2);obtain⟨X2,h2,n2,fE,jS,mI,w2,g2,s2,na,e2,fN⟩:=ih X1 _ _ _ _ _ g1 e1 hx;exact⟨X2,h2,n2,fE,jS,mI,by rw[w2,w1],g2,s1.trans s2 (by omega),by omega,e2,fN⟩
        ·exact Ex.cB hx
      ·exact Ex.cB hx
     ·rename_i ty x l0 hq
      split at hx
      ·rename_i t' ht;cases hb:Y3 T u p&&fit T (.vs 0 0:D C) (.inl t')with
       |false=>rw[hb]at hx;exact Ex.cB hx
       |true=>
        rw[hb]at hx;simp only[ag]at hx;simp only[ai]at hb;obtain⟨t1,hx,_⟩:=Ex.nw hx
        split at hx
        ·rename_i d' hs;obtain⟨o',t2,gz,hx,_⟩:=Ex.wr hx;have hle:=hx.le;obtain⟨X1,w1,g1,s1,e1⟩:=HG K g he (by omega) ho hb.1 hq hs ht (by simpa[fit]using hb.2);obtain⟨X2,h2,n2,fE,jS,mI,w2,g2,s2,na,e2,fN⟩:=ih X1 _ _ _ _ _ g1 e1 hx;exact⟨X2,h2,n2,fE,jS,mI,by rw[w2,w1],g2,s1.trans s2 (by omega),by omega,e2,fN⟩
        ·exact Ex.cB hx
      ·exact Ex.cB hx
     ·split at hx
      ·exact ih X h nx _ env _ g he hx
      ·exact Ex.cB hx
     ·exact Ex.cB hx
def RT.LU(kp:Nat)(ids:bU):RT C->Pg C (Ev.X×Env C)
 |.fail=>.fail
 |.leaf x env os=>CV (ids.take kp) ((os.map (Obj.eF fun j=>ids.getD j 0)).take kp) (.ret (x,nr (fun j=>ids.getD j 0) env))
 |.br b l r=>.br b (l.LU kp ids) (r.LU kp ids)
theorem RT.qI{e:Pg.Lv}{a:Ev.X×Env C}{h h':Heap C}{nx cF kp:Nat}{ids:bU}:∀(t:RT C) (tr:Tr),Ex e (t.LU kp ids) h nx a h' cF tr->∃x env os,t.val=some ((x,env),os)/\Ex e (CV (ids.take kp) ((os.map (Obj.eF fun j=>ids.getD j 0)).take kp) (.ret (x,nr (fun j=>ids.getD j 0) env))) h nx a h' cF tr
 |.fail,tr,hx=>Ex.cB hx
 |.leaf x env os,tr,hx=>⟨x,env,os,rfl,hx⟩
 |.br b l r,tr,hx=>by
  rcases Ex.br hx with⟨rfl,hx⟩|⟨rfl,hx⟩
  ·exact RT.qI l tr hx
  ·exact RT.qI r tr hx
def zK(T:fh C)(fs:c7)(dE:bU)(kp:Nat)(pe:Env C->List (Obj C)->RT C)(env:Env C):Pg C (Ev.X×Env C):=
 rF T fs env [] fun env ids=>bif K8 ids then Hq ids fun os=>
  bif pD ids (dE.flatMap fun t=>(cR env t).refs)&&pD ids (os.flatMap Obj.refs)then
   (pe (dE.map fun t=>(t,(cR env t).eF (idx ids))) (os.map (Obj.eF (idx ids)))).LU kp ids
  else .fail
 else .fail
theorem Qxe(K:Zo P T)(F:Qk P T Φ){g key:Nat}{fs:c7}{dE:bU}{pe:Env C->List (Obj C)->RT C}{σ:Type}{S:wY C σ}{kp:Nat}(li:∀q,S.Inv q->(S.eZ q).drop kp=(S.cK q).drop kp)
 (hr:∀fn body b,Φ.fn g=some fn->fn.body=some body->b∈Zd body->QC b=key->PD T Φ g b S)
 (kl:∀eQ os x cZ eV,(pe eQ os).val=some ((x,cZ),eV)->∃q,S.Inv q/\(∀p∈S.cM q,p∈eQ)/\os=S.cK q/\S.fin q=(x,cZ)/\S.eZ q=eV):ID P T Φ g key (zK T fs dE kp pe):=by
 intro fn body b hf hb sQ ju B hB X h nx lim e env x cZ h' cF tr a Q gg he dP fB hx hk;obtain⟨f1,f2,f3⟩:=F.fn g fn hf;obtain⟨c1,c2⟩:=ZR body (f3 body hb) b sQ;have ng:=hr fn body b hf hb sQ ju;obtain⟨X1,h1,pZ,dS,ids,oW,w1,g1,s1,oJ,e1,lU⟩:=QBL K dP fs X h nx tr env [] gg he hx;cases ll:K8 ids with
 |false=>rw[ll]at lU;exact Ex.cB lU
 |true=>
 rw[ll]at lU;simp only[ag]at lU;have iO:=Y4 ll;obtain⟨os,mI,hlen,ri,fN⟩:=Ea ids _ _ lU;cases iB:pD ids (dE.flatMap fun t=>(cR dS t).refs)&&pD ids (os.flatMap Obj.refs)with
 |false=>rw[iB]at fN;exact Ex.cB fN
 |true=>
 rw[iB]at fN;simp only[ag]at fN;simp only[ai]at iB;have qx:=Vl iB.1;have pu:=Vl iB.2;obtain⟨xx,ee,eV,hq,zk⟩:=RT.qI _ _ fN
 ··obtain⟨q,hI,kn,jX,c9,kT⟩:=kl _ _ _ _ _ hq;obtain⟨fZ,ks,_⟩:=ng q hI;obtain⟨h2,Tp,me,zi,sq,zl⟩:=Eb (ids.take kp) _ h1 _ ((List.take_sublist kp ids).nodup iO) zk;have tD:∀id,id∉ids->h2.get id=h1.get id:=fun id dD=>sq id fun hm=>dD (List.mem_of_mem_take hm)
   have pC:∀(j id:Nat) (o:Obj C),ids[j]? = some id->(eV.map (Obj.eF fun j=>ids.getD j 0))[j]? = some o->h2.get id=some o:=by
    intro j id o hj ho
    by_cases hjk:j<kp
    ·exact zi j id o (by rw[List.getElem?_take,ax hjk];exact hj) (by rw[List.getElem?_take,ax hjk];exact ho)
    ·have cU:j<ids.length:=(av.1 hj).1
     rw[sq id fun hm=>by
      obtain⟨i,hi,hii⟩:=List.getElem_of_mem hm;have jl:i<kp:=by simp only[bp]at hi;omega
      have h1:ids[i]? = some id:=by rw[<-hii,List.getElem_take];exact aY _
      have:=(List.getElem?_inj cU iO (j:=i)).1 (by rw[hj,h1]);omega]
     have hd:=li q hI;rw[kT,<-jX]at hd
     have hq:eV[j]? = (os.map (Obj.eF (idx ids)))[j]? := by
      have h1:=ap (fun l=>l[j-kp]?) hd;simp only[List.getElem?_drop]at h1;rw[show kp+(j-kp)=j by omega]at h1;exact h1
     rw[bB,hq,bB]at ho;cases kj:os[j]? with
     |none=>simp[kj]at ho
     |some o0=>
      simp only[kj,bC,aD]at ho;rw[ri j id o0 hj kj,<-ho,Obj.dZ];intro r hr;have hm:=pu r (List.mem_flatMap.2 ⟨o0,List.mem_of_getElem? kj,hr⟩);have:=Kl ids r hm;simp only[ar,this,ba]
   obtain⟨jB,eh,en,_⟩:=Ex.ret zl;obtain⟨rfl,rfl⟩:=Prod.mk.inj jB;subst eh;subst en
   let f:Nat->Nat:=fun j=>ids.getD j 0
   have oH:∀j,j<ids.length->ids[j]? = some (f j):=fun j hj=>by simp[f,hj]
   have tf:ids.length=S.k:=by rw[<-fZ.1,<-jX];simp[hlen]
   have re:∀r,r∈ids->f (idx ids r)=r:=fun r hr=>by
    have:=Kl ids r hr;simp only[f,ar,this,ba]
   have jb:(S.cK q).length=ids.length:=by rw[fZ.1,tf]
   have part:Part h1 (S.cK q) f:=by
    refine⟨fun j o ho=>?_,fun i j hi hj lf=>?_,fun o ho r hr=>by rw[fZ.1];exact fZ.2.2 o ho r hr⟩
    ·rw[<-jX,bB]at ho;cases kj:os[j]? with
     |none=>simp[kj]at ho
     |some o0=>
      simp only[kj,bC,aD]at ho;have hj:j<ids.length:=by rw[<-hlen];exact(av.1 kj).1
      rw[ri j (f j) o0 (oH j hj) kj,<-ho,Obj.dZ];intro id dD;exact re id (pu id (List.mem_flatMap.2 ⟨o0,List.mem_of_getElem? kj,dD⟩))
    ·rw[jb]at hi hj;have:=(List.getElem?_inj hi iO (j:=j)).1 (by rw[oH i hi,oH j hj];simp only[f]at lf ⊢;rw[lf]);exact this
   have g2:=Part.ctx K.base g1 part (S.cK q).length
   have e2:QB T (X1.part (S.cK q).length f) (S.cK q).length (eA (S.cK q).length) (S.cM q) a.tmps:=by
    refine QB.part K.base e1 part.inj (fun p hp=>?_) (fun p hp r hr=>by rw[fZ.1];exact fZ.2.1 p hp r hr);have:=kn p hp;simp only[List.mem_map]at this;obtain⟨t,ht,rfl⟩:=this;simp only;rw[D.dZ];intro id dD;exact re id (qx id (List.mem_flatMap.2 ⟨t,ht,dD⟩))
   rw[fZ.1]at g2 e2;rw[<-w1];show(Code.loop b).wp P Q a (X1.part S.k f).w;refine wp_loop_rounds (S.μ q+1) (XZ K F ng hf hb c1 c2 hB (S.μ q+1) q (X1.part S.k f) a hI (by omega) g2 e2 fB fun a' X' g' s' e' pA vJ v9=>?_);rw[kT]at g';rw[c9]at e';have jG:eV.length=(S.cK q).length:=by rw[<-kT,ks.1,fZ.1]
   have kU:∀o∈eV,∀r∈Obj.refs o,r<(S.cK q).length:=fun o ho r hr=>by rw[fZ.1];exact ks.2.2 o (by rw[kT];exact ho) r hr
   obtain⟨X2,w2,g3,s3,hρ,sd⟩:=Part.back K.base g1 part jG kU (X1:=X') (lim1:=eA S.k) (h':=h') (by rw[fZ.1];exact g') (by rw[fZ.1];exact s') (fun j o hj=>by
    have cU:j<ids.length:=by rw[<-jb,<-jG];exact(av.1 hj).1
    exact pC j (f j) _ (oH j cU) (by rw[bB,hj];rfl)) (fun id dD=>by
    refine tD id fun hm=>?_;obtain⟨j,hj,y3⟩:=List.getElem_of_mem hm;refine dD j (by rw[jb];exact hj) ?_;simp[f,hj,y3])
   have hold:∀j,j<S.k->ft cF lim (f j):=fun j hj=>by
    have mb:j<(S.cK q).length:=by rw[fZ.1];exact hj
    exact(g1.eL _ _ (part.mN j (S.cK q)[j] (by simp[mb]))).1
   have e3:=QB.back (nx:=cF) (lim:=lim) (f:=f) K.base e' (fun p hp r hr=>ks.2.1 p (by rw[c9];exact hp) r hr) (fun j hj=>hρ j (by rw[fZ.1];exact hj)) ⟨sd⟩ hold;have:=hk a' X2 g3 (s1.trans s3 oJ) e3 pA (vJ.zu g3 (by show X.w.heap.size<=X1.w.heap.size;rw[w1];exact aq _) w2) v9;rw[w2]at this;rw[c9];exact this
theorem Qk.po(K:Zo P T)(F:Qk P T Φ){g key:Nat}(lj:u0 (Kk Φ g)=true){σ:Type}(S:wY C σ)(kp:Nat)(li:∀q,S.Inv q->(S.eZ q).drop kp=(S.cK q).drop kp)(n:Nat)(kc kf:bU)(RL fs:c7)(dE:bU)(pe:Env C->List (Obj C)->RT C)
 (hr:∀q,S.Inv q->Qj S.k (S.cM q) (S.cK q)/\Qj S.k (S.fin q).2 (S.eZ q)/\c8 (dQ T Φ g key n S.k kc kf RL (S.cM q) (S.cK q)) (DD S q))
 (kl:∀eQ os x cZ eV,(pe eQ os).val=some ((x,cZ),eV)->∃q,S.Inv q/\(∀p∈S.cM q,p∈eQ)/\os=S.cK q/\S.fin q=(x,cZ)/\S.eZ q=eV):Qk P T (Φ.cJ g key (zK T fs dE kp pe)):=by
 refine F.cJ (Qxe K F li (S:=S) (fun fn body b hf hb hm ju q hI=>?_) kl);obtain⟨h1,h2,r,h3,h4⟩:=hr q hI;rw[dQ,NO lj hf hb hm ju]at h3;obtain⟨⟨x,cZ⟩,h',cF,tr,h5,h6⟩:=Pg.fw h3;refine⟨h1,h2,n,x,cZ,h',cF,tr,h5,?_⟩;cases x with
 |normal=>
  simp only at h6;rcases mr h6 h1.1 with hs|⟨eQ,eV,hs,f,f1,⟨f2,f3,f4⟩,f5⟩
  ·subst hs;rcases h4 with⟨h4,s',a1,a2,a3,yr,a4,a5⟩|⟨h4,h7,h8⟩
   ·have hg:=YM S.k 0 h' _ a5;simp only[aN]at hg;exact .inl ⟨rfl,s',a1,a2,a3,yr,by rw[<-a4];exact K6 _ _,hg⟩
   ·exact(h4 rfl).elim
  ·subst hs;rcases h4 with⟨h4,s',a1,a2,a3,yr,a4,a5⟩|⟨h4,h7,h8⟩
   ·simp only at a4 a5;have a5:eV=S.cK s':=List.map_inj_right (fun _ _ h=>aj h) |>.1 a5;subst a4;subst a5;obtain⟨b1,_⟩:=hr s' a1;exact .inr (.inl ⟨rfl,s',f,a1,a2,a3,yr,f1,⟨f3,f4,by rw[b1.1];exact b1.2.2⟩,f5⟩)
   ·exact(h4 rfl).elim
 |exit id=>
  simp only[aD]at h6;subst h6;rcases h4 with⟨h4,_⟩|⟨h4,h7,h8⟩
  ·cases h4
  ·have hg:=YM S.k 0 h' _ h8;simp only[aN]at hg;exact .inr (.inr ⟨by simp,by rw[<-h7],by rw[<-h7];exact K6 _ _,hg⟩)
 |ret=>
  simp only[aD]at h6;subst h6;rcases h4 with⟨h4,_⟩|⟨h4,h7,h8⟩
  ·cases h4
  ·have hg:=YM S.k 0 h' _ h8;simp only[aN]at hg;exact .inr (.inr ⟨by simp,by rw[<-h7],by rw[<-h7];exact K6 _ _,hg⟩)
def RT.keeps(kp:Nat)(Dy:List (Obj C)):RT C->Prop
 |.fail=>True
 |.leaf _ _ os=>os.drop kp=Dy.drop kp
 |.br _ l r=>l.keeps kp Dy/\r.keeps kp Dy
theorem RT.lV{kp:Nat}{Dy:List (Obj C)}:∀{t:RT C},t.keeps kp Dy->∀{x env os},t.val=some ((x,env),os)->os.drop kp=Dy.drop kp
 |.fail,_,_,_,_,h=>by cases h
 |.leaf x env os,h,_,_,_,e=>by cases e;exact h
 |.br b l r,h,_,_,_,e=>by
  cases b with
  |true=>exact RT.lV (t:=l) h.1 e
  |false=>exact RT.lV (t:=r) h.2 e
def Hr(T:fh C)(fs:c7)(dE:bU)(kp:Nat){σ:Type}(S:QD C σ)(d:Env C->List (Obj C)->Option (Bool×σ)):Env C->Pg C (Ev.X×Env C):=zK T fs dE kp (sa S d)
theorem Qk.j9(K:Zo P T)(F:Qk P T Φ){g key:Nat}(lj:u0 (Kk Φ g)=true){σ:Type}(S:QD C σ)(kp:Nat)(li:∀q,S.Inv q->(S.fin q).keeps kp (S.cK q))(n:Nat)(kc kf:bU)(fs:c7)(dE:bU)(d:Env C->List (Obj C)->Option (Bool×σ))
 (hr:∀q,S.Inv q->Qj S.k (S.cM q) (S.cK q)/\(S.fin q).cT S.k/\c8 (dQ T Φ g key n S.k kc kf fs (S.cM q) (S.cK q)) (dj S q))
 (hd:∀env os b q,d env os=some (b,q)->b=true->S.Inv q/\S.cM q=env/\S.cK q=os):Qk P T (Φ.cJ g key (Hr T fs dE kp S d)):=by
 refine F.po K lj S.toO kp (fun q hI=>?_) n kc kf fs fs dE (sa S d) (fun q hI=>?_) ?_
 ·obtain⟨h1,h2,_⟩:=hr q hI;obtain⟨x,env,os,hv,ig⟩:=RT.iD h2;simp only[QD.toO,hv];exact RT.lV (li q hI) hv
 ·obtain⟨h1,h2,r,h3,h4⟩:=hr q hI;obtain⟨x,env,os,hv,ig⟩:=RT.iD h2;refine⟨h1,by simp only[QD.toO,hv];exact ig,r,h3,?_⟩;rcases h4 with⟨a1,s',a2,a3,a4,a5,a6⟩|⟨a1,eV,a2,a3⟩
  ·exact .inl ⟨a1,s',a2,a3,by simp only[QD.toO,a4],by simp only[QD.toO,a4],a5,a6⟩
  ·exact .inr ⟨a1,by simp only[QD.toO,a2],by simp only[QD.toO,a2];exact a3⟩
 ·intro eQ os x cZ eV h;unfold sa at h
  split at h
  ·rename_i b q hq;cases b with
   |false=>simp[RT.val]at h
   |true=>
    obtain⟨h1,h2,h3⟩:=hd _ _ _ _ hq rfl;simp only[RT.val,ag]at h;exact⟨q,h1,fun p hp=>by rw[<-h2];exact hp,h3.symm,by simp only[QD.toO,h],by simp only[QD.toO,h]⟩
  ·simp[RT.val]at h
end
end Go.Ev
