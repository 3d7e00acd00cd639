/-
  A part of the proof of a statement of this seat: the model is run over values by content, proved sound; what the functions come to. No condition beyond the given statements. (text 5)
-/
import Derived.Test.YtkoeniljaccaiaaGreatP3
noncomputable section
namespace Go.Ev
open Go.Proofs
set_option maxRecDepth 100000
set_option linter.unusedVariables false
set_option linter.unusedSimpArgs false
structure QtN where
 (n w:Int)(out:bL)(i:Nat)
def I3(n w:Int)(out:bL)(i:Nat):bX:=[(1,.int .i64 n),(2,.int .i64 w),(8,.vs 0 (out.length)),(9,.int .i64 (i:Int))]
def yc(n w:Int)(out:bL)(i:Nat):bP:=[.vec (C:=RC) .u8 true out]
def TI n w out i:=dQ cu AQ 166 6 40 1 [1,2,8,9] [8] [.slot 8 0] (I3 n w out i) (yc n w out i)
theorem QFg n w out i:TI n w out i=(let Z0:=out.length;let Z1:bL:=[UInt8.ofNat (IntKind.wrap IntKind.u8 (Int.tmod n 256)).toNat];bif decide ((i:Int)<w)then b7 (Nat.beq Z0 Z0&&Qg (Z0+Z1.length) 1) (some ((X.normal,[(1,cj (c6 (Int.tdiv n 256))),(2,cj w),(8,D.vs 0 (Z0+Z1.length)),(9,cj (c6 ((i:Int)+1)))]),[some (Obj.vec b9.u8 true (out++Z1))]))else some ((X.exit 0,[(8,D.vs 0 Z0)]),[some (Obj.vec b9.u8 true out)])):=by kernel_rfl
def Ie(n w:Int)(out:bL)(i:Nat):RT RC:=.leaf (.exit 0) [(8,.vs 0 (out++fC n (w.toNat-i)).length)] [.vec (C:=RC) .u8 true (out++fC n (w.toNat-i))]
def Ec(n w:Int)(out:bL)(i:Nat):Prop:=0<=n/\n<=9223372036854775807/\(i:Int)<=w/\w<=6/\out.length<=1000000+i
def uq:QD RC QtN where
 k:=1
 cM q:=I3 q.n q.w q.out q.i
 cK q:=yc q.n q.w q.out q.i
 fin q:=Ie q.n q.w q.out q.i
 Inv q:=Ec q.n q.w q.out q.i
 μ q:=q.w.toNat-q.i
theorem QqE n w out i(hI:Ec n w out i):c8 (TI n w out i) (dj uq ⟨n,w,out,i⟩):=by
 (rw[QFg];delta b7 cj c6;conv=>zeta)
 unfold Ec at hI;obtain⟨h1,h2,h3,h4,h5⟩:=hI
 by_cases cU:(i:Int)<w
 ·have cP:=eG i (by omega)
  obtain⟨d1,d2,d3⟩:=Ta h1 h2;have e1:Qg (out.length+1) 1=true:=Zt (by omega);have eb:∀n:Nat,n.beq n=true:=fun n=>by simp
  simp only[cU,aM,ag,cP,d1,S9 h1,aE,bH,aN,e1,eb,au];refine Qi ⟨n.fdiv 256,w,out++[QI n],i+1⟩ (by refine⟨d2,d3,cU,h4,?_⟩;simp;omega) (by simp only[uq];omega) ?_ (by simp[uq,I3]) (by simp[uq,yc]);have:w.toNat-i=(w.toNat-(i+1))+1:=by omega
  simp only[uq,Ie,this,fC,ay,aP,aH]
 ·have hi:w.toNat-i=0:=by omega
  simp only[cU,aW,ah];exact Qh (yc n w out i) (by simp only[uq,Ie,yc,hi,fC,RT.val,aR]) rfl
def PO(env:bX)(os:bP):Option (Bool×QtN):=match env,os with
 |[(1,.int .i64 n),(2,.int .i64 w),(8,.vs 0 x0),(9,.int .i64 x1)],[.vec .u8 true out]=>some (decide (x0=out.length)&&decide (x1=0)&&decide (0<=n/\n<=9223372036854775807/\0<=w/\w<=6/\out.length<=1000000),⟨n,w,out,0⟩)
 |_,_=>none
def AR:=AQ.cJ 166 6 (ey cu [.slot 8 0] [1,2,8,9] uq PO)
theorem QtP:Qk Tryz.prog cu AR:=by
 refine QtL.cq Qb (by kernel_rfl) uq 40 [1,2,8,9] [8] [.slot 8 0] [1,2,8,9] PO (fun q hI=>?_) ?_
 ·obtain⟨n,w,out,i⟩:=q;refine⟨?_,?_,QqE n w out i hI⟩
  ·simp_all[Qj,uq,I3,yc,Ec,D.refs,Obj.refs,cV]
  ·simp_all[uq,Ie,yc,Ec,RT.cT,Qj,D.refs,Obj.refs,cV]
 ·intro env os b q cN hb;unfold PO at cN
  split at cN
  ·cases cN;simp only[ai,aa]at hb;obtain⟨⟨rfl,rfl⟩,hl⟩:=hb;exact⟨by refine⟨hl.1,hl.2.1,by simpa using hl.2.2.1,hl.2.2.2.1,by simpa using hl.2.2.2.2⟩,rfl,rfl⟩
  ·cases cN
structure Xx where
 (p:Int)(y c:Bool)(l:ca)(bs:bL)(i:Nat)
def HX(p:Int)(y c:Bool)(l:ca)(bs:bL)(i:Nat):bX:=[(1,.ptr 0 []),(4,.vs 1 (bs.length)),(7,.int .i64 (i:Int))]
def V8(p:Int)(y c:Bool)(l:ca)(bs:bL)(i:Nat):bP:=[.var 51 (cH p (.bI (.bool y) (cL .write c l .bN))),.vec (C:=RC) .u8 true bs]
def QjL p y c l bs i:=dQ cu AR 109 9 40 2 [1,4,7] [4] [.slot 1 0,.slot 4 0] (HX p y c l bs i) (V8 p y c l bs i)
theorem QqF p y c l bs i:QjL p y c l bs i=(let Z0:Int:=(i:Int);let Z1:Bool:=dH Z0 (l.length:Int);let Z2:=bs.length;let Z3:Qo:=List.getD l Z0.toNat (Qo.mk 0 0);let Z4:bL:=[UInt8.ofNat (IntKind.wrap IntKind.u8 (Qo.key Z3)).toNat,UInt8.ofNat (IntKind.wrap IntKind.u8 (Qo.value Z3)).toNat];let Z5:cf:=some (Obj.var 51 (.bI (cj p) (.bI (D.bool y) (.bI (D.sl b9.write c l) .bN))));b7 (Qd l.length) (bif decide (Z0<(l.length:Int))then b7 Z1 (b7 Z1 (b7 (Nat.beq Z2 Z2&&Qg (Z2+Z4.length) 1) (some ((X.normal,[(1,D.ptr 0 []),(4,D.vs 1 (Z2+Z4.length)),(7,cj (c6 (Z0+1)))]),[Z5,some (Obj.vec b9.u8 true (bs++Z4))]))))else some ((X.exit 0,[(4,D.vs 1 Z2)]),[Z5,some (Obj.vec b9.u8 true bs)]))):=by kernel_rfl
def Kq(p:Int)(y c:Bool)(l:ca)(bs:bL)(i:Nat):RT RC:=.leaf (.exit 0) [(4,.vs 1 (bs++(l.drop i).flatMap Js).length)] [.var 51 (cH p (.bI (.bool y) (cL .write c l .bN))),.vec (C:=RC) .u8 true (bs++(l.drop i).flatMap Js)]
def V9(p:Int)(y c:Bool)(l:ca)(bs:bL)(i:Nat):Prop:=i<=l.length/\l.length<=1000000/\bs.length<=1000000+2*i
def Ys:QD RC Xx where
 k:=2
 cM q:=HX q.p q.y q.c q.l q.bs q.i
 cK q:=V8 q.p q.y q.c q.l q.bs q.i
 fin q:=Kq q.p q.y q.c q.l q.bs q.i
 Inv q:=V9 q.p q.y q.c q.l q.bs q.i
 μ q:=q.l.length-q.i
theorem Qh0 p y c l bs i(hI:V9 p y c l bs i):c8 (QjL p y c l bs i) (dj Ys ⟨p,y,c,l,bs,i⟩):=by
 (rw[QqF];delta b7 dH cj c6;conv=>zeta)
 unfold V9 at hI;obtain⟨h1,h2,h3⟩:=hI;have jo:=Qe (show l.length<=9223372036854775807 by omega)
 by_cases cU:i<l.length
 ·have cP:=eG i (by omega)
  have eu:=ga (show i<l.length by omega)
  have et:=fL (show i<l.length by omega)
  have dh:=bw i
  simp only[cP,eu,et,dh,ag];have hd:(l.drop i).flatMap Js=_:=ZE l i Js cU (⟨0,0⟩:Qo);generalize l.getD i (⟨0,0⟩:Qo)=x at hd ⊢;have e1:Qg (bs.length+2) 1=true:=Zt (by omega);have e2:bs.length.beq bs.length=true:=by simp
  simp only[jo,ag,aE,bH,aN,Nat.reduceAdd,e1,e2,au];refine Qi ⟨p,y,c,l,bs++[QI x.key,QI x.value],i+1⟩ (by refine⟨cU,h2,?_⟩;simp;omega) (by simp only[Ys];omega) ?_ (by simp[Ys,HX,QI]) (by simp[Ys,V8,QI]);simp only[Ys,Kq,hd,Js,ay]
 ·have hi:i=l.length:=by omega
  have c1:decide ((i:Int)<l.length)=false:=by simp;omega
  simp only[jo,ag,c1,ah];have F7:l.drop i=[]:=aO (by omega);exact Qh (V8 p y c l bs i) (by simp only[Ys,Kq,V8,F7,RT.val,List.flatMap_nil,aR]) rfl
def NV(env:bX)(os:bP):Option (Bool×Xx):=match env,os with
 |[(1,.ptr 0 []),(4,.vs 1 x0),(7,.int .i64 x1)],[.var 51 (.bI (.int .i64 p) (.bI (.bool y) (.bI (.sl .write c l) .bN))),.vec .u8 true bs]=>some (decide (x0=bs.length)&&decide (x1=0)&&decide (l.length<=1000000/\bs.length<=1000000),⟨p,y,c,l,bs,0⟩)
 |_,_=>none
def AS:=AR.cJ 109 9 (ey cu [.slot 1 0,.slot 4 0] [1,4,7] Ys NV)
theorem QtQ:Qk Tryz.prog cu AS:=by
 refine QtP.cq Qb (by kernel_rfl) Ys 40 [1,4,7] [4] [.slot 1 0,.slot 4 0] [1,4,7] NV (fun q hI=>?_) ?_
 ·obtain⟨p,y,c,l,bs,i⟩:=q;refine⟨?_,?_,Qh0 p y c l bs i hI⟩
  ·simp_all[Qj,Ys,HX,V8,V9,D.refs,Obj.refs,cV]
  ·simp_all[Ys,Kq,V8,V9,RT.cT,Qj,D.refs,Obj.refs,cV]
 ·intro env os b q cN hb;unfold NV at cN
  split at cN
  ·cases cN;simp only[ai,aa]at hb;obtain⟨⟨rfl,rfl⟩,hl⟩:=hb;exact⟨⟨aK _,hl.1,hl.2⟩,rfl,rfl⟩
  ·cases cN
def Xy:bW->bO
 |[.bI (.int .i64 p) (.bI (.bool y) (.bI (.sl .write c l) .bN))]=>some (Qd l.length,.cG (cL .u8 (!dW ⟨p,y,l⟩) (bif dW ⟨p,y,l⟩then VL ⟨p,y,l⟩else[]) (cH (bif dW ⟨p,y,l⟩then 0 else 2) .bN)))
 |_=>none
def QjN(p:Int)(y c:Bool)(l:ca):=eO cu AS 40 109 [.bI (.int .i64 p) (.bI (.bool y) (cL .write c l .bN))]
theorem QqG p y c l:QjN p y c l=(let Z0:=l.length;let Z1:bL:=[]++[]++fC p 3;let Z2:bL:=[UInt8.ofNat (bif y then (1:Int)else (0:Int)).toNat,UInt8.ofNat (IntKind.wrap IntKind.u8 (Z0:Int)).toNat];let Z3:=List.length (Z1++Z2);let Z4:bL:=Z1++Z2++List.flatMap Js (List.drop 0 l);b7 (Qd Z0) (bif !dW (Rec.mk p y l)then some (D.cG (D.bI (D.sl b9.u8 true []) (.bI (cj 2) .bN)))else b7 (decide (p<=9223372036854775807/\(1:Int)<=3/\(3:Int)<=6)&&QL p 3) (b7 (decide ((0:Int)<=p/\p<=9223372036854775807/\(0:Int)<=3/\(3:Int)<=6/\(0:Nat)<=1000000)) (b7 (Qd Z0) (b7 (decide (Z1.length+Z2.length=Z3)&&true&&decide (Z0<=1000000/\Z3<=1000000)) (b7 (Nat.beq Z4.length Z4.length) (some (D.cG (D.bI (D.sl b9.u8 false Z4) (.bI (cj 0) .bN)))))))))):=by kernel_rfl
theorem QqH p y c l(h:(Qd l.length)=true):QjN p y c l=some (.cG (cL .u8 (!dW ⟨p,y,l⟩) (bif dW ⟨p,y,l⟩then VL ⟨p,y,l⟩else[]) (cH (bif dW ⟨p,y,l⟩then 0 else 2) .bN))):=by
 (rw[QqG];delta b7 cj;conv=>zeta)
 rw[h];have hlen:=VM h;cases hm:dW ⟨p,y,l⟩
 ·rfl
 ·obtain⟨hp,hl,hw⟩:=Vw hm;have f3:=Vv (n:=p) (by rw[Qf];omega);have hy:UInt8.ofNat (Int.toNat (bif y then 1 else 0))=QI (bif y then 1 else 0):=by cases y<;>rfl
  have hb:UInt8.ofNat (IntKind.u8.wrap (l.length:Int)).toNat=QI l.length:=rfl;have e1:(p<=9223372036854775807/\1<=(3:Int)/\(3:Int)<=6):=by omega
  have e2:l.length<=1000000:=by omega
  have e3:0<=p:=by omega
  have e4:p<=9223372036854775807:=by omega
  simp[hy,hb,f3,e1,e2,e3,e4,Qs,VL,jT]
def AT:=AS.b8 109 Xy
theorem QtR:Qk Tryz.prog cu AT:=QtQ.cQ Qb fun args d h=>by
 unfold Xy at h
 split at h
 ·obtain⟨h1,rfl⟩:=ak h;exact⟨by simp[D.refs],40,QqH _ _ _ _ h1⟩
 ·cases h
structure QnB where
 (p:Int)(ci:Bool)(items:bM)(k0 k1 k2:Bool)(l0 l1 l2:bJ)(c0 c1 c2:Int)(bs:bL)(i:Nat)
def Iy(p:Int)(ci:Bool)(items:bM)(k0 k1 k2:Bool)(l0 l1 l2:bJ)(c0 c1 c2:Int)(bs:bL)(i:Nat):bX:=[(1,.ptr 0 []),(4,.vs 1 (bs.length)),(6,.int .i64 (i:Int))]
def xO(p:Int)(ci:Bool)(items:bM)(k0 k1 k2:Bool)(l0 l1 l2:bJ)(c0 c1 c2:Int)(bs:bL)(i:Nat):bP:=[.var 34 (cH p (cL .item ci items (.bI (cL .line k0 l0 (cL .line k1 l1 (cL .line k2 l2 .bN))) (.bI (.arr (C:=RC) .int 3 [c0,c1,c2]) .bN)))),.vec (C:=RC) .u8 true bs]
def QtS p ci items k0 k1 k2 l0 l1 l2 c0 c1 c2 bs i:=dQ cu AT 106 6 40 2 [1,4,6] [4] [.slot 1 0,.slot 4 0] (Iy p ci items k0 k1 k2 l0 l1 l2 c0 c1 c2 bs i) (xO p ci items k0 k1 k2 l0 l1 l2 c0 c1 c2 bs i)
theorem QAF p ci items k0 k1 k2 l0 l1 l2 c0 c1 c2 bs i:QtS p ci items k0 k1 k2 l0 l1 l2 c0 c1 c2 bs i=(let Z0:Int:=(i:Int);let Z1:Bool:=dH Z0 (items.length:Int);let Z2:=bs.length;let Z3:Item:=List.getD items Z0.toNat (Item.mk 0 0 0);let Z4:bL:=[UInt8.ofNat (IntKind.wrap IntKind.u8 (Item.key Z3)).toNat];let Z5:=Item.place Z3;let Z6:=List.length (bs++Z4);let Z7:=List.length ([]++(bs++Z4));let Z8:bL:=[]++(bs++Z4)++fC Z5 3;let Z9:=Z8.length;let db:bL:=[UInt8.ofNat (IntKind.wrap IntKind.u8 (Item.value Z3)).toNat];let dB:cf:=some (Obj.var 34 (.bI (cj p) (.bI (D.sl b9.item ci items) (.bI (D.bI (D.sl b9.line k0 l0) (.bI (D.sl b9.line k1 l1) (.bI (D.sl b9.line k2 l2) .bN))) (.bI (D.arr b9.int 3 [c0,c1,c2]) .bN)))));b7 (Qd items.length) (bif decide (Z0<(items.length:Int))then b7 Z1 (b7 (Nat.beq Z2 Z2&&Qg (Z2+Z4.length) 1) (b7 Z1 (b7 (decide (Z5<=9223372036854775807/\(1:Int)<=3/\(3:Int)<=6)&&QL Z5 3) (b7 (Nat.beq (Z2+Z4.length) Z6) (b7 (Qg ((0:Nat)+Z6) 1) (b7 (decide ((0:Nat)+Z6=Z7)&&true&&decide ((0:Int)<=Z5/\Z5<=9223372036854775807/\(0:Int)<=3/\(3:Int)<=6/\Z7<=1000000)) (b7 Z1 (b7 (Nat.beq Z9 Z9&&Qg (Z9+db.length) 1) (b7 (Nat.blt Z2 (Z8++db).length) (some ((X.normal,[(1,D.ptr 0 []),(4,D.vs 1 (Z9+db.length)),(6,cj (c6 (Z0+1)))]),[dB,some (Obj.vec b9.u8 true (Z8++db))])))))))))))else some ((X.exit 0,[(4,D.vs 1 Z2)]),[dB,some (Obj.vec b9.u8 true bs)]))):=by kernel_rfl
def HY(p:Int)(ci:Bool)(items:bM)(k0 k1 k2:Bool)(l0 l1 l2:bJ)(c0 c1 c2:Int)(bs:bL)(i:Nat):RT RC:=.leaf (.exit 0) [(4,.vs 1 (bs++(items.drop i).flatMap Yo).length)] [.var 34 (cH p (cL .item ci items (.bI (cL .line k0 l0 (cL .line k1 l1 (cL .line k2 l2 .bN))) (.bI (.arr (C:=RC) .int 3 [c0,c1,c2]) .bN)))),.vec (C:=RC) .u8 true (bs++(items.drop i).flatMap Yo)]
def DW(p:Int)(ci:Bool)(items:bM)(k0 k1 k2:Bool)(l0 l1 l2:bJ)(c0 c1 c2:Int)(bs:bL)(i:Nat):Prop:=i<=items.length/\items.length<=1000/\bs.length<=900000+5*i/\items.all lO=true
def JE:QD RC QnB where
 k:=2
 cM q:=Iy q.p q.ci q.items q.k0 q.k1 q.k2 q.l0 q.l1 q.l2 q.c0 q.c1 q.c2 q.bs q.i
 cK q:=xO q.p q.ci q.items q.k0 q.k1 q.k2 q.l0 q.l1 q.l2 q.c0 q.c1 q.c2 q.bs q.i
 fin q:=HY q.p q.ci q.items q.k0 q.k1 q.k2 q.l0 q.l1 q.l2 q.c0 q.c1 q.c2 q.bs q.i
 Inv q:=DW q.p q.ci q.items q.k0 q.k1 q.k2 q.l0 q.l1 q.l2 q.c0 q.c1 q.c2 q.bs q.i
 μ q:=q.items.length-q.i
theorem QlY p ci items k0 k1 k2 l0 l1 l2 c0 c1 c2 bs i(hI:DW p ci items k0 k1 k2 l0 l1 l2 c0 c1 c2 bs i):c8 (QtS p ci items k0 k1 k2 l0 l1 l2 c0 c1 c2 bs i) (dj JE ⟨p,ci,items,k0,k1,k2,l0,l1,l2,c0,c1,c2,bs,i⟩):=by
 (rw[QAF];delta b7 dH cj c6;conv=>zeta)
 unfold DW at hI;obtain⟨h1,h2,h3,h4⟩:=hI;have jo:=Qe (show items.length<=9223372036854775807 by omega)
 by_cases cU:i<items.length
 ·have cP:=eG i (by omega)
  have eu:=ga (show i<items.length by omega)
  have et:=fL (show i<items.length by omega)
  have dh:=bw i
  simp only[cP,eu,et,dh,ag];have hf:=Io h4 cU (⟨0,0,0⟩:Item);have hd:(items.drop i).flatMap Yo=_:=ZE items i Yo cU (⟨0,0,0⟩:Item);generalize items.getD i (⟨0,0,0⟩:Item)=x at hd hf ⊢;simp only[lO,ai]at hf;obtain⟨⟨f1,f2⟩,f3⟩:=hf;have g2:=Qf.1 f2;have hk:UInt8.ofNat (IntKind.u8.wrap x.key).toNat=QI x.key:=rfl;have hv:UInt8.ofNat (IntKind.u8.wrap x.value).toNat=QI x.value:=rfl;have e0:decide (x.place<=9223372036854775807/\1<=(3:Int)/\(3:Int)<=6)=true:=by simp;omega
  have e1:Qg (bs.length+1) 1=true:=Zt (by omega);have e2:decide (0<=x.place/\x.place<=9223372036854775807/\0<=(3:Int)/\(3:Int)<=6/\bs.length+1<=1000000)=true:=by simp;omega
  have e3:Qg (bs.length+1+3+1) 1=true:=Zt (by omega);have e6:Nat.blt bs.length (bs.length+1+3+1)=true:=by simp[Nat.blt_eq];omega
  have t3:(3:Int).toNat-0=3:=rfl;have eb:∀n:Nat,n.beq n=true:=fun n=>by simp
  simp only[jo,ag,hk,hv,Vv f2,e0,aC,aE,bH,aN,eb,e1,e2,e3,e6,t3,Qs,aM,au,aH];refine Qi ⟨p,ci,items,k0,k1,k2,l0,l1,l2,c0,c1,c2,bs++Yo x,i+1⟩ (by refine⟨cU,h2,?_,h4⟩;simp[HI];omega) (by simp only[JE];omega) ?_ (by simp[JE,Iy,Yo,jT,tJ]) (by simp[JE,xO,Yo,jT,tJ]);simp only[JE,HY,hd,ay]
 ·have hi:i=items.length:=by omega
  have xb:decide ((i:Int)<items.length)=false:=by simp;omega
  simp only[jo,ag,xb,ah];have F7:items.drop i=[]:=aO (by omega);exact Qh (xO p ci items k0 k1 k2 l0 l1 l2 c0 c1 c2 bs i) (by simp only[JE,HY,xO,F7,RT.val,List.flatMap_nil,aR]) rfl
def O6(env:bX)(os:bP):Option (Bool×QnB):=match env,os with
 |[(1,.ptr 0 []),(4,.vs 1 x0),(6,.int .i64 x1)],[.var 34 (.bI (.int .i64 p) (.bI (.sl .item ci items) (.bI (.bI (.sl .line k0 l0) (.bI (.sl .line k1 l1) (.bI (.sl .line k2 l2) .bN))) (.bI (.arr .int 3 [c0,c1,c2]) .bN)))),.vec .u8 true bs]=>some (decide (x0=bs.length)&&decide (x1=0)&&decide (items.length<=1000/\bs.length<=900000)&&items.all lO,⟨p,ci,items,k0,k1,k2,l0,l1,l2,c0,c1,c2,bs,0⟩)
 |_,_=>none
def AU:=AT.cJ 106 6 (ey cu [.slot 1 0,.slot 4 0] [1,4,6] JE O6)
theorem QtT:Qk Tryz.prog cu AU:=by
 refine QtR.cq Qb (by kernel_rfl) JE 40 [1,4,6] [4] [.slot 1 0,.slot 4 0] [1,4,6] O6 (fun q hI=>?_) ?_
 ·obtain⟨p,ci,items,k0,k1,k2,l0,l1,l2,c0,c1,c2,bs,i⟩:=q;refine⟨?_,?_,QlY p ci items k0 k1 k2 l0 l1 l2 c0 c1 c2 bs i hI⟩
  ·simp_all[Qj,JE,Iy,xO,DW,D.refs,Obj.refs,cV]
  ·simp_all[JE,HY,xO,DW,RT.cT,Qj,D.refs,Obj.refs,cV]
 ·intro env os b q cN hb;unfold O6 at cN
  split at cN
  ·cases cN;simp only[ai,aa]at hb;obtain⟨⟨⟨rfl,rfl⟩,hl⟩,ha⟩:=hb;exact⟨⟨aK _,hl.1,hl.2,ha⟩,rfl,rfl⟩
  ·cases cN
structure QnC where
 (c:Bool)(l:bJ)(bs:bL)(i:Nat)
def Iz(c:Bool)(l:bJ)(bs:bL)(i:Nat):bX:=[(4,.vs 0 (bs.length)),(8,.sl (C:=RC) .line c l),(10,.int .i64 (i:Int))]
def xP(c:Bool)(l:bJ)(bs:bL)(i:Nat):bP:=[.vec (C:=RC) .u8 true bs]
def QtU c l bs i:=dQ cu AU 106 22 40 1 [4,8,10] [4] [.slot 4 0] (Iz c l bs i) (xP c l bs i)
theorem QAG c l bs i:QtU c l bs i=(let Z0:Int:=(i:Int);let Z1:Bool:=dH Z0 (l.length:Int);let Z2:cg:=List.getD l Z0.toNat (cg.mk 0 0 0 0 0);let Z3:=cg.place Z2;let Z4:=bs.length;let Z5:=List.length ([]++bs);let Z6:bL:=[]++bs++fC Z3 3;let Z7:=Z6.length;let Z8:bL:=[UInt8.ofNat (IntKind.wrap IntKind.u8 (c6 (cg.j Z2+c6 ((16:Int)*cg.key Z2)))).toNat,UInt8.ofNat (IntKind.wrap IntKind.u8 (cg.value Z2)).toNat];b7 (Qd l.length) (bif decide (Z0<(l.length:Int))then b7 Z1 (b7 (decide (Z3<=9223372036854775807/\(1:Int)<=3/\(3:Int)<=6)&&QL Z3 3) (b7 (Nat.beq Z4 Z4) (b7 (Qg ((0:Nat)+Z4) 1) (b7 (decide ((0:Nat)+Z4=Z5)&&true&&decide ((0:Int)<=Z3/\Z3<=9223372036854775807/\(0:Int)<=3/\(3:Int)<=6/\Z5<=1000000)) (b7 Z1 (b7 Z1 (b7 Z1 (b7 (Nat.beq Z7 Z7&&Qg (Z7+Z8.length) 1) (b7 (Nat.blt Z4 (Z6++Z8).length) (some ((X.normal,[(4,D.vs 0 (Z7+Z8.length)),(8,D.sl b9.line c l),(10,cj (c6 (Z0+1)))]),[some (Obj.vec b9.u8 true (Z6++Z8))])))))))))))else some ((X.exit 4,[(4,D.vs 0 Z4)]),[some (Obj.vec b9.u8 true bs)]))):=by kernel_rfl
def HZ(c:Bool)(l:bJ)(bs:bL)(i:Nat):RT RC:=.leaf (.exit 4) [(4,.vs 0 (bs++(l.drop i).flatMap Zz).length)] [.vec (C:=RC) .u8 true (bs++(l.drop i).flatMap Zz)]
def DX(c:Bool)(l:bJ)(bs:bL)(i:Nat):Prop:=i<=l.length/\l.length<=1000/\bs.length<=900000+5*i/\l.all Y6=true
def JF:QD RC QnC where
 k:=1
 cM q:=Iz q.c q.l q.bs q.i
 cK q:=xP q.c q.l q.bs q.i
 fin q:=HZ q.c q.l q.bs q.i
 Inv q:=DX q.c q.l q.bs q.i
 μ q:=q.l.length-q.i
theorem Ql0 c l bs i(hI:DX c l bs i):c8 (QtU c l bs i) (dj JF ⟨c,l,bs,i⟩):=by
 (rw[QAG];delta b7 dH cj c6;conv=>zeta)
 unfold DX at hI;obtain⟨h1,h2,h3,h4⟩:=hI;have jo:=Qe (show l.length<=9223372036854775807 by omega)
 by_cases cU:i<l.length
 ·have cP:=eG i (by omega)
  have eu:=ga (show i<l.length by omega)
  have et:=fL (show i<l.length by omega)
  have dh:=bw i
  simp only[cP,eu,et,dh,ag];have hf:=Io h4 cU (⟨0,0,0,0,0⟩:cg);have hd:(l.drop i).flatMap Zz=_:=ZE l i Zz cU (⟨0,0,0,0,0⟩:cg);generalize l.getD i (⟨0,0,0,0,0⟩:cg)=x at hd hf ⊢;simp only[Y6,ai]at hf;obtain⟨⟨⟨f1,f2⟩,f3⟩,f4⟩:=hf;have g1:=Qf.1 f1;have g2:=Qf.1 f2;have g3:=Qf.1 f3;have w1:IntKind.i64.wrap (16*x.key)=16*x.key:=cC (by omega) (by omega);have w2:IntKind.i64.wrap (x.j+16*x.key)=x.key*16+x.j:=by rw[cC (by omega) (by omega)];omega
  have hk:UInt8.ofNat (IntKind.u8.wrap (x.key*16+x.j)).toNat=QI (x.key*16+x.j):=rfl;have hv:UInt8.ofNat (IntKind.u8.wrap x.value).toNat=QI x.value:=rfl;have e0:decide (x.place<=9223372036854775807/\1<=(3:Int)/\(3:Int)<=6)=true:=by simp;omega
  have e1:Qg (bs.length+1) 1=true:=Zt (by omega);have e0':Qg (0+bs.length) 1=true:=Zt (by omega);have e2:decide (0<=x.place/\x.place<=9223372036854775807/\0<=(3:Int)/\(3:Int)<=6/\bs.length<=1000000)=true:=by simp;omega
  have e5:Qg (bs.length+3+2) 1=true:=Zt (by omega);have e6:Nat.blt bs.length (bs.length+3+2)=true:=by simp[Nat.blt_eq];omega
  have t3:(3:Int).toNat-0=3:=rfl;have eb:∀n:Nat,n.beq n=true:=fun n=>by simp
  have e7:Qg bs.length 1=true:=Zt (by omega);simp only[jo,ag,w1,w2,hk,hv,Vv f1,e0,aC,aE,bH,aN,Nat.reduceAdd,eb,e1,e2,e5,e6,e7,t3,Qs,aM,au,aH];refine Qi ⟨c,l,bs++Zz x,i+1⟩ (by refine⟨cU,h2,?_,h4⟩;simp[YH];omega) (by simp only[JF];omega) ?_ (by simp[JF,Iz,Zz,jT,tJ]) (by simp[JF,xP,Zz,jT,tJ]);simp only[JF,HZ,hd,ay]
 ·have hi:i=l.length:=by omega
  have xb:decide ((i:Int)<l.length)=false:=by simp;omega
  simp only[jo,ag,xb,ah];have F7:l.drop i=[]:=aO (by omega);exact Qh (xP c l bs i) (by simp only[JF,HZ,xP,F7,RT.val,List.flatMap_nil,aR]) rfl
def OT(env:bX)(os:bP):Option (Bool×QnC):=match env,os with
 |[(4,.vs 0 x0),(8,.sl .line c l),(10,.int .i64 x1)],[.vec .u8 true bs]=>some (decide (x0=bs.length)&&decide (x1=0)&&decide (l.length<=1000/\bs.length<=900000)&&l.all Y6,⟨c,l,bs,0⟩)
 |_,_=>none
def AV:=AU.cJ 106 22 (ey cu [.slot 4 0] [4,8,10] JF OT)
theorem QtV:Qk Tryz.prog cu AV:=by
 refine QtT.cq Qb (by kernel_rfl) JF 40 [4,8,10] [4] [.slot 4 0] [4,8,10] OT (fun q hI=>?_) ?_
 ·obtain⟨c,l,bs,i⟩:=q;refine⟨?_,?_,Ql0 c l bs i hI⟩
  ·simp_all[Qj,JF,Iz,xP,DX,D.refs,Obj.refs,cV]
  ·simp_all[JF,HZ,xP,DX,RT.cT,Qj,D.refs,Obj.refs,cV]
 ·intro env os b q cN hb;unfold OT at cN
  split at cN
  ·cases cN;simp only[ai,aa]at hb;obtain⟨⟨⟨rfl,rfl⟩,hl⟩,ha⟩:=hb;exact⟨⟨aK _,hl.1,hl.2,ha⟩,rfl,rfl⟩
  ·cases cN
structure QtW where
 (p:Int)(ci:Bool)(items:bM)(k0 k1 k2:Bool)(l0 l1 l2:bJ)(c0 c1 c2:Int)(bs:bL)(q:Nat)
def uU(p:Int)(ci:Bool)(items:bM)(k0 k1 k2:Bool)(l0 l1 l2:bJ)(c0 c1 c2:Int)(bs:bL)(q:Nat):bX:=[(1,.ptr 0 []),(4,.vs 1 (bs.length)),(7,.int .i64 (q:Int))]
def KQ(p:Int)(ci:Bool)(items:bM)(k0 k1 k2:Bool)(l0 l1 l2:bJ)(c0 c1 c2:Int)(bs:bL)(q:Nat):bP:=[.var 34 (cH p (cL .item ci items (.bI (cL .line k0 l0 (cL .line k1 l1 (cL .line k2 l2 .bN))) (.bI (.arr (C:=RC) .int 3 [c0,c1,c2]) .bN)))),.vec (C:=RC) .u8 true bs]
def E4 p ci items k0 k1 k2 l0 l1 l2 c0 c1 c2 bs q:=dQ cu AV 106 12 60 2 [1,4,7] [4] [.slot 1 0,.slot 4 0] (uU p ci items k0 k1 k2 l0 l1 l2 c0 c1 c2 bs q) (KQ p ci items k0 k1 k2 l0 l1 l2 c0 c1 c2 bs q)
theorem QAH(p:Int)(ci:Bool)(items:bM)(k0 k1 k2:Bool)(l0 l1 l2:bJ)(c0 c1 c2:Int)(bs:bL):E4 p ci items k0 k1 k2 l0 l1 l2 c0 c1 c2 bs 0=(let Z0:=bs.length;let Z1:=List.length ([]++bs);let Z2:=l0.length;let Z3:bL:=[]++bs++fC c0 3;let Z4:=Z3.length;let Z5:bL:=[UInt8.ofNat (IntKind.wrap IntKind.u8 (Z2:Int)).toNat];let Z6:=cg.offset (List.getD l0 0 (cg.mk 0 0 0 0 0));let Z7:=List.length (Z3++Z5);let Z8:=Nat.beq (Z4+Z5.length) Z7;let Z9:=Qg ((0:Nat)+Z7) 1;let db:bL:=[]++(Z3++Z5);let dB:Bool:=decide ((0:Nat)+Z7=db.length)&&true;let eo:=List.length (db++fC Z6 3);let fa:=List.flatMap Zz (List.drop 0 l0);let fM:bL:=db++fC Z6 3++fa;let fz:Nat×bV:=(1,D.ptr 0 []);let fy:er:=[(7,cj 1)];let fR:cf:=some (Obj.var 34 (.bI (cj p) (.bI (D.sl b9.item ci items) (.bI (D.bI (D.sl b9.line k0 l0) (.bI (D.sl b9.line k1 l1) (.bI (D.sl b9.line k2 l2) .bN))) (.bI (D.arr b9.int 3 [c0,c1,c2]) .bN)))));let eH:bL:=db++fC 0 3;let fW:=eH.length;let gD:=List.length (eH++fa);b7 (decide (c0<=9223372036854775807/\(1:Int)<=3/\(3:Int)<=6)&&QL c0 3) (b7 (Nat.beq Z0 Z0) (b7 (Qg ((0:Nat)+Z0) 1) (b7 (decide ((0:Nat)+Z0=Z1)&&true&&decide ((0:Int)<=c0/\c0<=9223372036854775807/\(0:Int)<=3/\(3:Int)<=6/\Z1<=1000000)) (b7 (Qd Z2) (b7 (Nat.beq Z4 Z4&&Qg (Z4+Z5.length) 1) (b7 (Qd Z2) (bif decide ((0:Int)<(Z2:Int))then b7 (decide ((0:Int)<=0/\(0:Int)<(Z2:Int))) (b7 (decide (Z6<=9223372036854775807/\(1:Int)<=3/\(3:Int)<=6)&&QL Z6 3) (b7 Z8 (b7 Z9 (b7 (dB&&decide ((0:Int)<=Z6/\Z6<=9223372036854775807/\(0:Int)<=3/\(3:Int)<=6/\db.length<=1000000)) (b7 (decide (eo=eo)&&true&&decide (Z2<=1000/\eo<=900000)&&List.all l0 Y6) (b7 (Nat.blt Z0 fM.length) (some ((X.normal,fz::(4,D.vs 1 fM.length)::fy),[fR,some (Obj.vec b9.u8 true fM)]))))))))else b7 Z8 (b7 Z9 (b7 (dB&&decide ((0:Int)<=0/\(0:Int)<=9223372036854775807/\(0:Int)<=3/\(3:Int)<=6/\db.length<=1000000)) (b7 (decide (fW=fW)&&true&&decide (Z2<=1000/\fW<=900000)&&List.all l0 Y6) (b7 (Nat.blt Z0 gD) (some ((X.normal,fz::(4,D.vs 1 gD)::fy),[fR,some (Obj.vec b9.u8 true (eH++fa))])))))))))))))):=by kernel_rfl
theorem QAI(p:Int)(ci:Bool)(items:bM)(k0 k1 k2:Bool)(l0 l1 l2:bJ)(c0 c1 c2:Int)(bs:bL):E4 p ci items k0 k1 k2 l0 l1 l2 c0 c1 c2 bs 1=(let Z0:=bs.length;let Z1:=List.length ([]++bs);let Z2:=l1.length;let Z3:bL:=[]++bs++fC c1 3;let Z4:=Z3.length;let Z5:bL:=[UInt8.ofNat (IntKind.wrap IntKind.u8 (Z2:Int)).toNat];let Z6:=cg.offset (List.getD l1 0 (cg.mk 0 0 0 0 0));let Z7:=List.length (Z3++Z5);let Z8:=Nat.beq (Z4+Z5.length) Z7;let Z9:=Qg ((0:Nat)+Z7) 1;let db:bL:=[]++(Z3++Z5);let dB:Bool:=decide ((0:Nat)+Z7=db.length)&&true;let eo:=List.length (db++fC Z6 3);let fa:=List.flatMap Zz (List.drop 0 l1);let fM:bL:=db++fC Z6 3++fa;let fz:Nat×bV:=(1,D.ptr 0 []);let fy:er:=[(7,cj 2)];let fR:cf:=some (Obj.var 34 (.bI (cj p) (.bI (D.sl b9.item ci items) (.bI (D.bI (D.sl b9.line k0 l0) (.bI (D.sl b9.line k1 l1) (.bI (D.sl b9.line k2 l2) .bN))) (.bI (D.arr b9.int 3 [c0,c1,c2]) .bN)))));let eH:bL:=db++fC 0 3;let fW:=eH.length;let gD:=List.length (eH++fa);b7 (decide (c1<=9223372036854775807/\(1:Int)<=3/\(3:Int)<=6)&&QL c1 3) (b7 (Nat.beq Z0 Z0) (b7 (Qg ((0:Nat)+Z0) 1) (b7 (decide ((0:Nat)+Z0=Z1)&&true&&decide ((0:Int)<=c1/\c1<=9223372036854775807/\(0:Int)<=3/\(3:Int)<=6/\Z1<=1000000)) (b7 (Qd Z2) (b7 (Nat.beq Z4 Z4&&Qg (Z4+Z5.length) 1) (b7 (Qd Z2) (bif decide ((0:Int)<(Z2:Int))then b7 (decide ((0:Int)<=0/\(0:Int)<(Z2:Int))) (b7 (decide (Z6<=9223372036854775807/\(1:Int)<=3/\(3:Int)<=6)&&QL Z6 3) (b7 Z8 (b7 Z9 (b7 (dB&&decide ((0:Int)<=Z6/\Z6<=9223372036854775807/\(0:Int)<=3/\(3:Int)<=6/\db.length<=1000000)) (b7 (decide (eo=eo)&&true&&decide (Z2<=1000/\eo<=900000)&&List.all l1 Y6) (b7 (Nat.blt Z0 fM.length) (some ((X.normal,fz::(4,D.vs 1 fM.length)::fy),[fR,some (Obj.vec b9.u8 true fM)]))))))))else b7 Z8 (b7 Z9 (b7 (dB&&decide ((0:Int)<=0/\(0:Int)<=9223372036854775807/\(0:Int)<=3/\(3:Int)<=6/\db.length<=1000000)) (b7 (decide (fW=fW)&&true&&decide (Z2<=1000/\fW<=900000)&&List.all l1 Y6) (b7 (Nat.blt Z0 gD) (some ((X.normal,fz::(4,D.vs 1 gD)::fy),[fR,some (Obj.vec b9.u8 true (eH++fa))])))))))))))))):=by kernel_rfl
theorem QAJ(p:Int)(ci:Bool)(items:bM)(k0 k1 k2:Bool)(l0 l1 l2:bJ)(c0 c1 c2:Int)(bs:bL):E4 p ci items k0 k1 k2 l0 l1 l2 c0 c1 c2 bs 2=(let Z0:=bs.length;let Z1:=List.length ([]++bs);let Z2:=l2.length;let Z3:bL:=[]++bs++fC c2 3;let Z4:=Z3.length;let Z5:bL:=[UInt8.ofNat (IntKind.wrap IntKind.u8 (Z2:Int)).toNat];let Z6:=cg.offset (List.getD l2 0 (cg.mk 0 0 0 0 0));let Z7:=List.length (Z3++Z5);let Z8:=Nat.beq (Z4+Z5.length) Z7;let Z9:=Qg ((0:Nat)+Z7) 1;let db:bL:=[]++(Z3++Z5);let dB:Bool:=decide ((0:Nat)+Z7=db.length)&&true;let eo:=List.length (db++fC Z6 3);let fa:=List.flatMap Zz (List.drop 0 l2);let fM:bL:=db++fC Z6 3++fa;let fz:Nat×bV:=(1,D.ptr 0 []);let fy:er:=[(7,cj 3)];let fR:cf:=some (Obj.var 34 (.bI (cj p) (.bI (D.sl b9.item ci items) (.bI (D.bI (D.sl b9.line k0 l0) (.bI (D.sl b9.line k1 l1) (.bI (D.sl b9.line k2 l2) .bN))) (.bI (D.arr b9.int 3 [c0,c1,c2]) .bN)))));let eH:bL:=db++fC 0 3;let fW:=eH.length;let gD:=List.length (eH++fa);b7 (decide (c2<=9223372036854775807/\(1:Int)<=3/\(3:Int)<=6)&&QL c2 3) (b7 (Nat.beq Z0 Z0) (b7 (Qg ((0:Nat)+Z0) 1) (b7 (decide ((0:Nat)+Z0=Z1)&&true&&decide ((0:Int)<=c2/\c2<=9223372036854775807/\(0:Int)<=3/\(3:Int)<=6/\Z1<=1000000)) (b7 (Qd Z2) (b7 (Nat.beq Z4 Z4&&Qg (Z4+Z5.length) 1) (b7 (Qd Z2) (bif decide ((0:Int)<(Z2:Int))then b7 (decide ((0:Int)<=0/\(0:Int)<(Z2:Int))) (b7 (decide (Z6<=9223372036854775807/\(1:Int)<=3/\(3:Int)<=6)&&QL Z6 3) (b7 Z8 (b7 Z9 (b7 (dB&&decide ((0:Int)<=Z6/\Z6<=9223372036854775807/\(0:Int)<=3/\(3:Int)<=6/\db.length<=1000000)) (b7 (decide (eo=eo)&&true&&decide (Z2<=1000/\eo<=900000)&&List.all l2 Y6) (b7 (Nat.blt Z0 fM.length) (some ((X.normal,fz::(4,D.vs 1 fM.length)::fy),[fR,some (Obj.vec b9.u8 true fM)]))))))))else b7 Z8 (b7 Z9 (b7 (dB&&decide ((0:Int)<=0/\(0:Int)<=9223372036854775807/\(0:Int)<=3/\(3:Int)<=6/\db.length<=1000000)) (b7 (decide (fW=fW)&&true&&decide (Z2<=1000/\fW<=900000)&&List.all l2 Y6) (b7 (Nat.blt Z0 gD) (some ((X.normal,fz::(4,D.vs 1 gD)::fy),[fR,some (Obj.vec b9.u8 true (eH++fa))])))))))))))))):=by kernel_rfl
theorem QAK(p:Int)(ci:Bool)(items:bM)(k0 k1 k2:Bool)(l0 l1 l2:bJ)(c0 c1 c2:Int)(bs:bL):E4 p ci items k0 k1 k2 l0 l1 l2 c0 c1 c2 bs 3=(some ((X.exit 2,[(4,D.vs 1 bs.length)]),[some (Obj.var 34 (.bI (D.int .i64 p) (.bI (D.sl b9.item ci items) (.bI (D.bI (D.sl b9.line k0 l0) (.bI (D.sl b9.line k1 l1) (.bI (D.sl b9.line k2 l2) .bN))) (.bI (D.arr b9.int 3 [c0,c1,c2]) .bN))))),some (Obj.vec b9.u8 true bs)])):=by kernel_rfl
def VR(p:Int)(ci:Bool)(items:bM)(k0 k1 k2:Bool)(l0 l1 l2:bJ)(c0 c1 c2:Int)(bs:bL)(q:Nat):RT RC:=.leaf (.exit 2) [(4,.vs 1 (bs++ZZ ⟨p,items,l0,l1,l2,c0,c1,c2⟩ q).length)] [.var 34 (cH p (cL .item ci items (.bI (cL .line k0 l0 (cL .line k1 l1 (cL .line k2 l2 .bN))) (.bI (.arr (C:=RC) .int 3 [c0,c1,c2]) .bN)))),.vec (C:=RC) .u8 true (bs++ZZ ⟨p,items,l0,l1,l2,c0,c1,c2⟩ q)]
def Es(p:Int)(ci:Bool)(items:bM)(k0 k1 k2:Bool)(l0 l1 l2:bJ)(c0 c1 c2:Int)(bs:bL)(q:Nat):Prop:=q<=3/\bs.length<=10000+100*q/\V7 c0 l0=true/\V7 c1 l1=true/\V7 c2 l2=true
def Zw:QD RC QtW where
 k:=2
 cM q:=uU q.p q.ci q.items q.k0 q.k1 q.k2 q.l0 q.l1 q.l2 q.c0 q.c1 q.c2 q.bs q.q
 cK q:=KQ q.p q.ci q.items q.k0 q.k1 q.k2 q.l0 q.l1 q.l2 q.c0 q.c1 q.c2 q.bs q.q
 fin q:=VR q.p q.ci q.items q.k0 q.k1 q.k2 q.l0 q.l1 q.l2 q.c0 q.c1 q.c2 q.bs q.q
 Inv q:=Es q.p q.ci q.items q.k0 q.k1 q.k2 q.l0 q.l1 q.l2 q.c0 q.c1 q.c2 q.bs q.q
 μ q:=3-q.q
theorem QqI p ci items k0 k1 k2 l0 l1 l2 c0 c1 c2 bs q(hI:Es p ci items k0 k1 k2 l0 l1 l2 c0 c1 c2 bs q):c8 (E4 p ci items k0 k1 k2 l0 l1 l2 c0 c1 c2 bs q) (dj Zw ⟨p,ci,items,k0,k1,k2,l0,l1,l2,c0,c1,c2,bs,q⟩):=by
 unfold Es at hI;obtain⟨h1,h2,f0,f1,f2⟩:=hI;have r7:∀{a b:Nat},a<b->Nat.blt a b=true:=fun h=>by simpa[Nat.blt_eq]using h
 have eb:∀n:Nat,n.beq n=true:=fun n=>by simp
 have t3:(3:Int).toNat-0=3:=rfl
 by_cases h3:q=3
 ·subst h3;rw[QAK];exact Qh (KQ p ci items k0 k1 k2 l0 l1 l2 c0 c1 c2 bs 3) (by simp only[Zw,VR,KQ,ZZ,RT.val,aR]) rfl
 by_cases e0:q=0
 ·subst e0
  (rw[QAH];delta b7 cj;conv=>zeta)
  obtain⟨hc,hl,kS,ho⟩:=Y7.1 f0;have jo:Qd l0.length=true:=Qe (by omega);have fc:QL c0 3=true:=Vv (by rw[Qf];omega);have hb:UInt8.ofNat (IntKind.u8.wrap (l0.length:Int)).toNat=QI l0.length:=rfl;have sl:=Zi l0 Zz 5 YH;unfold QA at ho;have fo:QL (l0.getD 0 ⟨0,0,0,0,0⟩).offset 3=true:=Vv (by rw[Qf];omega);simp only[jo,fc,fo,hb,kS,t3,aC,aE,bH,Qs,sl,eb,aN,aH,au,Bool.and_true,ag,bG]
  by_cases hp:0<l0.length
  ·simp(disch:=omega) only[ab,Zt,r7,ag,au];refine Qi ⟨p,ci,items,k0,k1,k2,l0,l1,l2,c0,c1,c2,bs++Qx c0 l0,1⟩ (by refine⟨by simp,?_,f0,f1,f2⟩;simp[Qx,Qs,sl];omega) (by simp only[Zw];omega) ?_ (by simp[Zw,uU,Qx,Qs,sl,jT,QA];omega) (by simp[Zw,KQ,Qx,jT,QA]);simp only[Zw,VR,ZZ,ay,aR]
  ·have e:l0=[]:=by cases hq:l0 with
    |nil=>rfl
    |cons _ _=>rw[hq]at hp;simp at hp
   simp(disch:=omega) only[ab,ad,Zt,r7,ag,ah,au];refine Qi ⟨p,ci,items,k0,k1,k2,l0,l1,l2,c0,c1,c2,bs++Qx c0 l0,1⟩ (by refine⟨by simp,?_,f0,f1,f2⟩;simp[Qx,Qs,sl];omega) (by simp only[Zw];omega) ?_ (by simp[Zw,uU,Qx,Qs,sl,jT,QA,e]) (by simp[Zw,KQ,Qx,jT,QA,e]);simp only[Zw,VR,ZZ,ay,aR]
 by_cases e1:q=1
 ·subst e1
  (rw[QAI];delta b7 cj;conv=>zeta)
  obtain⟨hc,hl,kS,ho⟩:=Y7.1 f1;have jo:Qd l1.length=true:=Qe (by omega);have fc:QL c1 3=true:=Vv (by rw[Qf];omega);have hb:UInt8.ofNat (IntKind.u8.wrap (l1.length:Int)).toNat=QI l1.length:=rfl;have sl:=Zi l1 Zz 5 YH;unfold QA at ho;have fo:QL (l1.getD 0 ⟨0,0,0,0,0⟩).offset 3=true:=Vv (by rw[Qf];omega);simp only[jo,fc,fo,hb,kS,t3,aC,aE,bH,Qs,sl,eb,aN,aH,au,Bool.and_true,ag,bG]
  by_cases hp:0<l1.length
  ·simp(disch:=omega) only[ab,Zt,r7,ag,au];refine Qi ⟨p,ci,items,k0,k1,k2,l0,l1,l2,c0,c1,c2,bs++Qx c1 l1,2⟩ (by refine⟨by simp,?_,f0,f1,f2⟩;simp[Qx,Qs,sl];omega) (by simp only[Zw];omega) ?_ (by simp[Zw,uU,Qx,Qs,sl,jT,QA];omega) (by simp[Zw,KQ,Qx,jT,QA]);simp only[Zw,VR,ZZ,ay,aR]
  ·have e:l1=[]:=by cases hq:l1 with
    |nil=>rfl
    |cons _ _=>rw[hq]at hp;simp at hp
   simp(disch:=omega) only[ab,ad,Zt,r7,ag,ah,au];refine Qi ⟨p,ci,items,k0,k1,k2,l0,l1,l2,c0,c1,c2,bs++Qx c1 l1,2⟩ (by refine⟨by simp,?_,f0,f1,f2⟩;simp[Qx,Qs,sl];omega) (by simp only[Zw];omega) ?_ (by simp[Zw,uU,Qx,Qs,sl,jT,QA,e]) (by simp[Zw,KQ,Qx,jT,QA,e]);simp only[Zw,VR,ZZ,ay,aR]
 by_cases e2:q=2
 ·subst e2
  (rw[QAJ];delta b7 cj;conv=>zeta)
  obtain⟨hc,hl,kS,ho⟩:=Y7.1 f2;have jo:Qd l2.length=true:=Qe (by omega);have fc:QL c2 3=true:=Vv (by rw[Qf];omega);have hb:UInt8.ofNat (IntKind.u8.wrap (l2.length:Int)).toNat=QI l2.length:=rfl;have sl:=Zi l2 Zz 5 YH;unfold QA at ho;have fo:QL (l2.getD 0 ⟨0,0,0,0,0⟩).offset 3=true:=Vv (by rw[Qf];omega);simp only[jo,fc,fo,hb,kS,t3,aC,aE,bH,Qs,sl,eb,aN,aH,au,Bool.and_true,ag,bG]
  by_cases hp:0<l2.length
  ·simp(disch:=omega) only[ab,Zt,r7,ag,au];refine Qi ⟨p,ci,items,k0,k1,k2,l0,l1,l2,c0,c1,c2,bs++Qx c2 l2,3⟩ (by refine⟨by simp,?_,f0,f1,f2⟩;simp[Qx,Qs,sl];omega) (by simp only[Zw];omega) ?_ (by simp[Zw,uU,Qx,Qs,sl,jT,QA];omega) (by simp[Zw,KQ,Qx,jT,QA]);simp only[Zw,VR,ZZ,ay,aR]
  ·have e:l2=[]:=by cases hq:l2 with
    |nil=>rfl
    |cons _ _=>rw[hq]at hp;simp at hp
   simp(disch:=omega) only[ab,ad,Zt,r7,ag,ah,au];refine Qi ⟨p,ci,items,k0,k1,k2,l0,l1,l2,c0,c1,c2,bs++Qx c2 l2,3⟩ (by refine⟨by simp,?_,f0,f1,f2⟩;simp[Qx,Qs,sl];omega) (by simp only[Zw];omega) ?_ (by simp[Zw,uU,Qx,Qs,sl,jT,QA,e]) (by simp[Zw,KQ,Qx,jT,QA,e]);simp only[Zw,VR,ZZ,ay,aR]
 omega
def PP(env:bX)(os:bP):Option (Bool×QtW):=match env,os with
 |[(1,.ptr 0 []),(4,.vs 1 x0),(7,.int .i64 x1)],[.var 34 (.bI (.int .i64 p) (.bI (.sl .item ci items) (.bI (.bI (.sl .line k0 l0) (.bI (.sl .line k1 l1) (.bI (.sl .line k2 l2) .bN))) (.bI (.arr .int 3 [c0,c1,c2]) .bN)))),.vec .u8 true bs]=>some (decide (x0=bs.length)&&decide (x1=0)&&decide (bs.length<=10000)&&(V7 c0 l0&&V7 c1 l1&&V7 c2 l2),⟨p,ci,items,k0,k1,k2,l0,l1,l2,c0,c1,c2,bs,0⟩)
 |_,_=>none
def AW:=AV.cJ 106 12 (ey cu [.slot 1 0,.slot 4 0] [1,4,7] Zw PP)
theorem QtY:Qk Tryz.prog cu AW:=by
 refine QtV.cq Qb (by kernel_rfl) Zw 60 [1,4,7] [4] [.slot 1 0,.slot 4 0] [1,4,7] PP (fun q hI=>?_) ?_
 ·obtain⟨p,ci,items,k0,k1,k2,l0,l1,l2,c0,c1,c2,bs,q⟩:=q;refine⟨?_,?_,QqI p ci items k0 k1 k2 l0 l1 l2 c0 c1 c2 bs q hI⟩
  ·simp_all[Qj,Zw,uU,KQ,Es,D.refs,Obj.refs,cV]
  ·simp_all[Zw,VR,KQ,Es,RT.cT,Qj,D.refs,Obj.refs,cV]
 ·intro env os b q cN hb;unfold PP at cN
  split at cN
  ·cases cN;simp only[ai,aa]at hb;obtain⟨⟨⟨rfl,rfl⟩,hl⟩,ha⟩:=hb;exact⟨⟨aK _,hl,ha.1.1,ha.1.2,ha.2⟩,rfl,rfl⟩
  ·cases cN
def Wy:bW->bO
 |[.bI (.int .i64 p) (.bI (.sl .item ci items) (.bI (.bI (.sl .line k0 l0) (.bI (.sl .line k1 l1) (.bI (.sl .line k2 l2) .bN))) (.bI (.arr .int 3 [c0,c1,c2]) .bN)))]=>some (decide (items.length<=9223372036854775807/\l0.length<=9223372036854775807/\l1.length<=9223372036854775807/\l2.length<=9223372036854775807),.cG (cL .u8 (!Qu ⟨p,items,l0,l1,l2,c0,c1,c2⟩) (bif Qu ⟨p,items,l0,l1,l2,c0,c1,c2⟩then YB ⟨p,items,l0,l1,l2,c0,c1,c2⟩else[]) (cH (bif Qu ⟨p,items,l0,l1,l2,c0,c1,c2⟩then 0 else 2) .bN)))
 |_=>none
def WH(p:Int)(ci:Bool)(items:bM)(k0 k1 k2:Bool)(l0 l1 l2:bJ)(c0 c1 c2:Int):=eO cu AW 40 106 [.bI (.int .i64 p) (cL .item ci items (.bI (cL .line k0 l0 (cL .line k1 l1 (cL .line k2 l2 .bN))) (.bI (.arr (C:=RC) .int 3 [c0,c1,c2]) .bN)))]
theorem QeV p ci items k0 k1 k2 l0 l1 l2 c0 c1 c2:WH p ci items k0 k1 k2 l0 l1 l2 c0 c1 c2=(let Z0:=items.length;let Z1:St:=St.mk p items l0 l1 l2 c0 c1 c2;let Z2:bL:=[]++[]++fC p 3;let Z3:bL:=[UInt8.ofNat (IntKind.wrap IntKind.u8 (Z0:Int)).toNat];let Z4:=List.length (Z2++Z3);let Z5:bL:=Z2++Z3++List.flatMap Yo (List.drop 0 items);let Z6:=Z5.length;let Z7:bL:=Z5++ZZ Z1 0;b7 (decide (Z0<=9223372036854775807/\l0.length<=9223372036854775807/\l1.length<=9223372036854775807/\l2.length<=9223372036854775807)) (bif !Qu Z1 then some (D.cG (D.bI (D.sl b9.u8 true []) (.bI (cj 2) .bN)))else b7 (decide (p<=9223372036854775807/\(1:Int)<=3/\(3:Int)<=6)&&QL p 3) (b7 (decide ((0:Int)<=p/\p<=9223372036854775807/\(0:Int)<=3/\(3:Int)<=6/\(0:Nat)<=1000000)) (b7 (Qd Z0) (b7 (decide (Z2.length+Z3.length=Z4)&&true&&decide (Z0<=1000/\Z4<=900000)&&List.all items lO) (b7 (decide (Z6=Z6)&&true&&decide (Z6<=10000)&&(V7 c0 l0&&V7 c1 l1&&V7 c2 l2)) (b7 (Nat.beq Z7.length Z7.length) (some (D.cG (D.bI (D.sl b9.u8 false Z7) (.bI (cj 0) .bN))))))))))):=by kernel_rfl
theorem QeW p ci items k0 k1 k2 l0 l1 l2 c0 c1 c2(h:(decide (items.length<=9223372036854775807/\l0.length<=9223372036854775807/\l1.length<=9223372036854775807/\l2.length<=9223372036854775807))=true):WH p ci items k0 k1 k2 l0 l1 l2 c0 c1 c2=some (.cG (cL .u8 (!Qu ⟨p,items,l0,l1,l2,c0,c1,c2⟩) (bif Qu ⟨p,items,l0,l1,l2,c0,c1,c2⟩then YB ⟨p,items,l0,l1,l2,c0,c1,c2⟩else[]) (cH (bif Qu ⟨p,items,l0,l1,l2,c0,c1,c2⟩then 0 else 2) .bN))):=by
 (rw[QeV];delta b7 cj;conv=>zeta)
 obtain⟨h,h0,h1,h2⟩:=af h;rw[ab (show(items.length<=9223372036854775807/\l0.length<=9223372036854775807/\l1.length<=9223372036854775807/\l2.length<=9223372036854775807)from⟨h,h0,h1,h2⟩)];cases hm:Qu ⟨p,items,l0,l1,l2,c0,c1,c2⟩
 ·rfl
 ·obtain⟨hp,Se,Sd,q0,q1,q2⟩:=YI hm;have fp:QL p 3=true:=Vv (by rw[Qf];omega);have b:=Qe h;have hb:UInt8.ofNat (IntKind.u8.wrap (items.length:Int)).toNat=QI items.length:=rfl;have sI:=Zi items Yo 5 HI;have eb:∀n:Nat,n.beq n=true:=fun n=>by simp
  have t3:(3:Int).toNat-0=3:=rfl;simp only[fp,b,hb,Sd,Y7.2 q0,Y7.2 q1,Y7.2 q2,t3,aC,aE,bH,Qs,sI,eb,aN,aH,au,Bool.and_true,bg,ag,ah,bG];simp(disch:=omega) only[ab,Zt,ag,au];simp[YB,jT,ZZ]
def AX:=AW.b8 106 Wy
theorem QtZ:Qk Tryz.prog cu AX:=QtY.cQ Qb fun args d h=>by
 unfold Wy at h
 split at h
 ·obtain⟨h1,rfl⟩:=ak h;exact⟨by simp[D.refs],40,QeW _ _ _ _ _ _ _ _ _ _ _ _ h1⟩
 ·cases h
structure QnD where
 (c:Bool)(b:bL)(bad:Bool)(pl:Int)(y:Bool)(ws:ca)(n:Int)(i:Nat)
def Cq(c:Bool)(b:bL)(bad:Bool)(pl:Int)(y:Bool)(ws:ca)(n:Int)(i:Nat):bX:=[(4,.ptr 0 []),(5,.ptr 1 []),(20,.int .i64 n),(21,.int .i64 (i:Int))]
def Kr(c:Bool)(b:bL)(bad:Bool)(pl:Int)(y:Bool)(ws:ca)(n:Int)(i:Nat):bP:=[.var 171 (cL .u8 c b (.bI (.bool bad) .bN)),.var 51 (cH pl (.bI (.bool y) (.bI (.vs 2 (ws.length)) .bN))),.vec (C:=RC) .write true ws]
def Qt0 c b bad pl y ws n i:=dQ cu AX 184 6 40 3 [4,5,20,21] [] [.slot 4 0,.slot 5 0,.path 1 [2]] (Cq c b bad pl y ws n i) (Kr c b bad pl y ws n i)
theorem QAL c b bad pl y ws n i:Qt0 c b bad pl y ws n i=(let Z0:Int×Int:=dT b 0 1;let Z1:=ws.length;let Z2:=Nat.beq Z1 Z1;let Z3:X×bX:=(X.normal,[(4,D.ptr 0 []),(5,D.ptr 1 []),(20,cj n),(21,cj (c6 ((i:Int)+1)))]);let Z4:bV:=.bN;let Z5:cf:=some (Obj.var 171 (.bI (D.sl b9.u8 true []) (.bI (D.bool true) Z4)));let Z6:bV:=cj pl;let Z7:bV:=D.bool y;let Z8:=List.drop 1 b;let Z9:Int×Int:=dT Z8 0 1;let db:ca:=[Qo.mk Z0.1 0];let dB:ca:=[Qo.mk Z0.1 Z9.1];bif decide ((i:Int)<n)then b7 (decide (b.length<=1000000000000)) (bif Z0.2 !=0 then b7 (Z2&&Qg (Z1+1) 16) (some (Z3,[Z5,some (Obj.var 51 (.bI Z6 (D.bI Z7 (D.bI (D.vs 2 (Z1+1)) Z4)))),some (Obj.vec b9.write true (ws++[Qo.mk 0 0]))]))else b7 (decide ((0:Int)<=1/\(1:Int)<=(b.length:Int))) (b7 (decide (Z8.length<=1000000000000)) (bif Z9.2 !=0 then b7 (Z2&&Qg (Z1+db.length) 16) (some (Z3,[Z5,some (Obj.var 51 (.bI Z6 (D.bI Z7 (D.bI (D.vs 2 (Z1+db.length)) Z4)))),some (Obj.vec b9.write true (ws++db))]))else b7 (decide ((0:Int)<=1/\(1:Int)<=(Z8.length:Int))) (b7 (Z2&&Qg (Z1+dB.length) 16) (some (Z3,[some (Obj.var 171 (.bI (D.sl b9.u8 c (List.drop 1 Z8)) (.bI (D.bool bad) Z4))),some (Obj.var 51 (.bI Z6 (D.bI Z7 (D.bI (D.vs 2 (Z1+dB.length)) Z4)))),some (Obj.vec b9.write true (ws++dB))]))))))else some ((X.exit 0,[]),[some (Obj.var 171 (.bI (D.sl b9.u8 c b) (.bI (D.bool bad) Z4))),some (Obj.var 51 (.bI Z6 (D.bI Z7 (D.bI (D.vs 2 Z1) Z4)))),some (Obj.vec b9.write true ws)])):=by kernel_rfl
def JW(c:Bool)(b:bL)(bad:Bool)(pl:Int)(y:Bool)(ws:ca)(n:Int)(i:Nat):RT RC:=.leaf (.exit 0) [] [.var 171 (cL .u8 (Ya (n.toNat-i) ⟨c,b,bad⟩).1.c (Ya (n.toNat-i) ⟨c,b,bad⟩).1.b (.bI (.bool (Ya (n.toNat-i) ⟨c,b,bad⟩).1.bad) .bN)),.var 51 (cH pl (.bI (.bool y) (.bI (.vs 2 (ws++(Ya (n.toNat-i) ⟨c,b,bad⟩).2).length) .bN))),.vec (C:=RC) .write true (ws++(Ya (n.toNat-i) ⟨c,b,bad⟩).2)]
def DY(c:Bool)(b:bL)(bad:Bool)(pl:Int)(y:Bool)(ws:ca)(n:Int)(i:Nat):Prop:=(i:Int)<=n/\n<=255/\b.length<=1000000/\ws.length<=i
def ZS:QD RC QnD where
 k:=3
 cM q:=Cq q.c q.b q.bad q.pl q.y q.ws q.n q.i
 cK q:=Kr q.c q.b q.bad q.pl q.y q.ws q.n q.i
 fin q:=JW q.c q.b q.bad q.pl q.y q.ws q.n q.i
 Inv q:=DY q.c q.b q.bad q.pl q.y q.ws q.n q.i
 μ q:=q.n.toNat-q.i
theorem Ql2 c b bad pl y ws n i(hI:DY c b bad pl y ws n i):c8 (Qt0 c b bad pl y ws n i) (dj ZS ⟨c,b,bad,pl,y,ws,n,i⟩):=by
 (rw[QAL];delta b7 cj c6;conv=>zeta)
 unfold DY at hI;obtain⟨h1,h2,h3,h4⟩:=hI;have tk:∀l:bL,List.take (Int.toNat (l.length:Int)) l=l:=fun l=>by simp
 have eb:∀n:Nat,n.beq n=true:=fun n=>by simp
 have r0:cY 1 ⟨true,[],true⟩=(0,⟨true,[],true⟩):=rfl
 by_cases cU:(i:Int)<n
 ·have cP:=eG i (by omega)
  have hn:n.toNat-i=(n.toNat-(i+1))+1:=by omega
  have s1:Qg (ws.length+1) 16=true:=Zt (by omega);have e0:decide (b.length<=1000000000000)=true:=ab (by omega);simp only[cU,aM,ag,e0,Yr,show Int.toNat 1=1 from rfl,cP,aE,bH,aN,s1,eb,au]
  by_cases b1:b.length<1
  ·have r1:cY 1 ⟨c,b,bad⟩=_:=Ze b1;simp only[b1,aM,ag];refine Qi ⟨true,[],true,pl,y,ws++[⟨0,0⟩],n,i+1⟩ (by refine⟨cU,h2,by simp,?_⟩;simp;omega) (by simp only[ZS];omega) ?_ (by simp[ZS,Cq]) (by simp[ZS,Kr]);simp only[ZS,JW,hn,Ya,r1,r0,ay,aP,aH]
  ·have r1:cY 1 ⟨c,b,bad⟩=_:=Q3 (show 1<=b.length by omega);have d1:decide ((0:Int)<=1/\(1:Int)<=b.length)=true:=by simp;omega
   have e1:decide ((b.drop 1).length<=1000000000000)=true:=ab (by simp;omega);simp only[b1,aW,ah,d1,ag,e1,Zk b1]
   by_cases b2:(b.drop 1).length<1
   ·have r2:cY 1 ⟨c,b.drop 1,bad⟩=_:=Ze b2;simp only[b2,aM,ag];refine Qi ⟨true,[],true,pl,y,ws++[⟨cI (b.take 1),0⟩],n,i+1⟩ (by refine⟨cU,h2,by simp,?_⟩;simp;omega) (by simp only[ZS];omega) ?_ (by simp[ZS,Cq]) (by simp[ZS,Kr]);simp only[ZS,JW,hn,Ya,r1,r2,ay,aP,aH]
   ·have r2:cY 1 ⟨c,b.drop 1,bad⟩=_:=Q3 (show 1<=(b.drop 1).length by omega);have d2:decide ((0:Int)<=1/\(1:Int)<=(b.drop 1).length)=true:=by simp only[aa];omega
    simp only[b2,aW,ah,d2,ag,Zk b2];refine Qi ⟨c,(b.drop 1).drop 1,bad,pl,y,ws++[⟨cI (b.take 1),cI ((b.drop 1).take 1)⟩],n,i+1⟩ (by refine⟨cU,h2,?_,?_⟩<;>simp<;>omega) (by simp only[ZS];omega) ?_ (by simp[ZS,Cq]) (by simp[ZS,Kr]);simp only[ZS,JW,hn,Ya,r1,r2,ay,aP,aH]
 ·have hi:n.toNat-i=0:=by omega
  simp only[cU,aW,ah];exact Qh (Kr c b bad pl y ws n i) (by simp only[ZS,JW,Kr,hi,Ya,RT.val,aR]) rfl
def OU(env:bX)(os:bP):Option (Bool×QnD):=match env,os with
 |[(4,.ptr 0 []),(5,.ptr 1 []),(20,.int .i64 n),(21,.int .i64 x0)],[.var 171 (.bI (.sl .u8 c b) (.bI (.bool bad) .bN)),.var 51 (.bI (.int .i64 pl) (.bI (.bool y) (.bI (.vs 2 x1) .bN))),.vec .write true ws]=>some (decide (x0=0)&&decide (x1=ws.length)&&decide (0<=n/\n<=255/\b.length<=1000000/\ws.length=0),⟨c,b,bad,pl,y,ws,n,0⟩)
 |_,_=>none
def AY:=AX.cJ 184 6 (ey cu [.slot 4 0,.slot 5 0,.path 1 [2]] [4,5,20,21] ZS OU)
theorem Qt1:Qk Tryz.prog cu AY:=by
 refine QtZ.cq Qb (by kernel_rfl) ZS 40 [4,5,20,21] [] [.slot 4 0,.slot 5 0,.path 1 [2]] [4,5,20,21] OU (fun q hI=>?_) ?_
 ·obtain⟨c,b,bad,pl,y,ws,n,i⟩:=q;refine⟨?_,?_,Ql2 c b bad pl y ws n i hI⟩
  ·simp_all[Qj,ZS,Cq,Kr,DY,D.refs,Obj.refs,cV]
  ·simp_all[ZS,JW,Kr,DY,RT.cT,Qj,D.refs,Obj.refs,cV]
 ·intro env os b q cN hb;unfold OU at cN
  split at cN
  ·cases cN;simp only[ai,aa]at hb;obtain⟨⟨rfl,rfl⟩,h⟩:=hb;exact⟨⟨by simpa using h.1,h.2.1,h.2.2.1,by simp[h.2.2.2]⟩,rfl,rfl⟩
  ·cases cN
def QnE:bW->bO
 |[.sl .u8 c b]=>some (decide (b.length<=1000000),.cG (.bI (cH (iT (Yb b)).place (.bI (.bool (iT (Yb b)).yes) (cL .write (Yb b).isNone (iT (Yb b)).writes .bN))) (cH (bif(Yb b).isNone then 50 else 0) .bN)))
 |_=>none
def Qt3(c:Bool)(b:bL):=eO cu AY 40 184 [.sl (C:=RC) .u8 c b]
theorem QAM c b:Qt3 c b=(let Z0:Int×Int:=dT b 0 3;let Z1:bV:=cj 0;let Z2:fI:=some (D.cG (D.bI (D.bI Z1 (D.bI (D.bool false) (.bI (D.sl b9.write true []) .bN))) (.bI (cj 50) .bN)));let Z3:=List.drop 3 b;let Z4:Int×Int:=dT Z3 0 1;let Z5:=List.drop 1 Z3;let Z6:Int×Int:=dT Z5 0 1;let Z7:=Z6.1;let Z8:Rd×ca:=Ya (Int.toNat Z7-0) (Rd.mk c (List.drop 1 Z5) false);let Z9:=List.length Z8.1.b;let db:ca:=[]++Z8.2;let dB:=db.length;let eo:=Z4.1==1;b7 (decide (b.length<=1000000000000)) (bif Z0.2 !=0 then Z2 else b7 (decide ((0:Int)<=3/\(3:Int)<=(b.length:Int))) (b7 (decide (Z3.length<=1000000000000)) (bif Z4.2 !=0 then Z2 else b7 (decide ((0:Int)<=1/\(1:Int)<=(Z3.length:Int))) (b7 (decide (Z5.length<=1000000000000)) (bif Z6.2 !=0 then Z2 else b7 (decide ((0:Int)<=1/\(1:Int)<=(Z5.length:Int))) (b7 (decide ((0:Int)<=Z7/\Z7<=255/\List.length (List.drop 1 Z5)<=1000000/\(0:Nat)=0)) (bif !Rd.bad Z8.1 then b7 (Qd Z9) (bif !(Z9:Int)==0 then Z2 else bif decide ((1:Int)<Z4.1)then Z2 else b7 (Nat.beq dB dB) (b7 (Qd dB) (bif !dW (Rec.mk Z0.1 eo db)then Z2 else some (D.cG (D.bI (D.bI (cj Z0.1) (.bI (D.bool eo) (.bI (D.sl b9.write false db) .bN))) (.bI Z1 .bN))))))else Z2)))))))):=by kernel_rfl
theorem QAN c b(h:(decide (b.length<=1000000))=true):Qt3 c b=some (.cG (.bI (cH (iT (Yb b)).place (.bI (.bool (iT (Yb b)).yes) (cL .write (Yb b).isNone (iT (Yb b)).writes .bN))) (cH (bif(Yb b).isNone then 50 else 0) .bN))):=by
 (rw[QAM];delta b7 cj;conv=>zeta)
 have hl:=af h;have e0:decide (b.length<=1000000000000)=true:=ab (by omega);have no:Yb b=none->some (D.cG (D.bI (D.bI (D.int IntKind.i64 0) (D.bI (D.bool false) (D.bI (D.sl (C:=RC) b9.write true []) D.bN))) (D.bI (D.int IntKind.i64 50) D.bN)))=some (.cG (.bI (cH (iT (Yb b)).place (.bI (.bool (iT (Yb b)).yes) (cL .write (Yb b).isNone (iT (Yb b)).writes .bN))) (cH (bif(Yb b).isNone then 50 else 0) .bN))):=fun e=>by rw[e];rfl
 simp only[e0,ag,YR,Yr]
 by_cases b3:b.length<3
 ·simp only[b3,aM,ag];exact no (by unfold Yb;rw[aw];omega)
 have d3:decide ((0:Int)<=3/\(3:Int)<=b.length)=true:=by simp;omega
 have e1:decide ((b.drop 3).length<=1000000000000)=true:=ab (by simp;omega);simp only[b3,aW,ah,d3,ag,e1,ZP b3]
 by_cases b4:(b.drop 3).length<1
 ·simp only[b4,aM,ag];exact no (by unfold Yb;rw[aw];simp at b4;omega)
 have d4:decide ((0:Int)<=1/\(1:Int)<=(b.drop 3).length)=true:=by simp only[aa];omega
 have e2:decide (((b.drop 3).drop 1).length<=1000000000000)=true:=ab (by simp;omega);simp only[b4,aW,ah,d4,ag,e2,Zk b4]
 by_cases b5:((b.drop 3).drop 1).length<1
 ·simp only[b5,aM,ag];exact no (by unfold Yb;rw[aw];simp at b5;omega)
 have d5:decide ((0:Int)<=1/\(1:Int)<=((b.drop 3).drop 1).length)=true:=by simp only[aa];omega
 have v3:cI ((b.drop 3).take 1)=(b.getD 3 0).toNat:=by
  rw[YC (by omega)];simp[List.getElem?_drop]
 have v4:cI (((b.drop 3).drop 1).take 1)=(b.getD 4 0).toNat:=by
  rw[YC (by omega)];simp[List.getElem?_drop]
 have dr:((b.drop 3).drop 1).drop 1=b.drop 5:=by rw[bD,bD]
 simp only[b5,aW,ah,d5,ag,Zk b5,v3,v4,dr];have h4:=(b.getD 4 0).toNat_lt;have dl:(b.drop 5).length=b.length-5:=by simp
 have hl5:5<=b.length:=by
  have:((b.drop 3).drop 1).length=b.length-4:=by rw[bD];simp
  omega
 generalize hn:(b.getD 4 0).toNat=n at h4 ⊢;have c1:decide ((0:Int)<=n/\(n:Int)<=255/\(b.drop 5).length<=1000000/\True)=true:=ab ⟨by omega,by omega,by omega,trivial⟩;have tn:(n:Int).toNat-0=n:=by omega
 simp only[c1,tn,ag,aH]
 by_cases hs:(b.drop 5).length<2*n
 ·simp only[WC n c _ false hs,bg,ah];exact no (by unfold Yb;rw[aw];omega)
 rw[Qgy n c _ false (by omega)];have k1:Qd ((b.drop 5).drop (2*n)).length=true:=Qe (by simp;omega);have kp:(JV n (b.drop 5)).length<=9223372036854775807:=by rw[Qgz];omega
 have eb:∀n:Nat,n.beq n=true:=fun n=>by simp
 simp only[bh,ag,k1,eb,Qe kp]
 by_cases he:((b.drop 5).drop (2*n)).length=0
 ·have e5:b.length=5+2*n:=by simp at he;omega
  have e6:((((b.drop 5).drop (2*n)).length:Int)==0)=true:=by simp only[bi];omega
  simp only[e6,bg,ah]
  by_cases hy:1<(b.getD 3 0).toNat
  ·have:decide (1<((b.getD 3 0).toNat:Int))=true:=by simp only[aa];omega
   simp only[this,ag];exact no (by unfold Yb;rw[aw];omega)
  ·have y1:decide (1<((b.getD 3 0).toNat:Int))=false:=by simp only[ae];omega
   have y2:(((b.getD 3 0).toNat:Int)==1)=((b.getD 3 0).toNat==1):=by rw[Bool.eq_iff_iff];simp only[bi];omega
   simp only[y1,y2,ah];cases hm:dW ⟨(cI (b.take 3):Int),(b.getD 3 0).toNat==1,JV n (b.drop 5)⟩
   ·simp only[bh,ag];exact no (by unfold Yb;rw[hn,aw];intro q;rw[hm]at q;cases q.2.2.2)
   ·have hr:Yb b=some ⟨(cI (b.take 3):Int),(b.getD 3 0).toNat==1,JV n (b.drop 5)⟩:=by
     unfold Yb;rw[hn,ax ⟨hl5,by omega,e5,hm⟩]
    simp only[bg,ah,hr,iT,ba,Option.isNone_some]
 ·have e6:((((b.drop 5).drop (2*n)).length:Int)==0)=false:=by simp only[beq_eq_false_iff_ne];omega
  simp only[e6,bh,ag];exact no (by unfold Yb;rw[hn,aw];intro q;simp at he;omega)
def AZ:=AY.b8 184 QnE
theorem Qt4:Qk Tryz.prog cu AZ:=Qt1.cQ Qb fun args d h=>by
 unfold QnE at h
 split at h
 ·obtain⟨h1,rfl⟩:=ak h;exact⟨by simp[D.refs],40,QAN _ _ h1⟩
 ·cases h
open Go.Proofs
structure Xz where
 (c:Bool)(b:bL)(bad:Bool)(pl:Int)(dJ:bM)(c0 c1 c2 n:Int)(i:Nat)
def Ja(c:Bool)(b:bL)(bad:Bool)(pl:Int)(dJ:bM)(c0 c1 c2 n:Int)(i:Nat):bX:=[(4,.ptr 0 []),(5,.ptr 1 []),(20,.int .i64 n),(21,.int .i64 (i:Int))]
def Yt(c:Bool)(b:bL)(bad:Bool)(pl:Int)(dJ:bM)(c0 c1 c2 n:Int)(i:Nat):bP:=[.var 171 (cL .u8 c b (.bI (.bool bad) .bN)),.var 34 (cH pl (.bI (.vs 2 (dJ.length)) (.bI (cL .line true [] (cL .line true [] (cL .line true [] .bN))) (.bI (.arr (C:=RC) .int 3 [c0,c1,c2]) .bN)))),.vec (C:=RC) .item true dJ]
def QjP c b bad pl dJ c0 c1 c2 n i:=dQ cu AZ 88 4 40 3 [4,5,20,21] [] [.slot 4 0,.slot 5 0,.path 1 [1]] (Ja c b bad pl dJ c0 c1 c2 n i) (Yt c b bad pl dJ c0 c1 c2 n i)
theorem QqJ c b bad pl dJ c0 c1 c2 n i:QjP c b bad pl dJ c0 c1 c2 n i=(let Z0:Int×Int:=dT b 0 1;let Z1:=dJ.length;let Z2:=Nat.beq Z1 Z1;let Z3:X×bX:=(X.normal,[(4,D.ptr 0 []),(5,D.ptr 1 []),(20,cj n),(21,cj (c6 ((i:Int)+1)))]);let Z4:cf:=some (Obj.var 171 (.bI (D.sl b9.u8 true []) (.bI (D.bool true) .bN)));let Z5:bV:=cj pl;let Z6:bV:=D.sl b9.line true [];let Z7:bV:=D.bI (D.bI Z6 (D.bI Z6 (D.bI Z6 .bN))) (.bI (D.arr b9.int 3 [c0,c1,c2]) .bN);let Z8:=List.drop 1 b;let Z9:Int×Int:=dT Z8 0 3;let db:bM:=[Item.mk Z0.1 0 0];let dB:=List.drop 3 Z8;let eo:bM:=[Item.mk Z0.1 Z9.1 0];let fa:bM:=[Item.mk Z0.1 Z9.1 (dT dB 0 1).1];let fM:bV:=D.bI (D.bool bad) .bN;bif decide ((i:Int)<n)then b7 (decide (b.length<=1000000000000)) (bif Z0.2 !=0 then b7 (Z2&&Qg (Z1+1) 24) (some (Z3,[Z4,some (Obj.var 34 (.bI Z5 (D.bI (D.vs 2 (Z1+1)) Z7))),some (Obj.vec b9.item true (dJ++[Item.mk 0 0 0]))]))else b7 (decide ((0:Int)<=1/\(1:Int)<=(b.length:Int))) (b7 (decide (Z8.length<=1000000000000)) (bif Z9.2 !=0 then b7 (Z2&&Qg (Z1+db.length) 24) (some (Z3,[Z4,some (Obj.var 34 (.bI Z5 (D.bI (D.vs 2 (Z1+db.length)) Z7))),some (Obj.vec b9.item true (dJ++db))]))else b7 (decide ((0:Int)<=3/\(3:Int)<=(Z8.length:Int))) (b7 (decide (dB.length<=1000000000000)) (bif Prod.snd (dT dB 0 1)!=0 then b7 (Z2&&Qg (Z1+eo.length) 24) (some (Z3,[Z4,some (Obj.var 34 (.bI Z5 (D.bI (D.vs 2 (Z1+eo.length)) Z7))),some (Obj.vec b9.item true (dJ++eo))]))else b7 (decide ((0:Int)<=1/\(1:Int)<=(dB.length:Int))) (b7 (Z2&&Qg (Z1+fa.length) 24) (some (Z3,[some (Obj.var 171 (.bI (D.sl b9.u8 c (List.drop 1 dB)) fM)),some (Obj.var 34 (.bI Z5 (D.bI (D.vs 2 (Z1+fa.length)) Z7))),some (Obj.vec b9.item true (dJ++fa))]))))))))else some ((X.exit 0,[]),[some (Obj.var 171 (.bI (D.sl b9.u8 c b) fM)),some (Obj.var 34 (.bI Z5 (D.bI (D.vs 2 Z1) Z7))),some (Obj.vec b9.item true dJ)])):=by kernel_rfl
def YD(c:Bool)(b:bL)(bad:Bool)(pl:Int)(dJ:bM)(c0 c1 c2 n:Int)(i:Nat):RT RC:=.leaf (.exit 0) [] [.var 171 (cL .u8 (Zl fm false (n.toNat-i) ⟨c,b,bad⟩).1.c (Zl fm false (n.toNat-i) ⟨c,b,bad⟩).1.b (.bI (.bool (Zl fm false (n.toNat-i) ⟨c,b,bad⟩).1.bad) .bN)),.var 34 (cH pl (.bI (.vs 2 (dJ++(Zl fm false (n.toNat-i) ⟨c,b,bad⟩).2).length) (.bI (cL .line true [] (cL .line true [] (cL .line true [] .bN))) (.bI (.arr (C:=RC) .int 3 [c0,c1,c2]) .bN)))),.vec (C:=RC) .item true (dJ++(Zl fm false (n.toNat-i) ⟨c,b,bad⟩).2)]
def Jb(c:Bool)(b:bL)(bad:Bool)(pl:Int)(dJ:bM)(c0 c1 c2 n:Int)(i:Nat):Prop:=(i:Int)<=n/\n<=255/\b.length<=1000000/\dJ.length<=i
def QR:QD RC Xz where
 k:=3
 cM q:=Ja q.c q.b q.bad q.pl q.dJ q.c0 q.c1 q.c2 q.n q.i
 cK q:=Yt q.c q.b q.bad q.pl q.dJ q.c0 q.c1 q.c2 q.n q.i
 fin q:=YD q.c q.b q.bad q.pl q.dJ q.c0 q.c1 q.c2 q.n q.i
 Inv q:=Jb q.c q.b q.bad q.pl q.dJ q.c0 q.c1 q.c2 q.n q.i
 μ q:=q.n.toNat-q.i
theorem Qh3 c b bad pl dJ c0 c1 c2 n i(hI:Jb c b bad pl dJ c0 c1 c2 n i):c8 (QjP c b bad pl dJ c0 c1 c2 n i) (dj QR ⟨c,b,bad,pl,dJ,c0,c1,c2,n,i⟩):=by
 (rw[QqJ];delta b7 cj c6;conv=>zeta)
 unfold Jb at hI;obtain⟨h1,h2,h3,h4⟩:=hI;have eb:∀n:Nat,n.beq n=true:=fun n=>by simp
 have z1:cY 1 ⟨true,[],true⟩=(0,⟨true,[],true⟩):=rfl;have z3:cY 3 ⟨true,[],true⟩=(0,⟨true,[],true⟩):=rfl
 by_cases cU:(i:Int)<n
 ·have cP:=eG i (by omega)
  have hn:n.toNat-i=(n.toNat-(i+1))+1:=by omega
  have s1:Qg (dJ.length+1) 24=true:=Zt (by omega);have e0:decide (b.length<=1000000000000)=true:=ab (by omega);have t1:Int.toNat 1=1:=rfl;have t3:Int.toNat 3=3:=rfl;simp only[cU,aM,ag,e0,Yr,YR,cP,aE,bH,aN,s1,eb,au,t1,t3]
  by_cases q0:(b).length<1
  ·have r0:cY 1 ⟨c,b,bad⟩=_:=Ze q0;simp only[q0,aM,ag];refine Qi ⟨true,[],true,pl,dJ++[⟨0,0,0⟩],c0,c1,c2,n,i+1⟩ (by refine⟨cU,h2,?_,?_⟩<;>simp<;>omega) (by simp only[QR];omega) ?_ (by simp[QR,Ja]) (by simp[QR,Yt]);simp only[QR,YD,hn,VE,r0,z1,z3,ay,aP,aH]
  have r0:cY 1 ⟨c,b,bad⟩=_:=Q3 (show 1<=(b).length by omega);have d0:decide ((0:Int)<=1/\(1:Int)<=(b).length)=true:=by simp only[aa];omega
  have e0:decide (((b).drop 1).length<=1000000000000)=true:=ab (by simp;omega);simp only[q0,aW,ah,d0,ag,e0,Zk q0]
  by_cases q1:((b).drop 1).length<3
  ·have r1:cY 3 ⟨c,(b).drop 1,bad⟩=_:=Ze q1;simp only[q1,aM,ag];refine Qi ⟨true,[],true,pl,dJ++[⟨(cI ((b).take 1):Int),0,0⟩],c0,c1,c2,n,i+1⟩ (by refine⟨cU,h2,?_,?_⟩<;>simp<;>omega) (by simp only[QR];omega) ?_ (by simp[QR,Ja]) (by simp[QR,Yt]);simp only[QR,YD,hn,VE,r0,r1,z1,z3,ay,aP,aH]
  have r1:cY 3 ⟨c,(b).drop 1,bad⟩=_:=Q3 (show 3<=((b).drop 1).length by omega);have d1:decide ((0:Int)<=3/\(3:Int)<=((b).drop 1).length)=true:=by simp only[aa];omega
  have e1:decide ((((b).drop 1).drop 3).length<=1000000000000)=true:=ab (by simp;omega);simp only[q1,aW,ah,d1,ag,e1,ZP q1]
  by_cases q2:(((b).drop 1).drop 3).length<1
  ·have r2:cY 1 ⟨c,((b).drop 1).drop 3,bad⟩=_:=Ze q2;simp only[q2,aM,ag];refine Qi ⟨true,[],true,pl,dJ++[⟨(cI ((b).take 1):Int),(cI (((b).drop 1).take 3):Int),0⟩],c0,c1,c2,n,i+1⟩ (by refine⟨cU,h2,?_,?_⟩<;>simp<;>omega) (by simp only[QR];omega) ?_ (by simp[QR,Ja]) (by simp[QR,Yt]);simp only[QR,YD,hn,VE,r0,r1,r2,z1,z3,ay,aP,aH]
  have r2:cY 1 ⟨c,((b).drop 1).drop 3,bad⟩=_:=Q3 (show 1<=(((b).drop 1).drop 3).length by omega);have d2:decide ((0:Int)<=1/\(1:Int)<=(((b).drop 1).drop 3).length)=true:=by simp only[aa];omega
  have e2:decide (((((b).drop 1).drop 3).drop 1).length<=1000000000000)=true:=ab (by simp;omega);simp only[q2,aW,ah,d2,ag,e2,Zk q2];refine Qi ⟨c,(((b).drop 1).drop 3).drop 1,bad,pl,dJ++[⟨(cI ((b).take 1):Int),(cI (((b).drop 1).take 3):Int),(cI ((((b).drop 1).drop 3).take 1):Int)⟩],c0,c1,c2,n,i+1⟩ (by refine⟨cU,h2,?_,?_⟩<;>simp<;>omega) (by simp only[QR];omega) ?_ (by simp[QR,Ja]) (by simp[QR,Yt]);simp only[QR,YD,hn,VE,r0,r1,r2,ay,aP,aH]
 ·have hi:n.toNat-i=0:=by omega
  simp only[cU,aW,ah];exact Qh (Yt c b bad pl dJ c0 c1 c2 n i) (by simp only[QR,YD,Yt,hi,Zl,RT.val,aR]) rfl
def NW(env:bX)(os:bP):Option (Bool×Xz):=match env,os with
 |[(4,.ptr 0 []),(5,.ptr 1 []),(20,.int .i64 n),(21,.int .i64 x0)],[.var 171 (.bI (.sl .u8 c b) (.bI (.bool bad) .bN)),.var 34 (.bI (.int .i64 pl) (.bI (.vs 2 x1) (.bI (.bI (.sl .line true []) (.bI (.sl .line true []) (.bI (.sl .line true []) .bN))) (.bI (.arr .int 3 [c0,c1,c2]) .bN)))),.vec .item true dJ]=>some (decide (x0=0)&&decide (x1=dJ.length)&&decide (0<=n/\n<=255/\b.length<=1000000/\dJ.length=0),⟨c,b,bad,pl,dJ,c0,c1,c2,n,0⟩)
 |_,_=>none
def A0:=AZ.cJ 88 4 (ey cu [.slot 4 0,.slot 5 0,.path 1 [1]] [4,5,20,21] QR NW)
theorem Qt5:Qk Tryz.prog cu A0:=by
 refine Qt4.cq Qb (by kernel_rfl) QR 40 [4,5,20,21] [] [.slot 4 0,.slot 5 0,.path 1 [1]] [4,5,20,21] NW (fun q hI=>?_) ?_
 ·obtain⟨c,b,bad,pl,dJ,c0,c1,c2,n,i⟩:=q;refine⟨?_,?_,Qh3 c b bad pl dJ c0 c1 c2 n i hI⟩
  ·simp_all[Qj,QR,Ja,Yt,Jb,D.refs,Obj.refs,cV]
  ·simp_all[QR,YD,Yt,Jb,RT.cT,Qj,D.refs,Obj.refs,cV]
 ·intro env os b q cN hb;unfold NW at cN
  split at cN
  ·cases cN;simp only[ai,aa]at hb;obtain⟨⟨rfl,rfl⟩,h⟩:=hb;exact⟨⟨by simpa using h.1,h.2.1,h.2.2.1,by simp[h.2.2.2]⟩,rfl,rfl⟩
  ·cases cN
structure XA where
 (c:Bool)(b:bL)(bad:Bool)(pl:Int)(dJ:bM)(l0 l1 l2:bJ)(c0 c1 c2 q first n:Int)(i:Nat)
def Zu(c:Bool)(b:bL)(bad:Bool)(pl:Int)(dJ:bM)(l0 l1 l2:bJ)(c0 c1 c2 q first n:Int)(i:Nat):bX:=[(4,.ptr 0 []),(5,.ptr 1 []),(7,.int .i64 q),(9,.int .i64 first),(66,.int .i64 n),(67,.int .i64 (i:Int))]
def Za(c:Bool)(b:bL)(bad:Bool)(pl:Int)(dJ:bM)(l0 l1 l2:bJ)(c0 c1 c2 q first n:Int)(i:Nat):bP:=[.var 171 (cL .u8 c b (.bI (.bool bad) .bN)),.var 34 (cH pl (.bI (.vs 2 (dJ.length)) (.bI (.bI (.vs 3 (l0.length)) (.bI (.vs 4 (l1.length)) (.bI (.vs 5 (l2.length)) .bN))) (.bI (.arr (C:=RC) .int 3 [c0,c1,c2]) .bN)))),.vec (C:=RC) .item true dJ,.vec (C:=RC) .line true l0,.vec (C:=RC) .line true l1,.vec (C:=RC) .line true l2]
def H0 c b bad pl dJ l0 l1 l2 c0 c1 c2 q first n i:=dQ cu A0 88 18 60 6 [4,5,7,9,66,67] [] [.slot 4 0,.slot 5 0,.path 1 [1],.path 1 [2,0],.path 1 [2,1],.path 1 [2,2]] (Zu c b bad pl dJ l0 l1 l2 c0 c1 c2 q first n i) (Za c b bad pl dJ l0 l1 l2 c0 c1 c2 q first n i)
theorem W7(c:Bool)(b:bL)(bad:Bool)(pl:Int)(dJ:bM)(l0 l1 l2:bJ)(c0 c1 c2 first n:Int)(i:Nat):H0 c b bad pl dJ l0 l1 l2 c0 c1 c2 0 first n i=(let Z0:Int:=(i:Int);let Z1:Int×Int:=dT b 0 3;let Z2:=l0.length;let Z3:=Nat.beq Z2 Z2;let Z4:=c6 (first+Z0);let Z5:bJ:=[cg.mk Z4 0 0 0 0];let Z6:X×bX:=(X.normal,[(4,D.ptr 0 []),(5,D.ptr 1 []),(7,cj 0),(9,cj first),(66,cj n),(67,cj (c6 (Z0+1)))]);let Z7:cf:=some (Obj.var 171 (.bI (D.sl b9.u8 true []) (.bI (D.bool true) .bN)));let Z8:bV:=cj pl;let Z9:bV:=D.vs 2 dJ.length;let db:bV:=D.bI (D.vs 4 l1.length) (.bI (D.vs 5 l2.length) .bN);let dB:bV:=D.bI (D.arr b9.int 3 [c0,c1,c2]) .bN;let eo:cf:=some (Obj.vec b9.item true dJ);let fa:cb:=[some (Obj.vec b9.line true l1),some (Obj.vec b9.line true l2)];let fM:=List.drop 3 b;let fz:bJ:=[cg.mk Z4 Z1.1 0 0 0];let fy:=List.drop 1 fM;let fR:=Prod.fst (dT fM 0 1);let eH:Int:=bits .i64 (fun(x:Nat) (u v:BitVec x)=>u&&&v) fR 15;let fW:=Int.fdiv fR 16;let gD:bJ:=[cg.mk Z4 Z1.1 eH fW 0];let iJ:bJ:=[cg.mk Z4 Z1.1 eH fW (dT fy 0 1).1];let gQ:bV:=D.bI (D.bool bad) .bN;bif decide (Z0<n)then b7 (decide (b.length<=1000000000000)) (bif Z1.2 !=0 then b7 (Z3&&Qg (Z2+Z5.length) 40) (some (Z6,Z7::some (Obj.var 34 (.bI Z8 (D.bI Z9 (D.bI (D.bI (D.vs 3 (Z2+Z5.length)) db) dB))))::eo::some (Obj.vec b9.line true (l0++Z5))::fa))else b7 (decide ((0:Int)<=3/\(3:Int)<=(b.length:Int))) (b7 (decide (fM.length<=1000000000000)) (bif Prod.snd (dT fM 0 1)!=0 then b7 (Z3&&Qg (Z2+fz.length) 40) (some (Z6,Z7::some (Obj.var 34 (.bI Z8 (D.bI Z9 (D.bI (D.bI (D.vs 3 (Z2+fz.length)) db) dB))))::eo::some (Obj.vec b9.line true (l0++fz))::fa))else b7 (decide ((0:Int)<=1/\(1:Int)<=(fM.length:Int))) (b7 (decide (fy.length<=1000000000000)) (bif Prod.snd (dT fy 0 1)!=0 then b7 (Z3&&Qg (Z2+gD.length) 40) (some (Z6,Z7::some (Obj.var 34 (.bI Z8 (D.bI Z9 (D.bI (D.bI (D.vs 3 (Z2+gD.length)) db) dB))))::eo::some (Obj.vec b9.line true (l0++gD))::fa))else b7 (decide ((0:Int)<=1/\(1:Int)<=(fy.length:Int))) (b7 (Z3&&Qg (Z2+iJ.length) 40) (some (Z6,some (Obj.var 171 (.bI (D.sl b9.u8 c (List.drop 1 fy)) gQ))::some (Obj.var 34 (.bI Z8 (D.bI Z9 (D.bI (D.bI (D.vs 3 (Z2+iJ.length)) db) dB))))::eo::some (Obj.vec b9.line true (l0++iJ))::fa))))))))else some ((X.exit 4,[]),some (Obj.var 171 (.bI (D.sl b9.u8 c b) gQ))::some (Obj.var 34 (.bI Z8 (D.bI Z9 (D.bI (D.bI (D.vs 3 Z2) db) dB))))::eo::some (Obj.vec b9.line true l0)::fa)):=by kernel_rfl
theorem W8(c:Bool)(b:bL)(bad:Bool)(pl:Int)(dJ:bM)(l0 l1 l2:bJ)(c0 c1 c2 first n:Int)(i:Nat):H0 c b bad pl dJ l0 l1 l2 c0 c1 c2 1 first n i=(let Z0:Int:=(i:Int);let Z1:Int×Int:=dT b 0 3;let Z2:=l1.length;let Z3:=Nat.beq Z2 Z2;let Z4:=c6 (first+Z0);let Z5:bJ:=[cg.mk Z4 0 0 0 0];let Z6:X×bX:=(X.normal,[(4,D.ptr 0 []),(5,D.ptr 1 []),(7,cj 1),(9,cj first),(66,cj n),(67,cj (c6 (Z0+1)))]);let Z7:cf:=some (Obj.var 171 (.bI (D.sl b9.u8 true []) (.bI (D.bool true) .bN)));let Z8:bV:=cj pl;let Z9:bV:=D.vs 2 dJ.length;let db:bV:=D.vs 3 l0.length;let dB:bV:=D.bI (D.vs 5 l2.length) .bN;let eo:bV:=D.bI (D.arr b9.int 3 [c0,c1,c2]) .bN;let fa:cf:=some (Obj.vec b9.item true dJ);let fM:cf:=some (Obj.vec b9.line true l0);let fz:cb:=[some (Obj.vec b9.line true l2)];let fy:=List.drop 3 b;let fR:bJ:=[cg.mk Z4 Z1.1 0 0 0];let eH:=List.drop 1 fy;let fW:=Prod.fst (dT fy 0 1);let gD:Int:=bits .i64 (fun(x:Nat) (u v:BitVec x)=>u&&&v) fW 15;let iJ:=Int.fdiv fW 16;let gQ:bJ:=[cg.mk Z4 Z1.1 gD iJ 0];let iY:bJ:=[cg.mk Z4 Z1.1 gD iJ (dT eH 0 1).1];let im:bV:=D.bI (D.bool bad) .bN;bif decide (Z0<n)then b7 (decide (b.length<=1000000000000)) (bif Z1.2 !=0 then b7 (Z3&&Qg (Z2+Z5.length) 40) (some (Z6,Z7::some (Obj.var 34 (.bI Z8 (D.bI Z9 (D.bI (D.bI db (D.bI (D.vs 4 (Z2+Z5.length)) dB)) eo))))::fa::fM::some (Obj.vec b9.line true (l1++Z5))::fz))else b7 (decide ((0:Int)<=3/\(3:Int)<=(b.length:Int))) (b7 (decide (fy.length<=1000000000000)) (bif Prod.snd (dT fy 0 1)!=0 then b7 (Z3&&Qg (Z2+fR.length) 40) (some (Z6,Z7::some (Obj.var 34 (.bI Z8 (D.bI Z9 (D.bI (D.bI db (D.bI (D.vs 4 (Z2+fR.length)) dB)) eo))))::fa::fM::some (Obj.vec b9.line true (l1++fR))::fz))else b7 (decide ((0:Int)<=1/\(1:Int)<=(fy.length:Int))) (b7 (decide (eH.length<=1000000000000)) (bif Prod.snd (dT eH 0 1)!=0 then b7 (Z3&&Qg (Z2+gQ.length) 40) (some (Z6,Z7::some (Obj.var 34 (.bI Z8 (D.bI Z9 (D.bI (D.bI db (D.bI (D.vs 4 (Z2+gQ.length)) dB)) eo))))::fa::fM::some (Obj.vec b9.line true (l1++gQ))::fz))else b7 (decide ((0:Int)<=1/\(1:Int)<=(eH.length:Int))) (b7 (Z3&&Qg (Z2+iY.length) 40) (some (Z6,some (Obj.var 171 (.bI (D.sl b9.u8 c (List.drop 1 eH)) im))::some (Obj.var 34 (.bI Z8 (D.bI Z9 (D.bI (D.bI db (D.bI (D.vs 4 (Z2+iY.length)) dB)) eo))))::fa::fM::some (Obj.vec b9.line true (l1++iY))::fz))))))))else some ((X.exit 4,[]),some (Obj.var 171 (.bI (D.sl b9.u8 c b) im))::some (Obj.var 34 (.bI Z8 (D.bI Z9 (D.bI (D.bI db (D.bI (D.vs 4 Z2) dB)) eo))))::fa::fM::some (Obj.vec b9.line true l1)::fz)):=by kernel_rfl
theorem WV(c:Bool)(b:bL)(bad:Bool)(pl:Int)(dJ:bM)(l0 l1 l2:bJ)(c0 c1 c2 first n:Int)(i:Nat):H0 c b bad pl dJ l0 l1 l2 c0 c1 c2 2 first n i=(let Z0:Int:=(i:Int);let Z1:Int×Int:=dT b 0 3;let Z2:=l2.length;let Z3:=Nat.beq Z2 Z2;let Z4:=c6 (first+Z0);let Z5:bJ:=[cg.mk Z4 0 0 0 0];let Z6:X×bX:=(X.normal,[(4,D.ptr 0 []),(5,D.ptr 1 []),(7,cj 2),(9,cj first),(66,cj n),(67,cj (c6 (Z0+1)))]);let Z7:bV:=.bN;let Z8:cf:=some (Obj.var 171 (.bI (D.sl b9.u8 true []) (.bI (D.bool true) Z7)));let Z9:bV:=cj pl;let db:bV:=D.vs 2 dJ.length;let dB:bV:=D.vs 3 l0.length;let eo:bV:=D.vs 4 l1.length;let fa:bV:=D.bI (D.arr b9.int 3 [c0,c1,c2]) Z7;let fM:cf:=some (Obj.vec b9.item true dJ);let fz:cf:=some (Obj.vec b9.line true l0);let fy:cf:=some (Obj.vec b9.line true l1);let fR:=List.drop 3 b;let eH:bJ:=[cg.mk Z4 Z1.1 0 0 0];let fW:=List.drop 1 fR;let gD:=Prod.fst (dT fR 0 1);let iJ:Int:=bits .i64 (fun(x:Nat) (u v:BitVec x)=>u&&&v) gD 15;let gQ:=Int.fdiv gD 16;let iY:bJ:=[cg.mk Z4 Z1.1 iJ gQ 0];let im:bJ:=[cg.mk Z4 Z1.1 iJ gQ (dT fW 0 1).1];bif decide (Z0<n)then b7 (decide (b.length<=1000000000000)) (bif Z1.2 !=0 then b7 (Z3&&Qg (Z2+Z5.length) 40) (some (Z6,[Z8,some (Obj.var 34 (.bI Z9 (D.bI db (D.bI (D.bI dB (D.bI eo (D.bI (D.vs 5 (Z2+Z5.length)) Z7))) fa)))),fM,fz,fy,some (Obj.vec b9.line true (l2++Z5))]))else b7 (decide ((0:Int)<=3/\(3:Int)<=(b.length:Int))) (b7 (decide (fR.length<=1000000000000)) (bif Prod.snd (dT fR 0 1)!=0 then b7 (Z3&&Qg (Z2+eH.length) 40) (some (Z6,[Z8,some (Obj.var 34 (.bI Z9 (D.bI db (D.bI (D.bI dB (D.bI eo (D.bI (D.vs 5 (Z2+eH.length)) Z7))) fa)))),fM,fz,fy,some (Obj.vec b9.line true (l2++eH))]))else b7 (decide ((0:Int)<=1/\(1:Int)<=(fR.length:Int))) (b7 (decide (fW.length<=1000000000000)) (bif Prod.snd (dT fW 0 1)!=0 then b7 (Z3&&Qg (Z2+iY.length) 40) (some (Z6,[Z8,some (Obj.var 34 (.bI Z9 (D.bI db (D.bI (D.bI dB (D.bI eo (D.bI (D.vs 5 (Z2+iY.length)) Z7))) fa)))),fM,fz,fy,some (Obj.vec b9.line true (l2++iY))]))else b7 (decide ((0:Int)<=1/\(1:Int)<=(fW.length:Int))) (b7 (Z3&&Qg (Z2+im.length) 40) (some (Z6,[some (Obj.var 171 (.bI (D.sl b9.u8 c (List.drop 1 fW)) (.bI (D.bool bad) Z7))),some (Obj.var 34 (.bI Z9 (D.bI db (D.bI (D.bI dB (D.bI eo (D.bI (D.vs 5 (Z2+im.length)) Z7))) fa)))),fM,fz,fy,some (Obj.vec b9.line true (l2++im))]))))))))else some ((X.exit 4,[]),[some (Obj.var 171 (.bI (D.sl b9.u8 c b) (.bI (D.bool bad) Z7))),some (Obj.var 34 (.bI Z9 (D.bI db (D.bI (D.bI dB (D.bI eo (D.bI (D.vs 5 Z2) Z7))) fa)))),fM,fz,fy,some (Obj.vec b9.line true l2)])):=by kernel_rfl
def QY(c:Bool)(b:bL)(bad:Bool)(pl:Int)(dJ:bM)(l0 l1 l2:bJ)(c0 c1 c2 q first n:Int)(i:Nat):RT RC:=.leaf (.exit 4) [] [.var 171 (cL .u8 (QT fm false (n.toNat-i) (first+i) ⟨c,b,bad⟩).1.c (QT fm false (n.toNat-i) (first+i) ⟨c,b,bad⟩).1.b (.bI (.bool (QT fm false (n.toNat-i) (first+i) ⟨c,b,bad⟩).1.bad) .bN)),.var 34 (cH pl (.bI (.vs 2 dJ.length) (.bI (.bI (.vs 3 (dA q 0 l0 (QT fm false (n.toNat-i) (first+i) ⟨c,b,bad⟩).2).length) (.bI (.vs 4 (dA q 1 l1 (QT fm false (n.toNat-i) (first+i) ⟨c,b,bad⟩).2).length) (.bI (.vs 5 (dA q 2 l2 (QT fm false (n.toNat-i) (first+i) ⟨c,b,bad⟩).2).length) .bN))) (.bI (.arr (C:=RC) .int 3 [c0,c1,c2]) .bN)))),.vec (C:=RC) .item true dJ,.vec (C:=RC) .line true (dA q 0 l0 (QT fm false (n.toNat-i) (first+i) ⟨c,b,bad⟩).2),.vec (C:=RC) .line true (dA q 1 l1 (QT fm false (n.toNat-i) (first+i) ⟨c,b,bad⟩).2),.vec (C:=RC) .line true (dA q 2 l2 (QT fm false (n.toNat-i) (first+i) ⟨c,b,bad⟩).2)]
def Jc(c:Bool)(b:bL)(bad:Bool)(pl:Int)(dJ:bM)(l0 l1 l2:bJ)(c0 c1 c2 q first n:Int)(i:Nat):Prop:=(i:Int)<=n/\n<=255/\b.length<=1000000/\l0.length<=1000+i/\l1.length<=1000+i/\l2.length<=1000+i/\(0<=q/\q<=2)/\(0<=first/\first<=16777215)
def Qr:QD RC XA where
 k:=6
 cM q:=Zu q.c q.b q.bad q.pl q.dJ q.l0 q.l1 q.l2 q.c0 q.c1 q.c2 q.q q.first q.n q.i
 cK q:=Za q.c q.b q.bad q.pl q.dJ q.l0 q.l1 q.l2 q.c0 q.c1 q.c2 q.q q.first q.n q.i
 fin q:=QY q.c q.b q.bad q.pl q.dJ q.l0 q.l1 q.l2 q.c0 q.c1 q.c2 q.q q.first q.n q.i
 Inv q:=Jc q.c q.b q.bad q.pl q.dJ q.l0 q.l1 q.l2 q.c0 q.c1 q.c2 q.q q.first q.n q.i
 μ q:=q.n.toNat-q.i
theorem Qh4 c b bad pl dJ l0 l1 l2 c0 c1 c2 q first n i(hI:Jc c b bad pl dJ l0 l1 l2 c0 c1 c2 q first n i):c8 (H0 c b bad pl dJ l0 l1 l2 c0 c1 c2 q first n i) (dj Qr ⟨c,b,bad,pl,dJ,l0,l1,l2,c0,c1,c2,q,first,n,i⟩):=by
 unfold Jc at hI;obtain⟨h1,h2,h3,h4,h5,h6,h7,h8⟩:=hI;have eb:∀n:Nat,n.beq n=true:=fun n=>by simp
 have z1:cY 1 ⟨true,[],true⟩=(0,⟨true,[],true⟩):=rfl;have z3:cY 3 ⟨true,[],true⟩=(0,⟨true,[],true⟩):=rfl
 by_cases cU:(i:Int)<n
 ·have cP:=eG i (by omega)
  have Tz:IntKind.i64.wrap (first+(i:Int))=first+(i:Int):=cC (by omega) (by omega)
  have hn:n.toNat-i=(n.toNat-(i+1))+1:=by omega
  have oI:first+((i+1:Nat):Int)=first+(i:Int)+1:=by omega
  have m0:(0:Int)%16=0/\(0:Int)/16=0:=⟨rfl,rfl⟩;have s0:Qg (l0.length+1) 40=true:=Zt (by omega);have s1:Qg (l1.length+1) 40=true:=Zt (by omega);have s2:Qg (l2.length+1) 40=true:=Zt (by omega);have kV:¬(0:Int)=1:=by omega
  have kW:¬(0:Int)=2:=by omega
  have kX:¬(1:Int)=0:=by omega
  have kY:¬(1:Int)=2:=by omega
  have kZ:¬(2:Int)=0:=by omega
  have k8:¬(2:Int)=1:=by omega
  have e0:decide (b.length<=1000000000000)=true:=ab (by omega);have t1:Int.toNat 1=1:=rfl;have t3:Int.toNat 3=3:=rfl;obtain vA|vA|vA:q=0\/q=1\/q=2:=by omega
  ·subst vA
   (rw[W7];delta b7 cj c6;conv=>zeta)
   simp only[cU,aM,ag,e0,Yr,YR,cP,Tz,aE,bH,aN,s0,s1,s2,eb,au,t1,t3]
   by_cases q0:(b).length<3
   ·have r0:cY 3 ⟨c,b,bad⟩=_:=Ze q0;simp only[q0,aM,ag];refine Qi ⟨true,[],true,pl,dJ,l0++[⟨first+i,0,0,0,0⟩],l1,l2,c0,c1,c2,0,first,n,i+1⟩ (by refine⟨cU,h2,?_,?_,?_,?_,?_,h8⟩<;>simp<;>omega) (by simp only[Qr];omega) ?_ (by simp[Qr,Zu]) (by simp[Qr,Za]);simp only[Qr,QY,hn,Q0,r0,z1,z3,dA,oI,m0,aU,aL,ay,aP,aH,kV,kW,kX,kY,kZ,k8]
   have r0:cY 3 ⟨c,b,bad⟩=_:=Q3 (show 3<=(b).length by omega);have d0:decide ((0:Int)<=3/\(3:Int)<=(b).length)=true:=by simp only[aa];omega
   have e0:decide (((b).drop 3).length<=1000000000000)=true:=ab (by simp;omega);simp only[q0,aW,ah,d0,ag,e0,ZP q0]
   by_cases q1:((b).drop 3).length<1
   ·have r1:cY 1 ⟨c,(b).drop 3,bad⟩=_:=Ze q1;simp only[q1,aM,ag];refine Qi ⟨true,[],true,pl,dJ,l0++[⟨first+i,(cI ((b).take 3):Int),0,0,0⟩],l1,l2,c0,c1,c2,0,first,n,i+1⟩ (by refine⟨cU,h2,?_,?_,?_,?_,?_,h8⟩<;>simp<;>omega) (by simp only[Qr];omega) ?_ (by simp[Qr,Zu]) (by simp[Qr,Za]);simp only[Qr,QY,hn,Q0,r0,r1,z1,z3,dA,oI,m0,aU,aL,ay,aP,aH,kV,kW,kX,kY,kZ,k8]
   have fN:cI (((b).drop 3).take 1)<256:=by rw[YC (by omega)];exact UInt8.toNat_lt _
   have FA:=MP (cI (((b).drop 3).take 1)) (by omega);have f16:(cI (((b).drop 3).take 1):Int).fdiv 16=(cI (((b).drop 3).take 1):Int)/16:=aQ _ (by omega);have r1:cY 1 ⟨c,(b).drop 3,bad⟩=_:=Q3 (show 1<=((b).drop 3).length by omega);have d1:decide ((0:Int)<=1/\(1:Int)<=((b).drop 3).length)=true:=by simp only[aa];omega
   have e1:decide ((((b).drop 3).drop 1).length<=1000000000000)=true:=ab (by simp;omega);simp only[q1,aW,ah,d1,ag,e1,Zk q1,FA,f16]
   by_cases q2:(((b).drop 3).drop 1).length<1
   ·have r2:cY 1 ⟨c,((b).drop 3).drop 1,bad⟩=_:=Ze q2;simp only[q2,aM,ag];refine Qi ⟨true,[],true,pl,dJ,l0++[⟨first+i,(cI ((b).take 3):Int),(cI (((b).drop 3).take 1):Int)%16,(cI (((b).drop 3).take 1):Int)/16,0⟩],l1,l2,c0,c1,c2,0,first,n,i+1⟩ (by refine⟨cU,h2,?_,?_,?_,?_,?_,h8⟩<;>simp<;>omega) (by simp only[Qr];omega) ?_ (by simp[Qr,Zu]) (by simp[Qr,Za]);simp only[Qr,QY,hn,Q0,r0,r1,r2,z1,z3,dA,oI,m0,aU,aL,ay,aP,aH,kV,kW,kX,kY,kZ,k8]
   have r2:cY 1 ⟨c,((b).drop 3).drop 1,bad⟩=_:=Q3 (show 1<=(((b).drop 3).drop 1).length by omega);have d2:decide ((0:Int)<=1/\(1:Int)<=(((b).drop 3).drop 1).length)=true:=by simp only[aa];omega
   have e2:decide (((((b).drop 3).drop 1).drop 1).length<=1000000000000)=true:=ab (by simp;omega);simp only[q2,aW,ah,d2,ag,e2,Zk q2];refine Qi ⟨c,(((b).drop 3).drop 1).drop 1,bad,pl,dJ,l0++[⟨first+i,(cI ((b).take 3):Int),(cI (((b).drop 3).take 1):Int)%16,(cI (((b).drop 3).take 1):Int)/16,(cI ((((b).drop 3).drop 1).take 1):Int)⟩],l1,l2,c0,c1,c2,0,first,n,i+1⟩ (by refine⟨cU,h2,?_,?_,?_,?_,?_,h8⟩<;>simp<;>omega) (by simp only[Qr];omega) ?_ (by simp[Qr,Zu]) (by simp[Qr,Za]);simp only[Qr,QY,hn,Q0,r0,r1,r2,dA,oI,m0,aU,aL,ay,aP,aH,kV,kW,kX,kY,kZ,k8]
  ·subst vA
   (rw[W8];delta b7 cj c6;conv=>zeta)
   simp only[cU,aM,ag,e0,Yr,YR,cP,Tz,aE,bH,aN,s0,s1,s2,eb,au,t1,t3]
   by_cases q0:(b).length<3
   ·have r0:cY 3 ⟨c,b,bad⟩=_:=Ze q0;simp only[q0,aM,ag];refine Qi ⟨true,[],true,pl,dJ,l0,l1++[⟨first+i,0,0,0,0⟩],l2,c0,c1,c2,1,first,n,i+1⟩ (by refine⟨cU,h2,?_,?_,?_,?_,?_,h8⟩<;>simp<;>omega) (by simp only[Qr];omega) ?_ (by simp[Qr,Zu]) (by simp[Qr,Za]);simp only[Qr,QY,hn,Q0,r0,z1,z3,dA,oI,m0,aU,aL,ay,aP,aH,kV,kW,kX,kY,kZ,k8]
   have r0:cY 3 ⟨c,b,bad⟩=_:=Q3 (show 3<=(b).length by omega);have d0:decide ((0:Int)<=3/\(3:Int)<=(b).length)=true:=by simp only[aa];omega
   have e0:decide (((b).drop 3).length<=1000000000000)=true:=ab (by simp;omega);simp only[q0,aW,ah,d0,ag,e0,ZP q0]
   by_cases q1:((b).drop 3).length<1
   ·have r1:cY 1 ⟨c,(b).drop 3,bad⟩=_:=Ze q1;simp only[q1,aM,ag];refine Qi ⟨true,[],true,pl,dJ,l0,l1++[⟨first+i,(cI ((b).take 3):Int),0,0,0⟩],l2,c0,c1,c2,1,first,n,i+1⟩ (by refine⟨cU,h2,?_,?_,?_,?_,?_,h8⟩<;>simp<;>omega) (by simp only[Qr];omega) ?_ (by simp[Qr,Zu]) (by simp[Qr,Za]);simp only[Qr,QY,hn,Q0,r0,r1,z1,z3,dA,oI,m0,aU,aL,ay,aP,aH,kV,kW,kX,kY,kZ,k8]
   have fN:cI (((b).drop 3).take 1)<256:=by rw[YC (by omega)];exact UInt8.toNat_lt _
   have FA:=MP (cI (((b).drop 3).take 1)) (by omega);have f16:(cI (((b).drop 3).take 1):Int).fdiv 16=(cI (((b).drop 3).take 1):Int)/16:=aQ _ (by omega);have r1:cY 1 ⟨c,(b).drop 3,bad⟩=_:=Q3 (show 1<=((b).drop 3).length by omega);have d1:decide ((0:Int)<=1/\(1:Int)<=((b).drop 3).length)=true:=by simp only[aa];omega
   have e1:decide ((((b).drop 3).drop 1).length<=1000000000000)=true:=ab (by simp;omega);simp only[q1,aW,ah,d1,ag,e1,Zk q1,FA,f16]
   by_cases q2:(((b).drop 3).drop 1).length<1
   ·have r2:cY 1 ⟨c,((b).drop 3).drop 1,bad⟩=_:=Ze q2;simp only[q2,aM,ag];refine Qi ⟨true,[],true,pl,dJ,l0,l1++[⟨first+i,(cI ((b).take 3):Int),(cI (((b).drop 3).take 1):Int)%16,(cI (((b).drop 3).take 1):Int)/16,0⟩],l2,c0,c1,c2,1,first,n,i+1⟩ (by refine⟨cU,h2,?_,?_,?_,?_,?_,h8⟩<;>simp<;>omega) (by simp only[Qr];omega) ?_ (by simp[Qr,Zu]) (by simp[Qr,Za]);simp only[Qr,QY,hn,Q0,r0,r1,r2,z1,z3,dA,oI,m0,aU,aL,ay,aP,aH,kV,kW,kX,kY,kZ,k8]
   have r2:cY 1 ⟨c,((b).drop 3).drop 1,bad⟩=_:=Q3 (show 1<=(((b).drop 3).drop 1).length by omega);have d2:decide ((0:Int)<=1/\(1:Int)<=(((b).drop 3).drop 1).length)=true:=by simp only[aa];omega
   have e2:decide (((((b).drop 3).drop 1).drop 1).length<=1000000000000)=true:=ab (by simp;omega);simp only[q2,aW,ah,d2,ag,e2,Zk q2];refine Qi ⟨c,(((b).drop 3).drop 1).drop 1,bad,pl,dJ,l0,l1++[⟨first+i,(cI ((b).take 3):Int),(cI (((b).drop 3).take 1):Int)%16,(cI (((b).drop 3).take 1):Int)/16,(cI ((((b).drop 3).drop 1).take 1):Int)⟩],l2,c0,c1,c2,1,first,n,i+1⟩ (by refine⟨cU,h2,?_,?_,?_,?_,?_,h8⟩<;>simp<;>omega) (by simp only[Qr];omega) ?_ (by simp[Qr,Zu]) (by simp[Qr,Za]);simp only[Qr,QY,hn,Q0,r0,r1,r2,dA,oI,m0,aU,aL,ay,aP,aH,kV,kW,kX,kY,kZ,k8]
  ·subst vA
   (rw[WV];delta b7 cj c6;conv=>zeta)
   simp only[cU,aM,ag,e0,Yr,YR,cP,Tz,aE,bH,aN,s0,s1,s2,eb,au,t1,t3]
   by_cases q0:(b).length<3
   ·have r0:cY 3 ⟨c,b,bad⟩=_:=Ze q0;simp only[q0,aM,ag];refine Qi ⟨true,[],true,pl,dJ,l0,l1,l2++[⟨first+i,0,0,0,0⟩],c0,c1,c2,2,first,n,i+1⟩ (by refine⟨cU,h2,?_,?_,?_,?_,?_,h8⟩<;>simp<;>omega) (by simp only[Qr];omega) ?_ (by simp[Qr,Zu]) (by simp[Qr,Za]);simp only[Qr,QY,hn,Q0,r0,z1,z3,dA,oI,m0,aU,aL,ay,aP,aH,kV,kW,kX,kY,kZ,k8]
   have r0:cY 3 ⟨c,b,bad⟩=_:=Q3 (show 3<=(b).length by omega);have d0:decide ((0:Int)<=3/\(3:Int)<=(b).length)=true:=by simp only[aa];omega
   have e0:decide (((b).drop 3).length<=1000000000000)=true:=ab (by simp;omega);simp only[q0,aW,ah,d0,ag,e0,ZP q0]
   by_cases q1:((b).drop 3).length<1
   ·have r1:cY 1 ⟨c,(b).drop 3,bad⟩=_:=Ze q1;simp only[q1,aM,ag];refine Qi ⟨true,[],true,pl,dJ,l0,l1,l2++[⟨first+i,(cI ((b).take 3):Int),0,0,0⟩],c0,c1,c2,2,first,n,i+1⟩ (by refine⟨cU,h2,?_,?_,?_,?_,?_,h8⟩<;>simp<;>omega) (by simp only[Qr];omega) ?_ (by simp[Qr,Zu]) (by simp[Qr,Za]);simp only[Qr,QY,hn,Q0,r0,r1,z1,z3,dA,oI,m0,aU,aL,ay,aP,aH,kV,kW,kX,kY,kZ,k8]
   have fN:cI (((b).drop 3).take 1)<256:=by rw[YC (by omega)];exact UInt8.toNat_lt _
   have FA:=MP (cI (((b).drop 3).take 1)) (by omega);have f16:(cI (((b).drop 3).take 1):Int).fdiv 16=(cI (((b).drop 3).take 1):Int)/16:=aQ _ (by omega);have r1:cY 1 ⟨c,(b).drop 3,bad⟩=_:=Q3 (show 1<=((b).drop 3).length by omega);have d1:decide ((0:Int)<=1/\(1:Int)<=((b).drop 3).length)=true:=by simp only[aa];omega
   have e1:decide ((((b).drop 3).drop 1).length<=1000000000000)=true:=ab (by simp;omega);simp only[q1,aW,ah,d1,ag,e1,Zk q1,FA,f16]
   by_cases q2:(((b).drop 3).drop 1).length<1
   ·have r2:cY 1 ⟨c,((b).drop 3).drop 1,bad⟩=_:=Ze q2;simp only[q2,aM,ag];refine Qi ⟨true,[],true,pl,dJ,l0,l1,l2++[⟨first+i,(cI ((b).take 3):Int),(cI (((b).drop 3).take 1):Int)%16,(cI (((b).drop 3).take 1):Int)/16,0⟩],c0,c1,c2,2,first,n,i+1⟩ (by refine⟨cU,h2,?_,?_,?_,?_,?_,h8⟩<;>simp<;>omega) (by simp only[Qr];omega) ?_ (by simp[Qr,Zu]) (by simp[Qr,Za]);simp only[Qr,QY,hn,Q0,r0,r1,r2,z1,z3,dA,oI,m0,aU,aL,ay,aP,aH,kV,kW,kX,kY,kZ,k8]
   have r2:cY 1 ⟨c,((b).drop 3).drop 1,bad⟩=_:=Q3 (show 1<=(((b).drop 3).drop 1).length by omega);have d2:decide ((0:Int)<=1/\(1:Int)<=(((b).drop 3).drop 1).length)=true:=by simp only[aa];omega
   have e2:decide (((((b).drop 3).drop 1).drop 1).length<=1000000000000)=true:=ab (by simp;omega);simp only[q2,aW,ah,d2,ag,e2,Zk q2];refine Qi ⟨c,(((b).drop 3).drop 1).drop 1,bad,pl,dJ,l0,l1,l2++[⟨first+i,(cI ((b).take 3):Int),(cI (((b).drop 3).take 1):Int)%16,(cI (((b).drop 3).take 1):Int)/16,(cI ((((b).drop 3).drop 1).take 1):Int)⟩],c0,c1,c2,2,first,n,i+1⟩ (by refine⟨cU,h2,?_,?_,?_,?_,?_,h8⟩<;>simp<;>omega) (by simp only[Qr];omega) ?_ (by simp[Qr,Zu]) (by simp[Qr,Za]);simp only[Qr,QY,hn,Q0,r0,r1,r2,dA,oI,m0,aU,aL,ay,aP,aH,kV,kW,kX,kY,kZ,k8]
 ·have hi:n.toNat-i=0:=by omega
  obtain vA|vA|vA:q=0\/q=1\/q=2:=by omega
  all_goals
   subst vA
   first|(rw[W7];delta b7 cj c6;conv=>zeta)|(rw[W8];delta b7 cj c6;conv=>zeta)|(rw[WV];delta b7 cj c6;conv=>zeta)
   simp only[cU,aW,ah];exact Qh (Za c b bad pl dJ l0 l1 l2 c0 c1 c2 0 first n i) (by simp[Qr,QY,Za,hi,QT,dA,RT.val]) rfl
def NK(env:bX)(os:bP):Option (Bool×XA):=match env,os with
 |[(4,.ptr 0 []),(5,.ptr 1 []),(7,.int .i64 q),(9,.int .i64 first),(66,.int .i64 n),(67,.int .i64 x0)],[.var 171 (.bI (.sl .u8 c b) (.bI (.bool bad) .bN)),.var 34 (.bI (.int .i64 pl) (.bI (.vs 2 x1) (.bI (.bI (.vs 3 x2) (.bI (.vs 4 x3) (.bI (.vs 5 x4) .bN))) (.bI (.arr .int 3 [c0,c1,c2]) .bN)))),.vec .item true dJ,.vec .line true l0,.vec .line true l1,.vec .line true l2]=>some (decide (x0=0)&&decide (x1=dJ.length)&&decide (x2=l0.length)&&decide (x3=l1.length)&&decide (x4=l2.length)&&decide (0<=n/\n<=255/\b.length<=1000000/\(l0.length<=1000/\l1.length<=1000/\l2.length<=1000)/\(0<=q/\q<=2)/\(0<=first/\first<=16777215)),⟨c,b,bad,pl,dJ,l0,l1,l2,c0,c1,c2,q,first,n,0⟩)
 |_,_=>none
def A1:=A0.cJ 88 18 (ey cu [.slot 4 0,.slot 5 0,.path 1 [1],.path 1 [2,0],.path 1 [2,1],.path 1 [2,2]] [4,5,7,9,66,67] Qr NK)
theorem Qt6:Qk Tryz.prog cu A1:=by
 refine Qt5.cq Qb (by kernel_rfl) Qr 60 [4,5,7,9,66,67] [] [.slot 4 0,.slot 5 0,.path 1 [1],.path 1 [2,0],.path 1 [2,1],.path 1 [2,2]] [4,5,7,9,66,67] NK (fun q hI=>?_) ?_
 ·obtain⟨c,b,bad,pl,dJ,l0,l1,l2,c0,c1,c2,q,first,n,i⟩:=q;refine⟨?_,?_,Qh4 c b bad pl dJ l0 l1 l2 c0 c1 c2 q first n i hI⟩
  ·simp_all[Qj,Qr,Zu,Za,Jc,D.refs,Obj.refs,cV]
  ·simp_all[Qr,QY,Za,Jc,RT.cT,Qj,D.refs,Obj.refs,cV]
 ·intro env os b q cN hb;unfold NK at cN
  split at cN
  ·cases cN;simp only[ai,aa]at hb;obtain⟨⟨⟨⟨⟨rfl,rfl⟩,rfl⟩,rfl⟩,rfl⟩,hq⟩:=hb;exact⟨⟨by simpa using hq.1,hq.2.1,hq.2.2.1,by simpa using hq.2.2.2.1.1,by simpa using hq.2.2.2.1.2.1,by simpa using hq.2.2.2.1.2.2,hq.2.2.2.2.1,hq.2.2.2.2.2⟩,rfl,rfl⟩
  ·cases cN
theorem Ju(b:bL)(w:Nat):cI (b.take w)<256^w :=
 bj (Ot _) (Nat.pow_le_pow_right (by omega) (by simp;omega))
theorem QAO(w:Nat)(r:Rd):0<=(cY w r).1/\(cY w r).1<((256^w:Nat):Int):=by
 unfold cY
 split
 ·have:=Ju r.b w;exact⟨Int.natCast_nonneg _,Int.ofNat_lt.2 this⟩
 ·have:0<256^w:=Nat.pow_pos (by omega);exact⟨Int.le_refl _,Int.ofNat_lt.2 this⟩
theorem Qt7(r:Rd):0<=(cY 1 r).1/\(cY 1 r).1<=255:=by have:=QAO 1 r;simp at this;omega
theorem YS(w:Nat)(r:Rd):(cY w r).2.b.length<=r.b.length:=by
 unfold cY;split<;>simp
theorem WW:∀(n:Nat) (o:Int) (r:Rd),(QT fm false n o r).1.b.length<=r.b.length
 |0,_,_=>aq _
 |n+1,o,r=>by
  rw[Q0];exact bk (WW n _ _) (bk (YS _ _) (bk (YS _ _) (YS _ _)))
theorem WX:∀(n:Nat) (r:Rd),(Zl fm false n r).1.b.length<=r.b.length
 |0,_=>aq _
 |n+1,r=>by
  rw[VE];exact bk (WX n _) (bk (YS _ _) (bk (YS _ _) (YS _ _)))
theorem XB{σ:Type}(R:uE σ)(stop:Bool):∀(n:Nat) (s:σ),(Zl R stop n s).2.length<=n
 |0,_=>aq _
 |n+1,s=>by
  simp only[Zl];cases stop&&R.bad s with
  |true=>simp
  |false=>have:=XB R stop n (R.get 1 (R.get 3 (R.get 1 s).2).2).2;simp;omega
theorem Hw(r:Rd):(VD fm false ZC r).1.b.length<=r.b.length:=by
 unfold VD;refine bk (WW _ _ _) ?_;have h:(cY 3 (cY 1 (cY 3 r).2).2).2.b.length<=r.b.length:=bk (YS _ _) (bk (YS _ _) (YS _ _));show(bif((cY 1 (cY 3 r).2).1==0&&(cY 3 (cY 1 (cY 3 r).2).2).1 !=0)then ZC (cY 3 (cY 1 (cY 3 r).2).2).2 else(cY 3 (cY 1 (cY 3 r).2).2).2).b.length<=_;cases ((cY 1 (cY 3 r).2).1==0&&(cY 3 (cY 1 (cY 3 r).2).2).1 !=0)
 ·exact h
 ·exact h
theorem H2(r:Rd):(VD fm false ZC r).2.2.length<=255:=by
 unfold VD;refine bk (Xw _ _ _ _ _) ?_;have:=Qt7 (cY 3 r).2;show(cY 1 (cY 3 r).2).1.toNat<=255;omega
theorem Yx{r r1 r2 r3:Rd}{c n f:Int}(h1:cY 3 r=(c,r1))(h2:cY 1 r1=(n,r2))(h3:cY 3 r2=(f,r3)) :
 VD fm false ZC r=((QT fm false n.toNat f (bif n==0&&f !=0 then ZC r3 else r3)).1,c,(QT fm false n.toNat f (bif n==0&&f !=0 then ZC r3 else r3)).2):=by
 simp only[VD,fm,h1,h2,h3]
open Go.Proofs
structure TJ where
 (c:Bool)(b:bL)(bad:Bool)(pl:Int)(dJ:bM)(l0 l1 l2:bJ)(c0 c1 c2:Int)(q:Nat)
def MQ(c:Bool)(b:bL)(bad:Bool)(pl:Int)(dJ:bM)(l0 l1 l2:bJ)(c0 c1 c2:Int)(q:Nat):bX:=[(4,.ptr 0 []),(5,.ptr 1 []),(39,.int .i64 (q:Int))]
def Fo(c:Bool)(b:bL)(bad:Bool)(pl:Int)(dJ:bM)(l0 l1 l2:bJ)(c0 c1 c2:Int)(q:Nat):bP:=[.var 171 (cL .u8 c b (.bI (.bool bad) .bN)),.var 34 (cH pl (.bI (.vs 2 (dJ.length)) (.bI (.bI (.vs 3 (l0.length)) (.bI (.vs 4 (l1.length)) (.bI (.vs 5 (l2.length)) .bN))) (.bI (.arr (C:=RC) .int 3 [c0,c1,c2]) .bN)))),.vec (C:=RC) .item true dJ,.vec (C:=RC) .line true l0,.vec (C:=RC) .line true l1,.vec (C:=RC) .line true l2]
def Fp c b bad pl dJ l0 l1 l2 c0 c1 c2 q:=dQ cu A1 88 11 60 6 [4,5,39] [] [.slot 4 0,.slot 5 0,.path 1 [1],.path 1 [2,0],.path 1 [2,1],.path 1 [2,2]] (MQ c b bad pl dJ l0 l1 l2 c0 c1 c2 q) (Fo c b bad pl dJ l0 l1 l2 c0 c1 c2 q)
theorem QFi(c:Bool)(b:bL)(bad:Bool)(pl:Int)(dJ:bM)(l0 l1 l2:bJ)(c0 c1 c2:Int):Fp c b bad pl dJ l0 l1 l2 c0 c1 c2 0=(let Z0:Int×Int:=dT b 0 3;let Z1:=dJ.length;let Z2:=l0.length;let Z3:=l1.length;let Z4:=l2.length;let Z5:Bool:=decide (Z1=Z1)&&decide (Z2=Z2)&&decide (Z3=Z3)&&decide (Z4=Z4);let Z6:Bool:=Z5&&decide ((0:Int)<=0/\(0:Int)<=255/\(0:Nat)<=1000000/\(Z2<=1000/\Z3<=1000/\Z4<=1000)/\((0:Int)<=0/\(0:Int)<=2)/\(0:Int)<=0/\(0:Int)<=16777215);let Z7:X×bX:=(X.normal,[(4,D.ptr 0 []),(5,D.ptr 1 []),(39,cj 1)]);let Z8:Rd×bJ:=QT fm false 0 0 (Rd.mk true [] true);let Z9:bV:=.bN;let db:cf:=some (Obj.var 171 (.bI (D.sl b9.u8 true Z8.1.b) (.bI (D.bool true) Z9)));let dB:bV:=cj pl;let eo:bV:=D.vs 2 Z1;let fa:bJ:=dA 0 0 l0 Z8.2;let fM:bJ:=dA 0 1 l1 Z8.2;let fz:bJ:=dA 0 2 l2 Z8.2;let fy:bV:=D.bI (D.vs 3 fa.length) (.bI (D.vs 4 fM.length) (.bI (D.vs 5 fz.length) Z9));let fR:cf:=some (Obj.vec b9.item true dJ);let eH:cb:=[fR,some (Obj.vec b9.line true fa),some (Obj.vec b9.line true fM),some (Obj.vec b9.line true fz)];let fW:=List.drop 3 b;let gD:bV:=D.bI (D.arr b9.int 3 [Z0.1,c1,c2]) Z9;let iJ:=List.drop 1 fW;let gQ:=Prod.fst (dT fW 0 1);let iY:=Int.toNat gQ-0;let im:Rd×bJ:=QT fm false iY 0 (Rd.mk true [] true);let nE:Rd:=im.1;let nG:bJ:=dA 0 0 l0 im.2;let nH:bJ:=dA 0 1 l1 im.2;let od:bJ:=dA 0 2 l2 im.2;let ji:=List.drop 3 iJ;let la:=Prod.fst (dT iJ 0 3);let oe:Bool:=Z5&&decide ((0:Int)<=gQ/\gQ<=255/\ji.length<=1000000/\(Z2<=1000/\Z3<=1000/\Z4<=1000)/\((0:Int)<=0/\(0:Int)<=2)/\(0:Int)<=la/\la<=16777215);let oz:Int:=la+0;let mM:Rd×bJ:=QT fm false iY oz (Rd.mk c ji true);let oA:Rd:=mM.1;let pS:bJ:=dA 0 0 l0 mM.2;let qh:bJ:=dA 0 1 l1 mM.2;let og:bJ:=dA 0 2 l2 mM.2;let mW:Rd×bJ:=QT fm false iY oz (Rd.mk c ji (la !=0));let mX:Rd:=mW.1;let nI:bJ:=dA 0 0 l0 mW.2;let l9:bJ:=dA 0 1 l1 mW.2;let pk:bJ:=dA 0 2 l2 mW.2;let lD:Rd×bJ:=QT fm false iY oz (Rd.mk c ji false);let mv:Rd:=lD.1;let lJ:bJ:=dA 0 0 l0 lD.2;let ep:bJ:=dA 0 1 l1 lD.2;let oh:bJ:=dA 0 2 l2 lD.2;b7 (decide (b.length<=1000000000000)) (bif Z0.2 !=0 then b7 Z6 (some (Z7,db::some (Obj.var 34 (.bI dB (D.bI eo (D.bI fy (D.bI (D.arr b9.int 3 [(0:Int),c1,c2]) Z9)))))::eH))else b7 (decide ((0:Int)<=3/\(3:Int)<=(b.length:Int))) (b7 (decide (fW.length<=1000000000000)) (bif Prod.snd (dT fW 0 1)!=0 then b7 Z6 (some (Z7,db::some (Obj.var 34 (.bI dB (D.bI eo (D.bI fy gD))))::eH))else b7 (decide ((0:Int)<=1/\(1:Int)<=(fW.length:Int))) (b7 (decide (iJ.length<=1000000000000)) (bif Prod.snd (dT iJ 0 3)!=0 then b7 (Z5&&decide ((0:Int)<=gQ/\gQ<=255/\(0:Nat)<=1000000/\(Z2<=1000/\Z3<=1000/\Z4<=1000)/\((0:Int)<=0/\(0:Int)<=2)/\(0:Int)<=0/\(0:Int)<=16777215)) (some (Z7,[some (Obj.var 171 (.bI (D.sl b9.u8 nE.c nE.b) (.bI (D.bool nE.bad) Z9))),some (Obj.var 34 (.bI dB (D.bI eo (D.bI (D.bI (D.vs 3 nG.length) (.bI (D.vs 4 nH.length) (.bI (D.vs 5 od.length) Z9))) gD)))),fR,some (Obj.vec b9.line true nG),some (Obj.vec b9.line true nH),some (Obj.vec b9.line true od)]))else b7 (decide ((0:Int)<=3/\(3:Int)<=(iJ.length:Int))) (bif bad then b7 oe (some (Z7,[some (Obj.var 171 (.bI (D.sl b9.u8 oA.c oA.b) (.bI (D.bool oA.bad) Z9))),some (Obj.var 34 (.bI dB (D.bI eo (D.bI (D.bI (D.vs 3 pS.length) (.bI (D.vs 4 qh.length) (.bI (D.vs 5 og.length) Z9))) gD)))),fR,some (Obj.vec b9.line true pS),some (Obj.vec b9.line true qh),some (Obj.vec b9.line true og)]))else bif gQ==0 then b7 oe (some (Z7,[some (Obj.var 171 (.bI (D.sl b9.u8 mX.c mX.b) (.bI (D.bool mX.bad) Z9))),some (Obj.var 34 (.bI dB (D.bI eo (D.bI (D.bI (D.vs 3 nI.length) (.bI (D.vs 4 l9.length) (.bI (D.vs 5 pk.length) Z9))) gD)))),fR,some (Obj.vec b9.line true nI),some (Obj.vec b9.line true l9),some (Obj.vec b9.line true pk)]))else b7 oe (some (Z7,[some (Obj.var 171 (.bI (D.sl b9.u8 mv.c mv.b) (.bI (D.bool mv.bad) Z9))),some (Obj.var 34 (.bI dB (D.bI eo (D.bI (D.bI (D.vs 3 lJ.length) (.bI (D.vs 4 ep.length) (.bI (D.vs 5 oh.length) Z9))) gD)))),fR,some (Obj.vec b9.line true lJ),some (Obj.vec b9.line true ep),some (Obj.vec b9.line true oh)]))))))))):=by kernel_rfl
theorem QFj(c:Bool)(b:bL)(bad:Bool)(pl:Int)(dJ:bM)(l0 l1 l2:bJ)(c0 c1 c2:Int):Fp c b bad pl dJ l0 l1 l2 c0 c1 c2 1=(let Z0:Int×Int:=dT b 0 3;let Z1:=dJ.length;let Z2:=l0.length;let Z3:=l1.length;let Z4:=l2.length;let Z5:Bool:=decide (Z1=Z1)&&decide (Z2=Z2)&&decide (Z3=Z3)&&decide (Z4=Z4);let Z6:Bool:=Z5&&decide ((0:Int)<=0/\(0:Int)<=255/\(0:Nat)<=1000000/\(Z2<=1000/\Z3<=1000/\Z4<=1000)/\((0:Int)<=1/\(1:Int)<=2)/\(0:Int)<=0/\(0:Int)<=16777215);let Z7:X×bX:=(X.normal,[(4,D.ptr 0 []),(5,D.ptr 1 []),(39,cj 2)]);let Z8:Rd×bJ:=QT fm false 0 0 (Rd.mk true [] true);let Z9:bV:=.bN;let db:cf:=some (Obj.var 171 (.bI (D.sl b9.u8 true Z8.1.b) (.bI (D.bool true) Z9)));let dB:bV:=cj pl;let eo:bV:=D.vs 2 Z1;let fa:bJ:=dA 1 0 l0 Z8.2;let fM:bJ:=dA 1 1 l1 Z8.2;let fz:bJ:=dA 1 2 l2 Z8.2;let fy:bV:=D.bI (D.vs 3 fa.length) (.bI (D.vs 4 fM.length) (.bI (D.vs 5 fz.length) Z9));let fR:cf:=some (Obj.vec b9.item true dJ);let eH:cb:=[fR,some (Obj.vec b9.line true fa),some (Obj.vec b9.line true fM),some (Obj.vec b9.line true fz)];let fW:=List.drop 3 b;let gD:bV:=D.bI (D.arr b9.int 3 [c0,Z0.1,c2]) Z9;let iJ:=List.drop 1 fW;let gQ:=Prod.fst (dT fW 0 1);let iY:=Int.toNat gQ-0;let im:Rd×bJ:=QT fm false iY 0 (Rd.mk true [] true);let nE:Rd:=im.1;let nG:bJ:=dA 1 0 l0 im.2;let nH:bJ:=dA 1 1 l1 im.2;let od:bJ:=dA 1 2 l2 im.2;let ji:=List.drop 3 iJ;let la:=Prod.fst (dT iJ 0 3);let oe:Bool:=Z5&&decide ((0:Int)<=gQ/\gQ<=255/\ji.length<=1000000/\(Z2<=1000/\Z3<=1000/\Z4<=1000)/\((0:Int)<=1/\(1:Int)<=2)/\(0:Int)<=la/\la<=16777215);let oz:Int:=la+0;let mM:Rd×bJ:=QT fm false iY oz (Rd.mk c ji true);let oA:Rd:=mM.1;let pS:bJ:=dA 1 0 l0 mM.2;let qh:bJ:=dA 1 1 l1 mM.2;let og:bJ:=dA 1 2 l2 mM.2;let mW:Rd×bJ:=QT fm false iY oz (Rd.mk c ji (la !=0));let mX:Rd:=mW.1;let nI:bJ:=dA 1 0 l0 mW.2;let l9:bJ:=dA 1 1 l1 mW.2;let pk:bJ:=dA 1 2 l2 mW.2;let lD:Rd×bJ:=QT fm false iY oz (Rd.mk c ji false);let mv:Rd:=lD.1;let lJ:bJ:=dA 1 0 l0 lD.2;let ep:bJ:=dA 1 1 l1 lD.2;let oh:bJ:=dA 1 2 l2 lD.2;b7 (decide (b.length<=1000000000000)) (bif Z0.2 !=0 then b7 Z6 (some (Z7,db::some (Obj.var 34 (.bI dB (D.bI eo (D.bI fy (D.bI (D.arr b9.int 3 [c0,(0:Int),c2]) Z9)))))::eH))else b7 (decide ((0:Int)<=3/\(3:Int)<=(b.length:Int))) (b7 (decide (fW.length<=1000000000000)) (bif Prod.snd (dT fW 0 1)!=0 then b7 Z6 (some (Z7,db::some (Obj.var 34 (.bI dB (D.bI eo (D.bI fy gD))))::eH))else b7 (decide ((0:Int)<=1/\(1:Int)<=(fW.length:Int))) (b7 (decide (iJ.length<=1000000000000)) (bif Prod.snd (dT iJ 0 3)!=0 then b7 (Z5&&decide ((0:Int)<=gQ/\gQ<=255/\(0:Nat)<=1000000/\(Z2<=1000/\Z3<=1000/\Z4<=1000)/\((0:Int)<=1/\(1:Int)<=2)/\(0:Int)<=0/\(0:Int)<=16777215)) (some (Z7,[some (Obj.var 171 (.bI (D.sl b9.u8 nE.c nE.b) (.bI (D.bool nE.bad) Z9))),some (Obj.var 34 (.bI dB (D.bI eo (D.bI (D.bI (D.vs 3 nG.length) (.bI (D.vs 4 nH.length) (.bI (D.vs 5 od.length) Z9))) gD)))),fR,some (Obj.vec b9.line true nG),some (Obj.vec b9.line true nH),some (Obj.vec b9.line true od)]))else b7 (decide ((0:Int)<=3/\(3:Int)<=(iJ.length:Int))) (bif bad then b7 oe (some (Z7,[some (Obj.var 171 (.bI (D.sl b9.u8 oA.c oA.b) (.bI (D.bool oA.bad) Z9))),some (Obj.var 34 (.bI dB (D.bI eo (D.bI (D.bI (D.vs 3 pS.length) (.bI (D.vs 4 qh.length) (.bI (D.vs 5 og.length) Z9))) gD)))),fR,some (Obj.vec b9.line true pS),some (Obj.vec b9.line true qh),some (Obj.vec b9.line true og)]))else bif gQ==0 then b7 oe (some (Z7,[some (Obj.var 171 (.bI (D.sl b9.u8 mX.c mX.b) (.bI (D.bool mX.bad) Z9))),some (Obj.var 34 (.bI dB (D.bI eo (D.bI (D.bI (D.vs 3 nI.length) (.bI (D.vs 4 l9.length) (.bI (D.vs 5 pk.length) Z9))) gD)))),fR,some (Obj.vec b9.line true nI),some (Obj.vec b9.line true l9),some (Obj.vec b9.line true pk)]))else b7 oe (some (Z7,[some (Obj.var 171 (.bI (D.sl b9.u8 mv.c mv.b) (.bI (D.bool mv.bad) Z9))),some (Obj.var 34 (.bI dB (D.bI eo (D.bI (D.bI (D.vs 3 lJ.length) (.bI (D.vs 4 ep.length) (.bI (D.vs 5 oh.length) Z9))) gD)))),fR,some (Obj.vec b9.line true lJ),some (Obj.vec b9.line true ep),some (Obj.vec b9.line true oh)]))))))))):=by kernel_rfl
theorem QFk(c:Bool)(b:bL)(bad:Bool)(pl:Int)(dJ:bM)(l0 l1 l2:bJ)(c0 c1 c2:Int):Fp c b bad pl dJ l0 l1 l2 c0 c1 c2 2=(let Z0:Int×Int:=dT b 0 3;let Z1:=dJ.length;let Z2:=l0.length;let Z3:=l1.length;let Z4:=l2.length;let Z5:Bool:=decide (Z1=Z1)&&decide (Z2=Z2)&&decide (Z3=Z3)&&decide (Z4=Z4);let Z6:Bool:=Z5&&decide ((0:Int)<=0/\(0:Int)<=255/\(0:Nat)<=1000000/\(Z2<=1000/\Z3<=1000/\Z4<=1000)/\((0:Int)<=2/\(2:Int)<=2)/\(0:Int)<=0/\(0:Int)<=16777215);let Z7:X×bX:=(X.normal,[(4,D.ptr 0 []),(5,D.ptr 1 []),(39,cj 3)]);let Z8:Rd×bJ:=QT fm false 0 0 (Rd.mk true [] true);let Z9:bV:=.bN;let db:cf:=some (Obj.var 171 (.bI (D.sl b9.u8 true Z8.1.b) (.bI (D.bool true) Z9)));let dB:bV:=cj pl;let eo:bV:=D.vs 2 Z1;let fa:bJ:=dA 2 0 l0 Z8.2;let fM:bJ:=dA 2 1 l1 Z8.2;let fz:bJ:=dA 2 2 l2 Z8.2;let fy:bV:=D.bI (D.vs 3 fa.length) (.bI (D.vs 4 fM.length) (.bI (D.vs 5 fz.length) Z9));let fR:cf:=some (Obj.vec b9.item true dJ);let eH:cb:=[fR,some (Obj.vec b9.line true fa),some (Obj.vec b9.line true fM),some (Obj.vec b9.line true fz)];let fW:=List.drop 3 b;let gD:bV:=D.bI (D.arr b9.int 3 [c0,c1,Z0.1]) Z9;let iJ:=List.drop 1 fW;let gQ:=Prod.fst (dT fW 0 1);let iY:=Int.toNat gQ-0;let im:Rd×bJ:=QT fm false iY 0 (Rd.mk true [] true);let nE:Rd:=im.1;let nG:bJ:=dA 2 0 l0 im.2;let nH:bJ:=dA 2 1 l1 im.2;let od:bJ:=dA 2 2 l2 im.2;let ji:=List.drop 3 iJ;let la:=Prod.fst (dT iJ 0 3);let oe:Bool:=Z5&&decide ((0:Int)<=gQ/\gQ<=255/\ji.length<=1000000/\(Z2<=1000/\Z3<=1000/\Z4<=1000)/\((0:Int)<=2/\(2:Int)<=2)/\(0:Int)<=la/\la<=16777215);let oz:Int:=la+0;let mM:Rd×bJ:=QT fm false iY oz (Rd.mk c ji true);let oA:Rd:=mM.1;let pS:bJ:=dA 2 0 l0 mM.2;let qh:bJ:=dA 2 1 l1 mM.2;let og:bJ:=dA 2 2 l2 mM.2;let mW:Rd×bJ:=QT fm false iY oz (Rd.mk c ji (la !=0));let mX:Rd:=mW.1;let nI:bJ:=dA 2 0 l0 mW.2;let l9:bJ:=dA 2 1 l1 mW.2;let pk:bJ:=dA 2 2 l2 mW.2;let lD:Rd×bJ:=QT fm false iY oz (Rd.mk c ji false);let mv:Rd:=lD.1;let lJ:bJ:=dA 2 0 l0 lD.2;let ep:bJ:=dA 2 1 l1 lD.2;let oh:bJ:=dA 2 2 l2 lD.2;b7 (decide (b.length<=1000000000000)) (bif Z0.2 !=0 then b7 Z6 (some (Z7,db::some (Obj.var 34 (.bI dB (D.bI eo (D.bI fy (D.bI (D.arr b9.int 3 [c0,c1,(0:Int)]) Z9)))))::eH))else b7 (decide ((0:Int)<=3/\(3:Int)<=(b.length:Int))) (b7 (decide (fW.length<=1000000000000)) (bif Prod.snd (dT fW 0 1)!=0 then b7 Z6 (some (Z7,db::some (Obj.var 34 (.bI dB (D.bI eo (D.bI fy gD))))::eH))else b7 (decide ((0:Int)<=1/\(1:Int)<=(fW.length:Int))) (b7 (decide (iJ.length<=1000000000000)) (bif Prod.snd (dT iJ 0 3)!=0 then b7 (Z5&&decide ((0:Int)<=gQ/\gQ<=255/\(0:Nat)<=1000000/\(Z2<=1000/\Z3<=1000/\Z4<=1000)/\((0:Int)<=2/\(2:Int)<=2)/\(0:Int)<=0/\(0:Int)<=16777215)) (some (Z7,[some (Obj.var 171 (.bI (D.sl b9.u8 nE.c nE.b) (.bI (D.bool nE.bad) Z9))),some (Obj.var 34 (.bI dB (D.bI eo (D.bI (D.bI (D.vs 3 nG.length) (.bI (D.vs 4 nH.length) (.bI (D.vs 5 od.length) Z9))) gD)))),fR,some (Obj.vec b9.line true nG),some (Obj.vec b9.line true nH),some (Obj.vec b9.line true od)]))else b7 (decide ((0:Int)<=3/\(3:Int)<=(iJ.length:Int))) (bif bad then b7 oe (some (Z7,[some (Obj.var 171 (.bI (D.sl b9.u8 oA.c oA.b) (.bI (D.bool oA.bad) Z9))),some (Obj.var 34 (.bI dB (D.bI eo (D.bI (D.bI (D.vs 3 pS.length) (.bI (D.vs 4 qh.length) (.bI (D.vs 5 og.length) Z9))) gD)))),fR,some (Obj.vec b9.line true pS),some (Obj.vec b9.line true qh),some (Obj.vec b9.line true og)]))else bif gQ==0 then b7 oe (some (Z7,[some (Obj.var 171 (.bI (D.sl b9.u8 mX.c mX.b) (.bI (D.bool mX.bad) Z9))),some (Obj.var 34 (.bI dB (D.bI eo (D.bI (D.bI (D.vs 3 nI.length) (.bI (D.vs 4 l9.length) (.bI (D.vs 5 pk.length) Z9))) gD)))),fR,some (Obj.vec b9.line true nI),some (Obj.vec b9.line true l9),some (Obj.vec b9.line true pk)]))else b7 oe (some (Z7,[some (Obj.var 171 (.bI (D.sl b9.u8 mv.c mv.b) (.bI (D.bool mv.bad) Z9))),some (Obj.var 34 (.bI dB (D.bI eo (D.bI (D.bI (D.vs 3 lJ.length) (.bI (D.vs 4 ep.length) (.bI (D.vs 5 oh.length) Z9))) gD)))),fR,some (Obj.vec b9.line true lJ),some (Obj.vec b9.line true ep),some (Obj.vec b9.line true oh)]))))))))):=by kernel_rfl
theorem QFl(c:Bool)(b:bL)(bad:Bool)(pl:Int)(dJ:bM)(l0 l1 l2:bJ)(c0 c1 c2:Int):Fp c b bad pl dJ l0 l1 l2 c0 c1 c2 3=(some ((X.exit 2,[]),[some (Obj.var 171 (.bI (D.sl b9.u8 c b) (.bI (D.bool bad) .bN))),some (Obj.var 34 (.bI (D.int .i64 pl) (.bI (D.vs 2 dJ.length) (.bI (D.bI (D.vs 3 l0.length) (.bI (D.vs 4 l1.length) (.bI (D.vs 5 l2.length) .bN))) (.bI (D.arr b9.int 3 [c0,c1,c2]) .bN))))),some (Obj.vec b9.item true dJ),some (Obj.vec b9.line true l0),some (Obj.vec b9.line true l1),some (Obj.vec b9.line true l2)])):=by kernel_rfl
def ED(c:Bool)(b:bL)(bad:Bool)(pl:Int)(dJ:bM)(l0 l1 l2:bJ)(c0 c1 c2:Int)(q:Nat):RT RC:=.leaf (.exit 2) [] [.var 171 (cL .u8 (gC fm false ZC q ⟨⟨c,b,bad⟩,l0,l1,l2,c0,c1,c2⟩).r.c (gC fm false ZC q ⟨⟨c,b,bad⟩,l0,l1,l2,c0,c1,c2⟩).r.b (.bI (.bool (gC fm false ZC q ⟨⟨c,b,bad⟩,l0,l1,l2,c0,c1,c2⟩).r.bad) .bN)),.var 34 (cH pl (.bI (.vs 2 dJ.length) (.bI (.bI (.vs 3 (gC fm false ZC q ⟨⟨c,b,bad⟩,l0,l1,l2,c0,c1,c2⟩).l0.length) (.bI (.vs 4 (gC fm false ZC q ⟨⟨c,b,bad⟩,l0,l1,l2,c0,c1,c2⟩).l1.length) (.bI (.vs 5 (gC fm false ZC q ⟨⟨c,b,bad⟩,l0,l1,l2,c0,c1,c2⟩).l2.length) .bN))) (.bI (.arr (C:=RC) .int 3 [(gC fm false ZC q ⟨⟨c,b,bad⟩,l0,l1,l2,c0,c1,c2⟩).c0,(gC fm false ZC q ⟨⟨c,b,bad⟩,l0,l1,l2,c0,c1,c2⟩).c1,(gC fm false ZC q ⟨⟨c,b,bad⟩,l0,l1,l2,c0,c1,c2⟩).c2]) .bN)))),.vec (C:=RC) .item true dJ,.vec (C:=RC) .line true (gC fm false ZC q ⟨⟨c,b,bad⟩,l0,l1,l2,c0,c1,c2⟩).l0,.vec (C:=RC) .line true (gC fm false ZC q ⟨⟨c,b,bad⟩,l0,l1,l2,c0,c1,c2⟩).l1,.vec (C:=RC) .line true (gC fm false ZC q ⟨⟨c,b,bad⟩,l0,l1,l2,c0,c1,c2⟩).l2]
def EE(c:Bool)(b:bL)(bad:Bool)(pl:Int)(dJ:bM)(l0 l1 l2:bJ)(c0 c1 c2:Int)(q:Nat):Prop:=q<=3/\b.length<=1000000/\l0.length<=255*q/\l1.length<=255*q/\l2.length<=255*q
def qW:QD RC TJ where
 k:=6
 cM q:=MQ q.c q.b q.bad q.pl q.dJ q.l0 q.l1 q.l2 q.c0 q.c1 q.c2 q.q
 cK q:=Fo q.c q.b q.bad q.pl q.dJ q.l0 q.l1 q.l2 q.c0 q.c1 q.c2 q.q
 fin q:=ED q.c q.b q.bad q.pl q.dJ q.l0 q.l1 q.l2 q.c0 q.c1 q.c2 q.q
 Inv q:=EE q.c q.b q.bad q.pl q.dJ q.l0 q.l1 q.l2 q.c0 q.c1 q.c2 q.q
 μ q:=3-q.q
theorem Qua c b bad pl dJ l0 l1 l2 c0 c1 c2 q(hI:EE c b bad pl dJ l0 l1 l2 c0 c1 c2 q):c8 (Fp c b bad pl dJ l0 l1 l2 c0 c1 c2 q) (dj qW ⟨c,b,bad,pl,dJ,l0,l1,l2,c0,c1,c2,q⟩):=by
 unfold EE at hI;obtain⟨h1,h2,h3,h4,h5⟩:=hI;have t1:Int.toNat 1=1:=rfl;have t3:Int.toNat 3=3:=rfl;have z1:cY 1 ⟨true,[],true⟩=(0,⟨true,[],true⟩):=rfl;have z3:cY 3 ⟨true,[],true⟩=(0,⟨true,[],true⟩):=rfl;have kV:¬(0:Int)=1:=by omega
 have kW:¬(0:Int)=2:=by omega
 have kX:¬(1:Int)=0:=by omega
 have kY:¬(1:Int)=2:=by omega
 have kZ:¬(2:Int)=0:=by omega
 have k8:¬(2:Int)=1:=by omega
 have e0:decide (b.length<=1000000000000)=true:=ab (by omega);have pb:=Hw ⟨c,b,bad⟩;have pn:=H2 ⟨c,b,bad⟩
 by_cases x3:q=3
 ·subst x3;rw[QFl];exact Qh (Fo c b bad pl dJ l0 l1 l2 c0 c1 c2 3) rfl rfl
 by_cases x0:q=0
 ·subst x0
  have fe:∀(r':Rd) (cut:Int) (L:bJ),VD fm false ZC ⟨c,b,bad⟩=(r',cut,L)->c8 (some ((X.normal,[(4,.ptr 0 []),(5,.ptr 1 []),(39,.int .i64 1)]),[some (.var 171 (cL .u8 r'.c r'.b (.bI (.bool r'.bad) .bN))),some (.var 34 (cH pl (.bI (.vs 2 dJ.length) (.bI (.bI (.vs 3 (l0++L).length) (.bI (.vs 4 l1.length) (.bI (.vs 5 l2.length) .bN))) (.bI (.arr (C:=RC) .int 3 [cut,c1,c2]) .bN))))),some (.vec (C:=RC) .item true dJ),some (.vec (C:=RC) .line true (l0++L)),some (.vec (C:=RC) .line true l1),some (.vec (C:=RC) .line true l2)])) (dj qW ⟨c,b,bad,pl,dJ,l0,l1,l2,c0,c1,c2,0⟩):=by
   intro r' cut L hP;rw[hP]at pb pn;simp only at pb pn
   have eB:gC fm false ZC 1 ⟨⟨r'.c,r'.b,r'.bad⟩,l0++L,l1,l2,cut,c1,c2⟩=gC fm false ZC 0 ⟨⟨c,b,bad⟩,l0,l1,l2,c0,c1,c2⟩:=by
    simp only[gC,Hn,hP]
   refine Qi ⟨r'.c,r'.b,r'.bad,pl,dJ,l0++L,l1,l2,cut,c1,c2,1⟩ ?_ (by simp only[qW];omega) ?_ rfl rfl
   ·refine⟨by simp,?_,?_,?_,?_⟩<;>simp<;>omega
   ·simp only[qW,ED,eB]
  (rw[QFi];delta b7 cj;conv=>zeta)
  simp only[e0,ag,Yr,YR,t1,t3]
  by_cases q0:b.length<3
  ·have r0:cY 3 ⟨c,b,bad⟩=_:=Ze q0;simp only[q0,aM,ag];simp(disch:=omega) only[ab,au,ag,dA,aU,aL,kV,kW,kX,kY,kZ,k8];exact fe ⟨true,[],true⟩ 0 [] (Yx r0 z1 z3)
  have r0:cY 3 ⟨c,b,bad⟩=_:=Q3 (show 3<=b.length by omega);have d0:decide ((0:Int)<=3/\(3:Int)<=b.length)=true:=by simp only[aa];omega
  have e1:decide ((b.drop 3).length<=1000000000000)=true:=ab (by simp;omega);simp only[q0,aW,ah,d0,ag,e1,ZP q0]
  by_cases q1:(b.drop 3).length<1
  ·have r1:cY 1 ⟨c,b.drop 3,bad⟩=_:=Ze q1;simp only[q1,aM,ag];simp(disch:=omega) only[ab,au,ag,dA,aU,aL,kV,kW,kX,kY,kZ,k8];exact fe ⟨true,[],true⟩ _ [] (Yx r0 r1 z3)
  have r1:cY 1 ⟨c,b.drop 3,bad⟩=_:=Q3 (show 1<=(b.drop 3).length by omega);have d1:decide ((0:Int)<=1/\(1:Int)<=(b.drop 3).length)=true:=by simp only[aa];omega
  have e2:decide (((b.drop 3).drop 1).length<=1000000000000)=true:=ab (by simp;omega);simp only[q1,aW,ah,d1,ag,e2,Zk q1];have n1:=Ju (b.drop 3) 1;have f1:=Ju ((b.drop 3).drop 1) 3;have bl:(((b.drop 3).drop 1).drop 3).length<=1000000:=by simp;omega
  simp only[Nat.reducePow]at n1 f1
  by_cases q2:((b.drop 3).drop 1).length<3
  ·have r2:cY 3 ⟨c,(b.drop 3).drop 1,bad⟩=_:=Ze q2;simp only[q2,aM,ag];have bz:([]:bL).length<=1000000:=by simp
   simp(disch:=(first|omega|(simp;omega))) only[ab,au,ag,dA,aU,aL,kV,kW,kX,kY,kZ,k8,Nat.sub_zero,Int.add_zero];refine fe _ _ _ ?_;rw[Yx r0 r1 r2];have:((cI ((b.drop 3).take 1):Int)==0&&(0:Int)!=0)=false:=by simp
   rw[this];rfl
  have r2:cY 3 ⟨c,(b.drop 3).drop 1,bad⟩=_:=Q3 (show 3<=((b.drop 3).drop 1).length by omega);have d2:decide ((0:Int)<=3/\(3:Int)<=((b.drop 3).drop 1).length)=true:=by simp only[aa];omega
  simp only[q2,aW,ah,d2,ag,ZP q2];have hP:=Yx r0 r1 r2;cases bad
  ·simp only[ah];cases hz:((cI ((b.drop 3).take 1):Int)==0)
   ·simp only[ah];simp(disch:=omega) only[ab,au,ag,dA,aU,aL,kV,kW,kX,kY,kZ,k8,Nat.sub_zero,Int.add_zero];refine fe _ _ _ ?_;rw[hP,hz];rfl
   ·simp only[ag];simp(disch:=omega) only[ab,au,ag,dA,aU,aL,kV,kW,kX,kY,kZ,k8,Nat.sub_zero,Int.add_zero];refine fe _ _ _ ?_;rw[hP,hz];cases hf:((cI (((b.drop 3).drop 1).take 3):Int)!=0)<;>rfl
  ·simp only[ag];simp(disch:=omega) only[ab,au,ag,dA,aU,aL,kV,kW,kX,kY,kZ,k8,Nat.sub_zero,Int.add_zero];refine fe _ _ _ ?_;rw[hP];cases ((cI ((b.drop 3).take 1):Int)==0&&(cI (((b.drop 3).drop 1).take 3):Int)!=0)<;>rfl
 by_cases x1:q=1
 ·subst x1
  have fe:∀(r':Rd) (cut:Int) (L:bJ),VD fm false ZC ⟨c,b,bad⟩=(r',cut,L)->c8 (some ((X.normal,[(4,.ptr 0 []),(5,.ptr 1 []),(39,.int .i64 2)]),[some (.var 171 (cL .u8 r'.c r'.b (.bI (.bool r'.bad) .bN))),some (.var 34 (cH pl (.bI (.vs 2 dJ.length) (.bI (.bI (.vs 3 l0.length) (.bI (.vs 4 (l1++L).length) (.bI (.vs 5 l2.length) .bN))) (.bI (.arr (C:=RC) .int 3 [c0,cut,c2]) .bN))))),some (.vec (C:=RC) .item true dJ),some (.vec (C:=RC) .line true l0),some (.vec (C:=RC) .line true (l1++L)),some (.vec (C:=RC) .line true l2)])) (dj qW ⟨c,b,bad,pl,dJ,l0,l1,l2,c0,c1,c2,1⟩):=by
   intro r' cut L hP;rw[hP]at pb pn;simp only at pb pn
   have eB:gC fm false ZC 2 ⟨⟨r'.c,r'.b,r'.bad⟩,l0,l1++L,l2,c0,cut,c2⟩=gC fm false ZC 1 ⟨⟨c,b,bad⟩,l0,l1,l2,c0,c1,c2⟩:=by
    simp only[gC,Fq,hP]
   refine Qi ⟨r'.c,r'.b,r'.bad,pl,dJ,l0,l1++L,l2,c0,cut,c2,2⟩ ?_ (by simp only[qW];omega) ?_ rfl rfl
   ·refine⟨by simp,?_,?_,?_,?_⟩<;>simp<;>omega
   ·simp only[qW,ED,eB]
  (rw[QFj];delta b7 cj;conv=>zeta)
  simp only[e0,ag,Yr,YR,t1,t3]
  by_cases q0:b.length<3
  ·have r0:cY 3 ⟨c,b,bad⟩=_:=Ze q0;simp only[q0,aM,ag];simp(disch:=omega) only[ab,au,ag,dA,aU,aL,kV,kW,kX,kY,kZ,k8];exact fe ⟨true,[],true⟩ 0 [] (Yx r0 z1 z3)
  have r0:cY 3 ⟨c,b,bad⟩=_:=Q3 (show 3<=b.length by omega);have d0:decide ((0:Int)<=3/\(3:Int)<=b.length)=true:=by simp only[aa];omega
  have e1:decide ((b.drop 3).length<=1000000000000)=true:=ab (by simp;omega);simp only[q0,aW,ah,d0,ag,e1,ZP q0]
  by_cases q1:(b.drop 3).length<1
  ·have r1:cY 1 ⟨c,b.drop 3,bad⟩=_:=Ze q1;simp only[q1,aM,ag];simp(disch:=omega) only[ab,au,ag,dA,aU,aL,kV,kW,kX,kY,kZ,k8];exact fe ⟨true,[],true⟩ _ [] (Yx r0 r1 z3)
  have r1:cY 1 ⟨c,b.drop 3,bad⟩=_:=Q3 (show 1<=(b.drop 3).length by omega);have d1:decide ((0:Int)<=1/\(1:Int)<=(b.drop 3).length)=true:=by simp only[aa];omega
  have e2:decide (((b.drop 3).drop 1).length<=1000000000000)=true:=ab (by simp;omega);simp only[q1,aW,ah,d1,ag,e2,Zk q1];have n1:=Ju (b.drop 3) 1;have f1:=Ju ((b.drop 3).drop 1) 3;have bl:(((b.drop 3).drop 1).drop 3).length<=1000000:=by simp;omega
  simp only[Nat.reducePow]at n1 f1
  by_cases q2:((b.drop 3).drop 1).length<3
  ·have r2:cY 3 ⟨c,(b.drop 3).drop 1,bad⟩=_:=Ze q2;simp only[q2,aM,ag];have bz:([]:bL).length<=1000000:=by simp
   simp(disch:=(first|omega|(simp;omega))) only[ab,au,ag,dA,aU,aL,kV,kW,kX,kY,kZ,k8,Nat.sub_zero,Int.add_zero];refine fe _ _ _ ?_;rw[Yx r0 r1 r2];have:((cI ((b.drop 3).take 1):Int)==0&&(0:Int)!=0)=false:=by simp
   rw[this];rfl
  have r2:cY 3 ⟨c,(b.drop 3).drop 1,bad⟩=_:=Q3 (show 3<=((b.drop 3).drop 1).length by omega);have d2:decide ((0:Int)<=3/\(3:Int)<=((b.drop 3).drop 1).length)=true:=by simp only[aa];omega
  simp only[q2,aW,ah,d2,ag,ZP q2];have hP:=Yx r0 r1 r2;cases bad
  ·simp only[ah];cases hz:((cI ((b.drop 3).take 1):Int)==0)
   ·simp only[ah];simp(disch:=omega) only[ab,au,ag,dA,aU,aL,kV,kW,kX,kY,kZ,k8,Nat.sub_zero,Int.add_zero];refine fe _ _ _ ?_;rw[hP,hz];rfl
   ·simp only[ag];simp(disch:=omega) only[ab,au,ag,dA,aU,aL,kV,kW,kX,kY,kZ,k8,Nat.sub_zero,Int.add_zero];refine fe _ _ _ ?_;rw[hP,hz];cases hf:((cI (((b.drop 3).drop 1).take 3):Int)!=0)<;>rfl
  ·simp only[ag];simp(disch:=omega) only[ab,au,ag,dA,aU,aL,kV,kW,kX,kY,kZ,k8,Nat.sub_zero,Int.add_zero];refine fe _ _ _ ?_;rw[hP];cases ((cI ((b.drop 3).take 1):Int)==0&&(cI (((b.drop 3).drop 1).take 3):Int)!=0)<;>rfl
 by_cases x2:q=2
 ·subst x2
  have fe:∀(r':Rd) (cut:Int) (L:bJ),VD fm false ZC ⟨c,b,bad⟩=(r',cut,L)->c8 (some ((X.normal,[(4,.ptr 0 []),(5,.ptr 1 []),(39,.int .i64 3)]),[some (.var 171 (cL .u8 r'.c r'.b (.bI (.bool r'.bad) .bN))),some (.var 34 (cH pl (.bI (.vs 2 dJ.length) (.bI (.bI (.vs 3 l0.length) (.bI (.vs 4 l1.length) (.bI (.vs 5 (l2++L).length) .bN))) (.bI (.arr (C:=RC) .int 3 [c0,c1,cut]) .bN))))),some (.vec (C:=RC) .item true dJ),some (.vec (C:=RC) .line true l0),some (.vec (C:=RC) .line true l1),some (.vec (C:=RC) .line true (l2++L))])) (dj qW ⟨c,b,bad,pl,dJ,l0,l1,l2,c0,c1,c2,2⟩):=by
   intro r' cut L hP;rw[hP]at pb pn;simp only at pb pn
   have eB:gC fm false ZC 3 ⟨⟨r'.c,r'.b,r'.bad⟩,l0,l1,l2++L,c0,c1,cut⟩=gC fm false ZC 2 ⟨⟨c,b,bad⟩,l0,l1,l2,c0,c1,c2⟩:=by
    simp only[gC,CQ,hP]
   refine Qi ⟨r'.c,r'.b,r'.bad,pl,dJ,l0,l1,l2++L,c0,c1,cut,3⟩ ?_ (by simp only[qW];omega) ?_ rfl rfl
   ·refine⟨by simp,?_,?_,?_,?_⟩<;>simp<;>omega
   ·simp only[qW,ED,eB]
  (rw[QFk];delta b7 cj;conv=>zeta)
  simp only[e0,ag,Yr,YR,t1,t3]
  by_cases q0:b.length<3
  ·have r0:cY 3 ⟨c,b,bad⟩=_:=Ze q0;simp only[q0,aM,ag];simp(disch:=omega) only[ab,au,ag,dA,aU,aL,kV,kW,kX,kY,kZ,k8];exact fe ⟨true,[],true⟩ 0 [] (Yx r0 z1 z3)
  have r0:cY 3 ⟨c,b,bad⟩=_:=Q3 (show 3<=b.length by omega);have d0:decide ((0:Int)<=3/\(3:Int)<=b.length)=true:=by simp only[aa];omega
  have e1:decide ((b.drop 3).length<=1000000000000)=true:=ab (by simp;omega);simp only[q0,aW,ah,d0,ag,e1,ZP q0]
  by_cases q1:(b.drop 3).length<1
  ·have r1:cY 1 ⟨c,b.drop 3,bad⟩=_:=Ze q1;simp only[q1,aM,ag];simp(disch:=omega) only[ab,au,ag,dA,aU,aL,kV,kW,kX,kY,kZ,k8];exact fe ⟨true,[],true⟩ _ [] (Yx r0 r1 z3)
  have r1:cY 1 ⟨c,b.drop 3,bad⟩=_:=Q3 (show 1<=(b.drop 3).length by omega);have d1:decide ((0:Int)<=1/\(1:Int)<=(b.drop 3).length)=true:=by simp only[aa];omega
  have e2:decide (((b.drop 3).drop 1).length<=1000000000000)=true:=ab (by simp;omega);simp only[q1,aW,ah,d1,ag,e2,Zk q1];have n1:=Ju (b.drop 3) 1;have f1:=Ju ((b.drop 3).drop 1) 3;have bl:(((b.drop 3).drop 1).drop 3).length<=1000000:=by simp;omega
  simp only[Nat.reducePow]at n1 f1
  by_cases q2:((b.drop 3).drop 1).length<3
  ·have r2:cY 3 ⟨c,(b.drop 3).drop 1,bad⟩=_:=Ze q2;simp only[q2,aM,ag];have bz:([]:bL).length<=1000000:=by simp
   simp(disch:=(first|omega|(simp;omega))) only[ab,au,ag,dA,aU,aL,kV,kW,kX,kY,kZ,k8,Nat.sub_zero,Int.add_zero];refine fe _ _ _ ?_;rw[Yx r0 r1 r2];have:((cI ((b.drop 3).take 1):Int)==0&&(0:Int)!=0)=false:=by simp
   rw[this];rfl
  have r2:cY 3 ⟨c,(b.drop 3).drop 1,bad⟩=_:=Q3 (show 3<=((b.drop 3).drop 1).length by omega);have d2:decide ((0:Int)<=3/\(3:Int)<=((b.drop 3).drop 1).length)=true:=by simp only[aa];omega
  simp only[q2,aW,ah,d2,ag,ZP q2];have hP:=Yx r0 r1 r2;cases bad
  ·simp only[ah];cases hz:((cI ((b.drop 3).take 1):Int)==0)
   ·simp only[ah];simp(disch:=omega) only[ab,au,ag,dA,aU,aL,kV,kW,kX,kY,kZ,k8,Nat.sub_zero,Int.add_zero];refine fe _ _ _ ?_;rw[hP,hz];rfl
   ·simp only[ag];simp(disch:=omega) only[ab,au,ag,dA,aU,aL,kV,kW,kX,kY,kZ,k8,Nat.sub_zero,Int.add_zero];refine fe _ _ _ ?_;rw[hP,hz];cases hf:((cI (((b.drop 3).drop 1).take 3):Int)!=0)<;>rfl
  ·simp only[ag];simp(disch:=omega) only[ab,au,ag,dA,aU,aL,kV,kW,kX,kY,kZ,k8,Nat.sub_zero,Int.add_zero];refine fe _ _ _ ?_;rw[hP];cases ((cI ((b.drop 3).take 1):Int)==0&&(cI (((b.drop 3).drop 1).take 3):Int)!=0)<;>rfl
 omega
def MR(env:bX)(os:bP):Option (Bool×TJ):=match env,os with
 |[(4,.ptr 0 []),(5,.ptr 1 []),(39,.int .i64 x0)],[.var 171 (.bI (.sl .u8 c b) (.bI (.bool bad) .bN)),.var 34 (.bI (.int .i64 pl) (.bI (.vs 2 x1) (.bI (.bI (.vs 3 x2) (.bI (.vs 4 x3) (.bI (.vs 5 x4) .bN))) (.bI (.arr .int 3 [c0,c1,c2]) .bN)))),.vec .item true dJ,.vec .line true l0,.vec .line true l1,.vec .line true l2]=>some (decide (x0=0)&&decide (x1=dJ.length)&&decide (x2=l0.length)&&decide (x3=l1.length)&&decide (x4=l2.length)&&decide (b.length<=1000000/\l0.length=0/\l1.length=0/\l2.length=0),⟨c,b,bad,pl,dJ,l0,l1,l2,c0,c1,c2,0⟩)
 |_,_=>none
def A2:=A1.cJ 88 11 (ey cu [.slot 4 0,.slot 5 0,.path 1 [1],.path 1 [2,0],.path 1 [2,1],.path 1 [2,2]] [4,5,39] qW MR)
theorem Qub:Qk Tryz.prog cu A2:=by
 refine Qt6.cq Qb (by kernel_rfl) qW 60 [4,5,39] [] [.slot 4 0,.slot 5 0,.path 1 [1],.path 1 [2,0],.path 1 [2,1],.path 1 [2,2]] [4,5,39] MR (fun q hI=>?_) ?_
 ·obtain⟨c,b,bad,pl,dJ,l0,l1,l2,c0,c1,c2,q⟩:=q;refine⟨?_,?_,Qua c b bad pl dJ l0 l1 l2 c0 c1 c2 q hI⟩
  ·simp_all[Qj,qW,MQ,Fo,EE,D.refs,Obj.refs,cV]
  ·simp_all[qW,ED,Fo,EE,RT.cT,Qj,D.refs,Obj.refs,cV]
 ·intro env os b q cN hb;unfold MR at cN
  split at cN
  ·cases cN;simp only[ai,aa]at hb;obtain⟨⟨⟨⟨⟨rfl,rfl⟩,rfl⟩,rfl⟩,rfl⟩,hq⟩:=hb;exact⟨⟨by simp,hq.1,by simp[hq.2.1],by simp[hq.2.2.1],by simp[hq.2.2.2]⟩,rfl,rfl⟩
  ·cases cN
def ec(o:Option St):St:=o.getD ⟨0,[],[],[],[],0,0,0⟩
theorem QjQ(r:Rd):(gC fm false ZC 0 ⟨r,[],[],[],0,0,0⟩).l0.length<=255/\(gC fm false ZC 0 ⟨r,[],[],[],0,0,0⟩).l1.length<=255/\(gC fm false ZC 0 ⟨r,[],[],[],0,0,0⟩).l2.length<=255/\(gC fm false ZC 0 ⟨r,[],[],[],0,0,0⟩).r.b.length<=r.b.length:=by
 simp only[gC,Hn,Fq,CQ,aH];exact⟨H2 _,H2 _,H2 _,bk (Hw _) (bk (Hw _) (Hw _))⟩
theorem Quc{r r1 r2:Rd}{p n:Int}(h1:cY 3 r=(p,r1))(h2:cY 1 r1=(n,r2)) :
 uo fm false ZC r=((gC fm false ZC 0 ⟨(Zl fm false n.toNat r2).1,[],[],[],0,0,0⟩).r,⟨p,(Zl fm false n.toNat r2).2,(gC fm false ZC 0 ⟨(Zl fm false n.toNat r2).1,[],[],[],0,0,0⟩).l0,(gC fm false ZC 0 ⟨(Zl fm false n.toNat r2).1,[],[],[],0,0,0⟩).l1,(gC fm false ZC 0 ⟨(Zl fm false n.toNat r2).1,[],[],[],0,0,0⟩).l2,(gC fm false ZC 0 ⟨(Zl fm false n.toNat r2).1,[],[],[],0,0,0⟩).c0,(gC fm false ZC 0 ⟨(Zl fm false n.toNat r2).1,[],[],[],0,0,0⟩).c1,(gC fm false ZC 0 ⟨(Zl fm false n.toNat r2).1,[],[],[],0,0,0⟩).c2⟩):=by
 have e1:fm.get 3 r=(p,r1):=h1;have e2:fm.get 1 r1=(n,r2):=h2;simp only[uo,e1,e2,gC,Hn,Fq,CQ,aH]
open Go.Proofs
def QjR:bW->bO
 |[.sl .u8 c b]=>some (decide (b.length<=1000000),.cG (.bI (cH (ec (Zc b)).place (cL .item (Zc b).isNone (ec (Zc b)).items (.bI (cL .line (Zc b).isNone (ec (Zc b)).l0 (cL .line (Zc b).isNone (ec (Zc b)).l1 (cL .line (Zc b).isNone (ec (Zc b)).l2 .bN))) (.bI (.arr (C:=RC) .int 3 [(ec (Zc b)).c0,(ec (Zc b)).c1,(ec (Zc b)).c2]) .bN)))) (cH (bif(Zc b).isNone then 50 else 0) .bN)))
 |_=>none
def QnG(c:Bool)(b:bL):=eO cu A2 60 88 [.sl (C:=RC) .u8 c b]
theorem Qud c b:QnG c b=(let Z0:Int×Int:=dT b 0 3;let Z1:bV:=cj 0;let Z2:bV:=D.sl b9.line true [];let Z3:bV:=.bN;let Z4:fI:=some (D.cG (D.bI (D.bI Z1 (D.bI (D.sl b9.item true []) (.bI (D.bI Z2 (D.bI Z2 (D.bI Z2 Z3))) (.bI (D.arr b9.int 3 (List.replicate 3 0)) Z3)))) (.bI (cj 50) Z3)));let Z5:=List.drop 3 b;let Z6:Int×Int:=dT Z5 0 1;let Z7:=Z6.1;let Z8:Rd×bM:=Zl fm false (Int.toNat Z7-0) (Rd.mk c (List.drop 1 Z5) false);let Z9:bM:=[]++Z8.2;let db:=Z9.length;let dB:QS Rd:=gC fm false ZC 0 (QS.mk (Rd.mk Z8.1.c Z8.1.b Z8.1.bad) [] [] [] 0 0 0);let eo:=List.length dB.r.b;let fa:=List.length dB.l0;let fM:=List.length dB.l1;let fz:=List.length dB.l2;let fy:fI:=none;bif decide (b.length<=1000000000000)then bif Z0.2 !=0 then Z4 else bif decide ((0:Int)<=3/\(3:Int)<=(b.length:Int))then bif decide (Z5.length<=1000000000000)then bif Z6.2 !=0 then Z4 else bif decide ((0:Int)<=1/\(1:Int)<=(Z5.length:Int))then bif decide ((0:Int)<=Z7/\Z7<=255/\List.length (List.drop 1 Z5)<=1000000/\(0:Nat)=0)then bif decide (db=db)&&true&&true&&true&&decide (List.length Z8.1.b<=1000000/\(0:Nat)=0/\(0:Nat)=0/\(0:Nat)=0)then bif !Rd.bad dB.r then bif Qd eo then bif !(eo:Int)==0 then Z4 else bif Nat.beq db db then bif Nat.beq fa fa then bif Nat.beq fM fM then bif Nat.beq fz fz then bif decide (db<=9223372036854775807/\fa<=9223372036854775807/\fM<=9223372036854775807/\fz<=9223372036854775807)then bif !Qu (St.mk Z0.1 Z9 dB.l0 dB.l1 dB.l2 dB.c0 dB.c1 dB.c2)then Z4 else some (D.cG (D.bI (D.bI (cj Z0.1) (.bI (D.sl b9.item false Z9) (.bI (D.bI (D.sl b9.line false dB.l0) (.bI (D.sl b9.line false dB.l1) (.bI (D.sl b9.line false dB.l2) Z3))) (.bI (D.arr b9.int 3 [QS.c0 dB,QS.c1 dB,QS.c2 dB]) Z3)))) (.bI Z1 Z3)))else fy else fy else fy else fy else fy else fy else Z4 else fy else fy else fy else fy else fy else fy):=by kernel_rfl
theorem Que c b(h:(decide (b.length<=1000000))=true):QnG c b=some (.cG (.bI (cH (ec (Zc b)).place (cL .item (Zc b).isNone (ec (Zc b)).items (.bI (cL .line (Zc b).isNone (ec (Zc b)).l0 (cL .line (Zc b).isNone (ec (Zc b)).l1 (cL .line (Zc b).isNone (ec (Zc b)).l2 .bN))) (.bI (.arr (C:=RC) .int 3 [(ec (Zc b)).c0,(ec (Zc b)).c1,(ec (Zc b)).c2]) .bN)))) (cH (bif(Zc b).isNone then 50 else 0) .bN))):=by
 (rw[Qud];delta cj;conv=>zeta)
 have hl:=af h;have e0:decide (b.length<=1000000000000)=true:=ab (by omega);have t1:Int.toNat 1=1:=rfl;have t3:Int.toNat 3=3:=rfl;have eb:∀n:Nat,n.beq n=true:=fun n=>by simp
 have no:Zc b=none->some (D.cG (D.bI (D.bI (D.int IntKind.i64 0) (D.bI (D.sl (C:=RC) b9.item true []) (D.bI (D.bI (D.sl (C:=RC) b9.line true []) (D.bI (D.sl (C:=RC) b9.line true []) (D.bI (D.sl (C:=RC) b9.line true []) D.bN))) (D.bI (D.arr (C:=RC) b9.int 3 (List.replicate 3 0)) D.bN)))) (D.bI (D.int IntKind.i64 50) D.bN)))=some (.cG (.bI (cH (ec (Zc b)).place (cL .item (Zc b).isNone (ec (Zc b)).items (.bI (cL .line (Zc b).isNone (ec (Zc b)).l0 (cL .line (Zc b).isNone (ec (Zc b)).l1 (cL .line (Zc b).isNone (ec (Zc b)).l2 .bN))) (.bI (.arr (C:=RC) .int 3 [(ec (Zc b)).c0,(ec (Zc b)).c1,(ec (Zc b)).c2]) .bN)))) (cH (bif(Zc b).isNone then 50 else 0) .bN))):=fun e=>by rw[e];rfl
 simp only[e0,ag,Yr,YR,t1,t3]
 by_cases q0:b.length<3
 ·simp only[q0,aM,ag]
  exact no (by
   have:¬3<=b.length:=by omega
   simp[Zc,jz,this])
 have r0:cY 3 ⟨c,b,false⟩=_:=Q3 (show 3<=b.length by omega);have d0:decide ((0:Int)<=3/\(3:Int)<=b.length)=true:=by simp only[aa];omega
 have e1:decide ((b.drop 3).length<=1000000000000)=true:=ab (by simp;omega);simp only[q0,aW,ah,d0,ag,e1,ZP q0]
 by_cases q1:(b.drop 3).length<1
 ·simp only[q1,aM,ag]
  exact no (by
   have h3:3<=b.length:=by omega
   have:¬1<=(b.drop 3).length:=by omega
   simp only[Zc,jz,h3,aU,Option.bind_some,this,aL,Option.bind_none])
 have r1:cY 1 ⟨c,b.drop 3,false⟩=_:=Q3 (show 1<=(b.drop 3).length by omega);have d1:decide ((0:Int)<=1/\(1:Int)<=(b.drop 3).length)=true:=by simp only[aa];omega
 simp only[q1,aW,ah,d1,ag,Zk q1];have rK:=QlX QHJ false ZC (fun _=>rfl) ⟨c,b,false⟩ rfl;rw[Quc r0 r1]at rK
 change Zc b=_ at rK
 have n1:=Ju (b.drop 3) 1;simp only[Nat.reducePow]at n1;have bl:((b.drop 3).drop 1).length<=1000000:=by simp;omega
 generalize cI ((b.drop 3).take 1)=n at n1 rK ⊢;have ck:decide ((0:Int)<=n/\(n:Int)<=255/\((b.drop 3).drop 1).length<=1000000/\True)=true:=ab ⟨by omega,by omega,bl,trivial⟩;have tn:(n:Int).toNat-0=n:=by omega
 have LW:(n:Int).toNat=n:=by omega
 simp only[ck,tn,LW,ag,aH]at rK ⊢;have gb:=WX n ⟨c,(b.drop 3).drop 1,false⟩;have gl:=XB fm false n ⟨c,(b.drop 3).drop 1,false⟩;generalize Zl fm false n ⟨c,(b.drop 3).drop 1,false⟩=IT at gb gl rK ⊢;obtain⟨⟨c',b',FF⟩,dJ⟩:=IT;simp only at gb gl rK ⊢;have qb:=QjQ ⟨c',b',FF⟩;generalize gC fm false ZC 0 ⟨⟨c',b',FF⟩,[],[],[],0,0,0⟩=Q at qb rK ⊢;obtain⟨⟨qc,qq,Tc⟩,a0,a1,a2,x0,x1,x2⟩:=Q;simp only[fm]at qb rK ⊢;obtain⟨b0,b1,b2,b3⟩:=qb;have k1:Qd qq.length=true:=Qe (by omega);have m1:decide (b'.length<=1000000/\True/\True/\True)=true:=ab ⟨by omega,trivial,trivial,trivial⟩;have m2:decide (dJ.length<=9223372036854775807/\a0.length<=9223372036854775807/\a1.length<=9223372036854775807/\a2.length<=9223372036854775807)=true:=by simp only[aa];omega
 simp only[k1,m1,m2,eb,aM,au,Bool.and_true,Bool.true_and,ag];cases Tc
 ·simp only[bh,ag]
  by_cases hz:qq=[]
  ·subst hz;cases hs:Qu ⟨(cI (b.take 3):Int),dJ,a0,a1,a2,x0,x1,x2⟩
   ·rw[hs]at rK;exact no (by rw[rK];simp)
   ·rw[hs]at rK;have:Zc b=some ⟨(cI (b.take 3):Int),dJ,a0,a1,a2,x0,x1,x2⟩:=by rw[rK];simp
    rw[this];rfl
  ·have SW:((qq.length:Int)==0)=false:=by
    simp only[beq_eq_false_iff_ne];cases qq with
    |nil=>exact(hz rfl).elim
    |cons _ _=>simp;omega
   simp only[SW,bh,ag];exact no (by rw[rK];simp[hz])
 ·simp only[bg,ah];exact no (by rw[rK];simp)
def A3:=A2.b8 88 QjR
theorem Quf:Qk Tryz.prog cu A3:=Qub.cQ Qb fun args d h=>by
 unfold QjR at h
 split at h
 ·obtain⟨h1,rfl⟩:=ak h;exact⟨by simp[D.refs],60,Que _ _ h1⟩
 ·cases h
theorem Cr(n:Int):(BitVec.ofInt IntKind.u32.bits n).toNat=(n%4294967296).toNat:=by
 rw[BitVec.toNat_ofInt];simp only[IntKind.bits]
 congr 1
theorem Ks(n:Int):IntKind.u32.wrap n=n%4294967296:=by
 simp[IntKind.wrap,IntKind.bits,IntKind.signed]
def rE(a b:Int):Int:=bits .u32 (fun _ u v=>u ^^^ v) a b
theorem Nk a b:0<=rE a b/\rE a b<4294967296:=by
 unfold rE bits;rw[Ks];omega
def kQ(n:Int):Int:=if n%2=1 then rE (n/2) 3988292384 else n/2
theorem QqK{n:Int}(h:0<=n/\n<4294967296):0<=kQ n/\kQ n<4294967296:=by
 unfold kQ
 split
 ·exact Nk _ _
 ·omega
theorem FC{n:Int}(h:0<=n/\n<4294967296):bits .u32 (fun _ u v=>u&&&v) n 1=n%2:=by
 unfold bits;rw[BitVec.toNat_and,Cr,Cr];have e:((1:Int)%4294967296).toNat=2^1-1:=by decide
 rw[e,Nat.and_two_pow_sub_one_eq_mod,Ks];omega
theorem QqL{n:Int}(h:0<=n/\n<4294967296):rE n 0=n:=by
 unfold rE bits;rw[BitVec.toNat_xor,Cr,Cr];have e:((0:Int)%4294967296).toNat=0:=by decide
 rw[e,Nat.xor_zero,Ks];omega
theorem half{n:Int}(h:0<=n):n.fdiv 2=n/2:=aQ _ (by omega)
def uy:Nat->Int->Int
 |0,n=>n
 |k+1,n=>uy k (kQ n)
def sG(n:Int):Int:=uy 8 n
def KT(n:Int)(l:bL):Int:=l.foldl (fun n c=>sG (rE n (c.toNat:Int))) n
theorem QqM(n:Int)(c:UInt8)(l:bL):KT n (c::l)=KT (sG (rE n (c.toNat:Int))) l:=by
 simp only[KT,List.foldl_cons]
theorem QjS(n:Int):KT n []=n:=by simp only[KT,List.foldl_nil]
def Jd(l:bL):Int:=rE 4294967295 (KT 4294967295 l)
theorem Ql4 l:0<=Jd l/\Jd l<4294967296:=Nk _ _
def Va(b:bL):bL:=b++fC (Jd b) 4
theorem H3 b:(Va b).length=b.length+4:=by simp[Va,Qs]
def Yi(b:bL):fG:=if 4<=b.length/\Va (b.take (b.length-4))=b then some (b.take (b.length-4))else none
theorem QqN b:Yi (Va b)=some b:=by
 have e:(Va b).take ((Va b).length-4)=b:=by
  rw[H3];simp[Va]
 unfold Yi;rw[e,ax ⟨by rw[H3];omega,rfl⟩]
theorem Qug{b x:bL}(h:Yi b=some x):b.length=x.length+4:=by
 unfold Yi at h
 split at h
 ·rename_i q;cases h;simp;omega
 ·cases h
theorem QqO(b:bL)(h:4<=b.length):(Va (b.take (b.length-4))).drop (b.length-4)=b.drop (b.length-4)↔Va (b.take (b.length-4))=b:=by
 have e:((b.take (b.length-4))).length=b.length-4:=by simp
 have e2:(Va (b.take (b.length-4))).drop (b.length-4)=fC (Jd (b.take (b.length-4))) 4:=by
  unfold Va;rw[List.drop_left' e]
 rw[e2];constructor
 ·intro q;unfold Va;rw[q,bn]
 ·intro q;have:=ap (List.drop (b.length-4)) q;rw[<-e2];exact this
def okF(n:Int)(load:bL):Bool:=decide (1<=n)&&decide (n<=1048575)&&decide (load.length<=600)
def YJ(n:Int)(load:bL):bL:=Va (fC n 6++fC load.length 2++load)
def pi(b:bL):gE:=match Yi b with
 |none=>none
 |some x=>if 8<=x.length/\cI ((x.drop 6).take 2)+8=x.length/\x.length<=608/\1<=cI (x.take 6)/\cI (x.take 6)<=1048575 then some ((cI (x.take 6):Int),x.drop 8)else none
theorem VV n load:(YJ n load).length=load.length+12:=by
 simp[YJ,H3,Qs];omega
theorem Ql5{n:Int}{load:bL}(h:okF n load=true):pi (YJ n load)=some (n,load):=by
 simp only[okF,ai,aa]at h;unfold pi YJ;rw[QqN];have l6:=Qs 6 n;have l2:=Qs 2 (load.length:Int);have t6:(fC n 6++fC (load.length:Int) 2++load).take 6=fC n 6:=by rw[ay,List.take_left' l6]
 have d6:(fC n 6++fC (load.length:Int) 2++load).drop 6=fC (load.length:Int) 2++load:=by rw[ay,List.drop_left' l6]
 have d8:(fC n 6++fC (load.length:Int) 2++load).drop 8=load:=by
  rw[show(8:Nat)=6+2 from rfl,<-bD,d6,List.drop_left' l2]
 have v6:(cI (fC n 6):Int)=n:=K9 6 n (by omega) (by omega);have v2:(cI (fC (load.length:Int) 2):Int)=load.length:=K9 2 _ (by omega) (by omega);have t2:(fC (load.length:Int) 2++load).take 2=fC (load.length:Int) 2:=List.take_left' l2;simp only[t6,d6,d8,t2];rw[ax ⟨by simp[l6,l2];omega,by simp[l6,l2];omega,by simp[l6,l2];omega,by omega,by omega⟩,v6]
theorem QAP{b:bL}{n:Int}{load:bL}(h:pi b=some (n,load)):okF n load=true/\YJ n load=b:=by
 unfold pi at h;cases hx:Yi b with
 |none=>simp[hx]at h
 |some x=>
  simp only[hx]at h
  split at h
  ·rename_i q;obtain⟨q1,q2,q3,q4,q5⟩:=q;simp only[aD,Prod.mk.injEq]at h;obtain⟨rfl,rfl⟩:=h;refine⟨by simp only[okF,ai,aa,bq];omega,?_⟩
   have e6:fC (cI (x.take 6):Int) 6=x.take 6:=by
    have:=NP (x.take 6);rw[bp,Nat.min_eq_left (by omega)]at this;exact this
   have e2:fC ((x.drop 8).length:Int) 2=(x.drop 6).take 2:=by
    have:=NP ((x.drop 6).take 2);rw[bp,bq,Nat.min_eq_left (by omega)]at this;rw[bq,show x.length-8=cI ((x.drop 6).take 2)by omega];exact this
   unfold YJ;rw[e6,e2,ay,show x.drop 8=(x.drop 6).drop 2 by rw[bD],bn,bn];unfold Yi at hx
   split at hx
   ·rename_i q;cases hx;exact q.2
   ·cases hx
  ·cases h
def kM(n:Int):Bool := @decide (0<=n/\n<4294967296) (Classical.propDecidable _)
theorem EF{n:Int}:kM n=true↔0<=n/\n<4294967296:=by unfold kM;exact @decide_eq_true_iff _ (Classical.propDecidable _)
theorem U6 a b:kM (rE a b)=true:=EF.2 (Nk a b)
theorem U7{n:Int}(h:kM n=true):kM (kQ n)=true:=EF.2 (QqK (EF.1 h))
theorem TK(c:UInt8):IntKind.u32.wrap (c.toNat:Int)=(c.toNat:Int):=by
 have:=c.toNat_lt;rw[Ks];omega
theorem XC(b:bL)(i:Nat)(n:Int)(h:i<b.length)(d:UInt8):KT n (b.drop i)=KT (sG (rE n ((b.getD i d).toNat:Int))) (b.drop (i+1)):=by
 have e:b.getD i d=b[i]:=by simp[h]
 have e2:b.drop i=b[i]::b.drop (i+1):=aJ h;rw[e2,e];exact QqM _ _ _
theorem PW{n:Int}(h:0<=n/\n<4294967296):bits .u32 (fun _ u v=>u&&&v) n 255=n%256:=by
 unfold bits;rw[BitVec.toNat_and,Cr,Cr];have e:((255:Int)%4294967296).toNat=2^8-1:=by decide
 rw[e,Nat.and_two_pow_sub_one_eq_mod,Ks];omega
theorem WY(n:Int):UInt8.ofNat (IntKind.u8.wrap n).toNat=QI n:=rfl
theorem QqP(n:Int):QI (n%256)=QI n:=by
 unfold QI;rw[EI,EI];congr 2;omega
theorem S4(n:Int):fC n 4=[QI n,QI (n.fdiv 256),QI ((n.fdiv 256).fdiv 256),QI (((n.fdiv 256).fdiv 256).fdiv 256)]:=rfl
theorem Qa{α:Type}{c:Bool}{x y z:α}(h:c=true)(h2:x=z):cond c x y=z:=by rw[h];exact h2
theorem Qq{α:Type}{c:Bool}{x y z:α}(h:c=false)(h2:y=z):cond c x y=z:=by rw[h];exact h2
theorem Qw{α:Type}{c:Bool}{x y z:α}(h1:c=true->x=z)(h2:c=false->y=z):cond c x y=z:=by cases c;exact h2 rfl;exact h1 rfl
open Go.Proofs
def QnH:bW->bO
 |[.int .u32 n]=>some (kM n,.int .u32 (kQ n))
 |_=>none
def Quj(n:Int):=eO cu A3 40 212 [.int .u32 n]
theorem QAQ n:Quj n=(some (D.int IntKind.u32 (bits IntKind.u32 (fun(x:Nat) (u v:BitVec x)=>u ^^^ v) (Int.fdiv n (2:Int)) (IntKind.wrap IntKind.u32 (bits IntKind.u32 (fun(x:Nat) (u v:BitVec x)=>u&&&v) n (1:Int)*(3988292384:Int)))))):=by kernel_rfl
theorem QAR n(h:(kM n)=true):Quj n=some (.int .u32 (kQ n)):=by
 rw[QAQ];have hr:=EF.1 h;rw[FC hr,half hr.1]
 congr 2
 unfold kQ
 split
 ·rename_i e;rw[e,Ks];rfl
 ·rename_i e;have e0:n%2=0:=by omega
  rw[e0,Ks];exact QqL (by omega)
def A4:=A3.b8 212 QnH
theorem Quk:Qk Tryz.prog cu A4:=Quf.cQ Qb fun args d h=>by
 unfold QnH at h
 split at h
 ·obtain⟨h1,rfl⟩:=ak h;exact⟨by simp[D.refs],40,QAR _ h1⟩
 ·cases h
def QnI:bW->bO
 |[.int .u32 n]=>some (kM n,.int .u32 (kQ n))
 |_=>none
def Qum(n:Int):=eO cu A4 40 209 [.int .u32 n]
theorem QAS n:Qum n=(let Z0:Int:=Int.fdiv n (2:Int);bif bits IntKind.u32 (fun(x:Nat) (u v:BitVec x)=>u&&&v) n (1:Int)==(1:Int)then some (D.int IntKind.u32 (bits IntKind.u32 (fun(x:Nat) (u v:BitVec x)=>u ^^^ v) Z0 (3988292384:Int)))else some (D.int IntKind.u32 Z0)):=by kernel_rfl
theorem QAT n(h:(kM n)=true):Qum n=some (.int .u32 (kQ n)):=by
 (rw[QAS];conv=>zeta)
 have hr:=EF.1 h;rw[FC hr,half hr.1];unfold kQ
 by_cases e:n%2=1
 ·rw[ax e,CW e];rfl
 ·rw[aw e,CX e];rfl
def A5:=A4.b8 209 QnI
theorem Qun:Qk Tryz.prog cu A5:=Quk.cQ Qb fun args d h=>by
 unfold QnI at h
 split at h
 ·obtain⟨h1,rfl⟩:=ak h;exact⟨by simp[D.refs],40,QAT _ h1⟩
 ·cases h
structure Quo where
 n:Int
 i:Nat
def PX(n:Int)(i:Nat):bX:=[(0,.int .u32 n),(17,.int .i64 (i:Int))]
def I4(n:Int)(i:Nat):bP:=[]
def TL n i:=dQ cu A5 211 6 60 0 [0,17] [0] [] (PX n i) (I4 n i)
theorem QFn n(i:Nat):TL n i=(bif decide ((↑i:Int)<(8:Int))then bif kM n then some ((X.normal,[(0,D.int IntKind.u32 (kQ n)),(17,D.int .i64 (IntKind.wrap .i64 ((↑i:Int)+(1:Int))))]),[])else none else some ((X.exit (2:Nat),[(0,D.int IntKind.u32 n)]),[])):=by kernel_rfl
def Ig(n:Int)(i:Nat):RT RC:=.leaf (.exit 2) [(0,.int .u32 (uy (8-i) n))] []
def Et(n:Int)(i:Nat):Prop:=i<=8/\kM n=true
def wG:QD RC Quo where
 k:=0
 cM q:=PX q.n q.i
 cK q:=I4 q.n q.i
 fin q:=Ig q.n q.i
 Inv q:=Et q.n q.i
 μ q:=8-q.i
theorem QqQ n i(hI:Et n i):c8 (TL n i) (dj wG ⟨n,i⟩):=by
 rw[QFn];unfold Et at hI;obtain⟨h1,h2⟩:=hI
 by_cases cU:i<8
 ·have c1:decide ((i:Int)<8)=true:=by simp;omega
  have cP:=eG i (by omega)
  rw[c1,h2,cP];refine Qi ⟨kQ n,i+1⟩ ⟨cU,U7 h2⟩ (by simp only[wG];omega) ?_ rfl rfl;simp only[wG,Ig,show 8-i=(8-(i+1))+1 by omega,uy]
 ·have hi:i=8:=by omega
  have c1:decide ((i:Int)<8)=false:=by simp;omega
  rw[c1];exact Qh [] (by simp only[wG,Ig,hi,Nat.sub_self,uy,RT.val]) rfl
def PY(env:bX)(os:bP):Option (Bool×Quo):=match env,os with
 |[(0,.int .u32 n),(17,.int .i64 x0)],[]=>some (decide (x0=0)&&kM n,⟨n,0⟩)
 |_,_=>none
def A6:=A5.cJ 211 6 (ey cu [] [0,17] wG PY)
theorem Qur:Qk Tryz.prog cu A6:=by
 refine Qun.cq Qb (by kernel_rfl) wG 60 [0,17] [0] [] [0,17] PY (fun q hI=>?_) ?_
 ·obtain⟨n,i⟩:=q;refine⟨?_,?_,QqQ n i hI⟩
  ·simp_all[Qj,wG,PX,I4,Et,D.refs,Obj.refs,cV]
  ·simp_all[wG,Ig,I4,Et,RT.cT,Qj,D.refs,Obj.refs,cV]
 ·intro env os b q cN hb;unfold PY at cN
  split at cN
  ·cases cN;simp only[ai,aa]at hb;obtain⟨rfl,h⟩:=hb;exact⟨⟨aK _,h⟩,rfl,rfl⟩
  ·cases cN
structure Qus where
 n:Int
 i:Nat
def PZ(n:Int)(i:Nat):bX:=[(0,.int .u32 n),(6,.int .i64 (i:Int))]
def I5(n:Int)(i:Nat):bP:=[]
def TM n i:=dQ cu A6 206 6 60 0 [0,6] [0] [] (PZ n i) (I5 n i)
theorem QFo n(i:Nat):TM n i=(bif decide ((↑i:Int)<(8:Int))then bif kM n then some ((X.normal,[(0,D.int IntKind.u32 (kQ n)),(6,D.int .i64 (IntKind.wrap .i64 ((↑i:Int)+(1:Int))))]),[])else none else some ((X.exit (2:Nat),[(0,D.int IntKind.u32 n)]),[])):=by kernel_rfl
def Ih(n:Int)(i:Nat):RT RC:=.leaf (.exit 2) [(0,.int .u32 (uy (8-i) n))] []
def Eu(n:Int)(i:Nat):Prop:=i<=8/\kM n=true
def wH:QD RC Qus where
 k:=0
 cM q:=PZ q.n q.i
 cK q:=I5 q.n q.i
 fin q:=Ih q.n q.i
 Inv q:=Eu q.n q.i
 μ q:=8-q.i
theorem QqR n i(hI:Eu n i):c8 (TM n i) (dj wH ⟨n,i⟩):=by
 rw[QFo];unfold Eu at hI;obtain⟨h1,h2⟩:=hI
 by_cases cU:i<8
 ·have c1:decide ((i:Int)<8)=true:=by simp;omega
  have cP:=eG i (by omega)
  rw[c1,h2,cP];refine Qi ⟨kQ n,i+1⟩ ⟨cU,U7 h2⟩ (by simp only[wH];omega) ?_ rfl rfl;simp only[wH,Ih,show 8-i=(8-(i+1))+1 by omega,uy]
 ·have hi:i=8:=by omega
  have c1:decide ((i:Int)<8)=false:=by simp;omega
  rw[c1];exact Qh [] (by simp only[wH,Ih,hi,Nat.sub_self,uy,RT.val]) rfl
def P0(env:bX)(os:bP):Option (Bool×Qus):=match env,os with
 |[(0,.int .u32 n),(6,.int .i64 x0)],[]=>some (decide (x0=0)&&kM n,⟨n,0⟩)
 |_,_=>none
def A7:=A6.cJ 206 6 (ey cu [] [0,6] wH P0)
theorem Quv:Qk Tryz.prog cu A7:=by
 refine Qur.cq Qb (by kernel_rfl) wH 60 [0,6] [0] [] [0,6] P0 (fun q hI=>?_) ?_
 ·obtain⟨n,i⟩:=q;refine⟨?_,?_,QqR n i hI⟩
  ·simp_all[Qj,wH,PZ,I5,Eu,D.refs,Obj.refs,cV]
  ·simp_all[wH,Ih,I5,Eu,RT.cT,Qj,D.refs,Obj.refs,cV]
 ·intro env os b q cN hb;unfold P0 at cN
  split at cN
  ·cases cN;simp only[ai,aa]at hb;obtain⟨rfl,h⟩:=hb;exact⟨⟨aK _,h⟩,rfl,rfl⟩
  ·cases cN
structure Quw where
 (n:Int)(c:Bool)(b:bL)(i:Nat)
def P1(n:Int)(c:Bool)(b:bL)(i:Nat):bX:=[(0,.int .u32 n),(7,.sl (C:=RC) .u8 c b),(8,.int .i64 (b.length)),(9,.int .i64 (i:Int))]
def I6(n:Int)(c:Bool)(b:bL)(i:Nat):bP:=[]
def TN n c b i:=dQ cu A7 211 2 60 0 [0,7,8,9] [0] [] (P1 n c b i) (I6 n c b i)
theorem QFp n c b i:TN n c b i=(let Z0:Int:=(i:Int);let Z1:Int:=(b.length:Int);let Z2:Int:=bits IntKind.u32 (fun(x:Nat) (u v:BitVec x)=>u ^^^ v) n (IntKind.wrap IntKind.u32 (↑(UInt8.toNat (List.getD b Z0.toNat (UInt8.ofBitVec (BitVec.ofNat 8 (nat_lit 0))))):Int));bif decide (Z0<Z1)then b7 (dH Z0 Z1) (b7 (kM Z2) (some ((X.normal,[(0,D.int IntKind.u32 (uy 8 Z2)),(7,D.sl b9.u8 c b),(8,cj Z1),(9,cj (c6 (Z0+1)))]),[])))else some ((X.exit 0,[(0,D.int IntKind.u32 n)]),[])):=by kernel_rfl
def Ii(n:Int)(c:Bool)(b:bL)(i:Nat):RT RC:=.leaf (.exit 0) [(0,.int .u32 (KT n (b.drop i)))] []
def Ew(n:Int)(c:Bool)(b:bL)(i:Nat):Prop:=i<=b.length/\b.length<=1000000
def wI:QD RC Quw where
 k:=0
 cM q:=P1 q.n q.c q.b q.i
 cK q:=I6 q.n q.c q.b q.i
 fin q:=Ii q.n q.c q.b q.i
 Inv q:=Ew q.n q.c q.b q.i
 μ q:=q.b.length-q.i
theorem QqS n c b i(hI:Ew n c b i):c8 (TN n c b i) (dj wI ⟨n,c,b,i⟩):=by
 (rw[QFp];delta b7 dH cj c6;conv=>zeta)
 unfold Ew at hI;obtain⟨h1,h2⟩:=hI
 by_cases cU:i<b.length
 ·have cP:=eG i (by omega)
  have eu:=ga (show i<b.length by omega)
  have et:=fL (show i<b.length by omega)
  have dh:=bw i
  simp only[cP,eu,et,dh,ag];have hx:∀x:Int,kM (bits .u32 (fun _ u v=>u ^^^ v) n x)=true:=fun x=>U6 n x;simp only[TK,hx,ag];refine Qi ⟨sG (rE n ((b.getD i 0).toNat:Int)),c,b,i+1⟩ ⟨cU,h2⟩ (by simp only[wI];omega) ?_ rfl rfl;simp only[wI,Ii,XC b i n cU 0]
 ·have hi:i=b.length:=by omega
  have c1:decide ((i:Int)<b.length)=false:=by simp;omega
  rw[c1];exact Qh [] (by simp only[wI,Ii,hi,List.drop_length,QjS,RT.val]) rfl
def P2(env:bX)(os:bP):Option (Bool×Quw):=match env,os with
 |[(0,.int .u32 n),(7,.sl .u8 c b),(8,.int .i64 x0),(9,.int .i64 x1)],[]=>some (decide (x0=b.length)&&decide (x1=0)&&decide (b.length<=1000000),⟨n,c,b,0⟩)
 |_,_=>none
def A8:=A7.cJ 211 2 (ey cu [] [0,7,8,9] wI P2)
theorem Quz:Qk Tryz.prog cu A8:=by
 refine Quv.cq Qb (by kernel_rfl) wI 60 [0,7,8,9] [0] [] [0,7,8,9] P2 (fun q hI=>?_) ?_
 ·obtain⟨n,c,b,i⟩:=q;refine⟨?_,?_,QqS n c b i hI⟩
  ·simp_all[Qj,wI,P1,I6,Ew,D.refs,Obj.refs,cV]
  ·simp_all[wI,Ii,I6,Ew,RT.cT,Qj,D.refs,Obj.refs,cV]
 ·intro env os b q cN hb;unfold P2 at cN
  split at cN
  ·cases cN;simp only[ai,aa]at hb;obtain⟨⟨rfl,rfl⟩,h⟩:=hb;exact⟨⟨aK _,h⟩,rfl,rfl⟩
  ·cases cN
structure QuA where
 (n:Int)(c:Bool)(b:bL)(i:Nat)
def PS(n:Int)(c:Bool)(b:bL)(i:Nat):bX:=[(0,.int .u32 n),(1,.sl (C:=RC) .u8 c b),(5,.int .i64 (i:Int))]
def I7(n:Int)(c:Bool)(b:bL)(i:Nat):bP:=[]
def UD n c b i:=dQ cu A8 206 2 60 0 [0,1,5] [0] [] (PS n c b i) (I7 n c b i)
theorem QFq n c b i:UD n c b i=(let Z0:Int:=(i:Int);let Z1:Int:=bits IntKind.u32 (fun(x:Nat) (u v:BitVec x)=>u ^^^ v) n (IntKind.wrap IntKind.u32 (↑(UInt8.toNat (List.getD b Z0.toNat (UInt8.ofBitVec (BitVec.ofNat 8 (nat_lit 0))))):Int));b7 (Qd b.length) (bif decide (Z0<(b.length:Int))then b7 (dH Z0 (b.length:Int)) (b7 (kM Z1) (some ((X.normal,[(0,D.int IntKind.u32 (uy 8 Z1)),(1,D.sl b9.u8 c b),(5,cj (c6 (Z0+1)))]),[])))else some ((X.exit 0,[(0,D.int IntKind.u32 n)]),[]))):=by kernel_rfl
def Ip(n:Int)(c:Bool)(b:bL)(i:Nat):RT RC:=.leaf (.exit 0) [(0,.int .u32 (KT n (b.drop i)))] []
def Ey(n:Int)(c:Bool)(b:bL)(i:Nat):Prop:=i<=b.length/\b.length<=1000000
def wJ:QD RC QuA where
 k:=0
 cM q:=PS q.n q.c q.b q.i
 cK q:=I7 q.n q.c q.b q.i
 fin q:=Ip q.n q.c q.b q.i
 Inv q:=Ey q.n q.c q.b q.i
 μ q:=q.b.length-q.i
theorem QqT n c b i(hI:Ey n c b i):c8 (UD n c b i) (dj wJ ⟨n,c,b,i⟩):=by
 (rw[QFq];delta b7 dH cj c6;conv=>zeta)
 unfold Ey at hI;obtain⟨h1,h2⟩:=hI;have jo:Qd b.length=true:=Qe (by omega)
 by_cases cU:i<b.length
 ·have cP:=eG i (by omega)
  have eu:=ga (show i<b.length by omega)
  have et:=fL (show i<b.length by omega)
  have dh:=bw i
  simp only[cP,eu,et,dh,ag];have hx:∀x:Int,kM (bits .u32 (fun _ u v=>u ^^^ v) n x)=true:=fun x=>U6 n x;simp only[TK,hx,jo,ag];refine Qi ⟨sG (rE n ((b.getD i 0).toNat:Int)),c,b,i+1⟩ ⟨cU,h2⟩ (by simp only[wJ];omega) ?_ rfl rfl;simp only[wJ,Ip,XC b i n cU 0]
 ·have hi:i=b.length:=by omega
  have c1:decide ((i:Int)<b.length)=false:=by simp;omega
  rw[jo,c1];exact Qh [] (by simp only[wJ,Ip,hi,List.drop_length,QjS,RT.val]) rfl
def PT(env:bX)(os:bP):Option (Bool×QuA):=match env,os with
 |[(0,.int .u32 n),(1,.sl .u8 c b),(5,.int .i64 x0)],[]=>some (decide (x0=0)&&decide (b.length<=1000000),⟨n,c,b,0⟩)
 |_,_=>none
def A9:=A8.cJ 206 2 (ey cu [] [0,1,5] wJ PT)
theorem QuD:Qk Tryz.prog cu A9:=by
 refine Quz.cq Qb (by kernel_rfl) wJ 60 [0,1,5] [0] [] [0,1,5] PT (fun q hI=>?_) ?_
 ·obtain⟨n,c,b,i⟩:=q;refine⟨?_,?_,QqT n c b i hI⟩
  ·simp_all[Qj,wJ,PS,I7,Ey,D.refs,Obj.refs,cV]
  ·simp_all[wJ,Ip,I7,Ey,RT.cT,Qj,D.refs,Obj.refs,cV]
 ·intro env os b q cN hb;unfold PT at cN
  split at cN
  ·cases cN;simp only[ai,aa]at hb;obtain⟨rfl,h⟩:=hb;exact⟨⟨aK _,h⟩,rfl,rfl⟩
  ·cases cN
def UE:bW->bO
 |[.int .u32 n,.sl .u8 c b]=>some (decide (b.length<=1000000),.int .u32 (KT n b))
 |_=>none
def U8(n:Int)(c:Bool)(b:bL):=eO cu A9 60 211 [.int .u32 n,.sl (C:=RC) .u8 c b]
theorem QHO n c b:U8 n c b=(let Z0:Nat:=List.length b;b7 (Qd Z0) (b7 (decide ((↑Z0:Int)=(↑Z0:Int))&&true&&decide (Z0<=(1000000:Nat))) (some (D.int IntKind.u32 (KT n (List.drop (0:Nat) b)))))):=by kernel_rfl
theorem QHP n c b(h:(decide (b.length<=1000000))=true):U8 n c b=some (.int .u32 (KT n b)):=by
 (rw[QHO];delta b7;conv=>zeta)
 have hl:=af h;rw[Qe (by omega),h];simp
def Ba:=A9.b8 211 UE
theorem QuE:Qk Tryz.prog cu Ba:=QuD.cQ Qb fun args d h=>by
 unfold UE at h
 split at h
 ·obtain⟨h1,rfl⟩:=ak h;exact⟨by simp[D.refs],60,QHP _ _ _ h1⟩
 ·cases h
def UF:bW->bO
 |[.int .u32 n,.sl .u8 c b]=>some (decide (b.length<=1000000),.int .u32 (KT n b))
 |_=>none
def U9(n:Int)(c:Bool)(b:bL):=eO cu Ba 60 206 [.int .u32 n,.sl (C:=RC) .u8 c b]
theorem QHS n c b:U9 n c b=(bif decide (List.length b<=(1000000:Nat))then some (D.int IntKind.u32 (KT n (List.drop (0:Nat) b)))else none):=by kernel_rfl
theorem QHT n c b(h:(decide (b.length<=1000000))=true):U9 n c b=some (.int .u32 (KT n b)):=by
 rw[QHS];have hl:=af h;rw[h];simp
def Bb:=Ba.b8 206 UF
theorem QuF:Qk Tryz.prog cu Bb:=QuE.cQ Qb fun args d h=>by
 unfold UF at h
 split at h
 ·obtain⟨h1,rfl⟩:=ak h;exact⟨by simp[D.refs],60,QHT _ _ _ h1⟩
 ·cases h
def QuG:bW->bO
 |[.sl .u8 c b]=>some (decide (b.length<=1000000),.int .u32 (Jd b))
 |_=>none
def UG(c:Bool)(b:bL):=eO cu Bb 60 207 [.sl (C:=RC) .u8 c b]
theorem QFr c b:UG c b=(bif decide (List.length b<=(1000000:Nat))then some (D.int IntKind.u32 (bits IntKind.u32 (fun(x:Nat) (u v:BitVec x)=>u ^^^ v) (4294967295:Int) (KT (4294967295:Int) b)))else none):=by kernel_rfl
theorem QFs c b(h:(decide (b.length<=1000000))=true):UG c b=some (.int .u32 (Jd b)):=by
 rw[QFr];rw[h];rfl
def Bc:=Bb.b8 207 QuG
theorem QuH:Qk Tryz.prog cu Bc:=QuF.cQ Qb fun args d h=>by
 unfold QuG at h
 split at h
 ·obtain⟨h1,rfl⟩:=ak h;exact⟨by simp[D.refs],60,QFs _ _ h1⟩
 ·cases h
def QuI:bW->bO
 |[.sl .u8 c b]=>some (decide (b.length<=1000000),.int .u32 (Jd b))
 |_=>none
def UH(c:Bool)(b:bL):=eO cu Bc 60 193 [.sl (C:=RC) .u8 c b]
theorem QFt c b:UH c b=(bif decide (List.length b<=(1000000:Nat))then some (D.int IntKind.u32 (bits IntKind.u32 (fun(x:Nat) (u v:BitVec x)=>u ^^^ v) (4294967295:Int) (KT (4294967295:Int) b)))else none):=by kernel_rfl
theorem QFu c b(h:(decide (b.length<=1000000))=true):UH c b=some (.int .u32 (Jd b)):=by
 rw[QFt];rw[h];rfl
def MS:=Bc.b8 193 QuI
theorem QqU:Qk Tryz.prog cu MS:=QuH.cQ Qb fun args d h=>by
 unfold QuI at h
 split at h
 ·obtain⟨h1,rfl⟩:=ak h;exact⟨by simp[D.refs],60,QFu _ _ h1⟩
 ·cases h
def QnN:bW->bO
 |[.sl .u8 c b]=>some (decide (b.length<=1000000),.sl (C:=RC) .u8 false (Va b))
 |_=>none
def QuK(c:Bool)(b:bL):=eO cu MS 60 197 [.sl (C:=RC) .u8 c b]
theorem QAU c b:QuK c b=(let Z0:=b.length;let Z1:Int:=(Z0:Int);let Z2:=c6 (Z1+4);let Z3:=Int.toNat Z1;let Z4:=List.replicate Z3 (UInt8.ofBitVec (BitVec.ofNat 8 (nat_lit 0)));let Z5:=List.take Z4.length b++List.drop Z0 Z4;let Z6:bL:=[UInt8.ofNat (IntKind.wrap IntKind.u8 (Jd b)).toNat];let Z7:=Z5.length+Z6.length;let Z8:=List.length (Z5++Z6);let Z9:=Int.fdiv (Jd b) 256;let db:bL:=[UInt8.ofNat (IntKind.wrap IntKind.u8 Z9).toNat];let dB:=List.length (Z5++Z6++db);let eo:=Int.fdiv Z9 256;let fa:bL:=[UInt8.ofNat (IntKind.wrap IntKind.u8 eo).toNat];let fM:=List.length (Z5++Z6++db++fa);let fz:bL:=[UInt8.ofNat (IntKind.wrap IntKind.u8 (Int.fdiv eo 256)).toNat];b7 (Qd Z0) (b7 (Qd Z0) (b7 (decide ((0:Int)<=Z1/\Z1<=Z2)&&Qg Z2.toNat 1) (b7 (Nat.beq Z3 Z4.length&&Qd Z3) (b7 (decide (Z0<=1000000)) (b7 (Nat.beq Z3 Z5.length&&Qg (Z3+Z6.length) 1) (b7 (Nat.beq Z7 Z8&&Qg (Z7+db.length) 1) (b7 (Nat.beq (Z8+db.length) dB&&Qg (Z8+db.length+fa.length) 1) (b7 (Nat.beq (dB+fa.length) fM&&Qg (dB+fa.length+fz.length) 1) (b7 (Nat.beq (fM+fz.length) (Z5++Z6++db++fa++fz).length) (some (D.sl b9.u8 false (Z5++Z6++db++fa++fz))))))))))))):=by kernel_rfl
theorem QAV c b(h:(decide (b.length<=1000000))=true):QuK c b=some (.sl (C:=RC) .u8 false (Va b)):=by
 (rw[QAU];delta b7 c6;conv=>zeta)
 have hl:=af h;have t1:((b.length:Int)).toNat=b.length:=by simp
 have t2:b.take (List.replicate b.length (⟨0#8⟩:UInt8)).length=b:=by simp
 have t3:(List.replicate b.length (⟨0#8⟩:UInt8)).drop b.length=[]:=by simp
 have w4:IntKind.i64.wrap ((b.length:Int)+4)=(b.length:Int)+4:=cC (by omega) (by omega);have t4:((b.length:Int)+4).toNat=b.length+4:=by omega
 simp only[t1,t2,t3,t4,w4,aR,WY,ay,aP,aH,aE,bH,aC,bt,List.take_length,aN,Nat.reduceAdd,Nat.add_assoc];have eb:∀n:Nat,n.beq n=true:=fun n=>by simp
 have es:∀k:Nat,k<=10->Qg (b.length+k) 1=true:=fun k hk=>Zt (by omega);simp only[eb,es,Nat.reduceLeDiff,au,Bool.true_and,ag]
 repeat (refine Qa (by first|assumption|exact Qe (by omega)|exact Zt (by omega)|(simp;done)|(simp;omega)|(simp[Qg];omega)) ?_)
 rfl
def MT:=MS.b8 197 QnN
theorem QqV:Qk Tryz.prog cu MT:=QqU.cQ Qb fun args d h=>by
 unfold QnN at h
 split at h
 ·obtain⟨h1,rfl⟩:=ak h;exact⟨by simp[D.refs],60,QAV _ _ h1⟩
 ·cases h
def QnO:bW->bO
 |[.sl .u8 c b]=>some (decide (b.length<=1000000),.sl (C:=RC) .u8 false (Va b))
 |_=>none
def QuM(c:Bool)(b:bL):=eO cu MT 60 167 [.sl (C:=RC) .u8 c b]
theorem QAW c b:QuM c b=(let Z0:Nat:=(0:Nat)+b.length;let Z1:=List.length ([]++b);let Z2:=Jd b;let Z3:bL:=[UInt8.ofNat (IntKind.wrap IntKind.u8 (bits IntKind.u32 (fun(x:Nat) (u v:BitVec x)=>u&&&v) Z2 255)).toNat,UInt8.ofNat (IntKind.wrap IntKind.u8 (bits IntKind.u32 (fun(x:Nat) (u v:BitVec x)=>u&&&v) (Int.fdiv Z2 256) 255)).toNat,UInt8.ofNat (IntKind.wrap IntKind.u8 (bits IntKind.u32 (fun(x:Nat) (u v:BitVec x)=>u&&&v) (Int.fdiv Z2 65536) 255)).toNat,UInt8.ofNat (IntKind.wrap IntKind.u8 (Int.fdiv Z2 16777216)).toNat];b7 (decide (b.length<=1000000)) (b7 (Qg Z0 1) (b7 (Nat.beq Z0 Z1&&Qg (Z0+Z3.length) 1) (b7 (Nat.beq (Z1+Z3.length) ([]++b++Z3).length) (some (D.sl b9.u8 false ([]++b++Z3))))))):=by kernel_rfl
theorem QAX c b(h:(decide (b.length<=1000000))=true):QuM c b=some (.sl (C:=RC) .u8 false (Va b)):=by
 (rw[QAW];delta b7;conv=>zeta)
 have hl:=af h;have hr:=Ql4 b;have f8:(Jd b).fdiv 256=Jd b/256:=aQ _ (by omega);have f16:(Jd b).fdiv 65536=Jd b/65536:=aQ _ (by omega);have f24:(Jd b).fdiv 16777216=Jd b/16777216:=aQ _ (by omega);have g1:((Jd b).fdiv 256).fdiv 256=Jd b/65536:=by rw[f8,aQ _ (by omega)];omega
 have g2:(((Jd b).fdiv 256).fdiv 256).fdiv 256=Jd b/16777216:=by rw[g1,aQ _ (by omega)];omega
 simp only[f8,f16,f24,PW hr,PW (n:=Jd b/256) (by omega),PW (n:=Jd b/65536) (by omega),WY,QqP,aH,aE,bH,aC]
 iterate 4 refine Qa (by first|exact Qe (by simp;omega)|exact Qe (by omega)|(simp[Qg];done)|(simp[Qg];omega)|omega) ?_
 rw[Va,S4,g2,g1,f8]
def MU:=MT.b8 167 QnO
theorem QqW:Qk Tryz.prog cu MU:=QqV.cQ Qb fun args d h=>by
 unfold QnO at h
 split at h
 ·obtain⟨h1,rfl⟩:=ak h;exact⟨by simp[D.refs],60,QAX _ _ h1⟩
 ·cases h
def QnP:bW->bO
 |[.sl .u8 c b]=>some (decide (b.length<=1000000),.cG (cL .u8 (Yi b).isNone ((Yi b).getD []) (cH (bif(Yi b).isNone then 50 else 0) .bN)))
 |_=>none
def QuO(c:Bool)(b:bL):=eO cu MU 60 178 [.sl (C:=RC) .u8 c b]
theorem QAY c b:QuO c b=(let Z0:=b.length;let Z1:=c6 ((Z0:Int)-4);let Z2:fI:=some (D.cG (D.bI (D.sl b9.u8 true []) (.bI (cj 50) .bN)));let Z3:=Int.toNat Z1;let Z4:=List.drop 0 (List.take Z3 b);let Z5:=List.replicate Z3 (UInt8.ofBitVec (BitVec.ofNat 8 (nat_lit 0)));let Z6:=List.take Z5.length b++List.drop Z0 Z5;b7 (Qd Z0) (bif decide (Z1<0)then Z2 else b7 (decide ((0:Int)<=0/\(0:Int)<=Z1/\Z1<=(Z0:Int)/\Z1=Z1)) (b7 (decide (Z4.length<=1000000)) (b7 (decide ((0:Int)<=Z1/\Z1<=(↑(Va Z4).length:Int))) (b7 (decide ((0:Int)<=Z1/\Z1<=(Z0:Int))) (bif !(fun(l:List (RA b9.u8))=>l) (List.drop Z3 (Va Z4))==(fun(l:List (RA b9.u8))=>l) (List.drop Z3 b)then Z2 else b7 (decide ((0:Int)<=Z1/\Z1<=Z1)&&Qg Z3 1) (b7 (Nat.beq Z3 Z5.length&&Qd Z3) (b7 (Nat.beq Z3 Z6.length) (some (D.cG (D.bI (D.sl b9.u8 false Z6) (.bI (cj 0) .bN)))))))))))):=by kernel_rfl
theorem QAZ c b(h:(decide (b.length<=1000000))=true):QuO c b=some (.cG (cL .u8 (Yi b).isNone ((Yi b).getD []) (cH (bif(Yi b).isNone then 50 else 0) .bN))):=by
 (rw[QAY];delta b7 cj c6;conv=>zeta)
 have hl:=af h;have wm:IntKind.i64.wrap ((b.length:Int)-4)=(b.length:Int)-4:=cC (by omega) (by omega);have tm:((b.length:Int)-4).toNat=b.length-4:=by omega
 have ts:(b.take (b.length-4)).length=b.length-4:=by simp
 simp only[wm,tm,bG];refine Qa (Qe (by omega)) ?_;refine Qw (fun h0=>?_) fun h0=>?_<;>simp only[aa,ae]at h0
 ·have e:Yi b=none:=by unfold Yi;rw[aw (by omega)]
  rw[e];rfl
 iterate 2 refine Qa (by first|exact Qe (by simp;omega)|exact Qe (by omega)|(simp[Qg];done)|(simp[Qg];omega)|omega) ?_
 refine Qa (by simp[H3,ts];omega) ?_
 iterate 1 refine Qa (by first|exact Qe (by simp;omega)|exact Qe (by omega)|(simp[Qg];done)|(simp[Qg];omega)|omega) ?_
 have ht:=QqO b (by omega)
 by_cases hq:Va (b.take (b.length-4))=b
 ·have e:Yi b=some (b.take (b.length-4)):=by unfold Yi;rw[ax ⟨by omega,hq⟩]
  rw[ht.2 hq,e];have tr:b.take (List.replicate (b.length-4) (⟨0#8⟩:UInt8)).length=b.take (b.length-4):=by rw[bt]
  have td:(List.replicate (b.length-4) (⟨0#8⟩:UInt8)).drop b.length=[]:=by simp
  simp only[beq_self_eq_true,bg,ah,tr,td,aR,bt,ts];have lk:Qd (b.length-4)=true:=Qe (by omega);have eb:∀n:Nat,n.beq n=true:=fun n=>by simp
  simp only[lk,eb,au,ag]
  repeat (refine Qa (by first|assumption|exact Qe (by omega)|exact Zt (by omega)|(simp;done)|(simp;omega)|(simp[Qg];omega)) ?_)
  rfl
 ·have e:Yi b=none:=by unfold Yi;rw[aw (fun q=>hq q.2)]
  rw[e,show((Va (b.take (b.length-4))).drop (b.length-4)==b.drop (b.length-4))=false by simpa using fun q=>hq (ht.1 q)];rfl
def MV:=MU.b8 178 QnP
theorem QqX:Qk Tryz.prog cu MV:=QqW.cQ Qb fun args d h=>by
 unfold QnP at h
 split at h
 ·obtain⟨h1,rfl⟩:=ak h;exact⟨by simp[D.refs],60,QAZ _ _ h1⟩
 ·cases h
def QnQ:bW->bO
 |[.sl .u8 c b]=>some (decide (b.length<=1000000),.cG (cL .u8 (Yi b).isNone ((Yi b).getD []) (cH (bif(Yi b).isNone then 50 else 0) .bN)))
 |_=>none
def QuQ(c:Bool)(b:bL):=eO cu MV 60 156 [.sl (C:=RC) .u8 c b]
theorem QA0 c b:QuQ c b=(let Z0:Int:=(b.length:Int);let Z1:=c6 (Z0-4);let Z2:fI:=some (D.cG (D.bI (D.sl b9.u8 true []) (.bI (cj 50) .bN)));let Z3:Bool:=decide ((0:Int)<=0/\(0:Int)<=Z1/\Z1<=Z0);let Z4:=List.drop 0 (List.take Z1.toNat b);let Z5:Nat:=(0:Nat)+Z4.length;b7 (Qd b.length) (bif decide (Z1<0)then Z2 else b7 Z3 (b7 (decide (Z4.length<=1000000)) (bif !(fun(l:List (RA b9.u8))=>l) (Va Z4)==(fun(l:List (RA b9.u8))=>l) b then Z2 else b7 Z3 (b7 (Qg Z5 1) (b7 (Nat.beq Z5 ([]++Z4).length) (some (D.cG (D.bI (D.sl b9.u8 false ([]++Z4)) (.bI (cj 0) .bN)))))))))):=by kernel_rfl
theorem QA1 c b(h:(decide (b.length<=1000000))=true):QuQ c b=some (.cG (cL .u8 (Yi b).isNone ((Yi b).getD []) (cH (bif(Yi b).isNone then 50 else 0) .bN))):=by
 (rw[QA0];delta b7 cj c6;conv=>zeta)
 have hl:=af h;have wm:IntKind.i64.wrap ((b.length:Int)-4)=(b.length:Int)-4:=cC (by omega) (by omega);have tm:((b.length:Int)-4).toNat=b.length-4:=by omega
 have ts:(b.take (b.length-4)).length=b.length-4:=by simp
 simp only[wm,tm,bG,aH];refine Qa (Qe (by omega)) ?_;refine Qw (fun h0=>?_) fun h0=>?_<;>simp only[aa,ae]at h0
 ·have e:Yi b=none:=by unfold Yi;rw[aw (by omega)]
  rw[e];rfl
 iterate 2 refine Qa (by first|exact Qe (by simp;omega)|exact Qe (by omega)|(simp[Qg];done)|(simp[Qg];omega)|omega) ?_
 by_cases hq:Va (b.take (b.length-4))=b
 ·have e:Yi b=some (b.take (b.length-4)):=by unfold Yi;rw[ax ⟨by omega,hq⟩]
  rw[hq,e];simp only[beq_self_eq_true,bg,ah]
  iterate 3 refine Qa (by first|exact Qe (by simp;omega)|exact Qe (by omega)|(simp[Qg];done)|(simp[Qg];omega)|omega) ?_
  rfl
 ·have e:Yi b=none:=by unfold Yi;rw[aw (fun q=>hq q.2)]
  rw[e,show(Va (b.take (b.length-4))==b)=false by simpa using hq];rfl
def MW:=MV.b8 156 QnQ
theorem QqY:Qk Tryz.prog cu MW:=QqX.cQ Qb fun args d h=>by
 unfold QnQ at h
 split at h
 ·obtain⟨h1,rfl⟩:=ak h;exact⟨by simp[D.refs],60,QA1 _ _ h1⟩
 ·cases h
def Q8(s:cE):Bool:=decide (0<=s.n)&&decide (s.n<=1048575)&&decide (s.b.length<=640)&&(decide (0<s.n)||s.b==[])
def Yu(l:bK):Bool:=decide (l.length=33)&&l.all Q8
def qe(now sure:bK)(i:Nat):Bool:=((now.zip sure).drop i).all fun p=>decide (p.2.n<=p.1.n)
def Ql(now sure:bK):Bool:=Yu now&&Yu sure&&qe now sure 0
theorem Zg{now sure:bK}(h:Ql now sure=true):now.length=33/\sure.length=33:=by
 simp only[Ql,Yu,ai,aa]at h;exact⟨h.1.1.1,h.1.2.1⟩
def cW:cE:=⟨0,[]⟩
theorem Kt{α:Type}(l:List α)(p:α->Bool)(i:Nat)(h:i<l.length)(d:α):(l.drop i).all p=(p (l.getD i d)&&(l.drop (i+1)).all p):=by
 have e:l.getD i d=l[i]:=by simp[h]
 rw[aJ h,e,List.all_cons]
theorem XD{now sure:bK}(i:Nat)(h1:i<now.length)(h2:i<sure.length)(d:cE):qe now sure i=(decide ((sure.getD i d).n<=(now.getD i d).n)&&qe now sure (i+1)):=by
 unfold qe;rw[Kt _ _ i (by simp;omega) (d,d)]
 have e:(now.zip sure).getD i (d,d)=(now.getD i d,sure.getD i d):=by
  have hz:i<(now.zip sure).length:=by simp;omega
  simp[ar,aY hz,h1,h2]
 rw[e]
theorem QjT{now sure:bK}(i:Nat)(h:now.length<=i):qe now sure i=true:=by
 unfold qe;rw[aO (by simp;omega)];rfl
def CR(l:bK)(i:Nat):Nat:=i+(l.drop i).findIdx fun s=>!Q8 s
def QH(now sure:bK)(k n:Int)(b:bL):Bool:=Ql now sure&&(decide (0<=k)&&decide (k<33)&&decide (1<=n) && !(b==[])&&Q8 ⟨n,b⟩)
def KR(now:bK)(k:Nat)(n:Int)(b:bL):bK:=if(now.getD k cW).n<n then now.set k ⟨n,b⟩else now
theorem NB now k n b:(KR now k n b).length=now.length:=by unfold KR;split<;>simp
def QX:bK:=List.replicate 33 ⟨0,[]⟩
theorem QHU{α:Type}(l:List α)(k:Nat)(x:α)(h:k<l.length):l.take k++[x]++l.drop (k+1)=l.set k x:=by
 rw[List.set_eq_take_append_cons_drop,ax h];simp
theorem DZ{l:bK}(h:Yu l=true):l.length=33:=by simp only[Yu,ai,aa]at h;exact h.1
theorem QA2 l i:i<=CR l i:=Nat.le_add_right _ _
theorem Qq0 l i(h:i<l.length)(d:cE):CR l i=if Q8 (l.getD i d)=true then CR l (i+1)else i:=by
 have e:l.getD i d=l[i]:=by simp[h]
 unfold CR;rw[aJ h,e,List.findIdx_cons];cases Q8 l[i]<;>simp;omega
def eD(now sure:bK)(k n:Int)(b:bL):bK:=bif QH now sure k n b then KR now k.toNat n b else[]
def Zj(now sure:bK)(k n:Int)(b:bL):bK:=bif QH now sure k n b then sure else[]
def JG(now sure:bK)(k:Int):Bool:=Ql now sure&&(decide (0<=k)&&decide (k<33))
def ja(now sure:bK)(k:Int):cE:=bif JG now sure k then now.getD k.toNat cW else cW
def CP(lost:Int)(i:Nat):Bool:=bits .u64 (fun _ u v=>u&&&v) (lost.fdiv (2^min (IntKind.u64.wrap (i:Int)).toNat 64)) 1==1
def dK(lost:Int):Nat->Nat->bK->bK->bK×bK
 |0,_,n,s=>(n,s)
 |k+1,i,n,s=>if CP lost i=true then dK lost k (i+1) (n.set i (s.getD i cW)) s else dK lost k (i+1) n (s.set i (n.getD i cW))
theorem NC lost:∀(k i:Nat) (n s:bK),(dK lost k i n s).1.length=n.length/\(dK lost k i n s).2.length=s.length
 |0,i,n,s=>⟨rfl,rfl⟩
 |k+1,i,n,s=>by
  unfold dK
  split
  ·have:=NC lost k (i+1) (n.set i (s.getD i cW)) s;rw[bf]at this;exact this
  ·have:=NC lost k (i+1) n (s.set i (n.getD i cW));rw[bf]at this;exact this
def Qn(l:bK):Bool:=decide (l.length<=9223372036854775807)&&l.all fun s=>Qd s.b.length
theorem YT{l:bK}:Qn l=true↔l.length<=9223372036854775807/\∀s∈l,Qd s.b.length=true:=by simp[Qn]
theorem QnR{l:bK}(h:Qn l=true)(i:Nat)(hi:i<l.length)(d:cE):Qd (l.getD i d).b.length=true:=by
 have e:l.getD i d=l[i]:=by simp[hi]
 rw[e];exact(YT.1 h).2 _ (bA hi)
theorem Ku{now sure:bK}{k n:Int}{b:bL}(h:QH now sure k n b=true):Ql now sure=true/\0<=k/\k<33/\1<=n/\b≠[]/\Q8 ⟨n,b⟩=true:=by
 simp only[QH,ai,aa]at h;obtain⟨h1,⟨⟨⟨h2,h3⟩,h4⟩,h5⟩,h6⟩:=h;exact⟨h1,h2,h3,h4,by simpa using h5,h6⟩
theorem Q5{now sure:bK}{k n:Int}{b:bL}(h:¬(Ql now sure=true/\0<=k/\k<33/\1<=n/\b≠[]/\Q8 ⟨n,b⟩=true)):QH now sure k n b=false:=by
 cases e:QH now sure k n b
 ·rfl
 ·exact absurd (Ku e) h
end Go.Ev
