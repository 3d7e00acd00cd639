/-
  A part of the proof of a statement of this seat: the model is run over values by content, proved sound; what the functions come to. No condition beyond the given statements. (text 8)
-/
import Derived.Test.YtkoeniljaccaiaaGreatP6
import Derived.Maps.RangeRun
noncomputable section
namespace Go.Ev
open Go.Proofs
set_option maxRecDepth 100000
set_option linter.unusedVariables false
set_option linter.unusedSimpArgs false
theorem HC(s:St):St.mk s.b8 s.bV s.l0 s.l1 s.l2 s.c0 s.c1 s.c2=s:=rfl
theorem Qww(r:Rec):Rec.mk r.b8 r.yes r.dV=r:=rfl
structure SI where
 (sp:Int)(ci:Bool)(it:bM)(f0:Bool)(l0:bJ)(f1:Bool)(l1:bJ)(f2:Bool)(l2:bJ)(c0 c1 c2:Int)(cr:Bool)(rs:dC)(i:Nat)
def Ln(sp:Int)(ci:Bool)(it:bM)(f0:Bool)(l0:bJ)(f1:Bool)(l1:bJ)(f2:Bool)(l2:bJ)(c0 c1 c2:Int)(cr:Bool)(rs:dC)(i:Nat):bX:=[(2,.ptr 0 []),(32,.sl (C:=RC) .iT cr rs),(33,.int .i64 (rs.length)),(34,.int .i64 (i:Int))]
def xM(sp:Int)(ci:Bool)(it:bM)(f0:Bool)(l0:bJ)(f1:Bool)(l1:bJ)(f2:Bool)(l2:bJ)(c0 c1 c2:Int)(cr:Bool)(rs:dC)(i:Nat):bR:=[.var 34 (cG sp (cL .cE ci it (.bI (cL .bP f0 l0 (cL .bP f1 l1 (cL .bP f2 l2 .bN))) (.bI (.arr (C:=RC) .int 3 [c0,c1,c2]) .bN))))]
def Tg sp ci it f0 l0 f1 l1 f2 l2 c0 c1 c2 cr rs i:=eF cF z4 9 9 40 1 [2,32,33,34] [] [.slot 2 0] (Ln sp ci it f0 l0 f1 l1 f2 l2 c0 c1 c2 cr rs i) (xM sp ci it f0 l0 f1 l1 f2 l2 c0 c1 c2 cr rs i)
theorem QFk sp ci it f0 l0 f1 l1 f2 l2 c0 c1 c2 cr rs i:Tg sp ci it f0 l0 f1 l1 f2 l2 c0 c1 c2 cr rs i=(let Z0:Int:=(i:Int);let Z1:Int:=(rs.length:Int);let Z2:Rec:=List.getD rs Z0.toNat (Rec.mk 0 false []);let Z3:St:=Zx (St.mk sp it l0 l1 l2 c0 c1 c2) (Rec.mk Z2.b8 Z2.yes Z2.dV);bif decide (Z0<Z1)then cb (ep Z0 Z1) (cb (decide (it.length+List.length Z2.dV<=1000/\l0.length<=1000/\l1.length<=1000/\l2.length<=1000)) (some ((X.normal,[(2,D.ptr 0 []),(32,D.sl ca.iT cr rs),(33,cq Z1),(34,cq (cX (Z0+1)))]),[some (Obj.var 34 (.bI (cq Z3.b8) (.bI (D.sl ca.cE false Z3.bV) (.bI (D.bI (D.sl ca.bP false Z3.l0) (.bI (D.sl ca.bP false Z3.l1) (.bI (D.sl ca.bP false Z3.l2) .bN))) (.bI (D.arr ca.int 3 [St.c0 Z3,St.c1 Z3,St.c2 Z3]) .bN)))))])))else some ((X.exit 0,[]),[some (Obj.var 34 (.bI (cq sp) (.bI (D.sl ca.cE ci it) (.bI (D.bI (D.sl ca.bP f0 l0) (.bI (D.sl ca.bP f1 l1) (.bI (D.sl ca.bP f2 l2) .bN))) (.bI (D.arr ca.int 3 [c0,c1,c2]) .bN)))))])):=by kernel_rfl
def Ho(sp:Int)(ci:Bool)(it:bM)(f0:Bool)(l0:bJ)(f1:Bool)(l1:bJ)(f2:Bool)(l2:bJ)(c0 c1 c2:Int)(cr:Bool)(rs:dC)(i:Nat):RT RC:=.leaf (.exit 0) [] (xM ((rs.drop i).foldl Zx ⟨sp,it,l0,l1,l2,c0,c1,c2⟩).b8 (bif decide (i<rs.length)then false else ci) ((rs.drop i).foldl Zx ⟨sp,it,l0,l1,l2,c0,c1,c2⟩).bV (bif decide (i<rs.length)then false else f0) ((rs.drop i).foldl Zx ⟨sp,it,l0,l1,l2,c0,c1,c2⟩).l0 (bif decide (i<rs.length)then false else f1) ((rs.drop i).foldl Zx ⟨sp,it,l0,l1,l2,c0,c1,c2⟩).l1 (bif decide (i<rs.length)then false else f2) ((rs.drop i).foldl Zx ⟨sp,it,l0,l1,l2,c0,c1,c2⟩).l2 ((rs.drop i).foldl Zx ⟨sp,it,l0,l1,l2,c0,c1,c2⟩).c0 ((rs.drop i).foldl Zx ⟨sp,it,l0,l1,l2,c0,c1,c2⟩).c1 ((rs.drop i).foldl Zx ⟨sp,it,l0,l1,l2,c0,c1,c2⟩).c2 cr rs i)
def B6(sp:Int)(ci:Bool)(it:bM)(f0:Bool)(l0:bJ)(f1:Bool)(l1:bJ)(f2:Bool)(l2:bJ)(c0 c1 c2:Int)(cr:Bool)(rs:dC)(i:Nat):Prop:=i<=rs.length/\rs.length<=100/\rs.all gj=true/\it.length<=500+4*i/\l0.length<=1000/\l1.length<=1000/\l2.length<=1000
def uM:QK RC SI where
 k:=1
 cS q:=Ln q.sp q.ci q.it q.f0 q.l0 q.f1 q.l1 q.f2 q.l2 q.c0 q.c1 q.c2 q.cr q.rs q.i
 cR q:=xM q.sp q.ci q.it q.f0 q.l0 q.f1 q.l1 q.f2 q.l2 q.c0 q.c1 q.c2 q.cr q.rs q.i
 fin q:=Ho q.sp q.ci q.it q.f0 q.l0 q.f1 q.l1 q.f2 q.l2 q.c0 q.c1 q.c2 q.cr q.rs q.i
 Inv q:=B6 q.sp q.ci q.it q.f0 q.l0 q.f1 q.l1 q.f2 q.l2 q.c0 q.c1 q.c2 q.cr q.rs q.i
 μ q:=q.rs.length-q.i
theorem Qwx sp ci it f0 l0 f1 l1 f2 l2 c0 c1 c2 cr rs i(hI:B6 sp ci it f0 l0 f1 l1 f2 l2 c0 c1 c2 cr rs i):dw (Tg sp ci it f0 l0 f1 l1 f2 l2 c0 c1 c2 cr rs i) (dF uM ⟨sp,ci,it,f0,l0,f1,l1,f2,l2,c0,c1,c2,cr,rs,i⟩):=by
 (rw[QFk];delta cb ep cq cX;conv=>zeta)
 unfold B6 at hI;obtain⟨h1,h2,h3,h4,h5,h6,h7⟩:=hI
 by_cases cY:i<rs.length
 ·have cN:=fa i (by omega)
  have ei:=gv (show i<rs.length by omega)
  have ef:=fV (show i<rs.length by omega)
  have dp:=bw i
  simp only[cN,ei,ef,dp,ag];have hd:rs.drop i=rs.getD i ⟨0,false,[]⟩::rs.drop (i+1):=by rw[aJ cY];simp[cY]
  have hm:gj (rs.getD i ⟨0,false,[]⟩)=true:=by
   have:=aX.1 h3 rs[i] (bA cY)
   simpa[cY]using this
  generalize rs.getD i ⟨0,false,[]⟩=x at *
  have hx:=No hm;have hq:(Zx ⟨sp,it,l0,l1,l2,c0,c1,c2⟩ x).bV.length<=it.length+x.dV.length/\(Zx ⟨sp,it,l0,l1,l2,c0,c1,c2⟩ x).l0.length<=max l0.length 16/\(Zx ⟨sp,it,l0,l1,l2,c0,c1,c2⟩ x).l1.length<=max l1.length 16/\(Zx ⟨sp,it,l0,l1,l2,c0,c1,c2⟩ x).l2.length<=max l2.length 16:=Mf _ _;have hc:decide (it.length+x.dV.length<=1000/\l0.length<=1000/\l1.length<=1000/\l2.length<=1000)=true:=by simp;omega
  simp only[Qww,hc,ag];have hG:∃Z,Zx ⟨sp,it,l0,l1,l2,c0,c1,c2⟩ x=Z:=⟨_,rfl⟩;obtain⟨Z,hG⟩:=hG;rw[hG]at hq;simp only[hG];refine Qg (S:=uM) ⟨Z.b8,false,Z.bV,false,Z.l0,false,Z.l1,false,Z.l2,Z.c0,Z.c1,Z.c2,cr,rs,i+1⟩ (show B6 Z.b8 false Z.bV false Z.l0 false Z.l1 false Z.l2 Z.c0 Z.c1 Z.c2 cr rs (i+1)from⟨by omega,h2,h3,by omega,by omega,by omega,by omega⟩) (by simp only[uM];omega) ?_ rfl rfl;have e1:(bif decide (i+1<rs.length)then false else false)=false:=by cases decide (i+1<rs.length)<;>rfl
  have e2:decide (i<rs.length)=true:=ab cY;simp only[uM,Ho,xM,hd,List.foldl_cons,HC,hG,e1,e2,ag]
 ·have d1:decide ((i:Int)<rs.length)=false:=by simp;omega
  have d2:decide (i<rs.length)=false:=by simp;omega
  simp only[d1,ag,ah];have e:rs.drop i=[]:=aO (by omega);refine Qi (xM sp ci it f0 l0 f1 l1 f2 l2 c0 c1 c2 cr rs i) ?_ rfl;simp only[uM,Ho,e,List.foldl_nil,d2,ah,RT.val]
def Lo(env:bX)(os:bR):Option (Bool×SI):=match env,os with
 |[(2,.ptr 0 []),(32,.sl .iT cr rs),(33,.int .i64 x0),(34,.int .i64 x1)],[.var 34 (.bI (.int .i64 sp) (.bI (.sl .cE ci it) (.bI (.bI (.sl .bP f0 l0) (.bI (.sl .bP f1 l1) (.bI (.sl .bP f2 l2) .bN))) (.bI (.arr .int 3 [c0,c1,c2]) .bN))))]=>some (decide (x0=rs.length)&&decide (x1=0)&&decide (rs.length<=100/\it.length<=500/\l0.length<=1000/\l1.length<=1000/\l2.length<=1000)&&rs.all gj,⟨sp,ci,it,f0,l0,f1,l1,f2,l2,c0,c1,c2,cr,rs,0⟩)
 |_,_=>none
def z5:=z4.cP 9 9 (eZ cF [.slot 2 0] [2,32,33,34] uM Lo)
theorem Qwy:Qj Tryz.prog cF z5:=by
 refine Qwv.cJ Qb (by kernel_rfl) uM 40 [2,32,33,34] [] [.slot 2 0] [2,32,33,34] Lo (fun q hI=>?_) ?_
 ·obtain⟨sp,ci,it,f0,l0,f1,l1,f2,l2,c0,c1,c2,cr,rs,i⟩:=q;refine⟨?_,?_,Qwx sp ci it f0 l0 f1 l1 f2 l2 c0 c1 c2 cr rs i hI⟩
  ·simp_all[Qk,uM,Ln,xM,B6,D.refs,Obj.refs,de]
  ·simp_all[uM,Ho,xM,B6,RT.da,Qk,D.refs,Obj.refs,de]
 ·intro env os b q cW hb;unfold Lo at cW
  split at cW
  ·cases cW;simp only[ai,aa]at hb;obtain⟨⟨⟨rfl,rfl⟩,h1,h2,h3,h4,h5⟩,h6⟩:=hb;exact⟨⟨aK _,h1,h6,by simpa using h2,h3,h4,h5⟩,rfl,rfl⟩
  ·cases cW
def Xr:bW->bO
 |[.bI (.sl .bS c now) (.bI (.sl .bS d sure) .bN)]=>some (Ql now&&Ql sure,.cH (.bI (pe (ZN now sure)) (cG (bif Qt now sure then 0 else 2) .bN)))
 |_=>none
def Qn4(c:Bool)(now:bL)(d:Bool)(sure:bL):=lY cF z5 100 9 [.bI (.sl (C:=RC) .bS c now) (cL .bS d sure .bN)]
theorem Qwz c now d sure:Qn4 c now d sure=(let Z0:=Ql now&&Ql sure;let Z1:bQ:=cq 0;let Z2:bQ:=D.sl ca.bP false [];let Z3:bQ:=.bN;let Z4:dC:=jL now sure (iS now sure);let Z5:=Z4.length;let Z6:St:=dh (dy now sure);let Z7:St:=List.foldl Zx (St.mk (iS now sure) Z6.bV Z6.l0 Z6.l1 Z6.l2 Z6.c0 Z6.c1 Z6.c2) (List.drop 0 Z4);let Z8:dC:=jL now sure 0;let Z9:=Z8.length;let dg:St:=List.foldl Zx (St.mk 0 [] [] [] [] 0 0 0) (List.drop 0 Z8);cb Z0 (bif (bif Qt now sure then (0:Int)else (2:Int))!=0 then some (D.cH (D.bI (D.bI Z1 (D.bI (D.sl ca.cE false []) (.bI (D.bI Z2 (D.bI Z2 (D.bI Z2 Z3))) (.bI (D.arr ca.int 3 (List.replicate 3 0)) Z3)))) (.bI (cq 2) Z3)))else cb Z0 (bif im now sure==0 then cb Z0 (cb (Qc Z5) (cb (decide ((Z5:Int)=(Z5:Int))&&true&&decide (Z5<=100/\List.length Z6.bV<=500/\List.length Z6.l0<=1000/\List.length Z6.l1<=1000/\List.length Z6.l2<=1000)&&List.all Z4 gj) (some (D.cH (D.bI (D.bI (cq Z7.b8) (.bI (D.sl ca.cE false Z7.bV) (.bI (D.bI (D.sl ca.bP false Z7.l0) (.bI (D.sl ca.bP false Z7.l1) (.bI (D.sl ca.bP false Z7.l2) Z3))) (.bI (D.arr ca.int 3 [St.c0 Z7,St.c1 Z7,St.c2 Z7]) Z3)))) (.bI Z1 Z3))))))else cb Z0 (cb (Qc Z9) (cb (decide ((Z9:Int)=(Z9:Int))&&true&&decide (Z9<=100/\(0:Nat)<=500/\(0:Nat)<=1000/\(0:Nat)<=1000/\(0:Nat)<=1000)&&List.all Z8 gj) (some (D.cH (D.bI (D.bI (cq dg.b8) (.bI (D.sl ca.cE false dg.bV) (.bI (D.bI (D.sl ca.bP false dg.l0) (.bI (D.sl ca.bP false dg.l1) (.bI (D.sl ca.bP false dg.l2) Z3))) (.bI (D.arr ca.int 3 [St.c0 dg,St.c1 dg,St.c2 dg]) Z3)))) (.bI Z1 Z3))))))))):=by kernel_rfl
theorem QwA c now d sure(h:(Ql now&&Ql sure)=true):Qn4 c now d sure=some (.cH (.bI (pe (ZN now sure)) (cG (bif Qt now sure then 0 else 2) .bN))):=by
 (rw[Qwz];delta cb cq;conv=>zeta)
 have hg:=h;refine Qa hg ?_;cases hd:Qt now sure
 ·exact Qa rfl (by simp only[ZN,hd,ah];rfl)
 refine Qn rfl (Qa hg ?_);obtain⟨b0,b1,b2,b3⟩:=M0 now sure;simp only[re]at b0 b1 b2 b3;have hm:(jL now sure (iS now sure)).all gj=true:=aX.2 (MW now sure _);have hp:=MV now sure (iS now sure);cases he:im now sure==0
 ·have hs:=QnX he;have hn:iS now sure=0:=by simp[iS,hs]
  rw[hn]at hm hp;have hb:re now sure=⟨0,[],[],[],[],0,0,0⟩:=by simp[re,hs,hn,dh]
  refine Qn rfl (Qa hg (Qa (Qd (by omega)) (Qa (by simp only[hm,Bool.and_true,Bool.true_and,ai,aa,true_and,and_true];omega) ?_)));simp only[ZN,hd,ag,hn,hb];rfl
 ·refine Qa rfl (Qa hg (Qa (Qd (by omega)) (Qa (by simp only[hm,Bool.and_true,Bool.true_and,ai,aa,true_and,and_true];omega) ?_)));simp only[ZN,hd,ag];rfl
def z6:=z5.cm 9 Xr
theorem QwB:Qj Tryz.prog cF z6:=Qwy.j5 Qb fun args d h=>by
 unfold Xr at h
 split at h
 ·obtain⟨h1,rfl⟩:=ak h;exact⟨by simp[D.refs,pe],100,QwA _ _ _ _ h1⟩
 ·cases h
structure SJ where
 (sp:Int)(ci:Bool)(it:bM)(f0:Bool)(l0:bJ)(f1:Bool)(l1:bJ)(f2:Bool)(l2:bJ)(c0 c1 c2:Int)(cr:Bool)(rs:dC)(i:Nat)
def I3(sp:Int)(ci:Bool)(it:bM)(f0:Bool)(l0:bJ)(f1:Bool)(l1:bJ)(f2:Bool)(l2:bJ)(c0 c1 c2:Int)(cr:Bool)(rs:dC)(i:Nat):bX:=[(5,.ptr 0 []),(7,.sl (C:=RC) .iT cr rs),(9,.int .i64 (i:Int))]
def xN(sp:Int)(ci:Bool)(it:bM)(f0:Bool)(l0:bJ)(f1:Bool)(l1:bJ)(f2:Bool)(l2:bJ)(c0 c1 c2:Int)(cr:Bool)(rs:dC)(i:Nat):bR:=[.var 34 (cG sp (cL .cE ci it (.bI (cL .bP f0 l0 (cL .bP f1 l1 (cL .bP f2 l2 .bN))) (.bI (.arr (C:=RC) .int 3 [c0,c1,c2]) .bN))))]
def Th sp ci it f0 l0 f1 l1 f2 l2 c0 c1 c2 cr rs i:=eF cF z6 10 10 40 1 [5,7,9] [] [.slot 5 0] (I3 sp ci it f0 l0 f1 l1 f2 l2 c0 c1 c2 cr rs i) (xN sp ci it f0 l0 f1 l1 f2 l2 c0 c1 c2 cr rs i)
theorem QFm sp ci it f0 l0 f1 l1 f2 l2 c0 c1 c2 cr rs i:Th sp ci it f0 l0 f1 l1 f2 l2 c0 c1 c2 cr rs i=(let Z0:Int:=(i:Int);let Z1:Rec:=List.getD rs Z0.toNat (Rec.mk 0 false []);let Z2:St:=Zx (St.mk sp it l0 l1 l2 c0 c1 c2) (Rec.mk Z1.b8 Z1.yes Z1.dV);cb (Qc rs.length) (bif decide (Z0<(rs.length:Int))then cb (ep Z0 (rs.length:Int)) (cb (decide (it.length+List.length Z1.dV<=1000/\l0.length<=1000/\l1.length<=1000/\l2.length<=1000)) (some ((X.normal,[(5,D.ptr 0 []),(7,D.sl ca.iT cr rs),(9,cq (cX (Z0+1)))]),[some (Obj.var 34 (.bI (cq Z2.b8) (.bI (D.sl ca.cE false Z2.bV) (.bI (D.bI (D.sl ca.bP false Z2.l0) (.bI (D.sl ca.bP false Z2.l1) (.bI (D.sl ca.bP false Z2.l2) .bN))) (.bI (D.arr ca.int 3 [St.c0 Z2,St.c1 Z2,St.c2 Z2]) .bN)))))])))else some ((X.exit 0,[]),[some (Obj.var 34 (.bI (cq sp) (.bI (D.sl ca.cE ci it) (.bI (D.bI (D.sl ca.bP f0 l0) (.bI (D.sl ca.bP f1 l1) (.bI (D.sl ca.bP f2 l2) .bN))) (.bI (D.arr ca.int 3 [c0,c1,c2]) .bN)))))]))):=by kernel_rfl
def Hp(sp:Int)(ci:Bool)(it:bM)(f0:Bool)(l0:bJ)(f1:Bool)(l1:bJ)(f2:Bool)(l2:bJ)(c0 c1 c2:Int)(cr:Bool)(rs:dC)(i:Nat):RT RC:=.leaf (.exit 0) [] (xN ((rs.drop i).foldl Zx ⟨sp,it,l0,l1,l2,c0,c1,c2⟩).b8 (bif decide (i<rs.length)then false else ci) ((rs.drop i).foldl Zx ⟨sp,it,l0,l1,l2,c0,c1,c2⟩).bV (bif decide (i<rs.length)then false else f0) ((rs.drop i).foldl Zx ⟨sp,it,l0,l1,l2,c0,c1,c2⟩).l0 (bif decide (i<rs.length)then false else f1) ((rs.drop i).foldl Zx ⟨sp,it,l0,l1,l2,c0,c1,c2⟩).l1 (bif decide (i<rs.length)then false else f2) ((rs.drop i).foldl Zx ⟨sp,it,l0,l1,l2,c0,c1,c2⟩).l2 ((rs.drop i).foldl Zx ⟨sp,it,l0,l1,l2,c0,c1,c2⟩).c0 ((rs.drop i).foldl Zx ⟨sp,it,l0,l1,l2,c0,c1,c2⟩).c1 ((rs.drop i).foldl Zx ⟨sp,it,l0,l1,l2,c0,c1,c2⟩).c2 cr rs i)
def B7(sp:Int)(ci:Bool)(it:bM)(f0:Bool)(l0:bJ)(f1:Bool)(l1:bJ)(f2:Bool)(l2:bJ)(c0 c1 c2:Int)(cr:Bool)(rs:dC)(i:Nat):Prop:=i<=rs.length/\rs.length<=100/\rs.all gj=true/\it.length<=500+4*i/\l0.length<=1000/\l1.length<=1000/\l2.length<=1000
def uN:QK RC SJ where
 k:=1
 cS q:=I3 q.sp q.ci q.it q.f0 q.l0 q.f1 q.l1 q.f2 q.l2 q.c0 q.c1 q.c2 q.cr q.rs q.i
 cR q:=xN q.sp q.ci q.it q.f0 q.l0 q.f1 q.l1 q.f2 q.l2 q.c0 q.c1 q.c2 q.cr q.rs q.i
 fin q:=Hp q.sp q.ci q.it q.f0 q.l0 q.f1 q.l1 q.f2 q.l2 q.c0 q.c1 q.c2 q.cr q.rs q.i
 Inv q:=B7 q.sp q.ci q.it q.f0 q.l0 q.f1 q.l1 q.f2 q.l2 q.c0 q.c1 q.c2 q.cr q.rs q.i
 μ q:=q.rs.length-q.i
theorem QwC sp ci it f0 l0 f1 l1 f2 l2 c0 c1 c2 cr rs i(hI:B7 sp ci it f0 l0 f1 l1 f2 l2 c0 c1 c2 cr rs i):dw (Th sp ci it f0 l0 f1 l1 f2 l2 c0 c1 c2 cr rs i) (dF uN ⟨sp,ci,it,f0,l0,f1,l1,f2,l2,c0,c1,c2,cr,rs,i⟩):=by
 (rw[QFm];delta cb ep cq cX;conv=>zeta)
 unfold B7 at hI;obtain⟨h1,h2,h3,h4,h5,h6,h7⟩:=hI;have lk:Qc rs.length=true:=Qd (by omega)
 by_cases cY:i<rs.length
 ·have cN:=fa i (by omega)
  have ei:=gv (show i<rs.length by omega)
  have ef:=fV (show i<rs.length by omega)
  have dp:=bw i
  simp only[cN,ei,ef,dp,ag];have hd:rs.drop i=rs.getD i ⟨0,false,[]⟩::rs.drop (i+1):=by rw[aJ cY];simp[cY]
  have hm:gj (rs.getD i ⟨0,false,[]⟩)=true:=by
   have:=aX.1 h3 rs[i] (bA cY)
   simpa[cY]using this
  generalize rs.getD i ⟨0,false,[]⟩=x at *
  have hx:=No hm;have hq:(Zx ⟨sp,it,l0,l1,l2,c0,c1,c2⟩ x).bV.length<=it.length+x.dV.length/\(Zx ⟨sp,it,l0,l1,l2,c0,c1,c2⟩ x).l0.length<=max l0.length 16/\(Zx ⟨sp,it,l0,l1,l2,c0,c1,c2⟩ x).l1.length<=max l1.length 16/\(Zx ⟨sp,it,l0,l1,l2,c0,c1,c2⟩ x).l2.length<=max l2.length 16:=Mf _ _;have hc:decide (it.length+x.dV.length<=1000/\l0.length<=1000/\l1.length<=1000/\l2.length<=1000)=true:=by simp;omega
  simp only[Qww,hc,ag,lk];have hG:∃Z,Zx ⟨sp,it,l0,l1,l2,c0,c1,c2⟩ x=Z:=⟨_,rfl⟩;obtain⟨Z,hG⟩:=hG;rw[hG]at hq;simp only[hG];refine Qg (S:=uN) ⟨Z.b8,false,Z.bV,false,Z.l0,false,Z.l1,false,Z.l2,Z.c0,Z.c1,Z.c2,cr,rs,i+1⟩ (show B7 Z.b8 false Z.bV false Z.l0 false Z.l1 false Z.l2 Z.c0 Z.c1 Z.c2 cr rs (i+1)from⟨by omega,h2,h3,by omega,by omega,by omega,by omega⟩) (by simp only[uN];omega) ?_ rfl rfl;have e1:(bif decide (i+1<rs.length)then false else false)=false:=by cases decide (i+1<rs.length)<;>rfl
  have e2:decide (i<rs.length)=true:=ab cY;simp only[uN,Hp,xN,hd,List.foldl_cons,HC,hG,e1,e2,ag]
 ·have d1:decide ((i:Int)<rs.length)=false:=by simp;omega
  have d2:decide (i<rs.length)=false:=by simp;omega
  simp only[lk,d1,ag,ah];have e:rs.drop i=[]:=aO (by omega);refine Qi (xN sp ci it f0 l0 f1 l1 f2 l2 c0 c1 c2 cr rs i) ?_ rfl;simp only[uN,Hp,e,List.foldl_nil,d2,ah,RT.val]
def I4(env:bX)(os:bR):Option (Bool×SJ):=match env,os with
 |[(5,.ptr 0 []),(7,.sl .iT cr rs),(9,.int .i64 x0)],[.var 34 (.bI (.int .i64 sp) (.bI (.sl .cE ci it) (.bI (.bI (.sl .bP f0 l0) (.bI (.sl .bP f1 l1) (.bI (.sl .bP f2 l2) .bN))) (.bI (.arr .int 3 [c0,c1,c2]) .bN))))]=>some (decide (x0=0)&&decide (rs.length<=100/\it.length<=500/\l0.length<=1000/\l1.length<=1000/\l2.length<=1000)&&rs.all gj,⟨sp,ci,it,f0,l0,f1,l1,f2,l2,c0,c1,c2,cr,rs,0⟩)
 |_,_=>none
def z7:=z6.cP 10 10 (eZ cF [.slot 5 0] [5,7,9] uN I4)
theorem QwD:Qj Tryz.prog cF z7:=by
 refine QwB.cJ Qb (by kernel_rfl) uN 40 [5,7,9] [] [.slot 5 0] [5,7,9] I4 (fun q hI=>?_) ?_
 ·obtain⟨sp,ci,it,f0,l0,f1,l1,f2,l2,c0,c1,c2,cr,rs,i⟩:=q;refine⟨?_,?_,QwC sp ci it f0 l0 f1 l1 f2 l2 c0 c1 c2 cr rs i hI⟩
  ·simp_all[Qk,uN,I3,xN,B7,D.refs,Obj.refs,de]
  ·simp_all[uN,Hp,xN,B7,RT.da,Qk,D.refs,Obj.refs,de]
 ·intro env os b q cW hb;unfold I4 at cW
  split at cW
  ·cases cW;simp only[ai,aa]at hb;obtain⟨⟨rfl,h1,h2,h3,h4,h5⟩,h6⟩:=hb;exact⟨⟨aK _,h1,h6,by simpa using h2,h3,h4,h5⟩,rfl,rfl⟩
  ·cases cW
def WJ:bW->bO
 |[.bI (.sl .bS c now) (.bI (.sl .bS d sure) .bN)]=>some (Ql now&&Ql sure,.cH (.bI (pe (ZN now sure)) (cG (bif Qt now sure then 0 else 2) .bN)))
 |_=>none
def Qn6(c:Bool)(now:bL)(d:Bool)(sure:bL):=lY cF z7 100 10 [.bI (.sl (C:=RC) .bS c now) (cL .bS d sure .bN)]
theorem QwE c now d sure:Qn6 c now d sure=(let Z0:=Ql now&&Ql sure;let Z1:bQ:=cq 0;let Z2:bQ:=D.sl ca.bP false [];let Z3:bQ:=.bN;let Z4:dC:=jL now sure 0;let Z5:St:=List.foldl Zx (St.mk 0 [] [] [] [] 0 0 0) (List.drop 0 Z4);let Z6:dC:=jL now sure (iS now sure);let Z7:St:=dh (dy now sure);let Z8:St:=List.foldl Zx (St.mk (iS now sure) Z7.bV Z7.l0 Z7.l1 Z7.l2 Z7.c0 Z7.c1 Z7.c2) (List.drop 0 Z6);cb Z0 (bif (bif Qt now sure then (0:Int)else (2:Int))!=0 then some (D.cH (D.bI (D.bI Z1 (D.bI (D.sl ca.cE false []) (.bI (D.bI Z2 (D.bI Z2 (D.bI Z2 Z3))) (.bI (D.arr ca.int 3 (List.replicate 3 0)) Z3)))) (.bI (cq 2) Z3)))else cb Z0 (bif im now sure !=0 then cb Z0 (cb (decide (Z4.length<=100/\(0:Nat)<=500/\(0:Nat)<=1000/\(0:Nat)<=1000/\(0:Nat)<=1000)&&List.all Z4 gj) (some (D.cH (D.bI (D.bI (cq Z5.b8) (.bI (D.sl ca.cE false Z5.bV) (.bI (D.bI (D.sl ca.bP false Z5.l0) (.bI (D.sl ca.bP false Z5.l1) (.bI (D.sl ca.bP false Z5.l2) Z3))) (.bI (D.arr ca.int 3 [St.c0 Z5,St.c1 Z5,St.c2 Z5]) Z3)))) (.bI Z1 Z3)))))else cb Z0 (cb (decide (Z6.length<=100/\List.length Z7.bV<=500/\List.length Z7.l0<=1000/\List.length Z7.l1<=1000/\List.length Z7.l2<=1000)&&List.all Z6 gj) (some (D.cH (D.bI (D.bI (cq Z8.b8) (.bI (D.sl ca.cE false Z8.bV) (.bI (D.bI (D.sl ca.bP false Z8.l0) (.bI (D.sl ca.bP false Z8.l1) (.bI (D.sl ca.bP false Z8.l2) Z3))) (.bI (D.arr ca.int 3 [St.c0 Z8,St.c1 Z8,St.c2 Z8]) Z3)))) (.bI Z1 Z3)))))))):=by kernel_rfl
theorem QwF c now d sure(h:(Ql now&&Ql sure)=true):Qn6 c now d sure=some (.cH (.bI (pe (ZN now sure)) (cG (bif Qt now sure then 0 else 2) .bN))):=by
 (rw[QwE];delta cb cq;conv=>zeta)
 have hg:=h;refine Qa hg ?_;cases hd:Qt now sure
 ·exact Qa rfl (by simp only[ZN,hd,ah];rfl)
 refine Qn rfl (Qa hg ?_);obtain⟨b0,b1,b2,b3⟩:=M0 now sure;simp only[re]at b0 b1 b2 b3;have hm:(jL now sure (iS now sure)).all gj=true:=aX.2 (MW now sure _);have hp:=MV now sure (iS now sure);have rp:(im now sure !=0) = !(im now sure==0):=rfl;rw[rp];cases he:im now sure==0
 ·have hs:=QnX he;have hn:iS now sure=0:=by simp[iS,hs]
  rw[hn]at hm hp;have hb:re now sure=⟨0,[],[],[],[],0,0,0⟩:=by simp[re,hs,hn,dh]
  refine Qa rfl (Qa hg (Qa (by simp only[hm,Bool.and_true,Bool.true_and,ai,aa,true_and,and_true];omega) ?_));simp only[ZN,hd,ag,hn,hb];rfl
 ·refine Qn rfl (Qa hg (Qa (by simp only[hm,Bool.and_true,Bool.true_and,ai,aa,true_and,and_true];omega) ?_));simp only[ZN,hd,ag];rfl
def z8:=z7.cm 10 WJ
theorem QwG:Qj Tryz.prog cF z8:=QwD.j5 Qb fun args d h=>by
 unfold WJ at h
 split at h
 ·obtain⟨h1,rfl⟩:=ak h;exact⟨by simp[D.refs,pe],100,QwF _ _ _ _ h1⟩
 ·cases h
def ZD(p w:Int):Int:=bif decide (0<=p/\p<=1048575/\2<=w/\w<=8)then(bif decide (1048575<p+w)then 172 else 0)else 2
def Jq(p w:Int):Int:=bif ZD p w==0 then p+w else 0
def st0:St:=⟨0,[],[],[],[],0,0,0⟩
def YT(now sure:bL)(c w d k:Int):Int:=bif Qt now sure&&ZY c w d k then ZD (ZN now sure).b8 w else 2
def QL(now sure:bL)(c w d k:Int):St:=bif YT now sure c w d k==0 then⟨Jq (ZN now sure).b8 w,(ZN now sure).bV,(ZN now sure).l0,(ZN now sure).l1,(ZN now sure).l2,(ZN now sure).c0,(ZN now sure).c1,(ZN now sure).c2⟩else st0
open Go.Proofs
def WK:bW->bO
 |[.int .i64 p,.int .i64 w]=>some (true,.cH (cG (Jq p w) (cG (ZD p w) .bN)))
 |_=>none
def Qn8(p w:Int):=eU cF z8 60 42 [.int .i64 p,.int .i64 w]
theorem QwH p w:Qn8 p w=(let Z0:bQ:=cq 0;let Z1:fG:=some (D.cH (D.bI Z0 (D.bI (cq 2) .bN)));let Z2:=cX (p+w);bif decide ((0:Int)<=p)then bif decide (p<=1048575)then bif decide ((2:Int)<=w)then bif !decide (w<=8)then Z1 else bif decide ((1048575:Int)<Z2)then some (D.cH (D.bI Z0 (D.bI (cq 172) .bN)))else some (D.cH (D.bI (cq Z2) (.bI Z0 .bN)))else Z1 else Z1 else Z1):=by kernel_rfl
theorem QwI p w(h:(true)=true):Qn8 p w=some (.cH (cG (Jq p w) (cG (ZD p w) .bN))):=by
 (rw[QwH];delta cq cX;conv=>zeta)
 have no:¬(0<=p/\p<=1048575/\2<=w/\w<=8)->some (D.cH (C:=RC) (cG 0 (cG 2 .bN)))=some (.cH (cG (Jq p w) (cG (ZD p w) .bN))):=fun e=>by
  have h1:ZD p w=2:=by simp only[ZD,ad e,ah]
  simp only[Jq,h1];rfl
 iterate 3
  refine Qy (fun _=>?_) fun e=>no (by simp only[ae]at e;omega)
 refine Qy (fun e=>no (by simp only[Bool.not_eq_true',ae]at e;omega)) fun e=>?_;simp only[Bool.not_eq_false',aa]at *;have h1:ZD p w=bif decide (1048575<p+w)then 172 else 0:=by simp only[ZD,ab (show 0<=p/\p<=1048575/\2<=w/\w<=8 by omega),ag]
 have w1:IntKind.i64.wrap (p+w)=p+w:=cu (by omega) (by omega);rw[w1];simp only[Jq,h1];cases decide (1048575<p+w)<;>rfl
def z9:=z8.cm 42 WK
theorem QwJ:Qj Tryz.prog cF z9:=QwG.c6 Qb fun args d h=>by
 unfold WK at h
 split at h
 ·obtain⟨h1,rfl⟩:=ak h;exact⟨by simp[D.refs],60,QwI _ _ h1⟩
 ·cases h
def WL:bW->bO
 |[.int .i64 p,.int .i64 w]=>some (true,.cH (cG (Jq p w) (cG (ZD p w) .bN)))
 |_=>none
def Qoa(p w:Int):=eU cF z9 60 43 [.int .i64 p,.int .i64 w]
theorem QwK p w:Qoa p w=(let Z0:bQ:=cq 0;let Z1:fG:=some (D.cH (D.bI Z0 (D.bI (cq 2) .bN)));let Z2:=cX (p+w);bif decide ((0:Int)<=p)then bif decide (p<=1048575)then bif decide ((2:Int)<=w)then bif !decide (w<=8)then Z1 else bif decide ((1048575:Int)<Z2)then some (D.cH (D.bI Z0 (D.bI (cq 172) .bN)))else some (D.cH (D.bI (cq Z2) (.bI Z0 .bN)))else Z1 else Z1 else Z1):=by kernel_rfl
theorem QwL p w(h:(true)=true):Qoa p w=some (.cH (cG (Jq p w) (cG (ZD p w) .bN))):=by
 (rw[QwK];delta cq cX;conv=>zeta)
 have no:¬(0<=p/\p<=1048575/\2<=w/\w<=8)->some (D.cH (C:=RC) (cG 0 (cG 2 .bN)))=some (.cH (cG (Jq p w) (cG (ZD p w) .bN))):=fun e=>by
  have h1:ZD p w=2:=by simp only[ZD,ad e,ah]
  simp only[Jq,h1];rfl
 iterate 3
  refine Qy (fun _=>?_) fun e=>no (by simp only[ae]at e;omega)
 refine Qy (fun e=>no (by simp only[Bool.not_eq_true',ae]at e;omega)) fun e=>?_;simp only[Bool.not_eq_false',aa]at *;have h1:ZD p w=bif decide (1048575<p+w)then 172 else 0:=by simp only[ZD,ab (show 0<=p/\p<=1048575/\2<=w/\w<=8 by omega),ag]
 have w1:IntKind.i64.wrap (p+w)=p+w:=cu (by omega) (by omega);rw[w1];simp only[Jq,h1];cases decide (1048575<p+w)<;>rfl
def Aa:=z9.cm 43 WL
theorem QwM:Qj Tryz.prog cF Aa:=QwJ.c6 Qb fun args d h=>by
 unfold WL at h
 split at h
 ·obtain⟨h1,rfl⟩:=ak h;exact⟨by simp[D.refs],60,QwL _ _ h1⟩
 ·cases h
def WM:bW->bO
 |[.bI (.sl .bS cn now) (.bI (.sl .bS cs sure) .bN),.bI (.int .i64 c) (.bI (.int .i64 w) (.bI (.int .i64 d) (.bI (.int .i64 k) .bN)))]=>some (Ql now&&Ql sure,.cH (.bI (pe (QL now sure c w d k)) (cG (YT now sure c w d k) .bN)))
 |_=>none
def Qoc(cn:Bool)(now:bL)(cs:Bool)(sure:bL)(c w d k:Int):=lY cF Aa 60 11 [.bI (.sl (C:=RC) .bS cn now) (cL .bS cs sure .bN),.bI (.int .i64 c) (cG w (cG d (cG k .bN)))]
theorem QwN cn now cs sure c w d k:Qoc cn now cs sure c w d k=(let Z0:bQ:=cq 0;let Z1:bQ:=D.sl ca.bP false [];let Z2:bQ:=.bN;let Z3:bQ:=D.bI Z0 (D.bI (D.sl ca.cE false []) (.bI (D.bI Z1 (D.bI Z1 (D.bI Z1 Z2))) (.bI (D.arr ca.int 3 (List.replicate 3 0)) Z2)));let Z4:fG:=some (D.cH (D.bI Z3 (D.bI (cq 2) Z2)));let Z5:St:=ZN now sure;let Z6:=ZD Z5.b8 w;cb (Ql now&&Ql sure) (bif (bif Qt now sure then (0:Int)else (2:Int))!=0 then Z4 else bif (bif ZY c w d k then (0:Int)else (2:Int))!=0 then Z4 else bif Z6 !=0 then some (D.cH (D.bI Z3 (D.bI (cq Z6) Z2)))else some (D.cH (D.bI (D.bI (cq (Jq Z5.b8 w)) (.bI (D.sl ca.cE false Z5.bV) (.bI (D.bI (D.sl ca.bP false Z5.l0) (.bI (D.sl ca.bP false Z5.l1) (.bI (D.sl ca.bP false Z5.l2) Z2))) (.bI (D.arr ca.int 3 [St.c0 Z5,St.c1 Z5,St.c2 Z5]) Z2)))) (.bI Z0 Z2))))):=by kernel_rfl
theorem QwO cn now cs sure c w d k(h:(Ql now&&Ql sure)=true):Qoc cn now cs sure c w d k=some (.cH (.bI (pe (QL now sure c w d k)) (cG (YT now sure c w d k) .bN))):=by
 (rw[QwN];delta cb cq;conv=>zeta)
 refine Qa h ?_;cases hd:Qt now sure
 ·exact Qa rfl (by simp only[QL,YT,hd,Bool.false_and,ah];rfl)
 refine Qn rfl ?_;cases hs:ZY c w d k
 ·exact Qa rfl (by simp only[QL,YT,hd,hs,Bool.and_false,ah];rfl)
 refine Qn rfl ?_;have hE:YT now sure c w d k=ZD (ZN now sure).b8 w:=by simp only[YT,hd,hs,au,ag]
 simp only[QL,hE];cases he:ZD (ZN now sure).b8 w==0
 ·have hb:(ZD (ZN now sure).b8 w !=0)=true:=by simpa using he
  exact Qa hb rfl
 ·have h0:ZD (ZN now sure).b8 w=0:=by simpa using he
  rw[h0];exact Qn rfl rfl
def Ab:=Aa.cm 11 WM
theorem QwP:Qj Tryz.prog cF Ab:=QwM.j5 Qb fun args d h=>by
 unfold WM at h
 split at h
 ·obtain⟨h1,rfl⟩:=ak h;exact⟨by simp[D.refs,pe],60,QwO _ _ _ _ _ _ _ _ h1⟩
 ·cases h
def WN:bW->bO
 |[.bI (.sl .bS cn now) (.bI (.sl .bS cs sure) .bN),.bI (.int .i64 c) (.bI (.int .i64 w) (.bI (.int .i64 d) (.bI (.int .i64 k) .bN)))]=>some (Ql now&&Ql sure,.cH (.bI (pe (QL now sure c w d k)) (cG (YT now sure c w d k) .bN)))
 |_=>none
def Qoe(cn:Bool)(now:bL)(cs:Bool)(sure:bL)(c w d k:Int):=lY cF Ab 60 12 [.bI (.sl (C:=RC) .bS cn now) (cL .bS cs sure .bN),.bI (.int .i64 c) (cG w (cG d (cG k .bN)))]
theorem QwQ cn now cs sure c w d k:Qoe cn now cs sure c w d k=(let Z0:bQ:=cq 0;let Z1:bQ:=D.sl ca.bP false [];let Z2:bQ:=.bN;let Z3:bQ:=D.bI Z0 (D.bI (D.sl ca.cE false []) (.bI (D.bI Z1 (D.bI Z1 (D.bI Z1 Z2))) (.bI (D.arr ca.int 3 (List.replicate 3 0)) Z2)));let Z4:fG:=some (D.cH (D.bI Z3 (D.bI (cq 2) Z2)));let Z5:St:=ZN now sure;let Z6:=ZD Z5.b8 w;cb (Ql now&&Ql sure) (bif (bif Qt now sure then (0:Int)else (2:Int))!=0 then Z4 else bif (bif ZY c w d k then (0:Int)else (2:Int))!=0 then Z4 else bif Z6 !=0 then some (D.cH (D.bI Z3 (D.bI (cq Z6) Z2)))else some (D.cH (D.bI (D.bI (cq (Jq Z5.b8 w)) (.bI (D.sl ca.cE false Z5.bV) (.bI (D.bI (D.sl ca.bP false Z5.l0) (.bI (D.sl ca.bP false Z5.l1) (.bI (D.sl ca.bP false Z5.l2) Z2))) (.bI (D.arr ca.int 3 [St.c0 Z5,St.c1 Z5,St.c2 Z5]) Z2)))) (.bI Z0 Z2))))):=by kernel_rfl
theorem QwR cn now cs sure c w d k(h:(Ql now&&Ql sure)=true):Qoe cn now cs sure c w d k=some (.cH (.bI (pe (QL now sure c w d k)) (cG (YT now sure c w d k) .bN))):=by
 (rw[QwQ];delta cb cq;conv=>zeta)
 refine Qa h ?_;cases hd:Qt now sure
 ·exact Qa rfl (by simp only[QL,YT,hd,Bool.false_and,ah];rfl)
 refine Qn rfl ?_;cases hs:ZY c w d k
 ·exact Qa rfl (by simp only[QL,YT,hd,hs,Bool.and_false,ah];rfl)
 refine Qn rfl ?_;have hE:YT now sure c w d k=ZD (ZN now sure).b8 w:=by simp only[YT,hd,hs,au,ag]
 simp only[QL,hE];cases he:ZD (ZN now sure).b8 w==0
 ·have hb:(ZD (ZN now sure).b8 w !=0)=true:=by simpa using he
  exact Qa hb rfl
 ·have h0:ZD (ZN now sure).b8 w=0:=by simpa using he
  rw[h0];exact Qn rfl rfl
def Ac:=Ab.cm 12 WN
theorem QwS:Qj Tryz.prog cF Ac:=QwP.j5 Qb fun args d h=>by
 unfold WN at h
 split at h
 ·obtain⟨h1,rfl⟩:=ak h;exact⟨by simp[D.refs,pe],60,QwR _ _ _ _ _ _ _ _ h1⟩
 ·cases h
open Go.Proofs
def pH:Nat->bY
 |0=>(List.replicate 771 0).set 1 1
 |i+1=>(pH i).set (292+3*i) (-1)
theorem NL:∀i,(pH i).length=771
 |0=>by unfold pH;rw[bf,bt]
 |i+1=>by unfold pH;rw[bf];exact NL i
theorem QwT:pH 160=BS:=by kernel_rfl
theorem Ti:∃l,l=BS:=⟨BS,rfl⟩
def nC:bY:=Classical.choose Ti
theorem HW:nC=BS:=Classical.choose_spec Ti
theorem QwU{i:Nat}(h:i<160):eE 291 (i:Int) 1 160 3=292+3*i:=by
 unfold eE;rw[ax (by omega)];omega
structure Qof where
 i:Nat
 l:bY
def NM(i:Nat)(l:bY):bX:=[(1,.vs 0 771),(2,.int .i64 (i:Int))]
def BX(i:Nat)(l:bY):bR:=[.cj .int true l]
def QwV i l:=eF cF Ac 63 4 60 1 [1,2] [] [.slot 1 0] (NM i l) (BX i l)
theorem QzP i l:QwV i l=(let Z0:Int:=(i:Int);let Z1:=Nat.beq 771 l.length;let Z2:Int:=eE 291 Z0 1 160 3;bif decide (Z0<160)then cb (Z1&&ep Z2 (l.length:Int)) (cb Z1 (some ((X.normal,[(1,D.vs 0 771),(2,cq (cX (Z0+1)))]),[some (Obj.cj ca.int true (List.set l Z2.toNat (-1:Int)))])))else some ((X.exit 0,[]),[some (Obj.cj ca.int true l)])):=by kernel_rfl
def WO(i:Nat)(l:bY):RT RC:=.leaf (.exit 0) [] (BX i nC)
def C1(i:Nat)(l:bY):Prop:=i<=160/\l=pH i
def xt:QK RC Qof where
 k:=1
 cS q:=NM q.i q.l
 cR q:=BX q.i q.l
 fin q:=WO q.i q.l
 Inv q:=C1 q.i q.l
 μ q:=160-q.i
theorem Qln i l(hI:C1 i l):dw (QwV i l) (dF xt ⟨i,l⟩):=by
 (rw[QzP];delta cb ep cq cX;conv=>zeta)
 unfold C1 at hI;obtain⟨h1,rfl⟩:=hI;have hl:=NL i
 by_cases cY:i<160
 ·have v1:=fa i (by omega)
  have v4:=QwU cY;have v5:(292+3*(i:Int)).toNat=292+3*i:=by omega
  have d1:decide ((i:Int)<160)=true:=ab (by omega);have d4:decide (0<=292+3*(i:Int)/\292+3*(i:Int)<((pH i).length:Int))=true:=ab ⟨by omega,by omega⟩;have d5:Nat.beq 771 (pH i).length=true:=Za hl.symm;simp only[v1,v4,v5,d1,d4,d5,au,ag];exact Qg (S:=xt) (s:=⟨i,pH i⟩) ⟨i+1,pH (i+1)⟩ ⟨cY,rfl⟩ (by simp only[xt];omega) rfl rfl rfl
 ·have e:i=160:=by omega
  have d1:decide ((i:Int)<160)=false:=ad (by omega);rw[d1];simp only[ah];exact Qi (BX i nC) rfl (by rw[e,QwT,<-HW];rfl)
def NN(env:bX)(os:bR):Option (Bool×Qof):=match env,os with
 |[(1,.vs 0 771),(2,.int .i64 x0)],[.cj .int true l]=>some (decide (x0=0)&&decide (l=pH 0),⟨0,l⟩)
 |_,_=>none
def Ad:=Ac.cP 63 4 (eZ cF [.slot 1 0] [1,2] xt NN)
theorem QwW:Qj Tryz.prog cF Ad:=by
 refine QwS.cJ Qb (by kernel_rfl) xt 60 [1,2] [] [.slot 1 0] [1,2] NN (fun q hI=>?_) ?_
 ·obtain⟨i,l⟩:=q;refine⟨?_,?_,Qln i l hI⟩
  ·simp_all[Qk,xt,NM,BX,C1,D.refs,Obj.refs,de]
  ·simp_all[xt,WO,BX,C1,RT.da,Qk,D.refs,Obj.refs,de]
 ·intro env os b q cW hb;unfold NN at cW
  split at cW
  ·cases cW;simp only[ai,aa]at hb;obtain⟨e0,e1⟩:=hb;subst e0;exact⟨⟨aK _,e1⟩,rfl,rfl⟩
  ·cases cW
structure Qog where
 i:Nat
 l:bY
def NO(i:Nat)(l:bY):bX:=[(1,.vs 0 771),(6,.int .i64 (i:Int))]
def BY(i:Nat)(l:bY):bR:=[.cj .int true l]
def QwX i l:=eF cF Ad 60 4 60 1 [1,6] [] [.slot 1 0] (NO i l) (BY i l)
theorem QzQ i l:QwX i l=(let Z0:Int:=(i:Int);let Z1:=Nat.beq 771 l.length;let Z2:Int:=eE 291 Z0 1 160 3;bif decide (Z0<160)then cb (Z1&&ep Z2 (l.length:Int)) (cb Z1 (some ((X.normal,[(1,D.vs 0 771),(6,cq (cX (Z0+1)))]),[some (Obj.cj ca.int true (List.set l Z2.toNat (-1:Int)))])))else some ((X.exit 0,[]),[some (Obj.cj ca.int true l)])):=by kernel_rfl
def WQ(i:Nat)(l:bY):RT RC:=.leaf (.exit 0) [] (BY i nC)
def C2(i:Nat)(l:bY):Prop:=i<=160/\l=pH i
def xu:QK RC Qog where
 k:=1
 cS q:=NO q.i q.l
 cR q:=BY q.i q.l
 fin q:=WQ q.i q.l
 Inv q:=C2 q.i q.l
 μ q:=160-q.i
theorem Qlq i l(hI:C2 i l):dw (QwX i l) (dF xu ⟨i,l⟩):=by
 (rw[QzQ];delta cb ep cq cX;conv=>zeta)
 unfold C2 at hI;obtain⟨h1,rfl⟩:=hI;have hl:=NL i
 by_cases cY:i<160
 ·have v1:=fa i (by omega)
  have v4:=QwU cY;have v5:(292+3*(i:Int)).toNat=292+3*i:=by omega
  have d1:decide ((i:Int)<160)=true:=ab (by omega);have d4:decide (0<=292+3*(i:Int)/\292+3*(i:Int)<((pH i).length:Int))=true:=ab ⟨by omega,by omega⟩;have d5:Nat.beq 771 (pH i).length=true:=Za hl.symm;simp only[v1,v4,v5,d1,d4,d5,au,ag];exact Qg (S:=xu) (s:=⟨i,pH i⟩) ⟨i+1,pH (i+1)⟩ ⟨cY,rfl⟩ (by simp only[xu];omega) rfl rfl rfl
 ·have e:i=160:=by omega
  have d1:decide ((i:Int)<160)=false:=ad (by omega);rw[d1];simp only[ah];exact Qi (BY i nC) rfl (by rw[e,QwT,<-HW];rfl)
def NP(env:bX)(os:bR):Option (Bool×Qog):=match env,os with
 |[(1,.vs 0 771),(6,.int .i64 x0)],[.cj .int true l]=>some (decide (x0=0)&&decide (l=pH 0),⟨0,l⟩)
 |_,_=>none
def Ae:=Ad.cP 60 4 (eZ cF [.slot 1 0] [1,6] xu NP)
theorem QwY:Qj Tryz.prog cF Ae:=by
 refine QwW.cJ Qb (by kernel_rfl) xu 60 [1,6] [] [.slot 1 0] [1,6] NP (fun q hI=>?_) ?_
 ·obtain⟨i,l⟩:=q;refine⟨?_,?_,Qlq i l hI⟩
  ·simp_all[Qk,xu,NO,BY,C2,D.refs,Obj.refs,de]
  ·simp_all[xu,WQ,BY,C2,RT.da,Qk,D.refs,Obj.refs,de]
 ·intro env os b q cW hb;unfold NP at cW
  split at cW
  ·cases cW;simp only[ai,aa]at hb;obtain⟨e0,e1⟩:=hb;subst e0;exact⟨⟨aK _,e1⟩,rfl,rfl⟩
  ·cases cW
def gW(m:cg)(k v:Int):cg:=iR (fun a b=>decide (a=b)) k v m
def YC(q:Int)(m:cg)(l:bJ):cg:=l.foldl (fun m x=>gW (gW m (dR q x.offset) (gZ x)) (eN 45 q 3) (IntKind.i64.wrap (x.offset+1))) m
def YY(c k n:Int):Int:=n%c*k+n/c
def sb(l:bM):Bool:=l.all fun x=>decide (0<=x.key/\x.key<=23/\0<=x.value/\x.value<=255)
def wh(m:cg)(s:Int)(x:Item):cg:=gW (gW (gW (gW m (eE 291 s 0 160 3) 3) (eE 291 s 1 160 3) 0) (eE 291 s 2 160 3) (IntKind.i64.wrap (IntKind.i64.wrap (x.key*256)+x.value))) (eN 21 x.key 24) (kr x.b8 (256+s))
def Zh(c k:Int):Nat->bM->cg->cg
 |_,[],m=>m
 |n,x::l,m=>Zh c k (n+1) l (wh m (YY c k n) x)
theorem QwZ:((List.range 160).all fun s=>bits .i64 (fun _ u v=>u|||v) 256 (s:Int)==256+(s:Int))=true:=by kernel_rfl
theorem QFO{s:Int}(h0:0<=s)(h1:s<160):bits .i64 (fun _ u v=>u|||v) 256 s=256+s:=by
 have:=aX.1 QwZ s.toNat (by simp;omega);rw[Int.toNat_of_nonneg h0]at this
 simpa using this
theorem Yw{c w d k:Int}(h:ZY c w d k=true):1<=c/\c<=4/\2<=w/\w<=8/\1<=d/\d<=4/\4<=k/\k<=40:=by
 simp only[ZY,ai,Qm,aa]at h;omega
theorem Qw0{c kk k j:Int}(h0:0<=j)(h1:j<c):YY c kk (k*c+j)=j*kk+k:=by
 unfold YY;have e1:(k*c+j)%c=j:=by rw[Int.add_comm,Int.add_mul_emod_self_right,Int.emod_eq_of_lt h0 h1]
 have e2:(k*c+j)/c=k:=by rw[Int.add_comm,Int.add_mul_ediv_right _ _ (by omega),Int.ediv_eq_zero_of_lt h0 h1];omega
 rw[e1,e2]
theorem SK{c w d kk j:Int}(h:ZY c w d kk=true)(h0:0<=j)(h1:j<c):(lE c w d kk j true).1=j*kk:=by
 unfold lE;rw[ax ⟨h,h0,h1⟩];rfl
theorem Ks c k:∀(a b:bM) (n:Nat) (m:cg),Zh c k n (a++b) m=Zh c k (n+a.length) b (Zh c k n a m)
 |[],b,n,m=>rfl
 |x::a,b,n,m=>by
  simp only[aP,Zh,aE];rw[Ks c k a b,show n+1+a.length=n+(a.length+1)by omega]
theorem Qls{c k:Int}{l:bM}{n e:Nat}{m:cg}(h:n+e<=l.length):Zh c k (n+e) (l.drop (n+e)) (Zh c k n ((l.drop n).take e) m)=Zh c k n (l.drop n) m:=by
 have h1:l.drop n=(l.drop n).take e++l.drop (n+e):=by rw[<-bD];exact(bn e _).symm
 have h2:((l.drop n).take e).length=e:=by simp;omega
 conv=>rhs;rw[h1,Ks,h2]
theorem Qlt{c k:Int}{l:bM}{n e t:Nat}{m:cg}(h:n+e<=l.length):Zh c k (n+e) ((l.drop (n+e)).take t) (Zh c k n ((l.drop n).take e) m)=Zh c k n ((l.drop n).take (e+t)) m:=by
 have h1:(l.drop n).take (e+t)=(l.drop n).take e++(l.drop (n+e)).take t:=by rw[List.take_add,bD]
 have h2:((l.drop n).take e).length=e:=by simp;omega
 rw[h1,Ks,h2]
def QV(c:bY)(m:cg):bY:=m.foldl (fun c p=>c.set p.1.toNat p.2) c
def ZU(n:Nat):cg->Bool
 |[]=>true
 |(k,_)::l=>decide (0<=k/\k<n)&&(l.all fun p=>decide (p.1≠k))&&ZU n l
theorem WR{n:Nat}{k v:Int}:∀{l1 l2:cg},ZU n (l1++(k,v)::l2)=true->(0<=k/\k<n)/\ZU n (l1++l2)=true/\(∀p∈l1,p.1≠k/\0<=p.1)
 |[],l2,h=>by
  simp only[aH,ZU,ai,aa]at h;exact⟨h.1.1,h.2,by simp⟩
 |(a,b)::l1,l2,h=>by
  simp only[aP,ZU,ai,aa,aX,aT,aZ]at h;obtain⟨⟨h1,h2⟩,h3⟩:=h;obtain⟨q1,q2,q3⟩:=WR h3;refine⟨q1,?_,fun p hp=>?_⟩
  ·simp only[aP,ZU,ai,aa,aX,aT];exact⟨⟨h1,fun p hp=>h2 p (hp.imp id .inr)⟩,q2⟩
  ·rcases aZ.1 hp with rfl|hp
   ·exact⟨fun e=>h2 (k,v) (.inr (.inl rfl)) e.symm,h1.1⟩
   ·exact q3 p hp
theorem Jf:∀(m:cg) (c:bY),(QV c m).length=c.length
 |[],c=>rfl
 |p::m,c=>by
  have:=Jf m (c.set p.1.toNat p.2);simp only[QV,List.foldl_cons]at this ⊢;rw[this,bf]
theorem Gd{k v:Int}(h0:0<=k):∀(l:cg) (c:bY),(∀p∈l,p.1≠k/\0<=p.1)->QV (c.set k.toNat v) l=(QV c l).set k.toNat v
 |[],c,_=>rfl
 |p::l,c,h=>by
  have hp:=h p aV;have:=Gd (v:=v) h0 l (c.set p.1.toNat p.2) (fun q hq=>h q (aS _ hq));simp only[QV,List.foldl_cons]at this ⊢;rw[<-this,List.set_comm _ _ (by omega)]
theorem Qw1{k v:Int}{l1 l2:cg}(h0:0<=k)(h:∀p∈l1,p.1≠k/\0<=p.1)(c:bY):QV (c.set k.toNat v) (l1++l2)=QV c (l1++(k,v)::l2):=by
 have e:=Gd (v:=v) h0 l1 c h;simp only[QV,List.foldl_append,List.foldl_cons]at e ⊢;rw[e]
open Go.Proofs
structure Qw2 where
 (q:Int)(c:Bool)(l:bJ)(m:cg)(i:Nat)
def Oq(q:Int)(c:Bool)(l:bJ)(m:cg)(i:Nat):bX:=[(0,.int .i64 q),(7,.mp 0),(15,.sl (C:=RC) .bP c l),(16,.int .i64 (l.length)),(17,.int .i64 (i:Int))]
def xw(q:Int)(c:Bool)(l:bJ)(m:cg)(i:Nat):bR:=[.map .int .int m]
def SL q c l m i:=eF cF Ae 58 3 40 1 [0,7,15,16,17] [] [.slot 7 0] (Oq q c l m i) (xw q c l m i)
theorem QD2 q c l m i:SL q c l m i=(let Z0:Int:=(i:Int);let Z1:Int:=(l.length:Int);let Z2:cC:=List.getD l Z0.toNat (cC.mk 0 0 0 0 0);let Z3:=cC.offset Z2;bif decide (Z0<Z1)then cb (ep Z0 Z1) (some ((X.normal,[(0,cq q),(7,D.mp 0),(15,D.sl ca.bP c l),(16,cq Z1),(17,cq (cX (Z0+1)))]),[some (Obj.map ca.int ca.int (iR (Vw cF ca.int) (eN 45 q 3) (cX (Z3+1)) (iR (Vw cF ca.int) (dR q Z3) (gZ (cC.mk Z3 (cC.b8 Z2) (cC.j Z2) (cC.key Z2) (cC.value Z2))) m)))]))else some ((X.exit 0,[]),[some (Obj.map ca.int ca.int m)])):=by kernel_rfl
def GY(q:Int)(c:Bool)(l:bJ)(m:cg)(i:Nat):RT RC:=.leaf (.exit 0) [] (xw q c l (YC q m (l.drop i)) i)
def BU(q:Int)(c:Bool)(l:bJ)(m:cg)(i:Nat):Prop:=i<=l.length/\l.length<=1000
def uB:QK RC Qw2 where
 k:=1
 cS q:=Oq q.q q.c q.l q.m q.i
 cR q:=xw q.q q.c q.l q.m q.i
 fin q:=GY q.q q.c q.l q.m q.i
 Inv q:=BU q.q q.c q.l q.m q.i
 μ q:=q.l.length-q.i
theorem Qqb q c l m i(hI:BU q c l m i):dw (SL q c l m i) (dF uB ⟨q,c,l,m,i⟩):=by
 (rw[QD2];delta cb ep cq cX;conv=>zeta)
 unfold BU at hI;obtain⟨h1,h2⟩:=hI
 by_cases cY:i<l.length
 ·have cN:=fa i (by omega)
  have ei:=gv (show i<l.length by omega)
  have ef:=fV (show i<l.length by omega)
  have dp:=bw i
  simp only[cN,ei,ef,dp,ag];have hd:l.drop i=l.getD i ⟨0,0,0,0,0⟩::l.drop (i+1):=by rw[aJ cY];simp[cY]
  generalize l.getD i ⟨0,0,0,0,0⟩=x at *
  refine Qg (S:=uB) ⟨q,c,l,gW (gW m (dR q x.offset) (gZ x)) (eN 45 q 3) (IntKind.i64.wrap (x.offset+1)),i+1⟩ (show BU q c l (gW (gW m (dR q x.offset) (gZ x)) (eN 45 q 3) (IntKind.i64.wrap (x.offset+1))) (i+1)from⟨by omega,h2⟩) (by simp only[uB];omega) ?_ rfl rfl;simp only[uB,GY,xw,hd,YC,List.foldl_cons]
 ·have d1:decide ((i:Int)<l.length)=false:=by simp;omega
  rw[d1];simp only[ah];have e:l.drop i=[]:=aO (by omega);refine Qi (xw q c l m i) ?_ rfl;simp only[uB,GY,e,YC,List.foldl_nil,RT.val]
def Ot(env:bX)(os:bR):Option (Bool×Qw2):=match env,os with
 |[(0,.int .i64 q),(7,.mp 0),(15,.sl .bP c l),(16,.int .i64 x0),(17,.int .i64 x1)],[.map .int .int m]=>some (decide (x0=l.length)&&decide (x1=0)&&decide (l.length<=1000),⟨q,c,l,m,0⟩)
 |_,_=>none
def Af:=Ae.cP 58 3 (eZ cF [.slot 7 0] [0,7,15,16,17] uB Ot)
theorem Qw5:Qj Tryz.prog cF Af:=by
 refine QwY.cJ Qb (by kernel_rfl) uB 40 [0,7,15,16,17] [] [.slot 7 0] [0,7,15,16,17] Ot (fun q hI=>?_) ?_
 ·obtain⟨q,c,l,m,i⟩:=q;refine⟨?_,?_,Qqb q c l m i hI⟩
  ·simp_all[Qk,uB,Oq,xw,BU,D.refs,Obj.refs,de]
  ·simp_all[uB,GY,xw,BU,RT.da,Qk,D.refs,Obj.refs,de]
 ·intro env os b q cW hb;unfold Ot at cW
  split at cW
  ·cases cW;simp only[ai,aa]at hb;obtain⟨⟨rfl,rfl⟩,h1⟩:=hb;exact⟨⟨aK _,h1⟩,rfl,rfl⟩
  ·cases cW
open Go.Proofs
def xa:Code->Option (Code×Code)
 |.rangeFunc _ _ a b=>some (a,b)
 |.seq a b=>(match xa a with|some x=>some x|none=>xa b)
 |.cond _ a b=>(match xa a with|some x=>some x|none=>xa b)
 |.block _ b=>xa b
 |.loop b=>xa b
 |.scope b=>xa b
 |_=>none
def rfF(f:Nat):Code×Code:=match p0.fn f with
 |some fn=>(match fn.body with
  |some b=>(match xa b with|some x=>x|none=>(.skip,.skip))
  |none=>(.skip,.skip))
 |none=>(.skip,.skip)
def mL:Code:=(rfF 61).1
def mM:Code:=(rfF 61).2
def nS(c w d kk:Int)(ci:Bool)(l:bM)(m:cg)(n:Int)(dn:Bool):bR:=[.var 3 (.int .i64 n),.var 29 (.sl (C:=RC) .cE ci l),.var 100 (.mp 3),.map .int .int m,.ek (.lp false dn 0),.var 26 (cG c (cG w (cG d (cG kk .bN))))]
structure Qw6 where
 (c w d kk:Int)(ci:Bool)(l:bM)(m:cg)(n k:Int)(j:Nat)
def Ou(c w d kk:Int)(ci:Bool)(l:bM)(m:cg)(n k:Int)(j:Nat):bX:=[(0,.yl 60 [6,5,3] [16] (mL) (mM) (.bI (.ptr 0 []) (.bI (.ptr 2 []) (.bI (.ptr 1 []) .bN))) 4),(1,.ptr 5 []),(3,.int .i64 k),(13,.int .i64 (c:Int)),(14,.int .i64 (j:Int))]
def HG(c w d kk:Int)(ci:Bool)(l:bM)(m:cg)(n k:Int)(j:Nat):bR:=[.var 3 (.int .i64 n),.var 29 (.sl (C:=RC) .cE ci l),.var 100 (.mp 3),.map .int .int m,.ek (.lp false false 0),.var 26 (cG c (cG w (cG d (cG kk .bN))))]
def SM c w d kk ci l m n k j:=eF cF Af 169 4 120 6 [0,1,3,13,14] [] [.slot 0 0,.slot 0 2,.slot 0 1,.path 2 [],.slot 0 3,.slot 1 0] (Ou c w d kk ci l m n k j) (HG c w d kk ci l m n k j)
theorem QD3 c w d kk ci l m n k j:SM c w d kk ci l m n k j=(let Z0:Int:=(j:Int);let Z1:Int:=(l.length:Int);let Z2:bZ:=some (Obj.var 3 (cq n));let Z3:bZ:=some (Obj.var 29 (D.sl ca.cE ci l));let Z4:bZ:=some (Obj.var 100 (D.mp 3));let Z5:bZ:=some (Obj.map ca.int ca.int m);let Z6:b9:=[some (Obj.var 26 (.bI (cq c) (.bI (cq w) (.bI (cq d) (.bI (cq kk) .bN)))))];let Z7:=cX (Prod.fst (lE c w d kk Z0 true)+k);let Z8:X×bX:=(X.normal,[(0,D.yl 60 [(6:Nat),(5:Nat),(3:Nat)] [(16:Nat)] mL mM (D.bI (D.ptr 0 []) (.bI (D.ptr 2 []) (.bI (D.ptr 1 []) .bN))) 4),(1,D.ptr 5 []),(3,cq k),(13,cq c),(14,cq (cX (Z0+1)))]);let Z9:bZ:=some (Obj.var 3 (cq (cX (n+1))));let dg:Item:=List.getD l n.toNat (Item.mk 0 0 0);let dq:Int:=eN 21 (Item.key dg) 24;let dE:cg:=iR (Vw cF ca.int) (eE 291 Z7 2 160 3) (cX (cX (Item.key dg*256)+Item.value dg)) (iR (Vw cF ca.int) (eE 291 Z7 1 160 3) 0 (iR (Vw cF ca.int) (eE 291 Z7 0 160 3) 3 m));let dQ:b9:=some (Obj.ek (rN.lp false false 0))::Z6;let dv:kW:=some (Z8,Z9::Z3::Z4::some (Obj.map ca.int ca.int (iR (Vw cF ca.int) dq (kr (Item.b8 dg) 0) dE))::dQ);bif decide (Z0<c)then cb (Qc l.length) (bif n==Z1 then some ((X.ret,[]),Z2::Z3::Z4::Z5::some (Obj.ek (rN.lp false true 0))::Z6)else cb (ep n Z1) (bif decide (Z7<0)then dv else bif decide ((256:Int)<=Z7)then dv else some (Z8,Z9::Z3::Z4::some (Obj.map ca.int ca.int (iR (Vw cF ca.int) dq (kr (Item.b8 dg) (bits .i64 (fun(x:Nat) (u v:BitVec x)=>u|||v) 256 Z7)) dE))::dQ)))else some ((X.exit 2,[]),Z2::Z3::Z4::Z5::dQ)):=by kernel_rfl
def Dt(c w d kk:Int)(ci:Bool)(l:bM)(m:cg)(n k:Int)(j:Nat):RT RC:=.br (decide ((l.length:Int)-n<c-j)) (.leaf .ret [] (nS c w d kk ci l (Zh c kk n.toNat (l.drop n.toNat) m) l.length true)) (.leaf (.exit 2) [] (nS c w d kk ci l (Zh c kk n.toNat ((l.drop n.toNat).take (c-j).toNat) m) (n+(c-j)) false))
def Du(c w d kk:Int)(ci:Bool)(l:bM)(m:cg)(n k:Int)(j:Nat):Prop:=ZY c w d kk=true/\0<=k/\k<kk/\(j:Int)<=c/\n=k*c+j/\n<=l.length/\l.length<=1000/\sb l=true
def tW:QK RC Qw6 where
 k:=6
 cS q:=Ou q.c q.w q.d q.kk q.ci q.l q.m q.n q.k q.j
 cR q:=HG q.c q.w q.d q.kk q.ci q.l q.m q.n q.k q.j
 fin q:=Dt q.c q.w q.d q.kk q.ci q.l q.m q.n q.k q.j
 Inv q:=Du q.c q.w q.d q.kk q.ci q.l q.m q.n q.k q.j
 μ q:=(q.c-q.j).toNat
theorem Qqc c w d kk ci l m n k j(hI:Du c w d kk ci l m n k j):dw (SM c w d kk ci l m n k j) (dF tW ⟨c,w,d,kk,ci,l,m,n,k,j⟩):=by
 (rw[QD3];delta cb ep cq cX;conv=>zeta)
 unfold Du at hI;obtain⟨ok,k0,k1,j1,hn,n1,l1,ib⟩:=hI;obtain⟨c1,c4,_,_,_,_,q4,og⟩:=Yw ok;have lk:Qc l.length=true:=Qd (by omega);have kc0:0<=k*c:=Int.mul_nonneg k0 (by omega)
 by_cases hj:(j:Int)<c
 ·rw[ab hj];simp only[lk,ag]
  by_cases he:n=l.length
  ·have hb:(n==(l.length:Int))=true:=by simpa using he
   have e0:l.drop n.toNat=[]:=aO (by omega);rw[hb];simp only[ag];refine QT (nS c w d kk ci l m n true) ?_ rfl;have d1:decide ((l.length:Int)-n<c-j)=true:=by simp;omega
   simp only[tW,Dt,RT.val,d1,ag,e0,Zh];rw[<-he]
  ·have hb:(n==(l.length:Int))=false:=by simpa using he
   have d2:decide (0<=n/\n<(l.length:Int))=true:=by simp;omega
   have dM:=SK ok (Int.natCast_nonneg j) hj;have p0:0<=(j:Int)*kk:=Int.mul_nonneg (by omega) (by omega);have p1:(j:Int)*kk<=3*40:=Int.mul_le_mul (by omega) (by omega) (by omega) (by omega);have w1:IntKind.i64.wrap ((j:Int)*kk+k)=(j:Int)*kk+k:=cu (by omega) (by omega);have w2:IntKind.i64.wrap (n+1)=n+1:=cu (by omega) (by omega);have w3:=fa j (by omega)
   have d3:decide ((j:Int)*kk+k<0)=false:=by simp;omega
   have d4:decide (256<=(j:Int)*kk+k)=false:=by simp;omega
   have o1:=QFO (s:=(j:Int)*kk+k) (by omega) (by omega);have hd:l.drop n.toNat=l.getD n.toNat ⟨0,0,0⟩::l.drop (n.toNat+1):=by rw[aJ (by omega)];simp[show n.toNat<l.length by omega]
   simp only[hb,d2,dM,w1,w2,w3,d3,d4,o1,ag,ah];generalize l.getD n.toNat ⟨0,0,0⟩=x at *;have hh:YY c kk (n.toNat:Int)=(j:Int)*kk+k:=by rw[Int.toNat_of_nonneg (by omega),hn];exact Qw0 (Int.natCast_nonneg j) hj
   refine Qg (S:=tW) ⟨c,w,d,kk,ci,l,wh m ((j:Int)*kk+k) x,n+1,k,j+1⟩ (show Du c w d kk ci l (wh m ((j:Int)*kk+k) x) (n+1) k (j+1)from⟨ok,k0,k1,by omega,by omega,by omega,l1,ib⟩) (by simp only[tW];omega) ?_ rfl rfl;have n1:(n+1).toNat=n.toNat+1:=by omega
   have n2:(c-(j:Int)).toNat=(c-((j+1:Nat):Int)).toNat+1:=by omega
   have n3:n+1+(c-((j+1:Nat):Int))=n+(c-j):=by omega
   have n4:decide ((l.length:Int)-(n+1)<c-((j+1:Nat):Int))=decide ((l.length:Int)-n<c-j):=decide_eq_decide.2 (by omega);simp only[tW,Dt,hd,n1,n2,n3,n4,List.take_succ_cons,Zh,hh]
 ·have d0:decide ((j:Int)<c)=false:=by simpa using hj
  rw[d0];simp only[ah];have e1:c-(j:Int)=0:=by omega
  have d1:decide ((l.length:Int)-n<0)=false:=by simp;omega
  refine Qi (nS c w d kk ci l m n false) ?_ rfl;simp only[tW,Dt,RT.val,e1,d1,ah,Int.toNat_zero,List.take_zero,Zh,Int.add_zero]
def Ov(env:bX)(os:bR):Option (Bool×Qw6):=match env,os with
 |[(0,.yl 60 [6,5,3] [16] x0 x1 (.bI (.ptr 0 []) (.bI (.ptr 2 []) (.bI (.ptr 1 []) .bN))) 4),(1,.ptr 5 []),(3,.int .i64 k),(13,.int .i64 x2),(14,.int .i64 x3)],[.var 3 (.int .i64 n),.var 29 (.sl .cE ci l),.var 100 (.mp 3),.map .int .int m,.ek (.lp false false 0),.var 26 (.bI (.int .i64 c) (.bI (.int .i64 w) (.bI (.int .i64 d) (.bI (.int .i64 kk) .bN))))]=>some (lW (x0=mL)&&lW (x1=mM)&&decide (x2=c)&&decide (x3=0)&&ZY c w d kk&&decide (0<=k/\k<kk/\n=k*c/\n<=l.length/\l.length<=1000)&&sb l,⟨c,w,d,kk,ci,l,m,n,k,0⟩)
 |_,_=>none
def Ag:=Af.cP 169 4 (eZ cF [.slot 0 0,.slot 0 2,.slot 0 1,.path 2 [],.slot 0 3,.slot 1 0] [0,1,3,13,14] tW Ov)
theorem Qw9:Qj Tryz.prog cF Ag:=by
 refine Qw5.cJ Qb (by kernel_rfl) tW 120 [0,1,3,13,14] [] [.slot 0 0,.slot 0 2,.slot 0 1,.path 2 [],.slot 0 3,.slot 1 0] [0,1,3,13,14] Ov (fun q hI=>?_) ?_
 ·obtain⟨c,w,d,kk,ci,l,m,n,k,j⟩:=q;refine⟨?_,?_,Qqc c w d kk ci l m n k j hI⟩
  ·simp_all[Qk,tW,Ou,HG,Du,D.refs,Obj.refs,de]
  ·simp[tW,Dt,HG,nS,RT.da,Qk,D.refs,Obj.refs]
 ·intro env os b q cW hb;unfold Ov at cW
  split at cW
  ·cases cW;simp only[ai,aa]at hb;obtain⟨⟨⟨⟨⟨⟨e0,e1⟩,e2⟩,e3⟩,ok⟩,h1,h2,h3,h4,h5⟩,ib⟩:=hb;have e0:=Dr.1 e0;have e1:=Dr.1 e1;subst e0;subst e1;subst e2;subst e3;obtain⟨c1,_⟩:=Yw ok;exact⟨⟨ok,h1,h2,Int.le_trans (show((0:Nat):Int)<=1 by decide) c1,by rw[h3];simp,h4,h5,ib⟩,rfl,rfl⟩
  ·cases cW
structure Qoi where
 (c w d kk:Int)(ci:Bool)(l:bM)(m:cg)(n:Int)(k:Nat)
def NQ(c w d kk:Int)(ci:Bool)(l:bM)(m:cg)(n:Int)(k:Nat):bX:=[(0,.yl 60 [6,5,3] [16] (mL) (mM) (.bI (.ptr 0 []) (.bI (.ptr 2 []) (.bI (.ptr 1 []) .bN))) 4),(1,.ptr 5 []),(8,.int .i64 (kk:Int)),(9,.int .i64 (k:Int))]
def Hq(c w d kk:Int)(ci:Bool)(l:bM)(m:cg)(n:Int)(k:Nat):bR:=[.var 3 (.int .i64 n),.var 29 (.sl (C:=RC) .cE ci l),.var 100 (.mp 3),.map .int .int m,.ek (.lp false false 0),.var 26 (cG c (cG w (cG d (cG kk .bN))))]
def Qxa c w d kk ci l m n k:=eF cF Ag 169 1 120 6 [0,1,8,9] [] [.slot 0 0,.slot 0 2,.slot 0 1,.path 2 [],.slot 0 3,.slot 1 0] (NQ c w d kk ci l m n k) (Hq c w d kk ci l m n k)
theorem QzR c w d kk ci l m n k:Qxa c w d kk ci l m n k=(let Z0:Int:=(k:Int);let Z1:Int:=(l.length:Int);let Z2:Int:=c-0;let Z3:bZ:=some (Obj.var 29 (D.sl ca.cE ci l));let Z4:bZ:=some (Obj.var 100 (D.mp 3));let Z5:=Int.toNat n;let Z6:b9:=[some (Obj.var 26 (.bI (cq c) (.bI (cq w) (.bI (cq d) (.bI (cq kk) .bN)))))];let Z7:b9:=some (Obj.ek (rN.lp false false 0))::Z6;bif decide (Z0<kk)then cb (lW (mL=mL)&&lW (mM=mM)&&decide (c=c)&&true&&ZY c w d kk&&decide ((0:Int)<=Z0/\Z0<kk/\n=Z0*c/\n<=Z1/\l.length<=1000)&&sb l) (bif decide (Z1-n<Z2)then some ((X.ret,[]),some (Obj.var 3 (cq Z1))::Z3::Z4::some (Obj.map ca.int ca.int (Zh c kk Z5 (List.drop Z5 l) m))::some (Obj.ek (rN.lp false true 0))::Z6)else some ((X.normal,[(0,D.yl 60 [(6:Nat),(5:Nat),(3:Nat)] [(16:Nat)] mL mM (D.bI (D.ptr 0 []) (.bI (D.ptr 2 []) (.bI (D.ptr 1 []) .bN))) 4),(1,D.ptr 5 []),(8,cq kk),(9,cq (cX (Z0+1)))]),some (Obj.var 3 (cq (n+Z2)))::Z3::Z4::some (Obj.map ca.int ca.int (Zh c kk Z5 (List.take Z2.toNat (List.drop Z5 l)) m))::Z7))else some ((X.exit 0,[]),some (Obj.var 3 (cq n))::Z3::Z4::some (Obj.map ca.int ca.int m)::Z7)):=by kernel_rfl
def C3(c w d kk:Int)(ci:Bool)(l:bM)(m:cg)(n:Int)(k:Nat):RT RC:=.br (decide ((l.length:Int)<kk*c)) (.leaf .ret [] (nS c w d kk ci l (Zh c kk n.toNat (l.drop n.toNat) m) l.length true)) (.leaf (.exit 0) [] (nS c w d kk ci l (Zh c kk n.toNat ((l.drop n.toNat).take (kk*c-n).toNat) m) (kk*c) false))
def C4(c w d kk:Int)(ci:Bool)(l:bM)(m:cg)(n:Int)(k:Nat):Prop:=ZY c w d kk=true/\(k:Int)<=kk/\n=k*c/\n<=l.length/\l.length<=1000/\sb l=true
def Jz:QK RC Qoi where
 k:=6
 cS q:=NQ q.c q.w q.d q.kk q.ci q.l q.m q.n q.k
 cR q:=Hq q.c q.w q.d q.kk q.ci q.l q.m q.n q.k
 fin q:=C3 q.c q.w q.d q.kk q.ci q.l q.m q.n q.k
 Inv q:=C4 q.c q.w q.d q.kk q.ci q.l q.m q.n q.k
 μ q:=(q.kk-q.k).toNat
theorem Qlv c w d kk ci l m n k(hI:C4 c w d kk ci l m n k):dw (Qxa c w d kk ci l m n k) (dF Jz ⟨c,w,d,kk,ci,l,m,n,k⟩):=by
 (rw[QzR];delta cb cq cX;conv=>zeta)
 unfold C4 at hI;obtain⟨ok,k1,hn,n1,l1,ib⟩:=hI;obtain⟨c1,c4,_,_,_,_,q4,og⟩:=Yw ok;have kc0:0<=(k:Int)*c:=Int.mul_nonneg (by omega) (by omega)
 by_cases hk:(k:Int)<kk
 ·have p1:((k:Int)+1)*c<=kk*c:=Int.mul_le_mul_of_nonneg_right (by omega) (by omega);have p2:=Int.add_mul (k:Int) 1 c;have q1:lW (mL=mL)=true:=CX rfl;have q2:lW (mM=mM)=true:=CX rfl;have q3:decide (0<=(k:Int)/\(k:Int)<kk/\n=(k:Int)*c/\n<=(l.length:Int)/\l.length<=1000)=true:=ab ⟨by omega,hk,hn,n1,l1⟩;have q5:decide (c=c)=true:=by simp
  have w3:=fa k (by omega)
  rw[ab hk];simp only[q3,ok,ib,w3,CX trivial,aM,au,ag,Int.sub_zero]
  by_cases hr:(l.length:Int)-n<c
  ·rw[ab hr];simp only[ag];have d1:decide ((l.length:Int)<kk*c)=true:=by simp;omega
   refine QT (nS c w d kk ci l (Zh c kk n.toNat (l.drop n.toNat) m) l.length true) ?_ rfl;simp only[Jz,C3,RT.val,d1,ag]
  ·rw[ad hr];simp only[ah];have e1:(n+c).toNat=n.toNat+c.toNat:=by omega
   have e2:(kk*c-n).toNat=c.toNat+(kk*c-(n+c)).toNat:=by omega
   have e3:((k+1:Nat):Int)*c=(k:Int)*c+c:=by rw[show((k+1:Nat):Int)=(k:Int)+1 by simp,p2];omega
   refine Qg (S:=Jz) (s:=⟨c,w,d,kk,ci,l,m,n,k⟩) ⟨c,w,d,kk,ci,l,Zh c kk n.toNat ((l.drop n.toNat).take c.toNat) m,n+c,k+1⟩ (show C4 c w d kk ci l (Zh c kk n.toNat ((l.drop n.toNat).take c.toNat) m) (n+c) (k+1)from⟨ok,by omega,by rw[e3];omega,by omega,l1,ib⟩) (by simp only[Jz];omega) ?_ rfl rfl;simp only[Jz,C3,e1,e2,Qls (show n.toNat+c.toNat<=l.length by omega),Qlt (show n.toNat+c.toNat<=l.length by omega)]
 ·have hkk:(k:Int)=kk:=by omega
  have d0:decide ((k:Int)<kk)=false:=by simpa using hk
  rw[d0];simp only[ah];have e0:kk*c=n:=by rw[hn,hkk]
  have d1:decide ((l.length:Int)<n)=false:=by simp;omega
  refine Qi (nS c w d kk ci l m n false) ?_ rfl;simp only[Jz,C3,RT.val,e0,d1,ah,Int.sub_self,Int.toNat_zero,List.take_zero,Zh]
def NR(env:bX)(os:bR):Option (Bool×Qoi):=match env,os with
 |[(0,.yl 60 [6,5,3] [16] x0 x1 (.bI (.ptr 0 []) (.bI (.ptr 2 []) (.bI (.ptr 1 []) .bN))) 4),(1,.ptr 5 []),(8,.int .i64 x2),(9,.int .i64 x3)],[.var 3 (.int .i64 n),.var 29 (.sl .cE ci l),.var 100 (.mp 3),.map .int .int m,.ek (.lp false false 0),.var 26 (.bI (.int .i64 c) (.bI (.int .i64 w) (.bI (.int .i64 d) (.bI (.int .i64 kk) .bN))))]=>some (lW (x0=mL)&&lW (x1=mM)&&decide (x2=kk)&&decide (x3=0)&&ZY c w d kk&&decide (n=0/\l.length<=1000)&&sb l,⟨c,w,d,kk,ci,l,m,n,0⟩)
 |_,_=>none
def vK:=Ag.cP 169 1 (eZ cF [.slot 0 0,.slot 0 2,.slot 0 1,.path 2 [],.slot 0 3,.slot 1 0] [0,1,8,9] Jz NR)
theorem Qxb:Qj Tryz.prog cF vK:=by
 refine Qw9.cJ Qb (by kernel_rfl) Jz 120 [0,1,8,9] [] [.slot 0 0,.slot 0 2,.slot 0 1,.path 2 [],.slot 0 3,.slot 1 0] [0,1,8,9] NR (fun q hI=>?_) ?_
 ·obtain⟨c,w,d,kk,ci,l,m,n,k⟩:=q;refine⟨?_,?_,Qlv c w d kk ci l m n k hI⟩
  ·simp_all[Qk,Jz,NQ,Hq,C4,D.refs,Obj.refs,de]
  ·simp[Jz,C3,Hq,nS,RT.da,Qk,D.refs,Obj.refs]
 ·intro env os b q cW hb;unfold NR at cW
  split at cW
  ·cases cW;simp only[ai,aa]at hb;obtain⟨⟨⟨⟨⟨⟨e0,e1⟩,e2⟩,e3⟩,ok⟩,h1,h2⟩,ib⟩:=hb;have e0:=Dr.1 e0;have e1:=Dr.1 e1;subst e0;subst e1;subst e2;subst e3;subst h1;obtain⟨_,_,_,_,_,_,q4,_⟩:=Yw ok;exact⟨⟨ok,Int.le_trans (show((0:Nat):Int)<=4 by decide) q4,by simp,Int.natCast_nonneg _,h2,ib⟩,rfl,rfl⟩
  ·cases cW
section
variable {C:ij}{P:Program}{T:fA C}{Φ:jv C}
open Pg (Ex)
open Go.ChangeMaps (setBlock)
theorem Yx.split{X:Cx}{ck cv:C.Ty}{e:MapEntry}:∀{F1 F2:ec} {l:List (C.A ck×C.A cv)},Yx T X ck cv l (F1++e::F2) ->
 ∃l1 x l2,l=l1++x::l2/\R T X false (T.enc ck x.1) [e.key]/\RV T X (T.enc cv x.2) e.val/\Yx T X ck cv (l1++l2) (F1++F2)
 |[],F2,l,h=>by
  cases h with
  |cons hk hv h=>exact⟨[],_,_,rfl,hk,hv,h⟩
 |f::F1,F2,l,h=>by
  cases h with
  |cons hk hv h=>
   obtain⟨l1,x,l2,rfl,q1,q2,q3⟩:=Yx.split h;exact⟨_::l1,x,l2,rfl,q1,q2,.cons hk hv q3⟩
theorem Qlx{es:ec}{seen:Array Nat}{e:MapEntry}{F1 F2:ec}(hn:(es.map (·.born)).Nodup)(h:(es.filter fun x=>!seen.contains x.born)=F1++e::F2) :
 (es.filter fun x=>!(seen.push e.born).contains x.born)=F1++F2:=by
 have e1:(es.filter fun x=>!(seen.push e.born).contains x.born)=(es.filter fun x=>!seen.contains x.born).filter fun x=>!(x.born==e.born):=by
  rw[List.filter_filter]
  congr 1
  funext x
  rw[contains_push];cases seen.contains x.born<;>simp
 have ng:((F1++e::F2).map (·.born)).Nodup:=by
  rw[<-h];exact hn.sublist (List.Sublist.map _ List.filter_sublist)
 rw[e1,h];rw[List.map_append,List.nodup_append,List.map_cons,List.nodup_cons]at ng;obtain⟨_,⟨h2,_⟩,h3⟩:=ng;have iZ:∀F:ec,(∀x∈F,x.born≠e.born)->F.filter (fun x=>!(x.born==e.born))=F:=fun F hF=>List.filter_eq_self.2 fun x hx=>by simp[hF x hx]
 rw[List.filter_append,List.filter_cons_of_neg (by simp)];rw[iZ F1 fun x hx=>h3 _ (List.mem_map.2 ⟨x,hx,rfl⟩) _ (by simp),iZ F2 fun x hx e2=>h2 (List.mem_map.2 ⟨x,hx,e2⟩)]
theorem vB(K:Zq P T){X:Cx}{h:Heap C}{nx id:Nat}{lim:eL}(g:G T X h nx lim){ck cv:C.Ty}{l:List (C.A ck×C.A cv)}{vi:Value}(ho:h.get id=some (.ek (.it ck cv l)))(hr:R T X false (.ku id) [vi])(ty:TypeId) :
 (l=[]/\(Instr.next vi false ty).run P X.w=.ok (.tuple #[.bool false]) X.w) \/
 ∃l1 x l2 key val X',l=l1++x::l2/\(Instr.next vi false ty).run P X.w=.ok (.tuple #[.bool true,key,val]) X'.w/\G T X' (h.put id (.ek (.it ck cv (l1++l2)))) nx lim/\Step X nx lim X' /\
  (Instr.entry vi).run P X'.w=.ok (.tuple #[key,val]) X'.w/\R T X' false (T.enc ck x.1) [key]/\RV T X' (T.enc cv x.2) val:=by
 obtain⟨s,e1,e2⟩:=g.ek id _ ho;cases hr with
 | @ku _ r Ic=>
  obtain⟨bm,rfl⟩:=Ic s e1;obtain⟨gm,es,since,seen,clock,hb,hrr,hE,wH,hsc,lC⟩:=e2;rcases run_next_at (P:=P) X.w ty r bm since clock seen es clock hrr hb wH hsc with⟨h0,ez⟩|⟨e,he,w1,Ey,ez⟩
  ·refine .inl ⟨?_,ez⟩
   have hz:(es.toList.filter fun e=>!seen.contains e.born)=[]:=by
    have:(leftOf es seen).toList=[]:=by
     have:=Array.eq_empty_of_size_eq_zero h0;rw[this]
    rw[<-this];simp[leftOf]
   rw[hz]at hE;cases hE;rfl
  ·have Pb:e∈es.toList.filter fun e=>!seen.contains e.born:=by simpa[leftOf]using he
   have hem:e∈es.toList:=(mem_left he).1;obtain⟨F1,F2,hF⟩:=List.append_of_mem Pb;rw[hF]at hE;obtain⟨l1,x,l2,rfl,q1,q2,q3⟩:=hE.split;have Pf:=Qlx lC hF
   have pD:w1.heap=X.w.heap/\w1.os=X.w.os/\w1.tape=X.w.tape/\w1.output=X.w.output:=by
    rcases Ey with rfl|rfl<;>exact⟨rfl,rfl,rfl,rfl⟩
   obtain⟨g1,s1⟩:=G.world K.base g w1 pD.1 pD.2.1 pD.2.2.1 pD.2.2.2;have gn:(⟨w1,X.ρ,X.O⟩:Cx).w.heap[r]? = some (.mapIter (some bm) since seen clock):=by rw[show(⟨w1,X.ρ,X.O⟩:Cx).w=w1 from rfl,pD.1];exact hrr
   have PI:r<w1.heap.size:=(aI.1 gn).1
   have sT:∀(w2:World),w2=setBlock w1 r (.mapIter (some bm) since (seen.push e.born) clock)->w2.heap[bm]? = some (.map es clock)/\w2.heap[r]? = some (.mapIter (some bm) since (seen.push e.born) clock):=by
    rintro w2 rfl
    constructor
    ·show(w1.heap.setIfInBounds r _)[bm]? = _;rw[Array.getElem?_setIfInBounds_ne (Ne.symm gm),pD.1];exact hb
    ·show(w1.heap.setIfInBounds r _)[r]? = _;simp[PI]
   obtain⟨X',w',_,g',s'⟩:=G.FH K.base (c2:=.it ck cv (l1++l2)) (ob:=.mapIter (some bm) since (seen.push e.born) clock) g1 ho e1 gn (fun _ _ _ h=>by cases h) (fun _ _ _ h=>by cases h) (fun X' hw hs=>by
    obtain⟨o1,o2⟩:=sT X'.w hw;refine⟨gm,es,since,_,clock,o1,o2,?_,wH,hsc,lC⟩;rw[Pf];exact q3.step K.base (s1.trans hs (aq _)))
   have st:=s1.trans s' (aq _);obtain⟨o1,o2⟩:=sT X'.w w';refine .inr ⟨l1,x,l2,e.key,e.val,X',rfl,by rw[ez,w'];rfl,g',st,run_entry_at X'.w r bm since seen es clock e o2 o1 hem lC,q1.step K.base st (by simp[K.base.fI]),q2.mono T K.base.iv st.keeps fun i hi=>by simp[K.base.fI]at hi⟩
structure wi where
 (it tn tc ex te tk tv:Nat)(o2:cV)(more:ga)(rest:Code)
def uO(b:Code):Option wi :=
 match b with
 |.seq (.region _ o1 false) (.seq (.cond (.tmp tc) .skip (.exit ex)) (.block _ (.seq (.region _ o2 false) rest)))=>(match o1.toList,o2.toList with
  |[n,x],e::k::v::more=>(match n.op,n.dst,n.guard,x.op,x.dst,x.guard with
   |.next (.tmp it) false,some tn,none,.extract (.tmp xe) 0,some tc',none=>(match e.op,e.dst,e.guard,k.op,k.dst,k.guard with
    |.entry (.tmp it'),some te,none,.extract (.tmp te') 0,some tk,none=>(match v.op,v.dst,v.guard with
     |.extract (.tmp te2) 1,some tv,none=>
      bif(Nat.beq tn xe&&Nat.beq tc tc'&&Nat.beq it it'&&Nat.beq te te'&&Nat.beq te te2)&&(!Nat.beq it tn && !Nat.beq it tc && !Nat.beq te tk && !Nat.beq tn tc && !Nat.beq tk tv)then some ⟨it,tn,tc,ex,te,tk,tv,o2,more,rest⟩else none
     |_,_,_=>none)
    |_,_,_,_,_,_=>none)
   |_,_,_,_,_,_=>none)
  |_,_=>none)
 |_=>none
structure Cq(C:ij)(ck cv:C.Ty)(σ:Type) where
 (k it:Nat)(cS:σ->Env C)(cR:σ->List (C.A ck×C.A cv)->List (Obj C))(fin:σ->List (C.A ck×C.A cv)->Env C)(fy:σ->List (C.A ck×C.A cv)->List (Obj C))(Inv:σ->List (C.A ck×C.A cv)->Prop)
def SN(T:fA C)(Φ:jv C)(g:FuncId)(m:wi){ck cv:C.Ty}{σ:Type}(S:Cq C ck cv σ):Prop :=
 ∀s l,S.Inv s l->Qk S.k (S.cS s) (S.cR s l)/\Qk S.k (S.fin s l) (S.fy s l)/\(S.cR s l)[S.it]? = some (.ek (.it ck cv l))/\c8 (S.cS s) m.it=.ku S.it/\(∀l',S.cR s l'=(S.cR s l).set S.it (.ek (.it ck cv l'))) /\
  (l=[]->(∀p∈S.fin s l,c8 (S.cS s) p.1=p.2/\p.1≠m.tn/\p.1≠m.tc)/\S.fy s l=S.cR s l) /\
  ∀l1 x l2,l=l1++x::l2->∃n dj h' cM tr s',Ex (0,0) (.bind (qE T (uc T Φ (kl T Φ n)) m.o2 m.more ((m.tv,T.enc cv x.2)::(m.tk,T.enc ck x.1)::(m.te,.top)::(m.tc,.bool true)::(m.tn,.top)::S.cS s)) fun env=>kl T Φ n g m.rest env) (ic 0 (S.cR s (l1++l2))) S.k (.normal,dj) h' cM tr /\
   S.Inv s' (l1++l2)/\S.fin s' (l1++l2)=S.fin s l/\S.fy s' (l1++l2)=S.fy s l/\Sub dj (S.cS s')/\∀j,j<S.k->h'.get j=(S.cR s' (l1++l2))[j]?
theorem Qqe{b:Code}{m:wi}(h:uO b=some m):∃r1 o1 bl r2 n x e k v,b=.seq (.region r1 o1 false) (.seq (.cond (.tmp m.tc) .skip (.exit m.ex)) (.block bl (.seq (.region r2 m.o2 false) m.rest)))/\o1.toList=[n,x]/\m.o2.toList=e::k::v::m.more /\
 n.op=.next (.tmp m.it) false/\n.dst=some m.tn/\n.guard=none/\x.op=.extract (.tmp m.tn) 0/\x.dst=some m.tc/\x.guard=none/\e.op=.entry (.tmp m.it)/\e.dst=some m.te/\e.guard=none/\k.op=.extract (.tmp m.te) 0/\k.dst=some m.tk/\k.guard=none /\
 v.op=.extract (.tmp m.te) 1/\v.dst=some m.tv/\v.guard=none/\m.it≠m.tn/\m.it≠m.tc/\m.te≠m.tk/\m.tn≠m.tc/\m.tk≠m.tv:=by
 unfold uO at h
 split at h
 ·rename_i r1 o1 tc ex bl r2 o2 rest
  split at h
  ·rename_i n x e k v more h1 h2
   split at h
   ·rename_i it tn xe tc' q1 q2 q3 q4 q5 q6
    split at h
    ·rename_i it' te te' tk p1 p2 p3 p4 p5 p6
     split at h
     ·rename_i te2 tv w1 w2 w3
      have key:∀(c:Bool) (y:wi),(bif c then some y else none)=some m->c=true/\y=m:=by
       intro c y hh;cases c
       ·cases hh
       ·exact⟨rfl,aj hh⟩
      obtain⟨hc,rfl⟩:=key _ _ h;simp only[ai,Nat.beq_eq,Bool.not_eq_true']at hc;obtain⟨⟨⟨⟨⟨rfl,rfl⟩,rfl⟩,rfl⟩,rfl⟩,⟨⟨⟨c1,c2⟩,c3⟩,c4⟩,c5⟩:=hc;exact⟨r1,o1,bl,r2,n,x,e,k,v,rfl,h1,h2,q1,q2,q3,q4,q5,q6,p1,p2,p3,p4,p5,p6,w1,w2,w3,Nat.ne_of_beq_eq_false c1,Nat.ne_of_beq_eq_false c2,Nat.ne_of_beq_eq_false c3,Nat.ne_of_beq_eq_false c4,Nat.ne_of_beq_eq_false c5⟩
     ·cases h
    ·cases h
   ·cases h
  ·cases h
 ·cases h
theorem DZ{a:Act}{d t:Nat}{v:Value}(h:t≠d):(a.put (some d) v).tmps.getD t undef=a.tmps.getD t undef:=by
 simp[Act.put,Array.getD_eq_getD_getElem?,Array.getElem?_setIfInBounds_ne (Ne.symm h)]
theorem HH{a:Act}{d:Nat}{v:Value}(h:d<a.tmps.size):(a.put (some d) v).eval (.tmp d)=v:=by
 simp[Act.eval,Act.put,h]
theorem Qqf(K:Zq P T)(F:Qj P T Φ){g:FuncId}{fn:Func}{body b:Code}{m:wi}{ck cv:C.Ty}{σ:Type}{S:Cq C ck cv σ}(hm:uO b=some m)(qg:∀x,(T.enc ck x).dA=false)(hr:SN T Φ g m S)(hf:Φ.fn g=some fn)(hb:fn.body=some body)(nH:YV fn.ntmps b=true)
 (hl:∀b'∈Zi b,b'∈Zi body) {B:Nat->Bool} (hB:xB B b) {Q:Exit->Act->World->Prop}:∀(N:Nat) (s:σ) (l:List (C.A ck×C.A cv)) (X:Cx) (a:Act),l.length<=N->S.Inv s l->G T X (ic 0 (S.cR s l)) S.k (eQ S.k)->QE T X S.k (eQ S.k) (S.cS s) a.tmps->fn.ntmps<=a.tmps.size ->
  (∀a' X',G T X' (ic 0 (S.fy s l)) S.k (eQ S.k)->Step X S.k (eQ S.k) X'->QE T X' S.k (eQ S.k) (S.fin s l) a'.tmps->a'.tmps.size=a.tmps.size->VH X X' a'.defers a.defers->Kp B a.tmps a'.tmps->Q (.exit m.ex) a' X'.w)->Code.rounds P b Q (N+1) a X.w:=by
 obtain⟨r1,o1,bl,r2,n,x,e,k,v,rfl,pP,mJ,n1,n2,n3,x1,x2,x3,e1,H0,e3,k1,k2,k3,v1,v2,v3,c1,c2,c3,c4,c5⟩:=Qqe hm;simp only[YV,ai]at nH;obtain⟨⟨ye,_⟩,_,⟨uU,_⟩,sD⟩:=nH;have lQ:∀o∈o1.toList,∀t,o.dst=some t->t<fn.ntmps:=Mp ye;have lR:∀o∈m.o2.toList,∀t,o.dst=some t->t<fn.ntmps:=Mp uU;have hB1:∀o∈o1.toList,∀t,o.dst=some t->B t=false:=fun o ho t ht=>hB t (by simp only[g8,aT,List.mem_filterMap];exact .inl ⟨o,ho,ht⟩);have rS:∀o∈m.o2.toList,∀t,o.dst=some t->B t=false:=fun o ho t ht=>hB t (by simp only[g8,aT,List.mem_filterMap];exact .inr (.inr (.inl ⟨o,ho,ht⟩)));have hB3:xB B m.rest:=fun t ht=>hB t (by simp only[g8,aT];exact .inr (.inr (.inr ht)));have m1:n∈o1.toList:=by rw[pP];simp
 have m2:x∈o1.toList:=by rw[pP];simp
 have m3:e∈m.o2.toList:=by rw[mJ];simp
 have m4:k∈m.o2.toList:=by rw[mJ];simp
 have m5:v∈m.o2.toList:=by rw[mJ];simp
 have sY:o1.size=2:=by rw[<-Array.length_toList,pP];rfl
 have i0:o1[0]? = some n:=by rw[<-Array.getElem?_toList,pP];rfl
 have i1:o1[1]? = some x:=by rw[<-Array.getElem?_toList,pP];rfl
 have j0:m.o2[0]? = some e:=by rw[<-Array.getElem?_toList,mJ];rfl
 have j1:m.o2[1]? = some k:=by rw[<-Array.getElem?_toList,mJ];rfl
 have j2:m.o2[2]? = some v:=by rw[<-Array.getElem?_toList,mJ];rfl
 have hw:∀(ops:cV) (o:Oper) (u:b7),o.guard=none->Region.wanted o (yielded ops u)=true:=fun ops o u hg=>by simp[Region.wanted,hg]
 intro N
 induction N using Nat.strongRecOn with
 |_ N ih=>
 intro s l X a hN hI hg he fN hk;obtain⟨gn,kK,Ic,hei,oG,sJ,Ff⟩:=hr s l hI;rw[rounds_succ];refine(wpIn_wide (n:=0)).1 (wpIn_seq (wpIn_region ?_));rw[List.range_eq_range',sY,List.range'_succ,wpOpsIn_cons];unfold wpOpIn;simp only[i0,hw o1 n _ n3,aU]
 have hvi:R T X false (.ku S.it:D C) [a.eval (.tmp m.it)]:=by
  have:=(he m.it).1;rw[hei]at this;exact this.one rfl
 have nh:(ic 0 (S.cR s l)).get S.it=some (.ek (.it ck cv l)):=by rw[QM];exact Ic
 have b1:m.tn<a.tmps.size:=bj (lQ n m1 _ n2) fN;have b2:m.tc<a.tmps.size:=bj (lQ x m2 _ x2) fN
 have go:∀(val:Value) (ok:Bool) (w':World),(Instr.next (a.eval (.tmp m.it)) false n.type).run P X.w=.ok val w'->(Instr.extract val 0:Sem Value)=pure (.bool ok) ->
  (∀a2:Act,a2=(a.put (some m.tn) val).put (some m.tc) (.bool ok)->(Code.seq (.cond (.tmp m.tc) .skip (.exit m.ex)) (.block bl (.seq (.region r2 m.o2 false) m.rest))).wpIn Fence.wide 0 P (Exit.then (Code.rounds P (.seq (.region r1 o1 false) (.seq (.cond (.tmp m.tc) .skip (.exit m.ex)) (.block bl (.seq (.region r2 m.o2 false) m.rest)))) Q N) Q) a2 w') ->
  n.wpIn Fence.wide 0 P a X.w (wpOpsIn Fence.wide 0 P o1 (Exit.then ((Code.seq (.cond (.tmp m.tc) .skip (.exit m.ex)) (.block bl (.seq (.region r2 m.o2 false) m.rest))).wpIn Fence.wide 0 P (Exit.then (Code.rounds P (.seq (.region r1 o1 false) (.seq (.cond (.tmp m.tc) .skip (.exit m.ex)) (.block bl (.seq (.region r2 m.o2 false) m.rest)))) Q N) Q)) (Exit.then (Code.rounds P (.seq (.region r1 o1 false) (.seq (.cond (.tmp m.tc) .skip (.exit m.ex)) (.block bl (.seq (.region r2 m.o2 false) m.rest)))) Q N) Q)) (List.range' 1 1)) (Exit.then ((Code.seq (.cond (.tmp m.tc) .skip (.exit m.ex)) (.block bl (.seq (.region r2 m.o2 false) m.rest))).wpIn Fence.wide 0 P (Exit.then (Code.rounds P (.seq (.region r1 o1 false) (.seq (.cond (.tmp m.tc) .skip (.exit m.ex)) (.block bl (.seq (.region r2 m.o2 false) m.rest)))) Q N) Q)) (Exit.then (Code.rounds P (.seq (.region r1 o1 false) (.seq (.cond (.tmp m.tc) .skip (.exit m.ex)) (.block bl (.seq (.region r2 m.o2 false) m.rest)))) Q N) Q)):=by
  intro val ok w' ez u3 eM;refine ZI (ro:=none) (fun c hc=>by rw[n1]at hc;cases hc) (uv (v:=val) (w':=w') (by obtain⟨dst,op,ty,pos,after,guard⟩:=n;simp only at n1;subst n1;simp only[execOp,aG,ez,aA,aF]) ?_);rw[n2];rw[List.range'_succ,wpOpsIn_cons];unfold wpOpIn;simp only[i1,hw o1 x _ x3,aU];refine ZI (ro:=none) (fun c hc=>by rw[x1]at hc;cases hc) (uv (v:=.bool ok) (w':=w') (by obtain⟨dst,op,ty,pos,after,guard⟩:=x;simp only at x1;subst x1;simp only[execOp,HH b1,u3,aG,aF,aA]) ?_);rw[x2];exact eM _ rfl
 have rz:∀val ok,Kp B a.tmps ((a.put (some m.tn) val).put (some m.tc) (.bool ok)).tmps:=fun val ok=>(Ku a _ _ (fun t ht=>by cases ht;exact hB1 n m1 _ n2)).trans (Ku _ _ _ (fun t ht=>by cases ht;exact hB1 x m2 _ x2));have Fg:∀val ok,((a.put (some m.tn) val).put (some m.tc) (.bool ok)).tmps.size=a.tmps.size:=fun val ok=>by rw[(QO _ _ _).1,(QO _ _ _).1]
 have EI:∀val ok,((a.put (some m.tn) val).put (some m.tc) (.bool ok)).defers=a.defers:=fun val ok=>by rw[(QO _ _ _).2,(QO _ _ _).2]
 have H3:∀val ok,((a.put (some m.tn) val).put (some m.tc) (.bool ok)).eval (.tmp m.tc)=.bool ok:=fun val ok=>HH (by rw[(QO _ _ _).1];exact b2);rcases vB K hg nh hvi n.type with⟨rfl,ez⟩|⟨l1,y,l2,key,val,X1,rfl,ez,g1,s1,sK,hRk,hRv⟩
 ·refine go _ false X.w ez rfl fun a2 qK=>?_;refine wpIn_seq (wpIn_cond_false (by rw[qK];exact H3 _ _) (wpIn_exit ?_));obtain⟨f1,f2⟩:=sJ rfl;rw[f2]at hk;refine hk a2 X hg (.refl _ _ _) (fun t=>?_) (by rw[qK,Fg]) (.of_eq (by rw[qK,EI])) (by rw[qK];exact rz _ _);rcases iL (S.fin s []) t with h|h
  ·rw[h];exact RO.mk (RV.top _ _ _) rfl
  ·obtain⟨q1,q2,q3⟩:=f1 _ h;simp only at q1 q2 q3;have:a2.tmps.getD t undef=a.tmps.getD t undef:=by rw[qK,DZ q3,DZ q2]
   rw[this,<-q1];exact he t
 ·cases N with
  |zero=>simp at hN
  |succ N=>
  obtain⟨lZ,dj,h',cM,tr,s',hx,ui,kv,lq,kT,iQ⟩:=Ff l1 y l2 rfl;obtain⟨mK,aap,_⟩:=hr s' (l1++l2) ui;have hle:S.k<=cM:=hx.le;obtain⟨eD,h1,pS,t1,t2,q1,q2,_⟩:=Ex.bind hx;have k8:=Ex.le q1;have vd:=Ex.le q2
  have Ih:Qk S.k (S.cS s) (S.cR s (l1++l2)):=by
   refine⟨by rw[oG];simpa using gn.1,gn.2.1,fun o ho=>?_⟩;rw[oG]at ho;rcases List.mem_or_eq_of_mem_set ho with h|h
   ·exact gn.2.2 o h
   ·subst h;intro r fT;simp[Obj.refs]at fT
  have cY:S.it<(S.cR s (l1++y::l2)).length:=(av.1 Ic).1
  have OV:G T X1 (ic 0 (S.cR s (l1++l2))) S.k (eQ S.k):=g1.congr fun id=>by
   rw[Qu (by rw[nh];rfl),QM,QM,oG (l1++l2)]
   by_cases dU:id=S.it
   ·subst dU;simp[cY]
   ·rw[List.getElem?_set_ne (Ne.symm dU)];simp[dU]
  have g0:G T X1 (ic 0 (S.cR s (l1++l2))) S.k (eQ cM):=OV.mj (JB Ih.1 Ih.2.2) (aq _) (aK _) (fun _ h=>h)
  have e0:QE T X1 S.k (eQ cM) (S.cS s) a.tmps:=fun t=>⟨((he t).step K.base s1 (aq _)).1,fun r hh=>⟨.inl (by
   rcases iL (S.cS s) t with h|h
   ·rw[h]at hh;simp[D.refs]at hh
   ·exact gn.2.1 _ h r hh),fun h=>h⟩⟩
  refine go _ true X1.w ez rfl fun a2 qK=>?_;refine wpIn_seq (wpIn_cond_true (by rw[qK];exact H3 _ _) (wpIn_skip ?_));refine wpIn_block (wpIn_seq (wpIn_region ?_));have PP:m.o2.size=m.more.length+1+1+1:=by rw[<-Array.length_toList,mJ];rfl
  have vj:a2.tmps.size=a.tmps.size:=by rw[qK,Fg]
  have e2:QE T X1 S.k (eQ cM) ((m.tc,.bool true)::(m.tn,.top)::S.cS s) a2.tmps:=by
   have h1:QE T X1 S.k (eQ cM) (Ev.put (S.cS s) (some m.tn) .top) (a.put (some m.tn) (.tuple #[.bool true,key,val])).tmps:=e0.put (RO.mk (RV.top _ _ _) rfl) (fun t ht=>by cases ht;exact b1);rw[qK];exact h1.put (dst:=some m.tc) (RO.mk (.mk rfl (.bool true)) rfl) (fun t ht=>by cases ht;rw[(QO _ _ _).1];exact b2)
  have ES:a2.eval (.tmp m.it)=a.eval (.tmp m.it):=by
   show a2.tmps.getD m.it undef=a.tmps.getD m.it undef;rw[qK,DZ c2,DZ c1]
  have d1:m.te<a2.tmps.size:=by rw[vj];exact bj (lR e m3 _ H0) fN
  have d2:m.tk<a2.tmps.size:=by rw[vj];exact bj (lR k m4 _ k2) fN
  have d3:m.tv<a2.tmps.size:=by rw[vj];exact bj (lR v m5 _ v2) fN
  rw[List.range_eq_range',PP,List.range'_succ,wpOpsIn_cons];unfold wpOpIn;simp only[j0,hw m.o2 e _ e3,aU];refine ZI (ro:=none) (fun c hc=>by rw[e1]at hc;cases hc) (uv (v:=.tuple #[key,val]) (w':=X1.w) (by obtain⟨dst,op,ty,pos,after,guard⟩:=e;simp only at e1;subst e1;simp only[execOp,ES,aG,sK,aA,aF]) ?_);rw[H0,List.range'_succ,wpOpsIn_cons];unfold wpOpIn;simp only[aN,j1,hw m.o2 k _ k3,aU];refine ZI (ro:=none) (fun c hc=>by rw[k1]at hc;cases hc) (uv (v:=key) (w':=X1.w) (by obtain⟨dst,op,ty,pos,after,guard⟩:=k;simp only at k1;subst k1;simp[execOp,HH d1,Instr.extract]) ?_);rw[k2,List.range'_succ,wpOpsIn_cons];unfold wpOpIn;simp only[j2,hw m.o2 v _ v3,aU]
  have OP:((a2.put (some m.te) (.tuple #[key,val])).put (some m.tk) key).eval (.tmp m.te)=.tuple #[key,val]:=by
   show((a2.put (some m.te) (.tuple #[key,val])).put (some m.tk) key).tmps.getD m.te undef=_;rw[DZ c3];exact HH d1
  refine ZI (ro:=none) (fun c hc=>by rw[v1]at hc;cases hc) (uv (v:=val) (w':=X1.w) (by obtain⟨dst,op,ty,pos,after,guard⟩:=v;simp only at v1;subst v1;simp[execOp,OP,Instr.extract]) ?_);rw[v2]
  have e5:QE T X1 S.k (eQ cM) ((m.tv,T.enc cv y.2)::(m.tk,T.enc ck y.1)::(m.te,.top)::(m.tc,.bool true)::(m.tn,.top)::S.cS s) (((a2.put (some m.te) (.tuple #[key,val])).put (some m.tk) key).put (some m.tv) val).tmps:=by
   have h1:QE T X1 S.k (eQ cM) (Ev.put _ (some m.te) .top) (a2.put (some m.te) (.tuple #[key,val])).tmps:=e2.put (RO.mk (RV.top _ _ _) rfl) (fun t ht=>by cases ht;exact d1);have h2:=h1.put (dst:=some m.tk) (d:=T.enc ck y.1) (v:=key) (RO.mk (.inr ⟨qg _,hRk⟩) (K.base.fI _ _)) (fun t ht=>by cases ht;rw[(QO _ _ _).1];exact d2);exact h2.put (dst:=some m.tv) (d:=T.enc cv y.2) (v:=val) (RO.mk hRv (K.base.fI _ _)) (fun t ht=>by cases ht;rw[(QO _ _ _).1,(QO _ _ _).1];exact d3)
  have sZ:(((a2.put (some m.te) (.tuple #[key,val])).put (some m.tk) key).put (some m.tv) val).tmps.size=a.tmps.size:=by rw[(QO _ _ _).1,(QO _ _ _).1,(QO _ _ _).1,vj]
  have EJ:(((a2.put (some m.te) (.tuple #[key,val])).put (some m.tk) key).put (some m.tv) val).defers=a.defers:=by rw[(QO _ _ _).2,(QO _ _ _).2,(QO _ _ _).2,qK,EI]
  have EZ:Kp B a.tmps (((a2.put (some m.te) (.tuple #[key,val])).put (some m.tk) key).put (some m.tv) val).tmps:=by
   refine(by rw[qK];exact rz _ _:Kp B a.tmps a2.tmps).trans ?_;exact((Ku a2 _ _ (fun t ht=>by cases ht;exact rS e m3 _ H0)).trans (Ku _ _ _ (fun t ht=>by cases ht;exact rS k m4 _ k2))).trans (Ku _ _ _ (fun t ht=>by cases ht;exact rS v m5 _ v2))
  generalize ((a2.put (some m.te) (.tuple #[key,val])).put (some m.tk) key).put (some m.tv) val=a5 at e5 sZ EJ EZ ⊢;have ia:=QB7 K F lZ;refine XK (ro:=none) (m:=0) K ia rS m.more 3 (by rw[mJ];rfl) g0 e5 (by show pS<=cM;exact vd) (fun o ho t ht=>by rw[sZ];exact bj (lR o ho t ht) fN) q1 fun a6 X6 g6 s6 e6 yK hd6 kp6=>?_;refine(G4 K F lZ).1 none 0 g fn.ntmps m.rest (.inr ⟨rfl,fn,body,hf,rfl,hb,fun b' jV=>hl b' (by simp[Zi,jV])⟩) sD B hB3 X6 h1 pS (eQ cM) (0,0) eD .normal dj h' cM t2 a6 _ g6 e6 (aq _) (by rw[yK,sZ];exact fN) q2 ?_;intro a7 X7 g7 s7 e7 hs7 hd7 kp7;have s67:=s6.trans s7 k8
  -- vI vC FQ are kept
  obtain⟨X2,w2,g2,s2,hρ⟩:=G.drop K.base g7 (h':=ic 0 (S.cR s' (l1++l2))) (fun id=>by
   rw[QM]
   by_cases dU:id<S.k
   ·exact .inl (iQ id dU).symm
   ·exact .inr (bc (by rw[mK.1];omega)))
  have mu:∀id,¬id<S.k->X2.ρ id=none:=fun id dU=>by
   cases hq:X2.ρ id with
   |none=>rfl
   |some o=>
    have:=g2.kg id o hq;rw[QM,bc (by rw[mK.1];omega)]at this;cases this
  have s3:=s67.trans s2 hle;have g3:G T X2 (ic 0 (S.cR s' (l1++l2))) S.k (eQ S.k):=g2.mj (JB mK.1 mK.2.2) (aq _) (aK _) (fun _ h=>h)
  have s4:Step X1 S.k (eQ S.k) X2:=⟨s3.O,s3.os,s3.tape,s3.output,s3.size,fun id ho=>by
   by_cases dU:id<S.k
   ·exact s3.ρ id ⟨.inl dU,fun h=>h⟩
   ·rw[mu id dU];cases X1.ρ id<;>simp[Qo],s3.dI,s3.cell,s3.block,s3.frz⟩
  have e8:QE T X2 S.k (eQ S.k) (S.cS s') a7.tmps:=fun t=>by
   rcases iL (S.cS s') t with h|h
   ·rw[h];exact RO.mk (RV.top _ _ _) rfl
   ·have oE:∀r∈(c8 (S.cS s') t).refs,r<S.k:=mK.2.1 _ h;have h2:=kT _ h;simp only at h2;have h3:=(e7 t).1;rw[h2]at h3;exact⟨h3.mono T K.base.iv s2.keeps fun r hh=>s2.ρ r ⟨.inl (by have:=oE r hh;omega),fun h=>h⟩,fun r hh=>⟨.inl (oE r hh),fun h=>h⟩⟩
  show Code.rounds P _ Q (N+1) a7 X7.w;rw[<-w2];have eI:=s1.trans s4 (aq _)
  have wM:VH X X2 a7.defers a.defers:=by
   have h1:VH X6 X7 a7.defers a6.defers:=hd7;rw[hd6,EJ]at h1;obtain⟨rs,e1,n1,Fc⟩:=h1.sub w2 s2.dI;exact⟨rs,e1,n1,fun r hr=>⟨bk (bk s1.size s6.size) (Fc r hr).1,(Fc r hr).2⟩⟩
  refine ih N (by omega) s' (l1++l2) X2 a7 (by simp at hN ⊢;omega) ui g3 e8 (by rw[hs7,yK,sZ];exact fN) fun a9 X9 g9 s9 e9 hs9 hd9 kp9=>?_;rw[kv]at e9;rw[lq]at g9;exact hk a9 X9 g9 (eI.trans s9 (aq _)) e9 (by rw[hs9,hs7,yK,sZ]) (wM.trans eI s9 hd9) (((EZ.trans kp6).trans kp7).trans kp9)
theorem QzS(K:Zq P T)(F:Qj P T Φ){g key:Nat}{fs:du}{dW:bU}{pd:Env C->List (Obj C)->RT C}{ck cv:C.Ty}{σ:Type}{S:Cq C ck cv σ}{m:wi}(qg:∀x,(T.enc ck x).dA=false)
 (hr:SN T Φ g m S) (hm:∀fn body b,Φ.fn g=some fn->fn.body=some body->b∈Zi body->QF b=key->uO b=some m)
 (kS:∀fe os x dj fm,(pd fe os).val=some ((x,dj),fm)->∃q l,S.Inv q l/\(∀p∈S.cS q,p∈fe)/\os=S.cR q l/\x=.exit m.ex/\S.fin q l=dj/\S.fy q l=fm):G5 P T Φ g key (pK T fs dW pd):=by
 intro fn body b hf hb sE j9 B hB X h nx lim e env x dj h' cM tr a Q gg he eA fN hx hk;obtain⟨f1,f2,f3⟩:=F.fn g fn hf;obtain⟨c1,c2⟩:=ZV body (f3 body hb) b sE;have hmb:=hm fn body b hf hb sE j9;obtain⟨X1,h1,pS,eD,dB,oS,w1,g1,s1,oC,e1,mw⟩:=ML K eA fs X h nx tr env [] gg he hx;cases lC:KJ dB with
 |false=>rw[lC]at mw;exact Ex.cI mw
 |true=>
 rw[lC]at mw;simp only[ag]at mw;have js:=Y2 lC;obtain⟨os,mQ,dc,qP,fW⟩:=Dg dB _ _ mw;cases iY:pE dB (dW.flatMap fun t=>(c8 eD t).refs)&&pE dB (os.flatMap Obj.refs)with
 |false=>rw[iY]at fW;exact Ex.cI fW
 |true=>
 rw[iY]at fW;simp only[ag]at fW;simp only[ai]at iY;have qj:=Vb iY.1;have pz:=Vb iY.2;obtain⟨xx,ee,fm,hq,yS⟩:=RT.pJ _ _ fW
 ··obtain⟨q,l,hI,kT,kC,rfl,kv,lq⟩:=kS _ _ _ _ _ hq;obtain⟨gn,kK,_⟩:=hr q l hI;obtain⟨h2,Rm,nR,pD,s8,yT⟩:=Dh dB _ h1 _ js yS;obtain⟨kh,eh,en,_⟩:=Ex.ret yT;obtain⟨rfl,rfl⟩:=Prod.mk.inj kh;subst eh;subst en
   let f:Nat->Nat:=fun j=>dB.getD j 0
   have oB:∀j,j<dB.length->dB[j]? = some (f j):=fun j hj=>by simp[f,hj]
   have sP:dB.length=S.k:=by rw[<-gn.1,<-kC];simp[dc]
   have qM:∀r,r∈dB->f (idx dB r)=r:=fun r hr=>by
    have:=Ka dB r hr;simp only[f,ar,this,ba]
   have jH:(S.cR q l).length=dB.length:=by rw[gn.1,sP]
   have part:Part h1 (S.cR q l) f:=by
    refine⟨fun j o ho=>?_,fun i j hi hj lP=>?_,fun o ho r hr=>by rw[gn.1];exact gn.2.2 o ho r hr⟩
    ·rw[<-kC,bB]at ho;cases lg:os[j]? with
     |none=>simp[lg]at ho
     |some o0=>
      simp only[lg,bC,aD]at ho;have hj:j<dB.length:=by rw[<-dc];exact(av.1 lg).1
      rw[qP j (f j) o0 (oB j hj) lg,<-ho,Obj.eH];intro id dU;exact qM id (pz id (List.mem_flatMap.2 ⟨o0,List.mem_of_getElem? lg,dU⟩))
    ·rw[jH]at hi hj;have:=(List.getElem?_inj hi js (j:=j)).1 (by rw[oB i hi,oB j hj];simp only[f]at lP ⊢;rw[lP]);exact this
   have g2:=Part.ctx K.base g1 part (S.cR q l).length
   have e2:QE T (X1.part (S.cR q l).length f) (S.cR q l).length (eQ (S.cR q l).length) (S.cS q) a.tmps:=by
    refine QE.part K.base e1 part.inj (fun p hp=>?_) (fun p hp r hr=>by rw[gn.1];exact gn.2.1 p hp r hr);have:=kT p hp;simp only[List.mem_map]at this;obtain⟨t,ht,rfl⟩:=this;simp only;rw[D.eH];intro id dU;exact qM id (qj id (List.mem_flatMap.2 ⟨t,ht,dU⟩))
   rw[gn.1]at g2 e2;rw[<-w1];show(Code.loop b).wp P Q a (X1.part S.k f).w;refine wp_loop_rounds (l.length+1) (Qqf K F hmb qg hr hf hb c1 c2 hB l.length q l (X1.part S.k f) a (aq _) hI g2 e2 fN fun a' X' g' s' e' pB uX vo=>?_);rw[lq]at g';rw[kv]at e';have ko:fm.length=(S.cR q l).length:=by rw[<-lq,kK.1,gn.1]
   have lr:∀o∈fm,∀r∈Obj.refs o,r<(S.cR q l).length:=fun o ho r hr=>by rw[gn.1];exact kK.2.2 o (by rw[lq];exact ho) r hr
   obtain⟨X2,w2,g3,s3,hρ,rS⟩:=Part.back K.base g1 part ko lr (X1:=X') (lim1:=eQ S.k) (h':=h') (by rw[gn.1];exact g') (by rw[gn.1];exact s') (fun j o hj=>by
    have cY:j<dB.length:=by rw[<-jH,<-ko];exact(av.1 hj).1
    exact pD j (f j) _ (oB j cY) (by rw[bB,hj];rfl)) (fun id dU=>by
    refine s8 id fun hm=>?_;obtain⟨j,hj,yy⟩:=List.getElem_of_mem hm;refine dU j (by rw[jH];exact hj) ?_;simp[f,hj,yy])
   have gD:∀j,j<S.k->fL cM lim (f j):=fun j hj=>by
    have mr:j<(S.cR q l).length:=by rw[gn.1];exact hj
    exact(g1.eY _ _ (part.ot j (S.cR q l)[j] (by simp[mr]))).1
   have e3:=QE.back (nx:=cM) (lim:=lim) (f:=f) K.base e' (fun p hp r hr=>kK.2.1 p (by rw[kv];exact hp) r hr) (fun j hj=>hρ j (by rw[gn.1];exact hj)) ⟨rS⟩ gD;have:=hk a' X2 g3 (s1.trans s3 oC) e3 pB (uX.y3 g3 (by show X.w.heap.size<=X1.w.heap.size;rw[w1];exact aq _) w2) vo;rw[w2]at this;exact this
noncomputable def y8(T:fA C)(Φ:jv C)(g:FuncId)(m:wi)(n k:Nat)(kc:bU){ck cv:C.Ty}(x:C.A ck×C.A cv)(env:Env C)(os:List (Obj C)):Option (Env C×List (Option (Obj C))):=
 (Pg.bind (qE T (uc T Φ (kl T Φ n)) m.o2 m.more ((m.tv,T.enc cv x.2)::(m.tk,T.enc ck x.1)::(m.te,.top)::(m.tc,.bool true)::(m.tn,.top)::env)) fun env=>kl T Φ n g m.rest env).run (0,0) (ic 0 os) k [] fun r h' _ _=>match r.1 with
  |.normal=>some (kc.map fun t=>(t,c8 r.2 t),ue 0 k h')
  |_=>none
def uH(b:Code):wi:=match uO b with
 |some m=>m
 |none=>⟨0,0,0,0,0,0,0,#[],[],.skip⟩
theorem QzT{b:Code}(h:(uO b).isSome=true):uO b=some (uH b):=by
 unfold uH;cases hm:uO b with
 |none=>rw[hm]at h;cases h
 |some m=>rfl
def I5{ck cv:C.Ty}{σ:Type}(S:Cq C ck cv σ)(ex:Nat)(d:Env C->List (Obj C)->Option (Bool×(σ×List (C.A ck×C.A cv))))(env:Env C)(os:List (Obj C)):RT C:=match d env os with
 |some (b,q)=>.br b (.leaf (.exit ex) (S.fin q.1 q.2) (S.fy q.1 q.2)) .fail
 |none=>.fail
theorem Qj.p7(K:Zq P T)(F:Qj P T Φ){g key:Nat}(lA:uD (J9 Φ g)=true)(dK:(uO (KF Φ g key)).isSome=true){ck cv:C.Ty}(qg:∀x,(T.enc ck x).dA=false){σ:Type}(S:Cq C ck cv σ)(n ex:Nat)(dX:(uH (KF Φ g key)).ex=ex)
 (kc:bU) (fs:du) (dW:bU) (d:Env C->List (Obj C)->Option (Bool×(σ×List (C.A ck×C.A cv))))
 (hr:∀s l,S.Inv s l->Qk S.k (S.cS s) (S.cR s l)/\Qk S.k (S.fin s l) (S.fy s l)/\(S.cR s l)[S.it]? = some (.ek (.it ck cv l))/\c8 (S.cS s) (uH (KF Φ g key)).it=.ku S.it/\(∀l',S.cR s l'=(S.cR s l).set S.it (.ek (.it ck cv l'))) /\
  (l=[]->(∀p∈S.fin s l,c8 (S.cS s) p.1=p.2/\p.1≠(uH (KF Φ g key)).tn/\p.1≠(uH (KF Φ g key)).tc)/\S.fy s l=S.cR s l) /\
  ∀l1 x l2,l=l1++x::l2->∃s',y8 T Φ g (uH (KF Φ g key)) n S.k kc x (S.cS s) (S.cR s (l1++l2))=some (S.cS s',(S.cR s' (l1++l2)).map some)/\S.Inv s' (l1++l2)/\S.fin s' (l1++l2)=S.fin s l/\S.fy s' (l1++l2)=S.fy s l)
 (hd:∀env os b q,d env os=some (b,q)->b=true->S.Inv q.1 q.2/\S.cS q.1=env/\S.cR q.1 q.2=os):Qj P T (Φ.cP g key (pK T fs dW (I5 S ex d))):=by
 refine F.cP (QzS K F (S:=S) (m:=uH (KF Φ g key)) qg (fun s l hI=>?_) (fun fn body b hf hb sE j9=>?_) ?_)
 ·obtain⟨h1,h2,h3,h4,h5,h6,h7⟩:=hr s l hI;refine⟨h1,h2,h3,h4,h5,h6,fun l1 x l2 hl=>?_⟩;obtain⟨s',q1,q2,q3,q4⟩:=h7 l1 x l2 hl;obtain⟨q2a,_⟩:=hr s' _ q2;unfold y8 at q1;obtain⟨⟨xx,dj⟩,h',cM,tr,q5,q6⟩:=Pg.fK q1;cases xx with
  |exit i=>cases q6
  |ret=>cases q6
  |normal=>
   simp only[aD,Prod.mk.injEq]at q6;obtain⟨q6,q7⟩:=q6;have hg:=YH S.k 0 h' _ q7;simp only[aN]at hg;refine⟨n,dj,h',cM,tr,s',q5,q2,q3,q4,fun p hp=>?_,hg⟩;rw[<-q6]at hp;obtain⟨t,_,rfl⟩:=List.mem_map.1 hp;rfl
 ·rw[<-Ms lA hf hb sE j9];exact QzT dK
 ·intro fe os x dj fm h;unfold I5 at h
  split at h
  ·rename_i b q hq;cases b with
   |false=>simp[RT.val]at h
   |true=>
    obtain⟨h1,h2,h3⟩:=hd _ _ _ _ hq rfl;simp only[RT.val,ag,aD,Prod.mk.injEq]at h;obtain⟨⟨rfl,rfl⟩,rfl⟩:=h;exact⟨q.1,q.2,h1,fun p hp=>by rw[<-h2];exact hp,h3.symm,by rw[dX],rfl,rfl⟩
  ·simp[RT.val]at h
end
open Go.Proofs
def wj:Cq RC .int .int bY where
 k:=2
 it:=1
 cS s:=[(0,.vs 0 s.length),(16,.ku 1)]
 cR s l:=[.cj (C:=RC) .int true s,.ek (.it .int .int l)]
 fin _ _:=[]
 fy s l:=[.cj (C:=RC) .int true (QV s l),.ek (.it .int .int [])]
 Inv s l:=s.length=771/\ZU 771 l=true
def Ow(env:bX)(os:bR):Option (Bool×(bY×cg)):=match env,os with
 |[(0,.vs 0 x0),(16,.ku 1)],[.cj .int true s,.ek (.it .int .int l)]=>some (decide (x0=s.length)&&decide (s.length=771)&&ZU 771 l,(s,l))
 |_,_=>none
def SO(s:bY)(l:cg)(x:Int×Int):=y8 cF vK 59 (uH (KF vK 59 5)) 40 2 [0,16] (ck:=ca.int) (cv:=ca.int) x (wj.cS s) (wj.cR s l)
theorem QD5 s l x:SO s l x=(let Z0:=s.length;let Z1:=x.1;cb (Nat.beq Z0 Z0&&ep Z1 (Z0:Int)) (cb (Nat.beq Z0 Z0) (some ([(0,D.vs 0 Z0),(16,D.ku 1)],[some (Obj.cj ca.int true (List.set s Z1.toNat x.2)),some (Obj.ek (rN.it ca.int ca.int l))])))):=by kernel_rfl
def Ah:=vK.cP 59 5 (pK cF [.slot 0 0,.slot 16 0] [0,16] (I5 wj 2 Ow))
theorem Qxd:Qj Tryz.prog cF Ah:=by
 refine Qxb.p7 Qb (by kernel_rfl) (by kernel_rfl) (fun x=>rfl) wj 40 2 (by kernel_rfl) [0,16] [.slot 0 0,.slot 16 0] [0,16] Ow (fun s l hI=>?_) ?_
 ·obtain⟨h1,h2⟩:=hI;have h1:List.length (α:=Int) s=771:=h1;refine⟨?_,?_,rfl,by kernel_rfl,fun l'=>rfl,fun hl=>⟨fun p hp=>(by cases hp),(by subst hl;rfl)⟩,fun l1 x l2 hl=>?_⟩
  ·simp[Qk,wj,D.refs,Obj.refs]
  ·simp[Qk,wj,D.refs,Obj.refs]
  ·obtain⟨k,v⟩:=x;subst hl;obtain⟨⟨k0,k1⟩,k2,k3⟩:=WR h2;refine⟨s.set k.toNat v,?_,⟨by rw[bf];exact h1,k2⟩,rfl,?_⟩
   ·show SO s (l1++l2) (k,v)=_
    (rw[QD5];delta cb ep;conv=>zeta)
    have b1:Nat.beq s.length s.length=true:=Za rfl;have b2:decide (0<=k/\k<(s.length:Int))=true:=ab ⟨k0,by rw[h1];exact k1⟩;simp only[b1,b2,au,ag,wj,bf,List.map_cons,List.map_nil]
   ·simp only[wj,Qw1 k0 k3]
 ·intro env os b q h hb;unfold Ow at h
  split at h
  ·cases h;simp only[ai,aa]at hb;obtain⟨⟨e1,e2⟩,e3⟩:=hb;subst e1;exact⟨⟨e2,e3⟩,rfl,rfl⟩
  ·cases h
def xO(p:Int):cg:=gW (gW (gW (gW [] 0 p) 3 p) 4 p) 1 (IntKind.i64.wrap (p+1))
def JA(n0:bY)(c kk:Int)(s:St):bY:=QV (QV (QV (QV (QV n0 (YC 0 (gW [] 48 s.c0) s.l0)) (YC 1 (gW [] 49 s.c1) s.l1)) (YC 2 (gW [] 50 s.c2) s.l2)) (xO s.b8)) (Zh c kk 0 s.bV [])
def Ze(now sure:bL)(c w d kk:Int)(s:St):Int:=bif Qt now sure&&ZY c w d kk&&Qs s then(bif decide (c*kk<s.bV.length)then 120 else 0)else 2
theorem nz{k v:Int}:∀{m:cg} {p:Int×Int},p∈gW m k v->p.1=k\/∃q∈m,q.1=p.1
 |[],p,h=>by
  simp[gW,iR]at h;subst h;exact .inl rfl
 |(a,b)::m,p,h=>by
  unfold gW iR at h
  by_cases hk:k=a
  ·rw[ab hk]at h;simp only[ag,aZ]at h;rcases h with rfl|h
   ·exact .inl rfl
   ·exact .inr ⟨p,aS _ h,rfl⟩
  ·rw[ad hk]at h;simp only[ah,aZ]at h;rcases h with rfl|h
   ·exact .inr ⟨_,aV,rfl⟩
   ·rcases nz h with h|⟨q,hq,e⟩
    ·exact .inl h
    ·exact .inr ⟨q,aS _ hq,e⟩
theorem Q9{n:Nat}{k v:Int}(h0:0<=k)(h1:k<n):∀{m:cg},ZU n m=true->ZU n (gW m k v)=true
 |[],_=>by simp[gW,iR,ZU];omega
 |(a,b)::m,h=>by
  simp only[ZU,ai,aa,aX]at h;obtain⟨⟨a1,a2⟩,a3⟩:=h;unfold gW iR
  by_cases hk:k=a
  ·rw[ab hk];simp only[ag,ZU,ai,aa,aX];exact⟨⟨⟨h0,h1⟩,fun p hp=>by rw[hk];exact a2 p hp⟩,a3⟩
  ·rw[ad hk];simp only[ah,ZU,ai,aa,aX];refine⟨⟨a1,fun p hp=>?_⟩,Q9 h0 h1 a3⟩;rcases nz hp with e|⟨q,hq,e⟩
   ·rw[e];exact hk
   ·rw[<-e];exact a2 q hq
theorem Kt{q:Int}(q0:0<=q)(q1:q<=2):∀{l:bJ} {m:cg},ZU 771 m=true->(∀x∈l,0<=x.offset)->ZU 771 (YC q m l)=true
 |[],m,h,_=>h
 |x::l,m,h,hx=>by
  have h0:=hx x aV;have e1:dR q x.offset=51+16*q+x.offset%16:=by unfold dR;rw[ax ⟨q0,q1,h0⟩]
  have e2:eN 45 q 3=45+q:=by unfold eN;rw[ax (by omega)]
  simp only[YC,List.foldl_cons];exact Kt q0 q1 (Q9 (by rw[e2];omega) (by rw[e2];omega) (Q9 (by rw[e1];omega) (by rw[e1];omega) h)) fun y hy=>hx y (aS _ hy)
theorem UO{m:cg}{s:Int}{x:Item}(h:ZU 771 m=true)(s0:0<=s)(s1:s<160)(k0:0<=x.key)(k1:x.key<=23):ZU 771 (wh m s x)=true:=by
 have e:∀f:Int,0<=f->f<=2->eE 291 s f 160 3=291+s*3+f:=fun f f0 f1=>by unfold eE;rw[ax (by omega)]
 have e2:eN 21 x.key 24=21+x.key:=by unfold eN;rw[ax (by omega)]
 unfold wh;rw[e 0 (by omega) (by omega),e 1 (by omega) (by omega),e 2 (by omega) (by omega),e2];exact Q9 (by omega) (by omega) (Q9 (by omega) (by omega) (Q9 (by omega) (by omega) (Q9 (by omega) (by omega) h)))
theorem Ge{c kk:Int}{n:Nat}(c1:1<=c)(c4:c<=4)(q4:4<=kk)(og:kk<=40)(h:(n:Int)<c*kk):0<=YY c kk n/\YY c kk n<160:=by
 unfold YY;have m0:=Int.emod_nonneg (n:Int) (show c≠0 by omega);have m1:=Int.emod_lt_of_pos (n:Int) (show 0<c by omega);have d0:0<=(n:Int)/c:=Int.ediv_nonneg (by omega) (by omega);have d1:(n:Int)/c<kk:=Int.ediv_lt_of_lt_mul (by omega) (by rw[Int.mul_comm];exact h);have p0:0<=(n:Int)%c*kk:=Int.mul_nonneg m0 (by omega);have p1:(n:Int)%c*kk<=3*kk:=Int.mul_le_mul_of_nonneg_right (by omega) (by omega);omega
theorem TN{c kk:Int}(c1:1<=c)(c4:c<=4)(q4:4<=kk)(og:kk<=40):∀{l:bM} {n:Nat} {m:cg},ZU 771 m=true->(∀x∈l,0<=x.key/\x.key<=23)->(n:Int)+l.length<=c*kk->ZU 771 (Zh c kk n l m)=true
 |[],n,m,h,_,_=>h
 |x::l,n,m,h,hx,hn=>by
  have h0:=hx x aV;simp only[aE]at hn;obtain⟨s0,s1⟩:=Ge (n:=n) c1 c4 q4 og (by omega);unfold Zh;exact TN c1 c4 q4 og (UO h s0 s1 h0.1 h0.2) (fun y hy=>hx y (aS _ hy)) (by omega)
theorem Qqg p:ZU 771 (xO p)=true:=by
 unfold xO;exact Q9 (by decide) (by decide) (Q9 (by decide) (by decide) (Q9 (by decide) (by decide) (Q9 (by decide) (by decide) rfl)))
theorem oQ{p c:Int}{l:bJ}(h:YJ p c l=true):∀x∈l,0<=x.offset/\x.offset<=4194303/\QY x=true\/1048575<p:=by
 intro x hx;unfold YJ at h;simp only[ai]at h;have:=aX.1 (YA h.2) x hx;unfold Vi at this;simp only[ai,Qp]at this;obtain⟨⟨⟨⟨⟨a1,a2⟩,b1,b2⟩,d1,d2⟩,e1,e2⟩,f1,f2⟩:=this
 by_cases hp:p<=1048575
 ·refine .inl ⟨a1,a2,?_⟩;simp only[QY,aa];omega
 ·exact .inr (by omega)
theorem LN{s:St}(h:Qs s=true):(0<=s.b8/\s.b8<=1048575)/\s.bV.length<=24/\(∀x∈s.bV,0<=x.key/\x.key<=23/\1<=x.b8/\x.b8<=s.b8/\0<=x.value/\x.value<=255) /\
 (s.l0.length<=16/\∀x∈s.l0,0<=x.offset/\x.offset<=4194303/\QY x=true)/\(s.l1.length<=16/\∀x∈s.l1,0<=x.offset/\x.offset<=4194303/\QY x=true)/\(s.l2.length<=16/\∀x∈s.l2,0<=x.offset/\x.offset<=4194303/\QY x=true):=by
 obtain⟨p,it,l0,l1,l2,c0,c1,c2⟩:=s;obtain⟨hp,hn,_,⟨_,h0,_⟩,⟨_,h1,_⟩,⟨_,h2,_⟩⟩:=Vj h;unfold Qs at h;simp only[ai]at h;obtain⟨⟨⟨⟨_,hi⟩,k0⟩,k1⟩,k2⟩:=h
 have fin:∀{l:bJ} {c:Int},YJ p c l=true->∀x∈l,0<=x.offset/\x.offset<=4194303/\QY x=true:=fun hk x hx=>by
  rcases oQ hk x hx with h|h
  ·exact h
  ·omega
 refine⟨hp,hn,fun x hx=>?_,⟨h0,fin k0⟩,⟨h1,fin k1⟩,⟨h2,fin k2⟩⟩;have:=aX.1 (YA hi) x hx;unfold Vh at this;simp only[ai,Qp]at this;show _/\_/\_/\x.b8<=p/\_;omega
open Go.Proofs
theorem fH{a b:Bool}(h:a=true)(k:b=true):(a&&b)=true:=by rw[h,k];rfl
theorem Ox:nC.length=771:=by rw[HW];rfl
def WS:bW->bO
 |[.bI (.sl .bS cn now) (.bI (.sl .bS cs sure) .bN),.bI (.int .i64 c) (.bI (.int .i64 w) (.bI (.int .i64 d) (.bI (.int .i64 kk) .bN))),.bI (.int .i64 sp) (.bI (.sl .cE ci it) (.bI (.bI (.sl .bP f0 l0) (.bI (.sl .bP f1 l1) (.bI (.sl .bP f2 l2) .bN))) (.bI (.arr .int 3 [c0,c1,c2]) .bN)))]=>some (Ql now&&Ql sure&&decide (it.length<=9223372036854775807/\l0.length<=9223372036854775807/\l1.length<=9223372036854775807/\l2.length<=9223372036854775807),.cH (.bI (cL .int false (bif Ze now sure c w d kk ⟨sp,it,l0,l1,l2,c0,c1,c2⟩==0 then JA nC c kk ⟨sp,it,l0,l1,l2,c0,c1,c2⟩else[]) (.bI (cL .bS false (bif Ze now sure c w d kk ⟨sp,it,l0,l1,l2,c0,c1,c2⟩==0 then now else[]) (cL .bS false (bif Ze now sure c w d kk ⟨sp,it,l0,l1,l2,c0,c1,c2⟩==0 then sure else[]) .bN)) .bN)) (cG (Ze now sure c w d kk ⟨sp,it,l0,l1,l2,c0,c1,c2⟩) .bN)))
 |_=>none
def Qol(cn:Bool)(now:bL)(cs:Bool)(sure:bL)(c w d kk sp:Int)(ci:Bool)(it:bM)(f0:Bool)(l0:bJ)(f1:Bool)(l1:bJ)(f2:Bool)(l2:bJ)(c0 c1 c2:Int):=lY cF Ah 200 24 [.bI (.sl (C:=RC) .bS cn now) (cL .bS cs sure .bN),.bI (.int .i64 c) (cG w (cG d (cG kk .bN))),.bI (.int .i64 sp) (cL .cE ci it (.bI (cL .bP f0 l0 (cL .bP f1 l1 (cL .bP f2 l2 .bN))) (.bI (.arr (C:=RC) .int 3 [c0,c1,c2]) .bN)))]
theorem Qxf cn now cs sure c w d kk sp ci it f0 l0 f1 l1 f2 l2 c0 c1 c2:Qol cn now cs sure c w d kk sp ci it f0 l0 f1 l1 f2 l2 c0 c1 c2=(let Z0:bQ:=D.sl ca.bS false [];let Z1:bQ:=.bN;let Z2:bQ:=D.bI (D.sl ca.int false []) (.bI (D.bI Z0 (D.bI Z0 Z1)) Z1);let Z3:fG:=some (D.cH (D.bI Z2 (D.bI (cq 2) Z1)));let Z4:=it.length;let Z5:=l0.length;let Z6:=l1.length;let Z7:=l2.length;let jQ:cg:=YC 0 (iR (Vw cF ca.int) 48 c0 []) (List.drop 0 l0);let dY:Bool:=decide ((771:Nat)=nC.length)&&decide (nC.length=771)&&ZU 771 jQ;let kY:=List.length (QV nC jQ);let lT:cg:=YC 1 (iR (Vw cF ca.int) 49 c1 []) (List.drop 0 l1);let lU:Bool:=decide ((771:Nat)=kY)&&decide (kY=771)&&ZU 771 lT;let nO:=List.length (QV (QV nC jQ) lT);let nP:cg:=YC 2 (iR (Vw cF ca.int) 50 c2 []) (List.drop 0 l2);let pi:Bool:=decide ((771:Nat)=nO)&&decide (nO=771)&&ZU 771 nP;let lc:=QV (QV (QV nC jQ) lT) nP;let oU:cg:=iR (Vw cF ca.int) 1 (cX (sp+1)) (iR (Vw cF ca.int) 4 sp (iR (Vw cF ca.int) 3 sp (iR (Vw cF ca.int) 0 sp [])));let qH:Bool:=decide ((771:Nat)=lc.length)&&decide (lc.length=771)&&ZU 771 oU;let oV:=List.length (QV lc oU);let n6:Bool:=decide ((771:Nat)=oV)&&decide (oV=771);let oW:cg:=Zh c kk 0 (List.drop 0 it) [];let n7:bQ:=D.bI (D.bI (D.sl ca.bS false now) (.bI (D.sl ca.bS false sure) Z1)) Z1;let mY:bQ:=D.bI (cq 0) Z1;let kE:fG:=none;let oX:cg:=Zh c kk 0 (List.take (kk*c-0).toNat (List.drop 0 it)) [];bif Ql now&&Ql sure then bif (bif Qt now sure then (0:Int)else (2:Int))!=0 then Z3 else bif (bif ZY c w d kk then (0:Int)else (2:Int))!=0 then Z3 else bif decide (Z4<=9223372036854775807/\Z5<=9223372036854775807/\Z6<=9223372036854775807/\Z7<=9223372036854775807)then bif !Qs (St.mk sp it l0 l1 l2 c0 c1 c2)then Z3 else bif Qc Z4 then bif decide (cX (c*kk)<(Z4:Int))then some (D.cH (D.bI Z2 (D.bI (cq 120) Z1)))else bif Qc Z5 then bif decide ((Z5:Int)=(Z5:Int))&&true&&decide (Z5<=1000)then bif Qc Z6 then bif decide ((Z6:Int)=(Z6:Int))&&true&&decide (Z6<=1000)then bif Qc Z7 then bif decide ((Z7:Int)=(Z7:Int))&&true&&decide (Z7<=1000)then bif lW (mL=mL)&&lW (mM=mM)&&decide (kk=kk)&&true&&ZY c w d kk&&decide ((0:Int)=0/\Z4<=1000)&&sb it then bif decide ((Z4:Int)<kk*c)then bif dY then bif lU then bif pi then bif qH then bif n6&&ZU 771 oW then bif Nat.beq 771 (QV (QV lc oU) oW).length then some (D.cH (D.bI (D.bI (D.sl ca.int false (QV (QV lc oU) oW)) n7) mY))else kE else kE else kE else kE else kE else kE else bif dY then bif lU then bif pi then bif qH then bif n6&&ZU 771 oX then bif Nat.beq 771 (QV (QV lc oU) oX).length then some (D.cH (D.bI (D.bI (D.sl ca.int false (QV (QV lc oU) oX)) n7) mY))else kE else kE else kE else kE else kE else kE else kE else kE else kE else kE else kE else kE else kE else kE else kE else kE):=by kernel_rfl
theorem Qxg cn now cs sure c w d kk sp ci it f0 l0 f1 l1 f2 l2 c0 c1 c2(h:(Ql now&&Ql sure&&decide (it.length<=9223372036854775807/\l0.length<=9223372036854775807/\l1.length<=9223372036854775807/\l2.length<=9223372036854775807))=true):Qol cn now cs sure c w d kk sp ci it f0 l0 f1 l1 f2 l2 c0 c1 c2=some (.cH (.bI (cL .int false (bif Ze now sure c w d kk ⟨sp,it,l0,l1,l2,c0,c1,c2⟩==0 then JA nC c kk ⟨sp,it,l0,l1,l2,c0,c1,c2⟩else[]) (.bI (cL .bS false (bif Ze now sure c w d kk ⟨sp,it,l0,l1,l2,c0,c1,c2⟩==0 then now else[]) (cL .bS false (bif Ze now sure c w d kk ⟨sp,it,l0,l1,l2,c0,c1,c2⟩==0 then sure else[]) .bN)) .bN)) (cG (Ze now sure c w d kk ⟨sp,it,l0,l1,l2,c0,c1,c2⟩) .bN))):=by
 (rw[Qxf];delta cq cX;conv=>zeta)
 rw[ai]at h;obtain⟨hg,hl⟩:=h
 have err:∀e:Int,Ze now sure c w d kk ⟨sp,it,l0,l1,l2,c0,c1,c2⟩=e->e≠0->some (D.cH (C:=RC) (.bI (cL .int false [] (.bI (cL .bS false [] (cL .bS false [] .bN)) .bN)) (cG e .bN)))=some (.cH (.bI (cL .int false (bif Ze now sure c w d kk ⟨sp,it,l0,l1,l2,c0,c1,c2⟩==0 then JA nC c kk ⟨sp,it,l0,l1,l2,c0,c1,c2⟩else[]) (.bI (cL .bS false (bif Ze now sure c w d kk ⟨sp,it,l0,l1,l2,c0,c1,c2⟩==0 then now else[]) (cL .bS false (bif Ze now sure c w d kk ⟨sp,it,l0,l1,l2,c0,c1,c2⟩==0 then sure else[]) .bN)) .bN)) (cG (Ze now sure c w d kk ⟨sp,it,l0,l1,l2,c0,c1,c2⟩) .bN))):=fun e h1 h2=>by
  have h3:(e==0)=false:=by simpa using h2
  rw[h1];simp only[h3,ah]
 refine Qa hg ?_;cases hd:Qt now sure
 ·exact Qa rfl (err 2 (by simp only[Ze,hd,Bool.false_and,ah]) (by decide))
 refine Qn rfl ?_;cases hs:ZY c w d kk
 ·exact Qa rfl (err 2 (by simp only[Ze,hs,Bool.and_false,Bool.false_and,ah]) (by decide))
 refine Qn rfl (Qa hl ?_);cases ht:Qs ⟨sp,it,l0,l1,l2,c0,c1,c2⟩
 ·exact Qa rfl (err 2 (by simp only[Ze,ht,Bool.and_false,ah]) (by decide))
 refine Qn rfl ?_;obtain⟨b1,c4,_,_,_,_,q4,og⟩:=Yw hs;obtain⟨hp,hn,hi,⟨n0,h0⟩,⟨n1,h1⟩,⟨n2,h2⟩⟩:=LN ht
 dsimp only at hp hn hi n0 h0 n1 h1 n2 h2
 have p0:0<=c*kk:=Int.mul_nonneg (by omega) (by omega);have p1:c*kk<=4*40:=Int.mul_le_mul (by omega) (by omega) (by omega) (by omega);have pc:kk*c=c*kk:=Int.mul_comm _ _;have w1:IntKind.i64.wrap (c*kk)=c*kk:=cu (by omega) (by omega);refine Qa (Qd (by omega)) ?_;simp only[w1,pc,bG,Int.sub_zero]
 by_cases hr:c*kk<it.length
 ·exact Qa (by simpa using hr) (err 120 (by simp only[Ze,hd,hs,ht,au,ag,ab hr]) (by decide))
 refine Qn (by simpa using hr) ?_;have hE:Ze now sure c w d kk ⟨sp,it,l0,l1,l2,c0,c1,c2⟩=0:=by simp only[Ze,hd,hs,ht,au,ag,ad hr,ah]
 have wK:sb it=true:=aX.2 fun x hx=>by have:=hi x hx;simp;omega
 have K0:ZU 771 (YC 0 (gW [] 48 c0) l0)=true:=Kt (by decide) (by decide) (Q9 (by decide) (by decide) rfl) fun x hx=>(h0 x hx).1;have K1:ZU 771 (YC 1 (gW [] 49 c1) l1)=true:=Kt (by decide) (by decide) (Q9 (by decide) (by decide) rfl) fun x hx=>(h1 x hx).1;have K2:ZU 771 (YC 2 (gW [] 50 c2) l2)=true:=Kt (by decide) (by decide) (Q9 (by decide) (by decide) rfl) fun x hx=>(h2 x hx).1;have KB:=Qqg sp;have KI:ZU 771 (Zh c kk 0 it [])=true:=TN b1 c4 q4 og rfl (fun x hx=>⟨(hi x hx).1,(hi x hx).2.1⟩) (by simp;omega);rw[hE];refine Qa (Qd (by omega)) (Qa (by simp;omega) (Qa (Qd (by omega)) (Qa (by simp;omega) (Qa (Qd (by omega)) (Qa (by simp;omega) (Qa (fH (fH (fH (fH (fH (fH (CX (by first|exact trivial|kernel_rfl)) (CX (by first|exact trivial|kernel_rfl))) (by simp)) rfl) rfl) (by simp;omega)) wK) ?_))))));have L0:(771:Nat)=nC.length:=Ox.symm;have L1:∀m,(771:Nat)=(QV nC m).length:=fun m=>by rw[Jf];exact L0
 have L2:∀m n,(771:Nat)=(QV (QV nC m) n).length:=fun m n=>by rw[Jf];exact L1 m
 have L3:∀m n o,(771:Nat)=(QV (QV (QV nC m) n) o).length:=fun m n o=>by rw[Jf];exact L2 m n
 have L4:∀m n o p,(771:Nat)=(QV (QV (QV (QV nC m) n) o) p).length:=fun m n o p=>by rw[Jf];exact L3 m n o
 have L5:∀m n o p q,(771:Nat)=(QV (QV (QV (QV (QV nC m) n) o) p) q).length:=fun m n o p q=>by rw[Jf];exact L4 m n o p
 have two:∀{n:Nat},771=n->(decide (771=n)&&decide (n=771))=true:=fun e=>by subst e;rfl
 refine Qy (fun hq=>?_) fun hq=>?_
 ·exact Qa (fH (two L0) K0) (Qa (fH (two (L1 _)) K1) (Qa (fH (two (L2 _ _)) K2) (Qa (fH (two (L3 _ _ _)) KB) (Qa (fH (two (L4 _ _ _ _)) KI) (Qa (Za (L5 _ _ _ _ _)) rfl)))))
 ·rw[show it.take (c*kk).toNat=it from List.take_of_length_le (by simp at hq;omega)];exact Qa (fH (two L0) K0) (Qa (fH (two (L1 _)) K1) (Qa (fH (two (L2 _ _)) K2) (Qa (fH (two (L3 _ _ _)) KB) (Qa (fH (two (L4 _ _ _ _)) KI) (Qa (Za (L5 _ _ _ _ _)) rfl)))))
def Ai:=Ah.cm 24 WS
theorem Qxh:Qj Tryz.prog cF Ai:=Qxd.j5 Qb fun args d h=>by
 unfold WS at h
 split at h
 ·obtain⟨h1,rfl⟩:=ak h;exact⟨by simp[D.refs],200,Qxg _ _ _ _ _ _ _ _ _ _ _ _ _ _ _ _ _ _ _ _ h1⟩
 ·cases h
def xP(cs:bY)(s:Int)(x:Item):bY:=(((cs.set (eE 291 s 0 160 3).toNat 3).set (eE 291 s 1 160 3).toNat 0).set (eE 291 s 2 160 3).toNat (IntKind.i64.wrap (IntKind.i64.wrap (x.key*256)+x.value))).set (eN 21 x.key 24).toNat (kr x.b8 (256+s))
def tX(c k:Int):Nat->bM->bY->bY
 |_,[],cs=>cs
 |n,x::l,cs=>tX c k (n+1) l (xP cs (YY c k n) x)
theorem Mg cs s x:(xP cs s x).length=cs.length:=by simp[xP]
theorem UP c k:∀(l:bM) (n:Nat) (cs:bY),(tX c k n l cs).length=cs.length
 |[],_,_=>rfl
 |x::l,n,cs=>by unfold tX;rw[UP c k l,Mg]
def Vu(q:Int)(l:bJ)(cs:bY):bY:=l.foldl (fun cs x=>(cs.set (dR q x.offset).toNat (gZ x)).set (eN 45 q 3).toNat (IntKind.i64.wrap (x.offset+1))) cs
theorem UQ(q:Int):∀(l:bJ) (cs:bY),(Vu q l cs).length=cs.length
 |[],_=>rfl
 |x::l,cs=>by
  have:=UQ q l ((cs.set (dR q x.offset).toNat (gZ x)).set (eN 45 q 3).toNat (IntKind.i64.wrap (x.offset+1)));simp only[Vu,List.foldl_cons]at this ⊢;rw[this];simp
def ph(c n:Nat):bY:=(List.range c).map fun j=>(((n+c-1-j)/c:Nat):Int)
theorem C5 c n:(ph c n).length=c:=by simp[ph]
theorem QzU{c n:Nat}(h1:1<=c)(h4:c<=4):(ph c n).getD (n%c) 0=((n/c:Nat):Int):=by
 have hc:c=1\/c=2\/c=3\/c=4:=by omega
 have hm:=Nat.mod_lt n (show 0<c by omega);simp only[ph,ar,bB,List.getElem?_range hm,bC,ba];rcases hc with rfl|rfl|rfl|rfl<;>omega
theorem Qqh{c n:Nat}(h1:1<=c)(h4:c<=4):(ph c n).set (n%c) (((n/c:Nat):Int)+1)=ph c (n+1):=by
 have hc:c=1\/c=2\/c=3\/c=4:=by omega
 apply List.ext_getElem?;intro j;rw[List.getElem?_set];simp only[C5]
 by_cases hj:j<c
 ·simp only[ph,bB,List.getElem?_range hj,bC]
  by_cases e:n%c=j
  ·rw[ax e,ax (by omega)]
   congr 1
   rcases hc with rfl|rfl|rfl|rfl<;>omega
  ·rw[aw e]
   congr 1
   rcases hc with rfl|rfl|rfl|rfl<;>omega
 ·have e0:n%c<c:=Nat.mod_lt n (by omega);rw[aw (by omega),bc (by rw[C5];omega),bc (by rw[C5];omega)]
theorem Qqi{c:Nat}(h1:1<=c)(h4:c<=4):List.replicate c 0=ph c 0:=by
 have hc:c=1\/c=2\/c=3\/c=4:=by omega
 rcases hc with rfl|rfl|rfl|rfl<;>decide
theorem Jg{n:Nat}{k v:Int}(h0:0<=k):∀{m:cg} {cs:bY},ZU n m=true->QV cs (gW m k v)=(QV cs m).set k.toNat v
 |[],cs,_=>rfl
 |(a,b)::m,cs,h=>by
  simp only[ZU,ai,aa,aX]at h;obtain⟨⟨⟨a0,a1⟩,a2⟩,a3⟩:=h
  have nn:∀{l:cg},ZU n l=true->∀p∈l,0<=p.1:=by
   intro l
   induction l with
   |nil=>intro _ p hp;cases hp
   |cons y l ih=>
    intro hk p hp;obtain⟨y1,y2⟩:=y;simp only[ZU,ai,aa]at hk;rcases aZ.1 hp with rfl|hp
    ·exact hk.1.1.1
    ·exact ih hk.2 p hp
  unfold gW iR
  by_cases hk:k=a
  ·rw[ab hk];subst hk;simp only[ag];have e1:QV cs ((k,v)::m)=QV (cs.set k.toNat v) m:=rfl;have e2:QV cs ((k,b)::m)=QV (cs.set k.toNat b) m:=rfl;rw[e1,e2,<-Gd h0 m (cs.set k.toNat b) (fun p hp=>⟨a2 p hp,nn a3 p hp⟩),List.set_set]
  ·rw[ad hk];simp only[ah];exact Jg (m:=m) (cs:=cs.set a.toNat b) h0 a3
theorem Qqj{m:cg}{s:Int}{x:Item}{cs:bY}(h:ZU 771 m=true)(s0:0<=s)(s1:s<160)(k0:0<=x.key)(k1:x.key<=23):QV cs (wh m s x)=xP (QV cs m) s x:=by
 have e:∀f:Int,0<=f->f<=2->0<=eE 291 s f 160 3/\eE 291 s f 160 3<771:=fun f f0 f1=>by unfold eE;rw[ax (by omega)];omega
 have e2:0<=eN 21 x.key 24/\eN 21 x.key 24<771:=by unfold eN;rw[ax (by omega)];omega
 have f0:=e 0 (by omega) (by omega);have f1:=e 1 (by omega) (by omega);have f2:=e 2 (by omega) (by omega);have g0:=Q9 (v:=(3:Int)) f0.1 f0.2 h;have g1:=Q9 (v:=(0:Int)) f1.1 f1.2 g0;have g2:=Q9 (v:=IntKind.i64.wrap (IntKind.i64.wrap (x.key*256)+x.value)) f2.1 f2.2 g1;unfold wh xP;rw[Jg e2.1 g2,Jg f2.1 g1,Jg f1.1 g0,Jg f0.1 h]
theorem TO{c kk:Int}{cs:bY}(c1:1<=c)(c4:c<=4)(q4:4<=kk)(og:kk<=40):∀{l:bM} {n:Nat} {m:cg},ZU 771 m=true->(∀x∈l,0<=x.key/\x.key<=23)->(n:Int)+l.length<=c*kk->QV cs (Zh c kk n l m)=tX c kk n l (QV cs m)
 |[],n,m,_,_,_=>rfl
 |x::l,n,m,h,hx,hn=>by
  have h0:=hx x aV;simp only[aE]at hn;obtain⟨s0,s1⟩:=Ge (n:=n) c1 c4 q4 og (by omega);unfold Zh tX;rw[TO c1 c4 q4 og (UO h s0 s1 h0.1 h0.2) (fun y hy=>hx y (aS _ hy)) (by omega),Qqj h s0 s1 h0.1 h0.2]
theorem TP{q:Int}{cs:bY}(q0:0<=q)(q1:q<=2):∀{l:bJ} {m:cg},ZU 771 m=true->(∀x∈l,0<=x.offset)->QV cs (YC q m l)=Vu q l (QV cs m)
 |[],m,_,_=>rfl
 |x::l,m,h,hx=>by
  have h0:=hx x aV;have e1:dR q x.offset=51+16*q+x.offset%16:=by unfold dR;rw[ax ⟨q0,q1,h0⟩]
  have e2:eN 45 q 3=45+q:=by unfold eN;rw[ax (by omega)]
  have g0:=Q9 (k:=dR q x.offset) (v:=gZ x) (by rw[e1];omega) (by rw[e1];omega) h;have g1:=Q9 (k:=eN 45 q 3) (v:=IntKind.i64.wrap (x.offset+1)) (by rw[e2];omega) (by rw[e2];omega) g0;have ih:=TP (cs:=cs) q0 q1 (l:=l) g1 (fun y hy=>hx y (aS _ hy));simp only[YC,Vu,List.foldl_cons]at ih ⊢;rw[ih,Jg (by rw[e2];omega) g0,Jg (by rw[e1];omega) h]
theorem nr{q:Int}{k:Nat}{v:Int}(q0:0<=q)(q1:q<=2)(hk:48<=k)(CC:k<=50):∀{l:bJ} {cs:bY},(∀x∈l,0<=x.offset)->Vu q l (cs.set k v)=(Vu q l cs).set k v
 |[],cs,_=>rfl
 |x::l,cs,hx=>by
  have h0:=hx x aV;have e1:dR q x.offset=51+16*q+x.offset%16:=by unfold dR;rw[ax ⟨q0,q1,h0⟩]
  have e2:eN 45 q 3=45+q:=by unfold eN;rw[ax (by omega)]
  have ih:=nr (k:=k) (v:=v) q0 q1 hk CC (l:=l) (cs:=(cs.set (dR q x.offset).toNat (gZ x)).set (eN 45 q 3).toNat (IntKind.i64.wrap (x.offset+1))) (fun y hy=>hx y (aS _ hy));simp only[Vu,List.foldl_cons]at ih ⊢;rw[<-ih,List.set_comm (i:=k) (j:=(dR q x.offset).toNat) v (gZ x) (by rw[e1];omega),List.set_comm (i:=k) (j:=(eN 45 q 3).toNat) v _ (by rw[e2];omega)]
theorem LO:∀{m1 m2:cg} {cs:bY},(∀p∈m1,∀r∈m2,p.1≠r.1/\0<=p.1/\0<=r.1)->QV (QV cs m1) m2=QV (QV cs m2) m1
 |m1,[],cs,_=>rfl
 |m1,(k,v)::m2,cs,h=>by
  by_cases h1:m1=[]
  ·subst h1;rfl
  ·have sP:0<=k:=by
    cases m1 with
    |nil=>exact absurd rfl h1
    |cons p m=>exact(h p aV (k,v) aV).2.2
   have e1:∀c:bY,QV c ((k,v)::m2)=QV (c.set k.toNat v) m2:=fun _=>rfl;rw[e1,e1,<-Gd sP m1 cs (fun p hp=>⟨(h p hp _ aV).1,(h p hp _ aV).2.1⟩)];exact LO fun p hp r hr=>h p hp r (aS _ hr)
theorem YU{P:Int->Prop}{m:cg}{k v:Int}(hm:∀p∈m,P p.1)(hk:P k):∀p∈gW m k v,P p.1:=by
 intro p hp;rcases nz hp with e|⟨q,hq,e⟩
 ·rw[e];exact hk
 ·rw[<-e];exact hm q hq
def r7(k:Int):Prop:=45<=k/\k<=98
def wV(k:Int):Prop:=(21<=k/\k<=44)\/291<=k
def rC(k:Int):Prop:=0<=k/\k<5
theorem Qom{q:Int}(q0:0<=q)(q1:q<=2):∀{l:bJ} {m:cg},(∀p∈m,r7 p.1)->(∀x∈l,0<=x.offset)->∀p∈YC q m l,r7 p.1
 |[],m,h,_=>h
 |x::l,m,h,hx=>by
  have h0:=hx x aV;have e1:dR q x.offset=51+16*q+x.offset%16:=by unfold dR;rw[ax ⟨q0,q1,h0⟩]
  have e2:eN 45 q 3=45+q:=by unfold eN;rw[ax (by omega)]
  have ih:=Qom q0 q1 (l:=l) (YU (YU h (show r7 (dR q x.offset)by unfold r7;rw[e1];omega)) (show r7 (eN 45 q 3)by unfold r7;rw[e2];omega)) (fun y hy=>hx y (aS _ hy)) (m:=gW (gW m (dR q x.offset) (gZ x)) (eN 45 q 3) (IntKind.i64.wrap (x.offset+1)));simp only[YC,List.foldl_cons]at ih ⊢;exact ih
theorem Qon{c kk:Int}(c1:1<=c)(c4:c<=4)(q4:4<=kk)(og:kk<=40):∀{l:bM} {n:Nat} {m:cg},(∀p∈m,wV p.1)->(∀x∈l,0<=x.key/\x.key<=23)->(n:Int)+l.length<=c*kk->∀p∈Zh c kk n l m,wV p.1
 |[],n,m,h,_,_=>h
 |x::l,n,m,h,hx,hn=>by
  have h0:=hx x aV;simp only[aE]at hn;obtain⟨s0,s1⟩:=Ge (n:=n) c1 c4 q4 og (by omega);have e:∀f:Int,0<=f->f<=2->wV (eE 291 (YY c kk n) f 160 3):=fun f f0 f1=>by unfold eE wV;rw[ax (by omega)];omega
  have e2:wV (eN 21 x.key 24):=by unfold eN wV;rw[ax (by omega)];omega
  unfold Zh;refine Qon c1 c4 q4 og ?_ (fun y hy=>hx y (aS _ hy)) (by omega);unfold wh;exact YU (YU (YU (YU h (e 0 (by omega) (by omega))) (e 1 (by omega) (by omega))) (e 2 (by omega) (by omega))) e2
def Tj(n0:bY)(c kk:Int)(s:St):bY :=
 (Vu 2 s.l2 ((Vu 1 s.l1 ((Vu 0 s.l0 (tX c kk 0 s.bV ((((n0.set 0 s.b8).set 3 s.b8).set 4 s.b8).set 1 (IntKind.i64.wrap (s.b8+1))))).set 48 s.c0)).set 49 s.c1)).set 50 s.c2
theorem QD6{n0:bY}{c kk:Int}{s:St}(c1:1<=c)(c4:c<=4)(q4:4<=kk)(og:kk<=40)(hi:∀x∈s.bV,0<=x.key/\x.key<=23)(hn:(s.bV.length:Int)<=c*kk)
 (h0:∀x∈s.l0,0<=x.offset) (h1:∀x∈s.l1,0<=x.offset) (h2:∀x∈s.l2,0<=x.offset):Tj n0 c kk s=JA n0 c kk s:=by
 have bP:∀(q k:Int) (v:Int) (l:bJ) (cs:bY),0<=q->q<=2->k=48+q->(∀x∈l,0<=x.offset)->QV cs (YC q (gW [] k v) l)=(Vu q l cs).set k.toNat v:=fun q k v l cs q0 q1 hk hl=>by
  rw[TP q0 q1 (Q9 (by omega) (by omega) rfl) hl,show QV cs (gW [] k v)=cs.set k.toNat v from rfl,nr q0 q1 (by omega) (by omega) hl]
 have L:∀(q k:Int) (v:Int) (l:bJ),0<=q->q<=2->k=48+q->(∀x∈l,0<=x.offset)->∀p∈YC q (gW [] k v) l,r7 p.1:=fun q k v l q0 q1 hk hl=>
  Qom q0 q1 (YU (fun p hp=>by cases hp) (by unfold r7;omega)) hl
 have I:∀p∈Zh c kk 0 s.bV [],wV p.1:=Qon c1 c4 q4 og (fun p hp=>by cases hp) hi (by simpa using hn)
 have B:∀p∈xO s.b8,rC p.1:=by
  unfold xO;exact YU (YU (YU (YU (fun p hp=>by cases hp) (by unfold rC;omega)) (by unfold rC;omega)) (by unfold rC;omega)) (by unfold rC;omega)
 have Rf:∀{m:cg} {cs:bY},(∀p∈m,r7 p.1)->QV (QV cs m) (xO s.b8)=QV (QV cs (xO s.b8)) m:=fun hm=>LO fun p hp r hr=>by
  have a:=hm p hp;have b:=B r hr;unfold r7 at a;unfold rC at b;omega
 have Rg:∀{m:cg} {cs:bY},(∀p∈m,r7 p.1)->QV (QV cs m) (Zh c kk 0 s.bV [])=QV (QV cs (Zh c kk 0 s.bV [])) m:=fun hm=>LO fun p hp r hr=>by
  have a:=hm p hp;have b:=I r hr;unfold r7 at a;unfold wV at b;omega
 have L0:=L 0 48 s.c0 s.l0 (by omega) (by omega) (by omega) h0;have L1:=L 1 49 s.c1 s.l1 (by omega) (by omega) (by omega) h1;have L2:=L 2 50 s.c2 s.l2 (by omega) (by omega) (by omega) h2;unfold JA
 rw[Rf L2,Rf L1,Rf L0,Rg L2,Rg L1,Rg L0,bP 2 50 _ _ _ (by omega) (by omega) (by omega) h2,bP 1 49 _ _ _ (by omega) (by omega) (by omega) h1,bP 0 48 _ _ _ (by omega) (by omega) (by omega) h0,
  TO c1 c4 q4 og rfl hi (by simpa using hn)]
 rfl
open Go.Proofs
structure Qxi where
 (c w d kk:Int)(u:bY)(fO:Int)
def Oy(c w d kk:Int)(u:bY)(fO:Int):bX:=[(4,.ptr 1 []),(9,.vs 0 (u.length)),(10,.int .i64 fO)]
def xy(c w d kk:Int)(u:bY)(fO:Int):bR:=[.cj .int true u,.var 26 (cG c (cG w (cG d (cG kk .bN))))]
def SP c w d kk u fO:=eF cF Ai 25 15 40 2 [4,9,10] [10] [.slot 9 0,.slot 4 0] (Oy c w d kk u fO) (xy c w d kk u fO)
theorem QD7 c w d kk u fO:SP c w d kk u fO=(let Z0:=u.length;let Z1:b9:=[some (Obj.cj ca.int true u),some (Obj.var 26 (.bI (cq c) (.bI (cq w) (.bI (cq d) (.bI (cq kk) .bN)))))];cb (Nat.beq Z0 Z0&&ep fO (Z0:Int)) (cb (Nat.beq Z0 Z0) (bif decide (kk<=List.getD u fO.toNat 0)then bif c==0 then none else some ((X.normal,[(4,D.ptr 1 []),(9,D.vs 0 Z0),(10,cq (Int.tmod (cX (fO+1)) c))]),Z1)else some ((X.exit 2,[(10,cq fO)]),Z1)))):=by kernel_rfl
def MS(c w d kk:Int)(u:bY)(fO:Int):RT RC:=.leaf (.exit 2) [(10,.int .i64 fO)] (xy c w d kk u fO)
def Dv(c w d kk:Int)(u:bY)(fO:Int):Prop:=0<=fO/\fO<u.length/\u.getD fO.toNat 0<kk
def Cf:QK RC Qxi where
 k:=2
 cS q:=Oy q.c q.w q.d q.kk q.u q.fO
 cR q:=xy q.c q.w q.d q.kk q.u q.fO
 fin q:=MS q.c q.w q.d q.kk q.u q.fO
 Inv q:=Dv q.c q.w q.d q.kk q.u q.fO
 μ q:=0
theorem Qqk c w d kk u fO(hI:Dv c w d kk u fO):dw (SP c w d kk u fO) (dF Cf ⟨c,w,d,kk,u,fO⟩):=by
 (rw[QD7];delta cb ep cq cX;conv=>zeta)
 unfold Dv at hI;obtain⟨h0,h1,h2⟩:=hI;have d1:decide (0<=fO/\fO<(u.length:Int))=true:=ab ⟨h0,h1⟩;have d2:decide (kk<=u.getD fO.toNat 0)=false:=by simp only[ae];omega
 have nb:Nat.beq u.length u.length=true:=Za rfl;simp only[d1,d2,nb,au,ag,ah];exact Qi (xy c w d kk u fO) rfl rfl
def Oz(env:bX)(os:bR):Option (Bool×Qxi):=match env,os with
 |[(4,.ptr 1 []),(9,.vs 0 x0),(10,.int .i64 fO)],[.cj .int true u,.var 26 (.bI (.int .i64 c) (.bI (.int .i64 w) (.bI (.int .i64 d) (.bI (.int .i64 kk) .bN))))]=>some (decide (x0=u.length)&&decide (0<=fO/\fO<u.length/\u.getD fO.toNat 0<kk),⟨c,w,d,kk,u,fO⟩)
 |_,_=>none
def Aj:=Ai.cP 25 15 (Cn cF [.slot 9 0,.slot 4 0] [4,9,10] 0 Cf Oz)
theorem Qxl:Qj Tryz.prog cF Aj:=by
 refine Qxh.ji Qb (by kernel_rfl) Cf 0 (fun q _=>by simp[RT.keeps,Cf,MS,xy]) 40 [4,9,10] [10] [.slot 9 0,.slot 4 0] [4,9,10] Oz (fun q hI=>?_) ?_
 ·obtain⟨c,w,d,kk,u,fO⟩:=q;refine⟨?_,?_,Qqk c w d kk u fO hI⟩
  ·simp_all[Qk,Cf,Oy,xy,Dv,D.refs,Obj.refs,de]
  ·simp_all[Cf,MS,xy,Dv,RT.da,Qk,D.refs,Obj.refs,de]
 ·intro env os b q cW hb;unfold Oz at cW
  split at cW
  ·cases cW;simp only[ai,aa]at hb;obtain⟨rfl,h1⟩:=hb;exact⟨h1,rfl,rfl⟩
  ·cases cW
structure Qxm where
 (c w d kk:Int)(cs u:bY)(sp:Int)(ci:Bool)(it:bM)(f0:Bool)(l0:bJ)(f1:Bool)(l1:bJ)(f2:Bool)(l2:bJ)(c0 c1 c2 fO:Int)(i:Nat)
def HI(c w d kk:Int)(cs u:bY)(sp:Int)(ci:Bool)(it:bM)(f0:Bool)(l0:bJ)(f1:Bool)(l1:bJ)(f2:Bool)(l2:bJ)(c0 c1 c2 fO:Int)(i:Nat):bX:=[(4,.ptr 2 []),(5,.ptr 3 []),(8,.vs 0 (cs.length)),(9,.vs 1 (u.length)),(10,.int .i64 fO),(11,.int .i64 (i:Int))]
def vZ(c w d kk:Int)(cs u:bY)(sp:Int)(ci:Bool)(it:bM)(f0:Bool)(l0:bJ)(f1:Bool)(l1:bJ)(f2:Bool)(l2:bJ)(c0 c1 c2 fO:Int)(i:Nat):bR:=[.cj .int true cs,.cj .int true u,.var 26 (cG c (cG w (cG d (cG kk .bN)))),.var 34 (cG sp (cL .cE ci it (.bI (cL .bP f0 l0 (cL .bP f1 l1 (cL .bP f2 l2 .bN))) (.bI (.arr (C:=RC) .int 3 [c0,c1,c2]) .bN))))]
def SQ c w d kk cs u sp ci it f0 l0 f1 l1 f2 l2 c0 c1 c2 fO i:=eF cF Aj 25 13 60 4 [4,5,8,9,10,11] [] [.slot 8 0,.slot 9 0,.slot 4 0,.slot 5 0] (HI c w d kk cs u sp ci it f0 l0 f1 l1 f2 l2 c0 c1 c2 fO i) (vZ c w d kk cs u sp ci it f0 l0 f1 l1 f2 l2 c0 c1 c2 fO i)
theorem QD8 c w d kk cs u sp ci it f0 l0 f1 l1 f2 l2 c0 c1 c2 fO i:SQ c w d kk cs u sp ci it f0 l0 f1 l1 f2 l2 c0 c1 c2 fO i=(let Z0:Int:=(i:Int);let Z1:=u.length;let Z2:=List.getD u fO.toNat 0;let Z3:=Nat.beq Z1 Z1;let Z4:Bool:=Z3&&ep fO (Z1:Int);let Z5:kW:=none;let Z6:=cs.length;let Z7:=cX (Prod.fst (lE c w d kk fO true)+Z2);let Z8:Int:=eE 291 Z7 0 160 3;let Z9:=List.set cs Z8.toNat 3;let dg:=Nat.beq Z6 Z9.length;let dq:Int:=eE 291 Z7 1 160 3;let dE:Bool:=ep Z0 (it.length:Int);let dQ:=List.set Z9 dq.toNat 0;let dv:=Nat.beq Z6 dQ.length;let dT:Int:=eE 291 Z7 2 160 3;let dL:Item:=List.getD it Z0.toNat (Item.mk 0 0 0);let eK:=List.set dQ dT.toNat (cX (cX (Item.key dL*256)+Item.value dL));let eo:=Nat.beq Z6 eK.length;let eX:Int:=eN 21 (Item.key dL) 24;let eC:b9:=[some (Obj.var 26 (.bI (cq c) (.bI (cq w) (.bI (cq d) (.bI (cq kk) .bN))))),some (Obj.var 34 (.bI (cq sp) (.bI (D.sl ca.cE ci it) (.bI (D.bI (D.sl ca.bP f0 l0) (.bI (D.sl ca.bP f1 l1) (.bI (D.sl ca.bP f2 l2) .bN))) (.bI (D.arr ca.int 3 [c0,c1,c2]) .bN)))))];bif Qc it.length then bif decide (Z0<(it.length:Int))then bif decide (Z1=Z1)&&decide ((0:Int)<=fO/\fO<(Z1:Int)/\Z2<kk)then bif Z4 then bif Z3 then bif Z4 then bif Z3 then bif Z4 then bif Z3 then bif c==0 then Z5 else bif Nat.beq Z6 Z6&&ep Z8 (Z6:Int) then bif Nat.beq Z6 Z6 then bif dg&&ep dq (Z9.length:Int) then bif dg then bif dE then bif dE then bif dv&&ep dT (dQ.length:Int) then bif dv then bif dE then bif dE then bif eo&&ep eX (eK.length:Int) then bif eo then some ((X.normal,[(4,D.ptr 2 []),(5,D.ptr 3 []),(8,D.vs 0 Z6),(9,D.vs 1 Z1),(10,cq (Int.tmod (cX (fO+1)) c)),(11,cq (cX (Z0+1)))]),some (Obj.cj ca.int true (List.set eK eX.toNat (kr (Item.b8 dL) (cX ((256:Int)+Z7)))))::some (Obj.cj ca.int true (List.set u fO.toNat (cX (Z2+1))))::eC)else Z5 else Z5 else Z5 else Z5 else Z5 else Z5 else Z5 else Z5 else Z5 else Z5 else Z5 else Z5 else Z5 else Z5 else Z5 else Z5 else Z5 else Z5 else Z5 else some ((X.exit 0,[]),some (Obj.cj ca.int true cs)::some (Obj.cj ca.int true u)::eC)else Z5):=by kernel_rfl
def Dw(c w d kk:Int)(cs u:bY)(sp:Int)(ci:Bool)(it:bM)(f0:Bool)(l0:bJ)(f1:Bool)(l1:bJ)(f2:Bool)(l2:bJ)(c0 c1 c2 fO:Int)(i:Nat):RT RC:=.leaf (.exit 0) [] (vZ c w d kk (tX c kk i (it.drop i) cs) (ph c.toNat it.length) sp ci it f0 l0 f1 l1 f2 l2 c0 c1 c2 fO i)
def BV(c w d kk:Int)(cs u:bY)(sp:Int)(ci:Bool)(it:bM)(f0:Bool)(l0:bJ)(f1:Bool)(l1:bJ)(f2:Bool)(l2:bJ)(c0 c1 c2 fO:Int)(i:Nat):Prop:=ZY c w d kk=true/\cs.length=771/\u=ph c.toNat i/\fO=(i:Int)%c/\i<=it.length/\(it.length:Int)<=c*kk/\sb it=true
def sc:QK RC Qxm where
 k:=4
 cS q:=HI q.c q.w q.d q.kk q.cs q.u q.sp q.ci q.it q.f0 q.l0 q.f1 q.l1 q.f2 q.l2 q.c0 q.c1 q.c2 q.fO q.i
 cR q:=vZ q.c q.w q.d q.kk q.cs q.u q.sp q.ci q.it q.f0 q.l0 q.f1 q.l1 q.f2 q.l2 q.c0 q.c1 q.c2 q.fO q.i
 fin q:=Dw q.c q.w q.d q.kk q.cs q.u q.sp q.ci q.it q.f0 q.l0 q.f1 q.l1 q.f2 q.l2 q.c0 q.c1 q.c2 q.fO q.i
 Inv q:=BV q.c q.w q.d q.kk q.cs q.u q.sp q.ci q.it q.f0 q.l0 q.f1 q.l1 q.f2 q.l2 q.c0 q.c1 q.c2 q.fO q.i
 μ q:=q.it.length-q.i
theorem Qql c w d kk cs u sp ci it f0 l0 f1 l1 f2 l2 c0 c1 c2 fO i(hI:BV c w d kk cs u sp ci it f0 l0 f1 l1 f2 l2 c0 c1 c2 fO i):dw (SQ c w d kk cs u sp ci it f0 l0 f1 l1 f2 l2 c0 c1 c2 fO i) (dF sc ⟨c,w,d,kk,cs,u,sp,ci,it,f0,l0,f1,l1,f2,l2,c0,c1,c2,fO,i⟩):=by
 (rw[QD8];delta ep cq cX;conv=>zeta)
 unfold BV at hI;obtain⟨ok,oc,hu,hw,hi,hn,wK⟩:=hI;obtain⟨b1,b4,_,_,_,_,q4,og⟩:=Yw ok
 have lk:Qc it.length=true:=Qd (by
  have p1:c*kk<=4*40:=Int.mul_le_mul (by omega) (by omega) (by omega) (by omega);omega)
 by_cases cY:i<it.length
 ·have p1:c*kk<=4*40:=Int.mul_le_mul (by omega) (by omega) (by omega) (by omega);have cN:=fa i (by omega)
  have ei:=gv (show i<it.length by omega)
  have ef:=fV (show i<it.length by omega)
  have dp:=bw i
  simp only[cN,ei,ef,dp,ag];have hd:it.drop i=it.getD i ⟨0,0,0⟩::it.drop (i+1):=by rw[aJ cY];simp[cY]
  have hx:0<=(it.getD i ⟨0,0,0⟩).key/\(it.getD i ⟨0,0,0⟩).key<=23:=by
   have:=aX.1 wK it[i] (bA cY);simp only[aa]at this;simp only[ar,aY cY,ba];omega
  generalize it.getD i ⟨0,0,0⟩=x at *
  have hcn:((c.toNat:Nat):Int)=c:=by omega
  have hm:((i%c.toNat:Nat):Int)=(i:Int)%c:=by rw[Int.natCast_emod,hcn]
  have hv:((i/c.toNat:Nat):Int)=(i:Int)/c:=by rw[Int.natCast_ediv,hcn]
  have w0:0<=fO:=by rw[hw];exact Int.emod_nonneg _ (by omega)
  have w1:fO<c:=by rw[hw];exact Int.emod_lt_of_pos _ (by omega)
  have wt:fO.toNat=i%c.toNat:=by omega
  have ul:u.length=c.toNat:=by rw[hu,C5]
  have ua:u.getD fO.toNat 0=(i:Int)/c:=by rw[hu,wt,QzU (by omega) (by omega),hv]
  have us:u.set fO.toNat ((i:Int)/c+1)=ph c.toNat (i+1):=by rw[hu,wt,<-hv,Qqh (by omega) (by omega)]
  have dk:(i:Int)/c<kk:=Int.ediv_lt_of_lt_mul (by omega) (by rw[Int.mul_comm];omega);have d0:0<=(i:Int)/c:=Int.ediv_nonneg (by omega) (by omega);obtain⟨s0,s1⟩:=Ge (n:=i) b1 b4 q4 og (by omega);have hS:fO*kk+(i:Int)/c=YY c kk i:=by rw[hw];rfl
  have dM:=SK ok w0 w1;have wS:IntKind.i64.wrap (YY c kk i)=YY c kk i:=cu (by omega) (by omega);have Rw:IntKind.i64.wrap (256+YY c kk i)=256+YY c kk i:=cu (by omega) (by omega);have wu:IntKind.i64.wrap ((i:Int)/c+1)=(i:Int)/c+1:=cu (by omega) (by omega);have ww:IntKind.i64.wrap (fO+1)=fO+1:=cu (by omega) (by omega)
  have wm:(fO+1).tmod c=((i+1:Nat):Int)%c:=by
   rw[Int.tmod_eq_emod_of_nonneg (by omega),hw,Int.emod_add_emod];simp
  have cz:(c==0)=false:=by simp;omega
  have e1:decide (0<=fO/\fO<(u.length:Int)/\(i:Int)/c<kk)=true:=ab ⟨w0,by omega,dk⟩;have e2:decide (0<=fO/\fO<(u.length:Int))=true:=ab ⟨w0,by omega⟩
  have fl:∀f:Int,0<=f->f<=2->decide (0<=eE 291 (YY c kk i) f 160 3/\eE 291 (YY c kk i) f 160 3<(cs.length:Int))=true:=fun f f0 f1=>by
   unfold eE;rw[ax (by omega),oc];exact ab ⟨by omega,by omega⟩
  have rw1:decide (0<=eN 21 x.key 24/\eN 21 x.key 24<(cs.length:Int))=true:=by
   unfold eN;rw[ax (by omega),oc];exact ab ⟨by omega,by omega⟩
  have nb:Nat.beq u.length u.length=true:=Za rfl;have nc:Nat.beq cs.length cs.length=true:=Za rfl;simp only[ua,dM,hS,wS,Rw,wu,ww,wm,cz,e1,e2,us,fl 0 (by omega) (by omega),fl 1 (by omega) (by omega),fl 2 (by omega) (by omega),rw1,nb,nc,lk,bf,aM,au,ag,ah];have hul:u.length=(ph c.toNat (i+1)).length:=by rw[ul,C5]
  refine Qg (S:=sc) (s:=⟨c,w,d,kk,cs,u,sp,ci,it,f0,l0,f1,l1,f2,l2,c0,c1,c2,fO,i⟩) ⟨c,w,d,kk,xP cs (YY c kk i) x,ph c.toNat (i+1),sp,ci,it,f0,l0,f1,l1,f2,l2,c0,c1,c2,((i+1:Nat):Int)%c,i+1⟩ (show BV c w d kk (xP cs (YY c kk i) x) (ph c.toNat (i+1)) sp ci it f0 l0 f1 l1 f2 l2 c0 c1 c2 (((i+1:Nat):Int)%c) (i+1)from⟨ok,by rw[Mg];exact oc,rfl,rfl,by omega,hn,wK⟩) (by simp only[sc];omega) ?_ ?_ rfl
  ·simp only[sc,Dw,vZ,hd,tX]
  ·simp only[sc,HI,Mg,hul]
 ·have d1:decide ((i:Int)<it.length)=false:=by simp;omega
  have Po:i=it.length:=by omega
  have e:it.drop i=[]:=aO (by omega);rw[lk,d1];simp only[ag,ah];refine Qi (vZ c w d kk cs u sp ci it f0 l0 f1 l1 f2 l2 c0 c1 c2 fO i) ?_ rfl;simp only[sc,Dw,e,tX,RT.val];rw[hu,<-Po]
def OA(env:bX)(os:bR):Option (Bool×Qxm):=match env,os with
 |[(4,.ptr 2 []),(5,.ptr 3 []),(8,.vs 0 x0),(9,.vs 1 x1),(10,.int .i64 fO),(11,.int .i64 x2)],[.cj .int true cs,.cj .int true u,.var 26 (.bI (.int .i64 c) (.bI (.int .i64 w) (.bI (.int .i64 d) (.bI (.int .i64 kk) .bN)))),.var 34 (.bI (.int .i64 sp) (.bI (.sl .cE ci it) (.bI (.bI (.sl .bP f0 l0) (.bI (.sl .bP f1 l1) (.bI (.sl .bP f2 l2) .bN))) (.bI (.arr .int 3 [c0,c1,c2]) .bN))))]=>some (decide (x0=cs.length)&&decide (x1=u.length)&&decide (x2=0)&&ZY c w d kk&&decide (cs.length=771/\u=ph c.toNat 0/\fO=0/\(it.length:Int)<=c*kk)&&sb it,⟨c,w,d,kk,cs,u,sp,ci,it,f0,l0,f1,l1,f2,l2,c0,c1,c2,fO,0⟩)
 |_,_=>none
def Ak:=Aj.cP 25 13 (Cn cF [.slot 8 0,.slot 9 0,.slot 4 0,.slot 5 0] [4,5,8,9,10,11] 2 sc OA)
theorem Qxo:Qj Tryz.prog cF Ak:=by
 refine Qxl.ji Qb (by kernel_rfl) sc 2 (fun q _=>by simp[RT.keeps,sc,Dw,vZ]) 60 [4,5,8,9,10,11] [] [.slot 8 0,.slot 9 0,.slot 4 0,.slot 5 0] [4,5,8,9,10,11] OA (fun q hI=>?_) ?_
 ·obtain⟨c,w,d,kk,cs,u,sp,ci,it,f0,l0,f1,l1,f2,l2,c0,c1,c2,fO,i⟩:=q;refine⟨?_,?_,Qql c w d kk cs u sp ci it f0 l0 f1 l1 f2 l2 c0 c1 c2 fO i hI⟩
  ·simp_all[Qk,sc,HI,vZ,BV,D.refs,Obj.refs,de]
  ·simp_all[sc,Dw,vZ,BV,RT.da,Qk,D.refs,Obj.refs,de]
 ·intro env os b q cW hb;unfold OA at cW
  split at cW
  ·cases cW;simp only[ai,aa]at hb;obtain⟨⟨⟨⟨⟨rfl,rfl⟩,rfl⟩,ok⟩,h1,h2,h3,h4⟩,wK⟩:=hb;exact⟨⟨ok,h1,h2,by rw[h3];simp,aK _,h4,wK⟩,rfl,rfl⟩
  ·cases cW
structure Qxp where
 (cs:bY)(q:Int)(f:Bool)(l:bJ)(i:Nat)
def HJ(cs:bY)(q:Int)(f:Bool)(l:bJ)(i:Nat):bX:=[(8,.vs 0 (cs.length)),(17,.int .i64 q),(18,.sl (C:=RC) .bP f l),(19,.int .i64 (i:Int))]
def xz(cs:bY)(q:Int)(f:Bool)(l:bJ)(i:Nat):bR:=[.cj .int true cs]
def Ss cs q f l i:=eF cF Ak 25 31 40 1 [8,17,18,19] [] [.slot 8 0] (HJ cs q f l i) (xz cs q f l i)
theorem QD9 cs q f l i:Ss cs q f l i=(let Z0:Int:=(i:Int);let Z1:Bool:=ep Z0 (l.length:Int);let Z2:=cs.length;let Z3:cC:=List.getD l Z0.toNat (cC.mk 0 0 0 0 0);let Z4:=cC.offset Z3;let Z5:Int:=dR q Z4;let Z6:=List.set cs Z5.toNat (gZ (cC.mk Z4 (cC.b8 Z3) (cC.j Z3) (cC.key Z3) (cC.value Z3)));let Z7:=Nat.beq Z2 Z6.length;let Z8:Int:=eN 45 q 3;cb (Qc l.length) (bif decide (Z0<(l.length:Int))then cb Z1 (cb Z1 (cb (Nat.beq Z2 Z2&&ep Z5 (Z2:Int)) (cb (Nat.beq Z2 Z2) (cb Z1 (cb (Z7&&ep Z8 (Z6.length:Int)) (cb Z7 (some ((X.normal,[(8,D.vs 0 Z2),(17,cq q),(18,D.sl ca.bP f l),(19,cq (cX (Z0+1)))]),[some (Obj.cj ca.int true (List.set Z6 Z8.toNat (cX (Z4+1))))]))))))))else some ((X.exit 6,[]),[some (Obj.cj ca.int true cs)]))):=by kernel_rfl
def GZ(cs:bY)(q:Int)(f:Bool)(l:bJ)(i:Nat):RT RC:=.leaf (.exit 6) [] (xz (Vu q (l.drop i) cs) q f l i)
def BW(cs:bY)(q:Int)(f:Bool)(l:bJ)(i:Nat):Prop:=cs.length=771/\0<=q/\q<=2/\i<=l.length/\l.length<=1000/\l.all QY=true
def tY:QK RC Qxp where
 k:=1
 cS q:=HJ q.cs q.q q.f q.l q.i
 cR q:=xz q.cs q.q q.f q.l q.i
 fin q:=GZ q.cs q.q q.f q.l q.i
 Inv q:=BW q.cs q.q q.f q.l q.i
 μ q:=q.l.length-q.i
theorem Qqm cs q f l i(hI:BW cs q f l i):dw (Ss cs q f l i) (dF tY ⟨cs,q,f,l,i⟩):=by
 (rw[QD9];delta cb ep cq cX;conv=>zeta)
 unfold BW at hI;obtain⟨oc,q0,q2,h1,h2,hm⟩:=hI;have lk:Qc l.length=true:=Qd (by omega)
 by_cases cY:i<l.length
 ·have cN:=fa i (by omega)
  have ei:=gv (show i<l.length by omega)
  have ef:=fV (show i<l.length by omega)
  have dp:=bw i
  simp only[cN,ei,ef,dp,ag];have hd:l.drop i=l.getD i ⟨0,0,0,0,0⟩::l.drop (i+1):=by rw[aJ cY];simp[cY]
  have hx:QY (l.getD i ⟨0,0,0,0,0⟩)=true:=by
   have:=aX.1 hm l[i] (bA cY)
   simpa[cY]using this
  generalize l.getD i ⟨0,0,0,0,0⟩=x at *
  simp only[QY,aa]at hx;have e1:dR q x.offset=51+16*q+x.offset%16:=by unfold dR;rw[ax (by omega)]
  have e2:eN 45 q 3=45+q:=by unfold eN;rw[ax (by omega)]
  have d2:decide (0<=dR q x.offset/\dR q x.offset<(cs.length:Int))=true:=by rw[e1,oc];exact ab ⟨by omega,by omega⟩
  have d3:decide (0<=eN 45 q 3/\eN 45 q 3<(cs.length:Int))=true:=by rw[e2,oc];exact ab ⟨by omega,by omega⟩
  have nc:Nat.beq cs.length cs.length=true:=Za rfl;simp only[Ds,lk,d2,d3,nc,bf,au,ag];refine Qg (S:=tY) (s:=⟨cs,q,f,l,i⟩) ⟨(cs.set (dR q x.offset).toNat (gZ x)).set (eN 45 q 3).toNat (IntKind.i64.wrap (x.offset+1)),q,f,l,i+1⟩ (show BW ((cs.set (dR q x.offset).toNat (gZ x)).set (eN 45 q 3).toNat (IntKind.i64.wrap (x.offset+1))) q f l (i+1)from⟨by simpa using oc,q0,q2,by omega,h2,hm⟩) (by simp only[tY];omega) ?_ ?_ rfl
  ·simp only[tY,GZ,xz,hd,Vu,List.foldl_cons]
  ·simp only[tY,HJ,bf]
 ·have d1:decide ((i:Int)<l.length)=false:=by simp;omega
  have e:l.drop i=[]:=aO (by omega);rw[lk,d1];simp only[ag,ah];refine Qi (xz cs q f l i) ?_ rfl;simp only[tY,GZ,e,Vu,List.foldl_nil,RT.val]
def OB(env:bX)(os:bR):Option (Bool×Qxp):=match env,os with
 |[(8,.vs 0 x0),(17,.int .i64 q),(18,.sl .bP f l),(19,.int .i64 x1)],[.cj .int true cs]=>some (decide (x0=cs.length)&&decide (x1=0)&&decide (cs.length=771/\0<=q/\q<=2/\l.length<=1000)&&l.all QY,⟨cs,q,f,l,0⟩)
 |_,_=>none
def Al:=Ak.cP 25 31 (eZ cF [.slot 8 0] [8,17,18,19] tY OB)
theorem Qxr:Qj Tryz.prog cF Al:=by
 refine Qxo.cJ Qb (by kernel_rfl) tY 40 [8,17,18,19] [] [.slot 8 0] [8,17,18,19] OB (fun q hI=>?_) ?_
 ·obtain⟨cs,q,f,l,i⟩:=q;refine⟨?_,?_,Qqm cs q f l i hI⟩
  ·simp_all[Qk,tY,HJ,xz,BW,D.refs,Obj.refs,de]
  ·simp_all[tY,GZ,xz,BW,RT.da,Qk,D.refs,Obj.refs,de]
 ·intro env os b q cW hb;unfold OB at cW
  split at cW
  ·cases cW;simp only[ai,aa]at hb;obtain⟨⟨⟨rfl,rfl⟩,h1,h2,h3,h4⟩,h5⟩:=hb;exact⟨⟨h1,h2,h3,aK _,h4,h5⟩,rfl,rfl⟩
  ·cases cW
def WT:bW->bO
 |[.bI (.sl .bS cn now) (.bI (.sl .bS cs sure) .bN),.bI (.int .i64 c) (.bI (.int .i64 w) (.bI (.int .i64 d) (.bI (.int .i64 kk) .bN))),.bI (.int .i64 sp) (.bI (.sl .cE ci it) (.bI (.bI (.sl .bP f0 l0) (.bI (.sl .bP f1 l1) (.bI (.sl .bP f2 l2) .bN))) (.bI (.arr .int 3 [c0,c1,c2]) .bN)))]=>some (Ql now&&Ql sure&&decide (it.length<=9223372036854775807/\l0.length<=9223372036854775807/\l1.length<=9223372036854775807/\l2.length<=9223372036854775807),.cH (.bI (cL .int false (bif Ze now sure c w d kk ⟨sp,it,l0,l1,l2,c0,c1,c2⟩==0 then JA nC c kk ⟨sp,it,l0,l1,l2,c0,c1,c2⟩else[]) (.bI (cL .bS false (bif Ze now sure c w d kk ⟨sp,it,l0,l1,l2,c0,c1,c2⟩==0 then now else[]) (cL .bS false (bif Ze now sure c w d kk ⟨sp,it,l0,l1,l2,c0,c1,c2⟩==0 then sure else[]) .bN)) .bN)) (cG (Ze now sure c w d kk ⟨sp,it,l0,l1,l2,c0,c1,c2⟩) .bN)))
 |_=>none
def Qor(cn:Bool)(now:bL)(cs:Bool)(sure:bL)(c w d kk sp:Int)(ci:Bool)(it:bM)(f0:Bool)(l0:bJ)(f1:Bool)(l1:bJ)(f2:Bool)(l2:bJ)(c0 c1 c2:Int):=lY cF Al 300 25 [.bI (.sl (C:=RC) .bS cn now) (cL .bS cs sure .bN),.bI (.int .i64 c) (cG w (cG d (cG kk .bN))),.bI (.int .i64 sp) (cL .cE ci it (.bI (cL .bP f0 l0 (cL .bP f1 l1 (cL .bP f2 l2 .bN))) (.bI (.arr (C:=RC) .int 3 [c0,c1,c2]) .bN)))]
theorem Qxs cn now cs sure c w d kk sp ci it f0 l0 f1 l1 f2 l2 c0 c1 c2:Qor cn now cs sure c w d kk sp ci it f0 l0 f1 l1 f2 l2 c0 c1 c2=(let Z0:bQ:=D.sl ca.bS false [];let Z1:bQ:=.bN;let Z2:bQ:=D.bI (D.sl ca.int false []) (.bI (D.bI Z0 (D.bI Z0 Z1)) Z1);let Z3:fG:=some (D.cH (D.bI Z2 (D.bI (cq 2) Z1)));let Z4:=it.length;let Z5:=Nat.beq 771 nC.length;let Z6:=List.length (List.set nC 0 sp);let Z7:=Nat.beq 771 Z6;let Z8:=List.set (List.set nC 0 sp) 3 sp;let Z9:=Nat.beq 771 Z8.length;let dg:=List.length (List.set Z8 4 sp);let dq:=Int.toNat c;let dE:=List.set (List.set Z8 4 sp) 1 (cX (sp+1));let dQ:=List.replicate dq 0;let dv:=tX c kk 0 (List.drop 0 it) dE;let dT:=Vu 0 (List.drop 0 l0) dv;let dL:=Nat.beq 771 dT.length;let eK:=List.length (List.set dT 48 c0);let eo:=Vu 1 (List.drop 0 l1) (List.set dT 48 c0);let eX:=Nat.beq 771 eo.length;let eC:=List.length (List.set eo 49 c1);let eP:=Vu 2 (List.drop 0 l2) (List.set eo 49 c1);let fF:=Nat.beq 771 eP.length;let fz:fG:=none;bif Ql now&&Ql sure then bif (bif Qt now sure then (0:Int)else (2:Int))!=0 then Z3 else bif (bif ZY c w d kk then (0:Int)else (2:Int))!=0 then Z3 else bif decide (Z4<=9223372036854775807/\l0.length<=9223372036854775807/\l1.length<=9223372036854775807/\l2.length<=9223372036854775807)then bif !Qs (St.mk sp it l0 l1 l2 c0 c1 c2)then Z3 else bif Qc Z4 then bif decide (cX (c*kk)<(Z4:Int))then some (D.cH (D.bI Z2 (D.bI (cq 120) Z1)))else bif Z5&&decide ((0:Int)<=0/\(0:Int)<(nC.length:Int))then bif Z5 then bif Z7&&decide ((0:Int)<=3/\(3:Int)<(Z6:Int))then bif Z7 then bif Z9&&decide ((0:Int)<=4/\(4:Int)<(Z8.length:Int))then bif Z9 then bif Nat.beq 771 dg&&decide ((0:Int)<=1/\(1:Int)<(dg:Int))then bif Nat.beq 771 dg then bif decide ((0:Int)<=c/\c<=c)&&Qf dq 8 then bif decide ((771:Nat)=dE.length)&&decide (dq=dQ.length)&&true&&ZY c w d kk&&decide (dE.length=771/\dQ=ph dq 0/\(0:Int)=0/\(Z4:Int)<=c*kk)&&sb it then bif decide ((771:Nat)=dv.length)&&true&&decide (dv.length=771/\(0:Int)<=0/\(0:Int)<=2/\l0.length<=1000)&&List.all l0 QY then bif dL&&decide ((0:Int)<=48/\(48:Int)<(dT.length:Int))then bif dL then bif decide ((771:Nat)=eK)&&true&&decide (eK=771/\(0:Int)<=1/\(1:Int)<=2/\l1.length<=1000)&&List.all l1 QY then bif eX&&decide ((0:Int)<=49/\(49:Int)<(eo.length:Int))then bif eX then bif decide ((771:Nat)=eC)&&true&&decide (eC=771/\(0:Int)<=2/\(2:Int)<=2/\l2.length<=1000)&&List.all l2 QY then bif fF&&decide ((0:Int)<=50/\(50:Int)<(eP.length:Int))then bif fF then bif Nat.beq 771 (List.set eP 50 c2).length then some (D.cH (D.bI (D.bI (D.sl ca.int false (List.set eP 50 c2)) (.bI (D.bI (D.sl ca.bS false now) (.bI (D.sl ca.bS false sure) Z1)) Z1)) (.bI (cq 0) Z1)))else fz else fz else fz else fz else fz else fz else fz else fz else fz else fz else fz else fz else fz else fz else fz else fz else fz else fz else fz else fz else fz else fz else fz):=by kernel_rfl
theorem Qxt cn now cs sure c w d kk sp ci it f0 l0 f1 l1 f2 l2 c0 c1 c2(h:(Ql now&&Ql sure&&decide (it.length<=9223372036854775807/\l0.length<=9223372036854775807/\l1.length<=9223372036854775807/\l2.length<=9223372036854775807))=true):Qor cn now cs sure c w d kk sp ci it f0 l0 f1 l1 f2 l2 c0 c1 c2=some (.cH (.bI (cL .int false (bif Ze now sure c w d kk ⟨sp,it,l0,l1,l2,c0,c1,c2⟩==0 then JA nC c kk ⟨sp,it,l0,l1,l2,c0,c1,c2⟩else[]) (.bI (cL .bS false (bif Ze now sure c w d kk ⟨sp,it,l0,l1,l2,c0,c1,c2⟩==0 then now else[]) (cL .bS false (bif Ze now sure c w d kk ⟨sp,it,l0,l1,l2,c0,c1,c2⟩==0 then sure else[]) .bN)) .bN)) (cG (Ze now sure c w d kk ⟨sp,it,l0,l1,l2,c0,c1,c2⟩) .bN))):=by
 (rw[Qxs];delta cq cX;conv=>zeta)
 rw[ai]at h;obtain⟨hg,hl⟩:=h
 have err:∀e:Int,Ze now sure c w d kk ⟨sp,it,l0,l1,l2,c0,c1,c2⟩=e->e≠0->some (D.cH (C:=RC) (.bI (cL .int false [] (.bI (cL .bS false [] (cL .bS false [] .bN)) .bN)) (cG e .bN)))=some (.cH (.bI (cL .int false (bif Ze now sure c w d kk ⟨sp,it,l0,l1,l2,c0,c1,c2⟩==0 then JA nC c kk ⟨sp,it,l0,l1,l2,c0,c1,c2⟩else[]) (.bI (cL .bS false (bif Ze now sure c w d kk ⟨sp,it,l0,l1,l2,c0,c1,c2⟩==0 then now else[]) (cL .bS false (bif Ze now sure c w d kk ⟨sp,it,l0,l1,l2,c0,c1,c2⟩==0 then sure else[]) .bN)) .bN)) (cG (Ze now sure c w d kk ⟨sp,it,l0,l1,l2,c0,c1,c2⟩) .bN))):=fun e h1 h2=>by
  have h3:(e==0)=false:=by simpa using h2
  rw[h1];simp only[h3,ah]
 refine Qa hg ?_;cases hd:Qt now sure
 ·exact Qa rfl (err 2 (by simp only[Ze,hd,Bool.false_and,ah]) (by decide))
 refine Qn rfl ?_;cases hs:ZY c w d kk
 ·exact Qa rfl (err 2 (by simp only[Ze,hs,Bool.and_false,Bool.false_and,ah]) (by decide))
 refine Qn rfl (Qa hl ?_);cases ht:Qs ⟨sp,it,l0,l1,l2,c0,c1,c2⟩
 ·exact Qa rfl (err 2 (by simp only[Ze,ht,Bool.and_false,ah]) (by decide))
 refine Qn rfl ?_;obtain⟨b1,c4,_,_,_,_,q4,og⟩:=Yw hs;obtain⟨hp,hn,hi,⟨n0,h0⟩,⟨n1,h1⟩,⟨n2,h2⟩⟩:=LN ht
 dsimp only at hp hn hi n0 h0 n1 h1 n2 h2
 have p0:0<=c*kk:=Int.mul_nonneg (by omega) (by omega);have p1:c*kk<=4*40:=Int.mul_le_mul (by omega) (by omega) (by omega) (by omega);have pc:kk*c=c*kk:=Int.mul_comm _ _;have w1:IntKind.i64.wrap (c*kk)=c*kk:=cu (by omega) (by omega);refine Qa (Qd (by omega)) ?_;simp only[w1,bG,bf,UQ,UP,Ox,bt]
 by_cases hr:c*kk<it.length
 ·exact Qa (by simpa using hr) (err 120 (by simp only[Ze,hd,hs,ht,au,ag,ab hr]) (by decide))
 refine Qn (by simpa using hr) ?_;have hE:Ze now sure c w d kk ⟨sp,it,l0,l1,l2,c0,c1,c2⟩=0:=by simp only[Ze,hd,hs,ht,au,ag,ad hr,ah]
 have wK:sb it=true:=aX.2 fun x hx=>by have:=hi x hx;simp;omega
 have hn':(it.length:Int)<=c*kk:=by omega
 have ul0:List.replicate c.toNat (0:Int)=ph c.toNat 0:=Qqi (by omega) (by omega);have m0:l0.all QY=true:=aX.2 fun x hx=>(h0 x hx).2.2;have m1:l1.all QY=true:=aX.2 fun x hx=>(h1 x hx).2.2;have m2:l2.all QY=true:=aX.2 fun x hx=>(h2 x hx).2.2;have hM:Tj nC c kk ⟨sp,it,l0,l1,l2,c0,c1,c2⟩=JA nC c kk ⟨sp,it,l0,l1,l2,c0,c1,c2⟩:=QD6 b1 c4 q4 og (fun x hx=>⟨(hi x hx).1,(hi x hx).2.1⟩) hn' (fun x hx=>(h0 x hx).1) (fun x hx=>(h1 x hx).1) (fun x hx=>(h2 x hx).1);rw[hE,<-hM];refine Qa (by decide) (Qa (by decide) (Qa (by decide) (Qa (by decide) (Qa (by decide) (Qa (by decide) (Qa (by decide) (Qa (by decide) ?_)))))));refine Qa (fH (by simp;omega) (Zb (by omega))) (Qa (fH (fH (fH (fH (fH (by simp) (by simp)) rfl) rfl) (by simp[ul0,hn'])) wK) ?_);refine Qa (fH (fH (fH (by simp) rfl) (by simp;omega)) m0) (Qa (by decide) (Qa (by decide) ?_));refine Qa (fH (fH (fH (by simp) rfl) (by simp;omega)) m1) (Qa (by decide) (Qa (by decide) ?_));refine Qa (fH (fH (fH (by simp) rfl) (by simp;omega)) m2) (Qa (by decide) (Qa (by decide) ?_));exact Qa (by decide) rfl
def Am:=Al.cm 25 WT
theorem Qxu:Qj Tryz.prog cF Am:=Qxr.j5 Qb fun args d h=>by
 unfold WT at h
 split at h
 ·obtain⟨h1,rfl⟩:=ak h;exact⟨by simp[D.refs],300,Qxt _ _ _ _ _ _ _ _ _ _ _ _ _ _ _ _ _ _ _ _ h1⟩
 ·cases h
def iO(now sure:bL)(c w d k:Int):Int:=bif YT now sure c w d k==0 then Ze now sure c w d k (QL now sure c w d k)else YT now sure c w d k
def vG(now sure:bL)(c w d k:Int):bL:=iG now sure 32 (QL now sure c w d k).b8 (gX (QL now sure c w d k).b8 (QL now sure c w d k))
def y6(now sure:bL)(c w d k:Int):bL:=VN now sure 32 (QL now sure c w d k).b8 (gX (QL now sure c w d k).b8 (QL now sure c w d k))
def JT(now sure:bL)(c w d k cT:Int):bL:=bif iO now sure c w d k==0 then(bif decide (cT<=0)then now else vG now sure c w d k)else[]
def Y9(now sure:bL)(c w d k cT:Int):bL:=bif iO now sure c w d k==0 then(bif decide (cT<=0)then sure else bif cT==1 then y6 now sure c w d k else vG now sure c w d k)else[]
def ZH(n0:bY)(now sure:bL)(c w d k cT:Int):bY:=bif iO now sure c w d k==0 then(bif decide (3<=cT)then JA n0 c k (QL now sure c w d k)else[])else[]
theorem LP now sure c w d k:(QL now sure c w d k).bV.length<=152/\(QL now sure c w d k).l0.length<=16/\(QL now sure c w d k).l1.length<=16/\(QL now sure c w d k).l2.length<=16:=by
 unfold QL;cases YT now sure c w d k==0
 ·simp[st0]
 ·exact QnW now sure
theorem Su{now sure:bL}{c w d k:Int}(h1:YT now sure c w d k=0)(h2:Ze now sure c w d k (QL now sure c w d k)=0):Qt now sure=true/\ZY c w d k=true/\Qs (QL now sure c w d k)=true/\¬c*k<((QL now sure c w d k).bV.length:Int)/\Zk now sure 32 (QL now sure c w d k).b8 (gX (QL now sure c w d k).b8 (QL now sure c w d k))=true:=by
 unfold Ze at h2;cases hd:Qt now sure
 ·rw[hd]at h2;simp at h2
 cases hs:ZY c w d k
 ·rw[hs]at h2;simp at h2
 cases ht:Qs (QL now sure c w d k)
 ·rw[ht]at h2;simp at h2
 have hr:¬c*k<((QL now sure c w d k).bV.length:Int):=fun q=>by
  rw[hd,hs,ht,ab q]at h2;simp at h2
 refine⟨rfl,rfl,rfl,hr,?_⟩;rw[Qze,hd];obtain⟨⟨p0,p1⟩,_⟩:=LN ht
 have hw:1<=(QL now sure c w d k).b8:=by
  have hb:YT now sure c w d k=ZD (ZN now sure).b8 w:=by simp only[YT,hd,hs,au,ag]
  have he:ZD (ZN now sure).b8 w=0:=by rw[<-hb];exact h1
  have e1:(QL now sure c w d k).b8=(ZN now sure).b8+w:=by simp[QL,h1,Jq,he]
  rw[e1];unfold ZD at he
  by_cases q:0<=(ZN now sure).b8/\(ZN now sure).b8<=1048575/\2<=w/\w<=8
  ·omega
  ·rw[ad q]at he;simp at he
 simp only[iF,ht,Bool.and_true,Bool.true_and,ai,aa];omega
open Go.Proofs
set_option maxHeartbeats 4000000
def Qos:bW->bO
 |[.bI (.sl .bS cn now) (.bI (.sl .bS cs sure) .bN),.bI (.int .i64 c) (.bI (.int .i64 w) (.bI (.int .i64 d) (.bI (.int .i64 k) .bN))),.int .i64 cT]=>some (Ql now&&Ql sure,.cH (.bI (cL .int false (ZH nC now sure c w d k cT) (.bI (cL .bS false (JT now sure c w d k cT) (cL .bS false (Y9 now sure c w d k cT) .bN)) .bN)) (cG (iO now sure c w d k) .bN)))
 |_=>none
def Qxw(cn:Bool)(now:bL)(cs:Bool)(sure:bL)(c w d k cT:Int):=lY cF Am 200 14 [.bI (.sl (C:=RC) .bS cn now) (cL .bS cs sure .bN),.bI (.int .i64 c) (cG w (cG d (cG k .bN))),.int .i64 cT]
theorem QzV cn now cs sure c w d k cT:Qxw cn now cs sure c w d k cT=(let Z0:=Ql now&&Ql sure;let Z1:=YT now sure c w d k;let Z2:bQ:=D.sl ca.int false [];let Z3:bQ:=D.sl ca.bS false [];let Z4:bQ:=.bN;let Z5:bQ:=D.bI Z2 (D.bI (D.bI Z3 (D.bI Z3 Z4)) Z4);let Z6:St:=QL now sure c w d k;let Z7:Bool:=decide (List.length Z6.bV<=9223372036854775807/\List.length Z6.l0<=9223372036854775807/\List.length Z6.l1<=9223372036854775807/\List.length Z6.l2<=9223372036854775807);let Z8:=St.b8 Z6;let Z9:St:=St.mk Z8 Z6.bV Z6.l0 Z6.l1 Z6.l2 Z6.c0 Z6.c1 Z6.c2;let dg:=Ze now sure c w d k Z9;let dq:bQ:=D.bI (cq 0) Z4;let dE:bL:=iG now sure 32 Z8 (gX Z8 Z9);let dQ:bL:=VN now sure 32 Z8 (gX Z8 Z9);let dv:=Ze [] [] c w d k Z9==0;let dT:bQ:=D.sl ca.bS false (bif dv then []else []);let dL:fG:=none;let eK:Nat:=(0:Nat)+dE.length;let eo:bL:=List.replicate 0 (cB.mk 0 []);let eX:bL:=eo++dE;let eC:=Nat.beq eK eX.length;let eP:Nat:=(0:Nat)+eX.length;let fF:bL:=eo++eX;let fz:=Ze eX fF c w d k Z9;let fM:Bool:=fz==0;bif Z0 then bif Z1 !=0 then some (D.cH (D.bI Z5 (D.bI (cq Z1) Z4)))else bif Z0&&Z7 then bif dg !=0 then some (D.cH (D.bI Z5 (D.bI (cq dg) Z4)))else bif decide (cT<=0)then some (D.cH (D.bI (D.bI Z2 (D.bI (D.bI (D.sl ca.bS false now) (.bI (D.sl ca.bS false sure) Z4)) Z4)) dq))else bif Z7 then bif Z0&&Qc (gX Z8 Z9).length then bif cT==1 then some (D.cH (D.bI (D.bI Z2 (D.bI (D.bI (D.sl ca.bS false dE) (.bI (D.sl ca.bS false dQ) Z4)) Z4)) dq))else bif Ql dE&&Ql dQ then bif (bif Qt dE dQ then (0:Int)else (2:Int))!=0 then bif cT==2 then some (D.cH (D.bI Z5 dq))else bif Z7 then some (D.cH (D.bI (D.bI (D.sl ca.int false (bif dv then JA nC c k Z9 else [])) (.bI (D.bI dT (D.bI dT Z4)) Z4)) (.bI (cq (Ze [] [] c w d k Z9)) Z4)))else dL else bif Qf eK 24 then bif Qf ((0:Nat)+dQ.length) 24 then bif eC then bif Qf eP 24 then bif eC then bif Nat.beq eP fF.length then bif cT==2 then some (D.cH (D.bI (D.bI Z2 (D.bI (D.bI (D.sl ca.bS false eX) (.bI (D.sl ca.bS false fF) Z4)) Z4)) dq))else bif Ql eX&&Ql fF&&Z7 then some (D.cH (D.bI (D.bI (D.sl ca.int false (bif fM then JA nC c k Z9 else [])) (.bI (D.bI (D.sl ca.bS false (bif fM then eX else [])) (.bI (D.sl ca.bS false (bif fM then fF else [])) Z4)) Z4)) (.bI (cq fz) Z4)))else dL else dL else dL else dL else dL else dL else dL else dL else dL else dL else dL else dL):=by kernel_rfl
theorem QzW cn now cs sure c w d k cT(h:(Ql now&&Ql sure)=true):Qxw cn now cs sure c w d k cT=some (.cH (.bI (cL .int false (ZH nC now sure c w d k cT) (.bI (cL .bS false (JT now sure c w d k cT) (cL .bS false (Y9 now sure c w d k cT) .bN)) .bN)) (cG (iO now sure c w d k) .bN))):=by
 (rw[QzV];delta cq;conv=>zeta)
 have hg:=h;obtain⟨b0,b1,b2,b3⟩:=LP now sure c w d k
 have err:∀e:Int,iO now sure c w d k=e->e≠0->some (D.cH (C:=RC) (.bI (cL .int false [] (.bI (cL .bS false [] (cL .bS false [] .bN)) .bN)) (cG e .bN)))=some (.cH (.bI (cL .int false (ZH nC now sure c w d k cT) (.bI (cL .bS false (JT now sure c w d k cT) (cL .bS false (Y9 now sure c w d k cT) .bN)) .bN)) (cG (iO now sure c w d k) .bN))):=fun e h1 h2=>by
  have h3:(e==0)=false:=by simpa using h2
  simp only[ZH,JT,Y9,h1,h3,ah]
 have hL:decide ((QL now sure c w d k).bV.length<=9223372036854775807/\(QL now sure c w d k).l0.length<=9223372036854775807/\(QL now sure c w d k).l1.length<=9223372036854775807/\(QL now sure c w d k).l2.length<=9223372036854775807)=true:=ab ⟨by omega,by omega,by omega,by omega⟩;simp only[HC];refine Qa hg ?_
 by_cases h1:YT now sure c w d k=0
 ·refine Qn (by rw[h1];rfl) (Qa (fH hg hL) ?_)
  by_cases h2:Ze now sure c w d k (QL now sure c w d k)=0
  ·obtain⟨hd,hs,ht,hr,hp⟩:=Su h1 h2;have hE:iO now sure c w d k=0:=by simp[iO,h1,h2]
   have sB:=L7 hp;have sC:=Mn now sure 32 (QL now sure c w d k).b8 (gX (QL now sure c w d k).b8 (QL now sure c w d k));have qg:=Nm (n:=(QL now sure c w d k).b8) (s:=QL now sure c w d k);refine Qn (by rw[h2];rfl) ?_;simp only[ZH,JT,Y9,hE,vG,y6]
   by_cases s0:cT<=0
   ·have s3:¬3<=cT:=by omega
    simp only[ab s0,ad s3];exact Qa rfl rfl
   refine Qn (by simpa using s0) (Qa hL (Qa (fH hg (Qd (by omega))) ?_));simp only[ad s0]
   by_cases s1:cT=1
   ·subst s1;exact Qa rfl rfl
   have e1:(cT==1)=false:=by simpa using s1
   simp only[e1];refine Qn rfl (Qa (fH sC.1 sC.2) (Qn (by rw[sB];rfl) ?_));obtain⟨l1,l2⟩:=Yl sB;simp only[bF,aH,aN];refine Qa (Zb (by omega)) (Qa (Zb (by omega)) (Qa (Za rfl) (Qa (Zb (by omega)) (Qa (Za rfl) (Qa (Za rfl) ?_)))))
   by_cases s2:cT=2
   ·subst s2;exact Qa rfl rfl
   have e2:(cT==2)=false:=by simpa using s2
   refine Qn e2 (Qa (fH (fH sC.1 sC.1) hL) ?_);have s3:3<=cT:=by omega
   have fU:YF (iG now sure 32 (QL now sure c w d k).b8 (gX (QL now sure c w d k).b8 (QL now sure c w d k)))=true:=by
    unfold Qt at sB;simp only[ai]at sB;exact sB.1.1
   have OY:Ze (iG now sure 32 (QL now sure c w d k).b8 (gX (QL now sure c w d k).b8 (QL now sure c w d k))) (iG now sure 32 (QL now sure c w d k).b8 (gX (QL now sure c w d k).b8 (QL now sure c w d k))) c w d k (QL now sure c w d k)=0:=by
    simp only[Ze,TZ fU,hs,ht,au,ag,ad hr,ah]
   simp only[OY,ab s3];rfl
  ·have hE:iO now sure c w d k=Ze now sure c w d k (QL now sure c w d k):=by simp[iO,h1]
   exact Qa (by simpa using h2) (err _ hE h2)
 ·have hb:(YT now sure c w d k==0)=false:=by simpa using h1
  have hE:iO now sure c w d k=YT now sure c w d k:=by simp only[iO,hb,ah]
  exact Qa (by simpa using h1) (err _ hE h1)
def An:=Am.cm 14 Qos
theorem Qxx:Qj Tryz.prog cF An:=Qxu.j5 Qb fun args d h=>by
 unfold Qos at h
 split at h
 ·obtain⟨h1,rfl⟩:=ak h;exact⟨by simp[D.refs],200,QzW _ _ _ _ _ _ _ _ _ h1⟩
 ·cases h
open Go.Proofs
structure UR where
 (a:Bool)(nw:bL)(b:Bool)(sure:bL)(z:Bool)(now:bL)(i:Nat)
def Mh(a:Bool)(nw:bL)(b:Bool)(sure:bL)(z:Bool)(now:bL)(i:Nat):bX:=[(1,.int .u64 0),(2,.ptr 0 []),(6,.sl (C:=RC) .bS z now),(16,.int .i64 (now.length)),(17,.int .i64 (i:Int))]
def JU(a:Bool)(nw:bL)(b:Bool)(sure:bL)(z:Bool)(now:bL)(i:Nat):bR:=[.var 24 (cL .bS a nw (cL .bS b sure .bN))]
def WU a nw b sure z now i:=eF cF An 165 5 40 1 [1,2,6,16,17] [] [.slot 2 0] (Mh a nw b sure z now i) (JU a nw b sure z now i)
theorem Qqn a nw b sure z now i:WU a nw b sure z now i=(let Z0:Int:=(now.length:Int);let Z1:b9:=[some (Obj.var 24 (.bI (D.sl ca.bS a nw) (.bI (D.sl ca.bS b sure) .bN)))];bif decide ((i:Int)<Z0)then some ((X.normal,[(1,D.int IntKind.u64 0),(2,D.ptr 0 []),(6,D.sl ca.bS z now),(16,cq Z0),(17,cq (cX ((i:Int)+1)))]),Z1)else some ((X.exit 0,[]),Z1)):=by kernel_rfl
def TQ(a:Bool)(nw:bL)(b:Bool)(sure:bL)(z:Bool)(now:bL)(i:Nat):RT RC:=.leaf (.exit 0) [] (JU a nw b sure z now i)
def Jh(a:Bool)(nw:bL)(b:Bool)(sure:bL)(z:Bool)(now:bL)(i:Nat):Prop:=i<=now.length/\now.length<=33
def JV:QK RC UR where
 k:=1
 cS q:=Mh q.a q.nw q.b q.sure q.z q.now q.i
 cR q:=JU q.a q.nw q.b q.sure q.z q.now q.i
 fin q:=TQ q.a q.nw q.b q.sure q.z q.now q.i
 Inv q:=Jh q.a q.nw q.b q.sure q.z q.now q.i
 μ q:=q.now.length-q.i
theorem QhC a nw b sure z now i(hI:Jh a nw b sure z now i):dw (WU a nw b sure z now i) (dF JV ⟨a,nw,b,sure,z,now,i⟩):=by
 (rw[Qqn];delta cq cX;conv=>zeta)
 unfold Jh at hI;obtain⟨h1,h2⟩:=hI
 by_cases cY:i<now.length
 ·have cN:=fa i (by omega)
  have ei:=gv (show i<now.length by omega)
  have ef:=fV (show i<now.length by omega)
  have dp:=bw i
  simp only[cN,ei,ef,dp,ag];exact Qg ⟨a,nw,b,sure,z,now,i+1⟩ ⟨cY,h2⟩ (by simp only[JV];omega) rfl rfl rfl
 ·have c1:decide ((i:Int)<now.length)=false:=by simp;omega
  simp only[c1,ah];exact Qi (JU a nw b sure z now i) rfl rfl
def MA(env:bX)(os:bR):Option (Bool×UR):=match env,os with
 |[(1,.int .u64 0),(2,.ptr 0 []),(6,.sl .bS z now),(16,.int .i64 x0),(17,.int .i64 x1)],[.var 24 (.bI (.sl .bS a nw) (.bI (.sl .bS b sure) .bN))]=>some (decide (x0=now.length)&&decide (x1=0)&&decide (now.length<=33),⟨a,nw,b,sure,z,now,0⟩)
 |_,_=>none
def Ao:=An.cP 165 5 (eZ cF [.slot 2 0] [1,2,6,16,17] JV MA)
theorem Qxy:Qj Tryz.prog cF Ao:=by
 refine Qxx.cJ Qb (by kernel_rfl) JV 40 [1,2,6,16,17] [] [.slot 2 0] [1,2,6,16,17] MA (fun q hI=>?_) ?_
 ·obtain⟨a,nw,b,sure,z,now,i⟩:=q;refine⟨?_,?_,QhC a nw b sure z now i hI⟩
  ·simp_all[Qk,JV,Mh,JU,Jh,D.refs,Obj.refs,de]
  ·simp_all[JV,TQ,JU,Jh,RT.da,Qk,D.refs,Obj.refs,de]
 ·intro env os b q cW hb;unfold MA at cW
  split at cW
  ·cases cW;simp only[ai,aa]at hb;obtain⟨⟨rfl,rfl⟩,hl⟩:=hb;exact⟨⟨aK _,hl⟩,rfl,rfl⟩
  ·cases cW
def Qot:bW->bO
 |[.bI (.sl .bS c now) (.bI (.sl .bS d sure) .bN)]=>some (Ql now&&Ql sure,.cH (.bI (cL .bS (!Qt now sure) (bif Qt now sure then now else[]) (cL .bS (!Qt now sure) (bif Qt now sure then now else[]) .bN)) (cG (bif Qt now sure then 0 else 2) .bN)))
 |_=>none
def QxA(c:Bool)(now:bL)(d:Bool)(sure:bL):=eU cF Ao 40 105 [.bI (.sl (C:=RC) .bS c now) (cL .bS d sure .bN)]
theorem QzX c now d sure:QxA c now d sure=(let Z0:bQ:=D.sl ca.bS true [];let Z1:=now.length;let Z2:Bool:=decide ((0:Nat)<Z1/\Z1<=1000000);let Z3:bQ:=D.sl ca.bS false now;cb (Ql now&&Ql sure) (bif (bif Qt now sure then (0:Int)else (2:Int))!=0 then some (D.cH (D.bI (D.bI Z0 (D.bI Z0 .bN)) (.bI (cq 2) .bN)))else cb Z2 (cb (Qc Z1) (cb (decide ((Z1:Int)=(Z1:Int))&&true&&decide (Z1<=33)) (cb Z2 (some (D.cH (D.bI (D.bI Z3 (D.bI Z3 .bN)) (.bI (cq 0) .bN))))))))):=by kernel_rfl
theorem QzY c now d sure(h:(Ql now&&Ql sure)=true):QxA c now d sure=some (.cH (.bI (cL .bS (!Qt now sure) (bif Qt now sure then now else[]) (cL .bS (!Qt now sure) (bif Qt now sure then now else[]) .bN)) (cG (bif Qt now sure then 0 else 2) .bN))):=by
 (rw[QzX];delta cb cq;conv=>zeta)
 refine Qa h ?_;cases hd:Qt now sure
 ·exact Qa rfl rfl
 refine Qn rfl ?_;obtain⟨l1,l2⟩:=Yl hd;have d1:decide (0<now.length/\now.length<=1000000)=true:=ab (by omega);exact Qa d1 (Qa (Qd (by omega)) (Qa (by simp;omega) (Qa d1 rfl)))
def Ap:=Ao.cm 105 Qot
theorem QxB:Qj Tryz.prog cF Ap:=Qxy.c6 Qb fun args d h=>by
 unfold Qot at h
 split at h
 ·obtain⟨h1,rfl⟩:=ak h;exact⟨by simp[D.refs],40,QzY _ _ _ _ h1⟩
 ·cases h
structure Qou where
 (c w d k sp:Int)(ci:Bool)(it:bM)(f0:Bool)(l0:bJ)(f1:Bool)(l1:bJ)(f2:Bool)(l2:bJ)(c0 c1 c2:Int)(cc:Bool)(cells:bY)(cn:Bool)(now:bL)(cs:Bool)(sure:bL)
def NA(c w d k sp:Int)(ci:Bool)(it:bM)(f0:Bool)(l0:bJ)(f1:Bool)(l1:bJ)(f2:Bool)(l2:bJ)(c0 c1 c2:Int)(cc:Bool)(cells:bY)(cn:Bool)(now:bL)(cs:Bool)(sure:bL):bW:=[.ptr 0 []]
def DJ(c w d k sp:Int)(ci:Bool)(it:bM)(f0:Bool)(l0:bJ)(f1:Bool)(l1:bJ)(f2:Bool)(l2:bJ)(c0 c1 c2:Int)(cc:Bool)(cells:bY)(cn:Bool)(now:bL)(cs:Bool)(sure:bL):bR:=[.var 87 (.bI (cG c (cG w (cG d (cG k .bN)))) (.bI (cG sp (cL .cE ci it (.bI (cL .bP f0 l0 (cL .bP f1 l1 (cL .bP f2 l2 .bN))) (.bI (.arr (C:=RC) .int 3 [c0,c1,c2]) .bN)))) (.bI (cL .int cc cells (.bI (cL .bS cn now (cL .bS cs sure .bN)) .bN)) .bN)))]
def QxC c w d k sp ci it f0 l0 f1 l1 f2 l2 c0 c1 c2 cc cells cn now cs sure:=Et cF Ap 44 60 1 (NA c w d k sp ci it f0 l0 f1 l1 f2 l2 c0 c1 c2 cc cells cn now cs sure) (DJ c w d k sp ci it f0 l0 f1 l1 f2 l2 c0 c1 c2 cc cells cn now cs sure)
theorem QzZ c w d k sp ci it f0 l0 f1 l1 f2 l2 c0 c1 c2 cc cells cn now cs sure:QxC c w d k sp ci it f0 l0 f1 l1 f2 l2 c0 c1 c2 cc cells cn now cs sure=(let Z0:bK:=gX sp (St.mk sp it l0 l1 l2 c0 c1 c2);let Z1:=Zk now sure 32 sp Z0;let Z2:bQ:=.bN;cb (Ql now&&Ql sure&&decide (it.length<=9223372036854775807/\l0.length<=9223372036854775807/\l1.length<=9223372036854775807/\l2.length<=9223372036854775807)) (some (cq (bif Z1 then (0:Int)else (2:Int)),[some (Obj.var 87 (.bI (D.bI (cq c) (.bI (cq w) (.bI (cq d) (.bI (cq k) Z2)))) (.bI (D.bI (cq sp) (.bI (D.sl ca.cE ci it) (.bI (D.bI (D.sl ca.bP f0 l0) (.bI (D.sl ca.bP f1 l1) (.bI (D.sl ca.bP f2 l2) Z2))) (.bI (D.arr ca.int 3 [c0,c1,c2]) Z2)))) (.bI (D.bI (D.sl ca.int cc cells) (.bI (D.bI (D.sl ca.bS (!Z1) (iG now sure 32 sp Z0)) (.bI (D.sl ca.bS (!Z1) (VN now sure 32 sp Z0)) Z2)) Z2)) Z2))))]))):=by kernel_rfl
def WV(c w d k sp:Int)(ci:Bool)(it:bM)(f0:Bool)(l0:bJ)(f1:Bool)(l1:bJ)(f2:Bool)(l2:bJ)(c0 c1 c2:Int)(cc:Bool)(cells:bY)(cn:Bool)(now:bL)(cs:Bool)(sure:bL):RT RC:=.leaf .ret [(0,.int .i64 (bif Zk now sure 32 sp (gX sp ⟨sp,it,l0,l1,l2,c0,c1,c2⟩)then 0 else 2))] (DJ c w d k sp ci it f0 l0 f1 l1 f2 l2 c0 c1 c2 cc cells (!Zk now sure 32 sp (gX sp ⟨sp,it,l0,l1,l2,c0,c1,c2⟩)) (iG now sure 32 sp (gX sp ⟨sp,it,l0,l1,l2,c0,c1,c2⟩)) (!Zk now sure 32 sp (gX sp ⟨sp,it,l0,l1,l2,c0,c1,c2⟩)) (VN now sure 32 sp (gX sp ⟨sp,it,l0,l1,l2,c0,c1,c2⟩)))
def MB(c w d k sp:Int)(ci:Bool)(it:bM)(f0:Bool)(l0:bJ)(f1:Bool)(l1:bJ)(f2:Bool)(l2:bJ)(c0 c1 c2:Int)(cc:Bool)(cells:bY)(cn:Bool)(now:bL)(cs:Bool)(sure:bL):Prop:=(Ql now=true/\Ql sure=true)/\it.length<=9223372036854775807/\l0.length<=9223372036854775807/\l1.length<=9223372036854775807/\l2.length<=9223372036854775807
def DK:oo RC Qou where
 k:=1
 args q:=NA q.c q.w q.d q.k q.sp q.ci q.it q.f0 q.l0 q.f1 q.l1 q.f2 q.l2 q.c0 q.c1 q.c2 q.cc q.cells q.cn q.now q.cs q.sure
 cR q:=DJ q.c q.w q.d q.k q.sp q.ci q.it q.f0 q.l0 q.f1 q.l1 q.f2 q.l2 q.c0 q.c1 q.c2 q.cc q.cells q.cn q.now q.cs q.sure
 fin q:=WV q.c q.w q.d q.k q.sp q.ci q.it q.f0 q.l0 q.f1 q.l1 q.f2 q.l2 q.c0 q.c1 q.c2 q.cc q.cells q.cn q.now q.cs q.sure
 Inv q:=MB q.c q.w q.d q.k q.sp q.ci q.it q.f0 q.l0 q.f1 q.l1 q.f2 q.l2 q.c0 q.c1 q.c2 q.cc q.cells q.cn q.now q.cs q.sure
theorem Qz0 c w d k sp ci it f0 l0 f1 l1 f2 l2 c0 c1 c2 cc cells cn now cs sure(hI:MB c w d k sp ci it f0 l0 f1 l1 f2 l2 c0 c1 c2 cc cells cn now cs sure):dw (QxC c w d k sp ci it f0 l0 f1 l1 f2 l2 c0 c1 c2 cc cells cn now cs sure) (qX DK ⟨c,w,d,k,sp,ci,it,f0,l0,f1,l1,f2,l2,c0,c1,c2,cc,cells,cn,now,cs,sure⟩):=by
 (rw[QzZ];delta cb cq;conv=>zeta)
 unfold MB at hI;have h0:=hI;obtain⟨⟨g1,g2⟩,hl⟩:=hI;rw[g1,g2,ab hl];simp only[au,ag];exact Le _ rfl rfl
def NB(env:bX)(os:bR):Option (Bool×Qou):=match env,os with
 |[(0,.ptr 0 [])],[.var 87 (.bI (.bI (.int .i64 c) (.bI (.int .i64 w) (.bI (.int .i64 d) (.bI (.int .i64 k) .bN)))) (.bI (.bI (.int .i64 sp) (.bI (.sl .cE ci it) (.bI (.bI (.sl .bP f0 l0) (.bI (.sl .bP f1 l1) (.bI (.sl .bP f2 l2) .bN))) (.bI (.arr .int 3 [c0,c1,c2]) .bN)))) (.bI (.bI (.sl .int cc cells) (.bI (.bI (.sl .bS cn now) (.bI (.sl .bS cs sure) .bN)) .bN)) .bN)))]=>Qv (true) (Ql now&&Ql sure&&decide (it.length<=9223372036854775807/\l0.length<=9223372036854775807/\l1.length<=9223372036854775807/\l2.length<=9223372036854775807),⟨c,w,d,k,sp,ci,it,f0,l0,f1,l1,f2,l2,c0,c1,c2,cc,cells,cn,now,cs,sure⟩)
 |_,_=>none
def Aq:=Ap.kL 44 (rM cF [.slot 0 0] 1 DK NB)
theorem QxD:Qj Tryz.prog cF Aq:=by
 refine QxB.pZ Qb DK 60 1 [.slot 0 0] NB (fun q hI=>?_) ?_
 ·obtain⟨c,w,d,k,sp,ci,it,f0,l0,f1,l1,f2,l2,c0,c1,c2,cc,cells,cn,now,cs,sure⟩:=q;refine⟨?_,?_,rfl,Qz0 c w d k sp ci it f0 l0 f1 l1 f2 l2 c0 c1 c2 cc cells cn now cs sure hI⟩
  ·simp[Qk,DK,NA,DJ,hY,D.refs,Obj.refs]
  ·simp[DK,WV,DJ,RT.da,Qk,D.refs,Obj.refs]
 ·intro env os b q cW hb;unfold NB at cW
  split at cW
  ·obtain⟨hs,cW⟩:=Qe cW;cases cW
   try simp only[ai,aa]at hb
   exact⟨hb,rfl,rfl⟩
  ·cases cW
structure Qov where
 (c w d k sp:Int)(ci:Bool)(it:bM)(f0:Bool)(l0:bJ)(f1:Bool)(l1:bJ)(f2:Bool)(l2:bJ)(c0 c1 c2:Int)(cc:Bool)(cells:bY)(cn:Bool)(now:bL)(cs:Bool)(sure:bL)
def NC(c w d k sp:Int)(ci:Bool)(it:bM)(f0:Bool)(l0:bJ)(f1:Bool)(l1:bJ)(f2:Bool)(l2:bJ)(c0 c1 c2:Int)(cc:Bool)(cells:bY)(cn:Bool)(now:bL)(cs:Bool)(sure:bL):bW:=[.ptr 0 []]
def DL(c w d k sp:Int)(ci:Bool)(it:bM)(f0:Bool)(l0:bJ)(f1:Bool)(l1:bJ)(f2:Bool)(l2:bJ)(c0 c1 c2:Int)(cc:Bool)(cells:bY)(cn:Bool)(now:bL)(cs:Bool)(sure:bL):bR:=[.var 87 (.bI (cG c (cG w (cG d (cG k .bN)))) (.bI (cG sp (cL .cE ci it (.bI (cL .bP f0 l0 (cL .bP f1 l1 (cL .bP f2 l2 .bN))) (.bI (.arr (C:=RC) .int 3 [c0,c1,c2]) .bN)))) (.bI (cL .int cc cells (.bI (cL .bS cn now (cL .bS cs sure .bN)) .bN)) .bN)))]
def QxE c w d k sp ci it f0 l0 f1 l1 f2 l2 c0 c1 c2 cc cells cn now cs sure:=Et cF Aq 45 60 1 (NC c w d k sp ci it f0 l0 f1 l1 f2 l2 c0 c1 c2 cc cells cn now cs sure) (DL c w d k sp ci it f0 l0 f1 l1 f2 l2 c0 c1 c2 cc cells cn now cs sure)
theorem Qz1 c w d k sp ci it f0 l0 f1 l1 f2 l2 c0 c1 c2 cc cells cn now cs sure:QxE c w d k sp ci it f0 l0 f1 l1 f2 l2 c0 c1 c2 cc cells cn now cs sure=(let Z0:=Qt now sure;let Z1:bQ:=.bN;let Z2:bQ:=D.sl ca.bS (!Z0) (bif Z0 then now else []);cb (Ql now&&Ql sure) (some (cq (bif Z0 then (0:Int)else (2:Int)),[some (Obj.var 87 (.bI (D.bI (cq c) (.bI (cq w) (.bI (cq d) (.bI (cq k) Z1)))) (.bI (D.bI (cq sp) (.bI (D.sl ca.cE ci it) (.bI (D.bI (D.sl ca.bP f0 l0) (.bI (D.sl ca.bP f1 l1) (.bI (D.sl ca.bP f2 l2) Z1))) (.bI (D.arr ca.int 3 [c0,c1,c2]) Z1)))) (.bI (D.bI (D.sl ca.int cc cells) (.bI (D.bI Z2 (D.bI Z2 Z1)) Z1)) Z1))))]))):=by kernel_rfl
def WW(c w d k sp:Int)(ci:Bool)(it:bM)(f0:Bool)(l0:bJ)(f1:Bool)(l1:bJ)(f2:Bool)(l2:bJ)(c0 c1 c2:Int)(cc:Bool)(cells:bY)(cn:Bool)(now:bL)(cs:Bool)(sure:bL):RT RC:=.leaf .ret [(0,.int .i64 (bif Qt now sure then 0 else 2))] (DL c w d k sp ci it f0 l0 f1 l1 f2 l2 c0 c1 c2 cc cells (!Qt now sure) (bif Qt now sure then now else[]) (!Qt now sure) (bif Qt now sure then now else[]))
def MC(c w d k sp:Int)(ci:Bool)(it:bM)(f0:Bool)(l0:bJ)(f1:Bool)(l1:bJ)(f2:Bool)(l2:bJ)(c0 c1 c2:Int)(cc:Bool)(cells:bY)(cn:Bool)(now:bL)(cs:Bool)(sure:bL):Prop:=(Ql now=true/\Ql sure=true)/\it.length<=9223372036854775807/\l0.length<=9223372036854775807/\l1.length<=9223372036854775807/\l2.length<=9223372036854775807
def DM:oo RC Qov where
 k:=1
 args q:=NC q.c q.w q.d q.k q.sp q.ci q.it q.f0 q.l0 q.f1 q.l1 q.f2 q.l2 q.c0 q.c1 q.c2 q.cc q.cells q.cn q.now q.cs q.sure
 cR q:=DL q.c q.w q.d q.k q.sp q.ci q.it q.f0 q.l0 q.f1 q.l1 q.f2 q.l2 q.c0 q.c1 q.c2 q.cc q.cells q.cn q.now q.cs q.sure
 fin q:=WW q.c q.w q.d q.k q.sp q.ci q.it q.f0 q.l0 q.f1 q.l1 q.f2 q.l2 q.c0 q.c1 q.c2 q.cc q.cells q.cn q.now q.cs q.sure
 Inv q:=MC q.c q.w q.d q.k q.sp q.ci q.it q.f0 q.l0 q.f1 q.l1 q.f2 q.l2 q.c0 q.c1 q.c2 q.cc q.cells q.cn q.now q.cs q.sure
theorem Qz2 c w d k sp ci it f0 l0 f1 l1 f2 l2 c0 c1 c2 cc cells cn now cs sure(hI:MC c w d k sp ci it f0 l0 f1 l1 f2 l2 c0 c1 c2 cc cells cn now cs sure):dw (QxE c w d k sp ci it f0 l0 f1 l1 f2 l2 c0 c1 c2 cc cells cn now cs sure) (qX DM ⟨c,w,d,k,sp,ci,it,f0,l0,f1,l1,f2,l2,c0,c1,c2,cc,cells,cn,now,cs,sure⟩):=by
 (rw[Qz1];delta cb cq;conv=>zeta)
 unfold MC at hI;have h0:=hI;obtain⟨⟨g1,g2⟩,hl⟩:=hI;rw[g1,g2];simp only[au,ag];exact Le _ rfl rfl
def ND(env:bX)(os:bR):Option (Bool×Qov):=match env,os with
 |[(0,.ptr 0 [])],[.var 87 (.bI (.bI (.int .i64 c) (.bI (.int .i64 w) (.bI (.int .i64 d) (.bI (.int .i64 k) .bN)))) (.bI (.bI (.int .i64 sp) (.bI (.sl .cE ci it) (.bI (.bI (.sl .bP f0 l0) (.bI (.sl .bP f1 l1) (.bI (.sl .bP f2 l2) .bN))) (.bI (.arr .int 3 [c0,c1,c2]) .bN)))) (.bI (.bI (.sl .int cc cells) (.bI (.bI (.sl .bS cn now) (.bI (.sl .bS cs sure) .bN)) .bN)) .bN)))]=>Qv (true) (Ql now&&Ql sure&&decide (it.length<=9223372036854775807/\l0.length<=9223372036854775807/\l1.length<=9223372036854775807/\l2.length<=9223372036854775807),⟨c,w,d,k,sp,ci,it,f0,l0,f1,l1,f2,l2,c0,c1,c2,cc,cells,cn,now,cs,sure⟩)
 |_,_=>none
def Ar:=Aq.kL 45 (rM cF [.slot 0 0] 1 DM ND)
theorem QxF:Qj Tryz.prog cF Ar:=by
 refine QxD.pZ Qb DM 60 1 [.slot 0 0] ND (fun q hI=>?_) ?_
 ·obtain⟨c,w,d,k,sp,ci,it,f0,l0,f1,l1,f2,l2,c0,c1,c2,cc,cells,cn,now,cs,sure⟩:=q;refine⟨?_,?_,rfl,Qz2 c w d k sp ci it f0 l0 f1 l1 f2 l2 c0 c1 c2 cc cells cn now cs sure hI⟩
  ·simp[Qk,DM,NC,DL,hY,D.refs,Obj.refs]
  ·simp[DM,WW,DL,RT.da,Qk,D.refs,Obj.refs]
 ·intro env os b q cW hb;unfold ND at cW
  split at cW
  ·obtain⟨hs,cW⟩:=Qe cW;cases cW
   try simp only[ai,aa]at hb
   exact⟨hb,rfl,rfl⟩
  ·cases cW
structure Qow where
 (c w d k sp:Int)(ci:Bool)(it:bM)(f0:Bool)(l0:bJ)(f1:Bool)(l1:bJ)(f2:Bool)(l2:bJ)(c0 c1 c2:Int)(cc:Bool)(cells:bY)(cn:Bool)(now:bL)(cs:Bool)(sure:bL)
def NE(c w d k sp:Int)(ci:Bool)(it:bM)(f0:Bool)(l0:bJ)(f1:Bool)(l1:bJ)(f2:Bool)(l2:bJ)(c0 c1 c2:Int)(cc:Bool)(cells:bY)(cn:Bool)(now:bL)(cs:Bool)(sure:bL):bW:=[.ptr 0 []]
def DN(c w d k sp:Int)(ci:Bool)(it:bM)(f0:Bool)(l0:bJ)(f1:Bool)(l1:bJ)(f2:Bool)(l2:bJ)(c0 c1 c2:Int)(cc:Bool)(cells:bY)(cn:Bool)(now:bL)(cs:Bool)(sure:bL):bR:=[.var 87 (.bI (cG c (cG w (cG d (cG k .bN)))) (.bI (cG sp (cL .cE ci it (.bI (cL .bP f0 l0 (cL .bP f1 l1 (cL .bP f2 l2 .bN))) (.bI (.arr (C:=RC) .int 3 [c0,c1,c2]) .bN)))) (.bI (cL .int cc cells (.bI (cL .bS cn now (cL .bS cs sure .bN)) .bN)) .bN)))]
def QxG c w d k sp ci it f0 l0 f1 l1 f2 l2 c0 c1 c2 cc cells cn now cs sure:=Et cF Ar 46 60 1 (NE c w d k sp ci it f0 l0 f1 l1 f2 l2 c0 c1 c2 cc cells cn now cs sure) (DN c w d k sp ci it f0 l0 f1 l1 f2 l2 c0 c1 c2 cc cells cn now cs sure)
theorem Qz3 c w d k sp ci it f0 l0 f1 l1 f2 l2 c0 c1 c2 cc cells cn now cs sure:QxG c w d k sp ci it f0 l0 f1 l1 f2 l2 c0 c1 c2 cc cells cn now cs sure=(let Z0:St:=St.mk sp it l0 l1 l2 c0 c1 c2;let Z1:=Ze now sure c w d k Z0;let Z2:bQ:=.bN;let Z3:Bool:=Z1==0;cb (Ql now&&Ql sure&&decide (it.length<=9223372036854775807/\l0.length<=9223372036854775807/\l1.length<=9223372036854775807/\l2.length<=9223372036854775807)) (some (cq Z1,[some (Obj.var 87 (.bI (D.bI (cq c) (.bI (cq w) (.bI (cq d) (.bI (cq k) Z2)))) (.bI (D.bI (cq sp) (.bI (D.sl ca.cE ci it) (.bI (D.bI (D.sl ca.bP f0 l0) (.bI (D.sl ca.bP f1 l1) (.bI (D.sl ca.bP f2 l2) Z2))) (.bI (D.arr ca.int 3 [c0,c1,c2]) Z2)))) (.bI (D.bI (D.sl ca.int false (bif Z3 then JA nC c k Z0 else [])) (.bI (D.bI (D.sl ca.bS false (bif Z3 then now else [])) (.bI (D.sl ca.bS false (bif Z3 then sure else [])) Z2)) Z2)) Z2))))]))):=by kernel_rfl
def WX(c w d k sp:Int)(ci:Bool)(it:bM)(f0:Bool)(l0:bJ)(f1:Bool)(l1:bJ)(f2:Bool)(l2:bJ)(c0 c1 c2:Int)(cc:Bool)(cells:bY)(cn:Bool)(now:bL)(cs:Bool)(sure:bL):RT RC:=.leaf .ret [(0,.int .i64 (Ze now sure c w d k ⟨sp,it,l0,l1,l2,c0,c1,c2⟩))] (DN c w d k sp ci it f0 l0 f1 l1 f2 l2 c0 c1 c2 false (bif Ze now sure c w d k ⟨sp,it,l0,l1,l2,c0,c1,c2⟩==0 then JA nC c k ⟨sp,it,l0,l1,l2,c0,c1,c2⟩else[]) false (bif Ze now sure c w d k ⟨sp,it,l0,l1,l2,c0,c1,c2⟩==0 then now else[]) false (bif Ze now sure c w d k ⟨sp,it,l0,l1,l2,c0,c1,c2⟩==0 then sure else[]))
def MD(c w d k sp:Int)(ci:Bool)(it:bM)(f0:Bool)(l0:bJ)(f1:Bool)(l1:bJ)(f2:Bool)(l2:bJ)(c0 c1 c2:Int)(cc:Bool)(cells:bY)(cn:Bool)(now:bL)(cs:Bool)(sure:bL):Prop:=(Ql now=true/\Ql sure=true)/\it.length<=9223372036854775807/\l0.length<=9223372036854775807/\l1.length<=9223372036854775807/\l2.length<=9223372036854775807
def DO:oo RC Qow where
 k:=1
 args q:=NE q.c q.w q.d q.k q.sp q.ci q.it q.f0 q.l0 q.f1 q.l1 q.f2 q.l2 q.c0 q.c1 q.c2 q.cc q.cells q.cn q.now q.cs q.sure
 cR q:=DN q.c q.w q.d q.k q.sp q.ci q.it q.f0 q.l0 q.f1 q.l1 q.f2 q.l2 q.c0 q.c1 q.c2 q.cc q.cells q.cn q.now q.cs q.sure
 fin q:=WX q.c q.w q.d q.k q.sp q.ci q.it q.f0 q.l0 q.f1 q.l1 q.f2 q.l2 q.c0 q.c1 q.c2 q.cc q.cells q.cn q.now q.cs q.sure
 Inv q:=MD q.c q.w q.d q.k q.sp q.ci q.it q.f0 q.l0 q.f1 q.l1 q.f2 q.l2 q.c0 q.c1 q.c2 q.cc q.cells q.cn q.now q.cs q.sure
theorem Qz4 c w d k sp ci it f0 l0 f1 l1 f2 l2 c0 c1 c2 cc cells cn now cs sure(hI:MD c w d k sp ci it f0 l0 f1 l1 f2 l2 c0 c1 c2 cc cells cn now cs sure):dw (QxG c w d k sp ci it f0 l0 f1 l1 f2 l2 c0 c1 c2 cc cells cn now cs sure) (qX DO ⟨c,w,d,k,sp,ci,it,f0,l0,f1,l1,f2,l2,c0,c1,c2,cc,cells,cn,now,cs,sure⟩):=by
 (rw[Qz3];delta cb cq;conv=>zeta)
 unfold MD at hI;have h0:=hI;obtain⟨⟨g1,g2⟩,hl⟩:=hI;rw[g1,g2,ab hl];simp only[au,ag];exact Le _ rfl rfl
def NF(env:bX)(os:bR):Option (Bool×Qow):=match env,os with
 |[(0,.ptr 0 [])],[.var 87 (.bI (.bI (.int .i64 c) (.bI (.int .i64 w) (.bI (.int .i64 d) (.bI (.int .i64 k) .bN)))) (.bI (.bI (.int .i64 sp) (.bI (.sl .cE ci it) (.bI (.bI (.sl .bP f0 l0) (.bI (.sl .bP f1 l1) (.bI (.sl .bP f2 l2) .bN))) (.bI (.arr .int 3 [c0,c1,c2]) .bN)))) (.bI (.bI (.sl .int cc cells) (.bI (.bI (.sl .bS cn now) (.bI (.sl .bS cs sure) .bN)) .bN)) .bN)))]=>Qv (true) (Ql now&&Ql sure&&decide (it.length<=9223372036854775807/\l0.length<=9223372036854775807/\l1.length<=9223372036854775807/\l2.length<=9223372036854775807),⟨c,w,d,k,sp,ci,it,f0,l0,f1,l1,f2,l2,c0,c1,c2,cc,cells,cn,now,cs,sure⟩)
 |_,_=>none
def As:=Ar.kL 46 (rM cF [.slot 0 0] 1 DO NF)
theorem QxH:Qj Tryz.prog cF As:=by
 refine QxF.pZ Qb DO 60 1 [.slot 0 0] NF (fun q hI=>?_) ?_
 ·obtain⟨c,w,d,k,sp,ci,it,f0,l0,f1,l1,f2,l2,c0,c1,c2,cc,cells,cn,now,cs,sure⟩:=q;refine⟨?_,?_,rfl,Qz4 c w d k sp ci it f0 l0 f1 l1 f2 l2 c0 c1 c2 cc cells cn now cs sure hI⟩
  ·simp[Qk,DO,NE,DN,hY,D.refs,Obj.refs]
  ·simp[DO,WX,DN,RT.da,Qk,D.refs,Obj.refs]
 ·intro env os b q cW hb;unfold NF at cW
  split at cW
  ·obtain⟨hs,cW⟩:=Qe cW;cases cW
   try simp only[ai,aa]at hb
   exact⟨hb,rfl,rfl⟩
  ·cases cW
open Go.Proofs
def Qox:bW->bO
 |[.bI (.sl .bS cn now) (.bI (.sl .bS cs sure) .bN),.bI (.int .i64 c) (.bI (.int .i64 w) (.bI (.int .i64 d) (.bI (.int .i64 k) .bN))),.int .i64 cT]=>some (Ql now&&Ql sure,.cH (.bI (cL .int false (ZH nC now sure c w d k cT) (.bI (cL .bS false (JT now sure c w d k cT) (cL .bS false (Y9 now sure c w d k cT) .bN)) .bN)) (cG (iO now sure c w d k) .bN)))
 |_=>none
def QxJ(cn:Bool)(now:bL)(cs:Bool)(sure:bL)(c w d k cT:Int):=lY cF As 200 13 [.bI (.sl (C:=RC) .bS cn now) (cL .bS cs sure .bN),.bI (.int .i64 c) (cG w (cG d (cG k .bN))),.int .i64 cT]
theorem Qz5 cn now cs sure c w d k cT:QxJ cn now cs sure c w d k cT=(let Z0:=Ql now&&Ql sure;let Z1:=YT now sure c w d k;let Z2:bQ:=D.sl ca.int false [];let Z3:bQ:=D.sl ca.bS false [];let Z4:bQ:=.bN;let Z5:bQ:=D.bI Z2 (D.bI (D.bI Z3 (D.bI Z3 Z4)) Z4);let Z6:St:=QL now sure c w d k;let Z7:Bool:=decide (List.length Z6.bV<=9223372036854775807/\List.length Z6.l0<=9223372036854775807/\List.length Z6.l1<=9223372036854775807/\List.length Z6.l2<=9223372036854775807);let Z8:=St.b8 Z6;let Z9:St:=St.mk Z8 Z6.bV Z6.l0 Z6.l1 Z6.l2 Z6.c0 Z6.c1 Z6.c2;let dg:=Ze now sure c w d k Z9;let dq:Int:=if cT<0 then (0:Int)else cT;let dE:Int:=if (3:Int)<dq then (3:Int)else dq;let dQ:Int:=(dE.toNat:Int);let dv:Int:=bif Zk now sure 32 Z8 (gX Z8 Z9)then (0:Int)else (2:Int);let dT:bL:=iG now sure 32 Z8 (gX Z8 Z9);let dL:bL:=VN now sure 32 Z8 (gX Z8 Z9);let eK:Int:=bif Qt dT dL then (0:Int)else (2:Int);let eo:bL:=bif Qt dT dL then dT else [];let eX:=Ze eo eo c w d k Z9;let eC:fG:=none;let eP:bQ:=D.sl ca.bS false (bif eX==0 then eo else []);let fF:bQ:=D.bI (cq 0) Z4;let fz:bQ:=D.sl ca.bS false eo;bif Z0 then bif Z1 !=0 then some (D.cH (D.bI Z5 (D.bI (cq Z1) Z4)))else bif Z0&&Z7 then bif dg !=0 then some (D.cH (D.bI Z5 (D.bI (cq dg) Z4)))else bif decide ((0:Int)<=dE/\dE<=3)then bif Qc dE.toNat then bif decide ((0:Int)<dQ)then bif decide ((0:Int)<=0/\(0:Int)<dQ)then bif Z0&&Z7 then bif dv !=0 then some (D.cH (D.bI Z5 (D.bI (cq dv) Z4)))else bif decide ((1:Int)<dQ)then bif decide ((0:Int)<=1/\(1:Int)<dQ)then bif Ql dT&&Ql dL&&Z7 then bif eK !=0 then some (D.cH (D.bI Z5 (D.bI (cq eK) Z4)))else bif decide ((2:Int)<dQ)then bif decide ((0:Int)<=2/\(2:Int)<dQ)then bif Ql eo&&Ql eo&&Z7 then bif eX !=0 then some (D.cH (D.bI Z5 (D.bI (cq eX) Z4)))else bif decide ((3:Int)<dQ)then bif decide ((0:Int)<=3/\(3:Int)<dQ)then eC else eC else some (D.cH (D.bI (D.bI (D.sl ca.int false (bif eX==0 then JA nC c k Z9 else [])) (.bI (D.bI eP (D.bI eP Z4)) Z4)) fF))else eC else eC else some (D.cH (D.bI (D.bI Z2 (D.bI (D.bI fz (D.bI fz Z4)) Z4)) fF))else eC else eC else some (D.cH (D.bI (D.bI Z2 (D.bI (D.bI (D.sl ca.bS false dT) (.bI (D.sl ca.bS false dL) Z4)) Z4)) fF))else eC else eC else some (D.cH (D.bI (D.bI Z2 (D.bI (D.bI (D.sl ca.bS false now) (.bI (D.sl ca.bS false sure) Z4)) Z4)) fF))else eC else eC else eC else eC):=by kernel_rfl
theorem Qz6 cn now cs sure c w d k cT(h:(Ql now&&Ql sure)=true):QxJ cn now cs sure c w d k cT=some (.cH (.bI (cL .int false (ZH nC now sure c w d k cT) (.bI (cL .bS false (JT now sure c w d k cT) (cL .bS false (Y9 now sure c w d k cT) .bN)) .bN)) (cG (iO now sure c w d k) .bN))):=by
 (rw[Qz5];delta cq;conv=>zeta)
 have hg:=h;obtain⟨b0,b1,b2,b3⟩:=LP now sure c w d k
 have err:∀e:Int,iO now sure c w d k=e->e≠0->some (D.cH (C:=RC) (.bI (cL .int false [] (.bI (cL .bS false [] (cL .bS false [] .bN)) .bN)) (cG e .bN)))=some (.cH (.bI (cL .int false (ZH nC now sure c w d k cT) (.bI (cL .bS false (JT now sure c w d k cT) (cL .bS false (Y9 now sure c w d k cT) .bN)) .bN)) (cG (iO now sure c w d k) .bN))):=fun e h1 h2=>by
  have h3:(e==0)=false:=by simpa using h2
  simp only[ZH,JT,Y9,h1,h3,ah]
 have hL:decide ((QL now sure c w d k).bV.length<=9223372036854775807/\(QL now sure c w d k).l0.length<=9223372036854775807/\(QL now sure c w d k).l1.length<=9223372036854775807/\(QL now sure c w d k).l2.length<=9223372036854775807)=true:=ab ⟨by omega,by omega,by omega,by omega⟩;simp only[HC];generalize hX:(if 3<(if cT<0 then 0 else cT)then 3 else if cT<0 then 0 else cT)=X
 have hx:(X=0/\cT<=0)\/(X=1/\cT=1)\/(X=2/\cT=2)\/(X=3/\3<=cT):=by
  subst hX
  split<;>split at * <;>(first|split|skip)<;>omega
 clear hX;refine Qa hg ?_
 by_cases h1:YT now sure c w d k=0
 ·refine Qn (by rw[h1];rfl) (Qa (fH hg hL) ?_)
  by_cases h2:Ze now sure c w d k (QL now sure c w d k)=0
  ·obtain⟨hd,hs,ht,hr,hp⟩:=Su h1 h2;have hE:iO now sure c w d k=0:=by simp[iO,h1,h2]
   have sB:=L7 hp;have sC:=Mn now sure 32 (QL now sure c w d k).b8 (gX (QL now sure c w d k).b8 (QL now sure c w d k))
   have fU:YF (iG now sure 32 (QL now sure c w d k).b8 (gX (QL now sure c w d k).b8 (QL now sure c w d k)))=true:=by
    unfold Qt at sB;simp only[ai]at sB;exact sB.1.1
   have OY:Ze (iG now sure 32 (QL now sure c w d k).b8 (gX (QL now sure c w d k).b8 (QL now sure c w d k))) (iG now sure 32 (QL now sure c w d k).b8 (gX (QL now sure c w d k).b8 (QL now sure c w d k))) c w d k (QL now sure c w d k)=0:=by
    simp only[Ze,TZ fU,hs,ht,au,ag,ad hr,ah]
   refine Qn (by rw[h2];rfl) ?_;simp only[ZH,JT,Y9,hE,vG,y6];rcases hx with⟨rfl,PL⟩|⟨rfl,rfl⟩|⟨rfl,rfl⟩|⟨rfl,PL⟩
   ·simp only[ab PL,ad (show ¬3<=cT by omega)];exact Qa rfl (Qa rfl (Qn rfl rfl))
   ·refine Qa rfl (Qa rfl (Qa rfl (Qa rfl (Qa (fH hg hL) (Qn (by rw[hp];rfl) (Qn rfl rfl))))))
   ·refine Qa rfl (Qa rfl (Qa rfl (Qa rfl (Qa (fH hg hL) (Qn (by rw[hp];rfl) (Qa rfl (Qa rfl ?_)))))));simp only[sB,ag];exact Qa (fH (fH sC.1 sC.2) hL) (Qn rfl (Qn rfl rfl))
   ·refine Qa rfl (Qa rfl (Qa rfl (Qa rfl (Qa (fH hg hL) (Qn (by rw[hp];rfl) (Qa rfl (Qa rfl ?_)))))));simp only[sB,ag,OY,ab PL,ad (show ¬cT<=0 by omega)];have lQ:(cT==1)=false:=by simp;omega
    simp only[lQ];exact Qa (fH (fH sC.1 sC.2) hL) (Qn rfl (Qa rfl (Qa rfl (Qa (fH (fH sC.1 sC.1) hL) (Qn rfl (Qn rfl rfl))))))
  ·have hE:iO now sure c w d k=Ze now sure c w d k (QL now sure c w d k):=by simp[iO,h1]
   exact Qa (by simpa using h2) (err _ hE h2)
 ·have hb:(YT now sure c w d k==0)=false:=by simpa using h1
  have hE:iO now sure c w d k=YT now sure c w d k:=by simp only[iO,hb,ah]
  exact Qa (by simpa using h1) (err _ hE h1)
def At:=As.cm 13 Qox
theorem QxK:Qj Tryz.prog cF At:=QxH.j5 Qb fun args d h=>by
 unfold Qox at h
 split at h
 ·obtain⟨h1,rfl⟩:=ak h;exact⟨by simp[D.refs],200,Qz6 _ _ _ _ _ _ _ _ _ h1⟩
 ·cases h
open Go.Proofs
structure WY where
 (c:Bool)(l:bY)(a:Bool)(now:bL)(b:Bool)(sure:bL)(d:Bool)(m:bY)(a':Bool)(eS:bL)(b':Bool)(dP:bL)(i:Nat)
def MT(c:Bool)(l:bY)(a:Bool)(now:bL)(b:Bool)(sure:bL)(d:Bool)(m:bY)(a':Bool)(eS:bL)(b':Bool)(dP:bL)(i:Nat):bX:=[(2,.ptr 0 []),(3,.ptr 1 []),(4,.bool false),(5,.int .i64 (i:Int))]
def Jr(c:Bool)(l:bY)(a:Bool)(now:bL)(b:Bool)(sure:bL)(d:Bool)(m:bY)(a':Bool)(eS:bL)(b':Bool)(dP:bL)(i:Nat):bR:=[.var 41 (cL .int c l (.bI (cL .bS a now (cL .bS b sure .bN)) .bN)),.var 41 (cL .int d m (.bI (cL .bS a' eS (cL .bS b' dP .bN)) .bN))]
def Qoy c l a now b sure d m a' eS b' dP i:=eF cF At 16 4 40 2 [2,3,4,5] [4] [.slot 2 0,.slot 3 0] (MT c l a now b sure d m a' eS b' dP i) (Jr c l a now b sure d m a' eS b' dP i)
theorem QxL c l a now b sure d m a' eS b' dP i:Qoy c l a now b sure d m a' eS b' dP i=(let Z0:Int:=(i:Int);let Z1:b9:=[some (Obj.var 41 (.bI (D.sl ca.int c l) (.bI (D.bI (D.sl ca.bS a now) (.bI (D.sl ca.bS b sure) .bN)) .bN))),some (Obj.var 41 (.bI (D.sl ca.int d m) (.bI (D.bI (D.sl ca.bS a' eS) (.bI (D.sl ca.bS b' dP) .bN)) .bN)))];cb (Qc l.length) (bif decide (Z0<(l.length:Int))then cb (ep Z0 (l.length:Int)) (cb (ep Z0 (m.length:Int)) (bif List.getD l Z0.toNat 0!=List.getD m Z0.toNat 0 then some ((X.ret,[(4,D.bool false)]),Z1)else some ((X.normal,[(2,D.ptr 0 []),(3,D.ptr 1 []),(4,D.bool false),(5,cq (cX (Z0+1)))]),Z1)))else some ((X.exit 0,[(4,D.bool false)]),Z1))):=by kernel_rfl
def JW(c:Bool)(l:bY)(a:Bool)(now:bL)(b:Bool)(sure:bL)(d:Bool)(m:bY)(a':Bool)(eS:bL)(b':Bool)(dP:bL)(i:Nat):RT RC:=.br (decide (l.drop i=m.drop i)) (.leaf (.exit 0) [(4,.bool false)] (Jr c l a now b sure d m a' eS b' dP i)) (.leaf .ret [(4,.bool false)] (Jr c l a now b sure d m a' eS b' dP i))
def JX(c:Bool)(l:bY)(a:Bool)(now:bL)(b:Bool)(sure:bL)(d:Bool)(m:bY)(a':Bool)(eS:bL)(b':Bool)(dP:bL)(i:Nat):Prop:=i<=l.length/\l.length<=9223372036854775807/\l.length=m.length
def VO:QK RC WY where
 k:=2
 cS q:=MT q.c q.l q.a q.now q.b q.sure q.d q.m q.a' q.eS q.b' q.dP q.i
 cR q:=Jr q.c q.l q.a q.now q.b q.sure q.d q.m q.a' q.eS q.b' q.dP q.i
 fin q:=JW q.c q.l q.a q.now q.b q.sure q.d q.m q.a' q.eS q.b' q.dP q.i
 Inv q:=JX q.c q.l q.a q.now q.b q.sure q.d q.m q.a' q.eS q.b' q.dP q.i
 μ q:=q.l.length-q.i
theorem QjT c l a now b sure d m a' eS b' dP i(hI:JX c l a now b sure d m a' eS b' dP i):dw (Qoy c l a now b sure d m a' eS b' dP i) (dF VO ⟨c,l,a,now,b,sure,d,m,a',eS,b',dP,i⟩):=by
 (rw[QxL];delta cb ep cq cX;conv=>zeta)
 unfold JX at hI;obtain⟨h1,h2,h3⟩:=hI;have jA:=Qd h2;rw[jA];simp only[ag]
 by_cases cY:i<l.length
 ·have cN:=fa i (by omega)
  have ei:=gv (show i<l.length by omega)
  have ef:=fV (show i<l.length by omega)
  have dp:=bw i
  simp only[cN,ei,ef,dp,ag];have E3:i<m.length:=by omega
  have pq:decide (0<=(i:Int)/\(i:Int)<m.length)=true:=by simp;omega
  have eI:=FZ l m i (0:Int) cY h3;simp only[pq,ag];generalize l.getD i (0:Int)=x at eI ⊢;generalize m.getD i (0:Int)=y at eI ⊢
  by_cases nW:x=y
  ·simp only[I1 nW,ah];exact Qg ⟨c,l,a,now,b,sure,d,m,a',eS,b',dP,i+1⟩ ⟨cY,h2,h3⟩ (by simp only[VO];omega) (by simp only[VO,JW,eI,nW,aM,Bool.true_and];rfl) rfl rfl
  ·simp only[I0 nW,ag];exact QT (Jr c l a now b sure d m a' eS b' dP i) (by simp[VO,JW,eI,nW,RT.val]) rfl
 ·have hi:i=l.length:=by omega
  have c1:decide ((i:Int)<l.length)=false:=by simp;omega
  simp only[c1,ah];exact Qi (Jr c l a now b sure d m a' eS b' dP i) (by simp only[VO,JW,Gs l m i (by omega) (by omega),RT.val,ag]) rfl
def MU(env:bX)(os:bR):Option (Bool×WY):=match env,os with
 |[(2,.ptr 0 []),(3,.ptr 1 []),(4,.bool false),(5,.int .i64 x0)],[.var 41 (.bI (.sl .int c l) (.bI (.bI (.sl .bS a now) (.bI (.sl .bS b sure) .bN)) .bN)),.var 41 (.bI (.sl .int d m) (.bI (.bI (.sl .bS a' eS) (.bI (.sl .bS b' dP) .bN)) .bN))]=>some (decide (x0=0)&&decide (l.length<=9223372036854775807/\l.length=m.length),⟨c,l,a,now,b,sure,d,m,a',eS,b',dP,0⟩)
 |_,_=>none
def Au:=At.cP 16 4 (eZ cF [.slot 2 0,.slot 3 0] [2,3,4,5] VO MU)
theorem QxM:Qj Tryz.prog cF Au:=by
 refine QxK.cJ Qb (by kernel_rfl) VO 40 [2,3,4,5] [4] [.slot 2 0,.slot 3 0] [2,3,4,5] MU (fun q hI=>?_) ?_
 ·obtain⟨c,l,a,now,b,sure,d,m,a',eS,b',dP,i⟩:=q;refine⟨?_,?_,QjT c l a now b sure d m a' eS b' dP i hI⟩
  ·simp_all[Qk,VO,MT,Jr,JX,D.refs,Obj.refs,de]
  ·simp_all[VO,JW,Jr,JX,RT.da,Qk,D.refs,Obj.refs,de]
 ·intro env os b q cW hb;unfold MU at cW
  split at cW
  ·cases cW;simp only[ai,aa]at hb;obtain⟨rfl,hl⟩:=hb;exact⟨⟨aK _,hl.1,hl.2⟩,rfl,rfl⟩
  ·cases cW
def Qoz:bW->bO
 |[.bI (.sl .int c l) (.bI (.bI (.sl .bS a now) (.bI (.sl .bS b sure) .bN)) .bN),.bI (.sl .int d m) (.bI (.bI (.sl .bS a' eS) (.bI (.sl .bS b' dP) .bN)) .bN)]=>some (Qc l.length&&Qc m.length&&(Qc now.length&&Qc eS.length&&(Qc sure.length&&Qc dP.length)),.bool (decide (l=m)&&(decide (now=eS)&&decide (sure=dP))))
 |_=>none
def QxO(c:Bool)(l:bY)(a:Bool)(now:bL)(b:Bool)(sure:bL)(d:Bool)(m:bY)(a':Bool)(eS:bL)(b':Bool)(dP:bL):=eU cF Au 40 16 [.bI (.sl (C:=RC) .int c l) (.bI (cL .bS a now (cL .bS b sure .bN)) .bN),.bI (.sl (C:=RC) .int d m) (.bI (cL .bS a' eS (cL .bS b' dP .bN)) .bN)]
theorem Qz7 c l a now b sure d m a' eS b' dP:QxO c l a now b sure d m a' eS b' dP=(let Z0:=l.length;let Z1:=m.length;let Z2:fG:=some (D.bool false);cb (Qc Z0) (cb (Qc Z1) (bif (Z0:Int)!=(Z1:Int)then Z2 else cb (Qc now.length&&Qc eS.length&&(Qc sure.length&&Qc dP.length)) (bif !(decide (now=eS)&&decide (sure=dP))then Z2 else cb (decide (Z0<=9223372036854775807/\Z0=Z1)) (bif decide (List.drop 0 l=List.drop 0 m)then some (D.bool true)else Z2))))):=by kernel_rfl
theorem Qz8 c l a now b sure d m a' eS b' dP(h:(Qc l.length&&Qc m.length&&(Qc now.length&&Qc eS.length&&(Qc sure.length&&Qc dP.length)))=true):QxO c l a now b sure d m a' eS b' dP=some (.bool (decide (l=m)&&(decide (now=eS)&&decide (sure=dP)))):=by
 (rw[Qz7];delta cb;conv=>zeta)
 rw[ai,ai]at h;obtain⟨⟨h1,h2⟩,h3⟩:=h;refine Qa h1 (Qa h2 ?_)
 by_cases hl:l.length=m.length
 ·refine Qn (by rw[hl];simp) (Qa h3 ?_);cases hd:decide (now=eS)&&decide (sure=dP)
  ·refine Qa rfl ?_;simp
  ·refine Qn rfl (Qa (ab ⟨Va h1,hl⟩) ?_);rw[bG,bG,Bool.and_true];cases decide (l=m)<;>rfl
 ·refine Qa (by simp;omega) ?_;rw[ad (fun e=>hl (by rw[e]))];rfl
def Av:=Au.cm 16 Qoz
theorem QxP:Qj Tryz.prog cF Av:=QxM.c6 Qb fun args d h=>by
 unfold Qoz at h
 split at h
 ·obtain⟨h1,rfl⟩:=ak h;exact⟨by simp[D.refs],40,Qz8 _ _ _ _ _ _ _ _ _ _ _ _ h1⟩
 ·cases h
def WZ :bO:=some (true,.bool true)
def US:bW->bO
 |[]=>WZ 
 |_=>none
def W0  := eU cF Av 300 8 []
theorem RD:iO (List.replicate 33 ⟨0,[]⟩) (List.replicate 33 ⟨0,[]⟩) 1 4 1 4=0:=by kernel_rfl
theorem RB:ZH nC (List.replicate 33 ⟨0,[]⟩) (List.replicate 33 ⟨0,[]⟩) 1 4 1 4 3=JA nC 1 4 (QL (List.replicate 33 ⟨0,[]⟩) (List.replicate 33 ⟨0,[]⟩) 1 4 1 4):=by
 unfold ZH;rw[RD];rfl
theorem W2(c k:Int)(s:St):(JA nC c k s).length=771:=by
 unfold JA;simp only[Jf,Ox]
theorem Ry:(JA BS 1 4 (QL (List.replicate 33 ⟨0,[]⟩) (List.replicate 33 ⟨0,[]⟩) 1 4 1 4)).getD 0 0=4:=by kernel_rfl
theorem Rz:(JA BS 1 4 (QL (List.replicate 33 ⟨0,[]⟩) (List.replicate 33 ⟨0,[]⟩) 1 4 1 4)).getD 1 0=5:=by kernel_rfl
theorem Qqo :W0  = (let Z0:bL:=List.replicate 33 (cB.mk 0 []);let Z1:=ZH nC Z0 Z0 1 4 1 4 3;let Z2:Int:=(Z1.length:Int);bif Qc Z1.length then bif Z2==771then bif decide ((0:Int)<=0/\(0:Int)<Z2)then bif List.getD Z1 0 0==4then bif decide ((0:Int)<=1/\(1:Int)<Z2)then some (D.bool (List.getD Z1 1 0==5))else none else some (D.bool false)else none else some (D.bool false)else none):=by kernel_rfl
theorem Qqp  (h:(true)=true):W0  = some (.bool true):=by
 (rw[Qqo];conv=>zeta)
 rw[RB];have hl:=W2 1 4 (QL (List.replicate 33 ⟨0,[]⟩) (List.replicate 33 ⟨0,[]⟩) 1 4 1 4);have h0:=Ry;have h1:=Rz;rw[<-HW]at h0 h1;generalize JA nC 1 4 (QL (List.replicate 33 ⟨0,[]⟩) (List.replicate 33 ⟨0,[]⟩) 1 4 1 4)=L at *;refine Qa (Qd (by omega)) (Qa (by rw[hl];rfl) (Qa (by rw[hl];rfl) (Qa (by rw[h0];rfl) (Qa (by rw[hl];rfl) ?_))));rw[h1];rfl
def Aw:=Av.cm 8 US
theorem QxQ:Qj Tryz.prog cF Aw:=QxP.c6 Qb fun args d h=>by
 unfold US at h
 split at h
 ·unfold WZ at h;obtain⟨h1,rfl⟩:=ak h;exact⟨by simp[D.refs],300,Qqp  h1⟩
 ·cases h
theorem C6{l:bL}(h:Ql l=true):Qc l.length=true:=Qd (Zo.1 h).1
theorem Qz9{now sure:bL}(hg:(Ql now&&Ql sure)=true)(c w d k cT:Int):Qc (ZH nC now sure c w d k cT).length=true/\Qc (JT now sure c w d k cT).length=true/\Qc (Y9 now sure c w d k cT).length=true:=by
 rw[ai]at hg;have hP:=Mn now sure 32 (QL now sure c w d k).b8 (gX (QL now sure c w d k).b8 (QL now sure c w d k));have h0:Qc ([]:bL).length=true:=rfl;refine⟨?_,?_,?_⟩
 ·unfold ZH;cases iO now sure c w d k==0
  ·rfl
  ·cases decide (3<=cT)
   ·rfl
   ·exact Qd (by simp only[ag,W2];omega)
 ·unfold JT;cases iO now sure c w d k==0
  ·rfl
  ·cases decide (cT<=0)
   ·exact C6 hP.1
   ·exact C6 hg.1
 ·unfold Y9;cases iO now sure c w d k==0
  ·rfl
  ·cases decide (cT<=0)
   ·cases cT==1
    ·exact C6 hP.1
    ·exact C6 hP.2
   ·exact C6 hg.2
open Go.Proofs
def ME(c0:Bool)(now:bL)(c1:Bool)(sure:bL)(c w d k cT:Int):=eU cF Aw 300 3 [.bI (.sl (C:=RC) .bS c0 now) (cL .bS c1 sure .bN),.bI (.int .i64 c) (cG w (cG d (cG k .bN))),.int .i64 cT]
theorem Qqq c0 now c1 sure c w d k cT:ME c0 now c1 sure c w d k cT=(let Z0:=Ql now&&Ql sure;let Z1:St:=ZN now sure;let Z2:=Qc Z1.bV.length;let Z3:=Qc Z1.l0.length;let Z4:=Qc Z1.l1.length;let Z5:=Qc Z1.l2.length;let Z6:St:=St.mk Z1.b8 Z1.bV Z1.l0 Z1.l1 Z1.l2 Z1.c0 Z1.c1 Z1.c2;let Z7:Int:=bif Qt now sure then (0:Int)else (2:Int);let Z8:St:=QL now sure c w d k;let Z9:=Qc Z8.bV.length;let dg:=Qc Z8.l0.length;let dq:=Qc Z8.l1.length;let dE:=Qc Z8.l2.length;let dQ:St:=St.mk Z8.b8 Z8.bV Z8.l0 Z8.l1 Z8.l2 Z8.c0 Z8.c1 Z8.c2;let dv:=ZH nC now sure c w d k cT;let dT:bL:=JT now sure c w d k cT;let dL:bL:=Y9 now sure c w d k cT;let eK:fG:=some (D.bool false);cb Z0 (bif Hz now sure then some (D.bool true)else cb Z0 (cb Z0 (cb Z0 (cb Z0 (cb Z0 (cb Z0 (cb (Z2&&Z2&&(Z3&&Z3)&&(Z4&&Z4)&&(Z5&&Z5)) (bif decide (Z6=Z6)then bif Z7==Z7 then cb (Z9&&Z9&&(dg&&dg)&&(dq&&dq)&&(dE&&dE)) (bif decide (dQ=dQ)then bif YT now sure c w d k==YT now sure c w d k then cb (Qc dv.length&&Qc dv.length&&(Qc dT.length&&Qc dT.length&&(Qc dL.length&&Qc dL.length))) (bif decide (dv=dv)&&(decide (dT=dT)&&decide (dL=dL))then bif iO now sure c w d k==iO now sure c w d k then some (D.bool true)else eK else eK)else eK else eK)else eK else eK))))))))):=by kernel_rfl
theorem Qqr c0 now c1 sure c w d k cT(h:(Ql now&&Ql sure)=true):ME c0 now c1 sure c w d k cT=some (.bool true):=by
 (rw[Qqq];delta cb;conv=>zeta)
 refine Qa h (Qy (fun _=>rfl) fun _=>?_);have f:=QnW now sure;have b:=LP now sure c w d k;obtain⟨r1,r2,r3⟩:=Qz9 h c w d k cT
 have t4:∀{a b c d:Nat},a<=152->b<=16->c<=16->d<=16->(Qc a&&Qc a&&(Qc b&&Qc b)&&(Qc c&&Qc c)&&(Qc d&&Qc d))=true:=fun h1 h2 h3 h4=>by
  rw[Qd (show _<=_ by omega),Qd (show _<=_ by omega),Qd (show _<=_ by omega),Qd (show _<=_ by omega)];rfl
 refine Qa h (Qa h (Qa h (Qa h (Qa h (Qa h ?_)))));refine Qa (t4 f.1 f.2.1 f.2.2.1 f.2.2.2) (Qa (ab rfl) (Qa (by simp) ?_));refine Qa (t4 b.1 b.2.1 b.2.2.1 b.2.2.2) (Qa (ab rfl) (Qa (by simp) ?_));refine Qa (by rw[r1,r2,r3];rfl) (Qa (by rw[ab rfl,ab rfl,ab rfl];rfl) (Qa (by simp) rfl))
end Go.Ev
