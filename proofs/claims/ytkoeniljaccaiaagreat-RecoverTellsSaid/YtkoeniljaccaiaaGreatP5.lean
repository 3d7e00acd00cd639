/-
  A part of the proof of a statement of this seat: the model is run over values by content, proved sound; what the functions come to. No condition beyond the given statements. (text 6)
-/
import Derived.Test.YtkoeniljaccaiaaGreatP4
noncomputable section
namespace Go.Ev
open Go.Proofs
set_option maxRecDepth 100000
set_option linter.unusedVariables false
set_option linter.unusedSimpArgs false
structure RU where
 (c:Bool)(b:bK)(pos:Int)(short:Bool)(pl:Int)(cQ:bM)(l0 l1 l2:bJ)(c0 c1 c2:Int)(zs:bY)(q:Nat)
def IV(c:Bool)(b:bK)(pos:Int)(short:Bool)(pl:Int)(cQ:bM)(l0 l1 l2:bJ)(c0 c1 c2:Int)(zs:bY)(q:Nat):bX:=[(4,.ptr 0 []),(5,.ptr 1 []),(11,.int .i64 (q:Int)),(2,.ptr 6 []),(3,.int .i64 (0))]
def rQ(c:Bool)(b:bK)(pos:Int)(short:Bool)(pl:Int)(cQ:bM)(l0 l1 l2:bJ)(c0 c1 c2:Int)(zs:bY)(q:Nat):bR:=[.var 181 (cL .u8 c b (cG pos (.bI (.bool short) .bN))),.var 34 (cG pl (.bI (.vs 2 (cQ.length)) (.bI (.bI (.vs 3 (l0.length)) (.bI (.vs 4 (l1.length)) (.bI (.vs 5 (l2.length)) .bN))) (.bI (.arr (C:=RC) .int 3 [c0,c1,c2]) .bN)))),.cj (C:=RC) .cE true cQ,.cj (C:=RC) .bP true l0,.cj (C:=RC) .bP true l1,.cj (C:=RC) .bP true l2,.var 34 (cG (0) (cL .cE true [] (.bI (cL .bP true [] (cL .bP true [] (cL .bP true [] .bN))) (.bI (.arr (C:=RC) .int 3 zs) .bN))))]
def we c b pos short pl cQ l0 l1 l2 c0 c1 c2 zs q:=eF cF Bh 96 13 60 7 [4,5,11,2,3] [3] [.slot 4 0,.slot 5 0,.path 1 [1],.path 1 [2,0],.path 1 [2,1],.path 1 [2,2],.slot 2 0] (IV c b pos short pl cQ l0 l1 l2 c0 c1 c2 zs q) (rQ c b pos short pl cQ l0 l1 l2 c0 c1 c2 zs q)
set_option maxHeartbeats 4000000 in
theorem QCL(c:Bool)(b:bK)(pos:Int)(short:Bool)(pl:Int)(cQ:bM)(l0 l1 l2:bJ)(c0 c1 c2:Int)(zs:bY):we c b pos short pl cQ l0 l1 l2 c0 c1 c2 zs 0=(let Z0:=b.length;let Z1:Bool:=decide (Z0<=1000000000000);let Z2:=Prod.snd (cU b pos 3)!=0;let Z3:=cQ.length;let Z4:=l0.length;let Z5:=l1.length;let Z6:=l2.length;let Z7:Bool:=decide (Z3=Z3)&&decide (Z4=Z4)&&decide (Z5=Z5)&&decide (Z6=Z6);let Z8:Int:=(Z0:Int);let Z9:bQ:=cq 0;let dg:X×bX:=(X.normal,[(4,D.ptr 0 []),(5,D.ptr 1 []),(11,cq 1),(2,D.ptr 6 []),(3,Z9)]);let dq:bQ:=D.sl ca.u8 c b;let dE:qG Rn:=gI b;let dQ:Rn×bJ:=Qx dE true 0 0 (Rn.mk pos.toNat true);let dv:bQ:=.bN;let dT:bQ:=cq pl;let dL:bQ:=D.vs 2 Z3;let eK:bJ:=cO 0 0 l0 dQ.2;let eo:bJ:=cO 0 1 l1 dQ.2;let eX:bJ:=cO 0 2 l2 dQ.2;let eC:bQ:=D.bI (D.arr ca.int 3 [(0:Int),c1,c2]) dv;let eP:bZ:=some (Obj.cj ca.cE true cQ);let fF:bQ:=D.sl ca.bP true [];let fz:bQ:=D.bI fF (D.bI fF (D.bI fF dv));let fM:b9:=[some (Obj.var 34 (.bI Z9 (D.bI (D.sl ca.cE true []) (.bI fz (D.bI (D.arr ca.int 3 zs) dv)))))];let gf:=cX (pos+3);let gK:=Prod.fst (cU b pos 3);let iW:X×bX:=(X.ret,[(3,cq 50)]);let jO:Rn:=Rn.mk gf.toNat true;let gC:Rn×bJ:=Qx dE true 0 (gK+0) jO;let jh:bZ:=some (Obj.var 181 (.bI dq (D.bI (cq (gC.1.pos:Int)) (.bI (D.bool gC.1.short) dv))));let jy:bJ:=cO 0 0 l0 gC.2;let jP:bJ:=cO 0 1 l1 gC.2;let jo:bJ:=cO 0 2 l2 gC.2;let kb:bZ:=some (Obj.var 34 (.bI dT (D.bI dL (D.bI (D.bI (D.vs 3 jy.length) (.bI (D.vs 4 jP.length) (.bI (D.vs 5 jo.length) dv))) eC))));let iI:b9:=[some (Obj.var 34 (.bI Z9 (D.bI (D.sl ca.cE true []) (.bI fz (D.bI (D.arr ca.int 3 (List.replicate 3 0)) dv)))))];let jx:=cX (pos+1);let iP:=Prod.fst (cU b pos 1);let jE:=Int.toNat iP-0;let jr:Rn×bJ:=Qx dE true jE 0 (Rn.mk jx.toNat true);let ki:bJ:=cO 0 0 l0 jr.2;let ke:bJ:=cO 0 1 l1 jr.2;let lx:bJ:=cO 0 2 l2 jr.2;let j4:kW:=some (dg,some (Obj.var 181 (.bI dq (D.bI (cq (jr.1.pos:Int)) (.bI (D.bool jr.1.short) dv))))::some (Obj.var 34 (.bI dT (D.bI dL (D.bI (D.bI (D.vs 3 ki.length) (.bI (D.vs 4 ke.length) (.bI (D.vs 5 lx.length) dv))) eC))))::eP::some (Obj.cj ca.bP true ki)::some (Obj.cj ca.bP true ke)::some (Obj.cj ca.bP true lx)::fM);let kj:=cX (jx+3);let jQ:=Prod.fst (cU b jx 3);let dY:Rn×bJ:=Qx dE true jE (jQ+0) (Rn.mk kj.toNat true);let kY:bZ:=some (Obj.var 181 (.bI dq (D.bI (cq (dY.1.pos:Int)) (.bI (D.bool dY.1.short) dv))));let lT:bJ:=cO 0 0 l0 dY.2;let lU:bJ:=cO 0 1 l1 dY.2;let nO:bJ:=cO 0 2 l2 dY.2;let nP:bZ:=some (Obj.var 34 (.bI dT (D.bI dL (D.bI (D.bI (D.vs 3 lT.length) (.bI (D.vs 4 lU.length) (.bI (D.vs 5 nO.length) dv))) eC))));let pi:kW:=some (dg,kY::nP::eP::some (Obj.cj ca.bP true lT)::some (Obj.cj ca.bP true lU)::some (Obj.cj ca.bP true nO)::fM);let lc:Rn×bJ:=Qx dE true 0 0 jO;let oU:bJ:=cO 0 0 l0 lc.2;let qH:bJ:=cO 0 1 l1 lc.2;let oV:bJ:=cO 0 2 l2 lc.2;let n6:bQ:=D.bI (D.arr ca.int 3 [gK,c1,c2]) dv;let oW:=cX (gf+3);let n7:=Prod.fst (cU b gf 3);let mY:Rn×bJ:=Qx dE true 0 (n7+0) (Rn.mk oW.toNat true);let kE:bZ:=some (Obj.var 181 (.bI dq (D.bI (cq (mY.1.pos:Int)) (.bI (D.bool mY.1.short) dv))));let oX:bJ:=cO 0 0 l0 mY.2;let pY:bJ:=cO 0 1 l1 mY.2;let qI:bJ:=cO 0 2 l2 mY.2;let sf:bZ:=some (Obj.var 34 (.bI dT (D.bI dL (D.bI (D.bI (D.vs 3 oX.length) (.bI (D.vs 4 pY.length) (.bI (D.vs 5 qI.length) dv))) n6))));let mn:=cX (gf+1);let mo:=Prod.fst (cU b gf 1);let wq:=Int.toNat mo-0;let pj:Rn×bJ:=Qx dE true wq 0 (Rn.mk mn.toNat true);let wx:bJ:=cO 0 0 l0 pj.2;let wy:bJ:=cO 0 1 l1 pj.2;let wz:bJ:=cO 0 2 l2 pj.2;let wA:kW:=some (dg,some (Obj.var 181 (.bI dq (D.bI (cq (pj.1.pos:Int)) (.bI (D.bool pj.1.short) dv))))::some (Obj.var 34 (.bI dT (D.bI dL (D.bI (D.bI (D.vs 3 wx.length) (.bI (D.vs 4 wy.length) (.bI (D.vs 5 wz.length) dv))) n6))))::eP::some (Obj.cj ca.bP true wx)::some (Obj.cj ca.bP true wy)::some (Obj.cj ca.bP true wz)::fM);let sg:=cX (mn+3);let qJ:=Prod.fst (cU b mn 3);let pk:Rn×bJ:=Qx dE true wq (qJ+0) (Rn.mk sg.toNat short);let wB:bZ:=some (Obj.var 181 (.bI dq (D.bI (cq (pk.1.pos:Int)) (.bI (D.bool pk.1.short) dv))));let sj:bJ:=cO 0 0 l0 pk.2;let sk:bJ:=cO 0 1 l1 pk.2;let sm:bJ:=cO 0 2 l2 pk.2;let wC:bZ:=some (Obj.var 34 (.bI dT (D.bI dL (D.bI (D.bI (D.vs 3 sj.length) (.bI (D.vs 4 sk.length) (.bI (D.vs 5 sm.length) dv))) n6))));let wD:kW:=some (dg,wB::wC::eP::some (Obj.cj ca.bP true sj)::some (Obj.cj ca.bP true sk)::some (Obj.cj ca.bP true sm)::fM);cb Z1 (bif Z2 then cb Z1 (bif Prod.snd (cU b pos 1)!=0 then cb Z1 (bif Z2 then cb (Z7&&decide ((0:Int)<=0/\(0:Int)<=255/\Z0<=1000000/\((0:Int)<=pos/\pos<=Z8)/\(Z4<=1000/\Z5<=1000/\Z6<=1000)/\((0:Int)<=0/\(0:Int)<=2)/\(0:Int)<=0/\(0:Int)<=16777215)) (some (dg,some (Obj.var 181 (.bI dq (D.bI (cq (dQ.1.pos:Int)) (.bI (D.bool dQ.1.short) dv))))::some (Obj.var 34 (.bI dT (D.bI dL (D.bI (D.bI (D.vs 3 eK.length) (.bI (D.vs 4 eo.length) (.bI (D.vs 5 eX.length) dv))) eC))))::eP::some (Obj.cj ca.bP true eK)::some (Obj.cj ca.bP true eo)::some (Obj.cj ca.bP true eX)::fM))else cb (Z7&&decide ((0:Int)<=0/\(0:Int)<=255/\Z0<=1000000/\((0:Int)<=gf/\gf<=Z8)/\(Z4<=1000/\Z5<=1000/\Z6<=1000)/\((0:Int)<=0/\(0:Int)<=2)/\(0:Int)<=gK/\gK<=16777215)) (bif gK !=0 then some (iW,jh::kb::eP::some (Obj.cj ca.bP true jy)::some (Obj.cj ca.bP true jP)::some (Obj.cj ca.bP true jo)::iI)else some (dg,jh::kb::eP::some (Obj.cj ca.bP true jy)::some (Obj.cj ca.bP true jP)::some (Obj.cj ca.bP true jo)::fM)))else cb Z1 (bif Prod.snd (cU b jx 3)!=0 then cb (Z7&&decide ((0:Int)<=iP/\iP<=255/\Z0<=1000000/\((0:Int)<=jx/\jx<=Z8)/\(Z4<=1000/\Z5<=1000/\Z6<=1000)/\((0:Int)<=0/\(0:Int)<=2)/\(0:Int)<=0/\(0:Int)<=16777215)) (bif iP==0 then j4 else j4)else cb (Z7&&decide ((0:Int)<=iP/\iP<=255/\Z0<=1000000/\((0:Int)<=kj/\kj<=Z8)/\(Z4<=1000/\Z5<=1000/\Z6<=1000)/\((0:Int)<=0/\(0:Int)<=2)/\(0:Int)<=jQ/\jQ<=16777215)) (bif iP==0 then bif jQ !=0 then some (iW,kY::nP::eP::some (Obj.cj ca.bP true lT)::some (Obj.cj ca.bP true lU)::some (Obj.cj ca.bP true nO)::iI)else pi else pi)))else cb Z1 (bif Prod.snd (cU b gf 1)!=0 then cb Z1 (bif Prod.snd (cU b gf 3)!=0 then cb (Z7&&decide ((0:Int)<=0/\(0:Int)<=255/\Z0<=1000000/\((0:Int)<=gf/\gf<=Z8)/\(Z4<=1000/\Z5<=1000/\Z6<=1000)/\((0:Int)<=0/\(0:Int)<=2)/\(0:Int)<=0/\(0:Int)<=16777215)) (some (dg,some (Obj.var 181 (.bI dq (D.bI (cq (lc.1.pos:Int)) (.bI (D.bool lc.1.short) dv))))::some (Obj.var 34 (.bI dT (D.bI dL (D.bI (D.bI (D.vs 3 oU.length) (.bI (D.vs 4 qH.length) (.bI (D.vs 5 oV.length) dv))) n6))))::eP::some (Obj.cj ca.bP true oU)::some (Obj.cj ca.bP true qH)::some (Obj.cj ca.bP true oV)::fM))else cb (Z7&&decide ((0:Int)<=0/\(0:Int)<=255/\Z0<=1000000/\((0:Int)<=oW/\oW<=Z8)/\(Z4<=1000/\Z5<=1000/\Z6<=1000)/\((0:Int)<=0/\(0:Int)<=2)/\(0:Int)<=n7/\n7<=16777215)) (bif n7 !=0 then some (iW,kE::sf::eP::some (Obj.cj ca.bP true oX)::some (Obj.cj ca.bP true pY)::some (Obj.cj ca.bP true qI)::iI)else some (dg,kE::sf::eP::some (Obj.cj ca.bP true oX)::some (Obj.cj ca.bP true pY)::some (Obj.cj ca.bP true qI)::fM)))else cb Z1 (bif Prod.snd (cU b mn 3)!=0 then cb (Z7&&decide ((0:Int)<=mo/\mo<=255/\Z0<=1000000/\((0:Int)<=mn/\mn<=Z8)/\(Z4<=1000/\Z5<=1000/\Z6<=1000)/\((0:Int)<=0/\(0:Int)<=2)/\(0:Int)<=0/\(0:Int)<=16777215)) (bif mo==0 then wA else wA)else cb (Z7&&decide ((0:Int)<=mo/\mo<=255/\Z0<=1000000/\((0:Int)<=sg/\sg<=Z8)/\(Z4<=1000/\Z5<=1000/\Z6<=1000)/\((0:Int)<=0/\(0:Int)<=2)/\(0:Int)<=qJ/\qJ<=16777215)) (bif mo==0 then bif qJ !=0 then some (iW,wB::wC::eP::some (Obj.cj ca.bP true sj)::some (Obj.cj ca.bP true sk)::some (Obj.cj ca.bP true sm)::iI)else wD else wD))))):=by kernel_rfl
set_option maxHeartbeats 4000000 in
theorem QCM(c:Bool)(b:bK)(pos:Int)(short:Bool)(pl:Int)(cQ:bM)(l0 l1 l2:bJ)(c0 c1 c2:Int)(zs:bY):we c b pos short pl cQ l0 l1 l2 c0 c1 c2 zs 1=(let Z0:=b.length;let Z1:Bool:=decide (Z0<=1000000000000);let Z2:=Prod.snd (cU b pos 3)!=0;let Z3:=cQ.length;let Z4:=l0.length;let Z5:=l1.length;let Z6:=l2.length;let Z7:Bool:=decide (Z3=Z3)&&decide (Z4=Z4)&&decide (Z5=Z5)&&decide (Z6=Z6);let Z8:Int:=(Z0:Int);let Z9:bQ:=cq 0;let dg:X×bX:=(X.normal,[(4,D.ptr 0 []),(5,D.ptr 1 []),(11,cq 2),(2,D.ptr 6 []),(3,Z9)]);let dq:bQ:=D.sl ca.u8 c b;let dE:qG Rn:=gI b;let dQ:Rn×bJ:=Qx dE true 0 0 (Rn.mk pos.toNat true);let dv:bQ:=.bN;let dT:bQ:=cq pl;let dL:bQ:=D.vs 2 Z3;let eK:bJ:=cO 1 0 l0 dQ.2;let eo:bJ:=cO 1 1 l1 dQ.2;let eX:bJ:=cO 1 2 l2 dQ.2;let eC:bQ:=D.bI (D.arr ca.int 3 [c0,(0:Int),c2]) dv;let eP:bZ:=some (Obj.cj ca.cE true cQ);let fF:bQ:=D.sl ca.bP true [];let fz:bQ:=D.bI fF (D.bI fF (D.bI fF dv));let fM:b9:=[some (Obj.var 34 (.bI Z9 (D.bI (D.sl ca.cE true []) (.bI fz (D.bI (D.arr ca.int 3 zs) dv)))))];let gf:=cX (pos+3);let gK:=Prod.fst (cU b pos 3);let iW:X×bX:=(X.ret,[(3,cq 50)]);let jO:Rn:=Rn.mk gf.toNat true;let gC:Rn×bJ:=Qx dE true 0 (gK+0) jO;let jh:bZ:=some (Obj.var 181 (.bI dq (D.bI (cq (gC.1.pos:Int)) (.bI (D.bool gC.1.short) dv))));let jy:bJ:=cO 1 0 l0 gC.2;let jP:bJ:=cO 1 1 l1 gC.2;let jo:bJ:=cO 1 2 l2 gC.2;let kb:bZ:=some (Obj.var 34 (.bI dT (D.bI dL (D.bI (D.bI (D.vs 3 jy.length) (.bI (D.vs 4 jP.length) (.bI (D.vs 5 jo.length) dv))) eC))));let iI:b9:=[some (Obj.var 34 (.bI Z9 (D.bI (D.sl ca.cE true []) (.bI fz (D.bI (D.arr ca.int 3 (List.replicate 3 0)) dv)))))];let jx:=cX (pos+1);let iP:=Prod.fst (cU b pos 1);let jE:=Int.toNat iP-0;let jr:Rn×bJ:=Qx dE true jE 0 (Rn.mk jx.toNat true);let ki:bJ:=cO 1 0 l0 jr.2;let ke:bJ:=cO 1 1 l1 jr.2;let lx:bJ:=cO 1 2 l2 jr.2;let j4:kW:=some (dg,some (Obj.var 181 (.bI dq (D.bI (cq (jr.1.pos:Int)) (.bI (D.bool jr.1.short) dv))))::some (Obj.var 34 (.bI dT (D.bI dL (D.bI (D.bI (D.vs 3 ki.length) (.bI (D.vs 4 ke.length) (.bI (D.vs 5 lx.length) dv))) eC))))::eP::some (Obj.cj ca.bP true ki)::some (Obj.cj ca.bP true ke)::some (Obj.cj ca.bP true lx)::fM);let kj:=cX (jx+3);let jQ:=Prod.fst (cU b jx 3);let dY:Rn×bJ:=Qx dE true jE (jQ+0) (Rn.mk kj.toNat true);let kY:bZ:=some (Obj.var 181 (.bI dq (D.bI (cq (dY.1.pos:Int)) (.bI (D.bool dY.1.short) dv))));let lT:bJ:=cO 1 0 l0 dY.2;let lU:bJ:=cO 1 1 l1 dY.2;let nO:bJ:=cO 1 2 l2 dY.2;let nP:bZ:=some (Obj.var 34 (.bI dT (D.bI dL (D.bI (D.bI (D.vs 3 lT.length) (.bI (D.vs 4 lU.length) (.bI (D.vs 5 nO.length) dv))) eC))));let pi:kW:=some (dg,kY::nP::eP::some (Obj.cj ca.bP true lT)::some (Obj.cj ca.bP true lU)::some (Obj.cj ca.bP true nO)::fM);let lc:Rn×bJ:=Qx dE true 0 0 jO;let oU:bJ:=cO 1 0 l0 lc.2;let qH:bJ:=cO 1 1 l1 lc.2;let oV:bJ:=cO 1 2 l2 lc.2;let n6:bQ:=D.bI (D.arr ca.int 3 [c0,gK,c2]) dv;let oW:=cX (gf+3);let n7:=Prod.fst (cU b gf 3);let mY:Rn×bJ:=Qx dE true 0 (n7+0) (Rn.mk oW.toNat true);let kE:bZ:=some (Obj.var 181 (.bI dq (D.bI (cq (mY.1.pos:Int)) (.bI (D.bool mY.1.short) dv))));let oX:bJ:=cO 1 0 l0 mY.2;let pY:bJ:=cO 1 1 l1 mY.2;let qI:bJ:=cO 1 2 l2 mY.2;let sf:bZ:=some (Obj.var 34 (.bI dT (D.bI dL (D.bI (D.bI (D.vs 3 oX.length) (.bI (D.vs 4 pY.length) (.bI (D.vs 5 qI.length) dv))) n6))));let mn:=cX (gf+1);let mo:=Prod.fst (cU b gf 1);let wq:=Int.toNat mo-0;let pj:Rn×bJ:=Qx dE true wq 0 (Rn.mk mn.toNat true);let wx:bJ:=cO 1 0 l0 pj.2;let wy:bJ:=cO 1 1 l1 pj.2;let wz:bJ:=cO 1 2 l2 pj.2;let wA:kW:=some (dg,some (Obj.var 181 (.bI dq (D.bI (cq (pj.1.pos:Int)) (.bI (D.bool pj.1.short) dv))))::some (Obj.var 34 (.bI dT (D.bI dL (D.bI (D.bI (D.vs 3 wx.length) (.bI (D.vs 4 wy.length) (.bI (D.vs 5 wz.length) dv))) n6))))::eP::some (Obj.cj ca.bP true wx)::some (Obj.cj ca.bP true wy)::some (Obj.cj ca.bP true wz)::fM);let sg:=cX (mn+3);let qJ:=Prod.fst (cU b mn 3);let pk:Rn×bJ:=Qx dE true wq (qJ+0) (Rn.mk sg.toNat short);let wB:bZ:=some (Obj.var 181 (.bI dq (D.bI (cq (pk.1.pos:Int)) (.bI (D.bool pk.1.short) dv))));let sj:bJ:=cO 1 0 l0 pk.2;let sk:bJ:=cO 1 1 l1 pk.2;let sm:bJ:=cO 1 2 l2 pk.2;let wC:bZ:=some (Obj.var 34 (.bI dT (D.bI dL (D.bI (D.bI (D.vs 3 sj.length) (.bI (D.vs 4 sk.length) (.bI (D.vs 5 sm.length) dv))) n6))));let wD:kW:=some (dg,wB::wC::eP::some (Obj.cj ca.bP true sj)::some (Obj.cj ca.bP true sk)::some (Obj.cj ca.bP true sm)::fM);cb Z1 (bif Z2 then cb Z1 (bif Prod.snd (cU b pos 1)!=0 then cb Z1 (bif Z2 then cb (Z7&&decide ((0:Int)<=0/\(0:Int)<=255/\Z0<=1000000/\((0:Int)<=pos/\pos<=Z8)/\(Z4<=1000/\Z5<=1000/\Z6<=1000)/\((0:Int)<=1/\(1:Int)<=2)/\(0:Int)<=0/\(0:Int)<=16777215)) (some (dg,some (Obj.var 181 (.bI dq (D.bI (cq (dQ.1.pos:Int)) (.bI (D.bool dQ.1.short) dv))))::some (Obj.var 34 (.bI dT (D.bI dL (D.bI (D.bI (D.vs 3 eK.length) (.bI (D.vs 4 eo.length) (.bI (D.vs 5 eX.length) dv))) eC))))::eP::some (Obj.cj ca.bP true eK)::some (Obj.cj ca.bP true eo)::some (Obj.cj ca.bP true eX)::fM))else cb (Z7&&decide ((0:Int)<=0/\(0:Int)<=255/\Z0<=1000000/\((0:Int)<=gf/\gf<=Z8)/\(Z4<=1000/\Z5<=1000/\Z6<=1000)/\((0:Int)<=1/\(1:Int)<=2)/\(0:Int)<=gK/\gK<=16777215)) (bif gK !=0 then some (iW,jh::kb::eP::some (Obj.cj ca.bP true jy)::some (Obj.cj ca.bP true jP)::some (Obj.cj ca.bP true jo)::iI)else some (dg,jh::kb::eP::some (Obj.cj ca.bP true jy)::some (Obj.cj ca.bP true jP)::some (Obj.cj ca.bP true jo)::fM)))else cb Z1 (bif Prod.snd (cU b jx 3)!=0 then cb (Z7&&decide ((0:Int)<=iP/\iP<=255/\Z0<=1000000/\((0:Int)<=jx/\jx<=Z8)/\(Z4<=1000/\Z5<=1000/\Z6<=1000)/\((0:Int)<=1/\(1:Int)<=2)/\(0:Int)<=0/\(0:Int)<=16777215)) (bif iP==0 then j4 else j4)else cb (Z7&&decide ((0:Int)<=iP/\iP<=255/\Z0<=1000000/\((0:Int)<=kj/\kj<=Z8)/\(Z4<=1000/\Z5<=1000/\Z6<=1000)/\((0:Int)<=1/\(1:Int)<=2)/\(0:Int)<=jQ/\jQ<=16777215)) (bif iP==0 then bif jQ !=0 then some (iW,kY::nP::eP::some (Obj.cj ca.bP true lT)::some (Obj.cj ca.bP true lU)::some (Obj.cj ca.bP true nO)::iI)else pi else pi)))else cb Z1 (bif Prod.snd (cU b gf 1)!=0 then cb Z1 (bif Prod.snd (cU b gf 3)!=0 then cb (Z7&&decide ((0:Int)<=0/\(0:Int)<=255/\Z0<=1000000/\((0:Int)<=gf/\gf<=Z8)/\(Z4<=1000/\Z5<=1000/\Z6<=1000)/\((0:Int)<=1/\(1:Int)<=2)/\(0:Int)<=0/\(0:Int)<=16777215)) (some (dg,some (Obj.var 181 (.bI dq (D.bI (cq (lc.1.pos:Int)) (.bI (D.bool lc.1.short) dv))))::some (Obj.var 34 (.bI dT (D.bI dL (D.bI (D.bI (D.vs 3 oU.length) (.bI (D.vs 4 qH.length) (.bI (D.vs 5 oV.length) dv))) n6))))::eP::some (Obj.cj ca.bP true oU)::some (Obj.cj ca.bP true qH)::some (Obj.cj ca.bP true oV)::fM))else cb (Z7&&decide ((0:Int)<=0/\(0:Int)<=255/\Z0<=1000000/\((0:Int)<=oW/\oW<=Z8)/\(Z4<=1000/\Z5<=1000/\Z6<=1000)/\((0:Int)<=1/\(1:Int)<=2)/\(0:Int)<=n7/\n7<=16777215)) (bif n7 !=0 then some (iW,kE::sf::eP::some (Obj.cj ca.bP true oX)::some (Obj.cj ca.bP true pY)::some (Obj.cj ca.bP true qI)::iI)else some (dg,kE::sf::eP::some (Obj.cj ca.bP true oX)::some (Obj.cj ca.bP true pY)::some (Obj.cj ca.bP true qI)::fM)))else cb Z1 (bif Prod.snd (cU b mn 3)!=0 then cb (Z7&&decide ((0:Int)<=mo/\mo<=255/\Z0<=1000000/\((0:Int)<=mn/\mn<=Z8)/\(Z4<=1000/\Z5<=1000/\Z6<=1000)/\((0:Int)<=1/\(1:Int)<=2)/\(0:Int)<=0/\(0:Int)<=16777215)) (bif mo==0 then wA else wA)else cb (Z7&&decide ((0:Int)<=mo/\mo<=255/\Z0<=1000000/\((0:Int)<=sg/\sg<=Z8)/\(Z4<=1000/\Z5<=1000/\Z6<=1000)/\((0:Int)<=1/\(1:Int)<=2)/\(0:Int)<=qJ/\qJ<=16777215)) (bif mo==0 then bif qJ !=0 then some (iW,wB::wC::eP::some (Obj.cj ca.bP true sj)::some (Obj.cj ca.bP true sk)::some (Obj.cj ca.bP true sm)::iI)else wD else wD))))):=by kernel_rfl
set_option maxHeartbeats 4000000 in
theorem QCN(c:Bool)(b:bK)(pos:Int)(short:Bool)(pl:Int)(cQ:bM)(l0 l1 l2:bJ)(c0 c1 c2:Int)(zs:bY):we c b pos short pl cQ l0 l1 l2 c0 c1 c2 zs 2=(let Z0:=b.length;let Z1:Bool:=decide (Z0<=1000000000000);let Z2:=Prod.snd (cU b pos 3)!=0;let Z3:=cQ.length;let Z4:=l0.length;let Z5:=l1.length;let Z6:=l2.length;let Z7:Bool:=decide (Z3=Z3)&&decide (Z4=Z4)&&decide (Z5=Z5)&&decide (Z6=Z6);let Z8:Int:=(Z0:Int);let Z9:bQ:=cq 0;let dg:X×bX:=(X.normal,[(4,D.ptr 0 []),(5,D.ptr 1 []),(11,cq 3),(2,D.ptr 6 []),(3,Z9)]);let dq:bQ:=D.sl ca.u8 c b;let dE:qG Rn:=gI b;let dQ:Rn×bJ:=Qx dE true 0 0 (Rn.mk pos.toNat true);let dv:bQ:=.bN;let dT:bQ:=cq pl;let dL:bQ:=D.vs 2 Z3;let eK:bJ:=cO 2 0 l0 dQ.2;let eo:bJ:=cO 2 1 l1 dQ.2;let eX:bJ:=cO 2 2 l2 dQ.2;let eC:bQ:=D.bI (D.arr ca.int 3 [c0,c1,(0:Int)]) dv;let eP:bZ:=some (Obj.cj ca.cE true cQ);let fF:bQ:=D.sl ca.bP true [];let fz:bQ:=D.bI fF (D.bI fF (D.bI fF dv));let fM:b9:=[some (Obj.var 34 (.bI Z9 (D.bI (D.sl ca.cE true []) (.bI fz (D.bI (D.arr ca.int 3 zs) dv)))))];let gf:=cX (pos+3);let gK:=Prod.fst (cU b pos 3);let iW:X×bX:=(X.ret,[(3,cq 50)]);let jO:Rn:=Rn.mk gf.toNat true;let gC:Rn×bJ:=Qx dE true 0 (gK+0) jO;let jh:bZ:=some (Obj.var 181 (.bI dq (D.bI (cq (gC.1.pos:Int)) (.bI (D.bool gC.1.short) dv))));let jy:bJ:=cO 2 0 l0 gC.2;let jP:bJ:=cO 2 1 l1 gC.2;let jo:bJ:=cO 2 2 l2 gC.2;let kb:bZ:=some (Obj.var 34 (.bI dT (D.bI dL (D.bI (D.bI (D.vs 3 jy.length) (.bI (D.vs 4 jP.length) (.bI (D.vs 5 jo.length) dv))) eC))));let iI:b9:=[some (Obj.var 34 (.bI Z9 (D.bI (D.sl ca.cE true []) (.bI fz (D.bI (D.arr ca.int 3 (List.replicate 3 0)) dv)))))];let jx:=cX (pos+1);let iP:=Prod.fst (cU b pos 1);let jE:=Int.toNat iP-0;let jr:Rn×bJ:=Qx dE true jE 0 (Rn.mk jx.toNat true);let ki:bJ:=cO 2 0 l0 jr.2;let ke:bJ:=cO 2 1 l1 jr.2;let lx:bJ:=cO 2 2 l2 jr.2;let j4:kW:=some (dg,some (Obj.var 181 (.bI dq (D.bI (cq (jr.1.pos:Int)) (.bI (D.bool jr.1.short) dv))))::some (Obj.var 34 (.bI dT (D.bI dL (D.bI (D.bI (D.vs 3 ki.length) (.bI (D.vs 4 ke.length) (.bI (D.vs 5 lx.length) dv))) eC))))::eP::some (Obj.cj ca.bP true ki)::some (Obj.cj ca.bP true ke)::some (Obj.cj ca.bP true lx)::fM);let kj:=cX (jx+3);let jQ:=Prod.fst (cU b jx 3);let dY:Rn×bJ:=Qx dE true jE (jQ+0) (Rn.mk kj.toNat true);let kY:bZ:=some (Obj.var 181 (.bI dq (D.bI (cq (dY.1.pos:Int)) (.bI (D.bool dY.1.short) dv))));let lT:bJ:=cO 2 0 l0 dY.2;let lU:bJ:=cO 2 1 l1 dY.2;let nO:bJ:=cO 2 2 l2 dY.2;let nP:bZ:=some (Obj.var 34 (.bI dT (D.bI dL (D.bI (D.bI (D.vs 3 lT.length) (.bI (D.vs 4 lU.length) (.bI (D.vs 5 nO.length) dv))) eC))));let pi:kW:=some (dg,kY::nP::eP::some (Obj.cj ca.bP true lT)::some (Obj.cj ca.bP true lU)::some (Obj.cj ca.bP true nO)::fM);let lc:Rn×bJ:=Qx dE true 0 0 jO;let oU:bJ:=cO 2 0 l0 lc.2;let qH:bJ:=cO 2 1 l1 lc.2;let oV:bJ:=cO 2 2 l2 lc.2;let n6:bQ:=D.bI (D.arr ca.int 3 [c0,c1,gK]) dv;let oW:=cX (gf+3);let n7:=Prod.fst (cU b gf 3);let mY:Rn×bJ:=Qx dE true 0 (n7+0) (Rn.mk oW.toNat true);let kE:bZ:=some (Obj.var 181 (.bI dq (D.bI (cq (mY.1.pos:Int)) (.bI (D.bool mY.1.short) dv))));let oX:bJ:=cO 2 0 l0 mY.2;let pY:bJ:=cO 2 1 l1 mY.2;let qI:bJ:=cO 2 2 l2 mY.2;let sf:bZ:=some (Obj.var 34 (.bI dT (D.bI dL (D.bI (D.bI (D.vs 3 oX.length) (.bI (D.vs 4 pY.length) (.bI (D.vs 5 qI.length) dv))) n6))));let mn:=cX (gf+1);let mo:=Prod.fst (cU b gf 1);let wq:=Int.toNat mo-0;let pj:Rn×bJ:=Qx dE true wq 0 (Rn.mk mn.toNat true);let wx:bJ:=cO 2 0 l0 pj.2;let wy:bJ:=cO 2 1 l1 pj.2;let wz:bJ:=cO 2 2 l2 pj.2;let wA:kW:=some (dg,some (Obj.var 181 (.bI dq (D.bI (cq (pj.1.pos:Int)) (.bI (D.bool pj.1.short) dv))))::some (Obj.var 34 (.bI dT (D.bI dL (D.bI (D.bI (D.vs 3 wx.length) (.bI (D.vs 4 wy.length) (.bI (D.vs 5 wz.length) dv))) n6))))::eP::some (Obj.cj ca.bP true wx)::some (Obj.cj ca.bP true wy)::some (Obj.cj ca.bP true wz)::fM);let sg:=cX (mn+3);let qJ:=Prod.fst (cU b mn 3);let pk:Rn×bJ:=Qx dE true wq (qJ+0) (Rn.mk sg.toNat short);let wB:bZ:=some (Obj.var 181 (.bI dq (D.bI (cq (pk.1.pos:Int)) (.bI (D.bool pk.1.short) dv))));let sj:bJ:=cO 2 0 l0 pk.2;let sk:bJ:=cO 2 1 l1 pk.2;let sm:bJ:=cO 2 2 l2 pk.2;let wC:bZ:=some (Obj.var 34 (.bI dT (D.bI dL (D.bI (D.bI (D.vs 3 sj.length) (.bI (D.vs 4 sk.length) (.bI (D.vs 5 sm.length) dv))) n6))));let wD:kW:=some (dg,wB::wC::eP::some (Obj.cj ca.bP true sj)::some (Obj.cj ca.bP true sk)::some (Obj.cj ca.bP true sm)::fM);cb Z1 (bif Z2 then cb Z1 (bif Prod.snd (cU b pos 1)!=0 then cb Z1 (bif Z2 then cb (Z7&&decide ((0:Int)<=0/\(0:Int)<=255/\Z0<=1000000/\((0:Int)<=pos/\pos<=Z8)/\(Z4<=1000/\Z5<=1000/\Z6<=1000)/\((0:Int)<=2/\(2:Int)<=2)/\(0:Int)<=0/\(0:Int)<=16777215)) (some (dg,some (Obj.var 181 (.bI dq (D.bI (cq (dQ.1.pos:Int)) (.bI (D.bool dQ.1.short) dv))))::some (Obj.var 34 (.bI dT (D.bI dL (D.bI (D.bI (D.vs 3 eK.length) (.bI (D.vs 4 eo.length) (.bI (D.vs 5 eX.length) dv))) eC))))::eP::some (Obj.cj ca.bP true eK)::some (Obj.cj ca.bP true eo)::some (Obj.cj ca.bP true eX)::fM))else cb (Z7&&decide ((0:Int)<=0/\(0:Int)<=255/\Z0<=1000000/\((0:Int)<=gf/\gf<=Z8)/\(Z4<=1000/\Z5<=1000/\Z6<=1000)/\((0:Int)<=2/\(2:Int)<=2)/\(0:Int)<=gK/\gK<=16777215)) (bif gK !=0 then some (iW,jh::kb::eP::some (Obj.cj ca.bP true jy)::some (Obj.cj ca.bP true jP)::some (Obj.cj ca.bP true jo)::iI)else some (dg,jh::kb::eP::some (Obj.cj ca.bP true jy)::some (Obj.cj ca.bP true jP)::some (Obj.cj ca.bP true jo)::fM)))else cb Z1 (bif Prod.snd (cU b jx 3)!=0 then cb (Z7&&decide ((0:Int)<=iP/\iP<=255/\Z0<=1000000/\((0:Int)<=jx/\jx<=Z8)/\(Z4<=1000/\Z5<=1000/\Z6<=1000)/\((0:Int)<=2/\(2:Int)<=2)/\(0:Int)<=0/\(0:Int)<=16777215)) (bif iP==0 then j4 else j4)else cb (Z7&&decide ((0:Int)<=iP/\iP<=255/\Z0<=1000000/\((0:Int)<=kj/\kj<=Z8)/\(Z4<=1000/\Z5<=1000/\Z6<=1000)/\((0:Int)<=2/\(2:Int)<=2)/\(0:Int)<=jQ/\jQ<=16777215)) (bif iP==0 then bif jQ !=0 then some (iW,kY::nP::eP::some (Obj.cj ca.bP true lT)::some (Obj.cj ca.bP true lU)::some (Obj.cj ca.bP true nO)::iI)else pi else pi)))else cb Z1 (bif Prod.snd (cU b gf 1)!=0 then cb Z1 (bif Prod.snd (cU b gf 3)!=0 then cb (Z7&&decide ((0:Int)<=0/\(0:Int)<=255/\Z0<=1000000/\((0:Int)<=gf/\gf<=Z8)/\(Z4<=1000/\Z5<=1000/\Z6<=1000)/\((0:Int)<=2/\(2:Int)<=2)/\(0:Int)<=0/\(0:Int)<=16777215)) (some (dg,some (Obj.var 181 (.bI dq (D.bI (cq (lc.1.pos:Int)) (.bI (D.bool lc.1.short) dv))))::some (Obj.var 34 (.bI dT (D.bI dL (D.bI (D.bI (D.vs 3 oU.length) (.bI (D.vs 4 qH.length) (.bI (D.vs 5 oV.length) dv))) n6))))::eP::some (Obj.cj ca.bP true oU)::some (Obj.cj ca.bP true qH)::some (Obj.cj ca.bP true oV)::fM))else cb (Z7&&decide ((0:Int)<=0/\(0:Int)<=255/\Z0<=1000000/\((0:Int)<=oW/\oW<=Z8)/\(Z4<=1000/\Z5<=1000/\Z6<=1000)/\((0:Int)<=2/\(2:Int)<=2)/\(0:Int)<=n7/\n7<=16777215)) (bif n7 !=0 then some (iW,kE::sf::eP::some (Obj.cj ca.bP true oX)::some (Obj.cj ca.bP true pY)::some (Obj.cj ca.bP true qI)::iI)else some (dg,kE::sf::eP::some (Obj.cj ca.bP true oX)::some (Obj.cj ca.bP true pY)::some (Obj.cj ca.bP true qI)::fM)))else cb Z1 (bif Prod.snd (cU b mn 3)!=0 then cb (Z7&&decide ((0:Int)<=mo/\mo<=255/\Z0<=1000000/\((0:Int)<=mn/\mn<=Z8)/\(Z4<=1000/\Z5<=1000/\Z6<=1000)/\((0:Int)<=2/\(2:Int)<=2)/\(0:Int)<=0/\(0:Int)<=16777215)) (bif mo==0 then wA else wA)else cb (Z7&&decide ((0:Int)<=mo/\mo<=255/\Z0<=1000000/\((0:Int)<=sg/\sg<=Z8)/\(Z4<=1000/\Z5<=1000/\Z6<=1000)/\((0:Int)<=2/\(2:Int)<=2)/\(0:Int)<=qJ/\qJ<=16777215)) (bif mo==0 then bif qJ !=0 then some (iW,wB::wC::eP::some (Obj.cj ca.bP true sj)::some (Obj.cj ca.bP true sk)::some (Obj.cj ca.bP true sm)::iI)else wD else wD))))):=by kernel_rfl
theorem QCO(c:Bool)(b:bK)(pos:Int)(short:Bool)(pl:Int)(cQ:bM)(l0 l1 l2:bJ)(c0 c1 c2:Int)(zs:bY):we c b pos short pl cQ l0 l1 l2 c0 c1 c2 zs 3=(let Z0:bQ:=cq 0;let Z1:bQ:=.bN;let Z2:bQ:=D.sl ca.bP true [];some ((X.exit 2,[(3,Z0)]),[some (Obj.var 181 (.bI (D.sl ca.u8 c b) (.bI (cq pos) (.bI (D.bool short) Z1)))),some (Obj.var 34 (.bI (cq pl) (.bI (D.vs 2 cQ.length) (.bI (D.bI (D.vs 3 l0.length) (.bI (D.vs 4 l1.length) (.bI (D.vs 5 l2.length) Z1))) (.bI (D.arr ca.int 3 [c0,c1,c2]) Z1))))),some (Obj.cj ca.cE true cQ),some (Obj.cj ca.bP true l0),some (Obj.cj ca.bP true l1),some (Obj.cj ca.bP true l2),some (Obj.var 34 (.bI Z0 (D.bI (D.sl ca.cE true []) (.bI (D.bI Z2 (D.bI Z2 (D.bI Z2 Z1))) (.bI (D.arr ca.int 3 zs) Z1)))))])):=by kernel_rfl
def Kg(c:Bool)(b:bK)(pos:Int)(short:Bool)(pl:Int)(cQ:bM)(l0 l1 l2:bJ)(c0 c1 c2:Int)(zs:bY)(q:Nat):RT RC:=.br (runN b q ⟨⟨pos.toNat,short⟩,l0,l1,l2,c0,c1,c2⟩).1 (.leaf .ret [(3,.int .i64 50)] [.var 181 (cL .u8 c b (cG (runN b q ⟨⟨pos.toNat,short⟩,l0,l1,l2,c0,c1,c2⟩).2.r.pos (.bI (.bool (runN b q ⟨⟨pos.toNat,short⟩,l0,l1,l2,c0,c1,c2⟩).2.r.short) .bN))),.var 34 (cG pl (.bI (.vs 2 cQ.length) (.bI (.bI (.vs 3 (runN b q ⟨⟨pos.toNat,short⟩,l0,l1,l2,c0,c1,c2⟩).2.l0.length) (.bI (.vs 4 (runN b q ⟨⟨pos.toNat,short⟩,l0,l1,l2,c0,c1,c2⟩).2.l1.length) (.bI (.vs 5 (runN b q ⟨⟨pos.toNat,short⟩,l0,l1,l2,c0,c1,c2⟩).2.l2.length) .bN))) (.bI (.arr (C:=RC) .int 3 [(runN b q ⟨⟨pos.toNat,short⟩,l0,l1,l2,c0,c1,c2⟩).2.c0,(runN b q ⟨⟨pos.toNat,short⟩,l0,l1,l2,c0,c1,c2⟩).2.c1,(runN b q ⟨⟨pos.toNat,short⟩,l0,l1,l2,c0,c1,c2⟩).2.c2]) .bN)))),.cj (C:=RC) .cE true cQ,.cj (C:=RC) .bP true (runN b q ⟨⟨pos.toNat,short⟩,l0,l1,l2,c0,c1,c2⟩).2.l0,.cj (C:=RC) .bP true (runN b q ⟨⟨pos.toNat,short⟩,l0,l1,l2,c0,c1,c2⟩).2.l1,.cj (C:=RC) .bP true (runN b q ⟨⟨pos.toNat,short⟩,l0,l1,l2,c0,c1,c2⟩).2.l2,.var 34 (cG 0 (cL .cE true [] (.bI (cL .bP true [] (cL .bP true [] (cL .bP true [] .bN))) (.bI (.arr (C:=RC) .int 3 zs) .bN))))]) (.leaf (.exit 2) [(3,.int .i64 0)] [.var 181 (cL .u8 c b (cG (runN b q ⟨⟨pos.toNat,short⟩,l0,l1,l2,c0,c1,c2⟩).2.r.pos (.bI (.bool (runN b q ⟨⟨pos.toNat,short⟩,l0,l1,l2,c0,c1,c2⟩).2.r.short) .bN))),.var 34 (cG pl (.bI (.vs 2 cQ.length) (.bI (.bI (.vs 3 (runN b q ⟨⟨pos.toNat,short⟩,l0,l1,l2,c0,c1,c2⟩).2.l0.length) (.bI (.vs 4 (runN b q ⟨⟨pos.toNat,short⟩,l0,l1,l2,c0,c1,c2⟩).2.l1.length) (.bI (.vs 5 (runN b q ⟨⟨pos.toNat,short⟩,l0,l1,l2,c0,c1,c2⟩).2.l2.length) .bN))) (.bI (.arr (C:=RC) .int 3 [(runN b q ⟨⟨pos.toNat,short⟩,l0,l1,l2,c0,c1,c2⟩).2.c0,(runN b q ⟨⟨pos.toNat,short⟩,l0,l1,l2,c0,c1,c2⟩).2.c1,(runN b q ⟨⟨pos.toNat,short⟩,l0,l1,l2,c0,c1,c2⟩).2.c2]) .bN)))),.cj (C:=RC) .cE true cQ,.cj (C:=RC) .bP true (runN b q ⟨⟨pos.toNat,short⟩,l0,l1,l2,c0,c1,c2⟩).2.l0,.cj (C:=RC) .bP true (runN b q ⟨⟨pos.toNat,short⟩,l0,l1,l2,c0,c1,c2⟩).2.l1,.cj (C:=RC) .bP true (runN b q ⟨⟨pos.toNat,short⟩,l0,l1,l2,c0,c1,c2⟩).2.l2,.var 34 (cG 0 (cL .cE true [] (.bI (cL .bP true [] (cL .bP true [] (cL .bP true [] .bN))) (.bI (.arr (C:=RC) .int 3 zs) .bN))))])
def DD(c:Bool)(b:bK)(pos:Int)(short:Bool)(pl:Int)(cQ:bM)(l0 l1 l2:bJ)(c0 c1 c2:Int)(zs:bY)(q:Nat):Prop:=q<=3/\b.length<=1000000/\(0<=pos/\pos<=b.length)/\l0.length<=255*q/\l1.length<=255*q/\l2.length<=255*q/\zs=[0,0,0]
def VM:QK RC RU where
 k:=7
 cS q:=IV q.c q.b q.pos q.short q.pl q.cQ q.l0 q.l1 q.l2 q.c0 q.c1 q.c2 q.zs q.q
 cR q:=rQ q.c q.b q.pos q.short q.pl q.cQ q.l0 q.l1 q.l2 q.c0 q.c1 q.c2 q.zs q.q
 fin q:=Kg q.c q.b q.pos q.short q.pl q.cQ q.l0 q.l1 q.l2 q.c0 q.c1 q.c2 q.zs q.q
 Inv q:=DD q.c q.b q.pos q.short q.pl q.cQ q.l0 q.l1 q.l2 q.c0 q.c1 q.c2 q.zs q.q
 μ q:=3-q.q
theorem QCP(c:Bool)(b:bK)(pos:Int)(short:Bool)(pl:Int)(cQ:bM)(l0 l1 l2:bJ)(c0 c1 c2:Int)(h2:b.length<=1000000)(h3:0<=pos/\pos<=b.length)(h4:l0.length<=255*0)(h5:l1.length<=255*0)(h6:l2.length<=255*0):dw (we c b pos short pl cQ l0 l1 l2 c0 c1 c2 [0,0,0] 0) (dF VM ⟨c,b,pos,short,pl,cQ,l0,l1,l2,c0,c1,c2,[0,0,0],0⟩):=by
 have pp:((pos.toNat:Nat):Int)=pos:=by omega
 have gM:¬(0:Int)=1:=by omega
 have gN:¬(0:Int)=2:=by omega
 have gO:¬(1:Int)=0:=by omega
 have gP:¬(1:Int)=2:=by omega
 have gQ:¬(2:Int)=0:=by omega
 have gR:¬(2:Int)=1:=by omega
 have e0:decide (b.length<=1000000000000)=true:=ab (by omega);have wv:∀x:Int,0<=x->x<=20000000->IntKind.i64.wrap x=x:=fun x _ _=>cu (by omega) (by omega);have oR:(pos+1).toNat=pos.toNat+1:=by omega
 have pT:(pos+3).toNat=pos.toNat+3:=by omega
 have nY:(pos+4).toNat=pos.toNat+4:=by omega
 have xf:(pos+2).toNat=pos.toNat+2:=by omega
 have xg:(pos+5).toNat=pos.toNat+5:=by omega
 have so:pos+1+3=pos+4:=by omega
 have sq:pos+3+1=pos+4:=by omega
 have sr:pos+4+1=pos+5:=by omega
 have sn:pos+1+1=pos+2:=by omega
 have FR:(pos+7).toNat=pos.toNat+7:=by omega
 have tn6:(pos+6).toNat=pos.toNat+6:=by omega
 have Ef:pos+4+3=pos+7:=by omega
 have Ee:pos+3+3=pos+6:=by omega
 have pb:=JN (b:=b) (s:=⟨pos.toNat,short⟩) (by simp only;omega);have pn:=YR b ⟨pos.toNat,short⟩
 have eM:∀(r':Rn) (cut:Int) (L:bJ),Yb b ⟨pos.toNat,short⟩=(false,r',cut,L)->dw (some ((X.normal,[(4,.ptr 0 []),(5,.ptr 1 []),(11,.int .i64 1),(2,.ptr 6 []),(3,.int .i64 0)]),[some (.var 181 (cL .u8 c b (cG r'.pos (.bI (.bool r'.short) .bN)))),some (.var 34 (cG pl (.bI (.vs 2 cQ.length) (.bI (.bI (.vs 3 (l0++L).length) (.bI (.vs 4 l1.length) (.bI (.vs 5 l2.length) .bN))) (.bI (.arr (C:=RC) .int 3 [cut,c1,c2]) .bN))))),some (.cj (C:=RC) .cE true cQ),some (.cj (C:=RC) .bP true (l0++L)),some (.cj (C:=RC) .bP true l1),some (.cj (C:=RC) .bP true l2),some (.var 34 (cG 0 (cL .cE true [] (.bI (cL .bP true [] (cL .bP true [] (cL .bP true [] .bN))) (.bI (.arr (C:=RC) .int 3 [0,0,0]) .bN)))))])) (dF VM ⟨c,b,pos,short,pl,cQ,l0,l1,l2,c0,c1,c2,[0,0,0],0⟩):=by
  intro r' cut L hP;rw[hP]at pb pn;simp only at pb pn
  have ez:runN b 1 ⟨⟨r'.pos,r'.short⟩,l0++L,l1,l2,cut,c1,c2⟩=runN b 0 ⟨⟨pos.toNat,short⟩,l0,l1,l2,c0,c1,c2⟩:=by
   simp only[runN,ur,hP,ah]
  refine Qg ⟨c,b,r'.pos,r'.short,pl,cQ,l0++L,l1,l2,cut,c1,c2,[0,0,0],1⟩ ?_ (by simp only[VM];omega) ?_ rfl rfl
  ·refine⟨by simp,h2,?_,?_,?_,?_,rfl⟩<;>simp<;>omega
  ·simp only[VM,Kg,bw,ez]
 have nT:∀(r':Rn) (cut:Int) (L:bJ),Yb b ⟨pos.toNat,short⟩=(true,r',cut,L)->dw (some ((X.ret,[(3,.int .i64 50)]),[some (.var 181 (cL .u8 c b (cG r'.pos (.bI (.bool r'.short) .bN)))),some (.var 34 (cG pl (.bI (.vs 2 cQ.length) (.bI (.bI (.vs 3 (l0++L).length) (.bI (.vs 4 l1.length) (.bI (.vs 5 l2.length) .bN))) (.bI (.arr (C:=RC) .int 3 [cut,c1,c2]) .bN))))),some (.cj (C:=RC) .cE true cQ),some (.cj (C:=RC) .bP true (l0++L)),some (.cj (C:=RC) .bP true l1),some (.cj (C:=RC) .bP true l2),some (.var 34 (cG 0 (cL .cE true [] (.bI (cL .bP true [] (cL .bP true [] (cL .bP true [] .bN))) (.bI (.arr (C:=RC) .int 3 [0,0,0]) .bN)))))])) (dF VM ⟨c,b,pos,short,pl,cQ,l0,l1,l2,c0,c1,c2,[0,0,0],0⟩):=by
  intro r' cut L hP
  have ez:runN b 0 ⟨⟨pos.toNat,short⟩,l0,l1,l2,c0,c1,c2⟩=(true,⟨⟨r'.pos,r'.short⟩,l0++L,l1,l2,cut,c1,c2⟩):=by
   simp only[runN,ur,hP,ag]
  exact QT (rQ c b r'.pos r'.short pl cQ (l0++L) l1 l2 cut c1 c2 [0,0,0] 0) (by simp only[VM,Kg,ez,RT.val,ag,rQ]) rfl
 (rw[QCL];delta cb cq cX;conv=>zeta)
 simp only[e0,ag];simp(disch:=omega) only[wv,so,sq,sr,sn,Ef,Ee,Vr,Vs]
 by_cases iA:(b.length:Int)<pos+3
 ·have dt:c9 b 3 ⟨pos.toNat,short⟩=_:=QC (by omega);simp only[iA,aM,ag]
  by_cases iN:(b.length:Int)<pos+1
  ·have eJ:c9 b 1 ⟨pos.toNat,true⟩=_:=QC (by omega);simp only[iN,aM,ag];have oe:(b.length:Int)<pos+3:=by omega
   have jb:c9 b 3 ⟨pos.toNat,true⟩=_:=QC (by omega);have hP:=Zy dt eJ jb;simp(disch:=omega) only[ab,au,ag,cO,aU,aL,gM,gN,gO,gP,gQ,gR,Nat.sub_zero,Int.add_zero];exact eM _ _ _ (by rw[hP];rfl)
  ·have eJ:c9 b 1 ⟨pos.toNat,true⟩=_:=QR (by omega);have jG:=QX (show 0<=pos by omega) (show ¬(b.length:Int)<pos+1 by omega);simp only[iN,aW,ah,jG]
   by_cases iB:(b.length:Int)<pos+4
   ·have ew:c9 b 3 ⟨pos.toNat+1,true⟩=_:=QC (by omega);simp only[iB,aM,ag];have hP:=Zy dt eJ ew;have nu:=Q0 (b.drop (pos.toNat)) 1;simp only[Nat.reducePow]at nu;simp(disch:=omega) only[ab,au,ag,cO,aU,aL,gM,gN,gO,gP,gQ,gR,Nat.sub_zero,Int.add_zero,oR];cases hz:((cf ((b.drop (pos.toNat)).take 1):Int)==0)
    ·simp only[ah];exact eM _ _ _ (by rw[hP,hz];rfl)
    ·simp only[ag];exact eM _ _ _ (by rw[hP,hz];rfl)
   ·have ew:c9 b 3 ⟨pos.toNat+1,true⟩=_:=QR (by omega);rw[show pos.toNat+1+3=pos.toNat+4 by omega]at ew;have fR:=ZC (show 0<=pos+1 by omega) (show ¬(b.length:Int)<pos+1+3 by omega);rw[oR]at fR;simp only[iB,aW,ah,fR];have hP:=Zy dt eJ ew;have nu:=Q0 (b.drop (pos.toNat)) 1;simp only[Nat.reducePow]at nu;have tj:=Q0 (b.drop (pos.toNat+1)) 3;simp only[Nat.reducePow]at tj;simp(disch:=omega) only[ab,au,ag,cO,aU,aL,gM,gN,gO,gP,gQ,gR,Nat.sub_zero,Int.add_zero,nY];cases hz:((cf ((b.drop (pos.toNat)).take 1):Int)==0)
    ·simp only[ah];exact eM _ _ _ (by rw[hP,hz];rfl)
    ·simp only[ag];cases hf:((cf ((b.drop (pos.toNat+1)).take 3):Int)!=0)
     ·simp only[ah];exact eM _ _ _ (by rw[hP,hz,hf];rfl)
     ·simp only[ag];exact nT _ _ _ (by rw[hP,hz,hf];rfl)
 ·have dt:c9 b 3 ⟨pos.toNat,short⟩=_:=QR (by omega);have iX:=ZC (show 0<=pos by omega) (show ¬(b.length:Int)<pos+3 by omega);simp only[iA,aW,ah,iX]
  by_cases jl:(b.length:Int)<pos+4
  ·have et:c9 b 1 ⟨pos.toNat+3,short⟩=_:=QC (by omega);simp only[jl,aM,ag];have mB:(b.length:Int)<pos+6:=by omega
   have jM:c9 b 3 ⟨pos.toNat+3,true⟩=_:=QC (by omega);simp only[mB,aM,ag];have hP:=Zy dt et jM;simp(disch:=omega) only[ab,au,ag,cO,aU,aL,gM,gN,gO,gP,gQ,gR,Nat.sub_zero,Int.add_zero,pT];exact eM _ _ _ (by rw[hP];rfl)
  ·have et:c9 b 1 ⟨pos.toNat+3,short⟩=_:=QR (by omega);rw[show pos.toNat+3+1=pos.toNat+4 by omega]at et;have gL:=QX (show 0<=pos+3 by omega) (show ¬(b.length:Int)<pos+3+1 by omega);rw[pT]at gL;simp only[jl,aW,ah,gL]
   by_cases iC:(b.length:Int)<pos+7
   ·have ey:c9 b 3 ⟨pos.toNat+4,short⟩=_:=QC (by omega);simp only[iC,aM,ag];have hP:=Zy dt et ey;have nu:=Q0 (b.drop (pos.toNat+3)) 1;simp only[Nat.reducePow]at nu;simp(disch:=omega) only[ab,au,ag,cO,aU,aL,gM,gN,gO,gP,gQ,gR,Nat.sub_zero,Int.add_zero,nY];cases hz:((cf ((b.drop (pos.toNat+3)).take 1):Int)==0)
    ·simp only[ah];exact eM _ _ _ (by rw[hP,hz];rfl)
    ·simp only[ag];exact eM _ _ _ (by rw[hP,hz];rfl)
   ·have ey:c9 b 3 ⟨pos.toNat+4,short⟩=_:=QR (by omega);rw[show pos.toNat+4+3=pos.toNat+7 by omega]at ey;have fS:=ZC (show 0<=pos+4 by omega) (show ¬(b.length:Int)<pos+4+3 by omega);rw[nY]at fS;simp only[iC,aW,ah,fS];have hP:=Zy dt et ey;have nu:=Q0 (b.drop (pos.toNat+3)) 1;simp only[Nat.reducePow]at nu;have tj:=Q0 (b.drop (pos.toNat+4)) 3;simp only[Nat.reducePow]at tj;simp(disch:=omega) only[ab,au,ag,cO,aU,aL,gM,gN,gO,gP,gQ,gR,Nat.sub_zero,Int.add_zero,FR];cases hz:((cf ((b.drop (pos.toNat+3)).take 1):Int)==0)
    ·simp only[ah];exact eM _ _ _ (by rw[hP,hz];rfl)
    ·simp only[ag];cases hf:((cf ((b.drop (pos.toNat+4)).take 3):Int)!=0)
     ·simp only[ah];exact eM _ _ _ (by rw[hP,hz,hf];rfl)
     ·simp only[ag];exact nT _ _ _ (by rw[hP,hz,hf];rfl)
theorem QCQ(c:Bool)(b:bK)(pos:Int)(short:Bool)(pl:Int)(cQ:bM)(l0 l1 l2:bJ)(c0 c1 c2:Int)(h2:b.length<=1000000)(h3:0<=pos/\pos<=b.length)(h4:l0.length<=255*1)(h5:l1.length<=255*1)(h6:l2.length<=255*1):dw (we c b pos short pl cQ l0 l1 l2 c0 c1 c2 [0,0,0] 1) (dF VM ⟨c,b,pos,short,pl,cQ,l0,l1,l2,c0,c1,c2,[0,0,0],1⟩):=by
 have pp:((pos.toNat:Nat):Int)=pos:=by omega
 have gM:¬(0:Int)=1:=by omega
 have gN:¬(0:Int)=2:=by omega
 have gO:¬(1:Int)=0:=by omega
 have gP:¬(1:Int)=2:=by omega
 have gQ:¬(2:Int)=0:=by omega
 have gR:¬(2:Int)=1:=by omega
 have e0:decide (b.length<=1000000000000)=true:=ab (by omega);have wv:∀x:Int,0<=x->x<=20000000->IntKind.i64.wrap x=x:=fun x _ _=>cu (by omega) (by omega);have oR:(pos+1).toNat=pos.toNat+1:=by omega
 have pT:(pos+3).toNat=pos.toNat+3:=by omega
 have nY:(pos+4).toNat=pos.toNat+4:=by omega
 have xf:(pos+2).toNat=pos.toNat+2:=by omega
 have xg:(pos+5).toNat=pos.toNat+5:=by omega
 have so:pos+1+3=pos+4:=by omega
 have sq:pos+3+1=pos+4:=by omega
 have sr:pos+4+1=pos+5:=by omega
 have sn:pos+1+1=pos+2:=by omega
 have FR:(pos+7).toNat=pos.toNat+7:=by omega
 have tn6:(pos+6).toNat=pos.toNat+6:=by omega
 have Ef:pos+4+3=pos+7:=by omega
 have Ee:pos+3+3=pos+6:=by omega
 have pb:=JN (b:=b) (s:=⟨pos.toNat,short⟩) (by simp only;omega);have pn:=YR b ⟨pos.toNat,short⟩
 have eM:∀(r':Rn) (cut:Int) (L:bJ),Yb b ⟨pos.toNat,short⟩=(false,r',cut,L)->dw (some ((X.normal,[(4,.ptr 0 []),(5,.ptr 1 []),(11,.int .i64 2),(2,.ptr 6 []),(3,.int .i64 0)]),[some (.var 181 (cL .u8 c b (cG r'.pos (.bI (.bool r'.short) .bN)))),some (.var 34 (cG pl (.bI (.vs 2 cQ.length) (.bI (.bI (.vs 3 l0.length) (.bI (.vs 4 (l1++L).length) (.bI (.vs 5 l2.length) .bN))) (.bI (.arr (C:=RC) .int 3 [c0,cut,c2]) .bN))))),some (.cj (C:=RC) .cE true cQ),some (.cj (C:=RC) .bP true l0),some (.cj (C:=RC) .bP true (l1++L)),some (.cj (C:=RC) .bP true l2),some (.var 34 (cG 0 (cL .cE true [] (.bI (cL .bP true [] (cL .bP true [] (cL .bP true [] .bN))) (.bI (.arr (C:=RC) .int 3 [0,0,0]) .bN)))))])) (dF VM ⟨c,b,pos,short,pl,cQ,l0,l1,l2,c0,c1,c2,[0,0,0],1⟩):=by
  intro r' cut L hP;rw[hP]at pb pn;simp only at pb pn
  have ez:runN b 2 ⟨⟨r'.pos,r'.short⟩,l0,l1++L,l2,c0,cut,c2⟩=runN b 1 ⟨⟨pos.toNat,short⟩,l0,l1,l2,c0,c1,c2⟩:=by
   simp only[runN,tS,hP,ah]
  refine Qg ⟨c,b,r'.pos,r'.short,pl,cQ,l0,l1++L,l2,c0,cut,c2,[0,0,0],2⟩ ?_ (by simp only[VM];omega) ?_ rfl rfl
  ·refine⟨by simp,h2,?_,?_,?_,?_,rfl⟩<;>simp<;>omega
  ·simp only[VM,Kg,bw,ez]
 have nT:∀(r':Rn) (cut:Int) (L:bJ),Yb b ⟨pos.toNat,short⟩=(true,r',cut,L)->dw (some ((X.ret,[(3,.int .i64 50)]),[some (.var 181 (cL .u8 c b (cG r'.pos (.bI (.bool r'.short) .bN)))),some (.var 34 (cG pl (.bI (.vs 2 cQ.length) (.bI (.bI (.vs 3 l0.length) (.bI (.vs 4 (l1++L).length) (.bI (.vs 5 l2.length) .bN))) (.bI (.arr (C:=RC) .int 3 [c0,cut,c2]) .bN))))),some (.cj (C:=RC) .cE true cQ),some (.cj (C:=RC) .bP true l0),some (.cj (C:=RC) .bP true (l1++L)),some (.cj (C:=RC) .bP true l2),some (.var 34 (cG 0 (cL .cE true [] (.bI (cL .bP true [] (cL .bP true [] (cL .bP true [] .bN))) (.bI (.arr (C:=RC) .int 3 [0,0,0]) .bN)))))])) (dF VM ⟨c,b,pos,short,pl,cQ,l0,l1,l2,c0,c1,c2,[0,0,0],1⟩):=by
  intro r' cut L hP
  have ez:runN b 1 ⟨⟨pos.toNat,short⟩,l0,l1,l2,c0,c1,c2⟩=(true,⟨⟨r'.pos,r'.short⟩,l0,l1++L,l2,c0,cut,c2⟩):=by
   simp only[runN,tS,hP,ag]
  exact QT (rQ c b r'.pos r'.short pl cQ l0 (l1++L) l2 c0 cut c2 [0,0,0] 0) (by simp only[VM,Kg,ez,RT.val,ag,rQ]) rfl
 (rw[QCM];delta cb cq cX;conv=>zeta)
 simp only[e0,ag];simp(disch:=omega) only[wv,so,sq,sr,sn,Ef,Ee,Vr,Vs]
 by_cases iA:(b.length:Int)<pos+3
 ·have dt:c9 b 3 ⟨pos.toNat,short⟩=_:=QC (by omega);simp only[iA,aM,ag]
  by_cases iN:(b.length:Int)<pos+1
  ·have eJ:c9 b 1 ⟨pos.toNat,true⟩=_:=QC (by omega);simp only[iN,aM,ag];have oe:(b.length:Int)<pos+3:=by omega
   have jb:c9 b 3 ⟨pos.toNat,true⟩=_:=QC (by omega);have hP:=Zy dt eJ jb;simp(disch:=omega) only[ab,au,ag,cO,aU,aL,gM,gN,gO,gP,gQ,gR,Nat.sub_zero,Int.add_zero];exact eM _ _ _ (by rw[hP];rfl)
  ·have eJ:c9 b 1 ⟨pos.toNat,true⟩=_:=QR (by omega);have jG:=QX (show 0<=pos by omega) (show ¬(b.length:Int)<pos+1 by omega);simp only[iN,aW,ah,jG]
   by_cases iB:(b.length:Int)<pos+4
   ·have ew:c9 b 3 ⟨pos.toNat+1,true⟩=_:=QC (by omega);simp only[iB,aM,ag];have hP:=Zy dt eJ ew;have nu:=Q0 (b.drop (pos.toNat)) 1;simp only[Nat.reducePow]at nu;simp(disch:=omega) only[ab,au,ag,cO,aU,aL,gM,gN,gO,gP,gQ,gR,Nat.sub_zero,Int.add_zero,oR];cases hz:((cf ((b.drop (pos.toNat)).take 1):Int)==0)
    ·simp only[ah];exact eM _ _ _ (by rw[hP,hz];rfl)
    ·simp only[ag];exact eM _ _ _ (by rw[hP,hz];rfl)
   ·have ew:c9 b 3 ⟨pos.toNat+1,true⟩=_:=QR (by omega);rw[show pos.toNat+1+3=pos.toNat+4 by omega]at ew;have fR:=ZC (show 0<=pos+1 by omega) (show ¬(b.length:Int)<pos+1+3 by omega);rw[oR]at fR;simp only[iB,aW,ah,fR];have hP:=Zy dt eJ ew;have nu:=Q0 (b.drop (pos.toNat)) 1;simp only[Nat.reducePow]at nu;have tj:=Q0 (b.drop (pos.toNat+1)) 3;simp only[Nat.reducePow]at tj;simp(disch:=omega) only[ab,au,ag,cO,aU,aL,gM,gN,gO,gP,gQ,gR,Nat.sub_zero,Int.add_zero,nY];cases hz:((cf ((b.drop (pos.toNat)).take 1):Int)==0)
    ·simp only[ah];exact eM _ _ _ (by rw[hP,hz];rfl)
    ·simp only[ag];cases hf:((cf ((b.drop (pos.toNat+1)).take 3):Int)!=0)
     ·simp only[ah];exact eM _ _ _ (by rw[hP,hz,hf];rfl)
     ·simp only[ag];exact nT _ _ _ (by rw[hP,hz,hf];rfl)
 ·have dt:c9 b 3 ⟨pos.toNat,short⟩=_:=QR (by omega);have iX:=ZC (show 0<=pos by omega) (show ¬(b.length:Int)<pos+3 by omega);simp only[iA,aW,ah,iX]
  by_cases jl:(b.length:Int)<pos+4
  ·have et:c9 b 1 ⟨pos.toNat+3,short⟩=_:=QC (by omega);simp only[jl,aM,ag];have mB:(b.length:Int)<pos+6:=by omega
   have jM:c9 b 3 ⟨pos.toNat+3,true⟩=_:=QC (by omega);simp only[mB,aM,ag];have hP:=Zy dt et jM;simp(disch:=omega) only[ab,au,ag,cO,aU,aL,gM,gN,gO,gP,gQ,gR,Nat.sub_zero,Int.add_zero,pT];exact eM _ _ _ (by rw[hP];rfl)
  ·have et:c9 b 1 ⟨pos.toNat+3,short⟩=_:=QR (by omega);rw[show pos.toNat+3+1=pos.toNat+4 by omega]at et;have gL:=QX (show 0<=pos+3 by omega) (show ¬(b.length:Int)<pos+3+1 by omega);rw[pT]at gL;simp only[jl,aW,ah,gL]
   by_cases iC:(b.length:Int)<pos+7
   ·have ey:c9 b 3 ⟨pos.toNat+4,short⟩=_:=QC (by omega);simp only[iC,aM,ag];have hP:=Zy dt et ey;have nu:=Q0 (b.drop (pos.toNat+3)) 1;simp only[Nat.reducePow]at nu;simp(disch:=omega) only[ab,au,ag,cO,aU,aL,gM,gN,gO,gP,gQ,gR,Nat.sub_zero,Int.add_zero,nY];cases hz:((cf ((b.drop (pos.toNat+3)).take 1):Int)==0)
    ·simp only[ah];exact eM _ _ _ (by rw[hP,hz];rfl)
    ·simp only[ag];exact eM _ _ _ (by rw[hP,hz];rfl)
   ·have ey:c9 b 3 ⟨pos.toNat+4,short⟩=_:=QR (by omega);rw[show pos.toNat+4+3=pos.toNat+7 by omega]at ey;have fS:=ZC (show 0<=pos+4 by omega) (show ¬(b.length:Int)<pos+4+3 by omega);rw[nY]at fS;simp only[iC,aW,ah,fS];have hP:=Zy dt et ey;have nu:=Q0 (b.drop (pos.toNat+3)) 1;simp only[Nat.reducePow]at nu;have tj:=Q0 (b.drop (pos.toNat+4)) 3;simp only[Nat.reducePow]at tj;simp(disch:=omega) only[ab,au,ag,cO,aU,aL,gM,gN,gO,gP,gQ,gR,Nat.sub_zero,Int.add_zero,FR];cases hz:((cf ((b.drop (pos.toNat+3)).take 1):Int)==0)
    ·simp only[ah];exact eM _ _ _ (by rw[hP,hz];rfl)
    ·simp only[ag];cases hf:((cf ((b.drop (pos.toNat+4)).take 3):Int)!=0)
     ·simp only[ah];exact eM _ _ _ (by rw[hP,hz,hf];rfl)
     ·simp only[ag];exact nT _ _ _ (by rw[hP,hz,hf];rfl)
theorem QCR(c:Bool)(b:bK)(pos:Int)(short:Bool)(pl:Int)(cQ:bM)(l0 l1 l2:bJ)(c0 c1 c2:Int)(h2:b.length<=1000000)(h3:0<=pos/\pos<=b.length)(h4:l0.length<=255*2)(h5:l1.length<=255*2)(h6:l2.length<=255*2):dw (we c b pos short pl cQ l0 l1 l2 c0 c1 c2 [0,0,0] 2) (dF VM ⟨c,b,pos,short,pl,cQ,l0,l1,l2,c0,c1,c2,[0,0,0],2⟩):=by
 have pp:((pos.toNat:Nat):Int)=pos:=by omega
 have gM:¬(0:Int)=1:=by omega
 have gN:¬(0:Int)=2:=by omega
 have gO:¬(1:Int)=0:=by omega
 have gP:¬(1:Int)=2:=by omega
 have gQ:¬(2:Int)=0:=by omega
 have gR:¬(2:Int)=1:=by omega
 have e0:decide (b.length<=1000000000000)=true:=ab (by omega);have wv:∀x:Int,0<=x->x<=20000000->IntKind.i64.wrap x=x:=fun x _ _=>cu (by omega) (by omega);have oR:(pos+1).toNat=pos.toNat+1:=by omega
 have pT:(pos+3).toNat=pos.toNat+3:=by omega
 have nY:(pos+4).toNat=pos.toNat+4:=by omega
 have xf:(pos+2).toNat=pos.toNat+2:=by omega
 have xg:(pos+5).toNat=pos.toNat+5:=by omega
 have so:pos+1+3=pos+4:=by omega
 have sq:pos+3+1=pos+4:=by omega
 have sr:pos+4+1=pos+5:=by omega
 have sn:pos+1+1=pos+2:=by omega
 have FR:(pos+7).toNat=pos.toNat+7:=by omega
 have tn6:(pos+6).toNat=pos.toNat+6:=by omega
 have Ef:pos+4+3=pos+7:=by omega
 have Ee:pos+3+3=pos+6:=by omega
 have pb:=JN (b:=b) (s:=⟨pos.toNat,short⟩) (by simp only;omega);have pn:=YR b ⟨pos.toNat,short⟩
 have eM:∀(r':Rn) (cut:Int) (L:bJ),Yb b ⟨pos.toNat,short⟩=(false,r',cut,L)->dw (some ((X.normal,[(4,.ptr 0 []),(5,.ptr 1 []),(11,.int .i64 3),(2,.ptr 6 []),(3,.int .i64 0)]),[some (.var 181 (cL .u8 c b (cG r'.pos (.bI (.bool r'.short) .bN)))),some (.var 34 (cG pl (.bI (.vs 2 cQ.length) (.bI (.bI (.vs 3 l0.length) (.bI (.vs 4 l1.length) (.bI (.vs 5 (l2++L).length) .bN))) (.bI (.arr (C:=RC) .int 3 [c0,c1,cut]) .bN))))),some (.cj (C:=RC) .cE true cQ),some (.cj (C:=RC) .bP true l0),some (.cj (C:=RC) .bP true l1),some (.cj (C:=RC) .bP true (l2++L)),some (.var 34 (cG 0 (cL .cE true [] (.bI (cL .bP true [] (cL .bP true [] (cL .bP true [] .bN))) (.bI (.arr (C:=RC) .int 3 [0,0,0]) .bN)))))])) (dF VM ⟨c,b,pos,short,pl,cQ,l0,l1,l2,c0,c1,c2,[0,0,0],2⟩):=by
  intro r' cut L hP;rw[hP]at pb pn;simp only at pb pn
  have ez:runN b 3 ⟨⟨r'.pos,r'.short⟩,l0,l1,l2++L,c0,c1,cut⟩=runN b 2 ⟨⟨pos.toNat,short⟩,l0,l1,l2,c0,c1,c2⟩:=by
   simp only[runN,xA,hP,ah]
  refine Qg ⟨c,b,r'.pos,r'.short,pl,cQ,l0,l1,l2++L,c0,c1,cut,[0,0,0],3⟩ ?_ (by simp only[VM];omega) ?_ rfl rfl
  ·refine⟨by simp,h2,?_,?_,?_,?_,rfl⟩<;>simp<;>omega
  ·simp only[VM,Kg,bw,ez]
 have nT:∀(r':Rn) (cut:Int) (L:bJ),Yb b ⟨pos.toNat,short⟩=(true,r',cut,L)->dw (some ((X.ret,[(3,.int .i64 50)]),[some (.var 181 (cL .u8 c b (cG r'.pos (.bI (.bool r'.short) .bN)))),some (.var 34 (cG pl (.bI (.vs 2 cQ.length) (.bI (.bI (.vs 3 l0.length) (.bI (.vs 4 l1.length) (.bI (.vs 5 (l2++L).length) .bN))) (.bI (.arr (C:=RC) .int 3 [c0,c1,cut]) .bN))))),some (.cj (C:=RC) .cE true cQ),some (.cj (C:=RC) .bP true l0),some (.cj (C:=RC) .bP true l1),some (.cj (C:=RC) .bP true (l2++L)),some (.var 34 (cG 0 (cL .cE true [] (.bI (cL .bP true [] (cL .bP true [] (cL .bP true [] .bN))) (.bI (.arr (C:=RC) .int 3 [0,0,0]) .bN)))))])) (dF VM ⟨c,b,pos,short,pl,cQ,l0,l1,l2,c0,c1,c2,[0,0,0],2⟩):=by
  intro r' cut L hP
  have ez:runN b 2 ⟨⟨pos.toNat,short⟩,l0,l1,l2,c0,c1,c2⟩=(true,⟨⟨r'.pos,r'.short⟩,l0,l1,l2++L,c0,c1,cut⟩):=by
   simp only[runN,xA,hP,ag]
  exact QT (rQ c b r'.pos r'.short pl cQ l0 l1 (l2++L) c0 c1 cut [0,0,0] 0) (by simp only[VM,Kg,ez,RT.val,ag,rQ]) rfl
 (rw[QCN];delta cb cq cX;conv=>zeta)
 simp only[e0,ag];simp(disch:=omega) only[wv,so,sq,sr,sn,Ef,Ee,Vr,Vs]
 by_cases iA:(b.length:Int)<pos+3
 ·have dt:c9 b 3 ⟨pos.toNat,short⟩=_:=QC (by omega);simp only[iA,aM,ag]
  by_cases iN:(b.length:Int)<pos+1
  ·have eJ:c9 b 1 ⟨pos.toNat,true⟩=_:=QC (by omega);simp only[iN,aM,ag];have oe:(b.length:Int)<pos+3:=by omega
   have jb:c9 b 3 ⟨pos.toNat,true⟩=_:=QC (by omega);have hP:=Zy dt eJ jb;simp(disch:=omega) only[ab,au,ag,cO,aU,aL,gM,gN,gO,gP,gQ,gR,Nat.sub_zero,Int.add_zero];exact eM _ _ _ (by rw[hP];rfl)
  ·have eJ:c9 b 1 ⟨pos.toNat,true⟩=_:=QR (by omega);have jG:=QX (show 0<=pos by omega) (show ¬(b.length:Int)<pos+1 by omega);simp only[iN,aW,ah,jG]
   by_cases iB:(b.length:Int)<pos+4
   ·have ew:c9 b 3 ⟨pos.toNat+1,true⟩=_:=QC (by omega);simp only[iB,aM,ag];have hP:=Zy dt eJ ew;have nu:=Q0 (b.drop (pos.toNat)) 1;simp only[Nat.reducePow]at nu;simp(disch:=omega) only[ab,au,ag,cO,aU,aL,gM,gN,gO,gP,gQ,gR,Nat.sub_zero,Int.add_zero,oR];cases hz:((cf ((b.drop (pos.toNat)).take 1):Int)==0)
    ·simp only[ah];exact eM _ _ _ (by rw[hP,hz];rfl)
    ·simp only[ag];exact eM _ _ _ (by rw[hP,hz];rfl)
   ·have ew:c9 b 3 ⟨pos.toNat+1,true⟩=_:=QR (by omega);rw[show pos.toNat+1+3=pos.toNat+4 by omega]at ew;have fR:=ZC (show 0<=pos+1 by omega) (show ¬(b.length:Int)<pos+1+3 by omega);rw[oR]at fR;simp only[iB,aW,ah,fR];have hP:=Zy dt eJ ew;have nu:=Q0 (b.drop (pos.toNat)) 1;simp only[Nat.reducePow]at nu;have tj:=Q0 (b.drop (pos.toNat+1)) 3;simp only[Nat.reducePow]at tj;simp(disch:=omega) only[ab,au,ag,cO,aU,aL,gM,gN,gO,gP,gQ,gR,Nat.sub_zero,Int.add_zero,nY];cases hz:((cf ((b.drop (pos.toNat)).take 1):Int)==0)
    ·simp only[ah];exact eM _ _ _ (by rw[hP,hz];rfl)
    ·simp only[ag];cases hf:((cf ((b.drop (pos.toNat+1)).take 3):Int)!=0)
     ·simp only[ah];exact eM _ _ _ (by rw[hP,hz,hf];rfl)
     ·simp only[ag];exact nT _ _ _ (by rw[hP,hz,hf];rfl)
 ·have dt:c9 b 3 ⟨pos.toNat,short⟩=_:=QR (by omega);have iX:=ZC (show 0<=pos by omega) (show ¬(b.length:Int)<pos+3 by omega);simp only[iA,aW,ah,iX]
  by_cases jl:(b.length:Int)<pos+4
  ·have et:c9 b 1 ⟨pos.toNat+3,short⟩=_:=QC (by omega);simp only[jl,aM,ag];have mB:(b.length:Int)<pos+6:=by omega
   have jM:c9 b 3 ⟨pos.toNat+3,true⟩=_:=QC (by omega);simp only[mB,aM,ag];have hP:=Zy dt et jM;simp(disch:=omega) only[ab,au,ag,cO,aU,aL,gM,gN,gO,gP,gQ,gR,Nat.sub_zero,Int.add_zero,pT];exact eM _ _ _ (by rw[hP];rfl)
  ·have et:c9 b 1 ⟨pos.toNat+3,short⟩=_:=QR (by omega);rw[show pos.toNat+3+1=pos.toNat+4 by omega]at et;have gL:=QX (show 0<=pos+3 by omega) (show ¬(b.length:Int)<pos+3+1 by omega);rw[pT]at gL;simp only[jl,aW,ah,gL]
   by_cases iC:(b.length:Int)<pos+7
   ·have ey:c9 b 3 ⟨pos.toNat+4,short⟩=_:=QC (by omega);simp only[iC,aM,ag];have hP:=Zy dt et ey;have nu:=Q0 (b.drop (pos.toNat+3)) 1;simp only[Nat.reducePow]at nu;simp(disch:=omega) only[ab,au,ag,cO,aU,aL,gM,gN,gO,gP,gQ,gR,Nat.sub_zero,Int.add_zero,nY];cases hz:((cf ((b.drop (pos.toNat+3)).take 1):Int)==0)
    ·simp only[ah];exact eM _ _ _ (by rw[hP,hz];rfl)
    ·simp only[ag];exact eM _ _ _ (by rw[hP,hz];rfl)
   ·have ey:c9 b 3 ⟨pos.toNat+4,short⟩=_:=QR (by omega);rw[show pos.toNat+4+3=pos.toNat+7 by omega]at ey;have fS:=ZC (show 0<=pos+4 by omega) (show ¬(b.length:Int)<pos+4+3 by omega);rw[nY]at fS;simp only[iC,aW,ah,fS];have hP:=Zy dt et ey;have nu:=Q0 (b.drop (pos.toNat+3)) 1;simp only[Nat.reducePow]at nu;have tj:=Q0 (b.drop (pos.toNat+4)) 3;simp only[Nat.reducePow]at tj;simp(disch:=omega) only[ab,au,ag,cO,aU,aL,gM,gN,gO,gP,gQ,gR,Nat.sub_zero,Int.add_zero,FR];cases hz:((cf ((b.drop (pos.toNat+3)).take 1):Int)==0)
    ·simp only[ah];exact eM _ _ _ (by rw[hP,hz];rfl)
    ·simp only[ag];cases hf:((cf ((b.drop (pos.toNat+4)).take 3):Int)!=0)
     ·simp only[ah];exact eM _ _ _ (by rw[hP,hz,hf];rfl)
     ·simp only[ag];exact nT _ _ _ (by rw[hP,hz,hf];rfl)
theorem QsH c b pos short pl cQ l0 l1 l2 c0 c1 c2 zs q(hI:DD c b pos short pl cQ l0 l1 l2 c0 c1 c2 zs q):dw (we c b pos short pl cQ l0 l1 l2 c0 c1 c2 zs q) (dF VM ⟨c,b,pos,short,pl,cQ,l0,l1,l2,c0,c1,c2,zs,q⟩):=by
 unfold DD at hI;obtain⟨h1,h2,h3,h4,h5,h6,h7⟩:=hI;subst h7;have pp:((pos.toNat:Nat):Int)=pos:=by omega
 by_cases x3:q=3
 ·subst x3
  (rw[QCO];delta cq;conv=>zeta)
  exact Qi (rQ c b pos short pl cQ l0 l1 l2 c0 c1 c2 [0,0,0] 3) (by simp only[VM,Kg,rQ,runN,RT.val,ah,pp]) rfl
 by_cases x0:q=0
 ·subst x0;exact QCP c b pos short pl cQ l0 l1 l2 c0 c1 c2 h2 h3 h4 h5 h6
 by_cases x1:q=1
 ·subst x1;exact QCQ c b pos short pl cQ l0 l1 l2 c0 c1 c2 h2 h3 h4 h5 h6
 by_cases x2:q=2
 ·subst x2;exact QCR c b pos short pl cQ l0 l1 l2 c0 c1 c2 h2 h3 h4 h5 h6
 omega
def IW(env:bX)(os:bR):Option (Bool×RU):=match env,os with
 |[(4,.ptr 0 []),(5,.ptr 1 []),(11,.int .i64 x0),(2,.ptr 6 []),(3,.int .i64 x1)],[.var 181 (.bI (.sl .u8 c b) (.bI (.int .i64 pos) (.bI (.bool short) .bN))),.var 34 (.bI (.int .i64 pl) (.bI (.vs 2 x2) (.bI (.bI (.vs 3 x3) (.bI (.vs 4 x4) (.bI (.vs 5 x5) .bN))) (.bI (.arr .int 3 [c0,c1,c2]) .bN)))),.cj .cE true cQ,.cj .bP true l0,.cj .bP true l1,.cj .bP true l2,.var 34 (.bI (.int .i64 x6) (.bI (.sl .cE true []) (.bI (.bI (.sl .bP true []) (.bI (.sl .bP true []) (.bI (.sl .bP true []) .bN))) (.bI (.arr .int 3 zs) .bN))))]=>some (decide (x0=0)&&decide (x1=0)&&decide (x2=cQ.length)&&decide (x3=l0.length)&&decide (x4=l1.length)&&decide (x5=l2.length)&&decide (x6=0)&&decide (b.length<=1000000/\(0<=pos/\pos<=b.length)/\l0.length=0/\l1.length=0/\l2.length=0/\zs=[0,0,0]),⟨c,b,pos,short,pl,cQ,l0,l1,l2,c0,c1,c2,zs,0⟩)
 |_,_=>none
def Bi:=Bh.cP 96 13 (eZ cF [.slot 4 0,.slot 5 0,.path 1 [1],.path 1 [2,0],.path 1 [2,1],.path 1 [2,2],.slot 2 0] [4,5,11,2,3] VM IW)
theorem QsI:Qj Tryz.prog cF Bi:=by
 refine QsG.cJ Qb (by kernel_rfl) VM 60 [4,5,11,2,3] [3] [.slot 4 0,.slot 5 0,.path 1 [1],.path 1 [2,0],.path 1 [2,1],.path 1 [2,2],.slot 2 0] [4,5,11,2,3] IW (fun q hI=>?_) ?_
 ·obtain⟨c,b,pos,short,pl,cQ,l0,l1,l2,c0,c1,c2,zs,q⟩:=q;refine⟨?_,?_,QsH c b pos short pl cQ l0 l1 l2 c0 c1 c2 zs q hI⟩
  ·simp_all[Qk,VM,IV,rQ,DD,D.refs,Obj.refs,de]
  ·simp_all[VM,Kg,rQ,DD,RT.da,Qk,D.refs,Obj.refs,de]
 ·intro env os b q cW hb;unfold IW at cW
  split at cW
  ·cases cW;simp only[ai,aa]at hb;obtain⟨⟨⟨⟨⟨⟨⟨rfl,rfl⟩,rfl⟩,rfl⟩,rfl⟩,rfl⟩,rfl⟩,hq⟩:=hb;exact⟨⟨by simp,hq.1,hq.2.1,by simp[hq.2.2.1],by simp[hq.2.2.2.1],by simp[hq.2.2.2.2.1],hq.2.2.2.2.2⟩,rfl,rfl⟩
  ·cases cW
theorem F7{b:bK}{r r1 r2:Rn}{p n:Int}(h1:c9 b 3 r=(p,r1))(h2:c9 b 1 r1=(n,r2)) :
 Kw (gI b) true Jx r=((fj (gI b) true Jx 0 ⟨(QH (gI b) true n.toNat r2).1,[],[],[],0,0,0⟩).r,⟨p,(QH (gI b) true n.toNat r2).2,(fj (gI b) true Jx 0 ⟨(QH (gI b) true n.toNat r2).1,[],[],[],0,0,0⟩).l0,(fj (gI b) true Jx 0 ⟨(QH (gI b) true n.toNat r2).1,[],[],[],0,0,0⟩).l1,(fj (gI b) true Jx 0 ⟨(QH (gI b) true n.toNat r2).1,[],[],[],0,0,0⟩).l2,(fj (gI b) true Jx 0 ⟨(QH (gI b) true n.toNat r2).1,[],[],[],0,0,0⟩).c0,(fj (gI b) true Jx 0 ⟨(QH (gI b) true n.toNat r2).1,[],[],[],0,0,0⟩).c1,(fj (gI b) true Jx 0 ⟨(QH (gI b) true n.toNat r2).1,[],[],[],0,0,0⟩).c2⟩):=by
 have e1:(gI b).get 3 r=(p,r1):=h1;have e2:(gI b).get 1 r1=(n,r2):=h2;simp only[Kw,e1,e2,fj,Co,xG,wc,aH]
theorem Jk{b:bK}(r:Rn)(h:r.pos<=b.length):(runN b 0 ⟨r,[],[],[],0,0,0⟩).2.l0.length<=255/\(runN b 0 ⟨r,[],[],[],0,0,0⟩).2.l1.length<=255/\(runN b 0 ⟨r,[],[],[],0,0,0⟩).2.l2.length<=255/\(runN b 0 ⟨r,[],[],[],0,0,0⟩).2.r.pos<=b.length:=by
 have p0:=JN h;have p1:=JN p0;have p2:=JN p1;have z:([]:bJ).length<=255:=by simp
 simp only[runN,ur,tS,xA,aH];cases (Yb b r).1 with
 |true=>exact⟨YR _ _,z,z,p0⟩
 |false=>
  simp only[ah];cases (Yb b (Yb b r).2.1).1 with
  |true=>exact⟨YR _ _,YR _ _,z,p1⟩
  |false=>exact⟨YR _ _,YR _ _,YR _ _,p2⟩
open Go.Proofs
def Wh:bW->bO
 |[.sl .u8 c b]=>some (decide (b.length<=1000000),.cH (.bI (cG (dh (QA b)).b8 (cL .cE (QA b).isNone (dh (QA b)).bV (.bI (cL .bP (QA b).isNone (dh (QA b)).l0 (cL .bP (QA b).isNone (dh (QA b)).l1 (cL .bP (QA b).isNone (dh (QA b)).l2 .bN))) (.bI (.arr (C:=RC) .int 3 [(dh (QA b)).c0,(dh (QA b)).c1,(dh (QA b)).c2]) .bN)))) (cG (bif(QA b).isNone then 50 else 0) .bN)))
 |_=>none
def Qmx(c:Bool)(b:bK):=eU cF Bi 60 96 [.sl (C:=RC) .u8 c b]
theorem QsJ c b:Qmx c b=(let Z0:=b.length;let Z1:Bool:=decide (Z0<=1000000000000);let Z2:Int×Int:=cU b 0 3;let Z3:Int×Int:=cU b 0 1;let Z4:Int:=(Z0:Int);let Z5:Rn×bM:=QH (gI b) true 0 (Rn.mk 0 true);let Z6:bM:=[]++Z5.2;let Z7:=Z6.length;let Z8:Int:=(Z5.1.pos:Int);let Z9:=List.replicate 3 0;let dg:Bool×QS Rn:=runN b 0 (QS.mk (Rn.mk Z8.toNat Z5.1.short) [] [] [] 0 0 0);let dq:bQ:=D.int .i64 0;let dE:bQ:=D.sl ca.bP true [];let dQ:bQ:=.bN;let dv:fG:=some (D.cH (D.bI (D.bI dq (D.bI (D.sl ca.cE true []) (.bI (D.bI dE (D.bI dE (D.bI dE dQ))) (.bI (D.arr ca.int 3 Z9) dQ)))) (.bI (D.int .i64 50) dQ)));let dT:QS Rn:=dg.2;let dL:=List.length dT.l0;let eK:=List.length dT.l1;let eo:=List.length dT.l2;let eX:bQ:=D.bI dq dQ;let eC:fG:=none;let eP:Rn×bM:=QH (gI b) true (Int.toNat Z3.1-0) (Rn.mk 1 true);let fF:bM:=[]++eP.2;let fz:=fF.length;let fM:Int:=(eP.1.pos:Int);let gf:Bool×QS Rn:=runN b 0 (QS.mk (Rn.mk fM.toNat eP.1.short) [] [] [] 0 0 0);let gK:QS Rn:=gf.2;let iW:=List.length gK.l0;let jO:=List.length gK.l1;let gC:=List.length gK.l2;let jh:Rn×bM:=QH (gI b) true 0 (Rn.mk 3 true);let jy:bM:=[]++jh.2;let jP:=jy.length;let jo:Int:=(jh.1.pos:Int);let kb:Bool×QS Rn:=runN b 0 (QS.mk (Rn.mk jo.toNat jh.1.short) [] [] [] 0 0 0);let iI:QS Rn:=kb.2;let jx:=List.length iI.l0;let iP:=List.length iI.l1;let jE:=List.length iI.l2;let jr:bQ:=D.int .i64 Z2.1;let ki:=Prod.fst (cU b 3 1);let ke:Rn×bM:=QH (gI b) true (Int.toNat ki-0) (Rn.mk 4 false);let lx:bM:=[]++ke.2;let j4:=lx.length;let kj:Int:=(ke.1.pos:Int);let jQ:Bool×QS Rn:=runN b 0 (QS.mk (Rn.mk kj.toNat ke.1.short) [] [] [] 0 0 0);let dY:QS Rn:=jQ.2;let kY:=List.length dY.l0;let lT:=List.length dY.l1;let lU:=List.length dY.l2;bif Z1 then bif Z2.2 !=0then bif Z1 then bif Z3.2 !=0then bif decide ((0:Int)<=0/\(0:Int)<=255/\Z0<=1000000/\((0:Int)<=0/\(0:Int)<=Z4)/\(0:Nat)=0)then bif decide (Z7=Z7)&&true&&true&&true&&true&&decide (Z0<=1000000/\((0:Int)<=Z8/\Z8<=Z4)/\(0:Nat)=0/\(0:Nat)=0/\(0:Nat)=0/\Z9=[(0:Int),(0:Int),(0:Int)])then bif dg.1 then dv else bif Rn.short dT.r then dv else bif Qc Z0 then bif(dT.r.pos:Int)!=Z4 then dv else bif Nat.beq dL dL then bif Nat.beq eK eK then bif Nat.beq eo eo then bif decide (Z7<=9223372036854775807/\dL<=9223372036854775807/\eK<=9223372036854775807/\eo<=9223372036854775807)then bif !Qs (St.mk 0 Z6 dT.l0 dT.l1 dT.l2 dT.c0 dT.c1 dT.c2)then dv else some (D.cH (D.bI (D.bI dq (D.bI (D.sl ca.cE false Z6) (.bI (D.bI (D.sl ca.bP false dT.l0) (.bI (D.sl ca.bP false dT.l1) (.bI (D.sl ca.bP false dT.l2) dQ))) (.bI (D.arr ca.int 3 [QS.c0 dT,QS.c1 dT,QS.c2 dT]) dQ)))) eX))else eC else eC else eC else eC else eC else eC else eC else bif decide ((0:Int)<=Z3.1/\Z3.1<=255/\Z0<=1000000/\((0:Int)<=1/\(1:Int)<=Z4)/\(0:Nat)=0)then bif decide (fz=fz)&&true&&true&&true&&true&&decide (Z0<=1000000/\((0:Int)<=fM/\fM<=Z4)/\(0:Nat)=0/\(0:Nat)=0/\(0:Nat)=0/\Z9=[(0:Int),(0:Int),(0:Int)])then bif gf.1 then dv else bif Rn.short gK.r then dv else bif Qc Z0 then bif(gK.r.pos:Int)!=Z4 then dv else bif Nat.beq fz fz then bif Nat.beq iW iW then bif Nat.beq jO jO then bif Nat.beq gC gC then bif decide (fz<=9223372036854775807/\iW<=9223372036854775807/\jO<=9223372036854775807/\gC<=9223372036854775807)then bif !Qs (St.mk 0 fF gK.l0 gK.l1 gK.l2 gK.c0 gK.c1 gK.c2)then dv else some (D.cH (D.bI (D.bI dq (D.bI (D.sl ca.cE false fF) (.bI (D.bI (D.sl ca.bP false gK.l0) (.bI (D.sl ca.bP false gK.l1) (.bI (D.sl ca.bP false gK.l2) dQ))) (.bI (D.arr ca.int 3 [QS.c0 gK,QS.c1 gK,QS.c2 gK]) dQ)))) eX))else eC else eC else eC else eC else eC else eC else eC else eC else eC else bif Z1 then bif Prod.snd (cU b 3 1)!=0then bif decide ((0:Int)<=0/\(0:Int)<=255/\Z0<=1000000/\((0:Int)<=3/\(3:Int)<=Z4)/\(0:Nat)=0)then bif decide (jP=jP)&&true&&true&&true&&true&&decide (Z0<=1000000/\((0:Int)<=jo/\jo<=Z4)/\(0:Nat)=0/\(0:Nat)=0/\(0:Nat)=0/\Z9=[(0:Int),(0:Int),(0:Int)])then bif kb.1 then dv else bif Rn.short iI.r then dv else bif Qc Z0 then bif(iI.r.pos:Int)!=Z4 then dv else bif Nat.beq jx jx then bif Nat.beq iP iP then bif Nat.beq jE jE then bif decide (jP<=9223372036854775807/\jx<=9223372036854775807/\iP<=9223372036854775807/\jE<=9223372036854775807)then bif !Qs (St.mk Z2.1 jy iI.l0 iI.l1 iI.l2 iI.c0 iI.c1 iI.c2)then dv else some (D.cH (D.bI (D.bI jr (D.bI (D.sl ca.cE false jy) (.bI (D.bI (D.sl ca.bP false iI.l0) (.bI (D.sl ca.bP false iI.l1) (.bI (D.sl ca.bP false iI.l2) dQ))) (.bI (D.arr ca.int 3 [QS.c0 iI,QS.c1 iI,QS.c2 iI]) dQ)))) eX))else eC else eC else eC else eC else eC else eC else eC else bif decide ((0:Int)<=ki/\ki<=255/\Z0<=1000000/\((0:Int)<=4/\(4:Int)<=Z4)/\(0:Nat)=0)then bif decide (j4=j4)&&true&&true&&true&&true&&decide (Z0<=1000000/\((0:Int)<=kj/\kj<=Z4)/\(0:Nat)=0/\(0:Nat)=0/\(0:Nat)=0/\Z9=[(0:Int),(0:Int),(0:Int)])then bif jQ.1 then dv else bif Rn.short dY.r then dv else bif Qc Z0 then bif(dY.r.pos:Int)!=Z4 then dv else bif Nat.beq j4 j4 then bif Nat.beq kY kY then bif Nat.beq lT lT then bif Nat.beq lU lU then bif decide (j4<=9223372036854775807/\kY<=9223372036854775807/\lT<=9223372036854775807/\lU<=9223372036854775807)then bif !Qs (St.mk Z2.1 lx dY.l0 dY.l1 dY.l2 dY.c0 dY.c1 dY.c2)then dv else some (D.cH (D.bI (D.bI jr (D.bI (D.sl ca.cE false lx) (.bI (D.bI (D.sl ca.bP false dY.l0) (.bI (D.sl ca.bP false dY.l1) (.bI (D.sl ca.bP false dY.l2) dQ))) (.bI (D.arr ca.int 3 [QS.c0 dY,QS.c1 dY,QS.c2 dY]) dQ)))) eX))else eC else eC else eC else eC else eC else eC else eC else eC else eC else eC):=by kernel_rfl
theorem QsK c b(h:(decide (b.length<=1000000))=true):Qmx c b=some (.cH (.bI (cG (dh (QA b)).b8 (cL .cE (QA b).isNone (dh (QA b)).bV (.bI (cL .bP (QA b).isNone (dh (QA b)).l0 (cL .bP (QA b).isNone (dh (QA b)).l1 (cL .bP (QA b).isNone (dh (QA b)).l2 .bN))) (.bI (.arr (C:=RC) .int 3 [(dh (QA b)).c0,(dh (QA b)).c1,(dh (QA b)).c2]) .bN)))) (cG (bif(QA b).isNone then 50 else 0) .bN))):=by
 (rw[QsJ];conv=>zeta)
 have hl:=af h;have e0:decide (b.length<=1000000000000)=true:=ab (by omega);have lb:Qc b.length=true:=Qd (by omega);have eb:∀n:Nat,n.beq n=true:=fun n=>by simp
 have no:QA b=none->some (D.cH (D.bI (D.bI (D.int IntKind.i64 0) (D.bI (D.sl (C:=RC) ca.cE true []) (D.bI (D.bI (D.sl (C:=RC) ca.bP true []) (D.bI (D.sl (C:=RC) ca.bP true []) (D.bI (D.sl (C:=RC) ca.bP true []) D.bN))) (D.bI (D.arr (C:=RC) ca.int 3 (List.replicate 3 0)) D.bN)))) (D.bI (D.int IntKind.i64 50) D.bN)))=some (.cH (.bI (cG (dh (QA b)).b8 (cL .cE (QA b).isNone (dh (QA b)).bV (.bI (cL .bP (QA b).isNone (dh (QA b)).l0 (cL .bP (QA b).isNone (dh (QA b)).l1 (cL .bP (QA b).isNone (dh (QA b)).l2 .bN))) (.bI (.arr (C:=RC) .int 3 [(dh (QA b)).c0,(dh (QA b)).c1,(dh (QA b)).c2]) .bN)))) (cG (bif(QA b).isNone then 50 else 0) .bN))):=fun e=>by rw[e];rfl
 have w3:IntKind.i64.wrap (0+3)=3:=rfl;simp(disch:=omega) only[e0,ag,Vr,Vs,show(0:Int)+3=3 from rfl,show(0:Int)+1=1 from rfl,show(3:Int)+1=4 from rfl]
 by_cases q0:(b.length:Int)<3
 ·have r0:c9 b 3 ⟨0,false⟩=_:=QC (by omega);simp only[q0,aM,ag]
  by_cases q1:(b.length:Int)<1
  ·have r1:c9 b 1 ⟨0,true⟩=_:=QC (by omega);simp only[q1,aM,ag];have rK:=V1 (Cd b) true Jx (fun _=>rfl) ⟨0,false⟩ rfl;rw[F7 r0 r1]at rK
   change QA b=_ at rK
   have t0:Int.toNat 0=0:=rfl;simp only[t0]at rK;have ck:decide (0<=(0:Int)/\(0:Int)<=255/\b.length<=1000000/\(0<=(0:Int)/\(0:Int)<=b.length)/\True)=true:=ab ⟨by omega,by omega,by omega,by omega,trivial⟩;have tp:Int.toNat 0=0:=rfl;simp only[ck,tp,ag,aH];have gp:=V7 (b:=b) 0 ⟨0,true⟩ (by simp only;omega);have gl:=VQ (gI b) true 0 ⟨0,true⟩;generalize QH (gI b) true 0 ⟨0,true⟩=IT at gp gl rK ⊢;obtain⟨⟨ip,ls⟩,cQ⟩:=IT;simp only at gp gl rK ⊢;have qb:=Jk (b:=b) ⟨ip,ls⟩ gp;have hr:=GR (b:=b) (s:=⟨⟨ip,ls⟩,[],[],[],0,0,0⟩);simp only[bw];have m1:decide (b.length<=1000000/\(0<=(ip:Int)/\(ip:Int)<=b.length)/\True/\True/\True/\List.replicate 3 (0:Int)=[0,0,0])=true:=ab ⟨by omega,by omega,trivial,trivial,trivial,rfl⟩;have m2:decide (cQ.length<=9223372036854775807/\(runN b 0 ⟨⟨ip,ls⟩,[],[],[],0,0,0⟩).2.l0.length<=9223372036854775807/\(runN b 0 ⟨⟨ip,ls⟩,[],[],[],0,0,0⟩).2.l1.length<=9223372036854775807/\(runN b 0 ⟨⟨ip,ls⟩,[],[],[],0,0,0⟩).2.l2.length<=9223372036854775807)=true:=ab ⟨by omega,by omega,by omega,by omega⟩;simp only[m1,m2,lb,eb,aM,au,Bool.and_true,Bool.true_and,ag];generalize runN b 0 ⟨⟨ip,ls⟩,[],[],[],0,0,0⟩=Q at qb hr ⊢;generalize fj (gI b) true Jx 0 ⟨⟨ip,ls⟩,[],[],[],0,0,0⟩=Xq at hr rK;obtain⟨fl,⟨qp,qs⟩,a0,a1,a2,x0,x1,x2⟩:=Q;simp only at qb hr ⊢;obtain⟨b0,b1,b2,b3⟩:=qb;cases fl
   ·have hx:=hr.1 rfl;subst hx;replace rK:QA b=if qs=false/\b.drop qp=[]/\Qs ⟨0,cQ,a0,a1,a2,x0,x1,x2⟩=true then some ⟨0,cQ,a0,a1,a2,x0,x1,x2⟩else none:=rK
    simp only[ah];cases qs
    ·simp only[ah]
     by_cases hz:qp=b.length
     ·have z1:((qp:Int)!=(b.length:Int))=false:=by simp only[bne_eq_false_iff_eq];omega
      have z2:b.drop qp=[]:=aO (by omega);simp only[z1,ah];cases hs:Qs ⟨0,cQ,a0,a1,a2,x0,x1,x2⟩
      ·exact no (by rw[rK,aw (fun q=>by have:=q.2.2;rw[hs]at this;cases this)])
      ·have:QA b=some ⟨0,cQ,a0,a1,a2,x0,x1,x2⟩:=by rw[rK,ax ⟨rfl,z2,hs⟩]
       rw[this];rfl
     ·have z1:((qp:Int)!=(b.length:Int))=true:=by simp only[bne_iff_ne,ne_eq];omega
      have z2:¬b.drop qp=[]:=fun e=>by
       have:=ap List.length e;simp at this;omega
      simp only[z1,ag];exact no (by rw[rK,aw (fun q=>z2 q.2.1)])
    ·simp only[ag];exact no (by rw[rK,aw (fun q=>by cases q.1)])
   ·have hx:=hr.2 rfl;simp only[ag];exact no (by rw[rK,aw (fun q=>by have:=q.1;rw[hx]at this;cases this)])
  ·have r1:c9 b 1 ⟨0,true⟩=_:=QR (by omega);simp only[aN]at r1;have g1:=QX (b:=b) (p:=0) (by omega) (by omega);simp only[show Int.toNat 0=0 from rfl]at g1;simp only[q1,aW,ah,g1];have rK:=V1 (Cd b) true Jx (fun _=>rfl) ⟨0,false⟩ rfl;rw[F7 r0 r1]at rK
   change QA b=_ at rK
   have n1:cf ((b.drop 0).take 1)<256:=ZR _;generalize cf ((b.drop 0).take 1)=n at n1 rK ⊢;have tn:(n:Int).toNat-0=n:=by omega
   have xe:(n:Int).toNat=n:=by omega
   simp only[xe]at rK;have ck:decide (0<=(n:Int)/\(n:Int)<=255/\b.length<=1000000/\(0<=(1:Int)/\(1:Int)<=b.length)/\True)=true:=ab ⟨by omega,by omega,by omega,by omega,trivial⟩;have tp:Int.toNat 1=1:=rfl;simp only[ck,tn,tp,ag,aH];have gp:=V7 (b:=b) n ⟨1,true⟩ (by simp only;omega);have gl:=VQ (gI b) true n ⟨1,true⟩;generalize QH (gI b) true n ⟨1,true⟩=IT at gp gl rK ⊢;obtain⟨⟨ip,ls⟩,cQ⟩:=IT;simp only at gp gl rK ⊢;have qb:=Jk (b:=b) ⟨ip,ls⟩ gp;have hr:=GR (b:=b) (s:=⟨⟨ip,ls⟩,[],[],[],0,0,0⟩);simp only[bw];have m1:decide (b.length<=1000000/\(0<=(ip:Int)/\(ip:Int)<=b.length)/\True/\True/\True/\List.replicate 3 (0:Int)=[0,0,0])=true:=ab ⟨by omega,by omega,trivial,trivial,trivial,rfl⟩;have m2:decide (cQ.length<=9223372036854775807/\(runN b 0 ⟨⟨ip,ls⟩,[],[],[],0,0,0⟩).2.l0.length<=9223372036854775807/\(runN b 0 ⟨⟨ip,ls⟩,[],[],[],0,0,0⟩).2.l1.length<=9223372036854775807/\(runN b 0 ⟨⟨ip,ls⟩,[],[],[],0,0,0⟩).2.l2.length<=9223372036854775807)=true:=ab ⟨by omega,by omega,by omega,by omega⟩;simp only[m1,m2,lb,eb,aM,au,Bool.and_true,Bool.true_and,ag];generalize runN b 0 ⟨⟨ip,ls⟩,[],[],[],0,0,0⟩=Q at qb hr ⊢;generalize fj (gI b) true Jx 0 ⟨⟨ip,ls⟩,[],[],[],0,0,0⟩=Xq at hr rK;obtain⟨fl,⟨qp,qs⟩,a0,a1,a2,x0,x1,x2⟩:=Q;simp only at qb hr ⊢;obtain⟨b0,b1,b2,b3⟩:=qb;cases fl
   ·have hx:=hr.1 rfl;subst hx;replace rK:QA b=if qs=false/\b.drop qp=[]/\Qs ⟨0,cQ,a0,a1,a2,x0,x1,x2⟩=true then some ⟨0,cQ,a0,a1,a2,x0,x1,x2⟩else none:=rK
    simp only[ah];cases qs
    ·simp only[ah]
     by_cases hz:qp=b.length
     ·have z1:((qp:Int)!=(b.length:Int))=false:=by simp only[bne_eq_false_iff_eq];omega
      have z2:b.drop qp=[]:=aO (by omega);simp only[z1,ah];cases hs:Qs ⟨0,cQ,a0,a1,a2,x0,x1,x2⟩
      ·exact no (by rw[rK,aw (fun q=>by have:=q.2.2;rw[hs]at this;cases this)])
      ·have:QA b=some ⟨0,cQ,a0,a1,a2,x0,x1,x2⟩:=by rw[rK,ax ⟨rfl,z2,hs⟩]
       rw[this];rfl
     ·have z1:((qp:Int)!=(b.length:Int))=true:=by simp only[bne_iff_ne,ne_eq];omega
      have z2:¬b.drop qp=[]:=fun e=>by
       have:=ap List.length e;simp at this;omega
      simp only[z1,ag];exact no (by rw[rK,aw (fun q=>z2 q.2.1)])
    ·simp only[ag];exact no (by rw[rK,aw (fun q=>by cases q.1)])
   ·have hx:=hr.2 rfl;simp only[ag];exact no (by rw[rK,aw (fun q=>by have:=q.1;rw[hx]at this;cases this)])
 ·have r0:c9 b 3 ⟨0,false⟩=_:=QR (by omega);simp only[aN]at r0;have g0:=ZC (b:=b) (p:=0) (by omega) (by omega);simp only[show Int.toNat 0=0 from rfl]at g0;simp only[q0,aW,ah,g0]
  by_cases q1:(b.length:Int)<4
  ·have r1:c9 b 1 ⟨3,false⟩=_:=QC (by omega);simp only[q1,aM,ag];have rK:=V1 (Cd b) true Jx (fun _=>rfl) ⟨0,false⟩ rfl;rw[F7 r0 r1]at rK
   change QA b=_ at rK
   have t0:Int.toNat 0=0:=rfl;simp only[t0]at rK;have ck:decide (0<=(0:Int)/\(0:Int)<=255/\b.length<=1000000/\(0<=(3:Int)/\(3:Int)<=b.length)/\True)=true:=ab ⟨by omega,by omega,by omega,by omega,trivial⟩;have tp:Int.toNat 3=3:=rfl;simp only[ck,tp,ag,aH];have gp:=V7 (b:=b) 0 ⟨3,true⟩ (by simp only;omega);have gl:=VQ (gI b) true 0 ⟨3,true⟩;generalize QH (gI b) true 0 ⟨3,true⟩=IT at gp gl rK ⊢;obtain⟨⟨ip,ls⟩,cQ⟩:=IT;simp only at gp gl rK ⊢;have qb:=Jk (b:=b) ⟨ip,ls⟩ gp;have hr:=GR (b:=b) (s:=⟨⟨ip,ls⟩,[],[],[],0,0,0⟩);simp only[bw];have m1:decide (b.length<=1000000/\(0<=(ip:Int)/\(ip:Int)<=b.length)/\True/\True/\True/\List.replicate 3 (0:Int)=[0,0,0])=true:=ab ⟨by omega,by omega,trivial,trivial,trivial,rfl⟩;have m2:decide (cQ.length<=9223372036854775807/\(runN b 0 ⟨⟨ip,ls⟩,[],[],[],0,0,0⟩).2.l0.length<=9223372036854775807/\(runN b 0 ⟨⟨ip,ls⟩,[],[],[],0,0,0⟩).2.l1.length<=9223372036854775807/\(runN b 0 ⟨⟨ip,ls⟩,[],[],[],0,0,0⟩).2.l2.length<=9223372036854775807)=true:=ab ⟨by omega,by omega,by omega,by omega⟩;simp only[m1,m2,lb,eb,aM,au,Bool.and_true,Bool.true_and,ag];generalize runN b 0 ⟨⟨ip,ls⟩,[],[],[],0,0,0⟩=Q at qb hr ⊢;generalize fj (gI b) true Jx 0 ⟨⟨ip,ls⟩,[],[],[],0,0,0⟩=Xq at hr rK;obtain⟨fl,⟨qp,qs⟩,a0,a1,a2,x0,x1,x2⟩:=Q;simp only at qb hr ⊢;obtain⟨b0,b1,b2,b3⟩:=qb;cases fl
   ·have hx:=hr.1 rfl;subst hx;replace rK:QA b=if qs=false/\b.drop qp=[]/\Qs ⟨(cf ((b.drop 0).take 3):Int),cQ,a0,a1,a2,x0,x1,x2⟩=true then some ⟨(cf ((b.drop 0).take 3):Int),cQ,a0,a1,a2,x0,x1,x2⟩else none:=rK
    simp only[ah];cases qs
    ·simp only[ah]
     by_cases hz:qp=b.length
     ·have z1:((qp:Int)!=(b.length:Int))=false:=by simp only[bne_eq_false_iff_eq];omega
      have z2:b.drop qp=[]:=aO (by omega);simp only[z1,ah];cases hs:Qs ⟨(cf ((b.drop 0).take 3):Int),cQ,a0,a1,a2,x0,x1,x2⟩
      ·exact no (by rw[rK,aw (fun q=>by have:=q.2.2;rw[hs]at this;cases this)])
      ·have:QA b=some ⟨(cf ((b.drop 0).take 3):Int),cQ,a0,a1,a2,x0,x1,x2⟩:=by rw[rK,ax ⟨rfl,z2,hs⟩]
       rw[this];rfl
     ·have z1:((qp:Int)!=(b.length:Int))=true:=by simp only[bne_iff_ne,ne_eq];omega
      have z2:¬b.drop qp=[]:=fun e=>by
       have:=ap List.length e;simp at this;omega
      simp only[z1,ag];exact no (by rw[rK,aw (fun q=>z2 q.2.1)])
    ·simp only[ag];exact no (by rw[rK,aw (fun q=>by cases q.1)])
   ·have hx:=hr.2 rfl;simp only[ag];exact no (by rw[rK,aw (fun q=>by have:=q.1;rw[hx]at this;cases this)])
  ·have r1:c9 b 1 ⟨3,false⟩=_:=QR (by omega);simp only[Nat.reduceAdd]at r1;have g1:=QX (b:=b) (p:=3) (by omega) (by omega);simp only[show Int.toNat 3=3 from rfl]at g1;simp only[q1,aW,ah,g1];have rK:=V1 (Cd b) true Jx (fun _=>rfl) ⟨0,false⟩ rfl;rw[F7 r0 r1]at rK
   change QA b=_ at rK
   have n1:cf ((b.drop 3).take 1)<256:=ZR _;generalize cf ((b.drop 3).take 1)=n at n1 rK ⊢;have tn:(n:Int).toNat-0=n:=by omega
   have xe:(n:Int).toNat=n:=by omega
   simp only[xe]at rK;have ck:decide (0<=(n:Int)/\(n:Int)<=255/\b.length<=1000000/\(0<=(4:Int)/\(4:Int)<=b.length)/\True)=true:=ab ⟨by omega,by omega,by omega,by omega,trivial⟩;have tp:Int.toNat 4=4:=rfl;simp only[ck,tn,tp,ag,aH];have gp:=V7 (b:=b) n ⟨4,false⟩ (by simp only;omega);have gl:=VQ (gI b) true n ⟨4,false⟩;generalize QH (gI b) true n ⟨4,false⟩=IT at gp gl rK ⊢;obtain⟨⟨ip,ls⟩,cQ⟩:=IT;simp only at gp gl rK ⊢;have qb:=Jk (b:=b) ⟨ip,ls⟩ gp;have hr:=GR (b:=b) (s:=⟨⟨ip,ls⟩,[],[],[],0,0,0⟩);simp only[bw];have m1:decide (b.length<=1000000/\(0<=(ip:Int)/\(ip:Int)<=b.length)/\True/\True/\True/\List.replicate 3 (0:Int)=[0,0,0])=true:=ab ⟨by omega,by omega,trivial,trivial,trivial,rfl⟩;have m2:decide (cQ.length<=9223372036854775807/\(runN b 0 ⟨⟨ip,ls⟩,[],[],[],0,0,0⟩).2.l0.length<=9223372036854775807/\(runN b 0 ⟨⟨ip,ls⟩,[],[],[],0,0,0⟩).2.l1.length<=9223372036854775807/\(runN b 0 ⟨⟨ip,ls⟩,[],[],[],0,0,0⟩).2.l2.length<=9223372036854775807)=true:=ab ⟨by omega,by omega,by omega,by omega⟩;simp only[m1,m2,lb,eb,aM,au,Bool.and_true,Bool.true_and,ag];generalize runN b 0 ⟨⟨ip,ls⟩,[],[],[],0,0,0⟩=Q at qb hr ⊢;generalize fj (gI b) true Jx 0 ⟨⟨ip,ls⟩,[],[],[],0,0,0⟩=Xq at hr rK;obtain⟨fl,⟨qp,qs⟩,a0,a1,a2,x0,x1,x2⟩:=Q;simp only at qb hr ⊢;obtain⟨b0,b1,b2,b3⟩:=qb;cases fl
   ·have hx:=hr.1 rfl;subst hx;replace rK:QA b=if qs=false/\b.drop qp=[]/\Qs ⟨(cf ((b.drop 0).take 3):Int),cQ,a0,a1,a2,x0,x1,x2⟩=true then some ⟨(cf ((b.drop 0).take 3):Int),cQ,a0,a1,a2,x0,x1,x2⟩else none:=rK
    simp only[ah];cases qs
    ·simp only[ah]
     by_cases hz:qp=b.length
     ·have z1:((qp:Int)!=(b.length:Int))=false:=by simp only[bne_eq_false_iff_eq];omega
      have z2:b.drop qp=[]:=aO (by omega);simp only[z1,ah];cases hs:Qs ⟨(cf ((b.drop 0).take 3):Int),cQ,a0,a1,a2,x0,x1,x2⟩
      ·exact no (by rw[rK,aw (fun q=>by have:=q.2.2;rw[hs]at this;cases this)])
      ·have:QA b=some ⟨(cf ((b.drop 0).take 3):Int),cQ,a0,a1,a2,x0,x1,x2⟩:=by rw[rK,ax ⟨rfl,z2,hs⟩]
       rw[this];rfl
     ·have z1:((qp:Int)!=(b.length:Int))=true:=by simp only[bne_iff_ne,ne_eq];omega
      have z2:¬b.drop qp=[]:=fun e=>by
       have:=ap List.length e;simp at this;omega
      simp only[z1,ag];exact no (by rw[rK,aw (fun q=>z2 q.2.1)])
    ·simp only[ag];exact no (by rw[rK,aw (fun q=>by cases q.1)])
   ·have hx:=hr.2 rfl;simp only[ag];exact no (by rw[rK,aw (fun q=>by have:=q.1;rw[hx]at this;cases this)])
def Bj:=Bi.cm 96 Wh
theorem QsL:Qj Tryz.prog cF Bj:=QsI.c6 Qb fun args d h=>by
 unfold Wh at h
 split at h
 ·obtain⟨h1,rfl⟩:=ak h;exact⟨by simp[D.refs],60,QsK _ _ h1⟩
 ·cases h
theorem B0(n:Int):(BitVec.ofInt IntKind.u32.bits n).toNat=(n%4294967296).toNat:=by
 rw[BitVec.toNat_ofInt];simp only[IntKind.bits]
 congr 1
theorem Kh(n:Int):IntKind.u32.wrap n=n%4294967296:=by
 simp[IntKind.wrap,IntKind.bits,IntKind.signed]
def qZ(a b:Int):Int:=bits .u32 (fun _ u v=>u ^^^ v) a b
theorem LL a b:0<=qZ a b/\qZ a b<4294967296:=by
 unfold qZ bits;rw[Kh];omega
def lm(n:Int):Int:=if n%2=1 then qZ (n/2) 3988292384 else n/2
theorem Qpe{n:Int}(h:0<=n/\n<4294967296):0<=lm n/\lm n<4294967296:=by
 unfold lm
 split
 ·exact LL _ _
 ·omega
theorem Eh{n:Int}(h:0<=n/\n<4294967296):bits .u32 (fun _ u v=>u&&&v) n 1=n%2:=by
 unfold bits;rw[BitVec.toNat_and,B0,B0];have e:((1:Int)%4294967296).toNat=2^1-1:=by decide
 rw[e,Nat.and_two_pow_sub_one_eq_mod,Kh];omega
theorem Qpf{n:Int}(h:0<=n/\n<4294967296):qZ n 0=n:=by
 unfold qZ bits;rw[BitVec.toNat_xor,B0,B0];have e:((0:Int)%4294967296).toNat=0:=by decide
 rw[e,Nat.xor_zero,Kh];omega
theorem half{n:Int}(h:0<=n):n.fdiv 2=n/2:=aQ _ (by omega)
def uf:Nat->Int->Int
 |0,n=>n
 |k+1,n=>uf k (lm n)
def ss(n:Int):Int:=uf 8 n
def Ky(n:Int)(l:bK):Int:=l.foldl (fun n c=>ss (qZ n (c.toNat:Int))) n
theorem Qpg(n:Int)(c:UInt8)(l:bK):Ky n (c::l)=Ky (ss (qZ n (c.toNat:Int))) l:=by
 simp only[Ky,List.foldl_cons]
theorem Wi(n:Int):Ky n []=n:=by simp only[Ky,List.foldl_nil]
def V8(l:bK):Int:=qZ 4294967295 (Ky 4294967295 l)
theorem QkD l:0<=V8 l/\V8 l<4294967296:=LL _ _
def Y7(b:bK):bK:=b++fX (V8 b) 4
theorem Gm b:(Y7 b).length=b.length+4:=by simp[Y7,Qw]
def ZX(b:bK):fq:=if 4<=b.length/\Y7 (b.take (b.length-4))=b then some (b.take (b.length-4))else none
theorem Qph b:ZX (Y7 b)=some b:=by
 have e:(Y7 b).take ((Y7 b).length-4)=b:=by
  rw[Gm];simp[Y7]
 unfold ZX;rw[e,ax ⟨by rw[Gm];omega,rfl⟩]
theorem Wj{b x:bK}(h:ZX b=some x):b.length=x.length+4:=by
 unfold ZX at h
 split at h
 ·rename_i q;cases h;simp;omega
 ·cases h
theorem Qpi(b:bK)(h:4<=b.length):(Y7 (b.take (b.length-4))).drop (b.length-4)=b.drop (b.length-4)↔Y7 (b.take (b.length-4))=b:=by
 have e:((b.take (b.length-4))).length=b.length-4:=by simp
 have e2:(Y7 (b.take (b.length-4))).drop (b.length-4)=fX (V8 (b.take (b.length-4))) 4:=by
  unfold Y7;rw[List.drop_left' e]
 rw[e2];constructor
 ·intro q;unfold Y7;rw[q,bn]
 ·intro q;have:=ap (List.drop (b.length-4)) q;rw[<-e2];exact this
def okF(n:Int)(load:bK):Bool:=decide (1<=n)&&decide (n<=1048575)&&decide (load.length<=600)
def YX(n:Int)(load:bK):bK:=Y7 (fX n 6++fX load.length 2++load)
def Yk(b:bK):gJ:=match ZX b with
 |none=>none
 |some x=>if 8<=x.length/\cf ((x.drop 6).take 2)+8=x.length/\x.length<=608/\1<=cf (x.take 6)/\cf (x.take 6)<=1048575 then some ((cf (x.take 6):Int),x.drop 8)else none
theorem F8 n load:(YX n load).length=load.length+12:=by
 simp[YX,Gm,Qw];omega
theorem QkE{n:Int}{load:bK}(h:okF n load=true):Yk (YX n load)=some (n,load):=by
 simp only[okF,ai,aa]at h;unfold Yk YX;rw[Qph];have l6:=Qw 6 n;have l2:=Qw 2 (load.length:Int);have t6:(fX n 6++fX (load.length:Int) 2++load).take 6=fX n 6:=by rw[ay,List.take_left' l6]
 have d6:(fX n 6++fX (load.length:Int) 2++load).drop 6=fX (load.length:Int) 2++load:=by rw[ay,List.drop_left' l6]
 have d8:(fX n 6++fX (load.length:Int) 2++load).drop 8=load:=by
  rw[show(8:Nat)=6+2 from rfl,<-bD,d6,List.drop_left' l2]
 have v6:(cf (fX n 6):Int)=n:=Mt 6 n (by omega) (by omega);have v2:(cf (fX (load.length:Int) 2):Int)=load.length:=Mt 2 _ (by omega) (by omega);have t2:(fX (load.length:Int) 2++load).take 2=fX (load.length:Int) 2:=List.take_left' l2;simp only[t6,d6,d8,t2];rw[ax ⟨by simp[l6,l2];omega,by simp[l6,l2];omega,by simp[l6,l2];omega,by omega,by omega⟩,v6]
theorem Qmy{b:bK}{n:Int}{load:bK}(h:Yk b=some (n,load)):okF n load=true/\YX n load=b:=by
 unfold Yk at h;cases hx:ZX b with
 |none=>simp[hx]at h
 |some x=>
  simp only[hx]at h
  split at h
  ·rename_i q;obtain⟨q1,q2,q3,q4,q5⟩:=q;simp only[aD,Prod.mk.injEq]at h;obtain⟨rfl,rfl⟩:=h;refine⟨by simp only[okF,ai,aa,bq];omega,?_⟩
   have e6:fX (cf (x.take 6):Int) 6=x.take 6:=by
    have:=Mu (x.take 6);rw[bp,Nat.min_eq_left (by omega)]at this;exact this
   have e2:fX ((x.drop 8).length:Int) 2=(x.drop 6).take 2:=by
    have:=Mu ((x.drop 6).take 2);rw[bp,bq,Nat.min_eq_left (by omega)]at this;rw[bq,show x.length-8=cf ((x.drop 6).take 2)by omega];exact this
   unfold YX;rw[e6,e2,ay,show x.drop 8=(x.drop 6).drop 2 by rw[bD],bn,bn];unfold ZX at hx
   split at hx
   ·rename_i q;cases hx;exact q.2
   ·cases hx
  ·cases h
def oL(n:Int):Bool := @decide (0<=n/\n<4294967296) (Classical.propDecidable _)
theorem DE{n:Int}:oL n=true↔0<=n/\n<4294967296:=by unfold oL;exact @decide_eq_true_iff _ (Classical.propDecidable _)
theorem SY a b:oL (qZ a b)=true:=DE.2 (LL a b)
theorem SZ{n:Int}(h:oL n=true):oL (lm n)=true:=DE.2 (Qpe (DE.1 h))
theorem RW(c:UInt8):IntKind.u32.wrap (c.toNat:Int)=(c.toNat:Int):=by
 have:=c.toNat_lt;rw[Kh];omega
theorem Uc(b:bK)(i:Nat)(n:Int)(h:i<b.length)(d:UInt8):Ky n (b.drop i)=Ky (ss (qZ n ((b.getD i d).toNat:Int))) (b.drop (i+1)):=by
 have e:b.getD i d=b[i]:=by simp[h]
 have e2:b.drop i=b[i]::b.drop (i+1):=aJ h;rw[e2,e];exact Qpg _ _ _
theorem N7{n:Int}(h:0<=n/\n<4294967296):bits .u32 (fun _ u v=>u&&&v) n 255=n%256:=by
 unfold bits;rw[BitVec.toNat_and,B0,B0];have e:((255:Int)%4294967296).toNat=2^8-1:=by decide
 rw[e,Nat.and_two_pow_sub_one_eq_mod,Kh];omega
theorem TX(n:Int):UInt8.ofNat (IntKind.u8.wrap n).toNat=Zu n:=rfl
theorem Qpj(n:Int):Zu (n%256)=Zu n:=by
 unfold Zu;rw[DI,DI];congr 2;omega
theorem P2(n:Int):fX n 4=[Zu n,Zu (n.fdiv 256),Zu ((n.fdiv 256).fdiv 256),Zu (((n.fdiv 256).fdiv 256).fdiv 256)]:=rfl
theorem Qa{α:Type}{c:Bool}{x y z:α}(h:c=true)(h2:x=z):cond c x y=z:=by rw[h];exact h2
theorem Qn{α:Type}{c:Bool}{x y z:α}(h:c=false)(h2:y=z):cond c x y=z:=by rw[h];exact h2
theorem Qy{α:Type}{c:Bool}{x y z:α}(h1:c=true->x=z)(h2:c=false->y=z):cond c x y=z:=by cases c;exact h2 rfl;exact h1 rfl
open Go.Proofs
def Qmz:bW->bO
 |[.int .u32 n]=>some (oL n,.int .u32 (lm n))
 |_=>none
def QsO(n:Int):=eU cF Bj 40 212 [.int .u32 n]
theorem QyJ n:QsO n=(some (D.int IntKind.u32 (bits IntKind.u32 (fun(x:Nat) (u v:BitVec x)=>u ^^^ v) (Int.fdiv n (2:Int)) (IntKind.wrap IntKind.u32 (bits IntKind.u32 (fun(x:Nat) (u v:BitVec x)=>u&&&v) n (1:Int)*(3988292384:Int)))))):=by kernel_rfl
theorem QyK n(h:(oL n)=true):QsO n=some (.int .u32 (lm n)):=by
 rw[QyJ];have hr:=DE.1 h;rw[Eh hr,half hr.1]
 congr 2
 unfold lm
 split
 ·rename_i e;rw[e,Kh];rfl
 ·rename_i e;have e0:n%2=0:=by omega
  rw[e0,Kh];exact Qpf (by omega)
def Bk:=Bj.cm 212 Qmz
theorem QsP:Qj Tryz.prog cF Bk:=QsL.c6 Qb fun args d h=>by
 unfold Qmz at h
 split at h
 ·obtain⟨h1,rfl⟩:=ak h;exact⟨by simp[D.refs],40,QyK _ h1⟩
 ·cases h
def XW:bW->bO
 |[.int .u32 n]=>some (oL n,.int .u32 (lm n))
 |_=>none
def QsR(n:Int):=eU cF Bk 40 209 [.int .u32 n]
theorem QyL n:QsR n=(let Z0:Int:=Int.fdiv n (2:Int);bif bits IntKind.u32 (fun(x:Nat) (u v:BitVec x)=>u&&&v) n (1:Int)==(1:Int)then some (D.int IntKind.u32 (bits IntKind.u32 (fun(x:Nat) (u v:BitVec x)=>u ^^^ v) Z0 (3988292384:Int)))else some (D.int IntKind.u32 Z0)):=by kernel_rfl
theorem QyM n(h:(oL n)=true):QsR n=some (.int .u32 (lm n)):=by
 (rw[QyL];conv=>zeta)
 have hr:=DE.1 h;rw[Eh hr,half hr.1];unfold lm
 by_cases e:n%2=1
 ·rw[ax e,IY e];rfl
 ·rw[aw e,IZ e];rfl
def Bl:=Bk.cm 209 XW
theorem QsS:Qj Tryz.prog cF Bl:=QsP.c6 Qb fun args d h=>by
 unfold XW at h
 split at h
 ·obtain⟨h1,rfl⟩:=ak h;exact⟨by simp[D.refs],40,QyM _ h1⟩
 ·cases h
structure QsT where
 n:Int
 i:Nat
def N8(n:Int)(i:Nat):bX:=[(0,.int .u32 n),(17,.int .i64 (i:Int))]
def Hv(n:Int)(i:Nat):bR:=[]
def RX n i:=eF cF Bl 211 6 60 0 [0,17] [0] [] (N8 n i) (Hv n i)
theorem QCT n(i:Nat):RX n i=(bif decide ((↑i:Int)<(8:Int))then bif oL n then some ((X.normal,[(0,D.int IntKind.u32 (lm n)),(17,D.int .i64 (IntKind.wrap .i64 ((↑i:Int)+(1:Int))))]),[])else none else some ((X.exit (2:Nat),[(0,D.int IntKind.u32 n)]),[])):=by kernel_rfl
def GS(n:Int)(i:Nat):RT RC:=.leaf (.exit 2) [(0,.int .u32 (uf (8-i) n))] []
def C8(n:Int)(i:Nat):Prop:=i<=8/\oL n=true
def vR:QK RC QsT where
 k:=0
 cS q:=N8 q.n q.i
 cR q:=Hv q.n q.i
 fin q:=GS q.n q.i
 Inv q:=C8 q.n q.i
 μ q:=8-q.i
theorem Qpk n i(hI:C8 n i):dw (RX n i) (dF vR ⟨n,i⟩):=by
 rw[QCT];unfold C8 at hI;obtain⟨h1,h2⟩:=hI
 by_cases cY:i<8
 ·have c1:decide ((i:Int)<8)=true:=by simp;omega
  have cN:=fa i (by omega)
  rw[c1,h2,cN];refine Qg ⟨lm n,i+1⟩ ⟨cY,SZ h2⟩ (by simp only[vR];omega) ?_ rfl rfl;simp only[vR,GS,show 8-i=(8-(i+1))+1 by omega,uf]
 ·have hi:i=8:=by omega
  have c1:decide ((i:Int)<8)=false:=by simp;omega
  rw[c1];exact Qi [] (by simp only[vR,GS,hi,Nat.sub_self,uf,RT.val]) rfl
def N9(env:bX)(os:bR):Option (Bool×QsT):=match env,os with
 |[(0,.int .u32 n),(17,.int .i64 x0)],[]=>some (decide (x0=0)&&oL n,⟨n,0⟩)
 |_,_=>none
def Bm:=Bl.cP 211 6 (eZ cF [] [0,17] vR N9)
theorem QsW:Qj Tryz.prog cF Bm:=by
 refine QsS.cJ Qb (by kernel_rfl) vR 60 [0,17] [0] [] [0,17] N9 (fun q hI=>?_) ?_
 ·obtain⟨n,i⟩:=q;refine⟨?_,?_,Qpk n i hI⟩
  ·simp_all[Qk,vR,N8,Hv,C8,D.refs,Obj.refs,de]
  ·simp_all[vR,GS,Hv,C8,RT.da,Qk,D.refs,Obj.refs,de]
 ·intro env os b q cW hb;unfold N9 at cW
  split at cW
  ·cases cW;simp only[ai,aa]at hb;obtain⟨rfl,h⟩:=hb;exact⟨⟨aK _,h⟩,rfl,rfl⟩
  ·cases cW
structure QsX where
 n:Int
 i:Nat
def Oa(n:Int)(i:Nat):bX:=[(0,.int .u32 n),(6,.int .i64 (i:Int))]
def Hw(n:Int)(i:Nat):bR:=[]
def RY n i:=eF cF Bm 206 6 60 0 [0,6] [0] [] (Oa n i) (Hw n i)
theorem QCU n(i:Nat):RY n i=(bif decide ((↑i:Int)<(8:Int))then bif oL n then some ((X.normal,[(0,D.int IntKind.u32 (lm n)),(6,D.int .i64 (IntKind.wrap .i64 ((↑i:Int)+(1:Int))))]),[])else none else some ((X.exit (2:Nat),[(0,D.int IntKind.u32 n)]),[])):=by kernel_rfl
def GU(n:Int)(i:Nat):RT RC:=.leaf (.exit 2) [(0,.int .u32 (uf (8-i) n))] []
def C9(n:Int)(i:Nat):Prop:=i<=8/\oL n=true
def vS:QK RC QsX where
 k:=0
 cS q:=Oa q.n q.i
 cR q:=Hw q.n q.i
 fin q:=GU q.n q.i
 Inv q:=C9 q.n q.i
 μ q:=8-q.i
theorem Qpl n i(hI:C9 n i):dw (RY n i) (dF vS ⟨n,i⟩):=by
 rw[QCU];unfold C9 at hI;obtain⟨h1,h2⟩:=hI
 by_cases cY:i<8
 ·have c1:decide ((i:Int)<8)=true:=by simp;omega
  have cN:=fa i (by omega)
  rw[c1,h2,cN];refine Qg ⟨lm n,i+1⟩ ⟨cY,SZ h2⟩ (by simp only[vS];omega) ?_ rfl rfl;simp only[vS,GU,show 8-i=(8-(i+1))+1 by omega,uf]
 ·have hi:i=8:=by omega
  have c1:decide ((i:Int)<8)=false:=by simp;omega
  rw[c1];exact Qi [] (by simp only[vS,GU,hi,Nat.sub_self,uf,RT.val]) rfl
def Ob(env:bX)(os:bR):Option (Bool×QsX):=match env,os with
 |[(0,.int .u32 n),(6,.int .i64 x0)],[]=>some (decide (x0=0)&&oL n,⟨n,0⟩)
 |_,_=>none
def Bn:=Bm.cP 206 6 (eZ cF [] [0,6] vS Ob)
theorem Qs0:Qj Tryz.prog cF Bn:=by
 refine QsW.cJ Qb (by kernel_rfl) vS 60 [0,6] [0] [] [0,6] Ob (fun q hI=>?_) ?_
 ·obtain⟨n,i⟩:=q;refine⟨?_,?_,Qpl n i hI⟩
  ·simp_all[Qk,vS,Oa,Hw,C9,D.refs,Obj.refs,de]
  ·simp_all[vS,GU,Hw,C9,RT.da,Qk,D.refs,Obj.refs,de]
 ·intro env os b q cW hb;unfold Ob at cW
  split at cW
  ·cases cW;simp only[ai,aa]at hb;obtain⟨rfl,h⟩:=hb;exact⟨⟨aK _,h⟩,rfl,rfl⟩
  ·cases cW
structure Qs1 where
 (n:Int)(c:Bool)(b:bK)(i:Nat)
def N3(n:Int)(c:Bool)(b:bK)(i:Nat):bX:=[(0,.int .u32 n),(7,.sl (C:=RC) .u8 c b),(8,.int .i64 (b.length)),(9,.int .i64 (i:Int))]
def Hx(n:Int)(c:Bool)(b:bK)(i:Nat):bR:=[]
def RZ n c b i:=eF cF Bn 211 2 60 0 [0,7,8,9] [0] [] (N3 n c b i) (Hx n c b i)
theorem QCV n c b i:RZ n c b i=(let Z0:Int:=(i:Int);let Z1:Int:=(b.length:Int);let Z2:Int:=bits IntKind.u32 (fun(x:Nat) (u v:BitVec x)=>u ^^^ v) n (IntKind.wrap IntKind.u32 (↑(UInt8.toNat (List.getD b Z0.toNat (UInt8.ofBitVec (BitVec.ofNat 8 (nat_lit 0))))):Int));bif decide (Z0<Z1)then cb (ep Z0 Z1) (cb (oL Z2) (some ((X.normal,[(0,D.int IntKind.u32 (uf 8 Z2)),(7,D.sl ca.u8 c b),(8,cq Z1),(9,cq (cX (Z0+1)))]),[])))else some ((X.exit 0,[(0,D.int IntKind.u32 n)]),[])):=by kernel_rfl
def GV(n:Int)(c:Bool)(b:bK)(i:Nat):RT RC:=.leaf (.exit 0) [(0,.int .u32 (Ky n (b.drop i)))] []
def Da(n:Int)(c:Bool)(b:bK)(i:Nat):Prop:=i<=b.length/\b.length<=1000000
def vT:QK RC Qs1 where
 k:=0
 cS q:=N3 q.n q.c q.b q.i
 cR q:=Hx q.n q.c q.b q.i
 fin q:=GV q.n q.c q.b q.i
 Inv q:=Da q.n q.c q.b q.i
 μ q:=q.b.length-q.i
theorem Qpm n c b i(hI:Da n c b i):dw (RZ n c b i) (dF vT ⟨n,c,b,i⟩):=by
 (rw[QCV];delta cb ep cq cX;conv=>zeta)
 unfold Da at hI;obtain⟨h1,h2⟩:=hI
 by_cases cY:i<b.length
 ·have cN:=fa i (by omega)
  have ei:=gv (show i<b.length by omega)
  have ef:=fV (show i<b.length by omega)
  have dp:=bw i
  simp only[cN,ei,ef,dp,ag];have hx:∀x:Int,oL (bits .u32 (fun _ u v=>u ^^^ v) n x)=true:=fun x=>SY n x;simp only[RW,hx,ag];refine Qg ⟨ss (qZ n ((b.getD i 0).toNat:Int)),c,b,i+1⟩ ⟨cY,h2⟩ (by simp only[vT];omega) ?_ rfl rfl;simp only[vT,GV,Uc b i n cY 0]
 ·have hi:i=b.length:=by omega
  have c1:decide ((i:Int)<b.length)=false:=by simp;omega
  rw[c1];exact Qi [] (by simp only[vT,GV,hi,List.drop_length,Wi,RT.val]) rfl
def N4(env:bX)(os:bR):Option (Bool×Qs1):=match env,os with
 |[(0,.int .u32 n),(7,.sl .u8 c b),(8,.int .i64 x0),(9,.int .i64 x1)],[]=>some (decide (x0=b.length)&&decide (x1=0)&&decide (b.length<=1000000),⟨n,c,b,0⟩)
 |_,_=>none
def Bo:=Bn.cP 211 2 (eZ cF [] [0,7,8,9] vT N4)
theorem Qs4:Qj Tryz.prog cF Bo:=by
 refine Qs0.cJ Qb (by kernel_rfl) vT 60 [0,7,8,9] [0] [] [0,7,8,9] N4 (fun q hI=>?_) ?_
 ·obtain⟨n,c,b,i⟩:=q;refine⟨?_,?_,Qpm n c b i hI⟩
  ·simp_all[Qk,vT,N3,Hx,Da,D.refs,Obj.refs,de]
  ·simp_all[vT,GV,Hx,Da,RT.da,Qk,D.refs,Obj.refs,de]
 ·intro env os b q cW hb;unfold N4 at cW
  split at cW
  ·cases cW;simp only[ai,aa]at hb;obtain⟨⟨rfl,rfl⟩,h⟩:=hb;exact⟨⟨aK _,h⟩,rfl,rfl⟩
  ·cases cW
structure Qs5 where
 (n:Int)(c:Bool)(b:bK)(i:Nat)
def N5(n:Int)(c:Bool)(b:bK)(i:Nat):bX:=[(0,.int .u32 n),(1,.sl (C:=RC) .u8 c b),(5,.int .i64 (i:Int))]
def Hy(n:Int)(c:Bool)(b:bK)(i:Nat):bR:=[]
def R0 n c b i:=eF cF Bo 206 2 60 0 [0,1,5] [0] [] (N5 n c b i) (Hy n c b i)
theorem QCW n c b i:R0 n c b i=(let Z0:Int:=(i:Int);let Z1:Int:=bits IntKind.u32 (fun(x:Nat) (u v:BitVec x)=>u ^^^ v) n (IntKind.wrap IntKind.u32 (↑(UInt8.toNat (List.getD b Z0.toNat (UInt8.ofBitVec (BitVec.ofNat 8 (nat_lit 0))))):Int));cb (Qc b.length) (bif decide (Z0<(b.length:Int))then cb (ep Z0 (b.length:Int)) (cb (oL Z1) (some ((X.normal,[(0,D.int IntKind.u32 (uf 8 Z1)),(1,D.sl ca.u8 c b),(5,cq (cX (Z0+1)))]),[])))else some ((X.exit 0,[(0,D.int IntKind.u32 n)]),[]))):=by kernel_rfl
def GW(n:Int)(c:Bool)(b:bK)(i:Nat):RT RC:=.leaf (.exit 0) [(0,.int .u32 (Ky n (b.drop i)))] []
def Db(n:Int)(c:Bool)(b:bK)(i:Nat):Prop:=i<=b.length/\b.length<=1000000
def vU:QK RC Qs5 where
 k:=0
 cS q:=N5 q.n q.c q.b q.i
 cR q:=Hy q.n q.c q.b q.i
 fin q:=GW q.n q.c q.b q.i
 Inv q:=Db q.n q.c q.b q.i
 μ q:=q.b.length-q.i
theorem Qpn n c b i(hI:Db n c b i):dw (R0 n c b i) (dF vU ⟨n,c,b,i⟩):=by
 (rw[QCW];delta cb ep cq cX;conv=>zeta)
 unfold Db at hI;obtain⟨h1,h2⟩:=hI;have jA:Qc b.length=true:=Qd (by omega)
 by_cases cY:i<b.length
 ·have cN:=fa i (by omega)
  have ei:=gv (show i<b.length by omega)
  have ef:=fV (show i<b.length by omega)
  have dp:=bw i
  simp only[cN,ei,ef,dp,ag];have hx:∀x:Int,oL (bits .u32 (fun _ u v=>u ^^^ v) n x)=true:=fun x=>SY n x;simp only[RW,hx,jA,ag];refine Qg ⟨ss (qZ n ((b.getD i 0).toNat:Int)),c,b,i+1⟩ ⟨cY,h2⟩ (by simp only[vU];omega) ?_ rfl rfl;simp only[vU,GW,Uc b i n cY 0]
 ·have hi:i=b.length:=by omega
  have c1:decide ((i:Int)<b.length)=false:=by simp;omega
  rw[jA,c1];exact Qi [] (by simp only[vU,GW,hi,List.drop_length,Wi,RT.val]) rfl
def N6(env:bX)(os:bR):Option (Bool×Qs5):=match env,os with
 |[(0,.int .u32 n),(1,.sl .u8 c b),(5,.int .i64 x0)],[]=>some (decide (x0=0)&&decide (b.length<=1000000),⟨n,c,b,0⟩)
 |_,_=>none
def Bp:=Bo.cP 206 2 (eZ cF [] [0,1,5] vU N6)
theorem Qs8:Qj Tryz.prog cF Bp:=by
 refine Qs4.cJ Qb (by kernel_rfl) vU 60 [0,1,5] [0] [] [0,1,5] N6 (fun q hI=>?_) ?_
 ·obtain⟨n,c,b,i⟩:=q;refine⟨?_,?_,Qpn n c b i hI⟩
  ·simp_all[Qk,vU,N5,Hy,Db,D.refs,Obj.refs,de]
  ·simp_all[vU,GW,Hy,Db,RT.da,Qk,D.refs,Obj.refs,de]
 ·intro env os b q cW hb;unfold N6 at cW
  split at cW
  ·cases cW;simp only[ai,aa]at hb;obtain⟨rfl,h⟩:=hb;exact⟨⟨aK _,h⟩,rfl,rfl⟩
  ·cases cW
def R1:bW->bO
 |[.int .u32 n,.sl .u8 c b]=>some (decide (b.length<=1000000),.int .u32 (Ky n b))
 |_=>none
def S0(n:Int)(c:Bool)(b:bK):=eU cF Bp 60 211 [.int .u32 n,.sl (C:=RC) .u8 c b]
theorem QEQ n c b:S0 n c b=(let Z0:Nat:=List.length b;cb (Qc Z0) (cb (decide ((↑Z0:Int)=(↑Z0:Int))&&true&&decide (Z0<=(1000000:Nat))) (some (D.int IntKind.u32 (Ky n (List.drop (0:Nat) b)))))):=by kernel_rfl
theorem QER n c b(h:(decide (b.length<=1000000))=true):S0 n c b=some (.int .u32 (Ky n b)):=by
 (rw[QEQ];delta cb;conv=>zeta)
 have hl:=af h;rw[Qd (by omega),h];simp
def Bq:=Bp.cm 211 R1
theorem Qs9:Qj Tryz.prog cF Bq:=Qs8.c6 Qb fun args d h=>by
 unfold R1 at h
 split at h
 ·obtain⟨h1,rfl⟩:=ak h;exact⟨by simp[D.refs],60,QER _ _ _ h1⟩
 ·cases h
def R2:bW->bO
 |[.int .u32 n,.sl .u8 c b]=>some (decide (b.length<=1000000),.int .u32 (Ky n b))
 |_=>none
def S1(n:Int)(c:Bool)(b:bK):=eU cF Bq 60 206 [.int .u32 n,.sl (C:=RC) .u8 c b]
theorem QEU n c b:S1 n c b=(bif decide (List.length b<=(1000000:Nat))then some (D.int IntKind.u32 (Ky n (List.drop (0:Nat) b)))else none):=by kernel_rfl
theorem QEV n c b(h:(decide (b.length<=1000000))=true):S1 n c b=some (.int .u32 (Ky n b)):=by
 rw[QEU];have hl:=af h;rw[h];simp
def Br:=Bq.cm 206 R2
theorem Qta:Qj Tryz.prog cF Br:=Qs9.c6 Qb fun args d h=>by
 unfold R2 at h
 split at h
 ·obtain⟨h1,rfl⟩:=ak h;exact⟨by simp[D.refs],60,QEV _ _ _ h1⟩
 ·cases h
def Qtb:bW->bO
 |[.sl .u8 c b]=>some (decide (b.length<=1000000),.int .u32 (V8 b))
 |_=>none
def R3(c:Bool)(b:bK):=eU cF Br 60 207 [.sl (C:=RC) .u8 c b]
theorem QCX c b:R3 c b=(bif decide (List.length b<=(1000000:Nat))then some (D.int IntKind.u32 (bits IntKind.u32 (fun(x:Nat) (u v:BitVec x)=>u ^^^ v) (4294967295:Int) (Ky (4294967295:Int) b)))else none):=by kernel_rfl
theorem QCY c b(h:(decide (b.length<=1000000))=true):R3 c b=some (.int .u32 (V8 b)):=by
 rw[QCX];rw[h];rfl
def Bs:=Br.cm 207 Qtb
theorem Qtc:Qj Tryz.prog cF Bs:=Qta.c6 Qb fun args d h=>by
 unfold Qtb at h
 split at h
 ·obtain⟨h1,rfl⟩:=ak h;exact⟨by simp[D.refs],60,QCY _ _ h1⟩
 ·cases h
def Qtd:bW->bO
 |[.sl .u8 c b]=>some (decide (b.length<=1000000),.int .u32 (V8 b))
 |_=>none
def R4(c:Bool)(b:bK):=eU cF Bs 60 193 [.sl (C:=RC) .u8 c b]
theorem QCZ c b:R4 c b=(bif decide (List.length b<=(1000000:Nat))then some (D.int IntKind.u32 (bits IntKind.u32 (fun(x:Nat) (u v:BitVec x)=>u ^^^ v) (4294967295:Int) (Ky (4294967295:Int) b)))else none):=by kernel_rfl
theorem QC0 c b(h:(decide (b.length<=1000000))=true):R4 c b=some (.int .u32 (V8 b)):=by
 rw[QCZ];rw[h];rfl
def IK:=Bs.cm 193 Qtd
theorem Qpo:Qj Tryz.prog cF IK:=Qtc.c6 Qb fun args d h=>by
 unfold Qtd at h
 split at h
 ·obtain⟨h1,rfl⟩:=ak h;exact⟨by simp[D.refs],60,QC0 _ _ h1⟩
 ·cases h
def XY:bW->bO
 |[.sl .u8 c b]=>some (decide (b.length<=1000000),.sl (C:=RC) .u8 false (Y7 b))
 |_=>none
def Qtf(c:Bool)(b:bK):=eU cF IK 60 197 [.sl (C:=RC) .u8 c b]
theorem QyN c b:Qtf c b=(let Z0:=b.length;let Z1:Int:=(Z0:Int);let Z2:=cX (Z1+4);let Z3:=Int.toNat Z1;let Z4:=List.replicate Z3 (UInt8.ofBitVec (BitVec.ofNat 8 (nat_lit 0)));let Z5:=List.take Z4.length b++List.drop Z0 Z4;let Z6:bK:=[UInt8.ofNat (IntKind.wrap IntKind.u8 (V8 b)).toNat];let Z7:=Z5.length+Z6.length;let Z8:=List.length (Z5++Z6);let Z9:=Int.fdiv (V8 b) 256;let dg:bK:=[UInt8.ofNat (IntKind.wrap IntKind.u8 Z9).toNat];let dq:=List.length (Z5++Z6++dg);let dE:=Int.fdiv Z9 256;let dQ:bK:=[UInt8.ofNat (IntKind.wrap IntKind.u8 dE).toNat];let dv:=List.length (Z5++Z6++dg++dQ);let dT:bK:=[UInt8.ofNat (IntKind.wrap IntKind.u8 (Int.fdiv dE 256)).toNat];cb (Qc Z0) (cb (Qc Z0) (cb (decide ((0:Int)<=Z1/\Z1<=Z2)&&Qf Z2.toNat 1) (cb (Nat.beq Z3 Z4.length&&Qc Z3) (cb (decide (Z0<=1000000)) (cb (Nat.beq Z3 Z5.length&&Qf (Z3+Z6.length) 1) (cb (Nat.beq Z7 Z8&&Qf (Z7+dg.length) 1) (cb (Nat.beq (Z8+dg.length) dq&&Qf (Z8+dg.length+dQ.length) 1) (cb (Nat.beq (dq+dQ.length) dv&&Qf (dq+dQ.length+dT.length) 1) (cb (Nat.beq (dv+dT.length) (Z5++Z6++dg++dQ++dT).length) (some (D.sl ca.u8 false (Z5++Z6++dg++dQ++dT))))))))))))):=by kernel_rfl
theorem QyO c b(h:(decide (b.length<=1000000))=true):Qtf c b=some (.sl (C:=RC) .u8 false (Y7 b)):=by
 (rw[QyN];delta cb cX;conv=>zeta)
 have hl:=af h;have t1:((b.length:Int)).toNat=b.length:=by simp
 have t2:b.take (List.replicate b.length (⟨0#8⟩:UInt8)).length=b:=by simp
 have t3:(List.replicate b.length (⟨0#8⟩:UInt8)).drop b.length=[]:=by simp
 have w4:IntKind.i64.wrap ((b.length:Int)+4)=(b.length:Int)+4:=cu (by omega) (by omega);have t4:((b.length:Int)+4).toNat=b.length+4:=by omega
 simp only[t1,t2,t3,t4,w4,aR,TX,ay,aP,aH,aE,bH,aC,bt,List.take_length,aN,Nat.reduceAdd,Nat.add_assoc];have eb:∀n:Nat,n.beq n=true:=fun n=>by simp
 have es:∀k:Nat,k<=10->Qf (b.length+k) 1=true:=fun k hk=>Zb (by omega);simp only[eb,es,Nat.reduceLeDiff,au,Bool.true_and,ag]
 repeat (refine Qa (by first|assumption|exact Qd (by omega)|exact Zb (by omega)|(simp;done)|(simp;omega)|(simp[Qf];omega)) ?_)
 rfl
def IL:=IK.cm 197 XY
theorem Qpp:Qj Tryz.prog cF IL:=Qpo.c6 Qb fun args d h=>by
 unfold XY at h
 split at h
 ·obtain⟨h1,rfl⟩:=ak h;exact⟨by simp[D.refs],60,QyO _ _ h1⟩
 ·cases h
def XZ:bW->bO
 |[.sl .u8 c b]=>some (decide (b.length<=1000000),.sl (C:=RC) .u8 false (Y7 b))
 |_=>none
def Qth(c:Bool)(b:bK):=eU cF IL 60 167 [.sl (C:=RC) .u8 c b]
theorem QyP c b:Qth c b=(let Z0:Nat:=(0:Nat)+b.length;let Z1:=List.length ([]++b);let Z2:=V8 b;let Z3:bK:=[UInt8.ofNat (IntKind.wrap IntKind.u8 (bits IntKind.u32 (fun(x:Nat) (u v:BitVec x)=>u&&&v) Z2 255)).toNat,UInt8.ofNat (IntKind.wrap IntKind.u8 (bits IntKind.u32 (fun(x:Nat) (u v:BitVec x)=>u&&&v) (Int.fdiv Z2 256) 255)).toNat,UInt8.ofNat (IntKind.wrap IntKind.u8 (bits IntKind.u32 (fun(x:Nat) (u v:BitVec x)=>u&&&v) (Int.fdiv Z2 65536) 255)).toNat,UInt8.ofNat (IntKind.wrap IntKind.u8 (Int.fdiv Z2 16777216)).toNat];cb (decide (b.length<=1000000)) (cb (Qf Z0 1) (cb (Nat.beq Z0 Z1&&Qf (Z0+Z3.length) 1) (cb (Nat.beq (Z1+Z3.length) ([]++b++Z3).length) (some (D.sl ca.u8 false ([]++b++Z3))))))):=by kernel_rfl
theorem QyQ c b(h:(decide (b.length<=1000000))=true):Qth c b=some (.sl (C:=RC) .u8 false (Y7 b)):=by
 (rw[QyP];delta cb;conv=>zeta)
 have hl:=af h;have hr:=QkD b;have f8:(V8 b).fdiv 256=V8 b/256:=aQ _ (by omega);have f16:(V8 b).fdiv 65536=V8 b/65536:=aQ _ (by omega);have f24:(V8 b).fdiv 16777216=V8 b/16777216:=aQ _ (by omega);have g1:((V8 b).fdiv 256).fdiv 256=V8 b/65536:=by rw[f8,aQ _ (by omega)];omega
 have g2:(((V8 b).fdiv 256).fdiv 256).fdiv 256=V8 b/16777216:=by rw[g1,aQ _ (by omega)];omega
 simp only[f8,f16,f24,N7 hr,N7 (n:=V8 b/256) (by omega),N7 (n:=V8 b/65536) (by omega),TX,Qpj,aH,aE,bH,aC]
 iterate 4 refine Qa (by first|exact Qd (by simp;omega)|exact Qd (by omega)|(simp[Qf];done)|(simp[Qf];omega)|omega) ?_
 rw[Y7,P2,g2,g1,f8]
def IM:=IL.cm 167 XZ
theorem Qpq:Qj Tryz.prog cF IM:=Qpp.c6 Qb fun args d h=>by
 unfold XZ at h
 split at h
 ·obtain⟨h1,rfl⟩:=ak h;exact⟨by simp[D.refs],60,QyQ _ _ h1⟩
 ·cases h
def X5:bW->bO
 |[.sl .u8 c b]=>some (decide (b.length<=1000000),.cH (cL .u8 (ZX b).isNone ((ZX b).getD []) (cG (bif(ZX b).isNone then 50 else 0) .bN)))
 |_=>none
def Qtj(c:Bool)(b:bK):=eU cF IM 60 178 [.sl (C:=RC) .u8 c b]
theorem QyR c b:Qtj c b=(let Z0:=b.length;let Z1:=cX ((Z0:Int)-4);let Z2:fG:=some (D.cH (D.bI (D.sl ca.u8 true []) (.bI (cq 50) .bN)));let Z3:=Int.toNat Z1;let Z4:=List.drop 0 (List.take Z3 b);let Z5:=List.replicate Z3 (UInt8.ofBitVec (BitVec.ofNat 8 (nat_lit 0)));let Z6:=List.take Z5.length b++List.drop Z0 Z5;cb (Qc Z0) (bif decide (Z1<0)then Z2 else cb (decide ((0:Int)<=0/\(0:Int)<=Z1/\Z1<=(Z0:Int)/\Z1=Z1)) (cb (decide (Z4.length<=1000000)) (cb (decide ((0:Int)<=Z1/\Z1<=(↑(Y7 Z4).length:Int))) (cb (decide ((0:Int)<=Z1/\Z1<=(Z0:Int))) (bif !(fun(l:List (RA ca.u8))=>l) (List.drop Z3 (Y7 Z4))==(fun(l:List (RA ca.u8))=>l) (List.drop Z3 b)then Z2 else cb (decide ((0:Int)<=Z1/\Z1<=Z1)&&Qf Z3 1) (cb (Nat.beq Z3 Z5.length&&Qc Z3) (cb (Nat.beq Z3 Z6.length) (some (D.cH (D.bI (D.sl ca.u8 false Z6) (.bI (cq 0) .bN)))))))))))):=by kernel_rfl
theorem QyS c b(h:(decide (b.length<=1000000))=true):Qtj c b=some (.cH (cL .u8 (ZX b).isNone ((ZX b).getD []) (cG (bif(ZX b).isNone then 50 else 0) .bN))):=by
 (rw[QyR];delta cb cq cX;conv=>zeta)
 have hl:=af h;have wm:IntKind.i64.wrap ((b.length:Int)-4)=(b.length:Int)-4:=cu (by omega) (by omega);have tm:((b.length:Int)-4).toNat=b.length-4:=by omega
 have ts:(b.take (b.length-4)).length=b.length-4:=by simp
 simp only[wm,tm,bG];refine Qa (Qd (by omega)) ?_;refine Qy (fun h0=>?_) fun h0=>?_<;>simp only[aa,ae]at h0
 ·have e:ZX b=none:=by unfold ZX;rw[aw (by omega)]
  rw[e];rfl
 iterate 2 refine Qa (by first|exact Qd (by simp;omega)|exact Qd (by omega)|(simp[Qf];done)|(simp[Qf];omega)|omega) ?_
 refine Qa (by simp[Gm,ts];omega) ?_
 iterate 1 refine Qa (by first|exact Qd (by simp;omega)|exact Qd (by omega)|(simp[Qf];done)|(simp[Qf];omega)|omega) ?_
 have ht:=Qpi b (by omega)
 by_cases hq:Y7 (b.take (b.length-4))=b
 ·have e:ZX b=some (b.take (b.length-4)):=by unfold ZX;rw[ax ⟨by omega,hq⟩]
  rw[ht.2 hq,e];have tr:b.take (List.replicate (b.length-4) (⟨0#8⟩:UInt8)).length=b.take (b.length-4):=by rw[bt]
  have td:(List.replicate (b.length-4) (⟨0#8⟩:UInt8)).drop b.length=[]:=by simp
  simp only[beq_self_eq_true,bg,ah,tr,td,aR,bt,ts];have lk:Qc (b.length-4)=true:=Qd (by omega);have eb:∀n:Nat,n.beq n=true:=fun n=>by simp
  simp only[lk,eb,au,ag]
  repeat (refine Qa (by first|assumption|exact Qd (by omega)|exact Zb (by omega)|(simp;done)|(simp;omega)|(simp[Qf];omega)) ?_)
  rfl
 ·have e:ZX b=none:=by unfold ZX;rw[aw (fun q=>hq q.2)]
  rw[e,show((Y7 (b.take (b.length-4))).drop (b.length-4)==b.drop (b.length-4))=false by simpa using fun q=>hq (ht.1 q)];rfl
def IN:=IM.cm 178 X5
theorem Qpr:Qj Tryz.prog cF IN:=Qpq.c6 Qb fun args d h=>by
 unfold X5 at h
 split at h
 ·obtain⟨h1,rfl⟩:=ak h;exact⟨by simp[D.refs],60,QyS _ _ h1⟩
 ·cases h
def X8:bW->bO
 |[.sl .u8 c b]=>some (decide (b.length<=1000000),.cH (cL .u8 (ZX b).isNone ((ZX b).getD []) (cG (bif(ZX b).isNone then 50 else 0) .bN)))
 |_=>none
def Qtl(c:Bool)(b:bK):=eU cF IN 60 156 [.sl (C:=RC) .u8 c b]
theorem QyT c b:Qtl c b=(let Z0:Int:=(b.length:Int);let Z1:=cX (Z0-4);let Z2:fG:=some (D.cH (D.bI (D.sl ca.u8 true []) (.bI (cq 50) .bN)));let Z3:Bool:=decide ((0:Int)<=0/\(0:Int)<=Z1/\Z1<=Z0);let Z4:=List.drop 0 (List.take Z1.toNat b);let Z5:Nat:=(0:Nat)+Z4.length;cb (Qc b.length) (bif decide (Z1<0)then Z2 else cb Z3 (cb (decide (Z4.length<=1000000)) (bif !(fun(l:List (RA ca.u8))=>l) (Y7 Z4)==(fun(l:List (RA ca.u8))=>l) b then Z2 else cb Z3 (cb (Qf Z5 1) (cb (Nat.beq Z5 ([]++Z4).length) (some (D.cH (D.bI (D.sl ca.u8 false ([]++Z4)) (.bI (cq 0) .bN)))))))))):=by kernel_rfl
theorem QyU c b(h:(decide (b.length<=1000000))=true):Qtl c b=some (.cH (cL .u8 (ZX b).isNone ((ZX b).getD []) (cG (bif(ZX b).isNone then 50 else 0) .bN))):=by
 (rw[QyT];delta cb cq cX;conv=>zeta)
 have hl:=af h;have wm:IntKind.i64.wrap ((b.length:Int)-4)=(b.length:Int)-4:=cu (by omega) (by omega);have tm:((b.length:Int)-4).toNat=b.length-4:=by omega
 have ts:(b.take (b.length-4)).length=b.length-4:=by simp
 simp only[wm,tm,bG,aH];refine Qa (Qd (by omega)) ?_;refine Qy (fun h0=>?_) fun h0=>?_<;>simp only[aa,ae]at h0
 ·have e:ZX b=none:=by unfold ZX;rw[aw (by omega)]
  rw[e];rfl
 iterate 2 refine Qa (by first|exact Qd (by simp;omega)|exact Qd (by omega)|(simp[Qf];done)|(simp[Qf];omega)|omega) ?_
 by_cases hq:Y7 (b.take (b.length-4))=b
 ·have e:ZX b=some (b.take (b.length-4)):=by unfold ZX;rw[ax ⟨by omega,hq⟩]
  rw[hq,e];simp only[beq_self_eq_true,bg,ah]
  iterate 3 refine Qa (by first|exact Qd (by simp;omega)|exact Qd (by omega)|(simp[Qf];done)|(simp[Qf];omega)|omega) ?_
  rfl
 ·have e:ZX b=none:=by unfold ZX;rw[aw (fun q=>hq q.2)]
  rw[e,show(Y7 (b.take (b.length-4))==b)=false by simpa using hq];rfl
def IP:=IN.cm 156 X8
theorem Qps:Qj Tryz.prog cF IP:=Qpr.c6 Qb fun args d h=>by
 unfold X8 at h
 split at h
 ·obtain⟨h1,rfl⟩:=ak h;exact⟨by simp[D.refs],60,QyU _ _ h1⟩
 ·cases h
def Zn(s:cB):Bool:=decide (0<=s.n)&&decide (s.n<=1048575)&&decide (s.b.length<=640)&&(decide (0<s.n)||s.b==[])
def YF(l:bL):Bool:=decide (l.length=33)&&l.all Zn
def pW(now sure:bL)(i:Nat):Bool:=((now.zip sure).drop i).all fun p=>decide (p.2.n<=p.1.n)
def Qt(now sure:bL):Bool:=YF now&&YF sure&&pW now sure 0
theorem Yl{now sure:bL}(h:Qt now sure=true):now.length=33/\sure.length=33:=by
 simp only[Qt,YF,ai,aa]at h;exact⟨h.1.1.1,h.1.2.1⟩
def iU:cB:=⟨0,[]⟩
theorem Ki{α:Type}(l:List α)(p:α->Bool)(i:Nat)(h:i<l.length)(d:α):(l.drop i).all p=(p (l.getD i d)&&(l.drop (i+1)).all p):=by
 have e:l.getD i d=l[i]:=by simp[h]
 rw[aJ h,e,List.all_cons]
theorem Ud{now sure:bL}(i:Nat)(h1:i<now.length)(h2:i<sure.length)(d:cB):pW now sure i=(decide ((sure.getD i d).n<=(now.getD i d).n)&&pW now sure (i+1)):=by
 unfold pW;rw[Ki _ _ i (by simp;omega) (d,d)]
 have e:(now.zip sure).getD i (d,d)=(now.getD i d,sure.getD i d):=by
  have hz:i<(now.zip sure).length:=by simp;omega
  simp[ar,aY hz,h1,h2]
 rw[e]
theorem Wk{now sure:bL}(i:Nat)(h:now.length<=i):pW now sure i=true:=by
 unfold pW;rw[aO (by simp;omega)];rfl
def Cp(l:bL)(i:Nat):Nat:=i+(l.drop i).findIdx fun s=>!Zn s
def Zk(now sure:bL)(k n:Int)(b:bK):Bool:=Qt now sure&&(decide (0<=k)&&decide (k<33)&&decide (1<=n) && !(b==[])&&Zn ⟨n,b⟩)
def K3(now:bL)(k:Nat)(n:Int)(b:bK):bL:=if(now.getD k iU).n<n then now.set k ⟨n,b⟩else now
theorem L6 now k n b:(K3 now k n b).length=now.length:=by unfold K3;split<;>simp
def JO(l:bL)(i:Nat):Bool:=(l.drop i).any fun s=>decide (3000<(s.b.length:Int))
def Hz(now sure:bL):Bool:=decide ((60:Int)<now.length)||decide ((60:Int)<sure.length)||JO now 0||JO sure 0
theorem QEW{α:Type}(l:List α)(k:Nat)(x:α)(h:k<l.length):l.take k++[x]++l.drop (k+1)=l.set k x:=by
 rw[List.set_eq_take_append_cons_drop,ax h];simp
theorem K4{l:bL}(h:YF l=true):l.length=33:=by simp only[YF,ai,aa]at h;exact h.1
theorem QyV l i:i<=Cp l i:=Nat.le_add_right _ _
theorem Qpu l i(h:i<l.length)(d:cB):Cp l i=if Zn (l.getD i d)=true then Cp l (i+1)else i:=by
 have e:l.getD i d=l[i]:=by simp[h]
 unfold Cp;rw[aJ h,e,List.findIdx_cons];cases Zn l[i]<;>simp;omega
def iG(now sure:bL)(k n:Int)(b:bK):bL:=bif Zk now sure k n b then K3 now k.toNat n b else[]
def VN(now sure:bL)(k n:Int)(b:bK):bL:=bif Zk now sure k n b then sure else[]
def YS(now sure:bL)(k:Int):Bool:=Qt now sure&&(decide (0<=k)&&decide (k<33))
def iE(now sure:bL)(k:Int):cB:=bif YS now sure k then now.getD k.toNat iU else iU
theorem TY l i(h:i<l.length)(d:cB):JO l i=(decide (3000<((l.getD i d).b.length:Int))||JO l (i+1)):=by
 have e:l.getD i d=l[i]:=by simp[h]
 unfold JO;rw[aJ h,e,List.any_cons]
theorem Ue(l:bL):JO l l.length=false:=by simp[JO]
theorem QyW(x y:cB):(x.n==y.n&&(x.b==y.b&&true))=decide (x=y):=by
 rw[Bool.eq_iff_iff];cases x;cases y;simp
def Ql(l:bL):Bool:=decide (l.length<=9223372036854775807)&&l.all fun s=>Qc s.b.length
theorem Zo{l:bL}:Ql l=true↔l.length<=9223372036854775807/\∀s∈l,Qc s.b.length=true:=by simp[Ql]
theorem GX{l:bL}(h:Ql l=true)(i:Nat)(hi:i<l.length)(d:cB):Qc (l.getD i d).b.length=true:=by
 have e:l.getD i d=l[i]:=by simp[hi]
 rw[e];exact(Zo.1 h).2 _ (bA hi)
theorem LM{now sure:bL}{k n:Int}{b:bK}(h:Zk now sure k n b=true):Qt now sure=true/\0<=k/\k<33/\1<=n/\b≠[]/\Zn ⟨n,b⟩=true:=by
 simp only[Zk,ai,aa]at h;obtain⟨h1,⟨⟨⟨h2,h3⟩,h4⟩,h5⟩,h6⟩:=h;exact⟨h1,h2,h3,h4,by simpa using h5,h6⟩
theorem Zw{now sure:bL}{k n:Int}{b:bK}(h:¬(Qt now sure=true/\0<=k/\k<33/\1<=n/\b≠[]/\Zn ⟨n,b⟩=true)):Zk now sure k n b=false:=by
 cases e:Zk now sure k n b
 ·rfl
 ·exact absurd (LM e) h
open Go.Proofs
def Qtm:bW->bO
 |[.bI (.int .i64 n) (.bI (.str b) .bN)]=>some (Qc b.length,.bool (Zn ⟨n,b⟩))
 |_=>none
def R5(n:Int)(b:bK):=eU cF IP 40 85 [.bI (.int .i64 n) (.bI (.str b) .bN)]
theorem QC6 n b:R5 n b=(let Z0:fG:=some (D.bool false);bif decide ((0:Int)<=n)then bif decide (n<=1048575)then bif Qc b.length then bif decide ((b.length:Int)<=640)then bif decide ((0:Int)<n)then some (D.bool true)else some (D.bool (b==Array.toList #[]))else Z0 else none else Z0 else Z0):=by kernel_rfl
theorem QC7 n b(h:(Qc b.length)=true):R5 n b=some (.bool (Zn ⟨n,b⟩)):=by
 (rw[QC6];conv=>zeta)
 have hb:decide (((b.length:Nat):Int)<=640)=decide (b.length<=640):=by rw[decide_eq_decide];omega
 simp only[Zn,h,hb,ag];cases decide (0<=n)<;>cases decide (n<=1048575)<;>cases decide (b.length<=640)<;>cases decide (0<n)<;>cases b<;>rfl
def Bt:=IP.cm 85 Qtm
theorem Qtn:Qj Tryz.prog cF Bt:=Qps.c6 Qb fun args d h=>by
 unfold Qtm at h
 split at h
 ·obtain⟨h1,rfl⟩:=ak h;exact⟨by simp[D.refs],40,QC7 _ _ h1⟩
 ·cases h
structure Qto where
 (c:Bool)(l:bL)(i:Nat)
def Ok(c:Bool)(l:bL)(i:Nat):bX:=[(0,.sl (C:=RC) .bS c l),(1,.fn 143 (.bI (.ptr 0 []) .bN)),(4,.int .i64 0),(7,.int .i64 (l.length)),(8,.int .i64 (i:Int))]
def vV(c:Bool)(l:bL)(i:Nat):bR:=[.var 123 (.fn 85 .bN)]
def R6 c l i:=eF cF Bt 177 2 40 1 [0,1,4,7,8] [4] [.slot 1 0] (Ok c l i) (vV c l i)
theorem QC8 c l i:R6 c l i=(let Z0:Int:=(i:Int);let Z1:Int:=(l.length:Int);let Z2:cB:=List.getD l Z0.toNat (cB.mk 0 []);let Z3:b9:=[some (Obj.var 123 (D.fn 85 .bN))];let Z4:Nat×bQ:=(4,cq 0);bif decide (Z0<Z1)then cb (ep Z0 Z1) (cb (Qc (cB.b Z2).length) (bif !Zn (cB.mk (cB.n Z2) (cB.b Z2))then some ((X.ret,[(4,cq Z0)]),Z3)else some ((X.normal,[(0,D.sl ca.bS c l),(1,D.fn 143 (.bI (D.ptr 0 []) .bN)),Z4,(7,cq Z1),(8,cq (cX (Z0+1)))]),Z3)))else some ((X.exit 0,[Z4]),Z3)):=by kernel_rfl
def Dc(c:Bool)(l:bL)(i:Nat):RT RC:=.br (l.drop i |>.all Zn) (.leaf (.exit 0) [(4,.int .i64 0)] (vV c l i)) (.leaf .ret [(4,.int .i64 (Cp l i))] (vV c l i))
def De(c:Bool)(l:bL)(i:Nat):Prop:=i<=l.length/\Ql l=true
def ux:QK RC Qto where
 k:=1
 cS q:=Ok q.c q.l q.i
 cR q:=vV q.c q.l q.i
 fin q:=Dc q.c q.l q.i
 Inv q:=De q.c q.l q.i
 μ q:=q.l.length-q.i
theorem Qpv c l i(hI:De c l i):dw (R6 c l i) (dF ux ⟨c,l,i⟩):=by
 (rw[QC8];delta cb ep cq cX;conv=>zeta)
 unfold De at hI;obtain⟨h1,hg⟩:=hI;have h2:=(Zo.1 hg).1
 by_cases cY:i<l.length
 ·have cN:=fa i (by omega)
  have ei:=gv (show i<l.length by omega)
  have ef:=fV (show i<l.length by omega)
  have dp:=bw i
  have ir:IntKind.i64.wrap ((i:Int)-1)=(i:Int)-1:=cu (by omega) (by omega);have iq:((i:Int)-1).toNat=i-1:=by omega
  simp only[cN,ei,ef,dp,ir,iq,ag];have jA:=GX hg i cY (⟨0,[]⟩:cB);have eI:=Ki l Zn i cY (⟨0,[]⟩:cB);have hb:=Qpu l i cY (⟨0,[]⟩:cB);generalize l.getD i (⟨0,[]⟩:cB)=x at eI hb jA ⊢;simp only[jA,ag];cases a1:Zn x
  ·exact QT (vV c l i) (by simp[ux,Dc,eI,hb,a1,RT.val]) rfl
  ·exact Qg ⟨c,l,i+1⟩ ⟨cY,hg⟩ (by simp only[ux];omega) (by simp[ux,Dc,eI,hb,a1];rfl) rfl rfl
 ·have hi:i=l.length:=by omega
  have c1:decide ((i:Int)<l.length)=false:=by simp;omega
  rw[c1];exact Qi (vV c l i) (by simp[ux,Dc,hi,RT.val]) rfl
def Ol(env:bX)(os:bR):Option (Bool×Qto):=match env,os with
 |[(0,.sl .bS c l),(1,.fn 143 (.bI (.ptr 0 []) .bN)),(4,.int .i64 0),(7,.int .i64 x0),(8,.int .i64 x1)],[.var 123 (.fn 85 .bN)]=>some (decide (x0=l.length)&&decide (x1=0)&&Ql l,⟨c,l,0⟩)
 |_,_=>none
def Bu:=Bt.cP 177 2 (eZ cF [.slot 1 0] [0,1,4,7,8] ux Ol)
theorem Qtr:Qj Tryz.prog cF Bu:=by
 refine Qtn.cJ Qb (by kernel_rfl) ux 40 [0,1,4,7,8] [4] [.slot 1 0] [0,1,4,7,8] Ol (fun q hI=>?_) ?_
 ·obtain⟨c,l,i⟩:=q;refine⟨?_,?_,Qpv c l i hI⟩
  ·simp_all[Qk,ux,Ok,vV,De,D.refs,Obj.refs,de]
  ·simp_all[ux,Dc,vV,De,RT.da,Qk,D.refs,Obj.refs,de]
 ·intro env os b q cW hb;unfold Ol at cW
  split at cW
  ·cases cW;simp only[ai,aa]at hb;obtain⟨⟨rfl,rfl⟩,hl⟩:=hb;exact⟨⟨aK _,hl⟩,rfl,rfl⟩
  ·cases cW
def Qts:bW->bO
 |[.sl .bS c l,.int .i64 33,.fn 85 .bN]=>some (Ql l,.bool (YF l))
 |_=>none
def RE(c:Bool)(l:bL):=eU cF Bu 40 84 [.sl (C:=RC) .bS c l,.int .i64 33,.fn 85 .bN]
theorem QC9 c l:RE c l=(let Z0:=Qc l.length;let Z1:Int:=(l.length:Int);cb Z0 (bif Z1==33 then cb Z0 (cb (decide (Z1=Z1)&&true&&Ql l) (bif List.all (List.drop 0 l) Zn then some (D.bool true)else some (D.bool !decide ((0:Int)<=(↑(Cp l 0):Int)))))else some (D.bool false))):=by kernel_rfl
theorem QDa c l(h:(Ql l)=true):RE c l=some (.bool (YF l)):=by
 (rw[QC9];delta cb;conv=>zeta)
 have hl:=(Zo.1 h).1;have lk:=Qd hl;have hb:=QyV l 0;simp only[h,lk,YF,ag,bG]
 by_cases e:l.length=33
 ·have e2:((l.length:Int)==33)=true:=by simp[e]
  cases hm:l.all Zn<;>simp[e,hm]<;>omega
 ·have e2:((l.length:Int)==33)=false:=by simp;omega
  simp[e,e2]
def Bv:=Bu.cm 84 Qts
theorem Qtt:Qj Tryz.prog cF Bv:=Qtr.c6 Qb fun args d h=>by
 unfold Qts at h
 split at h
 ·obtain⟨h1,rfl⟩:=ak h;exact⟨by simp[D.refs],40,QDa _ _ h1⟩
 ·cases h
structure Qtu where
 (c:Bool)(now:bL)(r:bQ)(d:Bool)(sure:bL)(i:Nat)
def Om(c:Bool)(now:bL)(r:bQ)(d:Bool)(sure:bL)(i:Nat):bX:=[(1,.ptr 0 []),(2,.int .i64 0),(16,.sl (C:=RC) .bS c now),(17,.int .i64 (now.length)),(18,.int .i64 (i:Int))]
def vW(c:Bool)(now:bL)(r:bQ)(d:Bool)(sure:bL)(i:Nat):bR:=[.var 24 (.bI r (cL .bS d sure .bN))]
def RF c now r d sure i:=eF cF Bv 33 4 40 1 [1,2,16,17,18] [2] [.slot 1 0] (Om c now r d sure i) (vW c now r d sure i)
theorem QDb c now r d sure i:RF c now r d sure i=(let Z0:Int:=(i:Int);let Z1:Int:=(now.length:Int);let Z2:b9:=[some (Obj.var 24 (.bI r (D.bI (D.sl ca.bS d sure) .bN)))];let Z3:Nat×bQ:=(2,cq 0);bif decide (Z0<Z1)then cb (ep Z0 Z1) (cb (ep Z0 (sure.length:Int)) (bif decide (cB.n (List.getD now Z0.toNat (cB.mk 0 []))<cB.n (List.getD sure Z0.toNat (cB.mk 0 [])))then some ((X.ret,[(2,cq 2)]),Z2)else some ((X.normal,[(1,D.ptr 0 []),Z3,(16,D.sl ca.bS c now),(17,cq Z1),(18,cq (cX (Z0+1)))]),Z2)))else some ((X.exit 0,[Z3]),Z2)):=by kernel_rfl
def Dk(c:Bool)(now:bL)(r:bQ)(d:Bool)(sure:bL)(i:Nat):RT RC:=.br (pW now sure i) (.leaf (.exit 0) [(2,.int .i64 0)] (vW c now r d sure i)) (.leaf .ret [(2,.int .i64 2)] (vW c now r d sure i))
def Dl(c:Bool)(now:bL)(r:bQ)(d:Bool)(sure:bL)(i:Nat):Prop:=r.refs=[]/\i<=now.length/\now.length<=9223372036854775807/\now.length=sure.length
def uy:QK RC Qtu where
 k:=1
 cS q:=Om q.c q.now q.r q.d q.sure q.i
 cR q:=vW q.c q.now q.r q.d q.sure q.i
 fin q:=Dk q.c q.now q.r q.d q.sure q.i
 Inv q:=Dl q.c q.now q.r q.d q.sure q.i
 μ q:=q.now.length-q.i
theorem Qpw c now r d sure i(hI:Dl c now r d sure i):dw (RF c now r d sure i) (dF uy ⟨c,now,r,d,sure,i⟩):=by
 (rw[QDb];delta cb ep cq cX;conv=>zeta)
 unfold Dl at hI;obtain⟨h0,h1,h2,h3⟩:=hI
 by_cases cY:i<now.length
 ·have cN:=fa i (by omega)
  have ei:=gv (show i<now.length by omega)
  have ef:=fV (show i<now.length by omega)
  have dp:=bw i
  have ir:IntKind.i64.wrap ((i:Int)-1)=(i:Int)-1:=cu (by omega) (by omega);have iq:((i:Int)-1).toNat=i-1:=by omega
  simp only[cN,ei,ef,dp,ir,iq,ag];have E4:i<sure.length:=by omega
  have pr:=fV (show i<sure.length by omega)
  simp only[pr,ag];have eI:=Ud (now:=now) (sure:=sure) i cY (by omega) (⟨0,[]⟩:cB);generalize now.getD i (⟨0,[]⟩:cB)=x at eI ⊢;generalize sure.getD i (⟨0,[]⟩:cB)=y at eI ⊢;cases a1:decide (y.n<=x.n)
  ·have a2:decide (x.n<y.n)=true:=by simp at a1 ⊢;exact a1
   simp only[a2,ag];exact QT (vW c now r d sure i) (by simp[uy,Dk,eI,a1,RT.val]) rfl
  ·have a2:decide (x.n<y.n)=false:=by simp at a1 ⊢;exact a1
   simp only[a2,ah];exact Qg ⟨c,now,r,d,sure,i+1⟩ ⟨h0,cY,h2,h3⟩ (by simp only[uy];omega) (by simp[uy,Dk,eI,a1];rfl) rfl rfl
 ·have hi:i=now.length:=by omega
  have c1:decide ((i:Int)<now.length)=false:=by simp;omega
  rw[c1];exact Qi (vW c now r d sure i) (by simp[uy,Dk,hi,Wk,RT.val]) rfl
def On(env:bX)(os:bR):Option (Bool×Qtu):=match env,os with
 |[(1,.ptr 0 []),(2,.int .i64 0),(16,.sl .bS c now),(17,.int .i64 x0),(18,.int .i64 x1)],[.var 24 (.bI r (.bI (.sl .bS d sure) .bN))]=>Qv (r.refs.isEmpty) (decide (x0=now.length)&&decide (x1=0)&&decide (now.length<=9223372036854775807/\now.length=sure.length),⟨c,now,r,d,sure,0⟩)
 |_,_=>none
def Bw:=Bv.cP 33 4 (eZ cF [.slot 1 0] [1,2,16,17,18] uy On)
theorem Qtx:Qj Tryz.prog cF Bw:=by
 refine Qtt.cJ Qb (by kernel_rfl) uy 40 [1,2,16,17,18] [2] [.slot 1 0] [1,2,16,17,18] On (fun q hI=>?_) ?_
 ·obtain⟨c,now,r,d,sure,i⟩:=q;refine⟨?_,?_,Qpw c now r d sure i hI⟩
  ·simp_all[Qk,uy,Om,vW,Dl,D.refs,Obj.refs,de]
  ·simp_all[uy,Dk,vW,Dl,RT.da,Qk,D.refs,Obj.refs,de]
 ·intro env os b q cW hb;unfold On at cW
  split at cW
  ·obtain⟨hs,cW⟩:=Qe cW;cases cW;simp only[ai,aa]at hb;obtain⟨⟨rfl,rfl⟩,hl⟩:=hb;exact⟨⟨List.isEmpty_iff.1 hs,aK _,hl⟩,rfl,rfl⟩
  ·cases cW
def Wl:bW->bO
 |[.bI (.sl .bS c now) (.bI (.sl .bS d sure) .bN)]=>some (Ql now&&Ql sure,.int .i64 (bif Qt now sure then 0 else 2))
 |_=>none
def QmL(c:Bool)(now:bL)(d:Bool)(sure:bL):=eU cF Bw 40 33 [.bI (.sl (C:=RC) .bS c now) (cL .bS d sure .bN)]
theorem Qty c now d sure:QmL c now d sure=(let Z0:fG:=some (cq 2);let Z1:=now.length;cb (Ql now) (bif !YF now then Z0 else cb (Ql sure) (bif !YF sure then Z0 else cb (Qc Z1) (cb (decide ((Z1:Int)=(Z1:Int))&&true&&decide (Z1<=9223372036854775807/\Z1=sure.length)) (bif pW now sure 0 then some (cq 0)else Z0))))):=by kernel_rfl
theorem Qtz c now d sure(h:(Ql now&&Ql sure)=true):QmL c now d sure=some (.int .i64 (bif Qt now sure then 0 else 2)):=by
 (rw[Qty];delta cb cq;conv=>zeta)
 rw[ai]at h;obtain⟨hg,pO⟩:=h;have hl:=(Zo.1 hg).1;have hs:=(Zo.1 pO).1;have lk:=Qd hl;simp only[hg,pO,lk,au,ag,Qt];cases h1:YF now
 ·rfl
 cases h2:YF sure
 ·rfl
 have l1:=K4 h1;have l2:=K4 h2;have e:decide (now.length<=9223372036854775807/\now.length=sure.length)=true:=by simp;omega
 cases h3:pW now sure 0<;>simp[e]
def Bx:=Bw.cm 33 Wl
theorem QtA:Qj Tryz.prog cF Bx:=Qtx.c6 Qb fun args d h=>by
 unfold Wl at h
 split at h
 ·obtain⟨h1,rfl⟩:=ak h;exact⟨by simp[D.refs],40,Qtz _ _ _ _ h1⟩
 ·cases h
def Wm:bW->bO
 |[.sl .bS c l]=>some (decide (0<l.length/\l.length<=1000000),.sl (C:=RC) .bS false l)
 |_=>none
def QmN(c:Bool)(l:bL):=eU cF Bx 40 190 [.sl (C:=RC) .bS c l]
theorem QtB c l:QmN c l=(let Z0:Nat:=(0:Nat)+List.length l;let Z1:bL:=List.replicate (0:Nat) (cB.mk (0:Int) [])++l;bif List.isEmpty l then none else cb (Qf Z0 (24:Nat)) (cb (Nat.beq Z0 Z1.length) (some (D.sl ca.bS false Z1)))):=by kernel_rfl
theorem QtC c l(h:(decide (0<l.length/\l.length<=1000000))=true):QmN c l=some (.sl (C:=RC) .bS false l):=by
 (rw[QtB];delta cb;conv=>zeta)
 obtain⟨h1,h2⟩:=af h;have e0:l.isEmpty=false:=by cases l<;>simp_all
 have e1:Qf l.length 24=true:=by simp[Qf];omega
 have eb:∀n:Nat,n.beq n=true:=fun n=>by simp
 simp only[e0,e1,ah,ag,List.replicate,aH,aN,eb]
def By:=Bx.cm 190 Wm
theorem QtD:Qj Tryz.prog cF By:=QtA.c6 Qb fun args d h=>by
 unfold Wm at h
 split at h
 ·obtain⟨h1,rfl⟩:=ak h;exact⟨by simp[D.refs],40,QtC _ _ h1⟩
 ·cases h
def QmO:bW->bO
 |[.sl .bS c l,.int .i64 k,.bI (.int .i64 n) (.bI (.str b) .bN)]=>some (decide (0<=k/\k<l.length/\l.length<=1000000),.sl (C:=RC) .bS false (l.set k.toNat ⟨n,b⟩))
 |_=>none
def QtF(c:Bool)(l:bL)(k n:Int)(b:bK):=eU cF By 40 191 [.sl (C:=RC) .bS c l,.int .i64 k,.bI (.int .i64 n) (.bI (.str b) .bN)]
theorem QyX c l k n b:QtF c l k n b=(let Z0:Int:=(l.length:Int);let Z1:bL:=List.drop 0 (List.take k.toNat l);let Z2:=Z1.length+List.length [cB.mk n b];let Z3:=cX (k+1);let Z4:=List.length (Z1++[cB.mk n b]);let Z5:=List.length (List.drop Z3.toNat l);let Z6:bL:=Z1++[cB.mk n b]++List.drop Z3.toNat l;cb (decide ((0:Int)<=0/\(0:Int)<=k/\k<=Z0/\k=k)) (cb (Qf Z2 24) (cb (decide ((0:Int)<=Z3/\Z3<=Z0)) (cb (Nat.beq Z2 Z4&&Qf (Z2+Z5) 24) (cb (Nat.beq (Z4+Z5) Z6.length) (some (D.sl ca.bS false Z6))))))):=by kernel_rfl
theorem QyY c l k n b(h:(decide (0<=k/\k<l.length/\l.length<=1000000))=true):QtF c l k n b=some (.sl (C:=RC) .bS false (l.set k.toNat ⟨n,b⟩)):=by
 (rw[QyX];delta cb cX;conv=>zeta)
 obtain⟨h0,h1,h2⟩:=af h;have w1:IntKind.i64.wrap (k+1)=k+1:=cu (by omega) (by omega);have t1:(k+1).toNat=k.toNat+1:=by omega
 have hk:k.toNat<l.length:=by omega
 have e0:=QEW l k.toNat (⟨n,b⟩:cB) hk;have m1:min k.toNat l.length=k.toNat:=by omega
 simp only[w1,t1,bG,bp,aE,bH,aC,bq,m1,aN]
 repeat (refine Qa (by first|assumption|exact Qd (by omega)|exact Zb (by omega)|(simp;done)|(simp;omega)|(simp[Qf];omega)) ?_)
 rw[e0]
def Bz:=By.cm 191 QmO
theorem QtG:Qj Tryz.prog cF Bz:=QtD.c6 Qb fun args d h=>by
 unfold QmO at h
 split at h
 ·obtain⟨h1,rfl⟩:=ak h;exact⟨by simp[D.refs],40,QyY _ _ _ _ _ h1⟩
 ·cases h
def QtH:bW->bO
 |[.bI (.sl .bS c now) (.bI (.sl .bS d sure) .bN),.int .i64 k,.int .i64 n,.str b]=>some (Ql now&&Ql sure&&Qc b.length,.cH (.bI (cL .bS (!Zk now sure k n b) (iG now sure k n b) (cL .bS (!Zk now sure k n b) (VN now sure k n b) .bN)) (cG (bif Zk now sure k n b then 0 else 2) .bN)))
 |_=>none
def RG(c:Bool)(now:bL)(d:Bool)(sure:bL)(k n:Int)(b:bK):=eU cF Bz 40 164 [.bI (.sl (C:=RC) .bS c now) (cL .bS d sure .bN),.int .i64 k,.int .i64 n,.str b]
theorem QDc c now d sure k n b:RG c now d sure k n b=(let Z0:bQ:=D.sl ca.bS true [];let Z1:fG:=some (D.cH (D.bI (D.bI Z0 (D.bI Z0 .bN)) (.bI (cq 2) .bN)));let Z2:=now.length;let Z3:bQ:=D.bI (D.sl ca.bS false sure) .bN;let Z4:bQ:=D.bI (cq 0) .bN;cb (Ql now&&Ql sure) (bif (bif Qt now sure then (0:Int)else (2:Int))!=0 then Z1 else bif decide (k<0)then Z1 else bif decide ((33:Int)<=k)then Z1 else bif decide (n<1)then Z1 else bif b==Array.toList #[]then Z1 else cb (Qc b.length) (bif !Zn (cB.mk n b)then Z1 else cb (decide ((0:Nat)<Z2/\Z2<=1000000)) (cb (decide ((0:Nat)<sure.length/\sure.length<=1000000)) (cb (ep k (Z2:Int)) (bif decide (cB.n (List.getD now k.toNat (cB.mk 0 []))<n)then cb (decide ((0:Int)<=k/\k<(Z2:Int)/\Z2<=1000000)) (some (D.cH (D.bI (D.bI (D.sl ca.bS false (List.set now k.toNat (cB.mk n b))) Z3) Z4)))else some (D.cH (D.bI (D.bI (D.sl ca.bS false now) Z3) Z4)))))))):=by kernel_rfl
theorem QDd c now d sure k n b(h:(Ql now&&Ql sure&&Qc b.length)=true):RG c now d sure k n b=some (.cH (.bI (cL .bS (!Zk now sure k n b) (iG now sure k n b) (cL .bS (!Zk now sure k n b) (VN now sure k n b) .bN)) (cG (bif Zk now sure k n b then 0 else 2) .bN))):=by
 (rw[QDc];delta cb ep cq;conv=>zeta)
 simp only[ai]at h;obtain⟨⟨hg,pO⟩,hb⟩:=h;have yq:(Ql now&&Ql sure)=true:=by rw[hg,pO];rfl
 have no:Zk now sure k n b=false->some (D.cH (.bI (cL .bS true [] (cL .bS true [] .bN)) (cG 2 .bN)))=some (.cH (.bI (cL .bS (!Zk now sure k n b) (iG now sure k n b) (cL .bS (!Zk now sure k n b) (VN now sure k n b) .bN)) (cG (bif Zk now sure k n b then 0 else 2) .bN))):=fun e=>by simp only[e,iG,VN];rfl
 refine Qa yq ?_;cases hd:Qt now sure
 ·exact Qa rfl (no (Zw fun f=>by rw[hd]at f;cases f.1))
 obtain⟨l1,l2⟩:=Yl hd;refine Qn rfl (Qy (fun e=>no (Zw fun f=>by simp only[aa]at e;omega)) fun e1=>?_);refine(Qy (fun e=>no (Zw fun f=>by simp only[aa]at e;omega)) fun e2=>?_);refine(Qy (fun e=>no (Zw fun f=>by simp only[aa]at e;omega)) fun e3=>?_);refine(Qy (fun e=>no (Zw fun f=>f.2.2.2.2.1 (by simpa using e))) fun e4=>?_);refine Qa hb ?_;refine(Qy (fun e=>no (Zw fun f=>by rw[f.2.2.2.2.2]at e;cases e)) fun e5=>?_);simp only[ae]at e1 e2 e3
 have ok:Zk now sure k n b=true:=by
  simp only[Zk,hd,Bool.true_and,ai,aa];exact⟨⟨⟨⟨by omega,by omega⟩,by omega⟩,by simpa using e4⟩,by simpa using e5⟩
 rw[ok];simp only[iG,VN,ok,ag,bg]
 repeat (refine Qa (by first|assumption|exact Qd (by omega)|exact Zb (by omega)|(simp;done)|(simp;omega)|(simp[Qf];omega)) ?_)
 refine Qy (fun e=>?_) fun e=>?_<;>simp only[aa,ae]at e
 ·have pn:K3 now k.toNat n b=now.set k.toNat ⟨n,b⟩:=ax e;rw[pn]
  repeat (refine Qa (by first|assumption|exact Qd (by omega)|exact Zb (by omega)|(simp;done)|(simp;omega)|(simp[Qf];omega)) ?_)
  rfl
 ·have pn:K3 now k.toNat n b=now:=aw e;rw[pn]
def BA:=Bz.cm 164 QtH
theorem QtI:Qj Tryz.prog cF BA:=QtG.c6 Qb fun args d h=>by
 unfold QtH at h
 split at h
 ·obtain⟨h1,rfl⟩:=ak h;exact⟨by simp[D.refs],40,QDd _ _ _ _ _ _ _ h1⟩
 ·cases h
def QtJ:bW->bO
 |[.bI (.sl .bS c now) (.bI (.sl .bS d sure) .bN),.int .i64 k]=>some (Ql now&&Ql sure,.cH (.bI (cG (iE now sure k).n (.bI (.str (iE now sure k).b) .bN)) (cG (bif YS now sure k then 0 else 2) .bN)))
 |_=>none
def RH(c:Bool)(now:bL)(d:Bool)(sure:bL)(k:Int):=eU cF BA 40 86 [.bI (.sl (C:=RC) .bS c now) (cL .bS d sure .bN),.int .i64 k]
theorem QDe c now d sure k:RH c now d sure k=(let Z0:bQ:=cq 0;let Z1:fG:=some (D.cH (D.bI (D.bI Z0 (D.bI (D.str []) .bN)) (.bI (cq 2) .bN)));let Z2:cB:=List.getD now k.toNat (cB.mk 0 []);cb (Ql now&&Ql sure) (bif (bif Qt now sure then (0:Int)else (2:Int))!=0 then Z1 else bif decide (k<0)then Z1 else bif decide ((33:Int)<=k)then Z1 else cb (ep k (now.length:Int)) (some (D.cH (D.bI (D.bI (cq (cB.n Z2)) (.bI (D.str (cB.b Z2)) .bN)) (.bI Z0 .bN)))))):=by kernel_rfl
theorem QDf c now d sure k(h:(Ql now&&Ql sure)=true):RH c now d sure k=some (.cH (.bI (cG (iE now sure k).n (.bI (.str (iE now sure k).b) .bN)) (cG (bif YS now sure k then 0 else 2) .bN))):=by
 (rw[QDe];delta cb ep cq;conv=>zeta)
 have yq:=h;rw[ai]at h;obtain⟨hg,pO⟩:=h;have no:YS now sure k=false->some (D.cH (.bI (cG 0 (.bI (.str []) .bN)) (cG 2 .bN)))=some (.cH (.bI (cG (iE now sure k).n (.bI (.str (iE now sure k).b) .bN)) (cG (bif YS now sure k then 0 else 2) .bN)):bQ):=fun e=>by simp only[iE,e];rfl
 refine Qa yq ?_;cases hd:Qt now sure
 ·exact Qa rfl (no (by simp[YS,hd]))
 obtain⟨l1,l2⟩:=Yl hd;refine Qn rfl (Qy (fun e=>no (by simp only[aa]at e;simp[YS];omega)) fun e1=>?_);refine(Qy (fun e=>no (by simp only[aa]at e;simp[YS];omega)) fun e2=>?_);simp only[ae]at e1 e2;have ok:YS now sure k=true:=by simp[YS,hd];omega
 rw[ok];simp only[iE,ok,ag,iU]
 repeat (refine Qa (by first|assumption|exact Qd (by omega)|exact Zb (by omega)|(simp;done)|(simp;omega)|(simp[Qf];omega)) ?_)
 rfl
def BB:=BA.cm 86 QtJ
theorem QtK:Qj Tryz.prog cF BB:=QtI.c6 Qb fun args d h=>by
 unfold QtJ at h
 split at h
 ·obtain⟨h1,rfl⟩:=ak h;exact⟨by simp[D.refs],40,QDf _ _ _ _ _ h1⟩
 ·cases h
open Go.Proofs
structure QmP where
 (c:Bool)(l:bL)(i:Nat)
def Hf(c:Bool)(l:bL)(i:Nat):bX:=[(0,.sl (C:=RC) .bS c l),(2,.bool false),(3,.int .i64 (i:Int))]
def Hg(c:Bool)(l:bL)(i:Nat):bR:=[]
def QtL c l i:=eF cF BB 93 4 40 0 [0,2,3] [2] [] (Hf c l i) (Hg c l i)
theorem QyZ c l i:QtL c l i=(let Z0:Int:=(i:Int);let Z1:Bool:=ep Z0 (l.length:Int);let Z2:cB:=List.getD l Z0.toNat (cB.mk 0 []);let Z3:=cB.n Z2;let Z4:kW:=some ((X.ret,[(2,D.bool false)]),[]);let Z5:=List.length (cB.b Z2);let Z6:kW:=some ((X.normal,[(0,D.sl ca.bS c l),(2,D.bool false),(3,cq (cX (Z0+1)))]),[]);cb (Qc l.length) (bif decide (Z0<(l.length:Int))then cb Z1 (bif decide (Z3<0)then Z4 else cb Z1 (bif decide ((1048575:Int)<Z3)then Z4 else cb Z1 (cb (Qc Z5) (bif decide ((640:Int)<(Z5:Int))then Z4 else cb Z1 (bif Z3==0 then cb Z1 (bif !cB.b Z2==Array.toList #[]then Z4 else Z6)else Z6)))))else some ((X.exit 0,[(2,D.bool false)]),[]))):=by kernel_rfl
def K5(c:Bool)(l:bL)(i:Nat):RT RC:=.br (l.drop i |>.all Zn) (.leaf (.exit 0) [(2,.bool false)] []) (.leaf .ret [(2,.bool false)] [])
def K6(c:Bool)(l:bL)(i:Nat):Prop:=i<=l.length/\Ql l=true
def V9:QK RC QmP where
 k:=0
 cS q:=Hf q.c q.l q.i
 cR q:=Hg q.c q.l q.i
 fin q:=K5 q.c q.l q.i
 Inv q:=K6 q.c q.l q.i
 μ q:=q.l.length-q.i
theorem QkF c l i(hI:K6 c l i):dw (QtL c l i) (dF V9 ⟨c,l,i⟩):=by
 (rw[QyZ];delta cb ep cq cX;conv=>zeta)
 unfold K6 at hI;obtain⟨h1,hg⟩:=hI;have h2:=(Zo.1 hg).1;have lB:Qc l.length=true:=Qd h2
 by_cases cY:i<l.length
 ·have cN:=fa i (by omega)
  have ei:=gv (show i<l.length by omega)
  have ef:=fV (show i<l.length by omega)
  have dp:=bw i
  simp only[cN,ei,ef,dp,ag];have jA:=GX hg i cY (⟨0,[]⟩:cB);have eI:=Ki l Zn i cY (⟨0,[]⟩:cB);generalize l.getD i (⟨0,[]⟩:cB)=x at eI jA ⊢;simp only[lB,jA,ag]
  have eM:Zn x=true->dw (some ((X.normal,Hf c l (i+1)),[])) (dF V9 ⟨c,l,i⟩):=fun e=>
   Qg ⟨c,l,i+1⟩ ⟨cY,hg⟩ (by simp only[V9];omega) (by simp[V9,K5,eI,e]) rfl rfl
  have gT:Zn x=false->dw (some ((X.ret,[(2,D.bool false)]),[])) (dF V9 ⟨c,l,i⟩):=fun e=>QT [] (by simp[V9,K5,eI,e,RT.val]) rfl;have hm:Zn x=(decide (0<=x.n)&&decide (x.n<=1048575)&&decide (x.b.length<=640)&&(decide (0<x.n)||x.b==[])):=rfl;rw[hm]at eM gT
  repeat' (refine Yc.2 ⟨fun oz=>?_,fun oz=>?_⟩)
  all_goals first|exact gT (by clear eM gT eI hm;simp_all<;>omega)|exact eM (by clear eM gT eI hm;simp_all<;>omega)
 ·have hi:i=l.length:=by omega
  have c1:decide ((i:Int)<l.length)=false:=by simp;omega
  rw[lB,c1];exact Qi [] (by simp[V9,K5,hi,RT.val]) rfl
def Ng(env:bX)(os:bR):Option (Bool×QmP):=match env,os with
 |[(0,.sl .bS c l),(2,.bool false),(3,.int .i64 x0)],[]=>some (decide (x0=0)&&Ql l,⟨c,l,0⟩)
 |_,_=>none
def Lp:=BB.cP 93 4 (eZ cF [] [0,2,3] V9 Ng)
theorem Qpx:Qj Tryz.prog cF Lp:=by
 refine QtK.cJ Qb (by kernel_rfl) V9 40 [0,2,3] [2] [] [0,2,3] Ng (fun q hI=>?_) ?_
 ·obtain⟨c,l,i⟩:=q;refine⟨?_,?_,QkF c l i hI⟩
  ·simp_all[Qk,V9,Hf,Hg,K6,D.refs,Obj.refs,de]
  ·simp_all[V9,K5,Hg,K6,RT.da,Qk,D.refs,Obj.refs,de]
 ·intro env os b q cW hb;unfold Ng at cW
  split at cW
  ·cases cW;simp only[ai,aa]at hb;obtain⟨rfl,hl⟩:=hb;exact⟨⟨aK _,hl⟩,rfl,rfl⟩
  ·cases cW
def QmQ:bW->bO
 |[.sl .bS c l]=>some (Ql l,.bool (YF l))
 |_=>none
def QtN(c:Bool)(l:bL):=eU cF Lp 40 93 [.sl (C:=RC) .bS c l]
theorem Qy0 c l:QtN c l=(bif Qc l.length then bif(↑l.length:Int)!=(33:Int)then some (D.bool false)else bif Ql l then bif List.all (List.drop (0:Nat) l) Zn then some (D.bool true)else some (D.bool false)else none else none):=by kernel_rfl
theorem Qy1 c l(h:(Ql l)=true):QtN c l=some (.bool (YF l)):=by
 rw[Qy0];have hl:=(Zo.1 h).1;have lk:=Qd hl;simp only[h,lk,YF,ag,bG]
 by_cases e:l.length=33
 ·have e2:((l.length:Int)!=33)=false:=by simp[e]
  cases hm:l.all Zn<;>simp[e,hm]
 ·have e2:((l.length:Int)!=33)=true:=by simp[bne];omega
  simp[e,e2]
def Lq:=Lp.cm 93 QmQ
theorem Qpy:Qj Tryz.prog cF Lq:=Qpx.c6 Qb fun args d h=>by
 unfold QmQ at h
 split at h
 ·obtain⟨h1,rfl⟩:=ak h;exact⟨by simp[D.refs],40,Qy1 _ _ h1⟩
 ·cases h
structure QmR where
 (c:Bool)(now:bL)(d:Bool)(sure:bL)(i:Nat)
def Nh(c:Bool)(now:bL)(d:Bool)(sure:bL)(i:Nat):bX:=[(1,.ptr 0 []),(2,.int .i64 0),(3,.int .i64 (i:Int))]
def K7(c:Bool)(now:bL)(d:Bool)(sure:bL)(i:Nat):bR:=[.var 24 (cL .bS c now (cL .bS d sure .bN))]
def QtO c now d sure i:=eF cF Lq 37 4 40 1 [1,2,3] [2] [.slot 1 0] (Nh c now d sure i) (K7 c now d sure i)
theorem Qy2 c now d sure i:QtO c now d sure i=(let Z0:Int:=(i:Int);let Z1:b9:=[some (Obj.var 24 (.bI (D.sl ca.bS c now) (.bI (D.sl ca.bS d sure) .bN)))];let Z2:Nat×bQ:=(2,cq 0);cb (Qc now.length) (bif decide (Z0<(now.length:Int))then cb (ep Z0 (sure.length:Int)) (cb (ep Z0 (now.length:Int)) (bif decide (cB.n (List.getD now Z0.toNat (cB.mk 0 []))<cB.n (List.getD sure Z0.toNat (cB.mk 0 [])))then some ((X.ret,[(2,cq 2)]),Z1)else some ((X.normal,[(1,D.ptr 0 []),Z2,(3,cq (cX (Z0+1)))]),Z1)))else some ((X.exit 0,[Z2]),Z1))):=by kernel_rfl
def K8(c:Bool)(now:bL)(d:Bool)(sure:bL)(i:Nat):RT RC:=.br (pW now sure i) (.leaf (.exit 0) [(2,.int .i64 0)] (K7 c now d sure i)) (.leaf .ret [(2,.int .i64 2)] (K7 c now d sure i))
def K9(c:Bool)(now:bL)(d:Bool)(sure:bL)(i:Nat):Prop:=i<=now.length/\now.length<=9223372036854775807/\now.length=sure.length
def Kj:QK RC QmR where
 k:=1
 cS q:=Nh q.c q.now q.d q.sure q.i
 cR q:=K7 q.c q.now q.d q.sure q.i
 fin q:=K8 q.c q.now q.d q.sure q.i
 Inv q:=K9 q.c q.now q.d q.sure q.i
 μ q:=q.now.length-q.i
theorem QkI c now d sure i(hI:K9 c now d sure i):dw (QtO c now d sure i) (dF Kj ⟨c,now,d,sure,i⟩):=by
 (rw[Qy2];delta cb ep cq cX;conv=>zeta)
 unfold K9 at hI;obtain⟨h1,h2,h3⟩:=hI;have lB:Qc now.length=true:=Qd h2
 by_cases cY:i<now.length
 ·have cN:=fa i (by omega)
  have ei:=gv (show i<now.length by omega)
  have ef:=fV (show i<now.length by omega)
  have dp:=bw i
  simp only[cN,ei,ef,dp,ag];have E4:i<sure.length:=by omega
  have pr:=fV (show i<sure.length by omega)
  simp only[pr,lB,ag];have eI:=Ud (now:=now) (sure:=sure) i cY (by omega) (⟨0,[]⟩:cB);generalize now.getD i (⟨0,[]⟩:cB)=x at eI ⊢;generalize sure.getD i (⟨0,[]⟩:cB)=y at eI ⊢;cases a1:decide (y.n<=x.n)
  ·have a2:decide (x.n<y.n)=true:=by simp at a1 ⊢;exact a1
   simp only[a2,ag];exact QT (K7 c now d sure i) (by simp[Kj,K8,eI,a1,RT.val]) rfl
  ·have a2:decide (x.n<y.n)=false:=by simp at a1 ⊢;exact a1
   simp only[a2,ah];exact Qg ⟨c,now,d,sure,i+1⟩ ⟨cY,h2,h3⟩ (by simp only[Kj];omega) (by simp[Kj,K8,eI,a1];rfl) rfl rfl
 ·have hi:i=now.length:=by omega
  have c1:decide ((i:Int)<now.length)=false:=by simp;omega
  rw[lB,c1];exact Qi (K7 c now d sure i) (by simp[Kj,K8,hi,Wk,RT.val]) rfl
def Ni(env:bX)(os:bR):Option (Bool×QmR):=match env,os with
 |[(1,.ptr 0 []),(2,.int .i64 0),(3,.int .i64 x0)],[.var 24 (.bI (.sl .bS c now) (.bI (.sl .bS d sure) .bN))]=>some (decide (x0=0)&&decide (now.length<=9223372036854775807/\now.length=sure.length),⟨c,now,d,sure,0⟩)
 |_,_=>none
def Lr:=Lq.cP 37 4 (eZ cF [.slot 1 0] [1,2,3] Kj Ni)
theorem Qpz:Qj Tryz.prog cF Lr:=by
 refine Qpy.cJ Qb (by kernel_rfl) Kj 40 [1,2,3] [2] [.slot 1 0] [1,2,3] Ni (fun q hI=>?_) ?_
 ·obtain⟨c,now,d,sure,i⟩:=q;refine⟨?_,?_,QkI c now d sure i hI⟩
  ·simp_all[Qk,Kj,Nh,K7,K9,D.refs,Obj.refs,de]
  ·simp_all[Kj,K8,K7,K9,RT.da,Qk,D.refs,Obj.refs,de]
 ·intro env os b q cW hb;unfold Ni at cW
  split at cW
  ·cases cW;simp only[ai,aa]at hb;obtain⟨rfl,hl⟩:=hb;exact⟨⟨aK _,hl⟩,rfl,rfl⟩
  ·cases cW
def Wn:bW->bO
 |[.bI (.sl .bS c now) (.bI (.sl .bS d sure) .bN)]=>some (Ql now&&Ql sure,.int .i64 (bif Qt now sure then 0 else 2))
 |_=>none
def QmT(c:Bool)(now:bL)(d:Bool)(sure:bL):=eU cF Lr 40 37 [.bI (.sl (C:=RC) .bS c now) (cL .bS d sure .bN)]
theorem QtP c now d sure:QmT c now d sure=(let Z0:fG:=some (cq 2);cb (Ql now) (bif !YF now then Z0 else cb (Ql sure) (bif !YF sure then Z0 else cb (decide (now.length<=9223372036854775807/\now.length=sure.length)) (bif pW now sure 0 then some (cq 0)else Z0)))):=by kernel_rfl
theorem QtQ c now d sure(h:(Ql now&&Ql sure)=true):QmT c now d sure=some (.int .i64 (bif Qt now sure then 0 else 2)):=by
 (rw[QtP];delta cb cq;conv=>zeta)
 rw[ai]at h;obtain⟨hg,pO⟩:=h;have hl:=(Zo.1 hg).1;simp only[hg,pO,ag,Qt];cases h1:YF now
 ·rfl
 cases h2:YF sure
 ·rfl
 have l1:=K4 h1;have l2:=K4 h2;have e:decide (now.length<=9223372036854775807/\now.length=sure.length)=true:=by simp;omega
 cases h3:pW now sure 0<;>simp[e]
def Ls:=Lr.cm 37 Wn
theorem QpA:Qj Tryz.prog cF Ls:=Qpz.c6 Qb fun args d h=>by
 unfold Wn at h
 split at h
 ·obtain⟨h1,rfl⟩:=ak h;exact⟨by simp[D.refs],40,QtQ _ _ _ _ h1⟩
 ·cases h
structure QmU where
 (c:Bool)(l:bL)(d:Bool)(m:bL)(i:Nat)
def Nj(c:Bool)(l:bL)(d:Bool)(m:bL)(i:Nat):bX:=[(0,.sl (C:=RC) .bS c l),(1,.sl (C:=RC) .bS d m),(4,.bool false),(5,.int .i64 (i:Int))]
def Hh(c:Bool)(l:bL)(d:Bool)(m:bL)(i:Nat):bR:=[]
def QtR c l d m i:=eF cF Ls 108 4 40 0 [0,1,4,5] [4] [] (Nj c l d m i) (Hh c l d m i)
theorem Qy3 c l d m i:QtR c l d m i=(let Z0:Int:=(i:Int);let Z1:cB:=List.getD l Z0.toNat (cB.mk 0 []);let Z2:cB:=List.getD m Z0.toNat (cB.mk 0 []);cb (Qc l.length) (bif decide (Z0<(l.length:Int))then cb (ep Z0 (l.length:Int)) (cb (ep Z0 (m.length:Int)) (bif !(cB.n Z1==cB.n Z2&&(cB.b Z1==cB.b Z2&&true))then some ((X.ret,[(4,D.bool false)]),[])else some ((X.normal,[(0,D.sl ca.bS c l),(1,D.sl ca.bS d m),(4,D.bool false),(5,cq (cX (Z0+1)))]),[])))else some ((X.exit 0,[(4,D.bool false)]),[]))):=by kernel_rfl
def CV(c:Bool)(l:bL)(d:Bool)(m:bL)(i:Nat):RT RC:=.br (decide (l.drop i=m.drop i)) (.leaf (.exit 0) [(4,.bool false)] []) (.leaf .ret [(4,.bool false)] [])
def CW(c:Bool)(l:bL)(d:Bool)(m:bL)(i:Nat):Prop:=i<=l.length/\l.length<=9223372036854775807/\l.length=m.length
def Kk:QK RC QmU where
 k:=0
 cS q:=Nj q.c q.l q.d q.m q.i
 cR q:=Hh q.c q.l q.d q.m q.i
 fin q:=CV q.c q.l q.d q.m q.i
 Inv q:=CW q.c q.l q.d q.m q.i
 μ q:=q.l.length-q.i
theorem QkL c l d m i(hI:CW c l d m i):dw (QtR c l d m i) (dF Kk ⟨c,l,d,m,i⟩):=by
 (rw[Qy3];delta cb ep cq cX;conv=>zeta)
 unfold CW at hI;obtain⟨h1,h2,h3⟩:=hI;have lB:Qc l.length=true:=Qd h2
 by_cases cY:i<l.length
 ·have cN:=fa i (by omega)
  have ei:=gv (show i<l.length by omega)
  have ef:=fV (show i<l.length by omega)
  have dp:=bw i
  simp only[cN,ei,ef,dp,ag];have E4:i<m.length:=by omega
  have pr:=fV (show i<m.length by omega)
  simp only[pr,lB,ag,QyW];have eI:=FZ l m i (⟨0,[]⟩:cB) cY h3;generalize l.getD i (⟨0,[]⟩:cB)=x at eI ⊢;generalize m.getD i (⟨0,[]⟩:cB)=y at eI ⊢
  by_cases nW:x=y
  ·simp only[nW,aM,bg,ah];exact Qg ⟨c,l,d,m,i+1⟩ ⟨cY,h2,h3⟩ (by simp only[Kk];omega) (by simp only[Kk,CV,eI,nW,aM,Bool.true_and]) rfl rfl
  ·simp only[nW,aW,bh,ag];exact QT [] (by simp[Kk,CV,eI,nW,RT.val]) rfl
 ·have hi:i=l.length:=by omega
  have c1:decide ((i:Int)<l.length)=false:=by simp;omega
  rw[lB,c1];exact Qi [] (by simp only[Kk,CV,Gs l m i (by omega) (by omega),RT.val,ag]) rfl
def Nk(env:bX)(os:bR):Option (Bool×QmU):=match env,os with
 |[(0,.sl .bS c l),(1,.sl .bS d m),(4,.bool false),(5,.int .i64 x0)],[]=>some (decide (x0=0)&&decide (l.length<=9223372036854775807/\l.length=m.length),⟨c,l,d,m,0⟩)
 |_,_=>none
def Lt:=Ls.cP 108 4 (eZ cF [] [0,1,4,5] Kk Nk)
theorem QpB:Qj Tryz.prog cF Lt:=by
 refine QpA.cJ Qb (by kernel_rfl) Kk 40 [0,1,4,5] [4] [] [0,1,4,5] Nk (fun q hI=>?_) ?_
 ·obtain⟨c,l,d,m,i⟩:=q;refine⟨?_,?_,QkL c l d m i hI⟩
  ·simp_all[Qk,Kk,Nj,Hh,CW,D.refs,Obj.refs,de]
  ·simp_all[Kk,CV,Hh,CW,RT.da,Qk,D.refs,Obj.refs,de]
 ·intro env os b q cW hb;unfold Nk at cW
  split at cW
  ·cases cW;simp only[ai,aa]at hb;obtain⟨rfl,hl⟩:=hb;exact⟨⟨aK _,hl⟩,rfl,rfl⟩
  ·cases cW
def QmV:bW->bO
 |[.sl .bS c l,.sl .bS d m]=>some (Qc l.length&&Qc m.length,.bool (decide (l=m)))
 |_=>none
def QtT(c:Bool)(l:bL)(d:Bool)(m:bL):=eU cF Lt 40 108 [.sl (C:=RC) .bS c l,.sl (C:=RC) .bS d m]
theorem Qy4 c l d m:QtT c l d m=(let Z0:=l.length;let Z1:=m.length;cb (Qc Z0) (cb (Qc Z1) (bif (Z0:Int)!=(Z1:Int)then some (D.bool false)else cb (decide (Z0<=9223372036854775807/\Z0=Z1)) (bif decide (List.drop 0 l=List.drop 0 m)then some (D.bool true)else some (D.bool false))))):=by kernel_rfl
theorem Qy5 c l d m(h:(Qc l.length&&Qc m.length)=true):QtT c l d m=some (.bool (decide (l=m))):=by
 (rw[Qy4];delta cb;conv=>zeta)
 rw[ai]at h;obtain⟨a1,a2⟩:=h;have hl:=Va a1;simp only[a1,a2,ag]
 by_cases h0:l.length=m.length
 ·have e1:((l.length:Int)!=(m.length:Int))=false:=by simp[h0]
  have e2:decide (l.length<=9223372036854775807/\l.length=m.length)=true:=ab ⟨hl,h0⟩;rw[e1,e2]
  by_cases h8:l=m<;>simp[h8]
 ·have e1:((l.length:Int)!=(m.length:Int))=true:=by simp;omega
  have h8:¬l=m:=fun e=>h0 (by rw[e]);rw[e1];simp[h8]
def Lu:=Lt.cm 108 QmV
theorem QpC:Qj Tryz.prog cF Lu:=QpB.c6 Qb fun args d h=>by
 unfold QmV at h
 split at h
 ·obtain⟨h1,rfl⟩:=ak h;exact⟨by simp[D.refs],40,Qy5 _ _ _ _ h1⟩
 ·cases h
structure QtU where
 (c:Bool)(now:bL)(r:bQ)(i:Nat)
def Og(c:Bool)(now:bL)(r:bQ)(i:Nat):bX:=[(1,.ptr 0 []),(2,.bool false),(3,.int .i64 (i:Int))]
def vX(c:Bool)(now:bL)(r:bQ)(i:Nat):bR:=[.var 24 (cL .bS c now r)]
def RI c now r i:=eF cF Lu 7 4 40 1 [1,2,3] [2] [.slot 1 0] (Og c now r i) (vX c now r i)
theorem QDm c now r i:RI c now r i=(let Z0:Int:=(i:Int);let Z1:=List.length (cB.b (List.getD now Z0.toNat (cB.mk 0 [])));let Z2:b9:=[some (Obj.var 24 (.bI (D.sl ca.bS c now) r))];cb (Qc now.length) (bif decide (Z0<(now.length:Int))then cb (ep Z0 (now.length:Int)) (cb (Qc Z1) (bif decide ((3000:Int)<(Z1:Int))then some ((X.ret,[(2,D.bool true)]),Z2)else some ((X.normal,[(1,D.ptr 0 []),(2,D.bool false),(3,cq (cX (Z0+1)))]),Z2)))else some ((X.exit 0,[(2,D.bool false)]),Z2))):=by kernel_rfl
def Dm(c:Bool)(now:bL)(r:bQ)(i:Nat):RT RC:=.br (JO now i) (.leaf .ret [(2,.bool true)] (vX c now r i)) (.leaf (.exit 0) [(2,.bool false)] (vX c now r i))
def Dn(c:Bool)(now:bL)(r:bQ)(i:Nat):Prop:=r.refs=[]/\i<=now.length/\Ql now=true
def uz:QK RC QtU where
 k:=1
 cS q:=Og q.c q.now q.r q.i
 cR q:=vX q.c q.now q.r q.i
 fin q:=Dm q.c q.now q.r q.i
 Inv q:=Dn q.c q.now q.r q.i
 μ q:=q.now.length-q.i
theorem QpD c now r i(hI:Dn c now r i):dw (RI c now r i) (dF uz ⟨c,now,r,i⟩):=by
 (rw[QDm];delta cb ep cq cX;conv=>zeta)
 unfold Dn at hI;obtain⟨h0,h1,hg⟩:=hI;have h2:=(Zo.1 hg).1;have lB:Qc now.length=true:=Qd h2
 by_cases cY:i<now.length
 ·have cN:=fa i (by omega)
  have ei:=gv (show i<now.length by omega)
  have ef:=fV (show i<now.length by omega)
  have dp:=bw i
  simp only[cN,ei,ef,dp,ag];have jA:=GX hg i cY (⟨0,[]⟩:cB);have eI:=TY now i cY (⟨0,[]⟩:cB);generalize now.getD i (⟨0,[]⟩:cB)=x at eI jA ⊢;simp only[lB,jA,ag];cases a1:decide (3000<(x.b.length:Int))
  ·simp only[ah];exact Qg ⟨c,now,r,i+1⟩ ⟨h0,cY,hg⟩ (by simp only[uz];omega) (by simp[uz,Dm,eI,a1];rfl) rfl rfl
  ·simp only[ag];exact QT (vX c now r i) (by simp[uz,Dm,eI,a1,RT.val]) rfl
 ·have hi:i=now.length:=by omega
  have c1:decide ((i:Int)<now.length)=false:=by simp;omega
  rw[lB,c1];exact Qi (vX c now r i) (by simp[uz,Dm,hi,Ue,RT.val]) rfl
def Oh(env:bX)(os:bR):Option (Bool×QtU):=match env,os with
 |[(1,.ptr 0 []),(2,.bool false),(3,.int .i64 x0)],[.var 24 (.bI (.sl .bS c now) r)]=>Qv (r.refs.isEmpty) (decide (x0=0)&&Ql now,⟨c,now,r,0⟩)
 |_,_=>none
def Lw:=Lu.cP 7 4 (eZ cF [.slot 1 0] [1,2,3] uz Oh)
theorem QpE:Qj Tryz.prog cF Lw:=by
 refine QpC.cJ Qb (by kernel_rfl) uz 40 [1,2,3] [2] [.slot 1 0] [1,2,3] Oh (fun q hI=>?_) ?_
 ·obtain⟨c,now,r,i⟩:=q;refine⟨?_,?_,QpD c now r i hI⟩
  ·simp_all[Qk,uz,Og,vX,Dn,D.refs,Obj.refs,de]
  ·simp_all[uz,Dm,vX,Dn,RT.da,Qk,D.refs,Obj.refs,de]
 ·intro env os b q cW hb;unfold Oh at cW
  split at cW
  ·obtain⟨hs,cW⟩:=Qe cW;cases cW;simp only[ai,aa]at hb;obtain⟨rfl,hl⟩:=hb;exact⟨⟨List.isEmpty_iff.1 hs,aK _,hl⟩,rfl,rfl⟩
  ·cases cW
structure QtX where
 (q:bQ)(c:Bool)(sure:bL)(i:Nat)
def Oi(q:bQ)(c:Bool)(sure:bL)(i:Nat):bX:=[(1,.ptr 0 []),(2,.bool false),(4,.int .i64 (i:Int))]
def vY(q:bQ)(c:Bool)(sure:bL)(i:Nat):bR:=[.var 24 (.bI q (cL .bS c sure .bN))]
def RJ q c sure i:=eF cF Lw 7 9 40 1 [1,2,4] [2] [.slot 1 0] (Oi q c sure i) (vY q c sure i)
theorem QDo q c sure i:RJ q c sure i=(let Z0:Int:=(i:Int);let Z1:=List.length (cB.b (List.getD sure Z0.toNat (cB.mk 0 [])));let Z2:b9:=[some (Obj.var 24 (.bI q (D.bI (D.sl ca.bS c sure) .bN)))];cb (Qc sure.length) (bif decide (Z0<(sure.length:Int))then cb (ep Z0 (sure.length:Int)) (cb (Qc Z1) (bif decide ((3000:Int)<(Z1:Int))then some ((X.ret,[(2,D.bool true)]),Z2)else some ((X.normal,[(1,D.ptr 0 []),(2,D.bool false),(4,cq (cX (Z0+1)))]),Z2)))else some ((X.exit 2,[(2,D.bool false)]),Z2))):=by kernel_rfl
def Dp(q:bQ)(c:Bool)(sure:bL)(i:Nat):RT RC:=.br (JO sure i) (.leaf .ret [(2,.bool true)] (vY q c sure i)) (.leaf (.exit 2) [(2,.bool false)] (vY q c sure i))
def Dq(q:bQ)(c:Bool)(sure:bL)(i:Nat):Prop:=q.refs=[]/\i<=sure.length/\Ql sure=true
def uA:QK RC QtX where
 k:=1
 cS q:=Oi q.q q.c q.sure q.i
 cR q:=vY q.q q.c q.sure q.i
 fin q:=Dp q.q q.c q.sure q.i
 Inv q:=Dq q.q q.c q.sure q.i
 μ q:=q.sure.length-q.i
theorem QpF q c sure i(hI:Dq q c sure i):dw (RJ q c sure i) (dF uA ⟨q,c,sure,i⟩):=by
 (rw[QDo];delta cb ep cq cX;conv=>zeta)
 unfold Dq at hI;obtain⟨h0,h1,hg⟩:=hI;have h2:=(Zo.1 hg).1;have lB:Qc sure.length=true:=Qd h2
 by_cases cY:i<sure.length
 ·have cN:=fa i (by omega)
  have ei:=gv (show i<sure.length by omega)
  have ef:=fV (show i<sure.length by omega)
  have dp:=bw i
  simp only[cN,ei,ef,dp,ag];have jA:=GX hg i cY (⟨0,[]⟩:cB);have eI:=TY sure i cY (⟨0,[]⟩:cB);generalize sure.getD i (⟨0,[]⟩:cB)=x at eI jA ⊢;simp only[lB,jA,ag];cases a1:decide (3000<(x.b.length:Int))
  ·simp only[ah];exact Qg ⟨q,c,sure,i+1⟩ ⟨h0,cY,hg⟩ (by simp only[uA];omega) (by simp[uA,Dp,eI,a1];rfl) rfl rfl
  ·simp only[ag];exact QT (vY q c sure i) (by simp[uA,Dp,eI,a1,RT.val]) rfl
 ·have hi:i=sure.length:=by omega
  have c1:decide ((i:Int)<sure.length)=false:=by simp;omega
  rw[lB,c1];exact Qi (vY q c sure i) (by simp[uA,Dp,hi,Ue,RT.val]) rfl
def Oj(env:bX)(os:bR):Option (Bool×QtX):=match env,os with
 |[(1,.ptr 0 []),(2,.bool false),(4,.int .i64 x0)],[.var 24 (.bI q (.bI (.sl .bS c sure) .bN))]=>Qv (q.refs.isEmpty) (decide (x0=0)&&Ql sure,⟨q,c,sure,0⟩)
 |_,_=>none
def Lx:=Lw.cP 7 9 (eZ cF [.slot 1 0] [1,2,4] uA Oj)
theorem QpG:Qj Tryz.prog cF Lx:=by
 refine QpE.cJ Qb (by kernel_rfl) uA 40 [1,2,4] [2] [.slot 1 0] [1,2,4] Oj (fun q hI=>?_) ?_
 ·obtain⟨q,c,sure,i⟩:=q;refine⟨?_,?_,QpF q c sure i hI⟩
  ·simp_all[Qk,uA,Oi,vY,Dq,D.refs,Obj.refs,de]
  ·simp_all[uA,Dp,vY,Dq,RT.da,Qk,D.refs,Obj.refs,de]
 ·intro env os b q cW hb;unfold Oj at cW
  split at cW
  ·obtain⟨hs,cW⟩:=Qe cW;cases cW;simp only[ai,aa]at hb;obtain⟨rfl,hl⟩:=hb;exact⟨⟨List.isEmpty_iff.1 hs,aK _,hl⟩,rfl,rfl⟩
  ·cases cW
def Wo:bW->bO
 |[.bI (.sl .bS c now) (.bI (.sl .bS d sure) .bN)]=>some (Ql now&&Ql sure,.bool (Hz now sure))
 |_=>none
def QmX(c:Bool)(now:bL)(d:Bool)(sure:bL):=eU cF Lx 40 7 [.bI (.sl (C:=RC) .bS c now) (cL .bS d sure .bN)]
theorem Qt0 c now d sure:QmX c now d sure=(let Z0:fG:=some (D.bool true);cb (Qc now.length) (bif decide ((60:Int)<(now.length:Int))then Z0 else cb (Qc sure.length) (bif decide ((60:Int)<(sure.length:Int))then Z0 else cb (Ql now) (bif JO now 0 then Z0 else cb (Ql sure) (bif JO sure 0 then Z0 else some (D.bool false)))))):=by kernel_rfl
theorem Qt1 c now d sure(h:(Ql now&&Ql sure)=true):QmX c now d sure=some (.bool (Hz now sure)):=by
 (rw[Qt0];delta cb;conv=>zeta)
 rw[ai]at h;obtain⟨hg,pO⟩:=h;have l1:=Qd (Zo.1 hg).1;have l2:=Qd (Zo.1 pO).1;simp only[hg,pO,l1,l2,ag,Hz];cases decide ((60:Int)<now.length)<;>cases decide ((60:Int)<sure.length)<;>cases JO now 0<;>cases JO sure 0<;>rfl
def Ly:=Lx.cm 7 Wo
theorem QpH:Qj Tryz.prog cF Ly:=QpG.c6 Qb fun args d h=>by
 unfold Wo at h
 split at h
 ·obtain⟨h1,rfl⟩:=ak h;exact⟨by simp[D.refs],40,Qt1 _ _ _ _ h1⟩
 ·cases h
def Wp:bW->bO
 |[.bI (.sl .bS c now) (.bI (.sl .bS d sure) .bN),.bI (.sl .bS c' eS) (.bI (.sl .bS d' dP) .bN)]=>some (Qc now.length&&Qc eS.length&&(Qc sure.length&&Qc dP.length),.bool (decide (now=eS)&&decide (sure=dP)))
 |_=>none
def QmZ(c:Bool)(now:bL)(d:Bool)(sure:bL)(c':Bool)(eS:bL)(d':Bool)(dP:bL):=eU cF Ly 40 51 [.bI (.sl (C:=RC) .bS c now) (cL .bS d sure .bN),.bI (.sl (C:=RC) .bS c' eS) (cL .bS d' dP .bN)]
theorem Qt2 c now d sure c' eS d' dP:QmZ c now d sure c' eS d' dP=(bif Qc now.length&&Qc eS.length then bif decide (now=eS)then bif Qc sure.length&&Qc dP.length then some (D.bool (decide (sure=dP)))else none else some (D.bool false)else none):=by kernel_rfl
theorem Qt3 c now d sure c' eS d' dP(h:(Qc now.length&&Qc eS.length&&(Qc sure.length&&Qc dP.length))=true):QmZ c now d sure c' eS d' dP=some (.bool (decide (now=eS)&&decide (sure=dP))):=by
 rw[Qt2];rw[ai]at h;rw[h.1,h.2];cases decide (now=eS)<;>rfl
def Oe:=Ly.cm 51 Wp
theorem QkN:Qj Tryz.prog cF Oe:=QpH.c6 Qb fun args d h=>by
 unfold Wp at h
 split at h
 ·obtain⟨h1,rfl⟩:=ak h;exact⟨by simp[D.refs],40,Qt3 _ _ _ _ _ _ _ _ h1⟩
 ·cases h
def XQ:bW->bO
 |[.bI (.sl .bS c now) (.bI (.sl .bS d sure) .bN),.int .i64 k,.int .i64 n,.str b]=>some (Ql now&&Ql sure&&Qc b.length,.cH (.bI (cL .bS (!Zk now sure k n b) (iG now sure k n b) (cL .bS (!Zk now sure k n b) (VN now sure k n b) .bN)) (cG (bif Zk now sure k n b then 0 else 2) .bN)))
 |_=>none
def Qt6(c:Bool)(now:bL)(d:Bool)(sure:bL)(k n:Int)(b:bK):=eU cF Oe 40 48 [.bI (.sl (C:=RC) .bS c now) (cL .bS d sure .bN),.int .i64 k,.int .i64 n,.str b]
theorem Qy6 c now d sure k n b:Qt6 c now d sure k n b=(let Z0:bQ:=D.sl ca.bS true [];let Z1:fG:=some (D.cH (D.bI (D.bI Z0 (D.bI Z0 .bN)) (.bI (cq 2) .bN)));let Z2:Nat:=(0:Nat)+now.length;let Z3:Nat:=(0:Nat)+sure.length;let Z4:bL:=List.replicate 0 (cB.mk 0 []);let Z5:=List.length (Z4++now);let Z6:=Nat.beq Z2 Z5;let Z7:Bool:=Z6&&ep k (Z5:Int);let Z8:bL:=List.set (Z4++now) k.toNat (cB.mk n b);let Z9:=Nat.beq Z3 (Z4++sure).length;let dg:bQ:=D.bI (D.sl ca.bS false (Z4++sure)) .bN;let dq:bQ:=D.bI (cq 0) .bN;let dE:fG:=none;bif Ql now&&Ql sure then bif (bif Qt now sure then (0:Int)else (2:Int))!=0 then Z1 else bif decide (k<0)then Z1 else bif decide ((33:Int)<=k)then Z1 else bif decide (n<1)then Z1 else bif decide ((1048575:Int)<n)then Z1 else bif b==Array.toList #[]then Z1 else bif Qc b.length then bif decide ((640:Int)<(b.length:Int))then Z1 else bif Qf Z2 24 then bif Qf Z3 24 then bif Z7 then bif Z6 then bif Z6 then bif decide (cB.n (List.getD (Z4++now) k.toNat (cB.mk 0 []))<n)then bif Z7 then bif Z6 then bif Nat.beq Z2 Z8.length then bif Z9 then some (D.cH (D.bI (D.bI (D.sl ca.bS false Z8) dg) dq))else dE else dE else dE else dE else bif Z6 then bif Z9 then some (D.cH (D.bI (D.bI (D.sl ca.bS false (Z4++now)) dg) dq))else dE else dE else dE else dE else dE else dE else dE else dE else dE):=by kernel_rfl
theorem Qy7 c now d sure k n b(h:(Ql now&&Ql sure&&Qc b.length)=true):Qt6 c now d sure k n b=some (.cH (.bI (cL .bS (!Zk now sure k n b) (iG now sure k n b) (cL .bS (!Zk now sure k n b) (VN now sure k n b) .bN)) (cG (bif Zk now sure k n b then 0 else 2) .bN))):=by
 (rw[Qy6];delta ep cq;conv=>zeta)
 simp only[ai]at h;obtain⟨⟨hg,pO⟩,hb⟩:=h;have yq:(Ql now&&Ql sure)=true:=by rw[hg,pO];rfl
 have no:Zk now sure k n b=false->some (D.cH (.bI (cL .bS true [] (cL .bS true [] .bN)) (cG 2 .bN)))=some (.cH (.bI (cL .bS (!Zk now sure k n b) (iG now sure k n b) (cL .bS (!Zk now sure k n b) (VN now sure k n b) .bN)) (cG (bif Zk now sure k n b then 0 else 2) .bN))):=fun e=>by simp only[e,iG,VN];rfl
 refine Qa yq ?_;cases hd:Qt now sure
 ·exact Qa rfl (no (Zw fun f=>by rw[hd]at f;cases f.1))
 obtain⟨l1,l2⟩:=Yl hd;refine Qn rfl (Qy (fun e=>no (Zw fun f=>by simp only[aa]at e;omega)) fun e1=>?_);refine(Qy (fun e=>no (Zw fun f=>by simp only[aa]at e;omega)) fun e2=>?_);refine(Qy (fun e=>no (Zw fun f=>by simp only[aa]at e;omega)) fun e3=>?_);have mf:Zn ⟨n,b⟩=true->n<=1048575/\b.length<=640:=fun e=>by simp only[Zn,ai,aa]at e;exact⟨e.1.1.2,e.1.2⟩
 refine(Qy (fun e=>no (Zw fun f=>by have:=mf f.2.2.2.2.2;simp only[aa]at e;omega)) fun e4=>?_);refine(Qy (fun e=>no (Zw fun f=>f.2.2.2.2.1 (by simpa using e))) fun e5=>?_);refine Qa hb ?_;refine(Qy (fun e=>no (Zw fun f=>by have:=mf f.2.2.2.2.2;simp only[aa]at e;omega)) fun e6=>?_);simp only[ae]at e1 e2 e3 e4 e6
 have ok:Zk now sure k n b=true:=by
  have d1:0<n:=by omega
  simp only[Zk,hd,Zn,Bool.true_and,ai,aa,d1,aM,Bool.true_or];exact⟨⟨⟨⟨by omega,by omega⟩,by omega⟩,by simpa using e5⟩,⟨⟨by omega,by omega⟩,by omega⟩,trivial⟩
 rw[ok];have r0:∀l:bL,List.replicate 0 (⟨0,[]⟩:cB)++l=l:=fun l=>rfl;have eb:∀n:Nat,n.beq n=true:=fun n=>by simp
 have s1:Qf now.length 24=true:=by simp[Qf];omega
 have s2:Qf sure.length 24=true:=by simp[Qf];omega
 have dk:decide (0<=k/\k<(now.length:Int))=true:=by simp;omega
 simp only[iG,VN,ok,ag,bg,r0,aN,bf,eb,s1,s2,dk,au];refine Qy (fun e=>?_) fun e=>?_<;>simp only[aa,ae]at e
 ·have pn:K3 now k.toNat n b=now.set k.toNat ⟨n,b⟩:=ax e;rw[pn]
 ·have pn:K3 now k.toNat n b=now:=aw e;rw[pn]
def Of:=Oe.cm 48 XQ
theorem QkO:Qj Tryz.prog cF Of:=QkN.c6 Qb fun args d h=>by
 unfold XQ at h
 split at h
 ·obtain⟨h1,rfl⟩:=ak h;exact⟨by simp[D.refs],40,Qy7 _ _ _ _ _ _ _ h1⟩
 ·cases h
theorem Qt8{b:bK}{r:Rec}(h:Zd b=some r):gj r=true:=by
 unfold Zd at h
 split at h
 ·rename_i q;cases h;exact q.2.2.2
 ·cases h
theorem QiS{b:bK}{s:St}(h:QA b=some s):Qs s=true:=by
 rw[Qmo]at h
 split at h
 ·split at h
  ·rename_i q;cases h;exact q.2
  ·cases h
 ·cases h
theorem Qhd(c:Int)(l:bJ):(QB c l).length=7+5*l.length:=by
 simp only[QB,aC,Qw,ZE l ZJ 5 Yz]
theorem Kl{s:St}(h:Qs s=true):(Vz s).length<=385:=by
 obtain⟨p,it,l0,l1,l2,c0,c1,c2⟩:=s;obtain⟨hp,hn,hi,h0,h1,h2⟩:=Vj h;simp only[Vz,aC,Qw,ZE it YK 5 FY,Qhd];omega
def n8(b:bK):Int:=((Yk b).getD (0,[])).1
def ow(b:bK):bK:=((Yk b).getD (0,[])).2
theorem Nl{b:bK}{a w:Int}(h1:1<=w)(h2:w<=6)(h3:0<=a)(h4:a+w<=b.length):cU b a w=((cf ((b.drop a.toNat).take w.toNat):Int),0):=by simp[cU,h1,h2,h3,h4]
theorem Qy8{b:bK}{a w:Int}(h1:1<=w)(h2:w<=6)(h4:b.length<a+w):cU b a w=(0,50):=by
 have:¬a+w<=(b.length:Int):=by omega
 simp[cU,h1,h2,this]
theorem xq{n:Int}{l:bK}(h:¬(1<=n/\n<=1048575/\l.length<=600)):okF n l=false:=by
 cases e:okF n l
 ·rfl
 ·simp only[okF,ai,aa]at e;exact absurd ⟨e.1.1,e.1.2,e.2⟩ h
def mh(s:cB):fq:=(Yk s.b).bind fun p=>if p.1=s.n then some p.2 else none
def jS(s:cB):Option St:=(mh s).bind fun l=>(QA l).bind fun st=>if st.b8<=s.n then some st else none
def im(now sure:bL):Int:=bif YS now sure 32 then(bif(iE now sure 32).n==0 then 60 else bif(jS (iE now sure 32)).isNone then 50 else 0)else 2
def dy(now sure:bL):Option St:=bif YS now sure 32 then(bif(iE now sure 32).n==0 then none else jS (iE now sure 32))else none
def iS(now sure:bL):Int:=bif(dy now sure).isNone then 0 else(iE now sure 32).n
def iF(n:Int)(s:St):Bool:=decide (1<=n)&&decide (n<=1048575)&&decide (s.b8<=n)&&Qs s
def gX(n:Int)(s:St):bK:=bif iF n s then YX n (Vz s)else[]
theorem RK{n:Int}{s:St}(h:iF n s=true):okF n (Vz s)=true:=by
 simp only[iF,ai,aa]at h;have:=Kl h.2;simp only[okF,ai,aa];omega
theorem Nm{n:Int}{s:St}:(gX n s).length<=397:=by
 unfold gX;cases h:iF n s
 ·simp
 ·simp only[iF,ai,aa]at h;have:=Kl h.2;simp only[ag,F8];omega
theorem QEX{n:Int}{s:St}(h:iF n s=true):gX n s≠[]:=by
 intro e;have:=ap List.length e;simp[gX,h,F8]at this
theorem XR now sure k:(iE now sure k).b.length<=640:=by
 unfold iE;cases h:YS now sure k
 ·simp[iU]
 ·have l:=h;simp only[YS,ai,aa,Qt,YF]at l;have hm:k.toNat<now.length:=by omega
  have e:now.getD k.toNat iU=now[k.toNat]:=by simp[hm]
  have m:=aX.1 l.1.1.1.2 _ (bA hm);simp only[Zn,ai,aa]at m;rw[ag,e];exact m.1.2
theorem Jl{n:Int}{s:St}(h:¬(1<=n/\n<=1048575/\s.b8<=n/\Qs s=true)):iF n s=false:=by
 cases e:iF n s
 ·rfl
 ·simp only[iF,ai,aa]at e;exact absurd ⟨e.1.1.1,e.1.1.2,e.1.2,e.2⟩ h
theorem Hi s:((mh s).getD []).length<=s.b.length:=by
 unfold mh;cases h:Yk s.b with
 |none=>simp
 |some p=>
  obtain⟨n,l⟩:=p;have h2:=ap List.length (Qmy h).2;rw[F8]at h2
  by_cases e:n=s.n
  ·simp[e];omega
  ·simp[e]
open Go.Proofs
def Wq:bW->bO
 |[.int .i64 n]=>some (decide (n<=1000000),.int .i64 (bif decide (n<0)||decide (600<n)then 0 else n+12))
 |_=>none
def XS(n:Int):=eU cF Of 40 204 [.int .i64 n]
theorem Qt9 n:XS n=(let Z0:fG:=some (cq 0);bif decide (n<(0:Int))then Z0 else bif decide ((600:Int)<n)then Z0 else some (cq (cX (cX ((8:Int)+n)+(4:Int))))):=by kernel_rfl
theorem Qua n(h:(decide (n<=1000000))=true):XS n=some (.int .i64 (bif decide (n<0)||decide (600<n)then 0 else n+12)):=by
 (rw[Qt9];delta cq cX;conv=>zeta)
 have hl:=af h
 by_cases h0:n<0
 ·simp[h0]
 by_cases h6:600<n
 ·simp[h0,h6]
 have w1:IntKind.i64.wrap (8+n)=8+n:=cu (by omega) (by omega);have w2:IntKind.i64.wrap (8+n+4)=8+n+4:=cu (by omega) (by omega);simp[h0,h6,w1,w2];omega
def BC:=Of.cm 204 Wq
theorem Qub:Qj Tryz.prog cF BC:=QkO.c6 Qb fun args d h=>by
 unfold Wq at h
 split at h
 ·obtain⟨h1,rfl⟩:=ak h;exact⟨by simp[D.refs],40,Qua _ h1⟩
 ·cases h
def Uf:bW->bO
 |[.int .i64 n,.str b]=>some (decide (b.length<=1000000),.cH (.bI (.str (bif okF n b then YX n b else[])) (cG (bif okF n b then 0 else 2) .bN)))
 |_=>none
def Wr(n:Int)(b:bK):=eU cF BC 60 189 [.int .i64 n,.str b]
theorem QpI n b:Wr n b=(let Z0:fG:=some (D.cH (D.bI (D.str (Array.toList #[])) (.bI (D.int .i64 2) .bN)));let Z1:=b.length;let Z2:Int:=(Z1:Int);let Z3:Nat:=(0:Nat)+List.length (dO [] n 6);let Z4:=List.length ([]++dO [] n 6);let Z5:=List.length (dO [] Z2 2);let Z6:bK:=[]++dO [] n 6++dO [] Z2 2;let Z7:=List.length (Z6++b);let Z8:fG:=none;bif(bif QU n 6then(0:Int)else(2:Int))!=0then Z0 else bif decide (n<1)then Z0 else bif decide ((1048575:Int)<n)then Z0 else bif Qc Z1 then bif decide (Z2<=1000000)then bif(bif decide (Z2<0)||decide ((600:Int)<Z2)then(0:Int)else Z2+12)==0then Z0 else bif Qc Z1 then bif Qf Z1 1then bif Qf Z3 1then bif Nat.beq Z3 Z4&&Qf (Z3+Z5) 1then bif Nat.beq (Z4+Z5) Z6.length&&Qf (Z4+Z5+Z1) 1then bif Nat.beq (Z6.length+Z1) Z7 then bif decide (Z7<=1000000)then some (D.cH (D.bI (D.str (Y7 (Z6++b))) (.bI (D.int .i64 0) .bN)))else Z8 else Z8 else Z8 else Z8 else Z8 else Z8 else Z8 else Z8 else Z8):=by kernel_rfl
theorem QpJ n b(h:(decide (b.length<=1000000))=true):Wr n b=some (.cH (.bI (.str (bif okF n b then YX n b else[])) (cG (bif okF n b then 0 else 2) .bN))):=by
 (rw[QpI];conv=>zeta)
 have hl:=af h;have lb:Qc b.length=true:=Qd (by omega);have ld:decide ((b.length:Int)<=1000000)=true:=by simp;omega
 have no:okF n b=false->some (D.cH (.bI (.str []) (cG 2 .bN)))=some (.cH (.bI (.str (bif okF n b then YX n b else[])) (cG (bif okF n b then 0 else 2) .bN)):bQ):=fun e=>by rw[e];rfl
 refine Qy (fun e=>no (xq fun f=>by rw[show QU n 6=true by rw[YI];omega]at e;cases e)) fun e0=>?_;refine Qy (fun e=>no (xq fun f=>by simp only[aa]at e;omega)) fun e1=>?_;refine Qy (fun e=>no (xq fun f=>by simp only[aa]at e;omega)) fun e2=>?_;refine Qa lb (Qa ld ?_);simp only[ae]at e1 e2
 by_cases h6:600<(b.length:Int)
 ·refine Qa ?_ (no (xq fun f=>by omega));simp[h6]
 refine Qn ?_ ?_
 ·have:¬(b.length:Int)<0:=by omega
  simp[this,h6];omega
 have ok:okF n b=true:=by simp only[okF,ai,aa];omega
 have f6:QU n 6=true:=by rw[YI];omega
 have f2:QU (b.length:Int) 2=true:=by rw[YI];omega
 have p6:dO [] n 6=fX n 6:=(Q7 f6).trans (aH _);have p2:dO [] (b.length:Int) 2=fX b.length 2:=(Q7 f2).trans (aH _);simp only[p6,p2,aH,Qw,aC,aN];have hb6:b.length<=600:=by omega
 have es:∀k:Nat,k<=700->Qf k 1=true:=fun k hk=>Zb (by omega);have eb:∀n:Nat,n.beq n=true:=fun n=>by simp
 have ed:decide (6+2+b.length<=1000000)=true:=by simp;omega
 simp(disch:=omega) only[es,eb,lb,ed,au,ag];rw[ok];rfl
def BD:=BC.cm 189 Uf
theorem Quc:Qj Tryz.prog cF BD:=Qub.c6 Qb fun args d h=>by
 unfold Uf at h
 split at h
 ·obtain⟨h1,rfl⟩:=ak h;exact⟨by simp[D.refs],60,QpJ _ _ h1⟩
 ·cases h
def Ws:bW->bO
 |[.str b]=>some (decide (b.length<=1000000),.cH (cG (n8 b) (.bI (.str (ow b)) (cG (bif(Yk b).isNone then 50 else 0) .bN))))
 |_=>none
def XT(b:bK):=eU cF BD 60 144 [.str b]
theorem Qud b:XT b=(let Z0:bK:=(fun(l:bK)=>l) b;let Z1:=Option.getD (ZX Z0) [];let Z2:=Z1.length;let Z3:Bool:=decide (Z2<=1000000000000);let Z4:bQ:=cq 0;let Z5:fG:=some (D.cH (D.bI Z4 (D.bI (D.str (Array.toList #[])) (.bI (cq 50) .bN))));let Z6:Int×Int:=cU Z1 6 2;let Z7:Int:=(Z2:Int);let Z8:=Prod.fst (cU Z1 0 6);cb (Qf b.length 1) (cb (decide (Z0.length<=1000000)) (cb Z3 (cb Z3 (bif (bif Option.isNone (ZX Z0)then (50:Int)else (0:Int))!=0 then Z5 else bif Z6.2 !=0 then Z5 else cb (Qc Z2) (bif bif Z6.1 !=cX (cX (Z7-6)-2)then true else bif decide ((600:Int)<Z6.1)then true else bif decide (Z8<1)then true else decide ((1048575:Int)<Z8)then Z5 else cb (Qc Z2) (cb (Qc Z2) (cb (decide ((0:Int)<=8/\(8:Int)<=Z7/\Z7<=Z7/\Z7=Z7)) (some (D.cH (D.bI (cq Z8) (.bI (D.str (List.drop 8 (List.take Z7.toNat Z1))) (.bI Z4 .bN))))))))))))):=by kernel_rfl
theorem Que b(h:(decide (b.length<=1000000))=true):XT b=some (.cH (cG (n8 b) (.bI (.str (ow b)) (cG (bif(Yk b).isNone then 50 else 0) .bN)))):=by
 (rw[Qud];delta cb cq cX;conv=>zeta)
 have hl:=af h;have hs:Qf b.length 1=true:=Zb (by omega);cases hq:ZX b with
 |none=>
  have hr:Yk b=none:=by simp[Yk,hq]
  simp[hs,hl,hq,hr,n8,ow]
 |some x=>
  have hx:=Wj hq;have lk:Qc x.length=true:=Qd (by omega);have d1:x.length<=1000000000000:=by omega
  have hr:Yk b=if 8<=x.length/\cf ((x.drop 6).take 2)+8=x.length/\x.length<=608/\1<=cf (x.take 6)/\cf (x.take 6)<=1048575 then some ((cf (x.take 6):Int),x.drop 8)else none:=by simp only[Yk,hq]
  by_cases h8:x.length<8
  ·have g2:cU x 6 2=(0,50):=Qy8 (by omega) (by omega) (by omega);have fT:Yk b=none:=by rw[hr,aw (by omega)]
   simp[hs,hl,hq,fT,g2,d1,n8,ow]
  ·have g2:cU x 6 2=((cf ((x.drop 6).take 2):Int),0):=Nl (by omega) (by omega) (by omega) (by omega);have g6:cU x 0 6=((cf (x.take 6):Int),0):=Nl (by omega) (by omega) (by omega) (by omega);have w1:IntKind.i64.wrap ((x.length:Int)-6)=x.length-6:=cu (by omega) (by omega);have w2:IntKind.i64.wrap ((x.length:Int)-6-2)=x.length-6-2:=cu (by omega) (by omega);have dd:(0:Int)<=8/\8<=(x.length:Int)/\(x.length:Int)<=x.length/\(x.length:Int)=x.length:=by omega
   generalize cf ((x.drop 6).take 2)=v2 at hr g2;generalize cf (x.take 6)=v6 at hr g6
   by_cases C:8<=x.length/\v2+8=x.length/\x.length<=608/\1<=v6/\v6<=1048575
   ·rw[ax C]at hr;have c1:((v2:Int)!=(x.length:Int)-6-2)=false:=by simp[bne];omega
    have c2:¬600<(v2:Int):=by omega
    have c3:¬(v6:Int)<1:=by omega
    have c4:¬1048575<(v6:Int):=by omega
    have dx:(8:Int)<=x.length:=by omega
    simp[hs,hl,hq,hr,g2,g6,d1,n8,ow,lk,w1,w2,c1,c2,c3,c4,dx]
   ·rw[aw C]at hr
    have c5:(bif((v2:Int)!=(x.length:Int)-6-2)then true else bif decide (600<(v2:Int))then true else bif decide ((v6:Int)<1)then true else decide (1048575<(v6:Int)))=true:=by
     cases c1:((v2:Int)!=(x.length:Int)-6-2)
     ·simp[bne]at c1
      by_cases c2:600<(v2:Int)
      ·simp[c2]
      by_cases c3:(v6:Int)<1
      ·simp[c3]
      by_cases c4:1048575<(v6:Int)
      ·simp[c4]
      ·exact absurd ⟨by omega,by omega,by omega,by omega,by omega⟩ C
     ·rfl
    simp only[hs,hl,hq,hr,g2,g6,d1,n8,ow,lk,w1,w2,c5,ba,Option.getD_none,Option.isNone_some,Option.isNone_none,ag,ah,aM];rfl
def BE:=BD.cm 144 Ws
theorem Quf:Qj Tryz.prog cF BE:=Quc.c6 Qb fun args d h=>by
 unfold Ws at h
 split at h
 ·obtain⟨h1,rfl⟩:=ak h;exact⟨by simp[D.refs],60,Que _ h1⟩
 ·cases h
def Qug:bW->bO
 |[.bI (.int .i64 n) (.bI (.str b) .bN)]=>some (decide (b.length<=1000000),.cH (.bI (.str ((mh ⟨n,b⟩).getD [])) (.bI (.bool (mh ⟨n,b⟩).isSome) .bN)))
 |_=>none
def Sv(n:Int)(b:bK):=eU cF BE 40 87 [.bI (.int .i64 n) (.bI (.str b) .bN)]
theorem QDr n b:Sv n b=(let Z0:fG:=some (D.cH (D.bI (D.str (Array.toList #[])) (.bI (D.bool false) .bN)));bif decide (b.length<=1000000)then bif(bif Option.isNone (Yk b)then(50:Int)else(0:Int))!=0then Z0 else bif n8 b !=n then Z0 else some (D.cH (D.bI (D.str (ow b)) (.bI (D.bool true) .bN)))else none):=by kernel_rfl
theorem QDs n b(h:(decide (b.length<=1000000))=true):Sv n b=some (.cH (.bI (.str ((mh ⟨n,b⟩).getD [])) (.bI (.bool (mh ⟨n,b⟩).isSome) .bN))):=by
 (rw[QDr];conv=>zeta)
 rw[h];simp only[n8,ow,mh,ag];cases hr:Yk b with
 |none=>rfl
 |some p=>
  obtain⟨m,l⟩:=p
  by_cases e:m=n
  ·subst e;simp[bne]
  ·have e2:(m !=n)=true:=by simpa[bne]using e
   simp[e,e2]
def BF:=BE.cm 87 Qug
theorem Quh:Qj Tryz.prog cF BF:=Quf.c6 Qb fun args d h=>by
 unfold Qug at h
 split at h
 ·obtain⟨h1,rfl⟩:=ak h;exact⟨by simp[D.refs],40,QDs _ _ h1⟩
 ·cases h
open Go.Proofs
def Wt:bW->bO
 |[.int .i64 n,.bI (.int .i64 p) (.bI (.sl .cE ci bV) (.bI (.bI (.sl .bP k0 l0) (.bI (.sl .bP k1 l1) (.bI (.sl .bP k2 l2) .bN))) (.bI (.arr .int 3 [c0,c1,c2]) .bN)))]=>some (decide (bV.length<=9223372036854775807/\l0.length<=9223372036854775807/\l1.length<=9223372036854775807/\l2.length<=9223372036854775807),.cH (.bI (.str (gX n ⟨p,bV,l0,l1,l2,c0,c1,c2⟩)) (cG (bif iF n ⟨p,bV,l0,l1,l2,c0,c1,c2⟩then 0 else 2) .bN)))
 |_=>none
def XU(n p:Int)(ci:Bool)(bV:bM)(k0 k1 k2:Bool)(l0 l1 l2:bJ)(c0 c1 c2:Int):=eU cF BF 40 162 [.int .i64 n,.bI (.int .i64 p) (cL .cE ci bV (.bI (cL .bP k0 l0 (cL .bP k1 l1 (cL .bP k2 l2 .bN))) (.bI (.arr (C:=RC) .int 3 [c0,c1,c2]) .bN)))]
theorem Qui n p ci bV k0 k1 k2 l0 l1 l2 c0 c1 c2:XU n p ci bV k0 k1 k2 l0 l1 l2 c0 c1 c2=(let Z0:fG:=some (D.cH (D.bI (D.str (Array.toList #[])) (.bI (cq 2) .bN)));let Z1:St:=St.mk p bV l0 l1 l2 c0 c1 c2;let Z2:List (RA ca.u8):=(fun(l:List (RA ca.u8))=>l) (bif Qs Z1 then Vz Z1 else []);cb (decide (bV.length<=9223372036854775807/\l0.length<=9223372036854775807/\l1.length<=9223372036854775807/\l2.length<=9223372036854775807)) (bif decide (n<1)then Z0 else bif decide ((1048575:Int)<n)then Z0 else bif bif decide (n<p)then true else (bif Qs Z1 then (0:Int)else (2:Int))!=0 then Z0 else cb (decide (Z2.length<=1000000)) (some (D.cH (D.bI (D.str (bif okF n Z2 then YX n Z2 else [])) (.bI (cq (bif okF n Z2 then (0:Int)else (2:Int))) .bN)))))):=by kernel_rfl
theorem Quj n p ci bV k0 k1 k2 l0 l1 l2 c0 c1 c2(h:(decide (bV.length<=9223372036854775807/\l0.length<=9223372036854775807/\l1.length<=9223372036854775807/\l2.length<=9223372036854775807))=true):XU n p ci bV k0 k1 k2 l0 l1 l2 c0 c1 c2=some (.cH (.bI (.str (gX n ⟨p,bV,l0,l1,l2,c0,c1,c2⟩)) (cG (bif iF n ⟨p,bV,l0,l1,l2,c0,c1,c2⟩then 0 else 2) .bN))):=by
 (rw[Qui];delta cb cq;conv=>zeta)
 generalize hs:(⟨p,bV,l0,l1,l2,c0,c1,c2⟩:St)=s;have hp:s.b8=p:=by rw[<-hs]
 have no:iF n s=false->some (D.cH (.bI (.str []) (cG 2 .bN)))=some (.cH (.bI (.str (gX n s)) (cG (bif iF n s then 0 else 2) .bN)):bQ):=fun e=>by simp only[gX,e];rfl
 refine Qa h ?_;have no2:∀m:Int,iF n s=false->some (D.cH (.bI (.str []) (cG 2 .bN)))=some (.cH (.bI (.str (gX n s)) (cG (bif iF n s then 0 else 2) .bN)):bQ):=fun _=>no;refine Qy (fun e=>no (Jl fun f=>by simp only[aa]at e;omega)) fun e1=>?_;refine Qy (fun e=>no (Jl fun f=>by simp only[aa]at e;omega)) fun e2=>?_;cases eI:Qs s
 ·exact Qa (by cases decide (n<p)<;>rfl) (no (Jl fun f=>by rw[eI]at f;cases f.2.2.2))
 by_cases hnp:n<p
 ·exact Qa (by rw[ab hnp];rfl) (no (Jl fun f=>by omega))
 refine Qn (by rw[ad hnp];rfl) ?_;simp only[ae]at e1 e2;have ok:iF n s=true:=by simp only[iF,ai,aa];exact⟨⟨⟨by omega,by omega⟩,by omega⟩,eI⟩
 have oF:=RK ok;have hl:=Kl eI;simp only[ag];refine Qa (by simp;omega) ?_;rw[oF];simp only[gX,ok,ag]
def BG:=BF.cm 162 Wt
theorem Quk:Qj Tryz.prog cF BG:=Quh.c6 Qb fun args d h=>by
 unfold Wt at h
 split at h
 ·obtain⟨h1,rfl⟩:=ak h;exact⟨by simp[D.refs],40,Quj _ _ _ _ _ _ _ _ _ _ _ _ _ h1⟩
 ·cases h
def Wu:bW->bO
 |[.bI (.sl .bS c now) (.bI (.sl .bS d sure) .bN)]=>some (Ql now&&Ql sure,.cH (cG (iS now sure) (.bI (cG (dh (dy now sure)).b8 (cL .cE (dy now sure).isNone (dh (dy now sure)).bV (.bI (cL .bP (dy now sure).isNone (dh (dy now sure)).l0 (cL .bP (dy now sure).isNone (dh (dy now sure)).l1 (cL .bP (dy now sure).isNone (dh (dy now sure)).l2 .bN))) (.bI (.arr (C:=RC) .int 3 [(dh (dy now sure)).c0,(dh (dy now sure)).c1,(dh (dy now sure)).c2]) .bN)))) (cG (im now sure) .bN))))
 |_=>none
def XV(c:Bool)(now:bL)(d:Bool)(sure:bL):=eU cF BG 40 34 [.bI (.sl (C:=RC) .bS c now) (cL .bS d sure .bN)]
theorem Qul c now d sure:XV c now d sure=(let Z0:Int:=bif YS now sure 32 then (0:Int)else (2:Int);let Z1:bQ:=cq 0;let Z2:bQ:=D.sl ca.bP true [];let Z3:bQ:=.bN;let Z4:bQ:=D.bI Z1 (D.bI (D.sl ca.cE true []) (.bI (D.bI Z2 (D.bI Z2 (D.bI Z2 Z3))) (.bI (D.arr ca.int 3 (List.replicate 3 0)) Z3)));let Z5:cB:=iE now sure 32;let Z6:=cB.n Z5;let Z7:=Option.getD (mh (cB.mk Z6 (cB.b Z5))) [];let Z8:bK:=(fun(l:bK)=>l) Z7;let Z9:fG:=some (D.cH (D.bI Z1 (D.bI Z4 (D.bI (cq 50) Z3))));let dg:=Option.isNone (QA Z8);let dq:St:=dh (QA Z8);cb (Ql now&&Ql sure) (bif Z0 !=0 then some (D.cH (D.bI Z1 (D.bI Z4 (D.bI (cq Z0) Z3))))else bif Z6==0 then some (D.cH (D.bI Z1 (D.bI Z4 (D.bI (cq 60) Z3))))else cb (decide (List.length (cB.b Z5)<=1000000)) (cb (Qf Z7.length 1) (cb (decide (Z8.length<=1000000)) (bif !Option.isSome (mh (cB.mk Z6 (cB.b Z5)))then Z9 else bif (bif dg then (50:Int)else (0:Int))!=0 then Z9 else bif decide (Z6<St.b8 dq)then Z9 else some (D.cH (D.bI (cq Z6) (.bI (D.bI (cq dq.b8) (.bI (D.sl ca.cE dg dq.bV) (.bI (D.bI (D.sl ca.bP dg dq.l0) (.bI (D.sl ca.bP dg dq.l1) (.bI (D.sl ca.bP dg dq.l2) Z3))) (.bI (D.arr ca.int 3 [St.c0 dq,St.c1 dq,St.c2 dq]) Z3)))) (.bI Z1 Z3))))))))):=by kernel_rfl
theorem Qum c now d sure(h:(Ql now&&Ql sure)=true):XV c now d sure=some (.cH (cG (iS now sure) (.bI (cG (dh (dy now sure)).b8 (cL .cE (dy now sure).isNone (dh (dy now sure)).bV (.bI (cL .bP (dy now sure).isNone (dh (dy now sure)).l0 (cL .bP (dy now sure).isNone (dh (dy now sure)).l1 (cL .bP (dy now sure).isNone (dh (dy now sure)).l2 .bN))) (.bI (.arr (C:=RC) .int 3 [(dh (dy now sure)).c0,(dh (dy now sure)).c1,(dh (dy now sure)).c2]) .bN)))) (cG (im now sure) .bN)))):=by
 (rw[Qul];delta cb cq;conv=>zeta)
 refine Qa h ?_;have no:∀e:Int,dy now sure=none->im now sure=e->some (D.cH (cG 0 (.bI (cG 0 (cL .cE true [] (.bI (cL .bP true [] (cL .bP true [] (cL .bP true [] .bN))) (.bI (.arr (C:=RC) .int 3 (List.replicate 3 0)) .bN)))) (cG e .bN))))=some (.cH (cG (iS now sure) (.bI (cG (dh (dy now sure)).b8 (cL .cE (dy now sure).isNone (dh (dy now sure)).bV (.bI (cL .bP (dy now sure).isNone (dh (dy now sure)).l0 (cL .bP (dy now sure).isNone (dh (dy now sure)).l1 (cL .bP (dy now sure).isNone (dh (dy now sure)).l2 .bN))) (.bI (.arr (C:=RC) .int 3 [(dh (dy now sure)).c0,(dh (dy now sure)).c1,(dh (dy now sure)).c2]) .bN)))) (cG (im now sure) .bN)))):=fun e h1 h2=>by simp only[iS,h1,h2];rfl
 cases hk:YS now sure 32
 ·exact Qa rfl (no 2 (by simp[dy,hk]) (by simp[im,hk]))
 refine Qn rfl ?_;have hn:=XR now sure 32;generalize hs:iE now sure 32=s at hn ⊢;obtain⟨n,b⟩:=s;have hf:=Hi ⟨n,b⟩
 dsimp only at hn hf ⊢
 refine Qy (fun e=>no 60 (by simp[dy,hk,hs,e]) (by simp[im,hk,hs,e])) fun e0=>?_;refine Qa (by simp;omega) (Qa (Zb (by omega)) (Qa (by simp;omega) ?_));cases ho:mh ⟨n,b⟩with
 |none=>exact Qa rfl (no 50 (by simp[dy,hk,hs,e0,jS,ho]) (by simp[im,hk,hs,e0,jS,ho]))
 |some l=>
  refine Qn rfl ?_;simp only[ba];have hc:QA l=none\/∃st,QA l=some st:=by cases QA l<;>simp
  rcases hc with hr|⟨st,hr⟩
  ·exact Qa (by rw[hr];rfl) (no 50 (by simp[dy,hk,hs,e0,jS,ho,hr]) (by simp[im,hk,hs,e0,jS,ho,hr]))
  ·refine Qn (by rw[hr];rfl) ?_
   by_cases hp:st.b8<=n
   ·refine Qn (by simp[hr,dh];omega) ?_;have e1:dy now sure=some st:=by simp[dy,hk,hs,e0,jS,ho,hr,hp]
    have e2:im now sure=0:=by simp[im,hk,hs,e0,jS,ho,hr,hp]
    have e3:iS now sure=n:=by simp[iS,e1,hs]
    simp only[e1,e2,e3,hr]
   ·exact Qa (by simp[hr,dh];omega) (no 50 (by simp[dy,hk,hs,e0,jS,ho,hr,hp]) (by simp[im,hk,hs,e0,jS,ho,hr,hp]))
def BH:=BG.cm 34 Wu
theorem Qun:Qj Tryz.prog cF BH:=Quk.c6 Qb fun args d h=>by
 unfold Wu at h
 split at h
 ·obtain⟨h1,rfl⟩:=ak h;exact⟨by simp[D.refs],40,Qum _ _ _ _ h1⟩
 ·cases h
def Qna:bW->bO
 |[.bI (.sl .bS c now) (.bI (.sl .bS d sure) .bN),.int .i64 n,.bI (.int .i64 p) (.bI (.sl .cE ci bV) (.bI (.bI (.sl .bP k0 l0) (.bI (.sl .bP k1 l1) (.bI (.sl .bP k2 l2) .bN))) (.bI (.arr .int 3 [c0,c1,c2]) .bN)))]=>some (Ql now&&Ql sure&&decide (bV.length<=9223372036854775807/\l0.length<=9223372036854775807/\l1.length<=9223372036854775807/\l2.length<=9223372036854775807),.cH (.bI (cL .bS (!Zk now sure 32 n (gX n ⟨p,bV,l0,l1,l2,c0,c1,c2⟩)) (iG now sure 32 n (gX n ⟨p,bV,l0,l1,l2,c0,c1,c2⟩)) (cL .bS (!Zk now sure 32 n (gX n ⟨p,bV,l0,l1,l2,c0,c1,c2⟩)) (VN now sure 32 n (gX n ⟨p,bV,l0,l1,l2,c0,c1,c2⟩)) .bN)) (cG (bif Zk now sure 32 n (gX n ⟨p,bV,l0,l1,l2,c0,c1,c2⟩)then 0 else 2) .bN)))
 |_=>none
def Qup(c:Bool)(now:bL)(d:Bool)(sure:bL)(n p:Int)(ci:Bool)(bV:bM)(k0 k1 k2:Bool)(l0 l1 l2:bJ)(c0 c1 c2:Int):=eU cF BH 40 104 [.bI (.sl (C:=RC) .bS c now) (cL .bS d sure .bN),.int .i64 n,.bI (.int .i64 p) (cL .cE ci bV (.bI (cL .bP k0 l0 (cL .bP k1 l1 (cL .bP k2 l2 .bN))) (.bI (.arr (C:=RC) .int 3 [c0,c1,c2]) .bN)))]
theorem Qy9 c now d sure n p ci bV k0 k1 k2 l0 l1 l2 c0 c1 c2:Qup c now d sure n p ci bV k0 k1 k2 l0 l1 l2 c0 c1 c2=(let Z0:=Ql now&&Ql sure;let Z1:Int:=bif Qt now sure then (0:Int)else (2:Int);let Z2:bQ:=D.sl ca.bS true [];let Z3:bQ:=.bN;let Z4:bQ:=D.bI Z2 (D.bI Z2 Z3);let Z5:St:=St.mk p bV l0 l1 l2 c0 c1 c2;let Z6:=Zk now sure 32 n (gX n Z5);let Z7:fG:=cb (Z0&&Qc (gX n Z5).length) (some (D.cH (D.bI (D.bI (D.sl ca.bS (!Z6) (iG now sure 32 n (gX n Z5))) (.bI (D.sl ca.bS (!Z6) (VN now sure 32 n (gX n Z5))) Z3)) (.bI (cq (bif Z6 then (0:Int)else (2:Int))) Z3))));let Z8:Int:=bif iF n Z5 then (0:Int)else (2:Int);cb (decide (bV.length<=9223372036854775807/\l0.length<=9223372036854775807/\l1.length<=9223372036854775807/\l2.length<=9223372036854775807)) (cb Z0 (bif Z1 !=0 then bif Z1 !=0 then some (D.cH (D.bI Z4 (D.bI (cq Z1) Z3)))else Z7 else bif Z8 !=0 then bif Z8 !=0 then some (D.cH (D.bI Z4 (D.bI (cq Z8) Z3)))else Z7 else Z7))):=by kernel_rfl
theorem Qza c now d sure n p ci bV k0 k1 k2 l0 l1 l2 c0 c1 c2(h:(Ql now&&Ql sure&&decide (bV.length<=9223372036854775807/\l0.length<=9223372036854775807/\l1.length<=9223372036854775807/\l2.length<=9223372036854775807))=true):Qup c now d sure n p ci bV k0 k1 k2 l0 l1 l2 c0 c1 c2=some (.cH (.bI (cL .bS (!Zk now sure 32 n (gX n ⟨p,bV,l0,l1,l2,c0,c1,c2⟩)) (iG now sure 32 n (gX n ⟨p,bV,l0,l1,l2,c0,c1,c2⟩)) (cL .bS (!Zk now sure 32 n (gX n ⟨p,bV,l0,l1,l2,c0,c1,c2⟩)) (VN now sure 32 n (gX n ⟨p,bV,l0,l1,l2,c0,c1,c2⟩)) .bN)) (cG (bif Zk now sure 32 n (gX n ⟨p,bV,l0,l1,l2,c0,c1,c2⟩)then 0 else 2) .bN))):=by
 (rw[Qy9];delta cb cq;conv=>zeta)
 generalize hs:(⟨p,bV,l0,l1,l2,c0,c1,c2⟩:St)=s;rw[ai,ai]at h;obtain⟨⟨hg,pO⟩,hl⟩:=h;refine Qa hl ?_;have no:Zk now sure 32 n (gX n s)=false->some (D.cH (.bI (cL .bS true [] (cL .bS true [] .bN)) (cG 2 .bN)))=some (.cH (.bI (cL .bS (!Zk now sure 32 n (gX n s)) (iG now sure 32 n (gX n s)) (cL .bS (!Zk now sure 32 n (gX n s)) (VN now sure 32 n (gX n s)) .bN)) (cG (bif Zk now sure 32 n (gX n s)then 0 else 2) .bN))):=fun e=>by simp only[e,iG,VN];rfl
 have hlb:Qc (gX n s).length=true:=Qd (by have := @Nm n s;omega);have hall:(Ql now&&Ql sure&&Qc (gX n s).length)=true:=by rw[hg,pO,hlb];rfl
 refine Qa (by rw[hg,pO];rfl) ?_;cases hd:Qt now sure
 ·exact Qa rfl (Qa rfl (no (Zw fun f=>by rw[hd]at f;cases f.1)))
 refine Qn rfl ?_;cases hk:iF n s
 ·exact Qa rfl (Qa rfl (no (Zw fun f=>f.2.2.2.2.1 (by simp[gX,hk]))))
 ·exact Qn rfl (Qa hall rfl)
def BI:=BH.cm 104 Qna
theorem Quq:Qj Tryz.prog cF BI:=Qun.c6 Qb fun args d h=>by
 unfold Qna at h
 split at h
 ·obtain⟨h1,rfl⟩:=ak h;exact⟨by simp[D.refs],40,Qza _ _ _ _ _ _ _ _ _ _ _ _ _ _ _ _ _ h1⟩
 ·cases h
open Go.Proofs
def Ug:bW->bO
 |[.int .i64 n,.str b]=>some (decide (b.length<=1000000),.cH (.bI (.str (bif okF n b then YX n b else[])) (cG (bif okF n b then 0 else 2) .bN)))
 |_=>none
def U5(n:Int)(b:bK):=eU cF BI 60 107 [.int .i64 n,.str b]
theorem QpK n b:U5 n b=(let Z0:fG:=some (D.cH (D.bI (D.str (Array.toList #[])) (.bI (D.int .i64 2) .bN)));let Z1:=Qc b.length;let Z2:Int:=(b.length:Int);let Z3:bK:=[]++[]++fX n 6;let Z4:=List.length ([]++Z3);let Z5:bK:=[]++Z3++fX Z2 2;let Z6:=Z5.length;let Z7:bK:=(fun(l:bK)=>l) b;let Z8:=List.length (Z5++Z7);let Z9:fG:=none;bif decide (n<1)then Z0 else bif decide ((1048575:Int)<n)then Z0 else bif Z1 then bif decide ((600:Int)<Z2)then Z0 else bif decide (n<=9223372036854775807/\(1:Int)<=6/\(6:Int)<=6)&&QU n 6then bif decide ((0:Int)<=n/\n<=9223372036854775807/\(0:Int)<=6/\(6:Int)<=6/\(0:Nat)<=1000000)then bif Z1 then bif decide (Z2<=9223372036854775807/\(1:Int)<=2/\(2:Int)<=6)&&QU Z2 2then bif decide ((0:Nat)+Z3.length=Z4)&&true&&decide ((0:Int)<=Z2/\Z2<=9223372036854775807/\(0:Int)<=2/\(2:Int)<=6/\Z4<=1000000)then bif Nat.beq Z6 Z6&&Qf (Z6+Z7.length) 1then bif Nat.beq (Z6+Z7.length) Z8 then bif decide (Z8<=1000000)then some (D.cH (D.bI (D.str (Y7 (Z5++Z7))) (.bI (D.int .i64 0) .bN)))else Z9 else Z9 else Z9 else Z9 else Z9 else Z9 else Z9 else Z9 else Z9):=by kernel_rfl
theorem QpL n b(h:(decide (b.length<=1000000))=true):U5 n b=some (.cH (.bI (.str (bif okF n b then YX n b else[])) (cG (bif okF n b then 0 else 2) .bN))):=by
 (rw[QpK];conv=>zeta)
 have hl:=af h;have lb:Qc b.length=true:=Qd (by omega);have no:okF n b=false->some (D.cH (.bI (.str []) (cG 2 .bN)))=some (.cH (.bI (.str (bif okF n b then YX n b else[])) (cG (bif okF n b then 0 else 2) .bN)):bQ):=fun e=>by rw[e];rfl
 refine Qy (fun e=>no (xq fun f=>by simp only[aa]at e;omega)) fun e1=>?_;refine Qy (fun e=>no (xq fun f=>by simp only[aa]at e;omega)) fun e2=>?_;refine Qa lb (Qy (fun e=>no (xq fun f=>by simp only[aa]at e;omega)) fun e3=>?_);simp only[ae]at e1 e2 e3;have ok:okF n b=true:=by simp only[okF,ai,aa];omega
 have f6:QU n 6=true:=by rw[YI];omega
 have f2:QU (b.length:Int) 2=true:=by rw[YI];omega
 have eb:∀n:Nat,n.beq n=true:=fun n=>by simp
 have s1:Qf (6+2+b.length) 1=true:=Zb (by omega);have g1:decide (n<=9223372036854775807/\(1:Int)<=6/\(6:Int)<=6)=true:=ab (by omega);have g2:decide (0<=n/\n<=9223372036854775807/\(0:Int)<=6/\(6:Int)<=6/\0<=1000000)=true:=ab (by omega);have g3:decide ((b.length:Int)<=9223372036854775807/\(1:Int)<=2/\(2:Int)<=6)=true:=ab (by omega);have g4:decide (0<=(b.length:Int)/\(b.length:Int)<=9223372036854775807/\(0:Int)<=2/\(2:Int)<=6/\6<=1000000)=true:=ab (by omega);have g5:decide (6+2+b.length<=1000000)=true:=ab (by omega);simp only[aH,Qw,aC,f6,f2,eb,lb,s1,aN,au,ag];refine Qa (by rw[g1];rfl) (Qa g2 (Qa (by rw[g3];rfl) (Qa (by rw[g4];rfl) (Qa g5 ?_))));rw[ok];rfl
def BJ:=BI.cm 107 Ug
theorem Qur:Qj Tryz.prog cF BJ:=Quq.c6 Qb fun args d h=>by
 unfold Ug at h
 split at h
 ·obtain⟨h1,rfl⟩:=ak h;exact⟨by simp[D.refs],60,QpL _ _ h1⟩
 ·cases h
def U6:bW->bO
 |[.str b]=>some (decide (b.length<=1000000),.cH (cG (n8 b) (.bI (.str (ow b)) (cG (bif(Yk b).isNone then 50 else 0) .bN))))
 |_=>none
def Qnc(b:bK):=eU cF BJ 60 95 [.str b]
theorem Qus b:Qnc b=(let Z0:=b.length;let Z1:bQ:=cq 0;let Z2:fG:=some (D.cH (D.bI Z1 (D.bI (D.str (Array.toList #[])) (.bI (cq 50) .bN))));let Z3:bK:=(fun(l:bK)=>l) b;let Z4:=Option.getD (ZX Z3) [];let Z5:=Z4.length;let Z6:List (RA ca.u8):=(fun(l:List (RA ca.u8))=>l) (List.drop 8 Z4);let Z7:=Prod.fst (cU Z4 0 6);cb (Qc Z0) (bif decide ((612:Int)<(Z0:Int))then Z2 else cb (Qf Z0 1) (cb (decide (Z3.length<=1000000)) (bif (bif Option.isNone (ZX Z3)then (50:Int)else (0:Int))!=0 then Z2 else cb (Qc Z5) (bif decide ((Z5:Int)<8)then Z2 else cb (decide (Z5<=1000000000000)) (cb (decide ((0:Int)<=8/\(8:Int)<=(Z5:Int))) (cb (decide (Z6.length<=1000000)) (bif (bif okF Z7 Z6 then (0:Int)else (2:Int))!=0 then Z2 else bif !(bif okF Z7 Z6 then YX Z7 Z6 else [])==b then Z2 else some (D.cH (D.bI (cq Z7) (.bI (D.str (List.drop 8 Z4)) (.bI Z1 .bN)))))))))))):=by kernel_rfl
theorem Qut b(h:(decide (b.length<=1000000))=true):Qnc b=some (.cH (cG (n8 b) (.bI (.str (ow b)) (cG (bif(Yk b).isNone then 50 else 0) .bN)))):=by
 (rw[Qus];delta cb cq;conv=>zeta)
 have hl:=af h;have lb:Qc b.length=true:=Qd (by omega);have hs:Qf b.length 1=true:=Zb (by omega);have no:Yk b=none->some (D.cH (cG 0 (.bI (.str []) (cG 50 .bN))))=some (.cH (cG (n8 b) (.bI (.str (ow b)) (cG (bif(Yk b).isNone then 50 else 0) .bN))):bQ):=fun e=>by simp only[n8,ow,e];rfl
 have OE:Yk b=none\/∃p,Yk b=some p/\okF p.1 p.2=true/\YX p.1 p.2=b:=by
  cases hr:Yk b with
  |none=>exact .inl rfl
  |some p=>exact .inr ⟨p,rfl,Qmy (n:=p.1) (load:=p.2) hr⟩
 refine Qa lb (Qy (fun e=>no ?_) fun e=>?_)
 ·rcases OE with q|⟨p,q1,q2,q3⟩
  ·exact q
  ·have:=ap List.length q3;rw[F8]at this;simp only[okF,ai,aa]at q2 e;omega
 refine Qa hs (Qa h ?_);cases hq:ZX b with
 |none=>exact Qa rfl (no (by simp[Yk,hq]))
 |some x=>
  have hx:=Wj hq;have hr:Yk b=if 8<=x.length/\cf ((x.drop 6).take 2)+8=x.length/\x.length<=608/\1<=cf (x.take 6)/\cf (x.take 6)<=1048575 then some ((cf (x.take 6):Int),x.drop 8)else none:=by simp only[Yk,hq]
  refine Qn rfl ?_;simp only[ba];refine Qa (Qd (by omega)) (Qy (fun e=>no (by rw[hr,aw (by simp only[aa]at e;omega)])) fun e8=>?_);simp only[ae]at e8;have g6:cU x 0 6=((cf (x.take 6):Int),0):=Nl (by omega) (by omega) (by omega) (by omega);refine Qa (ab (by omega)) (Qa (ab (by omega)) (Qa (ab (by simp;omega)) ?_));simp only[g6];cases ho:okF (cf (x.take 6):Int) (x.drop 8)
  ·refine Qa rfl (no ?_);rcases OE with q|⟨p,q1,q2,q3⟩
   ·exact q
   ·rw[hr]at q1
    split at q1
    ·cases q1;rw[ho]at q2;cases q2
    ·cases q1
  refine Qn rfl ?_;simp only[ag]
  by_cases hb:YX (cf (x.take 6):Int) (x.drop 8)=b
  ·have kK:Yk b=some ((cf (x.take 6):Int),x.drop 8):=by rw[<-hb];exact QkE ho
   refine Qn (by rw[hb];simp) ?_;simp only[n8,ow,kK];rfl
  ·refine Qa (by simpa using hb) (no ?_);rcases OE with q|⟨p,q1,q2,q3⟩
   ·exact q
   ·rw[hr]at q1
    split at q1
    ·cases q1;exact absurd q3 hb
    ·cases q1
def BK:=BJ.cm 95 U6
theorem Quu:Qj Tryz.prog cF BK:=Qur.c6 Qb fun args d h=>by
 unfold U6 at h
 split at h
 ·obtain⟨h1,rfl⟩:=ak h;exact⟨by simp[D.refs],60,Qut _ h1⟩
 ·cases h
def Qnd:bW->bO
 |[.bI (.sl .bS c now) (.bI (.sl .bS d sure) .bN),.int .i64 k]=>some (Ql now&&Ql sure,.cH (.bI (cG (iE now sure k).n (.bI (.str (iE now sure k).b) .bN)) (cG (bif YS now sure k then 0 else 2) .bN)))
 |_=>none
def Quw(c:Bool)(now:bL)(d:Bool)(sure:bL)(k:Int):=eU cF BK 40 94 [.bI (.sl (C:=RC) .bS c now) (cL .bS d sure .bN),.int .i64 k]
theorem Qzb c now d sure k:Quw c now d sure k=(let Z0:bQ:=cq 0;let Z1:fG:=some (D.cH (D.bI (D.bI Z0 (D.bI (D.str []) .bN)) (.bI (cq 2) .bN)));let Z2:cB:=List.getD now k.toNat (cB.mk 0 []);cb (Ql now&&Ql sure) (bif (bif Qt now sure then (0:Int)else (2:Int))!=0 then Z1 else bif decide (k<0)then Z1 else bif decide ((33:Int)<=k)then Z1 else cb (ep k (now.length:Int)) (some (D.cH (D.bI (D.bI (cq (cB.n Z2)) (.bI (D.str (cB.b Z2)) .bN)) (.bI Z0 .bN)))))):=by kernel_rfl
theorem Qzc c now d sure k(h:(Ql now&&Ql sure)=true):Quw c now d sure k=some (.cH (.bI (cG (iE now sure k).n (.bI (.str (iE now sure k).b) .bN)) (cG (bif YS now sure k then 0 else 2) .bN))):=by
 (rw[Qzb];delta cb ep cq;conv=>zeta)
 have yq:=h;rw[ai]at h;obtain⟨hg,pO⟩:=h;have no:YS now sure k=false->some (D.cH (.bI (cG 0 (.bI (.str []) .bN)) (cG 2 .bN)))=some (.cH (.bI (cG (iE now sure k).n (.bI (.str (iE now sure k).b) .bN)) (cG (bif YS now sure k then 0 else 2) .bN)):bQ):=fun e=>by simp only[iE,e];rfl
 refine Qa yq ?_;cases hd:Qt now sure
 ·exact Qa rfl (no (by simp[YS,hd]))
 obtain⟨l1,l2⟩:=Yl hd;refine Qn rfl (Qy (fun e=>no (by simp only[aa]at e;simp[YS];omega)) fun e1=>?_);refine(Qy (fun e=>no (by simp only[aa]at e;simp[YS];omega)) fun e2=>?_);simp only[ae]at e1 e2;have ok:YS now sure k=true:=by simp[YS,hd];omega
 rw[ok];simp only[iE,ok,ag,iU]
 repeat (refine Qa (by first|assumption|exact Qd (by omega)|exact Zb (by omega)|(simp;done)|(simp;omega)|(simp[Qf];omega)) ?_)
 rfl
def BL:=BK.cm 94 Qnd
theorem Qux:Qj Tryz.prog cF BL:=Quu.c6 Qb fun args d h=>by
 unfold Qnd at h
 split at h
 ·obtain⟨h1,rfl⟩:=ak h;exact⟨by simp[D.refs],40,Qzc _ _ _ _ _ h1⟩
 ·cases h
end Go.Ev
