/-
  A part of the proof of a statement of this seat: the model is run over values by content, proved sound; what the functions come to. No condition beyond the given statements. (text 7)
-/
import Derived.Test.YtkoeniljaccaiaaGreatP5
import Derived.Maps.RangeRun
noncomputable section
namespace Go.Ev
open Go.Proofs
set_option maxRecDepth 100000
set_option linter.unusedVariables false
set_option linter.unusedSimpArgs false
def QoT:bW->bO
 |[.bI (.int .i64 o) (.bI (.int .i64 p) (.bI (.int .i64 j) (.bI (.int .i64 k) (.bI (.int .i64 v) .bN))))]=>some (true,.bool (!Zb ⟨o,p,j,k,v⟩))
 |_=>none
def Qxg(o p j k v:Int):=eO cu BW 60 150 [.bI (.int .i64 o) (cH p (cH j (cH k (cH v .bN))))]
theorem QBN o p j k v:Qxg o p j k v=(let Z0:fI:=some (D.bool true);bif dH o 4194304 then bif decide ((1:Int)<=p/\p<1048576)then bif dH j 4 then bif dH k 8 then some (D.bool !dH v 256)else Z0 else Z0 else Z0 else Z0):=by kernel_rfl
theorem QBO o p j k v(h:(true)=true):Qxg o p j k v=some (.bool (!Zb ⟨o,p,j,k,v⟩)):=by
 (rw[QBN];delta dH;conv=>zeta)
 have no:(¬(0<=o/\o<4194304/\1<=p/\p<=1048575/\0<=j/\j<=3/\0<=k/\k<=7/\0<=v/\v<=255))->some (D.bool (C:=RC) true)=some (.bool (!Zb ⟨o,p,j,k,v⟩)):=fun e=>by rw[Of e];rfl
 iterate 4
  refine Qw (fun _=>?_) fun e=>no (by simp only[ae]at e;omega)
 simp only[aa]at *
 by_cases q:0<=v/\v<256
 ·rw[ab q,Og (by omega)]
 ·rw[ad q];exact no (by omega)
def BX:=BW.b8 150 QoT
theorem Qxh:Qk Tryz.prog cu BX:=Qxc.cQ Qb fun args d h=>by
 unfold QoT at h
 split at h
 ·obtain⟨h1,rfl⟩:=ak h;exact⟨by simp[D.refs],60,QBO _ _ _ _ _ h1⟩
 ·cases h
structure Uj where
 (c:Bool)(l:bJ)(i:Nat)
def M5(c:Bool)(l:bJ)(i:Nat):bX:=[(0,.sl (C:=RC) .line c l),(1,.fn 150 .bN),(4,.int .i64 0),(7,.int .i64 (l.length)),(8,.int .i64 (i:Int))]
def Hs(c:Bool)(l:bJ)(i:Nat):bP:=[]
def U0 c l i:=dQ cu BX 185 2 40 0 [0,1,4,7,8] [4] [] (M5 c l i) (Hs c l i)
theorem QH6 c l i:U0 c l i=(let Z0:Int:=(i:Int);let Z1:Int:=(l.length:Int);let Z2:cg:=List.getD l Z0.toNat (cg.mk 0 0 0 0 0);let Z3:Nat×bV:=(4,cj 0);bif decide (Z0<Z1)then b7 (dH Z0 Z1) (bif !Zb (cg.mk (cg.offset Z2) (cg.place Z2) (cg.j Z2) (cg.key Z2) (cg.value Z2))then some ((X.ret,[(4,cj Z0)]),[])else some ((X.normal,[(0,D.sl b9.line c l),(1,D.fn 150 .bN),Z3,(7,cj Z1),(8,cj (c6 (Z0+1)))]),[]))else some ((X.exit 0,[Z3]),[])):=by kernel_rfl
def IW(c:Bool)(l:bJ)(i:Nat):RT RC:=.br (l.all Zb) (.leaf (.exit 0) [(4,.int .i64 0)] []) (.leaf .ret [(4,.int .i64 (dN (fun x=>!Zb x) l:Int))] [])
def Cs(c:Bool)(l:bJ)(i:Nat):Prop:=i<=dN (fun x=>!Zb x) l/\l.length<=100000
def vd:QD RC Uj where
 k:=0
 cM q:=M5 q.c q.l q.i
 cK q:=Hs q.c q.l q.i
 fin q:=IW q.c q.l q.i
 Inv q:=Cs q.c q.l q.i
 μ q:=q.l.length-q.i
theorem Qxi c l i(hI:Cs c l i):c8 (U0 c l i) (dj vd ⟨c,l,i⟩):=by
 (rw[QH6];delta b7 dH cj c6;conv=>zeta)
 unfold Cs at hI;obtain⟨h1,h2⟩:=hI;have hi:=ND (fun x=>!Zb x) l;have ha:=Qmn (p:=Zb) (l:=l)
 by_cases cU:i<l.length
 ·have cP:=eG i (by omega)
  have eu:=ga (show i<l.length by omega)
  have et:=fL (show i<l.length by omega)
  have dh:=bw i
  simp only[cP,eu,et,dh,ag];have iw:=NE (fun x=>!Zb x) (d:=(⟨0,0,0,0,0⟩:cg)) cU h1;simp only[QoR,ag];cases hk:Zb (l.getD i ⟨0,0,0,0,0⟩)
  ·have e:i=dN (fun x=>!Zb x) l:=by
    rcases Nat.lt_or_ge i (dN (fun x=>!Zb x) l)with q|q
    ·have:=iw.1 q;simp only[hk]at this;cases this
    ·omega
   simp only[bh,ag];refine QW [] ?_ rfl;simp only[vd,IW,RT.val,ha.1 (by omega),ah,<-e]
  ·simp only[bg,ah];exact Qi (S:=vd) ⟨c,l,i+1⟩ (show Cs (c) (l) (i+1)from⟨iw.2 (by simp only[hk];rfl),h2⟩) (by simp only[vd];omega) rfl rfl rfl
 ·have d1:decide ((i:Int)<l.length)=false:=by simp;omega
  rw[d1];simp only[ah];refine Qh [] ?_ rfl
  have:l.all Zb=true:=by
   cases q:l.all Zb
   ·have:=ha.2 q;omega
   ·rfl
  simp only[vd,IW,RT.val,this,ag]
def M6(env:bX)(os:bP):Option (Bool×Uj):=match env,os with
 |[(0,.sl .line c l),(1,.fn 150 .bN),(4,.int .i64 0),(7,.int .i64 x0),(8,.int .i64 x1)],[]=>some (decide (x0=l.length)&&decide (x1=0)&&decide (l.length<=100000),⟨c,l,0⟩)
 |_,_=>none
def BY:=BX.cJ 185 2 (ey cu [] [0,1,4,7,8] vd M6)
theorem Qxj:Qk Tryz.prog cu BY:=by
 refine Qxh.cq Qb (by kernel_rfl) vd 40 [0,1,4,7,8] [4] [] [0,1,4,7,8] M6 (fun q hI=>?_) ?_
 ·obtain⟨c,l,i⟩:=q;refine⟨?_,?_,Qxi c l i hI⟩
  ·simp_all[Qj,vd,M5,Hs,Cs,D.refs,Obj.refs,cV]
  ·simp_all[vd,IW,Hs,Cs,RT.cT,Qj,D.refs,Obj.refs,cV]
 ·intro env os b q cN hb;unfold M6 at cN
  split at cN
  ·cases cN;simp only[ai,aa]at hb;obtain⟨⟨rfl,rfl⟩,hl⟩:=hb;exact⟨⟨aK _,hl⟩,rfl,rfl⟩
  ·cases cN
def QoU:bW->bO
 |[.sl .line c l,.fn 150 .bN]=>some (decide (l.length<=100000),.bool (!l.all Zb))
 |_=>none
def Qxl(c:Bool)(l:bJ):=eO cu BY 40 149 [.sl (C:=RC) .line c l,.fn 150 .bN]
theorem QBQ c l:Qxl c l=(let Z0:=l.length;b7 (Qd Z0) (b7 (decide ((Z0:Int)=(Z0:Int))&&true&&decide (Z0<=100000)) (bif List.all l Zb then some (D.bool false)else some (D.bool (decide ((0:Int)<=(↑(dN (fun(x:cg)=>!Zb x) l):Int))))))):=by kernel_rfl
theorem QBR c l(h:(decide (l.length<=100000))=true):Qxl c l=some (.bool (!l.all Zb)):=by
 (rw[QBQ];delta b7;conv=>zeta)
 have hl:l.length<=100000:=by simpa using h
 refine Qa (Qe (by omega)) (Qa (by simp[hl]) ?_);cases l.all Zb
 ·simp only[ah];rw[ab (by omega)];rfl
 ·rfl
def BZ:=BY.b8 149 QoU
theorem Qxm:Qk Tryz.prog cu BZ:=Qxj.cQ Qb fun args d h=>by
 unfold QoU at h
 split at h
 ·obtain⟨h1,rfl⟩:=ak h;exact⟨by simp[D.refs],40,QBR _ _ h1⟩
 ·cases h
structure Uk where
 (w:bJ)(cut:Int)(i:Nat)
def M7(w:bJ)(cut:Int)(i:Nat):bX:=[(0,.vs 0 (w.length)),(1,.fn 155 (.bI (.ptr 1 []) .bN)),(4,.int .i64 0),(7,.int .i64 (w.length)),(8,.int .i64 (i:Int))]
def ve(w:bJ)(cut:Int)(i:Nat):bP:=[.vec .line true w,.var 3 (.int .i64 cut)]
def U1 w cut i:=dQ cu BZ 185 2 40 2 [0,1,4,7,8] [4] [.slot 0 0,.slot 1 0] (M7 w cut i) (ve w cut i)
theorem QH8 w cut i:U1 w cut i=(let Z0:Int:=(i:Int);let Z1:=w.length;let Z2:cb:=[some (Obj.vec b9.line true w),some (Obj.var 3 (cj cut))];let Z3:Nat×bV:=(4,cj 0);bif decide (Z0<(Z1:Int))then b7 (Nat.beq Z1 Z1&&dH Z0 (Z1:Int)) (b7 (Nat.beq Z1 Z1) (bif decide (cg.place (List.getD w Z0.toNat (cg.mk 0 0 0 0 0))<=cut)then some ((X.ret,[(4,cj Z0)]),Z2)else some ((X.normal,[(0,D.vs 0 Z1),(1,D.fn 155 (.bI (D.ptr 1 []) .bN)),Z3,(7,cj (Z1:Int)),(8,cj (c6 (Z0+1)))]),Z2)))else some ((X.exit 0,[Z3]),Z2)):=by kernel_rfl
def EV(w:bJ)(cut:Int)(i:Nat):RT RC:=.br (w.any fun x=>decide (x.place<=cut)) (.leaf .ret [(4,.int .i64 (dN (fun x=>decide (x.place<=cut)) w:Int))] (ve w cut i)) (.leaf (.exit 0) [(4,.int .i64 0)] (ve w cut i))
def Ct(w:bJ)(cut:Int)(i:Nat):Prop:=i<=dN (fun x=>decide (x.place<=cut)) w/\w.length<=100000
def uA:QD RC Uk where
 k:=2
 cM q:=M7 q.w q.cut q.i
 cK q:=ve q.w q.cut q.i
 fin q:=EV q.w q.cut q.i
 Inv q:=Ct q.w q.cut q.i
 μ q:=q.w.length-q.i
theorem Qxn w cut i(hI:Ct w cut i):c8 (U1 w cut i) (dj uA ⟨w,cut,i⟩):=by
 (rw[QH8];delta b7 dH cj c6;conv=>zeta)
 unfold Ct at hI;obtain⟨h1,h2⟩:=hI;have hi:=ND (fun x:cg=>decide (x.place<=cut)) w;have ha:=JZ (fun x:cg=>decide (x.place<=cut)) w;have nb:Nat.beq w.length w.length=true:=Zp rfl
 by_cases cU:i<w.length
 ·have cP:=eG i (by omega)
  have eu:=ga (show i<w.length by omega)
  have et:=fL (show i<w.length by omega)
  have dh:=bw i
  simp only[cP,eu,et,dh,ag];have iw:=NE (fun x:cg=>decide (x.place<=cut)) (d:=(⟨0,0,0,0,0⟩:cg)) cU h1;simp only[nb,au,ag];cases hk:decide ((w.getD i ⟨0,0,0,0,0⟩).place<=cut)
  ·simp only[ah];exact Qi (S:=uA) ⟨w,cut,i+1⟩ (show Ct (w) (cut) (i+1)from⟨iw.2 hk,h2⟩) (by simp only[uA];omega) rfl rfl rfl
  ·have e:i=dN (fun x=>decide (x.place<=cut)) w:=by
    rcases Nat.lt_or_ge i (dN (fun x:cg=>decide (x.place<=cut)) w)with q|q
    ·have:=iw.1 q;simp only[hk]at this;cases this
    ·omega
   simp only[ag];refine QW (ve w cut i) ?_ rfl;simp only[uA,EV,RT.val,ha.1 (by omega),ag,<-e]
 ·have d1:decide ((i:Int)<w.length)=false:=by simp;omega
  rw[d1];simp only[ah];refine Qh (ve w cut i) ?_ rfl
  have:(w.any fun x=>decide (x.place<=cut))=false:=by
   cases q:w.any fun x=>decide (x.place<=cut)
   ·rfl
   ·have:=ha.2 q;omega
  simp only[uA,EV,RT.val,this,ah]
def M8(env:bX)(os:bP):Option (Bool×Uk):=match env,os with
 |[(0,.vs 0 x0),(1,.fn 155 (.bI (.ptr 1 []) .bN)),(4,.int .i64 0),(7,.int .i64 x1),(8,.int .i64 x2)],[.vec .line true w,.var 3 (.int .i64 cut)]=>some (decide (x0=w.length)&&decide (x1=w.length)&&decide (x2=0)&&decide (w.length<=100000),⟨w,cut,0⟩)
 |_,_=>none
def B0:=BZ.cJ 185 2 (Hr cu [.slot 0 0,.slot 1 0] [0,1,4,7,8] 0 uA M8)
theorem Qxo:Qk Tryz.prog cu B0:=by
 refine Qxm.j9 Qb (by kernel_rfl) uA 0 (fun q _=>by simp[RT.keeps,uA,EV,ve]) 40 [0,1,4,7,8] [4] [.slot 0 0,.slot 1 0] [0,1,4,7,8] M8 (fun q hI=>?_) ?_
 ·obtain⟨w,cut,i⟩:=q;refine⟨?_,?_,Qxn w cut i hI⟩
  ·simp_all[Qj,uA,M7,ve,Ct,D.refs,Obj.refs,cV]
  ·simp_all[uA,EV,ve,Ct,RT.cT,Qj,D.refs,Obj.refs,cV]
 ·intro env os b q cN hb;unfold M8 at cN
  split at cN
  ·cases cN;simp only[ai,aa]at hb;obtain⟨⟨⟨rfl,rfl⟩,rfl⟩,hl⟩:=hb;exact⟨⟨aK _,hl⟩,rfl,rfl⟩
  ·cases cN
structure QoV where
 (l:bJ)(o:Bool)(p:Int)(y cw:Bool)(ws:ca)(q nx cut:Int)(i:Nat)
def Py(l:bJ)(o:Bool)(p:Int)(y cw:Bool)(ws:ca)(q nx cut:Int)(i:Nat):bX:=[(3,.int .i64 q),(5,.ptr 2 []),(6,.ptr 0 []),(10,.vs 1 (l.length)),(11,.int .i64 nx),(47,.sl (C:=RC) .write ((cw)) ((ws))),(48,.int .i64 (ws.length)),(49,.int .i64 (i:Int))]
def KA(l:bJ)(o:Bool)(p:Int)(y cw:Bool)(ws:ca)(q nx cut:Int)(i:Nat):bP:=[.var 51 (cH p (.bI (.bool y) (cL .write cw ws .bN))),.vec .line o l,.var 3 (.int .i64 cut)]
def Qxp l o p y cw ws q nx cut i:=dQ cu B0 92 10 40 3 [3,5,6,10,11,47,48,49] [10] [.slot 6 0,.xD 10,.slot 5 0] (Py l o p y cw ws q nx cut i) (KA l o p y cw ws q nx cut i)
theorem QBS l o p y cw ws q nx cut i:Qxp l o p y cw ws q nx cut i=(let Z0:Int:=(i:Int);let Z1:Int:=(ws.length:Int);let Z2:Qo:=List.getD ws Z0.toNat (Qo.mk 0 0);let Z3:Nat×bV:=(3,cj q);let Z4:Nat×bV:=(5,D.ptr 2 []);let Z5:Nat×bV:=(6,D.ptr 0 []);let Z6:=l.length;let Z7:Nat×bV:=(10,D.vs 1 Z6);let Z8:er:=[(47,D.sl b9.write cw ws),(48,cj Z1),(49,cj (c6 (Z0+1)))];let Z9:cf:=some (Obj.var 51 (.bI (cj p) (.bI (D.bool y) (.bI (D.sl b9.write cw ws) .bN))));let db:cb:=[some (Obj.var 3 (cj cut))];let dB:bJ:=[cg.mk nx p Z0 (Int.tmod (Qo.key Z2) 8) (Qo.value Z2)];bif decide (Z0<Z1)then b7 (dH Z0 Z1) (bif c6 (Int.tdiv (Qo.key Z2) 8)!=q then some ((X.normal,Z3::Z4::Z5::Z7::(11,cj nx)::Z8),Z9::some (Obj.vec b9.line o l)::db)else b7 (Nat.beq Z6 Z6&&Qg (Z6+dB.length) 40) (some ((X.normal,Z3::Z4::Z5::(10,D.vs 1 (Z6+dB.length))::(11,cj (c6 (nx+1)))::Z8),Z9::some (Obj.vec b9.line o (l++dB))::db)))else some ((X.exit 0,[Z7]),Z9::some (Obj.vec b9.line o l)::db)):=by kernel_rfl
def J1(l:bJ)(o:Bool)(p:Int)(y cw:Bool)(ws:ca)(q nx cut:Int)(i:Nat):RT RC:=.leaf (.exit 0) [(10,.vs 1 (l++ZG p q nx i (ws.drop i)).length)] (KA (l++ZG p q nx i (ws.drop i)) o p y cw ws q nx cut i)
def Jh(l:bJ)(o:Bool)(p:Int)(y cw:Bool)(ws:ca)(q nx cut:Int)(i:Nat):Prop:=i<=ws.length/\ws.length<=1000/\l.length<=1000+i/\CA ws=true/\0<=nx/\nx<=5000000+i
def Vb:QD RC QoV where
 k:=3
 cM q:=Py q.l q.o q.p q.y q.cw q.ws q.q q.nx q.cut q.i
 cK q:=KA q.l q.o q.p q.y q.cw q.ws q.q q.nx q.cut q.i
 fin q:=J1 q.l q.o q.p q.y q.cw q.ws q.q q.nx q.cut q.i
 Inv q:=Jh q.l q.o q.p q.y q.cw q.ws q.q q.nx q.cut q.i
 μ q:=q.ws.length-q.i
theorem Qmp l o p y cw ws q nx cut i(hI:Jh l o p y cw ws q nx cut i):c8 (Qxp l o p y cw ws q nx cut i) (dj Vb ⟨l,o,p,y,cw,ws,q,nx,cut,i⟩):=by
 (rw[QBS];delta b7 dH cj c6;conv=>zeta)
 unfold Jh at hI;obtain⟨h1,h2,h3,h4,h5,h6⟩:=hI
 by_cases cU:i<ws.length
 ·have cP:=eG i (by omega)
  have eu:=ga (show i<ws.length by omega)
  have et:=fL (show i<ws.length by omega)
  have dh:=bw i
  simp only[cP,eu,et,dh,ag];have hd:ws.drop i=ws.getD i ⟨0,0⟩::ws.drop (i+1):=by rw[aJ cU];simp[cU]
  have ju:=QkC h4 cU;generalize ws.getD i ⟨0,0⟩=x at *;have e1:IntKind.i64.wrap (x.key.tdiv 8)=x.key/8:=by rw[Int.tdiv_eq_ediv_of_nonneg (by omega)];exact cC (by omega) (by omega)
  have e2:x.key.tmod 8=x.key%8:=Int.tmod_eq_emod_of_nonneg (by omega);have e3:IntKind.i64.wrap (nx+1)=nx+1:=cC (by omega) (by omega);simp only[e1,e2,e3,ag]
  by_cases hq:x.key/8=q
  ·have hb:(x.key/8 !=q)=false:=by simpa using hq
   have e4:l.length+([cg.mk nx p i (x.key%8) x.value]:bJ).length=(l++[cg.mk nx p i (x.key%8) x.value]).length:=by simp
   have s1:Qg (l++[cg.mk nx p i (x.key%8) x.value]).length 40=true:=Zt (by simp;omega);have b1:Nat.beq l.length l.length=true:=Zp rfl;simp only[hb,e4,s1,b1,au,ag,ah];refine Qi (S:=Vb) ⟨l++[cg.mk nx p i (x.key%8) x.value],o,p,y,cw,ws,q,nx+1,cut,i+1⟩ (show Jh (l++[cg.mk nx p i (x.key%8) x.value]) (o) (p) (y) (cw) (ws) (q) (nx+1) (cut) (i+1)from⟨by omega,h2,by simp;omega,h4,by omega,by omega⟩) (by simp only[Vb];omega) ?_ rfl rfl;simp only[Vb,J1,KA,hd,ZG,ax hq,ay,List.singleton_append]
  ·have hb:(x.key/8 !=q)=true:=by simpa using hq
   simp only[hb,ag];refine Qi (S:=Vb) ⟨l,o,p,y,cw,ws,q,nx,cut,i+1⟩ (show Jh (l) (o) (p) (y) (cw) (ws) (q) (nx) (cut) (i+1)from⟨by omega,h2,by omega,h4,by omega,by omega⟩) (by simp only[Vb];omega) ?_ rfl rfl;simp only[Vb,J1,KA,hd,ZG,aw hq]
 ·have d1:decide ((i:Int)<ws.length)=false:=by simp;omega
  rw[d1];simp only[ah];have e:ws.drop i=[]:=aO (by omega);refine Qh (KA l o p y cw ws q nx cut i) ?_ rfl;simp only[Vb,J1,e,ZG,aR,RT.val]
def Pz(env:bX)(os:bP):Option (Bool×QoV):=match env,os with
 |[(3,.int .i64 q),(5,.ptr 2 []),(6,.ptr 0 []),(10,.vs 1 x0),(11,.int .i64 nx),(47,.sl .write x1 x2),(48,.int .i64 x3),(49,.int .i64 x4)],[.var 51 (.bI (.int .i64 p) (.bI (.bool y) (.bI (.sl .write cw ws) .bN))),.vec .line o l,.var 3 (.int .i64 cut)]=>some (decide (x0=l.length)&&decide (x1=(cw))&&decide (x2=(ws))&&decide (x3=ws.length)&&decide (x4=0)&&decide (ws.length<=1000/\l.length<=1000)&&CA ws&&decide (0<=nx/\nx<=5000000),⟨l,o,p,y,cw,ws,q,nx,cut,0⟩)
 |_,_=>none
def B1:=B0.cJ 92 10 (Hr cu [.slot 6 0,.xD 10,.slot 5 0] [3,5,6,10,11,47,48,49] 3 Vb Pz)
theorem Qxq:Qk Tryz.prog cu B1:=by
 refine Qxo.j9 Qb (by kernel_rfl) Vb 3 (fun q _=>by simp[RT.keeps,Vb,J1,KA]) 40 [3,5,6,10,11,47,48,49] [10] [.slot 6 0,.xD 10,.slot 5 0] [3,5,6,10,11,47,48,49] Pz (fun q hI=>?_) ?_
 ·obtain⟨l,o,p,y,cw,ws,q,nx,cut,i⟩:=q;refine⟨?_,?_,Qmp l o p y cw ws q nx cut i hI⟩
  ·simp_all[Qj,Vb,Py,KA,Jh,D.refs,Obj.refs,cV]
  ·simp_all[Vb,J1,KA,Jh,RT.cT,Qj,D.refs,Obj.refs,cV]
 ·intro env os b q cN hb;unfold Pz at cN
  split at cN
  ·cases cN;simp only[ai,aa]at hb;obtain⟨⟨⟨⟨⟨⟨⟨rfl,rfl⟩,rfl⟩,rfl⟩,rfl⟩,h1,h2⟩,h3⟩,h4,h5⟩:=hb;exact⟨⟨aK _,h1,by simpa using h2,h3,h4,by simpa using h5⟩,rfl,rfl⟩
  ·cases cN
structure Qxr where
 (w:bJ)(cut i j:Int)
def Lc(w:bJ)(cut i j:Int):bX:=[(0,.vs 0 (w.length)),(1,.fn 155 (.bI (.ptr 1 []) .bN)),(5,.int .i64 i),(6,.int .i64 j)]
def ur(w:bJ)(cut i j:Int):bP:=[.vec .line true w,.var 3 (.int .i64 cut)]
def Ul w cut i j:=dQ cu B1 153 5 40 2 [0,1,5,6] [5] [.slot 0 0,.slot 1 0] (Lc w cut i j) (ur w cut i j)
theorem QGh w cut i j:Ul w cut i j=(let Z0:=w.length;let Z1:=Nat.beq Z0 Z0;let Z2:cg:=List.getD w j.toNat (cg.mk 0 0 0 0 0);let Z3:Nat×bV:=(0,D.vs 0 Z0);let Z4:Nat×bV:=(1,D.fn 155 (.bI (D.ptr 1 []) .bN));let Z5:er:=[(6,cj (c6 (j+1)))];let Z6:cb:=[some (Obj.var 3 (cj cut))];let Z7:Nat×bV:=(5,cj i);b7 (Qd Z0) (bif decide (j<(Z0:Int))then b7 (Z1&&dH j (Z0:Int)) (b7 Z1 (bif !decide (cg.place Z2<=cut)then b7 (Z1&&dH i (Z0:Int)) (b7 Z1 (some ((X.normal,Z3::Z4::(5,cj (c6 (i+1)))::Z5),some (Obj.vec b9.line true (List.set w i.toNat (cg.mk (cg.offset Z2) (cg.place Z2) (cg.j Z2) (cg.key Z2) (cg.value Z2))))::Z6)))else some ((X.normal,Z3::Z4::Z7::Z5),some (Obj.vec b9.line true w)::Z6)))else some ((X.exit 0,[Z7]),some (Obj.vec b9.line true w)::Z6))):=by kernel_rfl
def Ci(w:bJ)(cut i j:Int):RT RC:=.leaf (.exit 0) [(5,.int .i64 ((j3 cut (w.length-j.toNat) w i.toNat j.toNat).2:Int))] (ur (j3 cut (w.length-j.toNat) w i.toNat j.toNat).1 cut i j)
def KC(w:bJ)(cut i j:Int):Prop:=0<=i/\i<=j/\j<=w.length/\w.length<=100000
def Jx:QD RC Qxr where
 k:=2
 cM q:=Lc q.w q.cut q.i q.j
 cK q:=ur q.w q.cut q.i q.j
 fin q:=Ci q.w q.cut q.i q.j
 Inv q:=KC q.w q.cut q.i q.j
 μ q:=(q.w.length-q.j).toNat
theorem QrG w cut i j(hI:KC w cut i j):c8 (Ul w cut i j) (dj Jx ⟨w,cut,i,j⟩):=by
 (rw[QGh];delta b7 dH cj c6;conv=>zeta)
 unfold KC at hI;obtain⟨h1,h2,h3,h4⟩:=hI;have lk:Qd w.length=true:=Qe (by omega);have nb:Nat.beq w.length w.length=true:=Zp rfl
 by_cases cU:j<w.length
 ·have d1:decide (j<(w.length:Int))=true:=by simpa using cU
  have d2:decide (0<=j/\j<(w.length:Int))=true:=by simp;omega
  have d3:decide (0<=i/\i<(w.length:Int))=true:=by simp;omega
  have w1:IntKind.i64.wrap (j+1)=j+1:=cC (by omega) (by omega);have w2:IntKind.i64.wrap (i+1)=i+1:=cC (by omega) (by omega);have n1:w.length-j.toNat=(w.length-(j+1).toNat)+1:=by omega
  have n2:(j+1).toNat=j.toNat+1:=by omega
  have n3:(i+1).toNat=i.toNat+1:=by omega
  simp only[lk,nb,d1,d2,d3,w1,w2,QoR,ag,au]
  by_cases hp:(w.getD j.toNat ⟨0,0,0,0,0⟩).place<=cut
  ·rw[ab hp];simp only[bg,ah];refine Qi (S:=Jx) ⟨w,cut,i,j+1⟩ (show KC (w) (cut) (i) (j+1)from⟨h1,by omega,by omega,h4⟩) (by simp only[Jx];omega) ?_ rfl rfl;simp only[Jx,Ci,ur,n1,n2,j3,ax hp]
  ·rw[ad hp];simp only[bh,ag];refine Qi (S:=Jx) ⟨w.set i.toNat (w.getD j.toNat ⟨0,0,0,0,0⟩),cut,i+1,j+1⟩ (show KC (w.set i.toNat (w.getD j.toNat ⟨0,0,0,0,0⟩)) (cut) (i+1) (j+1)from⟨by omega,by omega,by simp;omega,by simpa using h4⟩) (by simp only[Jx,bf];omega) ?_ (by simp only[Jx,Lc,bf]) rfl;simp only[Jx,Ci,ur,n1,n2,n3,j3,aw hp,bf]
 ·have d1:decide (j<(w.length:Int))=false:=by simpa using cU
  have n1:w.length-j.toNat=0:=by omega
  simp only[lk,d1,ag,ah];refine Qh (ur w cut i j) ?_ rfl;simp only[Jx,Ci,ur,n1,j3,RT.val];rw[Int.toNat_of_nonneg h1]
def Ra(env:bX)(os:bP):Option (Bool×Qxr):=match env,os with
 |[(0,.vs 0 x0),(1,.fn 155 (.bI (.ptr 1 []) .bN)),(5,.int .i64 i),(6,.int .i64 j)],[.vec .line true w,.var 3 (.int .i64 cut)]=>some (decide (x0=w.length)&&decide (0<=i/\i<=j/\j<=w.length/\w.length<=100000),⟨w,cut,i,j⟩)
 |_,_=>none
def B2:=B1.cJ 153 5 (Hr cu [.slot 0 0,.slot 1 0] [0,1,5,6] 1 Jx Ra)
theorem Qxt:Qk Tryz.prog cu B2:=by
 refine Qxq.j9 Qb (by kernel_rfl) Jx 1 (fun q _=>by simp[RT.keeps,Jx,Ci,ur]) 40 [0,1,5,6] [5] [.slot 0 0,.slot 1 0] [0,1,5,6] Ra (fun q hI=>?_) ?_
 ·obtain⟨w,cut,i,j⟩:=q;refine⟨?_,?_,QrG w cut i j hI⟩
  ·simp_all[Qj,Jx,Lc,ur,KC,D.refs,Obj.refs,cV]
  ·simp_all[Jx,Ci,ur,KC,RT.cT,Qj,D.refs,Obj.refs,cV]
 ·intro env os b q cN hb;unfold Ra at cN
  split at cN
  ·cases cN;simp only[ai,aa]at hb;obtain⟨rfl,h1⟩:=hb;exact⟨h1,rfl,rfl⟩
  ·cases cN
def Qxu:bW->bO
 |[.sl .line c l,.int .i64 cut,.bI (.int .i64 p) (.bI (.bool y) (.bI (.sl .write cw ws) .bN)),.int .i64 q]=>some (decide (l.length<=1000/\ws.length<=1000),.cG (cL .line (bif sC l ⟨p,y,ws⟩then !y else c) (KW l ⟨p,y,ws⟩ q) (cH (pP l cut ⟨p,y,ws⟩ q) .bN)))
 |_=>none
def Um(c:Bool)(l:bJ)(cut p:Int)(y cw:Bool)(ws:ca)(q:Int):=eO cu B2 100 92 [.sl (C:=RC) .line c l,.int .i64 cut,.bI (.int .i64 p) (.bI (.bool y) (cL .write cw ws .bN)),.int .i64 q]
theorem QGi c l cut p y cw ws q:Um c l cut p y cw ws q=(let Z0:=l.length;let Z1:bV:=D.bI (cj cut) .bN;let Z2:fI:=some (D.cG (D.bI (D.sl b9.line c l) Z1));let Z3:=ws.length;let Z4:=Qd Z0;let Z5:Int:=(Z0:Int);let Z6:=c6 (Z5-1);let Z7:bJ:=List.drop 0 (List.take Z5.toNat l);let Z8:fI:=some (D.cG (D.bI (D.sl b9.line true Z7) Z1));let Z9:=Z7.length;let db:Bool:=decide (Z9=Z9)&&decide (cw=cw)&&decide (ws=ws)&&decide ((Z3:Int)=(Z3:Int))&&true&&decide (Z3<=1000/\Z9<=1000)&&CA ws;let dB:cg:=cg.mk 0 0 0 0 0;let eo:=c6 (cg.offset (List.getD l Z6.toNat dB)+1);let fa:bJ:=Z7++ZG p q eo 0 (List.drop 0 ws);let fM:=fa.length;let fz:Int:=(fM:Int);let fy:=c6 (fz-16);let fR:=Nat.beq fM fM;let eH:fI:=none;let fW:=c6 (fy-1);let gD:bJ:=List.drop fy.toNat fa;let iJ:Nat:=(0:Nat)+gD.length;let gQ:bJ:=List.replicate 0 dB++gD;let iY:=gQ.length;let im:=cg.place (List.getD fa fW.toNat dB);let nE:Int:=(↑(dN (fun(x:cg)=>decide (cg.place x<=im)) gQ):Int);let nG:=c6 (nE+1);let nH:bJ×Nat:=j3 im (iY-Int.toNat nG) gQ nE.toNat nG.toNat;let od:=List.length nH.1;let ji:Int:=(nH.2:Int);let la:=Int.toNat ji;let oe:bJ:=List.take la nH.1++List.replicate (od-la) dB;let oz:bV:=D.bI (cj im) .bN;let mM:fI:=bif db&&decide ((0:Int)<=eo/\eo<=5000000)then bif Qd fM then bif decide (fy<=0)then bif fR then some (D.cG (D.bI (D.sl b9.line false fa) Z1))else eH else bif fR&&dH fW fz then bif fR then bif fR then bif fR then bif decide ((0:Int)<=fy/\fy<=fz)then bif List.isEmpty gD then eH else bif Qg iJ 40 then bif Qd iJ then bif decide (iJ=iY)&&decide ((iJ:Int)=(iY:Int))&&true&&decide (iY<=100000)then bif List.any gQ fun(x:cg)=>decide (cg.place x<=im)then bif decide (iJ=iY)&&decide ((0:Int)<=nE/\nE<=nG/\nG<=(iY:Int)/\iY<=100000)then bif Nat.beq iJ od&&decide ((0:Int)<=ji/\ji<=(od:Int))then bif Nat.beq iJ oe.length then bif decide ((0:Int)<=0/\(0:Int)<=ji/\ji<=(oe.length:Int))then some (D.cG (D.bI (D.sl b9.line false (List.drop 0 (List.take la oe))) oz))else eH else eH else eH else eH else bif Nat.beq iJ iY then some (D.cG (D.bI (D.sl b9.line false gQ) oz))else eH else eH else eH else eH else eH else eH else eH else eH else eH else eH else eH;let oA:bJ:=Z7++ZG p q 0 0 (List.drop 0 ws);let pS:=oA.length;let qh:Int:=(pS:Int);let og:=c6 (qh-16);let mW:=Nat.beq pS pS;let mX:=c6 (og-1);let nI:bJ:=List.drop og.toNat oA;let l9:Nat:=(0:Nat)+nI.length;let pk:bJ:=List.replicate 0 dB++nI;let lD:=pk.length;let mv:=cg.place (List.getD oA mX.toNat dB);let lJ:Int:=(↑(dN (fun(x:cg)=>decide (cg.place x<=mv)) pk):Int);let ep:=c6 (lJ+1);let oh:bJ×Nat:=j3 mv (lD-Int.toNat ep) pk lJ.toNat ep.toNat;let sE:=List.length oh.1;let sF:Int:=(oh.2:Int);let vr:=Int.toNat sF;let sc:bJ:=List.take vr oh.1++List.replicate (sE-vr) dB;let xa:bV:=D.bI (cj mv) .bN;let qY:fI:=bif db&&true then bif Qd pS then bif decide (og<=0)then bif mW then some (D.cG (D.bI (D.sl b9.line false oA) Z1))else eH else bif mW&&dH mX qh then bif mW then bif mW then bif mW then bif decide ((0:Int)<=og/\og<=qh)then bif List.isEmpty nI then eH else bif Qg l9 40 then bif Qd l9 then bif decide (l9=lD)&&decide ((l9:Int)=(lD:Int))&&true&&decide (lD<=100000)then bif List.any pk fun(x:cg)=>decide (cg.place x<=mv)then bif decide (l9=lD)&&decide ((0:Int)<=lJ/\lJ<=ep/\ep<=(lD:Int)/\lD<=100000)then bif Nat.beq l9 sE&&decide ((0:Int)<=sF/\sF<=(sE:Int))then bif Nat.beq l9 sc.length then bif decide ((0:Int)<=0/\(0:Int)<=sF/\sF<=(sc.length:Int))then some (D.cG (D.bI (D.sl b9.line false (List.drop 0 (List.take vr sc))) xa))else eH else eH else eH else eH else bif Nat.beq l9 lD then some (D.cG (D.bI (D.sl b9.line false pk) xa))else eH else eH else eH else eH else eH else eH else eH else eH else eH else eH else eH;bif decide (Z0<=100000)then bif !List.all l Zb then Z2 else bif Qd Z3 then bif !dW (Rec.mk p y ws)then Z2 else bif Z4 then bif Z4 then bif decide ((0:Int)<=0/\(0:Int)<=Z5/\Z5<=Z5/\Z5=Z5)then bif Z4 then bif decide ((0:Int)<Z5)then bif Z4 then bif dH Z6 Z5 then bif !y then Z8 else bif Qd Z3 then bif List.isEmpty Z7 then mM else mM else eH else eH else eH else bif !y then Z8 else bif Qd Z3 then bif List.isEmpty Z7 then qY else qY else eH else eH else eH else eH else eH else eH else eH):=by kernel_rfl
theorem QGj c l cut p y cw ws q(h:(decide (l.length<=1000/\ws.length<=1000))=true):Um c l cut p y cw ws q=some (.cG (cL .line (bif sC l ⟨p,y,ws⟩then !y else c) (KW l ⟨p,y,ws⟩ q) (cH (pP l cut ⟨p,y,ws⟩ q) .bN))):=by
 (rw[QGi];delta dH cj c6;conv=>zeta)
 obtain⟨hl,hw⟩:=af h;have t0:List.drop 0 (List.take (Int.toNat (l.length:Int)) l)=l:=by simp
 have lk:Qd l.length=true:=Qe (by omega);have wk:Qd ws.length=true:=Qe (by omega);have wl:=J0 p q ws (uX l) 0;simp only[t0,bG];refine Qa (by simp;omega) ?_;cases ha:l.all Zb
 ·refine Qa rfl ?_;simp only[sC,KW,pP,ha,Bool.false_and,ah]
 refine Qq rfl (Qa wk ?_);cases hm:dW ⟨p,y,ws⟩
 ·refine Qa rfl ?_;simp only[sC,KW,pP,ha,hm,Bool.and_false,Bool.false_and,ah]
 refine Qq rfl ?_;have hk:CA ws=true:=QoS hm;have ok:sC l ⟨p,y,ws⟩=true:=by simp only[sC,ha,hm];rfl
 refine Qa lk (Qa lk (Qa (by simp) (Qa lk ?_)))
 by_cases fg:0<l.length
 ·have hv:Zb (l.getD (l.length-1) ⟨0,0,0,0,0⟩)=true:=by
   have:=aX.1 ha l[l.length-1] (bA (by omega))
   simpa[show l.length-1<l.length by omega]using this
  simp only[Zb,aa]at hv;have w1:IntKind.i64.wrap ((l.length:Int)-1)=(l.length:Int)-1:=cC (by omega) (by omega);have w2:((l.length:Int)-1).toNat=l.length-1:=by omega
  have hn:uX l=(l.getD (l.length-1) ⟨0,0,0,0,0⟩).offset+1:=by unfold uX;rw[ax fg]
  have w3:IntKind.i64.wrap ((l.getD (l.length-1) ⟨0,0,0,0,0⟩).offset+1)=uX l:=by rw[hn];exact cC (by omega) (by omega)
  simp only[w1,w2,w3];refine Qa (by simpa using fg) (Qa lk (Qa (by simp;omega) ?_));cases y
  ·refine Qa rfl ?_;simp only[ok,KW,pP,Bool.and_false,ag,ah,bh]
  refine Qq rfl (Qa wk (Qq (by cases l with|nil=>simp at fg|cons x l=>rfl) (Qa ?_ ?_)))
  ·simp only[hk,Bool.and_true,ai,aa,true_and,and_true];omega
  simp only[ok,KW,pP,au,ag,bg];rw[show l++ZG p q (uX l) 0 ws=KV l ⟨p,true,ws⟩ q from rfl];have hL:(KV l ⟨p,true,ws⟩ q).length<=2000:=by simp only[KV,aC];omega
  generalize KV l ⟨p,true,ws⟩ q=L at hL ⊢;have d1:Qd L.length=true:=Qe (by omega);have k1:IntKind.i64.wrap ((L.length:Int)-16)=(L.length:Int)-16:=cC (by omega) (by omega);have k2:IntKind.i64.wrap ((L.length:Int)-16-1)=(L.length:Int)-17:=by rw[cC (by omega) (by omega)];omega
  have k3:((L.length:Int)-16).toNat=L.length-16:=by omega
  have k4:((L.length:Int)-17).toNat=L.length-17:=by omega
  simp only[k1,k2,k3,k4,bF,aH,aN];refine Qa d1 ?_
  by_cases hle:L.length<=16
  ·refine Qa (by simp;omega) (Qa (Zp rfl) ?_);rw[ab hle];rfl
  refine Qq (by simp;omega) ?_;rw[ad hle];refine Qa (by rw[ai];exact⟨Zp rfl,by simp;omega⟩) (Qa (Zp rfl) (Qa (Zp rfl) (Qa (Zp rfl) (Qa (by simp;omega) ?_))));simp only[ah,Cz];rw[show(L.getD (L.length-17) ⟨0,0,0,0,0⟩).place=u9 L from rfl];generalize u9 L=C;have hM:(L.drop (L.length-16)).length=16:=by simp;omega
  generalize L.drop (L.length-16)=M at hM ⊢;refine Qq (by cases M with|nil=>simp at hM|cons x M=>rfl) (Qa (Zt (by omega)) (Qa (Qe (by omega)) (Qa (by simp;omega) ?_)));cases qs:M.any fun x=>decide (x.place<=C)
  ·refine Qq rfl (Qa (Zp rfl) ?_);rw[Xk C qs]
  have hF:=(JZ (fun x:cg=>decide (x.place<=C)) M).2 qs;have sX:=JJ C qs;generalize dN (fun x:cg=>decide (x.place<=C)) M=F at *;have f1:=eG F (by omega)
  simp only[f1,bw];obtain⟨e1,e2,e3⟩:=IV C (M.length-(F+1)) M F (F+1) (by omega) (by omega);generalize j3 C (M.length-(F+1)) M F (F+1)=Dd at *;rw[sX,<-e3];have e4:(Dd.1.take Dd.2).length=Dd.2:=by simp;omega
  refine Qa rfl (Qa (by simp;omega) (Qa (by rw[ai];exact⟨Zp e1.symm,by simp;omega⟩) (Qa (Zp (by simp;omega)) (Qa (by simp;omega) ?_))));rw[List.take_append_of_le_length (by omega),List.take_of_length_le (by omega)]
 ·have vS:l=[]:=List.eq_nil_of_length_eq_zero (by omega);refine Qq (by simp[vS]) ?_;cases y
  ·refine Qa rfl ?_;simp only[ok,KW,pP,Bool.and_false,ag,ah,bh]
  refine Qq rfl (Qa wk (Qa (by rw[vS];rfl) (Qa ?_ ?_)))
  ·simp only[hk,Bool.and_true,ai,aa,true_and,and_true];omega
  simp only[ok,KW,pP,au,ag,bg];rw[show l++ZG p q 0 0 ws=KV l ⟨p,true,ws⟩ q by rw[vS];rfl];have hL:(KV l ⟨p,true,ws⟩ q).length<=2000:=by simp only[KV,aC];omega
  generalize KV l ⟨p,true,ws⟩ q=L at hL ⊢;have d1:Qd L.length=true:=Qe (by omega);have k1:IntKind.i64.wrap ((L.length:Int)-16)=(L.length:Int)-16:=cC (by omega) (by omega);have k2:IntKind.i64.wrap ((L.length:Int)-16-1)=(L.length:Int)-17:=by rw[cC (by omega) (by omega)];omega
  have k3:((L.length:Int)-16).toNat=L.length-16:=by omega
  have k4:((L.length:Int)-17).toNat=L.length-17:=by omega
  simp only[k1,k2,k3,k4,bF,aH,aN];refine Qa d1 ?_
  by_cases hle:L.length<=16
  ·refine Qa (by simp;omega) (Qa (Zp rfl) ?_);rw[ab hle];rfl
  refine Qq (by simp;omega) ?_;rw[ad hle];refine Qa (by rw[ai];exact⟨Zp rfl,by simp;omega⟩) (Qa (Zp rfl) (Qa (Zp rfl) (Qa (Zp rfl) (Qa (by simp;omega) ?_))));simp only[ah,Cz];rw[show(L.getD (L.length-17) ⟨0,0,0,0,0⟩).place=u9 L from rfl];generalize u9 L=C;have hM:(L.drop (L.length-16)).length=16:=by simp;omega
  generalize L.drop (L.length-16)=M at hM ⊢;refine Qq (by cases M with|nil=>simp at hM|cons x M=>rfl) (Qa (Zt (by omega)) (Qa (Qe (by omega)) (Qa (by simp;omega) ?_)));cases qs:M.any fun x=>decide (x.place<=C)
  ·refine Qq rfl (Qa (Zp rfl) ?_);rw[Xk C qs]
  have hF:=(JZ (fun x:cg=>decide (x.place<=C)) M).2 qs;have sX:=JJ C qs;generalize dN (fun x:cg=>decide (x.place<=C)) M=F at *;have f1:=eG F (by omega)
  simp only[f1,bw];obtain⟨e1,e2,e3⟩:=IV C (M.length-(F+1)) M F (F+1) (by omega) (by omega);generalize j3 C (M.length-(F+1)) M F (F+1)=Dd at *;rw[sX,<-e3];have e4:(Dd.1.take Dd.2).length=Dd.2:=by simp;omega
  refine Qa rfl (Qa (by simp;omega) (Qa (by rw[ai];exact⟨Zp e1.symm,by simp;omega⟩) (Qa (Zp (by simp;omega)) (Qa (by simp;omega) ?_))));rw[List.take_append_of_le_length (by omega),List.take_of_length_le (by omega)]
def B3:=B2.b8 92 Qxu
theorem Qxv:Qk Tryz.prog cu B3:=Qxt.cQ Qb fun args d h=>by
 unfold Qxu at h
 split at h
 ·obtain⟨h1,rfl⟩:=ak h;exact⟨by simp[D.refs],100,QGj _ _ _ _ _ _ _ _ h1⟩
 ·cases h
def pj(p:Int)(it:bM)(ws:ca):bM:=ws.foldl (fun l w=>jJ l ⟨w.key,p,w.value⟩) it
theorem QkD(p:Int):∀(ws:ca) (it:bM),(pj p it ws).length<=it.length+ws.length
 |[],it=>by simp[pj]
 |w::ws,it=>by
  have h1:=QkD p ws (jJ it ⟨w.key,p,w.value⟩);have h2:=QoO it ⟨w.key,p,w.value⟩;simp only[pj,List.foldl_cons,aE]at h1 ⊢;omega
def ZB(s:St)(r:Rec):St:=bif r.yes then⟨r.place,pj r.place s.items r.writes,KW s.l0 r 0,KW s.l1 r 1,KW s.l2 r 2,pP s.l0 s.c0 r 0,pP s.l1 s.c1 r 1,pP s.l2 s.c2 r 2⟩else⟨r.place,s.items,s.l0,s.l1,s.l2,s.c0,s.c1,s.c2⟩
theorem QkE s r:(ZB s r).items.length<=s.items.length+r.writes.length/\(ZB s r).l0.length<=max s.l0.length 16/\(ZB s r).l1.length<=max s.l1.length 16/\(ZB s r).l2.length<=max s.l2.length 16:=by
 unfold ZB;cases r.yes
 ·simp only[ah];omega
 ·simp only[ag];exact⟨QkD _ _ _,Oh _ _ _,Oh _ _ _,Oh _ _ _⟩
def qf(now sure:bK):St:=⟨jH now sure,(ec (ef now sure)).items,(ec (ef now sure)).l0,(ec (ef now sure)).l1,(ec (ef now sure)).l2,(ec (ef now sure)).c0,(ec (ef now sure)).c1,(ec (ef now sure)).c2⟩
def Yd(now sure:bK):St:=bif Ql now sure then(jI now sure (jH now sure)).foldl ZB (qf now sure)else⟨0,[],[],[],[],0,0,0⟩
theorem Xt:∀(l:bS) (s:St) (n m:Nat),(∀r∈l,dW r=true)->s.items.length<=n->s.l0.length<=max m 16->s.l1.length<=max m 16->s.l2.length<=max m 16 ->
 (l.foldl ZB s).items.length<=n+4*l.length/\(l.foldl ZB s).l0.length<=max m 16/\(l.foldl ZB s).l1.length<=max m 16/\(l.foldl ZB s).l2.length<=max m 16
 |[],s,n,m,_,h0,h1,h2,h3=>⟨by simpa using h0,h1,h2,h3⟩
 |r::l,s,n,m,hl,h0,h1,h2,h3=>by
  have hr:=JH (hl r aV);obtain⟨q0,q1,q2,q3⟩:=QkE s r;obtain⟨a,b,c,d⟩:=Xt l (ZB s r) (n+4) m (fun x hx=>hl x (aS _ hx)) (by omega) (by omega) (by omega) (by omega);simp only[List.foldl_cons,aE];exact⟨by omega,b,c,d⟩
theorem QoX now sure:(qf now sure).items.length<=24/\(qf now sure).l0.length<=16/\(qf now sure).l1.length<=16/\(qf now sure).l2.length<=16:=by
 unfold qf;cases h:ef now sure with
 |none=>simp[ec]
 |some s=>
  obtain⟨p,it,l0,l1,l2,c0,c1,c2⟩:=s;obtain⟨hp,hn,hi,⟨_,h0,_⟩,⟨_,h1,_⟩,⟨_,h2,_⟩⟩:=YI (Qmc h);simp only[ec,ba];omega
theorem QBT now sure:(Yd now sure).items.length<=152/\(Yd now sure).l0.length<=16/\(Yd now sure).l1.length<=16/\(Yd now sure).l2.length<=16:=by
 unfold Yd;cases Ql now sure
 ·simp
 ·simp only[ag];obtain⟨h0,h1,h2,h3⟩:=QoX now sure;have:=Xt (jI now sure (jH now sure)) (qf now sure) 24 16 (Qol now sure _) h0 (by omega) (by omega) (by omega);have hp:=Qok now sure (jH now sure);omega
theorem QBU{now sure:bK}(h:(kg now sure==0)=false):ef now sure=none:=by
 unfold kg at h;unfold ef;cases h1:JG now sure 32
 ·rfl
 ·cases h2:((ja now sure 32).n==0)
  ·rw[h1,h2]at h;simp only[ag,ah]at h ⊢;cases h3:lg (ja now sure 32)with
   |none=>rfl
   |some s=>rw[h3]at h;cases h
  ·rfl
open Go.Proofs
def qN(s:St):bV:=.bI (.int .i64 s.place) (cL .item false s.items (.bI (cL .line false s.l0 (cL .line false s.l1 (cL .line false s.l2 .bN))) (.bI (.arr (C:=RC) .int 3 [s.c0,s.c1,s.c2]) .bN)))
structure Un where
 (sp:Int)(ci:Bool)(it:bM)(f0:Bool)(l0:bJ)(f1:Bool)(l1:bJ)(f2:Bool)(l2:bJ)(c0 c1 c2 p:Int)(y cw:Bool)(ws:ca)(i:Nat)
def M9(sp:Int)(ci:Bool)(it:bM)(f0:Bool)(l0:bJ)(f1:Bool)(l1:bJ)(f2:Bool)(l2:bJ)(c0 c1 c2 p:Int)(y cw:Bool)(ws:ca)(i:Nat):bX:=[(2,.ptr 0 []),(3,.ptr 1 []),(16,.sl (C:=RC) .write ((cw)) ((ws))),(17,.int .i64 (ws.length)),(18,.int .i64 (i:Int))]
def yp(sp:Int)(ci:Bool)(it:bM)(f0:Bool)(l0:bJ)(f1:Bool)(l1:bJ)(f2:Bool)(l2:bJ)(c0 c1 c2 p:Int)(y cw:Bool)(ws:ca)(i:Nat):bP:=[.var 34 (cH sp (cL .item ci it (.bI (cL .line f0 l0 (cL .line f1 l1 (cL .line f2 l2 .bN))) (.bI (.arr (C:=RC) .int 3 [c0,c1,c2]) .bN)))),.var 51 (cH p (.bI (.bool y) (cL .write cw ws .bN)))]
def U2 sp ci it f0 l0 f1 l1 f2 l2 c0 c1 c2 p y cw ws i:=dQ cu B3 36 5 40 2 [2,3,16,17,18] [] [.slot 2 0,.slot 3 0] (M9 sp ci it f0 l0 f1 l1 f2 l2 c0 c1 c2 p y cw ws i) (yp sp ci it f0 l0 f1 l1 f2 l2 c0 c1 c2 p y cw ws i)
theorem QIa sp ci it f0 l0 f1 l1 f2 l2 c0 c1 c2 p y cw ws i:U2 sp ci it f0 l0 f1 l1 f2 l2 c0 c1 c2 p y cw ws i=(let Z0:Int:=(i:Int);let Z1:Int:=(ws.length:Int);let Z2:Qo:=List.getD ws Z0.toNat (Qo.mk 0 0);let Z3:bV:=D.bI (D.bI (D.sl b9.line f0 l0) (.bI (D.sl b9.line f1 l1) (.bI (D.sl b9.line f2 l2) .bN))) (.bI (D.arr b9.int 3 [c0,c1,c2]) .bN);let Z4:cb:=[some (Obj.var 51 (.bI (cj p) (.bI (D.bool y) (.bI (D.sl b9.write cw ws) .bN))))];bif decide (Z0<Z1)then b7 (dH Z0 Z1) (b7 (decide (it.length<=1000)) (some ((X.normal,[(2,D.ptr 0 []),(3,D.ptr 1 []),(16,D.sl b9.write cw ws),(17,cj Z1),(18,cj (c6 (Z0+1)))]),some (Obj.var 34 (.bI (cj sp) (.bI (D.sl b9.item false (jJ it (Item.mk (Qo.key Z2) p (Qo.value Z2)))) Z3)))::Z4)))else some ((X.exit 0,[]),some (Obj.var 34 (.bI (cj sp) (.bI (D.sl b9.item ci it) Z3)))::Z4)):=by kernel_rfl
def IX(sp:Int)(ci:Bool)(it:bM)(f0:Bool)(l0:bJ)(f1:Bool)(l1:bJ)(f2:Bool)(l2:bJ)(c0 c1 c2 p:Int)(y cw:Bool)(ws:ca)(i:Nat):RT RC:=.leaf (.exit 0) [] (yp sp (bif decide (i<ws.length)then false else ci) (pj p it (ws.drop i)) f0 l0 f1 l1 f2 l2 c0 c1 c2 p y cw ws i)
def Cu(sp:Int)(ci:Bool)(it:bM)(f0:Bool)(l0:bJ)(f1:Bool)(l1:bJ)(f2:Bool)(l2:bJ)(c0 c1 c2 p:Int)(y cw:Bool)(ws:ca)(i:Nat):Prop:=i<=ws.length/\ws.length<=1000/\it.length+(ws.length-i)<=1000
def vg:QD RC Un where
 k:=2
 cM q:=M9 q.sp q.ci q.it q.f0 q.l0 q.f1 q.l1 q.f2 q.l2 q.c0 q.c1 q.c2 q.p q.y q.cw q.ws q.i
 cK q:=yp q.sp q.ci q.it q.f0 q.l0 q.f1 q.l1 q.f2 q.l2 q.c0 q.c1 q.c2 q.p q.y q.cw q.ws q.i
 fin q:=IX q.sp q.ci q.it q.f0 q.l0 q.f1 q.l1 q.f2 q.l2 q.c0 q.c1 q.c2 q.p q.y q.cw q.ws q.i
 Inv q:=Cu q.sp q.ci q.it q.f0 q.l0 q.f1 q.l1 q.f2 q.l2 q.c0 q.c1 q.c2 q.p q.y q.cw q.ws q.i
 μ q:=q.ws.length-q.i
theorem Qxw sp ci it f0 l0 f1 l1 f2 l2 c0 c1 c2 p y cw ws i(hI:Cu sp ci it f0 l0 f1 l1 f2 l2 c0 c1 c2 p y cw ws i):c8 (U2 sp ci it f0 l0 f1 l1 f2 l2 c0 c1 c2 p y cw ws i) (dj vg ⟨sp,ci,it,f0,l0,f1,l1,f2,l2,c0,c1,c2,p,y,cw,ws,i⟩):=by
 (rw[QIa];delta b7 dH cj c6;conv=>zeta)
 unfold Cu at hI;obtain⟨h1,h3,h2⟩:=hI
 by_cases cU:i<ws.length
 ·have cP:=eG i (by omega)
  have eu:=ga (show i<ws.length by omega)
  have et:=fL (show i<ws.length by omega)
  have dh:=bw i
  simp only[cP,eu,et,dh,ag];have hd:ws.drop i=ws.getD i ⟨0,0⟩::ws.drop (i+1):=by rw[aJ cU];simp[cU]
  generalize ws.getD i ⟨0,0⟩=x at *
  have hc:decide (it.length<=1000)=true:=by simp;omega
  have hp:=QoO it ⟨x.key,p,x.value⟩;simp only[hc,ag];refine Qi (S:=vg) ⟨sp,false,jJ it ⟨x.key,p,x.value⟩,f0,l0,f1,l1,f2,l2,c0,c1,c2,p,y,cw,ws,i+1⟩ (show Cu (sp) (false) (jJ it ⟨x.key,p,x.value⟩) (f0) (l0) (f1) (l1) (f2) (l2) (c0) (c1) (c2) (p) (y) (cw) (ws) (i+1)from⟨by omega,h3,by omega⟩) (by simp only[vg];omega) ?_ rfl rfl
  have e:(bif decide (i+1<ws.length)then false else false)=(bif decide (i<ws.length)then false else ci):=by
   rw[ab cU];cases decide (i+1<ws.length)<;>rfl
  simp only[vg,IX,yp,hd,pj,List.foldl_cons,e]
 ·have d1:decide ((i:Int)<ws.length)=false:=by simp;omega
  have d2:decide (i<ws.length)=false:=by simp;omega
  rw[d1];simp only[ah];have e:ws.drop i=[]:=aO (by omega);refine Qh (yp sp ci it f0 l0 f1 l1 f2 l2 c0 c1 c2 p y cw ws i) ?_ rfl;simp only[vg,IX,e,pj,List.foldl_nil,d2,ah,RT.val]
def Na(env:bX)(os:bP):Option (Bool×Un):=match env,os with
 |[(2,.ptr 0 []),(3,.ptr 1 []),(16,.sl .write x0 x1),(17,.int .i64 x2),(18,.int .i64 x3)],[.var 34 (.bI (.int .i64 sp) (.bI (.sl .item ci it) (.bI (.bI (.sl .line f0 l0) (.bI (.sl .line f1 l1) (.bI (.sl .line f2 l2) .bN))) (.bI (.arr .int 3 [c0,c1,c2]) .bN)))),.var 51 (.bI (.int .i64 p) (.bI (.bool y) (.bI (.sl .write cw ws) .bN)))]=>some (decide (x0=(cw))&&decide (x1=(ws))&&decide (x2=ws.length)&&decide (x3=0)&&decide (it.length+ws.length<=1000),⟨sp,ci,it,f0,l0,f1,l1,f2,l2,c0,c1,c2,p,y,cw,ws,0⟩)
 |_,_=>none
def B4:=B3.cJ 36 5 (ey cu [.slot 2 0,.slot 3 0] [2,3,16,17,18] vg Na)
theorem Qxx:Qk Tryz.prog cu B4:=by
 refine Qxv.cq Qb (by kernel_rfl) vg 40 [2,3,16,17,18] [] [.slot 2 0,.slot 3 0] [2,3,16,17,18] Na (fun q hI=>?_) ?_
 ·obtain⟨sp,ci,it,f0,l0,f1,l1,f2,l2,c0,c1,c2,p,y,cw,ws,i⟩:=q;refine⟨?_,?_,Qxw sp ci it f0 l0 f1 l1 f2 l2 c0 c1 c2 p y cw ws i hI⟩
  ·simp_all[Qj,vg,M9,yp,Cu,D.refs,Obj.refs,cV]
  ·simp_all[vg,IX,yp,Cu,RT.cT,Qj,D.refs,Obj.refs,cV]
 ·intro env os b q cN hb;unfold Na at cN
  split at cN
  ·cases cN;simp only[ai,aa]at hb;obtain⟨⟨⟨⟨rfl,rfl⟩,rfl⟩,rfl⟩,h1⟩:=hb;exact⟨⟨aK _,bk (Nat.le_add_left _ _) h1,by simpa using h1⟩,rfl,rfl⟩
  ·cases cN
def QkF:bW->bO
 |[.bI (.int .i64 sp) (.bI (.sl .item ci it) (.bI (.bI (.sl .line f0 l0) (.bI (.sl .line f1 l1) (.bI (.sl .line f2 l2) .bN))) (.bI (.arr .int 3 [c0,c1,c2]) .bN))),.bI (.int .i64 p) (.bI (.bool y) (.bI (.sl .write cw ws) .bN))]=>some (decide (it.length+ws.length<=1000/\l0.length<=1000/\l1.length<=1000/\l2.length<=1000),qN (ZB ⟨sp,it,l0,l1,l2,c0,c1,c2⟩ ⟨p,y,ws⟩))
 |_=>none
def QoZ(sp:Int)(ci:Bool)(it:bM)(f0:Bool)(l0:bJ)(f1:Bool)(l1:bJ)(f2:Bool)(l2:bJ)(c0 c1 c2 p:Int)(y cw:Bool)(ws:ca):=ky cu B4 200 36 [.bI (.int .i64 sp) (cL .item ci it (.bI (cL .line f0 l0 (cL .line f1 l1 (cL .line f2 l2 .bN))) (.bI (.arr (C:=RC) .int 3 [c0,c1,c2]) .bN))),.bI (.int .i64 p) (.bI (.bool y) (cL .write cw ws .bN))]
theorem Qxy sp ci it f0 l0 f1 l1 f2 l2 c0 c1 c2 p y cw ws:QoZ sp ci it f0 l0 f1 l1 f2 l2 c0 c1 c2 p y cw ws=(let Z0:=ws.length;let Z1:Rec:=Rec.mk p y ws;bif !y then some (D.bI (cj p) (.bI (D.sl b9.item false it) (.bI (D.bI (D.sl b9.line false l0) (.bI (D.sl b9.line false l1) (.bI (D.sl b9.line false l2) .bN))) (.bI (D.arr b9.int 3 [c0,c1,c2]) .bN))))else b7 (Qd Z0) (b7 (decide (cw=cw)&&decide (ws=ws)&&decide ((Z0:Int)=(Z0:Int))&&true&&decide (it.length+Z0<=1000)) (b7 (decide (l0.length<=1000/\Z0<=1000)) (b7 (decide (l1.length<=1000/\Z0<=1000)) (b7 (decide (l2.length<=1000/\Z0<=1000)) (some (D.bI (cj p) (.bI (D.sl b9.item false (pj p it (List.drop 0 ws))) (.bI (D.bI (D.sl b9.line false (KW l0 Z1 0)) (.bI (D.sl b9.line false (KW l1 Z1 1)) (.bI (D.sl b9.line false (KW l2 Z1 2)) .bN))) (.bI (D.arr b9.int 3 [pP l0 c0 Z1 0,pP l1 c1 Z1 1,pP l2 c2 Z1 2]) .bN)))))))))):=by kernel_rfl
theorem Qxz sp ci it f0 l0 f1 l1 f2 l2 c0 c1 c2 p y cw ws(h:(decide (it.length+ws.length<=1000/\l0.length<=1000/\l1.length<=1000/\l2.length<=1000))=true):QoZ sp ci it f0 l0 f1 l1 f2 l2 c0 c1 c2 p y cw ws=some (qN (ZB ⟨sp,it,l0,l1,l2,c0,c1,c2⟩ ⟨p,y,ws⟩)):=by
 (rw[Qxy];delta b7 cj;conv=>zeta)
 obtain⟨h0,h1,h2,h3⟩:=af h;cases y
 ·exact Qa rfl rfl
 exact Qq rfl (Qa (Qe (by omega)) (Qa (by simp;omega) (Qa (by simp;omega) (Qa (by simp;omega) (Qa (by simp;omega) rfl)))))
def B5:=B4.b8 36 QkF
theorem QxA:Qk Tryz.prog cu B5:=Qxx.iv Qb fun args d h=>by
 unfold QkF at h
 split at h
 ·obtain⟨h1,rfl⟩:=ak h;exact⟨by simp[D.refs,qN],200,Qxz _ _ _ _ _ _ _ _ _ _ _ _ _ _ _ _ h1⟩
 ·cases h
open Go.Proofs
theorem P5(s:St):St.mk s.place s.items s.l0 s.l1 s.l2 s.c0 s.c1 s.c2=s:=rfl
theorem QGm(r:Rec):Rec.mk r.place r.yes r.writes=r:=rfl
structure Uo where
 (sp:Int)(ci:Bool)(it:bM)(f0:Bool)(l0:bJ)(f1:Bool)(l1:bJ)(f2:Bool)(l2:bJ)(c0 c1 c2:Int)(cr:Bool)(rs:bS)(i:Nat)
def Nb(sp:Int)(ci:Bool)(it:bM)(f0:Bool)(l0:bJ)(f1:Bool)(l1:bJ)(f2:Bool)(l2:bJ)(c0 c1 c2:Int)(cr:Bool)(rs:bS)(i:Nat):bX:=[(2,.ptr 0 []),(32,.sl (C:=RC) .dU cr rs),(33,.int .i64 (rs.length)),(34,.int .i64 (i:Int))]
def yq(sp:Int)(ci:Bool)(it:bM)(f0:Bool)(l0:bJ)(f1:Bool)(l1:bJ)(f2:Bool)(l2:bJ)(c0 c1 c2:Int)(cr:Bool)(rs:bS)(i:Nat):bP:=[.var 34 (cH sp (cL .item ci it (.bI (cL .line f0 l0 (cL .line f1 l1 (cL .line f2 l2 .bN))) (.bI (.arr (C:=RC) .int 3 [c0,c1,c2]) .bN))))]
def Wo sp ci it f0 l0 f1 l1 f2 l2 c0 c1 c2 cr rs i:=dQ cu B5 9 9 40 1 [2,32,33,34] [] [.slot 2 0] (Nb sp ci it f0 l0 f1 l1 f2 l2 c0 c1 c2 cr rs i) (yq sp ci it f0 l0 f1 l1 f2 l2 c0 c1 c2 cr rs i)
theorem QIc sp ci it f0 l0 f1 l1 f2 l2 c0 c1 c2 cr rs i:Wo sp ci it f0 l0 f1 l1 f2 l2 c0 c1 c2 cr rs i=(let Z0:Int:=(i:Int);let Z1:Int:=(rs.length:Int);let Z2:Rec:=List.getD rs Z0.toNat (Rec.mk 0 false []);let Z3:St:=ZB (St.mk sp it l0 l1 l2 c0 c1 c2) (Rec.mk Z2.place Z2.yes Z2.writes);bif decide (Z0<Z1)then b7 (dH Z0 Z1) (b7 (decide (it.length+List.length Z2.writes<=1000/\l0.length<=1000/\l1.length<=1000/\l2.length<=1000)) (some ((X.normal,[(2,D.ptr 0 []),(32,D.sl b9.dU cr rs),(33,cj Z1),(34,cj (c6 (Z0+1)))]),[some (Obj.var 34 (.bI (cj Z3.place) (.bI (D.sl b9.item false Z3.items) (.bI (D.bI (D.sl b9.line false Z3.l0) (.bI (D.sl b9.line false Z3.l1) (.bI (D.sl b9.line false Z3.l2) .bN))) (.bI (D.arr b9.int 3 [St.c0 Z3,St.c1 Z3,St.c2 Z3]) .bN)))))])))else some ((X.exit 0,[]),[some (Obj.var 34 (.bI (cj sp) (.bI (D.sl b9.item ci it) (.bI (D.bI (D.sl b9.line f0 l0) (.bI (D.sl b9.line f1 l1) (.bI (D.sl b9.line f2 l2) .bN))) (.bI (D.arr b9.int 3 [c0,c1,c2]) .bN)))))])):=by kernel_rfl
def IY(sp:Int)(ci:Bool)(it:bM)(f0:Bool)(l0:bJ)(f1:Bool)(l1:bJ)(f2:Bool)(l2:bJ)(c0 c1 c2:Int)(cr:Bool)(rs:bS)(i:Nat):RT RC:=.leaf (.exit 0) [] (yq ((rs.drop i).foldl ZB ⟨sp,it,l0,l1,l2,c0,c1,c2⟩).place (bif decide (i<rs.length)then false else ci) ((rs.drop i).foldl ZB ⟨sp,it,l0,l1,l2,c0,c1,c2⟩).items (bif decide (i<rs.length)then false else f0) ((rs.drop i).foldl ZB ⟨sp,it,l0,l1,l2,c0,c1,c2⟩).l0 (bif decide (i<rs.length)then false else f1) ((rs.drop i).foldl ZB ⟨sp,it,l0,l1,l2,c0,c1,c2⟩).l1 (bif decide (i<rs.length)then false else f2) ((rs.drop i).foldl ZB ⟨sp,it,l0,l1,l2,c0,c1,c2⟩).l2 ((rs.drop i).foldl ZB ⟨sp,it,l0,l1,l2,c0,c1,c2⟩).c0 ((rs.drop i).foldl ZB ⟨sp,it,l0,l1,l2,c0,c1,c2⟩).c1 ((rs.drop i).foldl ZB ⟨sp,it,l0,l1,l2,c0,c1,c2⟩).c2 cr rs i)
def Cv(sp:Int)(ci:Bool)(it:bM)(f0:Bool)(l0:bJ)(f1:Bool)(l1:bJ)(f2:Bool)(l2:bJ)(c0 c1 c2:Int)(cr:Bool)(rs:bS)(i:Nat):Prop:=i<=rs.length/\rs.length<=100/\rs.all dW=true/\it.length<=500+4*i/\l0.length<=1000/\l1.length<=1000/\l2.length<=1000
def vh:QD RC Uo where
 k:=1
 cM q:=Nb q.sp q.ci q.it q.f0 q.l0 q.f1 q.l1 q.f2 q.l2 q.c0 q.c1 q.c2 q.cr q.rs q.i
 cK q:=yq q.sp q.ci q.it q.f0 q.l0 q.f1 q.l1 q.f2 q.l2 q.c0 q.c1 q.c2 q.cr q.rs q.i
 fin q:=IY q.sp q.ci q.it q.f0 q.l0 q.f1 q.l1 q.f2 q.l2 q.c0 q.c1 q.c2 q.cr q.rs q.i
 Inv q:=Cv q.sp q.ci q.it q.f0 q.l0 q.f1 q.l1 q.f2 q.l2 q.c0 q.c1 q.c2 q.cr q.rs q.i
 μ q:=q.rs.length-q.i
theorem QxC sp ci it f0 l0 f1 l1 f2 l2 c0 c1 c2 cr rs i(hI:Cv sp ci it f0 l0 f1 l1 f2 l2 c0 c1 c2 cr rs i):c8 (Wo sp ci it f0 l0 f1 l1 f2 l2 c0 c1 c2 cr rs i) (dj vh ⟨sp,ci,it,f0,l0,f1,l1,f2,l2,c0,c1,c2,cr,rs,i⟩):=by
 (rw[QIc];delta b7 dH cj c6;conv=>zeta)
 unfold Cv at hI;obtain⟨h1,h2,h3,h4,h5,h6,h7⟩:=hI
 by_cases cU:i<rs.length
 ·have cP:=eG i (by omega)
  have eu:=ga (show i<rs.length by omega)
  have et:=fL (show i<rs.length by omega)
  have dh:=bw i
  simp only[cP,eu,et,dh,ag];have hd:rs.drop i=rs.getD i ⟨0,false,[]⟩::rs.drop (i+1):=by rw[aJ cU];simp[cU]
  have hm:dW (rs.getD i ⟨0,false,[]⟩)=true:=by
   have:=aX.1 h3 rs[i] (bA cU)
   simpa[cU]using this
  generalize rs.getD i ⟨0,false,[]⟩=x at *
  have hx:=JH hm;have hq:(ZB ⟨sp,it,l0,l1,l2,c0,c1,c2⟩ x).items.length<=it.length+x.writes.length/\(ZB ⟨sp,it,l0,l1,l2,c0,c1,c2⟩ x).l0.length<=max l0.length 16/\(ZB ⟨sp,it,l0,l1,l2,c0,c1,c2⟩ x).l1.length<=max l1.length 16/\(ZB ⟨sp,it,l0,l1,l2,c0,c1,c2⟩ x).l2.length<=max l2.length 16:=QkE _ _;have hc:decide (it.length+x.writes.length<=1000/\l0.length<=1000/\l1.length<=1000/\l2.length<=1000)=true:=by simp;omega
  simp only[QGm,hc,ag];have hG:∃Z,ZB ⟨sp,it,l0,l1,l2,c0,c1,c2⟩ x=Z:=⟨_,rfl⟩;obtain⟨Z,hG⟩:=hG;rw[hG]at hq;simp only[hG];refine Qi (S:=vh) ⟨Z.place,false,Z.items,false,Z.l0,false,Z.l1,false,Z.l2,Z.c0,Z.c1,Z.c2,cr,rs,i+1⟩ (show Cv Z.place false Z.items false Z.l0 false Z.l1 false Z.l2 Z.c0 Z.c1 Z.c2 cr rs (i+1)from⟨by omega,h2,h3,by omega,by omega,by omega,by omega⟩) (by simp only[vh];omega) ?_ rfl rfl;have e1:(bif decide (i+1<rs.length)then false else false)=false:=by cases decide (i+1<rs.length)<;>rfl
  have e2:decide (i<rs.length)=true:=ab cU;simp only[vh,IY,yq,hd,List.foldl_cons,P5,hG,e1,e2,ag]
 ·have d1:decide ((i:Int)<rs.length)=false:=by simp;omega
  have d2:decide (i<rs.length)=false:=by simp;omega
  simp only[d1,ag,ah];have e:rs.drop i=[]:=aO (by omega);refine Qh (yq sp ci it f0 l0 f1 l1 f2 l2 c0 c1 c2 cr rs i) ?_ rfl;simp only[vh,IY,e,List.foldl_nil,d2,ah,RT.val]
def Nc(env:bX)(os:bP):Option (Bool×Uo):=match env,os with
 |[(2,.ptr 0 []),(32,.sl .dU cr rs),(33,.int .i64 x0),(34,.int .i64 x1)],[.var 34 (.bI (.int .i64 sp) (.bI (.sl .item ci it) (.bI (.bI (.sl .line f0 l0) (.bI (.sl .line f1 l1) (.bI (.sl .line f2 l2) .bN))) (.bI (.arr .int 3 [c0,c1,c2]) .bN))))]=>some (decide (x0=rs.length)&&decide (x1=0)&&decide (rs.length<=100/\it.length<=500/\l0.length<=1000/\l1.length<=1000/\l2.length<=1000)&&rs.all dW,⟨sp,ci,it,f0,l0,f1,l1,f2,l2,c0,c1,c2,cr,rs,0⟩)
 |_,_=>none
def B6:=B5.cJ 9 9 (ey cu [.slot 2 0] [2,32,33,34] vh Nc)
theorem QxD:Qk Tryz.prog cu B6:=by
 refine QxA.cq Qb (by kernel_rfl) vh 40 [2,32,33,34] [] [.slot 2 0] [2,32,33,34] Nc (fun q hI=>?_) ?_
 ·obtain⟨sp,ci,it,f0,l0,f1,l1,f2,l2,c0,c1,c2,cr,rs,i⟩:=q;refine⟨?_,?_,QxC sp ci it f0 l0 f1 l1 f2 l2 c0 c1 c2 cr rs i hI⟩
  ·simp_all[Qj,vh,Nb,yq,Cv,D.refs,Obj.refs,cV]
  ·simp_all[vh,IY,yq,Cv,RT.cT,Qj,D.refs,Obj.refs,cV]
 ·intro env os b q cN hb;unfold Nc at cN
  split at cN
  ·cases cN;simp only[ai,aa]at hb;obtain⟨⟨⟨rfl,rfl⟩,h1,h2,h3,h4,h5⟩,h6⟩:=hb;exact⟨⟨aK _,h1,h6,by simpa using h2,h3,h4,h5⟩,rfl,rfl⟩
  ·cases cN
def QkG:bW->bO
 |[.bI (.sl .bR c now) (.bI (.sl .bR d sure) .bN)]=>some (Qn now&&Qn sure,.cG (.bI (qN (Yd now sure)) (cH (bif Ql now sure then 0 else 2) .bN)))
 |_=>none
def Qo1(c:Bool)(now:bK)(d:Bool)(sure:bK):=ky cu B6 100 9 [.bI (.sl (C:=RC) .bR c now) (cL .bR d sure .bN)]
theorem QxE c now d sure:Qo1 c now d sure=(let Z0:=Qn now&&Qn sure;let Z1:bV:=cj 0;let Z2:bV:=D.sl b9.line false [];let Z3:bV:=.bN;let Z4:bS:=jI now sure (jH now sure);let Z5:=Z4.length;let Z6:St:=ec (ef now sure);let Z7:St:=List.foldl ZB (St.mk (jH now sure) Z6.items Z6.l0 Z6.l1 Z6.l2 Z6.c0 Z6.c1 Z6.c2) (List.drop 0 Z4);let Z8:bS:=jI now sure 0;let Z9:=Z8.length;let db:St:=List.foldl ZB (St.mk 0 [] [] [] [] 0 0 0) (List.drop 0 Z8);b7 Z0 (bif (bif Ql now sure then (0:Int)else (2:Int))!=0 then some (D.cG (D.bI (D.bI Z1 (D.bI (D.sl b9.item false []) (.bI (D.bI Z2 (D.bI Z2 (D.bI Z2 Z3))) (.bI (D.arr b9.int 3 (List.replicate 3 0)) Z3)))) (.bI (cj 2) Z3)))else b7 Z0 (bif kg now sure==0 then b7 Z0 (b7 (Qd Z5) (b7 (decide ((Z5:Int)=(Z5:Int))&&true&&decide (Z5<=100/\List.length Z6.items<=500/\List.length Z6.l0<=1000/\List.length Z6.l1<=1000/\List.length Z6.l2<=1000)&&List.all Z4 dW) (some (D.cG (D.bI (D.bI (cj Z7.place) (.bI (D.sl b9.item false Z7.items) (.bI (D.bI (D.sl b9.line false Z7.l0) (.bI (D.sl b9.line false Z7.l1) (.bI (D.sl b9.line false Z7.l2) Z3))) (.bI (D.arr b9.int 3 [St.c0 Z7,St.c1 Z7,St.c2 Z7]) Z3)))) (.bI Z1 Z3))))))else b7 Z0 (b7 (Qd Z9) (b7 (decide ((Z9:Int)=(Z9:Int))&&true&&decide (Z9<=100/\(0:Nat)<=500/\(0:Nat)<=1000/\(0:Nat)<=1000/\(0:Nat)<=1000)&&List.all Z8 dW) (some (D.cG (D.bI (D.bI (cj db.place) (.bI (D.sl b9.item false db.items) (.bI (D.bI (D.sl b9.line false db.l0) (.bI (D.sl b9.line false db.l1) (.bI (D.sl b9.line false db.l2) Z3))) (.bI (D.arr b9.int 3 [St.c0 db,St.c1 db,St.c2 db]) Z3)))) (.bI Z1 Z3))))))))):=by kernel_rfl
theorem QxF c now d sure(h:(Qn now&&Qn sure)=true):Qo1 c now d sure=some (.cG (.bI (qN (Yd now sure)) (cH (bif Ql now sure then 0 else 2) .bN))):=by
 (rw[QxE];delta b7 cj;conv=>zeta)
 have hg:=h;refine Qa hg ?_;cases hd:Ql now sure
 ·exact Qa rfl (by simp only[Yd,hd,ah];rfl)
 refine Qq rfl (Qa hg ?_);obtain⟨b0,b1,b2,b3⟩:=QoX now sure;simp only[qf]at b0 b1 b2 b3;have hm:(jI now sure (jH now sure)).all dW=true:=aX.2 (Qol now sure _);have hp:=Qok now sure (jH now sure);cases he:kg now sure==0
 ·have hs:=QBU he;have hn:jH now sure=0:=by simp[jH,hs]
  rw[hn]at hm hp;have hb:qf now sure=⟨0,[],[],[],[],0,0,0⟩:=by simp[qf,hs,hn,ec]
  refine Qq rfl (Qa hg (Qa (Qe (by omega)) (Qa (by simp only[hm,Bool.and_true,Bool.true_and,ai,aa,true_and,and_true];omega) ?_)));simp only[Yd,hd,ag,hn,hb];rfl
 ·refine Qa rfl (Qa hg (Qa (Qe (by omega)) (Qa (by simp only[hm,Bool.and_true,Bool.true_and,ai,aa,true_and,and_true];omega) ?_)));simp only[Yd,hd,ag];rfl
def B7:=B6.b8 9 QkG
theorem QxG:Qk Tryz.prog cu B7:=QxD.iv Qb fun args d h=>by
 unfold QkG at h
 split at h
 ·obtain⟨h1,rfl⟩:=ak h;exact⟨by simp[D.refs,qN],100,QxF _ _ _ _ h1⟩
 ·cases h
def YV(p w:Int):Int:=bif decide (0<=p/\p<=1048575/\2<=w/\w<=8)then(bif decide (1048575<p+w)then 172 else 0)else 2
def uY(p w:Int):Int:=bif YV p w==0 then p+w else 0
def Tn:St:=⟨0,[],[],[],[],0,0,0⟩
def J2(now sure:bK)(c w d k:Int):Int:=bif Ql now sure&&Yj c w d k then YV (Yd now sure).place w else 2
def Q7(now sure:bK)(c w d k:Int):St:=bif J2 now sure c w d k==0 then⟨uY (Yd now sure).place w,(Yd now sure).items,(Yd now sure).l0,(Yd now sure).l1,(Yd now sure).l2,(Yd now sure).c0,(Yd now sure).c1,(Yd now sure).c2⟩else Tn
open Go.Proofs
def QkH:bW->bO
 |[.int .i64 p,.int .i64 w]=>some (true,.cG (cH (uY p w) (cH (YV p w) .bN)))
 |_=>none
def Qo3(p w:Int):=eO cu B7 60 42 [.int .i64 p,.int .i64 w]
theorem QxH p w:Qo3 p w=(let Z0:bV:=cj 0;let Z1:fI:=some (D.cG (D.bI Z0 (D.bI (cj 2) .bN)));let Z2:=c6 (p+w);bif decide ((0:Int)<=p)then bif decide (p<=1048575)then bif decide ((2:Int)<=w)then bif !decide (w<=8)then Z1 else bif decide ((1048575:Int)<Z2)then some (D.cG (D.bI Z0 (D.bI (cj 172) .bN)))else some (D.cG (D.bI (cj Z2) (.bI Z0 .bN)))else Z1 else Z1 else Z1):=by kernel_rfl
theorem QxI p w(h:(true)=true):Qo3 p w=some (.cG (cH (uY p w) (cH (YV p w) .bN))):=by
 (rw[QxH];delta cj c6;conv=>zeta)
 have no:¬(0<=p/\p<=1048575/\2<=w/\w<=8)->some (D.cG (C:=RC) (cH 0 (cH 2 .bN)))=some (.cG (cH (uY p w) (cH (YV p w) .bN))):=fun e=>by
  have h1:YV p w=2:=by simp only[YV,ad e,ah]
  simp only[uY,h1];rfl
 iterate 3
  refine Qw (fun _=>?_) fun e=>no (by simp only[ae]at e;omega)
 refine Qw (fun e=>no (by simp only[Bool.not_eq_true',ae]at e;omega)) fun e=>?_;simp only[Bool.not_eq_false',aa]at *;have h1:YV p w=bif decide (1048575<p+w)then 172 else 0:=by simp only[YV,ab (show 0<=p/\p<=1048575/\2<=w/\w<=8 by omega),ag]
 have w1:IntKind.i64.wrap (p+w)=p+w:=cC (by omega) (by omega);rw[w1];simp only[uY,h1];cases decide (1048575<p+w)<;>rfl
def B8:=B7.b8 42 QkH
theorem QxJ:Qk Tryz.prog cu B8:=QxG.cQ Qb fun args d h=>by
 unfold QkH at h
 split at h
 ·obtain⟨h1,rfl⟩:=ak h;exact⟨by simp[D.refs],60,QxI _ _ h1⟩
 ·cases h
def QkI:bW->bO
 |[.bI (.sl .bR cn now) (.bI (.sl .bR cs sure) .bN),.bI (.int .i64 c) (.bI (.int .i64 w) (.bI (.int .i64 d) (.bI (.int .i64 k) .bN)))]=>some (Qn now&&Qn sure,.cG (.bI (qN (Q7 now sure c w d k)) (cH (J2 now sure c w d k) .bN)))
 |_=>none
def Qo5(cn:Bool)(now:bK)(cs:Bool)(sure:bK)(c w d k:Int):=ky cu B8 60 11 [.bI (.sl (C:=RC) .bR cn now) (cL .bR cs sure .bN),.bI (.int .i64 c) (cH w (cH d (cH k .bN)))]
theorem QxK cn now cs sure c w d k:Qo5 cn now cs sure c w d k=(let Z0:bV:=cj 0;let Z1:bV:=D.sl b9.line false [];let Z2:bV:=.bN;let Z3:bV:=D.bI Z0 (D.bI (D.sl b9.item false []) (.bI (D.bI Z1 (D.bI Z1 (D.bI Z1 Z2))) (.bI (D.arr b9.int 3 (List.replicate 3 0)) Z2)));let Z4:fI:=some (D.cG (D.bI Z3 (D.bI (cj 2) Z2)));let Z5:St:=Yd now sure;let Z6:=YV Z5.place w;b7 (Qn now&&Qn sure) (bif (bif Ql now sure then (0:Int)else (2:Int))!=0 then Z4 else bif (bif Yj c w d k then (0:Int)else (2:Int))!=0 then Z4 else bif Z6 !=0 then some (D.cG (D.bI Z3 (D.bI (cj Z6) Z2)))else some (D.cG (D.bI (D.bI (cj (uY Z5.place w)) (.bI (D.sl b9.item false Z5.items) (.bI (D.bI (D.sl b9.line false Z5.l0) (.bI (D.sl b9.line false Z5.l1) (.bI (D.sl b9.line false Z5.l2) Z2))) (.bI (D.arr b9.int 3 [St.c0 Z5,St.c1 Z5,St.c2 Z5]) Z2)))) (.bI Z0 Z2))))):=by kernel_rfl
theorem QxL cn now cs sure c w d k(h:(Qn now&&Qn sure)=true):Qo5 cn now cs sure c w d k=some (.cG (.bI (qN (Q7 now sure c w d k)) (cH (J2 now sure c w d k) .bN))):=by
 (rw[QxK];delta b7 cj;conv=>zeta)
 refine Qa h ?_;cases hd:Ql now sure
 ·exact Qa rfl (by simp only[Q7,J2,hd,Bool.false_and,ah];rfl)
 refine Qq rfl ?_;cases hs:Yj c w d k
 ·exact Qa rfl (by simp only[Q7,J2,hd,hs,Bool.and_false,ah];rfl)
 refine Qq rfl ?_;have hE:J2 now sure c w d k=YV (Yd now sure).place w:=by simp only[J2,hd,hs,au,ag]
 simp only[Q7,hE];cases he:YV (Yd now sure).place w==0
 ·have hb:(YV (Yd now sure).place w !=0)=true:=by simpa using he
  exact Qa hb rfl
 ·have h0:YV (Yd now sure).place w=0:=by simpa using he
  rw[h0];exact Qq rfl rfl
def B9:=B8.b8 11 QkI
theorem QxM:Qk Tryz.prog cu B9:=QxJ.iv Qb fun args d h=>by
 unfold QkI at h
 split at h
 ·obtain⟨h1,rfl⟩:=ak h;exact⟨by simp[D.refs,qN],60,QxL _ _ _ _ _ _ _ _ h1⟩
 ·cases h
def fU(m:bZ)(k v:Int):bZ:=g8 (fun a b=>decide (a=b)) k v m
def Yv(q:Int)(m:bZ)(l:bJ):bZ:=l.foldl (fun m x=>fU (fU m (da q x.offset) (fx x)) (dY 45 q 3) (IntKind.i64.wrap (x.offset+1))) m
def Jy(c k n:Int):Int:=n%c*k+n/c
def yh(l:bM):Bool:=l.all fun x=>decide (0<=x.key/\x.key<=23/\0<=x.value/\x.value<=255)
def vj(m:bZ)(s:Int)(x:Item):bZ:=fU (fU (fU (fU m (dt 291 s 0 160 3) 3) (dt 291 s 1 160 3) 0) (dt 291 s 2 160 3) (IntKind.i64.wrap (IntKind.i64.wrap (x.key*256)+x.value))) (dY 21 x.key 24) (iN x.place (256+s))
def Q6(c k:Int):Nat->bM->bZ->bZ
 |_,[],m=>m
 |n,x::l,m=>Q6 c k (n+1) l (vj m (Jy c k n) x)
theorem QxN:((List.range 160).all fun s=>bits .i64 (fun _ u v=>u|||v) 256 (s:Int)==256+(s:Int))=true:=by kernel_rfl
theorem QI2{s:Int}(h0:0<=s)(h1:s<160):bits .i64 (fun _ u v=>u|||v) 256 s=256+s:=by
 have:=aX.1 QxN s.toNat (by simp;omega);rw[Int.toNat_of_nonneg h0]at this
 simpa using this
theorem Ji{c w d k:Int}(h:Yj c w d k=true):1<=c/\c<=4/\2<=w/\w<=8/\1<=d/\d<=4/\4<=k/\k<=40:=by
 simp only[Yj,ai,Qm,aa]at h;omega
theorem QxO{c kk k j:Int}(h0:0<=j)(h1:j<c):Jy c kk (k*c+j)=j*kk+k:=by
 unfold Jy;have e1:(k*c+j)%c=j:=by rw[Int.add_comm,Int.add_mul_emod_self_right,Int.emod_eq_of_lt h0 h1]
 have e2:(k*c+j)/c=k:=by rw[Int.add_comm,Int.add_mul_ediv_right _ _ (by omega),Int.ediv_eq_zero_of_lt h0 h1];omega
 rw[e1,e2]
theorem QId{c w d kk j:Int}(h:Yj c w d kk=true)(h0:0<=j)(h1:j<c):(pE c w d kk j true).1=j*kk:=by
 unfold pE;rw[ax ⟨h,h0,h1⟩];rfl
theorem KD c k:∀(a b:bM) (n:Nat) (m:bZ),Q6 c k n (a++b) m=Q6 c k (n+a.length) b (Q6 c k n a m)
 |[],b,n,m=>rfl
 |x::a,b,n,m=>by
  simp only[aP,Q6,aE];rw[KD c k a b,show n+1+a.length=n+(a.length+1)by omega]
theorem Qmt{c k:Int}{l:bM}{n e:Nat}{m:bZ}(h:n+e<=l.length):Q6 c k (n+e) (l.drop (n+e)) (Q6 c k n ((l.drop n).take e) m)=Q6 c k n (l.drop n) m:=by
 have h1:l.drop n=(l.drop n).take e++l.drop (n+e):=by rw[<-bD];exact(bn e _).symm
 have h2:((l.drop n).take e).length=e:=by simp;omega
 conv=>rhs;rw[h1,KD,h2]
theorem Qmu{c k:Int}{l:bM}{n e t:Nat}{m:bZ}(h:n+e<=l.length):Q6 c k (n+e) ((l.drop (n+e)).take t) (Q6 c k n ((l.drop n).take e) m)=Q6 c k n ((l.drop n).take (e+t)) m:=by
 have h1:(l.drop n).take (e+t)=(l.drop n).take e++(l.drop (n+e)).take t:=by rw[List.take_add,bD]
 have h2:((l.drop n).take e).length=e:=by simp;omega
 rw[h1,KD,h2]
def QM(c:bQ)(m:bZ):bQ:=m.foldl (fun c p=>c.set p.1.toNat p.2) c
def ZQ(n:Nat):bZ->Bool
 |[]=>true
 |(k,_)::l=>decide (0<=k/\k<n)&&(l.all fun p=>decide (p.1≠k))&&ZQ n l
theorem QkJ{n:Nat}{k v:Int}:∀{l1 l2:bZ},ZQ n (l1++(k,v)::l2)=true->(0<=k/\k<n)/\ZQ n (l1++l2)=true/\(∀p∈l1,p.1≠k/\0<=p.1)
 |[],l2,h=>by
  simp only[aH,ZQ,ai,aa]at h;exact⟨h.1.1,h.2,by simp⟩
 |(a,b)::l1,l2,h=>by
  simp only[aP,ZQ,ai,aa,aX,aT,aZ]at h;obtain⟨⟨h1,h2⟩,h3⟩:=h;obtain⟨q1,q2,q3⟩:=QkJ h3;refine⟨q1,?_,fun p hp=>?_⟩
  ·simp only[aP,ZQ,ai,aa,aX,aT];exact⟨⟨h1,fun p hp=>h2 p (hp.imp id .inr)⟩,q2⟩
  ·rcases aZ.1 hp with rfl|hp
   ·exact⟨fun e=>h2 (k,v) (.inr (.inl rfl)) e.symm,h1.1⟩
   ·exact q3 p hp
theorem Jj:∀(m:bZ) (c:bQ),(QM c m).length=c.length
 |[],c=>rfl
 |p::m,c=>by
  have:=Jj m (c.set p.1.toNat p.2);simp only[QM,List.foldl_cons]at this ⊢;rw[this,bf]
theorem Hx{k v:Int}(h0:0<=k):∀(l:bZ) (c:bQ),(∀p∈l,p.1≠k/\0<=p.1)->QM (c.set k.toNat v) l=(QM c l).set k.toNat v
 |[],c,_=>rfl
 |p::l,c,h=>by
  have hp:=h p aV;have:=Hx (v:=v) h0 l (c.set p.1.toNat p.2) (fun q hq=>h q (aS _ hq));simp only[QM,List.foldl_cons]at this ⊢;rw[<-this,List.set_comm _ _ (by omega)]
theorem QxP{k v:Int}{l1 l2:bZ}(h0:0<=k)(h:∀p∈l1,p.1≠k/\0<=p.1)(c:bQ):QM (c.set k.toNat v) (l1++l2)=QM c (l1++(k,v)::l2):=by
 have e:=Hx (v:=v) h0 l1 c h;simp only[QM,List.foldl_append,List.foldl_cons]at e ⊢;rw[e]
open Go.Proofs
def tO:Nat->bQ
 |0=>(List.replicate 771 0).set 1 1
 |i+1=>(tO i).set (292+3*i) (-1)
theorem QxQ:∀i,(tO i).length=771
 |0=>by unfold tO;rw[bf,bt]
 |i+1=>by unfold tO;rw[bf];exact QxQ i
theorem QGp:tO 160=QK:=by kernel_rfl
theorem Wp:∃l,l=QK:=⟨QK,rfl⟩
def nC:bQ:=Classical.choose Wp
theorem Ht:nC=QK:=Classical.choose_spec Wp
theorem QGq{i:Nat}(h:i<160):dt 291 (i:Int) 1 160 3=292+3*i:=by
 unfold dt;rw[ax (by omega)];omega
structure Qo6 where
 i:Nat
 l:bQ
def PA(i:Nat)(l:bQ):bX:=[(1,.vs 0 771),(6,.int .i64 (i:Int))]
def Cw(i:Nat)(l:bQ):bP:=[.vec .int true l]
def QxR i l:=dQ cu B9 60 4 60 1 [1,6] [] [.slot 1 0] (PA i l) (Cw i l)
theorem QBW i l:QxR i l=(let Z0:Int:=(i:Int);let Z1:=Nat.beq 771 l.length;let Z2:Int:=dt 291 Z0 1 160 3;bif decide (Z0<160)then b7 (Z1&&dH Z2 (l.length:Int)) (b7 Z1 (some ((X.normal,[(1,D.vs 0 771),(6,cj (c6 (Z0+1)))]),[some (Obj.vec b9.int true (List.set l Z2.toNat (-1:Int)))])))else some ((X.exit 0,[]),[some (Obj.vec b9.int true l)])):=by kernel_rfl
def QkK(i:Nat)(l:bQ):RT RC:=.leaf (.exit 0) [] (Cw i nC)
def D9(i:Nat)(l:bQ):Prop:=i<=160/\l=tO i
def xS:QD RC Qo6 where
 k:=1
 cM q:=PA q.i q.l
 cK q:=Cw q.i q.l
 fin q:=QkK q.i q.l
 Inv q:=D9 q.i q.l
 μ q:=160-q.i
theorem Qmw i l(hI:D9 i l):c8 (QxR i l) (dj xS ⟨i,l⟩):=by
 (rw[QBW];delta b7 dH cj c6;conv=>zeta)
 unfold D9 at hI;obtain⟨h1,rfl⟩:=hI;have hl:=QxQ i
 by_cases cU:i<160
 ·have v1:=eG i (by omega)
  have v4:=QGq cU;have v5:(292+3*(i:Int)).toNat=292+3*i:=by omega
  have d1:decide ((i:Int)<160)=true:=ab (by omega);have d4:decide (0<=292+3*(i:Int)/\292+3*(i:Int)<((tO i).length:Int))=true:=ab ⟨by omega,by omega⟩;have d5:Nat.beq 771 (tO i).length=true:=Zp hl.symm;simp only[v1,v4,v5,d1,d4,d5,au,ag];exact Qi (S:=xS) (s:=⟨i,tO i⟩) ⟨i+1,tO (i+1)⟩ ⟨cU,rfl⟩ (by simp only[xS];omega) rfl rfl rfl
 ·have e:i=160:=by omega
  have d1:decide ((i:Int)<160)=false:=ad (by omega);rw[d1];simp only[ah];exact Qh (Cw i nC) rfl (by rw[e,QGp,<-Ht];rfl)
def PB(env:bX)(os:bP):Option (Bool×Qo6):=match env,os with
 |[(1,.vs 0 771),(6,.int .i64 x0)],[.vec .int true l]=>some (decide (x0=0)&&decide (l=tO 0),⟨0,l⟩)
 |_,_=>none
def Ca:=B9.cJ 60 4 (ey cu [.slot 1 0] [1,6] xS PB)
theorem QxS:Qk Tryz.prog cu Ca:=by
 refine QxM.cq Qb (by kernel_rfl) xS 60 [1,6] [] [.slot 1 0] [1,6] PB (fun q hI=>?_) ?_
 ·obtain⟨i,l⟩:=q;refine⟨?_,?_,Qmw i l hI⟩
  ·simp_all[Qj,xS,PA,Cw,D9,D.refs,Obj.refs,cV]
  ·simp_all[xS,QkK,Cw,D9,RT.cT,Qj,D.refs,Obj.refs,cV]
 ·intro env os b q cN hb;unfold PB at cN
  split at cN
  ·cases cN;simp only[ai,aa]at hb;obtain⟨e0,e1⟩:=hb;subst e0;exact⟨⟨aK _,e1⟩,rfl,rfl⟩
  ·cases cN
structure QxT where
 (q:Int)(c:Bool)(l:bJ)(m:bZ)(i:Nat)
def P6(q:Int)(c:Bool)(l:bJ)(m:bZ)(i:Nat):bX:=[(0,.int .i64 q),(7,.mp 0),(15,.sl (C:=RC) .line c l),(16,.int .i64 (l.length)),(17,.int .i64 (i:Int))]
def yi(q:Int)(c:Bool)(l:bJ)(m:bZ)(i:Nat):bP:=[.map .int .int m]
def Up q c l m i:=dQ cu Ca 58 3 40 1 [0,7,15,16,17] [] [.slot 7 0] (P6 q c l m i) (yi q c l m i)
theorem QGr q c l m i:Up q c l m i=(let Z0:Int:=(i:Int);let Z1:Int:=(l.length:Int);let Z2:cg:=List.getD l Z0.toNat (cg.mk 0 0 0 0 0);let Z3:=cg.offset Z2;bif decide (Z0<Z1)then b7 (dH Z0 Z1) (some ((X.normal,[(0,cj q),(7,D.mp 0),(15,D.sl b9.line c l),(16,cj Z1),(17,cj (c6 (Z0+1)))]),[some (Obj.map b9.int b9.int (g8 (VI cu b9.int) (dY 45 q 3) (c6 (Z3+1)) (g8 (VI cu b9.int) (da q Z3) (fx (cg.mk Z3 (cg.place Z2) (cg.j Z2) (cg.key Z2) (cg.value Z2))) m)))]))else some ((X.exit 0,[]),[some (Obj.map b9.int b9.int m)])):=by kernel_rfl
def Iq(q:Int)(c:Bool)(l:bJ)(m:bZ)(i:Nat):RT RC:=.leaf (.exit 0) [] (yi q c l (Yv q m (l.drop i)) i)
def Cj(q:Int)(c:Bool)(l:bJ)(m:bZ)(i:Nat):Prop:=i<=l.length/\l.length<=1000
def uZ:QD RC QxT where
 k:=1
 cM q:=P6 q.q q.c q.l q.m q.i
 cK q:=yi q.q q.c q.l q.m q.i
 fin q:=Iq q.q q.c q.l q.m q.i
 Inv q:=Cj q.q q.c q.l q.m q.i
 μ q:=q.l.length-q.i
theorem QrH q c l m i(hI:Cj q c l m i):c8 (Up q c l m i) (dj uZ ⟨q,c,l,m,i⟩):=by
 (rw[QGr];delta b7 dH cj c6;conv=>zeta)
 unfold Cj at hI;obtain⟨h1,h2⟩:=hI
 by_cases cU:i<l.length
 ·have cP:=eG i (by omega)
  have eu:=ga (show i<l.length by omega)
  have et:=fL (show i<l.length by omega)
  have dh:=bw i
  simp only[cP,eu,et,dh,ag];have hd:l.drop i=l.getD i ⟨0,0,0,0,0⟩::l.drop (i+1):=by rw[aJ cU];simp[cU]
  generalize l.getD i ⟨0,0,0,0,0⟩=x at *
  refine Qi (S:=uZ) ⟨q,c,l,fU (fU m (da q x.offset) (fx x)) (dY 45 q 3) (IntKind.i64.wrap (x.offset+1)),i+1⟩ (show Cj q c l (fU (fU m (da q x.offset) (fx x)) (dY 45 q 3) (IntKind.i64.wrap (x.offset+1))) (i+1)from⟨by omega,h2⟩) (by simp only[uZ];omega) ?_ rfl rfl;simp only[uZ,Iq,yi,hd,Yv,List.foldl_cons]
 ·have d1:decide ((i:Int)<l.length)=false:=by simp;omega
  rw[d1];simp only[ah];have e:l.drop i=[]:=aO (by omega);refine Qh (yi q c l m i) ?_ rfl;simp only[uZ,Iq,e,Yv,List.foldl_nil,RT.val]
def P7(env:bX)(os:bP):Option (Bool×QxT):=match env,os with
 |[(0,.int .i64 q),(7,.mp 0),(15,.sl .line c l),(16,.int .i64 x0),(17,.int .i64 x1)],[.map .int .int m]=>some (decide (x0=l.length)&&decide (x1=0)&&decide (l.length<=1000),⟨q,c,l,m,0⟩)
 |_,_=>none
def Cb:=Ca.cJ 58 3 (ey cu [.slot 7 0] [0,7,15,16,17] uZ P7)
theorem QxW:Qk Tryz.prog cu Cb:=by
 refine QxS.cq Qb (by kernel_rfl) uZ 40 [0,7,15,16,17] [] [.slot 7 0] [0,7,15,16,17] P7 (fun q hI=>?_) ?_
 ·obtain⟨q,c,l,m,i⟩:=q;refine⟨?_,?_,QrH q c l m i hI⟩
  ·simp_all[Qj,uZ,P6,yi,Cj,D.refs,Obj.refs,cV]
  ·simp_all[uZ,Iq,yi,Cj,RT.cT,Qj,D.refs,Obj.refs,cV]
 ·intro env os b q cN hb;unfold P7 at cN
  split at cN
  ·cases cN;simp only[ai,aa]at hb;obtain⟨⟨rfl,rfl⟩,h1⟩:=hb;exact⟨⟨aK _,h1⟩,rfl,rfl⟩
  ·cases cN
open Go.Proofs
def xG:Code->Option (Code×Code)
 |.rangeFunc _ _ a b=>some (a,b)
 |.seq a b=>(match xG a with|some x=>some x|none=>xG b)
 |.cond _ a b=>(match xG a with|some x=>some x|none=>xG b)
 |.block _ b=>xG b
 |.loop b=>xG b
 |.scope b=>xG b
 |_=>none
def LV(f:Nat):Code×Code:=match p0.fn f with
 |some fn=>(match fn.body with
  |some b=>(match xG b with|some x=>x|none=>(.skip,.skip))
  |none=>(.skip,.skip))
 |none=>(.skip,.skip)
def mC:Code:=(LV 61).1
def mD:Code:=(LV 61).2
def nW(c w d kk:Int)(ci:Bool)(l:bM)(m:bZ)(n:Int)(dn:Bool):bP:=[.var 3 (.int .i64 n),.var 29 (.sl (C:=RC) .item ci l),.var 100 (.mp 3),.map .int .int m,.dG (.lp false dn 0),.var 26 (cH c (cH w (cH d (cH kk .bN))))]
structure QxX where
 (c w d kk:Int)(ci:Bool)(l:bM)(m:bZ)(n k:Int)(j:Nat)
def P8(c w d kk:Int)(ci:Bool)(l:bM)(m:bZ)(n k:Int)(j:Nat):bX:=[(0,.yl 60 [6,5,3] [16] (mC) (mD) (.bI (.ptr 0 []) (.bI (.ptr 2 []) (.bI (.ptr 1 []) .bN))) 4),(1,.ptr 5 []),(3,.int .i64 k),(13,.int .i64 (c:Int)),(14,.int .i64 (j:Int))]
def La(c w d kk:Int)(ci:Bool)(l:bM)(m:bZ)(n k:Int)(j:Nat):bP:=[.var 3 (.int .i64 n),.var 29 (.sl (C:=RC) .item ci l),.var 100 (.mp 3),.map .int .int m,.dG (.lp false false 0),.var 26 (cH c (cH w (cH d (cH kk .bN))))]
def Uq c w d kk ci l m n k j:=dQ cu Cb 169 4 120 6 [0,1,3,13,14] [] [.slot 0 0,.slot 0 2,.slot 0 1,.path 2 [],.slot 0 3,.slot 1 0] (P8 c w d kk ci l m n k j) (La c w d kk ci l m n k j)
theorem QGs c w d kk ci l m n k j:Uq c w d kk ci l m n k j=(let Z0:Int:=(j:Int);let Z1:Int:=(l.length:Int);let Z2:cf:=some (Obj.var 3 (cj n));let Z3:cf:=some (Obj.var 29 (D.sl b9.item ci l));let Z4:cf:=some (Obj.var 100 (D.mp 3));let Z5:cf:=some (Obj.map b9.int b9.int m);let Z6:cb:=[some (Obj.var 26 (.bI (cj c) (.bI (cj w) (.bI (cj d) (.bI (cj kk) .bN)))))];let Z7:=c6 (Prod.fst (pE c w d kk Z0 true)+k);let Z8:X×bX:=(X.normal,[(0,D.yl 60 [(6:Nat),(5:Nat),(3:Nat)] [(16:Nat)] mC mD (D.bI (D.ptr 0 []) (.bI (D.ptr 2 []) (.bI (D.ptr 1 []) .bN))) 4),(1,D.ptr 5 []),(3,cj k),(13,cj c),(14,cj (c6 (Z0+1)))]);let Z9:cf:=some (Obj.var 3 (cj (c6 (n+1))));let db:Item:=List.getD l n.toNat (Item.mk 0 0 0);let dB:Int:=dY 21 (Item.key db) 24;let eo:bZ:=g8 (VI cu b9.int) (dt 291 Z7 2 160 3) (c6 (c6 (Item.key db*256)+Item.value db)) (g8 (VI cu b9.int) (dt 291 Z7 1 160 3) 0 (g8 (VI cu b9.int) (dt 291 Z7 0 160 3) 3 m));let fa:cb:=some (Obj.dG (ru.lp false false 0))::Z6;let fM:mL:=some (Z8,Z9::Z3::Z4::some (Obj.map b9.int b9.int (g8 (VI cu b9.int) dB (iN (Item.place db) 0) eo))::fa);bif decide (Z0<c)then b7 (Qd l.length) (bif n==Z1 then some ((X.ret,[]),Z2::Z3::Z4::Z5::some (Obj.dG (ru.lp false true 0))::Z6)else b7 (dH n Z1) (bif decide (Z7<0)then fM else bif decide ((256:Int)<=Z7)then fM else some (Z8,Z9::Z3::Z4::some (Obj.map b9.int b9.int (g8 (VI cu b9.int) dB (iN (Item.place db) (bits .i64 (fun(x:Nat) (u v:BitVec x)=>u|||v) 256 Z7)) eo))::fa)))else some ((X.exit 2,[]),Z2::Z3::Z4::Z5::fa)):=by kernel_rfl
def Ee(c w d kk:Int)(ci:Bool)(l:bM)(m:bZ)(n k:Int)(j:Nat):RT RC:=.br (decide ((l.length:Int)-n<c-j)) (.leaf .ret [] (nW c w d kk ci l (Q6 c kk n.toNat (l.drop n.toNat) m) l.length true)) (.leaf (.exit 2) [] (nW c w d kk ci l (Q6 c kk n.toNat ((l.drop n.toNat).take (c-j).toNat) m) (n+(c-j)) false))
def Ef(c w d kk:Int)(ci:Bool)(l:bM)(m:bZ)(n k:Int)(j:Nat):Prop:=Yj c w d kk=true/\0<=k/\k<kk/\(j:Int)<=c/\n=k*c+j/\n<=l.length/\l.length<=1000/\yh l=true
def uu:QD RC QxX where
 k:=6
 cM q:=P8 q.c q.w q.d q.kk q.ci q.l q.m q.n q.k q.j
 cK q:=La q.c q.w q.d q.kk q.ci q.l q.m q.n q.k q.j
 fin q:=Ee q.c q.w q.d q.kk q.ci q.l q.m q.n q.k q.j
 Inv q:=Ef q.c q.w q.d q.kk q.ci q.l q.m q.n q.k q.j
 μ q:=(q.c-q.j).toNat
theorem QrI c w d kk ci l m n k j(hI:Ef c w d kk ci l m n k j):c8 (Uq c w d kk ci l m n k j) (dj uu ⟨c,w,d,kk,ci,l,m,n,k,j⟩):=by
 (rw[QGs];delta b7 dH cj c6;conv=>zeta)
 unfold Ef at hI;obtain⟨ok,k0,k1,j1,hn,n1,l1,ib⟩:=hI;obtain⟨c1,c4,_,_,_,_,q4,p8⟩:=Ji ok;have lk:Qd l.length=true:=Qe (by omega);have kc0:0<=k*c:=Int.mul_nonneg k0 (by omega)
 by_cases hj:(j:Int)<c
 ·rw[ab hj];simp only[lk,ag]
  by_cases he:n=l.length
  ·have hb:(n==(l.length:Int))=true:=by simpa using he
   have e0:l.drop n.toNat=[]:=aO (by omega);rw[hb];simp only[ag];refine QW (nW c w d kk ci l m n true) ?_ rfl;have d1:decide ((l.length:Int)-n<c-j)=true:=by simp;omega
   simp only[uu,Ee,RT.val,d1,ag,e0,Q6];rw[<-he]
  ·have hb:(n==(l.length:Int))=false:=by simpa using he
   have d2:decide (0<=n/\n<(l.length:Int))=true:=by simp;omega
   have own:=QId ok (Int.natCast_nonneg j) hj;have p0:0<=(j:Int)*kk:=Int.mul_nonneg (by omega) (by omega);have p1:(j:Int)*kk<=3*40:=Int.mul_le_mul (by omega) (by omega) (by omega) (by omega);have w1:IntKind.i64.wrap ((j:Int)*kk+k)=(j:Int)*kk+k:=cC (by omega) (by omega);have w2:IntKind.i64.wrap (n+1)=n+1:=cC (by omega) (by omega);have w3:=eG j (by omega)
   have d3:decide ((j:Int)*kk+k<0)=false:=by simp;omega
   have d4:decide (256<=(j:Int)*kk+k)=false:=by simp;omega
   have o1:=QI2 (s:=(j:Int)*kk+k) (by omega) (by omega);have hd:l.drop n.toNat=l.getD n.toNat ⟨0,0,0⟩::l.drop (n.toNat+1):=by rw[aJ (by omega)];simp[show n.toNat<l.length by omega]
   simp only[hb,d2,own,w1,w2,w3,d3,d4,o1,ag,ah];generalize l.getD n.toNat ⟨0,0,0⟩=x at *;have hh:Jy c kk (n.toNat:Int)=(j:Int)*kk+k:=by rw[Int.toNat_of_nonneg (by omega),hn];exact QxO (Int.natCast_nonneg j) hj
   refine Qi (S:=uu) ⟨c,w,d,kk,ci,l,vj m ((j:Int)*kk+k) x,n+1,k,j+1⟩ (show Ef c w d kk ci l (vj m ((j:Int)*kk+k) x) (n+1) k (j+1)from⟨ok,k0,k1,by omega,by omega,by omega,l1,ib⟩) (by simp only[uu];omega) ?_ rfl rfl;have n1:(n+1).toNat=n.toNat+1:=by omega
   have n2:(c-(j:Int)).toNat=(c-((j+1:Nat):Int)).toNat+1:=by omega
   have n3:n+1+(c-((j+1:Nat):Int))=n+(c-j):=by omega
   have n4:decide ((l.length:Int)-(n+1)<c-((j+1:Nat):Int))=decide ((l.length:Int)-n<c-j):=decide_eq_decide.2 (by omega);simp only[uu,Ee,hd,n1,n2,n3,n4,List.take_succ_cons,Q6,hh]
 ·have d0:decide ((j:Int)<c)=false:=by simpa using hj
  rw[d0];simp only[ah];have e1:c-(j:Int)=0:=by omega
  have d1:decide ((l.length:Int)-n<0)=false:=by simp;omega
  refine Qh (nW c w d kk ci l m n false) ?_ rfl;simp only[uu,Ee,RT.val,e1,d1,ah,Int.toNat_zero,List.take_zero,Q6,Int.add_zero]
def P9(env:bX)(os:bP):Option (Bool×QxX):=match env,os with
 |[(0,.yl 60 [6,5,3] [16] x0 x1 (.bI (.ptr 0 []) (.bI (.ptr 2 []) (.bI (.ptr 1 []) .bN))) 4),(1,.ptr 5 []),(3,.int .i64 k),(13,.int .i64 x2),(14,.int .i64 x3)],[.var 3 (.int .i64 n),.var 29 (.sl .item ci l),.var 100 (.mp 3),.map .int .int m,.dG (.lp false false 0),.var 26 (.bI (.int .i64 c) (.bI (.int .i64 w) (.bI (.int .i64 d) (.bI (.int .i64 kk) .bN))))]=>some (dO (x0=mC)&&dO (x1=mD)&&decide (x2=c)&&decide (x3=0)&&Yj c w d kk&&decide (0<=k/\k<kk/\n=k*c/\n<=l.length/\l.length<=1000)&&yh l,⟨c,w,d,kk,ci,l,m,n,k,0⟩)
 |_,_=>none
def Cc:=Cb.cJ 169 4 (ey cu [.slot 0 0,.slot 0 2,.slot 0 1,.path 2 [],.slot 0 3,.slot 1 0] [0,1,3,13,14] uu P9)
theorem Qx0:Qk Tryz.prog cu Cc:=by
 refine QxW.cq Qb (by kernel_rfl) uu 120 [0,1,3,13,14] [] [.slot 0 0,.slot 0 2,.slot 0 1,.path 2 [],.slot 0 3,.slot 1 0] [0,1,3,13,14] P9 (fun q hI=>?_) ?_
 ·obtain⟨c,w,d,kk,ci,l,m,n,k,j⟩:=q;refine⟨?_,?_,QrI c w d kk ci l m n k j hI⟩
  ·simp_all[Qj,uu,P8,La,Ef,D.refs,Obj.refs,cV]
  ·simp[uu,Ee,La,nW,RT.cT,Qj,D.refs,Obj.refs]
 ·intro env os b q cN hb;unfold P9 at cN
  split at cN
  ·cases cN;simp only[ai,aa]at hb;obtain⟨⟨⟨⟨⟨⟨e0,e1⟩,e2⟩,e3⟩,ok⟩,h1,h2,h3,h4,h5⟩,ib⟩:=hb;have e0:=Q9.1 e0;have e1:=Q9.1 e1;subst e0;subst e1;subst e2;subst e3;obtain⟨c1,_⟩:=Ji ok;exact⟨⟨ok,h1,h2,Int.le_trans (show((0:Nat):Int)<=1 by decide) c1,by rw[h3];simp,h4,h5,ib⟩,rfl,rfl⟩
  ·cases cN
structure Qo8 where
 (c w d kk:Int)(ci:Bool)(l:bM)(m:bZ)(n:Int)(k:Nat)
def PC(c w d kk:Int)(ci:Bool)(l:bM)(m:bZ)(n:Int)(k:Nat):bX:=[(0,.yl 60 [6,5,3] [16] (mC) (mD) (.bI (.ptr 0 []) (.bI (.ptr 2 []) (.bI (.ptr 1 []) .bN))) 4),(1,.ptr 5 []),(8,.int .i64 (kk:Int)),(9,.int .i64 (k:Int))]
def IZ(c w d kk:Int)(ci:Bool)(l:bM)(m:bZ)(n:Int)(k:Nat):bP:=[.var 3 (.int .i64 n),.var 29 (.sl (C:=RC) .item ci l),.var 100 (.mp 3),.map .int .int m,.dG (.lp false false 0),.var 26 (cH c (cH w (cH d (cH kk .bN))))]
def Qx1 c w d kk ci l m n k:=dQ cu Cc 169 1 120 6 [0,1,8,9] [] [.slot 0 0,.slot 0 2,.slot 0 1,.path 2 [],.slot 0 3,.slot 1 0] (PC c w d kk ci l m n k) (IZ c w d kk ci l m n k)
theorem QBX c w d kk ci l m n k:Qx1 c w d kk ci l m n k=(let Z0:Int:=(k:Int);let Z1:Int:=(l.length:Int);let Z2:Int:=c-0;let Z3:cf:=some (Obj.var 29 (D.sl b9.item ci l));let Z4:cf:=some (Obj.var 100 (D.mp 3));let Z5:=Int.toNat n;let Z6:cb:=[some (Obj.var 26 (.bI (cj c) (.bI (cj w) (.bI (cj d) (.bI (cj kk) .bN)))))];let Z7:cb:=some (Obj.dG (ru.lp false false 0))::Z6;bif decide (Z0<kk)then b7 (dO (mC=mC)&&dO (mD=mD)&&decide (c=c)&&true&&Yj c w d kk&&decide ((0:Int)<=Z0/\Z0<kk/\n=Z0*c/\n<=Z1/\l.length<=1000)&&yh l) (bif decide (Z1-n<Z2)then some ((X.ret,[]),some (Obj.var 3 (cj Z1))::Z3::Z4::some (Obj.map b9.int b9.int (Q6 c kk Z5 (List.drop Z5 l) m))::some (Obj.dG (ru.lp false true 0))::Z6)else some ((X.normal,[(0,D.yl 60 [(6:Nat),(5:Nat),(3:Nat)] [(16:Nat)] mC mD (D.bI (D.ptr 0 []) (.bI (D.ptr 2 []) (.bI (D.ptr 1 []) .bN))) 4),(1,D.ptr 5 []),(8,cj kk),(9,cj (c6 (Z0+1)))]),some (Obj.var 3 (cj (n+Z2)))::Z3::Z4::some (Obj.map b9.int b9.int (Q6 c kk Z5 (List.take Z2.toNat (List.drop Z5 l)) m))::Z7))else some ((X.exit 0,[]),some (Obj.var 3 (cj n))::Z3::Z4::some (Obj.map b9.int b9.int m)::Z7)):=by kernel_rfl
def DE(c w d kk:Int)(ci:Bool)(l:bM)(m:bZ)(n:Int)(k:Nat):RT RC:=.br (decide ((l.length:Int)<kk*c)) (.leaf .ret [] (nW c w d kk ci l (Q6 c kk n.toNat (l.drop n.toNat) m) l.length true)) (.leaf (.exit 0) [] (nW c w d kk ci l (Q6 c kk n.toNat ((l.drop n.toNat).take (kk*c-n).toNat) m) (kk*c) false))
def DF(c w d kk:Int)(ci:Bool)(l:bM)(m:bZ)(n:Int)(k:Nat):Prop:=Yj c w d kk=true/\(k:Int)<=kk/\n=k*c/\n<=l.length/\l.length<=1000/\yh l=true
def JK:QD RC Qo8 where
 k:=6
 cM q:=PC q.c q.w q.d q.kk q.ci q.l q.m q.n q.k
 cK q:=IZ q.c q.w q.d q.kk q.ci q.l q.m q.n q.k
 fin q:=DE q.c q.w q.d q.kk q.ci q.l q.m q.n q.k
 Inv q:=DF q.c q.w q.d q.kk q.ci q.l q.m q.n q.k
 μ q:=(q.kk-q.k).toNat
theorem Qmz c w d kk ci l m n k(hI:DF c w d kk ci l m n k):c8 (Qx1 c w d kk ci l m n k) (dj JK ⟨c,w,d,kk,ci,l,m,n,k⟩):=by
 (rw[QBX];delta b7 cj c6;conv=>zeta)
 unfold DF at hI;obtain⟨ok,k1,hn,n1,l1,ib⟩:=hI;obtain⟨c1,c4,_,_,_,_,q4,p8⟩:=Ji ok;have kc0:0<=(k:Int)*c:=Int.mul_nonneg (by omega) (by omega)
 by_cases hk:(k:Int)<kk
 ·have p1:((k:Int)+1)*c<=kk*c:=Int.mul_le_mul_of_nonneg_right (by omega) (by omega);have p2:=Int.add_mul (k:Int) 1 c;have q1:dO (mC=mC)=true:=Q1 rfl;have q2:dO (mD=mD)=true:=Q1 rfl;have q3:decide (0<=(k:Int)/\(k:Int)<kk/\n=(k:Int)*c/\n<=(l.length:Int)/\l.length<=1000)=true:=ab ⟨by omega,hk,hn,n1,l1⟩;have q5:decide (c=c)=true:=by simp
  have w3:=eG k (by omega)
  rw[ab hk];simp only[q3,ok,ib,w3,Q1 trivial,aM,au,ag,Int.sub_zero]
  by_cases hr:(l.length:Int)-n<c
  ·rw[ab hr];simp only[ag];have d1:decide ((l.length:Int)<kk*c)=true:=by simp;omega
   refine QW (nW c w d kk ci l (Q6 c kk n.toNat (l.drop n.toNat) m) l.length true) ?_ rfl;simp only[JK,DE,RT.val,d1,ag]
  ·rw[ad hr];simp only[ah];have e1:(n+c).toNat=n.toNat+c.toNat:=by omega
   have e2:(kk*c-n).toNat=c.toNat+(kk*c-(n+c)).toNat:=by omega
   have e3:((k+1:Nat):Int)*c=(k:Int)*c+c:=by rw[show((k+1:Nat):Int)=(k:Int)+1 by simp,p2];omega
   refine Qi (S:=JK) (s:=⟨c,w,d,kk,ci,l,m,n,k⟩) ⟨c,w,d,kk,ci,l,Q6 c kk n.toNat ((l.drop n.toNat).take c.toNat) m,n+c,k+1⟩ (show DF c w d kk ci l (Q6 c kk n.toNat ((l.drop n.toNat).take c.toNat) m) (n+c) (k+1)from⟨ok,by omega,by rw[e3];omega,by omega,l1,ib⟩) (by simp only[JK];omega) ?_ rfl rfl;simp only[JK,DE,e1,e2,Qmt (show n.toNat+c.toNat<=l.length by omega),Qmu (show n.toNat+c.toNat<=l.length by omega)]
 ·have hkk:(k:Int)=kk:=by omega
  have d0:decide ((k:Int)<kk)=false:=by simpa using hk
  rw[d0];simp only[ah];have e0:kk*c=n:=by rw[hn,hkk]
  have d1:decide ((l.length:Int)<n)=false:=by simp;omega
  refine Qh (nW c w d kk ci l m n false) ?_ rfl;simp only[JK,DE,RT.val,e0,d1,ah,Int.sub_self,Int.toNat_zero,List.take_zero,Q6]
def Pd(env:bX)(os:bP):Option (Bool×Qo8):=match env,os with
 |[(0,.yl 60 [6,5,3] [16] x0 x1 (.bI (.ptr 0 []) (.bI (.ptr 2 []) (.bI (.ptr 1 []) .bN))) 4),(1,.ptr 5 []),(8,.int .i64 x2),(9,.int .i64 x3)],[.var 3 (.int .i64 n),.var 29 (.sl .item ci l),.var 100 (.mp 3),.map .int .int m,.dG (.lp false false 0),.var 26 (.bI (.int .i64 c) (.bI (.int .i64 w) (.bI (.int .i64 d) (.bI (.int .i64 kk) .bN))))]=>some (dO (x0=mC)&&dO (x1=mD)&&decide (x2=kk)&&decide (x3=0)&&Yj c w d kk&&decide (n=0/\l.length<=1000)&&yh l,⟨c,w,d,kk,ci,l,m,n,0⟩)
 |_,_=>none
def wA:=Cc.cJ 169 1 (ey cu [.slot 0 0,.slot 0 2,.slot 0 1,.path 2 [],.slot 0 3,.slot 1 0] [0,1,8,9] JK Pd)
theorem Qx2:Qk Tryz.prog cu wA:=by
 refine Qx0.cq Qb (by kernel_rfl) JK 120 [0,1,8,9] [] [.slot 0 0,.slot 0 2,.slot 0 1,.path 2 [],.slot 0 3,.slot 1 0] [0,1,8,9] Pd (fun q hI=>?_) ?_
 ·obtain⟨c,w,d,kk,ci,l,m,n,k⟩:=q;refine⟨?_,?_,Qmz c w d kk ci l m n k hI⟩
  ·simp_all[Qj,JK,PC,IZ,DF,D.refs,Obj.refs,cV]
  ·simp[JK,DE,IZ,nW,RT.cT,Qj,D.refs,Obj.refs]
 ·intro env os b q cN hb;unfold Pd at cN
  split at cN
  ·cases cN;simp only[ai,aa]at hb;obtain⟨⟨⟨⟨⟨⟨e0,e1⟩,e2⟩,e3⟩,ok⟩,h1,h2⟩,ib⟩:=hb;have e0:=Q9.1 e0;have e1:=Q9.1 e1;subst e0;subst e1;subst e2;subst e3;subst h1;obtain⟨_,_,_,_,_,_,q4,_⟩:=Ji ok;exact⟨⟨ok,Int.le_trans (show((0:Nat):Int)<=4 by decide) q4,by simp,Int.natCast_nonneg _,h2,ib⟩,rfl,rfl⟩
  ·cases cN
section
variable {C:gR}{P:Program}{T:fh C}{Φ:iR C}
open Pg (Ex)
open Go.ChangeMaps (setBlock)
theorem YF.split{X:Cx}{ck cv:C.Ty}{e:MapEntry}:∀{F1 F2:dF} {l:List (C.A ck×C.A cv)},YF T X ck cv l (F1++e::F2) ->
 ∃l1 x l2,l=l1++x::l2/\R T X false (T.enc ck x.1) [e.key]/\RV T X (T.enc cv x.2) e.val/\YF T X ck cv (l1++l2) (F1++F2)
 |[],F2,l,h=>by
  cases h with
  |cons hk hv h=>exact⟨[],_,_,rfl,hk,hv,h⟩
 |f::F1,F2,l,h=>by
  cases h with
  |cons hk hv h=>
   obtain⟨l1,x,l2,rfl,q1,q2,q3⟩:=YF.split h;exact⟨_::l1,x,l2,rfl,q1,q2,.cons hk hv q3⟩
theorem QmB{es:dF}{seen:Array Nat}{e:MapEntry}{F1 F2:dF}(hn:(es.map (·.born)).Nodup)(h:(es.filter fun x=>!seen.contains x.born)=F1++e::F2) :
 (es.filter fun x=>!(seen.push e.born).contains x.born)=F1++F2:=by
 have e1:(es.filter fun x=>!(seen.push e.born).contains x.born)=(es.filter fun x=>!seen.contains x.born).filter fun x=>!(x.born==e.born):=by
  rw[List.filter_filter]
  congr 1
  funext x
  rw[contains_push];cases seen.contains x.born<;>simp
 have na:((F1++e::F2).map (·.born)).Nodup:=by
  rw[<-h];exact hn.sublist (List.Sublist.map _ List.filter_sublist)
 rw[e1,h];rw[List.map_append,List.nodup_append,List.map_cons,List.nodup_cons]at na;obtain⟨_,⟨h2,_⟩,h3⟩:=na;have iC:∀F:dF,(∀x∈F,x.born≠e.born)->F.filter (fun x=>!(x.born==e.born))=F:=fun F hF=>List.filter_eq_self.2 fun x hx=>by simp[hF x hx]
 rw[List.filter_append,List.filter_cons_of_neg (by simp)];rw[iC F1 fun x hx=>h3 _ (List.mem_map.2 ⟨x,hx,rfl⟩) _ (by simp),iC F2 fun x hx e2=>h2 (List.mem_map.2 ⟨x,hx,e2⟩)]
theorem wj(K:Zo P T){X:Cx}{h:Heap C}{nx id:Nat}{lim:ek}(g:G T X h nx lim){ck cv:C.Ty}{l:List (C.A ck×C.A cv)}{vi:Value}(ho:h.get id=some (.dG (.it ck cv l)))(hr:R T X false (.jN id) [vi])(ty:TypeId) :
 (l=[]/\(Instr.next vi false ty).run P X.w=.ok (.tuple #[.bool false]) X.w) \/
 ∃l1 x l2 key val X',l=l1++x::l2/\(Instr.next vi false ty).run P X.w=.ok (.tuple #[.bool true,key,val]) X'.w/\G T X' (h.put id (.dG (.it ck cv (l1++l2)))) nx lim/\Step X nx lim X' /\
  (Instr.entry vi).run P X'.w=.ok (.tuple #[key,val]) X'.w/\R T X' false (T.enc ck x.1) [key]/\RV T X' (T.enc cv x.2) val:=by
 obtain⟨s,e1,e2⟩:=g.dG id _ ho;cases hr with
 | @jN _ r LJ=>
  obtain⟨bm,rfl⟩:=LJ s e1;obtain⟨fg,es,since,seen,clock,hb,hrr,hE,xj,hsc,ll⟩:=e2;rcases run_next_at (P:=P) X.w ty r bm since clock seen es clock hrr hb xj hsc with⟨h0,eB⟩|⟨e,he,w1,Db,eB⟩
  ·refine .inl ⟨?_,eB⟩
   have hz:(es.toList.filter fun e=>!seen.contains e.born)=[]:=by
    have:(leftOf es seen).toList=[]:=by
     have:=Array.eq_empty_of_size_eq_zero h0;rw[this]
    rw[<-this];simp[leftOf]
   rw[hz]at hE;cases hE;rfl
  ·have R3:e∈es.toList.filter fun e=>!seen.contains e.born:=by simpa[leftOf]using he
   have hem:e∈es.toList:=(mem_left he).1;obtain⟨F1,F2,hF⟩:=List.append_of_mem R3;rw[hF]at hE;obtain⟨l1,x,l2,rfl,q1,q2,q3⟩:=hE.split;have R7:=QmB ll hF
   have pC:w1.heap=X.w.heap/\w1.os=X.w.os/\w1.tape=X.w.tape/\w1.output=X.w.output:=by
    rcases Db with rfl|rfl<;>exact⟨rfl,rfl,rfl,rfl⟩
   obtain⟨g1,s1⟩:=G.world K.base g w1 pC.1 pC.2.1 pC.2.2.1 pC.2.2.2;have fZ:(⟨w1,X.ρ,X.O⟩:Cx).w.heap[r]? = some (.mapIter (some bm) since seen clock):=by rw[show(⟨w1,X.ρ,X.O⟩:Cx).w=w1 from rfl,pC.1];exact hrr
   have SD:r<w1.heap.size:=(aI.1 fZ).1
   have to:∀(w2:World),w2=setBlock w1 r (.mapIter (some bm) since (seen.push e.born) clock)->w2.heap[bm]? = some (.map es clock)/\w2.heap[r]? = some (.mapIter (some bm) since (seen.push e.born) clock):=by
    rintro w2 rfl
    constructor
    ·show(w1.heap.setIfInBounds r _)[bm]? = _;rw[Array.getElem?_setIfInBounds_ne (Ne.symm fg),pC.1];exact hb
    ·show(w1.heap.setIfInBounds r _)[r]? = _;simp[SD]
   obtain⟨X',w',_,g',s'⟩:=G.Hc K.base (c2:=.it ck cv (l1++l2)) (ob:=.mapIter (some bm) since (seen.push e.born) clock) g1 ho e1 fZ (fun _ _ _ h=>by cases h) (fun _ _ _ h=>by cases h) (fun X' hw hs=>by
    obtain⟨o1,o2⟩:=to X'.w hw;refine⟨fg,es,since,_,clock,o1,o2,?_,xj,hsc,ll⟩;rw[R7];exact q3.step K.base (s1.trans hs (aq _)))
   have st:=s1.trans s' (aq _);obtain⟨o1,o2⟩:=to X'.w w';refine .inr ⟨l1,x,l2,e.key,e.val,X',rfl,by rw[eB,w'];rfl,g',st,run_entry_at X'.w r bm since seen es clock e o2 o1 hem ll,q1.step K.base st (by simp[K.base.fv]),q2.mono T K.base.gX st.keeps fun i hi=>by simp[K.base.fv]at hi⟩
structure wZ where
 (it tn tc ex te tk tv:Nat)(o2:cO)(more:fQ)(rest:Code)
def vl(b:Code):Option wZ :=
 match b with
 |.seq (.region _ o1 false) (.seq (.cond (.tmp tc) .skip (.exit ex)) (.block _ (.seq (.region _ o2 false) rest)))=>(match o1.toList,o2.toList with
  |[n,x],e::k::v::more=>(match n.op,n.dst,n.guard,x.op,x.dst,x.guard with
   |.next (.tmp it) false,some tn,none,.extract (.tmp LW) 0,some tc',none=>(match e.op,e.dst,e.guard,k.op,k.dst,k.guard with
    |.entry (.tmp it'),some te,none,.extract (.tmp te') 0,some tk,none=>(match v.op,v.dst,v.guard with
     |.extract (.tmp te2) 1,some tv,none=>
      bif(Nat.beq tn LW&&Nat.beq tc tc'&&Nat.beq it it'&&Nat.beq te te'&&Nat.beq te te2)&&(!Nat.beq it tn && !Nat.beq it tc && !Nat.beq te tk && !Nat.beq tn tc && !Nat.beq tk tv)then some ⟨it,tn,tc,ex,te,tk,tv,o2,more,rest⟩else none
     |_,_,_=>none)
    |_,_,_,_,_,_=>none)
   |_,_,_,_,_,_=>none)
  |_,_=>none)
 |_=>none
structure C0(C:gR)(ck cv:C.Ty)(σ:Type) where
 (k it:Nat)(cM:σ->Env C)(cK:σ->List (C.A ck×C.A cv)->List (Obj C))(fin:σ->List (C.A ck×C.A cv)->Env C)(eZ:σ->List (C.A ck×C.A cv)->List (Obj C))(Inv:σ->List (C.A ck×C.A cv)->Prop)
def Ur(T:fh C)(Φ:iR C)(g:FuncId)(m:wZ){ck cv:C.Ty}{σ:Type}(S:C0 C ck cv σ):Prop :=
 ∀s l,S.Inv s l->Qj S.k (S.cM s) (S.cK s l)/\Qj S.k (S.fin s l) (S.eZ s l)/\(S.cK s l)[S.it]? = some (.dG (.it ck cv l))/\cR (S.cM s) m.it=.jN S.it/\(∀l',S.cK s l'=(S.cK s l).set S.it (.dG (.it ck cv l'))) /\
  (l=[]->(∀p∈S.fin s l,cR (S.cM s) p.1=p.2/\p.1≠m.tn/\p.1≠m.tc)/\S.eZ s l=S.cK s l) /\
  ∀l1 x l2,l=l1++x::l2->∃n cZ h' cF tr s',Ex (0,0) (.bind (qT T (uB T Φ (jE T Φ n)) m.o2 m.more ((m.tv,T.enc cv x.2)::(m.tk,T.enc ck x.1)::(m.te,.top)::(m.tc,.bool true)::(m.tn,.top)::S.cM s)) fun env=>jE T Φ n g m.rest env) (gO 0 (S.cK s (l1++l2))) S.k (.normal,cZ) h' cF tr /\
   S.Inv s' (l1++l2)/\S.fin s' (l1++l2)=S.fin s l/\S.eZ s' (l1++l2)=S.eZ s l/\Sub cZ (S.cM s')/\∀j,j<S.k->h'.get j=(S.cK s' (l1++l2))[j]?
theorem QrK{b:Code}{m:wZ}(h:vl b=some m):∃r1 o1 bl r2 n x e k v,b=.seq (.region r1 o1 false) (.seq (.cond (.tmp m.tc) .skip (.exit m.ex)) (.block bl (.seq (.region r2 m.o2 false) m.rest)))/\o1.toList=[n,x]/\m.o2.toList=e::k::v::m.more /\
 n.op=.next (.tmp m.it) false/\n.dst=some m.tn/\n.guard=none/\x.op=.extract (.tmp m.tn) 0/\x.dst=some m.tc/\x.guard=none/\e.op=.entry (.tmp m.it)/\e.dst=some m.te/\e.guard=none/\k.op=.extract (.tmp m.te) 0/\k.dst=some m.tk/\k.guard=none /\
 v.op=.extract (.tmp m.te) 1/\v.dst=some m.tv/\v.guard=none/\m.it≠m.tn/\m.it≠m.tc/\m.te≠m.tk/\m.tn≠m.tc/\m.tk≠m.tv:=by
 unfold vl at h
 split at h
 ·rename_i r1 o1 tc ex bl r2 o2 rest
  split at h
  ·rename_i n x e k v more h1 h2
   split at h
   ·rename_i it tn LW tc' q1 q2 q3 q4 q5 q6
    split at h
    ·rename_i it' te te' tk p1 p2 p3 p4 p5 p6
     split at h
     ·rename_i te2 tv w1 w2 w3
      have key:∀(c:Bool) (y:wZ),(bif c then some y else none)=some m->c=true/\y=m:=by
       intro c y hh;cases c
       ·cases hh
       ·exact⟨rfl,aj hh⟩
      obtain⟨hc,rfl⟩:=key _ _ h;simp only[ai,Nat.beq_eq,Bool.not_eq_true']at hc;obtain⟨⟨⟨⟨⟨rfl,rfl⟩,rfl⟩,rfl⟩,rfl⟩,⟨⟨⟨c1,c2⟩,c3⟩,c4⟩,c5⟩:=hc;exact⟨r1,o1,bl,r2,n,x,e,k,v,rfl,h1,h2,q1,q2,q3,q4,q5,q6,p1,p2,p3,p4,p5,p6,w1,w2,w3,Nat.ne_of_beq_eq_false c1,Nat.ne_of_beq_eq_false c2,Nat.ne_of_beq_eq_false c3,Nat.ne_of_beq_eq_false c4,Nat.ne_of_beq_eq_false c5⟩
     ·cases h
    ·cases h
   ·cases h
  ·cases h
 ·cases h
theorem E9{a:Act}{d t:Nat}{v:Value}(h:t≠d):(a.put (some d) v).tmps.getD t undef=a.tmps.getD t undef:=by
 simp[Act.put,Array.getD_eq_getD_getElem?,Array.getElem?_setIfInBounds_ne (Ne.symm h)]
theorem Lb{a:Act}{d:Nat}{v:Value}(h:d<a.tmps.size):(a.put (some d) v).eval (.tmp d)=v:=by
 simp[Act.eval,Act.put,h]
theorem QrL(K:Zo P T)(F:Qk P T Φ){g:FuncId}{fn:Func}{body b:Code}{m:wZ}{ck cv:C.Ty}{σ:Type}{S:C0 C ck cv σ}(hm:vl b=some m)(nL:∀x,(T.enc ck x).de=false)(hr:Ur T Φ g m S)(hf:Φ.fn g=some fn)(hb:fn.body=some body)(nJ:Y0 fn.ntmps b=true)
 (hl:∀b'∈Zd b,b'∈Zd body) {B:Nat->Bool} (hB:yd B b) {Q:Exit->Act->World->Prop}:∀(N:Nat) (s:σ) (l:List (C.A ck×C.A cv)) (X:Cx) (a:Act),l.length<=N->S.Inv s l->G T X (gO 0 (S.cK s l)) S.k (eA S.k)->QB T X S.k (eA S.k) (S.cM s) a.tmps->fn.ntmps<=a.tmps.size ->
  (∀a' X',G T X' (gO 0 (S.eZ s l)) S.k (eA S.k)->Step X S.k (eA S.k) X'->QB T X' S.k (eA S.k) (S.fin s l) a'.tmps->a'.tmps.size=a.tmps.size->VP X X' a'.defers a.defers->Kp B a.tmps a'.tmps->Q (.exit m.ex) a' X'.w)->Code.rounds P b Q (N+1) a X.w:=by
 obtain⟨r1,o1,bl,r2,n,x,e,k,v,rfl,pV,mz,n1,n2,n3,x1,x2,x3,e1,Lt,e3,k1,k2,k3,v1,v2,v3,c1,c2,c3,c4,c5⟩:=QrK hm;simp only[Y0,ai]at nJ;obtain⟨⟨yK,_⟩,_,⟨vG,_⟩,sP⟩:=nJ;have lF:∀o∈o1.toList,∀t,o.dst=some t->t<fn.ntmps:=N1 yK;have kJ:∀o∈m.o2.toList,∀t,o.dst=some t->t<fn.ntmps:=N1 vG;have hB1:∀o∈o1.toList,∀t,o.dst=some t->B t=false:=fun o ho t ht=>hB t (by simp only[gI,aT,List.mem_filterMap];exact .inl ⟨o,ho,ht⟩);have sd:∀o∈m.o2.toList,∀t,o.dst=some t->B t=false:=fun o ho t ht=>hB t (by simp only[gI,aT,List.mem_filterMap];exact .inr (.inr (.inl ⟨o,ho,ht⟩)));have hB3:yd B m.rest:=fun t ht=>hB t (by simp only[gI,aT];exact .inr (.inr (.inr ht)));have m1:n∈o1.toList:=by rw[pV];simp
 have m2:x∈o1.toList:=by rw[pV];simp
 have m3:e∈m.o2.toList:=by rw[mz];simp
 have m4:k∈m.o2.toList:=by rw[mz];simp
 have m5:v∈m.o2.toList:=by rw[mz];simp
 have tB:o1.size=2:=by rw[<-Array.length_toList,pV];rfl
 have i0:o1[0]? = some n:=by rw[<-Array.getElem?_toList,pV];rfl
 have i1:o1[1]? = some x:=by rw[<-Array.getElem?_toList,pV];rfl
 have j0:m.o2[0]? = some e:=by rw[<-Array.getElem?_toList,mz];rfl
 have j1:m.o2[1]? = some k:=by rw[<-Array.getElem?_toList,mz];rfl
 have j2:m.o2[2]? = some v:=by rw[<-Array.getElem?_toList,mz];rfl
 have hw:∀(ops:cO) (o:Oper) (u:bY),o.guard=none->Region.wanted o (yielded ops u)=true:=fun ops o u hg=>by simp[Region.wanted,hg]
 intro N
 induction N using Nat.strongRecOn with
 |_ N ih=>
 intro s l X a hN hI hg he fB hk;obtain⟨fZ,ks,LJ,hei,kD,sV,GI⟩:=hr s l hI;rw[rounds_succ];refine(wpIn_wide (n:=0)).1 (wpIn_seq (wpIn_region ?_));rw[List.range_eq_range',tB,List.range'_succ,wpOpsIn_cons];unfold wpOpIn;simp only[i0,hw o1 n _ n3,aU]
 have hvi:R T X false (.jN S.it:D C) [a.eval (.tmp m.it)]:=by
  have:=(he m.it).1;rw[hei]at this;exact this.one rfl
 have nc:(gO 0 (S.cK s l)).get S.it=some (.dG (.it ck cv l)):=by rw[QE];exact LJ
 have b1:m.tn<a.tmps.size:=bj (lF n m1 _ n2) fB;have b2:m.tc<a.tmps.size:=bj (lF x m2 _ x2) fB
 have go:∀(val:Value) (ok:Bool) (w':World),(Instr.next (a.eval (.tmp m.it)) false n.type).run P X.w=.ok val w'->(Instr.extract val 0:Sem Value)=pure (.bool ok) ->
  (∀a2:Act,a2=(a.put (some m.tn) val).put (some m.tc) (.bool ok)->(Code.seq (.cond (.tmp m.tc) .skip (.exit m.ex)) (.block bl (.seq (.region r2 m.o2 false) m.rest))).wpIn Fence.wide 0 P (Exit.then (Code.rounds P (.seq (.region r1 o1 false) (.seq (.cond (.tmp m.tc) .skip (.exit m.ex)) (.block bl (.seq (.region r2 m.o2 false) m.rest)))) Q N) Q) a2 w') ->
  n.wpIn Fence.wide 0 P a X.w (wpOpsIn Fence.wide 0 P o1 (Exit.then ((Code.seq (.cond (.tmp m.tc) .skip (.exit m.ex)) (.block bl (.seq (.region r2 m.o2 false) m.rest))).wpIn Fence.wide 0 P (Exit.then (Code.rounds P (.seq (.region r1 o1 false) (.seq (.cond (.tmp m.tc) .skip (.exit m.ex)) (.block bl (.seq (.region r2 m.o2 false) m.rest)))) Q N) Q)) (Exit.then (Code.rounds P (.seq (.region r1 o1 false) (.seq (.cond (.tmp m.tc) .skip (.exit m.ex)) (.block bl (.seq (.region r2 m.o2 false) m.rest)))) Q N) Q)) (List.range' 1 1)) (Exit.then ((Code.seq (.cond (.tmp m.tc) .skip (.exit m.ex)) (.block bl (.seq (.region r2 m.o2 false) m.rest))).wpIn Fence.wide 0 P (Exit.then (Code.rounds P (.seq (.region r1 o1 false) (.seq (.cond (.tmp m.tc) .skip (.exit m.ex)) (.block bl (.seq (.region r2 m.o2 false) m.rest)))) Q N) Q)) (Exit.then (Code.rounds P (.seq (.region r1 o1 false) (.seq (.cond (.tmp m.tc) .skip (.exit m.ex)) (.block bl (.seq (.region r2 m.o2 false) m.rest)))) Q N) Q)):=by
  intro val ok w' eB vM fe;refine ZD (ro:=none) (fun c hc=>by rw[n1]at hc;cases hc) (uP (v:=val) (w':=w') (by obtain⟨dst,op,ty,pos,after,guard⟩:=n;simp only at n1;subst n1;simp only[execOp,aG,eB,aA,aF]) ?_);rw[n2];rw[List.range'_succ,wpOpsIn_cons];unfold wpOpIn;simp only[i1,hw o1 x _ x3,aU];refine ZD (ro:=none) (fun c hc=>by rw[x1]at hc;cases hc) (uP (v:=.bool ok) (w':=w') (by obtain⟨dst,op,ty,pos,after,guard⟩:=x;simp only at x1;subst x1;simp only[execOp,Lb b1,vM,aG,aF,aA]) ?_);rw[x2];exact fe _ rfl
 have rS:∀val ok,Kp B a.tmps ((a.put (some m.tn) val).put (some m.tc) (.bool ok)).tmps:=fun val ok=>(KP a _ _ (fun t ht=>by cases ht;exact hB1 n m1 _ n2)).trans (KP _ _ _ (fun t ht=>by cases ht;exact hB1 x m2 _ x2));have GJ:∀val ok,((a.put (some m.tn) val).put (some m.tc) (.bool ok)).tmps.size=a.tmps.size:=fun val ok=>by rw[(QF _ _ _).1,(QF _ _ _).1]
 have F8:∀val ok,((a.put (some m.tn) val).put (some m.tc) (.bool ok)).defers=a.defers:=fun val ok=>by rw[(QF _ _ _).2,(QF _ _ _).2]
 have Lw:∀val ok,((a.put (some m.tn) val).put (some m.tc) (.bool ok)).eval (.tmp m.tc)=.bool ok:=fun val ok=>Lb (by rw[(QF _ _ _).1];exact b2);rcases wj K hg nc hvi n.type with⟨rfl,eB⟩|⟨l1,y,l2,key,val,X1,rfl,eB,g1,s1,sW,hRk,hRv⟩
 ·refine go _ false X.w eB rfl fun a2 ra=>?_;refine wpIn_seq (wpIn_cond_false (by rw[ra];exact Lw _ _) (wpIn_exit ?_));obtain⟨f1,f2⟩:=sV rfl;rw[f2]at hk;refine hk a2 X hg (.refl _ _ _) (fun t=>?_) (by rw[ra,GJ]) (.of_eq (by rw[ra,F8])) (by rw[ra];exact rS _ _);rcases ic (S.fin s []) t with h|h
  ·rw[h];exact RO.mk (RV.top _ _ _) rfl
  ·obtain⟨q1,q2,q3⟩:=f1 _ h;simp only at q1 q2 q3;have:a2.tmps.getD t undef=a.tmps.getD t undef:=by rw[ra,E9 q3,E9 q2]
   rw[this,<-q1];exact he t
 ·cases N with
  |zero=>simp at hN
  |succ N=>
  obtain⟨lP,cZ,h',cF,tr,s',hx,xh,c9,kT,kn,iq⟩:=GI l1 y l2 rfl;obtain⟨mB,aat,_⟩:=hr s' (l1++l2) xh;have hle:S.k<=cF:=hx.le;obtain⟨dS,h1,pZ,t1,t2,q1,q2,_⟩:=Ex.bind hx;have kB:=Ex.le q1;have vU:=Ex.le q2
  have LL:Qj S.k (S.cM s) (S.cK s (l1++l2)):=by
   refine⟨by rw[kD];simpa using fZ.1,fZ.2.1,fun o ho=>?_⟩;rw[kD]at ho;rcases List.mem_or_eq_of_mem_set ho with h|h
   ·exact fZ.2.2 o h
   ·subst h;intro r fK;simp[Obj.refs]at fK
  have cU:S.it<(S.cK s (l1++y::l2)).length:=(av.1 LJ).1
  have RM:G T X1 (gO 0 (S.cK s (l1++l2))) S.k (eA S.k):=g1.congr fun id=>by
   rw[Qv (by rw[nc];rfl),QE,QE,kD (l1++l2)]
   by_cases dD:id=S.it
   ·subst dD;simp[cU]
   ·rw[List.getElem?_set_ne (Ne.symm dD)];simp[dD]
  have g0:G T X1 (gO 0 (S.cK s (l1++l2))) S.k (eA cF):=RM.l8 (JN LL.1 LL.2.2) (aq _) (aK _) (fun _ h=>h)
  have e0:QB T X1 S.k (eA cF) (S.cM s) a.tmps:=fun t=>⟨((he t).step K.base s1 (aq _)).1,fun r hh=>⟨.inl (by
   rcases ic (S.cM s) t with h|h
   ·rw[h]at hh;simp[D.refs]at hh
   ·exact fZ.2.1 _ h r hh),fun h=>h⟩⟩
  refine go _ true X1.w eB rfl fun a2 ra=>?_;refine wpIn_seq (wpIn_cond_true (by rw[ra];exact Lw _ _) (wpIn_skip ?_));refine wpIn_block (wpIn_seq (wpIn_region ?_));have SL:m.o2.size=m.more.length+1+1+1:=by rw[<-Array.length_toList,mz];rfl
  have v7:a2.tmps.size=a.tmps.size:=by rw[ra,GJ]
  have e2:QB T X1 S.k (eA cF) ((m.tc,.bool true)::(m.tn,.top)::S.cM s) a2.tmps:=by
   have h1:QB T X1 S.k (eA cF) (Ev.put (S.cM s) (some m.tn) .top) (a.put (some m.tn) (.tuple #[.bool true,key,val])).tmps:=e0.put (RO.mk (RV.top _ _ _) rfl) (fun t ht=>by cases ht;exact b1);rw[ra];exact h1.put (dst:=some m.tc) (RO.mk (.mk rfl (.bool true)) rfl) (fun t ht=>by cases ht;rw[(QF _ _ _).1];exact b2)
  have Gi:a2.eval (.tmp m.it)=a.eval (.tmp m.it):=by
   show a2.tmps.getD m.it undef=a.tmps.getD m.it undef;rw[ra,E9 c2,E9 c1]
  have d1:m.te<a2.tmps.size:=by rw[v7];exact bj (kJ e m3 _ Lt) fB
  have d2:m.tk<a2.tmps.size:=by rw[v7];exact bj (kJ k m4 _ k2) fB
  have d3:m.tv<a2.tmps.size:=by rw[v7];exact bj (kJ v m5 _ v2) fB
  rw[List.range_eq_range',SL,List.range'_succ,wpOpsIn_cons];unfold wpOpIn;simp only[j0,hw m.o2 e _ e3,aU];refine ZD (ro:=none) (fun c hc=>by rw[e1]at hc;cases hc) (uP (v:=.tuple #[key,val]) (w':=X1.w) (by obtain⟨dst,op,ty,pos,after,guard⟩:=e;simp only at e1;subst e1;simp only[execOp,Gi,aG,sW,aA,aF]) ?_);rw[Lt,List.range'_succ,wpOpsIn_cons];unfold wpOpIn;simp only[aN,j1,hw m.o2 k _ k3,aU];refine ZD (ro:=none) (fun c hc=>by rw[k1]at hc;cases hc) (uP (v:=key) (w':=X1.w) (by obtain⟨dst,op,ty,pos,after,guard⟩:=k;simp only at k1;subst k1;simp[execOp,Lb d1,Instr.extract]) ?_);rw[k2,List.range'_succ,wpOpsIn_cons];unfold wpOpIn;simp only[j2,hw m.o2 v _ v3,aU]
  have RG:((a2.put (some m.te) (.tuple #[key,val])).put (some m.tk) key).eval (.tmp m.te)=.tuple #[key,val]:=by
   show((a2.put (some m.te) (.tuple #[key,val])).put (some m.tk) key).tmps.getD m.te undef=_;rw[E9 c3];exact Lb d1
  refine ZD (ro:=none) (fun c hc=>by rw[v1]at hc;cases hc) (uP (v:=val) (w':=X1.w) (by obtain⟨dst,op,ty,pos,after,guard⟩:=v;simp only at v1;subst v1;simp[execOp,RG,Instr.extract]) ?_);rw[v2]
  have e5:QB T X1 S.k (eA cF) ((m.tv,T.enc cv y.2)::(m.tk,T.enc ck y.1)::(m.te,.top)::(m.tc,.bool true)::(m.tn,.top)::S.cM s) (((a2.put (some m.te) (.tuple #[key,val])).put (some m.tk) key).put (some m.tv) val).tmps:=by
   have h1:QB T X1 S.k (eA cF) (Ev.put _ (some m.te) .top) (a2.put (some m.te) (.tuple #[key,val])).tmps:=e2.put (RO.mk (RV.top _ _ _) rfl) (fun t ht=>by cases ht;exact d1);have h2:=h1.put (dst:=some m.tk) (d:=T.enc ck y.1) (v:=key) (RO.mk (.inr ⟨nL _,hRk⟩) (K.base.fv _ _)) (fun t ht=>by cases ht;rw[(QF _ _ _).1];exact d2);exact h2.put (dst:=some m.tv) (d:=T.enc cv y.2) (v:=val) (RO.mk hRv (K.base.fv _ _)) (fun t ht=>by cases ht;rw[(QF _ _ _).1,(QF _ _ _).1];exact d3)
  have tC:(((a2.put (some m.te) (.tuple #[key,val])).put (some m.tk) key).put (some m.tv) val).tmps.size=a.tmps.size:=by rw[(QF _ _ _).1,(QF _ _ _).1,(QF _ _ _).1,v7]
  have F9:(((a2.put (some m.te) (.tuple #[key,val])).put (some m.tk) key).put (some m.tv) val).defers=a.defers:=by rw[(QF _ _ _).2,(QF _ _ _).2,(QF _ _ _).2,ra,F8]
  have Gr:Kp B a.tmps (((a2.put (some m.te) (.tuple #[key,val])).put (some m.tk) key).put (some m.tv) val).tmps:=by
   refine(by rw[ra];exact rS _ _:Kp B a.tmps a2.tmps).trans ?_;exact((KP a2 _ _ (fun t ht=>by cases ht;exact sd e m3 _ Lt)).trans (KP _ _ _ (fun t ht=>by cases ht;exact sd k m4 _ k2))).trans (KP _ _ _ (fun t ht=>by cases ht;exact sd v m5 _ v2))
  generalize ((a2.put (some m.te) (.tuple #[key,val])).put (some m.tk) key).put (some m.tv) val=a5 at e5 tC F9 Gr ⊢;have gN:=QEH K F lP;refine Qnc (ro:=none) (m:=0) K gN sd m.more 3 (by rw[mz];rfl) g0 e5 (by show pZ<=cF;exact vU) (fun o ho t ht=>by rw[tC];exact bj (kJ o ho t ht) fB) q1 fun a6 X6 g6 s6 e6 zc hd6 kp6=>?_;refine(IC K F lP).1 none 0 g fn.ntmps m.rest (.inr ⟨rfl,fn,body,hf,rfl,hb,fun b' iW=>hl b' (by simp[Zd,iW])⟩) sP B hB3 X6 h1 pZ (eA cF) (0,0) dS .normal cZ h' cF t2 a6 _ g6 e6 (aq _) (by rw[zc,tC];exact fB) q2 ?_;intro a7 X7 g7 s7 e7 hs7 hd7 kp7;have s67:=s6.trans s7 kB
  -- wy wo zM are kept
  obtain⟨X2,w2,g2,s2,hρ⟩:=G.drop K.base g7 (h':=gO 0 (S.cK s' (l1++l2))) (fun id=>by
   rw[QE]
   by_cases dD:id<S.k
   ·exact .inl (iq id dD).symm
   ·exact .inr (bc (by rw[mB.1];omega)))
  have mh:∀id,¬id<S.k->X2.ρ id=none:=fun id dD=>by
   cases hq:X2.ρ id with
   |none=>rfl
   |some o=>
    have:=g2.jA id o hq;rw[QE,bc (by rw[mB.1];omega)]at this;cases this
  have s3:=s67.trans s2 hle;have g3:G T X2 (gO 0 (S.cK s' (l1++l2))) S.k (eA S.k):=g2.l8 (JN mB.1 mB.2.2) (aq _) (aK _) (fun _ h=>h)
  have s4:Step X1 S.k (eA S.k) X2:=⟨s3.O,s3.os,s3.tape,s3.output,s3.size,fun id ho=>by
   by_cases dD:id<S.k
   ·exact s3.ρ id ⟨.inl dD,fun h=>h⟩
   ·rw[mh id dD];cases X1.ρ id<;>simp[Qp],s3.du,s3.cell,s3.block,s3.frz⟩
  have e8:QB T X2 S.k (eA S.k) (S.cM s') a7.tmps:=fun t=>by
   rcases ic (S.cM s') t with h|h
   ·rw[h];exact RO.mk (RV.top _ _ _) rfl
   ·have oM:∀r∈(cR (S.cM s') t).refs,r<S.k:=mB.2.1 _ h;have h2:=kn _ h;simp only at h2;have h3:=(e7 t).1;rw[h2]at h3;exact⟨h3.mono T K.base.gX s2.keeps fun r hh=>s2.ρ r ⟨.inl (by have:=oM r hh;omega),fun h=>h⟩,fun r hh=>⟨.inl (oM r hh),fun h=>h⟩⟩
  show Code.rounds P _ Q (N+1) a7 X7.w;rw[<-w2];have dV:=s1.trans s4 (aq _)
  have xo:VP X X2 a7.defers a.defers:=by
   have h1:VP X6 X7 a7.defers a6.defers:=hd7;rw[hd6,F9]at h1;obtain⟨rs,e1,n1,GG⟩:=h1.sub w2 s2.du;exact⟨rs,e1,n1,fun r hr=>⟨bk (bk s1.size s6.size) (GG r hr).1,(GG r hr).2⟩⟩
  refine ih N (by omega) s' (l1++l2) X2 a7 (by simp at hN ⊢;omega) xh g3 e8 (by rw[hs7,zc,tC];exact fB) fun a9 X9 g9 s9 e9 hs9 hd9 kp9=>?_;rw[c9]at e9;rw[kT]at g9;exact hk a9 X9 g9 (dV.trans s9 (aq _)) e9 (by rw[hs9,hs7,zc,tC]) (xo.trans dV s9 hd9) (((Gr.trans kp6).trans kp7).trans kp9)
theorem QBY(K:Zo P T)(F:Qk P T Φ){g key:Nat}{fs:c7}{dE:bU}{pe:Env C->List (Obj C)->RT C}{ck cv:C.Ty}{σ:Type}{S:C0 C ck cv σ}{m:wZ}(nL:∀x,(T.enc ck x).de=false)
 (hr:Ur T Φ g m S) (hm:∀fn body b,Φ.fn g=some fn->fn.body=some body->b∈Zd body->QC b=key->vl b=some m)
 (kl:∀eQ os x cZ eV,(pe eQ os).val=some ((x,cZ),eV)->∃q l,S.Inv q l/\(∀p∈S.cM q,p∈eQ)/\os=S.cK q l/\x=.exit m.ex/\S.fin q l=cZ/\S.eZ q l=eV):ID P T Φ g key (pM T fs dE pe):=by
 intro fn body b hf hb sQ ju B hB X h nx lim e env x cZ h' cF tr a Q gg he dP fB hx hk;obtain⟨f1,f2,f3⟩:=F.fn g fn hf;obtain⟨c1,c2⟩:=ZR body (f3 body hb) b sQ;have hmb:=hm fn body b hf hb sQ ju;obtain⟨X1,h1,pZ,dS,ids,oW,w1,g1,s1,oJ,e1,lU⟩:=Oq K dP fs X h nx tr env [] gg he hx;cases ll:K8 ids with
 |false=>rw[ll]at lU;exact Ex.cB lU
 |true=>
 rw[ll]at lU;simp only[ag]at lU;have iO:=Y4 ll;obtain⟨os,mI,hlen,ri,fN⟩:=Ea ids _ _ lU;cases iB:pD ids (dE.flatMap fun t=>(cR dS t).refs)&&pD ids (os.flatMap Obj.refs)with
 |false=>rw[iB]at fN;exact Ex.cB fN
 |true=>
 rw[iB]at fN;simp only[ag]at fN;simp only[ai]at iB;have qx:=Vl iB.1;have pu:=Vl iB.2;obtain⟨xx,ee,eV,hq,zk⟩:=RT.pJ _ _ fN
 ··obtain⟨q,l,hI,kn,jX,rfl,c9,kT⟩:=kl _ _ _ _ _ hq;obtain⟨fZ,ks,_⟩:=hr q l hI;obtain⟨h2,Tp,me,pC,tD,zl⟩:=Eb ids _ h1 _ iO zk;obtain⟨jB,eh,en,_⟩:=Ex.ret zl;obtain⟨rfl,rfl⟩:=Prod.mk.inj jB;subst eh;subst en
   let f:Nat->Nat:=fun j=>ids.getD j 0
   have oH:∀j,j<ids.length->ids[j]? = some (f j):=fun j hj=>by simp[f,hj]
   have tf:ids.length=S.k:=by rw[<-fZ.1,<-jX];simp[hlen]
   have re:∀r,r∈ids->f (idx ids r)=r:=fun r hr=>by
    have:=Kl ids r hr;simp only[f,ar,this,ba]
   have jb:(S.cK q l).length=ids.length:=by rw[fZ.1,tf]
   have part:Part h1 (S.cK q l) f:=by
    refine⟨fun j o ho=>?_,fun i j hi hj lf=>?_,fun o ho r hr=>by rw[fZ.1];exact fZ.2.2 o ho r hr⟩
    ·rw[<-jX,bB]at ho;cases kj:os[j]? with
     |none=>simp[kj]at ho
     |some o0=>
      simp only[kj,bC,aD]at ho;have hj:j<ids.length:=by rw[<-hlen];exact(av.1 kj).1
      rw[ri j (f j) o0 (oH j hj) kj,<-ho,Obj.dZ];intro id dD;exact re id (pu id (List.mem_flatMap.2 ⟨o0,List.mem_of_getElem? kj,dD⟩))
    ·rw[jb]at hi hj;have:=(List.getElem?_inj hi iO (j:=j)).1 (by rw[oH i hi,oH j hj];simp only[f]at lf ⊢;rw[lf]);exact this
   have g2:=Part.ctx K.base g1 part (S.cK q l).length
   have e2:QB T (X1.part (S.cK q l).length f) (S.cK q l).length (eA (S.cK q l).length) (S.cM q) a.tmps:=by
    refine QB.part K.base e1 part.inj (fun p hp=>?_) (fun p hp r hr=>by rw[fZ.1];exact fZ.2.1 p hp r hr);have:=kn p hp;simp only[List.mem_map]at this;obtain⟨t,ht,rfl⟩:=this;simp only;rw[D.dZ];intro id dD;exact re id (qx id (List.mem_flatMap.2 ⟨t,ht,dD⟩))
   rw[fZ.1]at g2 e2;rw[<-w1];show(Code.loop b).wp P Q a (X1.part S.k f).w;refine wp_loop_rounds (l.length+1) (QrL K F hmb nL hr hf hb c1 c2 hB l.length q l (X1.part S.k f) a (aq _) hI g2 e2 fB fun a' X' g' s' e' pA vJ v9=>?_);rw[kT]at g';rw[c9]at e';have jG:eV.length=(S.cK q l).length:=by rw[<-kT,ks.1,fZ.1]
   have kU:∀o∈eV,∀r∈Obj.refs o,r<(S.cK q l).length:=fun o ho r hr=>by rw[fZ.1];exact ks.2.2 o (by rw[kT];exact ho) r hr
   obtain⟨X2,w2,g3,s3,hρ,sd⟩:=Part.back K.base g1 part jG kU (X1:=X') (lim1:=eA S.k) (h':=h') (by rw[fZ.1];exact g') (by rw[fZ.1];exact s') (fun j o hj=>by
    have cU:j<ids.length:=by rw[<-jb,<-jG];exact(av.1 hj).1
    exact pC j (f j) _ (oH j cU) (by rw[bB,hj];rfl)) (fun id dD=>by
    refine tD id fun hm=>?_;obtain⟨j,hj,y3⟩:=List.getElem_of_mem hm;refine dD j (by rw[jb];exact hj) ?_;simp[f,hj,y3])
   have hold:∀j,j<S.k->ft cF lim (f j):=fun j hj=>by
    have mb:j<(S.cK q l).length:=by rw[fZ.1];exact hj
    exact(g1.eL _ _ (part.mN j (S.cK q l)[j] (by simp[mb]))).1
   have e3:=QB.back (nx:=cF) (lim:=lim) (f:=f) K.base e' (fun p hp r hr=>ks.2.1 p (by rw[c9];exact hp) r hr) (fun j hj=>hρ j (by rw[fZ.1];exact hj)) ⟨sd⟩ hold;have:=hk a' X2 g3 (s1.trans s3 oJ) e3 pA (vJ.zu g3 (by show X.w.heap.size<=X1.w.heap.size;rw[w1];exact aq _) w2) v9;rw[w2]at this;exact this
noncomputable def zD(T:fh C)(Φ:iR C)(g:FuncId)(m:wZ)(n k:Nat)(kc:bU){ck cv:C.Ty}(x:C.A ck×C.A cv)(env:Env C)(os:List (Obj C)):Option (Env C×List (Option (Obj C))):=
 (Pg.bind (qT T (uB T Φ (jE T Φ n)) m.o2 m.more ((m.tv,T.enc cv x.2)::(m.tk,T.enc ck x.1)::(m.te,.top)::(m.tc,.bool true)::(m.tn,.top)::env)) fun env=>jE T Φ n g m.rest env).run (0,0) (gO 0 os) k [] fun r h' _ _=>match r.1 with
  |.normal=>some (kc.map fun t=>(t,cR r.2 t),ux 0 k h')
  |_=>none
def vo(b:Code):wZ:=match vl b with
 |some m=>m
 |none=>⟨0,0,0,0,0,0,0,#[],[],.skip⟩
theorem QBZ{b:Code}(h:(vl b).isSome=true):vl b=some (vo b):=by
 unfold vo;cases hm:vl b with
 |none=>rw[hm]at h;cases h
 |some m=>rfl
def Nd{ck cv:C.Ty}{σ:Type}(S:C0 C ck cv σ)(ex:Nat)(d:Env C->List (Obj C)->Option (Bool×(σ×List (C.A ck×C.A cv))))(env:Env C)(os:List (Obj C)):RT C:=match d env os with
 |some (b,q)=>.br b (.leaf (.exit ex) (S.fin q.1 q.2) (S.eZ q.1 q.2)) .fail
 |none=>.fail
theorem Qk.qj(K:Zo P T)(F:Qk P T Φ){g key:Nat}(lj:u0 (Kk Φ g)=true)(dv:(vl (K5 Φ g key)).isSome=true){ck cv:C.Ty}(nL:∀x,(T.enc ck x).de=false){σ:Type}(S:C0 C ck cv σ)(n ex:Nat)(hex:(vo (K5 Φ g key)).ex=ex)
 (kc:bU) (fs:c7) (dE:bU) (d:Env C->List (Obj C)->Option (Bool×(σ×List (C.A ck×C.A cv))))
 (hr:∀s l,S.Inv s l->Qj S.k (S.cM s) (S.cK s l)/\Qj S.k (S.fin s l) (S.eZ s l)/\(S.cK s l)[S.it]? = some (.dG (.it ck cv l))/\cR (S.cM s) (vo (K5 Φ g key)).it=.jN S.it/\(∀l',S.cK s l'=(S.cK s l).set S.it (.dG (.it ck cv l'))) /\
  (l=[]->(∀p∈S.fin s l,cR (S.cM s) p.1=p.2/\p.1≠(vo (K5 Φ g key)).tn/\p.1≠(vo (K5 Φ g key)).tc)/\S.eZ s l=S.cK s l) /\
  ∀l1 x l2,l=l1++x::l2->∃s',zD T Φ g (vo (K5 Φ g key)) n S.k kc x (S.cM s) (S.cK s (l1++l2))=some (S.cM s',(S.cK s' (l1++l2)).map some)/\S.Inv s' (l1++l2)/\S.fin s' (l1++l2)=S.fin s l/\S.eZ s' (l1++l2)=S.eZ s l)
 (hd:∀env os b q,d env os=some (b,q)->b=true->S.Inv q.1 q.2/\S.cM q.1=env/\S.cK q.1 q.2=os):Qk P T (Φ.cJ g key (pM T fs dE (Nd S ex d))):=by
 refine F.cJ (QBY K F (S:=S) (m:=vo (K5 Φ g key)) nL (fun s l hI=>?_) (fun fn body b hf hb sQ ju=>?_) ?_)
 ·obtain⟨h1,h2,h3,h4,h5,h6,h7⟩:=hr s l hI;refine⟨h1,h2,h3,h4,h5,h6,fun l1 x l2 hl=>?_⟩;obtain⟨s',q1,q2,q3,q4⟩:=h7 l1 x l2 hl;obtain⟨q2a,_⟩:=hr s' _ q2;unfold zD at q1;obtain⟨⟨xx,cZ⟩,h',cF,tr,q5,q6⟩:=Pg.fw q1;cases xx with
  |exit i=>cases q6
  |ret=>cases q6
  |normal=>
   simp only[aD,Prod.mk.injEq]at q6;obtain⟨q6,q7⟩:=q6;have hg:=YM S.k 0 h' _ q7;simp only[aN]at hg;refine⟨n,cZ,h',cF,tr,s',q5,q2,q3,q4,fun p hp=>?_,hg⟩;rw[<-q6]at hp;obtain⟨t,_,rfl⟩:=List.mem_map.1 hp;rfl
 ·rw[<-NO lj hf hb sQ ju];exact QBZ dv
 ·intro eQ os x cZ eV h;unfold Nd at h
  split at h
  ·rename_i b q hq;cases b with
   |false=>simp[RT.val]at h
   |true=>
    obtain⟨h1,h2,h3⟩:=hd _ _ _ _ hq rfl;simp only[RT.val,ag,aD,Prod.mk.injEq]at h;obtain⟨⟨rfl,rfl⟩,rfl⟩:=h;exact⟨q.1,q.2,h1,fun p hp=>by rw[<-h2];exact hp,h3.symm,by rw[hex],rfl,rfl⟩
  ·simp[RT.val]at h
end
open Go.Proofs
def w7:C0 RC .int .int bQ where
 k:=2
 it:=1
 cM s:=[(0,.vs 0 s.length),(16,.jN 1)]
 cK s l:=[.vec (C:=RC) .int true s,.dG (.it .int .int l)]
 fin _ _:=[]
 eZ s l:=[.vec (C:=RC) .int true (QM s l),.dG (.it .int .int [])]
 Inv s l:=s.length=771/\ZQ 771 l=true
def P4(env:bX)(os:bP):Option (Bool×(bQ×bZ)):=match env,os with
 |[(0,.vs 0 x0),(16,.jN 1)],[.vec .int true s,.dG (.it .int .int l)]=>some (decide (x0=s.length)&&decide (s.length=771)&&ZQ 771 l,(s,l))
 |_,_=>none
def Us(s:bQ)(l:bZ)(x:Int×Int):=zD cu wA 59 (vo (K5 wA 59 5)) 40 2 [0,16] (ck:=b9.int) (cv:=b9.int) x (w7.cM s) (w7.cK s l)
theorem QGu s l x:Us s l x=(let Z0:=s.length;let Z1:=x.1;b7 (Nat.beq Z0 Z0&&dH Z1 (Z0:Int)) (b7 (Nat.beq Z0 Z0) (some ([(0,D.vs 0 Z0),(16,D.jN 1)],[some (Obj.vec b9.int true (List.set s Z1.toNat x.2)),some (Obj.dG (ru.it b9.int b9.int l))])))):=by kernel_rfl
def Cd:=wA.cJ 59 5 (pM cu [.slot 0 0,.slot 16 0] [0,16] (Nd w7 2 P4))
theorem Qx4:Qk Tryz.prog cu Cd:=by
 refine Qx2.qj Qb (by kernel_rfl) (by kernel_rfl) (fun x=>rfl) w7 40 2 (by kernel_rfl) [0,16] [.slot 0 0,.slot 16 0] [0,16] P4 (fun s l hI=>?_) ?_
 ·obtain⟨h1,h2⟩:=hI;have h1:List.length (α:=Int) s=771:=h1;refine⟨?_,?_,rfl,by kernel_rfl,fun l'=>rfl,fun hl=>⟨fun p hp=>(by cases hp),(by subst hl;rfl)⟩,fun l1 x l2 hl=>?_⟩
  ·simp[Qj,w7,D.refs,Obj.refs]
  ·simp[Qj,w7,D.refs,Obj.refs]
  ·obtain⟨k,v⟩:=x;subst hl;obtain⟨⟨k0,k1⟩,k2,k3⟩:=QkJ h2;refine⟨s.set k.toNat v,?_,⟨by rw[bf];exact h1,k2⟩,rfl,?_⟩
   ·show Us s (l1++l2) (k,v)=_
    (rw[QGu];delta b7 dH;conv=>zeta)
    have b1:Nat.beq s.length s.length=true:=Zp rfl;have b2:decide (0<=k/\k<(s.length:Int))=true:=ab ⟨k0,by rw[h1];exact k1⟩;simp only[b1,b2,au,ag,w7,bf,List.map_cons,List.map_nil]
   ·simp only[w7,QxP k0 k3]
 ·intro env os b q h hb;unfold P4 at h
  split at h
  ·cases h;simp only[ai,aa]at hb;obtain⟨⟨e1,e2⟩,e3⟩:=hb;subst e1;exact⟨⟨e2,e3⟩,rfl,rfl⟩
  ·cases h
def yn(p:Int):bZ:=fU (fU (fU (fU [] 0 p) 3 p) 4 p) 1 (IntKind.i64.wrap (p+1))
def Jq(n0:bQ)(c kk:Int)(s:St):bQ:=QM (QM (QM (QM (QM n0 (Yv 0 (fU [] 48 s.c0) s.l0)) (Yv 1 (fU [] 49 s.c1) s.l1)) (Yv 2 (fU [] 50 s.c2) s.l2)) (yn s.place)) (Q6 c kk 0 s.items [])
def ZY(now sure:bK)(c w d kk:Int)(s:St):Int:=bif Ql now sure&&Yj c w d kk&&Qu s then(bif decide (c*kk<s.items.length)then 120 else 0)else 2
theorem nq{k v:Int}:∀{m:bZ} {p:Int×Int},p∈fU m k v->p.1=k\/∃q∈m,q.1=p.1
 |[],p,h=>by
  simp[fU,g8]at h;subst h;exact .inl rfl
 |(a,b)::m,p,h=>by
  unfold fU g8 at h
  by_cases hk:k=a
  ·rw[ab hk]at h;simp only[ag,aZ]at h;rcases h with rfl|h
   ·exact .inl rfl
   ·exact .inr ⟨p,aS _ h,rfl⟩
  ·rw[ad hk]at h;simp only[ah,aZ]at h;rcases h with rfl|h
   ·exact .inr ⟨_,aV,rfl⟩
   ·rcases nq h with h|⟨q,hq,e⟩
    ·exact .inl h
    ·exact .inr ⟨q,aS _ hq,e⟩
theorem Q2{n:Nat}{k v:Int}(h0:0<=k)(h1:k<n):∀{m:bZ},ZQ n m=true->ZQ n (fU m k v)=true
 |[],_=>by simp[fU,g8,ZQ];omega
 |(a,b)::m,h=>by
  simp only[ZQ,ai,aa,aX]at h;obtain⟨⟨a1,a2⟩,a3⟩:=h;unfold fU g8
  by_cases hk:k=a
  ·rw[ab hk];simp only[ag,ZQ,ai,aa,aX];exact⟨⟨⟨h0,h1⟩,fun p hp=>by rw[hk];exact a2 p hp⟩,a3⟩
  ·rw[ad hk];simp only[ah,ZQ,ai,aa,aX];refine⟨⟨a1,fun p hp=>?_⟩,Q2 h0 h1 a3⟩;rcases nq hp with e|⟨q,hq,e⟩
   ·rw[e];exact hk
   ·rw[<-e];exact a2 q hq
theorem KE{q:Int}(q0:0<=q)(q1:q<=2):∀{l:bJ} {m:bZ},ZQ 771 m=true->(∀x∈l,0<=x.offset)->ZQ 771 (Yv q m l)=true
 |[],m,h,_=>h
 |x::l,m,h,hx=>by
  have h0:=hx x aV;have e1:da q x.offset=51+16*q+x.offset%16:=by unfold da;rw[ax ⟨q0,q1,h0⟩]
  have e2:dY 45 q 3=45+q:=by unfold dY;rw[ax (by omega)]
  simp only[Yv,List.foldl_cons];exact KE q0 q1 (Q2 (by rw[e2];omega) (by rw[e2];omega) (Q2 (by rw[e1];omega) (by rw[e1];omega) h)) fun y hy=>hx y (aS _ hy)
theorem Xu{m:bZ}{s:Int}{x:Item}(h:ZQ 771 m=true)(s0:0<=s)(s1:s<160)(k0:0<=x.key)(k1:x.key<=23):ZQ 771 (vj m s x)=true:=by
 have e:∀f:Int,0<=f->f<=2->dt 291 s f 160 3=291+s*3+f:=fun f f0 f1=>by unfold dt;rw[ax (by omega)]
 have e2:dY 21 x.key 24=21+x.key:=by unfold dY;rw[ax (by omega)]
 unfold vj;rw[e 0 (by omega) (by omega),e 1 (by omega) (by omega),e 2 (by omega) (by omega),e2];exact Q2 (by omega) (by omega) (Q2 (by omega) (by omega) (Q2 (by omega) (by omega) (Q2 (by omega) (by omega) h)))
theorem NF{c kk:Int}{n:Nat}(c1:1<=c)(c4:c<=4)(q4:4<=kk)(p8:kk<=40)(h:(n:Int)<c*kk):0<=Jy c kk n/\Jy c kk n<160:=by
 unfold Jy;have m0:=Int.emod_nonneg (n:Int) (show c≠0 by omega);have m1:=Int.emod_lt_of_pos (n:Int) (show 0<c by omega);have d0:0<=(n:Int)/c:=Int.ediv_nonneg (by omega) (by omega);have d1:(n:Int)/c<kk:=Int.ediv_lt_of_lt_mul (by omega) (by rw[Int.mul_comm];exact h);have p0:0<=(n:Int)%c*kk:=Int.mul_nonneg m0 (by omega);have p1:(n:Int)%c*kk<=3*kk:=Int.mul_le_mul_of_nonneg_right (by omega) (by omega);omega
theorem Xl{c kk:Int}(c1:1<=c)(c4:c<=4)(q4:4<=kk)(p8:kk<=40):∀{l:bM} {n:Nat} {m:bZ},ZQ 771 m=true->(∀x∈l,0<=x.key/\x.key<=23)->(n:Int)+l.length<=c*kk->ZQ 771 (Q6 c kk n l m)=true
 |[],n,m,h,_,_=>h
 |x::l,n,m,h,hx,hn=>by
  have h0:=hx x aV;simp only[aE]at hn;obtain⟨s0,s1⟩:=NF (n:=n) c1 c4 q4 p8 (by omega);unfold Q6;exact Xl c1 c4 q4 p8 (Xu h s0 s1 h0.1 h0.2) (fun y hy=>hx y (aS _ hy)) (by omega)
theorem QrM p:ZQ 771 (yn p)=true:=by
 unfold yn;exact Q2 (by decide) (by decide) (Q2 (by decide) (by decide) (Q2 (by decide) (by decide) (Q2 (by decide) (by decide) rfl)))
theorem oV{p c:Int}{l:bJ}(h:ZW p c l=true):∀x∈l,0<=x.offset/\x.offset<=4194303/\Zb x=true\/1048575<p:=by
 intro x hx;unfold ZW at h;simp only[ai]at h;have:=aX.1 (Yf h.2) x hx;unfold YN at this;simp only[ai,Qf]at this;obtain⟨⟨⟨⟨⟨a1,a2⟩,b1,b2⟩,d1,d2⟩,e1,e2⟩,f1,f2⟩:=this
 by_cases hp:p<=1048575
 ·refine .inl ⟨a1,a2,?_⟩;simp only[Zb,aa];omega
 ·exact .inr (by omega)
theorem J3{s:St}(h:Qu s=true):(0<=s.place/\s.place<=1048575)/\s.items.length<=24/\(∀x∈s.items,0<=x.key/\x.key<=23/\1<=x.place/\x.place<=s.place/\0<=x.value/\x.value<=255) /\
 (s.l0.length<=16/\∀x∈s.l0,0<=x.offset/\x.offset<=4194303/\Zb x=true)/\(s.l1.length<=16/\∀x∈s.l1,0<=x.offset/\x.offset<=4194303/\Zb x=true)/\(s.l2.length<=16/\∀x∈s.l2,0<=x.offset/\x.offset<=4194303/\Zb x=true):=by
 obtain⟨p,it,l0,l1,l2,c0,c1,c2⟩:=s;obtain⟨hp,hn,_,⟨_,h0,_⟩,⟨_,h1,_⟩,⟨_,h2,_⟩⟩:=YI h;unfold Qu at h;simp only[ai]at h;obtain⟨⟨⟨⟨_,hi⟩,k0⟩,k1⟩,k2⟩:=h
 have fin:∀{l:bJ} {c:Int},ZW p c l=true->∀x∈l,0<=x.offset/\x.offset<=4194303/\Zb x=true:=fun hk x hx=>by
  rcases oV hk x hx with h|h
  ·exact h
  ·omega
 refine⟨hp,hn,fun x hx=>?_,⟨h0,fin k0⟩,⟨h1,fin k1⟩,⟨h2,fin k2⟩⟩;have:=aX.1 (Yf hi) x hx;unfold Y5 at this;simp only[ai,Qf]at this;show _/\_/\_/\x.place<=p/\_;omega
open Go.Proofs
theorem eK{a b:Bool}(h:a=true)(k:b=true):(a&&b)=true:=by rw[h,k];rfl
theorem Ut:nC.length=771:=by rw[Ht];rfl
def QkO:bW->bO
 |[.bI (.sl .bR cn now) (.bI (.sl .bR cs sure) .bN),.bI (.int .i64 c) (.bI (.int .i64 w) (.bI (.int .i64 d) (.bI (.int .i64 kk) .bN))),.bI (.int .i64 sp) (.bI (.sl .item ci it) (.bI (.bI (.sl .line f0 l0) (.bI (.sl .line f1 l1) (.bI (.sl .line f2 l2) .bN))) (.bI (.arr .int 3 [c0,c1,c2]) .bN)))]=>some (Qn now&&Qn sure&&decide (it.length<=9223372036854775807/\l0.length<=9223372036854775807/\l1.length<=9223372036854775807/\l2.length<=9223372036854775807),.cG (.bI (cL .int false (bif ZY now sure c w d kk ⟨sp,it,l0,l1,l2,c0,c1,c2⟩==0 then Jq nC c kk ⟨sp,it,l0,l1,l2,c0,c1,c2⟩else[]) (.bI (cL .bR false (bif ZY now sure c w d kk ⟨sp,it,l0,l1,l2,c0,c1,c2⟩==0 then now else[]) (cL .bR false (bif ZY now sure c w d kk ⟨sp,it,l0,l1,l2,c0,c1,c2⟩==0 then sure else[]) .bN)) .bN)) (cH (ZY now sure c w d kk ⟨sp,it,l0,l1,l2,c0,c1,c2⟩) .bN)))
 |_=>none
def Qpb(cn:Bool)(now:bK)(cs:Bool)(sure:bK)(c w d kk sp:Int)(ci:Bool)(it:bM)(f0:Bool)(l0:bJ)(f1:Bool)(l1:bJ)(f2:Bool)(l2:bJ)(c0 c1 c2:Int):=ky cu Cd 200 24 [.bI (.sl (C:=RC) .bR cn now) (cL .bR cs sure .bN),.bI (.int .i64 c) (cH w (cH d (cH kk .bN))),.bI (.int .i64 sp) (cL .item ci it (.bI (cL .line f0 l0 (cL .line f1 l1 (cL .line f2 l2 .bN))) (.bI (.arr (C:=RC) .int 3 [c0,c1,c2]) .bN)))]
theorem Qx5 cn now cs sure c w d kk sp ci it f0 l0 f1 l1 f2 l2 c0 c1 c2:Qpb cn now cs sure c w d kk sp ci it f0 l0 f1 l1 f2 l2 c0 c1 c2=(let Z0:bV:=D.sl b9.bR false [];let Z1:bV:=.bN;let Z2:bV:=D.bI (D.sl b9.int false []) (.bI (D.bI Z0 (D.bI Z0 Z1)) Z1);let Z3:fI:=some (D.cG (D.bI Z2 (D.bI (cj 2) Z1)));let Z4:=it.length;let Z5:=l0.length;let Z6:=l1.length;let Z7:=l2.length;let lJ:bZ:=Yv 0 (g8 (VI cu b9.int) 48 c0 []) (List.drop 0 l0);let ep:Bool:=decide ((771:Nat)=nC.length)&&decide (nC.length=771)&&ZQ 771 lJ;let oh:=List.length (QM nC lJ);let sE:bZ:=Yv 1 (g8 (VI cu b9.int) 49 c1 []) (List.drop 0 l1);let sF:Bool:=decide ((771:Nat)=oh)&&decide (oh=771)&&ZQ 771 sE;let vr:=List.length (QM (QM nC lJ) sE);let sc:bZ:=Yv 2 (g8 (VI cu b9.int) 50 c2 []) (List.drop 0 l2);let xa:Bool:=decide ((771:Nat)=vr)&&decide (vr=771)&&ZQ 771 sc;let qY:=QM (QM (QM nC lJ) sE) sc;let vu:bZ:=g8 (VI cu b9.int) 1 (c6 (sp+1)) (g8 (VI cu b9.int) 4 sp (g8 (VI cu b9.int) 3 sp (g8 (VI cu b9.int) 0 sp [])));let Fv:Bool:=decide ((771:Nat)=qY.length)&&decide (qY.length=771)&&ZQ 771 vu;let vw:=List.length (QM qY vu);let Fw:Bool:=decide ((771:Nat)=vw)&&decide (vw=771);let C4:bZ:=Q6 c kk 0 (List.drop 0 it) [];let Fx:bV:=D.bI (D.bI (D.sl b9.bR false now) (.bI (D.sl b9.bR false sure) Z1)) Z1;let Fy:bV:=D.bI (cj 0) Z1;let lE:fI:=none;let C5:bZ:=Q6 c kk 0 (List.take (kk*c-0).toNat (List.drop 0 it)) [];bif Qn now&&Qn sure then bif (bif Ql now sure then (0:Int)else (2:Int))!=0 then Z3 else bif (bif Yj c w d kk then (0:Int)else (2:Int))!=0 then Z3 else bif decide (Z4<=9223372036854775807/\Z5<=9223372036854775807/\Z6<=9223372036854775807/\Z7<=9223372036854775807)then bif !Qu (St.mk sp it l0 l1 l2 c0 c1 c2)then Z3 else bif Qd Z4 then bif decide (c6 (c*kk)<(Z4:Int))then some (D.cG (D.bI Z2 (D.bI (cj 120) Z1)))else bif Qd Z5 then bif decide ((Z5:Int)=(Z5:Int))&&true&&decide (Z5<=1000)then bif Qd Z6 then bif decide ((Z6:Int)=(Z6:Int))&&true&&decide (Z6<=1000)then bif Qd Z7 then bif decide ((Z7:Int)=(Z7:Int))&&true&&decide (Z7<=1000)then bif dO (mC=mC)&&dO (mD=mD)&&decide (kk=kk)&&true&&Yj c w d kk&&decide ((0:Int)=0/\Z4<=1000)&&yh it then bif decide ((Z4:Int)<kk*c)then bif ep then bif sF then bif xa then bif Fv then bif Fw&&ZQ 771 C4 then bif Nat.beq 771 (QM (QM qY vu) C4).length then some (D.cG (D.bI (D.bI (D.sl b9.int false (QM (QM qY vu) C4)) Fx) Fy))else lE else lE else lE else lE else lE else lE else bif ep then bif sF then bif xa then bif Fv then bif Fw&&ZQ 771 C5 then bif Nat.beq 771 (QM (QM qY vu) C5).length then some (D.cG (D.bI (D.bI (D.sl b9.int false (QM (QM qY vu) C5)) Fx) Fy))else lE else lE else lE else lE else lE else lE else lE else lE else lE else lE else lE else lE else lE else lE else lE else lE):=by kernel_rfl
theorem Qx6 cn now cs sure c w d kk sp ci it f0 l0 f1 l1 f2 l2 c0 c1 c2(h:(Qn now&&Qn sure&&decide (it.length<=9223372036854775807/\l0.length<=9223372036854775807/\l1.length<=9223372036854775807/\l2.length<=9223372036854775807))=true):Qpb cn now cs sure c w d kk sp ci it f0 l0 f1 l1 f2 l2 c0 c1 c2=some (.cG (.bI (cL .int false (bif ZY now sure c w d kk ⟨sp,it,l0,l1,l2,c0,c1,c2⟩==0 then Jq nC c kk ⟨sp,it,l0,l1,l2,c0,c1,c2⟩else[]) (.bI (cL .bR false (bif ZY now sure c w d kk ⟨sp,it,l0,l1,l2,c0,c1,c2⟩==0 then now else[]) (cL .bR false (bif ZY now sure c w d kk ⟨sp,it,l0,l1,l2,c0,c1,c2⟩==0 then sure else[]) .bN)) .bN)) (cH (ZY now sure c w d kk ⟨sp,it,l0,l1,l2,c0,c1,c2⟩) .bN))):=by
 (rw[Qx5];delta cj c6;conv=>zeta)
 rw[ai]at h;obtain⟨hg,hl⟩:=h
 have err:∀e:Int,ZY now sure c w d kk ⟨sp,it,l0,l1,l2,c0,c1,c2⟩=e->e≠0->some (D.cG (C:=RC) (.bI (cL .int false [] (.bI (cL .bR false [] (cL .bR false [] .bN)) .bN)) (cH e .bN)))=some (.cG (.bI (cL .int false (bif ZY now sure c w d kk ⟨sp,it,l0,l1,l2,c0,c1,c2⟩==0 then Jq nC c kk ⟨sp,it,l0,l1,l2,c0,c1,c2⟩else[]) (.bI (cL .bR false (bif ZY now sure c w d kk ⟨sp,it,l0,l1,l2,c0,c1,c2⟩==0 then now else[]) (cL .bR false (bif ZY now sure c w d kk ⟨sp,it,l0,l1,l2,c0,c1,c2⟩==0 then sure else[]) .bN)) .bN)) (cH (ZY now sure c w d kk ⟨sp,it,l0,l1,l2,c0,c1,c2⟩) .bN))):=fun e h1 h2=>by
  have h3:(e==0)=false:=by simpa using h2
  rw[h1];simp only[h3,ah]
 refine Qa hg ?_;cases hd:Ql now sure
 ·exact Qa rfl (err 2 (by simp only[ZY,hd,Bool.false_and,ah]) (by decide))
 refine Qq rfl ?_;cases hs:Yj c w d kk
 ·exact Qa rfl (err 2 (by simp only[ZY,hs,Bool.and_false,Bool.false_and,ah]) (by decide))
 refine Qq rfl (Qa hl ?_);cases ht:Qu ⟨sp,it,l0,l1,l2,c0,c1,c2⟩
 ·exact Qa rfl (err 2 (by simp only[ZY,ht,Bool.and_false,ah]) (by decide))
 refine Qq rfl ?_;obtain⟨b1,c4,_,_,_,_,q4,p8⟩:=Ji hs;obtain⟨hp,hn,hi,⟨n0,h0⟩,⟨n1,h1⟩,⟨n2,h2⟩⟩:=J3 ht
 dsimp only at hp hn hi n0 h0 n1 h1 n2 h2
 have p0:0<=c*kk:=Int.mul_nonneg (by omega) (by omega);have p1:c*kk<=4*40:=Int.mul_le_mul (by omega) (by omega) (by omega) (by omega);have pc:kk*c=c*kk:=Int.mul_comm _ _;have w1:IntKind.i64.wrap (c*kk)=c*kk:=cC (by omega) (by omega);refine Qa (Qe (by omega)) ?_;simp only[w1,pc,bG,Int.sub_zero]
 by_cases hr:c*kk<it.length
 ·exact Qa (by simpa using hr) (err 120 (by simp only[ZY,hd,hs,ht,au,ag,ab hr]) (by decide))
 refine Qq (by simpa using hr) ?_;have hE:ZY now sure c w d kk ⟨sp,it,l0,l1,l2,c0,c1,c2⟩=0:=by simp only[ZY,hd,hs,ht,au,ag,ad hr,ah]
 have hib:yh it=true:=aX.2 fun x hx=>by have:=hi x hx;simp;omega
 have K0:ZQ 771 (Yv 0 (fU [] 48 c0) l0)=true:=KE (by decide) (by decide) (Q2 (by decide) (by decide) rfl) fun x hx=>(h0 x hx).1;have K1:ZQ 771 (Yv 1 (fU [] 49 c1) l1)=true:=KE (by decide) (by decide) (Q2 (by decide) (by decide) rfl) fun x hx=>(h1 x hx).1;have K2:ZQ 771 (Yv 2 (fU [] 50 c2) l2)=true:=KE (by decide) (by decide) (Q2 (by decide) (by decide) rfl) fun x hx=>(h2 x hx).1;have KB:=QrM sp;have KI:ZQ 771 (Q6 c kk 0 it [])=true:=Xl b1 c4 q4 p8 rfl (fun x hx=>⟨(hi x hx).1,(hi x hx).2.1⟩) (by simp;omega);rw[hE];refine Qa (Qe (by omega)) (Qa (by simp;omega) (Qa (Qe (by omega)) (Qa (by simp;omega) (Qa (Qe (by omega)) (Qa (by simp;omega) (Qa (eK (eK (eK (eK (eK (eK (Q1 (by first|exact trivial|kernel_rfl)) (Q1 (by first|exact trivial|kernel_rfl))) (by simp)) rfl) rfl) (by simp;omega)) hib) ?_))))));have L0:(771:Nat)=nC.length:=Ut.symm;have L1:∀m,(771:Nat)=(QM nC m).length:=fun m=>by rw[Jj];exact L0
 have L2:∀m n,(771:Nat)=(QM (QM nC m) n).length:=fun m n=>by rw[Jj];exact L1 m
 have L3:∀m n o,(771:Nat)=(QM (QM (QM nC m) n) o).length:=fun m n o=>by rw[Jj];exact L2 m n
 have L4:∀m n o p,(771:Nat)=(QM (QM (QM (QM nC m) n) o) p).length:=fun m n o p=>by rw[Jj];exact L3 m n o
 have L5:∀m n o p q,(771:Nat)=(QM (QM (QM (QM (QM nC m) n) o) p) q).length:=fun m n o p q=>by rw[Jj];exact L4 m n o p
 have two:∀{n:Nat},771=n->(decide (771=n)&&decide (n=771))=true:=fun e=>by subst e;rfl
 refine Qw (fun hq=>?_) fun hq=>?_
 ·exact Qa (eK (two L0) K0) (Qa (eK (two (L1 _)) K1) (Qa (eK (two (L2 _ _)) K2) (Qa (eK (two (L3 _ _ _)) KB) (Qa (eK (two (L4 _ _ _ _)) KI) (Qa (Zp (L5 _ _ _ _ _)) rfl)))))
 ·rw[show it.take (c*kk).toNat=it from List.take_of_length_le (by simp at hq;omega)];exact Qa (eK (two L0) K0) (Qa (eK (two (L1 _)) K1) (Qa (eK (two (L2 _ _)) K2) (Qa (eK (two (L3 _ _ _)) KB) (Qa (eK (two (L4 _ _ _ _)) KI) (Qa (Zp (L5 _ _ _ _ _)) rfl)))))
def Ce:=Cd.b8 24 QkO
theorem Qx7:Qk Tryz.prog cu Ce:=Qx4.iv Qb fun args d h=>by
 unfold QkO at h
 split at h
 ·obtain⟨h1,rfl⟩:=ak h;exact⟨by simp[D.refs],200,Qx6 _ _ _ _ _ _ _ _ _ _ _ _ _ _ _ _ _ _ _ _ h1⟩
 ·cases h
def sD(cs:bQ)(s:Int)(x:Item):bQ:=(((cs.set (dt 291 s 0 160 3).toNat 3).set (dt 291 s 1 160 3).toNat 0).set (dt 291 s 2 160 3).toNat (IntKind.i64.wrap (IntKind.i64.wrap (x.key*256)+x.value))).set (dY 21 x.key 24).toNat (iN x.place (256+s))
def YW(c k:Int):Nat->bM->bQ->bQ
 |_,[],cs=>cs
 |n,x::l,cs=>YW c k (n+1) l (sD cs (Jy c k n) x)
theorem Oi cs s x:(sD cs s x).length=cs.length:=by simp[sD]
theorem Xv c k:∀(l:bM) (n:Nat) (cs:bQ),(YW c k n l cs).length=cs.length
 |[],_,_=>rfl
 |x::l,n,cs=>by unfold YW;rw[Xv c k l,Oi]
def Zv(q:Int)(l:bJ)(cs:bQ):bQ:=l.foldl (fun cs x=>(cs.set (da q x.offset).toNat (fx x)).set (dY 45 q 3).toNat (IntKind.i64.wrap (x.offset+1))) cs
theorem Vc(q:Int):∀(l:bJ) (cs:bQ),(Zv q l cs).length=cs.length
 |[],_=>rfl
 |x::l,cs=>by
  have:=Vc q l ((cs.set (da q x.offset).toNat (fx x)).set (dY 45 q 3).toNat (IntKind.i64.wrap (x.offset+1)));simp only[Zv,List.foldl_cons]at this ⊢;rw[this];simp
theorem Jk{n:Nat}{k v:Int}(h0:0<=k):∀{m:bZ} {cs:bQ},ZQ n m=true->QM cs (fU m k v)=(QM cs m).set k.toNat v
 |[],cs,_=>rfl
 |(a,b)::m,cs,h=>by
  simp only[ZQ,ai,aa,aX]at h;obtain⟨⟨⟨a0,a1⟩,a2⟩,a3⟩:=h
  have nn:∀{l:bZ},ZQ n l=true->∀p∈l,0<=p.1:=by
   intro l
   induction l with
   |nil=>intro _ p hp;cases hp
   |cons y l ih=>
    intro hk p hp;obtain⟨y1,y2⟩:=y;simp only[ZQ,ai,aa]at hk;rcases aZ.1 hp with rfl|hp
    ·exact hk.1.1.1
    ·exact ih hk.2 p hp
  unfold fU g8
  by_cases hk:k=a
  ·rw[ab hk];subst hk;simp only[ag];have e1:QM cs ((k,v)::m)=QM (cs.set k.toNat v) m:=rfl;have e2:QM cs ((k,b)::m)=QM (cs.set k.toNat b) m:=rfl;rw[e1,e2,<-Hx h0 m (cs.set k.toNat b) (fun p hp=>⟨a2 p hp,nn a3 p hp⟩),List.set_set]
  ·rw[ad hk];simp only[ah];exact Jk (m:=m) (cs:=cs.set a.toNat b) h0 a3
theorem QrN{m:bZ}{s:Int}{x:Item}{cs:bQ}(h:ZQ 771 m=true)(s0:0<=s)(s1:s<160)(k0:0<=x.key)(k1:x.key<=23):QM cs (vj m s x)=sD (QM cs m) s x:=by
 have e:∀f:Int,0<=f->f<=2->0<=dt 291 s f 160 3/\dt 291 s f 160 3<771:=fun f f0 f1=>by unfold dt;rw[ax (by omega)];omega
 have e2:0<=dY 21 x.key 24/\dY 21 x.key 24<771:=by unfold dY;rw[ax (by omega)];omega
 have f0:=e 0 (by omega) (by omega);have f1:=e 1 (by omega) (by omega);have f2:=e 2 (by omega) (by omega);have g0:=Q2 (v:=(3:Int)) f0.1 f0.2 h;have g1:=Q2 (v:=(0:Int)) f1.1 f1.2 g0;have g2:=Q2 (v:=IntKind.i64.wrap (IntKind.i64.wrap (x.key*256)+x.value)) f2.1 f2.2 g1;unfold vj sD;rw[Jk e2.1 g2,Jk f2.1 g1,Jk f1.1 g0,Jk f0.1 h]
theorem Xm{c kk:Int}{cs:bQ}(c1:1<=c)(c4:c<=4)(q4:4<=kk)(p8:kk<=40):∀{l:bM} {n:Nat} {m:bZ},ZQ 771 m=true->(∀x∈l,0<=x.key/\x.key<=23)->(n:Int)+l.length<=c*kk->QM cs (Q6 c kk n l m)=YW c kk n l (QM cs m)
 |[],n,m,_,_,_=>rfl
 |x::l,n,m,h,hx,hn=>by
  have h0:=hx x aV;simp only[aE]at hn;obtain⟨s0,s1⟩:=NF (n:=n) c1 c4 q4 p8 (by omega);unfold Q6 YW;rw[Xm c1 c4 q4 p8 (Xu h s0 s1 h0.1 h0.2) (fun y hy=>hx y (aS _ hy)) (by omega),QrN h s0 s1 h0.1 h0.2]
theorem Xn{q:Int}{cs:bQ}(q0:0<=q)(q1:q<=2):∀{l:bJ} {m:bZ},ZQ 771 m=true->(∀x∈l,0<=x.offset)->QM cs (Yv q m l)=Zv q l (QM cs m)
 |[],m,_,_=>rfl
 |x::l,m,h,hx=>by
  have h0:=hx x aV;have e1:da q x.offset=51+16*q+x.offset%16:=by unfold da;rw[ax ⟨q0,q1,h0⟩]
  have e2:dY 45 q 3=45+q:=by unfold dY;rw[ax (by omega)]
  have g0:=Q2 (k:=da q x.offset) (v:=fx x) (by rw[e1];omega) (by rw[e1];omega) h;have g1:=Q2 (k:=dY 45 q 3) (v:=IntKind.i64.wrap (x.offset+1)) (by rw[e2];omega) (by rw[e2];omega) g0;have ih:=Xn (cs:=cs) q0 q1 (l:=l) g1 (fun y hy=>hx y (aS _ hy));simp only[Yv,Zv,List.foldl_cons]at ih ⊢;rw[ih,Jk (by rw[e2];omega) g0,Jk (by rw[e1];omega) h]
theorem nl{q:Int}{k:Nat}{v:Int}(q0:0<=q)(q1:q<=2)(hk:48<=k)(uH:k<=50):∀{l:bJ} {cs:bQ},(∀x∈l,0<=x.offset)->Zv q l (cs.set k v)=(Zv q l cs).set k v
 |[],cs,_=>rfl
 |x::l,cs,hx=>by
  have h0:=hx x aV;have e1:da q x.offset=51+16*q+x.offset%16:=by unfold da;rw[ax ⟨q0,q1,h0⟩]
  have e2:dY 45 q 3=45+q:=by unfold dY;rw[ax (by omega)]
  have ih:=nl (k:=k) (v:=v) q0 q1 hk uH (l:=l) (cs:=(cs.set (da q x.offset).toNat (fx x)).set (dY 45 q 3).toNat (IntKind.i64.wrap (x.offset+1))) (fun y hy=>hx y (aS _ hy));simp only[Zv,List.foldl_cons]at ih ⊢;rw[<-ih,List.set_comm (i:=k) (j:=(da q x.offset).toNat) v (fx x) (by rw[e1];omega),List.set_comm (i:=k) (j:=(dY 45 q 3).toNat) v _ (by rw[e2];omega)]
theorem NG:∀{m1 m2:bZ} {cs:bQ},(∀p∈m1,∀r∈m2,p.1≠r.1/\0<=p.1/\0<=r.1)->QM (QM cs m1) m2=QM (QM cs m2) m1
 |m1,[],cs,_=>rfl
 |m1,(k,v)::m2,cs,h=>by
  by_cases h1:m1=[]
  ·subst h1;rfl
  ·have tf:0<=k:=by
    cases m1 with
    |nil=>exact absurd rfl h1
    |cons p m=>exact(h p aV (k,v) aV).2.2
   have e1:∀c:bQ,QM c ((k,v)::m2)=QM (c.set k.toNat v) m2:=fun _=>rfl;rw[e1,e1,<-Hx tf m1 cs (fun p hp=>⟨(h p hp _ aV).1,(h p hp _ aV).2.1⟩)];exact NG fun p hp r hr=>h p hp r (aS _ hr)
theorem YX{P:Int->Prop}{m:bZ}{k v:Int}(hm:∀p∈m,P p.1)(hk:P k):∀p∈fU m k v,P p.1:=by
 intro p hp;rcases nq hp with e|⟨q,hq,e⟩
 ·rw[e];exact hk
 ·rw[<-e];exact hm q hq
def ss(k:Int):Prop:=45<=k/\k<=98
def xB(k:Int):Prop:=(21<=k/\k<=44)\/291<=k
def rY(k:Int):Prop:=0<=k/\k<5
theorem Qpc{q:Int}(q0:0<=q)(q1:q<=2):∀{l:bJ} {m:bZ},(∀p∈m,ss p.1)->(∀x∈l,0<=x.offset)->∀p∈Yv q m l,ss p.1
 |[],m,h,_=>h
 |x::l,m,h,hx=>by
  have h0:=hx x aV;have e1:da q x.offset=51+16*q+x.offset%16:=by unfold da;rw[ax ⟨q0,q1,h0⟩]
  have e2:dY 45 q 3=45+q:=by unfold dY;rw[ax (by omega)]
  have ih:=Qpc q0 q1 (l:=l) (YX (YX h (show ss (da q x.offset)by unfold ss;rw[e1];omega)) (show ss (dY 45 q 3)by unfold ss;rw[e2];omega)) (fun y hy=>hx y (aS _ hy)) (m:=fU (fU m (da q x.offset) (fx x)) (dY 45 q 3) (IntKind.i64.wrap (x.offset+1)));simp only[Yv,List.foldl_cons]at ih ⊢;exact ih
theorem Qpd{c kk:Int}(c1:1<=c)(c4:c<=4)(q4:4<=kk)(p8:kk<=40):∀{l:bM} {n:Nat} {m:bZ},(∀p∈m,xB p.1)->(∀x∈l,0<=x.key/\x.key<=23)->(n:Int)+l.length<=c*kk->∀p∈Q6 c kk n l m,xB p.1
 |[],n,m,h,_,_=>h
 |x::l,n,m,h,hx,hn=>by
  have h0:=hx x aV;simp only[aE]at hn;obtain⟨s0,s1⟩:=NF (n:=n) c1 c4 q4 p8 (by omega);have e:∀f:Int,0<=f->f<=2->xB (dt 291 (Jy c kk n) f 160 3):=fun f f0 f1=>by unfold dt xB;rw[ax (by omega)];omega
  have e2:xB (dY 21 x.key 24):=by unfold dY xB;rw[ax (by omega)];omega
  unfold Q6;refine Qpd c1 c4 q4 p8 ?_ (fun y hy=>hx y (aS _ hy)) (by omega);unfold vj;exact YX (YX (YX (YX h (e 0 (by omega) (by omega))) (e 1 (by omega) (by omega))) (e 2 (by omega) (by omega))) e2
def Wq(n0:bQ)(c kk:Int)(s:St):bQ :=
 (Zv 2 s.l2 ((Zv 1 s.l1 ((Zv 0 s.l0 (YW c kk 0 s.items ((((n0.set 0 s.place).set 3 s.place).set 4 s.place).set 1 (IntKind.i64.wrap (s.place+1))))).set 48 s.c0)).set 49 s.c1)).set 50 s.c2
theorem QGv{n0:bQ}{c kk:Int}{s:St}(c1:1<=c)(c4:c<=4)(q4:4<=kk)(p8:kk<=40)(hi:∀x∈s.items,0<=x.key/\x.key<=23)(hn:(s.items.length:Int)<=c*kk)
 (h0:∀x∈s.l0,0<=x.offset) (h1:∀x∈s.l1,0<=x.offset) (h2:∀x∈s.l2,0<=x.offset):Wq n0 c kk s=Jq n0 c kk s:=by
 have line:∀(q k:Int) (v:Int) (l:bJ) (cs:bQ),0<=q->q<=2->k=48+q->(∀x∈l,0<=x.offset)->QM cs (Yv q (fU [] k v) l)=(Zv q l cs).set k.toNat v:=fun q k v l cs q0 q1 hk hl=>by
  rw[Xn q0 q1 (Q2 (by omega) (by omega) rfl) hl,show QM cs (fU [] k v)=cs.set k.toNat v from rfl,nl q0 q1 (by omega) (by omega) hl]
 have L:∀(q k:Int) (v:Int) (l:bJ),0<=q->q<=2->k=48+q->(∀x∈l,0<=x.offset)->∀p∈Yv q (fU [] k v) l,ss p.1:=fun q k v l q0 q1 hk hl=>
  Qpc q0 q1 (YX (fun p hp=>by cases hp) (by unfold ss;omega)) hl
 have I:∀p∈Q6 c kk 0 s.items [],xB p.1:=Qpd c1 c4 q4 p8 (fun p hp=>by cases hp) hi (by simpa using hn)
 have B:∀p∈yn s.place,rY p.1:=by
  unfold yn;exact YX (YX (YX (YX (fun p hp=>by cases hp) (by unfold rY;omega)) (by unfold rY;omega)) (by unfold rY;omega)) (by unfold rY;omega)
 have Th:∀{m:bZ} {cs:bQ},(∀p∈m,ss p.1)->QM (QM cs m) (yn s.place)=QM (QM cs (yn s.place)) m:=fun hm=>NG fun p hp r hr=>by
  have a:=hm p hp;have b:=B r hr;unfold ss at a;unfold rY at b;omega
 have Ti:∀{m:bZ} {cs:bQ},(∀p∈m,ss p.1)->QM (QM cs m) (Q6 c kk 0 s.items [])=QM (QM cs (Q6 c kk 0 s.items [])) m:=fun hm=>NG fun p hp r hr=>by
  have a:=hm p hp;have b:=I r hr;unfold ss at a;unfold xB at b;omega
 have L0:=L 0 48 s.c0 s.l0 (by omega) (by omega) (by omega) h0;have L1:=L 1 49 s.c1 s.l1 (by omega) (by omega) (by omega) h1;have L2:=L 2 50 s.c2 s.l2 (by omega) (by omega) (by omega) h2;unfold Jq
 rw[Th L2,Th L1,Th L0,Ti L2,Ti L1,Ti L0,line 2 50 _ _ _ (by omega) (by omega) (by omega) h2,line 1 49 _ _ _ (by omega) (by omega) (by omega) h1,line 0 48 _ _ _ (by omega) (by omega) (by omega) h0,
  Xm c1 c4 q4 p8 rfl hi (by simpa using hn)]
 rfl
def j8(now sure:bK)(c w d k:Int):Int:=bif J2 now sure c w d k==0 then ZY now sure c w d k (Q7 now sure c w d k)else J2 now sure c w d k
def l7(now sure:bK)(c w d k:Int):bK:=eD now sure 32 (Q7 now sure c w d k).place (eN (Q7 now sure c w d k).place (Q7 now sure c w d k))
def tZ(now sure:bK)(c w d k:Int):bK:=Zj now sure 32 (Q7 now sure c w d k).place (eN (Q7 now sure c w d k).place (Q7 now sure c w d k))
def uQ(now sure:bK)(c w d k stop:Int):bK:=bif j8 now sure c w d k==0 then(bif decide (stop<=0)then now else l7 now sure c w d k)else[]
def KF(now sure:bK)(c w d k stop:Int):bK:=bif j8 now sure c w d k==0 then(bif decide (stop<=0)then sure else bif stop==1 then tZ now sure c w d k else l7 now sure c w d k)else[]
def ZM(n0:bQ)(now sure:bK)(c w d k stop:Int):bQ:=bif j8 now sure c w d k==0 then(bif decide (3<=stop)then Jq n0 c k (Q7 now sure c w d k)else[])else[]
theorem QrO now sure c w d k:(Q7 now sure c w d k).items.length<=152/\(Q7 now sure c w d k).l0.length<=16/\(Q7 now sure c w d k).l1.length<=16/\(Q7 now sure c w d k).l2.length<=16:=by
 unfold Q7;cases J2 now sure c w d k==0
 ·simp[Tn]
 ·exact QBT now sure
theorem Uu{now sure:bK}{c w d k:Int}(h1:J2 now sure c w d k=0)(h2:ZY now sure c w d k (Q7 now sure c w d k)=0):Ql now sure=true/\Yj c w d k=true/\Qu (Q7 now sure c w d k)=true/\¬c*k<((Q7 now sure c w d k).items.length:Int)/\QH now sure 32 (Q7 now sure c w d k).place (eN (Q7 now sure c w d k).place (Q7 now sure c w d k))=true:=by
 unfold ZY at h2;cases hd:Ql now sure
 ·rw[hd]at h2;simp at h2
 cases hs:Yj c w d k
 ·rw[hs]at h2;simp at h2
 cases ht:Qu (Q7 now sure c w d k)
 ·rw[ht]at h2;simp at h2
 have hr:¬c*k<((Q7 now sure c w d k).items.length:Int):=fun q=>by
  rw[hd,hs,ht,ab q]at h2;simp at h2
 refine⟨rfl,rfl,rfl,hr,?_⟩;rw[Qof,hd];obtain⟨⟨p0,p1⟩,_⟩:=J3 ht
 have hw:1<=(Q7 now sure c w d k).place:=by
  have hb:J2 now sure c w d k=YV (Yd now sure).place w:=by simp only[J2,hd,hs,au,ag]
  have he:YV (Yd now sure).place w=0:=by rw[<-hb];exact h1
  have e1:(Q7 now sure c w d k).place=(Yd now sure).place+w:=by simp[Q7,h1,uY,he]
  rw[e1];unfold YV at he
  by_cases q:0<=(Yd now sure).place/\(Yd now sure).place<=1048575/\2<=w/\w<=8
  ·omega
  ·rw[ad q]at he;simp at he
 simp only[fF,ht,Bool.and_true,Bool.true_and,ai,aa];omega
open Go.Proofs
structure Qha where
 (a:Bool)(nw:bK)(b:Bool)(sure:bK)(z:Bool)(now:bK)(i:Nat)
def Oj(a:Bool)(nw:bK)(b:Bool)(sure:bK)(z:Bool)(now:bK)(i:Nat):bX:=[(1,.int .u64 0),(2,.ptr 0 []),(6,.sl (C:=RC) .bR z now),(16,.int .i64 (now.length)),(17,.int .i64 (i:Int))]
def J4(a:Bool)(nw:bK)(b:Bool)(sure:bK)(z:Bool)(now:bK)(i:Nat):bP:=[.var 24 (cL .bR a nw (cL .bR b sure .bN))]
def QkP a nw b sure z now i:=dQ cu Ce 165 5 40 1 [1,2,6,16,17] [] [.slot 2 0] (Oj a nw b sure z now i) (J4 a nw b sure z now i)
theorem QrP a nw b sure z now i:QkP a nw b sure z now i=(let Z0:Int:=(now.length:Int);let Z1:cb:=[some (Obj.var 24 (.bI (D.sl b9.bR a nw) (.bI (D.sl b9.bR b sure) .bN)))];bif decide ((i:Int)<Z0)then some ((X.normal,[(1,D.int IntKind.u64 0),(2,D.ptr 0 []),(6,D.sl b9.bR z now),(16,cj Z0),(17,cj (c6 ((i:Int)+1)))]),Z1)else some ((X.exit 0,[]),Z1)):=by kernel_rfl
def Xo(a:Bool)(nw:bK)(b:Bool)(sure:bK)(z:Bool)(now:bK)(i:Nat):RT RC:=.leaf (.exit 0) [] (J4 a nw b sure z now i)
def Jl(a:Bool)(nw:bK)(b:Bool)(sure:bK)(z:Bool)(now:bK)(i:Nat):Prop:=i<=now.length/\now.length<=33
def J5:QD RC Qha where
 k:=1
 cM q:=Oj q.a q.nw q.b q.sure q.z q.now q.i
 cK q:=J4 q.a q.nw q.b q.sure q.z q.now q.i
 fin q:=Xo q.a q.nw q.b q.sure q.z q.now q.i
 Inv q:=Jl q.a q.nw q.b q.sure q.z q.now q.i
 μ q:=q.now.length-q.i
theorem Qiq a nw b sure z now i(hI:Jl a nw b sure z now i):c8 (QkP a nw b sure z now i) (dj J5 ⟨a,nw,b,sure,z,now,i⟩):=by
 (rw[QrP];delta cj c6;conv=>zeta)
 unfold Jl at hI;obtain⟨h1,h2⟩:=hI
 by_cases cU:i<now.length
 ·have cP:=eG i (by omega)
  have eu:=ga (show i<now.length by omega)
  have et:=fL (show i<now.length by omega)
  have dh:=bw i
  simp only[cP,eu,et,dh,ag];exact Qi ⟨a,nw,b,sure,z,now,i+1⟩ ⟨cU,h2⟩ (by simp only[J5];omega) rfl rfl rfl
 ·have c1:decide ((i:Int)<now.length)=false:=by simp;omega
  simp only[c1,ah];exact Qh (J4 a nw b sure z now i) rfl rfl
def Ok(env:bX)(os:bP):Option (Bool×Qha):=match env,os with
 |[(1,.int .u64 0),(2,.ptr 0 []),(6,.sl .bR z now),(16,.int .i64 x0),(17,.int .i64 x1)],[.var 24 (.bI (.sl .bR a nw) (.bI (.sl .bR b sure) .bN))]=>some (decide (x0=now.length)&&decide (x1=0)&&decide (now.length<=33),⟨a,nw,b,sure,z,now,0⟩)
 |_,_=>none
def zO:=Ce.cJ 165 5 (ey cu [.slot 2 0] [1,2,6,16,17] J5 Ok)
theorem Qx8:Qk Tryz.prog cu zO:=by
 refine Qx7.cq Qb (by kernel_rfl) J5 40 [1,2,6,16,17] [] [.slot 2 0] [1,2,6,16,17] Ok (fun q hI=>?_) ?_
 ·obtain⟨a,nw,b,sure,z,now,i⟩:=q;refine⟨?_,?_,Qiq a nw b sure z now i hI⟩
  ·simp_all[Qj,J5,Oj,J4,Jl,D.refs,Obj.refs,cV]
  ·simp_all[J5,Xo,J4,Jl,RT.cT,Qj,D.refs,Obj.refs,cV]
 ·intro env os b q cN hb;unfold Ok at cN
  split at cN
  ·cases cN;simp only[ai,aa]at hb;obtain⟨⟨rfl,rfl⟩,hl⟩:=hb;exact⟨⟨aK _,hl⟩,rfl,rfl⟩
  ·cases cN
def Qpe:bW->bO
 |[.bI (.sl .bR c now) (.bI (.sl .bR d sure) .bN)]=>some (Qn now&&Qn sure,.cG (.bI (cL .bR (!Ql now sure) (bif Ql now sure then now else[]) (cL .bR (!Ql now sure) (bif Ql now sure then now else[]) .bN)) (cH (bif Ql now sure then 0 else 2) .bN)))
 |_=>none
def Qya(c:Bool)(now:bK)(d:Bool)(sure:bK):=eO cu zO 40 105 [.bI (.sl (C:=RC) .bR c now) (cL .bR d sure .bN)]
theorem QB0 c now d sure:Qya c now d sure=(let Z0:bV:=D.sl b9.bR true [];let Z1:=now.length;let Z2:Bool:=decide ((0:Nat)<Z1/\Z1<=1000000);let Z3:bV:=D.sl b9.bR false now;b7 (Qn now&&Qn sure) (bif (bif Ql now sure then (0:Int)else (2:Int))!=0 then some (D.cG (D.bI (D.bI Z0 (D.bI Z0 .bN)) (.bI (cj 2) .bN)))else b7 Z2 (b7 (Qd Z1) (b7 (decide ((Z1:Int)=(Z1:Int))&&true&&decide (Z1<=33)) (b7 Z2 (some (D.cG (D.bI (D.bI Z3 (D.bI Z3 .bN)) (.bI (cj 0) .bN))))))))):=by kernel_rfl
theorem QB1 c now d sure(h:(Qn now&&Qn sure)=true):Qya c now d sure=some (.cG (.bI (cL .bR (!Ql now sure) (bif Ql now sure then now else[]) (cL .bR (!Ql now sure) (bif Ql now sure then now else[]) .bN)) (cH (bif Ql now sure then 0 else 2) .bN))):=by
 (rw[QB0];delta b7 cj;conv=>zeta)
 refine Qa h ?_;cases hd:Ql now sure
 ·exact Qa rfl rfl
 refine Qq rfl ?_;obtain⟨l1,l2⟩:=Zg hd;have d1:decide (0<now.length/\now.length<=1000000)=true:=ab (by omega);exact Qa d1 (Qa (Qe (by omega)) (Qa (by simp;omega) (Qa d1 rfl)))
def zP:=zO.b8 105 Qpe
theorem Qyb:Qk Tryz.prog cu zP:=Qx8.cQ Qb fun args d h=>by
 unfold Qpe at h
 split at h
 ·obtain⟨h1,rfl⟩:=ak h;exact⟨by simp[D.refs],40,QB1 _ _ _ _ h1⟩
 ·cases h
structure Qpf where
 (c w d k sp:Int)(ci:Bool)(it:bM)(f0:Bool)(l0:bJ)(f1:Bool)(l1:bJ)(f2:Bool)(l2:bJ)(c0 c1 c2:Int)(cc:Bool)(cells:bQ)(cn:Bool)(now:bK)(cs:Bool)(sure:bK)
def Pe(c w d k sp:Int)(ci:Bool)(it:bM)(f0:Bool)(l0:bJ)(f1:Bool)(l1:bJ)(f2:Bool)(l2:bJ)(c0 c1 c2:Int)(cc:Bool)(cells:bQ)(cn:Bool)(now:bK)(cs:Bool)(sure:bK):bW:=[.ptr 0 []]
def EW(c w d k sp:Int)(ci:Bool)(it:bM)(f0:Bool)(l0:bJ)(f1:Bool)(l1:bJ)(f2:Bool)(l2:bJ)(c0 c1 c2:Int)(cc:Bool)(cells:bQ)(cn:Bool)(now:bK)(cs:Bool)(sure:bK):bP:=[.var 87 (.bI (cH c (cH w (cH d (cH k .bN)))) (.bI (cH sp (cL .item ci it (.bI (cL .line f0 l0 (cL .line f1 l1 (cL .line f2 l2 .bN))) (.bI (.arr (C:=RC) .int 3 [c0,c1,c2]) .bN)))) (.bI (cL .int cc cells (.bI (cL .bR cn now (cL .bR cs sure .bN)) .bN)) .bN)))]
def Qyc c w d k sp ci it f0 l0 f1 l1 f2 l2 c0 c1 c2 cc cells cn now cs sure:=C7 cu zP 44 60 1 (Pe c w d k sp ci it f0 l0 f1 l1 f2 l2 c0 c1 c2 cc cells cn now cs sure) (EW c w d k sp ci it f0 l0 f1 l1 f2 l2 c0 c1 c2 cc cells cn now cs sure)
theorem QB2 c w d k sp ci it f0 l0 f1 l1 f2 l2 c0 c1 c2 cc cells cn now cs sure:Qyc c w d k sp ci it f0 l0 f1 l1 f2 l2 c0 c1 c2 cc cells cn now cs sure=(let Z0:bL:=eN sp (St.mk sp it l0 l1 l2 c0 c1 c2);let Z1:=QH now sure 32 sp Z0;let Z2:bV:=.bN;b7 (Qn now&&Qn sure&&decide (it.length<=9223372036854775807/\l0.length<=9223372036854775807/\l1.length<=9223372036854775807/\l2.length<=9223372036854775807)) (some (cj (bif Z1 then (0:Int)else (2:Int)),[some (Obj.var 87 (.bI (D.bI (cj c) (.bI (cj w) (.bI (cj d) (.bI (cj k) Z2)))) (.bI (D.bI (cj sp) (.bI (D.sl b9.item ci it) (.bI (D.bI (D.sl b9.line f0 l0) (.bI (D.sl b9.line f1 l1) (.bI (D.sl b9.line f2 l2) Z2))) (.bI (D.arr b9.int 3 [c0,c1,c2]) Z2)))) (.bI (D.bI (D.sl b9.int cc cells) (.bI (D.bI (D.sl b9.bR (!Z1) (eD now sure 32 sp Z0)) (.bI (D.sl b9.bR (!Z1) (Zj now sure 32 sp Z0)) Z2)) Z2)) Z2))))]))):=by kernel_rfl
def QkQ(c w d k sp:Int)(ci:Bool)(it:bM)(f0:Bool)(l0:bJ)(f1:Bool)(l1:bJ)(f2:Bool)(l2:bJ)(c0 c1 c2:Int)(cc:Bool)(cells:bQ)(cn:Bool)(now:bK)(cs:Bool)(sure:bK):RT RC:=.leaf .ret [(0,.int .i64 (bif QH now sure 32 sp (eN sp ⟨sp,it,l0,l1,l2,c0,c1,c2⟩)then 0 else 2))] (EW c w d k sp ci it f0 l0 f1 l1 f2 l2 c0 c1 c2 cc cells (!QH now sure 32 sp (eN sp ⟨sp,it,l0,l1,l2,c0,c1,c2⟩)) (eD now sure 32 sp (eN sp ⟨sp,it,l0,l1,l2,c0,c1,c2⟩)) (!QH now sure 32 sp (eN sp ⟨sp,it,l0,l1,l2,c0,c1,c2⟩)) (Zj now sure 32 sp (eN sp ⟨sp,it,l0,l1,l2,c0,c1,c2⟩)))
def Ol(c w d k sp:Int)(ci:Bool)(it:bM)(f0:Bool)(l0:bJ)(f1:Bool)(l1:bJ)(f2:Bool)(l2:bJ)(c0 c1 c2:Int)(cc:Bool)(cells:bQ)(cn:Bool)(now:bK)(cs:Bool)(sure:bK):Prop:=(Qn now=true/\Qn sure=true)/\it.length<=9223372036854775807/\l0.length<=9223372036854775807/\l1.length<=9223372036854775807/\l2.length<=9223372036854775807
def EX:nR RC Qpf where
 k:=1
 args q:=Pe q.c q.w q.d q.k q.sp q.ci q.it q.f0 q.l0 q.f1 q.l1 q.f2 q.l2 q.c0 q.c1 q.c2 q.cc q.cells q.cn q.now q.cs q.sure
 cK q:=EW q.c q.w q.d q.k q.sp q.ci q.it q.f0 q.l0 q.f1 q.l1 q.f2 q.l2 q.c0 q.c1 q.c2 q.cc q.cells q.cn q.now q.cs q.sure
 fin q:=QkQ q.c q.w q.d q.k q.sp q.ci q.it q.f0 q.l0 q.f1 q.l1 q.f2 q.l2 q.c0 q.c1 q.c2 q.cc q.cells q.cn q.now q.cs q.sure
 Inv q:=Ol q.c q.w q.d q.k q.sp q.ci q.it q.f0 q.l0 q.f1 q.l1 q.f2 q.l2 q.c0 q.c1 q.c2 q.cc q.cells q.cn q.now q.cs q.sure
theorem QB3 c w d k sp ci it f0 l0 f1 l1 f2 l2 c0 c1 c2 cc cells cn now cs sure(hI:Ol c w d k sp ci it f0 l0 f1 l1 f2 l2 c0 c1 c2 cc cells cn now cs sure):c8 (Qyc c w d k sp ci it f0 l0 f1 l1 f2 l2 c0 c1 c2 cc cells cn now cs sure) (p9 EX ⟨c,w,d,k,sp,ci,it,f0,l0,f1,l1,f2,l2,c0,c1,c2,cc,cells,cn,now,cs,sure⟩):=by
 (rw[QB2];delta b7 cj;conv=>zeta)
 unfold Ol at hI;have h0:=hI;obtain⟨⟨g1,g2⟩,hl⟩:=hI;rw[g1,g2,ab hl];simp only[au,ag];exact Hu _ rfl rfl
def Pf(env:bX)(os:bP):Option (Bool×Qpf):=match env,os with
 |[(0,.ptr 0 [])],[.var 87 (.bI (.bI (.int .i64 c) (.bI (.int .i64 w) (.bI (.int .i64 d) (.bI (.int .i64 k) .bN)))) (.bI (.bI (.int .i64 sp) (.bI (.sl .item ci it) (.bI (.bI (.sl .line f0 l0) (.bI (.sl .line f1 l1) (.bI (.sl .line f2 l2) .bN))) (.bI (.arr .int 3 [c0,c1,c2]) .bN)))) (.bI (.bI (.sl .int cc cells) (.bI (.bI (.sl .bR cn now) (.bI (.sl .bR cs sure) .bN)) .bN)) .bN)))]=>Qt (true) (Qn now&&Qn sure&&decide (it.length<=9223372036854775807/\l0.length<=9223372036854775807/\l1.length<=9223372036854775807/\l2.length<=9223372036854775807),⟨c,w,d,k,sp,ci,it,f0,l0,f1,l1,f2,l2,c0,c1,c2,cc,cells,cn,now,cs,sure⟩)
 |_,_=>none
def zQ:=zP.jP 44 (qO cu [.slot 0 0] 1 EX Pf)
theorem Qyd:Qk Tryz.prog cu zQ:=by
 refine Qyb.oB Qb EX 60 1 [.slot 0 0] Pf (fun q hI=>?_) ?_
 ·obtain⟨c,w,d,k,sp,ci,it,f0,l0,f1,l1,f2,l2,c0,c1,c2,cc,cells,cn,now,cs,sure⟩:=q;refine⟨?_,?_,rfl,QB3 c w d k sp ci it f0 l0 f1 l1 f2 l2 c0 c1 c2 cc cells cn now cs sure hI⟩
  ·simp[Qj,EX,Pe,EW,gG,D.refs,Obj.refs]
  ·simp[EX,QkQ,EW,RT.cT,Qj,D.refs,Obj.refs]
 ·intro env os b q cN hb;unfold Pf at cN
  split at cN
  ·obtain⟨hs,cN⟩:=Qc cN;cases cN
   try simp only[ai,aa]at hb
   exact⟨hb,rfl,rfl⟩
  ·cases cN
structure Qpg where
 (c w d k sp:Int)(ci:Bool)(it:bM)(f0:Bool)(l0:bJ)(f1:Bool)(l1:bJ)(f2:Bool)(l2:bJ)(c0 c1 c2:Int)(cc:Bool)(cells:bQ)(cn:Bool)(now:bK)(cs:Bool)(sure:bK)
def Ph(c w d k sp:Int)(ci:Bool)(it:bM)(f0:Bool)(l0:bJ)(f1:Bool)(l1:bJ)(f2:Bool)(l2:bJ)(c0 c1 c2:Int)(cc:Bool)(cells:bQ)(cn:Bool)(now:bK)(cs:Bool)(sure:bK):bW:=[.ptr 0 []]
def EY(c w d k sp:Int)(ci:Bool)(it:bM)(f0:Bool)(l0:bJ)(f1:Bool)(l1:bJ)(f2:Bool)(l2:bJ)(c0 c1 c2:Int)(cc:Bool)(cells:bQ)(cn:Bool)(now:bK)(cs:Bool)(sure:bK):bP:=[.var 87 (.bI (cH c (cH w (cH d (cH k .bN)))) (.bI (cH sp (cL .item ci it (.bI (cL .line f0 l0 (cL .line f1 l1 (cL .line f2 l2 .bN))) (.bI (.arr (C:=RC) .int 3 [c0,c1,c2]) .bN)))) (.bI (cL .int cc cells (.bI (cL .bR cn now (cL .bR cs sure .bN)) .bN)) .bN)))]
def Qye c w d k sp ci it f0 l0 f1 l1 f2 l2 c0 c1 c2 cc cells cn now cs sure:=C7 cu zQ 45 60 1 (Ph c w d k sp ci it f0 l0 f1 l1 f2 l2 c0 c1 c2 cc cells cn now cs sure) (EY c w d k sp ci it f0 l0 f1 l1 f2 l2 c0 c1 c2 cc cells cn now cs sure)
theorem QB4 c w d k sp ci it f0 l0 f1 l1 f2 l2 c0 c1 c2 cc cells cn now cs sure:Qye c w d k sp ci it f0 l0 f1 l1 f2 l2 c0 c1 c2 cc cells cn now cs sure=(let Z0:=Ql now sure;let Z1:bV:=.bN;let Z2:bV:=D.sl b9.bR (!Z0) (bif Z0 then now else []);b7 (Qn now&&Qn sure) (some (cj (bif Z0 then (0:Int)else (2:Int)),[some (Obj.var 87 (.bI (D.bI (cj c) (.bI (cj w) (.bI (cj d) (.bI (cj k) Z1)))) (.bI (D.bI (cj sp) (.bI (D.sl b9.item ci it) (.bI (D.bI (D.sl b9.line f0 l0) (.bI (D.sl b9.line f1 l1) (.bI (D.sl b9.line f2 l2) Z1))) (.bI (D.arr b9.int 3 [c0,c1,c2]) Z1)))) (.bI (D.bI (D.sl b9.int cc cells) (.bI (D.bI Z2 (D.bI Z2 Z1)) Z1)) Z1))))]))):=by kernel_rfl
def QkR(c w d k sp:Int)(ci:Bool)(it:bM)(f0:Bool)(l0:bJ)(f1:Bool)(l1:bJ)(f2:Bool)(l2:bJ)(c0 c1 c2:Int)(cc:Bool)(cells:bQ)(cn:Bool)(now:bK)(cs:Bool)(sure:bK):RT RC:=.leaf .ret [(0,.int .i64 (bif Ql now sure then 0 else 2))] (EY c w d k sp ci it f0 l0 f1 l1 f2 l2 c0 c1 c2 cc cells (!Ql now sure) (bif Ql now sure then now else[]) (!Ql now sure) (bif Ql now sure then now else[]))
def Om(c w d k sp:Int)(ci:Bool)(it:bM)(f0:Bool)(l0:bJ)(f1:Bool)(l1:bJ)(f2:Bool)(l2:bJ)(c0 c1 c2:Int)(cc:Bool)(cells:bQ)(cn:Bool)(now:bK)(cs:Bool)(sure:bK):Prop:=(Qn now=true/\Qn sure=true)/\it.length<=9223372036854775807/\l0.length<=9223372036854775807/\l1.length<=9223372036854775807/\l2.length<=9223372036854775807
def EZ:nR RC Qpg where
 k:=1
 args q:=Ph q.c q.w q.d q.k q.sp q.ci q.it q.f0 q.l0 q.f1 q.l1 q.f2 q.l2 q.c0 q.c1 q.c2 q.cc q.cells q.cn q.now q.cs q.sure
 cK q:=EY q.c q.w q.d q.k q.sp q.ci q.it q.f0 q.l0 q.f1 q.l1 q.f2 q.l2 q.c0 q.c1 q.c2 q.cc q.cells q.cn q.now q.cs q.sure
 fin q:=QkR q.c q.w q.d q.k q.sp q.ci q.it q.f0 q.l0 q.f1 q.l1 q.f2 q.l2 q.c0 q.c1 q.c2 q.cc q.cells q.cn q.now q.cs q.sure
 Inv q:=Om q.c q.w q.d q.k q.sp q.ci q.it q.f0 q.l0 q.f1 q.l1 q.f2 q.l2 q.c0 q.c1 q.c2 q.cc q.cells q.cn q.now q.cs q.sure
theorem QB5 c w d k sp ci it f0 l0 f1 l1 f2 l2 c0 c1 c2 cc cells cn now cs sure(hI:Om c w d k sp ci it f0 l0 f1 l1 f2 l2 c0 c1 c2 cc cells cn now cs sure):c8 (Qye c w d k sp ci it f0 l0 f1 l1 f2 l2 c0 c1 c2 cc cells cn now cs sure) (p9 EZ ⟨c,w,d,k,sp,ci,it,f0,l0,f1,l1,f2,l2,c0,c1,c2,cc,cells,cn,now,cs,sure⟩):=by
 (rw[QB4];delta b7 cj;conv=>zeta)
 unfold Om at hI;have h0:=hI;obtain⟨⟨g1,g2⟩,hl⟩:=hI;rw[g1,g2];simp only[au,ag];exact Hu _ rfl rfl
def Pj(env:bX)(os:bP):Option (Bool×Qpg):=match env,os with
 |[(0,.ptr 0 [])],[.var 87 (.bI (.bI (.int .i64 c) (.bI (.int .i64 w) (.bI (.int .i64 d) (.bI (.int .i64 k) .bN)))) (.bI (.bI (.int .i64 sp) (.bI (.sl .item ci it) (.bI (.bI (.sl .line f0 l0) (.bI (.sl .line f1 l1) (.bI (.sl .line f2 l2) .bN))) (.bI (.arr .int 3 [c0,c1,c2]) .bN)))) (.bI (.bI (.sl .int cc cells) (.bI (.bI (.sl .bR cn now) (.bI (.sl .bR cs sure) .bN)) .bN)) .bN)))]=>Qt (true) (Qn now&&Qn sure&&decide (it.length<=9223372036854775807/\l0.length<=9223372036854775807/\l1.length<=9223372036854775807/\l2.length<=9223372036854775807),⟨c,w,d,k,sp,ci,it,f0,l0,f1,l1,f2,l2,c0,c1,c2,cc,cells,cn,now,cs,sure⟩)
 |_,_=>none
def zS:=zQ.jP 45 (qO cu [.slot 0 0] 1 EZ Pj)
theorem Qyf:Qk Tryz.prog cu zS:=by
 refine Qyd.oB Qb EZ 60 1 [.slot 0 0] Pj (fun q hI=>?_) ?_
 ·obtain⟨c,w,d,k,sp,ci,it,f0,l0,f1,l1,f2,l2,c0,c1,c2,cc,cells,cn,now,cs,sure⟩:=q;refine⟨?_,?_,rfl,QB5 c w d k sp ci it f0 l0 f1 l1 f2 l2 c0 c1 c2 cc cells cn now cs sure hI⟩
  ·simp[Qj,EZ,Ph,EY,gG,D.refs,Obj.refs]
  ·simp[EZ,QkR,EY,RT.cT,Qj,D.refs,Obj.refs]
 ·intro env os b q cN hb;unfold Pj at cN
  split at cN
  ·obtain⟨hs,cN⟩:=Qc cN;cases cN
   try simp only[ai,aa]at hb
   exact⟨hb,rfl,rfl⟩
  ·cases cN
structure Qph where
 (c w d k sp:Int)(ci:Bool)(it:bM)(f0:Bool)(l0:bJ)(f1:Bool)(l1:bJ)(f2:Bool)(l2:bJ)(c0 c1 c2:Int)(cc:Bool)(cells:bQ)(cn:Bool)(now:bK)(cs:Bool)(sure:bK)
def Pk(c w d k sp:Int)(ci:Bool)(it:bM)(f0:Bool)(l0:bJ)(f1:Bool)(l1:bJ)(f2:Bool)(l2:bJ)(c0 c1 c2:Int)(cc:Bool)(cells:bQ)(cn:Bool)(now:bK)(cs:Bool)(sure:bK):bW:=[.ptr 0 []]
def EN(c w d k sp:Int)(ci:Bool)(it:bM)(f0:Bool)(l0:bJ)(f1:Bool)(l1:bJ)(f2:Bool)(l2:bJ)(c0 c1 c2:Int)(cc:Bool)(cells:bQ)(cn:Bool)(now:bK)(cs:Bool)(sure:bK):bP:=[.var 87 (.bI (cH c (cH w (cH d (cH k .bN)))) (.bI (cH sp (cL .item ci it (.bI (cL .line f0 l0 (cL .line f1 l1 (cL .line f2 l2 .bN))) (.bI (.arr (C:=RC) .int 3 [c0,c1,c2]) .bN)))) (.bI (cL .int cc cells (.bI (cL .bR cn now (cL .bR cs sure .bN)) .bN)) .bN)))]
def Qyg c w d k sp ci it f0 l0 f1 l1 f2 l2 c0 c1 c2 cc cells cn now cs sure:=C7 cu zS 46 60 1 (Pk c w d k sp ci it f0 l0 f1 l1 f2 l2 c0 c1 c2 cc cells cn now cs sure) (EN c w d k sp ci it f0 l0 f1 l1 f2 l2 c0 c1 c2 cc cells cn now cs sure)
theorem QB6 c w d k sp ci it f0 l0 f1 l1 f2 l2 c0 c1 c2 cc cells cn now cs sure:Qyg c w d k sp ci it f0 l0 f1 l1 f2 l2 c0 c1 c2 cc cells cn now cs sure=(let Z0:St:=St.mk sp it l0 l1 l2 c0 c1 c2;let Z1:=ZY now sure c w d k Z0;let Z2:bV:=.bN;let Z3:Bool:=Z1==0;b7 (Qn now&&Qn sure&&decide (it.length<=9223372036854775807/\l0.length<=9223372036854775807/\l1.length<=9223372036854775807/\l2.length<=9223372036854775807)) (some (cj Z1,[some (Obj.var 87 (.bI (D.bI (cj c) (.bI (cj w) (.bI (cj d) (.bI (cj k) Z2)))) (.bI (D.bI (cj sp) (.bI (D.sl b9.item ci it) (.bI (D.bI (D.sl b9.line f0 l0) (.bI (D.sl b9.line f1 l1) (.bI (D.sl b9.line f2 l2) Z2))) (.bI (D.arr b9.int 3 [c0,c1,c2]) Z2)))) (.bI (D.bI (D.sl b9.int false (bif Z3 then Jq nC c k Z0 else [])) (.bI (D.bI (D.sl b9.bR false (bif Z3 then now else [])) (.bI (D.sl b9.bR false (bif Z3 then sure else [])) Z2)) Z2)) Z2))))]))):=by kernel_rfl
def QkS(c w d k sp:Int)(ci:Bool)(it:bM)(f0:Bool)(l0:bJ)(f1:Bool)(l1:bJ)(f2:Bool)(l2:bJ)(c0 c1 c2:Int)(cc:Bool)(cells:bQ)(cn:Bool)(now:bK)(cs:Bool)(sure:bK):RT RC:=.leaf .ret [(0,.int .i64 (ZY now sure c w d k ⟨sp,it,l0,l1,l2,c0,c1,c2⟩))] (EN c w d k sp ci it f0 l0 f1 l1 f2 l2 c0 c1 c2 false (bif ZY now sure c w d k ⟨sp,it,l0,l1,l2,c0,c1,c2⟩==0 then Jq nC c k ⟨sp,it,l0,l1,l2,c0,c1,c2⟩else[]) false (bif ZY now sure c w d k ⟨sp,it,l0,l1,l2,c0,c1,c2⟩==0 then now else[]) false (bif ZY now sure c w d k ⟨sp,it,l0,l1,l2,c0,c1,c2⟩==0 then sure else[]))
def N3(c w d k sp:Int)(ci:Bool)(it:bM)(f0:Bool)(l0:bJ)(f1:Bool)(l1:bJ)(f2:Bool)(l2:bJ)(c0 c1 c2:Int)(cc:Bool)(cells:bQ)(cn:Bool)(now:bK)(cs:Bool)(sure:bK):Prop:=(Qn now=true/\Qn sure=true)/\it.length<=9223372036854775807/\l0.length<=9223372036854775807/\l1.length<=9223372036854775807/\l2.length<=9223372036854775807
def EO:nR RC Qph where
 k:=1
 args q:=Pk q.c q.w q.d q.k q.sp q.ci q.it q.f0 q.l0 q.f1 q.l1 q.f2 q.l2 q.c0 q.c1 q.c2 q.cc q.cells q.cn q.now q.cs q.sure
 cK q:=EN q.c q.w q.d q.k q.sp q.ci q.it q.f0 q.l0 q.f1 q.l1 q.f2 q.l2 q.c0 q.c1 q.c2 q.cc q.cells q.cn q.now q.cs q.sure
 fin q:=QkS q.c q.w q.d q.k q.sp q.ci q.it q.f0 q.l0 q.f1 q.l1 q.f2 q.l2 q.c0 q.c1 q.c2 q.cc q.cells q.cn q.now q.cs q.sure
 Inv q:=N3 q.c q.w q.d q.k q.sp q.ci q.it q.f0 q.l0 q.f1 q.l1 q.f2 q.l2 q.c0 q.c1 q.c2 q.cc q.cells q.cn q.now q.cs q.sure
theorem QB7 c w d k sp ci it f0 l0 f1 l1 f2 l2 c0 c1 c2 cc cells cn now cs sure(hI:N3 c w d k sp ci it f0 l0 f1 l1 f2 l2 c0 c1 c2 cc cells cn now cs sure):c8 (Qyg c w d k sp ci it f0 l0 f1 l1 f2 l2 c0 c1 c2 cc cells cn now cs sure) (p9 EO ⟨c,w,d,k,sp,ci,it,f0,l0,f1,l1,f2,l2,c0,c1,c2,cc,cells,cn,now,cs,sure⟩):=by
 (rw[QB6];delta b7 cj;conv=>zeta)
 unfold N3 at hI;have h0:=hI;obtain⟨⟨g1,g2⟩,hl⟩:=hI;rw[g1,g2,ab hl];simp only[au,ag];exact Hu _ rfl rfl
def Pl(env:bX)(os:bP):Option (Bool×Qph):=match env,os with
 |[(0,.ptr 0 [])],[.var 87 (.bI (.bI (.int .i64 c) (.bI (.int .i64 w) (.bI (.int .i64 d) (.bI (.int .i64 k) .bN)))) (.bI (.bI (.int .i64 sp) (.bI (.sl .item ci it) (.bI (.bI (.sl .line f0 l0) (.bI (.sl .line f1 l1) (.bI (.sl .line f2 l2) .bN))) (.bI (.arr .int 3 [c0,c1,c2]) .bN)))) (.bI (.bI (.sl .int cc cells) (.bI (.bI (.sl .bR cn now) (.bI (.sl .bR cs sure) .bN)) .bN)) .bN)))]=>Qt (true) (Qn now&&Qn sure&&decide (it.length<=9223372036854775807/\l0.length<=9223372036854775807/\l1.length<=9223372036854775807/\l2.length<=9223372036854775807),⟨c,w,d,k,sp,ci,it,f0,l0,f1,l1,f2,l2,c0,c1,c2,cc,cells,cn,now,cs,sure⟩)
 |_,_=>none
def zT:=zS.jP 46 (qO cu [.slot 0 0] 1 EO Pl)
theorem Qyh:Qk Tryz.prog cu zT:=by
 refine Qyf.oB Qb EO 60 1 [.slot 0 0] Pl (fun q hI=>?_) ?_
 ·obtain⟨c,w,d,k,sp,ci,it,f0,l0,f1,l1,f2,l2,c0,c1,c2,cc,cells,cn,now,cs,sure⟩:=q;refine⟨?_,?_,rfl,QB7 c w d k sp ci it f0 l0 f1 l1 f2 l2 c0 c1 c2 cc cells cn now cs sure hI⟩
  ·simp[Qj,EO,Pk,EN,gG,D.refs,Obj.refs]
  ·simp[EO,QkS,EN,RT.cT,Qj,D.refs,Obj.refs]
 ·intro env os b q cN hb;unfold Pl at cN
  split at cN
  ·obtain⟨hs,cN⟩:=Qc cN;cases cN
   try simp only[ai,aa]at hb
   exact⟨hb,rfl,rfl⟩
  ·cases cN
open Go.Proofs
set_option maxHeartbeats 4000000
def Qpi:bW->bO
 |[.bI (.sl .bR cn now) (.bI (.sl .bR cs sure) .bN),.bI (.int .i64 c) (.bI (.int .i64 w) (.bI (.int .i64 d) (.bI (.int .i64 k) .bN))),.int .i64 stop]=>some (Qn now&&Qn sure,.cG (.bI (cL .int false (ZM nC now sure c w d k stop) (.bI (cL .bR false (uQ now sure c w d k stop) (cL .bR false (KF now sure c w d k stop) .bN)) .bN)) (cH (j8 now sure c w d k) .bN)))
 |_=>none
def Qyj(cn:Bool)(now:bK)(cs:Bool)(sure:bK)(c w d k stop:Int):=ky cu zT 200 13 [.bI (.sl (C:=RC) .bR cn now) (cL .bR cs sure .bN),.bI (.int .i64 c) (cH w (cH d (cH k .bN))),.int .i64 stop]
theorem QB8 cn now cs sure c w d k stop:Qyj cn now cs sure c w d k stop=(let Z0:=Qn now&&Qn sure;let Z1:=J2 now sure c w d k;let Z2:bV:=D.sl b9.int false [];let Z3:bV:=D.sl b9.bR false [];let Z4:bV:=.bN;let Z5:bV:=D.bI Z2 (D.bI (D.bI Z3 (D.bI Z3 Z4)) Z4);let Z6:St:=Q7 now sure c w d k;let Z7:Bool:=decide (List.length Z6.items<=9223372036854775807/\List.length Z6.l0<=9223372036854775807/\List.length Z6.l1<=9223372036854775807/\List.length Z6.l2<=9223372036854775807);let Z8:=St.place Z6;let Z9:St:=St.mk Z8 Z6.items Z6.l0 Z6.l1 Z6.l2 Z6.c0 Z6.c1 Z6.c2;let db:=ZY now sure c w d k Z9;let dB:Int:=if stop<0 then (0:Int)else stop;let eo:Int:=if (3:Int)<dB then (3:Int)else dB;let fa:Int:=(eo.toNat:Int);let fM:Int:=bif QH now sure 32 Z8 (eN Z8 Z9)then (0:Int)else (2:Int);let fz:bK:=eD now sure 32 Z8 (eN Z8 Z9);let fy:bK:=Zj now sure 32 Z8 (eN Z8 Z9);let fR:Int:=bif Ql fz fy then (0:Int)else (2:Int);let eH:bK:=bif Ql fz fy then fz else [];let fW:=ZY eH eH c w d k Z9;let gD:fI:=none;let iJ:bV:=D.sl b9.bR false (bif fW==0 then eH else []);let gQ:bV:=D.bI (cj 0) Z4;let iY:bV:=D.sl b9.bR false eH;bif Z0 then bif Z1 !=0 then some (D.cG (D.bI Z5 (D.bI (cj Z1) Z4)))else bif Z0&&Z7 then bif db !=0 then some (D.cG (D.bI Z5 (D.bI (cj db) Z4)))else bif decide ((0:Int)<=eo/\eo<=3)then bif Qd eo.toNat then bif decide ((0:Int)<fa)then bif decide ((0:Int)<=0/\(0:Int)<fa)then bif Z0&&Z7 then bif fM !=0 then some (D.cG (D.bI Z5 (D.bI (cj fM) Z4)))else bif decide ((1:Int)<fa)then bif decide ((0:Int)<=1/\(1:Int)<fa)then bif Qn fz&&Qn fy&&Z7 then bif fR !=0 then some (D.cG (D.bI Z5 (D.bI (cj fR) Z4)))else bif decide ((2:Int)<fa)then bif decide ((0:Int)<=2/\(2:Int)<fa)then bif Qn eH&&Qn eH&&Z7 then bif fW !=0 then some (D.cG (D.bI Z5 (D.bI (cj fW) Z4)))else bif decide ((3:Int)<fa)then bif decide ((0:Int)<=3/\(3:Int)<fa)then gD else gD else some (D.cG (D.bI (D.bI (D.sl b9.int false (bif fW==0 then Jq nC c k Z9 else [])) (.bI (D.bI iJ (D.bI iJ Z4)) Z4)) gQ))else gD else gD else some (D.cG (D.bI (D.bI Z2 (D.bI (D.bI iY (D.bI iY Z4)) Z4)) gQ))else gD else gD else some (D.cG (D.bI (D.bI Z2 (D.bI (D.bI (D.sl b9.bR false fz) (.bI (D.sl b9.bR false fy) Z4)) Z4)) gQ))else gD else gD else some (D.cG (D.bI (D.bI Z2 (D.bI (D.bI (D.sl b9.bR false now) (.bI (D.sl b9.bR false sure) Z4)) Z4)) gQ))else gD else gD else gD else gD):=by kernel_rfl
theorem QB9 cn now cs sure c w d k stop(h:(Qn now&&Qn sure)=true):Qyj cn now cs sure c w d k stop=some (.cG (.bI (cL .int false (ZM nC now sure c w d k stop) (.bI (cL .bR false (uQ now sure c w d k stop) (cL .bR false (KF now sure c w d k stop) .bN)) .bN)) (cH (j8 now sure c w d k) .bN))):=by
 (rw[QB8];delta cj;conv=>zeta)
 have hg:=h;obtain⟨b0,b1,b2,b3⟩:=QrO now sure c w d k
 have err:∀e:Int,j8 now sure c w d k=e->e≠0->some (D.cG (C:=RC) (.bI (cL .int false [] (.bI (cL .bR false [] (cL .bR false [] .bN)) .bN)) (cH e .bN)))=some (.cG (.bI (cL .int false (ZM nC now sure c w d k stop) (.bI (cL .bR false (uQ now sure c w d k stop) (cL .bR false (KF now sure c w d k stop) .bN)) .bN)) (cH (j8 now sure c w d k) .bN))):=fun e h1 h2=>by
  have h3:(e==0)=false:=by simpa using h2
  simp only[ZM,uQ,KF,h1,h3,ah]
 have hL:decide ((Q7 now sure c w d k).items.length<=9223372036854775807/\(Q7 now sure c w d k).l0.length<=9223372036854775807/\(Q7 now sure c w d k).l1.length<=9223372036854775807/\(Q7 now sure c w d k).l2.length<=9223372036854775807)=true:=ab ⟨by omega,by omega,by omega,by omega⟩;simp only[P5];generalize hX:(if 3<(if stop<0 then 0 else stop)then 3 else if stop<0 then 0 else stop)=X
 have hx:(X=0/\stop<=0)\/(X=1/\stop=1)\/(X=2/\stop=2)\/(X=3/\3<=stop):=by
  subst hX
  split<;>split at * <;>(first|split|skip)<;>omega
 clear hX;refine Qa hg ?_
 by_cases h1:J2 now sure c w d k=0
 ·refine Qq (by rw[h1];rfl) (Qa (eK hg hL) ?_)
  by_cases h2:ZY now sure c w d k (Q7 now sure c w d k)=0
  ·obtain⟨hd,hs,ht,hr,hp⟩:=Uu h1 h2;have hE:j8 now sure c w d k=0:=by simp[j8,h1,h2]
   have yH:=JX hp;have C9:=D7 now sure 32 (Q7 now sure c w d k).place (eN (Q7 now sure c w d k).place (Q7 now sure c w d k))
   have fA:Yu (eD now sure 32 (Q7 now sure c w d k).place (eN (Q7 now sure c w d k).place (Q7 now sure c w d k)))=true:=by
    unfold Ql at yH;simp only[ai]at yH;exact yH.1.1
   have LA:ZY (eD now sure 32 (Q7 now sure c w d k).place (eN (Q7 now sure c w d k).place (Q7 now sure c w d k))) (eD now sure 32 (Q7 now sure c w d k).place (eN (Q7 now sure c w d k).place (Q7 now sure c w d k))) c w d k (Q7 now sure c w d k)=0:=by
    simp only[ZY,Ky fA,hs,ht,au,ag,ad hr,ah]
   refine Qq (by rw[h2];rfl) ?_;simp only[ZM,uQ,KF,hE,l7,tZ];rcases hx with⟨rfl,SG⟩|⟨rfl,rfl⟩|⟨rfl,rfl⟩|⟨rfl,SG⟩
   ·simp only[ab SG,ad (show ¬3<=stop by omega)];exact Qa rfl (Qa rfl (Qq rfl rfl))
   ·refine Qa rfl (Qa rfl (Qa rfl (Qa rfl (Qa (eK hg hL) (Qq (by rw[hp];rfl) (Qq rfl rfl))))))
   ·refine Qa rfl (Qa rfl (Qa rfl (Qa rfl (Qa (eK hg hL) (Qq (by rw[hp];rfl) (Qa rfl (Qa rfl ?_)))))));simp only[yH,ag];exact Qa (eK (eK C9.1 C9.2) hL) (Qq rfl (Qq rfl rfl))
   ·refine Qa rfl (Qa rfl (Qa rfl (Qa rfl (Qa (eK hg hL) (Qq (by rw[hp];rfl) (Qa rfl (Qa rfl ?_)))))));simp only[yH,ag,LA,ab SG,ad (show ¬stop<=0 by omega)];have lF:(stop==1)=false:=by simp;omega
    simp only[lF];exact Qa (eK (eK C9.1 C9.2) hL) (Qq rfl (Qa rfl (Qa rfl (Qa (eK (eK C9.1 C9.1) hL) (Qq rfl (Qq rfl rfl))))))
  ·have hE:j8 now sure c w d k=ZY now sure c w d k (Q7 now sure c w d k):=by simp[j8,h1]
   exact Qa (by simpa using h2) (err _ hE h2)
 ·have hb:(J2 now sure c w d k==0)=false:=by simpa using h1
  have hE:j8 now sure c w d k=J2 now sure c w d k:=by simp only[j8,hb,ah]
  exact Qa (by simpa using h1) (err _ hE h1)
def zU:=zT.b8 13 Qpi
theorem Qyk:Qk Tryz.prog cu zU:=Qyh.iv Qb fun args d h=>by
 unfold Qpi at h
 split at h
 ·obtain⟨h1,rfl⟩:=ak h;exact⟨by simp[D.refs],200,QB9 _ _ _ _ _ _ _ _ _ h1⟩
 ·cases h
open Go.Proofs
def QkT :bO:=some (true,.bool true)
def Qhb:bW->bO
 |[]=>QkT 
 |_=>none
def QkU  := eO cu zU 300 8 []
theorem TD:j8 (List.replicate 33 ⟨0,[]⟩) (List.replicate 33 ⟨0,[]⟩) 1 4 1 4=0:=by kernel_rfl
theorem TC:ZM nC (List.replicate 33 ⟨0,[]⟩) (List.replicate 33 ⟨0,[]⟩) 1 4 1 4 3=Jq nC 1 4 (Q7 (List.replicate 33 ⟨0,[]⟩) (List.replicate 33 ⟨0,[]⟩) 1 4 1 4):=by
 unfold ZM;rw[TD];rfl
theorem Qyl(c k:Int)(s:St):(Jq nC c k s).length=771:=by
 unfold Jq;simp only[Jj,Ut]
theorem TA:(Jq QK 1 4 (Q7 (List.replicate 33 ⟨0,[]⟩) (List.replicate 33 ⟨0,[]⟩) 1 4 1 4)).getD 0 0=4:=by kernel_rfl
theorem TB:(Jq QK 1 4 (Q7 (List.replicate 33 ⟨0,[]⟩) (List.replicate 33 ⟨0,[]⟩) 1 4 1 4)).getD 1 0=5:=by kernel_rfl
theorem QrQ :QkU  = (let Z0:bK:=List.replicate 33 (cE.mk 0 []);let Z1:=ZM nC Z0 Z0 1 4 1 4 3;let Z2:Int:=(Z1.length:Int);bif Qd Z1.length then bif Z2==771then bif decide ((0:Int)<=0/\(0:Int)<Z2)then bif List.getD Z1 0 0==4then bif decide ((0:Int)<=1/\(1:Int)<Z2)then some (D.bool (List.getD Z1 1 0==5))else none else some (D.bool false)else none else some (D.bool false)else none):=by kernel_rfl
theorem QrR  (h:(true)=true):QkU  = some (.bool true):=by
 (rw[QrQ];conv=>zeta)
 rw[TC];have hl:=Qyl 1 4 (Q7 (List.replicate 33 ⟨0,[]⟩) (List.replicate 33 ⟨0,[]⟩) 1 4 1 4);have h0:=TA;have h1:=TB;rw[<-Ht]at h0 h1;generalize Jq nC 1 4 (Q7 (List.replicate 33 ⟨0,[]⟩) (List.replicate 33 ⟨0,[]⟩) 1 4 1 4)=L at *;refine Qa (Qe (by omega)) (Qa (by rw[hl];rfl) (Qa (by rw[hl];rfl) (Qa (by rw[h0];rfl) (Qa (by rw[hl];rfl) ?_))));rw[h1];rfl
def zV:=zU.b8 8 Qhb
theorem Qym:Qk Tryz.prog cu zV:=Qyk.cQ Qb fun args d h=>by
 unfold Qhb at h
 split at h
 ·unfold QkT at h;obtain⟨h1,rfl⟩:=ak h;exact⟨by simp[D.refs],300,QrR  h1⟩
 ·cases h
theorem Qyn{f q m:Int}(h0:0<=q)(h1:q<m):dY f q m=f+q:=by rw[dY,ax ⟨h0,h1⟩]
theorem QrS{q o:Int}(h0:0<=q)(h1:q<=2)(h2:0<=o):51<=da q o/\da q o<=98:=by
 rw[da,ax ⟨h0,h1,h2⟩];have:=Int.emod_nonneg o (show(16:Int)≠0 by decide);have:=Int.emod_lt_of_pos o (show(0:Int)<16 by decide);omega
def nm:cg:=⟨0,0,0,0,0⟩
def nu(l:bJ)(i:Nat):bJ:=(List.range l.length).map fun k=>if i<=k/\k<l.length-i then l.getD (l.length-1-k) nm else l.getD k nm
theorem Jz l i:(nu l i).length=l.length:=by simp[nu]
theorem I0 l(i k:Nat)(h:k<l.length):(nu l i).getD k nm=if i<=k/\k<l.length-i then l.getD (l.length-1-k) nm else l.getD k nm:=by
 rw[ar,aY (by rw[Jz];exact h),ba];simp only[nu,List.getElem_map,List.getElem_range]
theorem N4{l m:bJ}(h:l.length=m.length)(hk:∀k,k<l.length->l.getD k nm=m.getD k nm):l=m:=by
 apply List.ext_getElem h;intro k h1 h2;have:=hk k h1
 rwa [ar,ar,aY h1,aY h2,ba,ba]at this
theorem Qyo(l:bJ):nu l 0=l.reverse:=by
 refine N4 (by simp[Jz]) fun k hk=>?_;rw[Jz]at hk;rw[I0 l 0 k hk,ax ⟨aK _,by omega⟩,ar,ar,List.getElem?_reverse hk]
theorem QCa{l:bJ}{i:Nat}(h:l.length<=2*i+1):nu l i=l:=by
 refine N4 (Jz l i) fun k hk=>?_;rw[Jz]at hk;rw[I0 l i k hk]
 split
 ·rw[show l.length-1-k=k by omega]
 ·rfl
theorem QkV{l:bJ}{i k:Nat}{x:cg}(hi:i<l.length):(l.set i x).getD k nm=if k=i then x else l.getD k nm:=by
 rw[ar,List.getElem?_set]
 by_cases h:i=k
 ·subst h;simp[hi]
 ·rw[aw h,aw (fun e=>h e.symm),ar]
theorem Qyp{l:bJ}{i:Nat}(h:2*i+1<l.length):nu ((l.set i (l.getD (l.length-1-i) nm)).set (l.length-1-i) (l.getD i nm)) (i+1)=nu l i:=by
 have hl:((l.set i (l.getD (l.length-1-i) nm)).set (l.length-1-i) (l.getD i nm)).length=l.length:=by simp
 refine N4 (by rw[Jz,Jz,hl]) fun k hk=>?_;rw[Jz,hl]at hk;rw[I0 _ _ _ (by rw[hl];exact hk),I0 _ _ _ hk,hl]
 have g:∀j,((l.set i (l.getD (l.length-1-i) nm)).set (l.length-1-i) (l.getD i nm)).getD j nm=if j=l.length-1-i then l.getD i nm else if j=i then l.getD (l.length-1-i) nm else l.getD j nm:=fun j=>by
  rw[QkV (by simp;omega),QkV (by omega)]
 rw[g,g]
 by_cases k1:k=i
 ·subst k1;rw[aw (by omega),aw (by omega),ax rfl,ax ⟨aq _,by omega⟩]
 ·by_cases k2:k=l.length-1-i
  ·rw[aw (by omega),ax k2,ax ⟨by omega,by omega⟩,k2,show l.length-1-(l.length-1-i)=i by omega]
  ·by_cases k3:i<=k/\k<l.length-i
   ·rw[ax (by omega),aw (by omega),aw (by omega),ax k3]
   ·rw[aw (by omega),aw k2,aw k1,aw k3]
def pF(cs:bQ)(q:Int):Nat->Int->bJ
 |0,_=>[]
 |m+1,i=>if(KU (cs.getD (da q i).toNat 0)).isSome=true/\(YE (cs.getD (da q i).toNat 0)).offset=i then YE (cs.getD (da q i).toNat 0)::pF cs q m (i-1)else[]
theorem Qyq cs q:∀(m:Nat) (i:Int),(pF cs q m i).length<=m
 |0,_=>aq _
 |m+1,i=>by
  unfold pF
  split
  ·have:=Qyq cs q m (i-1);simp only[aE];omega
  ·simp
def lL(cs:bQ)(q:Int):Int:=cs.getD (dY 45 q 3).toNat 0
def Lh(cs:bQ)(q:Int):bJ:=(pF cs q (lL cs q-max 0 (lL cs q-16)).toNat (lL cs q-1)).reverse
def lx(cs:bQ):Bool:=cs.all fun v=>decide (v<9223372036854775808)
theorem QGw{cs:bQ}(h:lx cs=true)(i:Nat):cs.getD i 0<9223372036854775808:=by
 by_cases hi:i<cs.length
 ·have e:cs.getD i 0=cs[i]:=by simp[hi]
  rw[e];exact af (aX.1 h _ (bA hi))
 ·have e:cs.getD i 0=0:=by simp[ar,bc (Nat.le_of_not_lt hi)]
  rw[e];decide
def qL(cs:bQ)(key:Int):Nat->Int->bM
 |0,_=>[]
 |n+1,w=>if w=0\/Zm (bare w) 1 true<0 then[]else⟨key,qJ w,cs.getD (Zm (bare w) 2 true).toNat 0%256⟩::qL cs key n (wh (cs.getD (Zm (bare w) 1 true).toNat 0))
theorem Qyr cs key:∀(n:Nat) (w:Int),(qL cs key n w).length<=n
 |0,_=>aq _
 |n+1,w=>by
  unfold qL
  split
  ·simp
  ·have:=Qyr cs key n (wh (cs.getD (Zm (bare w) 1 true).toNat 0));simp only[aE];omega
theorem qm(w:Int):(Zm (bare w) 1 true = -1/\Zm (bare w) 2 true = -1)\/(292<=Zm (bare w) 1 true/\Zm (bare w) 1 true<=769/\Zm (bare w) 2 true=Zm (bare w) 1 true+1):=by
 have h0:=Qkt w;have hb:0<=bare w:=by unfold bare;omega
 have hm:0<=bare w%256:=by omega
 unfold Zm;rw[aw (by omega),aw (by omega)];simp only[ag];unfold dt
 by_cases q:bare w%256<160
 ·rw[ax ⟨hm,q,by decide,by decide⟩,ax ⟨hm,q,by decide,by decide⟩];right;omega
 ·rw[aw (by omega),aw (by omega)];left;exact⟨rfl,rfl⟩
def Vd(p:Int)(l:bM):cX:=l.find? fun x=>decide (x.place<=p)
def sy(cs:bQ)(key:Int):Bool:=decide (cs.length=771)&&(decide (0<=key)&&decide (key<24))
def Ve(cs:bQ)(key:Int):bM:=bif sy cs key then qL cs key 160 (wh (cs.getD (21+key).toNat 0))else[]
theorem Qys cs key:(Ve cs key).length<=160:=by
 unfold Ve;cases sy cs key
 ·simp
 ·exact Qyr _ _ _ _
def uD(cs:bQ)(p:Int):Nat->Nat->bM
 |0,_=>[]
 |n+1,k=>(Vd p (Ve cs (k:Int))).toList++uD cs p n (k+1)
def Vf(cs:bQ)(q:Int):Bool:=decide (cs.length=771)&&(decide (0<=q)&&decide (q<3))&&(decide (0<=lL cs q)&&decide (lL cs q<=4194304))
def VG(cs:bQ)(q:Int):bJ:=bif Vf cs q then Lh cs q else[]
def rG(cs:bQ):Nat->Int->Bool
 |0,_=>false
 |n+1,w=>if w=0 then false else if Zm (bare w) 1 true<0 then true else rG cs n (wh (cs.getD (Zm (bare w) 1 true).toNat 0))
theorem Nf{cs:bQ}{key:Int}:∀{n:Nat},qL cs key n 0=[]/\rG cs n 0=false
 |0=>⟨rfl,rfl⟩
 |n+1=>⟨by unfold qL;rw[ax (.inl rfl)],by unfold rG;rw[ax rfl]⟩
theorem QGy{cs:bQ}{key w:Int}(hw:w≠0)(hb:Zm (bare w) 1 true<0)(n:Nat):qL cs key (n+1) w=[]/\rG cs (n+1) w=true :=
 ⟨by unfold qL;rw[ax (.inr hb)],by unfold rG;rw[aw hw,ax hb]⟩
theorem Uv{cs:bQ}{key w:Int}(hw:w≠0)(hb:¬Zm (bare w) 1 true<0)(n:Nat):qL cs key (n+1) w=⟨key,qJ w,cs.getD (Zm (bare w) 2 true).toNat 0%256⟩::qL cs key n (wh (cs.getD (Zm (bare w) 1 true).toNat 0))/\rG cs (n+1) w=rG cs n (wh (cs.getD (Zm (bare w) 1 true).toNat 0)):=
 ⟨by
  conv=>lhs;unfold qL
  rw[aw (fun q=>q.elim hw hb)],
 by
  conv=>lhs;unfold rG
  rw[aw hw,aw hb]⟩
theorem QrT{p:Int}{l:bM}{i:Nat}(h:i<l.length):Vd p (l.drop i)=if(l.getD i ⟨0,0,0⟩).place<=p then some (l.getD i ⟨0,0,0⟩)else Vd p (l.drop (i+1)):=by
 have e:l.getD i ⟨0,0,0⟩=l[i]:=by simp[h]
 unfold Vd;rw[aJ h,List.find?_cons,e]
 by_cases q:l[i].place<=p
 ·rw[ax q,ab q]
 ·rw[aw q,ad q]
theorem Qyt{p:Int}{l:bM}:Vd p (l.drop l.length)=none:=by rw[List.drop_length];rfl
theorem QrU{cs:bQ}{p:Int}{n k:Nat}:uD cs p (n+1) k=(Vd p (Ve cs (k:Int))).toList++uD cs p n (k+1):=rfl
def vp(cs:bQ):St:=bif decide (cs.length=771)then⟨cs.getD 0 0,uD cs (cs.getD 0 0) 24 0,VG cs 0,VG cs 1,VG cs 2,cs.getD 48 0,cs.getD 49 0,cs.getD 50 0⟩else Tn
def vq(cs:bQ):Int:=bif decide (cs.length=771)then 0 else 2
open Go.Proofs
theorem Xg{a:Nat}(h:((a:Int)!=771)=false):a=771:=by
 have:((a:Int))=771:=by simpa using h
 omega
def Ft(cs:bQ)(q o i:Int)(n:Nat):Prop:=cs.length=771/\lx cs=true/\0<=q/\q<=2/\0<=o/\o<=4194304/\max 0 (o-16)-1<=i/\i<=o-1/\(n:Int)<=1000
structure Qyv where
 (l:bJ)(i:Nat)(j:Int)
def Fa(l:bJ)(i:Nat)(j:Int):bX:=[(0,.vs 0 (l.length)),(2,.int .i64 (i:Int)),(3,.int .i64 j)]
def wO(l:bJ)(i:Nat)(j:Int):bP:=[.vec .line true l]
def Uw l i j:=dQ cu zV 132 1 60 1 [0,2,3] [] [.slot 0 0] (Fa l i j) (wO l i j)
theorem QGz l i j:Uw l i j=(let Z0:Int:=(i:Int);let Z1:=l.length;let Z2:=Nat.beq Z1 Z1;let Z3:Bool:=Z2&&dH Z0 (Z1:Int);let Z4:cg:=cg.mk 0 0 0 0 0;let Z5:cg:=List.getD l j.toNat Z4;let Z6:bJ:=List.set l Z0.toNat (cg.mk (cg.offset Z5) (cg.place Z5) (cg.j Z5) (cg.key Z5) (cg.value Z5));let Z7:=Nat.beq Z1 Z6.length;let Z8:cg:=List.getD l Z0.toNat Z4;bif decide (Z0<j)then b7 (Z2&&dH j (Z1:Int)) (b7 Z2 (b7 Z3 (b7 Z2 (b7 Z3 (b7 Z2 (b7 (Z7&&dH j (Z6.length:Int)) (b7 Z7 (some ((X.normal,[(0,D.vs 0 Z1),(2,cj (c6 (Z0+1))),(3,cj (c6 (j-1)))]),[some (Obj.vec b9.line true (List.set Z6 j.toNat (cg.mk (cg.offset Z8) (cg.place Z8) (cg.j Z8) (cg.key Z8) (cg.value Z8))))])))))))))else some ((X.exit 0,[]),[some (Obj.vec b9.line true l)])):=by kernel_rfl
def Eg(l:bJ)(i:Nat)(j:Int):RT RC:=.leaf (.exit 0) [] (wO (nu l i) i j)
def Eh(l:bJ)(i:Nat)(j:Int):Prop:=l.length<=1000/\j=(l.length:Int)-1-i
def wP:QD RC Qyv where
 k:=1
 cM q:=Fa q.l q.i q.j
 cK q:=wO q.l q.i q.j
 fin q:=Eg q.l q.i q.j
 Inv q:=Eh q.l q.i q.j
 μ q:=q.l.length-q.i
theorem QrV l i j(hI:Eh l i j):c8 (Uw l i j) (dj wP ⟨l,i,j⟩):=by
 (rw[QGz];delta b7 dH cj c6;conv=>zeta)
 unfold Eh at hI;obtain⟨h1,rfl⟩:=hI;have lX:∀l:cg,cg.mk l.offset l.place l.j l.key l.value=l:=fun _=>rfl;have t2:(i:Int).toNat=i:=by simp
 simp only[lX,t2]
 by_cases cU:2*i+1<l.length
 ·have d1:decide ((i:Int)<(l.length:Int)-1-i)=true:=ab (by omega);have t1:((l.length:Int)-1-i).toNat=l.length-1-i:=by omega
  have d2:decide (0<=(l.length:Int)-1-i/\(l.length:Int)-1-i<(l.length:Int))=true:=ab ⟨by omega,by omega⟩;have d3:decide (0<=(i:Int)/\(i:Int)<(l.length:Int))=true:=ab ⟨by omega,by omega⟩;have w1:=eG i (by omega)
  have w2:IntKind.i64.wrap ((l.length:Int)-1-i-1)=(l.length:Int)-1-((i+1:Nat):Int):=by rw[cC (by omega) (by omega)];omega
  simp only[d1,d2,d3,t1,w1,w2,Zp rfl,bf,au,Bool.true_and,ag];have hs:=Qyp cU;have hl:((l.set i (l.getD (l.length-1-i) nm)).set (l.length-1-i) (l.getD i nm)).length=l.length:=by simp
  refine Qi (S:=wP) (s:=⟨l,i,(l.length:Int)-1-i⟩) ⟨(l.set i (l.getD (l.length-1-i) nm)).set (l.length-1-i) (l.getD i nm),i+1,(l.length:Int)-1-((i+1:Nat):Int)⟩ ⟨by rw[hl];exact h1,by rw[hl]⟩ (by simp only[wP,hl];omega) ?_ ?_ rfl
  ·show(Eg _ (i+1) _).val=(Eg l i _).val;unfold Eg wO;rw[hs]
  ·show _=Fa _ (i+1) _;unfold Fa;rw[hl]
 ·have d1:decide ((i:Int)<(l.length:Int)-1-i)=false:=ad (by omega);simp only[d1,ah];exact Qh (S:=wP) (s:=⟨l,i,(l.length:Int)-1-i⟩) (wO (nu l i) i ((l.length:Int)-1-i)) rfl (by unfold wO;rw[QCa (by omega)];rfl)
def Rf(env:bX)(os:bP):Option (Bool×Qyv):=match env,os with
 |[(0,.vs 0 x0),(2,.int .i64 x1),(3,.int .i64 j)],[.vec .line true l]=>some (decide (x0=l.length)&&decide (x1=0)&&decide (l.length<=1000/\j=(l.length:Int)-1),⟨l,0,j⟩)
 |_,_=>none
def zW:=zV.cJ 132 1 (ey cu [.slot 0 0] [0,2,3] wP Rf)
theorem Qyx:Qk Tryz.prog cu zW:=by
 refine Qym.cq Qb (by kernel_rfl) wP 60 [0,2,3] [] [.slot 0 0] [0,2,3] Rf (fun q hI=>?_) ?_
 ·obtain⟨l,i,j⟩:=q;refine⟨?_,?_,QrV l i j hI⟩
  ·simp_all[Qj,wP,Fa,wO,Eh,D.refs,Obj.refs,cV]
  ·simp_all[wP,Eg,wO,Eh,RT.cT,Qj,D.refs,Obj.refs,cV]
 ·intro env os b q cN hb;unfold Rf at cN
  split at cN
  ·cases cN;simp only[ai,aa]at hb;obtain⟨⟨e0,e1⟩,e2,e3⟩:=hb;subst e0;subst e1;exact⟨⟨e2,by rw[e3];simp⟩,rfl,rfl⟩
  ·cases cN
structure Qyy where
 l:bJ
def Rg(l:bJ):bW:=[.vs 0 (l.length)]
def ye(l:bJ):bP:=[.vec .line true l]
def Ux l:=C7 cu zW 132 60 1 (Rg l) (ye l)
theorem QGA l:Ux l=(let Z0:Nat:=List.length l;let Z1:Int:=(↑Z0:Int)-(1:Int);b7 (Qd Z0) (b7 (decide (Z0=Z0)&&true&&decide (Z0<=(1000:Nat)/\c6 Z1=Z1)) (some (D.cG .bN,[some (Obj.vec b9.line true (nu l (0:Nat)))])))):=by kernel_rfl
def Qpk(l:bJ):RT RC:=.leaf .ret [(0,.cG .bN)] (ye l.reverse)
def OP(l:bJ):Prop:=l.length<=1000
def CH:nR RC Qyy where
 k:=1
 args q:=Rg q.l
 cK q:=ye q.l
 fin q:=Qpk q.l
 Inv q:=OP q.l
theorem QGB l(hI:OP l):c8 (Ux l) (p9 CH ⟨l⟩):=by
 (rw[QGA];delta b7 c6;conv=>zeta)
 unfold OP at hI;have l1:Qd l.length=true:=Qe (by omega);have w1:IntKind.i64.wrap ((l.length:Int)-1)=(l.length:Int)-1:=cC (by omega) (by omega);have d1:decide (l.length<=1000/\True)=true:=ab ⟨hI,trivial⟩;simp only[l1,w1,d1,aM,au,ag];exact Hu (S:=CH) (s:=⟨l⟩) (ye l.reverse) rfl (by unfold ye;rw[Qyo];rfl)
def Rb(env:bX)(os:bP):Option (Bool×Qyy):=match env,os with
 |[(0,.vs 0 x0)],[.vec .line true l]=>Qt (true) (decide (x0=l.length)&&decide (l.length<=1000),⟨l⟩)
 |_,_=>none
def zX:=zW.jP 132 (qO cu [.slot 0 0] 1 CH Rb)
theorem QyB:Qk Tryz.prog cu zX:=by
 refine Qyx.oB Qb CH 60 1 [.slot 0 0] Rb (fun q hI=>?_) ?_
 ·obtain⟨l⟩:=q;refine⟨?_,?_,rfl,QGB l hI⟩
  ·simp[Qj,CH,Rg,ye,gG,D.refs,Obj.refs]
  ·simp[CH,Qpk,ye,RT.cT,Qj,D.refs,Obj.refs]
 ·intro env os b q cN hb;unfold Rb at cN
  split at cN
  ·obtain⟨hs,cN⟩:=Qc cN;cases cN
   try simp only[ai,aa]at hb
   obtain⟨e0,e1⟩:=hb;subst e0;exact⟨e1,rfl,rfl⟩
  ·cases cN
structure QyC where
 (fc:Bool)(cs:bQ)(nf:Bool)(now:bK)(sf:Bool)(sure:bK)(q o i:Int)(l:bJ)
def Fb(fc:Bool)(cs:bQ)(nf:Bool)(now:bK)(sf:Bool)(sure:bK)(q o i:Int)(l:bJ):bX:=[(1,.int .i64 q),(2,.ptr 0 []),(4,.vs 1 (l.length)),(5,.int .i64 o),(6,.int .i64 i)]
def uR(fc:Bool)(cs:bQ)(nf:Bool)(now:bK)(sf:Bool)(sure:bK)(q o i:Int)(l:bJ):bP:=[.var 41 (cL .int fc cs (.bI (cL .bR nf now (cL .bR sf sure .bN)) .bN)),.vec .line true l]
def Uy fc cs nf now sf sure q o i l:=dQ cu zX 73 7 80 2 [1,2,4,5,6] [4] [.slot 2 0,.slot 4 0] (Fb fc cs nf now sf sure q o i l) (uR fc cs nf now sf sure q o i l)
theorem QGC fc cs nf now sf sure q o i l:Uy fc cs nf now sf sure q o i l=(let Z0:=c6 (o-16);let Z1:Int:=da q i;let Z2:=List.getD cs Z1.toNat 0;let Z3:=l.length;let Z4:cf:=some (Obj.var 41 (.bI (D.sl b9.int fc cs) (.bI (D.bI (D.sl b9.bR nf now) (.bI (D.sl b9.bR sf sure) .bN)) .bN)));let Z5:mL:=some ((X.exit 0,[(4,D.vs 1 Z3)]),[Z4,some (Obj.vec b9.line true l)]);let Z6:cg:=YE Z2;let Z7:bJ:=[cg.mk (cg.offset Z6) (cg.place Z6) (cg.j Z6) (cg.key Z6) (cg.value Z6)];bif decide ((if (0:Int)<Z0 then Z0 else (0:Int))<=i)then b7 (dH Z1 (cs.length:Int)) (b7 (decide (Z2<9223372036854775808)) (bif !Option.isSome (KU Z2)then Z5 else bif cg.offset Z6 !=i then Z5 else b7 (Nat.beq Z3 Z3&&Qg (Z3+Z7.length) 40) (some ((X.normal,[(1,cj q),(2,D.ptr 0 []),(4,D.vs 1 (Z3+Z7.length)),(5,cj o),(6,cj (c6 (i-1)))]),[Z4,some (Obj.vec b9.line true (l++Z7))]))))else Z5):=by kernel_rfl
def VS(fc:Bool)(cs:bQ)(nf:Bool)(now:bK)(sf:Bool)(sure:bK)(q o i:Int)(l:bJ):RT RC:=.leaf (.exit 0) [(4,.vs 1 (l++pF cs q (i+1-max 0 (o-16)).toNat i).length)] (uR fc cs nf now sf sure q o i (l++pF cs q (i+1-max 0 (o-16)).toNat i))
def Ei(fc:Bool)(cs:bQ)(nf:Bool)(now:bK)(sf:Bool)(sure:bK)(q o i:Int)(l:bJ):Prop:=Ft cs q o i (l.length+(i+1-max 0 (o-16)).toNat)
def uv:QD RC QyC where
 k:=2
 cM q:=Fb q.fc q.cs q.nf q.now q.sf q.sure q.q q.o q.i q.l
 cK q:=uR q.fc q.cs q.nf q.now q.sf q.sure q.q q.o q.i q.l
 fin q:=VS q.fc q.cs q.nf q.now q.sf q.sure q.q q.o q.i q.l
 Inv q:=Ei q.fc q.cs q.nf q.now q.sf q.sure q.q q.o q.i q.l
 μ q:=(q.i+1).toNat
theorem QrW fc cs nf now sf sure q o i l(hI:Ei fc cs nf now sf sure q o i l):c8 (Uy fc cs nf now sf sure q o i l) (dj uv ⟨fc,cs,nf,now,sf,sure,q,o,i,l⟩):=by
 (rw[QGC];delta b7 dH cj c6;conv=>zeta)
 unfold Ei at hI;obtain⟨hl,hc,q0,q2,o0,o1,i0,i1,n1⟩:=hI;have lX:∀l:cg,cg.mk l.offset l.place l.j l.key l.value=l:=fun _=>rfl;have w0:IntKind.i64.wrap (o-16)=o-16:=cC (by omega) (by omega);have e0:(if 0<o-16 then o-16 else 0)=max 0 (o-16):=by split<;>omega
 simp only[lX,w0,e0]
 by_cases hi:max 0 (o-16)<=i
 ·obtain⟨m,hm⟩:∃m,(i+1-max 0 (o-16)).toNat=m+1:=⟨(i-max 0 (o-16)).toNat,by omega⟩;have rT:(i-1+1-max 0 (o-16)).toNat=m:=by omega
  have hs:=QrS q0 q2 (show 0<=i by omega);have d2:decide (0<=da q i/\da q i<(cs.length:Int))=true:=ab ⟨by omega,by omega⟩;have hv:=QGw hc (da q i).toNat;have w2:IntKind.i64.wrap (i-1)=i-1:=cC (by omega) (by omega);have hD:pF cs q (m+1) i=if(KU (cs.getD (da q i).toNat 0)).isSome=true/\(YE (cs.getD (da q i).toNat 0)).offset=i then YE (cs.getD (da q i).toNat 0)::pF cs q m (i-1)else[]:=rfl
  rw[hm]at n1
  have c9:∀L:bJ,l++pF cs q (m+1) i=L->(VS fc cs nf now sf sure q o i l).val=some ((.exit 0,[(4,.vs 1 L.length)]),uR fc cs nf now sf sure q o i L):=fun L hL=>by
   unfold VS;rw[hm,hL];rfl
  generalize cs.getD (da q i).toNat 0=v at *
  have d3:decide (v<9223372036854775808)=true:=ab (by omega);simp only[ab hi,d2,d3,w2,ag];cases kJ:(KU v).isSome
  ·simp only[bh,ag];refine Qh (S:=uv) (s:=⟨fc,cs,nf,now,sf,sure,q,o,i,l⟩) (uR fc cs nf now sf sure q o i l) (c9 l ?_) rfl;rw[hD,aw (by rw[kJ];simp),aR]
  ·by_cases ho:(YE v).offset=i
   ·have d4:Qg (l.length+[YE v].length) 40=true:=Zt (by simp only[aE,bH];omega);simp only[bg,u4 ho,Zp rfl,d4,au,ag,ah];refine Qi (S:=uv) (s:=⟨fc,cs,nf,now,sf,sure,q,o,i,l⟩) ⟨fc,cs,nf,now,sf,sure,q,o,i-1,l++[YE v]⟩ ?_ (by simp only[uv];omega) ?_ ?_ rfl
    ·show Ft cs q o (i-1) _;refine⟨hl,hc,q0,q2,o0,o1,by omega,by omega,?_⟩;show(((l++[YE v]).length+(i-1+1-max 0 (o-16)).toNat:Nat):Int)<=1000;rw[rT];simp only[aC,aE,bH];omega
    ·show(VS fc cs nf now sf sure q o (i-1) (l++[YE v])).val=(VS fc cs nf now sf sure q o i l).val;rw[c9 (l++[YE v]++pF cs q m (i-1)) (by rw[hD,ax ⟨kJ,ho⟩];simp)];unfold VS;rw[rT];rfl
    ·show _=Fb fc cs nf now sf sure q o (i-1) (l++[YE v]);unfold Fb;simp
   ·simp only[bg,Mh ho,ag,ah];refine Qh (S:=uv) (s:=⟨fc,cs,nf,now,sf,sure,q,o,i,l⟩) (uR fc cs nf now sf sure q o i l) (c9 l ?_) rfl;rw[hD,aw (fun q=>ho q.2),aR]
 ·have hm:(i+1-max 0 (o-16)).toNat=0:=by omega
  simp only[ad hi,ah];refine Qh (S:=uv) (s:=⟨fc,cs,nf,now,sf,sure,q,o,i,l⟩) (uR fc cs nf now sf sure q o i l) ?_ rfl;show(VS fc cs nf now sf sure q o i l).val=_;unfold VS;rw[hm,show pF cs q 0 i=[]from rfl,aR];rfl
def Rc(env:bX)(os:bP):Option (Bool×QyC):=match env,os with
 |[(1,.int .i64 q),(2,.ptr 0 []),(4,.vs 1 x0),(5,.int .i64 o),(6,.int .i64 i)],[.var 41 (.bI (.sl .int fc cs) (.bI (.bI (.sl .bR nf now) (.bI (.sl .bR sf sure) .bN)) .bN)),.vec .line true l]=>some (decide (x0=l.length)&&dO (Ft cs q o i (l.length+(i+1-max 0 (o-16)).toNat)),⟨fc,cs,nf,now,sf,sure,q,o,i,l⟩)
 |_,_=>none
def zY:=zX.cJ 73 7 (ey cu [.slot 2 0,.slot 4 0] [1,2,4,5,6] uv Rc)
theorem QyE:Qk Tryz.prog cu zY:=by
 refine QyB.cq Qb (by kernel_rfl) uv 80 [1,2,4,5,6] [4] [.slot 2 0,.slot 4 0] [1,2,4,5,6] Rc (fun q hI=>?_) ?_
 ·obtain⟨fc,cs,nf,now,sf,sure,q,o,i,l⟩:=q;refine⟨?_,?_,QrW fc cs nf now sf sure q o i l hI⟩
  ·simp_all[Qj,uv,Fb,uR,Ei,D.refs,Obj.refs,cV]
  ·simp_all[uv,VS,uR,Ei,RT.cT,Qj,D.refs,Obj.refs,cV]
 ·intro env os b q cN hb;unfold Rc at cN
  split at cN
  ·cases cN;simp only[ai,aa]at hb;obtain⟨e0,e1⟩:=hb;subst e0;exact⟨Q9.1 e1,rfl,rfl⟩
  ·cases cN
def Qhd:bW->bO
 |[.bI (.sl .int fc cs) (.bI (.bI (.sl .bR nf now) (.bI (.sl .bR sf sure) .bN)) .bN),.int .i64 q]=>some (Qd cs.length&&lx cs,.sl (C:=RC) .line false (VG cs q))
 |_=>none
def QkZ(fc:Bool)(cs:bQ)(nf:Bool)(now:bK)(sf:Bool)(sure:bK)(q:Int):=ky cu zY 80 73 [.bI (.sl (C:=RC) .int fc cs) (.bI (cL .bR nf now (cL .bR sf sure .bN)) .bN),.int .i64 q]
theorem QrX fc cs nf now sf sure q:QkZ fc cs nf now sf sure q=(let Z0:Int:=(cs.length:Int);let Z1:fI:=some (D.sl b9.line false []);let Z2:Int:=dY 45 q 3;let Z3:=List.getD cs Z2.toNat 0;let Z4:=c6 (Z3-1);let Z5:=Int.toNat (Z4+1-max 0 (Z3-16));let Z6:=List.length ([]++pF cs q Z5 Z4);let Z7:bJ:=List.reverse ([]++pF cs q Z5 Z4);b7 (Qd cs.length) (bif Z0 !=771 then Z1 else bif decide (q<0)then Z1 else bif decide ((3:Int)<=q)then Z1 else b7 (dH Z2 Z0) (bif decide (Z3<0)then Z1 else bif decide ((4194304:Int)<Z3)then Z1 else b7 (dO (Ft cs q Z3 Z4 ((0:Nat)+Z5))) (b7 (decide (Z6=Z6)&&decide (Z6<=1000)) (b7 (Nat.beq Z6 Z7.length) (some (D.sl b9.line false Z7))))))):=by kernel_rfl
theorem QrY fc cs nf now sf sure q(h:(Qd cs.length&&lx cs)=true):QkZ fc cs nf now sf sure q=some (.sl (C:=RC) .line false (VG cs q)):=by
 (rw[QrX];delta b7 dH c6;conv=>zeta)
 rw[ai]at h;obtain⟨l1,hc⟩:=h;have no:Vf cs q=false->some (D.sl (C:=RC) .line false [])=some (.sl (C:=RC) .line false (VG cs q)):=fun e=>by simp only[VG,e,ah]
 refine Qa l1 ?_;refine Qw (fun e=>no ?_) fun e0=>?_
 ·have:¬cs.length=771:=fun q=>by rw[q]at e;exact absurd e (by decide)
  unfold Vf;rw[ad this];rfl
 have hl:cs.length=771:=by have:=Xg e0;omega
 refine Qw (fun e=>no ?_) fun e1=>?_
 ·unfold Vf;rw[ad (show ¬0<=q by have:=af e;omega)];simp
 refine Qw (fun e=>no ?_) fun e2=>?_
 ·unfold Vf;rw[ad (show ¬q<3 by have:=af e;omega)];simp
 have e1:=of_decide_eq_false e1;have e2:=of_decide_eq_false e2;have eR:dY 45 q 3=45+q:=Qyn (by omega) (by omega);refine Qa (ab ⟨by omega,by omega⟩) ?_;have eC:cs.getD (dY 45 q 3).toNat 0=lL cs q:=rfl;simp only[eC];refine Qw (fun e=>no ?_) fun e3=>?_
 ·unfold Vf;rw[ad (show ¬0<=lL cs q by have:=af e;omega)];simp
 refine Qw (fun e=>no ?_) fun e4=>?_
 ·unfold Vf;rw[ad (show ¬lL cs q<=4194304 by have:=af e;omega)];simp
 have e3:=of_decide_eq_false e3;have e4:=of_decide_eq_false e4
 have ok:Vf cs q=true:=by
  unfold Vf;rw[ab hl,ab (show 0<=q by omega),ab (show q<3 by omega),ab (show 0<=lL cs q by omega),ab (show lL cs q<=4194304 by omega)];rfl
 simp only[VG,ok,ag,Lh];generalize lL cs q=O at *;have w1:IntKind.i64.wrap (O-1)=O-1:=cC (by omega) (by omega);have e5:O-1+1-max 0 (O-16)=O-max 0 (O-16):=by omega
 have hn:=Qyq cs q (O-max 0 (O-16)).toNat (O-1);have k1:dO (Ft cs q O (O-1) (0+(O-max 0 (O-16)).toNat))=true:=Q1 ⟨hl,hc,by omega,by omega,by omega,by omega,by omega,by omega,by omega⟩;simp only[w1,e5,k1,aH,aR,ag];have k2:decide ((pF cs q (O-max 0 (O-16)).toNat (O-1)).length<=1000)=true:=ab (by omega);simp only[k2,List.length_reverse,Zp rfl,aM,au,ag]
def zZ:=zY.b8 73 Qhd
theorem QyF:Qk Tryz.prog cu zZ:=QyE.iv Qb fun args d h=>by
 unfold Qhd at h
 split at h
 ·obtain⟨h1,rfl⟩:=ak h;exact⟨by simp[D.refs],80,QrY _ _ _ _ _ _ _ h1⟩
 ·cases h
end Go.Ev
