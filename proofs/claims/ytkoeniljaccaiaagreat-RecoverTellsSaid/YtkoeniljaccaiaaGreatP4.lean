/-
  A part of the proof of a statement of this seat: the model is run over values by content, proved sound; what the functions come to. No condition beyond the given statements. (text 5)
-/
import Derived.Test.YtkoeniljaccaiaaGreatP3
noncomputable section
namespace Go.Ev
set_option linter.unusedVariables false
set_option linter.unusedSimpArgs false
def kz(w:Nat)(b:bK):gJ:=if w<=b.length then some ((cf (b.take w):Int),b.drop w)else none
def Cc:Nat->bK->Option (bM×bK)
 |0,b=>some ([],b)
 |n+1,b=>(kz 1 b).bind fun k=>(kz 3 k.2).bind fun p=>(kz 1 p.2).bind fun v=>(Cc n v.2).bind fun q=>some (⟨k.1,p.1,v.1⟩::q.1,q.2)
def HB:Nat->Int->bK->Option (bJ×bK)
 |0,_,b=>some ([],b)
 |n+1,o,b=>(kz 3 b).bind fun p=>(kz 1 p.2).bind fun x=>(kz 1 x.2).bind fun v=>(HB n (o+1) v.2).bind fun q=>some (⟨o,p.1,x.1%16,x.1/16,v.1⟩::q.1,q.2)
def sd(b:bK):Option ((Int×bJ)×bK):=
 (kz 3 b).bind fun c=>(kz 1 c.2).bind fun n=>(kz 3 n.2).bind fun f=>if n.1=0/\f.1≠0 then none else(HB n.1.toNat f.1 f.2).bind fun q=>some ((c.1,q.1),q.2)
def QA(b:bK):Option St :=
 (kz 3 b).bind fun p=>(kz 1 p.2).bind fun n=>(Cc n.1.toNat n.2).bind fun it=>(sd it.2).bind fun x=>(sd x.2).bind fun y=>(sd y.2).bind fun z=>
  if z.2=[]/\Qs ⟨p.1,it.1,x.1.2,y.1.2,z.1.2,x.1.1,y.1.1,z.1.1⟩=true then some ⟨p.1,it.1,x.1.2,y.1.2,z.1.2,x.1.1,y.1.1,z.1.1⟩else none
structure qG(σ:Type) where
 (get:Nat->σ->Int×σ)(c7:σ->Bool)(rem:σ->bK)
structure IQ{σ:Type}(R:qG σ):Prop where
 ok:∀w s,1<=w->R.c7 s=false->w<=(R.rem s).length->(R.get w s).1=(cf ((R.rem s).take w):Int)/\R.rem (R.get w s).2=(R.rem s).drop w/\R.c7 (R.get w s).2=false
 no:∀w s,R.c7 s=false->(R.rem s).length<w->R.c7 (R.get w s).2=true
 stay:∀w s,R.c7 s=true->R.c7 (R.get w s).2=true
section
variable {σ:Type}(R:qG σ)
def wg{α:Type}(o:Option (α×bK))(v:α)(s:σ):Prop:=match o with
 |some q=>v=q.1/\R.rem s=q.2/\R.c7 s=false
 |none=>R.c7 s=true
variable {R}(K:IQ R)
include K
theorem Yf(w:Nat)(s:σ)(h:R.c7 s=false)(h1:1<=w:=by decide):wg R (kz w (R.rem s)) (R.get w s).1 (R.get w s).2:=by
 unfold kz
 by_cases hw:w<=(R.rem s).length
 ·rw[ax hw];exact K.ok w s h1 h hw
 ·rw[aw hw];exact K.no w s h (by omega)
omit K in
theorem Q3{α β:Type}{o:Option (α×bK)}{v:α}{s s':σ}{w:β}(f:α×bK->Option (β×bK))(h:wg R o v s)(hs:R.c7 s=true->R.c7 s'=true)(hf:R.c7 s=false->wg R (f (v,R.rem s)) w s'):wg R (o.bind f) w s':=by
 cases o with
 |none=>exact hs h
 |some q=>
  obtain⟨h1,h2,h3⟩:=h;have:=hf h3;rw[h1,h2]at this;exact this
def QH(R:qG σ)(cT:Bool):Nat->σ->σ×bM
 |0,s=>(s,[])
 |n+1,s=>bif cT&&R.c7 s then(s,[])else
  let k:=R.get 1 s
  let p:=R.get 3 k.2
  let v:=R.get 1 p.2
  let q:=QH R cT n v.2
  (q.1,⟨k.1,p.1,v.1⟩::q.2)
def Qx(R:qG σ)(cT:Bool):Nat->Int->σ->σ×bJ
 |0,_,s=>(s,[])
 |n+1,o,s=>bif cT&&R.c7 s then(s,[])else
  let p:=R.get 3 s
  let x:=R.get 1 p.2
  let v:=R.get 1 x.2
  let q:=Qx R cT n (o+1) v.2
  (q.1,⟨o,p.1,x.1%16,x.1/16,v.1⟩::q.2)
theorem Y6(cT:Bool):∀(n:Nat) (s:σ),R.c7 s=true->R.c7 (QH R cT n s).1=true
 |0,s,h=>h
 |n+1,s,h=>by
  cases cT with
  |true=>simp[QH,h]
  |false=>
   simp only[QH,Bool.false_and,ah];exact Y6 false n _ (K.stay _ _ (K.stay _ _ (K.stay _ _ h)))
theorem ZF(cT:Bool):∀(n:Nat) (o:Int) (s:σ),R.c7 s=true->R.c7 (Qx R cT n o s).1=true
 |0,o,s,h=>h
 |n+1,o,s,h=>by
  cases cT with
  |true=>simp[Qx,h]
  |false=>
   simp only[Qx,Bool.false_and,ah];exact ZF false n _ _ (K.stay _ _ (K.stay _ _ (K.stay _ _ h)))
theorem TJ(cT:Bool):∀(n:Nat) (s:σ),R.c7 s=false->wg R (Cc n (R.rem s)) (QH R cT n s).2 (QH R cT n s).1
 |0,s,h=>⟨rfl,rfl,h⟩
 |n+1,s,h=>by
  have e:QH R cT (n+1) s=((QH R cT n (R.get 1 (R.get 3 (R.get 1 s).2).2).2).1,⟨(R.get 1 s).1,(R.get 3 (R.get 1 s).2).1,(R.get 1 (R.get 3 (R.get 1 s).2).2).1⟩::(QH R cT n (R.get 1 (R.get 3 (R.get 1 s).2).2).2).2):=by
   simp[QH,h]
  rw[e,Cc];refine Q3 _ (Yf K 1 s h) (fun hb=>Y6 K cT n _ (K.stay _ _ (K.stay _ _ hb))) fun h1=>?_;refine Q3 _ (Yf K 3 _ h1) (fun hb=>Y6 K cT n _ (K.stay _ _ hb)) fun h2=>?_;refine Q3 _ (Yf K 1 _ h2) (fun hb=>Y6 K cT n _ hb) fun h3=>?_;refine Q3 _ (TJ cT n _ h3) (fun hb=>hb) fun h4=>?_;exact⟨rfl,rfl,h4⟩
theorem TK(cT:Bool):∀(n:Nat) (o:Int) (s:σ),R.c7 s=false->wg R (HB n o (R.rem s)) (Qx R cT n o s).2 (Qx R cT n o s).1
 |0,o,s,h=>⟨rfl,rfl,h⟩
 |n+1,o,s,h=>by
  have e:Qx R cT (n+1) o s=((Qx R cT n (o+1) (R.get 1 (R.get 1 (R.get 3 s).2).2).2).1,⟨o,(R.get 3 s).1,(R.get 1 (R.get 3 s).2).1%16,(R.get 1 (R.get 3 s).2).1/16,(R.get 1 (R.get 1 (R.get 3 s).2).2).1⟩::(Qx R cT n (o+1) (R.get 1 (R.get 1 (R.get 3 s).2).2).2).2):=by
   simp[Qx,h]
  rw[e,HB];refine Q3 _ (Yf K 3 s h) (fun hb=>ZF K cT n _ _ (K.stay _ _ (K.stay _ _ hb))) fun h1=>?_;refine Q3 _ (Yf K 1 _ h1) (fun hb=>ZF K cT n _ _ (K.stay _ _ hb)) fun h2=>?_;refine Q3 _ (Yf K 1 _ h2) (fun hb=>ZF K cT n _ _ hb) fun h3=>?_;refine Q3 _ (TK cT n _ _ h3) (fun hb=>hb) fun h4=>?_;exact⟨rfl,rfl,h4⟩
def YE(R:qG σ)(cT:Bool)(mark:σ->σ)(s:σ):σ×Int×bJ :=
 let c:=R.get 3 s
 let n:=R.get 1 c.2
 let f:=R.get 3 n.2
 let q:=Qx R cT n.1.toNat f.1 (bif n.1==0&&f.1 !=0 then mark f.2 else f.2)
 (q.1,c.1,q.2)
theorem UB(cT:Bool)(mark:σ->σ)(hm:∀s,R.c7 (mark s)=true)(s:σ)(h:R.c7 s=true):R.c7 (YE R cT mark s).1=true:=by
 unfold YE;refine ZF K cT _ _ _ ?_;cases ((R.get 1 (R.get 3 s).2).1==0&&(R.get 3 (R.get 1 (R.get 3 s).2).2).1 !=0)with
 |true=>exact hm _
 |false=>exact K.stay _ _ (K.stay _ _ (K.stay _ _ h))
theorem LH(cT:Bool)(mark:σ->σ)(hm:∀s,R.c7 (mark s)=true)(s:σ)(h:R.c7 s=false):wg R (sd (R.rem s)) (YE R cT mark s).2 (YE R cT mark s).1:=by
 have st:∀x:σ,R.c7 x=true->∀b:Bool,R.c7 (bif b then mark x else x)=true:=fun x hx b=>by cases b;exact hx;exact hm x
 unfold sd YE;refine Q3 _ (Yf K 3 s h) (fun hb=>ZF K cT _ _ _ (st _ (K.stay _ _ (K.stay _ _ hb)) _)) fun h1=>?_;refine Q3 _ (Yf K 1 _ h1) (fun hb=>ZF K cT _ _ _ (st _ (K.stay _ _ hb) _)) fun h2=>?_;refine Q3 _ (Yf K 3 _ h2) (fun hb=>ZF K cT _ _ _ (st _ hb _)) fun h3=>?_
 by_cases hc:(R.get 1 (R.get 3 s).2).1=0/\(R.get 3 (R.get 1 (R.get 3 s).2).2).1≠0
 ·have e:((R.get 1 (R.get 3 s).2).1==0&&(R.get 3 (R.get 1 (R.get 3 s).2).2).1 !=0)=true:=by simp[hc.1,hc.2]
  simp only[ax hc,e,ag];exact ZF K cT _ _ _ (hm _)
 ·have e:((R.get 1 (R.get 3 s).2).1==0&&(R.get 3 (R.get 1 (R.get 3 s).2).2).1 !=0)=false:=by
   cases hq:((R.get 1 (R.get 3 s).2).1==0&&(R.get 3 (R.get 1 (R.get 3 s).2).2).1 !=0)with
   |false=>rfl
   |true=>simp only[ai,bi,bne_iff_ne,ne_eq]at hq;exact(hc hq).elim
  simp only[aw hc,e,ah];refine Q3 _ (TK K cT _ _ _ h3) (fun hb=>hb) fun h4=>?_;exact⟨rfl,rfl,h4⟩
def Kw(R:qG σ)(cT:Bool)(mark:σ->σ)(s:σ):σ×St :=
 let p:=R.get 3 s
 let n:=R.get 1 p.2
 let it:=QH R cT n.1.toNat n.2
 let x:=YE R cT mark it.1
 let y:=YE R cT mark x.1
 let z:=YE R cT mark y.1
 (z.1,⟨p.1,it.2,x.2.2,y.2.2,z.2.2,x.2.1,y.2.1,z.2.1⟩)
def DY(b:bK):Option (St×bK):=
 (kz 3 b).bind fun p=>(kz 1 p.2).bind fun n=>(Cc n.1.toNat n.2).bind fun it=>(sd it.2).bind fun x=>(sd x.2).bind fun y=>(sd y.2).bind fun z=>
  some (⟨p.1,it.1,x.1.2,y.1.2,z.1.2,x.1.1,y.1.1,z.1.1⟩,z.2)
theorem Qiz(cT:Bool)(mark:σ->σ)(hm:∀s,R.c7 (mark s)=true)(s:σ)(h:R.c7 s=false):wg R (DY (R.rem s)) (Kw R cT mark s).2 (Kw R cT mark s).1:=by
 have ps:=UB K cT mark hm;unfold DY Kw;refine Q3 _ (Yf K 3 s h) (fun hb=>ps _ (ps _ (ps _ (Y6 K cT _ _ (K.stay _ _ hb))))) fun h1=>?_;refine Q3 _ (Yf K 1 _ h1) (fun hb=>ps _ (ps _ (ps _ (Y6 K cT _ _ hb)))) fun h2=>?_;refine Q3 _ (TJ K cT _ _ h2) (fun hb=>ps _ (ps _ (ps _ hb))) fun h3=>?_;refine Q3 _ (LH K cT mark hm _ h3) (fun hb=>ps _ (ps _ hb)) fun h4=>?_;refine Q3 _ (LH K cT mark hm _ h4) (fun hb=>ps _ hb) fun h5=>?_;refine Q3 _ (LH K cT mark hm _ h5) (fun hb=>hb) fun h6=>?_;exact⟨rfl,rfl,h6⟩
omit K in
theorem Qmo b:QA b=match DY b with
 |some q=>if q.2=[]/\Qs q.1=true then some q.1 else none
 |none=>none:=by
 unfold QA DY;cases kz 3 b with
 |none=>rfl
 |some p=>
  simp only[Option.bind_some];cases kz 1 p.2 with
  |none=>rfl
  |some n=>
   simp only[Option.bind_some];cases Cc n.1.toNat n.2 with
   |none=>rfl
   |some it=>
    simp only[Option.bind_some];cases sd it.2 with
    |none=>rfl
    |some x=>
     simp only[Option.bind_some];cases sd x.2 with
     |none=>rfl
     |some y=>
      simp only[Option.bind_some];cases sd y.2 with
      |none=>rfl
      |some z=>rfl
theorem V1(cT:Bool)(mark:σ->σ)(hm:∀s,R.c7 (mark s)=true)(s:σ)(h:R.c7 s=false) :
 QA (R.rem s)=if R.c7 (Kw R cT mark s).1=false/\R.rem (Kw R cT mark s).1=[]/\Qs (Kw R cT mark s).2=true then some (Kw R cT mark s).2 else none:=by
 have:=Qiz K cT mark hm s h;rw[Qmo];cases hq:DY (R.rem s)with
 |none=>
  rw[hq]at this;have hb:R.c7 (Kw R cT mark s).1=true:=this;simp[hb]
 |some q=>
  rw[hq]at this;obtain⟨h1,h2,h3⟩:=this;rw[h1,h2,h3];simp
end
def fD:qG Rd:=⟨df,Rd.c7,Rd.b⟩
theorem QEL:IQ fD where
 ok w s h1 h hw:=by
  obtain⟨c,b,c7⟩:=s;simp only[fD]at h hw ⊢;subst h;rw[Zc hw];exact⟨rfl,rfl,rfl⟩
 no w s h hw:=by
  obtain⟨c,b,c7⟩:=s;simp only[fD]at hw ⊢;rw[Zj hw]
 stay w s h:=GP h
structure Rn where
 pos:Nat
 short:Bool
def c9(b:bK)(w:Nat)(s:Rn):Int×Rn:=if s.pos+w<=b.length then((cf ((b.drop s.pos).take w):Int),⟨s.pos+w,s.short⟩)else(0,⟨s.pos,true⟩)
def gI(b:bK):qG Rn:=⟨c9 b,Rn.short,fun s=>b.drop s.pos⟩
theorem Cd b:IQ (gI b) where
 ok w s h1 h hw:=by
  obtain⟨p,sh⟩:=s;simp only[gI,bq]at h hw ⊢;simp only[c9,ax (show p+w<=b.length by omega)];exact⟨by first|trivial|rfl,by rw[bD],h⟩
 no w s h hw:=by
  obtain⟨p,sh⟩:=s;simp only[gI,bq]at hw ⊢;simp only[c9,aw (show ¬p+w<=b.length by omega)]
 stay w s h:=by
  obtain⟨p,sh⟩:=s;simp only[gI]at h ⊢;unfold c9;split
  ·exact h
  ·rfl
def cO{α:Type}(q k:Int)(l x:List α):List α:=if q=k then l++x else l
structure QS(σ:Type) where
 (r:σ)(l0 l1 l2:bJ)(c0 c1 c2:Int)
section
variable {σ:Type}(R:qG σ)(cT:Bool)(mark:σ->σ)
def Co(s:QS σ):QS σ:={ s with r:=(YE R cT mark s.r).1,l0:=s.l0++(YE R cT mark s.r).2.2,c0:=(YE R cT mark s.r).2.1 }
def xG(s:QS σ):QS σ:={ s with r:=(YE R cT mark s.r).1,l1:=s.l1++(YE R cT mark s.r).2.2,c1:=(YE R cT mark s.r).2.1 }
def wc(s:QS σ):QS σ:={ s with r:=(YE R cT mark s.r).1,l2:=s.l2++(YE R cT mark s.r).2.2,c2:=(YE R cT mark s.r).2.1 }
def fj:Nat->QS σ->QS σ
 |0,s=>wc R cT mark (xG R cT mark (Co R cT mark s))
 |1,s=>wc R cT mark (xG R cT mark s)
 |2,s=>wc R cT mark s
 |_,s=>s
end
def ZG(r:Rd):Rd:=⟨r.c,r.b,true⟩
theorem LX{σ:Type}(R:qG σ)(cT:Bool):∀(n:Nat) (o:Int) (s:σ),(Qx R cT n o s).2.length<=n
 |0,_,_=>aq _
 |n+1,o,s=>by
  simp only[Qx];cases cT&&R.c7 s with
  |true=>simp
  |false=>have:=LX R cT n (o+1) (R.get 1 (R.get 1 (R.get 3 s).2).2).2;simp;omega
theorem IR(m:Nat)(hm:m<2^63):bits .i64 (fun _ u v=>u&&&v) (m:Int) 15=(m:Int)%16:=by
 unfold bits
 have h1:∀x:Nat,x<2^64->(BitVec.ofInt IntKind.i64.bits (x:Int)).toNat=x:=by
  intro x hx;rw[BitVec.toNat_ofInt];simp only[IntKind.bits];omega
 have e:(15:Int)=((15:Nat):Int):=rfl;rw[e,BitVec.toNat_and,h1 _ (by omega),h1 _ (by omega)];have h2:m&&&15=m%16:=Nat.and_two_pow_sub_one_eq_mod m 4;rw[h2,cu (by omega) (by omega)];omega
theorem Vq(k:Nat)(s:Rd):QH fD false (k+1) s=((QH fD false k (df 1 (df 3 (df 1 s).2).2).2).1,⟨(df 1 s).1,(df 3 (df 1 s).2).1,(df 1 (df 3 (df 1 s).2).2).1⟩::(QH fD false k (df 1 (df 3 (df 1 s).2).2).2).2):=rfl
theorem Q8(k:Nat)(o:Int)(s:Rd):Qx fD false (k+1) o s=((Qx fD false k (o+1) (df 1 (df 1 (df 3 s).2).2).2).1,⟨o,(df 3 s).1,(df 1 (df 3 s).2).1%16,(df 1 (df 3 s).2).1/16,(df 1 (df 1 (df 3 s).2).2).1⟩::(Qx fD false k (o+1) (df 1 (df 1 (df 3 s).2).2).2).2):=rfl
open Go.Proofs
set_option maxRecDepth 100000
structure Qmp where
 (c:Bool)(b:bK)(c7:Bool)(pl:Int)(y:Bool)(ws:cA)(n:Int)(i:Nat)
def BZ(c:Bool)(b:bK)(c7:Bool)(pl:Int)(y:Bool)(ws:cA)(n:Int)(i:Nat):bX:=[(4,.ptr 0 []),(5,.ptr 1 []),(20,.int .i64 n),(21,.int .i64 (i:Int))]
def Ke(c:Bool)(b:bK)(c7:Bool)(pl:Int)(y:Bool)(ws:cA)(n:Int)(i:Nat):bR:=[.var 171 (cL .u8 c b (.bI (.bool c7) .bN)),.var 51 (cG pl (.bI (.bool y) (.bI (.vs 2 (ws.length)) .bN))),.cj (C:=RC) .write true ws]
def Qsk c b c7 pl y ws n i:=eF cF A7 184 6 40 3 [4,5,20,21] [] [.slot 4 0,.slot 5 0,.path 1 [2]] (BZ c b c7 pl y ws n i) (Ke c b c7 pl y ws n i)
theorem QyE c b c7 pl y ws n i:Qsk c b c7 pl y ws n i=(let Z0:Int×Int:=cU b 0 1;let Z1:=ws.length;let Z2:=Nat.beq Z1 Z1;let Z3:X×bX:=(X.normal,[(4,D.ptr 0 []),(5,D.ptr 1 []),(20,cq n),(21,cq (cX ((i:Int)+1)))]);let Z4:bQ:=.bN;let Z5:bZ:=some (Obj.var 171 (.bI (D.sl ca.u8 true []) (.bI (D.bool true) Z4)));let Z6:bQ:=cq pl;let Z7:bQ:=D.bool y;let Z8:=List.drop 1 b;let Z9:Int×Int:=cU Z8 0 1;let dg:cA:=[Qq.mk Z0.1 0];let dq:cA:=[Qq.mk Z0.1 Z9.1];bif decide ((i:Int)<n)then cb (decide (b.length<=1000000000000)) (bif Z0.2 !=0 then cb (Z2&&Qf (Z1+1) 16) (some (Z3,[Z5,some (Obj.var 51 (.bI Z6 (D.bI Z7 (D.bI (D.vs 2 (Z1+1)) Z4)))),some (Obj.cj ca.write true (ws++[Qq.mk 0 0]))]))else cb (decide ((0:Int)<=1/\(1:Int)<=(b.length:Int))) (cb (decide (Z8.length<=1000000000000)) (bif Z9.2 !=0 then cb (Z2&&Qf (Z1+dg.length) 16) (some (Z3,[Z5,some (Obj.var 51 (.bI Z6 (D.bI Z7 (D.bI (D.vs 2 (Z1+dg.length)) Z4)))),some (Obj.cj ca.write true (ws++dg))]))else cb (decide ((0:Int)<=1/\(1:Int)<=(Z8.length:Int))) (cb (Z2&&Qf (Z1+dq.length) 16) (some (Z3,[some (Obj.var 171 (.bI (D.sl ca.u8 c (List.drop 1 Z8)) (.bI (D.bool c7) Z4))),some (Obj.var 51 (.bI Z6 (D.bI Z7 (D.bI (D.vs 2 (Z1+dq.length)) Z4)))),some (Obj.cj ca.write true (ws++dq))]))))))else some ((X.exit 0,[]),[some (Obj.var 171 (.bI (D.sl ca.u8 c b) (.bI (D.bool c7) Z4))),some (Obj.var 51 (.bI Z6 (D.bI Z7 (D.bI (D.vs 2 Z1) Z4)))),some (Obj.cj ca.write true ws)])):=by kernel_rfl
def JL(c:Bool)(b:bK)(c7:Bool)(pl:Int)(y:Bool)(ws:cA)(n:Int)(i:Nat):RT RC:=.leaf (.exit 0) [] [.var 171 (cL .u8 (Ye (n.toNat-i) ⟨c,b,c7⟩).1.c (Ye (n.toNat-i) ⟨c,b,c7⟩).1.b (.bI (.bool (Ye (n.toNat-i) ⟨c,b,c7⟩).1.c7) .bN)),.var 51 (cG pl (.bI (.bool y) (.bI (.vs 2 (ws++(Ye (n.toNat-i) ⟨c,b,c7⟩).2).length) .bN))),.cj (C:=RC) .write true (ws++(Ye (n.toNat-i) ⟨c,b,c7⟩).2)]
def KZ(c:Bool)(b:bK)(c7:Bool)(pl:Int)(y:Bool)(ws:cA)(n:Int)(i:Nat):Prop:=(i:Int)<=n/\n<=255/\b.length<=1000000/\ws.length<=i
def ZW:QK RC Qmp where
 k:=3
 cS q:=BZ q.c q.b q.c7 q.pl q.y q.ws q.n q.i
 cR q:=Ke q.c q.b q.c7 q.pl q.y q.ws q.n q.i
 fin q:=JL q.c q.b q.c7 q.pl q.y q.ws q.n q.i
 Inv q:=KZ q.c q.b q.c7 q.pl q.y q.ws q.n q.i
 μ q:=q.n.toNat-q.i
theorem QkB c b c7 pl y ws n i(hI:KZ c b c7 pl y ws n i):dw (Qsk c b c7 pl y ws n i) (dF ZW ⟨c,b,c7,pl,y,ws,n,i⟩):=by
 (rw[QyE];delta cb cq cX;conv=>zeta)
 unfold KZ at hI;obtain⟨h1,h2,h3,h4⟩:=hI;have tk:∀l:bK,List.take (Int.toNat (l.length:Int)) l=l:=fun l=>by simp
 have eb:∀n:Nat,n.beq n=true:=fun n=>by simp
 have r0:df 1 ⟨true,[],true⟩=(0,⟨true,[],true⟩):=rfl
 by_cases cY:(i:Int)<n
 ·have cN:=fa i (by omega)
  have hn:n.toNat-i=(n.toNat-(i+1))+1:=by omega
  have s1:Qf (ws.length+1) 16=true:=Zb (by omega);have e0:decide (b.length<=1000000000000)=true:=ab (by omega);simp only[cY,aM,ag,e0,Yp,show Int.toNat 1=1 from rfl,cN,aE,bH,aN,s1,eb,au]
  by_cases b1:b.length<1
  ·have r1:df 1 ⟨c,b,c7⟩=_:=Zj b1;simp only[b1,aM,ag];refine Qg ⟨true,[],true,pl,y,ws++[⟨0,0⟩],n,i+1⟩ (by refine⟨cY,h2,by simp,?_⟩;simp;omega) (by simp only[ZW];omega) ?_ (by simp[ZW,BZ]) (by simp[ZW,Ke]);simp only[ZW,JL,hn,Ye,r1,r0,ay,aP,aH]
  ·have r1:df 1 ⟨c,b,c7⟩=_:=Zc (show 1<=b.length by omega);have d1:decide ((0:Int)<=1/\(1:Int)<=b.length)=true:=by simp;omega
   have e1:decide ((b.drop 1).length<=1000000000000)=true:=ab (by simp;omega);simp only[b1,aW,ah,d1,ag,e1,Zm b1]
   by_cases b2:(b.drop 1).length<1
   ·have r2:df 1 ⟨c,b.drop 1,c7⟩=_:=Zj b2;simp only[b2,aM,ag];refine Qg ⟨true,[],true,pl,y,ws++[⟨cf (b.take 1),0⟩],n,i+1⟩ (by refine⟨cY,h2,by simp,?_⟩;simp;omega) (by simp only[ZW];omega) ?_ (by simp[ZW,BZ]) (by simp[ZW,Ke]);simp only[ZW,JL,hn,Ye,r1,r2,ay,aP,aH]
   ·have r2:df 1 ⟨c,b.drop 1,c7⟩=_:=Zc (show 1<=(b.drop 1).length by omega);have d2:decide ((0:Int)<=1/\(1:Int)<=(b.drop 1).length)=true:=by simp only[aa];omega
    simp only[b2,aW,ah,d2,ag,Zm b2];refine Qg ⟨c,(b.drop 1).drop 1,c7,pl,y,ws++[⟨cf (b.take 1),cf ((b.drop 1).take 1)⟩],n,i+1⟩ (by refine⟨cY,h2,?_,?_⟩<;>simp<;>omega) (by simp only[ZW];omega) ?_ (by simp[ZW,BZ]) (by simp[ZW,Ke]);simp only[ZW,JL,hn,Ye,r1,r2,ay,aP,aH]
 ·have hi:n.toNat-i=0:=by omega
  simp only[cY,aW,ah];exact Qi (Ke c b c7 pl y ws n i) (by simp only[ZW,JL,Ke,hi,Ye,RT.val,aR]) rfl
def Nf(env:bX)(os:bR):Option (Bool×Qmp):=match env,os with
 |[(4,.ptr 0 []),(5,.ptr 1 []),(20,.int .i64 n),(21,.int .i64 x0)],[.var 171 (.bI (.sl .u8 c b) (.bI (.bool c7) .bN)),.var 51 (.bI (.int .i64 pl) (.bI (.bool y) (.bI (.vs 2 x1) .bN))),.cj .write true ws]=>some (decide (x0=0)&&decide (x1=ws.length)&&decide (0<=n/\n<=255/\b.length<=1000000/\ws.length=0),⟨c,b,c7,pl,y,ws,n,0⟩)
 |_,_=>none
def A8:=A7.cP 184 6 (eZ cF [.slot 4 0,.slot 5 0,.path 1 [2]] [4,5,20,21] ZW Nf)
theorem Qsl:Qj Tryz.prog cF A8:=by
 refine Qsj.cJ Qb (by kernel_rfl) ZW 40 [4,5,20,21] [] [.slot 4 0,.slot 5 0,.path 1 [2]] [4,5,20,21] Nf (fun q hI=>?_) ?_
 ·obtain⟨c,b,c7,pl,y,ws,n,i⟩:=q;refine⟨?_,?_,QkB c b c7 pl y ws n i hI⟩
  ·simp_all[Qk,ZW,BZ,Ke,KZ,D.refs,Obj.refs,de]
  ·simp_all[ZW,JL,Ke,KZ,RT.da,Qk,D.refs,Obj.refs,de]
 ·intro env os b q cW hb;unfold Nf at cW
  split at cW
  ·cases cW;simp only[ai,aa]at hb;obtain⟨⟨rfl,rfl⟩,h⟩:=hb;exact⟨⟨by simpa using h.1,h.2.1,h.2.2.1,by simp[h.2.2.2]⟩,rfl,rfl⟩
  ·cases cW
def Qmq:bW->bO
 |[.sl .u8 c b]=>some (decide (b.length<=1000000),.cH (.bI (cG (fJ (Zd b)).b8 (.bI (.bool (fJ (Zd b)).yes) (cL .write (Zd b).isNone (fJ (Zd b)).dV .bN))) (cG (bif(Zd b).isNone then 50 else 0) .bN)))
 |_=>none
def Qsn(c:Bool)(b:bK):=eU cF A8 40 184 [.sl (C:=RC) .u8 c b]
theorem QyF c b:Qsn c b=(let Z0:Int×Int:=cU b 0 3;let Z1:bQ:=cq 0;let Z2:fG:=some (D.cH (D.bI (D.bI Z1 (D.bI (D.bool false) (.bI (D.sl ca.write true []) .bN))) (.bI (cq 50) .bN)));let Z3:=List.drop 3 b;let Z4:Int×Int:=cU Z3 0 1;let Z5:=List.drop 1 Z3;let Z6:Int×Int:=cU Z5 0 1;let Z7:=Z6.1;let Z8:Rd×cA:=Ye (Int.toNat Z7-0) (Rd.mk c (List.drop 1 Z5) false);let Z9:=List.length Z8.1.b;let dg:cA:=[]++Z8.2;let dq:=dg.length;let dE:=Z4.1==1;cb (decide (b.length<=1000000000000)) (bif Z0.2 !=0 then Z2 else cb (decide ((0:Int)<=3/\(3:Int)<=(b.length:Int))) (cb (decide (Z3.length<=1000000000000)) (bif Z4.2 !=0 then Z2 else cb (decide ((0:Int)<=1/\(1:Int)<=(Z3.length:Int))) (cb (decide (Z5.length<=1000000000000)) (bif Z6.2 !=0 then Z2 else cb (decide ((0:Int)<=1/\(1:Int)<=(Z5.length:Int))) (cb (decide ((0:Int)<=Z7/\Z7<=255/\List.length (List.drop 1 Z5)<=1000000/\(0:Nat)=0)) (bif !Rd.c7 Z8.1 then cb (Qc Z9) (bif !(Z9:Int)==0 then Z2 else bif decide ((1:Int)<Z4.1)then Z2 else cb (Nat.beq dq dq) (cb (Qc dq) (bif !gj (Rec.mk Z0.1 dE dg)then Z2 else some (D.cH (D.bI (D.bI (cq Z0.1) (.bI (D.bool dE) (.bI (D.sl ca.write false dg) .bN))) (.bI Z1 .bN))))))else Z2)))))))):=by kernel_rfl
theorem QyG c b(h:(decide (b.length<=1000000))=true):Qsn c b=some (.cH (.bI (cG (fJ (Zd b)).b8 (.bI (.bool (fJ (Zd b)).yes) (cL .write (Zd b).isNone (fJ (Zd b)).dV .bN))) (cG (bif(Zd b).isNone then 50 else 0) .bN))):=by
 (rw[QyF];delta cb cq;conv=>zeta)
 have hl:=af h;have e0:decide (b.length<=1000000000000)=true:=ab (by omega);have no:Zd b=none->some (D.cH (D.bI (D.bI (D.int IntKind.i64 0) (D.bI (D.bool false) (D.bI (D.sl (C:=RC) ca.write true []) D.bN))) (D.bI (D.int IntKind.i64 50) D.bN)))=some (.cH (.bI (cG (fJ (Zd b)).b8 (.bI (.bool (fJ (Zd b)).yes) (cL .write (Zd b).isNone (fJ (Zd b)).dV .bN))) (cG (bif(Zd b).isNone then 50 else 0) .bN))):=fun e=>by rw[e];rfl
 simp only[e0,ag,YO,Yp]
 by_cases b3:b.length<3
 ·simp only[b3,aM,ag];exact no (by unfold Zd;rw[aw];omega)
 have d3:decide ((0:Int)<=3/\(3:Int)<=b.length)=true:=by simp;omega
 have e1:decide ((b.drop 3).length<=1000000000000)=true:=ab (by simp;omega);simp only[b3,aW,ah,d3,ag,e1,ZL b3]
 by_cases b4:(b.drop 3).length<1
 ·simp only[b4,aM,ag];exact no (by unfold Zd;rw[aw];simp at b4;omega)
 have d4:decide ((0:Int)<=1/\(1:Int)<=(b.drop 3).length)=true:=by simp only[aa];omega
 have e2:decide (((b.drop 3).drop 1).length<=1000000000000)=true:=ab (by simp;omega);simp only[b4,aW,ah,d4,ag,e2,Zm b4]
 by_cases b5:((b.drop 3).drop 1).length<1
 ·simp only[b5,aM,ag];exact no (by unfold Zd;rw[aw];simp at b5;omega)
 have d5:decide ((0:Int)<=1/\(1:Int)<=((b.drop 3).drop 1).length)=true:=by simp only[aa];omega
 have v3:cf ((b.drop 3).take 1)=(b.getD 3 0).toNat:=by
  rw[Yu (by omega)];simp[List.getElem?_drop]
 have v4:cf (((b.drop 3).drop 1).take 1)=(b.getD 4 0).toNat:=by
  rw[Yu (by omega)];simp[List.getElem?_drop]
 have dr:((b.drop 3).drop 1).drop 1=b.drop 5:=by rw[bD,bD]
 simp only[b5,aW,ah,d5,ag,Zm b5,v3,v4,dr];have h4:=(b.getD 4 0).toNat_lt;have dl:(b.drop 5).length=b.length-5:=by simp
 have hl5:5<=b.length:=by
  have:((b.drop 3).drop 1).length=b.length-4:=by rw[bD];simp
  omega
 generalize hn:(b.getD 4 0).toNat=n at h4 ⊢;have c1:decide ((0:Int)<=n/\(n:Int)<=255/\(b.drop 5).length<=1000000/\True)=true:=ab ⟨by omega,by omega,by omega,trivial⟩;have tn:(n:Int).toNat-0=n:=by omega
 simp only[c1,tn,ag,aH]
 by_cases hs:(b.drop 5).length<2*n
 ·simp only[Tu n c _ false hs,bg,ah];exact no (by unfold Zd;rw[aw];omega)
 rw[UA n c _ false (by omega)];have k1:Qc ((b.drop 5).drop (2*n)).length=true:=Qd (by simp;omega);have kp:(YP n (b.drop 5)).length<=9223372036854775807:=by rw[LW];omega
 have eb:∀n:Nat,n.beq n=true:=fun n=>by simp
 simp only[bh,ag,k1,eb,Qd kp]
 by_cases he:((b.drop 5).drop (2*n)).length=0
 ·have e5:b.length=5+2*n:=by simp at he;omega
  have e6:((((b.drop 5).drop (2*n)).length:Int)==0)=true:=by simp only[bi];omega
  simp only[e6,bg,ah]
  by_cases hy:1<(b.getD 3 0).toNat
  ·have:decide (1<((b.getD 3 0).toNat:Int))=true:=by simp only[aa];omega
   simp only[this,ag];exact no (by unfold Zd;rw[aw];omega)
  ·have y1:decide (1<((b.getD 3 0).toNat:Int))=false:=by simp only[ae];omega
   have y2:(((b.getD 3 0).toNat:Int)==1)=((b.getD 3 0).toNat==1):=by rw[Bool.eq_iff_iff];simp only[bi];omega
   simp only[y1,y2,ah];cases hm:gj ⟨(cf (b.take 3):Int),(b.getD 3 0).toNat==1,YP n (b.drop 5)⟩
   ·simp only[bh,ag];exact no (by unfold Zd;rw[hn,aw];intro q;rw[hm]at q;cases q.2.2.2)
   ·have hr:Zd b=some ⟨(cf (b.take 3):Int),(b.getD 3 0).toNat==1,YP n (b.drop 5)⟩:=by
     unfold Zd;rw[hn,ax ⟨hl5,by omega,e5,hm⟩]
    simp only[bg,ah,hr,fJ,ba,Option.isNone_some]
 ·have e6:((((b.drop 5).drop (2*n)).length:Int)==0)=false:=by simp only[beq_eq_false_iff_ne];omega
  simp only[e6,bh,ag];exact no (by unfold Zd;rw[hn,aw];intro q;simp at he;omega)
def A9:=A8.cm 184 Qmq
theorem Qso:Qj Tryz.prog cF A9:=Qsl.c6 Qb fun args d h=>by
 unfold Qmq at h
 split at h
 ·obtain⟨h1,rfl⟩:=ak h;exact⟨by simp[D.refs],40,QyG _ _ h1⟩
 ·cases h
structure Wc where
 (c:Bool)(b:bK)(pl:Int)(y:Bool)(ws:cA)(i:Nat)
def GQ(c:Bool)(b:bK)(pl:Int)(y:Bool)(ws:cA)(i:Nat):bX:=[(0,.sl (C:=RC) .u8 c b),(6,.ptr 0 []),(7,.int .i64 (i:Int))]
def Kf(c:Bool)(b:bK)(pl:Int)(y:Bool)(ws:cA)(i:Nat):bR:=[.var 51 (cG pl (.bI (.bool y) (.bI (.vs 1 (ws.length)) .bN))),.cj (C:=RC) .write true ws]
def Qmr c b pl y ws i:=eF cF A9 160 6 40 2 [0,6,7] [] [.slot 6 0,.path 0 [2]] (GQ c b pl y ws i) (Kf c b pl y ws i)
theorem Qsp c b pl y ws i:Qmr c b pl y ws i=(let Z0:Int:=(b.length:Int);let Z1:Int:=(i:Int);let Z2:UInt8:=UInt8.ofBitVec (BitVec.ofNat 8 (nat_lit 0));let Z3:=cX ((2:Int)*Z1);let Z4:=cX ((5:Int)+Z3);let Z5:=cX ((6:Int)+Z3);let Z6:=ws.length;let Z7:cA:=[Qq.mk (cX (↑(UInt8.toNat (List.getD b Z4.toNat Z2)):Int)) (cX (↑(UInt8.toNat (List.getD b Z5.toNat Z2)):Int))];cb (decide ((0:Int)<=4/\(4:Int)<Z0)) (bif decide (Z1<cX (↑(UInt8.toNat (List.getD b 4 Z2)):Int))then cb (ep Z4 Z0) (cb (ep Z5 Z0) (cb (Nat.beq Z6 Z6&&Qf (Z6+Z7.length) 16) (some ((X.normal,[(0,D.sl ca.u8 c b),(6,D.ptr 0 []),(7,cq (cX (Z1+1)))]),[some (Obj.var 51 (.bI (cq pl) (.bI (D.bool y) (.bI (D.vs 1 (Z6+Z7.length)) .bN)))),some (Obj.cj ca.write true (ws++Z7))]))))else some ((X.exit 0,[]),[some (Obj.var 51 (.bI (cq pl) (.bI (D.bool y) (.bI (D.vs 1 Z6) .bN)))),some (Obj.cj ca.write true ws)]))):=by kernel_rfl
def F5(c:Bool)(b:bK)(pl:Int)(y:Bool)(ws:cA)(i:Nat):RT RC:=.leaf (.exit 0) [] [.var 51 (cG pl (.bI (.bool y) (.bI (.vs 1 (ws++YP ((b.getD 4 0).toNat-i) (b.drop (5+2*i))).length) .bN))),.cj (C:=RC) .write true (ws++YP ((b.getD 4 0).toNat-i) (b.drop (5+2*i)))]
def JM(c:Bool)(b:bK)(pl:Int)(y:Bool)(ws:cA)(i:Nat):Prop:=b.length=5+2*(b.getD 4 0).toNat/\i<=(b.getD 4 0).toNat/\ws.length<=i
def Vd:QK RC Wc where
 k:=2
 cS q:=GQ q.c q.b q.pl q.y q.ws q.i
 cR q:=Kf q.c q.b q.pl q.y q.ws q.i
 fin q:=F5 q.c q.b q.pl q.y q.ws q.i
 Inv q:=JM q.c q.b q.pl q.y q.ws q.i
 μ q:=(q.b.getD 4 0).toNat-q.i
theorem QiC c b pl y ws i(hI:JM c b pl y ws i):dw (Qmr c b pl y ws i) (dF Vd ⟨c,b,pl,y,ws,i⟩):=by
 (rw[Qsp];delta cb ep cq cX;conv=>zeta)
 unfold JM at hI;obtain⟨h1,h2,h3⟩:=hI;have eb:∀n:Nat,n.beq n=true:=fun n=>by simp
 have h4:=(b.getD 4 0).toNat_lt;have z:(⟨0#8⟩:UInt8)=0:=rfl;have d4:decide ((0:Int)<=4/\(4:Int)<b.length)=true:=by simp only[aa];omega
 simp only[z,d4,ag,Hs,show Int.toNat 4=4 from rfl]
 by_cases cY:i<(b.getD 4 0).toNat
 ·have cN:=fa i (by omega)
  have w2:IntKind.i64.wrap (2*(i:Int))=2*(i:Int):=cu (by omega) (by omega);have w5:IntKind.i64.wrap (5+2*(i:Int))=5+2*(i:Int):=cu (by omega) (by omega);have w6:IntKind.i64.wrap (6+2*(i:Int))=6+2*(i:Int):=cu (by omega) (by omega);have t5:(5+2*(i:Int)).toNat=5+2*i:=by omega
  have t6:(6+2*(i:Int)).toNat=6+2*i:=by omega
  have l1:decide ((i:Int)<((b.getD 4 0).toNat:Int))=true:=by simp only[aa];omega
  have d5:decide (0<=5+2*(i:Int)/\5+2*(i:Int)<b.length)=true:=by simp only[aa];omega
  have d6:decide (0<=6+2*(i:Int)/\6+2*(i:Int)<b.length)=true:=by simp only[aa];omega
  have s1:Qf (ws.length+1) 16=true:=Zb (by omega);have hn:(b.getD 4 0).toNat-i=((b.getD 4 0).toNat-(i+1))+1:=by omega
  have g0:(b.drop (5+2*i)).getD 0 0=b.getD (5+2*i) 0:=by simp[List.getElem?_drop]
  have g1:(b.drop (5+2*i)).getD 1 0=b.getD (6+2*i) 0:=by simp[List.getElem?_drop];congr 1;congr 1;omega
  have g2:(b.drop (5+2*i)).drop 2=b.drop (5+2*(i+1)):=by rw[bD];congr 1
  simp only[w2,w5,w6,l1,d5,d6,cN,t5,t6,ag,aE,bH,aN,eb,s1,au];refine Qg ⟨c,b,pl,y,ws++[⟨((b.getD (5+2*i) 0).toNat:Int),((b.getD (6+2*i) 0).toNat:Int)⟩],i+1⟩ (by refine⟨h1,cY,?_⟩;simp;omega) (by simp only[Vd];omega) ?_ (by simp[Vd,GQ]) (by simp[Vd,Kf]);simp only[Vd,F5,hn,YP,g0,g1,g2,ay,aP,aH]
 ·have l1:decide ((i:Int)<((b.getD 4 0).toNat:Int))=false:=by simp only[ae];omega
  have hi:(b.getD 4 0).toNat-i=0:=by omega
  simp only[l1,ah];exact Qi (Kf c b pl y ws i) (by simp only[Vd,F5,Kf,hi,YP,RT.val,aR]) rfl
def MH(env:bX)(os:bR):Option (Bool×Wc):=match env,os with
 |[(0,.sl .u8 c b),(6,.ptr 0 []),(7,.int .i64 x0)],[.var 51 (.bI (.int .i64 pl) (.bI (.bool y) (.bI (.vs 1 x1) .bN))),.cj .write true ws]=>some (decide (x0=0)&&decide (x1=ws.length)&&decide (b.length=5+2*(b.getD 4 0).toNat/\ws.length=0),⟨c,b,pl,y,ws,0⟩)
 |_,_=>none
def Ba:=A9.cP 160 6 (eZ cF [.slot 6 0,.path 0 [2]] [0,6,7] Vd MH)
theorem Qsq:Qj Tryz.prog cF Ba:=by
 refine Qso.cJ Qb (by kernel_rfl) Vd 40 [0,6,7] [] [.slot 6 0,.path 0 [2]] [0,6,7] MH (fun q hI=>?_) ?_
 ·obtain⟨c,b,pl,y,ws,i⟩:=q;refine⟨?_,?_,QiC c b pl y ws i hI⟩
  ·simp_all[Qk,Vd,GQ,Kf,JM,D.refs,Obj.refs,de]
  ·simp_all[Vd,F5,Kf,JM,RT.da,Qk,D.refs,Obj.refs,de]
 ·intro env os b q cW hb;unfold MH at cW
  split at cW
  ·cases cW;simp only[ai,aa]at hb;obtain⟨⟨rfl,rfl⟩,hq⟩:=hb;exact⟨⟨hq.1,aK _,by simp[hq.2]⟩,rfl,rfl⟩
  ·cases cW
def Wd:bW->bO
 |[.sl .u8 c b]=>some (decide (b.length<=1000000),.cH (.bI (cG (fJ (Zd b)).b8 (.bI (.bool (fJ (Zd b)).yes) (cL .write (Zd b).isNone (fJ (Zd b)).dV .bN))) (cG (bif(Zd b).isNone then 50 else 0) .bN)))
 |_=>none
def Qmt(c:Bool)(b:bK):=eU cF Ba 40 160 [.sl (C:=RC) .u8 c b]
theorem Qsr c b:Qmt c b=(let Z0:=b.length;let Z1:Int:=(Z0:Int);let Z2:bQ:=cq 0;let Z3:fG:=some (D.cH (D.bI (D.bI Z2 (D.bI (D.bool false) (.bI (D.sl ca.write true []) .bN))) (.bI (cq 50) .bN)));let Z4:Bool:=decide ((0:Int)<=3/\(3:Int)<Z1);let Z5:UInt8:=UInt8.ofBitVec (BitVec.ofNat 8 (nat_lit 0));let Z6:Int:=(↑(UInt8.toNat (List.getD b 3 Z5)):Int);let Z7:=UInt8.toNat (List.getD b 4 (0:UInt8));let Z8:cA:=[]++YP (Z7-0) (List.drop 5 b);let Z9:=Z8.length;let dg:=Prod.fst (cU b 0 3);cb (Qc Z0) (bif decide (Z1<5)then Z3 else cb Z4 (bif decide ((1:Int)<Z6)then Z3 else cb (Qc Z0) (cb (decide ((0:Int)<=4/\(4:Int)<Z1)) (bif Z1 !=cX ((5:Int)+cX ((2:Int)*cX (↑(UInt8.toNat (List.getD b 4 Z5)):Int)))then Z3 else cb (decide (Z0<=1000000000000)) (cb Z4 (cb (decide (Z0=5+2*Z7/\(0:Nat)=0)) (cb (Nat.beq Z9 Z9) (cb (Qc Z9) (bif !gj (Rec.mk dg (Z6==1) Z8)then Z3 else some (D.cH (D.bI (D.bI (cq dg) (.bI (D.bool (Z6==1)) (.bI (D.sl ca.write false Z8) .bN))) (.bI Z2 .bN))))))))))))):=by kernel_rfl
theorem Qss c b(h:(decide (b.length<=1000000))=true):Qmt c b=some (.cH (.bI (cG (fJ (Zd b)).b8 (.bI (.bool (fJ (Zd b)).yes) (cL .write (Zd b).isNone (fJ (Zd b)).dV .bN))) (cG (bif(Zd b).isNone then 50 else 0) .bN))):=by
 (rw[Qsr];delta cb cq cX;conv=>zeta)
 have hl:=af h;have z:(⟨0#8⟩:UInt8)=0:=rfl;have h4:=(b.getD 4 0).toNat_lt;have no:Zd b=none->some (D.cH (D.bI (D.bI (D.int IntKind.i64 0) (D.bI (D.bool false) (D.bI (D.sl (C:=RC) ca.write true []) D.bN))) (D.bI (D.int IntKind.i64 50) D.bN)))=some (.cH (.bI (cG (fJ (Zd b)).b8 (.bI (.bool (fJ (Zd b)).yes) (cL .write (Zd b).isNone (fJ (Zd b)).dV .bN))) (cG (bif(Zd b).isNone then 50 else 0) .bN))):=fun e=>by rw[e];rfl
 simp only[z,Qd (show b.length<=9223372036854775807 by omega),ag,Hs]
 by_cases b5:b.length<5
 ·have:decide ((b.length:Int)<5)=true:=by simp only[aa];omega
  simp only[this,ag];exact no (by unfold Zd;rw[aw];omega)
 have l5:decide ((b.length:Int)<5)=false:=by simp only[ae];omega
 have d3:decide ((0:Int)<=3/\(3:Int)<b.length)=true:=by simp only[aa];omega
 have d4:decide ((0:Int)<=4/\(4:Int)<b.length)=true:=by simp only[aa];omega
 simp only[l5,d3,d4,ag,ah]
 by_cases y0:1<(b.getD 3 0).toNat
 ·have:decide (1<((b.getD 3 0).toNat:Int))=true:=by simp only[aa];omega
  simp only[this,ag];exact no (by unfold Zd;rw[aw];omega)
 have y1:decide (1<((b.getD 3 0).toNat:Int))=false:=by simp only[ae];omega
 have y2:(((b.getD 3 0).toNat:Int)==1)=((b.getD 3 0).toNat==1):=by rw[Bool.eq_iff_iff];simp only[bi];omega
 have w2:IntKind.i64.wrap (2*((b.getD 4 0).toNat:Int))=2*((b.getD 4 0).toNat:Int):=cu (by omega) (by omega);have w5:IntKind.i64.wrap (5+2*((b.getD 4 0).toNat:Int))=5+2*((b.getD 4 0).toNat:Int):=cu (by omega) (by omega);simp only[y1,y2,w2,w5,ah]
 by_cases e5:b.length=5+2*(b.getD 4 0).toNat
 ·have q1:((b.length:Int)!=5+2*((b.getD 4 0).toNat:Int))=false:=by simp only[bne_eq_false_iff_eq];omega
  have q2:decide (b.length<=1000000000000)=true:=ab (by omega);have q3:decide (b.length=5+2*(b.getD 4 0).toNat/\True)=true:=ab ⟨e5,trivial⟩;have kp:(YP (b.getD 4 0).toNat (b.drop 5)).length<=9223372036854775807:=by rw[LW];omega
  have eb:∀n:Nat,n.beq n=true:=fun n=>by simp
  simp only[q1,q2,q3,eb,Qd kp,ag,ah,aH,Nat.sub_zero,ZL (show ¬b.length<3 by omega)];cases hm:gj ⟨(cf (b.take 3):Int),(b.getD 3 0).toNat==1,YP (b.getD 4 0).toNat (b.drop 5)⟩
  ·simp only[bh,ag];exact no (by unfold Zd;rw[aw];intro q;rw[hm]at q;cases q.2.2.2)
  ·have hr:Zd b=some ⟨(cf (b.take 3):Int),(b.getD 3 0).toNat==1,YP (b.getD 4 0).toNat (b.drop 5)⟩:=by
    unfold Zd;rw[ax ⟨by omega,by omega,e5,hm⟩]
   simp only[bg,ah,hr,fJ,ba,Option.isNone_some]
 ·have q1:((b.length:Int)!=5+2*((b.getD 4 0).toNat:Int))=true:=by simp only[bne_iff_ne,ne_eq];omega
  simp only[q1,ag];exact no (by unfold Zd;rw[aw];omega)
def Bb:=Ba.cm 160 Wd
theorem Qst:Qj Tryz.prog cF Bb:=Qsq.c6 Qb fun args d h=>by
 unfold Wd at h
 split at h
 ·obtain⟨h1,rfl⟩:=ak h;exact⟨by simp[D.refs],40,Qss _ _ h1⟩
 ·cases h
open Go.Proofs
structure UC where
 (c:Bool)(b:bK)(c7:Bool)(pl:Int)(cQ:bM)(c0 c1 c2 n:Int)(i:Nat)
def V2(c:Bool)(b:bK)(c7:Bool)(pl:Int)(cQ:bM)(c0 c1 c2 n:Int)(i:Nat):bX:=[(4,.ptr 0 []),(5,.ptr 1 []),(20,.int .i64 n),(21,.int .i64 (i:Int))]
def Yq(c:Bool)(b:bK)(c7:Bool)(pl:Int)(cQ:bM)(c0 c1 c2 n:Int)(i:Nat):bR:=[.var 171 (cL .u8 c b (.bI (.bool c7) .bN)),.var 34 (cG pl (.bI (.vs 2 (cQ.length)) (.bI (cL .bP true [] (cL .bP true [] (cL .bP true [] .bN))) (.bI (.arr (C:=RC) .int 3 [c0,c1,c2]) .bN)))),.cj (C:=RC) .cE true cQ]
def We c b c7 pl cQ c0 c1 c2 n i:=eF cF Bb 88 4 40 3 [4,5,20,21] [] [.slot 4 0,.slot 5 0,.path 1 [1]] (V2 c b c7 pl cQ c0 c1 c2 n i) (Yq c b c7 pl cQ c0 c1 c2 n i)
theorem Qpc c b c7 pl cQ c0 c1 c2 n i:We c b c7 pl cQ c0 c1 c2 n i=(let Z0:Int×Int:=cU b 0 1;let Z1:=cQ.length;let Z2:=Nat.beq Z1 Z1;let Z3:X×bX:=(X.normal,[(4,D.ptr 0 []),(5,D.ptr 1 []),(20,cq n),(21,cq (cX ((i:Int)+1)))]);let Z4:bZ:=some (Obj.var 171 (.bI (D.sl ca.u8 true []) (.bI (D.bool true) .bN)));let Z5:bQ:=cq pl;let Z6:bQ:=D.sl ca.bP true [];let Z7:bQ:=D.bI (D.bI Z6 (D.bI Z6 (D.bI Z6 .bN))) (.bI (D.arr ca.int 3 [c0,c1,c2]) .bN);let Z8:=List.drop 1 b;let Z9:Int×Int:=cU Z8 0 3;let dg:bM:=[Item.mk Z0.1 0 0];let dq:=List.drop 3 Z8;let dE:bM:=[Item.mk Z0.1 Z9.1 0];let dQ:bM:=[Item.mk Z0.1 Z9.1 (cU dq 0 1).1];let dv:bQ:=D.bI (D.bool c7) .bN;bif decide ((i:Int)<n)then cb (decide (b.length<=1000000000000)) (bif Z0.2 !=0 then cb (Z2&&Qf (Z1+1) 24) (some (Z3,[Z4,some (Obj.var 34 (.bI Z5 (D.bI (D.vs 2 (Z1+1)) Z7))),some (Obj.cj ca.cE true (cQ++[Item.mk 0 0 0]))]))else cb (decide ((0:Int)<=1/\(1:Int)<=(b.length:Int))) (cb (decide (Z8.length<=1000000000000)) (bif Z9.2 !=0 then cb (Z2&&Qf (Z1+dg.length) 24) (some (Z3,[Z4,some (Obj.var 34 (.bI Z5 (D.bI (D.vs 2 (Z1+dg.length)) Z7))),some (Obj.cj ca.cE true (cQ++dg))]))else cb (decide ((0:Int)<=3/\(3:Int)<=(Z8.length:Int))) (cb (decide (dq.length<=1000000000000)) (bif Prod.snd (cU dq 0 1)!=0 then cb (Z2&&Qf (Z1+dE.length) 24) (some (Z3,[Z4,some (Obj.var 34 (.bI Z5 (D.bI (D.vs 2 (Z1+dE.length)) Z7))),some (Obj.cj ca.cE true (cQ++dE))]))else cb (decide ((0:Int)<=1/\(1:Int)<=(dq.length:Int))) (cb (Z2&&Qf (Z1+dQ.length) 24) (some (Z3,[some (Obj.var 171 (.bI (D.sl ca.u8 c (List.drop 1 dq)) dv)),some (Obj.var 34 (.bI Z5 (D.bI (D.vs 2 (Z1+dQ.length)) Z7))),some (Obj.cj ca.cE true (cQ++dQ))]))))))))else some ((X.exit 0,[]),[some (Obj.var 171 (.bI (D.sl ca.u8 c b) dv)),some (Obj.var 34 (.bI Z5 (D.bI (D.vs 2 Z1) Z7))),some (Obj.cj ca.cE true cQ)])):=by kernel_rfl
def Yv(c:Bool)(b:bK)(c7:Bool)(pl:Int)(cQ:bM)(c0 c1 c2 n:Int)(i:Nat):RT RC:=.leaf (.exit 0) [] [.var 171 (cL .u8 (QH fD false (n.toNat-i) ⟨c,b,c7⟩).1.c (QH fD false (n.toNat-i) ⟨c,b,c7⟩).1.b (.bI (.bool (QH fD false (n.toNat-i) ⟨c,b,c7⟩).1.c7) .bN)),.var 34 (cG pl (.bI (.vs 2 (cQ++(QH fD false (n.toNat-i) ⟨c,b,c7⟩).2).length) (.bI (cL .bP true [] (cL .bP true [] (cL .bP true [] .bN))) (.bI (.arr (C:=RC) .int 3 [c0,c1,c2]) .bN)))),.cj (C:=RC) .cE true (cQ++(QH fD false (n.toNat-i) ⟨c,b,c7⟩).2)]
def V3(c:Bool)(b:bK)(c7:Bool)(pl:Int)(cQ:bM)(c0 c1 c2 n:Int)(i:Nat):Prop:=(i:Int)<=n/\n<=255/\b.length<=1000000/\cQ.length<=i
def Q2:QK RC UC where
 k:=3
 cS q:=V2 q.c q.b q.c7 q.pl q.cQ q.c0 q.c1 q.c2 q.n q.i
 cR q:=Yq q.c q.b q.c7 q.pl q.cQ q.c0 q.c1 q.c2 q.n q.i
 fin q:=Yv q.c q.b q.c7 q.pl q.cQ q.c0 q.c1 q.c2 q.n q.i
 Inv q:=V3 q.c q.b q.c7 q.pl q.cQ q.c0 q.c1 q.c2 q.n q.i
 μ q:=q.n.toNat-q.i
theorem Qg6 c b c7 pl cQ c0 c1 c2 n i(hI:V3 c b c7 pl cQ c0 c1 c2 n i):dw (We c b c7 pl cQ c0 c1 c2 n i) (dF Q2 ⟨c,b,c7,pl,cQ,c0,c1,c2,n,i⟩):=by
 (rw[Qpc];delta cb cq cX;conv=>zeta)
 unfold V3 at hI;obtain⟨h1,h2,h3,h4⟩:=hI;have eb:∀n:Nat,n.beq n=true:=fun n=>by simp
 have z1:df 1 ⟨true,[],true⟩=(0,⟨true,[],true⟩):=rfl;have z3:df 3 ⟨true,[],true⟩=(0,⟨true,[],true⟩):=rfl
 by_cases cY:(i:Int)<n
 ·have cN:=fa i (by omega)
  have hn:n.toNat-i=(n.toNat-(i+1))+1:=by omega
  have s1:Qf (cQ.length+1) 24=true:=Zb (by omega);have e0:decide (b.length<=1000000000000)=true:=ab (by omega);have t1:Int.toNat 1=1:=rfl;have t3:Int.toNat 3=3:=rfl;simp only[cY,aM,ag,e0,Yp,YO,cN,aE,bH,aN,s1,eb,au,t1,t3]
  by_cases q0:(b).length<1
  ·have r0:df 1 ⟨c,b,c7⟩=_:=Zj q0;simp only[q0,aM,ag];refine Qg ⟨true,[],true,pl,cQ++[⟨0,0,0⟩],c0,c1,c2,n,i+1⟩ (by refine⟨cY,h2,?_,?_⟩<;>simp<;>omega) (by simp only[Q2];omega) ?_ (by simp[Q2,V2]) (by simp[Q2,Yq]);simp only[Q2,Yv,hn,Vq,r0,z1,z3,ay,aP,aH]
  have r0:df 1 ⟨c,b,c7⟩=_:=Zc (show 1<=(b).length by omega);have d0:decide ((0:Int)<=1/\(1:Int)<=(b).length)=true:=by simp only[aa];omega
  have e0:decide (((b).drop 1).length<=1000000000000)=true:=ab (by simp;omega);simp only[q0,aW,ah,d0,ag,e0,Zm q0]
  by_cases q1:((b).drop 1).length<3
  ·have r1:df 3 ⟨c,(b).drop 1,c7⟩=_:=Zj q1;simp only[q1,aM,ag];refine Qg ⟨true,[],true,pl,cQ++[⟨(cf ((b).take 1):Int),0,0⟩],c0,c1,c2,n,i+1⟩ (by refine⟨cY,h2,?_,?_⟩<;>simp<;>omega) (by simp only[Q2];omega) ?_ (by simp[Q2,V2]) (by simp[Q2,Yq]);simp only[Q2,Yv,hn,Vq,r0,r1,z1,z3,ay,aP,aH]
  have r1:df 3 ⟨c,(b).drop 1,c7⟩=_:=Zc (show 3<=((b).drop 1).length by omega);have d1:decide ((0:Int)<=3/\(3:Int)<=((b).drop 1).length)=true:=by simp only[aa];omega
  have e1:decide ((((b).drop 1).drop 3).length<=1000000000000)=true:=ab (by simp;omega);simp only[q1,aW,ah,d1,ag,e1,ZL q1]
  by_cases q2:(((b).drop 1).drop 3).length<1
  ·have r2:df 1 ⟨c,((b).drop 1).drop 3,c7⟩=_:=Zj q2;simp only[q2,aM,ag];refine Qg ⟨true,[],true,pl,cQ++[⟨(cf ((b).take 1):Int),(cf (((b).drop 1).take 3):Int),0⟩],c0,c1,c2,n,i+1⟩ (by refine⟨cY,h2,?_,?_⟩<;>simp<;>omega) (by simp only[Q2];omega) ?_ (by simp[Q2,V2]) (by simp[Q2,Yq]);simp only[Q2,Yv,hn,Vq,r0,r1,r2,z1,z3,ay,aP,aH]
  have r2:df 1 ⟨c,((b).drop 1).drop 3,c7⟩=_:=Zc (show 1<=(((b).drop 1).drop 3).length by omega);have d2:decide ((0:Int)<=1/\(1:Int)<=(((b).drop 1).drop 3).length)=true:=by simp only[aa];omega
  have e2:decide (((((b).drop 1).drop 3).drop 1).length<=1000000000000)=true:=ab (by simp;omega);simp only[q2,aW,ah,d2,ag,e2,Zm q2];refine Qg ⟨c,(((b).drop 1).drop 3).drop 1,c7,pl,cQ++[⟨(cf ((b).take 1):Int),(cf (((b).drop 1).take 3):Int),(cf ((((b).drop 1).drop 3).take 1):Int)⟩],c0,c1,c2,n,i+1⟩ (by refine⟨cY,h2,?_,?_⟩<;>simp<;>omega) (by simp only[Q2];omega) ?_ (by simp[Q2,V2]) (by simp[Q2,Yq]);simp only[Q2,Yv,hn,Vq,r0,r1,r2,ay,aP,aH]
 ·have hi:n.toNat-i=0:=by omega
  simp only[cY,aW,ah];exact Qi (Yq c b c7 pl cQ c0 c1 c2 n i) (by simp only[Q2,Yv,Yq,hi,QH,RT.val,aR]) rfl
def Mi(env:bX)(os:bR):Option (Bool×UC):=match env,os with
 |[(4,.ptr 0 []),(5,.ptr 1 []),(20,.int .i64 n),(21,.int .i64 x0)],[.var 171 (.bI (.sl .u8 c b) (.bI (.bool c7) .bN)),.var 34 (.bI (.int .i64 pl) (.bI (.vs 2 x1) (.bI (.bI (.sl .bP true []) (.bI (.sl .bP true []) (.bI (.sl .bP true []) .bN))) (.bI (.arr .int 3 [c0,c1,c2]) .bN)))),.cj .cE true cQ]=>some (decide (x0=0)&&decide (x1=cQ.length)&&decide (0<=n/\n<=255/\b.length<=1000000/\cQ.length=0),⟨c,b,c7,pl,cQ,c0,c1,c2,n,0⟩)
 |_,_=>none
def Bc:=Bb.cP 88 4 (eZ cF [.slot 4 0,.slot 5 0,.path 1 [1]] [4,5,20,21] Q2 Mi)
theorem Qsu:Qj Tryz.prog cF Bc:=by
 refine Qst.cJ Qb (by kernel_rfl) Q2 40 [4,5,20,21] [] [.slot 4 0,.slot 5 0,.path 1 [1]] [4,5,20,21] Mi (fun q hI=>?_) ?_
 ·obtain⟨c,b,c7,pl,cQ,c0,c1,c2,n,i⟩:=q;refine⟨?_,?_,Qg6 c b c7 pl cQ c0 c1 c2 n i hI⟩
  ·simp_all[Qk,Q2,V2,Yq,V3,D.refs,Obj.refs,de]
  ·simp_all[Q2,Yv,Yq,V3,RT.da,Qk,D.refs,Obj.refs,de]
 ·intro env os b q cW hb;unfold Mi at cW
  split at cW
  ·cases cW;simp only[ai,aa]at hb;obtain⟨⟨rfl,rfl⟩,h⟩:=hb;exact⟨⟨by simpa using h.1,h.2.1,h.2.2.1,by simp[h.2.2.2]⟩,rfl,rfl⟩
  ·cases cW
structure UD where
 (c:Bool)(b:bK)(c7:Bool)(pl:Int)(cQ:bM)(l0 l1 l2:bJ)(c0 c1 c2 q first n:Int)(i:Nat)
def Zv(c:Bool)(b:bK)(c7:Bool)(pl:Int)(cQ:bM)(l0 l1 l2:bJ)(c0 c1 c2 q first n:Int)(i:Nat):bX:=[(4,.ptr 0 []),(5,.ptr 1 []),(7,.int .i64 q),(9,.int .i64 first),(66,.int .i64 n),(67,.int .i64 (i:Int))]
def Zg(c:Bool)(b:bK)(c7:Bool)(pl:Int)(cQ:bM)(l0 l1 l2:bJ)(c0 c1 c2 q first n:Int)(i:Nat):bR:=[.var 171 (cL .u8 c b (.bI (.bool c7) .bN)),.var 34 (cG pl (.bI (.vs 2 (cQ.length)) (.bI (.bI (.vs 3 (l0.length)) (.bI (.vs 4 (l1.length)) (.bI (.vs 5 (l2.length)) .bN))) (.bI (.arr (C:=RC) .int 3 [c0,c1,c2]) .bN)))),.cj (C:=RC) .cE true cQ,.cj (C:=RC) .bP true l0,.cj (C:=RC) .bP true l1,.cj (C:=RC) .bP true l2]
def Gw c b c7 pl cQ l0 l1 l2 c0 c1 c2 q first n i:=eF cF Bc 88 18 60 6 [4,5,7,9,66,67] [] [.slot 4 0,.slot 5 0,.path 1 [1],.path 1 [2,0],.path 1 [2,1],.path 1 [2,2]] (Zv c b c7 pl cQ l0 l1 l2 c0 c1 c2 q first n i) (Zg c b c7 pl cQ l0 l1 l2 c0 c1 c2 q first n i)
theorem TR(c:Bool)(b:bK)(c7:Bool)(pl:Int)(cQ:bM)(l0 l1 l2:bJ)(c0 c1 c2 first n:Int)(i:Nat):Gw c b c7 pl cQ l0 l1 l2 c0 c1 c2 0 first n i=(let Z0:Int:=(i:Int);let Z1:Int×Int:=cU b 0 3;let Z2:=l0.length;let Z3:=Nat.beq Z2 Z2;let Z4:=cX (first+Z0);let Z5:bJ:=[cC.mk Z4 0 0 0 0];let Z6:X×bX:=(X.normal,[(4,D.ptr 0 []),(5,D.ptr 1 []),(7,cq 0),(9,cq first),(66,cq n),(67,cq (cX (Z0+1)))]);let Z7:bZ:=some (Obj.var 171 (.bI (D.sl ca.u8 true []) (.bI (D.bool true) .bN)));let Z8:bQ:=cq pl;let Z9:bQ:=D.vs 2 cQ.length;let dg:bQ:=D.bI (D.vs 4 l1.length) (.bI (D.vs 5 l2.length) .bN);let dq:bQ:=D.bI (D.arr ca.int 3 [c0,c1,c2]) .bN;let dE:bZ:=some (Obj.cj ca.cE true cQ);let dQ:b9:=[some (Obj.cj ca.bP true l1),some (Obj.cj ca.bP true l2)];let dv:=List.drop 3 b;let dT:bJ:=[cC.mk Z4 Z1.1 0 0 0];let dL:=List.drop 1 dv;let eK:=Prod.fst (cU dv 0 1);let eo:Int:=bits .i64 (fun(x:Nat) (u v:BitVec x)=>u&&&v) eK 15;let eX:=Int.fdiv eK 16;let eC:bJ:=[cC.mk Z4 Z1.1 eo eX 0];let eP:bJ:=[cC.mk Z4 Z1.1 eo eX (cU dL 0 1).1];let fF:bQ:=D.bI (D.bool c7) .bN;bif decide (Z0<n)then cb (decide (b.length<=1000000000000)) (bif Z1.2 !=0 then cb (Z3&&Qf (Z2+Z5.length) 40) (some (Z6,Z7::some (Obj.var 34 (.bI Z8 (D.bI Z9 (D.bI (D.bI (D.vs 3 (Z2+Z5.length)) dg) dq))))::dE::some (Obj.cj ca.bP true (l0++Z5))::dQ))else cb (decide ((0:Int)<=3/\(3:Int)<=(b.length:Int))) (cb (decide (dv.length<=1000000000000)) (bif Prod.snd (cU dv 0 1)!=0 then cb (Z3&&Qf (Z2+dT.length) 40) (some (Z6,Z7::some (Obj.var 34 (.bI Z8 (D.bI Z9 (D.bI (D.bI (D.vs 3 (Z2+dT.length)) dg) dq))))::dE::some (Obj.cj ca.bP true (l0++dT))::dQ))else cb (decide ((0:Int)<=1/\(1:Int)<=(dv.length:Int))) (cb (decide (dL.length<=1000000000000)) (bif Prod.snd (cU dL 0 1)!=0 then cb (Z3&&Qf (Z2+eC.length) 40) (some (Z6,Z7::some (Obj.var 34 (.bI Z8 (D.bI Z9 (D.bI (D.bI (D.vs 3 (Z2+eC.length)) dg) dq))))::dE::some (Obj.cj ca.bP true (l0++eC))::dQ))else cb (decide ((0:Int)<=1/\(1:Int)<=(dL.length:Int))) (cb (Z3&&Qf (Z2+eP.length) 40) (some (Z6,some (Obj.var 171 (.bI (D.sl ca.u8 c (List.drop 1 dL)) fF))::some (Obj.var 34 (.bI Z8 (D.bI Z9 (D.bI (D.bI (D.vs 3 (Z2+eP.length)) dg) dq))))::dE::some (Obj.cj ca.bP true (l0++eP))::dQ))))))))else some ((X.exit 4,[]),some (Obj.var 171 (.bI (D.sl ca.u8 c b) fF))::some (Obj.var 34 (.bI Z8 (D.bI Z9 (D.bI (D.bI (D.vs 3 Z2) dg) dq))))::dE::some (Obj.cj ca.bP true l0)::dQ)):=by kernel_rfl
theorem TS(c:Bool)(b:bK)(c7:Bool)(pl:Int)(cQ:bM)(l0 l1 l2:bJ)(c0 c1 c2 first n:Int)(i:Nat):Gw c b c7 pl cQ l0 l1 l2 c0 c1 c2 1 first n i=(let Z0:Int:=(i:Int);let Z1:Int×Int:=cU b 0 3;let Z2:=l1.length;let Z3:=Nat.beq Z2 Z2;let Z4:=cX (first+Z0);let Z5:bJ:=[cC.mk Z4 0 0 0 0];let Z6:X×bX:=(X.normal,[(4,D.ptr 0 []),(5,D.ptr 1 []),(7,cq 1),(9,cq first),(66,cq n),(67,cq (cX (Z0+1)))]);let Z7:bZ:=some (Obj.var 171 (.bI (D.sl ca.u8 true []) (.bI (D.bool true) .bN)));let Z8:bQ:=cq pl;let Z9:bQ:=D.vs 2 cQ.length;let dg:bQ:=D.vs 3 l0.length;let dq:bQ:=D.bI (D.vs 5 l2.length) .bN;let dE:bQ:=D.bI (D.arr ca.int 3 [c0,c1,c2]) .bN;let dQ:bZ:=some (Obj.cj ca.cE true cQ);let dv:bZ:=some (Obj.cj ca.bP true l0);let dT:b9:=[some (Obj.cj ca.bP true l2)];let dL:=List.drop 3 b;let eK:bJ:=[cC.mk Z4 Z1.1 0 0 0];let eo:=List.drop 1 dL;let eX:=Prod.fst (cU dL 0 1);let eC:Int:=bits .i64 (fun(x:Nat) (u v:BitVec x)=>u&&&v) eX 15;let eP:=Int.fdiv eX 16;let fF:bJ:=[cC.mk Z4 Z1.1 eC eP 0];let fz:bJ:=[cC.mk Z4 Z1.1 eC eP (cU eo 0 1).1];let fM:bQ:=D.bI (D.bool c7) .bN;bif decide (Z0<n)then cb (decide (b.length<=1000000000000)) (bif Z1.2 !=0 then cb (Z3&&Qf (Z2+Z5.length) 40) (some (Z6,Z7::some (Obj.var 34 (.bI Z8 (D.bI Z9 (D.bI (D.bI dg (D.bI (D.vs 4 (Z2+Z5.length)) dq)) dE))))::dQ::dv::some (Obj.cj ca.bP true (l1++Z5))::dT))else cb (decide ((0:Int)<=3/\(3:Int)<=(b.length:Int))) (cb (decide (dL.length<=1000000000000)) (bif Prod.snd (cU dL 0 1)!=0 then cb (Z3&&Qf (Z2+eK.length) 40) (some (Z6,Z7::some (Obj.var 34 (.bI Z8 (D.bI Z9 (D.bI (D.bI dg (D.bI (D.vs 4 (Z2+eK.length)) dq)) dE))))::dQ::dv::some (Obj.cj ca.bP true (l1++eK))::dT))else cb (decide ((0:Int)<=1/\(1:Int)<=(dL.length:Int))) (cb (decide (eo.length<=1000000000000)) (bif Prod.snd (cU eo 0 1)!=0 then cb (Z3&&Qf (Z2+fF.length) 40) (some (Z6,Z7::some (Obj.var 34 (.bI Z8 (D.bI Z9 (D.bI (D.bI dg (D.bI (D.vs 4 (Z2+fF.length)) dq)) dE))))::dQ::dv::some (Obj.cj ca.bP true (l1++fF))::dT))else cb (decide ((0:Int)<=1/\(1:Int)<=(eo.length:Int))) (cb (Z3&&Qf (Z2+fz.length) 40) (some (Z6,some (Obj.var 171 (.bI (D.sl ca.u8 c (List.drop 1 eo)) fM))::some (Obj.var 34 (.bI Z8 (D.bI Z9 (D.bI (D.bI dg (D.bI (D.vs 4 (Z2+fz.length)) dq)) dE))))::dQ::dv::some (Obj.cj ca.bP true (l1++fz))::dT))))))))else some ((X.exit 4,[]),some (Obj.var 171 (.bI (D.sl ca.u8 c b) fM))::some (Obj.var 34 (.bI Z8 (D.bI Z9 (D.bI (D.bI dg (D.bI (D.vs 4 Z2) dq)) dE))))::dQ::dv::some (Obj.cj ca.bP true l1)::dT)):=by kernel_rfl
theorem TT(c:Bool)(b:bK)(c7:Bool)(pl:Int)(cQ:bM)(l0 l1 l2:bJ)(c0 c1 c2 first n:Int)(i:Nat):Gw c b c7 pl cQ l0 l1 l2 c0 c1 c2 2 first n i=(let Z0:Int:=(i:Int);let Z1:Int×Int:=cU b 0 3;let Z2:=l2.length;let Z3:=Nat.beq Z2 Z2;let Z4:=cX (first+Z0);let Z5:bJ:=[cC.mk Z4 0 0 0 0];let Z6:X×bX:=(X.normal,[(4,D.ptr 0 []),(5,D.ptr 1 []),(7,cq 2),(9,cq first),(66,cq n),(67,cq (cX (Z0+1)))]);let Z7:bQ:=.bN;let Z8:bZ:=some (Obj.var 171 (.bI (D.sl ca.u8 true []) (.bI (D.bool true) Z7)));let Z9:bQ:=cq pl;let dg:bQ:=D.vs 2 cQ.length;let dq:bQ:=D.vs 3 l0.length;let dE:bQ:=D.vs 4 l1.length;let dQ:bQ:=D.bI (D.arr ca.int 3 [c0,c1,c2]) Z7;let dv:bZ:=some (Obj.cj ca.cE true cQ);let dT:bZ:=some (Obj.cj ca.bP true l0);let dL:bZ:=some (Obj.cj ca.bP true l1);let eK:=List.drop 3 b;let eo:bJ:=[cC.mk Z4 Z1.1 0 0 0];let eX:=List.drop 1 eK;let eC:=Prod.fst (cU eK 0 1);let eP:Int:=bits .i64 (fun(x:Nat) (u v:BitVec x)=>u&&&v) eC 15;let fF:=Int.fdiv eC 16;let fz:bJ:=[cC.mk Z4 Z1.1 eP fF 0];let fM:bJ:=[cC.mk Z4 Z1.1 eP fF (cU eX 0 1).1];bif decide (Z0<n)then cb (decide (b.length<=1000000000000)) (bif Z1.2 !=0 then cb (Z3&&Qf (Z2+Z5.length) 40) (some (Z6,[Z8,some (Obj.var 34 (.bI Z9 (D.bI dg (D.bI (D.bI dq (D.bI dE (D.bI (D.vs 5 (Z2+Z5.length)) Z7))) dQ)))),dv,dT,dL,some (Obj.cj ca.bP true (l2++Z5))]))else cb (decide ((0:Int)<=3/\(3:Int)<=(b.length:Int))) (cb (decide (eK.length<=1000000000000)) (bif Prod.snd (cU eK 0 1)!=0 then cb (Z3&&Qf (Z2+eo.length) 40) (some (Z6,[Z8,some (Obj.var 34 (.bI Z9 (D.bI dg (D.bI (D.bI dq (D.bI dE (D.bI (D.vs 5 (Z2+eo.length)) Z7))) dQ)))),dv,dT,dL,some (Obj.cj ca.bP true (l2++eo))]))else cb (decide ((0:Int)<=1/\(1:Int)<=(eK.length:Int))) (cb (decide (eX.length<=1000000000000)) (bif Prod.snd (cU eX 0 1)!=0 then cb (Z3&&Qf (Z2+fz.length) 40) (some (Z6,[Z8,some (Obj.var 34 (.bI Z9 (D.bI dg (D.bI (D.bI dq (D.bI dE (D.bI (D.vs 5 (Z2+fz.length)) Z7))) dQ)))),dv,dT,dL,some (Obj.cj ca.bP true (l2++fz))]))else cb (decide ((0:Int)<=1/\(1:Int)<=(eX.length:Int))) (cb (Z3&&Qf (Z2+fM.length) 40) (some (Z6,[some (Obj.var 171 (.bI (D.sl ca.u8 c (List.drop 1 eX)) (.bI (D.bool c7) Z7))),some (Obj.var 34 (.bI Z9 (D.bI dg (D.bI (D.bI dq (D.bI dE (D.bI (D.vs 5 (Z2+fM.length)) Z7))) dQ)))),dv,dT,dL,some (Obj.cj ca.bP true (l2++fM))]))))))))else some ((X.exit 4,[]),[some (Obj.var 171 (.bI (D.sl ca.u8 c b) (.bI (D.bool c7) Z7))),some (Obj.var 34 (.bI Z9 (D.bI dg (D.bI (D.bI dq (D.bI dE (D.bI (D.vs 5 Z2) Z7))) dQ)))),dv,dT,dL,some (Obj.cj ca.bP true l2)])):=by kernel_rfl
def Q6(c:Bool)(b:bK)(c7:Bool)(pl:Int)(cQ:bM)(l0 l1 l2:bJ)(c0 c1 c2 q first n:Int)(i:Nat):RT RC:=.leaf (.exit 4) [] [.var 171 (cL .u8 (Qx fD false (n.toNat-i) (first+i) ⟨c,b,c7⟩).1.c (Qx fD false (n.toNat-i) (first+i) ⟨c,b,c7⟩).1.b (.bI (.bool (Qx fD false (n.toNat-i) (first+i) ⟨c,b,c7⟩).1.c7) .bN)),.var 34 (cG pl (.bI (.vs 2 cQ.length) (.bI (.bI (.vs 3 (cO q 0 l0 (Qx fD false (n.toNat-i) (first+i) ⟨c,b,c7⟩).2).length) (.bI (.vs 4 (cO q 1 l1 (Qx fD false (n.toNat-i) (first+i) ⟨c,b,c7⟩).2).length) (.bI (.vs 5 (cO q 2 l2 (Qx fD false (n.toNat-i) (first+i) ⟨c,b,c7⟩).2).length) .bN))) (.bI (.arr (C:=RC) .int 3 [c0,c1,c2]) .bN)))),.cj (C:=RC) .cE true cQ,.cj (C:=RC) .bP true (cO q 0 l0 (Qx fD false (n.toNat-i) (first+i) ⟨c,b,c7⟩).2),.cj (C:=RC) .bP true (cO q 1 l1 (Qx fD false (n.toNat-i) (first+i) ⟨c,b,c7⟩).2),.cj (C:=RC) .bP true (cO q 2 l2 (Qx fD false (n.toNat-i) (first+i) ⟨c,b,c7⟩).2)]
def V4(c:Bool)(b:bK)(c7:Bool)(pl:Int)(cQ:bM)(l0 l1 l2:bJ)(c0 c1 c2 q first n:Int)(i:Nat):Prop:=(i:Int)<=n/\n<=255/\b.length<=1000000/\l0.length<=1000+i/\l1.length<=1000+i/\l2.length<=1000+i/\(0<=q/\q<=2)/\(0<=first/\first<=16777215)
def Qr:QK RC UD where
 k:=6
 cS q:=Zv q.c q.b q.c7 q.pl q.cQ q.l0 q.l1 q.l2 q.c0 q.c1 q.c2 q.q q.first q.n q.i
 cR q:=Zg q.c q.b q.c7 q.pl q.cQ q.l0 q.l1 q.l2 q.c0 q.c1 q.c2 q.q q.first q.n q.i
 fin q:=Q6 q.c q.b q.c7 q.pl q.cQ q.l0 q.l1 q.l2 q.c0 q.c1 q.c2 q.q q.first q.n q.i
 Inv q:=V4 q.c q.b q.c7 q.pl q.cQ q.l0 q.l1 q.l2 q.c0 q.c1 q.c2 q.q q.first q.n q.i
 μ q:=q.n.toNat-q.i
theorem Qg7 c b c7 pl cQ l0 l1 l2 c0 c1 c2 q first n i(hI:V4 c b c7 pl cQ l0 l1 l2 c0 c1 c2 q first n i):dw (Gw c b c7 pl cQ l0 l1 l2 c0 c1 c2 q first n i) (dF Qr ⟨c,b,c7,pl,cQ,l0,l1,l2,c0,c1,c2,q,first,n,i⟩):=by
 unfold V4 at hI;obtain⟨h1,h2,h3,h4,h5,h6,h7,h8⟩:=hI;have eb:∀n:Nat,n.beq n=true:=fun n=>by simp
 have z1:df 1 ⟨true,[],true⟩=(0,⟨true,[],true⟩):=rfl;have z3:df 3 ⟨true,[],true⟩=(0,⟨true,[],true⟩):=rfl
 by_cases cY:(i:Int)<n
 ·have cN:=fa i (by omega)
  have BO:IntKind.i64.wrap (first+(i:Int))=first+(i:Int):=cu (by omega) (by omega)
  have hn:n.toNat-i=(n.toNat-(i+1))+1:=by omega
  have kB:first+((i+1:Nat):Int)=first+(i:Int)+1:=by omega
  have m0:(0:Int)%16=0/\(0:Int)/16=0:=⟨rfl,rfl⟩;have s0:Qf (l0.length+1) 40=true:=Zb (by omega);have s1:Qf (l1.length+1) 40=true:=Zb (by omega);have s2:Qf (l2.length+1) 40=true:=Zb (by omega);have gM:¬(0:Int)=1:=by omega
  have gN:¬(0:Int)=2:=by omega
  have gO:¬(1:Int)=0:=by omega
  have gP:¬(1:Int)=2:=by omega
  have gQ:¬(2:Int)=0:=by omega
  have gR:¬(2:Int)=1:=by omega
  have e0:decide (b.length<=1000000000000)=true:=ab (by omega);have t1:Int.toNat 1=1:=rfl;have t3:Int.toNat 3=3:=rfl;obtain m7|m7|m7:q=0\/q=1\/q=2:=by omega
  ·subst m7
   (rw[TR];delta cb cq cX;conv=>zeta)
   simp only[cY,aM,ag,e0,Yp,YO,cN,BO,aE,bH,aN,s0,s1,s2,eb,au,t1,t3]
   by_cases q0:(b).length<3
   ·have r0:df 3 ⟨c,b,c7⟩=_:=Zj q0;simp only[q0,aM,ag];refine Qg ⟨true,[],true,pl,cQ,l0++[⟨first+i,0,0,0,0⟩],l1,l2,c0,c1,c2,0,first,n,i+1⟩ (by refine⟨cY,h2,?_,?_,?_,?_,?_,h8⟩<;>simp<;>omega) (by simp only[Qr];omega) ?_ (by simp[Qr,Zv]) (by simp[Qr,Zg]);simp only[Qr,Q6,hn,Q8,r0,z1,z3,cO,kB,m0,aU,aL,ay,aP,aH,gM,gN,gO,gP,gQ,gR]
   have r0:df 3 ⟨c,b,c7⟩=_:=Zc (show 3<=(b).length by omega);have d0:decide ((0:Int)<=3/\(3:Int)<=(b).length)=true:=by simp only[aa];omega
   have e0:decide (((b).drop 3).length<=1000000000000)=true:=ab (by simp;omega);simp only[q0,aW,ah,d0,ag,e0,ZL q0]
   by_cases q1:((b).drop 3).length<1
   ·have r1:df 1 ⟨c,(b).drop 3,c7⟩=_:=Zj q1;simp only[q1,aM,ag];refine Qg ⟨true,[],true,pl,cQ,l0++[⟨first+i,(cf ((b).take 3):Int),0,0,0⟩],l1,l2,c0,c1,c2,0,first,n,i+1⟩ (by refine⟨cY,h2,?_,?_,?_,?_,?_,h8⟩<;>simp<;>omega) (by simp only[Qr];omega) ?_ (by simp[Qr,Zv]) (by simp[Qr,Zg]);simp only[Qr,Q6,hn,Q8,r0,r1,z1,z3,cO,kB,m0,aU,aL,ay,aP,aH,gM,gN,gO,gP,gQ,gR]
   have fW:cf (((b).drop 3).take 1)<256:=by rw[Yu (by omega)];exact UInt8.toNat_lt _
   have Ed:=IR (cf (((b).drop 3).take 1)) (by omega);have f16:(cf (((b).drop 3).take 1):Int).fdiv 16=(cf (((b).drop 3).take 1):Int)/16:=aQ _ (by omega);have r1:df 1 ⟨c,(b).drop 3,c7⟩=_:=Zc (show 1<=((b).drop 3).length by omega);have d1:decide ((0:Int)<=1/\(1:Int)<=((b).drop 3).length)=true:=by simp only[aa];omega
   have e1:decide ((((b).drop 3).drop 1).length<=1000000000000)=true:=ab (by simp;omega);simp only[q1,aW,ah,d1,ag,e1,Zm q1,Ed,f16]
   by_cases q2:(((b).drop 3).drop 1).length<1
   ·have r2:df 1 ⟨c,((b).drop 3).drop 1,c7⟩=_:=Zj q2;simp only[q2,aM,ag];refine Qg ⟨true,[],true,pl,cQ,l0++[⟨first+i,(cf ((b).take 3):Int),(cf (((b).drop 3).take 1):Int)%16,(cf (((b).drop 3).take 1):Int)/16,0⟩],l1,l2,c0,c1,c2,0,first,n,i+1⟩ (by refine⟨cY,h2,?_,?_,?_,?_,?_,h8⟩<;>simp<;>omega) (by simp only[Qr];omega) ?_ (by simp[Qr,Zv]) (by simp[Qr,Zg]);simp only[Qr,Q6,hn,Q8,r0,r1,r2,z1,z3,cO,kB,m0,aU,aL,ay,aP,aH,gM,gN,gO,gP,gQ,gR]
   have r2:df 1 ⟨c,((b).drop 3).drop 1,c7⟩=_:=Zc (show 1<=(((b).drop 3).drop 1).length by omega);have d2:decide ((0:Int)<=1/\(1:Int)<=(((b).drop 3).drop 1).length)=true:=by simp only[aa];omega
   have e2:decide (((((b).drop 3).drop 1).drop 1).length<=1000000000000)=true:=ab (by simp;omega);simp only[q2,aW,ah,d2,ag,e2,Zm q2];refine Qg ⟨c,(((b).drop 3).drop 1).drop 1,c7,pl,cQ,l0++[⟨first+i,(cf ((b).take 3):Int),(cf (((b).drop 3).take 1):Int)%16,(cf (((b).drop 3).take 1):Int)/16,(cf ((((b).drop 3).drop 1).take 1):Int)⟩],l1,l2,c0,c1,c2,0,first,n,i+1⟩ (by refine⟨cY,h2,?_,?_,?_,?_,?_,h8⟩<;>simp<;>omega) (by simp only[Qr];omega) ?_ (by simp[Qr,Zv]) (by simp[Qr,Zg]);simp only[Qr,Q6,hn,Q8,r0,r1,r2,cO,kB,m0,aU,aL,ay,aP,aH,gM,gN,gO,gP,gQ,gR]
  ·subst m7
   (rw[TS];delta cb cq cX;conv=>zeta)
   simp only[cY,aM,ag,e0,Yp,YO,cN,BO,aE,bH,aN,s0,s1,s2,eb,au,t1,t3]
   by_cases q0:(b).length<3
   ·have r0:df 3 ⟨c,b,c7⟩=_:=Zj q0;simp only[q0,aM,ag];refine Qg ⟨true,[],true,pl,cQ,l0,l1++[⟨first+i,0,0,0,0⟩],l2,c0,c1,c2,1,first,n,i+1⟩ (by refine⟨cY,h2,?_,?_,?_,?_,?_,h8⟩<;>simp<;>omega) (by simp only[Qr];omega) ?_ (by simp[Qr,Zv]) (by simp[Qr,Zg]);simp only[Qr,Q6,hn,Q8,r0,z1,z3,cO,kB,m0,aU,aL,ay,aP,aH,gM,gN,gO,gP,gQ,gR]
   have r0:df 3 ⟨c,b,c7⟩=_:=Zc (show 3<=(b).length by omega);have d0:decide ((0:Int)<=3/\(3:Int)<=(b).length)=true:=by simp only[aa];omega
   have e0:decide (((b).drop 3).length<=1000000000000)=true:=ab (by simp;omega);simp only[q0,aW,ah,d0,ag,e0,ZL q0]
   by_cases q1:((b).drop 3).length<1
   ·have r1:df 1 ⟨c,(b).drop 3,c7⟩=_:=Zj q1;simp only[q1,aM,ag];refine Qg ⟨true,[],true,pl,cQ,l0,l1++[⟨first+i,(cf ((b).take 3):Int),0,0,0⟩],l2,c0,c1,c2,1,first,n,i+1⟩ (by refine⟨cY,h2,?_,?_,?_,?_,?_,h8⟩<;>simp<;>omega) (by simp only[Qr];omega) ?_ (by simp[Qr,Zv]) (by simp[Qr,Zg]);simp only[Qr,Q6,hn,Q8,r0,r1,z1,z3,cO,kB,m0,aU,aL,ay,aP,aH,gM,gN,gO,gP,gQ,gR]
   have fW:cf (((b).drop 3).take 1)<256:=by rw[Yu (by omega)];exact UInt8.toNat_lt _
   have Ed:=IR (cf (((b).drop 3).take 1)) (by omega);have f16:(cf (((b).drop 3).take 1):Int).fdiv 16=(cf (((b).drop 3).take 1):Int)/16:=aQ _ (by omega);have r1:df 1 ⟨c,(b).drop 3,c7⟩=_:=Zc (show 1<=((b).drop 3).length by omega);have d1:decide ((0:Int)<=1/\(1:Int)<=((b).drop 3).length)=true:=by simp only[aa];omega
   have e1:decide ((((b).drop 3).drop 1).length<=1000000000000)=true:=ab (by simp;omega);simp only[q1,aW,ah,d1,ag,e1,Zm q1,Ed,f16]
   by_cases q2:(((b).drop 3).drop 1).length<1
   ·have r2:df 1 ⟨c,((b).drop 3).drop 1,c7⟩=_:=Zj q2;simp only[q2,aM,ag];refine Qg ⟨true,[],true,pl,cQ,l0,l1++[⟨first+i,(cf ((b).take 3):Int),(cf (((b).drop 3).take 1):Int)%16,(cf (((b).drop 3).take 1):Int)/16,0⟩],l2,c0,c1,c2,1,first,n,i+1⟩ (by refine⟨cY,h2,?_,?_,?_,?_,?_,h8⟩<;>simp<;>omega) (by simp only[Qr];omega) ?_ (by simp[Qr,Zv]) (by simp[Qr,Zg]);simp only[Qr,Q6,hn,Q8,r0,r1,r2,z1,z3,cO,kB,m0,aU,aL,ay,aP,aH,gM,gN,gO,gP,gQ,gR]
   have r2:df 1 ⟨c,((b).drop 3).drop 1,c7⟩=_:=Zc (show 1<=(((b).drop 3).drop 1).length by omega);have d2:decide ((0:Int)<=1/\(1:Int)<=(((b).drop 3).drop 1).length)=true:=by simp only[aa];omega
   have e2:decide (((((b).drop 3).drop 1).drop 1).length<=1000000000000)=true:=ab (by simp;omega);simp only[q2,aW,ah,d2,ag,e2,Zm q2];refine Qg ⟨c,(((b).drop 3).drop 1).drop 1,c7,pl,cQ,l0,l1++[⟨first+i,(cf ((b).take 3):Int),(cf (((b).drop 3).take 1):Int)%16,(cf (((b).drop 3).take 1):Int)/16,(cf ((((b).drop 3).drop 1).take 1):Int)⟩],l2,c0,c1,c2,1,first,n,i+1⟩ (by refine⟨cY,h2,?_,?_,?_,?_,?_,h8⟩<;>simp<;>omega) (by simp only[Qr];omega) ?_ (by simp[Qr,Zv]) (by simp[Qr,Zg]);simp only[Qr,Q6,hn,Q8,r0,r1,r2,cO,kB,m0,aU,aL,ay,aP,aH,gM,gN,gO,gP,gQ,gR]
  ·subst m7
   (rw[TT];delta cb cq cX;conv=>zeta)
   simp only[cY,aM,ag,e0,Yp,YO,cN,BO,aE,bH,aN,s0,s1,s2,eb,au,t1,t3]
   by_cases q0:(b).length<3
   ·have r0:df 3 ⟨c,b,c7⟩=_:=Zj q0;simp only[q0,aM,ag];refine Qg ⟨true,[],true,pl,cQ,l0,l1,l2++[⟨first+i,0,0,0,0⟩],c0,c1,c2,2,first,n,i+1⟩ (by refine⟨cY,h2,?_,?_,?_,?_,?_,h8⟩<;>simp<;>omega) (by simp only[Qr];omega) ?_ (by simp[Qr,Zv]) (by simp[Qr,Zg]);simp only[Qr,Q6,hn,Q8,r0,z1,z3,cO,kB,m0,aU,aL,ay,aP,aH,gM,gN,gO,gP,gQ,gR]
   have r0:df 3 ⟨c,b,c7⟩=_:=Zc (show 3<=(b).length by omega);have d0:decide ((0:Int)<=3/\(3:Int)<=(b).length)=true:=by simp only[aa];omega
   have e0:decide (((b).drop 3).length<=1000000000000)=true:=ab (by simp;omega);simp only[q0,aW,ah,d0,ag,e0,ZL q0]
   by_cases q1:((b).drop 3).length<1
   ·have r1:df 1 ⟨c,(b).drop 3,c7⟩=_:=Zj q1;simp only[q1,aM,ag];refine Qg ⟨true,[],true,pl,cQ,l0,l1,l2++[⟨first+i,(cf ((b).take 3):Int),0,0,0⟩],c0,c1,c2,2,first,n,i+1⟩ (by refine⟨cY,h2,?_,?_,?_,?_,?_,h8⟩<;>simp<;>omega) (by simp only[Qr];omega) ?_ (by simp[Qr,Zv]) (by simp[Qr,Zg]);simp only[Qr,Q6,hn,Q8,r0,r1,z1,z3,cO,kB,m0,aU,aL,ay,aP,aH,gM,gN,gO,gP,gQ,gR]
   have fW:cf (((b).drop 3).take 1)<256:=by rw[Yu (by omega)];exact UInt8.toNat_lt _
   have Ed:=IR (cf (((b).drop 3).take 1)) (by omega);have f16:(cf (((b).drop 3).take 1):Int).fdiv 16=(cf (((b).drop 3).take 1):Int)/16:=aQ _ (by omega);have r1:df 1 ⟨c,(b).drop 3,c7⟩=_:=Zc (show 1<=((b).drop 3).length by omega);have d1:decide ((0:Int)<=1/\(1:Int)<=((b).drop 3).length)=true:=by simp only[aa];omega
   have e1:decide ((((b).drop 3).drop 1).length<=1000000000000)=true:=ab (by simp;omega);simp only[q1,aW,ah,d1,ag,e1,Zm q1,Ed,f16]
   by_cases q2:(((b).drop 3).drop 1).length<1
   ·have r2:df 1 ⟨c,((b).drop 3).drop 1,c7⟩=_:=Zj q2;simp only[q2,aM,ag];refine Qg ⟨true,[],true,pl,cQ,l0,l1,l2++[⟨first+i,(cf ((b).take 3):Int),(cf (((b).drop 3).take 1):Int)%16,(cf (((b).drop 3).take 1):Int)/16,0⟩],c0,c1,c2,2,first,n,i+1⟩ (by refine⟨cY,h2,?_,?_,?_,?_,?_,h8⟩<;>simp<;>omega) (by simp only[Qr];omega) ?_ (by simp[Qr,Zv]) (by simp[Qr,Zg]);simp only[Qr,Q6,hn,Q8,r0,r1,r2,z1,z3,cO,kB,m0,aU,aL,ay,aP,aH,gM,gN,gO,gP,gQ,gR]
   have r2:df 1 ⟨c,((b).drop 3).drop 1,c7⟩=_:=Zc (show 1<=(((b).drop 3).drop 1).length by omega);have d2:decide ((0:Int)<=1/\(1:Int)<=(((b).drop 3).drop 1).length)=true:=by simp only[aa];omega
   have e2:decide (((((b).drop 3).drop 1).drop 1).length<=1000000000000)=true:=ab (by simp;omega);simp only[q2,aW,ah,d2,ag,e2,Zm q2];refine Qg ⟨c,(((b).drop 3).drop 1).drop 1,c7,pl,cQ,l0,l1,l2++[⟨first+i,(cf ((b).take 3):Int),(cf (((b).drop 3).take 1):Int)%16,(cf (((b).drop 3).take 1):Int)/16,(cf ((((b).drop 3).drop 1).take 1):Int)⟩],c0,c1,c2,2,first,n,i+1⟩ (by refine⟨cY,h2,?_,?_,?_,?_,?_,h8⟩<;>simp<;>omega) (by simp only[Qr];omega) ?_ (by simp[Qr,Zv]) (by simp[Qr,Zg]);simp only[Qr,Q6,hn,Q8,r0,r1,r2,cO,kB,m0,aU,aL,ay,aP,aH,gM,gN,gO,gP,gQ,gR]
 ·have hi:n.toNat-i=0:=by omega
  obtain m7|m7|m7:q=0\/q=1\/q=2:=by omega
  all_goals
   subst m7
   first|(rw[TR];delta cb cq cX;conv=>zeta)|(rw[TS];delta cb cq cX;conv=>zeta)|(rw[TT];delta cb cq cX;conv=>zeta)
   simp only[cY,aW,ah];exact Qi (Zg c b c7 pl cQ l0 l1 l2 c0 c1 c2 0 first n i) (by simp[Qr,Q6,Zg,hi,Qx,cO,RT.val]) rfl
def Mj(env:bX)(os:bR):Option (Bool×UD):=match env,os with
 |[(4,.ptr 0 []),(5,.ptr 1 []),(7,.int .i64 q),(9,.int .i64 first),(66,.int .i64 n),(67,.int .i64 x0)],[.var 171 (.bI (.sl .u8 c b) (.bI (.bool c7) .bN)),.var 34 (.bI (.int .i64 pl) (.bI (.vs 2 x1) (.bI (.bI (.vs 3 x2) (.bI (.vs 4 x3) (.bI (.vs 5 x4) .bN))) (.bI (.arr .int 3 [c0,c1,c2]) .bN)))),.cj .cE true cQ,.cj .bP true l0,.cj .bP true l1,.cj .bP true l2]=>some (decide (x0=0)&&decide (x1=cQ.length)&&decide (x2=l0.length)&&decide (x3=l1.length)&&decide (x4=l2.length)&&decide (0<=n/\n<=255/\b.length<=1000000/\(l0.length<=1000/\l1.length<=1000/\l2.length<=1000)/\(0<=q/\q<=2)/\(0<=first/\first<=16777215)),⟨c,b,c7,pl,cQ,l0,l1,l2,c0,c1,c2,q,first,n,0⟩)
 |_,_=>none
def Bd:=Bc.cP 88 18 (eZ cF [.slot 4 0,.slot 5 0,.path 1 [1],.path 1 [2,0],.path 1 [2,1],.path 1 [2,2]] [4,5,7,9,66,67] Qr Mj)
theorem Qsv:Qj Tryz.prog cF Bd:=by
 refine Qsu.cJ Qb (by kernel_rfl) Qr 60 [4,5,7,9,66,67] [] [.slot 4 0,.slot 5 0,.path 1 [1],.path 1 [2,0],.path 1 [2,1],.path 1 [2,2]] [4,5,7,9,66,67] Mj (fun q hI=>?_) ?_
 ·obtain⟨c,b,c7,pl,cQ,l0,l1,l2,c0,c1,c2,q,first,n,i⟩:=q;refine⟨?_,?_,Qg7 c b c7 pl cQ l0 l1 l2 c0 c1 c2 q first n i hI⟩
  ·simp_all[Qk,Qr,Zv,Zg,V4,D.refs,Obj.refs,de]
  ·simp_all[Qr,Q6,Zg,V4,RT.da,Qk,D.refs,Obj.refs,de]
 ·intro env os b q cW hb;unfold Mj at cW
  split at cW
  ·cases cW;simp only[ai,aa]at hb;obtain⟨⟨⟨⟨⟨rfl,rfl⟩,rfl⟩,rfl⟩,rfl⟩,hq⟩:=hb;exact⟨⟨by simpa using hq.1,hq.2.1,hq.2.2.1,by simpa using hq.2.2.2.1.1,by simpa using hq.2.2.2.1.2.1,by simpa using hq.2.2.2.1.2.2,hq.2.2.2.2.1,hq.2.2.2.2.2⟩,rfl,rfl⟩
  ·cases cW
theorem Q0(b:bK)(w:Nat):cf (b.take w)<256^w :=
 bj (MM _) (Nat.pow_le_pow_right (by omega) (by simp;omega))
theorem QyH(w:Nat)(r:Rd):0<=(df w r).1/\(df w r).1<((256^w:Nat):Int):=by
 unfold df
 split
 ·have:=Q0 r.b w;exact⟨Int.natCast_nonneg _,Int.ofNat_lt.2 this⟩
 ·have:0<256^w:=Nat.pow_pos (by omega);exact⟨Int.le_refl _,Int.ofNat_lt.2 this⟩
theorem Qsw(r:Rd):0<=(df 1 r).1/\(df 1 r).1<=255:=by have:=QyH 1 r;simp at this;omega
theorem YQ(w:Nat)(r:Rd):(df w r).2.b.length<=r.b.length:=by
 unfold df;split<;>simp
theorem TU:∀(n:Nat) (o:Int) (r:Rd),(Qx fD false n o r).1.b.length<=r.b.length
 |0,_,_=>aq _
 |n+1,o,r=>by
  rw[Q8];exact bk (TU n _ _) (bk (YQ _ _) (bk (YQ _ _) (YQ _ _)))
theorem TV:∀(n:Nat) (r:Rd),(QH fD false n r).1.b.length<=r.b.length
 |0,_=>aq _
 |n+1,r=>by
  rw[Vq];exact bk (TV n _) (bk (YQ _ _) (bk (YQ _ _) (YQ _ _)))
theorem VQ{σ:Type}(R:qG σ)(cT:Bool):∀(n:Nat) (s:σ),(QH R cT n s).2.length<=n
 |0,_=>aq _
 |n+1,s=>by
  simp only[QH];cases cT&&R.c7 s with
  |true=>simp
  |false=>have:=VQ R cT n (R.get 1 (R.get 3 (R.get 1 s).2).2).2;simp;omega
theorem F6 r:(YE fD false ZG r).1.b.length<=r.b.length:=by
 unfold YE;refine bk (TU _ _ _) ?_;have h:(df 3 (df 1 (df 3 r).2).2).2.b.length<=r.b.length:=bk (YQ _ _) (bk (YQ _ _) (YQ _ _));show(bif((df 1 (df 3 r).2).1==0&&(df 3 (df 1 (df 3 r).2).2).1 !=0)then ZG (df 3 (df 1 (df 3 r).2).2).2 else(df 3 (df 1 (df 3 r).2).2).2).b.length<=_;cases ((df 1 (df 3 r).2).1==0&&(df 3 (df 1 (df 3 r).2).2).1 !=0)
 ·exact h
 ·exact h
theorem Gx r:(YE fD false ZG r).2.2.length<=255:=by
 unfold YE;refine bk (LX _ _ _ _ _) ?_;have:=Qsw (df 3 r).2;show(df 1 (df 3 r).2).1.toNat<=255;omega
theorem Ys{r r1 r2 r3:Rd}{c n f:Int}(h1:df 3 r=(c,r1))(h2:df 1 r1=(n,r2))(h3:df 3 r2=(f,r3)) :
 YE fD false ZG r=((Qx fD false n.toNat f (bif n==0&&f !=0 then ZG r3 else r3)).1,c,(Qx fD false n.toNat f (bif n==0&&f !=0 then ZG r3 else r3)).2):=by
 simp only[YE,fD,h1,h2,h3]
open Go.Proofs
structure RS where
 (c:Bool)(b:bK)(c7:Bool)(pl:Int)(cQ:bM)(l0 l1 l2:bJ)(c0 c1 c2:Int)(q:Nat)
def IS(c:Bool)(b:bK)(c7:Bool)(pl:Int)(cQ:bM)(l0 l1 l2:bJ)(c0 c1 c2:Int)(q:Nat):bX:=[(4,.ptr 0 []),(5,.ptr 1 []),(39,.int .i64 (q:Int))]
def D9(c:Bool)(b:bK)(c7:Bool)(pl:Int)(cQ:bM)(l0 l1 l2:bJ)(c0 c1 c2:Int)(q:Nat):bR:=[.var 171 (cL .u8 c b (.bI (.bool c7) .bN)),.var 34 (cG pl (.bI (.vs 2 (cQ.length)) (.bI (.bI (.vs 3 (l0.length)) (.bI (.vs 4 (l1.length)) (.bI (.vs 5 (l2.length)) .bN))) (.bI (.arr (C:=RC) .int 3 [c0,c1,c2]) .bN)))),.cj (C:=RC) .cE true cQ,.cj (C:=RC) .bP true l0,.cj (C:=RC) .bP true l1,.cj (C:=RC) .bP true l2]
def Ea c b c7 pl cQ l0 l1 l2 c0 c1 c2 q:=eF cF Bd 88 11 60 6 [4,5,39] [] [.slot 4 0,.slot 5 0,.path 1 [1],.path 1 [2,0],.path 1 [2,1],.path 1 [2,2]] (IS c b c7 pl cQ l0 l1 l2 c0 c1 c2 q) (D9 c b c7 pl cQ l0 l1 l2 c0 c1 c2 q)
theorem QCF(c:Bool)(b:bK)(c7:Bool)(pl:Int)(cQ:bM)(l0 l1 l2:bJ)(c0 c1 c2:Int):Ea c b c7 pl cQ l0 l1 l2 c0 c1 c2 0=(let Z0:Int×Int:=cU b 0 3;let Z1:=cQ.length;let Z2:=l0.length;let Z3:=l1.length;let Z4:=l2.length;let Z5:Bool:=decide (Z1=Z1)&&decide (Z2=Z2)&&decide (Z3=Z3)&&decide (Z4=Z4);let Z6:Bool:=Z5&&decide ((0:Int)<=0/\(0:Int)<=255/\(0:Nat)<=1000000/\(Z2<=1000/\Z3<=1000/\Z4<=1000)/\((0:Int)<=0/\(0:Int)<=2)/\(0:Int)<=0/\(0:Int)<=16777215);let Z7:X×bX:=(X.normal,[(4,D.ptr 0 []),(5,D.ptr 1 []),(39,cq 1)]);let Z8:Rd×bJ:=Qx fD false 0 0 (Rd.mk true [] true);let Z9:bQ:=.bN;let dg:bZ:=some (Obj.var 171 (.bI (D.sl ca.u8 true Z8.1.b) (.bI (D.bool true) Z9)));let dq:bQ:=cq pl;let dE:bQ:=D.vs 2 Z1;let dQ:bJ:=cO 0 0 l0 Z8.2;let dv:bJ:=cO 0 1 l1 Z8.2;let dT:bJ:=cO 0 2 l2 Z8.2;let dL:bQ:=D.bI (D.vs 3 dQ.length) (.bI (D.vs 4 dv.length) (.bI (D.vs 5 dT.length) Z9));let eK:bZ:=some (Obj.cj ca.cE true cQ);let eo:b9:=[eK,some (Obj.cj ca.bP true dQ),some (Obj.cj ca.bP true dv),some (Obj.cj ca.bP true dT)];let eX:=List.drop 3 b;let eC:bQ:=D.bI (D.arr ca.int 3 [Z0.1,c1,c2]) Z9;let eP:=List.drop 1 eX;let fF:=Prod.fst (cU eX 0 1);let fz:=Int.toNat fF-0;let fM:Rd×bJ:=Qx fD false fz 0 (Rd.mk true [] true);let gf:Rd:=fM.1;let gK:bJ:=cO 0 0 l0 fM.2;let iW:bJ:=cO 0 1 l1 fM.2;let jO:bJ:=cO 0 2 l2 fM.2;let gC:=List.drop 3 eP;let jh:=Prod.fst (cU eP 0 3);let jy:Bool:=Z5&&decide ((0:Int)<=fF/\fF<=255/\gC.length<=1000000/\(Z2<=1000/\Z3<=1000/\Z4<=1000)/\((0:Int)<=0/\(0:Int)<=2)/\(0:Int)<=jh/\jh<=16777215);let jP:Int:=jh+0;let jo:Rd×bJ:=Qx fD false fz jP (Rd.mk c gC true);let kb:Rd:=jo.1;let iI:bJ:=cO 0 0 l0 jo.2;let jx:bJ:=cO 0 1 l1 jo.2;let iP:bJ:=cO 0 2 l2 jo.2;let jE:Rd×bJ:=Qx fD false fz jP (Rd.mk c gC (jh !=0));let jr:Rd:=jE.1;let ki:bJ:=cO 0 0 l0 jE.2;let ke:bJ:=cO 0 1 l1 jE.2;let lx:bJ:=cO 0 2 l2 jE.2;let j4:Rd×bJ:=Qx fD false fz jP (Rd.mk c gC false);let kj:Rd:=j4.1;let jQ:bJ:=cO 0 0 l0 j4.2;let dY:bJ:=cO 0 1 l1 j4.2;let kY:bJ:=cO 0 2 l2 j4.2;cb (decide (b.length<=1000000000000)) (bif Z0.2 !=0 then cb Z6 (some (Z7,dg::some (Obj.var 34 (.bI dq (D.bI dE (D.bI dL (D.bI (D.arr ca.int 3 [(0:Int),c1,c2]) Z9)))))::eo))else cb (decide ((0:Int)<=3/\(3:Int)<=(b.length:Int))) (cb (decide (eX.length<=1000000000000)) (bif Prod.snd (cU eX 0 1)!=0 then cb Z6 (some (Z7,dg::some (Obj.var 34 (.bI dq (D.bI dE (D.bI dL eC))))::eo))else cb (decide ((0:Int)<=1/\(1:Int)<=(eX.length:Int))) (cb (decide (eP.length<=1000000000000)) (bif Prod.snd (cU eP 0 3)!=0 then cb (Z5&&decide ((0:Int)<=fF/\fF<=255/\(0:Nat)<=1000000/\(Z2<=1000/\Z3<=1000/\Z4<=1000)/\((0:Int)<=0/\(0:Int)<=2)/\(0:Int)<=0/\(0:Int)<=16777215)) (some (Z7,[some (Obj.var 171 (.bI (D.sl ca.u8 gf.c gf.b) (.bI (D.bool gf.c7) Z9))),some (Obj.var 34 (.bI dq (D.bI dE (D.bI (D.bI (D.vs 3 gK.length) (.bI (D.vs 4 iW.length) (.bI (D.vs 5 jO.length) Z9))) eC)))),eK,some (Obj.cj ca.bP true gK),some (Obj.cj ca.bP true iW),some (Obj.cj ca.bP true jO)]))else cb (decide ((0:Int)<=3/\(3:Int)<=(eP.length:Int))) (bif c7 then cb jy (some (Z7,[some (Obj.var 171 (.bI (D.sl ca.u8 kb.c kb.b) (.bI (D.bool kb.c7) Z9))),some (Obj.var 34 (.bI dq (D.bI dE (D.bI (D.bI (D.vs 3 iI.length) (.bI (D.vs 4 jx.length) (.bI (D.vs 5 iP.length) Z9))) eC)))),eK,some (Obj.cj ca.bP true iI),some (Obj.cj ca.bP true jx),some (Obj.cj ca.bP true iP)]))else bif fF==0 then cb jy (some (Z7,[some (Obj.var 171 (.bI (D.sl ca.u8 jr.c jr.b) (.bI (D.bool jr.c7) Z9))),some (Obj.var 34 (.bI dq (D.bI dE (D.bI (D.bI (D.vs 3 ki.length) (.bI (D.vs 4 ke.length) (.bI (D.vs 5 lx.length) Z9))) eC)))),eK,some (Obj.cj ca.bP true ki),some (Obj.cj ca.bP true ke),some (Obj.cj ca.bP true lx)]))else cb jy (some (Z7,[some (Obj.var 171 (.bI (D.sl ca.u8 kj.c kj.b) (.bI (D.bool kj.c7) Z9))),some (Obj.var 34 (.bI dq (D.bI dE (D.bI (D.bI (D.vs 3 jQ.length) (.bI (D.vs 4 dY.length) (.bI (D.vs 5 kY.length) Z9))) eC)))),eK,some (Obj.cj ca.bP true jQ),some (Obj.cj ca.bP true dY),some (Obj.cj ca.bP true kY)]))))))))):=by kernel_rfl
theorem QCG(c:Bool)(b:bK)(c7:Bool)(pl:Int)(cQ:bM)(l0 l1 l2:bJ)(c0 c1 c2:Int):Ea c b c7 pl cQ l0 l1 l2 c0 c1 c2 1=(let Z0:Int×Int:=cU b 0 3;let Z1:=cQ.length;let Z2:=l0.length;let Z3:=l1.length;let Z4:=l2.length;let Z5:Bool:=decide (Z1=Z1)&&decide (Z2=Z2)&&decide (Z3=Z3)&&decide (Z4=Z4);let Z6:Bool:=Z5&&decide ((0:Int)<=0/\(0:Int)<=255/\(0:Nat)<=1000000/\(Z2<=1000/\Z3<=1000/\Z4<=1000)/\((0:Int)<=1/\(1:Int)<=2)/\(0:Int)<=0/\(0:Int)<=16777215);let Z7:X×bX:=(X.normal,[(4,D.ptr 0 []),(5,D.ptr 1 []),(39,cq 2)]);let Z8:Rd×bJ:=Qx fD false 0 0 (Rd.mk true [] true);let Z9:bQ:=.bN;let dg:bZ:=some (Obj.var 171 (.bI (D.sl ca.u8 true Z8.1.b) (.bI (D.bool true) Z9)));let dq:bQ:=cq pl;let dE:bQ:=D.vs 2 Z1;let dQ:bJ:=cO 1 0 l0 Z8.2;let dv:bJ:=cO 1 1 l1 Z8.2;let dT:bJ:=cO 1 2 l2 Z8.2;let dL:bQ:=D.bI (D.vs 3 dQ.length) (.bI (D.vs 4 dv.length) (.bI (D.vs 5 dT.length) Z9));let eK:bZ:=some (Obj.cj ca.cE true cQ);let eo:b9:=[eK,some (Obj.cj ca.bP true dQ),some (Obj.cj ca.bP true dv),some (Obj.cj ca.bP true dT)];let eX:=List.drop 3 b;let eC:bQ:=D.bI (D.arr ca.int 3 [c0,Z0.1,c2]) Z9;let eP:=List.drop 1 eX;let fF:=Prod.fst (cU eX 0 1);let fz:=Int.toNat fF-0;let fM:Rd×bJ:=Qx fD false fz 0 (Rd.mk true [] true);let gf:Rd:=fM.1;let gK:bJ:=cO 1 0 l0 fM.2;let iW:bJ:=cO 1 1 l1 fM.2;let jO:bJ:=cO 1 2 l2 fM.2;let gC:=List.drop 3 eP;let jh:=Prod.fst (cU eP 0 3);let jy:Bool:=Z5&&decide ((0:Int)<=fF/\fF<=255/\gC.length<=1000000/\(Z2<=1000/\Z3<=1000/\Z4<=1000)/\((0:Int)<=1/\(1:Int)<=2)/\(0:Int)<=jh/\jh<=16777215);let jP:Int:=jh+0;let jo:Rd×bJ:=Qx fD false fz jP (Rd.mk c gC true);let kb:Rd:=jo.1;let iI:bJ:=cO 1 0 l0 jo.2;let jx:bJ:=cO 1 1 l1 jo.2;let iP:bJ:=cO 1 2 l2 jo.2;let jE:Rd×bJ:=Qx fD false fz jP (Rd.mk c gC (jh !=0));let jr:Rd:=jE.1;let ki:bJ:=cO 1 0 l0 jE.2;let ke:bJ:=cO 1 1 l1 jE.2;let lx:bJ:=cO 1 2 l2 jE.2;let j4:Rd×bJ:=Qx fD false fz jP (Rd.mk c gC false);let kj:Rd:=j4.1;let jQ:bJ:=cO 1 0 l0 j4.2;let dY:bJ:=cO 1 1 l1 j4.2;let kY:bJ:=cO 1 2 l2 j4.2;cb (decide (b.length<=1000000000000)) (bif Z0.2 !=0 then cb Z6 (some (Z7,dg::some (Obj.var 34 (.bI dq (D.bI dE (D.bI dL (D.bI (D.arr ca.int 3 [c0,(0:Int),c2]) Z9)))))::eo))else cb (decide ((0:Int)<=3/\(3:Int)<=(b.length:Int))) (cb (decide (eX.length<=1000000000000)) (bif Prod.snd (cU eX 0 1)!=0 then cb Z6 (some (Z7,dg::some (Obj.var 34 (.bI dq (D.bI dE (D.bI dL eC))))::eo))else cb (decide ((0:Int)<=1/\(1:Int)<=(eX.length:Int))) (cb (decide (eP.length<=1000000000000)) (bif Prod.snd (cU eP 0 3)!=0 then cb (Z5&&decide ((0:Int)<=fF/\fF<=255/\(0:Nat)<=1000000/\(Z2<=1000/\Z3<=1000/\Z4<=1000)/\((0:Int)<=1/\(1:Int)<=2)/\(0:Int)<=0/\(0:Int)<=16777215)) (some (Z7,[some (Obj.var 171 (.bI (D.sl ca.u8 gf.c gf.b) (.bI (D.bool gf.c7) Z9))),some (Obj.var 34 (.bI dq (D.bI dE (D.bI (D.bI (D.vs 3 gK.length) (.bI (D.vs 4 iW.length) (.bI (D.vs 5 jO.length) Z9))) eC)))),eK,some (Obj.cj ca.bP true gK),some (Obj.cj ca.bP true iW),some (Obj.cj ca.bP true jO)]))else cb (decide ((0:Int)<=3/\(3:Int)<=(eP.length:Int))) (bif c7 then cb jy (some (Z7,[some (Obj.var 171 (.bI (D.sl ca.u8 kb.c kb.b) (.bI (D.bool kb.c7) Z9))),some (Obj.var 34 (.bI dq (D.bI dE (D.bI (D.bI (D.vs 3 iI.length) (.bI (D.vs 4 jx.length) (.bI (D.vs 5 iP.length) Z9))) eC)))),eK,some (Obj.cj ca.bP true iI),some (Obj.cj ca.bP true jx),some (Obj.cj ca.bP true iP)]))else bif fF==0 then cb jy (some (Z7,[some (Obj.var 171 (.bI (D.sl ca.u8 jr.c jr.b) (.bI (D.bool jr.c7) Z9))),some (Obj.var 34 (.bI dq (D.bI dE (D.bI (D.bI (D.vs 3 ki.length) (.bI (D.vs 4 ke.length) (.bI (D.vs 5 lx.length) Z9))) eC)))),eK,some (Obj.cj ca.bP true ki),some (Obj.cj ca.bP true ke),some (Obj.cj ca.bP true lx)]))else cb jy (some (Z7,[some (Obj.var 171 (.bI (D.sl ca.u8 kj.c kj.b) (.bI (D.bool kj.c7) Z9))),some (Obj.var 34 (.bI dq (D.bI dE (D.bI (D.bI (D.vs 3 jQ.length) (.bI (D.vs 4 dY.length) (.bI (D.vs 5 kY.length) Z9))) eC)))),eK,some (Obj.cj ca.bP true jQ),some (Obj.cj ca.bP true dY),some (Obj.cj ca.bP true kY)]))))))))):=by kernel_rfl
theorem QCH(c:Bool)(b:bK)(c7:Bool)(pl:Int)(cQ:bM)(l0 l1 l2:bJ)(c0 c1 c2:Int):Ea c b c7 pl cQ l0 l1 l2 c0 c1 c2 2=(let Z0:Int×Int:=cU b 0 3;let Z1:=cQ.length;let Z2:=l0.length;let Z3:=l1.length;let Z4:=l2.length;let Z5:Bool:=decide (Z1=Z1)&&decide (Z2=Z2)&&decide (Z3=Z3)&&decide (Z4=Z4);let Z6:Bool:=Z5&&decide ((0:Int)<=0/\(0:Int)<=255/\(0:Nat)<=1000000/\(Z2<=1000/\Z3<=1000/\Z4<=1000)/\((0:Int)<=2/\(2:Int)<=2)/\(0:Int)<=0/\(0:Int)<=16777215);let Z7:X×bX:=(X.normal,[(4,D.ptr 0 []),(5,D.ptr 1 []),(39,cq 3)]);let Z8:Rd×bJ:=Qx fD false 0 0 (Rd.mk true [] true);let Z9:bQ:=.bN;let dg:bZ:=some (Obj.var 171 (.bI (D.sl ca.u8 true Z8.1.b) (.bI (D.bool true) Z9)));let dq:bQ:=cq pl;let dE:bQ:=D.vs 2 Z1;let dQ:bJ:=cO 2 0 l0 Z8.2;let dv:bJ:=cO 2 1 l1 Z8.2;let dT:bJ:=cO 2 2 l2 Z8.2;let dL:bQ:=D.bI (D.vs 3 dQ.length) (.bI (D.vs 4 dv.length) (.bI (D.vs 5 dT.length) Z9));let eK:bZ:=some (Obj.cj ca.cE true cQ);let eo:b9:=[eK,some (Obj.cj ca.bP true dQ),some (Obj.cj ca.bP true dv),some (Obj.cj ca.bP true dT)];let eX:=List.drop 3 b;let eC:bQ:=D.bI (D.arr ca.int 3 [c0,c1,Z0.1]) Z9;let eP:=List.drop 1 eX;let fF:=Prod.fst (cU eX 0 1);let fz:=Int.toNat fF-0;let fM:Rd×bJ:=Qx fD false fz 0 (Rd.mk true [] true);let gf:Rd:=fM.1;let gK:bJ:=cO 2 0 l0 fM.2;let iW:bJ:=cO 2 1 l1 fM.2;let jO:bJ:=cO 2 2 l2 fM.2;let gC:=List.drop 3 eP;let jh:=Prod.fst (cU eP 0 3);let jy:Bool:=Z5&&decide ((0:Int)<=fF/\fF<=255/\gC.length<=1000000/\(Z2<=1000/\Z3<=1000/\Z4<=1000)/\((0:Int)<=2/\(2:Int)<=2)/\(0:Int)<=jh/\jh<=16777215);let jP:Int:=jh+0;let jo:Rd×bJ:=Qx fD false fz jP (Rd.mk c gC true);let kb:Rd:=jo.1;let iI:bJ:=cO 2 0 l0 jo.2;let jx:bJ:=cO 2 1 l1 jo.2;let iP:bJ:=cO 2 2 l2 jo.2;let jE:Rd×bJ:=Qx fD false fz jP (Rd.mk c gC (jh !=0));let jr:Rd:=jE.1;let ki:bJ:=cO 2 0 l0 jE.2;let ke:bJ:=cO 2 1 l1 jE.2;let lx:bJ:=cO 2 2 l2 jE.2;let j4:Rd×bJ:=Qx fD false fz jP (Rd.mk c gC false);let kj:Rd:=j4.1;let jQ:bJ:=cO 2 0 l0 j4.2;let dY:bJ:=cO 2 1 l1 j4.2;let kY:bJ:=cO 2 2 l2 j4.2;cb (decide (b.length<=1000000000000)) (bif Z0.2 !=0 then cb Z6 (some (Z7,dg::some (Obj.var 34 (.bI dq (D.bI dE (D.bI dL (D.bI (D.arr ca.int 3 [c0,c1,(0:Int)]) Z9)))))::eo))else cb (decide ((0:Int)<=3/\(3:Int)<=(b.length:Int))) (cb (decide (eX.length<=1000000000000)) (bif Prod.snd (cU eX 0 1)!=0 then cb Z6 (some (Z7,dg::some (Obj.var 34 (.bI dq (D.bI dE (D.bI dL eC))))::eo))else cb (decide ((0:Int)<=1/\(1:Int)<=(eX.length:Int))) (cb (decide (eP.length<=1000000000000)) (bif Prod.snd (cU eP 0 3)!=0 then cb (Z5&&decide ((0:Int)<=fF/\fF<=255/\(0:Nat)<=1000000/\(Z2<=1000/\Z3<=1000/\Z4<=1000)/\((0:Int)<=2/\(2:Int)<=2)/\(0:Int)<=0/\(0:Int)<=16777215)) (some (Z7,[some (Obj.var 171 (.bI (D.sl ca.u8 gf.c gf.b) (.bI (D.bool gf.c7) Z9))),some (Obj.var 34 (.bI dq (D.bI dE (D.bI (D.bI (D.vs 3 gK.length) (.bI (D.vs 4 iW.length) (.bI (D.vs 5 jO.length) Z9))) eC)))),eK,some (Obj.cj ca.bP true gK),some (Obj.cj ca.bP true iW),some (Obj.cj ca.bP true jO)]))else cb (decide ((0:Int)<=3/\(3:Int)<=(eP.length:Int))) (bif c7 then cb jy (some (Z7,[some (Obj.var 171 (.bI (D.sl ca.u8 kb.c kb.b) (.bI (D.bool kb.c7) Z9))),some (Obj.var 34 (.bI dq (D.bI dE (D.bI (D.bI (D.vs 3 iI.length) (.bI (D.vs 4 jx.length) (.bI (D.vs 5 iP.length) Z9))) eC)))),eK,some (Obj.cj ca.bP true iI),some (Obj.cj ca.bP true jx),some (Obj.cj ca.bP true iP)]))else bif fF==0 then cb jy (some (Z7,[some (Obj.var 171 (.bI (D.sl ca.u8 jr.c jr.b) (.bI (D.bool jr.c7) Z9))),some (Obj.var 34 (.bI dq (D.bI dE (D.bI (D.bI (D.vs 3 ki.length) (.bI (D.vs 4 ke.length) (.bI (D.vs 5 lx.length) Z9))) eC)))),eK,some (Obj.cj ca.bP true ki),some (Obj.cj ca.bP true ke),some (Obj.cj ca.bP true lx)]))else cb jy (some (Z7,[some (Obj.var 171 (.bI (D.sl ca.u8 kj.c kj.b) (.bI (D.bool kj.c7) Z9))),some (Obj.var 34 (.bI dq (D.bI dE (D.bI (D.bI (D.vs 3 jQ.length) (.bI (D.vs 4 dY.length) (.bI (D.vs 5 kY.length) Z9))) eC)))),eK,some (Obj.cj ca.bP true jQ),some (Obj.cj ca.bP true dY),some (Obj.cj ca.bP true kY)]))))))))):=by kernel_rfl
theorem QCI(c:Bool)(b:bK)(c7:Bool)(pl:Int)(cQ:bM)(l0 l1 l2:bJ)(c0 c1 c2:Int):Ea c b c7 pl cQ l0 l1 l2 c0 c1 c2 3=(some ((X.exit 2,[]),[some (Obj.var 171 (.bI (D.sl ca.u8 c b) (.bI (D.bool c7) .bN))),some (Obj.var 34 (.bI (D.int .i64 pl) (.bI (D.vs 2 cQ.length) (.bI (D.bI (D.vs 3 l0.length) (.bI (D.vs 4 l1.length) (.bI (D.vs 5 l2.length) .bN))) (.bI (D.arr ca.int 3 [c0,c1,c2]) .bN))))),some (Obj.cj ca.cE true cQ),some (Obj.cj ca.bP true l0),some (Obj.cj ca.bP true l1),some (Obj.cj ca.bP true l2)])):=by kernel_rfl
def DB(c:Bool)(b:bK)(c7:Bool)(pl:Int)(cQ:bM)(l0 l1 l2:bJ)(c0 c1 c2:Int)(q:Nat):RT RC:=.leaf (.exit 2) [] [.var 171 (cL .u8 (fj fD false ZG q ⟨⟨c,b,c7⟩,l0,l1,l2,c0,c1,c2⟩).r.c (fj fD false ZG q ⟨⟨c,b,c7⟩,l0,l1,l2,c0,c1,c2⟩).r.b (.bI (.bool (fj fD false ZG q ⟨⟨c,b,c7⟩,l0,l1,l2,c0,c1,c2⟩).r.c7) .bN)),.var 34 (cG pl (.bI (.vs 2 cQ.length) (.bI (.bI (.vs 3 (fj fD false ZG q ⟨⟨c,b,c7⟩,l0,l1,l2,c0,c1,c2⟩).l0.length) (.bI (.vs 4 (fj fD false ZG q ⟨⟨c,b,c7⟩,l0,l1,l2,c0,c1,c2⟩).l1.length) (.bI (.vs 5 (fj fD false ZG q ⟨⟨c,b,c7⟩,l0,l1,l2,c0,c1,c2⟩).l2.length) .bN))) (.bI (.arr (C:=RC) .int 3 [(fj fD false ZG q ⟨⟨c,b,c7⟩,l0,l1,l2,c0,c1,c2⟩).c0,(fj fD false ZG q ⟨⟨c,b,c7⟩,l0,l1,l2,c0,c1,c2⟩).c1,(fj fD false ZG q ⟨⟨c,b,c7⟩,l0,l1,l2,c0,c1,c2⟩).c2]) .bN)))),.cj (C:=RC) .cE true cQ,.cj (C:=RC) .bP true (fj fD false ZG q ⟨⟨c,b,c7⟩,l0,l1,l2,c0,c1,c2⟩).l0,.cj (C:=RC) .bP true (fj fD false ZG q ⟨⟨c,b,c7⟩,l0,l1,l2,c0,c1,c2⟩).l1,.cj (C:=RC) .bP true (fj fD false ZG q ⟨⟨c,b,c7⟩,l0,l1,l2,c0,c1,c2⟩).l2]
def DC(c:Bool)(b:bK)(c7:Bool)(pl:Int)(cQ:bM)(l0 l1 l2:bJ)(c0 c1 c2:Int)(q:Nat):Prop:=q<=3/\b.length<=1000000/\l0.length<=255*q/\l1.length<=255*q/\l2.length<=255*q
def qD:QK RC RS where
 k:=6
 cS q:=IS q.c q.b q.c7 q.pl q.cQ q.l0 q.l1 q.l2 q.c0 q.c1 q.c2 q.q
 cR q:=D9 q.c q.b q.c7 q.pl q.cQ q.l0 q.l1 q.l2 q.c0 q.c1 q.c2 q.q
 fin q:=DB q.c q.b q.c7 q.pl q.cQ q.l0 q.l1 q.l2 q.c0 q.c1 q.c2 q.q
 Inv q:=DC q.c q.b q.c7 q.pl q.cQ q.l0 q.l1 q.l2 q.c0 q.c1 q.c2 q.q
 μ q:=3-q.q
theorem Qsz c b c7 pl cQ l0 l1 l2 c0 c1 c2 q(hI:DC c b c7 pl cQ l0 l1 l2 c0 c1 c2 q):dw (Ea c b c7 pl cQ l0 l1 l2 c0 c1 c2 q) (dF qD ⟨c,b,c7,pl,cQ,l0,l1,l2,c0,c1,c2,q⟩):=by
 unfold DC at hI;obtain⟨h1,h2,h3,h4,h5⟩:=hI;have t1:Int.toNat 1=1:=rfl;have t3:Int.toNat 3=3:=rfl;have z1:df 1 ⟨true,[],true⟩=(0,⟨true,[],true⟩):=rfl;have z3:df 3 ⟨true,[],true⟩=(0,⟨true,[],true⟩):=rfl;have gM:¬(0:Int)=1:=by omega
 have gN:¬(0:Int)=2:=by omega
 have gO:¬(1:Int)=0:=by omega
 have gP:¬(1:Int)=2:=by omega
 have gQ:¬(2:Int)=0:=by omega
 have gR:¬(2:Int)=1:=by omega
 have e0:decide (b.length<=1000000000000)=true:=ab (by omega);have pb:=F6 ⟨c,b,c7⟩;have pn:=Gx ⟨c,b,c7⟩
 by_cases x3:q=3
 ·subst x3;rw[QCI];exact Qi (D9 c b c7 pl cQ l0 l1 l2 c0 c1 c2 3) rfl rfl
 by_cases x0:q=0
 ·subst x0
  have eM:∀(r':Rd) (cut:Int) (L:bJ),YE fD false ZG ⟨c,b,c7⟩=(r',cut,L)->dw (some ((X.normal,[(4,.ptr 0 []),(5,.ptr 1 []),(39,.int .i64 1)]),[some (.var 171 (cL .u8 r'.c r'.b (.bI (.bool r'.c7) .bN))),some (.var 34 (cG pl (.bI (.vs 2 cQ.length) (.bI (.bI (.vs 3 (l0++L).length) (.bI (.vs 4 l1.length) (.bI (.vs 5 l2.length) .bN))) (.bI (.arr (C:=RC) .int 3 [cut,c1,c2]) .bN))))),some (.cj (C:=RC) .cE true cQ),some (.cj (C:=RC) .bP true (l0++L)),some (.cj (C:=RC) .bP true l1),some (.cj (C:=RC) .bP true l2)])) (dF qD ⟨c,b,c7,pl,cQ,l0,l1,l2,c0,c1,c2,0⟩):=by
   intro r' cut L hP;rw[hP]at pb pn;simp only at pb pn
   have ez:fj fD false ZG 1 ⟨⟨r'.c,r'.b,r'.c7⟩,l0++L,l1,l2,cut,c1,c2⟩=fj fD false ZG 0 ⟨⟨c,b,c7⟩,l0,l1,l2,c0,c1,c2⟩:=by
    simp only[fj,Co,hP]
   refine Qg ⟨r'.c,r'.b,r'.c7,pl,cQ,l0++L,l1,l2,cut,c1,c2,1⟩ ?_ (by simp only[qD];omega) ?_ rfl rfl
   ·refine⟨by simp,?_,?_,?_,?_⟩<;>simp<;>omega
   ·simp only[qD,DB,ez]
  (rw[QCF];delta cb cq;conv=>zeta)
  simp only[e0,ag,Yp,YO,t1,t3]
  by_cases q0:b.length<3
  ·have r0:df 3 ⟨c,b,c7⟩=_:=Zj q0;simp only[q0,aM,ag];simp(disch:=omega) only[ab,au,ag,cO,aU,aL,gM,gN,gO,gP,gQ,gR];exact eM ⟨true,[],true⟩ 0 [] (Ys r0 z1 z3)
  have r0:df 3 ⟨c,b,c7⟩=_:=Zc (show 3<=b.length by omega);have d0:decide ((0:Int)<=3/\(3:Int)<=b.length)=true:=by simp only[aa];omega
  have e1:decide ((b.drop 3).length<=1000000000000)=true:=ab (by simp;omega);simp only[q0,aW,ah,d0,ag,e1,ZL q0]
  by_cases q1:(b.drop 3).length<1
  ·have r1:df 1 ⟨c,b.drop 3,c7⟩=_:=Zj q1;simp only[q1,aM,ag];simp(disch:=omega) only[ab,au,ag,cO,aU,aL,gM,gN,gO,gP,gQ,gR];exact eM ⟨true,[],true⟩ _ [] (Ys r0 r1 z3)
  have r1:df 1 ⟨c,b.drop 3,c7⟩=_:=Zc (show 1<=(b.drop 3).length by omega);have d1:decide ((0:Int)<=1/\(1:Int)<=(b.drop 3).length)=true:=by simp only[aa];omega
  have e2:decide (((b.drop 3).drop 1).length<=1000000000000)=true:=ab (by simp;omega);simp only[q1,aW,ah,d1,ag,e2,Zm q1];have n1:=Q0 (b.drop 3) 1;have f1:=Q0 ((b.drop 3).drop 1) 3;have bl:(((b.drop 3).drop 1).drop 3).length<=1000000:=by simp;omega
  simp only[Nat.reducePow]at n1 f1
  by_cases q2:((b.drop 3).drop 1).length<3
  ·have r2:df 3 ⟨c,(b.drop 3).drop 1,c7⟩=_:=Zj q2;simp only[q2,aM,ag];have bz:([]:bK).length<=1000000:=by simp
   simp(disch:=(first|omega|(simp;omega))) only[ab,au,ag,cO,aU,aL,gM,gN,gO,gP,gQ,gR,Nat.sub_zero,Int.add_zero];refine eM _ _ _ ?_;rw[Ys r0 r1 r2];have:((cf ((b.drop 3).take 1):Int)==0&&(0:Int)!=0)=false:=by simp
   rw[this];rfl
  have r2:df 3 ⟨c,(b.drop 3).drop 1,c7⟩=_:=Zc (show 3<=((b.drop 3).drop 1).length by omega);have d2:decide ((0:Int)<=3/\(3:Int)<=((b.drop 3).drop 1).length)=true:=by simp only[aa];omega
  simp only[q2,aW,ah,d2,ag,ZL q2];have hP:=Ys r0 r1 r2;cases c7
  ·simp only[ah];cases hz:((cf ((b.drop 3).take 1):Int)==0)
   ·simp only[ah];simp(disch:=omega) only[ab,au,ag,cO,aU,aL,gM,gN,gO,gP,gQ,gR,Nat.sub_zero,Int.add_zero];refine eM _ _ _ ?_;rw[hP,hz];rfl
   ·simp only[ag];simp(disch:=omega) only[ab,au,ag,cO,aU,aL,gM,gN,gO,gP,gQ,gR,Nat.sub_zero,Int.add_zero];refine eM _ _ _ ?_;rw[hP,hz];cases hf:((cf (((b.drop 3).drop 1).take 3):Int)!=0)<;>rfl
  ·simp only[ag];simp(disch:=omega) only[ab,au,ag,cO,aU,aL,gM,gN,gO,gP,gQ,gR,Nat.sub_zero,Int.add_zero];refine eM _ _ _ ?_;rw[hP];cases ((cf ((b.drop 3).take 1):Int)==0&&(cf (((b.drop 3).drop 1).take 3):Int)!=0)<;>rfl
 by_cases x1:q=1
 ·subst x1
  have eM:∀(r':Rd) (cut:Int) (L:bJ),YE fD false ZG ⟨c,b,c7⟩=(r',cut,L)->dw (some ((X.normal,[(4,.ptr 0 []),(5,.ptr 1 []),(39,.int .i64 2)]),[some (.var 171 (cL .u8 r'.c r'.b (.bI (.bool r'.c7) .bN))),some (.var 34 (cG pl (.bI (.vs 2 cQ.length) (.bI (.bI (.vs 3 l0.length) (.bI (.vs 4 (l1++L).length) (.bI (.vs 5 l2.length) .bN))) (.bI (.arr (C:=RC) .int 3 [c0,cut,c2]) .bN))))),some (.cj (C:=RC) .cE true cQ),some (.cj (C:=RC) .bP true l0),some (.cj (C:=RC) .bP true (l1++L)),some (.cj (C:=RC) .bP true l2)])) (dF qD ⟨c,b,c7,pl,cQ,l0,l1,l2,c0,c1,c2,1⟩):=by
   intro r' cut L hP;rw[hP]at pb pn;simp only at pb pn
   have ez:fj fD false ZG 2 ⟨⟨r'.c,r'.b,r'.c7⟩,l0,l1++L,l2,c0,cut,c2⟩=fj fD false ZG 1 ⟨⟨c,b,c7⟩,l0,l1,l2,c0,c1,c2⟩:=by
    simp only[fj,xG,hP]
   refine Qg ⟨r'.c,r'.b,r'.c7,pl,cQ,l0,l1++L,l2,c0,cut,c2,2⟩ ?_ (by simp only[qD];omega) ?_ rfl rfl
   ·refine⟨by simp,?_,?_,?_,?_⟩<;>simp<;>omega
   ·simp only[qD,DB,ez]
  (rw[QCG];delta cb cq;conv=>zeta)
  simp only[e0,ag,Yp,YO,t1,t3]
  by_cases q0:b.length<3
  ·have r0:df 3 ⟨c,b,c7⟩=_:=Zj q0;simp only[q0,aM,ag];simp(disch:=omega) only[ab,au,ag,cO,aU,aL,gM,gN,gO,gP,gQ,gR];exact eM ⟨true,[],true⟩ 0 [] (Ys r0 z1 z3)
  have r0:df 3 ⟨c,b,c7⟩=_:=Zc (show 3<=b.length by omega);have d0:decide ((0:Int)<=3/\(3:Int)<=b.length)=true:=by simp only[aa];omega
  have e1:decide ((b.drop 3).length<=1000000000000)=true:=ab (by simp;omega);simp only[q0,aW,ah,d0,ag,e1,ZL q0]
  by_cases q1:(b.drop 3).length<1
  ·have r1:df 1 ⟨c,b.drop 3,c7⟩=_:=Zj q1;simp only[q1,aM,ag];simp(disch:=omega) only[ab,au,ag,cO,aU,aL,gM,gN,gO,gP,gQ,gR];exact eM ⟨true,[],true⟩ _ [] (Ys r0 r1 z3)
  have r1:df 1 ⟨c,b.drop 3,c7⟩=_:=Zc (show 1<=(b.drop 3).length by omega);have d1:decide ((0:Int)<=1/\(1:Int)<=(b.drop 3).length)=true:=by simp only[aa];omega
  have e2:decide (((b.drop 3).drop 1).length<=1000000000000)=true:=ab (by simp;omega);simp only[q1,aW,ah,d1,ag,e2,Zm q1];have n1:=Q0 (b.drop 3) 1;have f1:=Q0 ((b.drop 3).drop 1) 3;have bl:(((b.drop 3).drop 1).drop 3).length<=1000000:=by simp;omega
  simp only[Nat.reducePow]at n1 f1
  by_cases q2:((b.drop 3).drop 1).length<3
  ·have r2:df 3 ⟨c,(b.drop 3).drop 1,c7⟩=_:=Zj q2;simp only[q2,aM,ag];have bz:([]:bK).length<=1000000:=by simp
   simp(disch:=(first|omega|(simp;omega))) only[ab,au,ag,cO,aU,aL,gM,gN,gO,gP,gQ,gR,Nat.sub_zero,Int.add_zero];refine eM _ _ _ ?_;rw[Ys r0 r1 r2];have:((cf ((b.drop 3).take 1):Int)==0&&(0:Int)!=0)=false:=by simp
   rw[this];rfl
  have r2:df 3 ⟨c,(b.drop 3).drop 1,c7⟩=_:=Zc (show 3<=((b.drop 3).drop 1).length by omega);have d2:decide ((0:Int)<=3/\(3:Int)<=((b.drop 3).drop 1).length)=true:=by simp only[aa];omega
  simp only[q2,aW,ah,d2,ag,ZL q2];have hP:=Ys r0 r1 r2;cases c7
  ·simp only[ah];cases hz:((cf ((b.drop 3).take 1):Int)==0)
   ·simp only[ah];simp(disch:=omega) only[ab,au,ag,cO,aU,aL,gM,gN,gO,gP,gQ,gR,Nat.sub_zero,Int.add_zero];refine eM _ _ _ ?_;rw[hP,hz];rfl
   ·simp only[ag];simp(disch:=omega) only[ab,au,ag,cO,aU,aL,gM,gN,gO,gP,gQ,gR,Nat.sub_zero,Int.add_zero];refine eM _ _ _ ?_;rw[hP,hz];cases hf:((cf (((b.drop 3).drop 1).take 3):Int)!=0)<;>rfl
  ·simp only[ag];simp(disch:=omega) only[ab,au,ag,cO,aU,aL,gM,gN,gO,gP,gQ,gR,Nat.sub_zero,Int.add_zero];refine eM _ _ _ ?_;rw[hP];cases ((cf ((b.drop 3).take 1):Int)==0&&(cf (((b.drop 3).drop 1).take 3):Int)!=0)<;>rfl
 by_cases x2:q=2
 ·subst x2
  have eM:∀(r':Rd) (cut:Int) (L:bJ),YE fD false ZG ⟨c,b,c7⟩=(r',cut,L)->dw (some ((X.normal,[(4,.ptr 0 []),(5,.ptr 1 []),(39,.int .i64 3)]),[some (.var 171 (cL .u8 r'.c r'.b (.bI (.bool r'.c7) .bN))),some (.var 34 (cG pl (.bI (.vs 2 cQ.length) (.bI (.bI (.vs 3 l0.length) (.bI (.vs 4 l1.length) (.bI (.vs 5 (l2++L).length) .bN))) (.bI (.arr (C:=RC) .int 3 [c0,c1,cut]) .bN))))),some (.cj (C:=RC) .cE true cQ),some (.cj (C:=RC) .bP true l0),some (.cj (C:=RC) .bP true l1),some (.cj (C:=RC) .bP true (l2++L))])) (dF qD ⟨c,b,c7,pl,cQ,l0,l1,l2,c0,c1,c2,2⟩):=by
   intro r' cut L hP;rw[hP]at pb pn;simp only at pb pn
   have ez:fj fD false ZG 3 ⟨⟨r'.c,r'.b,r'.c7⟩,l0,l1,l2++L,c0,c1,cut⟩=fj fD false ZG 2 ⟨⟨c,b,c7⟩,l0,l1,l2,c0,c1,c2⟩:=by
    simp only[fj,wc,hP]
   refine Qg ⟨r'.c,r'.b,r'.c7,pl,cQ,l0,l1,l2++L,c0,c1,cut,3⟩ ?_ (by simp only[qD];omega) ?_ rfl rfl
   ·refine⟨by simp,?_,?_,?_,?_⟩<;>simp<;>omega
   ·simp only[qD,DB,ez]
  (rw[QCH];delta cb cq;conv=>zeta)
  simp only[e0,ag,Yp,YO,t1,t3]
  by_cases q0:b.length<3
  ·have r0:df 3 ⟨c,b,c7⟩=_:=Zj q0;simp only[q0,aM,ag];simp(disch:=omega) only[ab,au,ag,cO,aU,aL,gM,gN,gO,gP,gQ,gR];exact eM ⟨true,[],true⟩ 0 [] (Ys r0 z1 z3)
  have r0:df 3 ⟨c,b,c7⟩=_:=Zc (show 3<=b.length by omega);have d0:decide ((0:Int)<=3/\(3:Int)<=b.length)=true:=by simp only[aa];omega
  have e1:decide ((b.drop 3).length<=1000000000000)=true:=ab (by simp;omega);simp only[q0,aW,ah,d0,ag,e1,ZL q0]
  by_cases q1:(b.drop 3).length<1
  ·have r1:df 1 ⟨c,b.drop 3,c7⟩=_:=Zj q1;simp only[q1,aM,ag];simp(disch:=omega) only[ab,au,ag,cO,aU,aL,gM,gN,gO,gP,gQ,gR];exact eM ⟨true,[],true⟩ _ [] (Ys r0 r1 z3)
  have r1:df 1 ⟨c,b.drop 3,c7⟩=_:=Zc (show 1<=(b.drop 3).length by omega);have d1:decide ((0:Int)<=1/\(1:Int)<=(b.drop 3).length)=true:=by simp only[aa];omega
  have e2:decide (((b.drop 3).drop 1).length<=1000000000000)=true:=ab (by simp;omega);simp only[q1,aW,ah,d1,ag,e2,Zm q1];have n1:=Q0 (b.drop 3) 1;have f1:=Q0 ((b.drop 3).drop 1) 3;have bl:(((b.drop 3).drop 1).drop 3).length<=1000000:=by simp;omega
  simp only[Nat.reducePow]at n1 f1
  by_cases q2:((b.drop 3).drop 1).length<3
  ·have r2:df 3 ⟨c,(b.drop 3).drop 1,c7⟩=_:=Zj q2;simp only[q2,aM,ag];have bz:([]:bK).length<=1000000:=by simp
   simp(disch:=(first|omega|(simp;omega))) only[ab,au,ag,cO,aU,aL,gM,gN,gO,gP,gQ,gR,Nat.sub_zero,Int.add_zero];refine eM _ _ _ ?_;rw[Ys r0 r1 r2];have:((cf ((b.drop 3).take 1):Int)==0&&(0:Int)!=0)=false:=by simp
   rw[this];rfl
  have r2:df 3 ⟨c,(b.drop 3).drop 1,c7⟩=_:=Zc (show 3<=((b.drop 3).drop 1).length by omega);have d2:decide ((0:Int)<=3/\(3:Int)<=((b.drop 3).drop 1).length)=true:=by simp only[aa];omega
  simp only[q2,aW,ah,d2,ag,ZL q2];have hP:=Ys r0 r1 r2;cases c7
  ·simp only[ah];cases hz:((cf ((b.drop 3).take 1):Int)==0)
   ·simp only[ah];simp(disch:=omega) only[ab,au,ag,cO,aU,aL,gM,gN,gO,gP,gQ,gR,Nat.sub_zero,Int.add_zero];refine eM _ _ _ ?_;rw[hP,hz];rfl
   ·simp only[ag];simp(disch:=omega) only[ab,au,ag,cO,aU,aL,gM,gN,gO,gP,gQ,gR,Nat.sub_zero,Int.add_zero];refine eM _ _ _ ?_;rw[hP,hz];cases hf:((cf (((b.drop 3).drop 1).take 3):Int)!=0)<;>rfl
  ·simp only[ag];simp(disch:=omega) only[ab,au,ag,cO,aU,aL,gM,gN,gO,gP,gQ,gR,Nat.sub_zero,Int.add_zero];refine eM _ _ _ ?_;rw[hP];cases ((cf ((b.drop 3).take 1):Int)==0&&(cf (((b.drop 3).drop 1).take 3):Int)!=0)<;>rfl
 omega
def IU(env:bX)(os:bR):Option (Bool×RS):=match env,os with
 |[(4,.ptr 0 []),(5,.ptr 1 []),(39,.int .i64 x0)],[.var 171 (.bI (.sl .u8 c b) (.bI (.bool c7) .bN)),.var 34 (.bI (.int .i64 pl) (.bI (.vs 2 x1) (.bI (.bI (.vs 3 x2) (.bI (.vs 4 x3) (.bI (.vs 5 x4) .bN))) (.bI (.arr .int 3 [c0,c1,c2]) .bN)))),.cj .cE true cQ,.cj .bP true l0,.cj .bP true l1,.cj .bP true l2]=>some (decide (x0=0)&&decide (x1=cQ.length)&&decide (x2=l0.length)&&decide (x3=l1.length)&&decide (x4=l2.length)&&decide (b.length<=1000000/\l0.length=0/\l1.length=0/\l2.length=0),⟨c,b,c7,pl,cQ,l0,l1,l2,c0,c1,c2,0⟩)
 |_,_=>none
def Be:=Bd.cP 88 11 (eZ cF [.slot 4 0,.slot 5 0,.path 1 [1],.path 1 [2,0],.path 1 [2,1],.path 1 [2,2]] [4,5,39] qD IU)
theorem QsA:Qj Tryz.prog cF Be:=by
 refine Qsv.cJ Qb (by kernel_rfl) qD 60 [4,5,39] [] [.slot 4 0,.slot 5 0,.path 1 [1],.path 1 [2,0],.path 1 [2,1],.path 1 [2,2]] [4,5,39] IU (fun q hI=>?_) ?_
 ·obtain⟨c,b,c7,pl,cQ,l0,l1,l2,c0,c1,c2,q⟩:=q;refine⟨?_,?_,Qsz c b c7 pl cQ l0 l1 l2 c0 c1 c2 q hI⟩
  ·simp_all[Qk,qD,IS,D9,DC,D.refs,Obj.refs,de]
  ·simp_all[qD,DB,D9,DC,RT.da,Qk,D.refs,Obj.refs,de]
 ·intro env os b q cW hb;unfold IU at cW
  split at cW
  ·cases cW;simp only[ai,aa]at hb;obtain⟨⟨⟨⟨⟨rfl,rfl⟩,rfl⟩,rfl⟩,rfl⟩,hq⟩:=hb;exact⟨⟨by simp,hq.1,by simp[hq.2.1],by simp[hq.2.2.1],by simp[hq.2.2.2]⟩,rfl,rfl⟩
  ·cases cW
def dh(o:Option St):St:=o.getD ⟨0,[],[],[],[],0,0,0⟩
theorem QiF(r:Rd):(fj fD false ZG 0 ⟨r,[],[],[],0,0,0⟩).l0.length<=255/\(fj fD false ZG 0 ⟨r,[],[],[],0,0,0⟩).l1.length<=255/\(fj fD false ZG 0 ⟨r,[],[],[],0,0,0⟩).l2.length<=255/\(fj fD false ZG 0 ⟨r,[],[],[],0,0,0⟩).r.b.length<=r.b.length:=by
 simp only[fj,Co,xG,wc,aH];exact⟨Gx _,Gx _,Gx _,bk (F6 _) (bk (F6 _) (F6 _))⟩
theorem QsB{r r1 r2:Rd}{p n:Int}(h1:df 3 r=(p,r1))(h2:df 1 r1=(n,r2)) :
 Kw fD false ZG r=((fj fD false ZG 0 ⟨(QH fD false n.toNat r2).1,[],[],[],0,0,0⟩).r,⟨p,(QH fD false n.toNat r2).2,(fj fD false ZG 0 ⟨(QH fD false n.toNat r2).1,[],[],[],0,0,0⟩).l0,(fj fD false ZG 0 ⟨(QH fD false n.toNat r2).1,[],[],[],0,0,0⟩).l1,(fj fD false ZG 0 ⟨(QH fD false n.toNat r2).1,[],[],[],0,0,0⟩).l2,(fj fD false ZG 0 ⟨(QH fD false n.toNat r2).1,[],[],[],0,0,0⟩).c0,(fj fD false ZG 0 ⟨(QH fD false n.toNat r2).1,[],[],[],0,0,0⟩).c1,(fj fD false ZG 0 ⟨(QH fD false n.toNat r2).1,[],[],[],0,0,0⟩).c2⟩):=by
 have e1:fD.get 3 r=(p,r1):=h1;have e2:fD.get 1 r1=(n,r2):=h2;simp only[Kw,e1,e2,fj,Co,xG,wc,aH]
open Go.Proofs
def Wf:bW->bO
 |[.sl .u8 c b]=>some (decide (b.length<=1000000),.cH (.bI (cG (dh (QA b)).b8 (cL .cE (QA b).isNone (dh (QA b)).bV (.bI (cL .bP (QA b).isNone (dh (QA b)).l0 (cL .bP (QA b).isNone (dh (QA b)).l1 (cL .bP (QA b).isNone (dh (QA b)).l2 .bN))) (.bI (.arr (C:=RC) .int 3 [(dh (QA b)).c0,(dh (QA b)).c1,(dh (QA b)).c2]) .bN)))) (cG (bif(QA b).isNone then 50 else 0) .bN)))
 |_=>none
def Qmv(c:Bool)(b:bK):=eU cF Be 60 88 [.sl (C:=RC) .u8 c b]
theorem QsC c b:Qmv c b=(let Z0:Int×Int:=cU b 0 3;let Z1:bQ:=cq 0;let Z2:bQ:=D.sl ca.bP true [];let Z3:bQ:=.bN;let Z4:fG:=some (D.cH (D.bI (D.bI Z1 (D.bI (D.sl ca.cE true []) (.bI (D.bI Z2 (D.bI Z2 (D.bI Z2 Z3))) (.bI (D.arr ca.int 3 (List.replicate 3 0)) Z3)))) (.bI (cq 50) Z3)));let Z5:=List.drop 3 b;let Z6:Int×Int:=cU Z5 0 1;let Z7:=Z6.1;let Z8:Rd×bM:=QH fD false (Int.toNat Z7-0) (Rd.mk c (List.drop 1 Z5) false);let Z9:bM:=[]++Z8.2;let dg:=Z9.length;let dq:QS Rd:=fj fD false ZG 0 (QS.mk (Rd.mk Z8.1.c Z8.1.b Z8.1.c7) [] [] [] 0 0 0);let dE:=List.length dq.r.b;let dQ:=List.length dq.l0;let dv:=List.length dq.l1;let dT:=List.length dq.l2;let dL:fG:=none;bif decide (b.length<=1000000000000)then bif Z0.2 !=0 then Z4 else bif decide ((0:Int)<=3/\(3:Int)<=(b.length:Int))then bif decide (Z5.length<=1000000000000)then bif Z6.2 !=0 then Z4 else bif decide ((0:Int)<=1/\(1:Int)<=(Z5.length:Int))then bif decide ((0:Int)<=Z7/\Z7<=255/\List.length (List.drop 1 Z5)<=1000000/\(0:Nat)=0)then bif decide (dg=dg)&&true&&true&&true&&decide (List.length Z8.1.b<=1000000/\(0:Nat)=0/\(0:Nat)=0/\(0:Nat)=0)then bif !Rd.c7 dq.r then bif Qc dE then bif !(dE:Int)==0 then Z4 else bif Nat.beq dg dg then bif Nat.beq dQ dQ then bif Nat.beq dv dv then bif Nat.beq dT dT then bif decide (dg<=9223372036854775807/\dQ<=9223372036854775807/\dv<=9223372036854775807/\dT<=9223372036854775807)then bif !Qs (St.mk Z0.1 Z9 dq.l0 dq.l1 dq.l2 dq.c0 dq.c1 dq.c2)then Z4 else some (D.cH (D.bI (D.bI (cq Z0.1) (.bI (D.sl ca.cE false Z9) (.bI (D.bI (D.sl ca.bP false dq.l0) (.bI (D.sl ca.bP false dq.l1) (.bI (D.sl ca.bP false dq.l2) Z3))) (.bI (D.arr ca.int 3 [QS.c0 dq,QS.c1 dq,QS.c2 dq]) Z3)))) (.bI Z1 Z3)))else dL else dL else dL else dL else dL else dL else Z4 else dL else dL else dL else dL else dL else dL):=by kernel_rfl
theorem QsD c b(h:(decide (b.length<=1000000))=true):Qmv c b=some (.cH (.bI (cG (dh (QA b)).b8 (cL .cE (QA b).isNone (dh (QA b)).bV (.bI (cL .bP (QA b).isNone (dh (QA b)).l0 (cL .bP (QA b).isNone (dh (QA b)).l1 (cL .bP (QA b).isNone (dh (QA b)).l2 .bN))) (.bI (.arr (C:=RC) .int 3 [(dh (QA b)).c0,(dh (QA b)).c1,(dh (QA b)).c2]) .bN)))) (cG (bif(QA b).isNone then 50 else 0) .bN))):=by
 (rw[QsC];delta cq;conv=>zeta)
 have hl:=af h;have e0:decide (b.length<=1000000000000)=true:=ab (by omega);have t1:Int.toNat 1=1:=rfl;have t3:Int.toNat 3=3:=rfl;have eb:∀n:Nat,n.beq n=true:=fun n=>by simp
 have no:QA b=none->some (D.cH (D.bI (D.bI (D.int IntKind.i64 0) (D.bI (D.sl (C:=RC) ca.cE true []) (D.bI (D.bI (D.sl (C:=RC) ca.bP true []) (D.bI (D.sl (C:=RC) ca.bP true []) (D.bI (D.sl (C:=RC) ca.bP true []) D.bN))) (D.bI (D.arr (C:=RC) ca.int 3 (List.replicate 3 0)) D.bN)))) (D.bI (D.int IntKind.i64 50) D.bN)))=some (.cH (.bI (cG (dh (QA b)).b8 (cL .cE (QA b).isNone (dh (QA b)).bV (.bI (cL .bP (QA b).isNone (dh (QA b)).l0 (cL .bP (QA b).isNone (dh (QA b)).l1 (cL .bP (QA b).isNone (dh (QA b)).l2 .bN))) (.bI (.arr (C:=RC) .int 3 [(dh (QA b)).c0,(dh (QA b)).c1,(dh (QA b)).c2]) .bN)))) (cG (bif(QA b).isNone then 50 else 0) .bN))):=fun e=>by rw[e];rfl
 simp only[e0,ag,Yp,YO,t1,t3]
 by_cases q0:b.length<3
 ·simp only[q0,aM,ag]
  exact no (by
   have:¬3<=b.length:=by omega
   simp[QA,kz,this])
 have r0:df 3 ⟨c,b,false⟩=_:=Zc (show 3<=b.length by omega);have d0:decide ((0:Int)<=3/\(3:Int)<=b.length)=true:=by simp only[aa];omega
 have e1:decide ((b.drop 3).length<=1000000000000)=true:=ab (by simp;omega);simp only[q0,aW,ah,d0,ag,e1,ZL q0]
 by_cases q1:(b.drop 3).length<1
 ·simp only[q1,aM,ag]
  exact no (by
   have h3:3<=b.length:=by omega
   have:¬1<=(b.drop 3).length:=by omega
   simp only[QA,kz,h3,aU,Option.bind_some,this,aL,Option.bind_none])
 have r1:df 1 ⟨c,b.drop 3,false⟩=_:=Zc (show 1<=(b.drop 3).length by omega);have d1:decide ((0:Int)<=1/\(1:Int)<=(b.drop 3).length)=true:=by simp only[aa];omega
 simp only[q1,aW,ah,d1,ag,Zm q1];have rK:=V1 QEL false ZG (fun _=>rfl) ⟨c,b,false⟩ rfl;rw[QsB r0 r1]at rK
 change QA b=_ at rK
 have n1:=Q0 (b.drop 3) 1;simp only[Nat.reducePow]at n1;have bl:((b.drop 3).drop 1).length<=1000000:=by simp;omega
 generalize cf ((b.drop 3).take 1)=n at n1 rK ⊢;have ck:decide ((0:Int)<=n/\(n:Int)<=255/\((b.drop 3).drop 1).length<=1000000/\True)=true:=ab ⟨by omega,by omega,bl,trivial⟩;have tn:(n:Int).toNat-0=n:=by omega
 have xe:(n:Int).toNat=n:=by omega
 simp only[ck,tn,xe,ag,aH]at rK ⊢;have gb:=TV n ⟨c,(b.drop 3).drop 1,false⟩;have gl:=VQ fD false n ⟨c,(b.drop 3).drop 1,false⟩;generalize QH fD false n ⟨c,(b.drop 3).drop 1,false⟩=IT at gb gl rK ⊢;obtain⟨⟨c',b',Ej⟩,cQ⟩:=IT;simp only at gb gl rK ⊢;have qb:=QiF ⟨c',b',Ej⟩;generalize fj fD false ZG 0 ⟨⟨c',b',Ej⟩,[],[],[],0,0,0⟩=Q at qb rK ⊢;obtain⟨⟨qc,qq,P9⟩,a0,a1,a2,x0,x1,x2⟩:=Q;simp only[fD]at qb rK ⊢;obtain⟨b0,b1,b2,b3⟩:=qb;have k1:Qc qq.length=true:=Qd (by omega);have m1:decide (b'.length<=1000000/\True/\True/\True)=true:=ab ⟨by omega,trivial,trivial,trivial⟩;have m2:decide (cQ.length<=9223372036854775807/\a0.length<=9223372036854775807/\a1.length<=9223372036854775807/\a2.length<=9223372036854775807)=true:=by simp only[aa];omega
 simp only[k1,m1,m2,eb,aM,au,Bool.and_true,Bool.true_and,ag];cases P9
 ·simp only[bh,ag]
  by_cases hz:qq=[]
  ·subst hz;cases hs:Qs ⟨(cf (b.take 3):Int),cQ,a0,a1,a2,x0,x1,x2⟩
   ·rw[hs]at rK;exact no (by rw[rK];simp)
   ·rw[hs]at rK;have:QA b=some ⟨(cf (b.take 3):Int),cQ,a0,a1,a2,x0,x1,x2⟩:=by rw[rK];simp
    rw[this];rfl
  ·have PX:((qq.length:Int)==0)=false:=by
    simp only[beq_eq_false_iff_ne];cases qq with
    |nil=>exact(hz rfl).elim
    |cons _ _=>simp;omega
   simp only[PX,bh,ag];exact no (by rw[rK];simp[hz])
 ·simp only[bg,ah];exact no (by rw[rK];simp)
def Bf:=Be.cm 88 Wf
theorem QsE:Qj Tryz.prog cF Bf:=QsA.c6 Qb fun args d h=>by
 unfold Wf at h
 split at h
 ·obtain⟨h1,rfl⟩:=ak h;exact⟨by simp[D.refs],60,QsD _ _ h1⟩
 ·cases h
theorem QR{b:bK}{w p:Nat}{s:Bool}(h:p+w<=b.length):c9 b w ⟨p,s⟩=((cf ((b.drop p).take w):Int),⟨p+w,s⟩):=by simp[c9,h]
theorem QC{b:bK}{w p:Nat}{s:Bool}(h:b.length<p+w):c9 b w ⟨p,s⟩=(0,⟨p,true⟩):=by simp[c9,Nat.not_le.2 h]
theorem Vr{b:bK}{p:Int}(h:0<=p):((cU b p 1).2 !=0)=decide ((b.length:Int)<p+1):=by
 by_cases h1:(b.length:Int)<p+1
 ·have:¬(p+1<=(b.length:Int)):=by omega
  simp only[cU,h1];simp[this]
 ·have:(p+1<=(b.length:Int)):=by omega
  simp only[cU,h1];simp[this,h]
theorem Vs{b:bK}{p:Int}(h:0<=p):((cU b p 3).2 !=0)=decide ((b.length:Int)<p+3):=by
 by_cases h1:(b.length:Int)<p+3
 ·have:¬(p+3<=(b.length:Int)):=by omega
  simp only[cU,h1];simp[this]
 ·have:(p+3<=(b.length:Int)):=by omega
  simp only[cU,h1];simp[this,h]
theorem QX{b:bK}{p:Int}(h:0<=p)(h1:¬(b.length:Int)<p+1):(cU b p 1).1=(cf ((b.drop p.toNat).take 1):Int):=by
 have:(p+1<=(b.length:Int)):=by omega
 simp only[cU];simp[this,h]
theorem ZC{b:bK}{p:Int}(h:0<=p)(h1:¬(b.length:Int)<p+3):(cU b p 3).1=(cf ((b.drop p.toNat).take 3):Int):=by
 have:(p+3<=(b.length:Int)):=by omega
 simp only[cU];simp[this,h]
theorem YB b(k p:Nat):QH (gI b) true (k+1) ⟨p,false⟩=((QH (gI b) true k (c9 b 1 (c9 b 3 (c9 b 1 ⟨p,false⟩).2).2).2).1,⟨(c9 b 1 ⟨p,false⟩).1,(c9 b 3 (c9 b 1 ⟨p,false⟩).2).1,(c9 b 1 (c9 b 3 (c9 b 1 ⟨p,false⟩).2).2).1⟩::(QH (gI b) true k (c9 b 1 (c9 b 3 (c9 b 1 ⟨p,false⟩).2).2).2).2):=rfl
theorem TL b(k p:Nat):QH (gI b) true k ⟨p,true⟩=(⟨p,true⟩,[]):=by cases k<;>rfl
theorem QI b(k:Nat)(o:Int)(p:Nat):Qx (gI b) true (k+1) o ⟨p,false⟩=((Qx (gI b) true k (o+1) (c9 b 1 (c9 b 1 (c9 b 3 ⟨p,false⟩).2).2).2).1,⟨o,(c9 b 3 ⟨p,false⟩).1,(c9 b 1 (c9 b 3 ⟨p,false⟩).2).1%16,(c9 b 1 (c9 b 3 ⟨p,false⟩).2).1/16,(c9 b 1 (c9 b 1 (c9 b 3 ⟨p,false⟩).2).2).1⟩::(Qx (gI b) true k (o+1) (c9 b 1 (c9 b 1 (c9 b 3 ⟨p,false⟩).2).2).2).2):=rfl
theorem TM b(k:Nat)(o:Int)(p:Nat):Qx (gI b) true k o ⟨p,true⟩=(⟨p,true⟩,[]):=by cases k<;>rfl
open Go.Proofs
structure Ua where
 (c:Bool)(b:bK)(pos:Int)(short:Bool)(pl:Int)(cQ:bM)(c0 c1 c2 n:Int)(i:Nat)
def Vt(c:Bool)(b:bK)(pos:Int)(short:Bool)(pl:Int)(cQ:bM)(c0 c1 c2 n:Int)(i:Nat):bX:=[(4,.ptr 0 []),(5,.ptr 1 []),(6,.int .i64 n),(7,.int .i64 (i:Int))]
def ZM(c:Bool)(b:bK)(pos:Int)(short:Bool)(pl:Int)(cQ:bM)(c0 c1 c2 n:Int)(i:Nat):bR:=[.var 181 (cL .u8 c b (cG pos (.bI (.bool short) .bN))),.var 34 (cG pl (.bI (.vs 2 (cQ.length)) (.bI (cL .bP true [] (cL .bP true [] (cL .bP true [] .bN))) (.bI (.arr (C:=RC) .int 3 [c0,c1,c2]) .bN)))),.cj (C:=RC) .cE true cQ]
def Wg c b pos short pl cQ c0 c1 c2 n i:=eF cF Bf 96 6 60 3 [4,5,6,7] [] [.slot 4 0,.slot 5 0,.path 1 [1]] (Vt c b pos short pl cQ c0 c1 c2 n i) (ZM c b pos short pl cQ c0 c1 c2 n i)
theorem Qpd c b pos short pl cQ c0 c1 c2 n i:Wg c b pos short pl cQ c0 c1 c2 n i=(let Z0:Bool:=decide (b.length<=1000000000000);let Z1:=Prod.snd (cU b pos 1)!=0;let Z2:=cQ.length;let Z3:=Nat.beq Z2 Z2;let Z4:X×bX:=(X.normal,[(4,D.ptr 0 []),(5,D.ptr 1 []),(6,cq n),(7,cq (cX ((i:Int)+1)))]);let Z5:bQ:=D.sl ca.u8 c b;let Z6:bQ:=cq pos;let Z7:bQ:=D.bI (D.bool true) .bN;let Z8:bQ:=cq pl;let Z9:bQ:=D.sl ca.bP true [];let dg:bQ:=D.bI (D.bI Z9 (D.bI Z9 (D.bI Z9 .bN))) (.bI (D.arr ca.int 3 [c0,c1,c2]) .bN);let dq:=Prod.fst (cU b pos 1);let dE:bM:=[Item.mk 0 0 dq];let dQ:=cX (pos+1);let dv:bZ:=some (Obj.var 181 (.bI Z5 (D.bI (cq dQ) Z7)));let dT:=cX (pos+3);let dL:=Prod.fst (cU b pos 3);let eK:bM:=[Item.mk 0 dL 0];let eo:bM:=[Item.mk 0 dL (cU b dT 1).1];let eX:bM:=[Item.mk dq 0 0];let eC:bM:=[Item.mk dq 0 (cU b dQ 1).1];let eP:=cX (dQ+3);let fF:=Prod.fst (cU b dQ 3);let fz:Nat:=Z2+List.length [Item.mk dq fF 0];let fM:bM:=[Item.mk dq fF (cU b eP 1).1];let gf:bQ:=D.bI (D.bool short) .bN;let gK:kW:=some ((X.exit 0,[]),[some (Obj.var 181 (.bI Z5 (D.bI Z6 gf))),some (Obj.var 34 (.bI Z8 (D.bI (D.vs 2 Z2) dg))),some (Obj.cj ca.cE true cQ)]);bif decide ((i:Int)<n)then bif !short then cb Z0 (bif Z1 then cb Z0 (bif Prod.snd (cU b pos 3)!=0 then cb Z0 (bif Z1 then cb (Z3&&Qf (Z2+1) 24) (some (Z4,[some (Obj.var 181 (.bI Z5 (D.bI Z6 Z7))),some (Obj.var 34 (.bI Z8 (D.bI (D.vs 2 (Z2+1)) dg))),some (Obj.cj ca.cE true (cQ++[Item.mk 0 0 0]))]))else cb (Z3&&Qf (Z2+dE.length) 24) (some (Z4,[dv,some (Obj.var 34 (.bI Z8 (D.bI (D.vs 2 (Z2+dE.length)) dg))),some (Obj.cj ca.cE true (cQ++dE))])))else cb Z0 (bif Prod.snd (cU b dT 1)!=0 then cb (Z3&&Qf (Z2+eK.length) 24) (some (Z4,[some (Obj.var 181 (.bI Z5 (D.bI (cq dT) Z7))),some (Obj.var 34 (.bI Z8 (D.bI (D.vs 2 (Z2+eK.length)) dg))),some (Obj.cj ca.cE true (cQ++eK))]))else cb (Z3&&Qf (Z2+eo.length) 24) (some (Z4,[some (Obj.var 181 (.bI Z5 (D.bI (cq (cX (dT+1))) Z7))),some (Obj.var 34 (.bI Z8 (D.bI (D.vs 2 (Z2+eo.length)) dg))),some (Obj.cj ca.cE true (cQ++eo))]))))else cb Z0 (bif Prod.snd (cU b dQ 3)!=0 then cb Z0 (bif Prod.snd (cU b dQ 1)!=0 then cb (Z3&&Qf (Z2+eX.length) 24) (some (Z4,[dv,some (Obj.var 34 (.bI Z8 (D.bI (D.vs 2 (Z2+eX.length)) dg))),some (Obj.cj ca.cE true (cQ++eX))]))else cb (Z3&&Qf (Z2+eC.length) 24) (some (Z4,[some (Obj.var 181 (.bI Z5 (D.bI (cq (cX (dQ+1))) Z7))),some (Obj.var 34 (.bI Z8 (D.bI (D.vs 2 (Z2+eC.length)) dg))),some (Obj.cj ca.cE true (cQ++eC))])))else cb Z0 (bif Prod.snd (cU b eP 1)!=0 then cb (Z3&&Qf fz 24) (some (Z4,[some (Obj.var 181 (.bI Z5 (D.bI (cq eP) Z7))),some (Obj.var 34 (.bI Z8 (D.bI (D.vs 2 fz) dg))),some (Obj.cj ca.cE true (cQ++[Item.mk dq fF 0]))]))else cb (Z3&&Qf (Z2+fM.length) 24) (some (Z4,[some (Obj.var 181 (.bI Z5 (D.bI (cq (cX (eP+1))) gf))),some (Obj.var 34 (.bI Z8 (D.bI (D.vs 2 (Z2+fM.length)) dg))),some (Obj.cj ca.cE true (cQ++fM))])))))else gK else gK):=by kernel_rfl
def ZQ(c:Bool)(b:bK)(pos:Int)(short:Bool)(pl:Int)(cQ:bM)(c0 c1 c2 n:Int)(i:Nat):RT RC:=.leaf (.exit 0) [] [.var 181 (cL .u8 c b (cG (QH (gI b) true (n.toNat-i) ⟨pos.toNat,short⟩).1.pos (.bI (.bool (QH (gI b) true (n.toNat-i) ⟨pos.toNat,short⟩).1.short) .bN))),.var 34 (cG pl (.bI (.vs 2 (cQ++(QH (gI b) true (n.toNat-i) ⟨pos.toNat,short⟩).2).length) (.bI (cL .bP true [] (cL .bP true [] (cL .bP true [] .bN))) (.bI (.arr (C:=RC) .int 3 [c0,c1,c2]) .bN)))),.cj (C:=RC) .cE true (cQ++(QH (gI b) true (n.toNat-i) ⟨pos.toNat,short⟩).2)]
def V5(c:Bool)(b:bK)(pos:Int)(short:Bool)(pl:Int)(cQ:bM)(c0 c1 c2 n:Int)(i:Nat):Prop:=(i:Int)<=n/\n<=255/\b.length<=1000000/\(0<=pos/\pos<=b.length)/\cQ.length<=i
def QN:QK RC Ua where
 k:=3
 cS q:=Vt q.c q.b q.pos q.short q.pl q.cQ q.c0 q.c1 q.c2 q.n q.i
 cR q:=ZM q.c q.b q.pos q.short q.pl q.cQ q.c0 q.c1 q.c2 q.n q.i
 fin q:=ZQ q.c q.b q.pos q.short q.pl q.cQ q.c0 q.c1 q.c2 q.n q.i
 Inv q:=V5 q.c q.b q.pos q.short q.pl q.cQ q.c0 q.c1 q.c2 q.n q.i
 μ q:=q.n.toNat-q.i
theorem Qg8 c b pos short pl cQ c0 c1 c2 n i(hI:V5 c b pos short pl cQ c0 c1 c2 n i):dw (Wg c b pos short pl cQ c0 c1 c2 n i) (dF QN ⟨c,b,pos,short,pl,cQ,c0,c1,c2,n,i⟩):=by
 (rw[Qpd];delta cb cq cX;conv=>zeta)
 unfold V5 at hI;obtain⟨h1,h2,h3,h4,h5⟩:=hI;have eb:∀n:Nat,n.beq n=true:=fun n=>by simp
 have pp:((pos.toNat:Nat):Int)=pos:=by omega
 by_cases cY:(i:Int)<n
 ·have cN:=fa i (by omega)
  have hn:n.toNat-i=(n.toNat-(i+1))+1:=by omega
  have s1:Qf (cQ.length+1) 24=true:=Zb (by omega);have e0:decide (b.length<=1000000000000)=true:=ab (by omega);have wv:∀x:Int,0<=x->x<=20000000->IntKind.i64.wrap x=x:=fun x _ _=>cu (by omega) (by omega);have oR:(pos+1).toNat=pos.toNat+1:=by omega
  have pT:(pos+3).toNat=pos.toNat+3:=by omega
  have nY:(pos+4).toNat=pos.toNat+4:=by omega
  have xf:(pos+2).toNat=pos.toNat+2:=by omega
  have xg:(pos+5).toNat=pos.toNat+5:=by omega
  have so:pos+1+3=pos+4:=by omega
  have sq:pos+3+1=pos+4:=by omega
  have sr:pos+4+1=pos+5:=by omega
  have sn:pos+1+1=pos+2:=by omega
  cases short
  ·simp only[cY,aM,ag,ah,bg,bh,e0,cN,aE,bH,aN,s1,eb,au];simp(disch:=omega) only[wv,so,sq,sr,sn,Vr,Vs]
   by_cases iA:(b.length:Int)<pos+1
   ·have dt:c9 b 1 ⟨pos.toNat,false⟩=_:=QC (by omega);simp only[iA,aM,ag];have iN:(b.length:Int)<pos+3:=by omega
    have eJ:c9 b 3 ⟨pos.toNat,true⟩=_:=QC (by omega);simp only[iN,aM,ag];have oe:(b.length:Int)<pos+1:=by omega
    have jb:c9 b 1 ⟨pos.toNat,true⟩=_:=QC (by omega);refine Qg ⟨c,b,pos,true,pl,cQ++[⟨0,0,0⟩],c0,c1,c2,n,i+1⟩ (by refine⟨cY,h2,h3,?_,?_⟩<;>simp<;>omega) (by simp only[QN];omega) ?_ (by simp[QN,Vt]) (by simp[QN,ZM]);simp only[QN,ZQ,hn,YB,dt,eJ,jb,ay,aP,aH]
   ·have dt:c9 b 1 ⟨pos.toNat,false⟩=_:=QR (by omega);have iX:=QX (show 0<=pos by omega) (show ¬(b.length:Int)<pos+1 by omega);simp only[iA,aW,ah,iX]
    by_cases wY:(b.length:Int)<pos+4
    ·have ml:c9 b 3 ⟨pos.toNat+1,false⟩=_:=QC (by omega);simp only[wY,aM,ag]
     by_cases iB:(b.length:Int)<pos+2
     ·have ew:c9 b 1 ⟨pos.toNat+1,true⟩=_:=QC (by omega);simp only[iB,aM,ag];refine Qg ⟨c,b,pos+1,true,pl,cQ++[⟨(cf ((b.drop (pos.toNat)).take 1):Int),0,0⟩],c0,c1,c2,n,i+1⟩ (by refine⟨cY,h2,h3,?_,?_⟩<;>simp<;>omega) (by simp only[QN];omega) ?_ (by simp[QN,Vt]) (by simp[QN,ZM]);simp only[QN,ZQ,hn,YB,dt,ml,ew,oR,ay,aP,aH]
     ·have ew:c9 b 1 ⟨pos.toNat+1,true⟩=_:=QR (by omega);rw[show pos.toNat+1+1=pos.toNat+2 by omega]at ew;have fR:=QX (show 0<=pos+1 by omega) (show ¬(b.length:Int)<pos+1+1 by omega);rw[oR]at fR;simp only[iB,aW,ah,fR];refine Qg ⟨c,b,pos+2,true,pl,cQ++[⟨(cf ((b.drop (pos.toNat)).take 1):Int),0,(cf ((b.drop (pos.toNat+1)).take 1):Int)⟩],c0,c1,c2,n,i+1⟩ (by refine⟨cY,h2,h3,?_,?_⟩<;>simp<;>omega) (by simp only[QN];omega) ?_ (by simp[QN,Vt]) (by simp[QN,ZM]);simp only[QN,ZQ,hn,YB,dt,ml,ew,xf,ay,aP,aH]
    ·have ml:c9 b 3 ⟨pos.toNat+1,false⟩=_:=QR (by omega);rw[show pos.toNat+1+3=pos.toNat+4 by omega]at ml;have sA:=ZC (show 0<=pos+1 by omega) (show ¬(b.length:Int)<pos+1+3 by omega);rw[oR]at sA;simp only[wY,aW,ah,sA]
     by_cases iC:(b.length:Int)<pos+5
     ·have ey:c9 b 1 ⟨pos.toNat+4,false⟩=_:=QC (by omega);simp only[iC,aM,ag];refine Qg ⟨c,b,pos+4,true,pl,cQ++[⟨(cf ((b.drop (pos.toNat)).take 1):Int),(cf ((b.drop (pos.toNat+1)).take 3):Int),0⟩],c0,c1,c2,n,i+1⟩ (by refine⟨cY,h2,h3,?_,?_⟩<;>simp<;>omega) (by simp only[QN];omega) ?_ (by simp[QN,Vt]) (by simp[QN,ZM]);simp only[QN,ZQ,hn,YB,dt,ml,ey,nY,ay,aP,aH]
     ·have ey:c9 b 1 ⟨pos.toNat+4,false⟩=_:=QR (by omega);rw[show pos.toNat+4+1=pos.toNat+5 by omega]at ey;have fS:=QX (show 0<=pos+4 by omega) (show ¬(b.length:Int)<pos+4+1 by omega);rw[nY]at fS;simp only[iC,aW,ah,fS];refine Qg ⟨c,b,pos+5,false,pl,cQ++[⟨(cf ((b.drop (pos.toNat)).take 1):Int),(cf ((b.drop (pos.toNat+1)).take 3):Int),(cf ((b.drop (pos.toNat+4)).take 1):Int)⟩],c0,c1,c2,n,i+1⟩ (by refine⟨cY,h2,h3,?_,?_⟩<;>simp<;>omega) (by simp only[QN];omega) ?_ (by simp[QN,Vt]) (by simp[QN,ZM]);simp only[QN,ZQ,hn,YB,dt,ml,ey,xg,ay,aP,aH]
  ·simp only[cY,aM,ag,ah,bg];exact Qi (ZM c b pos true pl cQ c0 c1 c2 n i) (by simp only[QN,ZQ,ZM,TL,RT.val,aR,pp]) rfl
 ·have hi:n.toNat-i=0:=by omega
  simp only[cY,aW,ah];exact Qi (ZM c b pos short pl cQ c0 c1 c2 n i) (by simp only[QN,ZQ,ZM,hi,QH,RT.val,aR,pp]) rfl
def Mk(env:bX)(os:bR):Option (Bool×Ua):=match env,os with
 |[(4,.ptr 0 []),(5,.ptr 1 []),(6,.int .i64 n),(7,.int .i64 x0)],[.var 181 (.bI (.sl .u8 c b) (.bI (.int .i64 pos) (.bI (.bool short) .bN))),.var 34 (.bI (.int .i64 pl) (.bI (.vs 2 x1) (.bI (.bI (.sl .bP true []) (.bI (.sl .bP true []) (.bI (.sl .bP true []) .bN))) (.bI (.arr .int 3 [c0,c1,c2]) .bN)))),.cj .cE true cQ]=>some (decide (x0=0)&&decide (x1=cQ.length)&&decide (0<=n/\n<=255/\b.length<=1000000/\(0<=pos/\pos<=b.length)/\cQ.length=0),⟨c,b,pos,short,pl,cQ,c0,c1,c2,n,0⟩)
 |_,_=>none
def Bg:=Bf.cP 96 6 (eZ cF [.slot 4 0,.slot 5 0,.path 1 [1]] [4,5,6,7] QN Mk)
theorem QsF:Qj Tryz.prog cF Bg:=by
 refine QsE.cJ Qb (by kernel_rfl) QN 60 [4,5,6,7] [] [.slot 4 0,.slot 5 0,.path 1 [1]] [4,5,6,7] Mk (fun q hI=>?_) ?_
 ·obtain⟨c,b,pos,short,pl,cQ,c0,c1,c2,n,i⟩:=q;refine⟨?_,?_,Qg8 c b pos short pl cQ c0 c1 c2 n i hI⟩
  ·simp_all[Qk,QN,Vt,ZM,V5,D.refs,Obj.refs,de]
  ·simp_all[QN,ZQ,ZM,V5,RT.da,Qk,D.refs,Obj.refs,de]
 ·intro env os b q cW hb;unfold Mk at cW
  split at cW
  ·cases cW;simp only[ai,aa]at hb;obtain⟨⟨rfl,rfl⟩,h⟩:=hb;exact⟨⟨by simpa using h.1,h.2.1,h.2.2.1,h.2.2.2.1,by simp[h.2.2.2.2]⟩,rfl,rfl⟩
  ·cases cW
theorem ZR(b:bK):cf (b.take 1)<256:=by simpa using Q0 b 1
theorem Kx(m:Nat)(hm:m<1000000):(m:Int).tmod 16=(m:Int)%16/\IntKind.i64.wrap ((m:Int).tdiv 16)=(m:Int)/16:=by
 refine⟨Int.tmod_eq_emod_of_nonneg (by omega),?_⟩;rw[Int.tdiv_eq_ediv_of_nonneg (by omega)];exact cu (by omega) (by omega)
open Go.Proofs
structure Ub where
 (c:Bool)(b:bK)(pos:Int)(short:Bool)(pl:Int)(cQ:bM)(l0 l1 l2:bJ)(c0 c1 c2 q first n:Int)(i:Nat)
def Q5(c:Bool)(b:bK)(pos:Int)(short:Bool)(pl:Int)(cQ:bM)(l0 l1 l2:bJ)(c0 c1 c2 q first n:Int)(i:Nat):bX:=[(4,.ptr 0 []),(5,.ptr 1 []),(11,.int .i64 q),(12,.int .i64 first),(6,.int .i64 n),(13,.int .i64 (i:Int))]
def QQ(c:Bool)(b:bK)(pos:Int)(short:Bool)(pl:Int)(cQ:bM)(l0 l1 l2:bJ)(c0 c1 c2 q first n:Int)(i:Nat):bR:=[.var 181 (cL .u8 c b (cG pos (.bI (.bool short) .bN))),.var 34 (cG pl (.bI (.vs 2 (cQ.length)) (.bI (.bI (.vs 3 (l0.length)) (.bI (.vs 4 (l1.length)) (.bI (.vs 5 (l2.length)) .bN))) (.bI (.arr (C:=RC) .int 3 [c0,c1,c2]) .bN)))),.cj (C:=RC) .cE true cQ,.cj (C:=RC) .bP true l0,.cj (C:=RC) .bP true l1,.cj (C:=RC) .bP true l2]
def Gl c b pos short pl cQ l0 l1 l2 c0 c1 c2 q first n i:=eF cF Bg 96 19 60 6 [4,5,11,12,6,13] [] [.slot 4 0,.slot 5 0,.path 1 [1],.path 1 [2,0],.path 1 [2,1],.path 1 [2,2]] (Q5 c b pos short pl cQ l0 l1 l2 c0 c1 c2 q first n i) (QQ c b pos short pl cQ l0 l1 l2 c0 c1 c2 q first n i)
theorem LI(c:Bool)(b:bK)(pos:Int)(short:Bool)(pl:Int)(cQ:bM)(l0 l1 l2:bJ)(c0 c1 c2 first n:Int)(i:Nat):Gl c b pos short pl cQ l0 l1 l2 c0 c1 c2 0 first n i=(let Z0:Int:=(i:Int);let Z1:Bool:=decide (b.length<=1000000000000);let Z2:=Prod.snd (cU b pos 1)!=0;let Z3:=l0.length;let Z4:=Nat.beq Z3 Z3;let Z5:=cX (first+Z0);let Z6:bJ:=[cC.mk Z5 0 0 0 0];let Z7:X×bX:=(X.normal,[(4,D.ptr 0 []),(5,D.ptr 1 []),(11,cq 0),(12,cq first),(6,cq n),(13,cq (cX (Z0+1)))]);let Z8:bQ:=D.sl ca.u8 c b;let Z9:bQ:=cq pos;let dg:bQ:=D.bI (D.bool true) .bN;let dq:bQ:=cq pl;let dE:bQ:=D.vs 2 cQ.length;let dQ:bQ:=D.bI (D.vs 4 l1.length) (.bI (D.vs 5 l2.length) .bN);let dv:bQ:=D.bI (D.arr ca.int 3 [c0,c1,c2]) .bN;let dT:bZ:=some (Obj.cj ca.cE true cQ);let dL:b9:=[some (Obj.cj ca.bP true l1),some (Obj.cj ca.bP true l2)];let eK:=Prod.fst (cU b pos 1);let eo:bJ:=[cC.mk Z5 0 0 0 eK];let eX:=cX (pos+1);let eC:bZ:=some (Obj.var 181 (.bI Z8 (D.bI (cq eX) dg)));let eP:=Int.tmod eK 16;let fF:=cX (Int.tdiv eK 16);let fz:bJ:=[cC.mk Z5 0 eP fF 0];let fM:bJ:=[cC.mk Z5 0 eP fF (cU b eX 1).1];let gf:=cX (pos+3);let gK:=Prod.snd (cU b gf 1)!=0;let iW:=Prod.fst (cU b pos 3);let jO:bJ:=[cC.mk Z5 iW 0 0 0];let gC:=Prod.fst (cU b gf 1);let jh:bJ:=[cC.mk Z5 iW 0 0 gC];let jy:=cX (gf+1);let jP:bZ:=some (Obj.var 181 (.bI Z8 (D.bI (cq jy) dg)));let jo:=Int.tmod gC 16;let kb:=cX (Int.tdiv gC 16);let iI:bJ:=[cC.mk Z5 iW jo kb 0];let jx:bJ:=[cC.mk Z5 iW jo kb (cU b jy 1).1];let iP:bQ:=D.bI (D.bool short) .bN;let jE:kW:=some ((X.exit 4,[]),some (Obj.var 181 (.bI Z8 (D.bI Z9 iP)))::some (Obj.var 34 (.bI dq (D.bI dE (D.bI (D.bI (D.vs 3 Z3) dQ) dv))))::dT::some (Obj.cj ca.bP true l0)::dL);bif decide (Z0<n)then bif !short then cb Z1 (bif Prod.snd (cU b pos 3)!=0 then cb Z1 (bif Z2 then cb Z1 (bif Z2 then cb (Z4&&Qf (Z3+Z6.length) 40) (some (Z7,some (Obj.var 181 (.bI Z8 (D.bI Z9 dg)))::some (Obj.var 34 (.bI dq (D.bI dE (D.bI (D.bI (D.vs 3 (Z3+Z6.length)) dQ) dv))))::dT::some (Obj.cj ca.bP true (l0++Z6))::dL))else cb (Z4&&Qf (Z3+eo.length) 40) (some (Z7,eC::some (Obj.var 34 (.bI dq (D.bI dE (D.bI (D.bI (D.vs 3 (Z3+eo.length)) dQ) dv))))::dT::some (Obj.cj ca.bP true (l0++eo))::dL)))else cb Z1 (bif Prod.snd (cU b eX 1)!=0 then cb (Z4&&Qf (Z3+fz.length) 40) (some (Z7,eC::some (Obj.var 34 (.bI dq (D.bI dE (D.bI (D.bI (D.vs 3 (Z3+fz.length)) dQ) dv))))::dT::some (Obj.cj ca.bP true (l0++fz))::dL))else cb (Z4&&Qf (Z3+fM.length) 40) (some (Z7,some (Obj.var 181 (.bI Z8 (D.bI (cq (cX (eX+1))) dg)))::some (Obj.var 34 (.bI dq (D.bI dE (D.bI (D.bI (D.vs 3 (Z3+fM.length)) dQ) dv))))::dT::some (Obj.cj ca.bP true (l0++fM))::dL))))else cb Z1 (bif gK then cb Z1 (bif gK then cb (Z4&&Qf (Z3+jO.length) 40) (some (Z7,some (Obj.var 181 (.bI Z8 (D.bI (cq gf) dg)))::some (Obj.var 34 (.bI dq (D.bI dE (D.bI (D.bI (D.vs 3 (Z3+jO.length)) dQ) dv))))::dT::some (Obj.cj ca.bP true (l0++jO))::dL))else cb (Z4&&Qf (Z3+jh.length) 40) (some (Z7,jP::some (Obj.var 34 (.bI dq (D.bI dE (D.bI (D.bI (D.vs 3 (Z3+jh.length)) dQ) dv))))::dT::some (Obj.cj ca.bP true (l0++jh))::dL)))else cb Z1 (bif Prod.snd (cU b jy 1)!=0 then cb (Z4&&Qf (Z3+iI.length) 40) (some (Z7,jP::some (Obj.var 34 (.bI dq (D.bI dE (D.bI (D.bI (D.vs 3 (Z3+iI.length)) dQ) dv))))::dT::some (Obj.cj ca.bP true (l0++iI))::dL))else cb (Z4&&Qf (Z3+jx.length) 40) (some (Z7,some (Obj.var 181 (.bI Z8 (D.bI (cq (cX (jy+1))) iP)))::some (Obj.var 34 (.bI dq (D.bI dE (D.bI (D.bI (D.vs 3 (Z3+jx.length)) dQ) dv))))::dT::some (Obj.cj ca.bP true (l0++jx))::dL)))))else jE else jE):=by kernel_rfl
theorem LJ(c:Bool)(b:bK)(pos:Int)(short:Bool)(pl:Int)(cQ:bM)(l0 l1 l2:bJ)(c0 c1 c2 first n:Int)(i:Nat):Gl c b pos short pl cQ l0 l1 l2 c0 c1 c2 1 first n i=(let Z0:Int:=(i:Int);let Z1:Bool:=decide (b.length<=1000000000000);let Z2:=Prod.snd (cU b pos 1)!=0;let Z3:=l1.length;let Z4:=Nat.beq Z3 Z3;let Z5:=cX (first+Z0);let Z6:bJ:=[cC.mk Z5 0 0 0 0];let Z7:X×bX:=(X.normal,[(4,D.ptr 0 []),(5,D.ptr 1 []),(11,cq 1),(12,cq first),(6,cq n),(13,cq (cX (Z0+1)))]);let Z8:bQ:=D.sl ca.u8 c b;let Z9:bQ:=cq pos;let dg:bQ:=D.bI (D.bool true) .bN;let dq:bQ:=cq pl;let dE:bQ:=D.vs 2 cQ.length;let dQ:bQ:=D.vs 3 l0.length;let dv:bQ:=D.bI (D.vs 5 l2.length) .bN;let dT:bQ:=D.bI (D.arr ca.int 3 [c0,c1,c2]) .bN;let dL:bZ:=some (Obj.cj ca.cE true cQ);let eK:bZ:=some (Obj.cj ca.bP true l0);let eo:b9:=[some (Obj.cj ca.bP true l2)];let eX:=Prod.fst (cU b pos 1);let eC:bJ:=[cC.mk Z5 0 0 0 eX];let eP:=cX (pos+1);let fF:bZ:=some (Obj.var 181 (.bI Z8 (D.bI (cq eP) dg)));let fz:=Int.tmod eX 16;let fM:=cX (Int.tdiv eX 16);let gf:bJ:=[cC.mk Z5 0 fz fM 0];let gK:bJ:=[cC.mk Z5 0 fz fM (cU b eP 1).1];let iW:=cX (pos+3);let jO:=Prod.snd (cU b iW 1)!=0;let gC:=Prod.fst (cU b pos 3);let jh:bJ:=[cC.mk Z5 gC 0 0 0];let jy:=Prod.fst (cU b iW 1);let jP:bJ:=[cC.mk Z5 gC 0 0 jy];let jo:=cX (iW+1);let kb:bZ:=some (Obj.var 181 (.bI Z8 (D.bI (cq jo) dg)));let iI:=Int.tmod jy 16;let jx:=cX (Int.tdiv jy 16);let iP:bJ:=[cC.mk Z5 gC iI jx 0];let jE:bJ:=[cC.mk Z5 gC iI jx (cU b jo 1).1];let jr:bQ:=D.bI (D.bool short) .bN;let ki:kW:=some ((X.exit 4,[]),some (Obj.var 181 (.bI Z8 (D.bI Z9 jr)))::some (Obj.var 34 (.bI dq (D.bI dE (D.bI (D.bI dQ (D.bI (D.vs 4 Z3) dv)) dT))))::dL::eK::some (Obj.cj ca.bP true l1)::eo);bif decide (Z0<n)then bif !short then cb Z1 (bif Prod.snd (cU b pos 3)!=0 then cb Z1 (bif Z2 then cb Z1 (bif Z2 then cb (Z4&&Qf (Z3+Z6.length) 40) (some (Z7,some (Obj.var 181 (.bI Z8 (D.bI Z9 dg)))::some (Obj.var 34 (.bI dq (D.bI dE (D.bI (D.bI dQ (D.bI (D.vs 4 (Z3+Z6.length)) dv)) dT))))::dL::eK::some (Obj.cj ca.bP true (l1++Z6))::eo))else cb (Z4&&Qf (Z3+eC.length) 40) (some (Z7,fF::some (Obj.var 34 (.bI dq (D.bI dE (D.bI (D.bI dQ (D.bI (D.vs 4 (Z3+eC.length)) dv)) dT))))::dL::eK::some (Obj.cj ca.bP true (l1++eC))::eo)))else cb Z1 (bif Prod.snd (cU b eP 1)!=0 then cb (Z4&&Qf (Z3+gf.length) 40) (some (Z7,fF::some (Obj.var 34 (.bI dq (D.bI dE (D.bI (D.bI dQ (D.bI (D.vs 4 (Z3+gf.length)) dv)) dT))))::dL::eK::some (Obj.cj ca.bP true (l1++gf))::eo))else cb (Z4&&Qf (Z3+gK.length) 40) (some (Z7,some (Obj.var 181 (.bI Z8 (D.bI (cq (cX (eP+1))) dg)))::some (Obj.var 34 (.bI dq (D.bI dE (D.bI (D.bI dQ (D.bI (D.vs 4 (Z3+gK.length)) dv)) dT))))::dL::eK::some (Obj.cj ca.bP true (l1++gK))::eo))))else cb Z1 (bif jO then cb Z1 (bif jO then cb (Z4&&Qf (Z3+jh.length) 40) (some (Z7,some (Obj.var 181 (.bI Z8 (D.bI (cq iW) dg)))::some (Obj.var 34 (.bI dq (D.bI dE (D.bI (D.bI dQ (D.bI (D.vs 4 (Z3+jh.length)) dv)) dT))))::dL::eK::some (Obj.cj ca.bP true (l1++jh))::eo))else cb (Z4&&Qf (Z3+jP.length) 40) (some (Z7,kb::some (Obj.var 34 (.bI dq (D.bI dE (D.bI (D.bI dQ (D.bI (D.vs 4 (Z3+jP.length)) dv)) dT))))::dL::eK::some (Obj.cj ca.bP true (l1++jP))::eo)))else cb Z1 (bif Prod.snd (cU b jo 1)!=0 then cb (Z4&&Qf (Z3+iP.length) 40) (some (Z7,kb::some (Obj.var 34 (.bI dq (D.bI dE (D.bI (D.bI dQ (D.bI (D.vs 4 (Z3+iP.length)) dv)) dT))))::dL::eK::some (Obj.cj ca.bP true (l1++iP))::eo))else cb (Z4&&Qf (Z3+jE.length) 40) (some (Z7,some (Obj.var 181 (.bI Z8 (D.bI (cq (cX (jo+1))) jr)))::some (Obj.var 34 (.bI dq (D.bI dE (D.bI (D.bI dQ (D.bI (D.vs 4 (Z3+jE.length)) dv)) dT))))::dL::eK::some (Obj.cj ca.bP true (l1++jE))::eo)))))else ki else ki):=by kernel_rfl
theorem LK(c:Bool)(b:bK)(pos:Int)(short:Bool)(pl:Int)(cQ:bM)(l0 l1 l2:bJ)(c0 c1 c2 first n:Int)(i:Nat):Gl c b pos short pl cQ l0 l1 l2 c0 c1 c2 2 first n i=(let Z0:Int:=(i:Int);let Z1:Bool:=decide (b.length<=1000000000000);let Z2:=Prod.snd (cU b pos 1)!=0;let Z3:=l2.length;let Z4:=Nat.beq Z3 Z3;let Z5:=cX (first+Z0);let Z6:bJ:=[cC.mk Z5 0 0 0 0];let Z7:X×bX:=(X.normal,[(4,D.ptr 0 []),(5,D.ptr 1 []),(11,cq 2),(12,cq first),(6,cq n),(13,cq (cX (Z0+1)))]);let Z8:bQ:=D.sl ca.u8 c b;let Z9:bQ:=cq pos;let dg:bQ:=.bN;let dq:bQ:=D.bI (D.bool true) dg;let dE:bQ:=cq pl;let dQ:bQ:=D.vs 2 cQ.length;let dv:bQ:=D.vs 3 l0.length;let dT:bQ:=D.vs 4 l1.length;let dL:bQ:=D.bI (D.arr ca.int 3 [c0,c1,c2]) dg;let eK:bZ:=some (Obj.cj ca.cE true cQ);let eo:bZ:=some (Obj.cj ca.bP true l0);let eX:bZ:=some (Obj.cj ca.bP true l1);let eC:=Prod.fst (cU b pos 1);let eP:bJ:=[cC.mk Z5 0 0 0 eC];let fF:=cX (pos+1);let fz:bZ:=some (Obj.var 181 (.bI Z8 (D.bI (cq fF) dq)));let fM:=Int.tmod eC 16;let gf:=cX (Int.tdiv eC 16);let gK:bJ:=[cC.mk Z5 0 fM gf 0];let iW:bJ:=[cC.mk Z5 0 fM gf (cU b fF 1).1];let jO:=cX (pos+3);let gC:=Prod.snd (cU b jO 1)!=0;let jh:=Prod.fst (cU b pos 3);let jy:bJ:=[cC.mk Z5 jh 0 0 0];let jP:=Prod.fst (cU b jO 1);let jo:bJ:=[cC.mk Z5 jh 0 0 jP];let kb:=cX (jO+1);let iI:bZ:=some (Obj.var 181 (.bI Z8 (D.bI (cq kb) dq)));let jx:=Int.tmod jP 16;let iP:=cX (Int.tdiv jP 16);let jE:bJ:=[cC.mk Z5 jh jx iP 0];let jr:bJ:=[cC.mk Z5 jh jx iP (cU b kb 1).1];let ki:bQ:=D.bI (D.bool short) dg;let ke:kW:=some ((X.exit 4,[]),[some (Obj.var 181 (.bI Z8 (D.bI Z9 ki))),some (Obj.var 34 (.bI dE (D.bI dQ (D.bI (D.bI dv (D.bI dT (D.bI (D.vs 5 Z3) dg))) dL)))),eK,eo,eX,some (Obj.cj ca.bP true l2)]);bif decide (Z0<n)then bif !short then cb Z1 (bif Prod.snd (cU b pos 3)!=0 then cb Z1 (bif Z2 then cb Z1 (bif Z2 then cb (Z4&&Qf (Z3+Z6.length) 40) (some (Z7,[some (Obj.var 181 (.bI Z8 (D.bI Z9 dq))),some (Obj.var 34 (.bI dE (D.bI dQ (D.bI (D.bI dv (D.bI dT (D.bI (D.vs 5 (Z3+Z6.length)) dg))) dL)))),eK,eo,eX,some (Obj.cj ca.bP true (l2++Z6))]))else cb (Z4&&Qf (Z3+eP.length) 40) (some (Z7,[fz,some (Obj.var 34 (.bI dE (D.bI dQ (D.bI (D.bI dv (D.bI dT (D.bI (D.vs 5 (Z3+eP.length)) dg))) dL)))),eK,eo,eX,some (Obj.cj ca.bP true (l2++eP))])))else cb Z1 (bif Prod.snd (cU b fF 1)!=0 then cb (Z4&&Qf (Z3+gK.length) 40) (some (Z7,[fz,some (Obj.var 34 (.bI dE (D.bI dQ (D.bI (D.bI dv (D.bI dT (D.bI (D.vs 5 (Z3+gK.length)) dg))) dL)))),eK,eo,eX,some (Obj.cj ca.bP true (l2++gK))]))else cb (Z4&&Qf (Z3+iW.length) 40) (some (Z7,[some (Obj.var 181 (.bI Z8 (D.bI (cq (cX (fF+1))) dq))),some (Obj.var 34 (.bI dE (D.bI dQ (D.bI (D.bI dv (D.bI dT (D.bI (D.vs 5 (Z3+iW.length)) dg))) dL)))),eK,eo,eX,some (Obj.cj ca.bP true (l2++iW))]))))else cb Z1 (bif gC then cb Z1 (bif gC then cb (Z4&&Qf (Z3+jy.length) 40) (some (Z7,[some (Obj.var 181 (.bI Z8 (D.bI (cq jO) dq))),some (Obj.var 34 (.bI dE (D.bI dQ (D.bI (D.bI dv (D.bI dT (D.bI (D.vs 5 (Z3+jy.length)) dg))) dL)))),eK,eo,eX,some (Obj.cj ca.bP true (l2++jy))]))else cb (Z4&&Qf (Z3+jo.length) 40) (some (Z7,[iI,some (Obj.var 34 (.bI dE (D.bI dQ (D.bI (D.bI dv (D.bI dT (D.bI (D.vs 5 (Z3+jo.length)) dg))) dL)))),eK,eo,eX,some (Obj.cj ca.bP true (l2++jo))])))else cb Z1 (bif Prod.snd (cU b kb 1)!=0 then cb (Z4&&Qf (Z3+jE.length) 40) (some (Z7,[iI,some (Obj.var 34 (.bI dE (D.bI dQ (D.bI (D.bI dv (D.bI dT (D.bI (D.vs 5 (Z3+jE.length)) dg))) dL)))),eK,eo,eX,some (Obj.cj ca.bP true (l2++jE))]))else cb (Z4&&Qf (Z3+jr.length) 40) (some (Z7,[some (Obj.var 181 (.bI Z8 (D.bI (cq (cX (kb+1))) ki))),some (Obj.var 34 (.bI dE (D.bI dQ (D.bI (D.bI dv (D.bI dT (D.bI (D.vs 5 (Z3+jr.length)) dg))) dL)))),eK,eo,eX,some (Obj.cj ca.bP true (l2++jr))])))))else ke else ke):=by kernel_rfl
def QG(c:Bool)(b:bK)(pos:Int)(short:Bool)(pl:Int)(cQ:bM)(l0 l1 l2:bJ)(c0 c1 c2 q first n:Int)(i:Nat):RT RC:=.leaf (.exit 4) [] [.var 181 (cL .u8 c b (cG (Qx (gI b) true (n.toNat-i) (first+i) ⟨pos.toNat,short⟩).1.pos (.bI (.bool (Qx (gI b) true (n.toNat-i) (first+i) ⟨pos.toNat,short⟩).1.short) .bN))),.var 34 (cG pl (.bI (.vs 2 cQ.length) (.bI (.bI (.vs 3 (cO q 0 l0 (Qx (gI b) true (n.toNat-i) (first+i) ⟨pos.toNat,short⟩).2).length) (.bI (.vs 4 (cO q 1 l1 (Qx (gI b) true (n.toNat-i) (first+i) ⟨pos.toNat,short⟩).2).length) (.bI (.vs 5 (cO q 2 l2 (Qx (gI b) true (n.toNat-i) (first+i) ⟨pos.toNat,short⟩).2).length) .bN))) (.bI (.arr (C:=RC) .int 3 [c0,c1,c2]) .bN)))),.cj (C:=RC) .cE true cQ,.cj (C:=RC) .bP true (cO q 0 l0 (Qx (gI b) true (n.toNat-i) (first+i) ⟨pos.toNat,short⟩).2),.cj (C:=RC) .bP true (cO q 1 l1 (Qx (gI b) true (n.toNat-i) (first+i) ⟨pos.toNat,short⟩).2),.cj (C:=RC) .bP true (cO q 2 l2 (Qx (gI b) true (n.toNat-i) (first+i) ⟨pos.toNat,short⟩).2)]
def V6(c:Bool)(b:bK)(pos:Int)(short:Bool)(pl:Int)(cQ:bM)(l0 l1 l2:bJ)(c0 c1 c2 q first n:Int)(i:Nat):Prop:=(i:Int)<=n/\n<=255/\b.length<=1000000/\(0<=pos/\pos<=b.length)/\l0.length<=1000+i/\l1.length<=1000+i/\l2.length<=1000+i/\(0<=q/\q<=2)/\(0<=first/\first<=16777215)
def Qh:QK RC Ub where
 k:=6
 cS q:=Q5 q.c q.b q.pos q.short q.pl q.cQ q.l0 q.l1 q.l2 q.c0 q.c1 q.c2 q.q q.first q.n q.i
 cR q:=QQ q.c q.b q.pos q.short q.pl q.cQ q.l0 q.l1 q.l2 q.c0 q.c1 q.c2 q.q q.first q.n q.i
 fin q:=QG q.c q.b q.pos q.short q.pl q.cQ q.l0 q.l1 q.l2 q.c0 q.c1 q.c2 q.q q.first q.n q.i
 Inv q:=V6 q.c q.b q.pos q.short q.pl q.cQ q.l0 q.l1 q.l2 q.c0 q.c1 q.c2 q.q q.first q.n q.i
 μ q:=q.n.toNat-q.i
theorem Qg9 c b pos short pl cQ l0 l1 l2 c0 c1 c2 q first n i(hI:V6 c b pos short pl cQ l0 l1 l2 c0 c1 c2 q first n i):dw (Gl c b pos short pl cQ l0 l1 l2 c0 c1 c2 q first n i) (dF Qh ⟨c,b,pos,short,pl,cQ,l0,l1,l2,c0,c1,c2,q,first,n,i⟩):=by
 unfold V6 at hI;obtain⟨h1,h2,h3,h4,h5,h6,h7,h8,h9⟩:=hI;have eb:∀n:Nat,n.beq n=true:=fun n=>by simp
 have pp:((pos.toNat:Nat):Int)=pos:=by omega
 by_cases cY:(i:Int)<n
 ·have cN:=fa i (by omega)
  have BO:IntKind.i64.wrap (first+(i:Int))=first+(i:Int):=cu (by omega) (by omega)
  have hn:n.toNat-i=(n.toNat-(i+1))+1:=by omega
  have kB:first+((i+1:Nat):Int)=first+(i:Int)+1:=by omega
  have m0:(0:Int)%16=0/\(0:Int)/16=0:=⟨rfl,rfl⟩;have s0:Qf (l0.length+1) 40=true:=Zb (by omega);have s1:Qf (l1.length+1) 40=true:=Zb (by omega);have s2:Qf (l2.length+1) 40=true:=Zb (by omega);have gM:¬(0:Int)=1:=by omega
  have gN:¬(0:Int)=2:=by omega
  have gO:¬(1:Int)=0:=by omega
  have gP:¬(1:Int)=2:=by omega
  have gQ:¬(2:Int)=0:=by omega
  have gR:¬(2:Int)=1:=by omega
  have e0:decide (b.length<=1000000000000)=true:=ab (by omega);have wv:∀x:Int,0<=x->x<=20000000->IntKind.i64.wrap x=x:=fun x _ _=>cu (by omega) (by omega);have oR:(pos+1).toNat=pos.toNat+1:=by omega
  have pT:(pos+3).toNat=pos.toNat+3:=by omega
  have nY:(pos+4).toNat=pos.toNat+4:=by omega
  have xf:(pos+2).toNat=pos.toNat+2:=by omega
  have xg:(pos+5).toNat=pos.toNat+5:=by omega
  have so:pos+1+3=pos+4:=by omega
  have sq:pos+3+1=pos+4:=by omega
  have sr:pos+4+1=pos+5:=by omega
  have sn:pos+1+1=pos+2:=by omega
  cases short
  ·obtain m7|m7|m7:q=0\/q=1\/q=2:=by omega
   ·subst m7
    (rw[LI];delta cb cq cX;conv=>zeta)
    simp only[cY,aM,ag,ah,bg,bh,e0,cN,BO,aE,bH,aN,s0,s1,s2,eb,au];simp(disch:=omega) only[wv,so,sq,sr,sn,Vr,Vs]
    by_cases iA:(b.length:Int)<pos+3
    ·have dt:c9 b 3 ⟨pos.toNat,false⟩=_:=QC (by omega);simp only[iA,aM,ag]
     by_cases iN:(b.length:Int)<pos+1
     ·have eJ:c9 b 1 ⟨pos.toNat,true⟩=_:=QC (by omega);simp only[iN,aM,ag];have oe:(b.length:Int)<pos+1:=by omega
      have jb:c9 b 1 ⟨pos.toNat,true⟩=_:=QC (by omega);refine Qg ⟨c,b,pos,true,pl,cQ,l0++[⟨first+i,0,0,0,0⟩],l1,l2,c0,c1,c2,0,first,n,i+1⟩ (by refine⟨cY,h2,h3,?_,?_,?_,?_,?_,h9⟩<;>simp<;>omega) (by simp only[Qh];omega) ?_ (by simp[Qh,Q5]) (by simp[Qh,QQ]);simp only[Qh,QG,hn,QI,dt,eJ,jb,cO,kB,m0,aU,aL,gM,gN,gO,gP,gQ,gR,ay,aP,aH]
     ·have eJ:c9 b 1 ⟨pos.toNat,true⟩=_:=QR (by omega);have jG:=QX (show 0<=pos by omega) (show ¬(b.length:Int)<pos+1 by omega);simp only[iN,aW,ah,jG]
      by_cases iB:(b.length:Int)<pos+2
      ·have ew:c9 b 1 ⟨pos.toNat+1,true⟩=_:=QC (by omega);simp only[iB,aM,ag];have pU:(0:Int)<=(cf ((b.drop (pos.toNat)).take 1):Int):=Int.natCast_nonneg _;have tQ:=ZR (b.drop (pos.toNat));have f16:=Kx (cf ((b.drop (pos.toNat)).take 1)) (by omega);simp only[f16.1,f16.2];refine Qg ⟨c,b,pos+1,true,pl,cQ,l0++[⟨first+i,0,(cf ((b.drop (pos.toNat)).take 1):Int)%16,(cf ((b.drop (pos.toNat)).take 1):Int)/16,0⟩],l1,l2,c0,c1,c2,0,first,n,i+1⟩ (by refine⟨cY,h2,h3,?_,?_,?_,?_,?_,h9⟩<;>simp<;>omega) (by simp only[Qh];omega) ?_ (by simp[Qh,Q5]) (by simp[Qh,QQ]);simp only[Qh,QG,hn,QI,dt,eJ,ew,oR,cO,kB,m0,aU,aL,gM,gN,gO,gP,gQ,gR,ay,aP,aH]
      ·have ew:c9 b 1 ⟨pos.toNat+1,true⟩=_:=QR (by omega);rw[show pos.toNat+1+1=pos.toNat+2 by omega]at ew;have fR:=QX (show 0<=pos+1 by omega) (show ¬(b.length:Int)<pos+1+1 by omega);rw[oR]at fR;simp only[iB,aW,ah,fR];have pU:(0:Int)<=(cf ((b.drop (pos.toNat)).take 1):Int):=Int.natCast_nonneg _;have tQ:=ZR (b.drop (pos.toNat));have f16:=Kx (cf ((b.drop (pos.toNat)).take 1)) (by omega);simp only[f16.1,f16.2];refine Qg ⟨c,b,pos+2,true,pl,cQ,l0++[⟨first+i,0,(cf ((b.drop (pos.toNat)).take 1):Int)%16,(cf ((b.drop (pos.toNat)).take 1):Int)/16,(cf ((b.drop (pos.toNat+1)).take 1):Int)⟩],l1,l2,c0,c1,c2,0,first,n,i+1⟩ (by refine⟨cY,h2,h3,?_,?_,?_,?_,?_,h9⟩<;>simp<;>omega) (by simp only[Qh];omega) ?_ (by simp[Qh,Q5]) (by simp[Qh,QQ]);simp only[Qh,QG,hn,QI,dt,eJ,ew,xf,cO,kB,m0,aU,aL,gM,gN,gO,gP,gQ,gR,ay,aP,aH]
    ·have dt:c9 b 3 ⟨pos.toNat,false⟩=_:=QR (by omega);have iX:=ZC (show 0<=pos by omega) (show ¬(b.length:Int)<pos+3 by omega);simp only[iA,aW,ah,iX]
     by_cases jl:(b.length:Int)<pos+4
     ·have et:c9 b 1 ⟨pos.toNat+3,false⟩=_:=QC (by omega);simp only[jl,aM,ag];have mB:(b.length:Int)<pos+4:=by omega
      have jM:c9 b 1 ⟨pos.toNat+3,true⟩=_:=QC (by omega);refine Qg ⟨c,b,pos+3,true,pl,cQ,l0++[⟨first+i,(cf ((b.drop (pos.toNat)).take 3):Int),0,0,0⟩],l1,l2,c0,c1,c2,0,first,n,i+1⟩ (by refine⟨cY,h2,h3,?_,?_,?_,?_,?_,h9⟩<;>simp<;>omega) (by simp only[Qh];omega) ?_ (by simp[Qh,Q5]) (by simp[Qh,QQ]);simp only[Qh,QG,hn,QI,dt,et,jM,pT,cO,kB,m0,aU,aL,gM,gN,gO,gP,gQ,gR,ay,aP,aH]
     ·have et:c9 b 1 ⟨pos.toNat+3,false⟩=_:=QR (by omega);rw[show pos.toNat+3+1=pos.toNat+4 by omega]at et;have gL:=QX (show 0<=pos+3 by omega) (show ¬(b.length:Int)<pos+3+1 by omega);rw[pT]at gL;simp only[jl,aW,ah,gL]
      by_cases iC:(b.length:Int)<pos+5
      ·have ey:c9 b 1 ⟨pos.toNat+4,false⟩=_:=QC (by omega);simp only[iC,aM,ag];have pU:(0:Int)<=(cf ((b.drop (pos.toNat+3)).take 1):Int):=Int.natCast_nonneg _;have tQ:=ZR (b.drop (pos.toNat+3));have f16:=Kx (cf ((b.drop (pos.toNat+3)).take 1)) (by omega);simp only[f16.1,f16.2];refine Qg ⟨c,b,pos+4,true,pl,cQ,l0++[⟨first+i,(cf ((b.drop (pos.toNat)).take 3):Int),(cf ((b.drop (pos.toNat+3)).take 1):Int)%16,(cf ((b.drop (pos.toNat+3)).take 1):Int)/16,0⟩],l1,l2,c0,c1,c2,0,first,n,i+1⟩ (by refine⟨cY,h2,h3,?_,?_,?_,?_,?_,h9⟩<;>simp<;>omega) (by simp only[Qh];omega) ?_ (by simp[Qh,Q5]) (by simp[Qh,QQ]);simp only[Qh,QG,hn,QI,dt,et,ey,nY,cO,kB,m0,aU,aL,gM,gN,gO,gP,gQ,gR,ay,aP,aH]
      ·have ey:c9 b 1 ⟨pos.toNat+4,false⟩=_:=QR (by omega);rw[show pos.toNat+4+1=pos.toNat+5 by omega]at ey;have fS:=QX (show 0<=pos+4 by omega) (show ¬(b.length:Int)<pos+4+1 by omega);rw[nY]at fS;simp only[iC,aW,ah,fS];have pU:(0:Int)<=(cf ((b.drop (pos.toNat+3)).take 1):Int):=Int.natCast_nonneg _;have tQ:=ZR (b.drop (pos.toNat+3));have f16:=Kx (cf ((b.drop (pos.toNat+3)).take 1)) (by omega);simp only[f16.1,f16.2];refine Qg ⟨c,b,pos+5,false,pl,cQ,l0++[⟨first+i,(cf ((b.drop (pos.toNat)).take 3):Int),(cf ((b.drop (pos.toNat+3)).take 1):Int)%16,(cf ((b.drop (pos.toNat+3)).take 1):Int)/16,(cf ((b.drop (pos.toNat+4)).take 1):Int)⟩],l1,l2,c0,c1,c2,0,first,n,i+1⟩ (by refine⟨cY,h2,h3,?_,?_,?_,?_,?_,h9⟩<;>simp<;>omega) (by simp only[Qh];omega) ?_ (by simp[Qh,Q5]) (by simp[Qh,QQ]);simp only[Qh,QG,hn,QI,dt,et,ey,xg,cO,kB,m0,aU,aL,gM,gN,gO,gP,gQ,gR,ay,aP,aH]
   ·subst m7
    (rw[LJ];delta cb cq cX;conv=>zeta)
    simp only[cY,aM,ag,ah,bg,bh,e0,cN,BO,aE,bH,aN,s0,s1,s2,eb,au];simp(disch:=omega) only[wv,so,sq,sr,sn,Vr,Vs]
    by_cases iA:(b.length:Int)<pos+3
    ·have dt:c9 b 3 ⟨pos.toNat,false⟩=_:=QC (by omega);simp only[iA,aM,ag]
     by_cases iN:(b.length:Int)<pos+1
     ·have eJ:c9 b 1 ⟨pos.toNat,true⟩=_:=QC (by omega);simp only[iN,aM,ag];have oe:(b.length:Int)<pos+1:=by omega
      have jb:c9 b 1 ⟨pos.toNat,true⟩=_:=QC (by omega);refine Qg ⟨c,b,pos,true,pl,cQ,l0,l1++[⟨first+i,0,0,0,0⟩],l2,c0,c1,c2,1,first,n,i+1⟩ (by refine⟨cY,h2,h3,?_,?_,?_,?_,?_,h9⟩<;>simp<;>omega) (by simp only[Qh];omega) ?_ (by simp[Qh,Q5]) (by simp[Qh,QQ]);simp only[Qh,QG,hn,QI,dt,eJ,jb,cO,kB,m0,aU,aL,gM,gN,gO,gP,gQ,gR,ay,aP,aH]
     ·have eJ:c9 b 1 ⟨pos.toNat,true⟩=_:=QR (by omega);have jG:=QX (show 0<=pos by omega) (show ¬(b.length:Int)<pos+1 by omega);simp only[iN,aW,ah,jG]
      by_cases iB:(b.length:Int)<pos+2
      ·have ew:c9 b 1 ⟨pos.toNat+1,true⟩=_:=QC (by omega);simp only[iB,aM,ag];have pU:(0:Int)<=(cf ((b.drop (pos.toNat)).take 1):Int):=Int.natCast_nonneg _;have tQ:=ZR (b.drop (pos.toNat));have f16:=Kx (cf ((b.drop (pos.toNat)).take 1)) (by omega);simp only[f16.1,f16.2];refine Qg ⟨c,b,pos+1,true,pl,cQ,l0,l1++[⟨first+i,0,(cf ((b.drop (pos.toNat)).take 1):Int)%16,(cf ((b.drop (pos.toNat)).take 1):Int)/16,0⟩],l2,c0,c1,c2,1,first,n,i+1⟩ (by refine⟨cY,h2,h3,?_,?_,?_,?_,?_,h9⟩<;>simp<;>omega) (by simp only[Qh];omega) ?_ (by simp[Qh,Q5]) (by simp[Qh,QQ]);simp only[Qh,QG,hn,QI,dt,eJ,ew,oR,cO,kB,m0,aU,aL,gM,gN,gO,gP,gQ,gR,ay,aP,aH]
      ·have ew:c9 b 1 ⟨pos.toNat+1,true⟩=_:=QR (by omega);rw[show pos.toNat+1+1=pos.toNat+2 by omega]at ew;have fR:=QX (show 0<=pos+1 by omega) (show ¬(b.length:Int)<pos+1+1 by omega);rw[oR]at fR;simp only[iB,aW,ah,fR];have pU:(0:Int)<=(cf ((b.drop (pos.toNat)).take 1):Int):=Int.natCast_nonneg _;have tQ:=ZR (b.drop (pos.toNat));have f16:=Kx (cf ((b.drop (pos.toNat)).take 1)) (by omega);simp only[f16.1,f16.2];refine Qg ⟨c,b,pos+2,true,pl,cQ,l0,l1++[⟨first+i,0,(cf ((b.drop (pos.toNat)).take 1):Int)%16,(cf ((b.drop (pos.toNat)).take 1):Int)/16,(cf ((b.drop (pos.toNat+1)).take 1):Int)⟩],l2,c0,c1,c2,1,first,n,i+1⟩ (by refine⟨cY,h2,h3,?_,?_,?_,?_,?_,h9⟩<;>simp<;>omega) (by simp only[Qh];omega) ?_ (by simp[Qh,Q5]) (by simp[Qh,QQ]);simp only[Qh,QG,hn,QI,dt,eJ,ew,xf,cO,kB,m0,aU,aL,gM,gN,gO,gP,gQ,gR,ay,aP,aH]
    ·have dt:c9 b 3 ⟨pos.toNat,false⟩=_:=QR (by omega);have iX:=ZC (show 0<=pos by omega) (show ¬(b.length:Int)<pos+3 by omega);simp only[iA,aW,ah,iX]
     by_cases jl:(b.length:Int)<pos+4
     ·have et:c9 b 1 ⟨pos.toNat+3,false⟩=_:=QC (by omega);simp only[jl,aM,ag];have mB:(b.length:Int)<pos+4:=by omega
      have jM:c9 b 1 ⟨pos.toNat+3,true⟩=_:=QC (by omega);refine Qg ⟨c,b,pos+3,true,pl,cQ,l0,l1++[⟨first+i,(cf ((b.drop (pos.toNat)).take 3):Int),0,0,0⟩],l2,c0,c1,c2,1,first,n,i+1⟩ (by refine⟨cY,h2,h3,?_,?_,?_,?_,?_,h9⟩<;>simp<;>omega) (by simp only[Qh];omega) ?_ (by simp[Qh,Q5]) (by simp[Qh,QQ]);simp only[Qh,QG,hn,QI,dt,et,jM,pT,cO,kB,m0,aU,aL,gM,gN,gO,gP,gQ,gR,ay,aP,aH]
     ·have et:c9 b 1 ⟨pos.toNat+3,false⟩=_:=QR (by omega);rw[show pos.toNat+3+1=pos.toNat+4 by omega]at et;have gL:=QX (show 0<=pos+3 by omega) (show ¬(b.length:Int)<pos+3+1 by omega);rw[pT]at gL;simp only[jl,aW,ah,gL]
      by_cases iC:(b.length:Int)<pos+5
      ·have ey:c9 b 1 ⟨pos.toNat+4,false⟩=_:=QC (by omega);simp only[iC,aM,ag];have pU:(0:Int)<=(cf ((b.drop (pos.toNat+3)).take 1):Int):=Int.natCast_nonneg _;have tQ:=ZR (b.drop (pos.toNat+3));have f16:=Kx (cf ((b.drop (pos.toNat+3)).take 1)) (by omega);simp only[f16.1,f16.2];refine Qg ⟨c,b,pos+4,true,pl,cQ,l0,l1++[⟨first+i,(cf ((b.drop (pos.toNat)).take 3):Int),(cf ((b.drop (pos.toNat+3)).take 1):Int)%16,(cf ((b.drop (pos.toNat+3)).take 1):Int)/16,0⟩],l2,c0,c1,c2,1,first,n,i+1⟩ (by refine⟨cY,h2,h3,?_,?_,?_,?_,?_,h9⟩<;>simp<;>omega) (by simp only[Qh];omega) ?_ (by simp[Qh,Q5]) (by simp[Qh,QQ]);simp only[Qh,QG,hn,QI,dt,et,ey,nY,cO,kB,m0,aU,aL,gM,gN,gO,gP,gQ,gR,ay,aP,aH]
      ·have ey:c9 b 1 ⟨pos.toNat+4,false⟩=_:=QR (by omega);rw[show pos.toNat+4+1=pos.toNat+5 by omega]at ey;have fS:=QX (show 0<=pos+4 by omega) (show ¬(b.length:Int)<pos+4+1 by omega);rw[nY]at fS;simp only[iC,aW,ah,fS];have pU:(0:Int)<=(cf ((b.drop (pos.toNat+3)).take 1):Int):=Int.natCast_nonneg _;have tQ:=ZR (b.drop (pos.toNat+3));have f16:=Kx (cf ((b.drop (pos.toNat+3)).take 1)) (by omega);simp only[f16.1,f16.2];refine Qg ⟨c,b,pos+5,false,pl,cQ,l0,l1++[⟨first+i,(cf ((b.drop (pos.toNat)).take 3):Int),(cf ((b.drop (pos.toNat+3)).take 1):Int)%16,(cf ((b.drop (pos.toNat+3)).take 1):Int)/16,(cf ((b.drop (pos.toNat+4)).take 1):Int)⟩],l2,c0,c1,c2,1,first,n,i+1⟩ (by refine⟨cY,h2,h3,?_,?_,?_,?_,?_,h9⟩<;>simp<;>omega) (by simp only[Qh];omega) ?_ (by simp[Qh,Q5]) (by simp[Qh,QQ]);simp only[Qh,QG,hn,QI,dt,et,ey,xg,cO,kB,m0,aU,aL,gM,gN,gO,gP,gQ,gR,ay,aP,aH]
   ·subst m7
    (rw[LK];delta cb cq cX;conv=>zeta)
    simp only[cY,aM,ag,ah,bg,bh,e0,cN,BO,aE,bH,aN,s0,s1,s2,eb,au];simp(disch:=omega) only[wv,so,sq,sr,sn,Vr,Vs]
    by_cases iA:(b.length:Int)<pos+3
    ·have dt:c9 b 3 ⟨pos.toNat,false⟩=_:=QC (by omega);simp only[iA,aM,ag]
     by_cases iN:(b.length:Int)<pos+1
     ·have eJ:c9 b 1 ⟨pos.toNat,true⟩=_:=QC (by omega);simp only[iN,aM,ag];have oe:(b.length:Int)<pos+1:=by omega
      have jb:c9 b 1 ⟨pos.toNat,true⟩=_:=QC (by omega);refine Qg ⟨c,b,pos,true,pl,cQ,l0,l1,l2++[⟨first+i,0,0,0,0⟩],c0,c1,c2,2,first,n,i+1⟩ (by refine⟨cY,h2,h3,?_,?_,?_,?_,?_,h9⟩<;>simp<;>omega) (by simp only[Qh];omega) ?_ (by simp[Qh,Q5]) (by simp[Qh,QQ]);simp only[Qh,QG,hn,QI,dt,eJ,jb,cO,kB,m0,aU,aL,gM,gN,gO,gP,gQ,gR,ay,aP,aH]
     ·have eJ:c9 b 1 ⟨pos.toNat,true⟩=_:=QR (by omega);have jG:=QX (show 0<=pos by omega) (show ¬(b.length:Int)<pos+1 by omega);simp only[iN,aW,ah,jG]
      by_cases iB:(b.length:Int)<pos+2
      ·have ew:c9 b 1 ⟨pos.toNat+1,true⟩=_:=QC (by omega);simp only[iB,aM,ag];have pU:(0:Int)<=(cf ((b.drop (pos.toNat)).take 1):Int):=Int.natCast_nonneg _;have tQ:=ZR (b.drop (pos.toNat));have f16:=Kx (cf ((b.drop (pos.toNat)).take 1)) (by omega);simp only[f16.1,f16.2];refine Qg ⟨c,b,pos+1,true,pl,cQ,l0,l1,l2++[⟨first+i,0,(cf ((b.drop (pos.toNat)).take 1):Int)%16,(cf ((b.drop (pos.toNat)).take 1):Int)/16,0⟩],c0,c1,c2,2,first,n,i+1⟩ (by refine⟨cY,h2,h3,?_,?_,?_,?_,?_,h9⟩<;>simp<;>omega) (by simp only[Qh];omega) ?_ (by simp[Qh,Q5]) (by simp[Qh,QQ]);simp only[Qh,QG,hn,QI,dt,eJ,ew,oR,cO,kB,m0,aU,aL,gM,gN,gO,gP,gQ,gR,ay,aP,aH]
      ·have ew:c9 b 1 ⟨pos.toNat+1,true⟩=_:=QR (by omega);rw[show pos.toNat+1+1=pos.toNat+2 by omega]at ew;have fR:=QX (show 0<=pos+1 by omega) (show ¬(b.length:Int)<pos+1+1 by omega);rw[oR]at fR;simp only[iB,aW,ah,fR];have pU:(0:Int)<=(cf ((b.drop (pos.toNat)).take 1):Int):=Int.natCast_nonneg _;have tQ:=ZR (b.drop (pos.toNat));have f16:=Kx (cf ((b.drop (pos.toNat)).take 1)) (by omega);simp only[f16.1,f16.2];refine Qg ⟨c,b,pos+2,true,pl,cQ,l0,l1,l2++[⟨first+i,0,(cf ((b.drop (pos.toNat)).take 1):Int)%16,(cf ((b.drop (pos.toNat)).take 1):Int)/16,(cf ((b.drop (pos.toNat+1)).take 1):Int)⟩],c0,c1,c2,2,first,n,i+1⟩ (by refine⟨cY,h2,h3,?_,?_,?_,?_,?_,h9⟩<;>simp<;>omega) (by simp only[Qh];omega) ?_ (by simp[Qh,Q5]) (by simp[Qh,QQ]);simp only[Qh,QG,hn,QI,dt,eJ,ew,xf,cO,kB,m0,aU,aL,gM,gN,gO,gP,gQ,gR,ay,aP,aH]
    ·have dt:c9 b 3 ⟨pos.toNat,false⟩=_:=QR (by omega);have iX:=ZC (show 0<=pos by omega) (show ¬(b.length:Int)<pos+3 by omega);simp only[iA,aW,ah,iX]
     by_cases jl:(b.length:Int)<pos+4
     ·have et:c9 b 1 ⟨pos.toNat+3,false⟩=_:=QC (by omega);simp only[jl,aM,ag];have mB:(b.length:Int)<pos+4:=by omega
      have jM:c9 b 1 ⟨pos.toNat+3,true⟩=_:=QC (by omega);refine Qg ⟨c,b,pos+3,true,pl,cQ,l0,l1,l2++[⟨first+i,(cf ((b.drop (pos.toNat)).take 3):Int),0,0,0⟩],c0,c1,c2,2,first,n,i+1⟩ (by refine⟨cY,h2,h3,?_,?_,?_,?_,?_,h9⟩<;>simp<;>omega) (by simp only[Qh];omega) ?_ (by simp[Qh,Q5]) (by simp[Qh,QQ]);simp only[Qh,QG,hn,QI,dt,et,jM,pT,cO,kB,m0,aU,aL,gM,gN,gO,gP,gQ,gR,ay,aP,aH]
     ·have et:c9 b 1 ⟨pos.toNat+3,false⟩=_:=QR (by omega);rw[show pos.toNat+3+1=pos.toNat+4 by omega]at et;have gL:=QX (show 0<=pos+3 by omega) (show ¬(b.length:Int)<pos+3+1 by omega);rw[pT]at gL;simp only[jl,aW,ah,gL]
      by_cases iC:(b.length:Int)<pos+5
      ·have ey:c9 b 1 ⟨pos.toNat+4,false⟩=_:=QC (by omega);simp only[iC,aM,ag];have pU:(0:Int)<=(cf ((b.drop (pos.toNat+3)).take 1):Int):=Int.natCast_nonneg _;have tQ:=ZR (b.drop (pos.toNat+3));have f16:=Kx (cf ((b.drop (pos.toNat+3)).take 1)) (by omega);simp only[f16.1,f16.2];refine Qg ⟨c,b,pos+4,true,pl,cQ,l0,l1,l2++[⟨first+i,(cf ((b.drop (pos.toNat)).take 3):Int),(cf ((b.drop (pos.toNat+3)).take 1):Int)%16,(cf ((b.drop (pos.toNat+3)).take 1):Int)/16,0⟩],c0,c1,c2,2,first,n,i+1⟩ (by refine⟨cY,h2,h3,?_,?_,?_,?_,?_,h9⟩<;>simp<;>omega) (by simp only[Qh];omega) ?_ (by simp[Qh,Q5]) (by simp[Qh,QQ]);simp only[Qh,QG,hn,QI,dt,et,ey,nY,cO,kB,m0,aU,aL,gM,gN,gO,gP,gQ,gR,ay,aP,aH]
      ·have ey:c9 b 1 ⟨pos.toNat+4,false⟩=_:=QR (by omega);rw[show pos.toNat+4+1=pos.toNat+5 by omega]at ey;have fS:=QX (show 0<=pos+4 by omega) (show ¬(b.length:Int)<pos+4+1 by omega);rw[nY]at fS;simp only[iC,aW,ah,fS];have pU:(0:Int)<=(cf ((b.drop (pos.toNat+3)).take 1):Int):=Int.natCast_nonneg _;have tQ:=ZR (b.drop (pos.toNat+3));have f16:=Kx (cf ((b.drop (pos.toNat+3)).take 1)) (by omega);simp only[f16.1,f16.2];refine Qg ⟨c,b,pos+5,false,pl,cQ,l0,l1,l2++[⟨first+i,(cf ((b.drop (pos.toNat)).take 3):Int),(cf ((b.drop (pos.toNat+3)).take 1):Int)%16,(cf ((b.drop (pos.toNat+3)).take 1):Int)/16,(cf ((b.drop (pos.toNat+4)).take 1):Int)⟩],c0,c1,c2,2,first,n,i+1⟩ (by refine⟨cY,h2,h3,?_,?_,?_,?_,?_,h9⟩<;>simp<;>omega) (by simp only[Qh];omega) ?_ (by simp[Qh,Q5]) (by simp[Qh,QQ]);simp only[Qh,QG,hn,QI,dt,et,ey,xg,cO,kB,m0,aU,aL,gM,gN,gO,gP,gQ,gR,ay,aP,aH]
  ·obtain m7|m7|m7:q=0\/q=1\/q=2:=by omega
   all_goals
    subst m7
    first|(rw[LI];delta cb cq cX;conv=>zeta)|(rw[LJ];delta cb cq cX;conv=>zeta)|(rw[LK];delta cb cq cX;conv=>zeta)
    simp only[cY,aM,ag,ah,bg];exact Qi (QQ c b pos true pl cQ l0 l1 l2 c0 c1 c2 0 first n i) (by simp[Qh,QG,QQ,TM,cO,RT.val,pp]) rfl
 ·have hi:n.toNat-i=0:=by omega
  obtain m7|m7|m7:q=0\/q=1\/q=2:=by omega
  all_goals
   subst m7
   first|(rw[LI];delta cb cq cX;conv=>zeta)|(rw[LJ];delta cb cq cX;conv=>zeta)|(rw[LK];delta cb cq cX;conv=>zeta)
   simp only[cY,aW,ah];exact Qi (QQ c b pos short pl cQ l0 l1 l2 c0 c1 c2 0 first n i) (by simp[Qh,QG,QQ,hi,Qx,cO,RT.val,pp]) rfl
def Ml(env:bX)(os:bR):Option (Bool×Ub):=match env,os with
 |[(4,.ptr 0 []),(5,.ptr 1 []),(11,.int .i64 q),(12,.int .i64 first),(6,.int .i64 n),(13,.int .i64 x0)],[.var 181 (.bI (.sl .u8 c b) (.bI (.int .i64 pos) (.bI (.bool short) .bN))),.var 34 (.bI (.int .i64 pl) (.bI (.vs 2 x1) (.bI (.bI (.vs 3 x2) (.bI (.vs 4 x3) (.bI (.vs 5 x4) .bN))) (.bI (.arr .int 3 [c0,c1,c2]) .bN)))),.cj .cE true cQ,.cj .bP true l0,.cj .bP true l1,.cj .bP true l2]=>some (decide (x0=0)&&decide (x1=cQ.length)&&decide (x2=l0.length)&&decide (x3=l1.length)&&decide (x4=l2.length)&&decide (0<=n/\n<=255/\b.length<=1000000/\(0<=pos/\pos<=b.length)/\(l0.length<=1000/\l1.length<=1000/\l2.length<=1000)/\(0<=q/\q<=2)/\(0<=first/\first<=16777215)),⟨c,b,pos,short,pl,cQ,l0,l1,l2,c0,c1,c2,q,first,n,0⟩)
 |_,_=>none
def Bh:=Bg.cP 96 19 (eZ cF [.slot 4 0,.slot 5 0,.path 1 [1],.path 1 [2,0],.path 1 [2,1],.path 1 [2,2]] [4,5,11,12,6,13] Qh Ml)
theorem QsG:Qj Tryz.prog cF Bh:=by
 refine QsF.cJ Qb (by kernel_rfl) Qh 60 [4,5,11,12,6,13] [] [.slot 4 0,.slot 5 0,.path 1 [1],.path 1 [2,0],.path 1 [2,1],.path 1 [2,2]] [4,5,11,12,6,13] Ml (fun q hI=>?_) ?_
 ·obtain⟨c,b,pos,short,pl,cQ,l0,l1,l2,c0,c1,c2,q,first,n,i⟩:=q;refine⟨?_,?_,Qg9 c b pos short pl cQ l0 l1 l2 c0 c1 c2 q first n i hI⟩
  ·simp_all[Qk,Qh,Q5,QQ,V6,D.refs,Obj.refs,de]
  ·simp_all[Qh,QG,QQ,V6,RT.da,Qk,D.refs,Obj.refs,de]
 ·intro env os b q cW hb;unfold Ml at cW
  split at cW
  ·cases cW;simp only[ai,aa]at hb;obtain⟨⟨⟨⟨⟨rfl,rfl⟩,rfl⟩,rfl⟩,rfl⟩,hq⟩:=hb;exact⟨⟨by simpa using hq.1,hq.2.1,hq.2.2.1,hq.2.2.2.1,by simpa using hq.2.2.2.2.1.1,by simpa using hq.2.2.2.2.1.2.1,by simpa using hq.2.2.2.2.1.2.2,hq.2.2.2.2.2.1,hq.2.2.2.2.2.2⟩,rfl,rfl⟩
  ·cases cW
def Yb(b:bK)(s:Rn):Bool×Rn×Int×bJ :=
 let c:=c9 b 3 s
 let n:=c9 b 1 c.2
 let f:=c9 b 3 n.2
 let q:=Qx (gI b) true n.1.toNat f.1 f.2
 (n.1==0&&f.1 !=0,q.1,c.1,q.2)
def ur(b:bK)(s:QS Rn):Bool×QS Rn:=((Yb b s.r).1,{ s with r:=(Yb b s.r).2.1,l0:=s.l0++(Yb b s.r).2.2.2,c0:=(Yb b s.r).2.2.1 })
def tS(b:bK)(s:QS Rn):Bool×QS Rn:=((Yb b s.r).1,{ s with r:=(Yb b s.r).2.1,l1:=s.l1++(Yb b s.r).2.2.2,c1:=(Yb b s.r).2.2.1 })
def xA(b:bK)(s:QS Rn):Bool×QS Rn:=((Yb b s.r).1,{ s with r:=(Yb b s.r).2.1,l2:=s.l2++(Yb b s.r).2.2.2,c2:=(Yb b s.r).2.2.1 })
def runN(b:bK):Nat->QS Rn->Bool×QS Rn
 |0,s=>bif(ur b s).1 then ur b s else bif(tS b (ur b s).2).1 then tS b (ur b s).2 else xA b (tS b (ur b s).2).2
 |1,s=>bif(tS b s).1 then tS b s else xA b (tS b s).2
 |2,s=>xA b s
 |_,s=>(false,s)
theorem Zy{b:bK}{s s1 s2 s3:Rn}{c n f:Int}(h1:c9 b 3 s=(c,s1))(h2:c9 b 1 s1=(n,s2))(h3:c9 b 3 s2=(f,s3)) :
 Yb b s=(n==0&&f !=0,(Qx (gI b) true n.toNat f s3).1,c,(Qx (gI b) true n.toNat f s3).2):=by
 simp only[Yb,h1,h2,h3]
theorem VL{b:bK}{w:Nat}{s:Rn}(h:s.pos<=b.length):(c9 b w s).2.pos<=b.length:=by
 unfold c9;split
 ·assumption
 ·exact h
theorem TW{b:bK}:∀(n:Nat) (o:Int) (s:Rn),s.pos<=b.length->(Qx (gI b) true n o s).1.pos<=b.length
 |0,_,_,h=>h
 |n+1,o,⟨p,true⟩,h=>by rw[TM];exact h
 |n+1,o,⟨p,false⟩,h=>by rw[QI];exact TW n _ _ (VL (VL (VL h)))
theorem V7{b:bK}:∀(n:Nat) (s:Rn),s.pos<=b.length->(QH (gI b) true n s).1.pos<=b.length
 |0,_,h=>h
 |n+1,⟨p,true⟩,h=>by rw[TL];exact h
 |n+1,⟨p,false⟩,h=>by rw[YB];exact V7 n _ (VL (VL (VL h)))
theorem QyI(b:bK)(s:Rn):0<=(c9 b 1 s).1/\(c9 b 1 s).1<=255:=by
 unfold c9;split
 ·have:=ZR (b.drop s.pos);simp only;omega
 ·simp
theorem JN{b:bK}{s:Rn}(h:s.pos<=b.length):(Yb b s).2.1.pos<=b.length:=TW _ _ _ (VL (VL (VL h)))
theorem YR b s:(Yb b s).2.2.2.length<=255:=by
 unfold Yb;refine bk (LX _ _ _ _ _) ?_;have:=QyI b (c9 b 3 s).2;omega
def Jx(s:Rn):Rn:=⟨s.pos,true⟩
theorem LY{b:bK}{s:Rn}(h:(Yb b s).1=false):YE (gI b) true Jx s=(Yb b s).2:=by
 have h':((c9 b 1 (c9 b 3 s).2).1==0&&(c9 b 3 (c9 b 1 (c9 b 3 s).2).2).1 !=0)=false:=h;simp only[YE,Yb];have e:∀w s,(gI b).get w s=c9 b w s:=fun _ _=>rfl;simp only[e,h',ah]
theorem LZ{b:bK}{s:Rn}(h:(Yb b s).1=true):(gI b).c7 (YE (gI b) true Jx s).1=true:=by
 have h':((c9 b 1 (c9 b 3 s).2).1==0&&(c9 b 3 (c9 b 1 (c9 b 3 s).2).2).1 !=0)=true:=h;have e:∀w s,(gI b).get w s=c9 b w s:=fun _ _=>rfl;simp only[YE,e,h',ag];exact ZF (Cd b) true _ _ _ rfl
theorem GR{b:bK}{s:QS Rn}:((runN b 0 s).1=false->fj (gI b) true Jx 0 s=(runN b 0 s).2)/\((runN b 0 s).1=true->(gI b).c7 (fj (gI b) true Jx 0 s).r=true):=by
 have st:=fun x=>UB (Cd b) true Jx (fun _=>rfl) x;simp only[runN,fj,Co,xG,wc,ur,tS,xA];cases h0:(Yb b s.r).1 with
 |true=>
  simp only[ag];exact⟨fun h=>(by cases h),fun _=>st _ (st _ (LZ h0))⟩
 |false=>
  simp only[ah,LY h0];cases h1:(Yb b (Yb b s.r).2.1).1 with
  |true=>
   simp only[ag];exact⟨fun h=>(by cases h),fun _=>st _ (LZ h1)⟩
  |false=>
   simp only[ah,LY h1];cases h2:(Yb b (Yb b (Yb b s.r).2.1).2.1).1 with
   |true=>exact⟨fun h=>(by cases h),fun _=>LZ h2⟩
   |false=>exact⟨fun _=>by simp only[LY h2],fun h=>(by cases h)⟩
end Go.Ev
