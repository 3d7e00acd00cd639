/-
  RecoverAgain returns true for any records, checkpoint, stop, width and number, and they read behind the call as before. No condition beyond the given statement. (text 10)
-/
import Derived.Test.YtkoeniljaccaiaaGreatP8
import Derived.WalkKit
import Derived.ProofKit
import Derived.OpenShut
import Derived.Test.YtkoeniljaccaiaaGreatRows
noncomputable section
namespace Go.Ev
open Go.Proofs Go.ChangeShapes Go.WideShapes Go.ChangeAt Go.RowKit
set_option linter.unusedVariables false
set_option linter.unusedSimpArgs false
set_option maxRecDepth 100000
def HQ(x:cE):Prop:=i64 (x.n)/\(x.b).length<=maxLen
def Iw(x:Item):Prop:=i64 (x.key)/\i64 (x.place)/\i64 (x.value)
def Ix(x:cg):Prop:=i64 (x.offset)/\i64 (x.place)/\i64 (x.j)/\i64 (x.key)/\i64 (x.value)
def DP(x:Qo):Prop:=i64 (x.key)/\i64 (x.value)
def IR(x:Rec):Prop:=i64 (x.place)/\True/\((x.writes).length<=maxLen/\∀y∈(x.writes),DP (y))
def w8:(t:b9)->RA t->Prop
 |.bool=>fun(x:Bool)=>True
 |.int=>fun(x:Int)=>i64 (x)
 |.item=>fun(x:Item)=>Iw (x)
 |.lW=>fun(x:List (UInt8))=>((x).length<=maxLen/\∀y∈(x),True)
 |.line=>fun(x:cg)=>Ix (x)
 |.dU=>fun(x:Rec)=>IR (x)
 |.bR=>fun(x:cE)=>HQ (x)
 |.u8=>fun(x:UInt8)=>True
 |.write=>fun(x:Qo)=>DP (x)
theorem Tw:cu.ty 76=.struct false [3,9]:=by kernel_rfl
theorem rq:cu.ty 3=.int .i64:=by kernel_rfl
theorem ty9:cu.ty 9=.str:=by kernel_rfl
theorem QCz{d:bV}(hf:fit cu d (.inl 76)=true)(hg:kR w8 d)(hr:d.refs=[]):∃x:cE,d=EG x/\HQ x:=by
 obtain⟨d0,r0,rfl,f0,hf⟩:=Fe Tw hf;obtain⟨d1,r1,rfl,f1,hf⟩:=Vq hf;obtain rfl:=ET hf;simp only[D.refs,List.append_eq_nil_iff]at hr;obtain⟨g0,g1,_⟩:=hg;obtain⟨q0,q1,_⟩:=hr;obtain⟨n0,rfl⟩:=ZT rq f0;obtain⟨n1,rfl⟩:=QG8 ty9 f1;exact⟨⟨n0,n1⟩,rfl,J8 g0,g1⟩
theorem Qz1 x(hx:HQ x):EH (EG x)=some x:=by
 simp only[HQ]at hx;simp[EH,EG,D.js,E5,hx]
theorem Tu:cu.ty 56=.struct false [3,3,3]:=by kernel_rfl
theorem QIF{d:bV}(hf:fit cu d (.inl 56)=true)(hg:kR w8 d)(hr:d.refs=[]):∃x:Item,d=Fh x/\Iw x:=by
 obtain⟨d0,r0,rfl,f0,hf⟩:=Fe Tu hf;obtain⟨d1,r1,rfl,f1,hf⟩:=Vq hf;obtain⟨d2,r2,rfl,f2,hf⟩:=Vq hf;obtain rfl:=ET hf;simp only[D.refs,List.append_eq_nil_iff]at hr;obtain⟨g0,g1,g2,_⟩:=hg;obtain⟨q0,q1,q2,_⟩:=hr;obtain⟨n0,rfl⟩:=ZT rq f0;obtain⟨n1,rfl⟩:=ZT rq f1;obtain⟨n2,rfl⟩:=ZT rq f2;exact⟨⟨n0,n1,n2⟩,rfl,J8 g0,J8 g1,J8 g2⟩
theorem QG9 x(hx:Iw x):Fi (Fh x)=some x:=by
 simp only[Iw]at hx;simp[Fi,Fh,D.js,E5,hx]
theorem QI3:cu.ty 112=.struct false [3,3,3,3,3]:=by kernel_rfl
theorem QIG{d:bV}(hf:fit cu d (.inl 112)=true)(hg:kR w8 d)(hr:d.refs=[]):∃x:cg,d=Fj x/\Ix x:=by
 obtain⟨d0,r0,rfl,f0,hf⟩:=Fe QI3 hf;obtain⟨d1,r1,rfl,f1,hf⟩:=Vq hf;obtain⟨d2,r2,rfl,f2,hf⟩:=Vq hf;obtain⟨d3,r3,rfl,f3,hf⟩:=Vq hf;obtain⟨d4,r4,rfl,f4,hf⟩:=Vq hf;obtain rfl:=ET hf;simp only[D.refs,List.append_eq_nil_iff]at hr;obtain⟨g0,g1,g2,g3,g4,_⟩:=hg;obtain⟨q0,q1,q2,q3,q4,_⟩:=hr;obtain⟨n0,rfl⟩:=ZT rq f0;obtain⟨n1,rfl⟩:=ZT rq f1;obtain⟨n2,rfl⟩:=ZT rq f2;obtain⟨n3,rfl⟩:=ZT rq f3;obtain⟨n4,rfl⟩:=ZT rq f4;exact⟨⟨n0,n1,n2,n3,n4⟩,rfl,J8 g0,J8 g1,J8 g2,J8 g3,J8 g4⟩
theorem QHa x(hx:Ix x):Fk (Fj x)=some x:=by
 simp only[Ix]at hx;simp[Fk,Fj,D.js,E5,hx]
theorem Tv:cu.ty 60=.struct false [3,3]:=by kernel_rfl
theorem QHb{d:bV}(hf:fit cu d (.inl 60)=true)(hg:kR w8 d)(hr:d.refs=[]):∃x:Qo,d=E6 x/\DP x:=by
 obtain⟨d0,r0,rfl,f0,hf⟩:=Fe Tv hf;obtain⟨d1,r1,rfl,f1,hf⟩:=Vq hf;obtain rfl:=ET hf;simp only[D.refs,List.append_eq_nil_iff]at hr;obtain⟨g0,g1,_⟩:=hg;obtain⟨q0,q1,_⟩:=hr;obtain⟨n0,rfl⟩:=ZT rq f0;obtain⟨n1,rfl⟩:=ZT rq f1;exact⟨⟨n0,n1⟩,rfl,J8 g0,J8 g1⟩
theorem QCA x(hx:DP x):E7 (E6 x)=some x:=by
 simp only[DP]at hx;simp[E7,E6,D.js,E5,hx]
theorem Tt:cu.ty 51=.struct false [3,4,49]:=by kernel_rfl
theorem ty4:cu.ty 4=.bool:=by kernel_rfl
theorem Ts:cu.ty 49=.sl 60 .write:=by kernel_rfl
theorem QI4{d:bV}(hf:fit cu d (.inl 51)=true)(hg:kR w8 d)(hr:d.refs=[]):∃(x:Rec) (c0:Bool),d=Mg x c0/\IR x:=by
 obtain⟨d0,r0,rfl,f0,hf⟩:=Fe Tt hf;obtain⟨d1,r1,rfl,f1,hf⟩:=Vq hf;obtain⟨d2,r2,rfl,f2,hf⟩:=Vq hf;obtain rfl:=ET hf;simp only[D.refs,List.append_eq_nil_iff]at hr;obtain⟨g0,g1,g2,_⟩:=hg;obtain⟨q0,q1,q2,_⟩:=hr;obtain⟨n0,rfl⟩:=ZT rq f0;obtain⟨n1,rfl⟩:=QpV ty4 f1;obtain⟨k2,n2,rfl⟩:=Rh Ts f2 q2;exact⟨⟨n0,n1,n2⟩,k2,rfl,J8 g0,trivial,g2⟩
theorem QIH x(c0:Bool)(hx:IR x):sH (Mg x c0)=some x:=by
 simp only[IR]at hx;simp[sH,Mg,D.js,E5,hx]
theorem QI5:cu.ty 129=.sl 5 .u8:=by kernel_rfl
theorem ty5:cu.ty 5=.int .u8:=by kernel_rfl
theorem Rw:DC cu w8 where
 dec t d hf hr hg _:=by
  cases t with
  |bool=>
   obtain⟨n,rfl⟩:=QpV ty4 hf;exact⟨n,rfl,trivial⟩
  |int=>
   obtain⟨n,rfl⟩:=ZT rq hf;exact⟨n,by simp[cu,Vt,tX,wu,Hp],J8 hg⟩
  |item=>
   obtain⟨x,rfl,hx⟩:=QIF hf hg hr;exact⟨x,QG9 x hx,hx⟩
  |lW=>
   obtain⟨c,n,rfl⟩:=Rh QI5 hf hr;exact⟨n,by simp[cu,Vt,tX,wu,D.js],hg⟩
  |line=>
   obtain⟨x,rfl,hx⟩:=QIG hf hg hr;exact⟨x,QHa x hx,hx⟩
  |dU=>
   obtain⟨x,c0,rfl,hx⟩:=QI4 hf hg hr;exact⟨x,QIH x c0 hx,hx⟩
  |bR=>
   obtain⟨x,rfl,hx⟩:=QCz hf hg hr;exact⟨x,Qz1 x hx,hx⟩
  |u8=>
   obtain⟨n,rfl⟩:=ZT ty5 hf;exact⟨_,rfl,trivial⟩
  |write=>
   obtain⟨x,rfl,hx⟩:=QHb hf hg hr;exact⟨x,QCA x hx,hx⟩
theorem own:ownKnob Tryz.prog.godebug=none:=by kernel_rfl
theorem QHc:laidOutB Tryz.prog=true:=by kernel_rfl
end Go.Ev

namespace Go.Proofs.YtkoeniljaccaiaaGreat
open Go.ChangeShapes Go.WideShapes Go.ChangeAt Go.RowKit Go.Ev
set_option linter.unusedVariables false
set_option maxRecDepth 100000
namespace recoverAgain
theorem ev(ds:bW)(h:Fits cu w8 Tryz.f6.params.toList ds):∃n,eO cu At n 6 ds=some (.bool true):=by
 rw[Tryz.params6]at h;cases h with
 |cons hf0 hg0 o8 h=>
 cases h with
 |cons LC hg1 fZ h=>
 cases h with
 |cons Gj hg2 ks h=>
 cases h with
 |cons hf3 hg3 hr3 h=>
 cases h with
 |cons hf4 hg4 hr4 h=>
 cases h with
 |nil=>
  obtain⟨cc,l,rfl⟩:=Rh (show cu.ty 47=.sl 51 .dU by kernel_rfl) hf0 o8;obtain⟨ck,rfl⟩:=ZT (show cu.ty 3=.int .i64 by kernel_rfl) LC;obtain⟨st,rfl⟩:=ZT (show cu.ty 3=.int .i64 by kernel_rfl) Gj;obtain⟨w,rfl⟩:=ZT (show cu.ty 3=.int .i64 by kernel_rfl) hf3;obtain⟨lo,rfl⟩:=ZT (show cu.ty 69=.int .u64 by kernel_rfl) hf4;have hw:(l.all fun r=>Qd r.writes.length)=true:=aX.2 fun r hr=>Qe (hg0.2 r hr).2.2.1;have key:=Qsh cc l ck st w lo (by rw[Qe hg0.1,hw];rfl);unfold Od at key;exact⟨300,key⟩
theorem QII(os:Os)(started:os.Started)(H:Type)(enc:TypeId×Value->H) :
 ReturnsInHanded {} Tryz.checked os 6 .any (Rows.recoverAgainSpec.pre6 enc Tryz.prog Tryz.f6 Rows.recoverAgainRow.domain false) (Rows.recoverAgainSpec.post enc Tryz.prog Tryz.f6 false true false false):=by
 refine returnsInHanded_of_change (C:=Tryz.checked) own started (by kernel_rfl) Tryz.func6
  (ChangeSpec.witness6 (enc:=enc) (C:=Tryz.checked) false ⟨#[],#[.slice none 0 0,.int .i64 0,.int .i64 0,.int .i64 0,.int .u64 0],[]⟩ 8 (by kernel_rfl) (by kernel_rfl) (by kernel_rfl) (by kernel_rfl)) ?_
 intro W base args ds gs before nX hW _ _;refine QmZ (gA:=w8) (m:=8) Qb QzZ Rw QHc (tb:=4) (by kernel_rfl) Tryz.underlying4 rfl (by kernel_rfl) ?_ ev H enc W base args ds gs before nX hW;intro H ds h;rw[Tryz.params6]at h
 match ds,h with
 |[d0,d1,d2,d3,d4],_=>rfl
theorem over:Rows.recoverAgainRow.holds Tryz.pinned (OpenSpec.ofChange Rows.recoverAgainSpec):=
 OpenClaim.holds_of_wide 6 Tryz.f6 rfl rfl rfl rfl rfl rfl rfl ⟨rfl,rfl,rfl,rfl,rfl⟩ rfl rfl rfl rfl rfl (by kernel_rfl) Tryz.func6 (by kernel_rfl)
  (af (by kernel_rfl)) (by unfold Func.isWrapper;first|(rw[ax (by decide +kernel)];kernel_rfl)|(rw[aw (by decide +kernel)];exact⟨rfl,rfl⟩))
  (fun os started H enc _=>QII os started H enc)
theorem proved:Rows.RecoverAgainSaid:=over
end recoverAgain
#print axioms recoverAgain.proved
end Go.Proofs.YtkoeniljaccaiaaGreat
