/-
  RecoverMakes returns true for any disk, set-up, state and numbers, and they read behind the call as before. No condition beyond the given statement. (text 7)
-/
import Derived.Test.YtkoeniljaccaiaaGreatP5
import Derived.WalkKit
import Derived.ProofKit
import Derived.OpenShut
import Derived.Test.YtkoeniljaccaiaaGreatRows
namespace Go.Ev
open Go.Proofs Go.ChangeShapes Go.WideShapes Go.ChangeAt Go.RowKit
set_option linter.unusedVariables false
set_option linter.unusedSimpArgs false
set_option maxRecDepth 100000
def Yr (x:Qa):Prop:=i64 (x.n) /\ (x.b).length <= maxLen
def Ky (x:Item):Prop:=i64 (x.key) /\ i64 (x.place) /\ i64 (x.value)
def Vq (x:Line):Prop:=i64 (x.offset) /\ i64 (x.place) /\ i64 (x.j) /\ i64 (x.key) /\ i64 (x.value)
def V5 (x:JR):Prop:=i64 (x.key) /\ i64 (x.value)
def QcR (x:Rec):Prop:=i64 (x.place) /\ True /\ ((x.writes).length <= maxLen /\ ∀ y ∈ (x.writes),V5 (y))
def Qo6 (x:Disk):Prop:=((x.now).length <= maxLen /\ ∀ y ∈ (x.now),Yr (y)) /\ ((x.sure).length <= maxLen /\ ∀ y ∈ (x.sure),Yr (y))
def QnK (x:Qe5):Prop:=i64 (x.clients) /\ i64 (x.width) /\ i64 (x.descs) /\ i64 (x.nodes)
def Qba:(t:RTy)->RA t->Prop
 | .bool=>fun (x:Bool)=>True
 | .int=>fun (x:Int)=>i64 (x)
 | .item=>fun (x:Item)=>Ky (x)
 | .l_u8=>fun (x:List (UInt8))=>((x).length <= maxLen /\ ∀ y ∈ (x),True)
 | .line=>fun (x:Line)=>Vq (x)
 | .recd=>fun (x:Rec)=>QcR (x)
 | .sector=>fun (x:Qa)=>Yr (x)
 | .u8=>fun (x:UInt8)=>True
 | .write=>fun (x:JR)=>V5 (x)
theorem ty76:s28.ty 76=.struct false [3,9]:=by kernel_rfl
theorem ty3:s28.ty 3=.int .i64:=by kernel_rfl
theorem ty9:s28.ty 9=.str:=by kernel_rfl
theorem Qo7 {d:D RC} (hf:fit s28 d (.inl 76)=true) (hg:good Qba d) (hr:d.refs=[]):∃ x:Qa,d=QaI x /\ Yr x:=by
 obtain ⟨d0,r0,rfl,f0,hf⟩:=Kx ty76 hf;obtain ⟨d1,r1,rfl,f1,hf⟩:=QP hf;obtain rfl:=Vp hf;simp only [D.refs,List.append_eq_nil_iff] at hr;obtain ⟨g0,g1,_⟩:=hg;obtain ⟨q0,q1,_⟩:=hr;obtain ⟨n0,rfl⟩:=Q6 ty3 f0;obtain ⟨n1,rfl⟩:=Qrz ty9 f1;exact ⟨⟨n0,n1⟩,rfl,ZH g0,g1⟩
theorem QnL (x:Qa) (hx:Yr x):QaJ (QaI x)=some x:=by
 simp only [Yr] at hx;simp [QaJ,QaI,D.asList,Qdd,hx]
theorem ty56:s28.ty 56=.struct false [3,3,3]:=by kernel_rfl
theorem Qsh {d:D RC} (hf:fit s28 d (.inl 56)=true) (hg:good Qba d) (hr:d.refs=[]):∃ x:Item,d=QjG x /\ Ky x:=by
 obtain ⟨d0,r0,rfl,f0,hf⟩:=Kx ty56 hf;obtain ⟨d1,r1,rfl,f1,hf⟩:=QP hf;obtain ⟨d2,r2,rfl,f2,hf⟩:=QP hf;obtain rfl:=Vp hf;simp only [D.refs,List.append_eq_nil_iff] at hr;obtain ⟨g0,g1,g2,_⟩:=hg;obtain ⟨q0,q1,q2,_⟩:=hr;obtain ⟨n0,rfl⟩:=Q6 ty3 f0;obtain ⟨n1,rfl⟩:=Q6 ty3 f1;obtain ⟨n2,rfl⟩:=Q6 ty3 f2;exact ⟨⟨n0,n1,n2⟩,rfl,ZH g0,ZH g1,ZH g2⟩
theorem QrB (x:Item) (hx:Ky x):QjH (QjG x)=some x:=by
 simp only [Ky] at hx;simp [QjH,QjG,D.asList,Qdd,hx]
theorem QsL:s28.ty 112=.struct false [3,3,3,3,3]:=by kernel_rfl
theorem Qsi {d:D RC} (hf:fit s28 d (.inl 112)=true) (hg:good Qba d) (hr:d.refs=[]):∃ x:Line,d=QjI x /\ Vq x:=by
 obtain ⟨d0,r0,rfl,f0,hf⟩:=Kx QsL hf;obtain ⟨d1,r1,rfl,f1,hf⟩:=QP hf;obtain ⟨d2,r2,rfl,f2,hf⟩:=QP hf;obtain ⟨d3,r3,rfl,f3,hf⟩:=QP hf;obtain ⟨d4,r4,rfl,f4,hf⟩:=QP hf;obtain rfl:=Vp hf;simp only [D.refs,List.append_eq_nil_iff] at hr;obtain ⟨g0,g1,g2,g3,g4,_⟩:=hg;obtain ⟨q0,q1,q2,q3,q4,_⟩:=hr;obtain ⟨n0,rfl⟩:=Q6 ty3 f0;obtain ⟨n1,rfl⟩:=Q6 ty3 f1;obtain ⟨n2,rfl⟩:=Q6 ty3 f2;obtain ⟨n3,rfl⟩:=Q6 ty3 f3;obtain ⟨n4,rfl⟩:=Q6 ty3 f4;exact ⟨⟨n0,n1,n2,n3,n4⟩,rfl,ZH g0,ZH g1,ZH g2,ZH g3,ZH g4⟩
theorem QrC (x:Line) (hx:Vq x):QjJ (QjI x)=some x:=by
 simp only [Vq] at hx;simp [QjJ,QjI,D.asList,Qdd,hx]
theorem ty60:s28.ty 60=.struct false [3,3]:=by kernel_rfl
theorem QrD {d:D RC} (hf:fit s28 d (.inl 60)=true) (hg:good Qba d) (hr:d.refs=[]):∃ x:JR,d=Qde x /\ V5 x:=by
 obtain ⟨d0,r0,rfl,f0,hf⟩:=Kx ty60 hf;obtain ⟨d1,r1,rfl,f1,hf⟩:=QP hf;obtain rfl:=Vp hf;simp only [D.refs,List.append_eq_nil_iff] at hr;obtain ⟨g0,g1,_⟩:=hg;obtain ⟨q0,q1,_⟩:=hr;obtain ⟨n0,rfl⟩:=Q6 ty3 f0;obtain ⟨n1,rfl⟩:=Q6 ty3 f1;exact ⟨⟨n0,n1⟩,rfl,ZH g0,ZH g1⟩
theorem Qo8 (x:JR) (hx:V5 x):Qdf (Qde x)=some x:=by
 simp only [V5] at hx;simp [Qdf,Qde,D.asList,Qdd,hx]
theorem ty51:s28.ty 51=.struct false [3,4,49]:=by kernel_rfl
theorem ty4:s28.ty 4=.bool:=by kernel_rfl
theorem ty49:s28.ty 49=.sl 60 .write:=by kernel_rfl
theorem QsM {d:D RC} (hf:fit s28 d (.inl 51)=true) (hg:good Qba d) (hr:d.refs=[]):∃ (x:Rec) (c0:Bool),d=QqD x c0 /\ QcR x:=by
 obtain ⟨d0,r0,rfl,f0,hf⟩:=Kx ty51 hf;obtain ⟨d1,r1,rfl,f1,hf⟩:=QP hf;obtain ⟨d2,r2,rfl,f2,hf⟩:=QP hf;obtain rfl:=Vp hf;simp only [D.refs,List.append_eq_nil_iff] at hr;obtain ⟨g0,g1,g2,_⟩:=hg;obtain ⟨q0,q1,q2,_⟩:=hr;obtain ⟨n0,rfl⟩:=Q6 ty3 f0;obtain ⟨n1,rfl⟩:=QhC ty4 f1;obtain ⟨k2,n2,rfl⟩:=Kw ty49 f2 q2;exact ⟨⟨n0,n1,n2⟩,k2,rfl,ZH g0,trivial,g2⟩
theorem Qsj (x:Rec) (c0:Bool) (hx:QcR x):dRec (QqD x c0)=some x:=by
 simp only [QcR] at hx;simp [dRec,QqD,D.asList,Qdd,hx]
theorem ty24:s28.ty 24=.struct false [22,22]:=by kernel_rfl
theorem ty22:s28.ty 22=.sl 76 .sector:=by kernel_rfl
theorem Qsk {d:D RC} (hf:fit s28 d (.inl 24)=true) (hg:good Qba d) (hr:d.refs=[]):∃ (x:Disk) (c0 c1:Bool),d=Qpo x c0 c1 /\ Qo6 x:=by
 obtain ⟨d0,r0,rfl,f0,hf⟩:=Kx ty24 hf;obtain ⟨d1,r1,rfl,f1,hf⟩:=QP hf;obtain rfl:=Vp hf;simp only [D.refs,List.append_eq_nil_iff] at hr;obtain ⟨g0,g1,_⟩:=hg;obtain ⟨q0,q1,_⟩:=hr;obtain ⟨k0,n0,rfl⟩:=Kw ty22 f0 q0;obtain ⟨k1,n1,rfl⟩:=Kw ty22 f1 q1;exact ⟨⟨n0,n1⟩,k0,k1,rfl,g0,g1⟩
theorem ty26:s28.ty 26=.struct false [3,3,3,3]:=by kernel_rfl
theorem QrE {d:D RC} (hf:fit s28 d (.inl 26)=true) (hg:good Qba d) (hr:d.refs=[]):∃ x:Qe5,d=Qpp x /\ QnK x:=by
 obtain ⟨d0,r0,rfl,f0,hf⟩:=Kx ty26 hf;obtain ⟨d1,r1,rfl,f1,hf⟩:=QP hf;obtain ⟨d2,r2,rfl,f2,hf⟩:=QP hf;obtain ⟨d3,r3,rfl,f3,hf⟩:=QP hf;obtain rfl:=Vp hf;simp only [D.refs,List.append_eq_nil_iff] at hr;obtain ⟨g0,g1,g2,g3,_⟩:=hg;obtain ⟨q0,q1,q2,q3,_⟩:=hr;obtain ⟨n0,rfl⟩:=Q6 ty3 f0;obtain ⟨n1,rfl⟩:=Q6 ty3 f1;obtain ⟨n2,rfl⟩:=Q6 ty3 f2;obtain ⟨n3,rfl⟩:=Q6 ty3 f3;exact ⟨⟨n0,n1,n2,n3⟩,rfl,ZH g0,ZH g1,ZH g2,ZH g3⟩
theorem ty34:s28.ty 34=.struct false [3,29,31,32]:=by kernel_rfl
theorem ty29:s28.ty 29=.sl 56 .item:=by kernel_rfl
theorem ty31:s28.ty 31=.struct true [30,30,30]:=by kernel_rfl
theorem ty32:s28.ty 32=.arr 3 3 .int:=by kernel_rfl
theorem ty30:s28.ty 30=.sl 112 .line:=by kernel_rfl
def stC (s:St) (ci k0 k1 k2:Bool):D RC:=.acons (.int .i64 s.place) (.acons (.sl (C:=RC) .item ci s.items) (.acons (.acons (.sl (C:=RC) .line k0 s.l0) (.acons (.sl (C:=RC) .line k1 s.l1) (.acons (.sl (C:=RC) .line k2 s.l2) .anil))) (.acons (.arr (C:=RC) .int 3 [s.c0,s.c1,s.c2]) .anil)))
def Qsl (s:St):Prop:=i64 s.place /\ (s.items.length <= maxLen /\ ∀ x ∈ s.items,Ky x) /\ (s.l0.length <= maxLen /\ ∀ x ∈ s.l0,Vq x) /\ (s.l1.length <= maxLen /\ ∀ x ∈ s.l1,Vq x) /\ (s.l2.length <= maxLen /\ ∀ x ∈ s.l2,Vq x) /\ i64 s.c0 /\ i64 s.c1 /\ i64 s.c2
theorem QrF {d:D RC} (hf:fit s28 d (.inl 34)=true) (hg:good Qba d) (hr:d.refs=[]):∃ (x:St) (ci k0 k1 k2:Bool),d=stC x ci k0 k1 k2 /\ Qsl x:=by
 obtain ⟨d0,r0,rfl,f0,hf⟩:=Kx ty34 hf;obtain ⟨d1,r1,rfl,f1,hf⟩:=QP hf;obtain ⟨d2,r2,rfl,f2,hf⟩:=QP hf;obtain ⟨d3,r3,rfl,f3,hf⟩:=QP hf;obtain rfl:=Vp hf;obtain ⟨e0,r0,rfl,h0,hf⟩:=Kx ty31 f2;obtain ⟨e1,r1,rfl,h1,hf⟩:=QP hf;obtain ⟨e2,r2,rfl,h2,hf⟩:=QP hf;obtain rfl:=Vp hf;simp only [D.refs,List.append_eq_nil_iff] at hr;obtain ⟨g0,g1,⟨a0,a1,a2,_⟩,g3,_⟩:=hg;obtain ⟨q0,q1,⟨b0,b1,b2,_⟩,q3,_⟩:=hr;obtain ⟨n,rfl⟩:=Q6 ty3 f0;obtain ⟨ci,l,rfl⟩:=Kw ty29 f1 q1;obtain ⟨k0,l0,rfl⟩:=Kw ty30 h0 b0;obtain ⟨k1,l1,rfl⟩:=Kw ty30 h1 b1;obtain ⟨k2,l2,rfl⟩:=Kw ty30 h2 b2;obtain ⟨cs,rfl⟩:=QrA ty32 f3;obtain ⟨g5,g6⟩:=g3;obtain ⟨c0,c1,c2,rfl⟩:=QsK g5;simp only [List.mem_cons,forall_eq_or_imp,List.not_mem_nil,false_implies,implies_true,and_true] at g6;exact ⟨⟨n,l,l0,l1,l2,c0,c1,c2⟩,ci,k0,k1,k2,rfl,ZH g0,g1,a0,a1,a2,g6.1,g6.2.1,g6.2.2⟩
theorem QsN:s28.ty 129=.sl 5 .u8:=by kernel_rfl
theorem ty5:s28.ty 5=.int .u8:=by kernel_rfl
theorem decs:Dec s28 Qba where
 dec t d hf hr hg _:=by
  cases t with
  | bool =>
   obtain ⟨n,rfl⟩:=QhC ty4 hf;exact ⟨n,rfl,trivial⟩
  | int =>
   obtain ⟨n,rfl⟩:=Q6 ty3 hf;exact ⟨n,by simp [s28,ZW,rCod,rDec,Qod],ZH hg⟩
  | item =>
   obtain ⟨x,rfl,hx⟩:=Qsh hf hg hr;exact ⟨x,QrB x hx,hx⟩
  | l_u8 =>
   obtain ⟨c,n,rfl⟩:=Kw QsN hf hr;exact ⟨n,by simp [s28,ZW,rCod,rDec,D.asList],hg⟩
  | line =>
   obtain ⟨x,rfl,hx⟩:=Qsi hf hg hr;exact ⟨x,QrC x hx,hx⟩
  | recd =>
   obtain ⟨x,c0,rfl,hx⟩:=QsM hf hg hr;exact ⟨x,Qsj x c0 hx,hx⟩
  | sector =>
   obtain ⟨x,rfl,hx⟩:=Qo7 hf hg hr;exact ⟨x,QnL x hx,hx⟩
  | u8 =>
   obtain ⟨n,rfl⟩:=Q6 ty5 hf;exact ⟨_,rfl,trivial⟩
  | write =>
   obtain ⟨x,rfl,hx⟩:=QrD hf hg hr;exact ⟨x,Qo8 x hx,hx⟩
theorem own:ownKnob Tryz.prog.godebug=none:=by kernel_rfl
theorem QrG:laidOutB Tryz.prog=true:=by kernel_rfl
end Go.Ev

namespace Go.Proofs.YtkoeniljaccaiaaGreat
open Go.ChangeShapes Go.WideShapes Go.ChangeAt Go.RowKit Go.Ev
set_option linter.unusedVariables false
set_option maxRecDepth 100000
namespace recoverMakes
theorem ev (ds:List (D RC)) (h:Fits s28 Qba Tryz.f5.params.toList ds):∃ n,evF s28 uq_4 n 5 ds=some (.bool true):=by
 rw [Tryz.params5] at h;cases h with
 | cons hf0 hg0 hr0 h =>
 cases h with
 | cons hf1 hg1 hr1 h =>
 cases h with
 | cons hf2 hg2 hr2 h =>
 cases h with
 | cons hf3 hg3 hr3 h =>
 cases h with
 | nil =>
  obtain ⟨x,x0,x1,rfl,ox⟩:=Qsk hf0 hg0 hr0;obtain ⟨s,rfl,os⟩:=QrE hf1 hg1 hr1;obtain ⟨y,ci,k0,k1,k2,rfl,oy⟩:=QrF hf2 hg2 hr2;obtain ⟨cc,cs,rfl⟩:=Kw (show s28.ty 39=.sl 3 .int by kernel_rfl) hf3 hr3
  have g1:QH x.now=true:=QU.2 ⟨ox.1.1,fun y hy=>Ql (ox.1.2 y hy).2⟩;have g2:QH x.sure=true:=QU.2 ⟨ox.2.1,fun y hy=>Ql (ox.2.2 y hy).2⟩;have h3:=oy.2.1.1;have h4:=oy.2.2.1.1;have h5:=oy.2.2.2.1.1;have h6:=oy.2.2.2.2.1.1;have r1:rngI cs=true:=List.all_eq_true.2 fun v hv=>decide_eq_true (by have:=(hg3.2 v hv).2;omega)
  have key:=Qi1 x0 x.now x1 x.sure s.clients s.width s.descs s.nodes y.place ci y.items k0 y.l0 k1 y.l1 k2 y.l2 y.c0 y.c1 y.c2 cc cs (andT (andT (by rw [g1,g2];rfl) (decide_eq_true ⟨h3,h4,h5,h6⟩)) (andT (Ql hg3.1) r1))
  unfold Qa9 at key;refine ⟨300,?_⟩;simp only [Qpo,Qpp,stC];exact key
theorem Qsm (os:Os) (started:os.Started) (H:Type) (enc:TypeId × Value->H) :
 ReturnsInHanded {} Tryz.checked os 5 .any (Rows.recoverMakesSpec.pre6 enc Tryz.prog Tryz.f5 Rows.recoverMakesRow.domain false) (Rows.recoverMakesSpec.post enc Tryz.prog Tryz.f5 false true false false):=by
 refine returnsInHanded_of_change (C:=Tryz.checked) own started (by kernel_rfl) Tryz.func5
  (ChangeSpec.witness6 (enc:=enc) (C:=Tryz.checked) false ⟨#[],#[.agg #[.slice none 0 0,.slice none 0 0],.agg #[.int .i64 0,.int .i64 0,.int .i64 0,.int .i64 0],.agg #[.int .i64 0,.slice none 0 0,.slice none 0 0,.slice none 0 0,.slice none 0 0,.int .i64 0,.int .i64 0,.int .i64 0],.slice none 0 0],[]⟩ 8 (by kernel_rfl) (by kernel_rfl) (by kernel_rfl) (by kernel_rfl)) ?_
 intro W base args ds gs before hval hW _ _;refine QfK (gA:=Qba) (m:=8) Qc QnJ decs QrG (tb:=4) (by kernel_rfl) Tryz.underlying4 rfl (by kernel_rfl) ?_ ev H enc W base args ds gs before hval hW
 intro H ds h;rw [Tryz.params5] at h
 match ds,h with
 | [d0,d1,d2,d3],_=>rfl
theorem over:Rows.recoverMakesRow.holds Tryz.pinned (OpenSpec.ofChange Rows.recoverMakesSpec) :=
 OpenClaim.holds_of_wide 5 Tryz.f5 rfl rfl rfl rfl rfl rfl rfl ⟨rfl,rfl,rfl,rfl,rfl⟩ rfl rfl rfl rfl rfl (by kernel_rfl) Tryz.func5 (by kernel_rfl)
  (of_decide_eq_true (by kernel_rfl)) (by unfold Func.isWrapper;first | (rw [if_pos (by decide +kernel)];kernel_rfl) | (rw [if_neg (by decide +kernel)];exact ⟨rfl,rfl⟩))
  (fun os started H enc _=>Qsm os started H enc)
theorem proved:Rows.RecoverMakesSaid:=over
end recoverMakes
#print axioms recoverMakes.proved
end Go.Proofs.YtkoeniljaccaiaaGreat
