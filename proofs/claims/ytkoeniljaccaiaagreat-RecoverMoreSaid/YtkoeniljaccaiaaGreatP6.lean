/-
  RecoverMore returns true for any records and number, and they read behind the call as before. No condition beyond the given statement. (text 7)
-/
import Derived.Test.YtkoeniljaccaiaaGreatP5
import Derived.WalkKit
import Derived.ProofKit
import Derived.OpenShut
import Derived.Test.YtkoeniljaccaiaaGreatRows
namespace Go.Ev
open Go.Proofs Go.ChangeShapes Go.WideShapes Go.ChangeAt Go.RowKit
set_option linter.unusedVariables false
set_option linter.unusedSimpArgs false
set_option maxRecDepth 100000
def Jp (x:Sector):Prop:=i64 (x.n) /\ (x.b).length <= maxLen
def Qaz (x:Item):Prop:=i64 (x.key) /\ i64 (x.place) /\ i64 (x.value)
def QaA (x:Line):Prop:=i64 (x.offset) /\ i64 (x.place) /\ i64 (x.j) /\ i64 (x.key) /\ i64 (x.value)
def V4 (x:Qc):Prop:=i64 (x.key) /\ i64 (x.value)
def Qdv (x:Rec):Prop:=i64 (x.place) /\ True /\ ((x.writes).length <= maxLen /\ ∀ y ∈ (x.writes),V4 (y))
def Qfa:(t:RTy)->RA t->Prop
 | .bool=>fun (x:Bool)=>True
 | .int=>fun (x:Int)=>i64 (x)
 | .item=>fun (x:Item)=>Qaz (x)
 | .l_u8=>fun (x:List (UInt8))=>((x).length <= maxLen /\ ∀ y ∈ (x),True)
 | .line=>fun (x:Line)=>QaA (x)
 | .recd=>fun (x:Rec)=>Qdv (x)
 | .sector=>fun (x:Sector)=>Jp (x)
 | .u8=>fun (x:UInt8)=>True
 | .write=>fun (x:Qc)=>V4 (x)
theorem ty76:s28.ty 76=.struct false [3,9]:=by kernel_rfl
theorem ty3:s28.ty 3=.int .i64:=by kernel_rfl
theorem ty9:s28.ty 9=.str:=by kernel_rfl
theorem Qqu {d:D RC} (hf:fit s28 d (.inl 76)=true) (hg:good Qfa d) (hr:d.refs=[]):∃ x:Sector,d=QaT x /\ Jp x:=by
 obtain ⟨d0,r0,rfl,f0,hf⟩:=Qe9 ty76 hf;obtain ⟨d1,r1,rfl,f1,hf⟩:=ZO hf;obtain rfl:=Qbz hf;simp only [D.refs,List.append_eq_nil_iff] at hr;obtain ⟨g0,g1,_⟩:=hg;obtain ⟨q0,q1,_⟩:=hr;obtain ⟨n0,rfl⟩:=Zq ty3 f0;obtain ⟨n1,rfl⟩:=Qud ty9 f1;exact ⟨⟨n0,n1⟩,rfl,YW g0,g1⟩
theorem QoL (x:Sector) (hx:Jp x):QaU (QaT x)=some x:=by
 simp only [Jp] at hx;simp [QaU,QaT,D.asList,QdS,hx]
theorem ty56:s28.ty 56=.struct false [3,3,3]:=by kernel_rfl
theorem QvH {d:D RC} (hf:fit s28 d (.inl 56)=true) (hg:good Qfa d) (hr:d.refs=[]):∃ x:Item,d=Qkb x /\ Qaz x:=by
 obtain ⟨d0,r0,rfl,f0,hf⟩:=Qe9 ty56 hf;obtain ⟨d1,r1,rfl,f1,hf⟩:=ZO hf;obtain ⟨d2,r2,rfl,f2,hf⟩:=ZO hf;obtain rfl:=Qbz hf;simp only [D.refs,List.append_eq_nil_iff] at hr;obtain ⟨g0,g1,g2,_⟩:=hg;obtain ⟨q0,q1,q2,_⟩:=hr;obtain ⟨n0,rfl⟩:=Zq ty3 f0;obtain ⟨n1,rfl⟩:=Zq ty3 f1;obtain ⟨n2,rfl⟩:=Zq ty3 f2;exact ⟨⟨n0,n1,n2⟩,rfl,YW g0,YW g1,YW g2⟩
theorem Que (x:Item) (hx:Qaz x):Qkc (Qkb x)=some x:=by
 simp only [Qaz] at hx;simp [Qkc,Qkb,D.asList,QdS,hx]
theorem Qwa:s28.ty 112=.struct false [3,3,3,3,3]:=by kernel_rfl
theorem QvI {d:D RC} (hf:fit s28 d (.inl 112)=true) (hg:good Qfa d) (hr:d.refs=[]):∃ x:Line,d=Qkd x /\ QaA x:=by
 obtain ⟨d0,r0,rfl,f0,hf⟩:=Qe9 Qwa hf;obtain ⟨d1,r1,rfl,f1,hf⟩:=ZO hf;obtain ⟨d2,r2,rfl,f2,hf⟩:=ZO hf;obtain ⟨d3,r3,rfl,f3,hf⟩:=ZO hf;obtain ⟨d4,r4,rfl,f4,hf⟩:=ZO hf;obtain rfl:=Qbz hf;simp only [D.refs,List.append_eq_nil_iff] at hr;obtain ⟨g0,g1,g2,g3,g4,_⟩:=hg;obtain ⟨q0,q1,q2,q3,q4,_⟩:=hr;obtain ⟨n0,rfl⟩:=Zq ty3 f0;obtain ⟨n1,rfl⟩:=Zq ty3 f1;obtain ⟨n2,rfl⟩:=Zq ty3 f2;obtain ⟨n3,rfl⟩:=Zq ty3 f3;obtain ⟨n4,rfl⟩:=Zq ty3 f4;exact ⟨⟨n0,n1,n2,n3,n4⟩,rfl,YW g0,YW g1,YW g2,YW g3,YW g4⟩
theorem Quf (x:Line) (hx:QaA x):Qke (Qkd x)=some x:=by
 simp only [QaA] at hx;simp [Qke,Qkd,D.asList,QdS,hx]
theorem ty60:s28.ty 60=.struct false [3,3]:=by kernel_rfl
theorem Qug {d:D RC} (hf:fit s28 d (.inl 60)=true) (hg:good Qfa d) (hr:d.refs=[]):∃ x:Qc,d=QdT x /\ V4 x:=by
 obtain ⟨d0,r0,rfl,f0,hf⟩:=Qe9 ty60 hf;obtain ⟨d1,r1,rfl,f1,hf⟩:=ZO hf;obtain rfl:=Qbz hf;simp only [D.refs,List.append_eq_nil_iff] at hr;obtain ⟨g0,g1,_⟩:=hg;obtain ⟨q0,q1,_⟩:=hr;obtain ⟨n0,rfl⟩:=Zq ty3 f0;obtain ⟨n1,rfl⟩:=Zq ty3 f1;exact ⟨⟨n0,n1⟩,rfl,YW g0,YW g1⟩
theorem Qqv (x:Qc) (hx:V4 x):QdU (QdT x)=some x:=by
 simp only [V4] at hx;simp [QdU,QdT,D.asList,QdS,hx]
theorem ty51:s28.ty 51=.struct false [3,4,49]:=by kernel_rfl
theorem ty4:s28.ty 4=.bool:=by kernel_rfl
theorem ty49:s28.ty 49=.sl 60 .write:=by kernel_rfl
theorem Qwb {d:D RC} (hf:fit s28 d (.inl 51)=true) (hg:good Qfa d) (hr:d.refs=[]):∃ (x:Rec) (c0:Bool),d=Qst x c0 /\ Qdv x:=by
 obtain ⟨d0,r0,rfl,f0,hf⟩:=Qe9 ty51 hf;obtain ⟨d1,r1,rfl,f1,hf⟩:=ZO hf;obtain ⟨d2,r2,rfl,f2,hf⟩:=ZO hf;obtain rfl:=Qbz hf;simp only [D.refs,List.append_eq_nil_iff] at hr;obtain ⟨g0,g1,g2,_⟩:=hg;obtain ⟨q0,q1,q2,_⟩:=hr;obtain ⟨n0,rfl⟩:=Zq ty3 f0;obtain ⟨n1,rfl⟩:=QhW ty4 f1;obtain ⟨k2,n2,rfl⟩:=QoK ty49 f2 q2;exact ⟨⟨n0,n1,n2⟩,k2,rfl,YW g0,trivial,g2⟩
theorem QvJ (x:Rec) (c0:Bool) (hx:Qdv x):dRec (Qst x c0)=some x:=by
 simp only [Qdv] at hx;simp [dRec,Qst,D.asList,QdS,hx]
theorem Qwc:s28.ty 129=.sl 5 .u8:=by kernel_rfl
theorem ty5:s28.ty 5=.int .u8:=by kernel_rfl
theorem decs:Dec s28 Qfa where
 dec t d hf hr hg _:=by
  cases t with
  | bool =>
   obtain ⟨n,rfl⟩:=QhW ty4 hf;exact ⟨n,rfl,trivial⟩
  | int =>
   obtain ⟨n,rfl⟩:=Zq ty3 hf;exact ⟨n,by simp [s28,ZS,rCod,rDec,Qpe],YW hg⟩
  | item =>
   obtain ⟨x,rfl,hx⟩:=QvH hf hg hr;exact ⟨x,Que x hx,hx⟩
  | l_u8 =>
   obtain ⟨c,n,rfl⟩:=QoK Qwc hf hr;exact ⟨n,by simp [s28,ZS,rCod,rDec,D.asList],hg⟩
  | line =>
   obtain ⟨x,rfl,hx⟩:=QvI hf hg hr;exact ⟨x,Quf x hx,hx⟩
  | recd =>
   obtain ⟨x,c0,rfl,hx⟩:=Qwb hf hg hr;exact ⟨x,QvJ x c0 hx,hx⟩
  | sector =>
   obtain ⟨x,rfl,hx⟩:=Qqu hf hg hr;exact ⟨x,QoL x hx,hx⟩
  | u8 =>
   obtain ⟨n,rfl⟩:=Zq ty5 hf;exact ⟨_,rfl,trivial⟩
  | write =>
   obtain ⟨x,rfl,hx⟩:=Qug hf hg hr;exact ⟨x,Qqv x hx,hx⟩
theorem own:ownKnob Tryz.prog.godebug=none:=by kernel_rfl
theorem Quh:laidOutB Tryz.prog=true:=by kernel_rfl
end Go.Ev

namespace Go.Proofs.YtkoeniljaccaiaaGreat
open Go.ChangeShapes Go.WideShapes Go.ChangeAt Go.RowKit Go.Ev
set_option linter.unusedVariables false
set_option maxRecDepth 100000
namespace recoverMore
theorem ev (ds:List (D RC)) (h:Fits s28 Qfa Tryz.f4.params.toList ds):∃ n,evF s28 uw_3 n 4 ds=some (.bool true):=by
 rw [Tryz.params4] at h;cases h with
 | cons hf0 hg0 hr0 h =>
 cases h with
 | cons hf1 hg1 hr1 h =>
 cases h with
 | nil =>
  obtain ⟨cc,l,rfl⟩:=QoK (show s28.ty 47=.sl 51 .recd by kernel_rfl) hf0 hr0
  obtain ⟨n,rfl⟩:=Zq (show s28.ty 3=.int .i64 by kernel_rfl) hf1
  have hw:(l.all fun r=>Qh r.writes.length)=true:=List.all_eq_true.2 fun r hr=>Qe (hg0.2 r hr).2.2.1;have key:=QoJ cc l n (by rw [Qe hg0.1,hw];rfl)
  unfold Qdt at key;exact ⟨300,key⟩
theorem QvK (os:Os) (started:os.Started) (H:Type) (enc:TypeId × Value->H) :
 ReturnsInHanded {} Tryz.checked os 4 .any (Rows.recoverMoreSpec.pre6 enc Tryz.prog Tryz.f4 Rows.recoverMoreRow.domain false) (Rows.recoverMoreSpec.post enc Tryz.prog Tryz.f4 false true false false):=by
 refine returnsInHanded_of_change (C:=Tryz.checked) own started (by kernel_rfl) Tryz.func4
  (ChangeSpec.witness6 (enc:=enc) (C:=Tryz.checked) false ⟨#[],#[.slice none 0 0,.int .i64 0],[]⟩ 8 (by kernel_rfl) (by kernel_rfl) (by kernel_rfl) (by kernel_rfl)) ?_
 intro W base args ds gs before hval hW _ _;refine Qgg (gA:=Qfa) (m:=8) Qb QoG decs Quh (tb:=4) (by kernel_rfl) Tryz.underlying4 rfl (by kernel_rfl) ?_ ev H enc W base args ds gs before hval hW
 intro H ds h;rw [Tryz.params4] at h
 match ds,h with
 | [d0,d1],_=>rfl
theorem over:Rows.recoverMoreRow.holds Tryz.pinned (OpenSpec.ofChange Rows.recoverMoreSpec) :=
 OpenClaim.holds_of_wide 4 Tryz.f4 rfl rfl rfl rfl rfl rfl rfl ⟨rfl,rfl,rfl,rfl,rfl⟩ rfl rfl rfl rfl rfl (by kernel_rfl) Tryz.func4 (by kernel_rfl)
  (of_decide_eq_true (by kernel_rfl)) (by unfold Func.isWrapper;first | (rw [if_pos (by decide +kernel)];kernel_rfl) | (rw [if_neg (by decide +kernel)];exact ⟨rfl,rfl⟩))
  (fun os started H enc _=>QvK os started H enc)
theorem proved:Rows.RecoverMoreSaid:=over
end recoverMore
#print axioms recoverMore.proved
end Go.Proofs.YtkoeniljaccaiaaGreat
