/-
  ChainLast returns true for any versions, and they read behind the call as before. No condition beyond the given statement. (text 8)
-/
import Derived.Test.YtndenhihcjijaaaGreatP6
import Derived.WalkKit
import Derived.ProofKit
import Derived.OpenShut
import Derived.Test.YtndenhihcjijaaaGreatRows
namespace Go.Ev
open Go.Proofs Go.ChangeShapes Go.WideShapes Go.ChangeAt Go.RowKit
set_option linter.unusedVariables false
set_option linter.unusedSimpArgs false
set_option maxRecDepth 100000
def Kz (x:Pick):Prop:=i64 (x.client) /\ i64 (x.do_) /\ i64 (x.key) /\ i64 (x.value) /\ i64 (x.place) /\ i64 (x.many)
def JL (x:Item):Prop:=i64 (x.key) /\ i64 (x.place) /\ i64 (x.value)
def VZ (x:Sector):Prop:=i64 (x.n) /\ (x.b).length <= maxLen
def VN (x:Frame):Prop:=inK .i8 (x.prog) /\ i64 (x.at') /\ ((x.r).length=96 /\ ∀ y ∈ (x.r),i64 (y))
def KA (x:Task):Prop:=i64 (x.client) /\ ((x.stack).length <= maxLen /\ ∀ y ∈ (x.stack),VN (y)) /\ ((x.got).length <= maxLen /\ ∀ y ∈ (x.got),i64 (y)) /\ True
def QdB:(t:RTy)->RA t->Prop
 | .bool=>fun (x:Bool)=>True
 | .frame=>fun (x:Frame)=>VN (x)
 | .int=>fun (x:Int)=>i64 (x)
 | .item=>fun (x:Item)=>JL (x)
 | .l_item=>fun (x:List (Item))=>((x).length <= maxLen /\ ∀ y ∈ (x),JL (y))
 | .pick=>fun (x:Pick)=>Kz (x)
 | .sector=>fun (x:Sector)=>VZ (x)
 | .task=>fun (x:Task)=>KA (x)
theorem ty28:s18.ty 28=.struct false [3,3,3,3,3,3]:=by kernel_rfl
theorem ty3:s18.ty 3=.int .i64:=by kernel_rfl
theorem Qsb {d:D RC} (hf:fit s18 d (.inl 28)=true) (hg:good QdB d) (hr:d.refs=[]):∃ x:Pick,d=Qiu x /\ Kz x:=by
 obtain ⟨d0,r0,rfl,f0,hf⟩:=QdA ty28 hf;obtain ⟨d1,r1,rfl,f1,hf⟩:=Zf hf;obtain ⟨d2,r2,rfl,f2,hf⟩:=Zf hf;obtain ⟨d3,r3,rfl,f3,hf⟩:=Zf hf;obtain ⟨d4,r4,rfl,f4,hf⟩:=Zf hf;obtain ⟨d5,r5,rfl,f5,hf⟩:=Zf hf;obtain rfl:=Qan hf;simp only [D.refs,List.append_eq_nil_iff] at hr;obtain ⟨g0,g1,g2,g3,g4,g5,_⟩:=hg;obtain ⟨q0,q1,q2,q3,q4,q5,_⟩:=hr;obtain ⟨n0,rfl⟩:=ZF ty3 f0;obtain ⟨n1,rfl⟩:=ZF ty3 f1;obtain ⟨n2,rfl⟩:=ZF ty3 f2;obtain ⟨n3,rfl⟩:=ZF ty3 f3;obtain ⟨n4,rfl⟩:=ZF ty3 f4;obtain ⟨n5,rfl⟩:=ZF ty3 f5;exact ⟨⟨n0,n1,n2,n3,n4,n5⟩,rfl,Y0 g0,Y0 g1,Y0 g2,Y0 g3,Y0 g4,Y0 g5⟩
theorem Qrd (x:Pick) (hx:Kz x):Qiv (Qiu x)=some x:=by
 simp only [Kz] at hx;simp [Qiv,Qiu,D.asList,Kd,hx]
theorem ty39:s18.ty 39=.struct false [3,3,3]:=by kernel_rfl
theorem Qsc {d:D RC} (hf:fit s18 d (.inl 39)=true) (hg:good QdB d) (hr:d.refs=[]):∃ x:Item,d=Qiw x /\ JL x:=by
 obtain ⟨d0,r0,rfl,f0,hf⟩:=QdA ty39 hf;obtain ⟨d1,r1,rfl,f1,hf⟩:=Zf hf;obtain ⟨d2,r2,rfl,f2,hf⟩:=Zf hf;obtain rfl:=Qan hf;simp only [D.refs,List.append_eq_nil_iff] at hr;obtain ⟨g0,g1,g2,_⟩:=hg;obtain ⟨q0,q1,q2,_⟩:=hr;obtain ⟨n0,rfl⟩:=ZF ty3 f0;obtain ⟨n1,rfl⟩:=ZF ty3 f1;obtain ⟨n2,rfl⟩:=ZF ty3 f2;exact ⟨⟨n0,n1,n2⟩,rfl,Y0 g0,Y0 g1,Y0 g2⟩
theorem Qre (x:Item) (hx:JL x):Qix (Qiw x)=some x:=by
 simp only [JL] at hx;simp [Qix,Qiw,D.asList,Kd,hx]
theorem QsK:s18.ty 120=.struct false [3,9]:=by kernel_rfl
theorem ty9:s18.ty 9=.str:=by kernel_rfl
theorem Qoc {d:D RC} (hf:fit s18 d (.inl 120)=true) (hg:good QdB d) (hr:d.refs=[]):∃ x:Sector,d=KR x /\ VZ x:=by
 obtain ⟨d0,r0,rfl,f0,hf⟩:=QdA QsK hf;obtain ⟨d1,r1,rfl,f1,hf⟩:=Zf hf;obtain rfl:=Qan hf;simp only [D.refs,List.append_eq_nil_iff] at hr;obtain ⟨g0,g1,_⟩:=hg;obtain ⟨q0,q1,_⟩:=hr;obtain ⟨n0,rfl⟩:=ZF ty3 f0;obtain ⟨n1,rfl⟩:=Qrb ty9 f1;exact ⟨⟨n0,n1⟩,rfl,Y0 g0,g1⟩
theorem Ql4 (x:Sector) (hx:VZ x):KS (KR x)=some x:=by
 simp only [VZ] at hx;simp [KS,KR,D.asList,Kd,hx]
theorem ty92:s18.ty 92=.struct false [59,3,90]:=by kernel_rfl
theorem ty59:s18.ty 59=.int .i8:=by kernel_rfl
theorem ty90:s18.ty 90=.arr 96 3 .int:=by kernel_rfl
theorem Qrf {d:D RC} (hf:fit s18 d (.inl 92)=true) (hg:good QdB d) (hr:d.refs=[]):∃ x:Frame,d=Qcy x /\ VN x:=by
 obtain ⟨d0,r0,rfl,f0,hf⟩:=QdA ty92 hf;obtain ⟨d1,r1,rfl,f1,hf⟩:=Zf hf;obtain ⟨d2,r2,rfl,f2,hf⟩:=Zf hf;obtain rfl:=Qan hf;simp only [D.refs,List.append_eq_nil_iff] at hr;obtain ⟨g0,g1,g2,_⟩:=hg;obtain ⟨q0,q1,q2,_⟩:=hr;obtain ⟨n0,rfl⟩:=ZF ty59 f0;obtain ⟨n1,rfl⟩:=ZF ty3 f1;obtain ⟨n2,rfl⟩:=Qrc ty90 f2;exact ⟨⟨n0,n1,n2⟩,rfl,g0,Y0 g1,g2⟩
theorem Qod (x:Frame) (hx:VN x):Qcz (Qcy x)=some x:=by
 simp only [VN] at hx;simp [Qcz,Qcy,D.asList,Kd,hx]
theorem ty47:s18.ty 47=.struct false [3,45,35,4]:=by kernel_rfl
theorem ty45:s18.ty 45=.sl 92 .frame:=by kernel_rfl
theorem ty35:s18.ty 35=.sl 3 .int:=by kernel_rfl
theorem ty4:s18.ty 4=.bool:=by kernel_rfl
theorem Qsd {d:D RC} (hf:fit s18 d (.inl 47)=true) (hg:good QdB d) (hr:d.refs=[]):∃ (x:Task) (c0 c1:Bool),d=Qiz x c0 c1 /\ KA x:=by
 obtain ⟨d0,r0,rfl,f0,hf⟩:=QdA ty47 hf;obtain ⟨d1,r1,rfl,f1,hf⟩:=Zf hf;obtain ⟨d2,r2,rfl,f2,hf⟩:=Zf hf;obtain ⟨d3,r3,rfl,f3,hf⟩:=Zf hf;obtain rfl:=Qan hf;simp only [D.refs,List.append_eq_nil_iff] at hr;obtain ⟨g0,g1,g2,g3,_⟩:=hg;obtain ⟨q0,q1,q2,q3,_⟩:=hr;obtain ⟨n0,rfl⟩:=ZF ty3 f0;obtain ⟨k1,n1,rfl⟩:=Qgq ty45 f1 q1;obtain ⟨k2,n2,rfl⟩:=Qgq ty35 f2 q2;obtain ⟨n3,rfl⟩:=Qgp ty4 f3;exact ⟨⟨n0,n1,n2,n3⟩,k1,k2,rfl,Y0 g0,g1,g2,trivial⟩
theorem Qrg (x:Task) (c0 c1:Bool) (hx:KA x):QiA (Qiz x c0 c1)=some x:=by
 simp only [KA] at hx;simp [QiA,Qiz,D.asList,Kd,hx]
theorem ty33:s18.ty 33=.sl 39 .item:=by kernel_rfl
theorem decs:Dec s18 QdB where
 dec t d hf hr hg _:=by
  cases t with
  | bool =>
   obtain ⟨n,rfl⟩:=Qgp ty4 hf;exact ⟨n,rfl,trivial⟩
  | frame =>
   obtain ⟨x,rfl,hx⟩:=Qrf hf hg hr;exact ⟨x,Qod x hx,hx⟩
  | int =>
   obtain ⟨n,rfl⟩:=ZF ty3 hf;exact ⟨n,by simp [s18,ZV,rCod,rDec,Qmu],Y0 hg⟩
  | item =>
   obtain ⟨x,rfl,hx⟩:=Qsc hf hg hr;exact ⟨x,Qre x hx,hx⟩
  | l_item =>
   obtain ⟨c,n,rfl⟩:=Qgq ty33 hf hr;exact ⟨n,by simp [s18,ZV,rCod,rDec,D.asList],hg⟩
  | pick =>
   obtain ⟨x,rfl,hx⟩:=Qsb hf hg hr;exact ⟨x,Qrd x hx,hx⟩
  | sector =>
   obtain ⟨x,rfl,hx⟩:=Qoc hf hg hr;exact ⟨x,Ql4 x hx,hx⟩
  | task =>
   obtain ⟨x,c0,c1,rfl,hx⟩:=Qsd hf hg hr;exact ⟨x,Qrg x c0 c1 hx,hx⟩
theorem own:ownKnob Tryz.prog.godebug=none:=by kernel_rfl
theorem Qrh:laidOutB Tryz.prog=true:=by kernel_rfl
end Go.Ev

namespace Go.Proofs.YtndenhihcjijaaaGreat
open Go.ChangeShapes Go.WideShapes Go.ChangeAt Go.RowKit Go.Ev
set_option linter.unusedVariables false
set_option maxRecDepth 100000
namespace chainLast
theorem ev (ds:List (D RC)) (h:Fits s18 QdB Tryz.f4.params.toList ds):∃ n,evF s18 uv_1 n 4 ds=some (.bool true):=by
 rw [Tryz.params4] at h;cases h with
 | cons hf0 hg0 hr0 h =>
 cases h with
 | nil =>
  obtain ⟨c0,x0,rfl⟩:=Qgq (show s18.ty 33=.sl 39 .item by kernel_rfl) hf0 hr0
  have key:=Ql3 c0 x0 (Qu (show x0.length <= 9223372036854775807 from Nat.le_trans hg0.1 (by decide)))
  unfold Qb8 at key;exact ⟨300,key⟩
theorem Qse (os:Os) (started:os.Started) (H:Type) (enc:TypeId × Value->H) :
 ReturnsInHanded {} Tryz.checked os 4 .any (Rows.chainLastSpec.pre6 enc Tryz.prog Tryz.f4 Rows.chainLastRow.domain false) (Rows.chainLastSpec.post enc Tryz.prog Tryz.f4 false true false false):=by
 refine returnsInHanded_of_change (C:=Tryz.checked) own started (by kernel_rfl) Tryz.func4
  (ChangeSpec.witness6 (enc:=enc) (C:=Tryz.checked) false ⟨#[],#[.slice none 0 0],[]⟩ 8 (by kernel_rfl) (by kernel_rfl) (by kernel_rfl) (by kernel_rfl)) ?_
 intro W base args ds gs before hval hW _ _;refine QeK (gA:=QdB) (m:=8) Qc Ql0 decs Qrh (tb:=4) (by kernel_rfl) Tryz.underlying4 rfl (by kernel_rfl) ?_ ev H enc W base args ds gs before hval hW
 intro H ds h;rw [Tryz.params4] at h
 match ds,h with
 | [d0],_=>rfl
theorem over:Rows.chainLastRow.holds Tryz.pinned (OpenSpec.ofChange Rows.chainLastSpec) :=
 OpenClaim.holds_of_wide 4 Tryz.f4 rfl rfl rfl rfl rfl rfl rfl ⟨rfl,rfl,rfl,rfl,rfl⟩ rfl rfl rfl rfl rfl (by kernel_rfl) Tryz.func4 (by kernel_rfl)
  (of_decide_eq_true (by kernel_rfl)) (by unfold Func.isWrapper;first | (rw [if_pos (by decide +kernel)];kernel_rfl) | (rw [if_neg (by decide +kernel)];exact ⟨rfl,rfl⟩))
  (fun os started H enc _=>Qse os started H enc)
theorem proved:Rows.ChainLastSaid:=over
end chainLast
#print axioms chainLast.proved
end Go.Proofs.YtndenhihcjijaaaGreat
