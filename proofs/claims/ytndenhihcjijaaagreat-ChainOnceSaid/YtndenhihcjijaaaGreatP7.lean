/-
  ChainOnce returns true for any picks, and they read behind the call as before. No condition beyond the given statement. (text 8)
-/
import Derived.Test.YtndenhihcjijaaaGreatP6
import Derived.WalkKit
import Derived.ProofKit
import Derived.OpenShut
import Derived.Test.YtndenhihcjijaaaGreatRows
namespace Go.Ev
open Go.Proofs Go.ChangeShapes Go.WideShapes Go.ChangeAt Go.RowKit
set_option linter.unusedVariables false
set_option linter.unusedSimpArgs false
set_option maxRecDepth 100000
def J7 (x:Pick):Prop := i64 (x.client) /\ i64 (x.do_) /\ i64 (x.key) /\ i64 (x.value) /\ i64 (x.place) /\ i64 (x.many)
def Js (x:Item):Prop := i64 (x.key) /\ i64 (x.place) /\ i64 (x.value)
def VG (x:Sector):Prop := i64 (x.n) /\ (x.b).length <= maxLen
def Vv (x:Frame):Prop := inK .i8 (x.prog) /\ i64 (x.at') /\ ((x.r).length = 96 /\ ∀ y ∈ (x.r),i64 (y))
def J8 (x:Task):Prop := i64 (x.client) /\ ((x.stack).length <= maxLen /\ ∀ y ∈ (x.stack),Vv (y)) /\ ((x.got).length <= maxLen /\ ∀ y ∈ (x.got),i64 (y)) /\ True
def Qc5:(t:RTy) -> RA t -> Prop
 | .bool => fun (x:Bool) => True
 | .frame => fun (x:Frame) => Vv (x)
 | .int => fun (x:Int) => i64 (x)
 | .item => fun (x:Item) => Js (x)
 | .l_item => fun (x:List (Item)) => ((x).length <= maxLen /\ ∀ y ∈ (x),Js (y))
 | .pick => fun (x:Pick) => J7 (x)
 | .sector => fun (x:Sector) => VG (x)
 | .task => fun (x:Task) => J8 (x)
theorem ty28:s18.ty 28 = .struct false [3,3,3,3,3,3] := by kernel_rfl
theorem ty3:s18.ty 3 = .int .i64 := by kernel_rfl
theorem Qrf {d:D RC} (hf:fit s18 d (.inl 28) = true) (hg:good Qc5 d) (hr:d.refs = []):∃ x:Pick,d = QhL x /\ J7 x := by
 obtain ⟨d0,r0,rfl,f0,hf⟩ := Qc4 ty28 hf;obtain ⟨d1,r1,rfl,f1,hf⟩ := Za hf;obtain ⟨d2,r2,rfl,f2,hf⟩ := Za hf;obtain ⟨d3,r3,rfl,f3,hf⟩ := Za hf;obtain ⟨d4,r4,rfl,f4,hf⟩ := Za hf;obtain ⟨d5,r5,rfl,f5,hf⟩ := Za hf;obtain rfl := KX hf;simp only [D.refs,List.append_eq_nil_iff] at hr;obtain ⟨g0,g1,g2,g3,g4,g5,_⟩ := hg;obtain ⟨q0,q1,q2,q3,q4,q5,_⟩ := hr;obtain ⟨n0,rfl⟩ := Zy ty3 f0;obtain ⟨n1,rfl⟩ := Zy ty3 f1;obtain ⟨n2,rfl⟩ := Zy ty3 f2;obtain ⟨n3,rfl⟩ := Zy ty3 f3;obtain ⟨n4,rfl⟩ := Zy ty3 f4;obtain ⟨n5,rfl⟩ := Zy ty3 f5;exact ⟨⟨n0,n1,n2,n3,n4,n5⟩,rfl,YJ g0,YJ g1,YJ g2,YJ g3,YJ g4,YJ g5⟩
theorem Qqj (x:Pick) (hx:J7 x):QhM (QhL x) = some x := by
 simp only [J7] at hx;simp [QhM,QhL,D.asList,JP,hx]
theorem ty39:s18.ty 39 = .struct false [3,3,3] := by kernel_rfl
theorem Qrg {d:D RC} (hf:fit s18 d (.inl 39) = true) (hg:good Qc5 d) (hr:d.refs = []):∃ x:Item,d = QhN x /\ Js x := by
 obtain ⟨d0,r0,rfl,f0,hf⟩ := Qc4 ty39 hf;obtain ⟨d1,r1,rfl,f1,hf⟩ := Za hf;obtain ⟨d2,r2,rfl,f2,hf⟩ := Za hf;obtain rfl := KX hf;simp only [D.refs,List.append_eq_nil_iff] at hr;obtain ⟨g0,g1,g2,_⟩ := hg;obtain ⟨q0,q1,q2,_⟩ := hr;obtain ⟨n0,rfl⟩ := Zy ty3 f0;obtain ⟨n1,rfl⟩ := Zy ty3 f1;obtain ⟨n2,rfl⟩ := Zy ty3 f2;exact ⟨⟨n0,n1,n2⟩,rfl,YJ g0,YJ g1,YJ g2⟩
theorem Qqk (x:Item) (hx:Js x):QhO (QhN x) = some x := by
 simp only [Js] at hx;simp [QhO,QhN,D.asList,JP,hx]
theorem QrN:s18.ty 120 = .struct false [3,9] := by kernel_rfl
theorem ty9:s18.ty 9 = .str := by kernel_rfl
theorem Qni {d:D RC} (hf:fit s18 d (.inl 120) = true) (hg:good Qc5 d) (hr:d.refs = []):∃ x:Sector,d = Ks x /\ VG x := by
 obtain ⟨d0,r0,rfl,f0,hf⟩ := Qc4 QrN hf;obtain ⟨d1,r1,rfl,f1,hf⟩ := Za hf;obtain rfl := KX hf;simp only [D.refs,List.append_eq_nil_iff] at hr;obtain ⟨g0,g1,_⟩ := hg;obtain ⟨q0,q1,_⟩ := hr;obtain ⟨n0,rfl⟩ := Zy ty3 f0;obtain ⟨n1,rfl⟩ := Qqh ty9 f1;exact ⟨⟨n0,n1⟩,rfl,YJ g0,g1⟩
theorem Qlf (x:Sector) (hx:VG x):Kt (Ks x) = some x := by
 simp only [VG] at hx;simp [Kt,Ks,D.asList,JP,hx]
theorem ty92:s18.ty 92 = .struct false [59,3,90] := by kernel_rfl
theorem ty59:s18.ty 59 = .int .i8 := by kernel_rfl
theorem ty90:s18.ty 90 = .arr 96 3 .int := by kernel_rfl
theorem Qql {d:D RC} (hf:fit s18 d (.inl 92) = true) (hg:good Qc5 d) (hr:d.refs = []):∃ x:Frame,d = Qb7 x /\ Vv x := by
 obtain ⟨d0,r0,rfl,f0,hf⟩ := Qc4 ty92 hf;obtain ⟨d1,r1,rfl,f1,hf⟩ := Za hf;obtain ⟨d2,r2,rfl,f2,hf⟩ := Za hf;obtain rfl := KX hf;simp only [D.refs,List.append_eq_nil_iff] at hr;obtain ⟨g0,g1,g2,_⟩ := hg;obtain ⟨q0,q1,q2,_⟩ := hr;obtain ⟨n0,rfl⟩ := Zy ty59 f0;obtain ⟨n1,rfl⟩ := Zy ty3 f1;obtain ⟨n2,rfl⟩ := Qqi ty90 f2;exact ⟨⟨n0,n1,n2⟩,rfl,g0,YJ g1,g2⟩
theorem Qnj (x:Frame) (hx:Vv x):Qb8 (Qb7 x) = some x := by
 simp only [Vv] at hx;simp [Qb8,Qb7,D.asList,JP,hx]
theorem ty47:s18.ty 47 = .struct false [3,45,35,4] := by kernel_rfl
theorem ty45:s18.ty 45 = .sl 92 .frame := by kernel_rfl
theorem ty35:s18.ty 35 = .sl 3 .int := by kernel_rfl
theorem ty4:s18.ty 4 = .bool := by kernel_rfl
theorem Qrh {d:D RC} (hf:fit s18 d (.inl 47) = true) (hg:good Qc5 d) (hr:d.refs = []):∃ (x:Task) (c0 c1:Bool),d = QhQ x c0 c1 /\ J8 x := by
 obtain ⟨d0,r0,rfl,f0,hf⟩ := Qc4 ty47 hf;obtain ⟨d1,r1,rfl,f1,hf⟩ := Za hf;obtain ⟨d2,r2,rfl,f2,hf⟩ := Za hf;obtain ⟨d3,r3,rfl,f3,hf⟩ := Za hf;obtain rfl := KX hf;simp only [D.refs,List.append_eq_nil_iff] at hr;obtain ⟨g0,g1,g2,g3,_⟩ := hg;obtain ⟨q0,q1,q2,q3,_⟩ := hr;obtain ⟨n0,rfl⟩ := Zy ty3 f0;obtain ⟨k1,n1,rfl⟩ := QfD ty45 f1 q1;obtain ⟨k2,n2,rfl⟩ := QfD ty35 f2 q2;obtain ⟨n3,rfl⟩ := QfC ty4 f3;exact ⟨⟨n0,n1,n2,n3⟩,k1,k2,rfl,YJ g0,g1,g2,trivial⟩
theorem Qqm (x:Task) (c0 c1:Bool) (hx:J8 x):QhR (QhQ x c0 c1) = some x := by
 simp only [J8] at hx;simp [QhR,QhQ,D.asList,JP,hx]
theorem ty33:s18.ty 33 = .sl 39 .item := by kernel_rfl
theorem decs:Dec s18 Qc5 where
 dec t d hf hr hg _ := by
  cases t with
  | bool =>
   obtain ⟨n,rfl⟩ := QfC ty4 hf;exact ⟨n,rfl,trivial⟩
  | frame =>
   obtain ⟨x,rfl,hx⟩ := Qql hf hg hr;exact ⟨x,Qnj x hx,hx⟩
  | int =>
   obtain ⟨n,rfl⟩ := Zy ty3 hf;exact ⟨n,by simp [s18,ZM,rCod,rDec,QlF],YJ hg⟩
  | item =>
   obtain ⟨x,rfl,hx⟩ := Qrg hf hg hr;exact ⟨x,Qqk x hx,hx⟩
  | l_item =>
   obtain ⟨c,n,rfl⟩ := QfD ty33 hf hr;exact ⟨n,by simp [s18,ZM,rCod,rDec,D.asList],hg⟩
  | pick =>
   obtain ⟨x,rfl,hx⟩ := Qrf hf hg hr;exact ⟨x,Qqj x hx,hx⟩
  | sector =>
   obtain ⟨x,rfl,hx⟩ := Qni hf hg hr;exact ⟨x,Qlf x hx,hx⟩
  | task =>
   obtain ⟨x,c0,c1,rfl,hx⟩ := Qrh hf hg hr;exact ⟨x,Qqm x c0 c1 hx,hx⟩
theorem own:ownKnob Tryz.prog.godebug = none := by kernel_rfl
theorem Qqn:laidOutB Tryz.prog = true := by kernel_rfl
end Go.Ev

namespace Go.Proofs.YtndenhihcjijaaaGreat
open Go.ChangeShapes Go.WideShapes Go.ChangeAt Go.RowKit Go.Ev
set_option linter.unusedVariables false
set_option maxRecDepth 100000
namespace chainOnce
theorem ev (ds:List (D RC)) (h:Fits s18 Qc5 Tryz.f3.params.toList ds):∃ n,evF s18 up_1 n 3 ds = some (.bool true) := by
 rw [Tryz.params3] at h;cases h with
 | cons hf0 hg0 hr0 h =>
 cases h with
 | nil =>
  obtain ⟨c0,x0,rfl⟩ := QfD (show s18.ty 22 = .sl 28 .pick by kernel_rfl) hf0 hr0
  have key := Qle c0 x0 (Qq (show x0.length <= 9223372036854775807 from Nat.le_trans hg0.1 (by decide)))
  unfold QbH at key;exact ⟨300,key⟩
theorem Qri (os:Os) (started:os.Started) (H:Type) (enc:TypeId × Value -> H) :
 ReturnsInHanded {} Tryz.checked os 3 .any (Rows.chainOnceSpec.pre6 enc Tryz.prog Tryz.f3 Rows.chainOnceRow.domain false) (Rows.chainOnceSpec.post enc Tryz.prog Tryz.f3 false true false false) := by
 refine returnsInHanded_of_change (C := Tryz.checked) own started (by kernel_rfl) Tryz.func3
  (ChangeSpec.witness6 (enc := enc) (C := Tryz.checked) false ⟨#[],#[.slice none 0 0],[]⟩ 8 (by kernel_rfl) (by kernel_rfl) (by kernel_rfl) (by kernel_rfl)) ?_
 intro W base args ds gs before hval hW _ _;refine Qd2 (gA := Qc5) (m := 8) Qe Qlc decs Qqn (tb := 4) (by kernel_rfl) Tryz.underlying4 rfl (by kernel_rfl) ?_ ev H enc W base args ds gs before hval hW
 intro H ds h;rw [Tryz.params3] at h
 match ds,h with
 | [d0],_ => rfl
theorem over:Rows.chainOnceRow.holds Tryz.pinned (OpenSpec.ofChange Rows.chainOnceSpec) :=
 OpenClaim.holds_of_wide 3 Tryz.f3 rfl rfl rfl rfl rfl rfl rfl ⟨rfl,rfl,rfl,rfl,rfl⟩ rfl rfl rfl rfl rfl (by kernel_rfl) Tryz.func3 (by kernel_rfl)
  (of_decide_eq_true (by kernel_rfl)) (by unfold Func.isWrapper;first | (rw [if_pos (by decide +kernel)];kernel_rfl) | (rw [if_neg (by decide +kernel)];exact ⟨rfl,rfl⟩))
  (fun os started H enc _ => Qri os started H enc)
theorem proved:Rows.ChainOnceSaid := over
end chainOnce
#print axioms chainOnce.proved
end Go.Proofs.YtndenhihcjijaaaGreat
