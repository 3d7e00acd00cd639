/-
  What is decided stays decided, the frontier rises by one at a time, heads by places alone, whatever is begun and picked: HelpOnce holds of every list of picks and every width. (text 8)
-/
import Derived.Test.YtnopcebdncdbgaaGreatP6
import Derived.WalkKit
import Derived.ProofKit
import Derived.OpenShut
import Derived.Test.YtnopcebdncdbgaaGreatRows
namespace Go.Ev
open Go.Proofs Go.ChangeShapes Go.WideShapes Go.ChangeAt Go.RowKit
set_option linter.unusedVariables false
set_option linter.unusedSimpArgs false
set_option maxRecDepth 100000
def Yn (x:Qc):Prop := i64 (x.key) /\ i64 (x.value)
def VP (x:Pick):Prop := i64 (x.client) /\ i64 (x.do_) /\ i64 (x.back) /\ ((x.writes).length <= maxLen /\ ∀ y ∈ (x.writes),Yn (y))
def VQ (x:Sector):Prop := i64 (x.n) /\ (x.b).length <= maxLen
def VB (x:Qe):Prop := inK .i8 (x.prog) /\ i64 (x.at') /\ ((x.r).length = 96 /\ ∀ y ∈ (x.r),i64 (y))
def KJ (x:Task):Prop := i64 (x.client) /\ ((x.stack).length <= maxLen /\ ∀ y ∈ (x.stack),VB (y)) /\ ((x.got).length <= maxLen /\ ∀ y ∈ (x.got),i64 (y)) /\ True
def Qch (x:Try):Prop := i64 (x.place) /\ i64 (x.start) /\ ((x.writes).length <= maxLen /\ ∀ y ∈ (x.writes),Yn (y))
def Qci (x:Rec):Prop := i64 (x.place) /\ True /\ ((x.writes).length <= maxLen /\ ∀ y ∈ (x.writes),Yn (y))
def KK (x:Line):Prop := i64 (x.offset) /\ i64 (x.place) /\ i64 (x.j) /\ i64 (x.key) /\ i64 (x.value)
def KL (x:Item):Prop := i64 (x.key) /\ i64 (x.place) /\ i64 (x.value)
def Kt:(t:RTy) -> RA t -> Prop
 | .bool => fun (x:Bool) => True
 | .frame => fun (x:Qe) => VB (x)
 | .int => fun (x:Int) => i64 (x)
 | .item => fun (x:Item) => KL (x)
 | .l_u8 => fun (x:List (UInt8)) => ((x).length <= maxLen /\ ∀ y ∈ (x),True)
 | .line => fun (x:Line) => KK (x)
 | .pick => fun (x:Pick) => VP (x)
 | .recd => fun (x:Rec) => Qci (x)
 | .sector => fun (x:Sector) => VQ (x)
 | .task => fun (x:Task) => KJ (x)
 | .tryd => fun (x:Try) => Qch (x)
 | .u8 => fun (x:UInt8) => True
 | .write => fun (x:Qc) => Yn (x)
theorem QwG:s25.ty 109 = .struct false [3,3] := by kernel_rfl
theorem ty3:s25.ty 3 = .int .i64 := by kernel_rfl
theorem QuW {d:D RC} (hf:fit s25 d (.inl 109) = true) (hg:good Kt d) (hr:d.refs = []):∃ x:Qc,d = QcJ x /\ Yn x := by
 obtain ⟨d0,r0,rfl,f0,hf⟩ := JS QwG hf;obtain ⟨d1,r1,rfl,f1,hf⟩ := QI hf;obtain rfl := Y6 hf;simp only [D.refs,List.append_eq_nil_iff] at hr;obtain ⟨g0,g1,_⟩ := hg;obtain ⟨q0,q1,_⟩ := hr;obtain ⟨n0,rfl⟩ := QO ty3 f0;obtain ⟨n1,rfl⟩ := QO ty3 f1;exact ⟨⟨n0,n1⟩,rfl,Zh g0,Zh g1⟩
theorem Qrq (x:Qc) (hx:Yn x):QcK (QcJ x) = some x := by
 simp only [Yn] at hx;simp [QcK,QcJ,D.asList,Y7,hx]
theorem ty29:s25.ty 29 = .struct false [3,3,3,27] := by kernel_rfl
theorem ty27:s25.ty 27 = .sl 109 .write := by kernel_rfl
theorem Qv8 {d:D RC} (hf:fit s25 d (.inl 29) = true) (hg:good Kt d) (hr:d.refs = []):∃ (x:Pick) (c0:Bool),d = Qjn x c0 /\ VP x := by
 obtain ⟨d0,r0,rfl,f0,hf⟩ := JS ty29 hf;obtain ⟨d1,r1,rfl,f1,hf⟩ := QI hf;obtain ⟨d2,r2,rfl,f2,hf⟩ := QI hf;obtain ⟨d3,r3,rfl,f3,hf⟩ := QI hf;obtain rfl := Y6 hf;simp only [D.refs,List.append_eq_nil_iff] at hr;obtain ⟨g0,g1,g2,g3,_⟩ := hg;obtain ⟨q0,q1,q2,q3,_⟩ := hr;obtain ⟨n0,rfl⟩ := QO ty3 f0;obtain ⟨n1,rfl⟩ := QO ty3 f1;obtain ⟨n2,rfl⟩ := QO ty3 f2;obtain ⟨k3,n3,rfl⟩ := QaD ty27 f3 q3;exact ⟨⟨n0,n1,n2,n3⟩,k3,rfl,Zh g0,Zh g1,Zh g2,g3⟩
theorem QuX (x:Pick) (c0:Bool) (hx:VP x):Qjo (Qjn x c0) = some x := by
 simp only [VP] at hx;simp [Qjo,Qjn,D.asList,Y7,hx]
theorem QwH:s25.ty 102 = .struct false [3,9] := by kernel_rfl
theorem ty9:s25.ty 9 = .str := by kernel_rfl
theorem Qrr {d:D RC} (hf:fit s25 d (.inl 102) = true) (hg:good Kt d) (hr:d.refs = []):∃ x:Sector,d = K3 x /\ VQ x := by
 obtain ⟨d0,r0,rfl,f0,hf⟩ := JS QwH hf;obtain ⟨d1,r1,rfl,f1,hf⟩ := QI hf;obtain rfl := Y6 hf;simp only [D.refs,List.append_eq_nil_iff] at hr;obtain ⟨g0,g1,_⟩ := hg;obtain ⟨q0,q1,_⟩ := hr;obtain ⟨n0,rfl⟩ := QO ty3 f0;obtain ⟨n1,rfl⟩ := QuU ty9 f1;exact ⟨⟨n0,n1⟩,rfl,Zh g0,g1⟩
theorem QoC (x:Sector) (hx:VQ x):K4 (K3 x) = some x := by
 simp only [VQ] at hx;simp [K4,K3,D.asList,Y7,hx]
theorem ty84:s25.ty 84 = .struct false [81,3,82] := by kernel_rfl
theorem ty81:s25.ty 81 = .int .i8 := by kernel_rfl
theorem ty82:s25.ty 82 = .arr 96 3 .int := by kernel_rfl
theorem QuY {d:D RC} (hf:fit s25 d (.inl 84) = true) (hg:good Kt d) (hr:d.refs = []):∃ x:Qe,d = QcL x /\ VB x := by
 obtain ⟨d0,r0,rfl,f0,hf⟩ := JS ty84 hf;obtain ⟨d1,r1,rfl,f1,hf⟩ := QI hf;obtain ⟨d2,r2,rfl,f2,hf⟩ := QI hf;obtain rfl := Y6 hf;simp only [D.refs,List.append_eq_nil_iff] at hr;obtain ⟨g0,g1,g2,_⟩ := hg;obtain ⟨q0,q1,q2,_⟩ := hr;obtain ⟨n0,rfl⟩ := QO ty81 f0;obtain ⟨n1,rfl⟩ := QO ty3 f1;obtain ⟨n2,rfl⟩ := QuV ty82 f2;exact ⟨⟨n0,n1,n2⟩,rfl,g0,Zh g1,g2⟩
theorem Qrs (x:Qe) (hx:VB x):QcM (QcL x) = some x := by
 simp only [VB] at hx;simp [QcM,QcL,D.asList,Y7,hx]
theorem ty40:s25.ty 40 = .struct false [3,38,32,4] := by kernel_rfl
theorem ty38:s25.ty 38 = .sl 84 .frame := by kernel_rfl
theorem ty32:s25.ty 32 = .sl 3 .int := by kernel_rfl
theorem ty4:s25.ty 4 = .bool := by kernel_rfl
theorem Qv9 {d:D RC} (hf:fit s25 d (.inl 40) = true) (hg:good Kt d) (hr:d.refs = []):∃ (x:Task) (c0 c1:Bool),d = Qjq x c0 c1 /\ KJ x := by
 obtain ⟨d0,r0,rfl,f0,hf⟩ := JS ty40 hf;obtain ⟨d1,r1,rfl,f1,hf⟩ := QI hf;obtain ⟨d2,r2,rfl,f2,hf⟩ := QI hf;obtain ⟨d3,r3,rfl,f3,hf⟩ := QI hf;obtain rfl := Y6 hf;simp only [D.refs,List.append_eq_nil_iff] at hr;obtain ⟨g0,g1,g2,g3,_⟩ := hg;obtain ⟨q0,q1,q2,q3,_⟩ := hr;obtain ⟨n0,rfl⟩ := QO ty3 f0;obtain ⟨k1,n1,rfl⟩ := QaD ty38 f1 q1;obtain ⟨k2,n2,rfl⟩ := QaD ty32 f2 q2;obtain ⟨n3,rfl⟩ := Qcg ty4 f3;exact ⟨⟨n0,n1,n2,n3⟩,k1,k2,rfl,Zh g0,g1,g2,trivial⟩
theorem QuZ (x:Task) (c0 c1:Bool) (hx:KJ x):Qjr (Qjq x c0 c1) = some x := by
 simp only [KJ] at hx;simp [Qjr,Qjq,D.asList,Y7,hx]
theorem ty98:s25.ty 98 = .struct false [3,3,27] := by kernel_rfl
theorem QwI {d:D RC} (hf:fit s25 d (.inl 98) = true) (hg:good Kt d) (hr:d.refs = []):∃ (x:Try) (c0:Bool),d = Qs6 x c0 /\ Qch x := by
 obtain ⟨d0,r0,rfl,f0,hf⟩ := JS ty98 hf;obtain ⟨d1,r1,rfl,f1,hf⟩ := QI hf;obtain ⟨d2,r2,rfl,f2,hf⟩ := QI hf;obtain rfl := Y6 hf;simp only [D.refs,List.append_eq_nil_iff] at hr;obtain ⟨g0,g1,g2,_⟩ := hg;obtain ⟨q0,q1,q2,_⟩ := hr;obtain ⟨n0,rfl⟩ := QO ty3 f0;obtain ⟨n1,rfl⟩ := QO ty3 f1;obtain ⟨k2,n2,rfl⟩ := QaD ty27 f2 q2;exact ⟨⟨n0,n1,n2⟩,k2,rfl,Zh g0,Zh g1,g2⟩
theorem Qwa (x:Try) (c0:Bool) (hx:Qch x):dTry (Qs6 x c0) = some x := by
 simp only [Qch] at hx;simp [dTry,Qs6,D.asList,Y7,hx]
theorem ty56:s25.ty 56 = .struct false [3,4,27] := by kernel_rfl
theorem QwJ {d:D RC} (hf:fit s25 d (.inl 56) = true) (hg:good Kt d) (hr:d.refs = []):∃ (x:Rec) (c0:Bool),d = Qs7 x c0 /\ Qci x := by
 obtain ⟨d0,r0,rfl,f0,hf⟩ := JS ty56 hf;obtain ⟨d1,r1,rfl,f1,hf⟩ := QI hf;obtain ⟨d2,r2,rfl,f2,hf⟩ := QI hf;obtain rfl := Y6 hf;simp only [D.refs,List.append_eq_nil_iff] at hr;obtain ⟨g0,g1,g2,_⟩ := hg;obtain ⟨q0,q1,q2,_⟩ := hr;obtain ⟨n0,rfl⟩ := QO ty3 f0;obtain ⟨n1,rfl⟩ := Qcg ty4 f1;obtain ⟨k2,n2,rfl⟩ := QaD ty27 f2 q2;exact ⟨⟨n0,n1,n2⟩,k2,rfl,Zh g0,trivial,g2⟩
theorem Qwb (x:Rec) (c0:Bool) (hx:Qci x):dRec (Qs7 x c0) = some x := by
 simp only [Qci] at hx;simp [dRec,Qs7,D.asList,Y7,hx]
theorem QwK:s25.ty 115 = .struct false [3,3,3,3,3] := by kernel_rfl
theorem Qwc {d:D RC} (hf:fit s25 d (.inl 115) = true) (hg:good Kt d) (hr:d.refs = []):∃ x:Line,d = Qjs x /\ KK x := by
 obtain ⟨d0,r0,rfl,f0,hf⟩ := JS QwK hf;obtain ⟨d1,r1,rfl,f1,hf⟩ := QI hf;obtain ⟨d2,r2,rfl,f2,hf⟩ := QI hf;obtain ⟨d3,r3,rfl,f3,hf⟩ := QI hf;obtain ⟨d4,r4,rfl,f4,hf⟩ := QI hf;obtain rfl := Y6 hf;simp only [D.refs,List.append_eq_nil_iff] at hr;obtain ⟨g0,g1,g2,g3,g4,_⟩ := hg;obtain ⟨q0,q1,q2,q3,q4,_⟩ := hr;obtain ⟨n0,rfl⟩ := QO ty3 f0;obtain ⟨n1,rfl⟩ := QO ty3 f1;obtain ⟨n2,rfl⟩ := QO ty3 f2;obtain ⟨n3,rfl⟩ := QO ty3 f3;obtain ⟨n4,rfl⟩ := QO ty3 f4;exact ⟨⟨n0,n1,n2,n3,n4⟩,rfl,Zh g0,Zh g1,Zh g2,Zh g3,Zh g4⟩
theorem Qu0 (x:Line) (hx:KK x):Qjt (Qjs x) = some x := by
 simp only [KK] at hx;simp [Qjt,Qjs,D.asList,Y7,hx]
theorem ty61:s25.ty 61 = .struct false [3,3,3] := by kernel_rfl
theorem Qwd {d:D RC} (hf:fit s25 d (.inl 61) = true) (hg:good Kt d) (hr:d.refs = []):∃ x:Item,d = Qju x /\ KL x := by
 obtain ⟨d0,r0,rfl,f0,hf⟩ := JS ty61 hf;obtain ⟨d1,r1,rfl,f1,hf⟩ := QI hf;obtain ⟨d2,r2,rfl,f2,hf⟩ := QI hf;obtain rfl := Y6 hf;simp only [D.refs,List.append_eq_nil_iff] at hr;obtain ⟨g0,g1,g2,_⟩ := hg;obtain ⟨q0,q1,q2,_⟩ := hr;obtain ⟨n0,rfl⟩ := QO ty3 f0;obtain ⟨n1,rfl⟩ := QO ty3 f1;obtain ⟨n2,rfl⟩ := QO ty3 f2;exact ⟨⟨n0,n1,n2⟩,rfl,Zh g0,Zh g1,Zh g2⟩
theorem Qu1 (x:Item) (hx:KL x):Qjv (Qju x) = some x := by
 simp only [KL] at hx;simp [Qjv,Qju,D.asList,Y7,hx]
theorem QwL:s25.ty 107 = .sl 5 .u8 := by kernel_rfl
theorem ty5:s25.ty 5 = .int .u8 := by kernel_rfl
theorem decs:Dec s25 Kt where
 dec t d hf hr hg _ := by
  cases t with
  | bool =>
   obtain ⟨n,rfl⟩ := Qcg ty4 hf;exact ⟨n,rfl,trivial⟩
  | frame =>
   obtain ⟨x,rfl,hx⟩ := QuY hf hg hr;exact ⟨x,Qrs x hx,hx⟩
  | int =>
   obtain ⟨n,rfl⟩ := QO ty3 hf;exact ⟨n,by simp [s25,ZE,rCod,rDec,QoZ],Zh hg⟩
  | item =>
   obtain ⟨x,rfl,hx⟩ := Qwd hf hg hr;exact ⟨x,Qu1 x hx,hx⟩
  | l_u8 =>
   obtain ⟨c,n,rfl⟩ := QaD QwL hf hr;exact ⟨n,by simp [s25,ZE,rCod,rDec,D.asList],hg⟩
  | line =>
   obtain ⟨x,rfl,hx⟩ := Qwc hf hg hr;exact ⟨x,Qu0 x hx,hx⟩
  | pick =>
   obtain ⟨x,c0,rfl,hx⟩ := Qv8 hf hg hr;exact ⟨x,QuX x c0 hx,hx⟩
  | recd =>
   obtain ⟨x,c0,rfl,hx⟩ := QwJ hf hg hr;exact ⟨x,Qwb x c0 hx,hx⟩
  | sector =>
   obtain ⟨x,rfl,hx⟩ := Qrr hf hg hr;exact ⟨x,QoC x hx,hx⟩
  | task =>
   obtain ⟨x,c0,c1,rfl,hx⟩ := Qv9 hf hg hr;exact ⟨x,QuZ x c0 c1 hx,hx⟩
  | tryd =>
   obtain ⟨x,c0,rfl,hx⟩ := QwI hf hg hr;exact ⟨x,Qwa x c0 hx,hx⟩
  | u8 =>
   obtain ⟨n,rfl⟩ := QO ty5 hf;exact ⟨_,rfl,trivial⟩
  | write =>
   obtain ⟨x,rfl,hx⟩ := QuW hf hg hr;exact ⟨x,Qrq x hx,hx⟩
theorem own:ownKnob Tryz.prog.godebug = none := by kernel_rfl
theorem Qu2:laidOutB Tryz.prog = true := by kernel_rfl
end Go.Ev

namespace Go.Proofs.YtnopcebdncdbgaaGreat
open Go.ChangeShapes Go.WideShapes Go.ChangeAt Go.RowKit Go.Ev
set_option linter.unusedVariables false
set_option maxRecDepth 100000
namespace helpOnce
theorem ev (ds:List (D RC)) (h:Fits s25 Kt Tryz.f7.params.toList ds):∃ n,evF s25 uzK n 7 ds = some (.bool true) := by
 rw [Tryz.params7] at h;cases h with
 | cons hf0 hg0 hr0 h =>
 cases h with
 | cons hf1 hg1 hr1 h =>
 cases h with
 | nil =>
  obtain ⟨c0,x0,rfl⟩ := QaD (show s25.ty 22 = .sl 29 .pick by kernel_rfl) hf0 hr0
  obtain ⟨x1,rfl⟩ := QO (show s25.ty 3 = .int .i64 by kernel_rfl) hf1
  have key := Qrp c0 x0 x1 (by rw [Bool.and_eq_true];exact ⟨Qk (show x0.length <= 9223372036854775807 from Nat.le_trans hg0.1 (by decide)),List.all_eq_true.2 fun r hr => by have h9:VP r := hg0.2 r hr;unfold VP at h9;exact Qk (show r.writes.length <= 9223372036854775807 from Nat.le_trans h9.2.2.2.1 (by decide))⟩)
  unfold Qe6 at key;exact ⟨200,key⟩
theorem Qwe (os:Os) (started:os.Started) (H:Type) (enc:TypeId × Value -> H) :
 ReturnsInHanded {} Tryz.checked os 7 .any (Rows.helpOnceSpec.pre6 enc Tryz.prog Tryz.f7 Rows.helpOnceRow.domain false) (Rows.helpOnceSpec.post enc Tryz.prog Tryz.f7 false true false false) := by
 refine returnsInHanded_of_change (C := Tryz.checked) own started (by kernel_rfl) Tryz.func7
  (ChangeSpec.witness6 (enc := enc) (C := Tryz.checked) false ⟨#[],#[.slice none 0 0,.int .i64 0],[]⟩ 7 (by kernel_rfl) (by kernel_rfl) (by kernel_rfl) (by kernel_rfl)) ?_
 intro W base args ds gs before hval hW _ _;refine Qe7 (gA := Kt) (m := 7) Qa Qrn decs Qu2 (tb := 4) (by kernel_rfl) Tryz.underlying4 rfl (by kernel_rfl) ?_ ev H enc W base args ds gs before hval hW
 intro H ds h;rw [Tryz.params7] at h
 match ds,h with
 | [d0,d1],_ => rfl
theorem over:Rows.helpOnceRow.holds Tryz.pinned (OpenSpec.ofChange Rows.helpOnceSpec) :=
 OpenClaim.holds_of_wide 7 Tryz.f7 rfl rfl rfl rfl rfl rfl rfl ⟨rfl,rfl,rfl,rfl,rfl⟩ rfl rfl rfl rfl rfl (by kernel_rfl) Tryz.func7 (by kernel_rfl)
  (of_decide_eq_true (by kernel_rfl)) (by unfold Func.isWrapper;first | (rw [if_pos (by decide +kernel)];kernel_rfl) | (rw [if_neg (by decide +kernel)];exact ⟨rfl,rfl⟩))
  (fun os started H enc _ => Qwe os started H enc)
theorem proved:Rows.HelpOnceSaid := over
end helpOnce
#print axioms helpOnce.proved
end Go.Proofs.YtnopcebdncdbgaaGreat
