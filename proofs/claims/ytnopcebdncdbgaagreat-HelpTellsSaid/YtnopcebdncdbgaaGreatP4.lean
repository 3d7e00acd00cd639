/-
  HelpTells returns true for any record and numbers, and they read behind the call as before. No condition beyond the given statement. (text 5)
-/
import Derived.Test.YtnopcebdncdbgaaGreatP3
import Derived.WalkKit
import Derived.ProofKit
import Derived.OpenShut
import Derived.Test.YtnopcebdncdbgaaGreatRows
namespace Go.Ev
open Go.Proofs Go.ChangeShapes Go.WideShapes Go.ChangeAt Go.RowKit
set_option linter.unusedVariables false
set_option linter.unusedSimpArgs false
set_option maxRecDepth 100000
def goodWrite (x : Write) : Prop := i64 (x.key) ∧ i64 (x.value)
def goodPick (x : Pick) : Prop := i64 (x.client) ∧ i64 (x.do_) ∧ i64 (x.back) ∧ ((x.writes).length ≤ maxLen ∧ ∀ y ∈ (x.writes), goodWrite (y))
def goodSector (x : Sector) : Prop := i64 (x.n) ∧ (x.b).length ≤ maxLen
def goodFrame (x : Frame) : Prop := inK .i8 (x.prog) ∧ i64 (x.at') ∧ ((x.r).length = 96 ∧ ∀ y ∈ (x.r), i64 (y))
def goodTask (x : Task) : Prop := i64 (x.client) ∧ ((x.stack).length ≤ maxLen ∧ ∀ y ∈ (x.stack), goodFrame (y)) ∧ ((x.got).length ≤ maxLen ∧ ∀ y ∈ (x.got), i64 (y)) ∧ True
def goodTry (x : Try) : Prop := i64 (x.place) ∧ i64 (x.start) ∧ ((x.writes).length ≤ maxLen ∧ ∀ y ∈ (x.writes), goodWrite (y))
def goodRec (x : Rec) : Prop := i64 (x.place) ∧ True ∧ ((x.writes).length ≤ maxLen ∧ ∀ y ∈ (x.writes), goodWrite (y))
def goodLine (x : Line) : Prop := i64 (x.offset) ∧ i64 (x.place) ∧ i64 (x.j) ∧ i64 (x.key) ∧ i64 (x.value)
def goodItem (x : Item) : Prop := i64 (x.key) ∧ i64 (x.place) ∧ i64 (x.value)
def rGood : (t : RTy) → RA t → Prop
  | .bool => fun (x : Bool) => True
  | .frame => fun (x : Frame) => goodFrame (x)
  | .int => fun (x : Int) => i64 (x)
  | .item => fun (x : Item) => goodItem (x)
  | .l_u8 => fun (x : List (UInt8)) => ((x).length ≤ maxLen ∧ ∀ y ∈ (x), True)
  | .line => fun (x : Line) => goodLine (x)
  | .pick => fun (x : Pick) => goodPick (x)
  | .recd => fun (x : Rec) => goodRec (x)
  | .sector => fun (x : Sector) => goodSector (x)
  | .task => fun (x : Task) => goodTask (x)
  | .tryd => fun (x : Try) => goodTry (x)
  | .u8 => fun (x : UInt8) => True
  | .write => fun (x : Write) => goodWrite (x)
theorem ty109 : s25.ty 109 = .struct false [3, 3] := by kernel_rfl
theorem ty3 : s25.ty 3 = .int .i64 := by kernel_rfl
theorem asWrite {d : D RC} (hf : fit s25 d (.inl 109) = true) (hg : good rGood d) (hr : d.refs = []) : ∃ x : Write, d = eWrite x ∧ goodWrite x := by
  obtain ⟨d0, r0, rfl, f0, hf⟩ := fit_st ty109 hf
  obtain ⟨d1, r1, rfl, f1, hf⟩ := fit_more hf
  obtain rfl := fit_end hf
  simp only [D.refs, List.append_eq_nil_iff] at hr
  obtain ⟨g0, g1, _⟩ := hg
  obtain ⟨q0, q1, _⟩ := hr
  obtain ⟨n0, rfl⟩ := fit_int ty3 f0
  obtain ⟨n1, rfl⟩ := fit_int ty3 f1
  exact ⟨⟨n0, n1⟩, rfl, i64_of g0, i64_of g1⟩
theorem dWrite_e (x : Write) (hx : goodWrite x) : dWrite (eWrite x) = some x := by
  simp only [goodWrite] at hx
  simp [dWrite, eWrite, D.asList, asArrN, hx]
theorem ty29 : s25.ty 29 = .struct false [3, 3, 3, 27] := by kernel_rfl
theorem ty27 : s25.ty 27 = .sl 109 .write := by kernel_rfl
theorem asPick {d : D RC} (hf : fit s25 d (.inl 29) = true) (hg : good rGood d) (hr : d.refs = []) : ∃ (x : Pick) (c0 : Bool), d = ePickC x c0 ∧ goodPick x := by
  obtain ⟨d0, r0, rfl, f0, hf⟩ := fit_st ty29 hf
  obtain ⟨d1, r1, rfl, f1, hf⟩ := fit_more hf
  obtain ⟨d2, r2, rfl, f2, hf⟩ := fit_more hf
  obtain ⟨d3, r3, rfl, f3, hf⟩ := fit_more hf
  obtain rfl := fit_end hf
  simp only [D.refs, List.append_eq_nil_iff] at hr
  obtain ⟨g0, g1, g2, g3, _⟩ := hg
  obtain ⟨q0, q1, q2, q3, _⟩ := hr
  obtain ⟨n0, rfl⟩ := fit_int ty3 f0
  obtain ⟨n1, rfl⟩ := fit_int ty3 f1
  obtain ⟨n2, rfl⟩ := fit_int ty3 f2
  obtain ⟨k3, n3, rfl⟩ := fit_sl ty27 f3 q3
  exact ⟨⟨n0, n1, n2, n3⟩, k3, rfl, i64_of g0, i64_of g1, i64_of g2, g3⟩
theorem dPick_e (x : Pick) (c0 : Bool) (hx : goodPick x) : dPick (ePickC x c0) = some x := by
  simp only [goodPick] at hx
  simp [dPick, ePickC, D.asList, asArrN, hx]
theorem ty102 : s25.ty 102 = .struct false [3, 9] := by kernel_rfl
theorem ty9 : s25.ty 9 = .str := by kernel_rfl
theorem asSector {d : D RC} (hf : fit s25 d (.inl 102) = true) (hg : good rGood d) (hr : d.refs = []) : ∃ x : Sector, d = eSector x ∧ goodSector x := by
  obtain ⟨d0, r0, rfl, f0, hf⟩ := fit_st ty102 hf
  obtain ⟨d1, r1, rfl, f1, hf⟩ := fit_more hf
  obtain rfl := fit_end hf
  simp only [D.refs, List.append_eq_nil_iff] at hr
  obtain ⟨g0, g1, _⟩ := hg
  obtain ⟨q0, q1, _⟩ := hr
  obtain ⟨n0, rfl⟩ := fit_int ty3 f0
  obtain ⟨n1, rfl⟩ := fit_str ty9 f1
  exact ⟨⟨n0, n1⟩, rfl, i64_of g0, g1⟩
theorem dSector_e (x : Sector) (hx : goodSector x) : dSector (eSector x) = some x := by
  simp only [goodSector] at hx
  simp [dSector, eSector, D.asList, asArrN, hx]
theorem ty84 : s25.ty 84 = .struct false [81, 3, 82] := by kernel_rfl
theorem ty81 : s25.ty 81 = .int .i8 := by kernel_rfl
theorem ty82 : s25.ty 82 = .arr 96 3 .int := by kernel_rfl
theorem asFrame {d : D RC} (hf : fit s25 d (.inl 84) = true) (hg : good rGood d) (hr : d.refs = []) : ∃ x : Frame, d = eFrame x ∧ goodFrame x := by
  obtain ⟨d0, r0, rfl, f0, hf⟩ := fit_st ty84 hf
  obtain ⟨d1, r1, rfl, f1, hf⟩ := fit_more hf
  obtain ⟨d2, r2, rfl, f2, hf⟩ := fit_more hf
  obtain rfl := fit_end hf
  simp only [D.refs, List.append_eq_nil_iff] at hr
  obtain ⟨g0, g1, g2, _⟩ := hg
  obtain ⟨q0, q1, q2, _⟩ := hr
  obtain ⟨n0, rfl⟩ := fit_int ty81 f0
  obtain ⟨n1, rfl⟩ := fit_int ty3 f1
  obtain ⟨n2, rfl⟩ := fit_arr ty82 f2
  exact ⟨⟨n0, n1, n2⟩, rfl, g0, i64_of g1, g2⟩
theorem dFrame_e (x : Frame) (hx : goodFrame x) : dFrame (eFrame x) = some x := by
  simp only [goodFrame] at hx
  simp [dFrame, eFrame, D.asList, asArrN, hx]
theorem ty40 : s25.ty 40 = .struct false [3, 38, 32, 4] := by kernel_rfl
theorem ty38 : s25.ty 38 = .sl 84 .frame := by kernel_rfl
theorem ty32 : s25.ty 32 = .sl 3 .int := by kernel_rfl
theorem ty4 : s25.ty 4 = .bool := by kernel_rfl
theorem asTask {d : D RC} (hf : fit s25 d (.inl 40) = true) (hg : good rGood d) (hr : d.refs = []) : ∃ (x : Task) (c0 c1 : Bool), d = eTaskC x c0 c1 ∧ goodTask x := by
  obtain ⟨d0, r0, rfl, f0, hf⟩ := fit_st ty40 hf
  obtain ⟨d1, r1, rfl, f1, hf⟩ := fit_more hf
  obtain ⟨d2, r2, rfl, f2, hf⟩ := fit_more hf
  obtain ⟨d3, r3, rfl, f3, hf⟩ := fit_more hf
  obtain rfl := fit_end hf
  simp only [D.refs, List.append_eq_nil_iff] at hr
  obtain ⟨g0, g1, g2, g3, _⟩ := hg
  obtain ⟨q0, q1, q2, q3, _⟩ := hr
  obtain ⟨n0, rfl⟩ := fit_int ty3 f0
  obtain ⟨k1, n1, rfl⟩ := fit_sl ty38 f1 q1
  obtain ⟨k2, n2, rfl⟩ := fit_sl ty32 f2 q2
  obtain ⟨n3, rfl⟩ := fit_bool ty4 f3
  exact ⟨⟨n0, n1, n2, n3⟩, k1, k2, rfl, i64_of g0, g1, g2, trivial⟩
theorem dTask_e (x : Task) (c0 c1 : Bool) (hx : goodTask x) : dTask (eTaskC x c0 c1) = some x := by
  simp only [goodTask] at hx
  simp [dTask, eTaskC, D.asList, asArrN, hx]
theorem ty98 : s25.ty 98 = .struct false [3, 3, 27] := by kernel_rfl
theorem asTry {d : D RC} (hf : fit s25 d (.inl 98) = true) (hg : good rGood d) (hr : d.refs = []) : ∃ (x : Try) (c0 : Bool), d = eTryC x c0 ∧ goodTry x := by
  obtain ⟨d0, r0, rfl, f0, hf⟩ := fit_st ty98 hf
  obtain ⟨d1, r1, rfl, f1, hf⟩ := fit_more hf
  obtain ⟨d2, r2, rfl, f2, hf⟩ := fit_more hf
  obtain rfl := fit_end hf
  simp only [D.refs, List.append_eq_nil_iff] at hr
  obtain ⟨g0, g1, g2, _⟩ := hg
  obtain ⟨q0, q1, q2, _⟩ := hr
  obtain ⟨n0, rfl⟩ := fit_int ty3 f0
  obtain ⟨n1, rfl⟩ := fit_int ty3 f1
  obtain ⟨k2, n2, rfl⟩ := fit_sl ty27 f2 q2
  exact ⟨⟨n0, n1, n2⟩, k2, rfl, i64_of g0, i64_of g1, g2⟩
theorem dTry_e (x : Try) (c0 : Bool) (hx : goodTry x) : dTry (eTryC x c0) = some x := by
  simp only [goodTry] at hx
  simp [dTry, eTryC, D.asList, asArrN, hx]
theorem ty56 : s25.ty 56 = .struct false [3, 4, 27] := by kernel_rfl
theorem asRec {d : D RC} (hf : fit s25 d (.inl 56) = true) (hg : good rGood d) (hr : d.refs = []) : ∃ (x : Rec) (c0 : Bool), d = eRecC x c0 ∧ goodRec x := by
  obtain ⟨d0, r0, rfl, f0, hf⟩ := fit_st ty56 hf
  obtain ⟨d1, r1, rfl, f1, hf⟩ := fit_more hf
  obtain ⟨d2, r2, rfl, f2, hf⟩ := fit_more hf
  obtain rfl := fit_end hf
  simp only [D.refs, List.append_eq_nil_iff] at hr
  obtain ⟨g0, g1, g2, _⟩ := hg
  obtain ⟨q0, q1, q2, _⟩ := hr
  obtain ⟨n0, rfl⟩ := fit_int ty3 f0
  obtain ⟨n1, rfl⟩ := fit_bool ty4 f1
  obtain ⟨k2, n2, rfl⟩ := fit_sl ty27 f2 q2
  exact ⟨⟨n0, n1, n2⟩, k2, rfl, i64_of g0, trivial, g2⟩
theorem dRec_e (x : Rec) (c0 : Bool) (hx : goodRec x) : dRec (eRecC x c0) = some x := by
  simp only [goodRec] at hx
  simp [dRec, eRecC, D.asList, asArrN, hx]
theorem ty115 : s25.ty 115 = .struct false [3, 3, 3, 3, 3] := by kernel_rfl
theorem asLine {d : D RC} (hf : fit s25 d (.inl 115) = true) (hg : good rGood d) (hr : d.refs = []) : ∃ x : Line, d = eLine x ∧ goodLine x := by
  obtain ⟨d0, r0, rfl, f0, hf⟩ := fit_st ty115 hf
  obtain ⟨d1, r1, rfl, f1, hf⟩ := fit_more hf
  obtain ⟨d2, r2, rfl, f2, hf⟩ := fit_more hf
  obtain ⟨d3, r3, rfl, f3, hf⟩ := fit_more hf
  obtain ⟨d4, r4, rfl, f4, hf⟩ := fit_more hf
  obtain rfl := fit_end hf
  simp only [D.refs, List.append_eq_nil_iff] at hr
  obtain ⟨g0, g1, g2, g3, g4, _⟩ := hg
  obtain ⟨q0, q1, q2, q3, q4, _⟩ := hr
  obtain ⟨n0, rfl⟩ := fit_int ty3 f0
  obtain ⟨n1, rfl⟩ := fit_int ty3 f1
  obtain ⟨n2, rfl⟩ := fit_int ty3 f2
  obtain ⟨n3, rfl⟩ := fit_int ty3 f3
  obtain ⟨n4, rfl⟩ := fit_int ty3 f4
  exact ⟨⟨n0, n1, n2, n3, n4⟩, rfl, i64_of g0, i64_of g1, i64_of g2, i64_of g3, i64_of g4⟩
theorem dLine_e (x : Line) (hx : goodLine x) : dLine (eLine x) = some x := by
  simp only [goodLine] at hx
  simp [dLine, eLine, D.asList, asArrN, hx]
theorem ty61 : s25.ty 61 = .struct false [3, 3, 3] := by kernel_rfl
theorem asItem {d : D RC} (hf : fit s25 d (.inl 61) = true) (hg : good rGood d) (hr : d.refs = []) : ∃ x : Item, d = eItem x ∧ goodItem x := by
  obtain ⟨d0, r0, rfl, f0, hf⟩ := fit_st ty61 hf
  obtain ⟨d1, r1, rfl, f1, hf⟩ := fit_more hf
  obtain ⟨d2, r2, rfl, f2, hf⟩ := fit_more hf
  obtain rfl := fit_end hf
  simp only [D.refs, List.append_eq_nil_iff] at hr
  obtain ⟨g0, g1, g2, _⟩ := hg
  obtain ⟨q0, q1, q2, _⟩ := hr
  obtain ⟨n0, rfl⟩ := fit_int ty3 f0
  obtain ⟨n1, rfl⟩ := fit_int ty3 f1
  obtain ⟨n2, rfl⟩ := fit_int ty3 f2
  exact ⟨⟨n0, n1, n2⟩, rfl, i64_of g0, i64_of g1, i64_of g2⟩
theorem dItem_e (x : Item) (hx : goodItem x) : dItem (eItem x) = some x := by
  simp only [goodItem] at hx
  simp [dItem, eItem, D.asList, asArrN, hx]
theorem ty107 : s25.ty 107 = .sl 5 .u8 := by kernel_rfl
theorem ty5 : s25.ty 5 = .int .u8 := by kernel_rfl
theorem decs : Dec s25 rGood where
  dec t d hf hr hg _ := by
    cases t with
    | bool =>
      obtain ⟨n, rfl⟩ := fit_bool ty4 hf
      exact ⟨n, rfl, trivial⟩
    | frame =>
      obtain ⟨x, rfl, hx⟩ := asFrame hf hg hr
      exact ⟨x, dFrame_e x hx, hx⟩
    | int =>
      obtain ⟨n, rfl⟩ := fit_int ty3 hf
      exact ⟨n, by simp [s25, mkTab, rCod, rDec, dIntK], i64_of hg⟩
    | item =>
      obtain ⟨x, rfl, hx⟩ := asItem hf hg hr
      exact ⟨x, dItem_e x hx, hx⟩
    | l_u8 =>
      obtain ⟨c, n, rfl⟩ := fit_sl ty107 hf hr
      exact ⟨n, by simp [s25, mkTab, rCod, rDec, D.asList], hg⟩
    | line =>
      obtain ⟨x, rfl, hx⟩ := asLine hf hg hr
      exact ⟨x, dLine_e x hx, hx⟩
    | pick =>
      obtain ⟨x, c0, rfl, hx⟩ := asPick hf hg hr
      exact ⟨x, dPick_e x c0 hx, hx⟩
    | recd =>
      obtain ⟨x, c0, rfl, hx⟩ := asRec hf hg hr
      exact ⟨x, dRec_e x c0 hx, hx⟩
    | sector =>
      obtain ⟨x, rfl, hx⟩ := asSector hf hg hr
      exact ⟨x, dSector_e x hx, hx⟩
    | task =>
      obtain ⟨x, c0, c1, rfl, hx⟩ := asTask hf hg hr
      exact ⟨x, dTask_e x c0 c1 hx, hx⟩
    | tryd =>
      obtain ⟨x, c0, rfl, hx⟩ := asTry hf hg hr
      exact ⟨x, dTry_e x c0 hx, hx⟩
    | u8 =>
      obtain ⟨n, rfl⟩ := fit_int ty5 hf
      exact ⟨_, rfl, trivial⟩
    | write =>
      obtain ⟨x, rfl, hx⟩ := asWrite hf hg hr
      exact ⟨x, dWrite_e x hx, hx⟩
theorem own : ownKnob Tryz.prog.godebug = none := by kernel_rfl
theorem laidOut : laidOutB Tryz.prog = true := by kernel_rfl
end Go.Ev

namespace Go.Proofs.YtnopcebdncdbgaaGreat
open Go.ChangeShapes Go.WideShapes Go.ChangeAt Go.RowKit Go.Ev
set_option linter.unusedVariables false
set_option maxRecDepth 100000
namespace helpTells
theorem ev (ds : List (D RC)) (h : Fits s25 rGood Tryz.f6.params.toList ds) : ∃ n, evF s25 u1_5 n 6 ds = some (.bool true) := by
  rw [Tryz.params6] at h
  cases h with
  | cons hf0 hg0 hr0 h =>
  cases h with
  | cons hf1 hg1 hr1 h =>
  cases h with
  | cons hf2 hg2 hr2 h =>
  cases h with
  | nil =>
    obtain ⟨a, ac, rfl, oa⟩ := asRec hf0 hg0 hr0
    obtain ⟨n, rfl⟩ := fit_int (show s25.ty 3 = .int .i64 by kernel_rfl) hf1
    obtain ⟨m, rfl⟩ := fit_int (show s25.ty 3 = .int .i64 by kernel_rfl) hf2
    have key := tells25_ok a.place a.yes ac a.writes n m ?_
    · unfold tells25_e at key
      refine ⟨100, ?_⟩
      simp only [eRecC]
      exact key
    have h1 := oa.2.2.1
    simp only [lenOK_of h1]
theorem lifted (os : Os) (started : os.Started) (H : Type) (enc : TypeId × Value → H) :
    ReturnsInHanded {} Tryz.checked os 6 .any (Rows.helpTellsSpec.pre6 enc Tryz.prog Tryz.f6 Rows.helpTellsRow.domain false) (Rows.helpTellsSpec.post enc Tryz.prog Tryz.f6 false true false false) := by
  refine returnsInHanded_of_change (C := Tryz.checked) own started (by kernel_rfl) Tryz.func6
    (ChangeSpec.witness6 (enc := enc) (C := Tryz.checked) false ⟨#[], #[.agg #[.int .i64 0, .bool false, .slice none 0 0], .int .i64 0, .int .i64 0], []⟩ 8 (by kernel_rfl) (by kernel_rfl) (by kernel_rfl) (by kernel_rfl)) ?_
  intro W base args ds gs before hval hW _ _
  refine contract_of (gA := rGood) (m := 8) s25_laws u1_5_laws decs laidOut (tb := 4) (by kernel_rfl) Tryz.underlying4 rfl (by kernel_rfl) ?_ ev H enc W base args ds gs before hval hW
  intro H ds h
  rw [Tryz.params6] at h
  match ds, h with
  | [d0, d1, d2], _ => rfl
theorem over : Rows.helpTellsRow.holds Tryz.pinned (OpenSpec.ofChange Rows.helpTellsSpec) :=
  OpenClaim.holds_of_wide 6 Tryz.f6 rfl rfl rfl rfl rfl rfl rfl ⟨rfl, rfl, rfl, rfl, rfl⟩ rfl rfl rfl rfl rfl (by kernel_rfl) Tryz.func6 (by kernel_rfl)
    (of_decide_eq_true (by kernel_rfl)) (by unfold Func.isWrapper; first | (rw [if_pos (by decide +kernel)]; kernel_rfl) | (rw [if_neg (by decide +kernel)]; exact ⟨rfl, rfl⟩))
    (fun os started H enc _ => lifted os started H enc)
theorem proved : Rows.HelpTellsSaid := over
end helpTells
#print axioms helpTells.proved
end Go.Proofs.YtnopcebdncdbgaaGreat
