import Derived.Test.YtnphmfcnnpoinaaTab05
import Derived.Test.YtnphmfcnnpoinaaRec
import Derived.Test.YtnphmfcnnpoinaaDec
import Derived.WalkKit
import Derived.ProofKit
import Derived.OpenShut
namespace Go.Proofs.Ytnphmfcnnpoinaa
open Go.ChangeShapes Go.WideShapes Go.ChangeAt Go.RowKit Go.Ev
set_option linter.unusedVariables false
set_option maxRecDepth 100000
theorem etys : Etys s05 s05Ety := ⟨by kernel_rfl, by kernel_rfl, by kernel_rfl, ⟨3, 3, by kernel_rfl, by kernel_rfl, by kernel_rfl⟩, ⟨3, 3, 3, by kernel_rfl, by kernel_rfl, by kernel_rfl, by kernel_rfl⟩,
  ⟨3, 3, 3, 3, 3, by kernel_rfl, by kernel_rfl, by kernel_rfl, by kernel_rfl, by kernel_rfl, by kernel_rfl⟩, ⟨38, by kernel_rfl⟩⟩
theorem decs : Dec s05 rGood := rDecs rfl rfl etys
theorem own : ownKnob Try.prog.godebug = none := by kernel_rfl
theorem laidOut : laidOutB Try.prog = true := by kernel_rfl
theorem ty3 : s05.ty 3 = .int .i64 := by kernel_rfl
theorem ty4 : s05.ty 4 = .bool := by kernel_rfl
theorem ty22 : s05.ty 22 = .sl 41 .write := by kernel_rfl
theorem ty27 : s05.ty 27 = .struct [3, 4, 22] := by kernel_rfl
theorem ty28 : s05.ty 28 = .sl 36 .item := by kernel_rfl
theorem ty30 : s05.ty 30 = .arr 3 29 .lines := by kernel_rfl
theorem ty31 : s05.ty 31 = .arr 3 3 .int := by kernel_rfl
theorem ty33 : s05.ty 33 = .struct [3, 28, 30, 31] := by kernel_rfl
theorem ty41 : s05.ty 41 = .struct [3, 3] := by kernel_rfl
theorem ty42 : s05.ty 42 = .sl 5 .u8 := by kernel_rfl

def okSt (s : St) : Prop := i64 s.place ∧ s.items.length ≤ maxLen ∧ (∀ x ∈ s.items, rGood .item x) ∧ (s.l0.length ≤ maxLen ∧ ∀ x ∈ s.l0, goodL x) ∧ (s.l1.length ≤ maxLen ∧ ∀ x ∈ s.l1, goodL x) ∧ (s.l2.length ≤ maxLen ∧ ∀ x ∈ s.l2, goodL x) ∧ i64 s.c0 ∧ i64 s.c1 ∧ i64 s.c2
theorem three {α : Type} {l : List α} (h : l.length = 3) : ∃ a b c, l = [a, b, c] := by
  match l, h with
  | [a, b, c], _ => exact ⟨a, b, c, rfl⟩
theorem asState {d : D RC} (hf : fit s05 d (.inl 33) = true) (hg : good rGood d) (hr : d.refs = []) : ∃ s ci, d = stD s ci ∧ okSt s := by
  obtain ⟨a, b, rfl, f1, f2⟩ := fit_st ty33 hf
  obtain ⟨n, rfl⟩ := fit_int ty3 f1
  obtain ⟨b, c, rfl, f3, f4⟩ := fit_more f2
  simp only [D.refs, List.append_eq_nil_iff] at hr
  obtain ⟨ci, l, rfl⟩ := fit_sl ty28 f3 hr.2.1
  obtain ⟨c, e, rfl, f5, f6⟩ := fit_more f4
  obtain ⟨ls, rfl⟩ := fit_arr ty30 f5
  obtain ⟨e, f, rfl, f7, f8⟩ := fit_more f6
  obtain ⟨cs, rfl⟩ := fit_arr ty31 f7
  obtain rfl := fit_end f8
  obtain ⟨g1, ⟨g2, g3⟩, ⟨g4, g5⟩, ⟨g6, g7⟩, _⟩ := hg
  obtain ⟨l0, l1, l2, rfl⟩ := three g4
  obtain ⟨c0, c1, c2, rfl⟩ := three g6
  simp only [List.mem_cons, forall_eq_or_imp, List.not_mem_nil, false_implies, implies_true, and_true] at g5 g7
  exact ⟨⟨n, l, l0, l1, l2, c0, c1, c2⟩, ci, rfl, i64_of g1, g2, g3, g5.1, g5.2.1, g5.2.2, g7.1, g7.2.1, g7.2.2⟩
def okRec (r : Rec) : Prop := i64 r.place ∧ r.writes.length ≤ maxLen ∧ ∀ x ∈ r.writes, rGood .write x
theorem asRec {d : D RC} (hf : fit s05 d (.inl 27) = true) (hg : good rGood d) (hr : d.refs = []) : ∃ r c, d = recD r c ∧ okRec r := by
  obtain ⟨a, b, rfl, f1, f2⟩ := fit_st ty27 hf
  obtain ⟨n, rfl⟩ := fit_int ty3 f1
  obtain ⟨b, c, rfl, f3, f4⟩ := fit_more f2
  obtain ⟨y, rfl⟩ := fit_bool ty4 f3
  obtain ⟨c, e, rfl, f5, f6⟩ := fit_more f4
  simp only [D.refs, List.append_eq_nil_iff] at hr
  obtain ⟨ci, l, rfl⟩ := fit_sl ty22 f5 hr.2.2.1
  obtain rfl := fit_end f6
  obtain ⟨g1, _, ⟨g2, g3⟩, _⟩ := hg
  exact ⟨⟨n, y, l⟩, ci, rfl, i64_of g1, g2, g3⟩
theorem asWrite {d : D RC} (hf : fit s05 d (.inl 41) = true) (hg : good rGood d) : ∃ k v, d = .acons (.int .i64 k) (.acons (.int .i64 v) .anil) ∧ i64 k ∧ i64 v := by
  obtain ⟨a, b, rfl, f1, f2⟩ := fit_st ty41 hf
  obtain ⟨n, rfl⟩ := fit_int ty3 f1
  obtain ⟨b, c, rfl, f3, f4⟩ := fit_more f2
  obtain ⟨m, rfl⟩ := fit_int ty3 f3
  obtain rfl := fit_end f4
  obtain ⟨g1, g2, _⟩ := hg
  exact ⟨n, m, rfl, i64_of g1, i64_of g2⟩
end Go.Proofs.Ytnphmfcnnpoinaa
