/-
  RecordTells returns true for all records and states, and all read behind the call as before. No condition beyond the given statement. (text 4 of 5)
-/
import Derived.Test.YtnphmfcnnpoinaaP2
namespace Go.Ev
open Go.Proofs
set_option maxRecDepth 100000
set_option linter.unusedVariables false
set_option linter.unusedSimpArgs false
/-! ### loop sbItems: flume/record.StateBytes, region 7 -/
structure sbItems_St where
  cp : Bool
  bs : List UInt8
  c : Bool
  l : List Item
  i : Nat
def sbItems_c (cp : Bool) (bs : List UInt8) (c : Bool) (l : List Item) (i : Nat) : Env RC := [(4, .ptr 0 []), (27, .sl (C := RC) .item c l), (28, .int .i64 (l.length)), (29, .int .i64 (i : Int))]
def sbItems_o (cp : Bool) (bs : List UInt8) (c : Bool) (l : List Item) (i : Nat) : List (Obj RC) := [.var 70 (.acons (.sl (C := RC) .u8 cp bs) .anil)]
noncomputable def sbItems_r (cp : Bool) (bs : List UInt8) (c : Bool) (l : List Item) (i : Nat) := rndO s05 uc_3 24 7 40 1 [4, 27, 28, 29] [] [.slot 4 0] (sbItems_c cp bs c l i) (sbItems_o cp bs c l i)
theorem sbItems_eq (cp : Bool) (bs : List UInt8) (c : Bool) (l : List Item) (i : Nat) : sbItems_r cp bs c l i = (bif Decidable.decide ((↑i : Int) < (↑(List.length l) : Int)) then bif Decidable.decide ((0 : Int) ≤ (↑i : Int) ∧ (↑i : Int) < (↑(List.length l) : Int)) then bif Decidable.decide (List.length bs ≤ (1000000000 : Nat)) then bif Decidable.decide (List.length (Go.Ev.putL bs (Go.Ev.Item.key (List.getD l (Int.toNat (↑i : Int)) (Go.Ev.Item.mk (0 : Int) (0 : Int) (0 : Int)))) (1 : Nat)) ≤ (1000000000 : Nat)) then bif Decidable.decide (List.length (Go.Ev.putL (Go.Ev.putL bs (Go.Ev.Item.key (List.getD l (Int.toNat (↑i : Int)) (Go.Ev.Item.mk (0 : Int) (0 : Int) (0 : Int)))) (1 : Nat)) (Go.Ev.Item.place (List.getD l (Int.toNat (↑i : Int)) (Go.Ev.Item.mk (0 : Int) (0 : Int) (0 : Int)))) (3 : Nat)) ≤ (1000000000 : Nat)) then Option.some ((Go.Ev.X.normal, [((4 : Nat), Go.Ev.D.ptr (0 : Nat) []), ((27 : Nat), Go.Ev.D.sl Go.Ev.RTy.item c l), ((28 : Nat), Go.Ev.D.int Go.IntKind.i64 (↑(List.length l) : Int)), ((29 : Nat), Go.Ev.D.int Go.IntKind.i64 (Go.IntKind.wrap Go.IntKind.i64 ((↑i : Int) + (1 : Int))))]), [Option.some (Go.Ev.Obj.var (70 : Nat) (Go.Ev.D.acons (Go.Ev.D.sl Go.Ev.RTy.u8 (!Go.Ev.fitsB (Go.Ev.Item.value (List.getD l (Int.toNat (↑i : Int)) (Go.Ev.Item.mk (0 : Int) (0 : Int) (0 : Int)))) (1 : Nat)) (Go.Ev.putL (Go.Ev.putL (Go.Ev.putL bs (Go.Ev.Item.key (List.getD l (Int.toNat (↑i : Int)) (Go.Ev.Item.mk (0 : Int) (0 : Int) (0 : Int)))) (1 : Nat)) (Go.Ev.Item.place (List.getD l (Int.toNat (↑i : Int)) (Go.Ev.Item.mk (0 : Int) (0 : Int) (0 : Int)))) (3 : Nat)) (Go.Ev.Item.value (List.getD l (Int.toNat (↑i : Int)) (Go.Ev.Item.mk (0 : Int) (0 : Int) (0 : Int)))) (1 : Nat))) Go.Ev.D.anil))]) else Option.none else Option.none else Option.none else Option.none else Option.some ((Go.Ev.X.exit (0 : Nat), []), [Option.some (Go.Ev.Obj.var (70 : Nat) (Go.Ev.D.acons (Go.Ev.D.sl Go.Ev.RTy.u8 cp bs) Go.Ev.D.anil))])) := by kernel_rfl
def sbItems_fin (cp : Bool) (bs : List UInt8) (c : Bool) (l : List Item) (i : Nat) : RT RC := .leaf (.exit 0) [] [.var 70 (.acons (.sl (C := RC) .u8 (cp && (l.drop i).isEmpty) (bs ++ (l.drop i).flatMap iBytes)) .anil)]
def sbItems_Inv (cp : Bool) (bs : List UInt8) (c : Bool) (l : List Item) (i : Nat) : Prop := i ≤ l.length ∧ l.length ≤ 1000000 ∧ bs.length ≤ 1000000 + 5 * i ∧ l.all fitI = true
def sbItems_S : LoopR RC sbItems_St where
  k := 1
  canon q := sbItems_c q.cp q.bs q.c q.l q.i
  objs q := sbItems_o q.cp q.bs q.c q.l q.i
  fin q := sbItems_fin q.cp q.bs q.c q.l q.i
  Inv q := sbItems_Inv q.cp q.bs q.c q.l q.i
  μ q := q.l.length - q.i
theorem sbItems_round (cp : Bool) (bs : List UInt8) (c : Bool) (l : List Item) (i : Nat) (hI : sbItems_Inv cp bs c l i) : Leaf (sbItems_r cp bs c l i) (LedR sbItems_S ⟨cp, bs, c, l, i⟩) := by
  rw [sbItems_eq]
  unfold sbItems_Inv at hI
  obtain ⟨h1, h2, h3, h4⟩ := hI
  by_cases hlt : i < l.length
  · have w_succ : IntKind.i64.wrap ((i : Int) + 1) = ((i + 1 : Nat) : Int) := by rw [wrap_id (by omega) (by omega)]; simp
    have d_lt : decide ((i : Int) < l.length) = true := by simp; omega
    have d_in : decide (0 ≤ (i : Int) ∧ (i : Int) < l.length) = true := by simp; omega
    have t_nat : ((i : Int)).toNat = i := by simp
    simp only [w_succ, d_lt, d_in, t_nat, cond_true]
    have hf := all_getD h4 hlt (⟨0, 0, 0⟩ : Item)
    have hd : (l.drop i).flatMap iBytes = _ := flatMap_drop_succ l i iBytes hlt (⟨0, 0, 0⟩ : Item)
    have he : (l.drop i).isEmpty = false := by simp; omega
    generalize l.getD i (⟨0, 0, 0⟩ : Item) = x at hf hd ⊢
    simp only [fitI, Bool.and_eq_true] at hf
    obtain ⟨⟨f1, f2⟩, f3⟩ := hf
    have n1 : decide (bs.length ≤ 1000000000) = true := decide_eq_true (by omega)
    have n2 : decide ((bs ++ leB x.key 1).length ≤ 1000000000) = true := decide_eq_true (by simp [leB_length]; omega)
    have n3 : decide ((bs ++ leB x.key 1 ++ leB x.place 3).length ≤ 1000000000) = true := decide_eq_true (by simp [leB_length]; omega)
    simp only [Int.toNat_one, show Int.toNat 3 = 3 from rfl, putL_fits (fits1 f1), putL_fits (fits3 f2), putL_fits (fits1 f3), fits1 f1, fits3 f2, fits1 f3, n1, n2, n3, cond_true, Bool.not_true]
    refine leafR_go ⟨false, bs ++ leB x.key 1 ++ leB x.place 3 ++ leB x.value 1, c, l, i + 1⟩ ⟨hlt, h2, by simp [leB_length]; omega, h4⟩ (by simp only [sbItems_S]; omega) ?_ rfl rfl
    simp [sbItems_S, sbItems_fin, hd, he, iBytes, RT.val]
  · have hi : i = l.length := by omega
    have c1 : decide ((i : Int) < l.length) = false := by simp; omega
    rw [c1]
    exact leafR_exit (sbItems_o cp bs c l i) (by simp [sbItems_S, sbItems_fin, sbItems_o, hi, RT.val]) rfl
def sbItems_d (env : Env RC) (os : List (Obj RC)) : Option (Bool × sbItems_St) := match env, os with
  | [(4, .ptr 0 []), (27, .sl .item c l), (28, .int .i64 x0), (29, .int .i64 x1)], [.var 70 (.acons (.sl .u8 cp bs) .anil)] => staticD (true) (decide (x0 = l.length) && decide (x1 = 0) && decide (l.length ≤ 1000000 ∧ bs.length ≤ 1000000) && l.all fitI, ⟨cp, bs, c, l, 0⟩)
  | _, _ => none
noncomputable def ud_1 := uc_3.addLoop 24 7 (sumR s05 [.slot 4 0] [4, 27, 28, 29] sbItems_S sbItems_d)
theorem ud_1_laws : FLaws Try.prog s05 ud_1 := by
  refine uc_3_laws.addRoundsR s05_laws (by kernel_rfl) sbItems_S 40 [4, 27, 28, 29] [] [.slot 4 0] [4, 27, 28, 29] sbItems_d (fun q hI => ?_) ?_
  · obtain ⟨cp, bs, c, l, i⟩ := q
    refine ⟨?_, ?_, sbItems_round cp bs c l i hI⟩
    · simp_all [RefsOK, sbItems_S, sbItems_c, sbItems_o, sbItems_Inv, D.refs, Obj.refs, rEnc]
    · simp_all [sbItems_S, sbItems_fin, sbItems_o, sbItems_Inv, RT.refsOK, RefsOK, D.refs, Obj.refs, rEnc]
  · intro env os b q hd_ hb
    unfold sbItems_d at hd_
    split at hd_
    · obtain ⟨hs, hd_⟩ := staticD_some hd_
      cases hd_
      simp only [Bool.and_eq_true, decide_eq_true_eq] at hb
      obtain ⟨⟨⟨rfl, rfl⟩, hl⟩, ha⟩ := hb
      exact ⟨⟨Nat.zero_le _, hl.1, Nat.le_trans hl.2 (Nat.le_add_right _ _), ha⟩, rfl, rfl⟩
    · cases hd_
/-! ### loop sbLines: flume/record.StateBytes, region 23 -/
structure sbLines_St where
  cp : Bool
  bs : List UInt8
  c : Bool
  l : List Line
  i : Nat
def sbLines_c (cp : Bool) (bs : List UInt8) (c : Bool) (l : List Line) (i : Nat) : Env RC := [(4, .ptr 0 []), (72, .sl (C := RC) .line c l), (73, .int .i64 (l.length)), (74, .int .i64 (i : Int))]
def sbLines_o (cp : Bool) (bs : List UInt8) (c : Bool) (l : List Line) (i : Nat) : List (Obj RC) := [.var 70 (.acons (.sl (C := RC) .u8 cp bs) .anil)]
noncomputable def sbLines_r (cp : Bool) (bs : List UInt8) (c : Bool) (l : List Line) (i : Nat) := rndO s05 ud_1 24 23 40 1 [4, 72, 73, 74] [] [.slot 4 0] (sbLines_c cp bs c l i) (sbLines_o cp bs c l i)
theorem sbLines_eq (cp : Bool) (bs : List UInt8) (c : Bool) (l : List Line) (i : Nat) : sbLines_r cp bs c l i = (bif Decidable.decide ((↑i : Int) < (↑(List.length l) : Int)) then bif Decidable.decide ((0 : Int) ≤ (↑i : Int) ∧ (↑i : Int) < (↑(List.length l) : Int)) then bif Decidable.decide (List.length bs ≤ (1000000000 : Nat)) then bif Decidable.decide (List.length (Go.Ev.putL bs (Go.Ev.Line.place (List.getD l (Int.toNat (↑i : Int)) (Go.Ev.Line.mk (0 : Int) (0 : Int) (0 : Int) (0 : Int) (0 : Int)))) (3 : Nat)) ≤ (1000000000 : Nat)) then bif Decidable.decide (List.length (Go.Ev.putL (Go.Ev.putL bs (Go.Ev.Line.place (List.getD l (Int.toNat (↑i : Int)) (Go.Ev.Line.mk (0 : Int) (0 : Int) (0 : Int) (0 : Int) (0 : Int)))) (3 : Nat)) (Go.Ev.bits Go.IntKind.i64 (fun (x : Nat) (u v : BitVec x) => u ||| v) (Go.IntKind.wrap Go.IntKind.i64 (Go.Ev.Line.key (List.getD l (Int.toNat (↑i : Int)) (Go.Ev.Line.mk (0 : Int) (0 : Int) (0 : Int) (0 : Int) (0 : Int))) * (16 : Int))) (Go.Ev.Line.j (List.getD l (Int.toNat (↑i : Int)) (Go.Ev.Line.mk (0 : Int) (0 : Int) (0 : Int) (0 : Int) (0 : Int))))) (1 : Nat)) ≤ (1000000000 : Nat)) then Option.some ((Go.Ev.X.normal, [((4 : Nat), Go.Ev.D.ptr (0 : Nat) []), ((72 : Nat), Go.Ev.D.sl Go.Ev.RTy.line c l), ((73 : Nat), Go.Ev.D.int Go.IntKind.i64 (↑(List.length l) : Int)), ((74 : Nat), Go.Ev.D.int Go.IntKind.i64 (Go.IntKind.wrap Go.IntKind.i64 ((↑i : Int) + (1 : Int))))]), [Option.some (Go.Ev.Obj.var (70 : Nat) (Go.Ev.D.acons (Go.Ev.D.sl Go.Ev.RTy.u8 (!Go.Ev.fitsB (Go.Ev.Line.value (List.getD l (Int.toNat (↑i : Int)) (Go.Ev.Line.mk (0 : Int) (0 : Int) (0 : Int) (0 : Int) (0 : Int)))) (1 : Nat)) (Go.Ev.putL (Go.Ev.putL (Go.Ev.putL bs (Go.Ev.Line.place (List.getD l (Int.toNat (↑i : Int)) (Go.Ev.Line.mk (0 : Int) (0 : Int) (0 : Int) (0 : Int) (0 : Int)))) (3 : Nat)) (Go.Ev.bits Go.IntKind.i64 (fun (x : Nat) (u v : BitVec x) => u ||| v) (Go.IntKind.wrap Go.IntKind.i64 (Go.Ev.Line.key (List.getD l (Int.toNat (↑i : Int)) (Go.Ev.Line.mk (0 : Int) (0 : Int) (0 : Int) (0 : Int) (0 : Int))) * (16 : Int))) (Go.Ev.Line.j (List.getD l (Int.toNat (↑i : Int)) (Go.Ev.Line.mk (0 : Int) (0 : Int) (0 : Int) (0 : Int) (0 : Int))))) (1 : Nat)) (Go.Ev.Line.value (List.getD l (Int.toNat (↑i : Int)) (Go.Ev.Line.mk (0 : Int) (0 : Int) (0 : Int) (0 : Int) (0 : Int)))) (1 : Nat))) Go.Ev.D.anil))]) else Option.none else Option.none else Option.none else Option.none else Option.some ((Go.Ev.X.exit (4 : Nat), []), [Option.some (Go.Ev.Obj.var (70 : Nat) (Go.Ev.D.acons (Go.Ev.D.sl Go.Ev.RTy.u8 cp bs) Go.Ev.D.anil))])) := by kernel_rfl
def sbLines_fin (cp : Bool) (bs : List UInt8) (c : Bool) (l : List Line) (i : Nat) : RT RC := .leaf (.exit 4) [] [.var 70 (.acons (.sl (C := RC) .u8 (cp && (l.drop i).isEmpty) (bs ++ (l.drop i).flatMap lBytes)) .anil)]
def sbLines_Inv (cp : Bool) (bs : List UInt8) (c : Bool) (l : List Line) (i : Nat) : Prop := i ≤ l.length ∧ l.length ≤ 1000000 ∧ bs.length ≤ 1000000 + 5 * i ∧ l.all fitLn = true
def sbLines_S : LoopR RC sbLines_St where
  k := 1
  canon q := sbLines_c q.cp q.bs q.c q.l q.i
  objs q := sbLines_o q.cp q.bs q.c q.l q.i
  fin q := sbLines_fin q.cp q.bs q.c q.l q.i
  Inv q := sbLines_Inv q.cp q.bs q.c q.l q.i
  μ q := q.l.length - q.i
theorem sbLines_round (cp : Bool) (bs : List UInt8) (c : Bool) (l : List Line) (i : Nat) (hI : sbLines_Inv cp bs c l i) : Leaf (sbLines_r cp bs c l i) (LedR sbLines_S ⟨cp, bs, c, l, i⟩) := by
  rw [sbLines_eq]
  unfold sbLines_Inv at hI
  obtain ⟨h1, h2, h3, h4⟩ := hI
  by_cases hlt : i < l.length
  · have w_succ : IntKind.i64.wrap ((i : Int) + 1) = ((i + 1 : Nat) : Int) := by rw [wrap_id (by omega) (by omega)]; simp
    have d_lt : decide ((i : Int) < l.length) = true := by simp; omega
    have d_in : decide (0 ≤ (i : Int) ∧ (i : Int) < l.length) = true := by simp; omega
    have t_nat : ((i : Int)).toNat = i := by simp
    simp only [w_succ, d_lt, d_in, t_nat, cond_true]
    have hf := all_getD h4 hlt (⟨0, 0, 0, 0, 0⟩ : Line)
    have hd : (l.drop i).flatMap lBytes = _ := flatMap_drop_succ l i lBytes hlt (⟨0, 0, 0, 0, 0⟩ : Line)
    have he : (l.drop i).isEmpty = false := by simp; omega
    generalize l.getD i (⟨0, 0, 0, 0, 0⟩ : Line) = x at hf hd ⊢
    simp only [fitLn, Bool.and_eq_true] at hf
    obtain ⟨⟨⟨f1, f2⟩, f3⟩, f4⟩ := hf
    have f5 : withinB (x.key * 16 + x.j) 0 255 = true := by rw [withinB_iff] at f2 f3 ⊢; omega
    have n1 : decide (bs.length ≤ 1000000000) = true := decide_eq_true (by omega)
    have n2 : decide ((bs ++ leB x.place 3).length ≤ 1000000000) = true := decide_eq_true (by simp [leB_length]; omega)
    have n3 : decide ((bs ++ leB x.place 3 ++ leB (x.key * 16 + x.j) 1).length ≤ 1000000000) = true := decide_eq_true (by simp [leB_length]; omega)
    have hb : bits .i64 (fun _ u v => u ||| v) (IntKind.i64.wrap (x.key * 16)) x.j = x.key * 16 + x.j := bits_or_low f2 f3
    simp only [hb, Int.toNat_one, show Int.toNat 3 = 3 from rfl, putL_fits (fits3 f1), putL_fits (fits1 f5), putL_fits (fits1 f4), fits3 f1, fits1 f5, fits1 f4, n1, n2, n3, cond_true, Bool.not_true]
    refine leafR_go ⟨false, bs ++ leB x.place 3 ++ leB (x.key * 16 + x.j) 1 ++ leB x.value 1, c, l, i + 1⟩ ⟨hlt, h2, by simp [leB_length]; omega, h4⟩ (by simp only [sbLines_S]; omega) ?_ rfl rfl
    simp [sbLines_S, sbLines_fin, hd, he, lBytes, RT.val]
  · have hi : i = l.length := by omega
    have c1 : decide ((i : Int) < l.length) = false := by simp; omega
    rw [c1]
    exact leafR_exit (sbLines_o cp bs c l i) (by simp [sbLines_S, sbLines_fin, sbLines_o, hi, RT.val]) rfl
def sbLines_d (env : Env RC) (os : List (Obj RC)) : Option (Bool × sbLines_St) := match env, os with
  | [(4, .ptr 0 []), (72, .sl .line c l), (73, .int .i64 x0), (74, .int .i64 x1)], [.var 70 (.acons (.sl .u8 cp bs) .anil)] => staticD (true) (decide (x0 = l.length) && decide (x1 = 0) && decide (l.length ≤ 1000000 ∧ bs.length ≤ 1000000) && l.all fitLn, ⟨cp, bs, c, l, 0⟩)
  | _, _ => none
noncomputable def ud_2 := ud_1.addLoop 24 23 (sumR s05 [.slot 4 0] [4, 72, 73, 74] sbLines_S sbLines_d)
theorem ud_2_laws : FLaws Try.prog s05 ud_2 := by
  refine ud_1_laws.addRoundsR s05_laws (by kernel_rfl) sbLines_S 40 [4, 72, 73, 74] [] [.slot 4 0] [4, 72, 73, 74] sbLines_d (fun q hI => ?_) ?_
  · obtain ⟨cp, bs, c, l, i⟩ := q
    refine ⟨?_, ?_, sbLines_round cp bs c l i hI⟩
    · simp_all [RefsOK, sbLines_S, sbLines_c, sbLines_o, sbLines_Inv, D.refs, Obj.refs, rEnc]
    · simp_all [sbLines_S, sbLines_fin, sbLines_o, sbLines_Inv, RT.refsOK, RefsOK, D.refs, Obj.refs, rEnc]
  · intro env os b q hd_ hb
    unfold sbLines_d at hd_
    split at hd_
    · obtain ⟨hs, hd_⟩ := staticD_some hd_
      cases hd_
      simp only [Bool.and_eq_true, decide_eq_true_eq] at hb
      obtain ⟨⟨⟨rfl, rfl⟩, hl⟩, ha⟩ := hb
      exact ⟨⟨Nat.zero_le _, hl.1, Nat.le_trans hl.2 (Nat.le_add_right _ _), ha⟩, rfl, rfl⟩
    · cases hd_
/-! ### function stateBytes: flume/record.StateBytes -/
def stateBytes_s (p : Int) (ci : Bool) (items : List Item) (k0 : Bool) (k1 : Bool) (k2 : Bool) (l0 : List Line) (l1 : List Line) (l2 : List Line) (c0 : Int) (c1 : Int) (c2 : Int) : Option (Bool × D RC) := some (decide (items.length ≤ 9223372036854775807 ∧ l0.length ≤ 9223372036854775807 ∧ l1.length ≤ 9223372036854775807 ∧ l2.length ≤ 9223372036854775807), .tup (.acons (.sl (C := RC) .u8 (!standsOK ⟨p, items, l0, l1, l2, c0, c1, c2⟩) (bif standsOK ⟨p, items, l0, l1, l2, c0, c1, c2⟩ then stBytes ⟨p, items, l0, l1, l2, c0, c1, c2⟩ else [])) (.acons (.int .i64 (bif standsOK ⟨p, items, l0, l1, l2, c0, c1, c2⟩ then 0 else 2)) .anil)))
def stateBytes_sp : List (D RC) → Option (Bool × D RC)
  | [.acons (.int .i64 p) (.acons (.sl .item ci items) (.acons (.acons (.sl .line k0 l0) (.acons (.sl .line k1 l1) (.acons (.sl .line k2 l2) .anil))) (.acons (.arr .int 3 [c0, c1, c2]) .anil)))] => stateBytes_s p ci items k0 k1 k2 l0 l1 l2 c0 c1 c2
  | _ => none
noncomputable def stateBytes_e (p : Int) (ci : Bool) (items : List Item) (k0 : Bool) (k1 : Bool) (k2 : Bool) (l0 : List Line) (l1 : List Line) (l2 : List Line) (c0 : Int) (c1 : Int) (c2 : Int) := evF s05 ud_2 40 24 [.acons (.int .i64 p) (.acons (.sl (C := RC) .item ci items) (.acons (.acons (.sl (C := RC) .line k0 l0) (.acons (.sl (C := RC) .line k1 l1) (.acons (.sl (C := RC) .line k2 l2) .anil))) (.acons (.arr (C := RC) .int 3 [c0, c1, c2]) .anil)))]
theorem stateBytes_eq (p : Int) (ci : Bool) (items : List Item) (k0 : Bool) (k1 : Bool) (k2 : Bool) (l0 : List Line) (l1 : List Line) (l2 : List Line) (c0 : Int) (c1 : Int) (c2 : Int) : stateBytes_e p ci items k0 k1 k2 l0 l1 l2 c0 c1 c2 = (bif Decidable.decide (List.length items ≤ (9223372036854775807 : Nat) ∧ List.length l0 ≤ (9223372036854775807 : Nat) ∧ List.length l1 ≤ (9223372036854775807 : Nat) ∧ List.length l2 ≤ (9223372036854775807 : Nat)) then bif !Go.Ev.standsOK (Go.Ev.St.mk p items l0 l1 l2 c0 c1 c2) then Option.some (Go.Ev.D.tup (Go.Ev.D.acons (Go.Ev.D.sl Go.Ev.RTy.u8 Bool.true []) (Go.Ev.D.acons (Go.Ev.D.int Go.IntKind.i64 (2 : Int)) Go.Ev.D.anil))) else bif Go.Ev.lenOK (List.length items) then bif Decidable.decide (List.length (Go.Ev.putL [] p (3 : Nat)) ≤ (1000000000 : Nat)) then bif Go.Ev.lenOK (List.length items) then bif Decidable.decide ((↑(List.length items) : Int) = (↑(List.length items) : Int)) && Bool.true && Decidable.decide (List.length items ≤ (1000000 : Nat) ∧ List.length (Go.Ev.putL (Go.Ev.putL [] p (3 : Nat)) (↑(List.length items) : Int) (1 : Nat)) ≤ (1000000 : Nat)) && List.all items Go.Ev.fitI then bif Go.Ev.lenOK (List.length l0) then bif Decidable.decide ((0 : Int) < (↑(List.length l0) : Int)) then bif Decidable.decide ((0 : Int) ≤ (0 : Int) ∧ (0 : Int) < (↑(List.length l0) : Int)) then bif Decidable.decide (List.length (Go.Ev.putL (Go.Ev.putL [] p (3 : Nat)) (↑(List.length items) : Int) (1 : Nat) ++ List.flatMap Go.Ev.iBytes (List.drop (0 : Nat) items)) ≤ (1000000000 : Nat)) then bif Go.Ev.lenOK (List.length l0) then bif Decidable.decide (List.length (Go.Ev.putL (Go.Ev.putL (Go.Ev.putL [] p (3 : Nat)) (↑(List.length items) : Int) (1 : Nat) ++ List.flatMap Go.Ev.iBytes (List.drop (0 : Nat) items)) c0 (3 : Nat)) ≤ (1000000000 : Nat)) then bif Decidable.decide (List.length (Go.Ev.putL (Go.Ev.putL (Go.Ev.putL (Go.Ev.putL [] p (3 : Nat)) (↑(List.length items) : Int) (1 : Nat) ++ List.flatMap Go.Ev.iBytes (List.drop (0 : Nat) items)) c0 (3 : Nat)) (↑(List.length l0) : Int) (1 : Nat)) ≤ (1000000000 : Nat)) then bif Go.Ev.lenOK (List.length l0) then bif Decidable.decide ((↑(List.length l0) : Int) = (↑(List.length l0) : Int)) && Bool.true && Decidable.decide (List.length l0 ≤ (1000000 : Nat) ∧ List.length (Go.Ev.putL (Go.Ev.putL (Go.Ev.putL (Go.Ev.putL (Go.Ev.putL [] p (3 : Nat)) (↑(List.length items) : Int) (1 : Nat) ++ List.flatMap Go.Ev.iBytes (List.drop (0 : Nat) items)) c0 (3 : Nat)) (↑(List.length l0) : Int) (1 : Nat)) (Go.Ev.Line.offset (List.getD l0 (0 : Nat) (Go.Ev.Line.mk (0 : Int) (0 : Int) (0 : Int) (0 : Int) (0 : Int)))) (3 : Nat)) ≤ (1000000 : Nat)) && List.all l0 Go.Ev.fitLn then bif Go.Ev.lenOK (List.length l1) then bif Decidable.decide ((0 : Int) < (↑(List.length l1) : Int)) then bif Decidable.decide ((0 : Int) ≤ (0 : Int) ∧ (0 : Int) < (↑(List.length l1) : Int)) then bif Decidable.decide (List.length (Go.Ev.putL (Go.Ev.putL (Go.Ev.putL (Go.Ev.putL (Go.Ev.putL [] p (3 : Nat)) (↑(List.length items) : Int) (1 : Nat) ++ List.flatMap Go.Ev.iBytes (List.drop (0 : Nat) items)) c0 (3 : Nat)) (↑(List.length l0) : Int) (1 : Nat)) (Go.Ev.Line.offset (List.getD l0 (0 : Nat) (Go.Ev.Line.mk (0 : Int) (0 : Int) (0 : Int) (0 : Int) (0 : Int)))) (3 : Nat) ++ List.flatMap Go.Ev.lBytes (List.drop (0 : Nat) l0)) ≤ (1000000000 : Nat)) then bif Go.Ev.lenOK (List.length l1) then bif Decidable.decide (List.length (Go.Ev.putL (Go.Ev.putL (Go.Ev.putL (Go.Ev.putL (Go.Ev.putL (Go.Ev.putL [] p (3 : Nat)) (↑(List.length items) : Int) (1 : Nat) ++ List.flatMap Go.Ev.iBytes (List.drop (0 : Nat) items)) c0 (3 : Nat)) (↑(List.length l0) : Int) (1 : Nat)) (Go.Ev.Line.offset (List.getD l0 (0 : Nat) (Go.Ev.Line.mk (0 : Int) (0 : Int) (0 : Int) (0 : Int) (0 : Int)))) (3 : Nat) ++ List.flatMap Go.Ev.lBytes (List.drop (0 : Nat) l0)) c1 (3 : Nat)) ≤ (1000000000 : Nat)) then bif Decidable.decide (List.length (Go.Ev.putL (Go.Ev.putL (Go.Ev.putL (Go.Ev.putL (Go.Ev.putL (Go.Ev.putL (Go.Ev.putL [] p (3 : Nat)) (↑(List.length items) : Int) (1 : Nat) ++ List.flatMap Go.Ev.iBytes (List.drop (0 : Nat) items)) c0 (3 : Nat)) (↑(List.length l0) : Int) (1 : Nat)) (Go.Ev.Line.offset (List.getD l0 (0 : Nat) (Go.Ev.Line.mk (0 : Int) (0 : Int) (0 : Int) (0 : Int) (0 : Int)))) (3 : Nat) ++ List.flatMap Go.Ev.lBytes (List.drop (0 : Nat) l0)) c1 (3 : Nat)) (↑(List.length l1) : Int) (1 : Nat)) ≤ (1000000000 : Nat)) then bif Go.Ev.lenOK (List.length l1) then bif Decidable.decide ((↑(List.length l1) : Int) = (↑(List.length l1) : Int)) && Bool.true && Decidable.decide (List.length l1 ≤ (1000000 : Nat) ∧ List.length (Go.Ev.putL (Go.Ev.putL (Go.Ev.putL (Go.Ev.putL (Go.Ev.putL (Go.Ev.putL (Go.Ev.putL (Go.Ev.putL [] p (3 : Nat)) (↑(List.length items) : Int) (1 : Nat) ++ List.flatMap Go.Ev.iBytes (List.drop (0 : Nat) items)) c0 (3 : Nat)) (↑(List.length l0) : Int) (1 : Nat)) (Go.Ev.Line.offset (List.getD l0 (0 : Nat) (Go.Ev.Line.mk (0 : Int) (0 : Int) (0 : Int) (0 : Int) (0 : Int)))) (3 : Nat) ++ List.flatMap Go.Ev.lBytes (List.drop (0 : Nat) l0)) c1 (3 : Nat)) (↑(List.length l1) : Int) (1 : Nat)) (Go.Ev.Line.offset (List.getD l1 (0 : Nat) (Go.Ev.Line.mk (0 : Int) (0 : Int) (0 : Int) (0 : Int) (0 : Int)))) (3 : Nat)) ≤ (1000000 : Nat)) && List.all l1 Go.Ev.fitLn then bif Go.Ev.lenOK (List.length l2) then bif Decidable.decide ((0 : Int) < (↑(List.length l2) : Int)) then bif Decidable.decide ((0 : Int) ≤ (0 : Int) ∧ (0 : Int) < (↑(List.length l2) : Int)) then bif Decidable.decide (List.length (Go.Ev.putL (Go.Ev.putL (Go.Ev.putL (Go.Ev.putL (Go.Ev.putL (Go.Ev.putL (Go.Ev.putL (Go.Ev.putL [] p (3 : Nat)) (↑(List.length items) : Int) (1 : Nat) ++ List.flatMap Go.Ev.iBytes (List.drop (0 : Nat) items)) c0 (3 : Nat)) (↑(List.length l0) : Int) (1 : Nat)) (Go.Ev.Line.offset (List.getD l0 (0 : Nat) (Go.Ev.Line.mk (0 : Int) (0 : Int) (0 : Int) (0 : Int) (0 : Int)))) (3 : Nat) ++ List.flatMap Go.Ev.lBytes (List.drop (0 : Nat) l0)) c1 (3 : Nat)) (↑(List.length l1) : Int) (1 : Nat)) (Go.Ev.Line.offset (List.getD l1 (0 : Nat) (Go.Ev.Line.mk (0 : Int) (0 : Int) (0 : Int) (0 : Int) (0 : Int)))) (3 : Nat) ++ List.flatMap Go.Ev.lBytes (List.drop (0 : Nat) l1)) ≤ (1000000000 : Nat)) then bif Go.Ev.lenOK (List.length l2) then bif Decidable.decide (List.length (Go.Ev.putL (Go.Ev.putL (Go.Ev.putL (Go.Ev.putL (Go.Ev.putL (Go.Ev.putL (Go.Ev.putL (Go.Ev.putL (Go.Ev.putL [] p (3 : Nat)) (↑(List.length items) : Int) (1 : Nat) ++ List.flatMap Go.Ev.iBytes (List.drop (0 : Nat) items)) c0 (3 : Nat)) (↑(List.length l0) : Int) (1 : Nat)) (Go.Ev.Line.offset (List.getD l0 (0 : Nat) (Go.Ev.Line.mk (0 : Int) (0 : Int) (0 : Int) (0 : Int) (0 : Int)))) (3 : Nat) ++ List.flatMap Go.Ev.lBytes (List.drop (0 : Nat) l0)) c1 (3 : Nat)) (↑(List.length l1) : Int) (1 : Nat)) (Go.Ev.Line.offset (List.getD l1 (0 : Nat) (Go.Ev.Line.mk (0 : Int) (0 : Int) (0 : Int) (0 : Int) (0 : Int)))) (3 : Nat) ++ List.flatMap Go.Ev.lBytes (List.drop (0 : Nat) l1)) c2 (3 : Nat)) ≤ (1000000000 : Nat)) then bif Decidable.decide (List.length (Go.Ev.putL (Go.Ev.putL (Go.Ev.putL (Go.Ev.putL (Go.Ev.putL (Go.Ev.putL (Go.Ev.putL (Go.Ev.putL (Go.Ev.putL (Go.Ev.putL [] p (3 : Nat)) (↑(List.length items) : Int) (1 : Nat) ++ List.flatMap Go.Ev.iBytes (List.drop (0 : Nat) items)) c0 (3 : Nat)) (↑(List.length l0) : Int) (1 : Nat)) (Go.Ev.Line.offset (List.getD l0 (0 : Nat) (Go.Ev.Line.mk (0 : Int) (0 : Int) (0 : Int) (0 : Int) (0 : Int)))) (3 : Nat) ++ List.flatMap Go.Ev.lBytes (List.drop (0 : Nat) l0)) c1 (3 : Nat)) (↑(List.length l1) : Int) (1 : Nat)) (Go.Ev.Line.offset (List.getD l1 (0 : Nat) (Go.Ev.Line.mk (0 : Int) (0 : Int) (0 : Int) (0 : Int) (0 : Int)))) (3 : Nat) ++ List.flatMap Go.Ev.lBytes (List.drop (0 : Nat) l1)) c2 (3 : Nat)) (↑(List.length l2) : Int) (1 : Nat)) ≤ (1000000000 : Nat)) then bif Go.Ev.lenOK (List.length l2) then bif Decidable.decide ((↑(List.length l2) : Int) = (↑(List.length l2) : Int)) && Bool.true && Decidable.decide (List.length l2 ≤ (1000000 : Nat) ∧ List.length (Go.Ev.putL (Go.Ev.putL (Go.Ev.putL (Go.Ev.putL (Go.Ev.putL (Go.Ev.putL (Go.Ev.putL (Go.Ev.putL (Go.Ev.putL (Go.Ev.putL (Go.Ev.putL [] p (3 : Nat)) (↑(List.length items) : Int) (1 : Nat) ++ List.flatMap Go.Ev.iBytes (List.drop (0 : Nat) items)) c0 (3 : Nat)) (↑(List.length l0) : Int) (1 : Nat)) (Go.Ev.Line.offset (List.getD l0 (0 : Nat) (Go.Ev.Line.mk (0 : Int) (0 : Int) (0 : Int) (0 : Int) (0 : Int)))) (3 : Nat) ++ List.flatMap Go.Ev.lBytes (List.drop (0 : Nat) l0)) c1 (3 : Nat)) (↑(List.length l1) : Int) (1 : Nat)) (Go.Ev.Line.offset (List.getD l1 (0 : Nat) (Go.Ev.Line.mk (0 : Int) (0 : Int) (0 : Int) (0 : Int) (0 : Int)))) (3 : Nat) ++ List.flatMap Go.Ev.lBytes (List.drop (0 : Nat) l1)) c2 (3 : Nat)) (↑(List.length l2) : Int) (1 : Nat)) (Go.Ev.Line.offset (List.getD l2 (0 : Nat) (Go.Ev.Line.mk (0 : Int) (0 : Int) (0 : Int) (0 : Int) (0 : Int)))) (3 : Nat)) ≤ (1000000 : Nat)) && List.all l2 Go.Ev.fitLn then Option.some (Go.Ev.D.tup (Go.Ev.D.acons (Go.Ev.D.sl Go.Ev.RTy.u8 (!Go.Ev.fitsB (Go.Ev.Line.offset (List.getD l2 (0 : Nat) (Go.Ev.Line.mk (0 : Int) (0 : Int) (0 : Int) (0 : Int) (0 : Int)))) (3 : Nat) && List.isEmpty (List.drop (0 : Nat) l2)) (Go.Ev.putL (Go.Ev.putL (Go.Ev.putL (Go.Ev.putL (Go.Ev.putL (Go.Ev.putL (Go.Ev.putL (Go.Ev.putL (Go.Ev.putL (Go.Ev.putL (Go.Ev.putL [] p (3 : Nat)) (↑(List.length items) : Int) (1 : Nat) ++ List.flatMap Go.Ev.iBytes (List.drop (0 : Nat) items)) c0 (3 : Nat)) (↑(List.length l0) : Int) (1 : Nat)) (Go.Ev.Line.offset (List.getD l0 (0 : Nat) (Go.Ev.Line.mk (0 : Int) (0 : Int) (0 : Int) (0 : Int) (0 : Int)))) (3 : Nat) ++ List.flatMap Go.Ev.lBytes (List.drop (0 : Nat) l0)) c1 (3 : Nat)) (↑(List.length l1) : Int) (1 : Nat)) (Go.Ev.Line.offset (List.getD l1 (0 : Nat) (Go.Ev.Line.mk (0 : Int) (0 : Int) (0 : Int) (0 : Int) (0 : Int)))) (3 : Nat) ++ List.flatMap Go.Ev.lBytes (List.drop (0 : Nat) l1)) c2 (3 : Nat)) (↑(List.length l2) : Int) (1 : Nat)) (Go.Ev.Line.offset (List.getD l2 (0 : Nat) (Go.Ev.Line.mk (0 : Int) (0 : Int) (0 : Int) (0 : Int) (0 : Int)))) (3 : Nat) ++ List.flatMap Go.Ev.lBytes (List.drop (0 : Nat) l2))) (Go.Ev.D.acons (Go.Ev.D.int Go.IntKind.i64 (0 : Int)) Go.Ev.D.anil))) else Option.none else Option.none else Option.none else Option.none else Option.none else Option.none else Option.none else bif Decidable.decide (List.length (Go.Ev.putL (Go.Ev.putL (Go.Ev.putL (Go.Ev.putL (Go.Ev.putL (Go.Ev.putL (Go.Ev.putL (Go.Ev.putL [] p (3 : Nat)) (↑(List.length items) : Int) (1 : Nat) ++ List.flatMap Go.Ev.iBytes (List.drop (0 : Nat) items)) c0 (3 : Nat)) (↑(List.length l0) : Int) (1 : Nat)) (Go.Ev.Line.offset (List.getD l0 (0 : Nat) (Go.Ev.Line.mk (0 : Int) (0 : Int) (0 : Int) (0 : Int) (0 : Int)))) (3 : Nat) ++ List.flatMap Go.Ev.lBytes (List.drop (0 : Nat) l0)) c1 (3 : Nat)) (↑(List.length l1) : Int) (1 : Nat)) (Go.Ev.Line.offset (List.getD l1 (0 : Nat) (Go.Ev.Line.mk (0 : Int) (0 : Int) (0 : Int) (0 : Int) (0 : Int)))) (3 : Nat) ++ List.flatMap Go.Ev.lBytes (List.drop (0 : Nat) l1)) ≤ (1000000000 : Nat)) then bif Go.Ev.lenOK (List.length l2) then bif Decidable.decide (List.length (Go.Ev.putL (Go.Ev.putL (Go.Ev.putL (Go.Ev.putL (Go.Ev.putL (Go.Ev.putL (Go.Ev.putL (Go.Ev.putL (Go.Ev.putL [] p (3 : Nat)) (↑(List.length items) : Int) (1 : Nat) ++ List.flatMap Go.Ev.iBytes (List.drop (0 : Nat) items)) c0 (3 : Nat)) (↑(List.length l0) : Int) (1 : Nat)) (Go.Ev.Line.offset (List.getD l0 (0 : Nat) (Go.Ev.Line.mk (0 : Int) (0 : Int) (0 : Int) (0 : Int) (0 : Int)))) (3 : Nat) ++ List.flatMap Go.Ev.lBytes (List.drop (0 : Nat) l0)) c1 (3 : Nat)) (↑(List.length l1) : Int) (1 : Nat)) (Go.Ev.Line.offset (List.getD l1 (0 : Nat) (Go.Ev.Line.mk (0 : Int) (0 : Int) (0 : Int) (0 : Int) (0 : Int)))) (3 : Nat) ++ List.flatMap Go.Ev.lBytes (List.drop (0 : Nat) l1)) c2 (3 : Nat)) ≤ (1000000000 : Nat)) then bif Decidable.decide (List.length (Go.Ev.putL (Go.Ev.putL (Go.Ev.putL (Go.Ev.putL (Go.Ev.putL (Go.Ev.putL (Go.Ev.putL (Go.Ev.putL (Go.Ev.putL (Go.Ev.putL [] p (3 : Nat)) (↑(List.length items) : Int) (1 : Nat) ++ List.flatMap Go.Ev.iBytes (List.drop (0 : Nat) items)) c0 (3 : Nat)) (↑(List.length l0) : Int) (1 : Nat)) (Go.Ev.Line.offset (List.getD l0 (0 : Nat) (Go.Ev.Line.mk (0 : Int) (0 : Int) (0 : Int) (0 : Int) (0 : Int)))) (3 : Nat) ++ List.flatMap Go.Ev.lBytes (List.drop (0 : Nat) l0)) c1 (3 : Nat)) (↑(List.length l1) : Int) (1 : Nat)) (Go.Ev.Line.offset (List.getD l1 (0 : Nat) (Go.Ev.Line.mk (0 : Int) (0 : Int) (0 : Int) (0 : Int) (0 : Int)))) (3 : Nat) ++ List.flatMap Go.Ev.lBytes (List.drop (0 : Nat) l1)) c2 (3 : Nat)) (↑(List.length l2) : Int) (1 : Nat)) ≤ (1000000000 : Nat)) then bif Go.Ev.lenOK (List.length l2) then bif Decidable.decide ((↑(List.length l2) : Int) = (↑(List.length l2) : Int)) && Bool.true && Decidable.decide (List.length l2 ≤ (1000000 : Nat) ∧ List.length (Go.Ev.putL (Go.Ev.putL (Go.Ev.putL (Go.Ev.putL (Go.Ev.putL (Go.Ev.putL (Go.Ev.putL (Go.Ev.putL (Go.Ev.putL (Go.Ev.putL (Go.Ev.putL [] p (3 : Nat)) (↑(List.length items) : Int) (1 : Nat) ++ List.flatMap Go.Ev.iBytes (List.drop (0 : Nat) items)) c0 (3 : Nat)) (↑(List.length l0) : Int) (1 : Nat)) (Go.Ev.Line.offset (List.getD l0 (0 : Nat) (Go.Ev.Line.mk (0 : Int) (0 : Int) (0 : Int) (0 : Int) (0 : Int)))) (3 : Nat) ++ List.flatMap Go.Ev.lBytes (List.drop (0 : Nat) l0)) c1 (3 : Nat)) (↑(List.length l1) : Int) (1 : Nat)) (Go.Ev.Line.offset (List.getD l1 (0 : Nat) (Go.Ev.Line.mk (0 : Int) (0 : Int) (0 : Int) (0 : Int) (0 : Int)))) (3 : Nat) ++ List.flatMap Go.Ev.lBytes (List.drop (0 : Nat) l1)) c2 (3 : Nat)) (↑(List.length l2) : Int) (1 : Nat)) (0 : Int) (3 : Nat)) ≤ (1000000 : Nat)) && List.all l2 Go.Ev.fitLn then Option.some (Go.Ev.D.tup (Go.Ev.D.acons (Go.Ev.D.sl Go.Ev.RTy.u8 (Bool.false && List.isEmpty (List.drop (0 : Nat) l2)) (Go.Ev.putL (Go.Ev.putL (Go.Ev.putL (Go.Ev.putL (Go.Ev.putL (Go.Ev.putL (Go.Ev.putL (Go.Ev.putL (Go.Ev.putL (Go.Ev.putL (Go.Ev.putL [] p (3 : Nat)) (↑(List.length items) : Int) (1 : Nat) ++ List.flatMap Go.Ev.iBytes (List.drop (0 : Nat) items)) c0 (3 : Nat)) (↑(List.length l0) : Int) (1 : Nat)) (Go.Ev.Line.offset (List.getD l0 (0 : Nat) (Go.Ev.Line.mk (0 : Int) (0 : Int) (0 : Int) (0 : Int) (0 : Int)))) (3 : Nat) ++ List.flatMap Go.Ev.lBytes (List.drop (0 : Nat) l0)) c1 (3 : Nat)) (↑(List.length l1) : Int) (1 : Nat)) (Go.Ev.Line.offset (List.getD l1 (0 : Nat) (Go.Ev.Line.mk (0 : Int) (0 : Int) (0 : Int) (0 : Int) (0 : Int)))) (3 : Nat) ++ List.flatMap Go.Ev.lBytes (List.drop (0 : Nat) l1)) c2 (3 : Nat)) (↑(List.length l2) : Int) (1 : Nat)) (0 : Int) (3 : Nat) ++ List.flatMap Go.Ev.lBytes (List.drop (0 : Nat) l2))) (Go.Ev.D.acons (Go.Ev.D.int Go.IntKind.i64 (0 : Int)) Go.Ev.D.anil))) else Option.none else Option.none else Option.none else Option.none else Option.none else Option.none else Option.none else Option.none else Option.none else Option.none else Option.none else Option.none else Option.none else Option.none else bif Decidable.decide (List.length (Go.Ev.putL (Go.Ev.putL (Go.Ev.putL (Go.Ev.putL (Go.Ev.putL [] p (3 : Nat)) (↑(List.length items) : Int) (1 : Nat) ++ List.flatMap Go.Ev.iBytes (List.drop (0 : Nat) items)) c0 (3 : Nat)) (↑(List.length l0) : Int) (1 : Nat)) (Go.Ev.Line.offset (List.getD l0 (0 : Nat) (Go.Ev.Line.mk (0 : Int) (0 : Int) (0 : Int) (0 : Int) (0 : Int)))) (3 : Nat) ++ List.flatMap Go.Ev.lBytes (List.drop (0 : Nat) l0)) ≤ (1000000000 : Nat)) then bif Go.Ev.lenOK (List.length l1) then bif Decidable.decide (List.length (Go.Ev.putL (Go.Ev.putL (Go.Ev.putL (Go.Ev.putL (Go.Ev.putL (Go.Ev.putL [] p (3 : Nat)) (↑(List.length items) : Int) (1 : Nat) ++ List.flatMap Go.Ev.iBytes (List.drop (0 : Nat) items)) c0 (3 : Nat)) (↑(List.length l0) : Int) (1 : Nat)) (Go.Ev.Line.offset (List.getD l0 (0 : Nat) (Go.Ev.Line.mk (0 : Int) (0 : Int) (0 : Int) (0 : Int) (0 : Int)))) (3 : Nat) ++ List.flatMap Go.Ev.lBytes (List.drop (0 : Nat) l0)) c1 (3 : Nat)) ≤ (1000000000 : Nat)) then bif Decidable.decide (List.length (Go.Ev.putL (Go.Ev.putL (Go.Ev.putL (Go.Ev.putL (Go.Ev.putL (Go.Ev.putL (Go.Ev.putL [] p (3 : Nat)) (↑(List.length items) : Int) (1 : Nat) ++ List.flatMap Go.Ev.iBytes (List.drop (0 : Nat) items)) c0 (3 : Nat)) (↑(List.length l0) : Int) (1 : Nat)) (Go.Ev.Line.offset (List.getD l0 (0 : Nat) (Go.Ev.Line.mk (0 : Int) (0 : Int) (0 : Int) (0 : Int) (0 : Int)))) (3 : Nat) ++ List.flatMap Go.Ev.lBytes (List.drop (0 : Nat) l0)) c1 (3 : Nat)) (↑(List.length l1) : Int) (1 : Nat)) ≤ (1000000000 : Nat)) then bif Go.Ev.lenOK (List.length l1) then bif Decidable.decide ((↑(List.length l1) : Int) = (↑(List.length l1) : Int)) && Bool.true && Decidable.decide (List.length l1 ≤ (1000000 : Nat) ∧ List.length (Go.Ev.putL (Go.Ev.putL (Go.Ev.putL (Go.Ev.putL (Go.Ev.putL (Go.Ev.putL (Go.Ev.putL (Go.Ev.putL [] p (3 : Nat)) (↑(List.length items) : Int) (1 : Nat) ++ List.flatMap Go.Ev.iBytes (List.drop (0 : Nat) items)) c0 (3 : Nat)) (↑(List.length l0) : Int) (1 : Nat)) (Go.Ev.Line.offset (List.getD l0 (0 : Nat) (Go.Ev.Line.mk (0 : Int) (0 : Int) (0 : Int) (0 : Int) (0 : Int)))) (3 : Nat) ++ List.flatMap Go.Ev.lBytes (List.drop (0 : Nat) l0)) c1 (3 : Nat)) (↑(List.length l1) : Int) (1 : Nat)) (0 : Int) (3 : Nat)) ≤ (1000000 : Nat)) && List.all l1 Go.Ev.fitLn then bif Go.Ev.lenOK (List.length l2) then bif Decidable.decide ((0 : Int) < (↑(List.length l2) : Int)) then bif Decidable.decide ((0 : Int) ≤ (0 : Int) ∧ (0 : Int) < (↑(List.length l2) : Int)) then bif Decidable.decide (List.length (Go.Ev.putL (Go.Ev.putL (Go.Ev.putL (Go.Ev.putL (Go.Ev.putL (Go.Ev.putL (Go.Ev.putL (Go.Ev.putL [] p (3 : Nat)) (↑(List.length items) : Int) (1 : Nat) ++ List.flatMap Go.Ev.iBytes (List.drop (0 : Nat) items)) c0 (3 : Nat)) (↑(List.length l0) : Int) (1 : Nat)) (Go.Ev.Line.offset (List.getD l0 (0 : Nat) (Go.Ev.Line.mk (0 : Int) (0 : Int) (0 : Int) (0 : Int) (0 : Int)))) (3 : Nat) ++ List.flatMap Go.Ev.lBytes (List.drop (0 : Nat) l0)) c1 (3 : Nat)) (↑(List.length l1) : Int) (1 : Nat)) (0 : Int) (3 : Nat) ++ List.flatMap Go.Ev.lBytes (List.drop (0 : Nat) l1)) ≤ (1000000000 : Nat)) then bif Go.Ev.lenOK (List.length l2) then bif Decidable.decide (List.length (Go.Ev.putL (Go.Ev.putL (Go.Ev.putL (Go.Ev.putL (Go.Ev.putL (Go.Ev.putL (Go.Ev.putL (Go.Ev.putL (Go.Ev.putL [] p (3 : Nat)) (↑(List.length items) : Int) (1 : Nat) ++ List.flatMap Go.Ev.iBytes (List.drop (0 : Nat) items)) c0 (3 : Nat)) (↑(List.length l0) : Int) (1 : Nat)) (Go.Ev.Line.offset (List.getD l0 (0 : Nat) (Go.Ev.Line.mk (0 : Int) (0 : Int) (0 : Int) (0 : Int) (0 : Int)))) (3 : Nat) ++ List.flatMap Go.Ev.lBytes (List.drop (0 : Nat) l0)) c1 (3 : Nat)) (↑(List.length l1) : Int) (1 : Nat)) (0 : Int) (3 : Nat) ++ List.flatMap Go.Ev.lBytes (List.drop (0 : Nat) l1)) c2 (3 : Nat)) ≤ (1000000000 : Nat)) then bif Decidable.decide (List.length (Go.Ev.putL (Go.Ev.putL (Go.Ev.putL (Go.Ev.putL (Go.Ev.putL (Go.Ev.putL (Go.Ev.putL (Go.Ev.putL (Go.Ev.putL (Go.Ev.putL [] p (3 : Nat)) (↑(List.length items) : Int) (1 : Nat) ++ List.flatMap Go.Ev.iBytes (List.drop (0 : Nat) items)) c0 (3 : Nat)) (↑(List.length l0) : Int) (1 : Nat)) (Go.Ev.Line.offset (List.getD l0 (0 : Nat) (Go.Ev.Line.mk (0 : Int) (0 : Int) (0 : Int) (0 : Int) (0 : Int)))) (3 : Nat) ++ List.flatMap Go.Ev.lBytes (List.drop (0 : Nat) l0)) c1 (3 : Nat)) (↑(List.length l1) : Int) (1 : Nat)) (0 : Int) (3 : Nat) ++ List.flatMap Go.Ev.lBytes (List.drop (0 : Nat) l1)) c2 (3 : Nat)) (↑(List.length l2) : Int) (1 : Nat)) ≤ (1000000000 : Nat)) then bif Go.Ev.lenOK (List.length l2) then bif Decidable.decide ((↑(List.length l2) : Int) = (↑(List.length l2) : Int)) && Bool.true && Decidable.decide (List.length l2 ≤ (1000000 : Nat) ∧ List.length (Go.Ev.putL (Go.Ev.putL (Go.Ev.putL (Go.Ev.putL (Go.Ev.putL (Go.Ev.putL (Go.Ev.putL (Go.Ev.putL (Go.Ev.putL (Go.Ev.putL (Go.Ev.putL [] p (3 : Nat)) (↑(List.length items) : Int) (1 : Nat) ++ List.flatMap Go.Ev.iBytes (List.drop (0 : Nat) items)) c0 (3 : Nat)) (↑(List.length l0) : Int) (1 : Nat)) (Go.Ev.Line.offset (List.getD l0 (0 : Nat) (Go.Ev.Line.mk (0 : Int) (0 : Int) (0 : Int) (0 : Int) (0 : Int)))) (3 : Nat) ++ List.flatMap Go.Ev.lBytes (List.drop (0 : Nat) l0)) c1 (3 : Nat)) (↑(List.length l1) : Int) (1 : Nat)) (0 : Int) (3 : Nat) ++ List.flatMap Go.Ev.lBytes (List.drop (0 : Nat) l1)) c2 (3 : Nat)) (↑(List.length l2) : Int) (1 : Nat)) (Go.Ev.Line.offset (List.getD l2 (0 : Nat) (Go.Ev.Line.mk (0 : Int) (0 : Int) (0 : Int) (0 : Int) (0 : Int)))) (3 : Nat)) ≤ (1000000 : Nat)) && List.all l2 Go.Ev.fitLn then Option.some (Go.Ev.D.tup (Go.Ev.D.acons (Go.Ev.D.sl Go.Ev.RTy.u8 (!Go.Ev.fitsB (Go.Ev.Line.offset (List.getD l2 (0 : Nat) (Go.Ev.Line.mk (0 : Int) (0 : Int) (0 : Int) (0 : Int) (0 : Int)))) (3 : Nat) && List.isEmpty (List.drop (0 : Nat) l2)) (Go.Ev.putL (Go.Ev.putL (Go.Ev.putL (Go.Ev.putL (Go.Ev.putL (Go.Ev.putL (Go.Ev.putL (Go.Ev.putL (Go.Ev.putL (Go.Ev.putL (Go.Ev.putL [] p (3 : Nat)) (↑(List.length items) : Int) (1 : Nat) ++ List.flatMap Go.Ev.iBytes (List.drop (0 : Nat) items)) c0 (3 : Nat)) (↑(List.length l0) : Int) (1 : Nat)) (Go.Ev.Line.offset (List.getD l0 (0 : Nat) (Go.Ev.Line.mk (0 : Int) (0 : Int) (0 : Int) (0 : Int) (0 : Int)))) (3 : Nat) ++ List.flatMap Go.Ev.lBytes (List.drop (0 : Nat) l0)) c1 (3 : Nat)) (↑(List.length l1) : Int) (1 : Nat)) (0 : Int) (3 : Nat) ++ List.flatMap Go.Ev.lBytes (List.drop (0 : Nat) l1)) c2 (3 : Nat)) (↑(List.length l2) : Int) (1 : Nat)) (Go.Ev.Line.offset (List.getD l2 (0 : Nat) (Go.Ev.Line.mk (0 : Int) (0 : Int) (0 : Int) (0 : Int) (0 : Int)))) (3 : Nat) ++ List.flatMap Go.Ev.lBytes (List.drop (0 : Nat) l2))) (Go.Ev.D.acons (Go.Ev.D.int Go.IntKind.i64 (0 : Int)) Go.Ev.D.anil))) else Option.none else Option.none else Option.none else Option.none else Option.none else Option.none else Option.none else bif Decidable.decide (List.length (Go.Ev.putL (Go.Ev.putL (Go.Ev.putL (Go.Ev.putL (Go.Ev.putL (Go.Ev.putL (Go.Ev.putL (Go.Ev.putL [] p (3 : Nat)) (↑(List.length items) : Int) (1 : Nat) ++ List.flatMap Go.Ev.iBytes (List.drop (0 : Nat) items)) c0 (3 : Nat)) (↑(List.length l0) : Int) (1 : Nat)) (Go.Ev.Line.offset (List.getD l0 (0 : Nat) (Go.Ev.Line.mk (0 : Int) (0 : Int) (0 : Int) (0 : Int) (0 : Int)))) (3 : Nat) ++ List.flatMap Go.Ev.lBytes (List.drop (0 : Nat) l0)) c1 (3 : Nat)) (↑(List.length l1) : Int) (1 : Nat)) (0 : Int) (3 : Nat) ++ List.flatMap Go.Ev.lBytes (List.drop (0 : Nat) l1)) ≤ (1000000000 : Nat)) then bif Go.Ev.lenOK (List.length l2) then bif Decidable.decide (List.length (Go.Ev.putL (Go.Ev.putL (Go.Ev.putL (Go.Ev.putL (Go.Ev.putL (Go.Ev.putL (Go.Ev.putL (Go.Ev.putL (Go.Ev.putL [] p (3 : Nat)) (↑(List.length items) : Int) (1 : Nat) ++ List.flatMap Go.Ev.iBytes (List.drop (0 : Nat) items)) c0 (3 : Nat)) (↑(List.length l0) : Int) (1 : Nat)) (Go.Ev.Line.offset (List.getD l0 (0 : Nat) (Go.Ev.Line.mk (0 : Int) (0 : Int) (0 : Int) (0 : Int) (0 : Int)))) (3 : Nat) ++ List.flatMap Go.Ev.lBytes (List.drop (0 : Nat) l0)) c1 (3 : Nat)) (↑(List.length l1) : Int) (1 : Nat)) (0 : Int) (3 : Nat) ++ List.flatMap Go.Ev.lBytes (List.drop (0 : Nat) l1)) c2 (3 : Nat)) ≤ (1000000000 : Nat)) then bif Decidable.decide (List.length (Go.Ev.putL (Go.Ev.putL (Go.Ev.putL (Go.Ev.putL (Go.Ev.putL (Go.Ev.putL (Go.Ev.putL (Go.Ev.putL (Go.Ev.putL (Go.Ev.putL [] p (3 : Nat)) (↑(List.length items) : Int) (1 : Nat) ++ List.flatMap Go.Ev.iBytes (List.drop (0 : Nat) items)) c0 (3 : Nat)) (↑(List.length l0) : Int) (1 : Nat)) (Go.Ev.Line.offset (List.getD l0 (0 : Nat) (Go.Ev.Line.mk (0 : Int) (0 : Int) (0 : Int) (0 : Int) (0 : Int)))) (3 : Nat) ++ List.flatMap Go.Ev.lBytes (List.drop (0 : Nat) l0)) c1 (3 : Nat)) (↑(List.length l1) : Int) (1 : Nat)) (0 : Int) (3 : Nat) ++ List.flatMap Go.Ev.lBytes (List.drop (0 : Nat) l1)) c2 (3 : Nat)) (↑(List.length l2) : Int) (1 : Nat)) ≤ (1000000000 : Nat)) then bif Go.Ev.lenOK (List.length l2) then bif Decidable.decide ((↑(List.length l2) : Int) = (↑(List.length l2) : Int)) && Bool.true && Decidable.decide (List.length l2 ≤ (1000000 : Nat) ∧ List.length (Go.Ev.putL (Go.Ev.putL (Go.Ev.putL (Go.Ev.putL (Go.Ev.putL (Go.Ev.putL (Go.Ev.putL (Go.Ev.putL (Go.Ev.putL (Go.Ev.putL (Go.Ev.putL [] p (3 : Nat)) (↑(List.length items) : Int) (1 : Nat) ++ List.flatMap Go.Ev.iBytes (List.drop (0 : Nat) items)) c0 (3 : Nat)) (↑(List.length l0) : Int) (1 : Nat)) (Go.Ev.Line.offset (List.getD l0 (0 : Nat) (Go.Ev.Line.mk (0 : Int) (0 : Int) (0 : Int) (0 : Int) (0 : Int)))) (3 : Nat) ++ List.flatMap Go.Ev.lBytes (List.drop (0 : Nat) l0)) c1 (3 : Nat)) (↑(List.length l1) : Int) (1 : Nat)) (0 : Int) (3 : Nat) ++ List.flatMap Go.Ev.lBytes (List.drop (0 : Nat) l1)) c2 (3 : Nat)) (↑(List.length l2) : Int) (1 : Nat)) (0 : Int) (3 : Nat)) ≤ (1000000 : Nat)) && List.all l2 Go.Ev.fitLn then Option.some (Go.Ev.D.tup (Go.Ev.D.acons (Go.Ev.D.sl Go.Ev.RTy.u8 (Bool.false && List.isEmpty (List.drop (0 : Nat) l2)) (Go.Ev.putL (Go.Ev.putL (Go.Ev.putL (Go.Ev.putL (Go.Ev.putL (Go.Ev.putL (Go.Ev.putL (Go.Ev.putL (Go.Ev.putL (Go.Ev.putL (Go.Ev.putL [] p (3 : Nat)) (↑(List.length items) : Int) (1 : Nat) ++ List.flatMap Go.Ev.iBytes (List.drop (0 : Nat) items)) c0 (3 : Nat)) (↑(List.length l0) : Int) (1 : Nat)) (Go.Ev.Line.offset (List.getD l0 (0 : Nat) (Go.Ev.Line.mk (0 : Int) (0 : Int) (0 : Int) (0 : Int) (0 : Int)))) (3 : Nat) ++ List.flatMap Go.Ev.lBytes (List.drop (0 : Nat) l0)) c1 (3 : Nat)) (↑(List.length l1) : Int) (1 : Nat)) (0 : Int) (3 : Nat) ++ List.flatMap Go.Ev.lBytes (List.drop (0 : Nat) l1)) c2 (3 : Nat)) (↑(List.length l2) : Int) (1 : Nat)) (0 : Int) (3 : Nat) ++ List.flatMap Go.Ev.lBytes (List.drop (0 : Nat) l2))) (Go.Ev.D.acons (Go.Ev.D.int Go.IntKind.i64 (0 : Int)) Go.Ev.D.anil))) else Option.none else Option.none else Option.none else Option.none else Option.none else Option.none else Option.none else Option.none else Option.none else Option.none else Option.none else Option.none else Option.none else Option.none else Option.none else Option.none else Option.none else Option.none else Option.none else Option.none else Option.none else bif Decidable.decide (List.length (Go.Ev.putL (Go.Ev.putL [] p (3 : Nat)) (↑(List.length items) : Int) (1 : Nat) ++ List.flatMap Go.Ev.iBytes (List.drop (0 : Nat) items)) ≤ (1000000000 : Nat)) then bif Go.Ev.lenOK (List.length l0) then bif Decidable.decide (List.length (Go.Ev.putL (Go.Ev.putL (Go.Ev.putL [] p (3 : Nat)) (↑(List.length items) : Int) (1 : Nat) ++ List.flatMap Go.Ev.iBytes (List.drop (0 : Nat) items)) c0 (3 : Nat)) ≤ (1000000000 : Nat)) then bif Decidable.decide (List.length (Go.Ev.putL (Go.Ev.putL (Go.Ev.putL (Go.Ev.putL [] p (3 : Nat)) (↑(List.length items) : Int) (1 : Nat) ++ List.flatMap Go.Ev.iBytes (List.drop (0 : Nat) items)) c0 (3 : Nat)) (↑(List.length l0) : Int) (1 : Nat)) ≤ (1000000000 : Nat)) then bif Go.Ev.lenOK (List.length l0) then bif Decidable.decide ((↑(List.length l0) : Int) = (↑(List.length l0) : Int)) && Bool.true && Decidable.decide (List.length l0 ≤ (1000000 : Nat) ∧ List.length (Go.Ev.putL (Go.Ev.putL (Go.Ev.putL (Go.Ev.putL (Go.Ev.putL [] p (3 : Nat)) (↑(List.length items) : Int) (1 : Nat) ++ List.flatMap Go.Ev.iBytes (List.drop (0 : Nat) items)) c0 (3 : Nat)) (↑(List.length l0) : Int) (1 : Nat)) (0 : Int) (3 : Nat)) ≤ (1000000 : Nat)) && List.all l0 Go.Ev.fitLn then bif Go.Ev.lenOK (List.length l1) then bif Decidable.decide ((0 : Int) < (↑(List.length l1) : Int)) then bif Decidable.decide ((0 : Int) ≤ (0 : Int) ∧ (0 : Int) < (↑(List.length l1) : Int)) then bif Decidable.decide (List.length (Go.Ev.putL (Go.Ev.putL (Go.Ev.putL (Go.Ev.putL (Go.Ev.putL [] p (3 : Nat)) (↑(List.length items) : Int) (1 : Nat) ++ List.flatMap Go.Ev.iBytes (List.drop (0 : Nat) items)) c0 (3 : Nat)) (↑(List.length l0) : Int) (1 : Nat)) (0 : Int) (3 : Nat) ++ List.flatMap Go.Ev.lBytes (List.drop (0 : Nat) l0)) ≤ (1000000000 : Nat)) then bif Go.Ev.lenOK (List.length l1) then bif Decidable.decide (List.length (Go.Ev.putL (Go.Ev.putL (Go.Ev.putL (Go.Ev.putL (Go.Ev.putL (Go.Ev.putL [] p (3 : Nat)) (↑(List.length items) : Int) (1 : Nat) ++ List.flatMap Go.Ev.iBytes (List.drop (0 : Nat) items)) c0 (3 : Nat)) (↑(List.length l0) : Int) (1 : Nat)) (0 : Int) (3 : Nat) ++ List.flatMap Go.Ev.lBytes (List.drop (0 : Nat) l0)) c1 (3 : Nat)) ≤ (1000000000 : Nat)) then bif Decidable.decide (List.length (Go.Ev.putL (Go.Ev.putL (Go.Ev.putL (Go.Ev.putL (Go.Ev.putL (Go.Ev.putL (Go.Ev.putL [] p (3 : Nat)) (↑(List.length items) : Int) (1 : Nat) ++ List.flatMap Go.Ev.iBytes (List.drop (0 : Nat) items)) c0 (3 : Nat)) (↑(List.length l0) : Int) (1 : Nat)) (0 : Int) (3 : Nat) ++ List.flatMap Go.Ev.lBytes (List.drop (0 : Nat) l0)) c1 (3 : Nat)) (↑(List.length l1) : Int) (1 : Nat)) ≤ (1000000000 : Nat)) then bif Go.Ev.lenOK (List.length l1) then bif Decidable.decide ((↑(List.length l1) : Int) = (↑(List.length l1) : Int)) && Bool.true && Decidable.decide (List.length l1 ≤ (1000000 : Nat) ∧ List.length (Go.Ev.putL (Go.Ev.putL (Go.Ev.putL (Go.Ev.putL (Go.Ev.putL (Go.Ev.putL (Go.Ev.putL (Go.Ev.putL [] p (3 : Nat)) (↑(List.length items) : Int) (1 : Nat) ++ List.flatMap Go.Ev.iBytes (List.drop (0 : Nat) items)) c0 (3 : Nat)) (↑(List.length l0) : Int) (1 : Nat)) (0 : Int) (3 : Nat) ++ List.flatMap Go.Ev.lBytes (List.drop (0 : Nat) l0)) c1 (3 : Nat)) (↑(List.length l1) : Int) (1 : Nat)) (Go.Ev.Line.offset (List.getD l1 (0 : Nat) (Go.Ev.Line.mk (0 : Int) (0 : Int) (0 : Int) (0 : Int) (0 : Int)))) (3 : Nat)) ≤ (1000000 : Nat)) && List.all l1 Go.Ev.fitLn then bif Go.Ev.lenOK (List.length l2) then bif Decidable.decide ((0 : Int) < (↑(List.length l2) : Int)) then bif Decidable.decide ((0 : Int) ≤ (0 : Int) ∧ (0 : Int) < (↑(List.length l2) : Int)) then bif Decidable.decide (List.length (Go.Ev.putL (Go.Ev.putL (Go.Ev.putL (Go.Ev.putL (Go.Ev.putL (Go.Ev.putL (Go.Ev.putL (Go.Ev.putL [] p (3 : Nat)) (↑(List.length items) : Int) (1 : Nat) ++ List.flatMap Go.Ev.iBytes (List.drop (0 : Nat) items)) c0 (3 : Nat)) (↑(List.length l0) : Int) (1 : Nat)) (0 : Int) (3 : Nat) ++ List.flatMap Go.Ev.lBytes (List.drop (0 : Nat) l0)) c1 (3 : Nat)) (↑(List.length l1) : Int) (1 : Nat)) (Go.Ev.Line.offset (List.getD l1 (0 : Nat) (Go.Ev.Line.mk (0 : Int) (0 : Int) (0 : Int) (0 : Int) (0 : Int)))) (3 : Nat) ++ List.flatMap Go.Ev.lBytes (List.drop (0 : Nat) l1)) ≤ (1000000000 : Nat)) then bif Go.Ev.lenOK (List.length l2) then bif Decidable.decide (List.length (Go.Ev.putL (Go.Ev.putL (Go.Ev.putL (Go.Ev.putL (Go.Ev.putL (Go.Ev.putL (Go.Ev.putL (Go.Ev.putL (Go.Ev.putL [] p (3 : Nat)) (↑(List.length items) : Int) (1 : Nat) ++ List.flatMap Go.Ev.iBytes (List.drop (0 : Nat) items)) c0 (3 : Nat)) (↑(List.length l0) : Int) (1 : Nat)) (0 : Int) (3 : Nat) ++ List.flatMap Go.Ev.lBytes (List.drop (0 : Nat) l0)) c1 (3 : Nat)) (↑(List.length l1) : Int) (1 : Nat)) (Go.Ev.Line.offset (List.getD l1 (0 : Nat) (Go.Ev.Line.mk (0 : Int) (0 : Int) (0 : Int) (0 : Int) (0 : Int)))) (3 : Nat) ++ List.flatMap Go.Ev.lBytes (List.drop (0 : Nat) l1)) c2 (3 : Nat)) ≤ (1000000000 : Nat)) then bif Decidable.decide (List.length (Go.Ev.putL (Go.Ev.putL (Go.Ev.putL (Go.Ev.putL (Go.Ev.putL (Go.Ev.putL (Go.Ev.putL (Go.Ev.putL (Go.Ev.putL (Go.Ev.putL [] p (3 : Nat)) (↑(List.length items) : Int) (1 : Nat) ++ List.flatMap Go.Ev.iBytes (List.drop (0 : Nat) items)) c0 (3 : Nat)) (↑(List.length l0) : Int) (1 : Nat)) (0 : Int) (3 : Nat) ++ List.flatMap Go.Ev.lBytes (List.drop (0 : Nat) l0)) c1 (3 : Nat)) (↑(List.length l1) : Int) (1 : Nat)) (Go.Ev.Line.offset (List.getD l1 (0 : Nat) (Go.Ev.Line.mk (0 : Int) (0 : Int) (0 : Int) (0 : Int) (0 : Int)))) (3 : Nat) ++ List.flatMap Go.Ev.lBytes (List.drop (0 : Nat) l1)) c2 (3 : Nat)) (↑(List.length l2) : Int) (1 : Nat)) ≤ (1000000000 : Nat)) then bif Go.Ev.lenOK (List.length l2) then bif Decidable.decide ((↑(List.length l2) : Int) = (↑(List.length l2) : Int)) && Bool.true && Decidable.decide (List.length l2 ≤ (1000000 : Nat) ∧ List.length (Go.Ev.putL (Go.Ev.putL (Go.Ev.putL (Go.Ev.putL (Go.Ev.putL (Go.Ev.putL (Go.Ev.putL (Go.Ev.putL (Go.Ev.putL (Go.Ev.putL (Go.Ev.putL [] p (3 : Nat)) (↑(List.length items) : Int) (1 : Nat) ++ List.flatMap Go.Ev.iBytes (List.drop (0 : Nat) items)) c0 (3 : Nat)) (↑(List.length l0) : Int) (1 : Nat)) (0 : Int) (3 : Nat) ++ List.flatMap Go.Ev.lBytes (List.drop (0 : Nat) l0)) c1 (3 : Nat)) (↑(List.length l1) : Int) (1 : Nat)) (Go.Ev.Line.offset (List.getD l1 (0 : Nat) (Go.Ev.Line.mk (0 : Int) (0 : Int) (0 : Int) (0 : Int) (0 : Int)))) (3 : Nat) ++ List.flatMap Go.Ev.lBytes (List.drop (0 : Nat) l1)) c2 (3 : Nat)) (↑(List.length l2) : Int) (1 : Nat)) (Go.Ev.Line.offset (List.getD l2 (0 : Nat) (Go.Ev.Line.mk (0 : Int) (0 : Int) (0 : Int) (0 : Int) (0 : Int)))) (3 : Nat)) ≤ (1000000 : Nat)) && List.all l2 Go.Ev.fitLn then Option.some (Go.Ev.D.tup (Go.Ev.D.acons (Go.Ev.D.sl Go.Ev.RTy.u8 (!Go.Ev.fitsB (Go.Ev.Line.offset (List.getD l2 (0 : Nat) (Go.Ev.Line.mk (0 : Int) (0 : Int) (0 : Int) (0 : Int) (0 : Int)))) (3 : Nat) && List.isEmpty (List.drop (0 : Nat) l2)) (Go.Ev.putL (Go.Ev.putL (Go.Ev.putL (Go.Ev.putL (Go.Ev.putL (Go.Ev.putL (Go.Ev.putL (Go.Ev.putL (Go.Ev.putL (Go.Ev.putL (Go.Ev.putL [] p (3 : Nat)) (↑(List.length items) : Int) (1 : Nat) ++ List.flatMap Go.Ev.iBytes (List.drop (0 : Nat) items)) c0 (3 : Nat)) (↑(List.length l0) : Int) (1 : Nat)) (0 : Int) (3 : Nat) ++ List.flatMap Go.Ev.lBytes (List.drop (0 : Nat) l0)) c1 (3 : Nat)) (↑(List.length l1) : Int) (1 : Nat)) (Go.Ev.Line.offset (List.getD l1 (0 : Nat) (Go.Ev.Line.mk (0 : Int) (0 : Int) (0 : Int) (0 : Int) (0 : Int)))) (3 : Nat) ++ List.flatMap Go.Ev.lBytes (List.drop (0 : Nat) l1)) c2 (3 : Nat)) (↑(List.length l2) : Int) (1 : Nat)) (Go.Ev.Line.offset (List.getD l2 (0 : Nat) (Go.Ev.Line.mk (0 : Int) (0 : Int) (0 : Int) (0 : Int) (0 : Int)))) (3 : Nat) ++ List.flatMap Go.Ev.lBytes (List.drop (0 : Nat) l2))) (Go.Ev.D.acons (Go.Ev.D.int Go.IntKind.i64 (0 : Int)) Go.Ev.D.anil))) else Option.none else Option.none else Option.none else Option.none else Option.none else Option.none else Option.none else bif Decidable.decide (List.length (Go.Ev.putL (Go.Ev.putL (Go.Ev.putL (Go.Ev.putL (Go.Ev.putL (Go.Ev.putL (Go.Ev.putL (Go.Ev.putL [] p (3 : Nat)) (↑(List.length items) : Int) (1 : Nat) ++ List.flatMap Go.Ev.iBytes (List.drop (0 : Nat) items)) c0 (3 : Nat)) (↑(List.length l0) : Int) (1 : Nat)) (0 : Int) (3 : Nat) ++ List.flatMap Go.Ev.lBytes (List.drop (0 : Nat) l0)) c1 (3 : Nat)) (↑(List.length l1) : Int) (1 : Nat)) (Go.Ev.Line.offset (List.getD l1 (0 : Nat) (Go.Ev.Line.mk (0 : Int) (0 : Int) (0 : Int) (0 : Int) (0 : Int)))) (3 : Nat) ++ List.flatMap Go.Ev.lBytes (List.drop (0 : Nat) l1)) ≤ (1000000000 : Nat)) then bif Go.Ev.lenOK (List.length l2) then bif Decidable.decide (List.length (Go.Ev.putL (Go.Ev.putL (Go.Ev.putL (Go.Ev.putL (Go.Ev.putL (Go.Ev.putL (Go.Ev.putL (Go.Ev.putL (Go.Ev.putL [] p (3 : Nat)) (↑(List.length items) : Int) (1 : Nat) ++ List.flatMap Go.Ev.iBytes (List.drop (0 : Nat) items)) c0 (3 : Nat)) (↑(List.length l0) : Int) (1 : Nat)) (0 : Int) (3 : Nat) ++ List.flatMap Go.Ev.lBytes (List.drop (0 : Nat) l0)) c1 (3 : Nat)) (↑(List.length l1) : Int) (1 : Nat)) (Go.Ev.Line.offset (List.getD l1 (0 : Nat) (Go.Ev.Line.mk (0 : Int) (0 : Int) (0 : Int) (0 : Int) (0 : Int)))) (3 : Nat) ++ List.flatMap Go.Ev.lBytes (List.drop (0 : Nat) l1)) c2 (3 : Nat)) ≤ (1000000000 : Nat)) then bif Decidable.decide (List.length (Go.Ev.putL (Go.Ev.putL (Go.Ev.putL (Go.Ev.putL (Go.Ev.putL (Go.Ev.putL (Go.Ev.putL (Go.Ev.putL (Go.Ev.putL (Go.Ev.putL [] p (3 : Nat)) (↑(List.length items) : Int) (1 : Nat) ++ List.flatMap Go.Ev.iBytes (List.drop (0 : Nat) items)) c0 (3 : Nat)) (↑(List.length l0) : Int) (1 : Nat)) (0 : Int) (3 : Nat) ++ List.flatMap Go.Ev.lBytes (List.drop (0 : Nat) l0)) c1 (3 : Nat)) (↑(List.length l1) : Int) (1 : Nat)) (Go.Ev.Line.offset (List.getD l1 (0 : Nat) (Go.Ev.Line.mk (0 : Int) (0 : Int) (0 : Int) (0 : Int) (0 : Int)))) (3 : Nat) ++ List.flatMap Go.Ev.lBytes (List.drop (0 : Nat) l1)) c2 (3 : Nat)) (↑(List.length l2) : Int) (1 : Nat)) ≤ (1000000000 : Nat)) then bif Go.Ev.lenOK (List.length l2) then bif Decidable.decide ((↑(List.length l2) : Int) = (↑(List.length l2) : Int)) && Bool.true && Decidable.decide (List.length l2 ≤ (1000000 : Nat) ∧ List.length (Go.Ev.putL (Go.Ev.putL (Go.Ev.putL (Go.Ev.putL (Go.Ev.putL (Go.Ev.putL (Go.Ev.putL (Go.Ev.putL (Go.Ev.putL (Go.Ev.putL (Go.Ev.putL [] p (3 : Nat)) (↑(List.length items) : Int) (1 : Nat) ++ List.flatMap Go.Ev.iBytes (List.drop (0 : Nat) items)) c0 (3 : Nat)) (↑(List.length l0) : Int) (1 : Nat)) (0 : Int) (3 : Nat) ++ List.flatMap Go.Ev.lBytes (List.drop (0 : Nat) l0)) c1 (3 : Nat)) (↑(List.length l1) : Int) (1 : Nat)) (Go.Ev.Line.offset (List.getD l1 (0 : Nat) (Go.Ev.Line.mk (0 : Int) (0 : Int) (0 : Int) (0 : Int) (0 : Int)))) (3 : Nat) ++ List.flatMap Go.Ev.lBytes (List.drop (0 : Nat) l1)) c2 (3 : Nat)) (↑(List.length l2) : Int) (1 : Nat)) (0 : Int) (3 : Nat)) ≤ (1000000 : Nat)) && List.all l2 Go.Ev.fitLn then Option.some (Go.Ev.D.tup (Go.Ev.D.acons (Go.Ev.D.sl Go.Ev.RTy.u8 (Bool.false && List.isEmpty (List.drop (0 : Nat) l2)) (Go.Ev.putL (Go.Ev.putL (Go.Ev.putL (Go.Ev.putL (Go.Ev.putL (Go.Ev.putL (Go.Ev.putL (Go.Ev.putL (Go.Ev.putL (Go.Ev.putL (Go.Ev.putL [] p (3 : Nat)) (↑(List.length items) : Int) (1 : Nat) ++ List.flatMap Go.Ev.iBytes (List.drop (0 : Nat) items)) c0 (3 : Nat)) (↑(List.length l0) : Int) (1 : Nat)) (0 : Int) (3 : Nat) ++ List.flatMap Go.Ev.lBytes (List.drop (0 : Nat) l0)) c1 (3 : Nat)) (↑(List.length l1) : Int) (1 : Nat)) (Go.Ev.Line.offset (List.getD l1 (0 : Nat) (Go.Ev.Line.mk (0 : Int) (0 : Int) (0 : Int) (0 : Int) (0 : Int)))) (3 : Nat) ++ List.flatMap Go.Ev.lBytes (List.drop (0 : Nat) l1)) c2 (3 : Nat)) (↑(List.length l2) : Int) (1 : Nat)) (0 : Int) (3 : Nat) ++ List.flatMap Go.Ev.lBytes (List.drop (0 : Nat) l2))) (Go.Ev.D.acons (Go.Ev.D.int Go.IntKind.i64 (0 : Int)) Go.Ev.D.anil))) else Option.none else Option.none else Option.none else Option.none else Option.none else Option.none else Option.none else Option.none else Option.none else Option.none else Option.none else Option.none else Option.none else Option.none else bif Decidable.decide (List.length (Go.Ev.putL (Go.Ev.putL (Go.Ev.putL (Go.Ev.putL (Go.Ev.putL [] p (3 : Nat)) (↑(List.length items) : Int) (1 : Nat) ++ List.flatMap Go.Ev.iBytes (List.drop (0 : Nat) items)) c0 (3 : Nat)) (↑(List.length l0) : Int) (1 : Nat)) (0 : Int) (3 : Nat) ++ List.flatMap Go.Ev.lBytes (List.drop (0 : Nat) l0)) ≤ (1000000000 : Nat)) then bif Go.Ev.lenOK (List.length l1) then bif Decidable.decide (List.length (Go.Ev.putL (Go.Ev.putL (Go.Ev.putL (Go.Ev.putL (Go.Ev.putL (Go.Ev.putL [] p (3 : Nat)) (↑(List.length items) : Int) (1 : Nat) ++ List.flatMap Go.Ev.iBytes (List.drop (0 : Nat) items)) c0 (3 : Nat)) (↑(List.length l0) : Int) (1 : Nat)) (0 : Int) (3 : Nat) ++ List.flatMap Go.Ev.lBytes (List.drop (0 : Nat) l0)) c1 (3 : Nat)) ≤ (1000000000 : Nat)) then bif Decidable.decide (List.length (Go.Ev.putL (Go.Ev.putL (Go.Ev.putL (Go.Ev.putL (Go.Ev.putL (Go.Ev.putL (Go.Ev.putL [] p (3 : Nat)) (↑(List.length items) : Int) (1 : Nat) ++ List.flatMap Go.Ev.iBytes (List.drop (0 : Nat) items)) c0 (3 : Nat)) (↑(List.length l0) : Int) (1 : Nat)) (0 : Int) (3 : Nat) ++ List.flatMap Go.Ev.lBytes (List.drop (0 : Nat) l0)) c1 (3 : Nat)) (↑(List.length l1) : Int) (1 : Nat)) ≤ (1000000000 : Nat)) then bif Go.Ev.lenOK (List.length l1) then bif Decidable.decide ((↑(List.length l1) : Int) = (↑(List.length l1) : Int)) && Bool.true && Decidable.decide (List.length l1 ≤ (1000000 : Nat) ∧ List.length (Go.Ev.putL (Go.Ev.putL (Go.Ev.putL (Go.Ev.putL (Go.Ev.putL (Go.Ev.putL (Go.Ev.putL (Go.Ev.putL [] p (3 : Nat)) (↑(List.length items) : Int) (1 : Nat) ++ List.flatMap Go.Ev.iBytes (List.drop (0 : Nat) items)) c0 (3 : Nat)) (↑(List.length l0) : Int) (1 : Nat)) (0 : Int) (3 : Nat) ++ List.flatMap Go.Ev.lBytes (List.drop (0 : Nat) l0)) c1 (3 : Nat)) (↑(List.length l1) : Int) (1 : Nat)) (0 : Int) (3 : Nat)) ≤ (1000000 : Nat)) && List.all l1 Go.Ev.fitLn then bif Go.Ev.lenOK (List.length l2) then bif Decidable.decide ((0 : Int) < (↑(List.length l2) : Int)) then bif Decidable.decide ((0 : Int) ≤ (0 : Int) ∧ (0 : Int) < (↑(List.length l2) : Int)) then bif Decidable.decide (List.length (Go.Ev.putL (Go.Ev.putL (Go.Ev.putL (Go.Ev.putL (Go.Ev.putL (Go.Ev.putL (Go.Ev.putL (Go.Ev.putL [] p (3 : Nat)) (↑(List.length items) : Int) (1 : Nat) ++ List.flatMap Go.Ev.iBytes (List.drop (0 : Nat) items)) c0 (3 : Nat)) (↑(List.length l0) : Int) (1 : Nat)) (0 : Int) (3 : Nat) ++ List.flatMap Go.Ev.lBytes (List.drop (0 : Nat) l0)) c1 (3 : Nat)) (↑(List.length l1) : Int) (1 : Nat)) (0 : Int) (3 : Nat) ++ List.flatMap Go.Ev.lBytes (List.drop (0 : Nat) l1)) ≤ (1000000000 : Nat)) then bif Go.Ev.lenOK (List.length l2) then bif Decidable.decide (List.length (Go.Ev.putL (Go.Ev.putL (Go.Ev.putL (Go.Ev.putL (Go.Ev.putL (Go.Ev.putL (Go.Ev.putL (Go.Ev.putL (Go.Ev.putL [] p (3 : Nat)) (↑(List.length items) : Int) (1 : Nat) ++ List.flatMap Go.Ev.iBytes (List.drop (0 : Nat) items)) c0 (3 : Nat)) (↑(List.length l0) : Int) (1 : Nat)) (0 : Int) (3 : Nat) ++ List.flatMap Go.Ev.lBytes (List.drop (0 : Nat) l0)) c1 (3 : Nat)) (↑(List.length l1) : Int) (1 : Nat)) (0 : Int) (3 : Nat) ++ List.flatMap Go.Ev.lBytes (List.drop (0 : Nat) l1)) c2 (3 : Nat)) ≤ (1000000000 : Nat)) then bif Decidable.decide (List.length (Go.Ev.putL (Go.Ev.putL (Go.Ev.putL (Go.Ev.putL (Go.Ev.putL (Go.Ev.putL (Go.Ev.putL (Go.Ev.putL (Go.Ev.putL (Go.Ev.putL [] p (3 : Nat)) (↑(List.length items) : Int) (1 : Nat) ++ List.flatMap Go.Ev.iBytes (List.drop (0 : Nat) items)) c0 (3 : Nat)) (↑(List.length l0) : Int) (1 : Nat)) (0 : Int) (3 : Nat) ++ List.flatMap Go.Ev.lBytes (List.drop (0 : Nat) l0)) c1 (3 : Nat)) (↑(List.length l1) : Int) (1 : Nat)) (0 : Int) (3 : Nat) ++ List.flatMap Go.Ev.lBytes (List.drop (0 : Nat) l1)) c2 (3 : Nat)) (↑(List.length l2) : Int) (1 : Nat)) ≤ (1000000000 : Nat)) then bif Go.Ev.lenOK (List.length l2) then bif Decidable.decide ((↑(List.length l2) : Int) = (↑(List.length l2) : Int)) && Bool.true && Decidable.decide (List.length l2 ≤ (1000000 : Nat) ∧ List.length (Go.Ev.putL (Go.Ev.putL (Go.Ev.putL (Go.Ev.putL (Go.Ev.putL (Go.Ev.putL (Go.Ev.putL (Go.Ev.putL (Go.Ev.putL (Go.Ev.putL (Go.Ev.putL [] p (3 : Nat)) (↑(List.length items) : Int) (1 : Nat) ++ List.flatMap Go.Ev.iBytes (List.drop (0 : Nat) items)) c0 (3 : Nat)) (↑(List.length l0) : Int) (1 : Nat)) (0 : Int) (3 : Nat) ++ List.flatMap Go.Ev.lBytes (List.drop (0 : Nat) l0)) c1 (3 : Nat)) (↑(List.length l1) : Int) (1 : Nat)) (0 : Int) (3 : Nat) ++ List.flatMap Go.Ev.lBytes (List.drop (0 : Nat) l1)) c2 (3 : Nat)) (↑(List.length l2) : Int) (1 : Nat)) (Go.Ev.Line.offset (List.getD l2 (0 : Nat) (Go.Ev.Line.mk (0 : Int) (0 : Int) (0 : Int) (0 : Int) (0 : Int)))) (3 : Nat)) ≤ (1000000 : Nat)) && List.all l2 Go.Ev.fitLn then Option.some (Go.Ev.D.tup (Go.Ev.D.acons (Go.Ev.D.sl Go.Ev.RTy.u8 (!Go.Ev.fitsB (Go.Ev.Line.offset (List.getD l2 (0 : Nat) (Go.Ev.Line.mk (0 : Int) (0 : Int) (0 : Int) (0 : Int) (0 : Int)))) (3 : Nat) && List.isEmpty (List.drop (0 : Nat) l2)) (Go.Ev.putL (Go.Ev.putL (Go.Ev.putL (Go.Ev.putL (Go.Ev.putL (Go.Ev.putL (Go.Ev.putL (Go.Ev.putL (Go.Ev.putL (Go.Ev.putL (Go.Ev.putL [] p (3 : Nat)) (↑(List.length items) : Int) (1 : Nat) ++ List.flatMap Go.Ev.iBytes (List.drop (0 : Nat) items)) c0 (3 : Nat)) (↑(List.length l0) : Int) (1 : Nat)) (0 : Int) (3 : Nat) ++ List.flatMap Go.Ev.lBytes (List.drop (0 : Nat) l0)) c1 (3 : Nat)) (↑(List.length l1) : Int) (1 : Nat)) (0 : Int) (3 : Nat) ++ List.flatMap Go.Ev.lBytes (List.drop (0 : Nat) l1)) c2 (3 : Nat)) (↑(List.length l2) : Int) (1 : Nat)) (Go.Ev.Line.offset (List.getD l2 (0 : Nat) (Go.Ev.Line.mk (0 : Int) (0 : Int) (0 : Int) (0 : Int) (0 : Int)))) (3 : Nat) ++ List.flatMap Go.Ev.lBytes (List.drop (0 : Nat) l2))) (Go.Ev.D.acons (Go.Ev.D.int Go.IntKind.i64 (0 : Int)) Go.Ev.D.anil))) else Option.none else Option.none else Option.none else Option.none else Option.none else Option.none else Option.none else bif Decidable.decide (List.length (Go.Ev.putL (Go.Ev.putL (Go.Ev.putL (Go.Ev.putL (Go.Ev.putL (Go.Ev.putL (Go.Ev.putL (Go.Ev.putL [] p (3 : Nat)) (↑(List.length items) : Int) (1 : Nat) ++ List.flatMap Go.Ev.iBytes (List.drop (0 : Nat) items)) c0 (3 : Nat)) (↑(List.length l0) : Int) (1 : Nat)) (0 : Int) (3 : Nat) ++ List.flatMap Go.Ev.lBytes (List.drop (0 : Nat) l0)) c1 (3 : Nat)) (↑(List.length l1) : Int) (1 : Nat)) (0 : Int) (3 : Nat) ++ List.flatMap Go.Ev.lBytes (List.drop (0 : Nat) l1)) ≤ (1000000000 : Nat)) then bif Go.Ev.lenOK (List.length l2) then bif Decidable.decide (List.length (Go.Ev.putL (Go.Ev.putL (Go.Ev.putL (Go.Ev.putL (Go.Ev.putL (Go.Ev.putL (Go.Ev.putL (Go.Ev.putL (Go.Ev.putL [] p (3 : Nat)) (↑(List.length items) : Int) (1 : Nat) ++ List.flatMap Go.Ev.iBytes (List.drop (0 : Nat) items)) c0 (3 : Nat)) (↑(List.length l0) : Int) (1 : Nat)) (0 : Int) (3 : Nat) ++ List.flatMap Go.Ev.lBytes (List.drop (0 : Nat) l0)) c1 (3 : Nat)) (↑(List.length l1) : Int) (1 : Nat)) (0 : Int) (3 : Nat) ++ List.flatMap Go.Ev.lBytes (List.drop (0 : Nat) l1)) c2 (3 : Nat)) ≤ (1000000000 : Nat)) then bif Decidable.decide (List.length (Go.Ev.putL (Go.Ev.putL (Go.Ev.putL (Go.Ev.putL (Go.Ev.putL (Go.Ev.putL (Go.Ev.putL (Go.Ev.putL (Go.Ev.putL (Go.Ev.putL [] p (3 : Nat)) (↑(List.length items) : Int) (1 : Nat) ++ List.flatMap Go.Ev.iBytes (List.drop (0 : Nat) items)) c0 (3 : Nat)) (↑(List.length l0) : Int) (1 : Nat)) (0 : Int) (3 : Nat) ++ List.flatMap Go.Ev.lBytes (List.drop (0 : Nat) l0)) c1 (3 : Nat)) (↑(List.length l1) : Int) (1 : Nat)) (0 : Int) (3 : Nat) ++ List.flatMap Go.Ev.lBytes (List.drop (0 : Nat) l1)) c2 (3 : Nat)) (↑(List.length l2) : Int) (1 : Nat)) ≤ (1000000000 : Nat)) then bif Go.Ev.lenOK (List.length l2) then bif Decidable.decide ((↑(List.length l2) : Int) = (↑(List.length l2) : Int)) && Bool.true && Decidable.decide (List.length l2 ≤ (1000000 : Nat) ∧ List.length (Go.Ev.putL (Go.Ev.putL (Go.Ev.putL (Go.Ev.putL (Go.Ev.putL (Go.Ev.putL (Go.Ev.putL (Go.Ev.putL (Go.Ev.putL (Go.Ev.putL (Go.Ev.putL [] p (3 : Nat)) (↑(List.length items) : Int) (1 : Nat) ++ List.flatMap Go.Ev.iBytes (List.drop (0 : Nat) items)) c0 (3 : Nat)) (↑(List.length l0) : Int) (1 : Nat)) (0 : Int) (3 : Nat) ++ List.flatMap Go.Ev.lBytes (List.drop (0 : Nat) l0)) c1 (3 : Nat)) (↑(List.length l1) : Int) (1 : Nat)) (0 : Int) (3 : Nat) ++ List.flatMap Go.Ev.lBytes (List.drop (0 : Nat) l1)) c2 (3 : Nat)) (↑(List.length l2) : Int) (1 : Nat)) (0 : Int) (3 : Nat)) ≤ (1000000 : Nat)) && List.all l2 Go.Ev.fitLn then Option.some (Go.Ev.D.tup (Go.Ev.D.acons (Go.Ev.D.sl Go.Ev.RTy.u8 (Bool.false && List.isEmpty (List.drop (0 : Nat) l2)) (Go.Ev.putL (Go.Ev.putL (Go.Ev.putL (Go.Ev.putL (Go.Ev.putL (Go.Ev.putL (Go.Ev.putL (Go.Ev.putL (Go.Ev.putL (Go.Ev.putL (Go.Ev.putL [] p (3 : Nat)) (↑(List.length items) : Int) (1 : Nat) ++ List.flatMap Go.Ev.iBytes (List.drop (0 : Nat) items)) c0 (3 : Nat)) (↑(List.length l0) : Int) (1 : Nat)) (0 : Int) (3 : Nat) ++ List.flatMap Go.Ev.lBytes (List.drop (0 : Nat) l0)) c1 (3 : Nat)) (↑(List.length l1) : Int) (1 : Nat)) (0 : Int) (3 : Nat) ++ List.flatMap Go.Ev.lBytes (List.drop (0 : Nat) l1)) c2 (3 : Nat)) (↑(List.length l2) : Int) (1 : Nat)) (0 : Int) (3 : Nat) ++ List.flatMap Go.Ev.lBytes (List.drop (0 : Nat) l2))) (Go.Ev.D.acons (Go.Ev.D.int Go.IntKind.i64 (0 : Int)) Go.Ev.D.anil))) else Option.none else Option.none else Option.none else Option.none else Option.none else Option.none else Option.none else Option.none else Option.none else Option.none else Option.none else Option.none else Option.none else Option.none else Option.none else Option.none else Option.none else Option.none else Option.none else Option.none else Option.none else Option.none else Option.none else Option.none else Option.none else Option.none) := by kernel_rfl
theorem stateBytes_ok (p : Int) (ci : Bool) (items : List Item) (k0 : Bool) (k1 : Bool) (k2 : Bool) (l0 : List Line) (l1 : List Line) (l2 : List Line) (c0 : Int) (c1 : Int) (c2 : Int) (h : (decide (items.length ≤ 9223372036854775807 ∧ l0.length ≤ 9223372036854775807 ∧ l1.length ≤ 9223372036854775807 ∧ l2.length ≤ 9223372036854775807)) = true) : stateBytes_e p ci items k0 k1 k2 l0 l1 l2 c0 c1 c2 = some (.tup (.acons (.sl (C := RC) .u8 (!standsOK ⟨p, items, l0, l1, l2, c0, c1, c2⟩) (bif standsOK ⟨p, items, l0, l1, l2, c0, c1, c2⟩ then stBytes ⟨p, items, l0, l1, l2, c0, c1, c2⟩ else [])) (.acons (.int .i64 (bif standsOK ⟨p, items, l0, l1, l2, c0, c1, c2⟩ then 0 else 2)) .anil))) := by
  rw [stateBytes_eq]
  rw [h]
  cases hm : standsOK ⟨p, items, l0, l1, l2, c0, c1, c2⟩
  · rfl
  · obtain ⟨hp, hil, hif, ⟨k0, m0, w0, o0⟩, ⟨k1, m1, w1, o1⟩, ⟨k2, m2, w2, o2⟩⟩ := stands_facts hm
    have b := lenOK_of (show items.length ≤ 9223372036854775807 by omega)
    have b0 := lenOK_of (show l0.length ≤ 9223372036854775807 by omega)
    have b1 := lenOK_of (show l1.length ≤ 9223372036854775807 by omega)
    have b2 := lenOK_of (show l2.length ≤ 9223372036854775807 by omega)
    have fp : fitsB p 3 = true := fits3 (by rw [withinB_iff]; omega)
    have fi : fitsB (items.length : Int) 1 = true := fits1 (by rw [withinB_iff]; omega)
    have fc0 : fitsB c0 3 = true := fits3 (by rw [withinB_iff]; omega)
    have fc1 : fitsB c1 3 = true := fits3 (by rw [withinB_iff]; omega)
    have fc2 : fitsB c2 3 = true := fits3 (by rw [withinB_iff]; omega)
    have fl0 : fitsB (l0.length : Int) 1 = true := fits1 (by rw [withinB_iff]; omega)
    have fl1 : fitsB (l1.length : Int) 1 = true := fits1 (by rw [withinB_iff]; omega)
    have fl2 : fitsB (l2.length : Int) 1 = true := fits1 (by rw [withinB_iff]; omega)
    have fo0 : fitsB (l0.getD 0 ⟨0, 0, 0, 0, 0⟩).offset 3 = true := fits3 (by rw [withinB_iff]; unfold firstOff at o0; omega)
    have fo1 : fitsB (l1.getD 0 ⟨0, 0, 0, 0, 0⟩).offset 3 = true := fits3 (by rw [withinB_iff]; unfold firstOff at o1; omega)
    have fo2 : fitsB (l2.getD 0 ⟨0, 0, 0, 0, 0⟩).offset 3 = true := fits3 (by rw [withinB_iff]; unfold firstOff at o2; omega)
    have f0 : fitsB 0 3 = true := rfl
    have L : ∀ b : List UInt8, b.length ≤ 100000 → decide (b.length ≤ 1000000000) = true := fun b hb => decide_eq_true (by omega)
    have L2 : ∀ (b : List UInt8) (n : Nat), n ≤ 24 → b.length ≤ 100000 → decide (n ≤ 1000000 ∧ b.length ≤ 1000000) = true := fun b n hn hb => by simp; omega
    have i0 : ∀ l : List Line, decide (0 ≤ (0 : Int) ∧ (0 : Int) < l.length) = decide (0 < (l.length : Int)) := fun l => by simp
    have sI := flatMap_len items iBytes 5 iBytes_len
    have s0 := flatMap_len l0 lBytes 5 lBytes_len
    have s1 := flatMap_len l1 lBytes 5 lBytes_len
    have s2 := flatMap_len l2 lBytes 5 lBytes_len
    simp only [b, b0, b1, b2, show Int.toNat 1 = 1 from rfl, show Int.toNat 3 = 3 from rfl, putL_fits fp, putL_fits fi, putL_fits fc0, putL_fits fc1, putL_fits fc2, putL_fits fl0, putL_fits fl1, putL_fits fl2, putL_fits fo0, putL_fits fo1, putL_fits fo2, putL_fits f0, fp, fi, fc0, fc1, fc2, fl0, fl1, fl2, fo0, fo1, fo2, f0, hif, w0, w1, w2, cond_true, cond_false, Bool.not_true, Bool.not_false, Bool.and_true, Bool.true_and, decide_true, List.drop_zero, Bool.false_and, i0]
    simp (disch := first | omega | (simp only [List.length_append, leB_length, List.length_nil, sI, s0, s1, s2]; omega)) only [L, L2, cond_true]
    have hx : ∀ l : List Line, ¬ (0 < l.length) → (l.getD 0 ⟨0, 0, 0, 0, 0⟩).offset = 0 := fun l hl => by
      have : l = [] := by cases l with
        | nil => rfl
        | cons _ _ => simp at hl
      rw [this]; rfl
    simp only [stBytes, partBytes, firstOff]
    simp only [Int.natCast_pos]
    by_cases e0 : 0 < l0.length <;> by_cases e1 : 0 < l1.length <;> by_cases e2 : 0 < l2.length <;> simp only [e0, e1, e2, decide_true, decide_false, cond_true, cond_false] <;> simp [e0, e1, e2, hx]
noncomputable def ud_3 := ud_2.addSpec 24 stateBytes_sp
theorem ud_3_laws : FLaws Try.prog s05 ud_3 := ud_2_laws.addEv s05_laws fun args d h => by
  unfold stateBytes_sp at h
  split at h
  · unfold stateBytes_s at h
    have h1 := congrArg Prod.fst (Option.some.inj h)
    obtain rfl : _ = d := congrArg Prod.snd (Option.some.inj h)
    exact ⟨by simp [D.refs], 40, stateBytes_ok _ _ _ _ _ _ _ _ _ _ _ _ h1⟩
  · cases h
end Go.Ev


namespace Go.Ev
open Go.Proofs
set_option maxRecDepth 100000
set_option linter.unusedVariables false
set_option linter.unusedSimpArgs false
/-! ### function wakes: flume/flumelaw05.wakes -/
def wakes_s  : Option (Bool × D RC) := some (true, .bool true)
def wakes_sp : List (D RC) → Option (Bool × D RC)
  | [] => wakes_s 
  | _ => none
noncomputable def wakes_e  := evF s05 ud_3 1000 11 []
theorem wakes_ok  (h : (true) = true) : wakes_e  = some (.bool true) := by
  kernel_rfl
noncomputable def ue_1 := ud_3.addSpec 11 wakes_sp
theorem ue_1_laws : FLaws Try.prog s05 ue_1 := ud_3_laws.addEv s05_laws fun args d h => by
  unfold wakes_sp at h
  split at h
  · unfold wakes_s at h
    have h1 := congrArg Prod.fst (Option.some.inj h)
    obtain rfl : _ = d := congrArg Prod.snd (Option.some.inj h)
    exact ⟨by simp [D.refs], 1000, wakes_ok  h1⟩
  · cases h
noncomputable def more_e (p : Int) (y c : Bool) (l : List Write) (k v : Int) := evF s05 ue_1 40 5 [.acons (.int .i64 p) (.acons (.bool y) (.acons (.sl (C := RC) .write c l) .anil)), .acons (.int .i64 k) (.acons (.int .i64 v) .anil)]
theorem more_eq (p : Int) (y c : Bool) (l : List Write) (k v : Int) : more_e p y c l k v = (bif Go.Ev.lenOK (List.length l) then bif Decidable.decide ((40 : Int) < (↑(List.length l) : Int)) then Option.some (Go.Ev.D.bool Bool.true) else bif !y then Option.some (Go.Ev.D.bool Bool.true) else bif Go.Ev.lenOK (List.length l) then bif Go.Ev.sizeOK ((0 : Nat) + List.length l) (16 : Nat) then bif Nat.beq ((0 : Nat) + List.length l) (List.length (List.replicate (0 : Nat) (Go.Ev.Write.mk (0 : Int) (0 : Int)) ++ l)) && Go.Ev.sizeOK ((0 : Nat) + List.length l + List.length [Go.Ev.Write.mk k v]) (16 : Nat) then bif Nat.beq (List.length (List.replicate (0 : Nat) (Go.Ev.Write.mk (0 : Int) (0 : Int)) ++ l) + List.length [Go.Ev.Write.mk k v]) (List.length (List.replicate (0 : Nat) (Go.Ev.Write.mk (0 : Int) (0 : Int)) ++ l ++ [Go.Ev.Write.mk k v])) then bif Go.Ev.lenOK (List.length (List.replicate (0 : Nat) (Go.Ev.Write.mk (0 : Int) (0 : Int)) ++ l ++ [Go.Ev.Write.mk k v])) then bif (bif Go.Ev.mayB (Go.Ev.Rec.mk p y l) then (0 : Int) else (2 : Int)) != (0 : Int) then bif (bif Go.Ev.mayB (Go.Ev.Rec.mk p y l) then (0 : Int) else (2 : Int)) == (0 : Int) then Option.some (Go.Ev.D.bool Bool.true) else bif (bif Go.Ev.mayB (Go.Ev.Rec.mk p y (List.replicate (0 : Nat) (Go.Ev.Write.mk (0 : Int) (0 : Int)) ++ l ++ [Go.Ev.Write.mk k v])) then (0 : Int) else (2 : Int)) != (0 : Int) then Option.some (Go.Ev.D.bool Bool.true) else Option.some (Go.Ev.D.bool Bool.false) else bif (bif Go.Ev.mayB (Go.Ev.Rec.mk p y (List.replicate (0 : Nat) (Go.Ev.Write.mk (0 : Int) (0 : Int)) ++ l ++ [Go.Ev.Write.mk k v])) then (0 : Int) else (2 : Int)) != (0 : Int) then bif (bif Go.Ev.mayB (Go.Ev.Rec.mk p y l) then (0 : Int) else (2 : Int)) == (0 : Int) then Option.some (Go.Ev.D.bool Bool.true) else bif (bif Go.Ev.mayB (Go.Ev.Rec.mk p y (List.replicate (0 : Nat) (Go.Ev.Write.mk (0 : Int) (0 : Int)) ++ l ++ [Go.Ev.Write.mk k v])) then (0 : Int) else (2 : Int)) != (0 : Int) then Option.some (Go.Ev.D.bool Bool.true) else Option.some (Go.Ev.D.bool Bool.false) else bif Go.Ev.lenOK (List.length (bif Go.Ev.mayB (Go.Ev.Rec.mk p y l) then Go.Ev.bytesR (Go.Ev.Rec.mk p y l) else [])) then bif Decidable.decide ((↑(List.length (bif Go.Ev.mayB (Go.Ev.Rec.mk p y l) then Go.Ev.bytesR (Go.Ev.Rec.mk p y l) else [])) : Int) < (5 : Int)) then Option.some (Go.Ev.D.bool Bool.false) else bif Go.Ev.lenOK (List.length (bif Go.Ev.mayB (Go.Ev.Rec.mk p y (List.replicate (0 : Nat) (Go.Ev.Write.mk (0 : Int) (0 : Int)) ++ l ++ [Go.Ev.Write.mk k v])) then Go.Ev.bytesR (Go.Ev.Rec.mk p y (List.replicate (0 : Nat) (Go.Ev.Write.mk (0 : Int) (0 : Int)) ++ l ++ [Go.Ev.Write.mk k v])) else [])) then bif Go.Ev.lenOK (List.length (bif Go.Ev.mayB (Go.Ev.Rec.mk p y l) then Go.Ev.bytesR (Go.Ev.Rec.mk p y l) else [])) then bif (↑(List.length (bif Go.Ev.mayB (Go.Ev.Rec.mk p y (List.replicate (0 : Nat) (Go.Ev.Write.mk (0 : Int) (0 : Int)) ++ l ++ [Go.Ev.Write.mk k v])) then Go.Ev.bytesR (Go.Ev.Rec.mk p y (List.replicate (0 : Nat) (Go.Ev.Write.mk (0 : Int) (0 : Int)) ++ l ++ [Go.Ev.Write.mk k v])) else [])) : Int) != Go.IntKind.wrap Go.IntKind.i64 ((↑(List.length (bif Go.Ev.mayB (Go.Ev.Rec.mk p y l) then Go.Ev.bytesR (Go.Ev.Rec.mk p y l) else [])) : Int) + (2 : Int)) then Option.some (Go.Ev.D.bool Bool.false) else bif Decidable.decide ((0 : Int) ≤ (4 : Int) ∧ (4 : Int) < (↑(List.length (bif Go.Ev.mayB (Go.Ev.Rec.mk p y (List.replicate (0 : Nat) (Go.Ev.Write.mk (0 : Int) (0 : Int)) ++ l ++ [Go.Ev.Write.mk k v])) then Go.Ev.bytesR (Go.Ev.Rec.mk p y (List.replicate (0 : Nat) (Go.Ev.Write.mk (0 : Int) (0 : Int)) ++ l ++ [Go.Ev.Write.mk k v])) else [])) : Int)) then bif Decidable.decide ((0 : Int) ≤ (4 : Int) ∧ (4 : Int) < (↑(List.length (bif Go.Ev.mayB (Go.Ev.Rec.mk p y l) then Go.Ev.bytesR (Go.Ev.Rec.mk p y l) else [])) : Int)) then bif Go.IntKind.wrap Go.IntKind.i64 (↑(UInt8.toNat (List.getD (bif Go.Ev.mayB (Go.Ev.Rec.mk p y (List.replicate (0 : Nat) (Go.Ev.Write.mk (0 : Int) (0 : Int)) ++ l ++ [Go.Ev.Write.mk k v])) then Go.Ev.bytesR (Go.Ev.Rec.mk p y (List.replicate (0 : Nat) (Go.Ev.Write.mk (0 : Int) (0 : Int)) ++ l ++ [Go.Ev.Write.mk k v])) else []) (4 : Nat) (UInt8.ofBitVec (BitVec.ofNat (8 : Nat) (nat_lit 0))))) : Int) != Go.IntKind.wrap Go.IntKind.i64 (Go.IntKind.wrap Go.IntKind.i64 (↑(UInt8.toNat (List.getD (bif Go.Ev.mayB (Go.Ev.Rec.mk p y l) then Go.Ev.bytesR (Go.Ev.Rec.mk p y l) else []) (4 : Nat) (UInt8.ofBitVec (BitVec.ofNat (8 : Nat) (nat_lit 0))))) : Int) + (1 : Int)) then Option.some (Go.Ev.D.bool Bool.false) else bif Decidable.decide ((0 : Int) ≤ (0 : Int) ∧ (0 : Int) ≤ (4 : Int) ∧ (4 : Int) ≤ (↑(List.length (bif Go.Ev.mayB (Go.Ev.Rec.mk p y (List.replicate (0 : Nat) (Go.Ev.Write.mk (0 : Int) (0 : Int)) ++ l ++ [Go.Ev.Write.mk k v])) then Go.Ev.bytesR (Go.Ev.Rec.mk p y (List.replicate (0 : Nat) (Go.Ev.Write.mk (0 : Int) (0 : Int)) ++ l ++ [Go.Ev.Write.mk k v])) else [])) : Int)) then bif Decidable.decide ((0 : Int) ≤ (0 : Int) ∧ (0 : Int) ≤ (4 : Int) ∧ (4 : Int) ≤ (↑(List.length (bif Go.Ev.mayB (Go.Ev.Rec.mk p y l) then Go.Ev.bytesR (Go.Ev.Rec.mk p y l) else [])) : Int)) then bif !(fun (l : List (Go.Ev.RA Go.Ev.RTy.u8)) => l) (List.drop (0 : Nat) (List.take (4 : Nat) (bif Go.Ev.mayB (Go.Ev.Rec.mk p y (List.replicate (0 : Nat) (Go.Ev.Write.mk (0 : Int) (0 : Int)) ++ l ++ [Go.Ev.Write.mk k v])) then Go.Ev.bytesR (Go.Ev.Rec.mk p y (List.replicate (0 : Nat) (Go.Ev.Write.mk (0 : Int) (0 : Int)) ++ l ++ [Go.Ev.Write.mk k v])) else []))) == (fun (l : List (Go.Ev.RA Go.Ev.RTy.u8)) => l) (List.drop (0 : Nat) (List.take (4 : Nat) (bif Go.Ev.mayB (Go.Ev.Rec.mk p y l) then Go.Ev.bytesR (Go.Ev.Rec.mk p y l) else []))) then Option.some (Go.Ev.D.bool Bool.false) else bif Go.Ev.lenOK (List.length (bif Go.Ev.mayB (Go.Ev.Rec.mk p y l) then Go.Ev.bytesR (Go.Ev.Rec.mk p y l) else [])) then bif Decidable.decide ((0 : Int) ≤ (5 : Int) ∧ (5 : Int) ≤ (↑(List.length (bif Go.Ev.mayB (Go.Ev.Rec.mk p y l) then Go.Ev.bytesR (Go.Ev.Rec.mk p y l) else [])) : Int) ∧ (↑(List.length (bif Go.Ev.mayB (Go.Ev.Rec.mk p y l) then Go.Ev.bytesR (Go.Ev.Rec.mk p y l) else [])) : Int) ≤ (↑(List.length (bif Go.Ev.mayB (Go.Ev.Rec.mk p y (List.replicate (0 : Nat) (Go.Ev.Write.mk (0 : Int) (0 : Int)) ++ l ++ [Go.Ev.Write.mk k v])) then Go.Ev.bytesR (Go.Ev.Rec.mk p y (List.replicate (0 : Nat) (Go.Ev.Write.mk (0 : Int) (0 : Int)) ++ l ++ [Go.Ev.Write.mk k v])) else [])) : Int)) then bif Decidable.decide ((0 : Int) ≤ (5 : Int) ∧ (5 : Int) ≤ (↑(List.length (bif Go.Ev.mayB (Go.Ev.Rec.mk p y l) then Go.Ev.bytesR (Go.Ev.Rec.mk p y l) else [])) : Int)) then bif !(fun (l : List (Go.Ev.RA Go.Ev.RTy.u8)) => l) (List.drop (5 : Nat) (List.take (Int.toNat (↑(List.length (bif Go.Ev.mayB (Go.Ev.Rec.mk p y l) then Go.Ev.bytesR (Go.Ev.Rec.mk p y l) else [])) : Int)) (bif Go.Ev.mayB (Go.Ev.Rec.mk p y (List.replicate (0 : Nat) (Go.Ev.Write.mk (0 : Int) (0 : Int)) ++ l ++ [Go.Ev.Write.mk k v])) then Go.Ev.bytesR (Go.Ev.Rec.mk p y (List.replicate (0 : Nat) (Go.Ev.Write.mk (0 : Int) (0 : Int)) ++ l ++ [Go.Ev.Write.mk k v])) else []))) == (fun (l : List (Go.Ev.RA Go.Ev.RTy.u8)) => l) (List.drop (5 : Nat) (bif Go.Ev.mayB (Go.Ev.Rec.mk p y l) then Go.Ev.bytesR (Go.Ev.Rec.mk p y l) else [])) then Option.some (Go.Ev.D.bool Bool.false) else bif Go.Ev.lenOK (List.length (bif Go.Ev.mayB (Go.Ev.Rec.mk p y l) then Go.Ev.bytesR (Go.Ev.Rec.mk p y l) else [])) then bif Decidable.decide ((0 : Int) ≤ (↑(List.length (bif Go.Ev.mayB (Go.Ev.Rec.mk p y l) then Go.Ev.bytesR (Go.Ev.Rec.mk p y l) else [])) : Int) ∧ (↑(List.length (bif Go.Ev.mayB (Go.Ev.Rec.mk p y l) then Go.Ev.bytesR (Go.Ev.Rec.mk p y l) else [])) : Int) < (↑(List.length (bif Go.Ev.mayB (Go.Ev.Rec.mk p y (List.replicate (0 : Nat) (Go.Ev.Write.mk (0 : Int) (0 : Int)) ++ l ++ [Go.Ev.Write.mk k v])) then Go.Ev.bytesR (Go.Ev.Rec.mk p y (List.replicate (0 : Nat) (Go.Ev.Write.mk (0 : Int) (0 : Int)) ++ l ++ [Go.Ev.Write.mk k v])) else [])) : Int)) then bif Go.IntKind.wrap Go.IntKind.i64 (↑(UInt8.toNat (List.getD (bif Go.Ev.mayB (Go.Ev.Rec.mk p y (List.replicate (0 : Nat) (Go.Ev.Write.mk (0 : Int) (0 : Int)) ++ l ++ [Go.Ev.Write.mk k v])) then Go.Ev.bytesR (Go.Ev.Rec.mk p y (List.replicate (0 : Nat) (Go.Ev.Write.mk (0 : Int) (0 : Int)) ++ l ++ [Go.Ev.Write.mk k v])) else []) (Int.toNat (↑(List.length (bif Go.Ev.mayB (Go.Ev.Rec.mk p y l) then Go.Ev.bytesR (Go.Ev.Rec.mk p y l) else [])) : Int)) (UInt8.ofBitVec (BitVec.ofNat (8 : Nat) (nat_lit 0))))) : Int) == k then bif Go.Ev.lenOK (List.length (bif Go.Ev.mayB (Go.Ev.Rec.mk p y l) then Go.Ev.bytesR (Go.Ev.Rec.mk p y l) else [])) then bif Decidable.decide ((0 : Int) ≤ Go.IntKind.wrap Go.IntKind.i64 ((↑(List.length (bif Go.Ev.mayB (Go.Ev.Rec.mk p y l) then Go.Ev.bytesR (Go.Ev.Rec.mk p y l) else [])) : Int) + (1 : Int)) ∧ Go.IntKind.wrap Go.IntKind.i64 ((↑(List.length (bif Go.Ev.mayB (Go.Ev.Rec.mk p y l) then Go.Ev.bytesR (Go.Ev.Rec.mk p y l) else [])) : Int) + (1 : Int)) < (↑(List.length (bif Go.Ev.mayB (Go.Ev.Rec.mk p y (List.replicate (0 : Nat) (Go.Ev.Write.mk (0 : Int) (0 : Int)) ++ l ++ [Go.Ev.Write.mk k v])) then Go.Ev.bytesR (Go.Ev.Rec.mk p y (List.replicate (0 : Nat) (Go.Ev.Write.mk (0 : Int) (0 : Int)) ++ l ++ [Go.Ev.Write.mk k v])) else [])) : Int)) then bif Go.IntKind.wrap Go.IntKind.i64 (↑(UInt8.toNat (List.getD (bif Go.Ev.mayB (Go.Ev.Rec.mk p y (List.replicate (0 : Nat) (Go.Ev.Write.mk (0 : Int) (0 : Int)) ++ l ++ [Go.Ev.Write.mk k v])) then Go.Ev.bytesR (Go.Ev.Rec.mk p y (List.replicate (0 : Nat) (Go.Ev.Write.mk (0 : Int) (0 : Int)) ++ l ++ [Go.Ev.Write.mk k v])) else []) (Int.toNat (Go.IntKind.wrap Go.IntKind.i64 ((↑(List.length (bif Go.Ev.mayB (Go.Ev.Rec.mk p y l) then Go.Ev.bytesR (Go.Ev.Rec.mk p y l) else [])) : Int) + (1 : Int)))) (UInt8.ofBitVec (BitVec.ofNat (8 : Nat) (nat_lit 0))))) : Int) == v then Option.some (Go.Ev.D.bool Bool.true) else Option.some (Go.Ev.D.bool Bool.false) else Option.none else Option.none else Option.some (Go.Ev.D.bool Bool.false) else Option.none else Option.none else Option.none else Option.none else Option.none else Option.none else Option.none else Option.none else Option.none else Option.none else Option.none else Option.none else Option.none else Option.none else Option.none else Option.none else Option.none else Option.none) := by kernel_rfl
theorem more_ok (p : Int) (y c : Bool) (l : List Write) (k v : Int) (hl : l.length ≤ 9223372036854775807) : more_e p y c l k v = some (.bool true) := by
  rw [more_eq]
  have hb : lenOK l.length = true := lenOK_of hl
  rw [hb]
  by_cases h40 : (40 : Int) < l.length
  · rw [decide_eq_true h40]; rfl
  rw [decide_eq_false h40]
  cases y
  · rfl
  have e1 : sizeOK (0 + l.length) 16 = true := by simp [sizeOK]; omega
  have e2 : ((0 + l.length).beq (List.replicate 0 (⟨0, 0⟩ : Write) ++ l).length && sizeOK (0 + l.length + [(⟨k, v⟩ : Write)].length) 16) = true := by
    simp [sizeOK]; omega
  have e3 : ((List.replicate 0 (⟨0, 0⟩ : Write) ++ l).length + [(⟨k, v⟩ : Write)].length).beq (List.replicate 0 (⟨0, 0⟩ : Write) ++ l ++ [(⟨k, v⟩ : Write)]).length = true := by simp
  have e4 : lenOK (List.replicate 0 (⟨0, 0⟩ : Write) ++ l ++ [(⟨k, v⟩ : Write)]).length = true := lenOK_of (by simp; omega)
  have e5 : (List.replicate 0 (⟨0, 0⟩ : Write) ++ l ++ [(⟨k, v⟩ : Write)]) = l ++ [⟨k, v⟩] := by simp
  rw [e1, e2, e3, e4]
  simp only [e5, cond_true, cond_false, Bool.not_true]
  cases h1 : mayB ⟨p, true, l⟩
  · cases h2 : mayB ⟨p, true, l ++ [⟨k, v⟩]⟩
    · rfl
    · rw [may_more h2] at h1; cases h1
  · cases h2 : mayB ⟨p, true, l ++ [⟨k, v⟩]⟩
    · rfl
    · obtain ⟨a0, a1, a2, a3, x, x', f, kb, vb, q1, q2, q3, q4, q5, q6⟩ := more_shape h1 h2
      simp only [cond_true, q1, q2]
      have g1 : lenOK (a0 :: a1 :: a2 :: a3 :: x :: f).length = true := lenOK_of (by simp; omega)
      have g2 : lenOK (a0 :: a1 :: a2 :: a3 :: x' :: (f ++ [kb, vb])).length = true := lenOK_of (by simp; omega)
      have t0 : ((a0 :: a1 :: a2 :: a3 :: x :: f).length : Int) = f.length + 5 := by simp; omega
      have t1 : ((a0 :: a1 :: a2 :: a3 :: x' :: (f ++ [kb, vb])).length : Int) = f.length + 7 := by simp; omega
      have hx := x.toNat_lt
      have hx' := x'.toNat_lt
      have n5 : ((f.length : Int) + 5).toNat = f.length + 5 := by omega
      have n6 : ((f.length : Int) + 5 + 1).toNat = f.length + 6 := by omega
      have n7 : ((f.length : Int) + 7).toNat = f.length + 7 := by omega
      have d1 : List.drop 5 (List.take (f.length + 5) (a0 :: a1 :: a2 :: a3 :: x' :: (f ++ [kb, vb]))) = f := by simp
      have d2 : List.drop 5 (List.take (f.length + 5) (a0 :: a1 :: a2 :: a3 :: x :: f)) = f := by simp
      have d3 : List.getD (a0 :: a1 :: a2 :: a3 :: x' :: (f ++ [kb, vb])) (f.length + 5) 0 = kb := by simp
      have d4 : List.getD (a0 :: a1 :: a2 :: a3 :: x' :: (f ++ [kb, vb])) (f.length + 6) 0 = vb := by simp
      simp only [g1, g2, t0, t1, u8_i64, cond_true, q3]
      simp (disch := omega) only [decide_eq_true, decide_eq_false, ibeqT, ibeqF, ibneT, ibneF, wrapT, cond_true, cond_false, n5, n6, d1, d2, q3]
      simp [d3, d4, q4, q5]
      rw [wrapT (by omega)]; simp [q3]
end Go.Ev


/-
  Records and states, by themselves: the same ones; what bytes are.
-/
namespace Go.Ev
set_option linter.unusedVariables false
set_option linter.unusedSimpArgs false

theorem drops_step {α : Type} [DecidableEq α] (l m : List α) (i : Nat) (d : α) (hlt : i < l.length) (hlen : l.length = m.length) :
    decide (l.drop i = m.drop i) = (decide (l.getD i d = m.getD i d) && decide (l.drop (i + 1) = m.drop (i + 1))) := by
  have e1 := List.drop_eq_getElem_cons hlt
  have e2 := List.drop_eq_getElem_cons (show i < m.length by omega)
  have h1 : l.getD i d = l[i] := by simp [hlt]
  have h2 : m.getD i d = m[i]'(by omega) := by simp [show i < m.length by omega]
  rw [h1, h2, e1, e2, Bool.eq_iff_iff]
  simp only [List.cons.injEq, decide_eq_true_eq, Bool.and_eq_true]
theorem drops_end {α : Type} [DecidableEq α] (l m : List α) (i : Nat) (h1 : l.length ≤ i) (h2 : m.length ≤ i) : decide (l.drop i = m.drop i) = true := by
  simp [List.drop_eq_nil_of_le h1, List.drop_eq_nil_of_le h2]
theorem beqD {α : Type} [DecidableEq α] [BEq α] [LawfulBEq α] (a b : α) : (a == b) = decide (a = b) := by rw [Bool.eq_iff_iff]; simp
theorem eqWrite (x y : Write) : (x.key == y.key && (x.value == y.value && true)) = decide (x = y) := by
  rw [Bool.eq_iff_iff]; cases x; cases y; simp
theorem eqItem (x y : Item) : (x.key == y.key && (x.place == y.place && (x.value == y.value && true))) = decide (x = y) := by
  rw [Bool.eq_iff_iff]; cases x; cases y; simp
theorem eqLine (x y : Line) : (x.offset == y.offset && (x.place == y.place && (x.j == y.j && (x.key == y.key && (x.value == y.value && true))))) = decide (x = y) := by
  rw [Bool.eq_iff_iff]; cases x; cases y; simp

/-- the lines of a partition from one on: is each as asked, the first one above the cut? -/
def linesAt (p c : Int) (l : List Line) (i : Nat) : Bool := (decide (i ≠ 0) || l.isEmpty || decide (c < (l.getD 0 ⟨0, 0, 0, 0, 0⟩).place)) && eachAt (oneLB p) twoLB l i
theorem partOK_eq (p c : Int) (l : List Line) : partOK p c l = (decide (l.length ≤ 16) && decide (0 ≤ c) && decide (c ≤ p) && linesAt p c l 0) := by
  unfold partOK linesAt withinB
  cases decide (l.length ≤ 16) <;> cases decide (0 ≤ c) <;> cases decide (c ≤ p) <;> simp
theorem putD {n : Int} (h0 : 0 ≤ n) (h1 : n ≤ 9223372036854775807) : IntKind.i64.wrap (n.tdiv 256) = n.fdiv 256 ∧ 0 ≤ n.fdiv 256 ∧ n.fdiv 256 ≤ 9223372036854775807 := by
  obtain ⟨a, b⟩ := fdiv_nonneg h0
  rw [Int.tdiv_eq_ediv_of_nonneg h0, b]
  exact ⟨wrap_id (by omega) (by omega), by omega, by omega⟩
theorem putB {n : Int} (h0 : 0 ≤ n) : UInt8.ofNat (IntKind.u8.wrap (n.tmod 256)).toNat = byteOf n := by
  rw [byteOf, u8_wrap, u8_wrap, Int.tmod_eq_emod_of_nonneg h0, Int.emod_emod_of_dvd _ (by decide)]
/-- three bytes of a number, as the reference puts them -/
theorem put3 {n : Int} (h0 : 0 ≤ n) (h1 : n ≤ 9223372036854775807) :
    IntKind.i64.wrap (n.tdiv 256) = n.fdiv 256 ∧ IntKind.i64.wrap ((n.fdiv 256).tdiv 256) = (n.fdiv 256).fdiv 256 ∧ UInt8.ofNat (IntKind.u8.wrap (n.tmod 256)).toNat = byteOf n ∧
    UInt8.ofNat (IntKind.u8.wrap ((n.fdiv 256).tmod 256)).toNat = byteOf (n.fdiv 256) ∧ UInt8.ofNat (IntKind.u8.wrap (((n.fdiv 256).fdiv 256).tmod 256)).toNat = byteOf ((n.fdiv 256).fdiv 256) := by
  obtain ⟨a, b, c⟩ := putD h0 h1
  obtain ⟨d, e, f⟩ := putD b c
  exact ⟨a, d, putB h0, putB b, putB e⟩
theorem leB1 (n : Int) : leB n 1 = [byteOf n] := rfl
theorem leB3 (n : Int) : leB n 3 = [byteOf n, byteOf (n.fdiv 256), byteOf ((n.fdiv 256).fdiv 256)] := rfl
def partFit (c : Int) (l : List Line) : Bool := decide (0 ≤ c) && decide (c ≤ 1048575) && decide (l.length ≤ 16) && l.all fitLn && decide (0 ≤ firstOff l) && decide (firstOff l ≤ 4194303)
theorem partFit_iff {c : Int} {l : List Line} : partFit c l = true ↔ (0 ≤ c ∧ c ≤ 1048575) ∧ l.length ≤ 16 ∧ l.all fitLn = true ∧ (0 ≤ firstOff l ∧ firstOff l ≤ 4194303) := by
  simp only [partFit, Bool.and_eq_true, decide_eq_true_eq]; constructor <;> (intro h; simp_all)
def partsFrom (s : St) : Nat → List UInt8
  | 0 => partBytes s.c0 s.l0 ++ (partBytes s.c1 s.l1 ++ partBytes s.c2 s.l2)
  | 1 => partBytes s.c1 s.l1 ++ partBytes s.c2 s.l2
  | 2 => partBytes s.c2 s.l2
  | _ => []
end Go.Ev

namespace Go.Ev
open Go.Proofs
set_option maxRecDepth 100000
set_option linter.unusedVariables false
set_option linter.unusedSimpArgs false
/-! ## package flumeref01 -/
/-! ### loop fits01: flume/flumeref01.Fits, region 4 -/
structure fits01_St where
  n : Int
  w : Int
  i : Nat
def fits01_c (n : Int) (w : Int) (i : Nat) : Env RC := [(0, .int .i64 n), (1, .int .i64 w), (5, .int .i64 (i : Int))]
def fits01_o (n : Int) (w : Int) (i : Nat) : List (Obj RC) := []
noncomputable def fits01_r (n : Int) (w : Int) (i : Nat) := rndO s05 ue_1 55 4 40 0 [0, 1, 5] [0] [] (fits01_c n w i) (fits01_o n w i)
theorem fits01_eq (n : Int) (w : Int) (i : Nat) : fits01_r n w i = (bif Decidable.decide ((↑i : Int) < w) then Option.some ((Go.Ev.X.normal, [((0 : Nat), Go.Ev.D.int Go.IntKind.i64 (Go.IntKind.wrap Go.IntKind.i64 (Int.tdiv n (256 : Int)))), ((1 : Nat), Go.Ev.D.int Go.IntKind.i64 w), ((5 : Nat), Go.Ev.D.int Go.IntKind.i64 (Go.IntKind.wrap Go.IntKind.i64 ((↑i : Int) + (1 : Int))))]), []) else Option.some ((Go.Ev.X.exit (0 : Nat), [((0 : Nat), Go.Ev.D.int Go.IntKind.i64 n)]), [])) := by kernel_rfl
def fits01_fin (n : Int) (w : Int) (i : Nat) : RT RC := .leaf (.exit 0) [(0, .int .i64 (n / 256 ^ (w.toNat - i)))] []
def fits01_Inv (n : Int) (w : Int) (i : Nat) : Prop := 0 ≤ n ∧ n ≤ 9223372036854775807 ∧ (i : Int) ≤ w ∧ w ≤ 6
def fits01_S : LoopR RC fits01_St where
  k := 0
  canon q := fits01_c q.n q.w q.i
  objs q := fits01_o q.n q.w q.i
  fin q := fits01_fin q.n q.w q.i
  Inv q := fits01_Inv q.n q.w q.i
  μ q := q.w.toNat - q.i
theorem fits01_round (n : Int) (w : Int) (i : Nat) (hI : fits01_Inv n w i) : Leaf (fits01_r n w i) (LedR fits01_S ⟨n, w, i⟩) := by
  rw [fits01_eq]
  unfold fits01_Inv at hI
  obtain ⟨h1, h2, h3, h4⟩ := hI
  by_cases hlt : (i : Int) < w
  · have w_succ : IntKind.i64.wrap ((i : Int) + 1) = ((i + 1 : Nat) : Int) := by rw [wrap_id (by omega) (by omega)]; simp
    have hd : IntKind.i64.wrap (n.tdiv 256) = n / 256 := by rw [Int.tdiv_eq_ediv_of_nonneg h1]; exact wrap_id (by omega) (by omega)
    simp only [hlt, decide_true, cond_true, w_succ, hd]
    refine leafR_go ⟨n / 256, w, i + 1⟩ (by simp only [fits01_S, fits01_Inv]; omega) (by simp only [fits01_S]; omega) ?_ rfl rfl
    simp only [fits01_S, fits01_fin]
    have : w.toNat - i = (w.toNat - (i + 1)) + 1 := by omega
    rw [this, Int.pow_succ', Int.ediv_ediv_of_nonneg (by omega)]
  · have hi : w.toNat - i = 0 := by omega
    simp only [hlt, decide_false, cond_false]
    exact leafR_exit [] (by simp [fits01_S, fits01_fin, hi, RT.val]) rfl
def fits01_d (env : Env RC) (os : List (Obj RC)) : Option (Bool × fits01_St) := match env, os with
  | [(0, .int .i64 n), (1, .int .i64 w), (5, .int .i64 x0)], [] => staticD (true) (decide (x0 = 0) && decide (0 ≤ n ∧ n ≤ 9223372036854775807 ∧ 0 ≤ w ∧ w ≤ 6), ⟨n, w, 0⟩)
  | _, _ => none
noncomputable def uf_1 := ue_1.addLoop 55 4 (sumR s05 [] [0, 1, 5] fits01_S fits01_d)
theorem uf_1_laws : FLaws Try.prog s05 uf_1 := by
  refine ue_1_laws.addRoundsR s05_laws (by kernel_rfl) fits01_S 40 [0, 1, 5] [0] [] [0, 1, 5] fits01_d (fun q hI => ?_) ?_
  · obtain ⟨n, w, i⟩ := q
    refine ⟨?_, ?_, fits01_round n w i hI⟩
    · simp_all [RefsOK, fits01_S, fits01_c, fits01_o, fits01_Inv, D.refs, Obj.refs, rEnc]
    · simp_all [fits01_S, fits01_fin, fits01_o, fits01_Inv, RT.refsOK, RefsOK, D.refs, Obj.refs, rEnc]
  · intro env os b q hd_ hb
    unfold fits01_d at hd_
    split at hd_
    · obtain ⟨hs, hd_⟩ := staticD_some hd_
      cases hd_
      simp only [Bool.and_eq_true, decide_eq_true_eq] at hb
      obtain ⟨rfl, hq⟩ := hb
      exact ⟨by simp only [fits01_S, fits01_Inv]; omega, rfl, rfl⟩
    · cases hd_
/-! ### function fits1f: flume/flumeref01.Fits -/
def fits1f_s (n : Int) (w : Int) : Option (Bool × D RC) := some (decide (n ≤ 9223372036854775807 ∧ 1 ≤ w ∧ w ≤ 6) && fitsB n w.toNat, .bool true)
def fits1f_sp : List (D RC) → Option (Bool × D RC)
  | [.int .i64 n, .int .i64 w] => fits1f_s n w
  | _ => none
noncomputable def fits1f_e (n : Int) (w : Int) := evF s05 uf_1 40 55 [.int .i64 n, .int .i64 w]
theorem fits1f_eq (n : Int) (w : Int) : fits1f_e n w = (bif Decidable.decide (w < (1 : Int)) then Option.some (Go.Ev.D.bool Bool.false) else bif Decidable.decide ((6 : Int) < w) then Option.some (Go.Ev.D.bool Bool.false) else bif Decidable.decide (n < (0 : Int)) then Option.some (Go.Ev.D.bool Bool.false) else bif Decidable.decide ((0 : Int) ≤ n ∧ n ≤ (9223372036854775807 : Int) ∧ (0 : Int) ≤ w ∧ w ≤ (6 : Int)) then Option.some (Go.Ev.D.bool (n / (256 : Int) ^ (Int.toNat w - (0 : Nat)) == (0 : Int))) else Option.none) := by kernel_rfl
theorem fits1f_ok (n : Int) (w : Int) (h : (decide (n ≤ 9223372036854775807 ∧ 1 ≤ w ∧ w ≤ 6) && fitsB n w.toNat) = true) : fits1f_e n w = some (.bool true) := by
  rw [fits1f_eq]
  simp only [Bool.and_eq_true, decide_eq_true_eq] at h
  obtain ⟨⟨hn, hw1, hw6⟩, hf⟩ := h
  have h0 : 0 ≤ n := (fitsB_iff.1 hf).1
  have w1 : ¬ w < 1 := by omega
  have w6 : ¬ 6 < w := by omega
  have n0 : ¬ n < 0 := by omega
  have hc : (0 ≤ n ∧ n ≤ 9223372036854775807 ∧ 0 ≤ w ∧ w ≤ 6) := by omega
  have hp : (0 : Int) < 256 ^ w.toNat := Int.pow_pos (by decide)
  have hz : n / 256 ^ w.toNat = 0 := (Int.ediv_eq_zero_iff_of_pos' h0 hp).2 (fitsB_iff.1 hf).2
  rw [decide_eq_false w1, decide_eq_false w6, decide_eq_false n0, decide_eq_true hc]
  simp only [cond_false, cond_true, Nat.sub_zero, hz]
  rfl
noncomputable def uf_2 := uf_1.addSpec 55 fits1f_sp
theorem uf_2_laws : FLaws Try.prog s05 uf_2 := uf_1_laws.addEv s05_laws fun args d h => by
  unfold fits1f_sp at h
  split at h
  · unfold fits1f_s at h
    have h1 := congrArg Prod.fst (Option.some.inj h)
    obtain rfl : _ = d := congrArg Prod.snd (Option.some.inj h)
    exact ⟨by simp [D.refs], 40, fits1f_ok _ _ h1⟩
  · cases h
/-! ### loop get01: flume/flumeref01.Get, region 7 -/
structure get01_St where
  c : Bool
  b : List UInt8
  a : Int
  i : Int
  m : Nat
def get01_c (c : Bool) (b : List UInt8) (a : Int) (i : Int) (m : Nat) : Env RC := [(0, .sl (C := RC) .u8 c b), (1, .int .i64 a), (9, .int .i64 i), (8, .int .i64 (m : Int))]
def get01_o (c : Bool) (b : List UInt8) (a : Int) (i : Int) (m : Nat) : List (Obj RC) := []
noncomputable def get01_r (c : Bool) (b : List UInt8) (a : Int) (i : Int) (m : Nat) := rndO s05 uf_2 44 7 40 0 [0, 1, 9, 8] [8] [] (get01_c c b a i m) (get01_o c b a i m)
theorem get01_eq (c : Bool) (b : List UInt8) (a : Int) (i : Int) (m : Nat) : get01_r c b a i m = (bif Decidable.decide ((0 : Int) ≤ i) then bif Decidable.decide ((0 : Int) ≤ Go.IntKind.wrap Go.IntKind.i64 (a + i) ∧ Go.IntKind.wrap Go.IntKind.i64 (a + i) < (↑(List.length b) : Int)) then Option.some ((Go.Ev.X.normal, [((0 : Nat), Go.Ev.D.sl Go.Ev.RTy.u8 c b), ((1 : Nat), Go.Ev.D.int Go.IntKind.i64 a), ((9 : Nat), Go.Ev.D.int Go.IntKind.i64 (Go.IntKind.wrap Go.IntKind.i64 (i - (1 : Int)))), ((8 : Nat), Go.Ev.D.int Go.IntKind.i64 (Go.IntKind.wrap Go.IntKind.i64 (Go.IntKind.wrap Go.IntKind.i64 ((256 : Int) * (↑m : Int)) + Go.IntKind.wrap Go.IntKind.i64 (↑(UInt8.toNat (List.getD b (Int.toNat (Go.IntKind.wrap Go.IntKind.i64 (a + i))) (UInt8.ofBitVec (BitVec.ofNat (8 : Nat) (nat_lit 0))))) : Int))))]), []) else Option.none else Option.some ((Go.Ev.X.exit (0 : Nat), [((8 : Nat), Go.Ev.D.int Go.IntKind.i64 (↑m : Int))]), [])) := by kernel_rfl
def get01_fin (c : Bool) (b : List UInt8) (a : Int) (i : Int) (m : Nat) : RT RC := .leaf (.exit 0) [(8, .int .i64 ((m * 256 ^ (i + 1).toNat + leVal ((b.drop a.toNat).take (i + 1).toNat) : Nat) : Int))] []
def get01_Inv (c : Bool) (b : List UInt8) (a : Int) (i : Int) (m : Nat) : Prop := -1 ≤ i ∧ i ≤ 5 ∧ 0 ≤ a ∧ a + i + 1 ≤ b.length ∧ b.length ≤ 1000000000000 ∧ m < 256 ^ (5 - i).toNat
def get01_S : LoopR RC get01_St where
  k := 0
  canon q := get01_c q.c q.b q.a q.i q.m
  objs q := get01_o q.c q.b q.a q.i q.m
  fin q := get01_fin q.c q.b q.a q.i q.m
  Inv q := get01_Inv q.c q.b q.a q.i q.m
  μ q := (q.i + 1).toNat
theorem get01_round (c : Bool) (b : List UInt8) (a : Int) (i : Int) (m : Nat) (hI : get01_Inv c b a i m) : Leaf (get01_r c b a i m) (LedR get01_S ⟨c, b, a, i, m⟩) := by
  rw [get01_eq]
  unfold get01_Inv at hI
  obtain ⟨h1, h2, h3, h4, h5, h6⟩ := hI
  by_cases hlt : 0 ≤ i
  · have w1 : IntKind.i64.wrap (a + i) = a + i := wrap_id (by omega) (by omega)
    have w2 : IntKind.i64.wrap (i - 1) = i - 1 := wrap_id (by omega) (by omega)
    have d1 : decide (0 ≤ a + i ∧ a + i < b.length) = true := by simp; omega
    have hm : m < 256 ^ 5 := Nat.lt_of_lt_of_le h6 (Nat.pow_le_pow_right (by omega) (by omega))
    have hx := (b.getD (a + i).toNat ⟨0#8⟩).toNat_lt
    have w3 : IntKind.i64.wrap (256 * (m : Int)) = ((256 * m : Nat) : Int) := by rw [wrap_id (by omega) (by omega)]; simp
    have w4 : IntKind.i64.wrap (((256 * m : Nat) : Int) + ((b.getD (a + i).toNat ⟨0#8⟩).toNat : Int)) = ((256 * m + (b.getD (a + i).toNat ⟨0#8⟩).toNat : Nat) : Int) := by
      rw [wrap_id (by omega) (by omega)]; simp
    simp only [hlt, decide_true, cond_true, w1, w2, d1, w3, u8_i64, w4]
    have hk : (5 - (i - 1)).toNat = (5 - i).toNat + 1 := by omega
    have hI' : get01_Inv c b a (i - 1) (256 * m + (b.getD (a + i).toNat ⟨0#8⟩).toNat) := ⟨by omega, by omega, h3, by omega, h5, by rw [hk, Nat.pow_succ]; omega⟩
    refine leafR_go ⟨c, b, a, i - 1, 256 * m + (b.getD (a + i).toNat ⟨0#8⟩).toNat⟩ hI' (by simp only [get01_S]; omega) ?_ rfl rfl
    · simp only [get01_S, get01_fin]
      obtain ⟨k, rfl⟩ : ∃ k : Nat, i = k := ⟨i.toNat, by omega⟩
      obtain ⟨p, rfl⟩ : ∃ p : Nat, a = p := ⟨a.toNat, by omega⟩
      have e1 : ((k : Int) - 1 + 1).toNat = k := by omega
      have e2 : ((k : Int) + 1).toNat = k + 1 := by omega
      have e3 : ((p : Int) + (k : Int)).toNat = p + k := by omega
      have e4 : ((p : Int)).toNat = p := by omega
      rw [e1, e2, e3, e4]
      have hl : ((b.drop p).take k).length = k := by simp; omega
      have hg : (b.drop p)[k]? = some (b.getD (p + k) ⟨0#8⟩) := by
        simp [List.getElem?_drop, show p + k < b.length by omega]
      rw [List.take_add_one, leVal_append, hl, hg]
      simp only [Option.toList_some, leVal]
      have : (256 * m + (b.getD (p + k) ⟨0#8⟩).toNat) * 256 ^ k + leVal ((b.drop p).take k) = m * 256 ^ (k + 1) + (leVal ((b.drop p).take k) + 256 ^ k * ((b.getD (p + k) ⟨0#8⟩).toNat + 256 * 0)) := by
        rw [Nat.pow_succ, Nat.add_mul, Nat.mul_comm 256 m, Nat.mul_assoc, Nat.mul_comm 256 (256 ^ k), Nat.mul_comm (b.getD (p + k) ⟨0#8⟩).toNat]; simp; omega
      rw [this]
  · have e0 : (i + 1).toNat = 0 := by omega
    simp only [hlt, decide_false, cond_false]
    exact leafR_exit [] (by simp [get01_S, get01_fin, e0, RT.val, leVal]) rfl
def get01_d (env : Env RC) (os : List (Obj RC)) : Option (Bool × get01_St) := match env, os with
  | [(0, .sl .u8 c b), (1, .int .i64 a), (9, .int .i64 i), (8, .int .i64 x0)], [] => staticD (true) (decide (x0 = 0) && decide (-1 ≤ i ∧ i ≤ 5 ∧ 0 ≤ a ∧ a + i + 1 ≤ b.length ∧ b.length ≤ 1000000000000), ⟨c, b, a, i, 0⟩)
  | _, _ => none
noncomputable def uf_3 := uf_2.addLoop 44 7 (sumR s05 [] [0, 1, 9, 8] get01_S get01_d)
theorem uf_3_laws : FLaws Try.prog s05 uf_3 := by
  refine uf_2_laws.addRoundsR s05_laws (by kernel_rfl) get01_S 40 [0, 1, 9, 8] [8] [] [0, 1, 9, 8] get01_d (fun q hI => ?_) ?_
  · obtain ⟨c, b, a, i, m⟩ := q
    refine ⟨?_, ?_, get01_round c b a i m hI⟩
    · simp_all [RefsOK, get01_S, get01_c, get01_o, get01_Inv, D.refs, Obj.refs, rEnc]
    · simp_all [get01_S, get01_fin, get01_o, get01_Inv, RT.refsOK, RefsOK, D.refs, Obj.refs, rEnc]
  · intro env os b q hd_ hb
    unfold get01_d at hd_
    split at hd_
    · obtain ⟨hs, hd_⟩ := staticD_some hd_
      cases hd_
      simp only [Bool.and_eq_true, decide_eq_true_eq] at hb
      obtain ⟨rfl, h⟩ := hb
      exact ⟨⟨h.1, h.2.1, h.2.2.1, h.2.2.2.1, h.2.2.2.2, Nat.pow_pos (by omega)⟩, rfl, rfl⟩
    · cases hd_
/-! ### function get1f: flume/flumeref01.Get -/
def get1f_s (c : Bool) (b : List UInt8) (a : Int) (w : Int) : Option (Bool × D RC) := some (decide (b.length ≤ 1000000000000), .tup (.acons (.int .i64 (getP b a w).1) (.acons (.int .i64 (getP b a w).2) .anil)))
def get1f_sp : List (D RC) → Option (Bool × D RC)
  | [.sl .u8 c b, .int .i64 a, .int .i64 w] => get1f_s c b a w
  | _ => none
noncomputable def get1f_e (c : Bool) (b : List UInt8) (a : Int) (w : Int) := evF s05 uf_3 40 44 [.sl (C := RC) .u8 c b, .int .i64 a, .int .i64 w]
theorem get1f_eq (c : Bool) (b : List UInt8) (a : Int) (w : Int) : get1f_e c b a w = (bif Decidable.decide (w < (1 : Int)) then Option.some (Go.Ev.D.tup (Go.Ev.D.acons (Go.Ev.D.int Go.IntKind.i64 (0 : Int)) (Go.Ev.D.acons (Go.Ev.D.int Go.IntKind.i64 (2 : Int)) Go.Ev.D.anil))) else bif Decidable.decide ((6 : Int) < w) then Option.some (Go.Ev.D.tup (Go.Ev.D.acons (Go.Ev.D.int Go.IntKind.i64 (0 : Int)) (Go.Ev.D.acons (Go.Ev.D.int Go.IntKind.i64 (2 : Int)) Go.Ev.D.anil))) else bif Decidable.decide (a < (0 : Int)) then Option.some (Go.Ev.D.tup (Go.Ev.D.acons (Go.Ev.D.int Go.IntKind.i64 (0 : Int)) (Go.Ev.D.acons (Go.Ev.D.int Go.IntKind.i64 (50 : Int)) Go.Ev.D.anil))) else bif Go.Ev.lenOK (List.length b) then bif Decidable.decide ((↑(List.length b) : Int) < a) then Option.some (Go.Ev.D.tup (Go.Ev.D.acons (Go.Ev.D.int Go.IntKind.i64 (0 : Int)) (Go.Ev.D.acons (Go.Ev.D.int Go.IntKind.i64 (50 : Int)) Go.Ev.D.anil))) else bif Go.Ev.lenOK (List.length b) then bif Decidable.decide (Go.IntKind.wrap Go.IntKind.i64 ((↑(List.length b) : Int) - a) < w) then Option.some (Go.Ev.D.tup (Go.Ev.D.acons (Go.Ev.D.int Go.IntKind.i64 (0 : Int)) (Go.Ev.D.acons (Go.Ev.D.int Go.IntKind.i64 (50 : Int)) Go.Ev.D.anil))) else bif Decidable.decide ((-1 : Int) ≤ Go.IntKind.wrap Go.IntKind.i64 (w - (1 : Int)) ∧ Go.IntKind.wrap Go.IntKind.i64 (w - (1 : Int)) ≤ (5 : Int) ∧ (0 : Int) ≤ a ∧ a + Go.IntKind.wrap Go.IntKind.i64 (w - (1 : Int)) + (1 : Int) ≤ (↑(List.length b) : Int) ∧ List.length b ≤ (1000000000000 : Nat)) then Option.some (Go.Ev.D.tup (Go.Ev.D.acons (Go.Ev.D.int Go.IntKind.i64 (↑((0 : Nat) * (256 : Nat) ^ Int.toNat (Go.IntKind.wrap Go.IntKind.i64 (w - (1 : Int)) + (1 : Int)) + Go.Ev.leVal (List.take (Int.toNat (Go.IntKind.wrap Go.IntKind.i64 (w - (1 : Int)) + (1 : Int))) (List.drop (Int.toNat a) b))) : Int)) (Go.Ev.D.acons (Go.Ev.D.int Go.IntKind.i64 (0 : Int)) Go.Ev.D.anil))) else Option.none else Option.none else Option.none) := by kernel_rfl
theorem get1f_ok (c : Bool) (b : List UInt8) (a : Int) (w : Int) (h : (decide (b.length ≤ 1000000000000)) = true) : get1f_e c b a w = some (.tup (.acons (.int .i64 (getP b a w).1) (.acons (.int .i64 (getP b a w).2) .anil))) := by
  rw [get1f_eq]
  have hl := of_decide_eq_true h
  have hl' : lenOK b.length = true := lenOK_of (by omega)
  simp only [hl']
  by_cases hw : 1 ≤ w ∧ w ≤ 6
  · have w1 : decide (w < 1) = false := by simp; omega
    have w2 : decide (6 < w) = false := by simp; omega
    have w3 : (decide (1 ≤ w) && decide (w ≤ 6)) = true := by simp; omega
    have w4 : IntKind.i64.wrap (w - 1) = w - 1 := wrap_id (by omega) (by omega)
    simp only [w1, w2, cond_false, cond_true, getP, w3, w4]
    by_cases ha : 0 ≤ a ∧ a + w ≤ b.length
    · have a1 : decide (a < 0) = false := by simp; omega
      have a2 : decide ((b.length : Int) < a) = false := by simp; omega
      have e1 : IntKind.i64.wrap ((b.length : Int) - a) = b.length - a := wrap_id (by omega) (by omega)
      have a3 : decide ((b.length : Int) - a < w) = false := by simp; omega
      have a5 : (decide (0 ≤ a) && decide (a + w ≤ (b.length : Int))) = true := by simp; omega
      have a6 : decide (-1 ≤ w - 1 ∧ w - 1 ≤ 5 ∧ 0 ≤ a ∧ a + (w - 1) + 1 ≤ (b.length : Int) ∧ b.length ≤ 1000000000000) = true := by simp; omega
      have e2 : (w - 1 + 1).toNat = w.toNat := by omega
      simp [a1, a2, e1, a3, a5, a6, e2]
    · have a5 : (decide (0 ≤ a) && decide (a + w ≤ (b.length : Int))) = false := by simp; omega
      simp only [a5, cond_false]
      by_cases a1 : a < 0
      · simp [a1]
      · by_cases a2 : (b.length : Int) < a
        · simp [a1, a2]
        · have e1 : IntKind.i64.wrap ((b.length : Int) - a) = b.length - a := wrap_id (by omega) (by omega)
          have a3 : decide ((b.length : Int) - a < w) = true := by simp; omega
          simp [a1, a2, e1, a3]
  · have w3 : (decide (1 ≤ w) && decide (w ≤ 6)) = false := by simp; omega
    simp only [getP, w3]
    by_cases w1 : w < 1
    · simp [w1]
    · have w2 : 6 < w := by omega
      simp [w1, w2]
noncomputable def uf_4 := uf_3.addSpec 44 get1f_sp
theorem uf_4_laws : FLaws Try.prog s05 uf_4 := uf_3_laws.addEv s05_laws fun args d h => by
  unfold get1f_sp at h
  split at h
  · unfold get1f_s at h
    have h1 := congrArg Prod.fst (Option.some.inj h)
    obtain rfl : _ = d := congrArg Prod.snd (Option.some.inj h)
    exact ⟨by simp [D.refs], 40, get1f_ok _ _ _ _ h1⟩
  · cases h
end Go.Ev


namespace Go.Ev
open Go.Proofs
set_option maxRecDepth 100000
set_option linter.unusedVariables false
set_option linter.unusedSimpArgs false
/-! ## package flumeref05: which may be, the same ones -/
/-! ### loop writtenR: flume/flumeref05.Written, region 4 -/
structure writtenR_St where
  c : Bool
  l : List Write
  i : Nat
def writtenR_c (c : Bool) (l : List Write) (i : Nat) : Env RC := [(0, .sl (C := RC) .write c l), (2, .bool false), (3, .int .i64 (i : Int))]
def writtenR_o (c : Bool) (l : List Write) (i : Nat) : List (Obj RC) := []
noncomputable def writtenR_r (c : Bool) (l : List Write) (i : Nat) := rndO s05 uf_4 27 4 40 0 [0, 2, 3] [2] [] (writtenR_c c l i) (writtenR_o c l i)
theorem writtenR_eq (c : Bool) (l : List Write) (i : Nat) : writtenR_r c l i = (bif Go.Ev.lenOK (List.length l) then bif Decidable.decide ((↑i : Int) < (↑(List.length l) : Int)) then bif Decidable.decide ((0 : Int) ≤ (↑i : Int) ∧ (↑i : Int) < (↑(List.length l) : Int)) then bif Decidable.decide (Go.Ev.Write.key (List.getD l (Int.toNat (↑i : Int)) (Go.Ev.Write.mk (0 : Int) (0 : Int))) < (0 : Int)) then Option.some ((Go.Ev.X.ret, [((2 : Nat), Go.Ev.D.bool Bool.false)]), []) else bif Decidable.decide ((0 : Int) ≤ (↑i : Int) ∧ (↑i : Int) < (↑(List.length l) : Int)) then bif Decidable.decide ((24 : Int) ≤ Go.Ev.Write.key (List.getD l (Int.toNat (↑i : Int)) (Go.Ev.Write.mk (0 : Int) (0 : Int)))) then Option.some ((Go.Ev.X.ret, [((2 : Nat), Go.Ev.D.bool Bool.false)]), []) else bif Decidable.decide ((0 : Int) ≤ (↑i : Int) ∧ (↑i : Int) < (↑(List.length l) : Int)) then bif Decidable.decide (Go.Ev.Write.value (List.getD l (Int.toNat (↑i : Int)) (Go.Ev.Write.mk (0 : Int) (0 : Int))) < (0 : Int)) then Option.some ((Go.Ev.X.ret, [((2 : Nat), Go.Ev.D.bool Bool.false)]), []) else bif Decidable.decide ((0 : Int) ≤ (↑i : Int) ∧ (↑i : Int) < (↑(List.length l) : Int)) then bif Decidable.decide ((255 : Int) < Go.Ev.Write.value (List.getD l (Int.toNat (↑i : Int)) (Go.Ev.Write.mk (0 : Int) (0 : Int)))) then Option.some ((Go.Ev.X.ret, [((2 : Nat), Go.Ev.D.bool Bool.false)]), []) else bif Decidable.decide ((0 : Int) < (↑i : Int)) then bif Decidable.decide ((0 : Int) ≤ (↑i : Int) ∧ (↑i : Int) < (↑(List.length l) : Int)) then bif Decidable.decide ((0 : Int) ≤ Go.IntKind.wrap Go.IntKind.i64 ((↑i : Int) - (1 : Int)) ∧ Go.IntKind.wrap Go.IntKind.i64 ((↑i : Int) - (1 : Int)) < (↑(List.length l) : Int)) then bif Decidable.decide (Go.Ev.Write.key (List.getD l (Int.toNat (↑i : Int)) (Go.Ev.Write.mk (0 : Int) (0 : Int))) ≤ Go.Ev.Write.key (List.getD l (Int.toNat (Go.IntKind.wrap Go.IntKind.i64 ((↑i : Int) - (1 : Int)))) (Go.Ev.Write.mk (0 : Int) (0 : Int)))) then Option.some ((Go.Ev.X.ret, [((2 : Nat), Go.Ev.D.bool Bool.false)]), []) else Option.some ((Go.Ev.X.normal, [((0 : Nat), Go.Ev.D.sl Go.Ev.RTy.write c l), ((2 : Nat), Go.Ev.D.bool Bool.false), ((3 : Nat), Go.Ev.D.int Go.IntKind.i64 (Go.IntKind.wrap Go.IntKind.i64 ((↑i : Int) + (1 : Int))))]), []) else Option.none else Option.none else Option.some ((Go.Ev.X.normal, [((0 : Nat), Go.Ev.D.sl Go.Ev.RTy.write c l), ((2 : Nat), Go.Ev.D.bool Bool.false), ((3 : Nat), Go.Ev.D.int Go.IntKind.i64 (Go.IntKind.wrap Go.IntKind.i64 ((↑i : Int) + (1 : Int))))]), []) else Option.none else Option.none else Option.none else Option.none else Option.some ((Go.Ev.X.exit (0 : Nat), [((2 : Nat), Go.Ev.D.bool Bool.false)]), []) else Option.none) := by kernel_rfl
def writtenR_fin (c : Bool) (l : List Write) (i : Nat) : RT RC := .br (eachAt oneWB twoWB l i) (.leaf (.exit 0) [(2, .bool false)] []) (.leaf .ret [(2, .bool false)] [])
def writtenR_Inv (c : Bool) (l : List Write) (i : Nat) : Prop := i ≤ l.length ∧ l.length ≤ 9223372036854775807
def writtenR_S : LoopR RC writtenR_St where
  k := 0
  canon q := writtenR_c q.c q.l q.i
  objs q := writtenR_o q.c q.l q.i
  fin q := writtenR_fin q.c q.l q.i
  Inv q := writtenR_Inv q.c q.l q.i
  μ q := q.l.length - q.i
theorem writtenR_round (c : Bool) (l : List Write) (i : Nat) (hI : writtenR_Inv c l i) : Leaf (writtenR_r c l i) (LedR writtenR_S ⟨c, l, i⟩) := by
  rw [writtenR_eq]
  unfold writtenR_Inv at hI
  obtain ⟨h1, h2⟩ := hI
  have hlk := lenOK_of h2
  by_cases hlt : i < l.length
  · have w_succ : IntKind.i64.wrap ((i : Int) + 1) = ((i + 1 : Nat) : Int) := by rw [wrap_id (by omega) (by omega)]; simp
    have d_lt : decide ((i : Int) < l.length) = true := by simp; omega
    have d_in : decide (0 ≤ (i : Int) ∧ (i : Int) < l.length) = true := by simp; omega
    have t_nat : ((i : Int)).toNat = i := by simp
    have w_pred : IntKind.i64.wrap ((i : Int) - 1) = (i : Int) - 1 := wrap_id (by omega) (by omega)
    have t_natp : ((i : Int) - 1).toNat = i - 1 := by omega
    simp only [w_succ, d_lt, d_in, t_nat, w_pred, t_natp, cond_true]
    simp only [hlk, cond_true]
    have hst := eachAt_step oneWB twoWB l i (⟨0, 0⟩ : Write) hlt
    generalize l.getD i (⟨0, 0⟩ : Write) = x at hst ⊢
    generalize l.getD (i - 1) (⟨0, 0⟩ : Write) = y at hst ⊢
    have hgo : oneWB x = true → (i = 0 ∨ twoWB y x = true) → Leaf (some ((X.normal, writtenR_c c l (i + 1)), [])) (LedR writtenR_S ⟨c, l, i⟩) := fun a b =>
      leafR_go ⟨c, l, i + 1⟩ ⟨hlt, h2⟩ (by simp only [writtenR_S]; omega) (by simp only [writtenR_S, writtenR_fin, hst, a]; rcases b with b | b <;> simp [b]) rfl rfl
    have hno : ¬ (oneWB x = true ∧ (i = 0 ∨ twoWB y x = true)) → Leaf (some ((X.ret, [(2, D.bool false)]), [])) (LedR writtenR_S ⟨c, l, i⟩) := fun he => leafR_ret [] (by
      have : eachAt oneWB twoWB l i = false := by rw [hst]; simp only [Bool.and_eq_false_iff]; by_cases a : oneWB x = true <;> by_cases b : i = 0 <;> simp_all
      simp [writtenR_S, writtenR_fin, this, RT.val]) rfl
    simp only [oneWB, twoWB, withinB, Bool.and_eq_true, decide_eq_true_eq] at hgo hno
    by_cases hi : i = 0
    · have d0 : decide (0 < (i : Int)) = false := by simp; omega
      simp only [d0, cond_false]
      repeat' (first | (refine leaf_cond.2 ⟨fun hc_ => ?_, fun hc_ => ?_⟩ <;> simp only [decide_eq_true_eq, decide_eq_false_iff_not, beq_iff_eq, beq_eq_false_iff_ne, bne_iff_ne, ne_eq, Bool.not_eq_true, Bool.not_eq_false, bne_eq_false_iff_eq, decide_eq_decide, Bool.true_eq_false, Bool.false_eq_true] at hc_))
      all_goals first | (exfalso; omega) | exact hno (by omega) | (apply hgo <;> omega)
    · have d_pos : decide (0 < (i : Int)) = true := by simp; omega
      have d_inp : decide (0 ≤ (i : Int) - 1 ∧ (i : Int) - 1 < l.length) = true := by simp; omega
      simp only [d_pos, d_inp, cond_true]
      repeat' (first | (refine leaf_cond.2 ⟨fun hc_ => ?_, fun hc_ => ?_⟩ <;> simp only [decide_eq_true_eq, decide_eq_false_iff_not, beq_iff_eq, beq_eq_false_iff_ne, bne_iff_ne, ne_eq, Bool.not_eq_true, Bool.not_eq_false, bne_eq_false_iff_eq, decide_eq_decide, Bool.true_eq_false, Bool.false_eq_true] at hc_))
      all_goals first | (exfalso; omega) | exact hno (by omega) | (apply hgo <;> omega)
  · have hi : i = l.length := by omega
    have c1 : decide ((i : Int) < l.length) = false := by simp; omega
    simp only [hlk, c1, cond_true, cond_false]
    exact leafR_exit [] (by simp [writtenR_S, writtenR_fin, hi, eachAt, eachB, RT.val]) rfl
def writtenR_d (env : Env RC) (os : List (Obj RC)) : Option (Bool × writtenR_St) := match env, os with
  | [(0, .sl .write c l), (2, .bool false), (3, .int .i64 x0)], [] => staticD (true) (decide (x0 = 0) && decide (l.length ≤ 9223372036854775807), ⟨c, l, 0⟩)
  | _, _ => none
noncomputable def ug_1 := uf_4.addLoop 27 4 (sumR s05 [] [0, 2, 3] writtenR_S writtenR_d)
theorem ug_1_laws : FLaws Try.prog s05 ug_1 := by
  refine uf_4_laws.addRoundsR s05_laws (by kernel_rfl) writtenR_S 40 [0, 2, 3] [2] [] [0, 2, 3] writtenR_d (fun q hI => ?_) ?_
  · obtain ⟨c, l, i⟩ := q
    refine ⟨?_, ?_, writtenR_round c l i hI⟩
    · simp_all [RefsOK, writtenR_S, writtenR_c, writtenR_o, writtenR_Inv, D.refs, Obj.refs, rEnc]
    · simp_all [writtenR_S, writtenR_fin, writtenR_o, writtenR_Inv, RT.refsOK, RefsOK, D.refs, Obj.refs, rEnc]
  · intro env os b q hd_ hb
    unfold writtenR_d at hd_
    split at hd_
    · obtain ⟨hs, hd_⟩ := staticD_some hd_
      cases hd_
      simp only [Bool.and_eq_true, decide_eq_true_eq] at hb
      obtain ⟨rfl, hl⟩ := hb
      exact ⟨⟨Nat.zero_le _, hl⟩, rfl, rfl⟩
    · cases hd_
/-! ### function writtenRf: flume/flumeref05.Written -/
def writtenRf_s (c : Bool) (l : List Write) : Option (Bool × D RC) := some (lenOK l.length, .bool (writtenL l))
def writtenRf_sp : List (D RC) → Option (Bool × D RC)
  | [.sl .write c l] => writtenRf_s c l
  | _ => none
noncomputable def writtenRf_e (c : Bool) (l : List Write) := evF s05 ug_1 40 27 [.sl (C := RC) .write c l]
theorem writtenRf_eq (c : Bool) (l : List Write) : writtenRf_e c l = (bif Go.Ev.lenOK (List.length l) then bif Decidable.decide ((4 : Int) < (↑(List.length l) : Int)) then Option.some (Go.Ev.D.bool Bool.false) else bif Decidable.decide (List.length l ≤ (9223372036854775807 : Nat)) then bif Go.Ev.eachAt Go.Ev.oneWB Go.Ev.twoWB l (0 : Nat) then Option.some (Go.Ev.D.bool Bool.true) else Option.some (Go.Ev.D.bool Bool.false) else Option.none else Option.none) := by kernel_rfl
theorem writtenRf_ok (c : Bool) (l : List Write) (h : (lenOK l.length) = true) : writtenRf_e c l = some (.bool (writtenL l)) := by
  rw [writtenRf_eq]
  have h2 : l.length ≤ 9223372036854775807 := lenOK_le h
  rw [writtenL, h]
  by_cases h4 : l.length ≤ 4
  · have : ¬ (4 : Int) < l.length := by omega
    simp [h4, h2, this]
    cases eachAt oneWB twoWB l 0 <;> rfl
  · have : (4 : Int) < l.length := by omega
    simp [h4, this]
noncomputable def ug_2 := ug_1.addSpec 27 writtenRf_sp
theorem ug_2_laws : FLaws Try.prog s05 ug_2 := ug_1_laws.addEv s05_laws fun args d h => by
  unfold writtenRf_sp at h
  split at h
  · unfold writtenRf_s at h
    have h1 := congrArg Prod.fst (Option.some.inj h)
    obtain rfl : _ = d := congrArg Prod.snd (Option.some.inj h)
    exact ⟨by simp [D.refs], 40, writtenRf_ok _ _ h1⟩
  · cases h
/-! ### function mayR: flume/flumeref05.May -/
def mayR_s (p : Int) (y : Bool) (c : Bool) (l : List Write) : Option (Bool × D RC) := some (lenOK l.length, .bool (mayB ⟨p, y, l⟩))
def mayR_sp : List (D RC) → Option (Bool × D RC)
  | [.acons (.int .i64 p) (.acons (.bool y) (.acons (.sl .write c l) .anil))] => mayR_s p y c l
  | _ => none
noncomputable def mayR_e (p : Int) (y : Bool) (c : Bool) (l : List Write) := evF s05 ug_2 40 26 [.acons (.int .i64 p) (.acons (.bool y) (.acons (.sl (C := RC) .write c l) .anil))]
theorem mayR_eq (p : Int) (y : Bool) (c : Bool) (l : List Write) : mayR_e p y c l = (bif Decidable.decide ((1 : Int) ≤ p) then bif Decidable.decide (p ≤ (1048575 : Int)) then bif Go.Ev.lenOK (List.length l) then bif Go.Ev.writtenL l then bif y then Option.some (Go.Ev.D.bool Bool.true) else bif Go.Ev.lenOK (List.length l) then Option.some (Go.Ev.D.bool ((↑(List.length l) : Int) == (0 : Int))) else Option.none else Option.some (Go.Ev.D.bool Bool.false) else Option.none else Option.some (Go.Ev.D.bool Bool.false) else Option.some (Go.Ev.D.bool Bool.false)) := by kernel_rfl
theorem mayR_ok (p : Int) (y : Bool) (c : Bool) (l : List Write) (h : (lenOK l.length) = true) : mayR_e p y c l = some (.bool (mayB ⟨p, y, l⟩)) := by
  rw [mayR_eq]
  have h3 : (((l.length : Nat) : Int) = 0) ↔ l.length = 0 := by omega
  simp only [mayB, h, withinB]
  cases decide (1 ≤ p) <;> cases decide (p ≤ 1048575) <;> cases writtenL l <;> cases y <;> simp [h3]
  cases l <;> simp
  omega
noncomputable def ug_3 := ug_2.addSpec 26 mayR_sp
theorem ug_3_laws : FLaws Try.prog s05 ug_3 := ug_2_laws.addEv s05_laws fun args d h => by
  unfold mayR_sp at h
  split at h
  · unfold mayR_s at h
    have h1 := congrArg Prod.fst (Option.some.inj h)
    obtain rfl : _ = d := congrArg Prod.snd (Option.some.inj h)
    exact ⟨by simp [D.refs], 40, mayR_ok _ _ _ _ h1⟩
  · cases h
/-! ### loop itemsR: flume/flumeref05.items, region 2 -/
structure itemsR_St where
  c : Bool
  l : List Item
  p : Int
  i : Nat
def itemsR_c (c : Bool) (l : List Item) (p : Int) (i : Nat) : Env RC := [(0, .sl (C := RC) .item c l), (1, .int .i64 p), (4, .bool false), (5, .int .i64 (i : Int))]
def itemsR_o (c : Bool) (l : List Item) (p : Int) (i : Nat) : List (Obj RC) := []
noncomputable def itemsR_r (c : Bool) (l : List Item) (p : Int) (i : Nat) := rndO s05 ug_3 48 2 40 0 [0, 1, 4, 5] [4] [] (itemsR_c c l p i) (itemsR_o c l p i)
theorem itemsR_eq (c : Bool) (l : List Item) (p : Int) (i : Nat) : itemsR_r c l p i = (bif Go.Ev.lenOK (List.length l) then bif Decidable.decide ((↑i : Int) < (↑(List.length l) : Int)) then bif Decidable.decide ((0 : Int) ≤ (↑i : Int) ∧ (↑i : Int) < (↑(List.length l) : Int)) then bif Decidable.decide (Go.Ev.Item.key (List.getD l (Int.toNat (↑i : Int)) (Go.Ev.Item.mk (0 : Int) (0 : Int) (0 : Int))) < (0 : Int)) then Option.some ((Go.Ev.X.ret, [((4 : Nat), Go.Ev.D.bool Bool.false)]), []) else bif Decidable.decide ((24 : Int) ≤ Go.Ev.Item.key (List.getD l (Int.toNat (↑i : Int)) (Go.Ev.Item.mk (0 : Int) (0 : Int) (0 : Int)))) then Option.some ((Go.Ev.X.ret, [((4 : Nat), Go.Ev.D.bool Bool.false)]), []) else bif Decidable.decide ((0 : Int) < (↑i : Int)) then bif Decidable.decide ((0 : Int) ≤ Go.IntKind.wrap Go.IntKind.i64 ((↑i : Int) - (1 : Int)) ∧ Go.IntKind.wrap Go.IntKind.i64 ((↑i : Int) - (1 : Int)) < (↑(List.length l) : Int)) then bif Decidable.decide (Go.Ev.Item.key (List.getD l (Int.toNat (↑i : Int)) (Go.Ev.Item.mk (0 : Int) (0 : Int) (0 : Int))) ≤ Go.Ev.Item.key (List.getD l (Int.toNat (Go.IntKind.wrap Go.IntKind.i64 ((↑i : Int) - (1 : Int)))) (Go.Ev.Item.mk (0 : Int) (0 : Int) (0 : Int)))) then Option.some ((Go.Ev.X.ret, [((4 : Nat), Go.Ev.D.bool Bool.false)]), []) else bif Decidable.decide (Go.Ev.Item.place (List.getD l (Int.toNat (↑i : Int)) (Go.Ev.Item.mk (0 : Int) (0 : Int) (0 : Int))) < (1 : Int)) then Option.some ((Go.Ev.X.ret, [((4 : Nat), Go.Ev.D.bool Bool.false)]), []) else bif Decidable.decide (p < Go.Ev.Item.place (List.getD l (Int.toNat (↑i : Int)) (Go.Ev.Item.mk (0 : Int) (0 : Int) (0 : Int)))) then Option.some ((Go.Ev.X.ret, [((4 : Nat), Go.Ev.D.bool Bool.false)]), []) else bif Decidable.decide (Go.Ev.Item.value (List.getD l (Int.toNat (↑i : Int)) (Go.Ev.Item.mk (0 : Int) (0 : Int) (0 : Int))) < (0 : Int)) then Option.some ((Go.Ev.X.ret, [((4 : Nat), Go.Ev.D.bool Bool.false)]), []) else bif Decidable.decide ((255 : Int) < Go.Ev.Item.value (List.getD l (Int.toNat (↑i : Int)) (Go.Ev.Item.mk (0 : Int) (0 : Int) (0 : Int)))) then Option.some ((Go.Ev.X.ret, [((4 : Nat), Go.Ev.D.bool Bool.false)]), []) else Option.some ((Go.Ev.X.normal, [((0 : Nat), Go.Ev.D.sl Go.Ev.RTy.item c l), ((1 : Nat), Go.Ev.D.int Go.IntKind.i64 p), ((4 : Nat), Go.Ev.D.bool Bool.false), ((5 : Nat), Go.Ev.D.int Go.IntKind.i64 (Go.IntKind.wrap Go.IntKind.i64 ((↑i : Int) + (1 : Int))))]), []) else Option.none else bif Decidable.decide (Go.Ev.Item.place (List.getD l (Int.toNat (↑i : Int)) (Go.Ev.Item.mk (0 : Int) (0 : Int) (0 : Int))) < (1 : Int)) then Option.some ((Go.Ev.X.ret, [((4 : Nat), Go.Ev.D.bool Bool.false)]), []) else bif Decidable.decide (p < Go.Ev.Item.place (List.getD l (Int.toNat (↑i : Int)) (Go.Ev.Item.mk (0 : Int) (0 : Int) (0 : Int)))) then Option.some ((Go.Ev.X.ret, [((4 : Nat), Go.Ev.D.bool Bool.false)]), []) else bif Decidable.decide (Go.Ev.Item.value (List.getD l (Int.toNat (↑i : Int)) (Go.Ev.Item.mk (0 : Int) (0 : Int) (0 : Int))) < (0 : Int)) then Option.some ((Go.Ev.X.ret, [((4 : Nat), Go.Ev.D.bool Bool.false)]), []) else bif Decidable.decide ((255 : Int) < Go.Ev.Item.value (List.getD l (Int.toNat (↑i : Int)) (Go.Ev.Item.mk (0 : Int) (0 : Int) (0 : Int)))) then Option.some ((Go.Ev.X.ret, [((4 : Nat), Go.Ev.D.bool Bool.false)]), []) else Option.some ((Go.Ev.X.normal, [((0 : Nat), Go.Ev.D.sl Go.Ev.RTy.item c l), ((1 : Nat), Go.Ev.D.int Go.IntKind.i64 p), ((4 : Nat), Go.Ev.D.bool Bool.false), ((5 : Nat), Go.Ev.D.int Go.IntKind.i64 (Go.IntKind.wrap Go.IntKind.i64 ((↑i : Int) + (1 : Int))))]), []) else Option.none else Option.some ((Go.Ev.X.exit (0 : Nat), [((4 : Nat), Go.Ev.D.bool Bool.false)]), []) else Option.none) := by kernel_rfl
def itemsR_fin (c : Bool) (l : List Item) (p : Int) (i : Nat) : RT RC := .br (eachAt (oneIB p) twoIB l i) (.leaf (.exit 0) [(4, .bool false)] []) (.leaf .ret [(4, .bool false)] [])
def itemsR_Inv (c : Bool) (l : List Item) (p : Int) (i : Nat) : Prop := i ≤ l.length ∧ l.length ≤ 9223372036854775807
def itemsR_S : LoopR RC itemsR_St where
  k := 0
  canon q := itemsR_c q.c q.l q.p q.i
  objs q := itemsR_o q.c q.l q.p q.i
  fin q := itemsR_fin q.c q.l q.p q.i
  Inv q := itemsR_Inv q.c q.l q.p q.i
  μ q := q.l.length - q.i
theorem itemsR_round (c : Bool) (l : List Item) (p : Int) (i : Nat) (hI : itemsR_Inv c l p i) : Leaf (itemsR_r c l p i) (LedR itemsR_S ⟨c, l, p, i⟩) := by
  rw [itemsR_eq]
  unfold itemsR_Inv at hI
  obtain ⟨h1, h2⟩ := hI
  have hlk := lenOK_of h2
  by_cases hlt : i < l.length
  · have w_succ : IntKind.i64.wrap ((i : Int) + 1) = ((i + 1 : Nat) : Int) := by rw [wrap_id (by omega) (by omega)]; simp
    have d_lt : decide ((i : Int) < l.length) = true := by simp; omega
    have d_in : decide (0 ≤ (i : Int) ∧ (i : Int) < l.length) = true := by simp; omega
    have t_nat : ((i : Int)).toNat = i := by simp
    have w_pred : IntKind.i64.wrap ((i : Int) - 1) = (i : Int) - 1 := wrap_id (by omega) (by omega)
    have t_natp : ((i : Int) - 1).toNat = i - 1 := by omega
    simp only [w_succ, d_lt, d_in, t_nat, w_pred, t_natp, cond_true]
    simp only [hlk, cond_true]
    have hst := eachAt_step (oneIB p) twoIB l i (⟨0, 0, 0⟩ : Item) hlt
    generalize l.getD i (⟨0, 0, 0⟩ : Item) = x at hst ⊢
    generalize l.getD (i - 1) (⟨0, 0, 0⟩ : Item) = y at hst ⊢
    have hgo : oneIB p x = true → (i = 0 ∨ twoIB y x = true) → Leaf (some ((X.normal, itemsR_c c l p (i + 1)), [])) (LedR itemsR_S ⟨c, l, p, i⟩) := fun a b =>
      leafR_go ⟨c, l, p, i + 1⟩ ⟨hlt, h2⟩ (by simp only [itemsR_S]; omega) (by simp only [itemsR_S, itemsR_fin, hst, a]; rcases b with b | b <;> simp [b]) rfl rfl
    have hno : ¬ (oneIB p x = true ∧ (i = 0 ∨ twoIB y x = true)) → Leaf (some ((X.ret, [(4, D.bool false)]), [])) (LedR itemsR_S ⟨c, l, p, i⟩) := fun he => leafR_ret [] (by
      have : eachAt (oneIB p) twoIB l i = false := by rw [hst]; simp only [Bool.and_eq_false_iff]; by_cases a : oneIB p x = true <;> by_cases b : i = 0 <;> simp_all
      simp [itemsR_S, itemsR_fin, this, RT.val]) rfl
    simp only [oneIB, twoIB, withinB, Bool.and_eq_true, decide_eq_true_eq] at hgo hno
    by_cases hi : i = 0
    · have d0 : decide (0 < (i : Int)) = false := by simp; omega
      simp only [d0, cond_false]
      repeat' (first | (refine leaf_cond.2 ⟨fun hc_ => ?_, fun hc_ => ?_⟩ <;> simp only [decide_eq_true_eq, decide_eq_false_iff_not, beq_iff_eq, beq_eq_false_iff_ne, bne_iff_ne, ne_eq, Bool.not_eq_true, Bool.not_eq_false, bne_eq_false_iff_eq, decide_eq_decide, Bool.true_eq_false, Bool.false_eq_true] at hc_))
      all_goals first | (exfalso; omega) | exact hno (by omega) | (apply hgo <;> omega)
    · have d_pos : decide (0 < (i : Int)) = true := by simp; omega
      have d_inp : decide (0 ≤ (i : Int) - 1 ∧ (i : Int) - 1 < l.length) = true := by simp; omega
      simp only [d_pos, d_inp, cond_true]
      repeat' (first | (refine leaf_cond.2 ⟨fun hc_ => ?_, fun hc_ => ?_⟩ <;> simp only [decide_eq_true_eq, decide_eq_false_iff_not, beq_iff_eq, beq_eq_false_iff_ne, bne_iff_ne, ne_eq, Bool.not_eq_true, Bool.not_eq_false, bne_eq_false_iff_eq, decide_eq_decide, Bool.true_eq_false, Bool.false_eq_true] at hc_))
      all_goals first | (exfalso; omega) | exact hno (by omega) | (apply hgo <;> omega)
  · have hi : i = l.length := by omega
    have c1 : decide ((i : Int) < l.length) = false := by simp; omega
    simp only [hlk, c1, cond_true, cond_false]
    exact leafR_exit [] (by simp [itemsR_S, itemsR_fin, hi, eachAt, eachB, RT.val]) rfl
def itemsR_d (env : Env RC) (os : List (Obj RC)) : Option (Bool × itemsR_St) := match env, os with
  | [(0, .sl .item c l), (1, .int .i64 p), (4, .bool false), (5, .int .i64 x0)], [] => staticD (true) (decide (x0 = 0) && decide (l.length ≤ 9223372036854775807), ⟨c, l, p, 0⟩)
  | _, _ => none
noncomputable def ug_4 := ug_3.addLoop 48 2 (sumR s05 [] [0, 1, 4, 5] itemsR_S itemsR_d)
theorem ug_4_laws : FLaws Try.prog s05 ug_4 := by
  refine ug_3_laws.addRoundsR s05_laws (by kernel_rfl) itemsR_S 40 [0, 1, 4, 5] [4] [] [0, 1, 4, 5] itemsR_d (fun q hI => ?_) ?_
  · obtain ⟨c, l, p, i⟩ := q
    refine ⟨?_, ?_, itemsR_round c l p i hI⟩
    · simp_all [RefsOK, itemsR_S, itemsR_c, itemsR_o, itemsR_Inv, D.refs, Obj.refs, rEnc]
    · simp_all [itemsR_S, itemsR_fin, itemsR_o, itemsR_Inv, RT.refsOK, RefsOK, D.refs, Obj.refs, rEnc]
  · intro env os b q hd_ hb
    unfold itemsR_d at hd_
    split at hd_
    · obtain ⟨hs, hd_⟩ := staticD_some hd_
      cases hd_
      simp only [Bool.and_eq_true, decide_eq_true_eq] at hb
      obtain ⟨rfl, hl⟩ := hb
      exact ⟨⟨Nat.zero_le _, hl⟩, rfl, rfl⟩
    · cases hd_
/-! ### loop linesR: flume/flumeref05.lines, region 4 -/
structure linesR_St where
  k : Bool
  l : List Line
  p : Int
  c : Int
  i : Nat
def linesR_c (k : Bool) (l : List Line) (p : Int) (c : Int) (i : Nat) : Env RC := [(0, .sl (C := RC) .line k l), (1, .int .i64 p), (2, .int .i64 c), (6, .bool false), (7, .int .i64 (i : Int))]
def linesR_o (k : Bool) (l : List Line) (p : Int) (c : Int) (i : Nat) : List (Obj RC) := []
noncomputable def linesR_r (k : Bool) (l : List Line) (p : Int) (c : Int) (i : Nat) := rndO s05 ug_4 49 4 60 0 [0, 1, 2, 6, 7] [6] [] (linesR_c k l p c i) (linesR_o k l p c i)
theorem linesR_eq (k : Bool) (l : List Line) (p : Int) (c : Int) (i : Nat) : linesR_r k l p c i = (bif Go.Ev.lenOK (List.length l) then bif Decidable.decide ((↑i : Int) < (↑(List.length l) : Int)) then bif Decidable.decide ((0 : Int) ≤ (↑i : Int) ∧ (↑i : Int) < (↑(List.length l) : Int)) then bif Decidable.decide (Go.Ev.Line.offset (List.getD l (Int.toNat (↑i : Int)) (Go.Ev.Line.mk (0 : Int) (0 : Int) (0 : Int) (0 : Int) (0 : Int))) < (0 : Int)) then Option.some ((Go.Ev.X.ret, [((6 : Nat), Go.Ev.D.bool Bool.false)]), []) else bif Decidable.decide ((4194304 : Int) ≤ Go.Ev.Line.offset (List.getD l (Int.toNat (↑i : Int)) (Go.Ev.Line.mk (0 : Int) (0 : Int) (0 : Int) (0 : Int) (0 : Int)))) then Option.some ((Go.Ev.X.ret, [((6 : Nat), Go.Ev.D.bool Bool.false)]), []) else bif Decidable.decide (Go.Ev.Line.place (List.getD l (Int.toNat (↑i : Int)) (Go.Ev.Line.mk (0 : Int) (0 : Int) (0 : Int) (0 : Int) (0 : Int))) < (1 : Int)) then Option.some ((Go.Ev.X.ret, [((6 : Nat), Go.Ev.D.bool Bool.false)]), []) else bif Decidable.decide (p < Go.Ev.Line.place (List.getD l (Int.toNat (↑i : Int)) (Go.Ev.Line.mk (0 : Int) (0 : Int) (0 : Int) (0 : Int) (0 : Int)))) then Option.some ((Go.Ev.X.ret, [((6 : Nat), Go.Ev.D.bool Bool.false)]), []) else bif Decidable.decide (Go.Ev.Line.j (List.getD l (Int.toNat (↑i : Int)) (Go.Ev.Line.mk (0 : Int) (0 : Int) (0 : Int) (0 : Int) (0 : Int))) < (0 : Int)) then Option.some ((Go.Ev.X.ret, [((6 : Nat), Go.Ev.D.bool Bool.false)]), []) else bif Decidable.decide ((4 : Int) ≤ Go.Ev.Line.j (List.getD l (Int.toNat (↑i : Int)) (Go.Ev.Line.mk (0 : Int) (0 : Int) (0 : Int) (0 : Int) (0 : Int)))) then Option.some ((Go.Ev.X.ret, [((6 : Nat), Go.Ev.D.bool Bool.false)]), []) else bif Decidable.decide (Go.Ev.Line.key (List.getD l (Int.toNat (↑i : Int)) (Go.Ev.Line.mk (0 : Int) (0 : Int) (0 : Int) (0 : Int) (0 : Int))) < (0 : Int)) then Option.some ((Go.Ev.X.ret, [((6 : Nat), Go.Ev.D.bool Bool.false)]), []) else bif Decidable.decide ((8 : Int) ≤ Go.Ev.Line.key (List.getD l (Int.toNat (↑i : Int)) (Go.Ev.Line.mk (0 : Int) (0 : Int) (0 : Int) (0 : Int) (0 : Int)))) then Option.some ((Go.Ev.X.ret, [((6 : Nat), Go.Ev.D.bool Bool.false)]), []) else bif Decidable.decide (Go.Ev.Line.value (List.getD l (Int.toNat (↑i : Int)) (Go.Ev.Line.mk (0 : Int) (0 : Int) (0 : Int) (0 : Int) (0 : Int))) < (0 : Int)) then Option.some ((Go.Ev.X.ret, [((6 : Nat), Go.Ev.D.bool Bool.false)]), []) else bif Decidable.decide ((255 : Int) < Go.Ev.Line.value (List.getD l (Int.toNat (↑i : Int)) (Go.Ev.Line.mk (0 : Int) (0 : Int) (0 : Int) (0 : Int) (0 : Int)))) then Option.some ((Go.Ev.X.ret, [((6 : Nat), Go.Ev.D.bool Bool.false)]), []) else bif (↑i : Int) == (0 : Int) then bif Decidable.decide (Go.Ev.Line.place (List.getD l (Int.toNat (↑i : Int)) (Go.Ev.Line.mk (0 : Int) (0 : Int) (0 : Int) (0 : Int) (0 : Int))) ≤ c) then Option.some ((Go.Ev.X.ret, [((6 : Nat), Go.Ev.D.bool Bool.false)]), []) else bif Decidable.decide ((0 : Int) < (↑i : Int)) then bif Decidable.decide ((0 : Int) ≤ Go.IntKind.wrap Go.IntKind.i64 ((↑i : Int) - (1 : Int)) ∧ Go.IntKind.wrap Go.IntKind.i64 ((↑i : Int) - (1 : Int)) < (↑(List.length l) : Int)) then bif Go.Ev.Line.offset (List.getD l (Int.toNat (↑i : Int)) (Go.Ev.Line.mk (0 : Int) (0 : Int) (0 : Int) (0 : Int) (0 : Int))) != Go.IntKind.wrap Go.IntKind.i64 (Go.Ev.Line.offset (List.getD l (Int.toNat (Go.IntKind.wrap Go.IntKind.i64 ((↑i : Int) - (1 : Int)))) (Go.Ev.Line.mk (0 : Int) (0 : Int) (0 : Int) (0 : Int) (0 : Int))) + (1 : Int)) then Option.some ((Go.Ev.X.ret, [((6 : Nat), Go.Ev.D.bool Bool.false)]), []) else bif Decidable.decide ((0 : Int) ≤ Go.IntKind.wrap Go.IntKind.i64 ((↑i : Int) - (1 : Int)) ∧ Go.IntKind.wrap Go.IntKind.i64 ((↑i : Int) - (1 : Int)) < (↑(List.length l) : Int)) then bif Decidable.decide (Go.Ev.Line.place (List.getD l (Int.toNat (↑i : Int)) (Go.Ev.Line.mk (0 : Int) (0 : Int) (0 : Int) (0 : Int) (0 : Int))) < Go.Ev.Line.place (List.getD l (Int.toNat (Go.IntKind.wrap Go.IntKind.i64 ((↑i : Int) - (1 : Int)))) (Go.Ev.Line.mk (0 : Int) (0 : Int) (0 : Int) (0 : Int) (0 : Int)))) then Option.some ((Go.Ev.X.ret, [((6 : Nat), Go.Ev.D.bool Bool.false)]), []) else bif Decidable.decide ((0 : Int) ≤ Go.IntKind.wrap Go.IntKind.i64 ((↑i : Int) - (1 : Int)) ∧ Go.IntKind.wrap Go.IntKind.i64 ((↑i : Int) - (1 : Int)) < (↑(List.length l) : Int)) then bif Go.Ev.Line.place (List.getD l (Int.toNat (↑i : Int)) (Go.Ev.Line.mk (0 : Int) (0 : Int) (0 : Int) (0 : Int) (0 : Int))) == Go.Ev.Line.place (List.getD l (Int.toNat (Go.IntKind.wrap Go.IntKind.i64 ((↑i : Int) - (1 : Int)))) (Go.Ev.Line.mk (0 : Int) (0 : Int) (0 : Int) (0 : Int) (0 : Int))) then bif Decidable.decide ((0 : Int) ≤ Go.IntKind.wrap Go.IntKind.i64 ((↑i : Int) - (1 : Int)) ∧ Go.IntKind.wrap Go.IntKind.i64 ((↑i : Int) - (1 : Int)) < (↑(List.length l) : Int)) then bif Decidable.decide (Go.Ev.Line.j (List.getD l (Int.toNat (↑i : Int)) (Go.Ev.Line.mk (0 : Int) (0 : Int) (0 : Int) (0 : Int) (0 : Int))) ≤ Go.Ev.Line.j (List.getD l (Int.toNat (Go.IntKind.wrap Go.IntKind.i64 ((↑i : Int) - (1 : Int)))) (Go.Ev.Line.mk (0 : Int) (0 : Int) (0 : Int) (0 : Int) (0 : Int)))) then Option.some ((Go.Ev.X.ret, [((6 : Nat), Go.Ev.D.bool Bool.false)]), []) else Option.some ((Go.Ev.X.normal, [((0 : Nat), Go.Ev.D.sl Go.Ev.RTy.line k l), ((1 : Nat), Go.Ev.D.int Go.IntKind.i64 p), ((2 : Nat), Go.Ev.D.int Go.IntKind.i64 c), ((6 : Nat), Go.Ev.D.bool Bool.false), ((7 : Nat), Go.Ev.D.int Go.IntKind.i64 (Go.IntKind.wrap Go.IntKind.i64 ((↑i : Int) + (1 : Int))))]), []) else Option.none else Option.some ((Go.Ev.X.normal, [((0 : Nat), Go.Ev.D.sl Go.Ev.RTy.line k l), ((1 : Nat), Go.Ev.D.int Go.IntKind.i64 p), ((2 : Nat), Go.Ev.D.int Go.IntKind.i64 c), ((6 : Nat), Go.Ev.D.bool Bool.false), ((7 : Nat), Go.Ev.D.int Go.IntKind.i64 (Go.IntKind.wrap Go.IntKind.i64 ((↑i : Int) + (1 : Int))))]), []) else Option.none else Option.none else Option.none else Option.some ((Go.Ev.X.normal, [((0 : Nat), Go.Ev.D.sl Go.Ev.RTy.line k l), ((1 : Nat), Go.Ev.D.int Go.IntKind.i64 p), ((2 : Nat), Go.Ev.D.int Go.IntKind.i64 c), ((6 : Nat), Go.Ev.D.bool Bool.false), ((7 : Nat), Go.Ev.D.int Go.IntKind.i64 (Go.IntKind.wrap Go.IntKind.i64 ((↑i : Int) + (1 : Int))))]), []) else bif Decidable.decide ((0 : Int) < (↑i : Int)) then bif Decidable.decide ((0 : Int) ≤ Go.IntKind.wrap Go.IntKind.i64 ((↑i : Int) - (1 : Int)) ∧ Go.IntKind.wrap Go.IntKind.i64 ((↑i : Int) - (1 : Int)) < (↑(List.length l) : Int)) then bif Go.Ev.Line.offset (List.getD l (Int.toNat (↑i : Int)) (Go.Ev.Line.mk (0 : Int) (0 : Int) (0 : Int) (0 : Int) (0 : Int))) != Go.IntKind.wrap Go.IntKind.i64 (Go.Ev.Line.offset (List.getD l (Int.toNat (Go.IntKind.wrap Go.IntKind.i64 ((↑i : Int) - (1 : Int)))) (Go.Ev.Line.mk (0 : Int) (0 : Int) (0 : Int) (0 : Int) (0 : Int))) + (1 : Int)) then Option.some ((Go.Ev.X.ret, [((6 : Nat), Go.Ev.D.bool Bool.false)]), []) else bif Decidable.decide ((0 : Int) ≤ Go.IntKind.wrap Go.IntKind.i64 ((↑i : Int) - (1 : Int)) ∧ Go.IntKind.wrap Go.IntKind.i64 ((↑i : Int) - (1 : Int)) < (↑(List.length l) : Int)) then bif Decidable.decide (Go.Ev.Line.place (List.getD l (Int.toNat (↑i : Int)) (Go.Ev.Line.mk (0 : Int) (0 : Int) (0 : Int) (0 : Int) (0 : Int))) < Go.Ev.Line.place (List.getD l (Int.toNat (Go.IntKind.wrap Go.IntKind.i64 ((↑i : Int) - (1 : Int)))) (Go.Ev.Line.mk (0 : Int) (0 : Int) (0 : Int) (0 : Int) (0 : Int)))) then Option.some ((Go.Ev.X.ret, [((6 : Nat), Go.Ev.D.bool Bool.false)]), []) else bif Decidable.decide ((0 : Int) ≤ Go.IntKind.wrap Go.IntKind.i64 ((↑i : Int) - (1 : Int)) ∧ Go.IntKind.wrap Go.IntKind.i64 ((↑i : Int) - (1 : Int)) < (↑(List.length l) : Int)) then bif Go.Ev.Line.place (List.getD l (Int.toNat (↑i : Int)) (Go.Ev.Line.mk (0 : Int) (0 : Int) (0 : Int) (0 : Int) (0 : Int))) == Go.Ev.Line.place (List.getD l (Int.toNat (Go.IntKind.wrap Go.IntKind.i64 ((↑i : Int) - (1 : Int)))) (Go.Ev.Line.mk (0 : Int) (0 : Int) (0 : Int) (0 : Int) (0 : Int))) then bif Decidable.decide ((0 : Int) ≤ Go.IntKind.wrap Go.IntKind.i64 ((↑i : Int) - (1 : Int)) ∧ Go.IntKind.wrap Go.IntKind.i64 ((↑i : Int) - (1 : Int)) < (↑(List.length l) : Int)) then bif Decidable.decide (Go.Ev.Line.j (List.getD l (Int.toNat (↑i : Int)) (Go.Ev.Line.mk (0 : Int) (0 : Int) (0 : Int) (0 : Int) (0 : Int))) ≤ Go.Ev.Line.j (List.getD l (Int.toNat (Go.IntKind.wrap Go.IntKind.i64 ((↑i : Int) - (1 : Int)))) (Go.Ev.Line.mk (0 : Int) (0 : Int) (0 : Int) (0 : Int) (0 : Int)))) then Option.some ((Go.Ev.X.ret, [((6 : Nat), Go.Ev.D.bool Bool.false)]), []) else Option.some ((Go.Ev.X.normal, [((0 : Nat), Go.Ev.D.sl Go.Ev.RTy.line k l), ((1 : Nat), Go.Ev.D.int Go.IntKind.i64 p), ((2 : Nat), Go.Ev.D.int Go.IntKind.i64 c), ((6 : Nat), Go.Ev.D.bool Bool.false), ((7 : Nat), Go.Ev.D.int Go.IntKind.i64 (Go.IntKind.wrap Go.IntKind.i64 ((↑i : Int) + (1 : Int))))]), []) else Option.none else Option.some ((Go.Ev.X.normal, [((0 : Nat), Go.Ev.D.sl Go.Ev.RTy.line k l), ((1 : Nat), Go.Ev.D.int Go.IntKind.i64 p), ((2 : Nat), Go.Ev.D.int Go.IntKind.i64 c), ((6 : Nat), Go.Ev.D.bool Bool.false), ((7 : Nat), Go.Ev.D.int Go.IntKind.i64 (Go.IntKind.wrap Go.IntKind.i64 ((↑i : Int) + (1 : Int))))]), []) else Option.none else Option.none else Option.none else Option.some ((Go.Ev.X.normal, [((0 : Nat), Go.Ev.D.sl Go.Ev.RTy.line k l), ((1 : Nat), Go.Ev.D.int Go.IntKind.i64 p), ((2 : Nat), Go.Ev.D.int Go.IntKind.i64 c), ((6 : Nat), Go.Ev.D.bool Bool.false), ((7 : Nat), Go.Ev.D.int Go.IntKind.i64 (Go.IntKind.wrap Go.IntKind.i64 ((↑i : Int) + (1 : Int))))]), []) else Option.none else Option.some ((Go.Ev.X.exit (0 : Nat), [((6 : Nat), Go.Ev.D.bool Bool.false)]), []) else Option.none) := by kernel_rfl
def linesR_fin (k : Bool) (l : List Line) (p : Int) (c : Int) (i : Nat) : RT RC := .br (linesAt p c l i) (.leaf (.exit 0) [(6, .bool false)] []) (.leaf .ret [(6, .bool false)] [])
def linesR_Inv (k : Bool) (l : List Line) (p : Int) (c : Int) (i : Nat) : Prop := i ≤ l.length ∧ l.length ≤ 9223372036854775807
def linesR_S : LoopR RC linesR_St where
  k := 0
  canon q := linesR_c q.k q.l q.p q.c q.i
  objs q := linesR_o q.k q.l q.p q.c q.i
  fin q := linesR_fin q.k q.l q.p q.c q.i
  Inv q := linesR_Inv q.k q.l q.p q.c q.i
  μ q := q.l.length - q.i
theorem linesR_round (k : Bool) (l : List Line) (p : Int) (c : Int) (i : Nat) (hI : linesR_Inv k l p c i) : Leaf (linesR_r k l p c i) (LedR linesR_S ⟨k, l, p, c, i⟩) := by
  rw [linesR_eq]
  unfold linesR_Inv at hI
  obtain ⟨h1, h2⟩ := hI
  have hlk := lenOK_of h2
  by_cases hlt : i < l.length
  · have w_succ : IntKind.i64.wrap ((i : Int) + 1) = ((i + 1 : Nat) : Int) := by rw [wrap_id (by omega) (by omega)]; simp
    have d_lt : decide ((i : Int) < l.length) = true := by simp; omega
    have d_in : decide (0 ≤ (i : Int) ∧ (i : Int) < l.length) = true := by simp; omega
    have t_nat : ((i : Int)).toNat = i := by simp
    have w_pred : IntKind.i64.wrap ((i : Int) - 1) = (i : Int) - 1 := wrap_id (by omega) (by omega)
    have t_natp : ((i : Int) - 1).toNat = i - 1 := by omega
    simp only [w_succ, d_lt, d_in, t_nat, w_pred, t_natp, cond_true]
    simp only [hlk, cond_true]
    have hst := eachAt_step (oneLB p) twoLB l i (⟨0, 0, 0, 0, 0⟩ : Line) hlt
    have hne : l.isEmpty = false := by cases l <;> simp at hlt ⊢
    have hz : linesAt p c l i = ((decide (i ≠ 0) || decide (c < (l.getD i ⟨0, 0, 0, 0, 0⟩).place)) && eachAt (oneLB p) twoLB l i) := by
      unfold linesAt
      by_cases hi : i = 0
      · subst hi; simp [hne]
      · simp [hi]
    have hn : linesAt p c l (i + 1) = eachAt (oneLB p) twoLB l (i + 1) := by simp [linesAt]
    rw [hst] at hz
    generalize l.getD i (⟨0, 0, 0, 0, 0⟩ : Line) = x at hz ⊢
    generalize l.getD (i - 1) (⟨0, 0, 0, 0, 0⟩ : Line) = y at hz ⊢
    have hgo : oneLB p x = true → (i ≠ 0 ∨ c < x.place) → (i = 0 ∨ twoLB y x = true) → Leaf (some ((X.normal, linesR_c k l p c (i + 1)), [])) (LedR linesR_S ⟨k, l, p, c, i⟩) := fun a b d =>
      leafR_go ⟨k, l, p, c, i + 1⟩ ⟨hlt, h2⟩ (by simp only [linesR_S]; omega) (by
        have e1 : (decide (i ≠ 0) || decide (c < x.place)) = true := by simpa using b
        have e2 : (decide (i = 0) || twoLB y x) = true := by simpa using d
        simp only [linesR_S, linesR_fin, hz, hn, a, e1, e2, Bool.true_and]) rfl rfl
    have hno : ¬ (oneLB p x = true ∧ (i ≠ 0 ∨ c < x.place) ∧ (i = 0 ∨ twoLB y x = true)) → Leaf (some ((X.ret, [(6, D.bool false)]), [])) (LedR linesR_S ⟨k, l, p, c, i⟩) := fun he => leafR_ret [] (by
      have : linesAt p c l i = false := by
        rw [hz]
        cases hq : ((decide (i ≠ 0) || decide (c < x.place)) && (oneLB p x && (decide (i = 0) || twoLB y x) && eachAt (oneLB p) twoLB l (i + 1))) with
        | false => rfl
        | true =>
          exfalso
          simp only [Bool.and_eq_true, Bool.or_eq_true, decide_eq_true_eq] at hq
          exact he ⟨hq.2.1.1, hq.1, hq.2.1.2⟩
      simp [linesR_S, linesR_fin, this, RT.val]) rfl
    simp only [oneLB, twoLB, withinB, Bool.and_eq_true, Bool.or_eq_true, decide_eq_true_eq, beq_iff_eq] at hgo hno
    by_cases hi : i = 0
    · have d0 : decide (0 < (i : Int)) = false := by simp; omega
      simp only [d0, cond_false]
      repeat' (first | (refine leaf_cond.2 ⟨fun hc_ => ?_, fun hc_ => ?_⟩ <;> simp only [decide_eq_true_eq, decide_eq_false_iff_not, beq_iff_eq, beq_eq_false_iff_ne, bne_iff_ne, ne_eq, Bool.not_eq_true, Bool.not_eq_false, bne_eq_false_iff_eq, decide_eq_decide, Bool.true_eq_false, Bool.false_eq_true] at hc_))
      all_goals first | (exfalso; omega) | exact hno (by omega) | (apply hgo <;> omega)
    · have d_pos : decide (0 < (i : Int)) = true := by simp; omega
      have d_inp : decide (0 ≤ (i : Int) - 1 ∧ (i : Int) - 1 < l.length) = true := by simp; omega
      simp only [d_pos, d_inp, cond_true]
      have i0 : ((i : Int) == 0) = false := by simp; omega
      simp only [i0, cond_false]
      generalize IntKind.i64.wrap (y.offset + 1) = z at hgo hno ⊢
      repeat' (first | (refine leaf_cond.2 ⟨fun hc_ => ?_, fun hc_ => ?_⟩ <;> simp only [decide_eq_true_eq, decide_eq_false_iff_not, beq_iff_eq, beq_eq_false_iff_ne, bne_iff_ne, ne_eq, Bool.not_eq_true, Bool.not_eq_false, bne_eq_false_iff_eq, decide_eq_decide, Bool.true_eq_false, Bool.false_eq_true] at hc_))
      all_goals first | (exfalso; omega) | exact hno (by omega) | (apply hgo <;> omega)
  · have hi : i = l.length := by omega
    have c1 : decide ((i : Int) < l.length) = false := by simp; omega
    simp only [hlk, c1, cond_true, cond_false]
    have hq : linesAt p c l i = true := by
      unfold linesAt
      rw [eachAt_end _ _ _ _ (by omega)]
      cases l with
      | nil => simp
      | cons _ _ => simp at hi ⊢; left; omega
    exact leafR_exit [] (by simp [linesR_S, linesR_fin, hq, RT.val]) rfl
def linesR_d (env : Env RC) (os : List (Obj RC)) : Option (Bool × linesR_St) := match env, os with
  | [(0, .sl .line k l), (1, .int .i64 p), (2, .int .i64 c), (6, .bool false), (7, .int .i64 x0)], [] => staticD (true) (decide (x0 = 0) && decide (l.length ≤ 9223372036854775807), ⟨k, l, p, c, 0⟩)
  | _, _ => none
noncomputable def ug_5 := ug_4.addLoop 49 4 (sumR s05 [] [0, 1, 2, 6, 7] linesR_S linesR_d)
theorem ug_5_laws : FLaws Try.prog s05 ug_5 := by
  refine ug_4_laws.addRoundsR s05_laws (by kernel_rfl) linesR_S 60 [0, 1, 2, 6, 7] [6] [] [0, 1, 2, 6, 7] linesR_d (fun q hI => ?_) ?_
  · obtain ⟨k, l, p, c, i⟩ := q
    refine ⟨?_, ?_, linesR_round k l p c i hI⟩
    · simp_all [RefsOK, linesR_S, linesR_c, linesR_o, linesR_Inv, D.refs, Obj.refs, rEnc]
    · simp_all [linesR_S, linesR_fin, linesR_o, linesR_Inv, RT.refsOK, RefsOK, D.refs, Obj.refs, rEnc]
  · intro env os b q hd_ hb
    unfold linesR_d at hd_
    split at hd_
    · obtain ⟨hs, hd_⟩ := staticD_some hd_
      cases hd_
      simp only [Bool.and_eq_true, decide_eq_true_eq] at hb
      obtain ⟨rfl, hl⟩ := hb
      exact ⟨⟨Nat.zero_le _, hl⟩, rfl, rfl⟩
    · cases hd_
/-! ### function linesRf: flume/flumeref05.lines -/
def linesRf_s (k : Bool) (l : List Line) (p : Int) (c : Int) : Option (Bool × D RC) := some (lenOK l.length, .bool (partOK p c l))
def linesRf_sp : List (D RC) → Option (Bool × D RC)
  | [.sl .line k l, .int .i64 p, .int .i64 c] => linesRf_s k l p c
  | _ => none
noncomputable def linesRf_e (k : Bool) (l : List Line) (p : Int) (c : Int) := evF s05 ug_5 40 49 [.sl (C := RC) .line k l, .int .i64 p, .int .i64 c]
theorem linesRf_eq (k : Bool) (l : List Line) (p : Int) (c : Int) : linesRf_e k l p c = (bif Go.Ev.lenOK (List.length l) then bif Decidable.decide ((16 : Int) < (↑(List.length l) : Int)) then Option.some (Go.Ev.D.bool Bool.false) else bif Decidable.decide (c < (0 : Int)) then Option.some (Go.Ev.D.bool Bool.false) else bif Decidable.decide (p < c) then Option.some (Go.Ev.D.bool Bool.false) else bif Decidable.decide (List.length l ≤ (9223372036854775807 : Nat)) then bif Go.Ev.linesAt p c l (0 : Nat) then Option.some (Go.Ev.D.bool Bool.true) else Option.some (Go.Ev.D.bool Bool.false) else Option.none else Option.none) := by kernel_rfl
theorem linesRf_ok (k : Bool) (l : List Line) (p : Int) (c : Int) (h : (lenOK l.length) = true) : linesRf_e k l p c = some (.bool (partOK p c l)) := by
  rw [linesRf_eq]
  have h2 : l.length ≤ 9223372036854775807 := lenOK_le h
  rw [partOK_eq, h]
  by_cases h4 : l.length ≤ 16
  · have a1 : ¬ (16 : Int) < l.length := by omega
    by_cases c0 : c < 0
    · have : ¬ 0 ≤ c := by omega
      simp [h4, h2, a1, c0, this]
    · have c0' : 0 ≤ c := by omega
      by_cases cp : p < c
      · have : ¬ c ≤ p := by omega
        simp [h4, h2, a1, c0, c0', cp, this]
      · have cp' : c ≤ p := by omega
        simp [h4, h2, a1, c0, c0', cp, cp']
        cases linesAt p c l 0 <;> rfl
  · have : (16 : Int) < l.length := by omega
    simp [h4, this]
noncomputable def ug_6 := ug_5.addSpec 49 linesRf_sp
theorem ug_6_laws : FLaws Try.prog s05 ug_6 := ug_5_laws.addEv s05_laws fun args d h => by
  unfold linesRf_sp at h
  split at h
  · unfold linesRf_s at h
    have h1 := congrArg Prod.fst (Option.some.inj h)
    obtain rfl : _ = d := congrArg Prod.snd (Option.some.inj h)
    exact ⟨by simp [D.refs], 40, linesRf_ok _ _ _ _ h1⟩
  · cases h
/-! ### function standsR: flume/flumeref05.Stands -/
def standsR_s (p : Int) (ci : Bool) (items : List Item) (k0 : Bool) (k1 : Bool) (k2 : Bool) (l0 : List Line) (l1 : List Line) (l2 : List Line) (c0 : Int) (c1 : Int) (c2 : Int) : Option (Bool × D RC) := some (decide (items.length ≤ 9223372036854775807 ∧ l0.length ≤ 9223372036854775807 ∧ l1.length ≤ 9223372036854775807 ∧ l2.length ≤ 9223372036854775807), .bool (standsOK ⟨p, items, l0, l1, l2, c0, c1, c2⟩))
def standsR_sp : List (D RC) → Option (Bool × D RC)
  | [.acons (.int .i64 p) (.acons (.sl .item ci items) (.acons (.acons (.sl .line k0 l0) (.acons (.sl .line k1 l1) (.acons (.sl .line k2 l2) .anil))) (.acons (.arr .int 3 [c0, c1, c2]) .anil)))] => standsR_s p ci items k0 k1 k2 l0 l1 l2 c0 c1 c2
  | _ => none
noncomputable def standsR_e (p : Int) (ci : Bool) (items : List Item) (k0 : Bool) (k1 : Bool) (k2 : Bool) (l0 : List Line) (l1 : List Line) (l2 : List Line) (c0 : Int) (c1 : Int) (c2 : Int) := evF s05 ug_6 40 28 [.acons (.int .i64 p) (.acons (.sl (C := RC) .item ci items) (.acons (.acons (.sl (C := RC) .line k0 l0) (.acons (.sl (C := RC) .line k1 l1) (.acons (.sl (C := RC) .line k2 l2) .anil))) (.acons (.arr (C := RC) .int 3 [c0, c1, c2]) .anil)))]
theorem standsR_eq (p : Int) (ci : Bool) (items : List Item) (k0 : Bool) (k1 : Bool) (k2 : Bool) (l0 : List Line) (l1 : List Line) (l2 : List Line) (c0 : Int) (c1 : Int) (c2 : Int) : standsR_e p ci items k0 k1 k2 l0 l1 l2 c0 c1 c2 = (bif Decidable.decide (p < (0 : Int)) then Option.some (Go.Ev.D.bool Bool.false) else bif Decidable.decide ((1048575 : Int) < p) then Option.some (Go.Ev.D.bool Bool.false) else bif Decidable.decide (List.length items ≤ (9223372036854775807 : Nat)) then bif Go.Ev.eachAt (Go.Ev.oneIB p) Go.Ev.twoIB items (0 : Nat) then bif Go.Ev.lenOK (List.length l0) then bif !Go.Ev.partOK p c0 l0 then Option.some (Go.Ev.D.bool Bool.false) else bif Go.Ev.lenOK (List.length l1) then bif !Go.Ev.partOK p c1 l1 then Option.some (Go.Ev.D.bool Bool.false) else bif Go.Ev.lenOK (List.length l2) then bif !Go.Ev.partOK p c2 l2 then Option.some (Go.Ev.D.bool Bool.false) else Option.some (Go.Ev.D.bool Bool.true) else Option.none else Option.none else Option.none else Option.some (Go.Ev.D.bool Bool.false) else Option.none) := by kernel_rfl
theorem standsR_ok (p : Int) (ci : Bool) (items : List Item) (k0 : Bool) (k1 : Bool) (k2 : Bool) (l0 : List Line) (l1 : List Line) (l2 : List Line) (c0 : Int) (c1 : Int) (c2 : Int) (h : (decide (items.length ≤ 9223372036854775807 ∧ l0.length ≤ 9223372036854775807 ∧ l1.length ≤ 9223372036854775807 ∧ l2.length ≤ 9223372036854775807)) = true) : standsR_e p ci items k0 k1 k2 l0 l1 l2 c0 c1 c2 = some (.bool (standsOK ⟨p, items, l0, l1, l2, c0, c1, c2⟩)) := by
  rw [standsR_eq]
  obtain ⟨h, h0, h1, h2⟩ := of_decide_eq_true h
  simp only [standsOK, lenOK_of h, lenOK_of h0, lenOK_of h1, lenOK_of h2, h, decide_true, cond_true]
  have e1 : decide (0 ≤ p) = !decide (p < 0) := by by_cases h : p < 0 <;> simp [h] <;> omega
  have e2 : decide (p ≤ 1048575) = !decide (1048575 < p) := by by_cases h : 1048575 < p <;> simp [h] <;> omega
  simp only [withinB, e1, e2]
  generalize decide (p < 0) = x1
  generalize decide (1048575 < p) = x2
  generalize eachAt (oneIB p) twoIB items 0 = x3
  generalize partOK p c0 l0 = x4
  generalize partOK p c1 l1 = x5
  generalize partOK p c2 l2 = x6
  cases x1 <;> cases x2 <;> cases x3 <;> cases x4 <;> cases x5 <;> cases x6 <;> rfl
noncomputable def ug_7 := ug_6.addSpec 28 standsR_sp
theorem ug_7_laws : FLaws Try.prog s05 ug_7 := ug_6_laws.addEv s05_laws fun args d h => by
  unfold standsR_sp at h
  split at h
  · unfold standsR_s at h
    have h1 := congrArg Prod.fst (Option.some.inj h)
    obtain rfl : _ = d := congrArg Prod.snd (Option.some.inj h)
    exact ⟨by simp [D.refs], 40, standsR_ok _ _ _ _ _ _ _ _ _ _ _ _ h1⟩
  · cases h
end Go.Ev


namespace Go.Ev
open Go.Proofs
set_option maxRecDepth 100000
set_option linter.unusedVariables false
set_option linter.unusedSimpArgs false
/-! ## the same rows -/
/-! ### loop equalW: slices.Equal[[]flume/api.Write,flume/api.Write], region 4 -/
structure equalW_St where
  c : Bool
  l : List Write
  d : Bool
  m : List Write
  i : Nat
def equalW_c (c : Bool) (l : List Write) (d : Bool) (m : List Write) (i : Nat) : Env RC := [(0, .sl (C := RC) .write c l), (1, .sl (C := RC) .write d m), (4, .bool false), (12, .int .i64 (l.length)), (13, .int .i64 (i : Int))]
def equalW_o (c : Bool) (l : List Write) (d : Bool) (m : List Write) (i : Nat) : List (Obj RC) := []
noncomputable def equalW_r (c : Bool) (l : List Write) (d : Bool) (m : List Write) (i : Nat) := rndO s05 ug_7 50 4 40 0 [0, 1, 4, 12, 13] [4] [] (equalW_c c l d m i) (equalW_o c l d m i)
theorem equalW_eq (c : Bool) (l : List Write) (d : Bool) (m : List Write) (i : Nat) : equalW_r c l d m i = (bif Decidable.decide ((↑i : Int) < (↑(List.length l) : Int)) then bif Decidable.decide ((0 : Int) ≤ (↑i : Int) ∧ (↑i : Int) < (↑(List.length l) : Int)) then bif Decidable.decide ((0 : Int) ≤ (↑i : Int) ∧ (↑i : Int) < (↑(List.length m) : Int)) then bif !(Go.Ev.Write.key (List.getD l (Int.toNat (↑i : Int)) (Go.Ev.Write.mk (0 : Int) (0 : Int))) == Go.Ev.Write.key (List.getD m (Int.toNat (↑i : Int)) (Go.Ev.Write.mk (0 : Int) (0 : Int))) && (Go.Ev.Write.value (List.getD l (Int.toNat (↑i : Int)) (Go.Ev.Write.mk (0 : Int) (0 : Int))) == Go.Ev.Write.value (List.getD m (Int.toNat (↑i : Int)) (Go.Ev.Write.mk (0 : Int) (0 : Int))) && Bool.true)) then Option.some ((Go.Ev.X.ret, [((4 : Nat), Go.Ev.D.bool Bool.false)]), []) else Option.some ((Go.Ev.X.normal, [((0 : Nat), Go.Ev.D.sl Go.Ev.RTy.write c l), ((1 : Nat), Go.Ev.D.sl Go.Ev.RTy.write d m), ((4 : Nat), Go.Ev.D.bool Bool.false), ((12 : Nat), Go.Ev.D.int Go.IntKind.i64 (↑(List.length l) : Int)), ((13 : Nat), Go.Ev.D.int Go.IntKind.i64 (Go.IntKind.wrap Go.IntKind.i64 ((↑i : Int) + (1 : Int))))]), []) else Option.none else Option.none else Option.some ((Go.Ev.X.exit (0 : Nat), [((4 : Nat), Go.Ev.D.bool Bool.false)]), [])) := by kernel_rfl
def equalW_fin (c : Bool) (l : List Write) (d : Bool) (m : List Write) (i : Nat) : RT RC := .br (decide (l.drop i = m.drop i)) (.leaf (.exit 0) [(4, .bool false)] []) (.leaf .ret [(4, .bool false)] [])
def equalW_Inv (c : Bool) (l : List Write) (d : Bool) (m : List Write) (i : Nat) : Prop := i ≤ l.length ∧ l.length ≤ 9223372036854775807 ∧ l.length = m.length
def equalW_S : LoopR RC equalW_St where
  k := 0
  canon q := equalW_c q.c q.l q.d q.m q.i
  objs q := equalW_o q.c q.l q.d q.m q.i
  fin q := equalW_fin q.c q.l q.d q.m q.i
  Inv q := equalW_Inv q.c q.l q.d q.m q.i
  μ q := q.l.length - q.i
theorem equalW_round (c : Bool) (l : List Write) (d : Bool) (m : List Write) (i : Nat) (hI : equalW_Inv c l d m i) : Leaf (equalW_r c l d m i) (LedR equalW_S ⟨c, l, d, m, i⟩) := by
  rw [equalW_eq]
  unfold equalW_Inv at hI
  obtain ⟨h1, h2, h3⟩ := hI
  have hlk := lenOK_of h2
  by_cases hlt : i < l.length
  · have w_succ : IntKind.i64.wrap ((i : Int) + 1) = ((i + 1 : Nat) : Int) := by rw [wrap_id (by omega) (by omega)]; simp
    have d_lt : decide ((i : Int) < l.length) = true := by simp; omega
    have d_in : decide (0 ≤ (i : Int) ∧ (i : Int) < l.length) = true := by simp; omega
    have t_nat : ((i : Int)).toNat = i := by simp
    simp only [w_succ, d_lt, d_in, t_nat, cond_true]
    have hlt' : i < m.length := by omega
    have d_in' : decide (0 ≤ (i : Int) ∧ (i : Int) < m.length) = true := by simp; omega
    have hst := drops_step l m i (⟨0, 0⟩ : Write) hlt h3
    simp only [d_in', cond_true, eqWrite]
    generalize l.getD i (⟨0, 0⟩ : Write) = x at hst ⊢
    generalize m.getD i (⟨0, 0⟩ : Write) = y at hst ⊢
    by_cases hxy : x = y
    · simp only [hxy, decide_true, Bool.not_true, cond_false]
      exact leafR_go ⟨c, l, d, m, i + 1⟩ ⟨hlt, h2, h3⟩ (by simp only [equalW_S]; omega) (by simp only [equalW_S, equalW_fin, hst, hxy, decide_true, Bool.true_and]) rfl rfl
    · simp only [hxy, decide_false, Bool.not_false, cond_true]
      exact leafR_ret [] (by simp [equalW_S, equalW_fin, hst, hxy, RT.val]) rfl
  · have hi : i = l.length := by omega
    have c1 : decide ((i : Int) < l.length) = false := by simp; omega
    simp only [c1, cond_false]
    exact leafR_exit [] (by simp only [equalW_S, equalW_fin, drops_end l m i (by omega) (by omega), RT.val, cond_true]) rfl
def equalW_d (env : Env RC) (os : List (Obj RC)) : Option (Bool × equalW_St) := match env, os with
  | [(0, .sl .write c l), (1, .sl .write d m), (4, .bool false), (12, .int .i64 x0), (13, .int .i64 x1)], [] => staticD (true) (decide (x0 = l.length) && decide (x1 = 0) && decide (l.length ≤ 9223372036854775807 ∧ l.length = m.length), ⟨c, l, d, m, 0⟩)
  | _, _ => none
noncomputable def uh_1 := ug_7.addLoop 50 4 (sumR s05 [] [0, 1, 4, 12, 13] equalW_S equalW_d)
theorem uh_1_laws : FLaws Try.prog s05 uh_1 := by
  refine ug_7_laws.addRoundsR s05_laws (by kernel_rfl) equalW_S 40 [0, 1, 4, 12, 13] [4] [] [0, 1, 4, 12, 13] equalW_d (fun q hI => ?_) ?_
  · obtain ⟨c, l, d, m, i⟩ := q
    refine ⟨?_, ?_, equalW_round c l d m i hI⟩
    · simp_all [RefsOK, equalW_S, equalW_c, equalW_o, equalW_Inv, D.refs, Obj.refs, rEnc]
    · simp_all [equalW_S, equalW_fin, equalW_o, equalW_Inv, RT.refsOK, RefsOK, D.refs, Obj.refs, rEnc]
  · intro env os b q hd_ hb
    unfold equalW_d at hd_
    split at hd_
    · obtain ⟨hs, hd_⟩ := staticD_some hd_
      cases hd_
      simp only [Bool.and_eq_true, decide_eq_true_eq] at hb
      obtain ⟨⟨rfl, rfl⟩, hl⟩ := hb
      exact ⟨⟨Nat.zero_le _, hl.1, hl.2⟩, rfl, rfl⟩
    · cases hd_
/-! ### function equalWf: slices.Equal[[]flume/api.Write,flume/api.Write] -/
def equalWf_s (c : Bool) (l : List Write) (d : Bool) (m : List Write) : Option (Bool × D RC) := some (lenOK l.length && lenOK m.length, .bool (decide (l = m)))
def equalWf_sp : List (D RC) → Option (Bool × D RC)
  | [.sl .write c l, .sl .write d m] => equalWf_s c l d m
  | _ => none
noncomputable def equalWf_e (c : Bool) (l : List Write) (d : Bool) (m : List Write) := evF s05 uh_1 40 50 [.sl (C := RC) .write c l, .sl (C := RC) .write d m]
theorem equalWf_eq (c : Bool) (l : List Write) (d : Bool) (m : List Write) : equalWf_e c l d m = (bif Go.Ev.lenOK (List.length l) then bif Go.Ev.lenOK (List.length m) then bif (↑(List.length l) : Int) != (↑(List.length m) : Int) then Option.some (Go.Ev.D.bool Bool.false) else bif Go.Ev.lenOK (List.length l) then bif Decidable.decide ((↑(List.length l) : Int) = (↑(List.length l) : Int)) && Bool.true && Decidable.decide (List.length l ≤ (9223372036854775807 : Nat) ∧ List.length l = List.length m) then bif Decidable.decide (List.drop (0 : Nat) l = List.drop (0 : Nat) m) then Option.some (Go.Ev.D.bool Bool.true) else Option.some (Go.Ev.D.bool Bool.false) else Option.none else Option.none else Option.none else Option.none) := by kernel_rfl
theorem equalWf_ok (c : Bool) (l : List Write) (d : Bool) (m : List Write) (h : (lenOK l.length && lenOK m.length) = true) : equalWf_e c l d m = some (.bool (decide (l = m))) := by
  rw [equalWf_eq]
  simp only [Bool.and_eq_true] at h
  have h1 : l.length ≤ 9223372036854775807 := lenOK_le h.1
  simp only [h.1, h.2, cond_true]
  by_cases hl : l.length = m.length
  · have e1 : ((l.length : Int) != (m.length : Int)) = false := by simp [hl]
    have e2 : (l.length ≤ 9223372036854775807 ∧ l.length = m.length) := ⟨h1, hl⟩
    rw [e1, decide_eq_true e2]
    simp only [cond_true, cond_false, List.drop_zero]
    cases decide (l = m) <;> rfl
  · have e1 : ((l.length : Int) != (m.length : Int)) = true := by simp; omega
    have : ¬ l = m := fun e => hl (by rw [e])
    simp [e1, this]
noncomputable def uh_2 := uh_1.addSpec 50 equalWf_sp
theorem uh_2_laws : FLaws Try.prog s05 uh_2 := uh_1_laws.addEv s05_laws fun args d h => by
  unfold equalWf_sp at h
  split at h
  · unfold equalWf_s at h
    have h1 := congrArg Prod.fst (Option.some.inj h)
    obtain rfl : _ = d := congrArg Prod.snd (Option.some.inj h)
    exact ⟨by simp [D.refs], 40, equalWf_ok _ _ _ _ h1⟩
  · cases h
/-! ### loop equalL: slices.Equal[[]flume/api.Line,flume/api.Line], region 4 -/
structure equalL_St where
  c : Bool
  l : List Line
  d : Bool
  m : List Line
  i : Nat
def equalL_c (c : Bool) (l : List Line) (d : Bool) (m : List Line) (i : Nat) : Env RC := [(0, .sl (C := RC) .line c l), (1, .sl (C := RC) .line d m), (4, .bool false), (12, .int .i64 (l.length)), (13, .int .i64 (i : Int))]
def equalL_o (c : Bool) (l : List Line) (d : Bool) (m : List Line) (i : Nat) : List (Obj RC) := []
noncomputable def equalL_r (c : Bool) (l : List Line) (d : Bool) (m : List Line) (i : Nat) := rndO s05 uh_2 51 4 40 0 [0, 1, 4, 12, 13] [4] [] (equalL_c c l d m i) (equalL_o c l d m i)
theorem equalL_eq (c : Bool) (l : List Line) (d : Bool) (m : List Line) (i : Nat) : equalL_r c l d m i = (bif Decidable.decide ((↑i : Int) < (↑(List.length l) : Int)) then bif Decidable.decide ((0 : Int) ≤ (↑i : Int) ∧ (↑i : Int) < (↑(List.length l) : Int)) then bif Decidable.decide ((0 : Int) ≤ (↑i : Int) ∧ (↑i : Int) < (↑(List.length m) : Int)) then bif !(Go.Ev.Line.offset (List.getD l (Int.toNat (↑i : Int)) (Go.Ev.Line.mk (0 : Int) (0 : Int) (0 : Int) (0 : Int) (0 : Int))) == Go.Ev.Line.offset (List.getD m (Int.toNat (↑i : Int)) (Go.Ev.Line.mk (0 : Int) (0 : Int) (0 : Int) (0 : Int) (0 : Int))) && (Go.Ev.Line.place (List.getD l (Int.toNat (↑i : Int)) (Go.Ev.Line.mk (0 : Int) (0 : Int) (0 : Int) (0 : Int) (0 : Int))) == Go.Ev.Line.place (List.getD m (Int.toNat (↑i : Int)) (Go.Ev.Line.mk (0 : Int) (0 : Int) (0 : Int) (0 : Int) (0 : Int))) && (Go.Ev.Line.j (List.getD l (Int.toNat (↑i : Int)) (Go.Ev.Line.mk (0 : Int) (0 : Int) (0 : Int) (0 : Int) (0 : Int))) == Go.Ev.Line.j (List.getD m (Int.toNat (↑i : Int)) (Go.Ev.Line.mk (0 : Int) (0 : Int) (0 : Int) (0 : Int) (0 : Int))) && (Go.Ev.Line.key (List.getD l (Int.toNat (↑i : Int)) (Go.Ev.Line.mk (0 : Int) (0 : Int) (0 : Int) (0 : Int) (0 : Int))) == Go.Ev.Line.key (List.getD m (Int.toNat (↑i : Int)) (Go.Ev.Line.mk (0 : Int) (0 : Int) (0 : Int) (0 : Int) (0 : Int))) && (Go.Ev.Line.value (List.getD l (Int.toNat (↑i : Int)) (Go.Ev.Line.mk (0 : Int) (0 : Int) (0 : Int) (0 : Int) (0 : Int))) == Go.Ev.Line.value (List.getD m (Int.toNat (↑i : Int)) (Go.Ev.Line.mk (0 : Int) (0 : Int) (0 : Int) (0 : Int) (0 : Int))) && Bool.true))))) then Option.some ((Go.Ev.X.ret, [((4 : Nat), Go.Ev.D.bool Bool.false)]), []) else Option.some ((Go.Ev.X.normal, [((0 : Nat), Go.Ev.D.sl Go.Ev.RTy.line c l), ((1 : Nat), Go.Ev.D.sl Go.Ev.RTy.line d m), ((4 : Nat), Go.Ev.D.bool Bool.false), ((12 : Nat), Go.Ev.D.int Go.IntKind.i64 (↑(List.length l) : Int)), ((13 : Nat), Go.Ev.D.int Go.IntKind.i64 (Go.IntKind.wrap Go.IntKind.i64 ((↑i : Int) + (1 : Int))))]), []) else Option.none else Option.none else Option.some ((Go.Ev.X.exit (0 : Nat), [((4 : Nat), Go.Ev.D.bool Bool.false)]), [])) := by kernel_rfl
def equalL_fin (c : Bool) (l : List Line) (d : Bool) (m : List Line) (i : Nat) : RT RC := .br (decide (l.drop i = m.drop i)) (.leaf (.exit 0) [(4, .bool false)] []) (.leaf .ret [(4, .bool false)] [])
def equalL_Inv (c : Bool) (l : List Line) (d : Bool) (m : List Line) (i : Nat) : Prop := i ≤ l.length ∧ l.length ≤ 9223372036854775807 ∧ l.length = m.length
def equalL_S : LoopR RC equalL_St where
  k := 0
  canon q := equalL_c q.c q.l q.d q.m q.i
  objs q := equalL_o q.c q.l q.d q.m q.i
  fin q := equalL_fin q.c q.l q.d q.m q.i
  Inv q := equalL_Inv q.c q.l q.d q.m q.i
  μ q := q.l.length - q.i
theorem equalL_round (c : Bool) (l : List Line) (d : Bool) (m : List Line) (i : Nat) (hI : equalL_Inv c l d m i) : Leaf (equalL_r c l d m i) (LedR equalL_S ⟨c, l, d, m, i⟩) := by
  rw [equalL_eq]
  unfold equalL_Inv at hI
  obtain ⟨h1, h2, h3⟩ := hI
  have hlk := lenOK_of h2
  by_cases hlt : i < l.length
  · have w_succ : IntKind.i64.wrap ((i : Int) + 1) = ((i + 1 : Nat) : Int) := by rw [wrap_id (by omega) (by omega)]; simp
    have d_lt : decide ((i : Int) < l.length) = true := by simp; omega
    have d_in : decide (0 ≤ (i : Int) ∧ (i : Int) < l.length) = true := by simp; omega
    have t_nat : ((i : Int)).toNat = i := by simp
    simp only [w_succ, d_lt, d_in, t_nat, cond_true]
    have hlt' : i < m.length := by omega
    have d_in' : decide (0 ≤ (i : Int) ∧ (i : Int) < m.length) = true := by simp; omega
    have hst := drops_step l m i (⟨0, 0, 0, 0, 0⟩ : Line) hlt h3
    simp only [d_in', cond_true, eqLine]
    generalize l.getD i (⟨0, 0, 0, 0, 0⟩ : Line) = x at hst ⊢
    generalize m.getD i (⟨0, 0, 0, 0, 0⟩ : Line) = y at hst ⊢
    by_cases hxy : x = y
    · simp only [hxy, decide_true, Bool.not_true, cond_false]
      exact leafR_go ⟨c, l, d, m, i + 1⟩ ⟨hlt, h2, h3⟩ (by simp only [equalL_S]; omega) (by simp only [equalL_S, equalL_fin, hst, hxy, decide_true, Bool.true_and]) rfl rfl
    · simp only [hxy, decide_false, Bool.not_false, cond_true]
      exact leafR_ret [] (by simp [equalL_S, equalL_fin, hst, hxy, RT.val]) rfl
  · have hi : i = l.length := by omega
    have c1 : decide ((i : Int) < l.length) = false := by simp; omega
    simp only [c1, cond_false]
    exact leafR_exit [] (by simp only [equalL_S, equalL_fin, drops_end l m i (by omega) (by omega), RT.val, cond_true]) rfl
def equalL_d (env : Env RC) (os : List (Obj RC)) : Option (Bool × equalL_St) := match env, os with
  | [(0, .sl .line c l), (1, .sl .line d m), (4, .bool false), (12, .int .i64 x0), (13, .int .i64 x1)], [] => staticD (true) (decide (x0 = l.length) && decide (x1 = 0) && decide (l.length ≤ 9223372036854775807 ∧ l.length = m.length), ⟨c, l, d, m, 0⟩)
  | _, _ => none
noncomputable def uh_3 := uh_2.addLoop 51 4 (sumR s05 [] [0, 1, 4, 12, 13] equalL_S equalL_d)
theorem uh_3_laws : FLaws Try.prog s05 uh_3 := by
  refine uh_2_laws.addRoundsR s05_laws (by kernel_rfl) equalL_S 40 [0, 1, 4, 12, 13] [4] [] [0, 1, 4, 12, 13] equalL_d (fun q hI => ?_) ?_
  · obtain ⟨c, l, d, m, i⟩ := q
    refine ⟨?_, ?_, equalL_round c l d m i hI⟩
    · simp_all [RefsOK, equalL_S, equalL_c, equalL_o, equalL_Inv, D.refs, Obj.refs, rEnc]
    · simp_all [equalL_S, equalL_fin, equalL_o, equalL_Inv, RT.refsOK, RefsOK, D.refs, Obj.refs, rEnc]
  · intro env os b q hd_ hb
    unfold equalL_d at hd_
    split at hd_
    · obtain ⟨hs, hd_⟩ := staticD_some hd_
      cases hd_
      simp only [Bool.and_eq_true, decide_eq_true_eq] at hb
      obtain ⟨⟨rfl, rfl⟩, hl⟩ := hb
      exact ⟨⟨Nat.zero_le _, hl.1, hl.2⟩, rfl, rfl⟩
    · cases hd_
/-! ### function equalLf: slices.Equal[[]flume/api.Line,flume/api.Line] -/
def equalLf_s (c : Bool) (l : List Line) (d : Bool) (m : List Line) : Option (Bool × D RC) := some (lenOK l.length && lenOK m.length, .bool (decide (l = m)))
def equalLf_sp : List (D RC) → Option (Bool × D RC)
  | [.sl .line c l, .sl .line d m] => equalLf_s c l d m
  | _ => none
noncomputable def equalLf_e (c : Bool) (l : List Line) (d : Bool) (m : List Line) := evF s05 uh_3 40 51 [.sl (C := RC) .line c l, .sl (C := RC) .line d m]
theorem equalLf_eq (c : Bool) (l : List Line) (d : Bool) (m : List Line) : equalLf_e c l d m = (bif Go.Ev.lenOK (List.length l) then bif Go.Ev.lenOK (List.length m) then bif (↑(List.length l) : Int) != (↑(List.length m) : Int) then Option.some (Go.Ev.D.bool Bool.false) else bif Go.Ev.lenOK (List.length l) then bif Decidable.decide ((↑(List.length l) : Int) = (↑(List.length l) : Int)) && Bool.true && Decidable.decide (List.length l ≤ (9223372036854775807 : Nat) ∧ List.length l = List.length m) then bif Decidable.decide (List.drop (0 : Nat) l = List.drop (0 : Nat) m) then Option.some (Go.Ev.D.bool Bool.true) else Option.some (Go.Ev.D.bool Bool.false) else Option.none else Option.none else Option.none else Option.none) := by kernel_rfl
theorem equalLf_ok (c : Bool) (l : List Line) (d : Bool) (m : List Line) (h : (lenOK l.length && lenOK m.length) = true) : equalLf_e c l d m = some (.bool (decide (l = m))) := by
  rw [equalLf_eq]
  simp only [Bool.and_eq_true] at h
  have h1 : l.length ≤ 9223372036854775807 := lenOK_le h.1
  simp only [h.1, h.2, cond_true]
  by_cases hl : l.length = m.length
  · have e1 : ((l.length : Int) != (m.length : Int)) = false := by simp [hl]
    have e2 : (l.length ≤ 9223372036854775807 ∧ l.length = m.length) := ⟨h1, hl⟩
    rw [e1, decide_eq_true e2]
    simp only [cond_true, cond_false, List.drop_zero]
    cases decide (l = m) <;> rfl
  · have e1 : ((l.length : Int) != (m.length : Int)) = true := by simp; omega
    have : ¬ l = m := fun e => hl (by rw [e])
    simp [e1, this]
noncomputable def uh_4 := uh_3.addSpec 51 equalLf_sp
theorem uh_4_laws : FLaws Try.prog s05 uh_4 := uh_3_laws.addEv s05_laws fun args d h => by
  unfold equalLf_sp at h
  split at h
  · unfold equalLf_s at h
    have h1 := congrArg Prod.fst (Option.some.inj h)
    obtain rfl : _ = d := congrArg Prod.snd (Option.some.inj h)
    exact ⟨by simp [D.refs], 40, equalLf_ok _ _ _ _ h1⟩
  · cases h
/-! ### loop equalI: slices.Equal[[]flume/api.Item,flume/api.Item], region 4 -/
structure equalI_St where
  c : Bool
  l : List Item
  d : Bool
  m : List Item
  i : Nat
def equalI_c (c : Bool) (l : List Item) (d : Bool) (m : List Item) (i : Nat) : Env RC := [(0, .sl (C := RC) .item c l), (1, .sl (C := RC) .item d m), (4, .bool false), (12, .int .i64 (l.length)), (13, .int .i64 (i : Int))]
def equalI_o (c : Bool) (l : List Item) (d : Bool) (m : List Item) (i : Nat) : List (Obj RC) := []
noncomputable def equalI_r (c : Bool) (l : List Item) (d : Bool) (m : List Item) (i : Nat) := rndO s05 uh_4 52 4 40 0 [0, 1, 4, 12, 13] [4] [] (equalI_c c l d m i) (equalI_o c l d m i)
theorem equalI_eq (c : Bool) (l : List Item) (d : Bool) (m : List Item) (i : Nat) : equalI_r c l d m i = (bif Decidable.decide ((↑i : Int) < (↑(List.length l) : Int)) then bif Decidable.decide ((0 : Int) ≤ (↑i : Int) ∧ (↑i : Int) < (↑(List.length l) : Int)) then bif Decidable.decide ((0 : Int) ≤ (↑i : Int) ∧ (↑i : Int) < (↑(List.length m) : Int)) then bif !(Go.Ev.Item.key (List.getD l (Int.toNat (↑i : Int)) (Go.Ev.Item.mk (0 : Int) (0 : Int) (0 : Int))) == Go.Ev.Item.key (List.getD m (Int.toNat (↑i : Int)) (Go.Ev.Item.mk (0 : Int) (0 : Int) (0 : Int))) && (Go.Ev.Item.place (List.getD l (Int.toNat (↑i : Int)) (Go.Ev.Item.mk (0 : Int) (0 : Int) (0 : Int))) == Go.Ev.Item.place (List.getD m (Int.toNat (↑i : Int)) (Go.Ev.Item.mk (0 : Int) (0 : Int) (0 : Int))) && (Go.Ev.Item.value (List.getD l (Int.toNat (↑i : Int)) (Go.Ev.Item.mk (0 : Int) (0 : Int) (0 : Int))) == Go.Ev.Item.value (List.getD m (Int.toNat (↑i : Int)) (Go.Ev.Item.mk (0 : Int) (0 : Int) (0 : Int))) && Bool.true))) then Option.some ((Go.Ev.X.ret, [((4 : Nat), Go.Ev.D.bool Bool.false)]), []) else Option.some ((Go.Ev.X.normal, [((0 : Nat), Go.Ev.D.sl Go.Ev.RTy.item c l), ((1 : Nat), Go.Ev.D.sl Go.Ev.RTy.item d m), ((4 : Nat), Go.Ev.D.bool Bool.false), ((12 : Nat), Go.Ev.D.int Go.IntKind.i64 (↑(List.length l) : Int)), ((13 : Nat), Go.Ev.D.int Go.IntKind.i64 (Go.IntKind.wrap Go.IntKind.i64 ((↑i : Int) + (1 : Int))))]), []) else Option.none else Option.none else Option.some ((Go.Ev.X.exit (0 : Nat), [((4 : Nat), Go.Ev.D.bool Bool.false)]), [])) := by kernel_rfl
def equalI_fin (c : Bool) (l : List Item) (d : Bool) (m : List Item) (i : Nat) : RT RC := .br (decide (l.drop i = m.drop i)) (.leaf (.exit 0) [(4, .bool false)] []) (.leaf .ret [(4, .bool false)] [])
def equalI_Inv (c : Bool) (l : List Item) (d : Bool) (m : List Item) (i : Nat) : Prop := i ≤ l.length ∧ l.length ≤ 9223372036854775807 ∧ l.length = m.length
def equalI_S : LoopR RC equalI_St where
  k := 0
  canon q := equalI_c q.c q.l q.d q.m q.i
  objs q := equalI_o q.c q.l q.d q.m q.i
  fin q := equalI_fin q.c q.l q.d q.m q.i
  Inv q := equalI_Inv q.c q.l q.d q.m q.i
  μ q := q.l.length - q.i
theorem equalI_round (c : Bool) (l : List Item) (d : Bool) (m : List Item) (i : Nat) (hI : equalI_Inv c l d m i) : Leaf (equalI_r c l d m i) (LedR equalI_S ⟨c, l, d, m, i⟩) := by
  rw [equalI_eq]
  unfold equalI_Inv at hI
  obtain ⟨h1, h2, h3⟩ := hI
  have hlk := lenOK_of h2
  by_cases hlt : i < l.length
  · have w_succ : IntKind.i64.wrap ((i : Int) + 1) = ((i + 1 : Nat) : Int) := by rw [wrap_id (by omega) (by omega)]; simp
    have d_lt : decide ((i : Int) < l.length) = true := by simp; omega
    have d_in : decide (0 ≤ (i : Int) ∧ (i : Int) < l.length) = true := by simp; omega
    have t_nat : ((i : Int)).toNat = i := by simp
    simp only [w_succ, d_lt, d_in, t_nat, cond_true]
    have hlt' : i < m.length := by omega
    have d_in' : decide (0 ≤ (i : Int) ∧ (i : Int) < m.length) = true := by simp; omega
    have hst := drops_step l m i (⟨0, 0, 0⟩ : Item) hlt h3
    simp only [d_in', cond_true, eqItem]
    generalize l.getD i (⟨0, 0, 0⟩ : Item) = x at hst ⊢
    generalize m.getD i (⟨0, 0, 0⟩ : Item) = y at hst ⊢
    by_cases hxy : x = y
    · simp only [hxy, decide_true, Bool.not_true, cond_false]
      exact leafR_go ⟨c, l, d, m, i + 1⟩ ⟨hlt, h2, h3⟩ (by simp only [equalI_S]; omega) (by simp only [equalI_S, equalI_fin, hst, hxy, decide_true, Bool.true_and]) rfl rfl
    · simp only [hxy, decide_false, Bool.not_false, cond_true]
      exact leafR_ret [] (by simp [equalI_S, equalI_fin, hst, hxy, RT.val]) rfl
  · have hi : i = l.length := by omega
    have c1 : decide ((i : Int) < l.length) = false := by simp; omega
    simp only [c1, cond_false]
    exact leafR_exit [] (by simp only [equalI_S, equalI_fin, drops_end l m i (by omega) (by omega), RT.val, cond_true]) rfl
def equalI_d (env : Env RC) (os : List (Obj RC)) : Option (Bool × equalI_St) := match env, os with
  | [(0, .sl .item c l), (1, .sl .item d m), (4, .bool false), (12, .int .i64 x0), (13, .int .i64 x1)], [] => staticD (true) (decide (x0 = l.length) && decide (x1 = 0) && decide (l.length ≤ 9223372036854775807 ∧ l.length = m.length), ⟨c, l, d, m, 0⟩)
  | _, _ => none
noncomputable def uh_5 := uh_4.addLoop 52 4 (sumR s05 [] [0, 1, 4, 12, 13] equalI_S equalI_d)
theorem uh_5_laws : FLaws Try.prog s05 uh_5 := by
  refine uh_4_laws.addRoundsR s05_laws (by kernel_rfl) equalI_S 40 [0, 1, 4, 12, 13] [4] [] [0, 1, 4, 12, 13] equalI_d (fun q hI => ?_) ?_
  · obtain ⟨c, l, d, m, i⟩ := q
    refine ⟨?_, ?_, equalI_round c l d m i hI⟩
    · simp_all [RefsOK, equalI_S, equalI_c, equalI_o, equalI_Inv, D.refs, Obj.refs, rEnc]
    · simp_all [equalI_S, equalI_fin, equalI_o, equalI_Inv, RT.refsOK, RefsOK, D.refs, Obj.refs, rEnc]
  · intro env os b q hd_ hb
    unfold equalI_d at hd_
    split at hd_
    · obtain ⟨hs, hd_⟩ := staticD_some hd_
      cases hd_
      simp only [Bool.and_eq_true, decide_eq_true_eq] at hb
      obtain ⟨⟨rfl, rfl⟩, hl⟩ := hb
      exact ⟨⟨Nat.zero_le _, hl.1, hl.2⟩, rfl, rfl⟩
    · cases hd_
/-! ### function equalIf: slices.Equal[[]flume/api.Item,flume/api.Item] -/
def equalIf_s (c : Bool) (l : List Item) (d : Bool) (m : List Item) : Option (Bool × D RC) := some (lenOK l.length && lenOK m.length, .bool (decide (l = m)))
def equalIf_sp : List (D RC) → Option (Bool × D RC)
  | [.sl .item c l, .sl .item d m] => equalIf_s c l d m
  | _ => none
noncomputable def equalIf_e (c : Bool) (l : List Item) (d : Bool) (m : List Item) := evF s05 uh_5 40 52 [.sl (C := RC) .item c l, .sl (C := RC) .item d m]
theorem equalIf_eq (c : Bool) (l : List Item) (d : Bool) (m : List Item) : equalIf_e c l d m = (bif Go.Ev.lenOK (List.length l) then bif Go.Ev.lenOK (List.length m) then bif (↑(List.length l) : Int) != (↑(List.length m) : Int) then Option.some (Go.Ev.D.bool Bool.false) else bif Go.Ev.lenOK (List.length l) then bif Decidable.decide ((↑(List.length l) : Int) = (↑(List.length l) : Int)) && Bool.true && Decidable.decide (List.length l ≤ (9223372036854775807 : Nat) ∧ List.length l = List.length m) then bif Decidable.decide (List.drop (0 : Nat) l = List.drop (0 : Nat) m) then Option.some (Go.Ev.D.bool Bool.true) else Option.some (Go.Ev.D.bool Bool.false) else Option.none else Option.none else Option.none else Option.none) := by kernel_rfl
theorem equalIf_ok (c : Bool) (l : List Item) (d : Bool) (m : List Item) (h : (lenOK l.length && lenOK m.length) = true) : equalIf_e c l d m = some (.bool (decide (l = m))) := by
  rw [equalIf_eq]
  simp only [Bool.and_eq_true] at h
  have h1 : l.length ≤ 9223372036854775807 := lenOK_le h.1
  simp only [h.1, h.2, cond_true]
  by_cases hl : l.length = m.length
  · have e1 : ((l.length : Int) != (m.length : Int)) = false := by simp [hl]
    have e2 : (l.length ≤ 9223372036854775807 ∧ l.length = m.length) := ⟨h1, hl⟩
    rw [e1, decide_eq_true e2]
    simp only [cond_true, cond_false, List.drop_zero]
    cases decide (l = m) <;> rfl
  · have e1 : ((l.length : Int) != (m.length : Int)) = true := by simp; omega
    have : ¬ l = m := fun e => hl (by rw [e])
    simp [e1, this]
noncomputable def uh_6 := uh_5.addSpec 52 equalIf_sp
theorem uh_6_laws : FLaws Try.prog s05 uh_6 := uh_5_laws.addEv s05_laws fun args d h => by
  unfold equalIf_sp at h
  split at h
  · unfold equalIf_s at h
    have h1 := congrArg Prod.fst (Option.some.inj h)
    obtain rfl : _ = d := congrArg Prod.snd (Option.some.inj h)
    exact ⟨by simp [D.refs], 40, equalIf_ok _ _ _ _ h1⟩
  · cases h
/-! ### loop sameLinesR: flume/flumeref05.SameLines, region 4 -/
structure sameLinesR_St where
  c : Bool
  l : List Line
  d : Bool
  m : List Line
  i : Nat
def sameLinesR_c (c : Bool) (l : List Line) (d : Bool) (m : List Line) (i : Nat) : Env RC := [(0, .sl (C := RC) .line c l), (1, .sl (C := RC) .line d m), (4, .bool false), (5, .int .i64 (i : Int))]
def sameLinesR_o (c : Bool) (l : List Line) (d : Bool) (m : List Line) (i : Nat) : List (Obj RC) := []
noncomputable def sameLinesR_r (c : Bool) (l : List Line) (d : Bool) (m : List Line) (i : Nat) := rndO s05 uh_6 46 4 40 0 [0, 1, 4, 5] [4] [] (sameLinesR_c c l d m i) (sameLinesR_o c l d m i)
theorem sameLinesR_eq (c : Bool) (l : List Line) (d : Bool) (m : List Line) (i : Nat) : sameLinesR_r c l d m i = (bif Go.Ev.lenOK (List.length l) then bif Decidable.decide ((↑i : Int) < (↑(List.length l) : Int)) then bif Decidable.decide ((0 : Int) ≤ (↑i : Int) ∧ (↑i : Int) < (↑(List.length l) : Int)) then bif Decidable.decide ((0 : Int) ≤ (↑i : Int) ∧ (↑i : Int) < (↑(List.length m) : Int)) then bif !(Go.Ev.Line.offset (List.getD l (Int.toNat (↑i : Int)) (Go.Ev.Line.mk (0 : Int) (0 : Int) (0 : Int) (0 : Int) (0 : Int))) == Go.Ev.Line.offset (List.getD m (Int.toNat (↑i : Int)) (Go.Ev.Line.mk (0 : Int) (0 : Int) (0 : Int) (0 : Int) (0 : Int))) && (Go.Ev.Line.place (List.getD l (Int.toNat (↑i : Int)) (Go.Ev.Line.mk (0 : Int) (0 : Int) (0 : Int) (0 : Int) (0 : Int))) == Go.Ev.Line.place (List.getD m (Int.toNat (↑i : Int)) (Go.Ev.Line.mk (0 : Int) (0 : Int) (0 : Int) (0 : Int) (0 : Int))) && (Go.Ev.Line.j (List.getD l (Int.toNat (↑i : Int)) (Go.Ev.Line.mk (0 : Int) (0 : Int) (0 : Int) (0 : Int) (0 : Int))) == Go.Ev.Line.j (List.getD m (Int.toNat (↑i : Int)) (Go.Ev.Line.mk (0 : Int) (0 : Int) (0 : Int) (0 : Int) (0 : Int))) && (Go.Ev.Line.key (List.getD l (Int.toNat (↑i : Int)) (Go.Ev.Line.mk (0 : Int) (0 : Int) (0 : Int) (0 : Int) (0 : Int))) == Go.Ev.Line.key (List.getD m (Int.toNat (↑i : Int)) (Go.Ev.Line.mk (0 : Int) (0 : Int) (0 : Int) (0 : Int) (0 : Int))) && (Go.Ev.Line.value (List.getD l (Int.toNat (↑i : Int)) (Go.Ev.Line.mk (0 : Int) (0 : Int) (0 : Int) (0 : Int) (0 : Int))) == Go.Ev.Line.value (List.getD m (Int.toNat (↑i : Int)) (Go.Ev.Line.mk (0 : Int) (0 : Int) (0 : Int) (0 : Int) (0 : Int))) && Bool.true))))) then Option.some ((Go.Ev.X.ret, [((4 : Nat), Go.Ev.D.bool Bool.false)]), []) else Option.some ((Go.Ev.X.normal, [((0 : Nat), Go.Ev.D.sl Go.Ev.RTy.line c l), ((1 : Nat), Go.Ev.D.sl Go.Ev.RTy.line d m), ((4 : Nat), Go.Ev.D.bool Bool.false), ((5 : Nat), Go.Ev.D.int Go.IntKind.i64 (Go.IntKind.wrap Go.IntKind.i64 ((↑i : Int) + (1 : Int))))]), []) else Option.none else Option.none else Option.some ((Go.Ev.X.exit (0 : Nat), [((4 : Nat), Go.Ev.D.bool Bool.false)]), []) else Option.none) := by kernel_rfl
def sameLinesR_fin (c : Bool) (l : List Line) (d : Bool) (m : List Line) (i : Nat) : RT RC := .br (decide (l.drop i = m.drop i)) (.leaf (.exit 0) [(4, .bool false)] []) (.leaf .ret [(4, .bool false)] [])
def sameLinesR_Inv (c : Bool) (l : List Line) (d : Bool) (m : List Line) (i : Nat) : Prop := i ≤ l.length ∧ l.length ≤ 9223372036854775807 ∧ l.length = m.length
def sameLinesR_S : LoopR RC sameLinesR_St where
  k := 0
  canon q := sameLinesR_c q.c q.l q.d q.m q.i
  objs q := sameLinesR_o q.c q.l q.d q.m q.i
  fin q := sameLinesR_fin q.c q.l q.d q.m q.i
  Inv q := sameLinesR_Inv q.c q.l q.d q.m q.i
  μ q := q.l.length - q.i
theorem sameLinesR_round (c : Bool) (l : List Line) (d : Bool) (m : List Line) (i : Nat) (hI : sameLinesR_Inv c l d m i) : Leaf (sameLinesR_r c l d m i) (LedR sameLinesR_S ⟨c, l, d, m, i⟩) := by
  rw [sameLinesR_eq]
  unfold sameLinesR_Inv at hI
  obtain ⟨h1, h2, h3⟩ := hI
  have hlk := lenOK_of h2
  by_cases hlt : i < l.length
  · have w_succ : IntKind.i64.wrap ((i : Int) + 1) = ((i + 1 : Nat) : Int) := by rw [wrap_id (by omega) (by omega)]; simp
    have d_lt : decide ((i : Int) < l.length) = true := by simp; omega
    have d_in : decide (0 ≤ (i : Int) ∧ (i : Int) < l.length) = true := by simp; omega
    have t_nat : ((i : Int)).toNat = i := by simp
    simp only [w_succ, d_lt, d_in, t_nat, cond_true]
    have hlt' : i < m.length := by omega
    have d_in' : decide (0 ≤ (i : Int) ∧ (i : Int) < m.length) = true := by simp; omega
    have hst := drops_step l m i (⟨0, 0, 0, 0, 0⟩ : Line) hlt h3
    simp only [d_in', cond_true, hlk, eqLine]
    generalize l.getD i (⟨0, 0, 0, 0, 0⟩ : Line) = x at hst ⊢
    generalize m.getD i (⟨0, 0, 0, 0, 0⟩ : Line) = y at hst ⊢
    by_cases hxy : x = y
    · simp only [hxy, decide_true, Bool.not_true, cond_false]
      exact leafR_go ⟨c, l, d, m, i + 1⟩ ⟨hlt, h2, h3⟩ (by simp only [sameLinesR_S]; omega) (by simp only [sameLinesR_S, sameLinesR_fin, hst, hxy, decide_true, Bool.true_and]) rfl rfl
    · simp only [hxy, decide_false, Bool.not_false, cond_true]
      exact leafR_ret [] (by simp [sameLinesR_S, sameLinesR_fin, hst, hxy, RT.val]) rfl
  · have hi : i = l.length := by omega
    have c1 : decide ((i : Int) < l.length) = false := by simp; omega
    simp only [hlk, cond_true, c1, cond_false]
    exact leafR_exit [] (by simp only [sameLinesR_S, sameLinesR_fin, drops_end l m i (by omega) (by omega), RT.val, cond_true]) rfl
def sameLinesR_d (env : Env RC) (os : List (Obj RC)) : Option (Bool × sameLinesR_St) := match env, os with
  | [(0, .sl .line c l), (1, .sl .line d m), (4, .bool false), (5, .int .i64 x0)], [] => staticD (true) (decide (x0 = 0) && decide (l.length ≤ 9223372036854775807 ∧ l.length = m.length), ⟨c, l, d, m, 0⟩)
  | _, _ => none
noncomputable def uh_7 := uh_6.addLoop 46 4 (sumR s05 [] [0, 1, 4, 5] sameLinesR_S sameLinesR_d)
theorem uh_7_laws : FLaws Try.prog s05 uh_7 := by
  refine uh_6_laws.addRoundsR s05_laws (by kernel_rfl) sameLinesR_S 40 [0, 1, 4, 5] [4] [] [0, 1, 4, 5] sameLinesR_d (fun q hI => ?_) ?_
  · obtain ⟨c, l, d, m, i⟩ := q
    refine ⟨?_, ?_, sameLinesR_round c l d m i hI⟩
    · simp_all [RefsOK, sameLinesR_S, sameLinesR_c, sameLinesR_o, sameLinesR_Inv, D.refs, Obj.refs, rEnc]
    · simp_all [sameLinesR_S, sameLinesR_fin, sameLinesR_o, sameLinesR_Inv, RT.refsOK, RefsOK, D.refs, Obj.refs, rEnc]
  · intro env os b q hd_ hb
    unfold sameLinesR_d at hd_
    split at hd_
    · obtain ⟨hs, hd_⟩ := staticD_some hd_
      cases hd_
      simp only [Bool.and_eq_true, decide_eq_true_eq] at hb
      obtain ⟨rfl, hl⟩ := hb
      exact ⟨⟨Nat.zero_le _, hl.1, hl.2⟩, rfl, rfl⟩
    · cases hd_
/-! ### function sameLinesRf: flume/flumeref05.SameLines -/
def sameLinesRf_s (c : Bool) (l : List Line) (d : Bool) (m : List Line) : Option (Bool × D RC) := some (lenOK l.length && lenOK m.length, .bool (decide (l = m)))
def sameLinesRf_sp : List (D RC) → Option (Bool × D RC)
  | [.sl .line c l, .sl .line d m] => sameLinesRf_s c l d m
  | _ => none
noncomputable def sameLinesRf_e (c : Bool) (l : List Line) (d : Bool) (m : List Line) := evF s05 uh_7 40 46 [.sl (C := RC) .line c l, .sl (C := RC) .line d m]
theorem sameLinesRf_eq (c : Bool) (l : List Line) (d : Bool) (m : List Line) : sameLinesRf_e c l d m = (bif Go.Ev.lenOK (List.length l) then bif Go.Ev.lenOK (List.length m) then bif (↑(List.length l) : Int) != (↑(List.length m) : Int) then Option.some (Go.Ev.D.bool Bool.false) else bif Decidable.decide (List.length l ≤ (9223372036854775807 : Nat) ∧ List.length l = List.length m) then bif Decidable.decide (List.drop (0 : Nat) l = List.drop (0 : Nat) m) then Option.some (Go.Ev.D.bool Bool.true) else Option.some (Go.Ev.D.bool Bool.false) else Option.none else Option.none else Option.none) := by kernel_rfl
theorem sameLinesRf_ok (c : Bool) (l : List Line) (d : Bool) (m : List Line) (h : (lenOK l.length && lenOK m.length) = true) : sameLinesRf_e c l d m = some (.bool (decide (l = m))) := by
  rw [sameLinesRf_eq]
  simp only [Bool.and_eq_true] at h
  have h1 : l.length ≤ 9223372036854775807 := lenOK_le h.1
  simp only [h.1, h.2, cond_true]
  by_cases hl : l.length = m.length
  · have e1 : ((l.length : Int) != (m.length : Int)) = false := by simp [hl]
    have e2 : (l.length ≤ 9223372036854775807 ∧ l.length = m.length) := ⟨h1, hl⟩
    rw [e1, decide_eq_true e2]
    simp only [cond_true, cond_false, List.drop_zero]
    cases decide (l = m) <;> rfl
  · have e1 : ((l.length : Int) != (m.length : Int)) = true := by simp; omega
    have : ¬ l = m := fun e => hl (by rw [e])
    simp [e1, this]
noncomputable def uh_8 := uh_7.addSpec 46 sameLinesRf_sp
theorem uh_8_laws : FLaws Try.prog s05 uh_8 := uh_7_laws.addEv s05_laws fun args d h => by
  unfold sameLinesRf_sp at h
  split at h
  · unfold sameLinesRf_s at h
    have h1 := congrArg Prod.fst (Option.some.inj h)
    obtain rfl : _ = d := congrArg Prod.snd (Option.some.inj h)
    exact ⟨by simp [D.refs], 40, sameLinesRf_ok _ _ _ _ h1⟩
  · cases h
/-! ### function sameP: flume/record.Same -/
def sameP_s (p : Int) (y : Bool) (c : Bool) (l : List Write) (q : Int) (z : Bool) (d : Bool) (m : List Write) : Option (Bool × D RC) := some (lenOK l.length && lenOK m.length, .bool (decide ((⟨p, y, l⟩ : Rec) = ⟨q, z, m⟩)))
def sameP_sp : List (D RC) → Option (Bool × D RC)
  | [.acons (.int .i64 p) (.acons (.bool y) (.acons (.sl .write c l) .anil)), .acons (.int .i64 q) (.acons (.bool z) (.acons (.sl .write d m) .anil))] => sameP_s p y c l q z d m
  | _ => none
noncomputable def sameP_e (p : Int) (y : Bool) (c : Bool) (l : List Write) (q : Int) (z : Bool) (d : Bool) (m : List Write) := evF s05 uh_8 40 29 [.acons (.int .i64 p) (.acons (.bool y) (.acons (.sl (C := RC) .write c l) .anil)), .acons (.int .i64 q) (.acons (.bool z) (.acons (.sl (C := RC) .write d m) .anil))]
theorem sameP_eq (p : Int) (y : Bool) (c : Bool) (l : List Write) (q : Int) (z : Bool) (d : Bool) (m : List Write) : sameP_e p y c l q z d m = (bif p == q then bif y == z then bif Go.Ev.lenOK (List.length l) && Go.Ev.lenOK (List.length m) then Option.some (Go.Ev.D.bool (Decidable.decide (l = m))) else Option.none else Option.some (Go.Ev.D.bool Bool.false) else Option.some (Go.Ev.D.bool Bool.false)) := by kernel_rfl
theorem sameP_ok (p : Int) (y : Bool) (c : Bool) (l : List Write) (q : Int) (z : Bool) (d : Bool) (m : List Write) (h : (lenOK l.length && lenOK m.length) = true) : sameP_e p y c l q z d m = some (.bool (decide ((⟨p, y, l⟩ : Rec) = ⟨q, z, m⟩))) := by
  rw [sameP_eq]
  simp only [h, cond_true]
  by_cases h1 : p = q <;> by_cases h2 : y = z <;> by_cases h3 : l = m <;> simp [h1, h2, h3, bne, beqD]
noncomputable def uh_9 := uh_8.addSpec 29 sameP_sp
theorem uh_9_laws : FLaws Try.prog s05 uh_9 := uh_8_laws.addEv s05_laws fun args d h => by
  unfold sameP_sp at h
  split at h
  · unfold sameP_s at h
    have h1 := congrArg Prod.fst (Option.some.inj h)
    obtain rfl : _ = d := congrArg Prod.snd (Option.some.inj h)
    exact ⟨by simp [D.refs], 40, sameP_ok _ _ _ _ _ _ _ _ h1⟩
  · cases h
/-! ### function sameStP: flume/record.SameState -/
def sameStP_s (p : Int) (ci : Bool) (items : List Item) (k0 : Bool) (k1 : Bool) (k2 : Bool) (l0 : List Line) (l1 : List Line) (l2 : List Line) (c0 : Int) (c1 : Int) (c2 : Int) (q : Int) (di : Bool) (jtems : List Item) (j0 : Bool) (j1 : Bool) (j2 : Bool) (m0 : List Line) (m1 : List Line) (m2 : List Line) (d0 : Int) (d1 : Int) (d2 : Int) : Option (Bool × D RC) := some (lenOK items.length && lenOK jtems.length && (lenOK l0.length && lenOK m0.length) && (lenOK l1.length && lenOK m1.length) && (lenOK l2.length && lenOK m2.length), .bool (decide ((⟨p, items, l0, l1, l2, c0, c1, c2⟩ : St) = ⟨q, jtems, m0, m1, m2, d0, d1, d2⟩)))
def sameStP_sp : List (D RC) → Option (Bool × D RC)
  | [.acons (.int .i64 p) (.acons (.sl .item ci items) (.acons (.acons (.sl .line k0 l0) (.acons (.sl .line k1 l1) (.acons (.sl .line k2 l2) .anil))) (.acons (.arr .int 3 [c0, c1, c2]) .anil))), .acons (.int .i64 q) (.acons (.sl .item di jtems) (.acons (.acons (.sl .line j0 m0) (.acons (.sl .line j1 m1) (.acons (.sl .line j2 m2) .anil))) (.acons (.arr .int 3 [d0, d1, d2]) .anil)))] => sameStP_s p ci items k0 k1 k2 l0 l1 l2 c0 c1 c2 q di jtems j0 j1 j2 m0 m1 m2 d0 d1 d2
  | _ => none
noncomputable def sameStP_e (p : Int) (ci : Bool) (items : List Item) (k0 : Bool) (k1 : Bool) (k2 : Bool) (l0 : List Line) (l1 : List Line) (l2 : List Line) (c0 : Int) (c1 : Int) (c2 : Int) (q : Int) (di : Bool) (jtems : List Item) (j0 : Bool) (j1 : Bool) (j2 : Bool) (m0 : List Line) (m1 : List Line) (m2 : List Line) (d0 : Int) (d1 : Int) (d2 : Int) := evF s05 uh_9 40 30 [.acons (.int .i64 p) (.acons (.sl (C := RC) .item ci items) (.acons (.acons (.sl (C := RC) .line k0 l0) (.acons (.sl (C := RC) .line k1 l1) (.acons (.sl (C := RC) .line k2 l2) .anil))) (.acons (.arr (C := RC) .int 3 [c0, c1, c2]) .anil))), .acons (.int .i64 q) (.acons (.sl (C := RC) .item di jtems) (.acons (.acons (.sl (C := RC) .line j0 m0) (.acons (.sl (C := RC) .line j1 m1) (.acons (.sl (C := RC) .line j2 m2) .anil))) (.acons (.arr (C := RC) .int 3 [d0, d1, d2]) .anil)))]
theorem sameStP_eq (p : Int) (ci : Bool) (items : List Item) (k0 : Bool) (k1 : Bool) (k2 : Bool) (l0 : List Line) (l1 : List Line) (l2 : List Line) (c0 : Int) (c1 : Int) (c2 : Int) (q : Int) (di : Bool) (jtems : List Item) (j0 : Bool) (j1 : Bool) (j2 : Bool) (m0 : List Line) (m1 : List Line) (m2 : List Line) (d0 : Int) (d1 : Int) (d2 : Int) : sameStP_e p ci items k0 k1 k2 l0 l1 l2 c0 c1 c2 q di jtems j0 j1 j2 m0 m1 m2 d0 d1 d2 = (bif Go.Ev.lenOK (List.length l0) && Go.Ev.lenOK (List.length m0) then bif !Decidable.decide (l0 = m0) then Option.some (Go.Ev.D.bool Bool.false) else bif Go.Ev.lenOK (List.length l1) && Go.Ev.lenOK (List.length m1) then bif !Decidable.decide (l1 = m1) then Option.some (Go.Ev.D.bool Bool.false) else bif Go.Ev.lenOK (List.length l2) && Go.Ev.lenOK (List.length m2) then bif !Decidable.decide (l2 = m2) then Option.some (Go.Ev.D.bool Bool.false) else bif p == q then bif c0 == d0 && (c1 == d1 && (c2 == d2 && Bool.true)) then bif Go.Ev.lenOK (List.length items) && Go.Ev.lenOK (List.length jtems) then Option.some (Go.Ev.D.bool (Decidable.decide (items = jtems))) else Option.none else Option.some (Go.Ev.D.bool Bool.false) else Option.some (Go.Ev.D.bool Bool.false) else Option.none else Option.none else Option.none) := by kernel_rfl
theorem sameStP_ok (p : Int) (ci : Bool) (items : List Item) (k0 : Bool) (k1 : Bool) (k2 : Bool) (l0 : List Line) (l1 : List Line) (l2 : List Line) (c0 : Int) (c1 : Int) (c2 : Int) (q : Int) (di : Bool) (jtems : List Item) (j0 : Bool) (j1 : Bool) (j2 : Bool) (m0 : List Line) (m1 : List Line) (m2 : List Line) (d0 : Int) (d1 : Int) (d2 : Int) (h : (lenOK items.length && lenOK jtems.length && (lenOK l0.length && lenOK m0.length) && (lenOK l1.length && lenOK m1.length) && (lenOK l2.length && lenOK m2.length)) = true) : sameStP_e p ci items k0 k1 k2 l0 l1 l2 c0 c1 c2 q di jtems j0 j1 j2 m0 m1 m2 d0 d1 d2 = some (.bool (decide ((⟨p, items, l0, l1, l2, c0, c1, c2⟩ : St) = ⟨q, jtems, m0, m1, m2, d0, d1, d2⟩))) := by
  rw [sameStP_eq]
  simp only [Bool.and_eq_true] at h
  obtain ⟨⟨⟨⟨a1, a2⟩, b1, b2⟩, b3, b4⟩, b5, b6⟩ := h
  simp only [a1, a2, b1, b2, b3, b4, b5, b6, Bool.and_true, cond_true]
  by_cases h1 : l0 = m0 <;> by_cases h2 : l1 = m1 <;> by_cases h3 : l2 = m2 <;> by_cases h4 : p = q <;> by_cases h5 : c0 = d0 <;> by_cases h6 : c1 = d1 <;> by_cases h7 : c2 = d2 <;> by_cases h8 : items = jtems <;> simp [h1, h2, h3, h4, h5, h6, h7, h8, bne, beqD]
noncomputable def uh_10 := uh_9.addSpec 30 sameStP_sp
theorem uh_10_laws : FLaws Try.prog s05 uh_10 := uh_9_laws.addEv s05_laws fun args d h => by
  unfold sameStP_sp at h
  split at h
  · unfold sameStP_s at h
    have h1 := congrArg Prod.fst (Option.some.inj h)
    obtain rfl : _ = d := congrArg Prod.snd (Option.some.inj h)
    exact ⟨by simp [D.refs], 40, sameStP_ok _ _ _ _ _ _ _ _ _ _ _ _ _ _ _ _ _ _ _ _ _ _ _ _ h1⟩
  · cases h
/-! ### loop sameRl: flume/flumeref05.Same, region 4 -/
structure sameRl_St where
  p : Int
  y : Bool
  c : Bool
  l : List Write
  q : Int
  z : Bool
  d : Bool
  m : List Write
  i : Nat
def sameRl_c (p : Int) (y : Bool) (c : Bool) (l : List Write) (q : Int) (z : Bool) (d : Bool) (m : List Write) (i : Nat) : Env RC := [(2, .ptr 0 []), (3, .ptr 1 []), (4, .bool false), (5, .int .i64 (i : Int))]
def sameRl_o (p : Int) (y : Bool) (c : Bool) (l : List Write) (q : Int) (z : Bool) (d : Bool) (m : List Write) (i : Nat) : List (Obj RC) := [.var 27 (.acons (.int .i64 p) (.acons (.bool y) (.acons (.sl (C := RC) .write c l) .anil))), .var 27 (.acons (.int .i64 q) (.acons (.bool z) (.acons (.sl (C := RC) .write d m) .anil)))]
noncomputable def sameRl_r (p : Int) (y : Bool) (c : Bool) (l : List Write) (q : Int) (z : Bool) (d : Bool) (m : List Write) (i : Nat) := rndO s05 uh_10 21 4 40 2 [2, 3, 4, 5] [4] [.slot 2 0, .slot 3 0] (sameRl_c p y c l q z d m i) (sameRl_o p y c l q z d m i)
theorem sameRl_eq (p : Int) (y : Bool) (c : Bool) (l : List Write) (q : Int) (z : Bool) (d : Bool) (m : List Write) (i : Nat) : sameRl_r p y c l q z d m i = (bif Go.Ev.lenOK (List.length l) then bif Decidable.decide ((↑i : Int) < (↑(List.length l) : Int)) then bif Decidable.decide ((0 : Int) ≤ (↑i : Int) ∧ (↑i : Int) < (↑(List.length l) : Int)) then bif Decidable.decide ((0 : Int) ≤ (↑i : Int) ∧ (↑i : Int) < (↑(List.length m) : Int)) then bif !(Go.Ev.Write.key (List.getD l (Int.toNat (↑i : Int)) (Go.Ev.Write.mk (0 : Int) (0 : Int))) == Go.Ev.Write.key (List.getD m (Int.toNat (↑i : Int)) (Go.Ev.Write.mk (0 : Int) (0 : Int))) && (Go.Ev.Write.value (List.getD l (Int.toNat (↑i : Int)) (Go.Ev.Write.mk (0 : Int) (0 : Int))) == Go.Ev.Write.value (List.getD m (Int.toNat (↑i : Int)) (Go.Ev.Write.mk (0 : Int) (0 : Int))) && Bool.true)) then Option.some ((Go.Ev.X.ret, [((4 : Nat), Go.Ev.D.bool Bool.false)]), [Option.some (Go.Ev.Obj.var (27 : Nat) (Go.Ev.D.acons (Go.Ev.D.int Go.IntKind.i64 p) (Go.Ev.D.acons (Go.Ev.D.bool y) (Go.Ev.D.acons (Go.Ev.D.sl Go.Ev.RTy.write c l) Go.Ev.D.anil)))), Option.some (Go.Ev.Obj.var (27 : Nat) (Go.Ev.D.acons (Go.Ev.D.int Go.IntKind.i64 q) (Go.Ev.D.acons (Go.Ev.D.bool z) (Go.Ev.D.acons (Go.Ev.D.sl Go.Ev.RTy.write d m) Go.Ev.D.anil))))]) else Option.some ((Go.Ev.X.normal, [((2 : Nat), Go.Ev.D.ptr (0 : Nat) []), ((3 : Nat), Go.Ev.D.ptr (1 : Nat) []), ((4 : Nat), Go.Ev.D.bool Bool.false), ((5 : Nat), Go.Ev.D.int Go.IntKind.i64 (Go.IntKind.wrap Go.IntKind.i64 ((↑i : Int) + (1 : Int))))]), [Option.some (Go.Ev.Obj.var (27 : Nat) (Go.Ev.D.acons (Go.Ev.D.int Go.IntKind.i64 p) (Go.Ev.D.acons (Go.Ev.D.bool y) (Go.Ev.D.acons (Go.Ev.D.sl Go.Ev.RTy.write c l) Go.Ev.D.anil)))), Option.some (Go.Ev.Obj.var (27 : Nat) (Go.Ev.D.acons (Go.Ev.D.int Go.IntKind.i64 q) (Go.Ev.D.acons (Go.Ev.D.bool z) (Go.Ev.D.acons (Go.Ev.D.sl Go.Ev.RTy.write d m) Go.Ev.D.anil))))]) else Option.none else Option.none else Option.some ((Go.Ev.X.exit (0 : Nat), [((4 : Nat), Go.Ev.D.bool Bool.false)]), [Option.some (Go.Ev.Obj.var (27 : Nat) (Go.Ev.D.acons (Go.Ev.D.int Go.IntKind.i64 p) (Go.Ev.D.acons (Go.Ev.D.bool y) (Go.Ev.D.acons (Go.Ev.D.sl Go.Ev.RTy.write c l) Go.Ev.D.anil)))), Option.some (Go.Ev.Obj.var (27 : Nat) (Go.Ev.D.acons (Go.Ev.D.int Go.IntKind.i64 q) (Go.Ev.D.acons (Go.Ev.D.bool z) (Go.Ev.D.acons (Go.Ev.D.sl Go.Ev.RTy.write d m) Go.Ev.D.anil))))]) else Option.none) := by kernel_rfl
def sameRl_fin (p : Int) (y : Bool) (c : Bool) (l : List Write) (q : Int) (z : Bool) (d : Bool) (m : List Write) (i : Nat) : RT RC := .br (decide (l.drop i = m.drop i)) (.leaf (.exit 0) [(4, .bool false)] (sameRl_o p y c l q z d m i)) (.leaf .ret [(4, .bool false)] (sameRl_o p y c l q z d m i))
def sameRl_Inv (p : Int) (y : Bool) (c : Bool) (l : List Write) (q : Int) (z : Bool) (d : Bool) (m : List Write) (i : Nat) : Prop := i ≤ l.length ∧ l.length ≤ 9223372036854775807 ∧ l.length = m.length
def sameRl_S : LoopR RC sameRl_St where
  k := 2
  canon q := sameRl_c q.p q.y q.c q.l q.q q.z q.d q.m q.i
  objs q := sameRl_o q.p q.y q.c q.l q.q q.z q.d q.m q.i
  fin q := sameRl_fin q.p q.y q.c q.l q.q q.z q.d q.m q.i
  Inv q := sameRl_Inv q.p q.y q.c q.l q.q q.z q.d q.m q.i
  μ q := q.l.length - q.i
theorem sameRl_round (p : Int) (y : Bool) (c : Bool) (l : List Write) (q : Int) (z : Bool) (d : Bool) (m : List Write) (i : Nat) (hI : sameRl_Inv p y c l q z d m i) : Leaf (sameRl_r p y c l q z d m i) (LedR sameRl_S ⟨p, y, c, l, q, z, d, m, i⟩) := by
  rw [sameRl_eq]
  unfold sameRl_Inv at hI
  obtain ⟨h1, h2, h3⟩ := hI
  have hlk := lenOK_of h2
  by_cases hlt : i < l.length
  · have w_succ : IntKind.i64.wrap ((i : Int) + 1) = ((i + 1 : Nat) : Int) := by rw [wrap_id (by omega) (by omega)]; simp
    have d_lt : decide ((i : Int) < l.length) = true := by simp; omega
    have d_in : decide (0 ≤ (i : Int) ∧ (i : Int) < l.length) = true := by simp; omega
    have t_nat : ((i : Int)).toNat = i := by simp
    simp only [w_succ, d_lt, d_in, t_nat, cond_true]
    have hlt' : i < m.length := by omega
    have d_in' : decide (0 ≤ (i : Int) ∧ (i : Int) < m.length) = true := by simp; omega
    have hst := drops_step l m i (⟨0, 0⟩ : Write) hlt h3
    simp only [d_in', cond_true, hlk, eqWrite]
    generalize l.getD i (⟨0, 0⟩ : Write) = x at hst ⊢
    generalize m.getD i (⟨0, 0⟩ : Write) = w at hst ⊢
    by_cases hxy : x = w
    · simp only [hxy, decide_true, Bool.not_true, cond_false]
      exact leafR_go ⟨p, y, c, l, q, z, d, m, i + 1⟩ ⟨hlt, h2, h3⟩ (by simp only [sameRl_S]; omega) (by simp only [sameRl_S, sameRl_fin, sameRl_o, hst, hxy, decide_true, Bool.true_and]) rfl rfl
    · simp only [hxy, decide_false, Bool.not_false, cond_true]
      exact leafR_ret (sameRl_o p y c l q z d m i) (by simp [sameRl_S, sameRl_fin, hst, hxy, RT.val]) rfl
  · have hi : i = l.length := by omega
    have c1 : decide ((i : Int) < l.length) = false := by simp; omega
    simp only [hlk, cond_true, c1, cond_false]
    exact leafR_exit (sameRl_o p y c l q z d m i) (by simp only [sameRl_S, sameRl_fin, drops_end l m i (by omega) (by omega), RT.val, cond_true]) rfl
def sameRl_d (env : Env RC) (os : List (Obj RC)) : Option (Bool × sameRl_St) := match env, os with
  | [(2, .ptr 0 []), (3, .ptr 1 []), (4, .bool false), (5, .int .i64 x0)], [.var 27 (.acons (.int .i64 p) (.acons (.bool y) (.acons (.sl .write c l) .anil))), .var 27 (.acons (.int .i64 q) (.acons (.bool z) (.acons (.sl .write d m) .anil)))] => staticD (true) (decide (x0 = 0) && decide (l.length ≤ 9223372036854775807 ∧ l.length = m.length), ⟨p, y, c, l, q, z, d, m, 0⟩)
  | _, _ => none
noncomputable def uh_11 := uh_10.addLoop 21 4 (sumR s05 [.slot 2 0, .slot 3 0] [2, 3, 4, 5] sameRl_S sameRl_d)
theorem uh_11_laws : FLaws Try.prog s05 uh_11 := by
  refine uh_10_laws.addRoundsR s05_laws (by kernel_rfl) sameRl_S 40 [2, 3, 4, 5] [4] [.slot 2 0, .slot 3 0] [2, 3, 4, 5] sameRl_d (fun q hI => ?_) ?_
  · obtain ⟨p, y, c, l, q, z, d, m, i⟩ := q
    refine ⟨?_, ?_, sameRl_round p y c l q z d m i hI⟩
    · simp_all [RefsOK, sameRl_S, sameRl_c, sameRl_o, sameRl_Inv, D.refs, Obj.refs, rEnc]
    · simp_all [sameRl_S, sameRl_fin, sameRl_o, sameRl_Inv, RT.refsOK, RefsOK, D.refs, Obj.refs, rEnc]
  · intro env os b q hd_ hb
    unfold sameRl_d at hd_
    split at hd_
    · obtain ⟨hs, hd_⟩ := staticD_some hd_
      cases hd_
      simp only [Bool.and_eq_true, decide_eq_true_eq] at hb
      obtain ⟨rfl, hl⟩ := hb
      exact ⟨⟨Nat.zero_le _, hl.1, hl.2⟩, rfl, rfl⟩
    · cases hd_
/-! ### function sameR: flume/flumeref05.Same -/
def sameR_s (p : Int) (y : Bool) (c : Bool) (l : List Write) (q : Int) (z : Bool) (d : Bool) (m : List Write) : Option (Bool × D RC) := some (lenOK l.length && lenOK m.length, .bool (decide ((⟨p, y, l⟩ : Rec) = ⟨q, z, m⟩)))
def sameR_sp : List (D RC) → Option (Bool × D RC)
  | [.acons (.int .i64 p) (.acons (.bool y) (.acons (.sl .write c l) .anil)), .acons (.int .i64 q) (.acons (.bool z) (.acons (.sl .write d m) .anil))] => sameR_s p y c l q z d m
  | _ => none
noncomputable def sameR_e (p : Int) (y : Bool) (c : Bool) (l : List Write) (q : Int) (z : Bool) (d : Bool) (m : List Write) := evF s05 uh_11 40 21 [.acons (.int .i64 p) (.acons (.bool y) (.acons (.sl (C := RC) .write c l) .anil)), .acons (.int .i64 q) (.acons (.bool z) (.acons (.sl (C := RC) .write d m) .anil))]
theorem sameR_eq (p : Int) (y : Bool) (c : Bool) (l : List Write) (q : Int) (z : Bool) (d : Bool) (m : List Write) : sameR_e p y c l q z d m = (bif p != q then Option.some (Go.Ev.D.bool Bool.false) else bif !y == z then Option.some (Go.Ev.D.bool Bool.false) else bif Go.Ev.lenOK (List.length l) then bif Go.Ev.lenOK (List.length m) then bif (↑(List.length l) : Int) != (↑(List.length m) : Int) then Option.some (Go.Ev.D.bool Bool.false) else bif Decidable.decide (List.length l ≤ (9223372036854775807 : Nat) ∧ List.length l = List.length m) then bif Decidable.decide (List.drop (0 : Nat) l = List.drop (0 : Nat) m) then Option.some (Go.Ev.D.bool Bool.true) else Option.some (Go.Ev.D.bool Bool.false) else Option.none else Option.none else Option.none) := by kernel_rfl
theorem sameR_ok (p : Int) (y : Bool) (c : Bool) (l : List Write) (q : Int) (z : Bool) (d : Bool) (m : List Write) (h : (lenOK l.length && lenOK m.length) = true) : sameR_e p y c l q z d m = some (.bool (decide ((⟨p, y, l⟩ : Rec) = ⟨q, z, m⟩))) := by
  rw [sameR_eq]
  simp only [Bool.and_eq_true] at h
  have hl := lenOK_le h.1
  simp only [h.1, h.2, cond_true]
  by_cases h0 : l.length = m.length
  · have e1 : ((l.length : Int) != (m.length : Int)) = false := by simp [h0]
    have e2 : (l.length ≤ 9223372036854775807 ∧ l.length = m.length) := ⟨hl, h0⟩
    rw [e1, decide_eq_true e2]
    by_cases h1 : p = q <;> by_cases h2 : y = z <;> by_cases h3 : l = m <;> simp [h1, h2, h3, bne, beqD]
  · have e1 : ((l.length : Int) != (m.length : Int)) = true := by simp; omega
    have h3 : ¬ l = m := fun e => h0 (by rw [e])
    rw [e1]
    by_cases h1 : p = q <;> by_cases h2 : y = z <;> simp [h1, h2, h3, bne, beqD]
noncomputable def uh_12 := uh_11.addSpec 21 sameR_sp
theorem uh_12_laws : FLaws Try.prog s05 uh_12 := uh_11_laws.addEv s05_laws fun args d h => by
  unfold sameR_sp at h
  split at h
  · unfold sameR_s at h
    have h1 := congrArg Prod.fst (Option.some.inj h)
    obtain rfl : _ = d := congrArg Prod.snd (Option.some.inj h)
    exact ⟨by simp [D.refs], 40, sameR_ok _ _ _ _ _ _ _ _ h1⟩
  · cases h
/-! ### loop sameStRl: flume/flumeref05.SameState, region 4 -/
structure sameStRl_St where
  p : Int
  ci : Bool
  items : List Item
  k0 : Bool
  k1 : Bool
  k2 : Bool
  l0 : List Line
  l1 : List Line
  l2 : List Line
  c0 : Int
  c1 : Int
  c2 : Int
  q : Int
  di : Bool
  jtems : List Item
  j0 : Bool
  j1 : Bool
  j2 : Bool
  m0 : List Line
  m1 : List Line
  m2 : List Line
  d0 : Int
  d1 : Int
  d2 : Int
  i : Nat
def sameStRl_c (p : Int) (ci : Bool) (items : List Item) (k0 : Bool) (k1 : Bool) (k2 : Bool) (l0 : List Line) (l1 : List Line) (l2 : List Line) (c0 : Int) (c1 : Int) (c2 : Int) (q : Int) (di : Bool) (jtems : List Item) (j0 : Bool) (j1 : Bool) (j2 : Bool) (m0 : List Line) (m1 : List Line) (m2 : List Line) (d0 : Int) (d1 : Int) (d2 : Int) (i : Nat) : Env RC := [(2, .ptr 0 []), (3, .ptr 1 []), (4, .bool false), (5, .int .i64 (i : Int))]
def sameStRl_o (p : Int) (ci : Bool) (items : List Item) (k0 : Bool) (k1 : Bool) (k2 : Bool) (l0 : List Line) (l1 : List Line) (l2 : List Line) (c0 : Int) (c1 : Int) (c2 : Int) (q : Int) (di : Bool) (jtems : List Item) (j0 : Bool) (j1 : Bool) (j2 : Bool) (m0 : List Line) (m1 : List Line) (m2 : List Line) (d0 : Int) (d1 : Int) (d2 : Int) (i : Nat) : List (Obj RC) := [.var 33 (.acons (.int .i64 p) (.acons (.sl (C := RC) .item ci items) (.acons (.acons (.sl (C := RC) .line k0 l0) (.acons (.sl (C := RC) .line k1 l1) (.acons (.sl (C := RC) .line k2 l2) .anil))) (.acons (.arr (C := RC) .int 3 [c0, c1, c2]) .anil)))), .var 33 (.acons (.int .i64 q) (.acons (.sl (C := RC) .item di jtems) (.acons (.acons (.sl (C := RC) .line j0 m0) (.acons (.sl (C := RC) .line j1 m1) (.acons (.sl (C := RC) .line j2 m2) .anil))) (.acons (.arr (C := RC) .int 3 [d0, d1, d2]) .anil))))]
noncomputable def sameStRl_r (p : Int) (ci : Bool) (items : List Item) (k0 : Bool) (k1 : Bool) (k2 : Bool) (l0 : List Line) (l1 : List Line) (l2 : List Line) (c0 : Int) (c1 : Int) (c2 : Int) (q : Int) (di : Bool) (jtems : List Item) (j0 : Bool) (j1 : Bool) (j2 : Bool) (m0 : List Line) (m1 : List Line) (m2 : List Line) (d0 : Int) (d1 : Int) (d2 : Int) (i : Nat) := rndO s05 uh_12 22 4 40 2 [2, 3, 4, 5] [4] [.slot 2 0, .slot 3 0] (sameStRl_c p ci items k0 k1 k2 l0 l1 l2 c0 c1 c2 q di jtems j0 j1 j2 m0 m1 m2 d0 d1 d2 i) (sameStRl_o p ci items k0 k1 k2 l0 l1 l2 c0 c1 c2 q di jtems j0 j1 j2 m0 m1 m2 d0 d1 d2 i)
theorem sameStRl_eq (p : Int) (ci : Bool) (items : List Item) (k0 : Bool) (k1 : Bool) (k2 : Bool) (l0 : List Line) (l1 : List Line) (l2 : List Line) (c0 : Int) (c1 : Int) (c2 : Int) (q : Int) (di : Bool) (jtems : List Item) (j0 : Bool) (j1 : Bool) (j2 : Bool) (m0 : List Line) (m1 : List Line) (m2 : List Line) (d0 : Int) (d1 : Int) (d2 : Int) (i : Nat) : sameStRl_r p ci items k0 k1 k2 l0 l1 l2 c0 c1 c2 q di jtems j0 j1 j2 m0 m1 m2 d0 d1 d2 i = (bif Go.Ev.lenOK (List.length items) then bif Decidable.decide ((↑i : Int) < (↑(List.length items) : Int)) then bif Decidable.decide ((0 : Int) ≤ (↑i : Int) ∧ (↑i : Int) < (↑(List.length items) : Int)) then bif Decidable.decide ((0 : Int) ≤ (↑i : Int) ∧ (↑i : Int) < (↑(List.length jtems) : Int)) then bif !(Go.Ev.Item.key (List.getD items (Int.toNat (↑i : Int)) (Go.Ev.Item.mk (0 : Int) (0 : Int) (0 : Int))) == Go.Ev.Item.key (List.getD jtems (Int.toNat (↑i : Int)) (Go.Ev.Item.mk (0 : Int) (0 : Int) (0 : Int))) && (Go.Ev.Item.place (List.getD items (Int.toNat (↑i : Int)) (Go.Ev.Item.mk (0 : Int) (0 : Int) (0 : Int))) == Go.Ev.Item.place (List.getD jtems (Int.toNat (↑i : Int)) (Go.Ev.Item.mk (0 : Int) (0 : Int) (0 : Int))) && (Go.Ev.Item.value (List.getD items (Int.toNat (↑i : Int)) (Go.Ev.Item.mk (0 : Int) (0 : Int) (0 : Int))) == Go.Ev.Item.value (List.getD jtems (Int.toNat (↑i : Int)) (Go.Ev.Item.mk (0 : Int) (0 : Int) (0 : Int))) && Bool.true))) then Option.some ((Go.Ev.X.ret, [((4 : Nat), Go.Ev.D.bool Bool.false)]), [Option.some (Go.Ev.Obj.var (33 : Nat) (Go.Ev.D.acons (Go.Ev.D.int Go.IntKind.i64 p) (Go.Ev.D.acons (Go.Ev.D.sl Go.Ev.RTy.item ci items) (Go.Ev.D.acons (Go.Ev.D.acons (Go.Ev.D.sl Go.Ev.RTy.line k0 l0) (Go.Ev.D.acons (Go.Ev.D.sl Go.Ev.RTy.line k1 l1) (Go.Ev.D.acons (Go.Ev.D.sl Go.Ev.RTy.line k2 l2) Go.Ev.D.anil))) (Go.Ev.D.acons (Go.Ev.D.arr Go.Ev.RTy.int (3 : Nat) [c0, c1, c2]) Go.Ev.D.anil))))), Option.some (Go.Ev.Obj.var (33 : Nat) (Go.Ev.D.acons (Go.Ev.D.int Go.IntKind.i64 q) (Go.Ev.D.acons (Go.Ev.D.sl Go.Ev.RTy.item di jtems) (Go.Ev.D.acons (Go.Ev.D.acons (Go.Ev.D.sl Go.Ev.RTy.line j0 m0) (Go.Ev.D.acons (Go.Ev.D.sl Go.Ev.RTy.line j1 m1) (Go.Ev.D.acons (Go.Ev.D.sl Go.Ev.RTy.line j2 m2) Go.Ev.D.anil))) (Go.Ev.D.acons (Go.Ev.D.arr Go.Ev.RTy.int (3 : Nat) [d0, d1, d2]) Go.Ev.D.anil)))))]) else Option.some ((Go.Ev.X.normal, [((2 : Nat), Go.Ev.D.ptr (0 : Nat) []), ((3 : Nat), Go.Ev.D.ptr (1 : Nat) []), ((4 : Nat), Go.Ev.D.bool Bool.false), ((5 : Nat), Go.Ev.D.int Go.IntKind.i64 (Go.IntKind.wrap Go.IntKind.i64 ((↑i : Int) + (1 : Int))))]), [Option.some (Go.Ev.Obj.var (33 : Nat) (Go.Ev.D.acons (Go.Ev.D.int Go.IntKind.i64 p) (Go.Ev.D.acons (Go.Ev.D.sl Go.Ev.RTy.item ci items) (Go.Ev.D.acons (Go.Ev.D.acons (Go.Ev.D.sl Go.Ev.RTy.line k0 l0) (Go.Ev.D.acons (Go.Ev.D.sl Go.Ev.RTy.line k1 l1) (Go.Ev.D.acons (Go.Ev.D.sl Go.Ev.RTy.line k2 l2) Go.Ev.D.anil))) (Go.Ev.D.acons (Go.Ev.D.arr Go.Ev.RTy.int (3 : Nat) [c0, c1, c2]) Go.Ev.D.anil))))), Option.some (Go.Ev.Obj.var (33 : Nat) (Go.Ev.D.acons (Go.Ev.D.int Go.IntKind.i64 q) (Go.Ev.D.acons (Go.Ev.D.sl Go.Ev.RTy.item di jtems) (Go.Ev.D.acons (Go.Ev.D.acons (Go.Ev.D.sl Go.Ev.RTy.line j0 m0) (Go.Ev.D.acons (Go.Ev.D.sl Go.Ev.RTy.line j1 m1) (Go.Ev.D.acons (Go.Ev.D.sl Go.Ev.RTy.line j2 m2) Go.Ev.D.anil))) (Go.Ev.D.acons (Go.Ev.D.arr Go.Ev.RTy.int (3 : Nat) [d0, d1, d2]) Go.Ev.D.anil)))))]) else Option.none else Option.none else Option.some ((Go.Ev.X.exit (0 : Nat), [((4 : Nat), Go.Ev.D.bool Bool.false)]), [Option.some (Go.Ev.Obj.var (33 : Nat) (Go.Ev.D.acons (Go.Ev.D.int Go.IntKind.i64 p) (Go.Ev.D.acons (Go.Ev.D.sl Go.Ev.RTy.item ci items) (Go.Ev.D.acons (Go.Ev.D.acons (Go.Ev.D.sl Go.Ev.RTy.line k0 l0) (Go.Ev.D.acons (Go.Ev.D.sl Go.Ev.RTy.line k1 l1) (Go.Ev.D.acons (Go.Ev.D.sl Go.Ev.RTy.line k2 l2) Go.Ev.D.anil))) (Go.Ev.D.acons (Go.Ev.D.arr Go.Ev.RTy.int (3 : Nat) [c0, c1, c2]) Go.Ev.D.anil))))), Option.some (Go.Ev.Obj.var (33 : Nat) (Go.Ev.D.acons (Go.Ev.D.int Go.IntKind.i64 q) (Go.Ev.D.acons (Go.Ev.D.sl Go.Ev.RTy.item di jtems) (Go.Ev.D.acons (Go.Ev.D.acons (Go.Ev.D.sl Go.Ev.RTy.line j0 m0) (Go.Ev.D.acons (Go.Ev.D.sl Go.Ev.RTy.line j1 m1) (Go.Ev.D.acons (Go.Ev.D.sl Go.Ev.RTy.line j2 m2) Go.Ev.D.anil))) (Go.Ev.D.acons (Go.Ev.D.arr Go.Ev.RTy.int (3 : Nat) [d0, d1, d2]) Go.Ev.D.anil)))))]) else Option.none) := by kernel_rfl
def sameStRl_fin (p : Int) (ci : Bool) (items : List Item) (k0 : Bool) (k1 : Bool) (k2 : Bool) (l0 : List Line) (l1 : List Line) (l2 : List Line) (c0 : Int) (c1 : Int) (c2 : Int) (q : Int) (di : Bool) (jtems : List Item) (j0 : Bool) (j1 : Bool) (j2 : Bool) (m0 : List Line) (m1 : List Line) (m2 : List Line) (d0 : Int) (d1 : Int) (d2 : Int) (i : Nat) : RT RC := .br (decide (items.drop i = jtems.drop i)) (.leaf (.exit 0) [(4, .bool false)] (sameStRl_o p ci items k0 k1 k2 l0 l1 l2 c0 c1 c2 q di jtems j0 j1 j2 m0 m1 m2 d0 d1 d2 i)) (.leaf .ret [(4, .bool false)] (sameStRl_o p ci items k0 k1 k2 l0 l1 l2 c0 c1 c2 q di jtems j0 j1 j2 m0 m1 m2 d0 d1 d2 i))
def sameStRl_Inv (p : Int) (ci : Bool) (items : List Item) (k0 : Bool) (k1 : Bool) (k2 : Bool) (l0 : List Line) (l1 : List Line) (l2 : List Line) (c0 : Int) (c1 : Int) (c2 : Int) (q : Int) (di : Bool) (jtems : List Item) (j0 : Bool) (j1 : Bool) (j2 : Bool) (m0 : List Line) (m1 : List Line) (m2 : List Line) (d0 : Int) (d1 : Int) (d2 : Int) (i : Nat) : Prop := i ≤ items.length ∧ items.length ≤ 9223372036854775807 ∧ items.length = jtems.length
def sameStRl_S : LoopR RC sameStRl_St where
  k := 2
  canon q := sameStRl_c q.p q.ci q.items q.k0 q.k1 q.k2 q.l0 q.l1 q.l2 q.c0 q.c1 q.c2 q.q q.di q.jtems q.j0 q.j1 q.j2 q.m0 q.m1 q.m2 q.d0 q.d1 q.d2 q.i
  objs q := sameStRl_o q.p q.ci q.items q.k0 q.k1 q.k2 q.l0 q.l1 q.l2 q.c0 q.c1 q.c2 q.q q.di q.jtems q.j0 q.j1 q.j2 q.m0 q.m1 q.m2 q.d0 q.d1 q.d2 q.i
  fin q := sameStRl_fin q.p q.ci q.items q.k0 q.k1 q.k2 q.l0 q.l1 q.l2 q.c0 q.c1 q.c2 q.q q.di q.jtems q.j0 q.j1 q.j2 q.m0 q.m1 q.m2 q.d0 q.d1 q.d2 q.i
  Inv q := sameStRl_Inv q.p q.ci q.items q.k0 q.k1 q.k2 q.l0 q.l1 q.l2 q.c0 q.c1 q.c2 q.q q.di q.jtems q.j0 q.j1 q.j2 q.m0 q.m1 q.m2 q.d0 q.d1 q.d2 q.i
  μ q := q.items.length - q.i
theorem sameStRl_round (p : Int) (ci : Bool) (items : List Item) (k0 : Bool) (k1 : Bool) (k2 : Bool) (l0 : List Line) (l1 : List Line) (l2 : List Line) (c0 : Int) (c1 : Int) (c2 : Int) (q : Int) (di : Bool) (jtems : List Item) (j0 : Bool) (j1 : Bool) (j2 : Bool) (m0 : List Line) (m1 : List Line) (m2 : List Line) (d0 : Int) (d1 : Int) (d2 : Int) (i : Nat) (hI : sameStRl_Inv p ci items k0 k1 k2 l0 l1 l2 c0 c1 c2 q di jtems j0 j1 j2 m0 m1 m2 d0 d1 d2 i) : Leaf (sameStRl_r p ci items k0 k1 k2 l0 l1 l2 c0 c1 c2 q di jtems j0 j1 j2 m0 m1 m2 d0 d1 d2 i) (LedR sameStRl_S ⟨p, ci, items, k0, k1, k2, l0, l1, l2, c0, c1, c2, q, di, jtems, j0, j1, j2, m0, m1, m2, d0, d1, d2, i⟩) := by
  rw [sameStRl_eq]
  unfold sameStRl_Inv at hI
  obtain ⟨h1, h2, h3⟩ := hI
  have hlk := lenOK_of h2
  by_cases hlt : i < items.length
  · have w_succ : IntKind.i64.wrap ((i : Int) + 1) = ((i + 1 : Nat) : Int) := by rw [wrap_id (by omega) (by omega)]; simp
    have d_lt : decide ((i : Int) < items.length) = true := by simp; omega
    have d_in : decide (0 ≤ (i : Int) ∧ (i : Int) < items.length) = true := by simp; omega
    have t_nat : ((i : Int)).toNat = i := by simp
    simp only [w_succ, d_lt, d_in, t_nat, cond_true]
    have hlt' : i < jtems.length := by omega
    have d_in' : decide (0 ≤ (i : Int) ∧ (i : Int) < jtems.length) = true := by simp; omega
    have hst := drops_step items jtems i (⟨0, 0, 0⟩ : Item) hlt h3
    simp only [d_in', cond_true, hlk, eqItem]
    generalize items.getD i (⟨0, 0, 0⟩ : Item) = x at hst ⊢
    generalize jtems.getD i (⟨0, 0, 0⟩ : Item) = w at hst ⊢
    by_cases hxy : x = w
    · simp only [hxy, decide_true, Bool.not_true, cond_false]
      exact leafR_go ⟨p, ci, items, k0, k1, k2, l0, l1, l2, c0, c1, c2, q, di, jtems, j0, j1, j2, m0, m1, m2, d0, d1, d2, i + 1⟩ ⟨hlt, h2, h3⟩ (by simp only [sameStRl_S]; omega) (by simp only [sameStRl_S, sameStRl_fin, sameStRl_o, hst, hxy, decide_true, Bool.true_and]) rfl rfl
    · simp only [hxy, decide_false, Bool.not_false, cond_true]
      exact leafR_ret (sameStRl_o p ci items k0 k1 k2 l0 l1 l2 c0 c1 c2 q di jtems j0 j1 j2 m0 m1 m2 d0 d1 d2 i) (by simp [sameStRl_S, sameStRl_fin, hst, hxy, RT.val]) rfl
  · have hi : i = items.length := by omega
    have c1 : decide ((i : Int) < items.length) = false := by simp; omega
    simp only [hlk, cond_true, c1, cond_false]
    exact leafR_exit (sameStRl_o p ci items k0 k1 k2 l0 l1 l2 c0 _ c2 q di jtems j0 j1 j2 m0 m1 m2 d0 d1 d2 i) (by simp only [sameStRl_S, sameStRl_fin, drops_end items jtems i (by omega) (by omega), RT.val, cond_true]) rfl
def sameStRl_d (env : Env RC) (os : List (Obj RC)) : Option (Bool × sameStRl_St) := match env, os with
  | [(2, .ptr 0 []), (3, .ptr 1 []), (4, .bool false), (5, .int .i64 x0)], [.var 33 (.acons (.int .i64 p) (.acons (.sl .item ci items) (.acons (.acons (.sl .line k0 l0) (.acons (.sl .line k1 l1) (.acons (.sl .line k2 l2) .anil))) (.acons (.arr .int 3 [c0, c1, c2]) .anil)))), .var 33 (.acons (.int .i64 q) (.acons (.sl .item di jtems) (.acons (.acons (.sl .line j0 m0) (.acons (.sl .line j1 m1) (.acons (.sl .line j2 m2) .anil))) (.acons (.arr .int 3 [d0, d1, d2]) .anil))))] => staticD (true) (decide (x0 = 0) && decide (items.length ≤ 9223372036854775807 ∧ items.length = jtems.length), ⟨p, ci, items, k0, k1, k2, l0, l1, l2, c0, c1, c2, q, di, jtems, j0, j1, j2, m0, m1, m2, d0, d1, d2, 0⟩)
  | _, _ => none
noncomputable def uh_13 := uh_12.addLoop 22 4 (sumR s05 [.slot 2 0, .slot 3 0] [2, 3, 4, 5] sameStRl_S sameStRl_d)
theorem uh_13_laws : FLaws Try.prog s05 uh_13 := by
  refine uh_12_laws.addRoundsR s05_laws (by kernel_rfl) sameStRl_S 40 [2, 3, 4, 5] [4] [.slot 2 0, .slot 3 0] [2, 3, 4, 5] sameStRl_d (fun q hI => ?_) ?_
  · obtain ⟨p, ci, items, k0, k1, k2, l0, l1, l2, c0, c1, c2, q, di, jtems, j0, j1, j2, m0, m1, m2, d0, d1, d2, i⟩ := q
    refine ⟨?_, ?_, sameStRl_round p ci items k0 k1 k2 l0 l1 l2 c0 c1 c2 q di jtems j0 j1 j2 m0 m1 m2 d0 d1 d2 i hI⟩
    · simp_all [RefsOK, sameStRl_S, sameStRl_c, sameStRl_o, sameStRl_Inv, D.refs, Obj.refs, rEnc]
    · simp_all [sameStRl_S, sameStRl_fin, sameStRl_o, sameStRl_Inv, RT.refsOK, RefsOK, D.refs, Obj.refs, rEnc]
  · intro env os b q hd_ hb
    unfold sameStRl_d at hd_
    split at hd_
    · obtain ⟨hs, hd_⟩ := staticD_some hd_
      cases hd_
      simp only [Bool.and_eq_true, decide_eq_true_eq] at hb
      obtain ⟨rfl, hl⟩ := hb
      exact ⟨⟨Nat.zero_le _, hl.1, hl.2⟩, rfl, rfl⟩
    · cases hd_
/-! ### function sameStR: flume/flumeref05.SameState -/
def sameStR_s (p : Int) (ci : Bool) (items : List Item) (k0 : Bool) (k1 : Bool) (k2 : Bool) (l0 : List Line) (l1 : List Line) (l2 : List Line) (c0 : Int) (c1 : Int) (c2 : Int) (q : Int) (di : Bool) (jtems : List Item) (j0 : Bool) (j1 : Bool) (j2 : Bool) (m0 : List Line) (m1 : List Line) (m2 : List Line) (d0 : Int) (d1 : Int) (d2 : Int) : Option (Bool × D RC) := some (lenOK items.length && lenOK jtems.length && (lenOK l0.length && lenOK m0.length) && (lenOK l1.length && lenOK m1.length) && (lenOK l2.length && lenOK m2.length), .bool (decide ((⟨p, items, l0, l1, l2, c0, c1, c2⟩ : St) = ⟨q, jtems, m0, m1, m2, d0, d1, d2⟩)))
def sameStR_sp : List (D RC) → Option (Bool × D RC)
  | [.acons (.int .i64 p) (.acons (.sl .item ci items) (.acons (.acons (.sl .line k0 l0) (.acons (.sl .line k1 l1) (.acons (.sl .line k2 l2) .anil))) (.acons (.arr .int 3 [c0, c1, c2]) .anil))), .acons (.int .i64 q) (.acons (.sl .item di jtems) (.acons (.acons (.sl .line j0 m0) (.acons (.sl .line j1 m1) (.acons (.sl .line j2 m2) .anil))) (.acons (.arr .int 3 [d0, d1, d2]) .anil)))] => sameStR_s p ci items k0 k1 k2 l0 l1 l2 c0 c1 c2 q di jtems j0 j1 j2 m0 m1 m2 d0 d1 d2
  | _ => none
noncomputable def sameStR_e (p : Int) (ci : Bool) (items : List Item) (k0 : Bool) (k1 : Bool) (k2 : Bool) (l0 : List Line) (l1 : List Line) (l2 : List Line) (c0 : Int) (c1 : Int) (c2 : Int) (q : Int) (di : Bool) (jtems : List Item) (j0 : Bool) (j1 : Bool) (j2 : Bool) (m0 : List Line) (m1 : List Line) (m2 : List Line) (d0 : Int) (d1 : Int) (d2 : Int) := evF s05 uh_13 40 22 [.acons (.int .i64 p) (.acons (.sl (C := RC) .item ci items) (.acons (.acons (.sl (C := RC) .line k0 l0) (.acons (.sl (C := RC) .line k1 l1) (.acons (.sl (C := RC) .line k2 l2) .anil))) (.acons (.arr (C := RC) .int 3 [c0, c1, c2]) .anil))), .acons (.int .i64 q) (.acons (.sl (C := RC) .item di jtems) (.acons (.acons (.sl (C := RC) .line j0 m0) (.acons (.sl (C := RC) .line j1 m1) (.acons (.sl (C := RC) .line j2 m2) .anil))) (.acons (.arr (C := RC) .int 3 [d0, d1, d2]) .anil)))]
theorem sameStR_eq (p : Int) (ci : Bool) (items : List Item) (k0 : Bool) (k1 : Bool) (k2 : Bool) (l0 : List Line) (l1 : List Line) (l2 : List Line) (c0 : Int) (c1 : Int) (c2 : Int) (q : Int) (di : Bool) (jtems : List Item) (j0 : Bool) (j1 : Bool) (j2 : Bool) (m0 : List Line) (m1 : List Line) (m2 : List Line) (d0 : Int) (d1 : Int) (d2 : Int) : sameStR_e p ci items k0 k1 k2 l0 l1 l2 c0 c1 c2 q di jtems j0 j1 j2 m0 m1 m2 d0 d1 d2 = (bif p != q then Option.some (Go.Ev.D.bool Bool.false) else bif !(c0 == d0 && (c1 == d1 && (c2 == d2 && Bool.true))) then Option.some (Go.Ev.D.bool Bool.false) else bif Go.Ev.lenOK (List.length items) then bif Go.Ev.lenOK (List.length jtems) then bif (↑(List.length items) : Int) != (↑(List.length jtems) : Int) then Option.some (Go.Ev.D.bool Bool.false) else bif Decidable.decide (List.length items ≤ (9223372036854775807 : Nat) ∧ List.length items = List.length jtems) then bif Decidable.decide (List.drop (0 : Nat) items = List.drop (0 : Nat) jtems) then bif Go.Ev.lenOK (List.length l0) && Go.Ev.lenOK (List.length m0) then bif !Decidable.decide (l0 = m0) then Option.some (Go.Ev.D.bool Bool.false) else bif Go.Ev.lenOK (List.length l1) && Go.Ev.lenOK (List.length m1) then bif !Decidable.decide (l1 = m1) then Option.some (Go.Ev.D.bool Bool.false) else bif Go.Ev.lenOK (List.length l2) && Go.Ev.lenOK (List.length m2) then bif !Decidable.decide (l2 = m2) then Option.some (Go.Ev.D.bool Bool.false) else Option.some (Go.Ev.D.bool Bool.true) else Option.none else Option.none else Option.none else Option.some (Go.Ev.D.bool Bool.false) else Option.none else Option.none else Option.none) := by kernel_rfl
theorem sameStR_ok (p : Int) (ci : Bool) (items : List Item) (k0 : Bool) (k1 : Bool) (k2 : Bool) (l0 : List Line) (l1 : List Line) (l2 : List Line) (c0 : Int) (c1 : Int) (c2 : Int) (q : Int) (di : Bool) (jtems : List Item) (j0 : Bool) (j1 : Bool) (j2 : Bool) (m0 : List Line) (m1 : List Line) (m2 : List Line) (d0 : Int) (d1 : Int) (d2 : Int) (h : (lenOK items.length && lenOK jtems.length && (lenOK l0.length && lenOK m0.length) && (lenOK l1.length && lenOK m1.length) && (lenOK l2.length && lenOK m2.length)) = true) : sameStR_e p ci items k0 k1 k2 l0 l1 l2 c0 c1 c2 q di jtems j0 j1 j2 m0 m1 m2 d0 d1 d2 = some (.bool (decide ((⟨p, items, l0, l1, l2, c0, c1, c2⟩ : St) = ⟨q, jtems, m0, m1, m2, d0, d1, d2⟩))) := by
  rw [sameStR_eq]
  simp only [Bool.and_eq_true] at h
  obtain ⟨⟨⟨⟨a1, a2⟩, b1, b2⟩, b3, b4⟩, b5, b6⟩ := h
  have hl := lenOK_le a1
  simp only [a1, a2, b1, b2, b3, b4, b5, b6, Bool.and_true, cond_true]
  by_cases h0 : items.length = jtems.length
  · have e1 : ((items.length : Int) != (jtems.length : Int)) = false := by simp [h0]
    have e2 : (items.length ≤ 9223372036854775807 ∧ items.length = jtems.length) := ⟨hl, h0⟩
    rw [e1, decide_eq_true e2]
    by_cases h1 : l0 = m0 <;> by_cases h2 : l1 = m1 <;> by_cases h3 : l2 = m2 <;> by_cases h4 : p = q <;> by_cases h5 : c0 = d0 <;> by_cases h6 : c1 = d1 <;> by_cases h7 : c2 = d2 <;> by_cases h8 : items = jtems <;> simp [h1, h2, h3, h4, h5, h6, h7, h8, bne, beqD]
  · have e1 : ((items.length : Int) != (jtems.length : Int)) = true := by simp; omega
    have h8 : ¬ items = jtems := fun e => h0 (by rw [e])
    rw [e1]
    by_cases h4 : p = q <;> by_cases h5 : c0 = d0 <;> by_cases h6 : c1 = d1 <;> by_cases h7 : c2 = d2 <;> simp [h4, h5, h6, h7, h8, bne, beqD]
noncomputable def uh_14 := uh_13.addSpec 22 sameStR_sp
theorem uh_14_laws : FLaws Try.prog s05 uh_14 := uh_13_laws.addEv s05_laws fun args d h => by
  unfold sameStR_sp at h
  split at h
  · unfold sameStR_s at h
    have h1 := congrArg Prod.fst (Option.some.inj h)
    obtain rfl : _ = d := congrArg Prod.snd (Option.some.inj h)
    exact ⟨by simp [D.refs], 40, sameStR_ok _ _ _ _ _ _ _ _ _ _ _ _ _ _ _ _ _ _ _ _ _ _ _ _ h1⟩
  · cases h
end Go.Ev


namespace Go.Ev
open Go.Proofs
set_option maxRecDepth 100000
set_option linter.unusedVariables false
set_option linter.unusedSimpArgs false
/-! ### loop putR: flume/flumeref01.Put, region 6 -/
structure putR_St where
  n : Int
  w : Int
  out : List UInt8
  i : Nat
def putR_c (n : Int) (w : Int) (out : List UInt8) (i : Nat) : Env RC := [(1, .int .i64 n), (2, .int .i64 w), (8, .vs 0 (out.length)), (9, .int .i64 (i : Int))]
def putR_o (n : Int) (w : Int) (out : List UInt8) (i : Nat) : List (Obj RC) := [.vec (C := RC) .u8 true out]
noncomputable def putR_r (n : Int) (w : Int) (out : List UInt8) (i : Nat) := rndO s05 uh_14 47 6 40 1 [1, 2, 8, 9] [8] [.slot 8 0] (putR_c n w out i) (putR_o n w out i)
theorem putR_eq (n : Int) (w : Int) (out : List UInt8) (i : Nat) : putR_r n w out i = (bif Decidable.decide ((↑i : Int) < w) then bif Nat.beq (List.length out) (List.length out) && Go.Ev.sizeOK (List.length out + List.length [UInt8.ofNat (Int.toNat (Go.IntKind.wrap Go.IntKind.u8 (Int.tmod n (256 : Int))))]) (1 : Nat) then Option.some ((Go.Ev.X.normal, [((1 : Nat), Go.Ev.D.int Go.IntKind.i64 (Go.IntKind.wrap Go.IntKind.i64 (Int.tdiv n (256 : Int)))), ((2 : Nat), Go.Ev.D.int Go.IntKind.i64 w), ((8 : Nat), Go.Ev.D.vs (0 : Nat) (List.length out + List.length [UInt8.ofNat (Int.toNat (Go.IntKind.wrap Go.IntKind.u8 (Int.tmod n (256 : Int))))])), ((9 : Nat), Go.Ev.D.int Go.IntKind.i64 (Go.IntKind.wrap Go.IntKind.i64 ((↑i : Int) + (1 : Int))))]), [Option.some (Go.Ev.Obj.vec Go.Ev.RTy.u8 Bool.true (out ++ [UInt8.ofNat (Int.toNat (Go.IntKind.wrap Go.IntKind.u8 (Int.tmod n (256 : Int))))]))]) else Option.none else Option.some ((Go.Ev.X.exit (0 : Nat), [((8 : Nat), Go.Ev.D.vs (0 : Nat) (List.length out))]), [Option.some (Go.Ev.Obj.vec Go.Ev.RTy.u8 Bool.true out)])) := by kernel_rfl
def putR_fin (n : Int) (w : Int) (out : List UInt8) (i : Nat) : RT RC := .leaf (.exit 0) [(8, .vs 0 (out ++ leB n (w.toNat - i)).length)] [.vec (C := RC) .u8 true (out ++ leB n (w.toNat - i))]
def putR_Inv (n : Int) (w : Int) (out : List UInt8) (i : Nat) : Prop := 0 ≤ n ∧ n ≤ 9223372036854775807 ∧ (i : Int) ≤ w ∧ w ≤ 6 ∧ out.length ≤ 1000000 + i
def putR_S : LoopR RC putR_St where
  k := 1
  canon q := putR_c q.n q.w q.out q.i
  objs q := putR_o q.n q.w q.out q.i
  fin q := putR_fin q.n q.w q.out q.i
  Inv q := putR_Inv q.n q.w q.out q.i
  μ q := q.w.toNat - q.i
theorem putR_round (n : Int) (w : Int) (out : List UInt8) (i : Nat) (hI : putR_Inv n w out i) : Leaf (putR_r n w out i) (LedR putR_S ⟨n, w, out, i⟩) := by
  rw [putR_eq]
  unfold putR_Inv at hI
  obtain ⟨h1, h2, h3, h4, h5⟩ := hI
  by_cases hlt : (i : Int) < w
  · have w_succ : IntKind.i64.wrap ((i : Int) + 1) = ((i + 1 : Nat) : Int) := by rw [wrap_id (by omega) (by omega)]; simp
    obtain ⟨d1, d2, d3⟩ := putD h1 h2
    have e1 : sizeOK (out.length + 1) 1 = true := sizeT (by omega)
    have eb : ∀ n : Nat, n.beq n = true := fun n => by simp
    simp only [hlt, decide_true, cond_true, w_succ, d1, putB h1, List.length_cons, List.length_nil, Nat.zero_add, e1, eb, Bool.and_self]
    refine leafR_go ⟨n.fdiv 256, w, out ++ [byteOf n], i + 1⟩ (by refine ⟨d2, d3, hlt, h4, ?_⟩; simp; omega) (by simp only [putR_S]; omega) ?_ (by simp [putR_S, putR_c]) (by simp [putR_S, putR_o])
    have : w.toNat - i = (w.toNat - (i + 1)) + 1 := by omega
    simp only [putR_S, putR_fin, this, leB, List.append_assoc, List.cons_append, List.nil_append]
  · have hi : w.toNat - i = 0 := by omega
    simp only [hlt, decide_false, cond_false]
    exact leafR_exit (putR_o n w out i) (by simp only [putR_S, putR_fin, putR_o, hi, leB, RT.val, List.append_nil]) rfl
def putR_d (env : Env RC) (os : List (Obj RC)) : Option (Bool × putR_St) := match env, os with
  | [(1, .int .i64 n), (2, .int .i64 w), (8, .vs 0 x0), (9, .int .i64 x1)], [.vec .u8 true out] => staticD (true) (decide (x0 = out.length) && decide (x1 = 0) && decide (0 ≤ n ∧ n ≤ 9223372036854775807 ∧ 0 ≤ w ∧ w ≤ 6 ∧ out.length ≤ 1000000), ⟨n, w, out, 0⟩)
  | _, _ => none
noncomputable def ui_1 := uh_14.addLoop 47 6 (sumR s05 [.slot 8 0] [1, 2, 8, 9] putR_S putR_d)
theorem ui_1_laws : FLaws Try.prog s05 ui_1 := by
  refine uh_14_laws.addRoundsR s05_laws (by kernel_rfl) putR_S 40 [1, 2, 8, 9] [8] [.slot 8 0] [1, 2, 8, 9] putR_d (fun q hI => ?_) ?_
  · obtain ⟨n, w, out, i⟩ := q
    refine ⟨?_, ?_, putR_round n w out i hI⟩
    · simp_all [RefsOK, putR_S, putR_c, putR_o, putR_Inv, D.refs, Obj.refs, rEnc]
    · simp_all [putR_S, putR_fin, putR_o, putR_Inv, RT.refsOK, RefsOK, D.refs, Obj.refs, rEnc]
  · intro env os b q hd_ hb
    unfold putR_d at hd_
    split at hd_
    · obtain ⟨hs, hd_⟩ := staticD_some hd_
      cases hd_
      simp only [Bool.and_eq_true, decide_eq_true_eq] at hb
      obtain ⟨⟨rfl, rfl⟩, hl⟩ := hb
      exact ⟨by refine ⟨hl.1, hl.2.1, by simpa using hl.2.2.1, hl.2.2.2.1, by simpa using hl.2.2.2.2⟩, rfl, rfl⟩
    · cases hd_
/-! ## package flumeref05: bytes -/
/-! ### loop bytesRl: flume/flumeref05.Bytes, region 9 -/
structure bytesRl_St where
  p : Int
  y : Bool
  c : Bool
  l : List Write
  bs : List UInt8
  i : Nat
def bytesRl_c (p : Int) (y : Bool) (c : Bool) (l : List Write) (bs : List UInt8) (i : Nat) : Env RC := [(1, .ptr 0 []), (4, .vs 1 (bs.length)), (7, .int .i64 (i : Int))]
def bytesRl_o (p : Int) (y : Bool) (c : Bool) (l : List Write) (bs : List UInt8) (i : Nat) : List (Obj RC) := [.var 27 (.acons (.int .i64 p) (.acons (.bool y) (.acons (.sl (C := RC) .write c l) .anil))), .vec (C := RC) .u8 true bs]
noncomputable def bytesRl_r (p : Int) (y : Bool) (c : Bool) (l : List Write) (bs : List UInt8) (i : Nat) := rndO s05 ui_1 23 9 40 2 [1, 4, 7] [4] [.slot 1 0, .slot 4 0] (bytesRl_c p y c l bs i) (bytesRl_o p y c l bs i)
theorem bytesRl_eq (p : Int) (y : Bool) (c : Bool) (l : List Write) (bs : List UInt8) (i : Nat) : bytesRl_r p y c l bs i = (bif Go.Ev.lenOK (List.length l) then bif Decidable.decide ((↑i : Int) < (↑(List.length l) : Int)) then bif Decidable.decide ((0 : Int) ≤ (↑i : Int) ∧ (↑i : Int) < (↑(List.length l) : Int)) then bif Decidable.decide ((0 : Int) ≤ (↑i : Int) ∧ (↑i : Int) < (↑(List.length l) : Int)) then bif Nat.beq (List.length bs) (List.length bs) && Go.Ev.sizeOK (List.length bs + List.length [UInt8.ofNat (Int.toNat (Go.IntKind.wrap Go.IntKind.u8 (Go.Ev.Write.key (List.getD l (Int.toNat (↑i : Int)) (Go.Ev.Write.mk (0 : Int) (0 : Int)))))), UInt8.ofNat (Int.toNat (Go.IntKind.wrap Go.IntKind.u8 (Go.Ev.Write.value (List.getD l (Int.toNat (↑i : Int)) (Go.Ev.Write.mk (0 : Int) (0 : Int))))))]) (1 : Nat) then Option.some ((Go.Ev.X.normal, [((1 : Nat), Go.Ev.D.ptr (0 : Nat) []), ((4 : Nat), Go.Ev.D.vs (1 : Nat) (List.length bs + List.length [UInt8.ofNat (Int.toNat (Go.IntKind.wrap Go.IntKind.u8 (Go.Ev.Write.key (List.getD l (Int.toNat (↑i : Int)) (Go.Ev.Write.mk (0 : Int) (0 : Int)))))), UInt8.ofNat (Int.toNat (Go.IntKind.wrap Go.IntKind.u8 (Go.Ev.Write.value (List.getD l (Int.toNat (↑i : Int)) (Go.Ev.Write.mk (0 : Int) (0 : Int))))))])), ((7 : Nat), Go.Ev.D.int Go.IntKind.i64 (Go.IntKind.wrap Go.IntKind.i64 ((↑i : Int) + (1 : Int))))]), [Option.some (Go.Ev.Obj.var (27 : Nat) (Go.Ev.D.acons (Go.Ev.D.int Go.IntKind.i64 p) (Go.Ev.D.acons (Go.Ev.D.bool y) (Go.Ev.D.acons (Go.Ev.D.sl Go.Ev.RTy.write c l) Go.Ev.D.anil)))), Option.some (Go.Ev.Obj.vec Go.Ev.RTy.u8 Bool.true (bs ++ [UInt8.ofNat (Int.toNat (Go.IntKind.wrap Go.IntKind.u8 (Go.Ev.Write.key (List.getD l (Int.toNat (↑i : Int)) (Go.Ev.Write.mk (0 : Int) (0 : Int)))))), UInt8.ofNat (Int.toNat (Go.IntKind.wrap Go.IntKind.u8 (Go.Ev.Write.value (List.getD l (Int.toNat (↑i : Int)) (Go.Ev.Write.mk (0 : Int) (0 : Int))))))]))]) else Option.none else Option.none else Option.none else Option.some ((Go.Ev.X.exit (0 : Nat), [((4 : Nat), Go.Ev.D.vs (1 : Nat) (List.length bs))]), [Option.some (Go.Ev.Obj.var (27 : Nat) (Go.Ev.D.acons (Go.Ev.D.int Go.IntKind.i64 p) (Go.Ev.D.acons (Go.Ev.D.bool y) (Go.Ev.D.acons (Go.Ev.D.sl Go.Ev.RTy.write c l) Go.Ev.D.anil)))), Option.some (Go.Ev.Obj.vec Go.Ev.RTy.u8 Bool.true bs)]) else Option.none) := by kernel_rfl
def bytesRl_fin (p : Int) (y : Bool) (c : Bool) (l : List Write) (bs : List UInt8) (i : Nat) : RT RC := .leaf (.exit 0) [(4, .vs 1 (bs ++ (l.drop i).flatMap wBytes).length)] [.var 27 (.acons (.int .i64 p) (.acons (.bool y) (.acons (.sl (C := RC) .write c l) .anil))), .vec (C := RC) .u8 true (bs ++ (l.drop i).flatMap wBytes)]
def bytesRl_Inv (p : Int) (y : Bool) (c : Bool) (l : List Write) (bs : List UInt8) (i : Nat) : Prop := i ≤ l.length ∧ l.length ≤ 1000000 ∧ bs.length ≤ 1000000 + 2 * i
def bytesRl_S : LoopR RC bytesRl_St where
  k := 2
  canon q := bytesRl_c q.p q.y q.c q.l q.bs q.i
  objs q := bytesRl_o q.p q.y q.c q.l q.bs q.i
  fin q := bytesRl_fin q.p q.y q.c q.l q.bs q.i
  Inv q := bytesRl_Inv q.p q.y q.c q.l q.bs q.i
  μ q := q.l.length - q.i
theorem bytesRl_round (p : Int) (y : Bool) (c : Bool) (l : List Write) (bs : List UInt8) (i : Nat) (hI : bytesRl_Inv p y c l bs i) : Leaf (bytesRl_r p y c l bs i) (LedR bytesRl_S ⟨p, y, c, l, bs, i⟩) := by
  rw [bytesRl_eq]
  unfold bytesRl_Inv at hI
  obtain ⟨h1, h2, h3⟩ := hI
  have hlk := lenOK_of (show l.length ≤ 9223372036854775807 by omega)
  by_cases hlt : i < l.length
  · have w_succ : IntKind.i64.wrap ((i : Int) + 1) = ((i + 1 : Nat) : Int) := by rw [wrap_id (by omega) (by omega)]; simp
    have d_lt : decide ((i : Int) < l.length) = true := by simp; omega
    have d_in : decide (0 ≤ (i : Int) ∧ (i : Int) < l.length) = true := by simp; omega
    have t_nat : ((i : Int)).toNat = i := by simp
    simp only [w_succ, d_lt, d_in, t_nat, cond_true]
    have hd : (l.drop i).flatMap wBytes = _ := flatMap_drop_succ l i wBytes hlt (⟨0, 0⟩ : Write)
    generalize l.getD i (⟨0, 0⟩ : Write) = x at hd ⊢
    have e1 : sizeOK (bs.length + 2) 1 = true := sizeT (by omega)
    have e2 : bs.length.beq bs.length = true := by simp
    simp only [hlk, cond_true, List.length_cons, List.length_nil, Nat.zero_add, Nat.reduceAdd, e1, e2, Bool.and_self]
    refine leafR_go ⟨p, y, c, l, bs ++ [byteOf x.key, byteOf x.value], i + 1⟩ (by refine ⟨hlt, h2, ?_⟩; simp; omega) (by simp only [bytesRl_S]; omega) ?_ (by simp [bytesRl_S, bytesRl_c, byteOf]) (by simp [bytesRl_S, bytesRl_o, byteOf])
    simp only [bytesRl_S, bytesRl_fin, hd, wBytes, List.append_assoc]
  · have hi : i = l.length := by omega
    have c1 : decide ((i : Int) < l.length) = false := by simp; omega
    simp only [hlk, cond_true, c1, cond_false]
    have hd0 : l.drop i = [] := List.drop_eq_nil_of_le (by omega)
    exact leafR_exit (bytesRl_o p y c l bs i) (by simp only [bytesRl_S, bytesRl_fin, bytesRl_o, hd0, RT.val, List.flatMap_nil, List.append_nil]) rfl
def bytesRl_d (env : Env RC) (os : List (Obj RC)) : Option (Bool × bytesRl_St) := match env, os with
  | [(1, .ptr 0 []), (4, .vs 1 x0), (7, .int .i64 x1)], [.var 27 (.acons (.int .i64 p) (.acons (.bool y) (.acons (.sl .write c l) .anil))), .vec .u8 true bs] => staticD (true) (decide (x0 = bs.length) && decide (x1 = 0) && decide (l.length ≤ 1000000 ∧ bs.length ≤ 1000000), ⟨p, y, c, l, bs, 0⟩)
  | _, _ => none
noncomputable def ui_2 := ui_1.addLoop 23 9 (sumR s05 [.slot 1 0, .slot 4 0] [1, 4, 7] bytesRl_S bytesRl_d)
theorem ui_2_laws : FLaws Try.prog s05 ui_2 := by
  refine ui_1_laws.addRoundsR s05_laws (by kernel_rfl) bytesRl_S 40 [1, 4, 7] [4] [.slot 1 0, .slot 4 0] [1, 4, 7] bytesRl_d (fun q hI => ?_) ?_
  · obtain ⟨p, y, c, l, bs, i⟩ := q
    refine ⟨?_, ?_, bytesRl_round p y c l bs i hI⟩
    · simp_all [RefsOK, bytesRl_S, bytesRl_c, bytesRl_o, bytesRl_Inv, D.refs, Obj.refs, rEnc]
    · simp_all [bytesRl_S, bytesRl_fin, bytesRl_o, bytesRl_Inv, RT.refsOK, RefsOK, D.refs, Obj.refs, rEnc]
  · intro env os b q hd_ hb
    unfold bytesRl_d at hd_
    split at hd_
    · obtain ⟨hs, hd_⟩ := staticD_some hd_
      cases hd_
      simp only [Bool.and_eq_true, decide_eq_true_eq] at hb
      obtain ⟨⟨rfl, rfl⟩, hl⟩ := hb
      exact ⟨⟨Nat.zero_le _, hl.1, hl.2⟩, rfl, rfl⟩
    · cases hd_
/-! ### function bytesRf: flume/flumeref05.Bytes -/
def bytesRf_s (p : Int) (y : Bool) (c : Bool) (l : List Write) : Option (Bool × D RC) := some (lenOK l.length, .tup (.acons (.sl (C := RC) .u8 (!mayB ⟨p, y, l⟩) (bif mayB ⟨p, y, l⟩ then bytesR ⟨p, y, l⟩ else [])) (.acons (.int .i64 (bif mayB ⟨p, y, l⟩ then 0 else 2)) .anil)))
def bytesRf_sp : List (D RC) → Option (Bool × D RC)
  | [.acons (.int .i64 p) (.acons (.bool y) (.acons (.sl .write c l) .anil))] => bytesRf_s p y c l
  | _ => none
noncomputable def bytesRf_e (p : Int) (y : Bool) (c : Bool) (l : List Write) := evF s05 ui_2 40 23 [.acons (.int .i64 p) (.acons (.bool y) (.acons (.sl (C := RC) .write c l) .anil))]
theorem bytesRf_eq (p : Int) (y : Bool) (c : Bool) (l : List Write) : bytesRf_e p y c l = (bif Go.Ev.lenOK (List.length l) then bif !Go.Ev.mayB (Go.Ev.Rec.mk p y l) then Option.some (Go.Ev.D.tup (Go.Ev.D.acons (Go.Ev.D.sl Go.Ev.RTy.u8 Bool.true []) (Go.Ev.D.acons (Go.Ev.D.int Go.IntKind.i64 (2 : Int)) Go.Ev.D.anil))) else bif Decidable.decide (p ≤ (9223372036854775807 : Int) ∧ (1 : Int) ≤ (3 : Int) ∧ (3 : Int) ≤ (6 : Int)) && Go.Ev.fitsB p (3 : Nat) then bif Decidable.decide ((0 : Int) ≤ p ∧ p ≤ (9223372036854775807 : Int) ∧ (0 : Int) ≤ (3 : Int) ∧ (3 : Int) ≤ (6 : Int) ∧ (0 : Nat) ≤ (1000000 : Nat)) then bif Go.Ev.lenOK (List.length l) then bif Decidable.decide (List.length ([] ++ [] ++ Go.Ev.leB p (3 : Nat)) + List.length [UInt8.ofNat (Int.toNat (bif y then (1 : Int) else (0 : Int))), UInt8.ofNat (Int.toNat (Go.IntKind.wrap Go.IntKind.u8 (↑(List.length l) : Int)))] = List.length ([] ++ [] ++ Go.Ev.leB p (3 : Nat) ++ [UInt8.ofNat (Int.toNat (bif y then (1 : Int) else (0 : Int))), UInt8.ofNat (Int.toNat (Go.IntKind.wrap Go.IntKind.u8 (↑(List.length l) : Int)))])) && Bool.true && Decidable.decide (List.length l ≤ (1000000 : Nat) ∧ List.length ([] ++ [] ++ Go.Ev.leB p (3 : Nat) ++ [UInt8.ofNat (Int.toNat (bif y then (1 : Int) else (0 : Int))), UInt8.ofNat (Int.toNat (Go.IntKind.wrap Go.IntKind.u8 (↑(List.length l) : Int)))]) ≤ (1000000 : Nat)) then bif Nat.beq (List.length ([] ++ [] ++ Go.Ev.leB p (3 : Nat) ++ [UInt8.ofNat (Int.toNat (bif y then (1 : Int) else (0 : Int))), UInt8.ofNat (Int.toNat (Go.IntKind.wrap Go.IntKind.u8 (↑(List.length l) : Int)))] ++ List.flatMap Go.Ev.wBytes (List.drop (0 : Nat) l))) (List.length ([] ++ [] ++ Go.Ev.leB p (3 : Nat) ++ [UInt8.ofNat (Int.toNat (bif y then (1 : Int) else (0 : Int))), UInt8.ofNat (Int.toNat (Go.IntKind.wrap Go.IntKind.u8 (↑(List.length l) : Int)))] ++ List.flatMap Go.Ev.wBytes (List.drop (0 : Nat) l))) then Option.some (Go.Ev.D.tup (Go.Ev.D.acons (Go.Ev.D.sl Go.Ev.RTy.u8 Bool.false ([] ++ [] ++ Go.Ev.leB p (3 : Nat) ++ [UInt8.ofNat (Int.toNat (bif y then (1 : Int) else (0 : Int))), UInt8.ofNat (Int.toNat (Go.IntKind.wrap Go.IntKind.u8 (↑(List.length l) : Int)))] ++ List.flatMap Go.Ev.wBytes (List.drop (0 : Nat) l))) (Go.Ev.D.acons (Go.Ev.D.int Go.IntKind.i64 (0 : Int)) Go.Ev.D.anil))) else Option.none else Option.none else Option.none else Option.none else Option.none else Option.none) := by kernel_rfl
theorem bytesRf_ok (p : Int) (y : Bool) (c : Bool) (l : List Write) (h : (lenOK l.length) = true) : bytesRf_e p y c l = some (.tup (.acons (.sl (C := RC) .u8 (!mayB ⟨p, y, l⟩) (bif mayB ⟨p, y, l⟩ then bytesR ⟨p, y, l⟩ else [])) (.acons (.int .i64 (bif mayB ⟨p, y, l⟩ then 0 else 2)) .anil))) := by
  rw [bytesRf_eq]
  rw [h]
  have hlen := lenOK_le h
  cases hm : mayB ⟨p, y, l⟩
  · rfl
  · obtain ⟨hp, hl, hw⟩ := may_facts hm
    have f3 := fits3 (n := p) (by rw [withinB_iff]; omega)
    have hy : UInt8.ofNat (Int.toNat (bif y then 1 else 0)) = byteOf (bif y then 1 else 0) := by cases y <;> rfl
    have hb : UInt8.ofNat (IntKind.u8.wrap (l.length : Int)).toNat = byteOf l.length := rfl
    have e1 : (p ≤ 9223372036854775807 ∧ 1 ≤ (3 : Int) ∧ (3 : Int) ≤ 6) := by omega
    have e2 : l.length ≤ 1000000 := by omega
    have e3 : 0 ≤ p := by omega
    have e4 : p ≤ 9223372036854775807 := by omega
    simp [hy, hb, f3, e1, e2, e3, e4, leB_length, bytesR, leB1]
noncomputable def ui_3 := ui_2.addSpec 23 bytesRf_sp
theorem ui_3_laws : FLaws Try.prog s05 ui_3 := ui_2_laws.addEv s05_laws fun args d h => by
  unfold bytesRf_sp at h
  split at h
  · unfold bytesRf_s at h
    have h1 := congrArg Prod.fst (Option.some.inj h)
    obtain rfl : _ = d := congrArg Prod.snd (Option.some.inj h)
    exact ⟨by simp [D.refs], 40, bytesRf_ok _ _ _ _ h1⟩
  · cases h
end Go.Ev

