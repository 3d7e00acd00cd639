/-
  CkptPlace returns true for any number and any state, and they read behind the call as before. (text 4 of 6)
-/
import Derived.Test.YtlcabbnadilalaaP2
namespace Go.Ev
open Go.Proofs
set_option maxRecDepth 100000
set_option linter.unusedVariables false
set_option linter.unusedSimpArgs false
def stands_s (p : Int) (ci : Bool) (items : List Item) (k0 : Bool) (k1 : Bool) (k2 : Bool) (l0 : List Line) (l1 : List Line) (l2 : List Line) (c0 : Int) (c1 : Int) (c2 : Int) : Option (Bool × D RC) := some (decide (items.length ≤ 9223372036854775807 ∧ l0.length ≤ 9223372036854775807 ∧ l1.length ≤ 9223372036854775807 ∧ l2.length ≤ 9223372036854775807), .bool (standsOK ⟨p, items, l0, l1, l2, c0, c1, c2⟩))
def stands_sp : List (D RC) → Option (Bool × D RC)
  | [.acons (.int .i64 p) (.acons (.sl .item ci items) (.acons (.acons (.sl .line k0 l0) (.acons (.sl .line k1 l1) (.acons (.sl .line k2 l2) .anil))) (.acons (.arr .int 3 [c0, c1, c2]) .anil)))] => stands_s p ci items k0 k1 k2 l0 l1 l2 c0 c1 c2
  | _ => none
noncomputable def stands_e (p : Int) (ci : Bool) (items : List Item) (k0 : Bool) (k1 : Bool) (k2 : Bool) (l0 : List Line) (l1 : List Line) (l2 : List Line) (c0 : Int) (c1 : Int) (c2 : Int) := evF s07 ub_3 30 52 [.acons (.int .i64 p) (.acons (.sl (C := RC) .item ci items) (.acons (.acons (.sl (C := RC) .line k0 l0) (.acons (.sl (C := RC) .line k1 l1) (.acons (.sl (C := RC) .line k2 l2) .anil))) (.acons (.arr (C := RC) .int 3 [c0, c1, c2]) .anil)))]
theorem stands_eq (p : Int) (ci : Bool) (items : List Item) (k0 : Bool) (k1 : Bool) (k2 : Bool) (l0 : List Line) (l1 : List Line) (l2 : List Line) (c0 : Int) (c1 : Int) (c2 : Int) : stands_e p ci items k0 k1 k2 l0 l1 l2 c0 c1 c2 = (bif !withinB p (0 : Int) (1048575 : Int) then some (D.bool false) else bif lenOK items.length then bif decide ((↑items.length : Int) = (↑items.length : Int)) && true && decide (List.length items ≤ (9223372036854775807 : Nat)) then bif eachAt (oneIB p) twoIB items (0 : Nat) then bif !withinB c0 (0 : Int) p then some (D.bool false) else bif lenOK l0.length then bif decide ((16 : Int) < (↑l0.length : Int)) then some (D.bool false) else bif lenOK l0.length then bif decide ((0 : Int) < (↑l0.length : Int)) then bif decide ((0 : Int) ≤ (0 : Int) ∧ (0 : Int) < (↑l0.length : Int)) then bif decide (Line.place (List.getD l0 (0 : Nat) (Line.mk (0 : Int) (0 : Int) (0 : Int) (0 : Int) (0 : Int))) ≤ c0) then some (D.bool false) else bif lenOK l0.length then bif decide ((↑l0.length : Int) = (↑l0.length : Int)) && true && decide (List.length l0 ≤ (9223372036854775807 : Nat)) then bif eachAt (oneLB p) twoLB l0 (0 : Nat) then bif !withinB c1 (0 : Int) p then some (D.bool false) else bif lenOK l1.length then bif decide ((16 : Int) < (↑l1.length : Int)) then some (D.bool false) else bif lenOK l1.length then bif decide ((0 : Int) < (↑l1.length : Int)) then bif decide ((0 : Int) ≤ (0 : Int) ∧ (0 : Int) < (↑l1.length : Int)) then bif decide (Line.place (List.getD l1 (0 : Nat) (Line.mk (0 : Int) (0 : Int) (0 : Int) (0 : Int) (0 : Int))) ≤ c1) then some (D.bool false) else bif lenOK l1.length then bif decide ((↑l1.length : Int) = (↑l1.length : Int)) && true && decide (List.length l1 ≤ (9223372036854775807 : Nat)) then bif eachAt (oneLB p) twoLB l1 (0 : Nat) then bif !withinB c2 (0 : Int) p then some (D.bool false) else bif lenOK l2.length then bif decide ((16 : Int) < (↑l2.length : Int)) then some (D.bool false) else bif lenOK l2.length then bif decide ((0 : Int) < (↑l2.length : Int)) then bif decide ((0 : Int) ≤ (0 : Int) ∧ (0 : Int) < (↑l2.length : Int)) then bif decide (Line.place (List.getD l2 (0 : Nat) (Line.mk (0 : Int) (0 : Int) (0 : Int) (0 : Int) (0 : Int))) ≤ c2) then some (D.bool false) else bif lenOK l2.length then bif decide ((↑l2.length : Int) = (↑l2.length : Int)) && true && decide (List.length l2 ≤ (9223372036854775807 : Nat)) then bif eachAt (oneLB p) twoLB l2 (0 : Nat) then some (D.bool true) else some (D.bool false) else none else none else none else bif lenOK l2.length then bif decide ((↑l2.length : Int) = (↑l2.length : Int)) && true && decide (List.length l2 ≤ (9223372036854775807 : Nat)) then bif eachAt (oneLB p) twoLB l2 (0 : Nat) then some (D.bool true) else some (D.bool false) else none else none else none else none else some (D.bool false) else none else none else none else bif lenOK l1.length then bif decide ((↑l1.length : Int) = (↑l1.length : Int)) && true && decide (List.length l1 ≤ (9223372036854775807 : Nat)) then bif eachAt (oneLB p) twoLB l1 (0 : Nat) then bif !withinB c2 (0 : Int) p then some (D.bool false) else bif lenOK l2.length then bif decide ((16 : Int) < (↑l2.length : Int)) then some (D.bool false) else bif lenOK l2.length then bif decide ((0 : Int) < (↑l2.length : Int)) then bif decide ((0 : Int) ≤ (0 : Int) ∧ (0 : Int) < (↑l2.length : Int)) then bif decide (Line.place (List.getD l2 (0 : Nat) (Line.mk (0 : Int) (0 : Int) (0 : Int) (0 : Int) (0 : Int))) ≤ c2) then some (D.bool false) else bif lenOK l2.length then bif decide ((↑l2.length : Int) = (↑l2.length : Int)) && true && decide (List.length l2 ≤ (9223372036854775807 : Nat)) then bif eachAt (oneLB p) twoLB l2 (0 : Nat) then some (D.bool true) else some (D.bool false) else none else none else none else bif lenOK l2.length then bif decide ((↑l2.length : Int) = (↑l2.length : Int)) && true && decide (List.length l2 ≤ (9223372036854775807 : Nat)) then bif eachAt (oneLB p) twoLB l2 (0 : Nat) then some (D.bool true) else some (D.bool false) else none else none else none else none else some (D.bool false) else none else none else none else none else some (D.bool false) else none else none else none else bif lenOK l0.length then bif decide ((↑l0.length : Int) = (↑l0.length : Int)) && true && decide (List.length l0 ≤ (9223372036854775807 : Nat)) then bif eachAt (oneLB p) twoLB l0 (0 : Nat) then bif !withinB c1 (0 : Int) p then some (D.bool false) else bif lenOK l1.length then bif decide ((16 : Int) < (↑l1.length : Int)) then some (D.bool false) else bif lenOK l1.length then bif decide ((0 : Int) < (↑l1.length : Int)) then bif decide ((0 : Int) ≤ (0 : Int) ∧ (0 : Int) < (↑l1.length : Int)) then bif decide (Line.place (List.getD l1 (0 : Nat) (Line.mk (0 : Int) (0 : Int) (0 : Int) (0 : Int) (0 : Int))) ≤ c1) then some (D.bool false) else bif lenOK l1.length then bif decide ((↑l1.length : Int) = (↑l1.length : Int)) && true && decide (List.length l1 ≤ (9223372036854775807 : Nat)) then bif eachAt (oneLB p) twoLB l1 (0 : Nat) then bif !withinB c2 (0 : Int) p then some (D.bool false) else bif lenOK l2.length then bif decide ((16 : Int) < (↑l2.length : Int)) then some (D.bool false) else bif lenOK l2.length then bif decide ((0 : Int) < (↑l2.length : Int)) then bif decide ((0 : Int) ≤ (0 : Int) ∧ (0 : Int) < (↑l2.length : Int)) then bif decide (Line.place (List.getD l2 (0 : Nat) (Line.mk (0 : Int) (0 : Int) (0 : Int) (0 : Int) (0 : Int))) ≤ c2) then some (D.bool false) else bif lenOK l2.length then bif decide ((↑l2.length : Int) = (↑l2.length : Int)) && true && decide (List.length l2 ≤ (9223372036854775807 : Nat)) then bif eachAt (oneLB p) twoLB l2 (0 : Nat) then some (D.bool true) else some (D.bool false) else none else none else none else bif lenOK l2.length then bif decide ((↑l2.length : Int) = (↑l2.length : Int)) && true && decide (List.length l2 ≤ (9223372036854775807 : Nat)) then bif eachAt (oneLB p) twoLB l2 (0 : Nat) then some (D.bool true) else some (D.bool false) else none else none else none else none else some (D.bool false) else none else none else none else bif lenOK l1.length then bif decide ((↑l1.length : Int) = (↑l1.length : Int)) && true && decide (List.length l1 ≤ (9223372036854775807 : Nat)) then bif eachAt (oneLB p) twoLB l1 (0 : Nat) then bif !withinB c2 (0 : Int) p then some (D.bool false) else bif lenOK l2.length then bif decide ((16 : Int) < (↑l2.length : Int)) then some (D.bool false) else bif lenOK l2.length then bif decide ((0 : Int) < (↑l2.length : Int)) then bif decide ((0 : Int) ≤ (0 : Int) ∧ (0 : Int) < (↑l2.length : Int)) then bif decide (Line.place (List.getD l2 (0 : Nat) (Line.mk (0 : Int) (0 : Int) (0 : Int) (0 : Int) (0 : Int))) ≤ c2) then some (D.bool false) else bif lenOK l2.length then bif decide ((↑l2.length : Int) = (↑l2.length : Int)) && true && decide (List.length l2 ≤ (9223372036854775807 : Nat)) then bif eachAt (oneLB p) twoLB l2 (0 : Nat) then some (D.bool true) else some (D.bool false) else none else none else none else bif lenOK l2.length then bif decide ((↑l2.length : Int) = (↑l2.length : Int)) && true && decide (List.length l2 ≤ (9223372036854775807 : Nat)) then bif eachAt (oneLB p) twoLB l2 (0 : Nat) then some (D.bool true) else some (D.bool false) else none else none else none else none else some (D.bool false) else none else none else none else none else some (D.bool false) else none else none else none else none else some (D.bool false) else none else none) := by kernel_rfl
theorem stands_ok (p : Int) (ci : Bool) (items : List Item) (k0 : Bool) (k1 : Bool) (k2 : Bool) (l0 : List Line) (l1 : List Line) (l2 : List Line) (c0 : Int) (c1 : Int) (c2 : Int) (h : (decide (items.length ≤ 9223372036854775807 ∧ l0.length ≤ 9223372036854775807 ∧ l1.length ≤ 9223372036854775807 ∧ l2.length ≤ 9223372036854775807)) = true) : stands_e p ci items k0 k1 k2 l0 l1 l2 c0 c1 c2 = some (.bool (standsOK ⟨p, items, l0, l1, l2, c0, c1, c2⟩)) := by
  rw [stands_eq]
  obtain ⟨h, h0, h1, h2⟩ := of_decide_eq_true h
  have b := lenOK_of h
  have b0 := lenOK_of h0
  have b1 := lenOK_of h1
  have b2 := lenOK_of h2
  have i0 : ∀ l : List Line, decide (0 ≤ (0 : Int) ∧ (0 : Int) < l.length) = !l.isEmpty := fun l => by cases l <;> simp
  have n0 : ∀ l : List Line, decide (0 < (l.length : Int)) = !l.isEmpty := fun l => by cases l <;> simp
  have n16 : ∀ l : List Line, decide (16 < (l.length : Int)) = !decide (l.length ≤ 16) := fun l => by
    by_cases h : l.length ≤ 16 <;> simp [h]
    · omega
    · omega
  have nle : ∀ a b : Int, decide (a ≤ b) = !decide (b < a) := fun a b => by
    by_cases h : b < a <;> simp [h] <;> omega
  simp only [standsOK, partOK, b, b0, b1, b2, h, h0, h1, h2, decide_true, cond_true, i0, n0, n16, nle (Line.place _)]
  generalize withinB p 0 1048575 = x1
  generalize eachAt (oneIB p) twoIB items 0 = x2
  generalize withinB c0 0 p = x3
  generalize withinB c1 0 p = x4
  generalize withinB c2 0 p = x5
  generalize eachAt (oneLB p) twoLB l0 0 = x6
  generalize eachAt (oneLB p) twoLB l1 0 = x7
  generalize eachAt (oneLB p) twoLB l2 0 = x8
  generalize decide (l0.length ≤ 16) = x9
  generalize decide (l1.length ≤ 16) = x10
  generalize decide (l2.length ≤ 16) = x11
  generalize decide (c0 < (l0.getD 0 ⟨0, 0, 0, 0, 0⟩).place) = x12
  generalize decide (c1 < (l1.getD 0 ⟨0, 0, 0, 0, 0⟩).place) = x13
  generalize decide (c2 < (l2.getD 0 ⟨0, 0, 0, 0, 0⟩).place) = x14
  generalize l0.isEmpty = x15
  generalize l1.isEmpty = x16
  generalize l2.isEmpty = x17
  cases x1; · rfl
  cases x2; · rfl
  cases x3; · rfl
  cases x9; · rfl
  cases x6
  · cases x15 <;> cases x12 <;> rfl
  cases x4; · cases x15 <;> cases x12 <;> rfl
  cases x10; · cases x15 <;> cases x12 <;> rfl
  cases x7; · cases x15 <;> cases x12 <;> cases x16 <;> cases x13 <;> rfl
  cases x5; · cases x15 <;> cases x12 <;> cases x16 <;> cases x13 <;> rfl
  cases x11; · cases x15 <;> cases x12 <;> cases x16 <;> cases x13 <;> rfl
  cases x15 <;> cases x12 <;> cases x16 <;> cases x13 <;> cases x17 <;> cases x14 <;> cases x8 <;> rfl
noncomputable def uc_1 := ub_3.addSpec 52 stands_sp
theorem uc_1_laws : FLaws Try.prog s07 uc_1 := ub_3_laws.addEv s07_laws fun args d h => by
  unfold stands_sp at h
  split at h
  · unfold stands_s at h
    have h1 := congrArg Prod.fst (Option.some.inj h)
    obtain rfl : _ = d := congrArg Prod.snd (Option.some.inj h)
    exact ⟨by simp [D.refs], 30, stands_ok _ _ _ _ _ _ _ _ _ _ _ _ h1⟩
  · cases h
open Go.Proofs
structure sbItems_St where
  cp : Bool
  bs : List UInt8
  c : Bool
  l : List Item
  i : Nat
def sbItems_c (cp : Bool) (bs : List UInt8) (c : Bool) (l : List Item) (i : Nat) : Env RC := [(4, .ptr 0 []), (27, .sl (C := RC) .item c l), (28, .int .i64 (l.length)), (29, .int .i64 (i : Int))]
def sbItems_o (cp : Bool) (bs : List UInt8) (c : Bool) (l : List Item) (i : Nat) : List (Obj RC) := [.var 91 (.acons (.sl (C := RC) .u8 cp bs) .anil)]
noncomputable def sbItems_r (cp : Bool) (bs : List UInt8) (c : Bool) (l : List Item) (i : Nat) := rndO s07 uc_1 38 7 40 1 [4, 27, 28, 29] [] [.slot 4 0] (sbItems_c cp bs c l i) (sbItems_o cp bs c l i)
theorem sbItems_eq (cp : Bool) (bs : List UInt8) (c : Bool) (l : List Item) (i : Nat) : sbItems_r cp bs c l i = (bif decide ((↑i : Int) < (↑l.length : Int)) then bif decide ((0 : Int) ≤ (↑i : Int) ∧ (↑i : Int) < (↑l.length : Int)) then bif decide (List.length bs ≤ (1000000000 : Nat)) then bif decide (List.length (putL bs (Item.key (List.getD l (↑i : Int).toNat (Item.mk (0 : Int) (0 : Int) (0 : Int)))) (1 : Nat)) ≤ (1000000000 : Nat)) then bif decide (List.length (putL (putL bs (Item.key (List.getD l (↑i : Int).toNat (Item.mk (0 : Int) (0 : Int) (0 : Int)))) (1 : Nat)) (Item.place (List.getD l (↑i : Int).toNat (Item.mk (0 : Int) (0 : Int) (0 : Int)))) (3 : Nat)) ≤ (1000000000 : Nat)) then some ((X.normal, [((4 : Nat), D.ptr (0 : Nat) []), ((27 : Nat), D.sl RTy.item c l), ((28 : Nat), D.int .i64 (↑l.length : Int)), ((29 : Nat), D.int .i64 (IntKind.wrap .i64 ((↑i : Int) + (1 : Int))))]), [some (Obj.var (91 : Nat) (.acons (D.sl RTy.u8 (!fitsB (Item.value (List.getD l (↑i : Int).toNat (Item.mk (0 : Int) (0 : Int) (0 : Int)))) (1 : Nat)) (putL (putL (putL bs (Item.key (List.getD l (↑i : Int).toNat (Item.mk (0 : Int) (0 : Int) (0 : Int)))) (1 : Nat)) (Item.place (List.getD l (↑i : Int).toNat (Item.mk (0 : Int) (0 : Int) (0 : Int)))) (3 : Nat)) (Item.value (List.getD l (↑i : Int).toNat (Item.mk (0 : Int) (0 : Int) (0 : Int)))) (1 : Nat))) .anil))]) else none else none else none else none else some ((X.exit (0 : Nat), []), [some (Obj.var (91 : Nat) (.acons (D.sl RTy.u8 cp bs) .anil))])) := by kernel_rfl
def sbItems_fin (cp : Bool) (bs : List UInt8) (c : Bool) (l : List Item) (i : Nat) : RT RC := .leaf (.exit 0) [] [.var 91 (.acons (.sl (C := RC) .u8 (cp && (l.drop i).isEmpty) (bs ++ (l.drop i).flatMap iBytes)) .anil)]
def sbItems_Inv (cp : Bool) (bs : List UInt8) (c : Bool) (l : List Item) (i : Nat) : Prop := i ≤ l.length ∧ l.length ≤ 1000000 ∧ bs.length ≤ 1000000 + 5 * i ∧ l.all fitI = true
def sbItems_S : LoopR RC sbItems_St where
  k := 1
  canon q := sbItems_c q.cp q.bs q.c q.l q.i
  objs q := sbItems_o q.cp q.bs q.c q.l q.i
  fin q := sbItems_fin q.cp q.bs q.c q.l q.i
  Inv q := sbItems_Inv q.cp q.bs q.c q.l q.i
  μ q := q.l.length - q.i
theorem sbItems_round (cp : Bool) (bs : List UInt8) (c : Bool) (l : List Item) (i : Nat) (hI : sbItems_Inv cp bs c l i) : Leaf (sbItems_r cp bs c l i) (LedR sbItems_S ⟨cp, bs, c, l, i⟩) := by
  rw [sbItems_eq]
  unfold sbItems_Inv at hI
  obtain ⟨h1, h2, h3, h4⟩ := hI
  by_cases hlt : i < l.length
  · have w_succ : IntKind.i64.wrap ((i : Int) + 1) = ((i + 1 : Nat) : Int) := by rw [wrap_id (by omega) (by omega)]; simp
    have d_lt : decide ((i : Int) < l.length) = true := by simp; omega
    have d_in : decide (0 ≤ (i : Int) ∧ (i : Int) < l.length) = true := by simp; omega
    have t_nat : ((i : Int)).toNat = i := by simp
    simp only [w_succ, d_lt, d_in, t_nat, cond_true]
    have hf := all_getD h4 hlt (⟨0, 0, 0⟩ : Item)
    have hd : (l.drop i).flatMap iBytes = _ := flatMap_drop_succ l i iBytes hlt (⟨0, 0, 0⟩ : Item)
    have he : (l.drop i).isEmpty = false := by simp; omega
    generalize l.getD i (⟨0, 0, 0⟩ : Item) = x at hf hd ⊢
    simp only [fitI, Bool.and_eq_true] at hf
    obtain ⟨⟨f1, f2⟩, f3⟩ := hf
    have n1 : decide (bs.length ≤ 1000000000) = true := decide_eq_true (by omega)
    have n2 : decide ((bs ++ leB x.key 1).length ≤ 1000000000) = true := decide_eq_true (by simp [leB_length]; omega)
    have n3 : decide ((bs ++ leB x.key 1 ++ leB x.place 3).length ≤ 1000000000) = true := decide_eq_true (by simp [leB_length]; omega)
    simp only [Int.toNat_one, show Int.toNat 3 = 3 from rfl, putL_fits (fits1 f1), putL_fits (fits3 f2), putL_fits (fits1 f3), fits1 f1, fits3 f2, fits1 f3, n1, n2, n3, cond_true, Bool.not_true]
    refine leafR_go ⟨false, bs ++ leB x.key 1 ++ leB x.place 3 ++ leB x.value 1, c, l, i + 1⟩ ⟨hlt, h2, by simp [leB_length]; omega, h4⟩ (by simp only [sbItems_S]; omega) ?_ rfl rfl
    simp [sbItems_S, sbItems_fin, hd, he, iBytes, RT.val]
  · have hi : i = l.length := by omega
    have c1 : decide ((i : Int) < l.length) = false := by simp; omega
    rw [c1]
    exact leafR_exit (sbItems_o cp bs c l i) (by simp [sbItems_S, sbItems_fin, sbItems_o, hi, RT.val]) rfl
def sbItems_d (env : Env RC) (os : List (Obj RC)) : Option (Bool × sbItems_St) := match env, os with
  | [(4, .ptr 0 []), (27, .sl .item c l), (28, .int .i64 x0), (29, .int .i64 x1)], [.var 91 (.acons (.sl .u8 cp bs) .anil)] => staticD (true) (decide (x0 = l.length) && decide (x1 = 0) && decide (l.length ≤ 1000000 ∧ bs.length ≤ 1000000) && l.all fitI, ⟨cp, bs, c, l, 0⟩)
  | _, _ => none
noncomputable def ud_1 := uc_1.addLoop 38 7 (sumR s07 [.slot 4 0] [4, 27, 28, 29] sbItems_S sbItems_d)
theorem ud_1_laws : FLaws Try.prog s07 ud_1 := by
  refine uc_1_laws.addRoundsR s07_laws (by kernel_rfl) sbItems_S 40 [4, 27, 28, 29] [] [.slot 4 0] [4, 27, 28, 29] sbItems_d (fun q hI => ?_) ?_
  · obtain ⟨cp, bs, c, l, i⟩ := q
    refine ⟨?_, ?_, sbItems_round cp bs c l i hI⟩
    · simp_all [RefsOK, sbItems_S, sbItems_c, sbItems_o, sbItems_Inv, D.refs, Obj.refs, rEnc]
    · simp_all [sbItems_S, sbItems_fin, sbItems_o, sbItems_Inv, RT.refsOK, RefsOK, D.refs, Obj.refs, rEnc]
  · intro env os b q hd_ hb
    unfold sbItems_d at hd_
    split at hd_
    · obtain ⟨hs, hd_⟩ := staticD_some hd_
      cases hd_
      simp only [Bool.and_eq_true, decide_eq_true_eq] at hb
      obtain ⟨⟨⟨rfl, rfl⟩, hl⟩, ha⟩ := hb
      exact ⟨⟨Nat.zero_le _, hl.1, Nat.le_trans hl.2 (Nat.le_add_right _ _), ha⟩, rfl, rfl⟩
    · cases hd_
structure sbLines_St where
  cp : Bool
  bs : List UInt8
  c : Bool
  l : List Line
  i : Nat
def sbLines_c (cp : Bool) (bs : List UInt8) (c : Bool) (l : List Line) (i : Nat) : Env RC := [(4, .ptr 0 []), (72, .sl (C := RC) .line c l), (73, .int .i64 (l.length)), (74, .int .i64 (i : Int))]
def sbLines_o (cp : Bool) (bs : List UInt8) (c : Bool) (l : List Line) (i : Nat) : List (Obj RC) := [.var 91 (.acons (.sl (C := RC) .u8 cp bs) .anil)]
noncomputable def sbLines_r (cp : Bool) (bs : List UInt8) (c : Bool) (l : List Line) (i : Nat) := rndO s07 ud_1 38 23 40 1 [4, 72, 73, 74] [] [.slot 4 0] (sbLines_c cp bs c l i) (sbLines_o cp bs c l i)
theorem sbLines_eq (cp : Bool) (bs : List UInt8) (c : Bool) (l : List Line) (i : Nat) : sbLines_r cp bs c l i = (bif decide ((↑i : Int) < (↑l.length : Int)) then bif decide ((0 : Int) ≤ (↑i : Int) ∧ (↑i : Int) < (↑l.length : Int)) then bif decide (List.length bs ≤ (1000000000 : Nat)) then bif decide (List.length (putL bs (Line.place (List.getD l (↑i : Int).toNat (Line.mk (0 : Int) (0 : Int) (0 : Int) (0 : Int) (0 : Int)))) (3 : Nat)) ≤ (1000000000 : Nat)) then bif decide (List.length (putL (putL bs (Line.place (List.getD l (↑i : Int).toNat (Line.mk (0 : Int) (0 : Int) (0 : Int) (0 : Int) (0 : Int)))) (3 : Nat)) (bits .i64 (fun (x : Nat) (u v : BitVec x) => u ||| v) (IntKind.wrap .i64 (Line.key (List.getD l (↑i : Int).toNat (Line.mk (0 : Int) (0 : Int) (0 : Int) (0 : Int) (0 : Int))) * (16 : Int))) (Line.j (List.getD l (↑i : Int).toNat (Line.mk (0 : Int) (0 : Int) (0 : Int) (0 : Int) (0 : Int))))) (1 : Nat)) ≤ (1000000000 : Nat)) then some ((X.normal, [((4 : Nat), D.ptr (0 : Nat) []), ((72 : Nat), D.sl RTy.line c l), ((73 : Nat), D.int .i64 (↑l.length : Int)), ((74 : Nat), D.int .i64 (IntKind.wrap .i64 ((↑i : Int) + (1 : Int))))]), [some (Obj.var (91 : Nat) (.acons (D.sl RTy.u8 (!fitsB (Line.value (List.getD l (↑i : Int).toNat (Line.mk (0 : Int) (0 : Int) (0 : Int) (0 : Int) (0 : Int)))) (1 : Nat)) (putL (putL (putL bs (Line.place (List.getD l (↑i : Int).toNat (Line.mk (0 : Int) (0 : Int) (0 : Int) (0 : Int) (0 : Int)))) (3 : Nat)) (bits .i64 (fun (x : Nat) (u v : BitVec x) => u ||| v) (IntKind.wrap .i64 (Line.key (List.getD l (↑i : Int).toNat (Line.mk (0 : Int) (0 : Int) (0 : Int) (0 : Int) (0 : Int))) * (16 : Int))) (Line.j (List.getD l (↑i : Int).toNat (Line.mk (0 : Int) (0 : Int) (0 : Int) (0 : Int) (0 : Int))))) (1 : Nat)) (Line.value (List.getD l (↑i : Int).toNat (Line.mk (0 : Int) (0 : Int) (0 : Int) (0 : Int) (0 : Int)))) (1 : Nat))) .anil))]) else none else none else none else none else some ((X.exit (4 : Nat), []), [some (Obj.var (91 : Nat) (.acons (D.sl RTy.u8 cp bs) .anil))])) := by kernel_rfl
def sbLines_fin (cp : Bool) (bs : List UInt8) (c : Bool) (l : List Line) (i : Nat) : RT RC := .leaf (.exit 4) [] [.var 91 (.acons (.sl (C := RC) .u8 (cp && (l.drop i).isEmpty) (bs ++ (l.drop i).flatMap lBytes)) .anil)]
def sbLines_Inv (cp : Bool) (bs : List UInt8) (c : Bool) (l : List Line) (i : Nat) : Prop := i ≤ l.length ∧ l.length ≤ 1000000 ∧ bs.length ≤ 1000000 + 5 * i ∧ l.all fitLn = true
def sbLines_S : LoopR RC sbLines_St where
  k := 1
  canon q := sbLines_c q.cp q.bs q.c q.l q.i
  objs q := sbLines_o q.cp q.bs q.c q.l q.i
  fin q := sbLines_fin q.cp q.bs q.c q.l q.i
  Inv q := sbLines_Inv q.cp q.bs q.c q.l q.i
  μ q := q.l.length - q.i
theorem sbLines_round (cp : Bool) (bs : List UInt8) (c : Bool) (l : List Line) (i : Nat) (hI : sbLines_Inv cp bs c l i) : Leaf (sbLines_r cp bs c l i) (LedR sbLines_S ⟨cp, bs, c, l, i⟩) := by
  rw [sbLines_eq]
  unfold sbLines_Inv at hI
  obtain ⟨h1, h2, h3, h4⟩ := hI
  by_cases hlt : i < l.length
  · have w_succ : IntKind.i64.wrap ((i : Int) + 1) = ((i + 1 : Nat) : Int) := by rw [wrap_id (by omega) (by omega)]; simp
    have d_lt : decide ((i : Int) < l.length) = true := by simp; omega
    have d_in : decide (0 ≤ (i : Int) ∧ (i : Int) < l.length) = true := by simp; omega
    have t_nat : ((i : Int)).toNat = i := by simp
    simp only [w_succ, d_lt, d_in, t_nat, cond_true]
    have hf := all_getD h4 hlt (⟨0, 0, 0, 0, 0⟩ : Line)
    have hd : (l.drop i).flatMap lBytes = _ := flatMap_drop_succ l i lBytes hlt (⟨0, 0, 0, 0, 0⟩ : Line)
    have he : (l.drop i).isEmpty = false := by simp; omega
    generalize l.getD i (⟨0, 0, 0, 0, 0⟩ : Line) = x at hf hd ⊢
    simp only [fitLn, Bool.and_eq_true] at hf
    obtain ⟨⟨⟨f1, f2⟩, f3⟩, f4⟩ := hf
    have f5 : withinB (x.key * 16 + x.j) 0 255 = true := by rw [withinB_iff] at f2 f3 ⊢; omega
    have n1 : decide (bs.length ≤ 1000000000) = true := decide_eq_true (by omega)
    have n2 : decide ((bs ++ leB x.place 3).length ≤ 1000000000) = true := decide_eq_true (by simp [leB_length]; omega)
    have n3 : decide ((bs ++ leB x.place 3 ++ leB (x.key * 16 + x.j) 1).length ≤ 1000000000) = true := decide_eq_true (by simp [leB_length]; omega)
    have hb : bits .i64 (fun _ u v => u ||| v) (IntKind.i64.wrap (x.key * 16)) x.j = x.key * 16 + x.j := bits_or_low f2 f3
    simp only [hb, Int.toNat_one, show Int.toNat 3 = 3 from rfl, putL_fits (fits3 f1), putL_fits (fits1 f5), putL_fits (fits1 f4), fits3 f1, fits1 f5, fits1 f4, n1, n2, n3, cond_true, Bool.not_true]
    refine leafR_go ⟨false, bs ++ leB x.place 3 ++ leB (x.key * 16 + x.j) 1 ++ leB x.value 1, c, l, i + 1⟩ ⟨hlt, h2, by simp [leB_length]; omega, h4⟩ (by simp only [sbLines_S]; omega) ?_ rfl rfl
    simp [sbLines_S, sbLines_fin, hd, he, lBytes, RT.val]
  · have hi : i = l.length := by omega
    have c1 : decide ((i : Int) < l.length) = false := by simp; omega
    rw [c1]
    exact leafR_exit (sbLines_o cp bs c l i) (by simp [sbLines_S, sbLines_fin, sbLines_o, hi, RT.val]) rfl
def sbLines_d (env : Env RC) (os : List (Obj RC)) : Option (Bool × sbLines_St) := match env, os with
  | [(4, .ptr 0 []), (72, .sl .line c l), (73, .int .i64 x0), (74, .int .i64 x1)], [.var 91 (.acons (.sl .u8 cp bs) .anil)] => staticD (true) (decide (x0 = l.length) && decide (x1 = 0) && decide (l.length ≤ 1000000 ∧ bs.length ≤ 1000000) && l.all fitLn, ⟨cp, bs, c, l, 0⟩)
  | _, _ => none
noncomputable def ud_2 := ud_1.addLoop 38 23 (sumR s07 [.slot 4 0] [4, 72, 73, 74] sbLines_S sbLines_d)
theorem ud_2_laws : FLaws Try.prog s07 ud_2 := by
  refine ud_1_laws.addRoundsR s07_laws (by kernel_rfl) sbLines_S 40 [4, 72, 73, 74] [] [.slot 4 0] [4, 72, 73, 74] sbLines_d (fun q hI => ?_) ?_
  · obtain ⟨cp, bs, c, l, i⟩ := q
    refine ⟨?_, ?_, sbLines_round cp bs c l i hI⟩
    · simp_all [RefsOK, sbLines_S, sbLines_c, sbLines_o, sbLines_Inv, D.refs, Obj.refs, rEnc]
    · simp_all [sbLines_S, sbLines_fin, sbLines_o, sbLines_Inv, RT.refsOK, RefsOK, D.refs, Obj.refs, rEnc]
  · intro env os b q hd_ hb
    unfold sbLines_d at hd_
    split at hd_
    · obtain ⟨hs, hd_⟩ := staticD_some hd_
      cases hd_
      simp only [Bool.and_eq_true, decide_eq_true_eq] at hb
      obtain ⟨⟨⟨rfl, rfl⟩, hl⟩, ha⟩ := hb
      exact ⟨⟨Nat.zero_le _, hl.1, Nat.le_trans hl.2 (Nat.le_add_right _ _), ha⟩, rfl, rfl⟩
    · cases hd_
def stateBytes_s (p : Int) (ci : Bool) (items : List Item) (k0 : Bool) (k1 : Bool) (k2 : Bool) (l0 : List Line) (l1 : List Line) (l2 : List Line) (c0 : Int) (c1 : Int) (c2 : Int) : Option (Bool × D RC) := some (decide (items.length ≤ 9223372036854775807 ∧ l0.length ≤ 9223372036854775807 ∧ l1.length ≤ 9223372036854775807 ∧ l2.length ≤ 9223372036854775807), .tup (.acons (.sl (C := RC) .u8 (!standsOK ⟨p, items, l0, l1, l2, c0, c1, c2⟩) (bif standsOK ⟨p, items, l0, l1, l2, c0, c1, c2⟩ then stBytes ⟨p, items, l0, l1, l2, c0, c1, c2⟩ else [])) (.acons (.int .i64 (bif standsOK ⟨p, items, l0, l1, l2, c0, c1, c2⟩ then 0 else 2)) .anil)))
def stateBytes_sp : List (D RC) → Option (Bool × D RC)
  | [.acons (.int .i64 p) (.acons (.sl .item ci items) (.acons (.acons (.sl .line k0 l0) (.acons (.sl .line k1 l1) (.acons (.sl .line k2 l2) .anil))) (.acons (.arr .int 3 [c0, c1, c2]) .anil)))] => stateBytes_s p ci items k0 k1 k2 l0 l1 l2 c0 c1 c2
  | _ => none
noncomputable def stateBytes_e (p : Int) (ci : Bool) (items : List Item) (k0 : Bool) (k1 : Bool) (k2 : Bool) (l0 : List Line) (l1 : List Line) (l2 : List Line) (c0 : Int) (c1 : Int) (c2 : Int) := evF s07 ud_2 40 38 [.acons (.int .i64 p) (.acons (.sl (C := RC) .item ci items) (.acons (.acons (.sl (C := RC) .line k0 l0) (.acons (.sl (C := RC) .line k1 l1) (.acons (.sl (C := RC) .line k2 l2) .anil))) (.acons (.arr (C := RC) .int 3 [c0, c1, c2]) .anil)))]
set_option maxHeartbeats 4000000 in
theorem stateBytes_eq (p : Int) (ci : Bool) (items : List Item) (k0 : Bool) (k1 : Bool) (k2 : Bool) (l0 : List Line) (l1 : List Line) (l2 : List Line) (c0 : Int) (c1 : Int) (c2 : Int) : stateBytes_e p ci items k0 k1 k2 l0 l1 l2 c0 c1 c2 = (bif decide (List.length items ≤ (9223372036854775807 : Nat) ∧ List.length l0 ≤ (9223372036854775807 : Nat) ∧ List.length l1 ≤ (9223372036854775807 : Nat) ∧ List.length l2 ≤ (9223372036854775807 : Nat)) then bif !standsOK (St.mk p items l0 l1 l2 c0 c1 c2) then some (D.tup (D.acons (D.sl RTy.u8 true []) (.acons (D.int .i64 (2 : Int)) .anil))) else bif lenOK items.length then bif decide (List.length (putL [] p (3 : Nat)) ≤ (1000000000 : Nat)) then bif lenOK items.length then bif decide ((↑items.length : Int) = (↑items.length : Int)) && true && decide (List.length items ≤ (1000000 : Nat) ∧ List.length (putL (putL [] p (3 : Nat)) (↑items.length : Int) (1 : Nat)) ≤ (1000000 : Nat)) && List.all items fitI then bif lenOK l0.length then bif decide ((0 : Int) < (↑l0.length : Int)) then bif decide ((0 : Int) ≤ (0 : Int) ∧ (0 : Int) < (↑l0.length : Int)) then bif decide (List.length (putL (putL [] p (3 : Nat)) (↑items.length : Int) (1 : Nat) ++ List.flatMap iBytes (List.drop (0 : Nat) items)) ≤ (1000000000 : Nat)) then bif lenOK l0.length then bif decide (List.length (putL (putL (putL [] p (3 : Nat)) (↑items.length : Int) (1 : Nat) ++ List.flatMap iBytes (List.drop (0 : Nat) items)) c0 (3 : Nat)) ≤ (1000000000 : Nat)) then bif decide (List.length (putL (putL (putL (putL [] p (3 : Nat)) (↑items.length : Int) (1 : Nat) ++ List.flatMap iBytes (List.drop (0 : Nat) items)) c0 (3 : Nat)) (↑l0.length : Int) (1 : Nat)) ≤ (1000000000 : Nat)) then bif lenOK l0.length then bif decide ((↑l0.length : Int) = (↑l0.length : Int)) && true && decide (List.length l0 ≤ (1000000 : Nat) ∧ List.length (putL (putL (putL (putL (putL [] p (3 : Nat)) (↑items.length : Int) (1 : Nat) ++ List.flatMap iBytes (List.drop (0 : Nat) items)) c0 (3 : Nat)) (↑l0.length : Int) (1 : Nat)) (Line.offset (List.getD l0 (0 : Nat) (Line.mk (0 : Int) (0 : Int) (0 : Int) (0 : Int) (0 : Int)))) (3 : Nat)) ≤ (1000000 : Nat)) && List.all l0 fitLn then bif lenOK l1.length then bif decide ((0 : Int) < (↑l1.length : Int)) then bif decide ((0 : Int) ≤ (0 : Int) ∧ (0 : Int) < (↑l1.length : Int)) then bif decide (List.length (putL (putL (putL (putL (putL [] p (3 : Nat)) (↑items.length : Int) (1 : Nat) ++ List.flatMap iBytes (List.drop (0 : Nat) items)) c0 (3 : Nat)) (↑l0.length : Int) (1 : Nat)) (Line.offset (List.getD l0 (0 : Nat) (Line.mk (0 : Int) (0 : Int) (0 : Int) (0 : Int) (0 : Int)))) (3 : Nat) ++ List.flatMap lBytes (List.drop (0 : Nat) l0)) ≤ (1000000000 : Nat)) then bif lenOK l1.length then bif decide (List.length (putL (putL (putL (putL (putL (putL [] p (3 : Nat)) (↑items.length : Int) (1 : Nat) ++ List.flatMap iBytes (List.drop (0 : Nat) items)) c0 (3 : Nat)) (↑l0.length : Int) (1 : Nat)) (Line.offset (List.getD l0 (0 : Nat) (Line.mk (0 : Int) (0 : Int) (0 : Int) (0 : Int) (0 : Int)))) (3 : Nat) ++ List.flatMap lBytes (List.drop (0 : Nat) l0)) c1 (3 : Nat)) ≤ (1000000000 : Nat)) then bif decide (List.length (putL (putL (putL (putL (putL (putL (putL [] p (3 : Nat)) (↑items.length : Int) (1 : Nat) ++ List.flatMap iBytes (List.drop (0 : Nat) items)) c0 (3 : Nat)) (↑l0.length : Int) (1 : Nat)) (Line.offset (List.getD l0 (0 : Nat) (Line.mk (0 : Int) (0 : Int) (0 : Int) (0 : Int) (0 : Int)))) (3 : Nat) ++ List.flatMap lBytes (List.drop (0 : Nat) l0)) c1 (3 : Nat)) (↑l1.length : Int) (1 : Nat)) ≤ (1000000000 : Nat)) then bif lenOK l1.length then bif decide ((↑l1.length : Int) = (↑l1.length : Int)) && true && decide (List.length l1 ≤ (1000000 : Nat) ∧ List.length (putL (putL (putL (putL (putL (putL (putL (putL [] p (3 : Nat)) (↑items.length : Int) (1 : Nat) ++ List.flatMap iBytes (List.drop (0 : Nat) items)) c0 (3 : Nat)) (↑l0.length : Int) (1 : Nat)) (Line.offset (List.getD l0 (0 : Nat) (Line.mk (0 : Int) (0 : Int) (0 : Int) (0 : Int) (0 : Int)))) (3 : Nat) ++ List.flatMap lBytes (List.drop (0 : Nat) l0)) c1 (3 : Nat)) (↑l1.length : Int) (1 : Nat)) (Line.offset (List.getD l1 (0 : Nat) (Line.mk (0 : Int) (0 : Int) (0 : Int) (0 : Int) (0 : Int)))) (3 : Nat)) ≤ (1000000 : Nat)) && List.all l1 fitLn then bif lenOK l2.length then bif decide ((0 : Int) < (↑l2.length : Int)) then bif decide ((0 : Int) ≤ (0 : Int) ∧ (0 : Int) < (↑l2.length : Int)) then bif decide (List.length (putL (putL (putL (putL (putL (putL (putL (putL [] p (3 : Nat)) (↑items.length : Int) (1 : Nat) ++ List.flatMap iBytes (List.drop (0 : Nat) items)) c0 (3 : Nat)) (↑l0.length : Int) (1 : Nat)) (Line.offset (List.getD l0 (0 : Nat) (Line.mk (0 : Int) (0 : Int) (0 : Int) (0 : Int) (0 : Int)))) (3 : Nat) ++ List.flatMap lBytes (List.drop (0 : Nat) l0)) c1 (3 : Nat)) (↑l1.length : Int) (1 : Nat)) (Line.offset (List.getD l1 (0 : Nat) (Line.mk (0 : Int) (0 : Int) (0 : Int) (0 : Int) (0 : Int)))) (3 : Nat) ++ List.flatMap lBytes (List.drop (0 : Nat) l1)) ≤ (1000000000 : Nat)) then bif lenOK l2.length then bif decide (List.length (putL (putL (putL (putL (putL (putL (putL (putL (putL [] p (3 : Nat)) (↑items.length : Int) (1 : Nat) ++ List.flatMap iBytes (List.drop (0 : Nat) items)) c0 (3 : Nat)) (↑l0.length : Int) (1 : Nat)) (Line.offset (List.getD l0 (0 : Nat) (Line.mk (0 : Int) (0 : Int) (0 : Int) (0 : Int) (0 : Int)))) (3 : Nat) ++ List.flatMap lBytes (List.drop (0 : Nat) l0)) c1 (3 : Nat)) (↑l1.length : Int) (1 : Nat)) (Line.offset (List.getD l1 (0 : Nat) (Line.mk (0 : Int) (0 : Int) (0 : Int) (0 : Int) (0 : Int)))) (3 : Nat) ++ List.flatMap lBytes (List.drop (0 : Nat) l1)) c2 (3 : Nat)) ≤ (1000000000 : Nat)) then bif decide (List.length (putL (putL (putL (putL (putL (putL (putL (putL (putL (putL [] p (3 : Nat)) (↑items.length : Int) (1 : Nat) ++ List.flatMap iBytes (List.drop (0 : Nat) items)) c0 (3 : Nat)) (↑l0.length : Int) (1 : Nat)) (Line.offset (List.getD l0 (0 : Nat) (Line.mk (0 : Int) (0 : Int) (0 : Int) (0 : Int) (0 : Int)))) (3 : Nat) ++ List.flatMap lBytes (List.drop (0 : Nat) l0)) c1 (3 : Nat)) (↑l1.length : Int) (1 : Nat)) (Line.offset (List.getD l1 (0 : Nat) (Line.mk (0 : Int) (0 : Int) (0 : Int) (0 : Int) (0 : Int)))) (3 : Nat) ++ List.flatMap lBytes (List.drop (0 : Nat) l1)) c2 (3 : Nat)) (↑l2.length : Int) (1 : Nat)) ≤ (1000000000 : Nat)) then bif lenOK l2.length then bif decide ((↑l2.length : Int) = (↑l2.length : Int)) && true && decide (List.length l2 ≤ (1000000 : Nat) ∧ List.length (putL (putL (putL (putL (putL (putL (putL (putL (putL (putL (putL [] p (3 : Nat)) (↑items.length : Int) (1 : Nat) ++ List.flatMap iBytes (List.drop (0 : Nat) items)) c0 (3 : Nat)) (↑l0.length : Int) (1 : Nat)) (Line.offset (List.getD l0 (0 : Nat) (Line.mk (0 : Int) (0 : Int) (0 : Int) (0 : Int) (0 : Int)))) (3 : Nat) ++ List.flatMap lBytes (List.drop (0 : Nat) l0)) c1 (3 : Nat)) (↑l1.length : Int) (1 : Nat)) (Line.offset (List.getD l1 (0 : Nat) (Line.mk (0 : Int) (0 : Int) (0 : Int) (0 : Int) (0 : Int)))) (3 : Nat) ++ List.flatMap lBytes (List.drop (0 : Nat) l1)) c2 (3 : Nat)) (↑l2.length : Int) (1 : Nat)) (Line.offset (List.getD l2 (0 : Nat) (Line.mk (0 : Int) (0 : Int) (0 : Int) (0 : Int) (0 : Int)))) (3 : Nat)) ≤ (1000000 : Nat)) && List.all l2 fitLn then some (D.tup (D.acons (D.sl RTy.u8 (!fitsB (Line.offset (List.getD l2 (0 : Nat) (Line.mk (0 : Int) (0 : Int) (0 : Int) (0 : Int) (0 : Int)))) (3 : Nat) && List.isEmpty (List.drop (0 : Nat) l2)) (putL (putL (putL (putL (putL (putL (putL (putL (putL (putL (putL [] p (3 : Nat)) (↑items.length : Int) (1 : Nat) ++ List.flatMap iBytes (List.drop (0 : Nat) items)) c0 (3 : Nat)) (↑l0.length : Int) (1 : Nat)) (Line.offset (List.getD l0 (0 : Nat) (Line.mk (0 : Int) (0 : Int) (0 : Int) (0 : Int) (0 : Int)))) (3 : Nat) ++ List.flatMap lBytes (List.drop (0 : Nat) l0)) c1 (3 : Nat)) (↑l1.length : Int) (1 : Nat)) (Line.offset (List.getD l1 (0 : Nat) (Line.mk (0 : Int) (0 : Int) (0 : Int) (0 : Int) (0 : Int)))) (3 : Nat) ++ List.flatMap lBytes (List.drop (0 : Nat) l1)) c2 (3 : Nat)) (↑l2.length : Int) (1 : Nat)) (Line.offset (List.getD l2 (0 : Nat) (Line.mk (0 : Int) (0 : Int) (0 : Int) (0 : Int) (0 : Int)))) (3 : Nat) ++ List.flatMap lBytes (List.drop (0 : Nat) l2))) (.acons (D.int .i64 (0 : Int)) .anil))) else none else none else none else none else none else none else none else bif decide (List.length (putL (putL (putL (putL (putL (putL (putL (putL [] p (3 : Nat)) (↑items.length : Int) (1 : Nat) ++ List.flatMap iBytes (List.drop (0 : Nat) items)) c0 (3 : Nat)) (↑l0.length : Int) (1 : Nat)) (Line.offset (List.getD l0 (0 : Nat) (Line.mk (0 : Int) (0 : Int) (0 : Int) (0 : Int) (0 : Int)))) (3 : Nat) ++ List.flatMap lBytes (List.drop (0 : Nat) l0)) c1 (3 : Nat)) (↑l1.length : Int) (1 : Nat)) (Line.offset (List.getD l1 (0 : Nat) (Line.mk (0 : Int) (0 : Int) (0 : Int) (0 : Int) (0 : Int)))) (3 : Nat) ++ List.flatMap lBytes (List.drop (0 : Nat) l1)) ≤ (1000000000 : Nat)) then bif lenOK l2.length then bif decide (List.length (putL (putL (putL (putL (putL (putL (putL (putL (putL [] p (3 : Nat)) (↑items.length : Int) (1 : Nat) ++ List.flatMap iBytes (List.drop (0 : Nat) items)) c0 (3 : Nat)) (↑l0.length : Int) (1 : Nat)) (Line.offset (List.getD l0 (0 : Nat) (Line.mk (0 : Int) (0 : Int) (0 : Int) (0 : Int) (0 : Int)))) (3 : Nat) ++ List.flatMap lBytes (List.drop (0 : Nat) l0)) c1 (3 : Nat)) (↑l1.length : Int) (1 : Nat)) (Line.offset (List.getD l1 (0 : Nat) (Line.mk (0 : Int) (0 : Int) (0 : Int) (0 : Int) (0 : Int)))) (3 : Nat) ++ List.flatMap lBytes (List.drop (0 : Nat) l1)) c2 (3 : Nat)) ≤ (1000000000 : Nat)) then bif decide (List.length (putL (putL (putL (putL (putL (putL (putL (putL (putL (putL [] p (3 : Nat)) (↑items.length : Int) (1 : Nat) ++ List.flatMap iBytes (List.drop (0 : Nat) items)) c0 (3 : Nat)) (↑l0.length : Int) (1 : Nat)) (Line.offset (List.getD l0 (0 : Nat) (Line.mk (0 : Int) (0 : Int) (0 : Int) (0 : Int) (0 : Int)))) (3 : Nat) ++ List.flatMap lBytes (List.drop (0 : Nat) l0)) c1 (3 : Nat)) (↑l1.length : Int) (1 : Nat)) (Line.offset (List.getD l1 (0 : Nat) (Line.mk (0 : Int) (0 : Int) (0 : Int) (0 : Int) (0 : Int)))) (3 : Nat) ++ List.flatMap lBytes (List.drop (0 : Nat) l1)) c2 (3 : Nat)) (↑l2.length : Int) (1 : Nat)) ≤ (1000000000 : Nat)) then bif lenOK l2.length then bif decide ((↑l2.length : Int) = (↑l2.length : Int)) && true && decide (List.length l2 ≤ (1000000 : Nat) ∧ List.length (putL (putL (putL (putL (putL (putL (putL (putL (putL (putL (putL [] p (3 : Nat)) (↑items.length : Int) (1 : Nat) ++ List.flatMap iBytes (List.drop (0 : Nat) items)) c0 (3 : Nat)) (↑l0.length : Int) (1 : Nat)) (Line.offset (List.getD l0 (0 : Nat) (Line.mk (0 : Int) (0 : Int) (0 : Int) (0 : Int) (0 : Int)))) (3 : Nat) ++ List.flatMap lBytes (List.drop (0 : Nat) l0)) c1 (3 : Nat)) (↑l1.length : Int) (1 : Nat)) (Line.offset (List.getD l1 (0 : Nat) (Line.mk (0 : Int) (0 : Int) (0 : Int) (0 : Int) (0 : Int)))) (3 : Nat) ++ List.flatMap lBytes (List.drop (0 : Nat) l1)) c2 (3 : Nat)) (↑l2.length : Int) (1 : Nat)) (0 : Int) (3 : Nat)) ≤ (1000000 : Nat)) && List.all l2 fitLn then some (D.tup (D.acons (D.sl RTy.u8 (false && List.isEmpty (List.drop (0 : Nat) l2)) (putL (putL (putL (putL (putL (putL (putL (putL (putL (putL (putL [] p (3 : Nat)) (↑items.length : Int) (1 : Nat) ++ List.flatMap iBytes (List.drop (0 : Nat) items)) c0 (3 : Nat)) (↑l0.length : Int) (1 : Nat)) (Line.offset (List.getD l0 (0 : Nat) (Line.mk (0 : Int) (0 : Int) (0 : Int) (0 : Int) (0 : Int)))) (3 : Nat) ++ List.flatMap lBytes (List.drop (0 : Nat) l0)) c1 (3 : Nat)) (↑l1.length : Int) (1 : Nat)) (Line.offset (List.getD l1 (0 : Nat) (Line.mk (0 : Int) (0 : Int) (0 : Int) (0 : Int) (0 : Int)))) (3 : Nat) ++ List.flatMap lBytes (List.drop (0 : Nat) l1)) c2 (3 : Nat)) (↑l2.length : Int) (1 : Nat)) (0 : Int) (3 : Nat) ++ List.flatMap lBytes (List.drop (0 : Nat) l2))) (.acons (D.int .i64 (0 : Int)) .anil))) else none else none else none else none else none else none else none else none else none else none else none else none else none else none else bif decide (List.length (putL (putL (putL (putL (putL [] p (3 : Nat)) (↑items.length : Int) (1 : Nat) ++ List.flatMap iBytes (List.drop (0 : Nat) items)) c0 (3 : Nat)) (↑l0.length : Int) (1 : Nat)) (Line.offset (List.getD l0 (0 : Nat) (Line.mk (0 : Int) (0 : Int) (0 : Int) (0 : Int) (0 : Int)))) (3 : Nat) ++ List.flatMap lBytes (List.drop (0 : Nat) l0)) ≤ (1000000000 : Nat)) then bif lenOK l1.length then bif decide (List.length (putL (putL (putL (putL (putL (putL [] p (3 : Nat)) (↑items.length : Int) (1 : Nat) ++ List.flatMap iBytes (List.drop (0 : Nat) items)) c0 (3 : Nat)) (↑l0.length : Int) (1 : Nat)) (Line.offset (List.getD l0 (0 : Nat) (Line.mk (0 : Int) (0 : Int) (0 : Int) (0 : Int) (0 : Int)))) (3 : Nat) ++ List.flatMap lBytes (List.drop (0 : Nat) l0)) c1 (3 : Nat)) ≤ (1000000000 : Nat)) then bif decide (List.length (putL (putL (putL (putL (putL (putL (putL [] p (3 : Nat)) (↑items.length : Int) (1 : Nat) ++ List.flatMap iBytes (List.drop (0 : Nat) items)) c0 (3 : Nat)) (↑l0.length : Int) (1 : Nat)) (Line.offset (List.getD l0 (0 : Nat) (Line.mk (0 : Int) (0 : Int) (0 : Int) (0 : Int) (0 : Int)))) (3 : Nat) ++ List.flatMap lBytes (List.drop (0 : Nat) l0)) c1 (3 : Nat)) (↑l1.length : Int) (1 : Nat)) ≤ (1000000000 : Nat)) then bif lenOK l1.length then bif decide ((↑l1.length : Int) = (↑l1.length : Int)) && true && decide (List.length l1 ≤ (1000000 : Nat) ∧ List.length (putL (putL (putL (putL (putL (putL (putL (putL [] p (3 : Nat)) (↑items.length : Int) (1 : Nat) ++ List.flatMap iBytes (List.drop (0 : Nat) items)) c0 (3 : Nat)) (↑l0.length : Int) (1 : Nat)) (Line.offset (List.getD l0 (0 : Nat) (Line.mk (0 : Int) (0 : Int) (0 : Int) (0 : Int) (0 : Int)))) (3 : Nat) ++ List.flatMap lBytes (List.drop (0 : Nat) l0)) c1 (3 : Nat)) (↑l1.length : Int) (1 : Nat)) (0 : Int) (3 : Nat)) ≤ (1000000 : Nat)) && List.all l1 fitLn then bif lenOK l2.length then bif decide ((0 : Int) < (↑l2.length : Int)) then bif decide ((0 : Int) ≤ (0 : Int) ∧ (0 : Int) < (↑l2.length : Int)) then bif decide (List.length (putL (putL (putL (putL (putL (putL (putL (putL [] p (3 : Nat)) (↑items.length : Int) (1 : Nat) ++ List.flatMap iBytes (List.drop (0 : Nat) items)) c0 (3 : Nat)) (↑l0.length : Int) (1 : Nat)) (Line.offset (List.getD l0 (0 : Nat) (Line.mk (0 : Int) (0 : Int) (0 : Int) (0 : Int) (0 : Int)))) (3 : Nat) ++ List.flatMap lBytes (List.drop (0 : Nat) l0)) c1 (3 : Nat)) (↑l1.length : Int) (1 : Nat)) (0 : Int) (3 : Nat) ++ List.flatMap lBytes (List.drop (0 : Nat) l1)) ≤ (1000000000 : Nat)) then bif lenOK l2.length then bif decide (List.length (putL (putL (putL (putL (putL (putL (putL (putL (putL [] p (3 : Nat)) (↑items.length : Int) (1 : Nat) ++ List.flatMap iBytes (List.drop (0 : Nat) items)) c0 (3 : Nat)) (↑l0.length : Int) (1 : Nat)) (Line.offset (List.getD l0 (0 : Nat) (Line.mk (0 : Int) (0 : Int) (0 : Int) (0 : Int) (0 : Int)))) (3 : Nat) ++ List.flatMap lBytes (List.drop (0 : Nat) l0)) c1 (3 : Nat)) (↑l1.length : Int) (1 : Nat)) (0 : Int) (3 : Nat) ++ List.flatMap lBytes (List.drop (0 : Nat) l1)) c2 (3 : Nat)) ≤ (1000000000 : Nat)) then bif decide (List.length (putL (putL (putL (putL (putL (putL (putL (putL (putL (putL [] p (3 : Nat)) (↑items.length : Int) (1 : Nat) ++ List.flatMap iBytes (List.drop (0 : Nat) items)) c0 (3 : Nat)) (↑l0.length : Int) (1 : Nat)) (Line.offset (List.getD l0 (0 : Nat) (Line.mk (0 : Int) (0 : Int) (0 : Int) (0 : Int) (0 : Int)))) (3 : Nat) ++ List.flatMap lBytes (List.drop (0 : Nat) l0)) c1 (3 : Nat)) (↑l1.length : Int) (1 : Nat)) (0 : Int) (3 : Nat) ++ List.flatMap lBytes (List.drop (0 : Nat) l1)) c2 (3 : Nat)) (↑l2.length : Int) (1 : Nat)) ≤ (1000000000 : Nat)) then bif lenOK l2.length then bif decide ((↑l2.length : Int) = (↑l2.length : Int)) && true && decide (List.length l2 ≤ (1000000 : Nat) ∧ List.length (putL (putL (putL (putL (putL (putL (putL (putL (putL (putL (putL [] p (3 : Nat)) (↑items.length : Int) (1 : Nat) ++ List.flatMap iBytes (List.drop (0 : Nat) items)) c0 (3 : Nat)) (↑l0.length : Int) (1 : Nat)) (Line.offset (List.getD l0 (0 : Nat) (Line.mk (0 : Int) (0 : Int) (0 : Int) (0 : Int) (0 : Int)))) (3 : Nat) ++ List.flatMap lBytes (List.drop (0 : Nat) l0)) c1 (3 : Nat)) (↑l1.length : Int) (1 : Nat)) (0 : Int) (3 : Nat) ++ List.flatMap lBytes (List.drop (0 : Nat) l1)) c2 (3 : Nat)) (↑l2.length : Int) (1 : Nat)) (Line.offset (List.getD l2 (0 : Nat) (Line.mk (0 : Int) (0 : Int) (0 : Int) (0 : Int) (0 : Int)))) (3 : Nat)) ≤ (1000000 : Nat)) && List.all l2 fitLn then some (D.tup (D.acons (D.sl RTy.u8 (!fitsB (Line.offset (List.getD l2 (0 : Nat) (Line.mk (0 : Int) (0 : Int) (0 : Int) (0 : Int) (0 : Int)))) (3 : Nat) && List.isEmpty (List.drop (0 : Nat) l2)) (putL (putL (putL (putL (putL (putL (putL (putL (putL (putL (putL [] p (3 : Nat)) (↑items.length : Int) (1 : Nat) ++ List.flatMap iBytes (List.drop (0 : Nat) items)) c0 (3 : Nat)) (↑l0.length : Int) (1 : Nat)) (Line.offset (List.getD l0 (0 : Nat) (Line.mk (0 : Int) (0 : Int) (0 : Int) (0 : Int) (0 : Int)))) (3 : Nat) ++ List.flatMap lBytes (List.drop (0 : Nat) l0)) c1 (3 : Nat)) (↑l1.length : Int) (1 : Nat)) (0 : Int) (3 : Nat) ++ List.flatMap lBytes (List.drop (0 : Nat) l1)) c2 (3 : Nat)) (↑l2.length : Int) (1 : Nat)) (Line.offset (List.getD l2 (0 : Nat) (Line.mk (0 : Int) (0 : Int) (0 : Int) (0 : Int) (0 : Int)))) (3 : Nat) ++ List.flatMap lBytes (List.drop (0 : Nat) l2))) (.acons (D.int .i64 (0 : Int)) .anil))) else none else none else none else none else none else none else none else bif decide (List.length (putL (putL (putL (putL (putL (putL (putL (putL [] p (3 : Nat)) (↑items.length : Int) (1 : Nat) ++ List.flatMap iBytes (List.drop (0 : Nat) items)) c0 (3 : Nat)) (↑l0.length : Int) (1 : Nat)) (Line.offset (List.getD l0 (0 : Nat) (Line.mk (0 : Int) (0 : Int) (0 : Int) (0 : Int) (0 : Int)))) (3 : Nat) ++ List.flatMap lBytes (List.drop (0 : Nat) l0)) c1 (3 : Nat)) (↑l1.length : Int) (1 : Nat)) (0 : Int) (3 : Nat) ++ List.flatMap lBytes (List.drop (0 : Nat) l1)) ≤ (1000000000 : Nat)) then bif lenOK l2.length then bif decide (List.length (putL (putL (putL (putL (putL (putL (putL (putL (putL [] p (3 : Nat)) (↑items.length : Int) (1 : Nat) ++ List.flatMap iBytes (List.drop (0 : Nat) items)) c0 (3 : Nat)) (↑l0.length : Int) (1 : Nat)) (Line.offset (List.getD l0 (0 : Nat) (Line.mk (0 : Int) (0 : Int) (0 : Int) (0 : Int) (0 : Int)))) (3 : Nat) ++ List.flatMap lBytes (List.drop (0 : Nat) l0)) c1 (3 : Nat)) (↑l1.length : Int) (1 : Nat)) (0 : Int) (3 : Nat) ++ List.flatMap lBytes (List.drop (0 : Nat) l1)) c2 (3 : Nat)) ≤ (1000000000 : Nat)) then bif decide (List.length (putL (putL (putL (putL (putL (putL (putL (putL (putL (putL [] p (3 : Nat)) (↑items.length : Int) (1 : Nat) ++ List.flatMap iBytes (List.drop (0 : Nat) items)) c0 (3 : Nat)) (↑l0.length : Int) (1 : Nat)) (Line.offset (List.getD l0 (0 : Nat) (Line.mk (0 : Int) (0 : Int) (0 : Int) (0 : Int) (0 : Int)))) (3 : Nat) ++ List.flatMap lBytes (List.drop (0 : Nat) l0)) c1 (3 : Nat)) (↑l1.length : Int) (1 : Nat)) (0 : Int) (3 : Nat) ++ List.flatMap lBytes (List.drop (0 : Nat) l1)) c2 (3 : Nat)) (↑l2.length : Int) (1 : Nat)) ≤ (1000000000 : Nat)) then bif lenOK l2.length then bif decide ((↑l2.length : Int) = (↑l2.length : Int)) && true && decide (List.length l2 ≤ (1000000 : Nat) ∧ List.length (putL (putL (putL (putL (putL (putL (putL (putL (putL (putL (putL [] p (3 : Nat)) (↑items.length : Int) (1 : Nat) ++ List.flatMap iBytes (List.drop (0 : Nat) items)) c0 (3 : Nat)) (↑l0.length : Int) (1 : Nat)) (Line.offset (List.getD l0 (0 : Nat) (Line.mk (0 : Int) (0 : Int) (0 : Int) (0 : Int) (0 : Int)))) (3 : Nat) ++ List.flatMap lBytes (List.drop (0 : Nat) l0)) c1 (3 : Nat)) (↑l1.length : Int) (1 : Nat)) (0 : Int) (3 : Nat) ++ List.flatMap lBytes (List.drop (0 : Nat) l1)) c2 (3 : Nat)) (↑l2.length : Int) (1 : Nat)) (0 : Int) (3 : Nat)) ≤ (1000000 : Nat)) && List.all l2 fitLn then some (D.tup (D.acons (D.sl RTy.u8 (false && List.isEmpty (List.drop (0 : Nat) l2)) (putL (putL (putL (putL (putL (putL (putL (putL (putL (putL (putL [] p (3 : Nat)) (↑items.length : Int) (1 : Nat) ++ List.flatMap iBytes (List.drop (0 : Nat) items)) c0 (3 : Nat)) (↑l0.length : Int) (1 : Nat)) (Line.offset (List.getD l0 (0 : Nat) (Line.mk (0 : Int) (0 : Int) (0 : Int) (0 : Int) (0 : Int)))) (3 : Nat) ++ List.flatMap lBytes (List.drop (0 : Nat) l0)) c1 (3 : Nat)) (↑l1.length : Int) (1 : Nat)) (0 : Int) (3 : Nat) ++ List.flatMap lBytes (List.drop (0 : Nat) l1)) c2 (3 : Nat)) (↑l2.length : Int) (1 : Nat)) (0 : Int) (3 : Nat) ++ List.flatMap lBytes (List.drop (0 : Nat) l2))) (.acons (D.int .i64 (0 : Int)) .anil))) else none else none else none else none else none else none else none else none else none else none else none else none else none else none else none else none else none else none else none else none else none else bif decide (List.length (putL (putL [] p (3 : Nat)) (↑items.length : Int) (1 : Nat) ++ List.flatMap iBytes (List.drop (0 : Nat) items)) ≤ (1000000000 : Nat)) then bif lenOK l0.length then bif decide (List.length (putL (putL (putL [] p (3 : Nat)) (↑items.length : Int) (1 : Nat) ++ List.flatMap iBytes (List.drop (0 : Nat) items)) c0 (3 : Nat)) ≤ (1000000000 : Nat)) then bif decide (List.length (putL (putL (putL (putL [] p (3 : Nat)) (↑items.length : Int) (1 : Nat) ++ List.flatMap iBytes (List.drop (0 : Nat) items)) c0 (3 : Nat)) (↑l0.length : Int) (1 : Nat)) ≤ (1000000000 : Nat)) then bif lenOK l0.length then bif decide ((↑l0.length : Int) = (↑l0.length : Int)) && true && decide (List.length l0 ≤ (1000000 : Nat) ∧ List.length (putL (putL (putL (putL (putL [] p (3 : Nat)) (↑items.length : Int) (1 : Nat) ++ List.flatMap iBytes (List.drop (0 : Nat) items)) c0 (3 : Nat)) (↑l0.length : Int) (1 : Nat)) (0 : Int) (3 : Nat)) ≤ (1000000 : Nat)) && List.all l0 fitLn then bif lenOK l1.length then bif decide ((0 : Int) < (↑l1.length : Int)) then bif decide ((0 : Int) ≤ (0 : Int) ∧ (0 : Int) < (↑l1.length : Int)) then bif decide (List.length (putL (putL (putL (putL (putL [] p (3 : Nat)) (↑items.length : Int) (1 : Nat) ++ List.flatMap iBytes (List.drop (0 : Nat) items)) c0 (3 : Nat)) (↑l0.length : Int) (1 : Nat)) (0 : Int) (3 : Nat) ++ List.flatMap lBytes (List.drop (0 : Nat) l0)) ≤ (1000000000 : Nat)) then bif lenOK l1.length then bif decide (List.length (putL (putL (putL (putL (putL (putL [] p (3 : Nat)) (↑items.length : Int) (1 : Nat) ++ List.flatMap iBytes (List.drop (0 : Nat) items)) c0 (3 : Nat)) (↑l0.length : Int) (1 : Nat)) (0 : Int) (3 : Nat) ++ List.flatMap lBytes (List.drop (0 : Nat) l0)) c1 (3 : Nat)) ≤ (1000000000 : Nat)) then bif decide (List.length (putL (putL (putL (putL (putL (putL (putL [] p (3 : Nat)) (↑items.length : Int) (1 : Nat) ++ List.flatMap iBytes (List.drop (0 : Nat) items)) c0 (3 : Nat)) (↑l0.length : Int) (1 : Nat)) (0 : Int) (3 : Nat) ++ List.flatMap lBytes (List.drop (0 : Nat) l0)) c1 (3 : Nat)) (↑l1.length : Int) (1 : Nat)) ≤ (1000000000 : Nat)) then bif lenOK l1.length then bif decide ((↑l1.length : Int) = (↑l1.length : Int)) && true && decide (List.length l1 ≤ (1000000 : Nat) ∧ List.length (putL (putL (putL (putL (putL (putL (putL (putL [] p (3 : Nat)) (↑items.length : Int) (1 : Nat) ++ List.flatMap iBytes (List.drop (0 : Nat) items)) c0 (3 : Nat)) (↑l0.length : Int) (1 : Nat)) (0 : Int) (3 : Nat) ++ List.flatMap lBytes (List.drop (0 : Nat) l0)) c1 (3 : Nat)) (↑l1.length : Int) (1 : Nat)) (Line.offset (List.getD l1 (0 : Nat) (Line.mk (0 : Int) (0 : Int) (0 : Int) (0 : Int) (0 : Int)))) (3 : Nat)) ≤ (1000000 : Nat)) && List.all l1 fitLn then bif lenOK l2.length then bif decide ((0 : Int) < (↑l2.length : Int)) then bif decide ((0 : Int) ≤ (0 : Int) ∧ (0 : Int) < (↑l2.length : Int)) then bif decide (List.length (putL (putL (putL (putL (putL (putL (putL (putL [] p (3 : Nat)) (↑items.length : Int) (1 : Nat) ++ List.flatMap iBytes (List.drop (0 : Nat) items)) c0 (3 : Nat)) (↑l0.length : Int) (1 : Nat)) (0 : Int) (3 : Nat) ++ List.flatMap lBytes (List.drop (0 : Nat) l0)) c1 (3 : Nat)) (↑l1.length : Int) (1 : Nat)) (Line.offset (List.getD l1 (0 : Nat) (Line.mk (0 : Int) (0 : Int) (0 : Int) (0 : Int) (0 : Int)))) (3 : Nat) ++ List.flatMap lBytes (List.drop (0 : Nat) l1)) ≤ (1000000000 : Nat)) then bif lenOK l2.length then bif decide (List.length (putL (putL (putL (putL (putL (putL (putL (putL (putL [] p (3 : Nat)) (↑items.length : Int) (1 : Nat) ++ List.flatMap iBytes (List.drop (0 : Nat) items)) c0 (3 : Nat)) (↑l0.length : Int) (1 : Nat)) (0 : Int) (3 : Nat) ++ List.flatMap lBytes (List.drop (0 : Nat) l0)) c1 (3 : Nat)) (↑l1.length : Int) (1 : Nat)) (Line.offset (List.getD l1 (0 : Nat) (Line.mk (0 : Int) (0 : Int) (0 : Int) (0 : Int) (0 : Int)))) (3 : Nat) ++ List.flatMap lBytes (List.drop (0 : Nat) l1)) c2 (3 : Nat)) ≤ (1000000000 : Nat)) then bif decide (List.length (putL (putL (putL (putL (putL (putL (putL (putL (putL (putL [] p (3 : Nat)) (↑items.length : Int) (1 : Nat) ++ List.flatMap iBytes (List.drop (0 : Nat) items)) c0 (3 : Nat)) (↑l0.length : Int) (1 : Nat)) (0 : Int) (3 : Nat) ++ List.flatMap lBytes (List.drop (0 : Nat) l0)) c1 (3 : Nat)) (↑l1.length : Int) (1 : Nat)) (Line.offset (List.getD l1 (0 : Nat) (Line.mk (0 : Int) (0 : Int) (0 : Int) (0 : Int) (0 : Int)))) (3 : Nat) ++ List.flatMap lBytes (List.drop (0 : Nat) l1)) c2 (3 : Nat)) (↑l2.length : Int) (1 : Nat)) ≤ (1000000000 : Nat)) then bif lenOK l2.length then bif decide ((↑l2.length : Int) = (↑l2.length : Int)) && true && decide (List.length l2 ≤ (1000000 : Nat) ∧ List.length (putL (putL (putL (putL (putL (putL (putL (putL (putL (putL (putL [] p (3 : Nat)) (↑items.length : Int) (1 : Nat) ++ List.flatMap iBytes (List.drop (0 : Nat) items)) c0 (3 : Nat)) (↑l0.length : Int) (1 : Nat)) (0 : Int) (3 : Nat) ++ List.flatMap lBytes (List.drop (0 : Nat) l0)) c1 (3 : Nat)) (↑l1.length : Int) (1 : Nat)) (Line.offset (List.getD l1 (0 : Nat) (Line.mk (0 : Int) (0 : Int) (0 : Int) (0 : Int) (0 : Int)))) (3 : Nat) ++ List.flatMap lBytes (List.drop (0 : Nat) l1)) c2 (3 : Nat)) (↑l2.length : Int) (1 : Nat)) (Line.offset (List.getD l2 (0 : Nat) (Line.mk (0 : Int) (0 : Int) (0 : Int) (0 : Int) (0 : Int)))) (3 : Nat)) ≤ (1000000 : Nat)) && List.all l2 fitLn then some (D.tup (D.acons (D.sl RTy.u8 (!fitsB (Line.offset (List.getD l2 (0 : Nat) (Line.mk (0 : Int) (0 : Int) (0 : Int) (0 : Int) (0 : Int)))) (3 : Nat) && List.isEmpty (List.drop (0 : Nat) l2)) (putL (putL (putL (putL (putL (putL (putL (putL (putL (putL (putL [] p (3 : Nat)) (↑items.length : Int) (1 : Nat) ++ List.flatMap iBytes (List.drop (0 : Nat) items)) c0 (3 : Nat)) (↑l0.length : Int) (1 : Nat)) (0 : Int) (3 : Nat) ++ List.flatMap lBytes (List.drop (0 : Nat) l0)) c1 (3 : Nat)) (↑l1.length : Int) (1 : Nat)) (Line.offset (List.getD l1 (0 : Nat) (Line.mk (0 : Int) (0 : Int) (0 : Int) (0 : Int) (0 : Int)))) (3 : Nat) ++ List.flatMap lBytes (List.drop (0 : Nat) l1)) c2 (3 : Nat)) (↑l2.length : Int) (1 : Nat)) (Line.offset (List.getD l2 (0 : Nat) (Line.mk (0 : Int) (0 : Int) (0 : Int) (0 : Int) (0 : Int)))) (3 : Nat) ++ List.flatMap lBytes (List.drop (0 : Nat) l2))) (.acons (D.int .i64 (0 : Int)) .anil))) else none else none else none else none else none else none else none else bif decide (List.length (putL (putL (putL (putL (putL (putL (putL (putL [] p (3 : Nat)) (↑items.length : Int) (1 : Nat) ++ List.flatMap iBytes (List.drop (0 : Nat) items)) c0 (3 : Nat)) (↑l0.length : Int) (1 : Nat)) (0 : Int) (3 : Nat) ++ List.flatMap lBytes (List.drop (0 : Nat) l0)) c1 (3 : Nat)) (↑l1.length : Int) (1 : Nat)) (Line.offset (List.getD l1 (0 : Nat) (Line.mk (0 : Int) (0 : Int) (0 : Int) (0 : Int) (0 : Int)))) (3 : Nat) ++ List.flatMap lBytes (List.drop (0 : Nat) l1)) ≤ (1000000000 : Nat)) then bif lenOK l2.length then bif decide (List.length (putL (putL (putL (putL (putL (putL (putL (putL (putL [] p (3 : Nat)) (↑items.length : Int) (1 : Nat) ++ List.flatMap iBytes (List.drop (0 : Nat) items)) c0 (3 : Nat)) (↑l0.length : Int) (1 : Nat)) (0 : Int) (3 : Nat) ++ List.flatMap lBytes (List.drop (0 : Nat) l0)) c1 (3 : Nat)) (↑l1.length : Int) (1 : Nat)) (Line.offset (List.getD l1 (0 : Nat) (Line.mk (0 : Int) (0 : Int) (0 : Int) (0 : Int) (0 : Int)))) (3 : Nat) ++ List.flatMap lBytes (List.drop (0 : Nat) l1)) c2 (3 : Nat)) ≤ (1000000000 : Nat)) then bif decide (List.length (putL (putL (putL (putL (putL (putL (putL (putL (putL (putL [] p (3 : Nat)) (↑items.length : Int) (1 : Nat) ++ List.flatMap iBytes (List.drop (0 : Nat) items)) c0 (3 : Nat)) (↑l0.length : Int) (1 : Nat)) (0 : Int) (3 : Nat) ++ List.flatMap lBytes (List.drop (0 : Nat) l0)) c1 (3 : Nat)) (↑l1.length : Int) (1 : Nat)) (Line.offset (List.getD l1 (0 : Nat) (Line.mk (0 : Int) (0 : Int) (0 : Int) (0 : Int) (0 : Int)))) (3 : Nat) ++ List.flatMap lBytes (List.drop (0 : Nat) l1)) c2 (3 : Nat)) (↑l2.length : Int) (1 : Nat)) ≤ (1000000000 : Nat)) then bif lenOK l2.length then bif decide ((↑l2.length : Int) = (↑l2.length : Int)) && true && decide (List.length l2 ≤ (1000000 : Nat) ∧ List.length (putL (putL (putL (putL (putL (putL (putL (putL (putL (putL (putL [] p (3 : Nat)) (↑items.length : Int) (1 : Nat) ++ List.flatMap iBytes (List.drop (0 : Nat) items)) c0 (3 : Nat)) (↑l0.length : Int) (1 : Nat)) (0 : Int) (3 : Nat) ++ List.flatMap lBytes (List.drop (0 : Nat) l0)) c1 (3 : Nat)) (↑l1.length : Int) (1 : Nat)) (Line.offset (List.getD l1 (0 : Nat) (Line.mk (0 : Int) (0 : Int) (0 : Int) (0 : Int) (0 : Int)))) (3 : Nat) ++ List.flatMap lBytes (List.drop (0 : Nat) l1)) c2 (3 : Nat)) (↑l2.length : Int) (1 : Nat)) (0 : Int) (3 : Nat)) ≤ (1000000 : Nat)) && List.all l2 fitLn then some (D.tup (D.acons (D.sl RTy.u8 (false && List.isEmpty (List.drop (0 : Nat) l2)) (putL (putL (putL (putL (putL (putL (putL (putL (putL (putL (putL [] p (3 : Nat)) (↑items.length : Int) (1 : Nat) ++ List.flatMap iBytes (List.drop (0 : Nat) items)) c0 (3 : Nat)) (↑l0.length : Int) (1 : Nat)) (0 : Int) (3 : Nat) ++ List.flatMap lBytes (List.drop (0 : Nat) l0)) c1 (3 : Nat)) (↑l1.length : Int) (1 : Nat)) (Line.offset (List.getD l1 (0 : Nat) (Line.mk (0 : Int) (0 : Int) (0 : Int) (0 : Int) (0 : Int)))) (3 : Nat) ++ List.flatMap lBytes (List.drop (0 : Nat) l1)) c2 (3 : Nat)) (↑l2.length : Int) (1 : Nat)) (0 : Int) (3 : Nat) ++ List.flatMap lBytes (List.drop (0 : Nat) l2))) (.acons (D.int .i64 (0 : Int)) .anil))) else none else none else none else none else none else none else none else none else none else none else none else none else none else none else bif decide (List.length (putL (putL (putL (putL (putL [] p (3 : Nat)) (↑items.length : Int) (1 : Nat) ++ List.flatMap iBytes (List.drop (0 : Nat) items)) c0 (3 : Nat)) (↑l0.length : Int) (1 : Nat)) (0 : Int) (3 : Nat) ++ List.flatMap lBytes (List.drop (0 : Nat) l0)) ≤ (1000000000 : Nat)) then bif lenOK l1.length then bif decide (List.length (putL (putL (putL (putL (putL (putL [] p (3 : Nat)) (↑items.length : Int) (1 : Nat) ++ List.flatMap iBytes (List.drop (0 : Nat) items)) c0 (3 : Nat)) (↑l0.length : Int) (1 : Nat)) (0 : Int) (3 : Nat) ++ List.flatMap lBytes (List.drop (0 : Nat) l0)) c1 (3 : Nat)) ≤ (1000000000 : Nat)) then bif decide (List.length (putL (putL (putL (putL (putL (putL (putL [] p (3 : Nat)) (↑items.length : Int) (1 : Nat) ++ List.flatMap iBytes (List.drop (0 : Nat) items)) c0 (3 : Nat)) (↑l0.length : Int) (1 : Nat)) (0 : Int) (3 : Nat) ++ List.flatMap lBytes (List.drop (0 : Nat) l0)) c1 (3 : Nat)) (↑l1.length : Int) (1 : Nat)) ≤ (1000000000 : Nat)) then bif lenOK l1.length then bif decide ((↑l1.length : Int) = (↑l1.length : Int)) && true && decide (List.length l1 ≤ (1000000 : Nat) ∧ List.length (putL (putL (putL (putL (putL (putL (putL (putL [] p (3 : Nat)) (↑items.length : Int) (1 : Nat) ++ List.flatMap iBytes (List.drop (0 : Nat) items)) c0 (3 : Nat)) (↑l0.length : Int) (1 : Nat)) (0 : Int) (3 : Nat) ++ List.flatMap lBytes (List.drop (0 : Nat) l0)) c1 (3 : Nat)) (↑l1.length : Int) (1 : Nat)) (0 : Int) (3 : Nat)) ≤ (1000000 : Nat)) && List.all l1 fitLn then bif lenOK l2.length then bif decide ((0 : Int) < (↑l2.length : Int)) then bif decide ((0 : Int) ≤ (0 : Int) ∧ (0 : Int) < (↑l2.length : Int)) then bif decide (List.length (putL (putL (putL (putL (putL (putL (putL (putL [] p (3 : Nat)) (↑items.length : Int) (1 : Nat) ++ List.flatMap iBytes (List.drop (0 : Nat) items)) c0 (3 : Nat)) (↑l0.length : Int) (1 : Nat)) (0 : Int) (3 : Nat) ++ List.flatMap lBytes (List.drop (0 : Nat) l0)) c1 (3 : Nat)) (↑l1.length : Int) (1 : Nat)) (0 : Int) (3 : Nat) ++ List.flatMap lBytes (List.drop (0 : Nat) l1)) ≤ (1000000000 : Nat)) then bif lenOK l2.length then bif decide (List.length (putL (putL (putL (putL (putL (putL (putL (putL (putL [] p (3 : Nat)) (↑items.length : Int) (1 : Nat) ++ List.flatMap iBytes (List.drop (0 : Nat) items)) c0 (3 : Nat)) (↑l0.length : Int) (1 : Nat)) (0 : Int) (3 : Nat) ++ List.flatMap lBytes (List.drop (0 : Nat) l0)) c1 (3 : Nat)) (↑l1.length : Int) (1 : Nat)) (0 : Int) (3 : Nat) ++ List.flatMap lBytes (List.drop (0 : Nat) l1)) c2 (3 : Nat)) ≤ (1000000000 : Nat)) then bif decide (List.length (putL (putL (putL (putL (putL (putL (putL (putL (putL (putL [] p (3 : Nat)) (↑items.length : Int) (1 : Nat) ++ List.flatMap iBytes (List.drop (0 : Nat) items)) c0 (3 : Nat)) (↑l0.length : Int) (1 : Nat)) (0 : Int) (3 : Nat) ++ List.flatMap lBytes (List.drop (0 : Nat) l0)) c1 (3 : Nat)) (↑l1.length : Int) (1 : Nat)) (0 : Int) (3 : Nat) ++ List.flatMap lBytes (List.drop (0 : Nat) l1)) c2 (3 : Nat)) (↑l2.length : Int) (1 : Nat)) ≤ (1000000000 : Nat)) then bif lenOK l2.length then bif decide ((↑l2.length : Int) = (↑l2.length : Int)) && true && decide (List.length l2 ≤ (1000000 : Nat) ∧ List.length (putL (putL (putL (putL (putL (putL (putL (putL (putL (putL (putL [] p (3 : Nat)) (↑items.length : Int) (1 : Nat) ++ List.flatMap iBytes (List.drop (0 : Nat) items)) c0 (3 : Nat)) (↑l0.length : Int) (1 : Nat)) (0 : Int) (3 : Nat) ++ List.flatMap lBytes (List.drop (0 : Nat) l0)) c1 (3 : Nat)) (↑l1.length : Int) (1 : Nat)) (0 : Int) (3 : Nat) ++ List.flatMap lBytes (List.drop (0 : Nat) l1)) c2 (3 : Nat)) (↑l2.length : Int) (1 : Nat)) (Line.offset (List.getD l2 (0 : Nat) (Line.mk (0 : Int) (0 : Int) (0 : Int) (0 : Int) (0 : Int)))) (3 : Nat)) ≤ (1000000 : Nat)) && List.all l2 fitLn then some (D.tup (D.acons (D.sl RTy.u8 (!fitsB (Line.offset (List.getD l2 (0 : Nat) (Line.mk (0 : Int) (0 : Int) (0 : Int) (0 : Int) (0 : Int)))) (3 : Nat) && List.isEmpty (List.drop (0 : Nat) l2)) (putL (putL (putL (putL (putL (putL (putL (putL (putL (putL (putL [] p (3 : Nat)) (↑items.length : Int) (1 : Nat) ++ List.flatMap iBytes (List.drop (0 : Nat) items)) c0 (3 : Nat)) (↑l0.length : Int) (1 : Nat)) (0 : Int) (3 : Nat) ++ List.flatMap lBytes (List.drop (0 : Nat) l0)) c1 (3 : Nat)) (↑l1.length : Int) (1 : Nat)) (0 : Int) (3 : Nat) ++ List.flatMap lBytes (List.drop (0 : Nat) l1)) c2 (3 : Nat)) (↑l2.length : Int) (1 : Nat)) (Line.offset (List.getD l2 (0 : Nat) (Line.mk (0 : Int) (0 : Int) (0 : Int) (0 : Int) (0 : Int)))) (3 : Nat) ++ List.flatMap lBytes (List.drop (0 : Nat) l2))) (.acons (D.int .i64 (0 : Int)) .anil))) else none else none else none else none else none else none else none else bif decide (List.length (putL (putL (putL (putL (putL (putL (putL (putL [] p (3 : Nat)) (↑items.length : Int) (1 : Nat) ++ List.flatMap iBytes (List.drop (0 : Nat) items)) c0 (3 : Nat)) (↑l0.length : Int) (1 : Nat)) (0 : Int) (3 : Nat) ++ List.flatMap lBytes (List.drop (0 : Nat) l0)) c1 (3 : Nat)) (↑l1.length : Int) (1 : Nat)) (0 : Int) (3 : Nat) ++ List.flatMap lBytes (List.drop (0 : Nat) l1)) ≤ (1000000000 : Nat)) then bif lenOK l2.length then bif decide (List.length (putL (putL (putL (putL (putL (putL (putL (putL (putL [] p (3 : Nat)) (↑items.length : Int) (1 : Nat) ++ List.flatMap iBytes (List.drop (0 : Nat) items)) c0 (3 : Nat)) (↑l0.length : Int) (1 : Nat)) (0 : Int) (3 : Nat) ++ List.flatMap lBytes (List.drop (0 : Nat) l0)) c1 (3 : Nat)) (↑l1.length : Int) (1 : Nat)) (0 : Int) (3 : Nat) ++ List.flatMap lBytes (List.drop (0 : Nat) l1)) c2 (3 : Nat)) ≤ (1000000000 : Nat)) then bif decide (List.length (putL (putL (putL (putL (putL (putL (putL (putL (putL (putL [] p (3 : Nat)) (↑items.length : Int) (1 : Nat) ++ List.flatMap iBytes (List.drop (0 : Nat) items)) c0 (3 : Nat)) (↑l0.length : Int) (1 : Nat)) (0 : Int) (3 : Nat) ++ List.flatMap lBytes (List.drop (0 : Nat) l0)) c1 (3 : Nat)) (↑l1.length : Int) (1 : Nat)) (0 : Int) (3 : Nat) ++ List.flatMap lBytes (List.drop (0 : Nat) l1)) c2 (3 : Nat)) (↑l2.length : Int) (1 : Nat)) ≤ (1000000000 : Nat)) then bif lenOK l2.length then bif decide ((↑l2.length : Int) = (↑l2.length : Int)) && true && decide (List.length l2 ≤ (1000000 : Nat) ∧ List.length (putL (putL (putL (putL (putL (putL (putL (putL (putL (putL (putL [] p (3 : Nat)) (↑items.length : Int) (1 : Nat) ++ List.flatMap iBytes (List.drop (0 : Nat) items)) c0 (3 : Nat)) (↑l0.length : Int) (1 : Nat)) (0 : Int) (3 : Nat) ++ List.flatMap lBytes (List.drop (0 : Nat) l0)) c1 (3 : Nat)) (↑l1.length : Int) (1 : Nat)) (0 : Int) (3 : Nat) ++ List.flatMap lBytes (List.drop (0 : Nat) l1)) c2 (3 : Nat)) (↑l2.length : Int) (1 : Nat)) (0 : Int) (3 : Nat)) ≤ (1000000 : Nat)) && List.all l2 fitLn then some (D.tup (D.acons (D.sl RTy.u8 (false && List.isEmpty (List.drop (0 : Nat) l2)) (putL (putL (putL (putL (putL (putL (putL (putL (putL (putL (putL [] p (3 : Nat)) (↑items.length : Int) (1 : Nat) ++ List.flatMap iBytes (List.drop (0 : Nat) items)) c0 (3 : Nat)) (↑l0.length : Int) (1 : Nat)) (0 : Int) (3 : Nat) ++ List.flatMap lBytes (List.drop (0 : Nat) l0)) c1 (3 : Nat)) (↑l1.length : Int) (1 : Nat)) (0 : Int) (3 : Nat) ++ List.flatMap lBytes (List.drop (0 : Nat) l1)) c2 (3 : Nat)) (↑l2.length : Int) (1 : Nat)) (0 : Int) (3 : Nat) ++ List.flatMap lBytes (List.drop (0 : Nat) l2))) (.acons (D.int .i64 (0 : Int)) .anil))) else none else none else none else none else none else none else none else none else none else none else none else none else none else none else none else none else none else none else none else none else none else none else none else none else none else none) := by kernel_rfl
theorem stateBytes_ok (p : Int) (ci : Bool) (items : List Item) (k0 : Bool) (k1 : Bool) (k2 : Bool) (l0 : List Line) (l1 : List Line) (l2 : List Line) (c0 : Int) (c1 : Int) (c2 : Int) (h : (decide (items.length ≤ 9223372036854775807 ∧ l0.length ≤ 9223372036854775807 ∧ l1.length ≤ 9223372036854775807 ∧ l2.length ≤ 9223372036854775807)) = true) : stateBytes_e p ci items k0 k1 k2 l0 l1 l2 c0 c1 c2 = some (.tup (.acons (.sl (C := RC) .u8 (!standsOK ⟨p, items, l0, l1, l2, c0, c1, c2⟩) (bif standsOK ⟨p, items, l0, l1, l2, c0, c1, c2⟩ then stBytes ⟨p, items, l0, l1, l2, c0, c1, c2⟩ else [])) (.acons (.int .i64 (bif standsOK ⟨p, items, l0, l1, l2, c0, c1, c2⟩ then 0 else 2)) .anil))) := by
  rw [stateBytes_eq]
  rw [h]
  cases hm : standsOK ⟨p, items, l0, l1, l2, c0, c1, c2⟩
  · rfl
  · obtain ⟨hp, hil, hif, ⟨k0, m0, w0, o0⟩, ⟨k1, m1, w1, o1⟩, ⟨k2, m2, w2, o2⟩⟩ := stands_facts hm
    have b := lenOK_of (show items.length ≤ 9223372036854775807 by omega)
    have b0 := lenOK_of (show l0.length ≤ 9223372036854775807 by omega)
    have b1 := lenOK_of (show l1.length ≤ 9223372036854775807 by omega)
    have b2 := lenOK_of (show l2.length ≤ 9223372036854775807 by omega)
    have fp : fitsB p 3 = true := fits3 (by rw [withinB_iff]; omega)
    have fi : fitsB (items.length : Int) 1 = true := fits1 (by rw [withinB_iff]; omega)
    have fc0 : fitsB c0 3 = true := fits3 (by rw [withinB_iff]; omega)
    have fc1 : fitsB c1 3 = true := fits3 (by rw [withinB_iff]; omega)
    have fc2 : fitsB c2 3 = true := fits3 (by rw [withinB_iff]; omega)
    have fl0 : fitsB (l0.length : Int) 1 = true := fits1 (by rw [withinB_iff]; omega)
    have fl1 : fitsB (l1.length : Int) 1 = true := fits1 (by rw [withinB_iff]; omega)
    have fl2 : fitsB (l2.length : Int) 1 = true := fits1 (by rw [withinB_iff]; omega)
    have fo0 : fitsB (l0.getD 0 ⟨0, 0, 0, 0, 0⟩).offset 3 = true := fits3 (by rw [withinB_iff]; unfold firstOff at o0; omega)
    have fo1 : fitsB (l1.getD 0 ⟨0, 0, 0, 0, 0⟩).offset 3 = true := fits3 (by rw [withinB_iff]; unfold firstOff at o1; omega)
    have fo2 : fitsB (l2.getD 0 ⟨0, 0, 0, 0, 0⟩).offset 3 = true := fits3 (by rw [withinB_iff]; unfold firstOff at o2; omega)
    have f0 : fitsB 0 3 = true := rfl
    have L : ∀ b : List UInt8, b.length ≤ 100000 → decide (b.length ≤ 1000000000) = true := fun b hb => decide_eq_true (by omega)
    have L2 : ∀ (b : List UInt8) (n : Nat), n ≤ 24 → b.length ≤ 100000 → decide (n ≤ 1000000 ∧ b.length ≤ 1000000) = true := fun b n hn hb => by simp; omega
    have i0 : ∀ l : List Line, decide (0 ≤ (0 : Int) ∧ (0 : Int) < l.length) = decide (0 < (l.length : Int)) := fun l => by simp
    have sI := flatMap_len items iBytes 5 iBytes_len
    have s0 := flatMap_len l0 lBytes 5 lBytes_len
    have s1 := flatMap_len l1 lBytes 5 lBytes_len
    have s2 := flatMap_len l2 lBytes 5 lBytes_len
    simp only [b, b0, b1, b2, show Int.toNat 1 = 1 from rfl, show Int.toNat 3 = 3 from rfl, putL_fits fp, putL_fits fi, putL_fits fc0, putL_fits fc1, putL_fits fc2, putL_fits fl0, putL_fits fl1, putL_fits fl2, putL_fits fo0, putL_fits fo1, putL_fits fo2, putL_fits f0, fp, fi, fc0, fc1, fc2, fl0, fl1, fl2, fo0, fo1, fo2, f0, hif, w0, w1, w2, cond_true, cond_false, Bool.not_true, Bool.not_false, Bool.and_true, Bool.true_and, decide_true, List.drop_zero, Bool.false_and, i0]
    simp (disch := first | omega | (simp only [List.length_append, leB_length, List.length_nil, sI, s0, s1, s2]; omega)) only [L, L2, cond_true]
    have hx : ∀ l : List Line, ¬ (0 < l.length) → (l.getD 0 ⟨0, 0, 0, 0, 0⟩).offset = 0 := fun l hl => by
      have : l = [] := by cases l with
        | nil => rfl
        | cons _ _ => simp at hl
      rw [this]; rfl
    simp only [stBytes, partBytes, firstOff]
    simp only [Int.natCast_pos]
    by_cases e0 : 0 < l0.length <;> by_cases e1 : 0 < l1.length <;> by_cases e2 : 0 < l2.length <;> simp only [e0, e1, e2, decide_true, decide_false, cond_true, cond_false] <;> simp [e0, e1, e2, hx]
noncomputable def ud_3 := ud_2.addSpec 38 stateBytes_sp
theorem ud_3_laws : FLaws Try.prog s07 ud_3 := ud_2_laws.addEv s07_laws fun args d h => by
  unfold stateBytes_sp at h
  split at h
  · unfold stateBytes_s at h
    have h1 := congrArg Prod.fst (Option.some.inj h)
    obtain rfl : _ = d := congrArg Prod.snd (Option.some.inj h)
    exact ⟨by simp [D.refs], 40, stateBytes_ok _ _ _ _ _ _ _ _ _ _ _ _ h1⟩
  · cases h
def linesAt (p c : Int) (l : List Line) (i : Nat) : Bool := (decide (i ≠ 0) || l.isEmpty || decide (c < (l.getD 0 ⟨0, 0, 0, 0, 0⟩).place)) && eachAt (oneLB p) twoLB l i
theorem partOK_eq (p c : Int) (l : List Line) : partOK p c l = (decide (l.length ≤ 16) && decide (0 ≤ c) && decide (c ≤ p) && linesAt p c l 0) := by
  unfold partOK linesAt withinB
  cases decide (l.length ≤ 16) <;> cases decide (0 ≤ c) <;> cases decide (c ≤ p) <;> simp
open Go.Proofs
structure itemsR_St where
  c : Bool
  l : List Item
  p : Int
  i : Nat
def itemsR_c (c : Bool) (l : List Item) (p : Int) (i : Nat) : Env RC := [(0, .sl (C := RC) .item c l), (1, .int .i64 p), (4, .bool false), (5, .int .i64 (i : Int))]
def itemsR_o (c : Bool) (l : List Item) (p : Int) (i : Nat) : List (Obj RC) := []
noncomputable def itemsR_r (c : Bool) (l : List Item) (p : Int) (i : Nat) := rndO s07 ud_3 36 2 40 0 [0, 1, 4, 5] [4] [] (itemsR_c c l p i) (itemsR_o c l p i)
theorem itemsR_eq (c : Bool) (l : List Item) (p : Int) (i : Nat) : itemsR_r c l p i = (bif lenOK l.length then bif decide ((↑i : Int) < (↑l.length : Int)) then bif decide ((0 : Int) ≤ (↑i : Int) ∧ (↑i : Int) < (↑l.length : Int)) then bif decide (Item.key (List.getD l (↑i : Int).toNat (Item.mk (0 : Int) (0 : Int) (0 : Int))) < (0 : Int)) then some ((X.ret, [((4 : Nat), D.bool false)]), []) else bif decide ((24 : Int) ≤ Item.key (List.getD l (↑i : Int).toNat (Item.mk (0 : Int) (0 : Int) (0 : Int)))) then some ((X.ret, [((4 : Nat), D.bool false)]), []) else bif decide ((0 : Int) < (↑i : Int)) then bif decide ((0 : Int) ≤ IntKind.wrap .i64 ((↑i : Int) - (1 : Int)) ∧ IntKind.wrap .i64 ((↑i : Int) - (1 : Int)) < (↑l.length : Int)) then bif decide (Item.key (List.getD l (↑i : Int).toNat (Item.mk (0 : Int) (0 : Int) (0 : Int))) ≤ Item.key (List.getD l (IntKind.wrap .i64 ((↑i : Int) - (1 : Int))).toNat (Item.mk (0 : Int) (0 : Int) (0 : Int)))) then some ((X.ret, [((4 : Nat), D.bool false)]), []) else bif decide (Item.place (List.getD l (↑i : Int).toNat (Item.mk (0 : Int) (0 : Int) (0 : Int))) < (1 : Int)) then some ((X.ret, [((4 : Nat), D.bool false)]), []) else bif decide (p < Item.place (List.getD l (↑i : Int).toNat (Item.mk (0 : Int) (0 : Int) (0 : Int)))) then some ((X.ret, [((4 : Nat), D.bool false)]), []) else bif decide (Item.value (List.getD l (↑i : Int).toNat (Item.mk (0 : Int) (0 : Int) (0 : Int))) < (0 : Int)) then some ((X.ret, [((4 : Nat), D.bool false)]), []) else bif decide ((255 : Int) < Item.value (List.getD l (↑i : Int).toNat (Item.mk (0 : Int) (0 : Int) (0 : Int)))) then some ((X.ret, [((4 : Nat), D.bool false)]), []) else some ((X.normal, [((0 : Nat), D.sl RTy.item c l), ((1 : Nat), D.int .i64 p), ((4 : Nat), D.bool false), ((5 : Nat), D.int .i64 (IntKind.wrap .i64 ((↑i : Int) + (1 : Int))))]), []) else none else bif decide (Item.place (List.getD l (↑i : Int).toNat (Item.mk (0 : Int) (0 : Int) (0 : Int))) < (1 : Int)) then some ((X.ret, [((4 : Nat), D.bool false)]), []) else bif decide (p < Item.place (List.getD l (↑i : Int).toNat (Item.mk (0 : Int) (0 : Int) (0 : Int)))) then some ((X.ret, [((4 : Nat), D.bool false)]), []) else bif decide (Item.value (List.getD l (↑i : Int).toNat (Item.mk (0 : Int) (0 : Int) (0 : Int))) < (0 : Int)) then some ((X.ret, [((4 : Nat), D.bool false)]), []) else bif decide ((255 : Int) < Item.value (List.getD l (↑i : Int).toNat (Item.mk (0 : Int) (0 : Int) (0 : Int)))) then some ((X.ret, [((4 : Nat), D.bool false)]), []) else some ((X.normal, [((0 : Nat), D.sl RTy.item c l), ((1 : Nat), D.int .i64 p), ((4 : Nat), D.bool false), ((5 : Nat), D.int .i64 (IntKind.wrap .i64 ((↑i : Int) + (1 : Int))))]), []) else none else some ((X.exit (0 : Nat), [((4 : Nat), D.bool false)]), []) else none) := by kernel_rfl
def itemsR_fin (c : Bool) (l : List Item) (p : Int) (i : Nat) : RT RC := .br (eachAt (oneIB p) twoIB l i) (.leaf (.exit 0) [(4, .bool false)] []) (.leaf .ret [(4, .bool false)] [])
def itemsR_Inv (c : Bool) (l : List Item) (p : Int) (i : Nat) : Prop := i ≤ l.length ∧ l.length ≤ 9223372036854775807
def itemsR_S : LoopR RC itemsR_St where
  k := 0
  canon q := itemsR_c q.c q.l q.p q.i
  objs q := itemsR_o q.c q.l q.p q.i
  fin q := itemsR_fin q.c q.l q.p q.i
  Inv q := itemsR_Inv q.c q.l q.p q.i
  μ q := q.l.length - q.i
theorem itemsR_round (c : Bool) (l : List Item) (p : Int) (i : Nat) (hI : itemsR_Inv c l p i) : Leaf (itemsR_r c l p i) (LedR itemsR_S ⟨c, l, p, i⟩) := by
  rw [itemsR_eq]
  unfold itemsR_Inv at hI
  obtain ⟨h1, h2⟩ := hI
  have hlk := lenOK_of h2
  by_cases hlt : i < l.length
  · have w_succ : IntKind.i64.wrap ((i : Int) + 1) = ((i + 1 : Nat) : Int) := by rw [wrap_id (by omega) (by omega)]; simp
    have d_lt : decide ((i : Int) < l.length) = true := by simp; omega
    have d_in : decide (0 ≤ (i : Int) ∧ (i : Int) < l.length) = true := by simp; omega
    have t_nat : ((i : Int)).toNat = i := by simp
    have w_pred : IntKind.i64.wrap ((i : Int) - 1) = (i : Int) - 1 := wrap_id (by omega) (by omega)
    have t_natp : ((i : Int) - 1).toNat = i - 1 := by omega
    simp only [w_succ, d_lt, d_in, t_nat, w_pred, t_natp, cond_true]
    simp only [hlk, cond_true]
    have hst := eachAt_step (oneIB p) twoIB l i (⟨0, 0, 0⟩ : Item) hlt
    generalize l.getD i (⟨0, 0, 0⟩ : Item) = x at hst ⊢
    generalize l.getD (i - 1) (⟨0, 0, 0⟩ : Item) = y at hst ⊢
    have hgo : oneIB p x = true → (i = 0 ∨ twoIB y x = true) → Leaf (some ((X.normal, itemsR_c c l p (i + 1)), [])) (LedR itemsR_S ⟨c, l, p, i⟩) := fun a b =>
      leafR_go ⟨c, l, p, i + 1⟩ ⟨hlt, h2⟩ (by simp only [itemsR_S]; omega) (by simp only [itemsR_S, itemsR_fin, hst, a]; rcases b with b | b <;> simp [b]) rfl rfl
    have hno : ¬ (oneIB p x = true ∧ (i = 0 ∨ twoIB y x = true)) → Leaf (some ((X.ret, [(4, D.bool false)]), [])) (LedR itemsR_S ⟨c, l, p, i⟩) := fun he => leafR_ret [] (by
      have : eachAt (oneIB p) twoIB l i = false := by rw [hst]; simp only [Bool.and_eq_false_iff]; by_cases a : oneIB p x = true <;> by_cases b : i = 0 <;> simp_all
      simp [itemsR_S, itemsR_fin, this, RT.val]) rfl
    simp only [oneIB, twoIB, withinB, Bool.and_eq_true, decide_eq_true_eq] at hgo hno
    by_cases hi : i = 0
    · have d0 : decide (0 < (i : Int)) = false := by simp; omega
      simp only [d0, cond_false]
      repeat' (first | (refine leaf_cond.2 ⟨fun hc_ => ?_, fun hc_ => ?_⟩ <;> simp only [decide_eq_true_eq, decide_eq_false_iff_not, beq_iff_eq, beq_eq_false_iff_ne, bne_iff_ne, ne_eq, Bool.not_eq_true, Bool.not_eq_false, bne_eq_false_iff_eq, decide_eq_decide, Bool.true_eq_false, Bool.false_eq_true] at hc_))
      all_goals first | (exfalso; omega) | exact hno (by omega) | (apply hgo <;> omega)
    · have d_pos : decide (0 < (i : Int)) = true := by simp; omega
      have d_inp : decide (0 ≤ (i : Int) - 1 ∧ (i : Int) - 1 < l.length) = true := by simp; omega
      simp only [d_pos, d_inp, cond_true]
      repeat' (first | (refine leaf_cond.2 ⟨fun hc_ => ?_, fun hc_ => ?_⟩ <;> simp only [decide_eq_true_eq, decide_eq_false_iff_not, beq_iff_eq, beq_eq_false_iff_ne, bne_iff_ne, ne_eq, Bool.not_eq_true, Bool.not_eq_false, bne_eq_false_iff_eq, decide_eq_decide, Bool.true_eq_false, Bool.false_eq_true] at hc_))
      all_goals first | (exfalso; omega) | exact hno (by omega) | (apply hgo <;> omega)
  · have hi : i = l.length := by omega
    have c1 : decide ((i : Int) < l.length) = false := by simp; omega
    simp only [hlk, c1, cond_true, cond_false]
    exact leafR_exit [] (by simp [itemsR_S, itemsR_fin, hi, eachAt, eachB, RT.val]) rfl
def itemsR_d (env : Env RC) (os : List (Obj RC)) : Option (Bool × itemsR_St) := match env, os with
  | [(0, .sl .item c l), (1, .int .i64 p), (4, .bool false), (5, .int .i64 x0)], [] => staticD (true) (decide (x0 = 0) && decide (l.length ≤ 9223372036854775807), ⟨c, l, p, 0⟩)
  | _, _ => none
noncomputable def ug_1 := ud_3.addLoop 36 2 (sumR s07 [] [0, 1, 4, 5] itemsR_S itemsR_d)
theorem ug_1_laws : FLaws Try.prog s07 ug_1 := by
  refine ud_3_laws.addRoundsR s07_laws (by kernel_rfl) itemsR_S 40 [0, 1, 4, 5] [4] [] [0, 1, 4, 5] itemsR_d (fun q hI => ?_) ?_
  · obtain ⟨c, l, p, i⟩ := q
    refine ⟨?_, ?_, itemsR_round c l p i hI⟩
    · simp_all [RefsOK, itemsR_S, itemsR_c, itemsR_o, itemsR_Inv, D.refs, Obj.refs, rEnc]
    · simp_all [itemsR_S, itemsR_fin, itemsR_o, itemsR_Inv, RT.refsOK, RefsOK, D.refs, Obj.refs, rEnc]
  · intro env os b q hd_ hb
    unfold itemsR_d at hd_
    split at hd_
    · obtain ⟨hs, hd_⟩ := staticD_some hd_
      cases hd_
      simp only [Bool.and_eq_true, decide_eq_true_eq] at hb
      obtain ⟨rfl, hl⟩ := hb
      exact ⟨⟨Nat.zero_le _, hl⟩, rfl, rfl⟩
    · cases hd_
structure linesR_St where
  k : Bool
  l : List Line
  p : Int
  c : Int
  i : Nat
def linesR_c (k : Bool) (l : List Line) (p : Int) (c : Int) (i : Nat) : Env RC := [(0, .sl (C := RC) .line k l), (1, .int .i64 p), (2, .int .i64 c), (6, .bool false), (7, .int .i64 (i : Int))]
def linesR_o (k : Bool) (l : List Line) (p : Int) (c : Int) (i : Nat) : List (Obj RC) := []
noncomputable def linesR_r (k : Bool) (l : List Line) (p : Int) (c : Int) (i : Nat) := rndO s07 ug_1 37 4 60 0 [0, 1, 2, 6, 7] [6] [] (linesR_c k l p c i) (linesR_o k l p c i)
theorem linesR_eq (k : Bool) (l : List Line) (p : Int) (c : Int) (i : Nat) : linesR_r k l p c i = (bif lenOK l.length then bif decide ((↑i : Int) < (↑l.length : Int)) then bif decide ((0 : Int) ≤ (↑i : Int) ∧ (↑i : Int) < (↑l.length : Int)) then bif decide (Line.offset (List.getD l (↑i : Int).toNat (Line.mk (0 : Int) (0 : Int) (0 : Int) (0 : Int) (0 : Int))) < (0 : Int)) then some ((X.ret, [((6 : Nat), D.bool false)]), []) else bif decide ((4194304 : Int) ≤ Line.offset (List.getD l (↑i : Int).toNat (Line.mk (0 : Int) (0 : Int) (0 : Int) (0 : Int) (0 : Int)))) then some ((X.ret, [((6 : Nat), D.bool false)]), []) else bif decide (Line.place (List.getD l (↑i : Int).toNat (Line.mk (0 : Int) (0 : Int) (0 : Int) (0 : Int) (0 : Int))) < (1 : Int)) then some ((X.ret, [((6 : Nat), D.bool false)]), []) else bif decide (p < Line.place (List.getD l (↑i : Int).toNat (Line.mk (0 : Int) (0 : Int) (0 : Int) (0 : Int) (0 : Int)))) then some ((X.ret, [((6 : Nat), D.bool false)]), []) else bif decide (Line.j (List.getD l (↑i : Int).toNat (Line.mk (0 : Int) (0 : Int) (0 : Int) (0 : Int) (0 : Int))) < (0 : Int)) then some ((X.ret, [((6 : Nat), D.bool false)]), []) else bif decide ((4 : Int) ≤ Line.j (List.getD l (↑i : Int).toNat (Line.mk (0 : Int) (0 : Int) (0 : Int) (0 : Int) (0 : Int)))) then some ((X.ret, [((6 : Nat), D.bool false)]), []) else bif decide (Line.key (List.getD l (↑i : Int).toNat (Line.mk (0 : Int) (0 : Int) (0 : Int) (0 : Int) (0 : Int))) < (0 : Int)) then some ((X.ret, [((6 : Nat), D.bool false)]), []) else bif decide ((8 : Int) ≤ Line.key (List.getD l (↑i : Int).toNat (Line.mk (0 : Int) (0 : Int) (0 : Int) (0 : Int) (0 : Int)))) then some ((X.ret, [((6 : Nat), D.bool false)]), []) else bif decide (Line.value (List.getD l (↑i : Int).toNat (Line.mk (0 : Int) (0 : Int) (0 : Int) (0 : Int) (0 : Int))) < (0 : Int)) then some ((X.ret, [((6 : Nat), D.bool false)]), []) else bif decide ((255 : Int) < Line.value (List.getD l (↑i : Int).toNat (Line.mk (0 : Int) (0 : Int) (0 : Int) (0 : Int) (0 : Int)))) then some ((X.ret, [((6 : Nat), D.bool false)]), []) else bif (↑i : Int) == (0 : Int) then bif decide (Line.place (List.getD l (↑i : Int).toNat (Line.mk (0 : Int) (0 : Int) (0 : Int) (0 : Int) (0 : Int))) ≤ c) then some ((X.ret, [((6 : Nat), D.bool false)]), []) else bif decide ((0 : Int) < (↑i : Int)) then bif decide ((0 : Int) ≤ IntKind.wrap .i64 ((↑i : Int) - (1 : Int)) ∧ IntKind.wrap .i64 ((↑i : Int) - (1 : Int)) < (↑l.length : Int)) then bif Line.offset (List.getD l (↑i : Int).toNat (Line.mk (0 : Int) (0 : Int) (0 : Int) (0 : Int) (0 : Int))) != IntKind.wrap .i64 (Line.offset (List.getD l (IntKind.wrap .i64 ((↑i : Int) - (1 : Int))).toNat (Line.mk (0 : Int) (0 : Int) (0 : Int) (0 : Int) (0 : Int))) + (1 : Int)) then some ((X.ret, [((6 : Nat), D.bool false)]), []) else bif decide ((0 : Int) ≤ IntKind.wrap .i64 ((↑i : Int) - (1 : Int)) ∧ IntKind.wrap .i64 ((↑i : Int) - (1 : Int)) < (↑l.length : Int)) then bif decide (Line.place (List.getD l (↑i : Int).toNat (Line.mk (0 : Int) (0 : Int) (0 : Int) (0 : Int) (0 : Int))) < Line.place (List.getD l (IntKind.wrap .i64 ((↑i : Int) - (1 : Int))).toNat (Line.mk (0 : Int) (0 : Int) (0 : Int) (0 : Int) (0 : Int)))) then some ((X.ret, [((6 : Nat), D.bool false)]), []) else bif decide ((0 : Int) ≤ IntKind.wrap .i64 ((↑i : Int) - (1 : Int)) ∧ IntKind.wrap .i64 ((↑i : Int) - (1 : Int)) < (↑l.length : Int)) then bif Line.place (List.getD l (↑i : Int).toNat (Line.mk (0 : Int) (0 : Int) (0 : Int) (0 : Int) (0 : Int))) == Line.place (List.getD l (IntKind.wrap .i64 ((↑i : Int) - (1 : Int))).toNat (Line.mk (0 : Int) (0 : Int) (0 : Int) (0 : Int) (0 : Int))) then bif decide ((0 : Int) ≤ IntKind.wrap .i64 ((↑i : Int) - (1 : Int)) ∧ IntKind.wrap .i64 ((↑i : Int) - (1 : Int)) < (↑l.length : Int)) then bif decide (Line.j (List.getD l (↑i : Int).toNat (Line.mk (0 : Int) (0 : Int) (0 : Int) (0 : Int) (0 : Int))) ≤ Line.j (List.getD l (IntKind.wrap .i64 ((↑i : Int) - (1 : Int))).toNat (Line.mk (0 : Int) (0 : Int) (0 : Int) (0 : Int) (0 : Int)))) then some ((X.ret, [((6 : Nat), D.bool false)]), []) else some ((X.normal, [((0 : Nat), D.sl RTy.line k l), ((1 : Nat), D.int .i64 p), ((2 : Nat), D.int .i64 c), ((6 : Nat), D.bool false), ((7 : Nat), D.int .i64 (IntKind.wrap .i64 ((↑i : Int) + (1 : Int))))]), []) else none else some ((X.normal, [((0 : Nat), D.sl RTy.line k l), ((1 : Nat), D.int .i64 p), ((2 : Nat), D.int .i64 c), ((6 : Nat), D.bool false), ((7 : Nat), D.int .i64 (IntKind.wrap .i64 ((↑i : Int) + (1 : Int))))]), []) else none else none else none else some ((X.normal, [((0 : Nat), D.sl RTy.line k l), ((1 : Nat), D.int .i64 p), ((2 : Nat), D.int .i64 c), ((6 : Nat), D.bool false), ((7 : Nat), D.int .i64 (IntKind.wrap .i64 ((↑i : Int) + (1 : Int))))]), []) else bif decide ((0 : Int) < (↑i : Int)) then bif decide ((0 : Int) ≤ IntKind.wrap .i64 ((↑i : Int) - (1 : Int)) ∧ IntKind.wrap .i64 ((↑i : Int) - (1 : Int)) < (↑l.length : Int)) then bif Line.offset (List.getD l (↑i : Int).toNat (Line.mk (0 : Int) (0 : Int) (0 : Int) (0 : Int) (0 : Int))) != IntKind.wrap .i64 (Line.offset (List.getD l (IntKind.wrap .i64 ((↑i : Int) - (1 : Int))).toNat (Line.mk (0 : Int) (0 : Int) (0 : Int) (0 : Int) (0 : Int))) + (1 : Int)) then some ((X.ret, [((6 : Nat), D.bool false)]), []) else bif decide ((0 : Int) ≤ IntKind.wrap .i64 ((↑i : Int) - (1 : Int)) ∧ IntKind.wrap .i64 ((↑i : Int) - (1 : Int)) < (↑l.length : Int)) then bif decide (Line.place (List.getD l (↑i : Int).toNat (Line.mk (0 : Int) (0 : Int) (0 : Int) (0 : Int) (0 : Int))) < Line.place (List.getD l (IntKind.wrap .i64 ((↑i : Int) - (1 : Int))).toNat (Line.mk (0 : Int) (0 : Int) (0 : Int) (0 : Int) (0 : Int)))) then some ((X.ret, [((6 : Nat), D.bool false)]), []) else bif decide ((0 : Int) ≤ IntKind.wrap .i64 ((↑i : Int) - (1 : Int)) ∧ IntKind.wrap .i64 ((↑i : Int) - (1 : Int)) < (↑l.length : Int)) then bif Line.place (List.getD l (↑i : Int).toNat (Line.mk (0 : Int) (0 : Int) (0 : Int) (0 : Int) (0 : Int))) == Line.place (List.getD l (IntKind.wrap .i64 ((↑i : Int) - (1 : Int))).toNat (Line.mk (0 : Int) (0 : Int) (0 : Int) (0 : Int) (0 : Int))) then bif decide ((0 : Int) ≤ IntKind.wrap .i64 ((↑i : Int) - (1 : Int)) ∧ IntKind.wrap .i64 ((↑i : Int) - (1 : Int)) < (↑l.length : Int)) then bif decide (Line.j (List.getD l (↑i : Int).toNat (Line.mk (0 : Int) (0 : Int) (0 : Int) (0 : Int) (0 : Int))) ≤ Line.j (List.getD l (IntKind.wrap .i64 ((↑i : Int) - (1 : Int))).toNat (Line.mk (0 : Int) (0 : Int) (0 : Int) (0 : Int) (0 : Int)))) then some ((X.ret, [((6 : Nat), D.bool false)]), []) else some ((X.normal, [((0 : Nat), D.sl RTy.line k l), ((1 : Nat), D.int .i64 p), ((2 : Nat), D.int .i64 c), ((6 : Nat), D.bool false), ((7 : Nat), D.int .i64 (IntKind.wrap .i64 ((↑i : Int) + (1 : Int))))]), []) else none else some ((X.normal, [((0 : Nat), D.sl RTy.line k l), ((1 : Nat), D.int .i64 p), ((2 : Nat), D.int .i64 c), ((6 : Nat), D.bool false), ((7 : Nat), D.int .i64 (IntKind.wrap .i64 ((↑i : Int) + (1 : Int))))]), []) else none else none else none else some ((X.normal, [((0 : Nat), D.sl RTy.line k l), ((1 : Nat), D.int .i64 p), ((2 : Nat), D.int .i64 c), ((6 : Nat), D.bool false), ((7 : Nat), D.int .i64 (IntKind.wrap .i64 ((↑i : Int) + (1 : Int))))]), []) else none else some ((X.exit (0 : Nat), [((6 : Nat), D.bool false)]), []) else none) := by kernel_rfl
def linesR_fin (k : Bool) (l : List Line) (p : Int) (c : Int) (i : Nat) : RT RC := .br (linesAt p c l i) (.leaf (.exit 0) [(6, .bool false)] []) (.leaf .ret [(6, .bool false)] [])
def linesR_Inv (k : Bool) (l : List Line) (p : Int) (c : Int) (i : Nat) : Prop := i ≤ l.length ∧ l.length ≤ 9223372036854775807
def linesR_S : LoopR RC linesR_St where
  k := 0
  canon q := linesR_c q.k q.l q.p q.c q.i
  objs q := linesR_o q.k q.l q.p q.c q.i
  fin q := linesR_fin q.k q.l q.p q.c q.i
  Inv q := linesR_Inv q.k q.l q.p q.c q.i
  μ q := q.l.length - q.i
theorem linesR_round (k : Bool) (l : List Line) (p : Int) (c : Int) (i : Nat) (hI : linesR_Inv k l p c i) : Leaf (linesR_r k l p c i) (LedR linesR_S ⟨k, l, p, c, i⟩) := by
  rw [linesR_eq]
  unfold linesR_Inv at hI
  obtain ⟨h1, h2⟩ := hI
  have hlk := lenOK_of h2
  by_cases hlt : i < l.length
  · have w_succ : IntKind.i64.wrap ((i : Int) + 1) = ((i + 1 : Nat) : Int) := by rw [wrap_id (by omega) (by omega)]; simp
    have d_lt : decide ((i : Int) < l.length) = true := by simp; omega
    have d_in : decide (0 ≤ (i : Int) ∧ (i : Int) < l.length) = true := by simp; omega
    have t_nat : ((i : Int)).toNat = i := by simp
    have w_pred : IntKind.i64.wrap ((i : Int) - 1) = (i : Int) - 1 := wrap_id (by omega) (by omega)
    have t_natp : ((i : Int) - 1).toNat = i - 1 := by omega
    simp only [w_succ, d_lt, d_in, t_nat, w_pred, t_natp, cond_true]
    simp only [hlk, cond_true]
    have hst := eachAt_step (oneLB p) twoLB l i (⟨0, 0, 0, 0, 0⟩ : Line) hlt
    have hne : l.isEmpty = false := by cases l <;> simp at hlt ⊢
    have hz : linesAt p c l i = ((decide (i ≠ 0) || decide (c < (l.getD i ⟨0, 0, 0, 0, 0⟩).place)) && eachAt (oneLB p) twoLB l i) := by
      unfold linesAt
      by_cases hi : i = 0
      · subst hi; simp [hne]
      · simp [hi]
    have hn : linesAt p c l (i + 1) = eachAt (oneLB p) twoLB l (i + 1) := by simp [linesAt]
    rw [hst] at hz
    generalize l.getD i (⟨0, 0, 0, 0, 0⟩ : Line) = x at hz ⊢
    generalize l.getD (i - 1) (⟨0, 0, 0, 0, 0⟩ : Line) = y at hz ⊢
    have hgo : oneLB p x = true → (i ≠ 0 ∨ c < x.place) → (i = 0 ∨ twoLB y x = true) → Leaf (some ((X.normal, linesR_c k l p c (i + 1)), [])) (LedR linesR_S ⟨k, l, p, c, i⟩) := fun a b d =>
      leafR_go ⟨k, l, p, c, i + 1⟩ ⟨hlt, h2⟩ (by simp only [linesR_S]; omega) (by
        have e1 : (decide (i ≠ 0) || decide (c < x.place)) = true := by simpa using b
        have e2 : (decide (i = 0) || twoLB y x) = true := by simpa using d
        simp only [linesR_S, linesR_fin, hz, hn, a, e1, e2, Bool.true_and]) rfl rfl
    have hno : ¬ (oneLB p x = true ∧ (i ≠ 0 ∨ c < x.place) ∧ (i = 0 ∨ twoLB y x = true)) → Leaf (some ((X.ret, [(6, D.bool false)]), [])) (LedR linesR_S ⟨k, l, p, c, i⟩) := fun he => leafR_ret [] (by
      have : linesAt p c l i = false := by
        rw [hz]
        cases hq : ((decide (i ≠ 0) || decide (c < x.place)) && (oneLB p x && (decide (i = 0) || twoLB y x) && eachAt (oneLB p) twoLB l (i + 1))) with
        | false => rfl
        | true =>
          exfalso
          simp only [Bool.and_eq_true, Bool.or_eq_true, decide_eq_true_eq] at hq
          exact he ⟨hq.2.1.1, hq.1, hq.2.1.2⟩
      simp [linesR_S, linesR_fin, this, RT.val]) rfl
    simp only [oneLB, twoLB, withinB, Bool.and_eq_true, Bool.or_eq_true, decide_eq_true_eq, beq_iff_eq] at hgo hno
    by_cases hi : i = 0
    · have d0 : decide (0 < (i : Int)) = false := by simp; omega
      simp only [d0, cond_false]
      repeat' (first | (refine leaf_cond.2 ⟨fun hc_ => ?_, fun hc_ => ?_⟩ <;> simp only [decide_eq_true_eq, decide_eq_false_iff_not, beq_iff_eq, beq_eq_false_iff_ne, bne_iff_ne, ne_eq, Bool.not_eq_true, Bool.not_eq_false, bne_eq_false_iff_eq, decide_eq_decide, Bool.true_eq_false, Bool.false_eq_true] at hc_))
      all_goals first | (exfalso; omega) | exact hno (by omega) | (apply hgo <;> omega)
    · have d_pos : decide (0 < (i : Int)) = true := by simp; omega
      have d_inp : decide (0 ≤ (i : Int) - 1 ∧ (i : Int) - 1 < l.length) = true := by simp; omega
      simp only [d_pos, d_inp, cond_true]
      have i0 : ((i : Int) == 0) = false := by simp; omega
      simp only [i0, cond_false]
      generalize IntKind.i64.wrap (y.offset + 1) = z at hgo hno ⊢
      repeat' (first | (refine leaf_cond.2 ⟨fun hc_ => ?_, fun hc_ => ?_⟩ <;> simp only [decide_eq_true_eq, decide_eq_false_iff_not, beq_iff_eq, beq_eq_false_iff_ne, bne_iff_ne, ne_eq, Bool.not_eq_true, Bool.not_eq_false, bne_eq_false_iff_eq, decide_eq_decide, Bool.true_eq_false, Bool.false_eq_true] at hc_))
      all_goals first | (exfalso; omega) | exact hno (by omega) | (apply hgo <;> omega)
  · have hi : i = l.length := by omega
    have c1 : decide ((i : Int) < l.length) = false := by simp; omega
    simp only [hlk, c1, cond_true, cond_false]
    have hq : linesAt p c l i = true := by
      unfold linesAt
      rw [eachAt_end _ _ _ _ (by omega)]
      cases l with
      | nil => simp
      | cons _ _ => simp at hi ⊢; left; omega
    exact leafR_exit [] (by simp [linesR_S, linesR_fin, hq, RT.val]) rfl
def linesR_d (env : Env RC) (os : List (Obj RC)) : Option (Bool × linesR_St) := match env, os with
  | [(0, .sl .line k l), (1, .int .i64 p), (2, .int .i64 c), (6, .bool false), (7, .int .i64 x0)], [] => staticD (true) (decide (x0 = 0) && decide (l.length ≤ 9223372036854775807), ⟨k, l, p, c, 0⟩)
  | _, _ => none
noncomputable def ug_2 := ug_1.addLoop 37 4 (sumR s07 [] [0, 1, 2, 6, 7] linesR_S linesR_d)
theorem ug_2_laws : FLaws Try.prog s07 ug_2 := by
  refine ug_1_laws.addRoundsR s07_laws (by kernel_rfl) linesR_S 60 [0, 1, 2, 6, 7] [6] [] [0, 1, 2, 6, 7] linesR_d (fun q hI => ?_) ?_
  · obtain ⟨k, l, p, c, i⟩ := q
    refine ⟨?_, ?_, linesR_round k l p c i hI⟩
    · simp_all [RefsOK, linesR_S, linesR_c, linesR_o, linesR_Inv, D.refs, Obj.refs, rEnc]
    · simp_all [linesR_S, linesR_fin, linesR_o, linesR_Inv, RT.refsOK, RefsOK, D.refs, Obj.refs, rEnc]
  · intro env os b q hd_ hb
    unfold linesR_d at hd_
    split at hd_
    · obtain ⟨hs, hd_⟩ := staticD_some hd_
      cases hd_
      simp only [Bool.and_eq_true, decide_eq_true_eq] at hb
      obtain ⟨rfl, hl⟩ := hb
      exact ⟨⟨Nat.zero_le _, hl⟩, rfl, rfl⟩
    · cases hd_
def linesRf_s (k : Bool) (l : List Line) (p : Int) (c : Int) : Option (Bool × D RC) := some (lenOK l.length, .bool (partOK p c l))
def linesRf_sp : List (D RC) → Option (Bool × D RC)
  | [.sl .line k l, .int .i64 p, .int .i64 c] => linesRf_s k l p c
  | _ => none
noncomputable def linesRf_e (k : Bool) (l : List Line) (p : Int) (c : Int) := evF s07 ug_2 40 37 [.sl (C := RC) .line k l, .int .i64 p, .int .i64 c]
theorem linesRf_eq (k : Bool) (l : List Line) (p : Int) (c : Int) : linesRf_e k l p c = (bif lenOK l.length then bif decide ((16 : Int) < (↑l.length : Int)) then some (D.bool false) else bif decide (c < (0 : Int)) then some (D.bool false) else bif decide (p < c) then some (D.bool false) else bif decide (List.length l ≤ (9223372036854775807 : Nat)) then bif linesAt p c l (0 : Nat) then some (D.bool true) else some (D.bool false) else none else none) := by kernel_rfl
theorem linesRf_ok (k : Bool) (l : List Line) (p : Int) (c : Int) (h : (lenOK l.length) = true) : linesRf_e k l p c = some (.bool (partOK p c l)) := by
  rw [linesRf_eq]
  have h2 : l.length ≤ 9223372036854775807 := lenOK_le h
  rw [partOK_eq, h]
  by_cases h4 : l.length ≤ 16
  · have a1 : ¬ (16 : Int) < l.length := by omega
    by_cases c0 : c < 0
    · have : ¬ 0 ≤ c := by omega
      simp [h4, h2, a1, c0, this]
    · have c0' : 0 ≤ c := by omega
      by_cases cp : p < c
      · have : ¬ c ≤ p := by omega
        simp [h4, h2, a1, c0, c0', cp, this]
      · have cp' : c ≤ p := by omega
        simp [h4, h2, a1, c0, c0', cp, cp']
        cases linesAt p c l 0 <;> rfl
  · have : (16 : Int) < l.length := by omega
    simp [h4, this]
noncomputable def ug_3 := ug_2.addSpec 37 linesRf_sp
theorem ug_3_laws : FLaws Try.prog s07 ug_3 := ug_2_laws.addEv s07_laws fun args d h => by
  unfold linesRf_sp at h
  split at h
  · unfold linesRf_s at h
    have h1 := congrArg Prod.fst (Option.some.inj h)
    obtain rfl : _ = d := congrArg Prod.snd (Option.some.inj h)
    exact ⟨by simp [D.refs], 40, linesRf_ok _ _ _ _ h1⟩
  · cases h
def standsR_s (p : Int) (ci : Bool) (items : List Item) (k0 : Bool) (k1 : Bool) (k2 : Bool) (l0 : List Line) (l1 : List Line) (l2 : List Line) (c0 : Int) (c1 : Int) (c2 : Int) : Option (Bool × D RC) := some (decide (items.length ≤ 9223372036854775807 ∧ l0.length ≤ 9223372036854775807 ∧ l1.length ≤ 9223372036854775807 ∧ l2.length ≤ 9223372036854775807), .bool (standsOK ⟨p, items, l0, l1, l2, c0, c1, c2⟩))
def standsR_sp : List (D RC) → Option (Bool × D RC)
  | [.acons (.int .i64 p) (.acons (.sl .item ci items) (.acons (.acons (.sl .line k0 l0) (.acons (.sl .line k1 l1) (.acons (.sl .line k2 l2) .anil))) (.acons (.arr .int 3 [c0, c1, c2]) .anil)))] => standsR_s p ci items k0 k1 k2 l0 l1 l2 c0 c1 c2
  | _ => none
noncomputable def standsR_e (p : Int) (ci : Bool) (items : List Item) (k0 : Bool) (k1 : Bool) (k2 : Bool) (l0 : List Line) (l1 : List Line) (l2 : List Line) (c0 : Int) (c1 : Int) (c2 : Int) := evF s07 ug_3 40 19 [.acons (.int .i64 p) (.acons (.sl (C := RC) .item ci items) (.acons (.acons (.sl (C := RC) .line k0 l0) (.acons (.sl (C := RC) .line k1 l1) (.acons (.sl (C := RC) .line k2 l2) .anil))) (.acons (.arr (C := RC) .int 3 [c0, c1, c2]) .anil)))]
theorem standsR_eq (p : Int) (ci : Bool) (items : List Item) (k0 : Bool) (k1 : Bool) (k2 : Bool) (l0 : List Line) (l1 : List Line) (l2 : List Line) (c0 : Int) (c1 : Int) (c2 : Int) : standsR_e p ci items k0 k1 k2 l0 l1 l2 c0 c1 c2 = (bif decide (p < (0 : Int)) then some (D.bool false) else bif decide ((1048575 : Int) < p) then some (D.bool false) else bif decide (List.length items ≤ (9223372036854775807 : Nat)) then bif eachAt (oneIB p) twoIB items (0 : Nat) then bif lenOK l0.length then bif !partOK p c0 l0 then some (D.bool false) else bif lenOK l1.length then bif !partOK p c1 l1 then some (D.bool false) else bif lenOK l2.length then bif !partOK p c2 l2 then some (D.bool false) else some (D.bool true) else none else none else none else some (D.bool false) else none) := by kernel_rfl
theorem standsR_ok (p : Int) (ci : Bool) (items : List Item) (k0 : Bool) (k1 : Bool) (k2 : Bool) (l0 : List Line) (l1 : List Line) (l2 : List Line) (c0 : Int) (c1 : Int) (c2 : Int) (h : (decide (items.length ≤ 9223372036854775807 ∧ l0.length ≤ 9223372036854775807 ∧ l1.length ≤ 9223372036854775807 ∧ l2.length ≤ 9223372036854775807)) = true) : standsR_e p ci items k0 k1 k2 l0 l1 l2 c0 c1 c2 = some (.bool (standsOK ⟨p, items, l0, l1, l2, c0, c1, c2⟩)) := by
  rw [standsR_eq]
  obtain ⟨h, h0, h1, h2⟩ := of_decide_eq_true h
  simp only [standsOK, lenOK_of h, lenOK_of h0, lenOK_of h1, lenOK_of h2, h, decide_true, cond_true]
  have e1 : decide (0 ≤ p) = !decide (p < 0) := by by_cases h : p < 0 <;> simp [h] <;> omega
  have e2 : decide (p ≤ 1048575) = !decide (1048575 < p) := by by_cases h : 1048575 < p <;> simp [h] <;> omega
  simp only [withinB, e1, e2]
  generalize decide (p < 0) = x1
  generalize decide (1048575 < p) = x2
  generalize eachAt (oneIB p) twoIB items 0 = x3
  generalize partOK p c0 l0 = x4
  generalize partOK p c1 l1 = x5
  generalize partOK p c2 l2 = x6
  cases x1 <;> cases x2 <;> cases x3 <;> cases x4 <;> cases x5 <;> cases x6 <;> rfl
noncomputable def ug_4 := ug_3.addSpec 19 standsR_sp
theorem ug_4_laws : FLaws Try.prog s07 ug_4 := ug_3_laws.addEv s07_laws fun args d h => by
  unfold standsR_sp at h
  split at h
  · unfold standsR_s at h
    have h1 := congrArg Prod.fst (Option.some.inj h)
    obtain rfl : _ = d := congrArg Prod.snd (Option.some.inj h)
    exact ⟨by simp [D.refs], 40, standsR_ok _ _ _ _ _ _ _ _ _ _ _ _ h1⟩
  · cases h
structure Rd where
  c : Bool
  b : List UInt8
  bad : Bool
def rget (w : Nat) (r : Rd) : Int × Rd := if w ≤ r.b.length then ((leVal (r.b.take w) : Int), ⟨r.c, r.b.drop w, r.bad⟩) else (0, ⟨true, [], true⟩)
theorem rget_ok {w : Nat} {c bad : Bool} {b : List UInt8} (h : w ≤ b.length) : rget w ⟨c, b, bad⟩ = ((leVal (b.take w) : Int), ⟨c, b.drop w, bad⟩) := by simp [rget, h]
theorem rget_no {w : Nat} {c bad : Bool} {b : List UInt8} (h : b.length < w) : rget w ⟨c, b, bad⟩ = (0, ⟨true, [], true⟩) := by simp [rget, Nat.not_le.2 h]
theorem getP_snd1 (b : List UInt8) : ((getP b 0 1).2 != 0) = decide (b.length < 1) := by
  by_cases h : b.length < 1
  · have : ¬ ((1 : Int) ≤ b.length) := by omega
    simp only [getP, h]; simp [this]
  · have : ((1 : Int) ≤ b.length) := by omega
    simp only [getP, h]; simp [this]
theorem getP_snd3 (b : List UInt8) : ((getP b 0 3).2 != 0) = decide (b.length < 3) := by
  by_cases h : b.length < 3
  · have : ¬ ((3 : Int) ≤ b.length) := by omega
    simp only [getP, h]; simp [this]
  · have : ((3 : Int) ≤ b.length) := by omega
    simp only [getP, h]; simp [this]
theorem getP_fst1 {b : List UInt8} (h : ¬ b.length < 1) : (getP b 0 1).1 = (leVal (b.take 1) : Int) := by
  have : ((1 : Int) ≤ b.length) := by omega
  simp only [getP]; simp [this]
theorem getP_fst3 {b : List UInt8} (h : ¬ b.length < 3) : (getP b 0 3).1 = (leVal (b.take 3) : Int) := by
  have : ((3 : Int) ≤ b.length) := by omega
  simp only [getP]; simp [this]
theorem leVal_take1 {b : List UInt8} (h : 1 ≤ b.length) : leVal (b.take 1) = (b.getD 0 0).toNat := by
  cases b with
  | nil => simp at h
  | cons x t => simp [leVal]
theorem rget_bad {w : Nat} {r : Rd} (h : r.bad = true) : (rget w r).2.bad = true := by
  unfold rget; split <;> simp [h]
def sget (w : Nat) (b : List UInt8) : Option (Int × List UInt8) := if w ≤ b.length then some ((leVal (b.take w) : Int), b.drop w) else none
def sItems : Nat → List UInt8 → Option (List Item × List UInt8)
  | 0, b => some ([], b)
  | n + 1, b => (sget 1 b).bind fun k => (sget 3 k.2).bind fun p => (sget 1 p.2).bind fun v => (sItems n v.2).bind fun q => some (⟨k.1, p.1, v.1⟩ :: q.1, q.2)
def sLines : Nat → Int → List UInt8 → Option (List Line × List UInt8)
  | 0, _, b => some ([], b)
  | n + 1, o, b => (sget 3 b).bind fun p => (sget 1 p.2).bind fun x => (sget 1 x.2).bind fun v => (sLines n (o + 1) v.2).bind fun q => some (⟨o, p.1, x.1 % 16, x.1 / 16, v.1⟩ :: q.1, q.2)
def sPart (b : List UInt8) : Option ((Int × List Line) × List UInt8) :=
  (sget 3 b).bind fun c => (sget 1 c.2).bind fun n => (sget 3 n.2).bind fun f => if n.1 = 0 ∧ f.1 ≠ 0 then none else (sLines n.1.toNat f.1 f.2).bind fun q => some ((c.1, q.1), q.2)
def readS (b : List UInt8) : Option St :=
  (sget 3 b).bind fun p => (sget 1 p.2).bind fun n => (sItems n.1.toNat n.2).bind fun it => (sPart it.2).bind fun x => (sPart x.2).bind fun y => (sPart y.2).bind fun z =>
    if z.2 = [] ∧ standsOK ⟨p.1, it.1, x.1.2, y.1.2, z.1.2, x.1.1, y.1.1, z.1.1⟩ = true then some ⟨p.1, it.1, x.1.2, y.1.2, z.1.2, x.1.1, y.1.1, z.1.1⟩ else none
structure Rdr (σ : Type) where
  get : Nat → σ → Int × σ
  bad : σ → Bool
  rem : σ → List UInt8
structure RdrOK {σ : Type} (R : Rdr σ) : Prop where
  ok : ∀ w s, 1 ≤ w → R.bad s = false → w ≤ (R.rem s).length → (R.get w s).1 = (leVal ((R.rem s).take w) : Int) ∧ R.rem (R.get w s).2 = (R.rem s).drop w ∧ R.bad (R.get w s).2 = false
  no : ∀ w s, R.bad s = false → (R.rem s).length < w → R.bad (R.get w s).2 = true
  stay : ∀ w s, R.bad s = true → R.bad (R.get w s).2 = true
section
variable {σ : Type} (R : Rdr σ)
def Agree {α : Type} (o : Option (α × List UInt8)) (v : α) (s : σ) : Prop := match o with
  | some q => v = q.1 ∧ R.rem s = q.2 ∧ R.bad s = false
  | none => R.bad s = true
variable {R} (K : RdrOK R)
include K
theorem agree_get (w : Nat) (s : σ) (h : R.bad s = false) (h1 : 1 ≤ w := by decide) : Agree R (sget w (R.rem s)) (R.get w s).1 (R.get w s).2 := by
  unfold sget
  by_cases hw : w ≤ (R.rem s).length
  · rw [if_pos hw]; exact K.ok w s h1 h hw
  · rw [if_neg hw]; exact K.no w s h (by omega)
omit K in
theorem agree_bind {α β : Type} {o : Option (α × List UInt8)} {v : α} {s s' : σ} {w : β} (f : α × List UInt8 → Option (β × List UInt8)) (h : Agree R o v s) (hs : R.bad s = true → R.bad s' = true) (hf : R.bad s = false → Agree R (f (v, R.rem s)) w s') : Agree R (o.bind f) w s' := by
  cases o with
  | none => exact hs h
  | some q =>
    obtain ⟨h1, h2, h3⟩ := h
    have := hf h3
    rw [h1, h2] at this
    exact this
def gItems (R : Rdr σ) (stop : Bool) : Nat → σ → σ × List Item
  | 0, s => (s, [])
  | n + 1, s => bif stop && R.bad s then (s, []) else
    let k := R.get 1 s
    let p := R.get 3 k.2
    let v := R.get 1 p.2
    let q := gItems R stop n v.2
    (q.1, ⟨k.1, p.1, v.1⟩ :: q.2)
def gLines (R : Rdr σ) (stop : Bool) : Nat → Int → σ → σ × List Line
  | 0, _, s => (s, [])
  | n + 1, o, s => bif stop && R.bad s then (s, []) else
    let p := R.get 3 s
    let x := R.get 1 p.2
    let v := R.get 1 x.2
    let q := gLines R stop n (o + 1) v.2
    (q.1, ⟨o, p.1, x.1 % 16, x.1 / 16, v.1⟩ :: q.2)
theorem gItems_stay (stop : Bool) : ∀ (n : Nat) (s : σ), R.bad s = true → R.bad (gItems R stop n s).1 = true
  | 0, s, h => h
  | n + 1, s, h => by
    cases stop with
    | true => simp [gItems, h]
    | false =>
      simp only [gItems, Bool.false_and, cond_false]
      exact gItems_stay false n _ (K.stay _ _ (K.stay _ _ (K.stay _ _ h)))
theorem gLines_stay (stop : Bool) : ∀ (n : Nat) (o : Int) (s : σ), R.bad s = true → R.bad (gLines R stop n o s).1 = true
  | 0, o, s, h => h
  | n + 1, o, s, h => by
    cases stop with
    | true => simp [gLines, h]
    | false =>
      simp only [gLines, Bool.false_and, cond_false]
      exact gLines_stay false n _ _ (K.stay _ _ (K.stay _ _ (K.stay _ _ h)))
theorem gItems_agree (stop : Bool) : ∀ (n : Nat) (s : σ), R.bad s = false → Agree R (sItems n (R.rem s)) (gItems R stop n s).2 (gItems R stop n s).1
  | 0, s, h => ⟨rfl, rfl, h⟩
  | n + 1, s, h => by
    have e : gItems R stop (n + 1) s = ((gItems R stop n (R.get 1 (R.get 3 (R.get 1 s).2).2).2).1, ⟨(R.get 1 s).1, (R.get 3 (R.get 1 s).2).1, (R.get 1 (R.get 3 (R.get 1 s).2).2).1⟩ :: (gItems R stop n (R.get 1 (R.get 3 (R.get 1 s).2).2).2).2) := by
      simp [gItems, h]
    rw [e, sItems]
    refine agree_bind _ (agree_get K 1 s h) (fun hb => gItems_stay K stop n _ (K.stay _ _ (K.stay _ _ hb))) fun h1 => ?_
    refine agree_bind _ (agree_get K 3 _ h1) (fun hb => gItems_stay K stop n _ (K.stay _ _ hb)) fun h2 => ?_
    refine agree_bind _ (agree_get K 1 _ h2) (fun hb => gItems_stay K stop n _ hb) fun h3 => ?_
    refine agree_bind _ (gItems_agree stop n _ h3) (fun hb => hb) fun h4 => ?_
    exact ⟨rfl, rfl, h4⟩
theorem gLines_agree (stop : Bool) : ∀ (n : Nat) (o : Int) (s : σ), R.bad s = false → Agree R (sLines n o (R.rem s)) (gLines R stop n o s).2 (gLines R stop n o s).1
  | 0, o, s, h => ⟨rfl, rfl, h⟩
  | n + 1, o, s, h => by
    have e : gLines R stop (n + 1) o s = ((gLines R stop n (o + 1) (R.get 1 (R.get 1 (R.get 3 s).2).2).2).1, ⟨o, (R.get 3 s).1, (R.get 1 (R.get 3 s).2).1 % 16, (R.get 1 (R.get 3 s).2).1 / 16, (R.get 1 (R.get 1 (R.get 3 s).2).2).1⟩ :: (gLines R stop n (o + 1) (R.get 1 (R.get 1 (R.get 3 s).2).2).2).2) := by
      simp [gLines, h]
    rw [e, sLines]
    refine agree_bind _ (agree_get K 3 s h) (fun hb => gLines_stay K stop n _ _ (K.stay _ _ (K.stay _ _ hb))) fun h1 => ?_
    refine agree_bind _ (agree_get K 1 _ h1) (fun hb => gLines_stay K stop n _ _ (K.stay _ _ hb)) fun h2 => ?_
    refine agree_bind _ (agree_get K 1 _ h2) (fun hb => gLines_stay K stop n _ _ hb) fun h3 => ?_
    refine agree_bind _ (gLines_agree stop n _ _ h3) (fun hb => hb) fun h4 => ?_
    exact ⟨rfl, rfl, h4⟩
def gPart (R : Rdr σ) (stop : Bool) (mark : σ → σ) (s : σ) : σ × Int × List Line :=
  let c := R.get 3 s
  let n := R.get 1 c.2
  let f := R.get 3 n.2
  let q := gLines R stop n.1.toNat f.1 (bif n.1 == 0 && f.1 != 0 then mark f.2 else f.2)
  (q.1, c.1, q.2)
theorem gPart_stay (stop : Bool) (mark : σ → σ) (hm : ∀ s, R.bad (mark s) = true) (s : σ) (h : R.bad s = true) : R.bad (gPart R stop mark s).1 = true := by
  unfold gPart
  refine gLines_stay K stop _ _ _ ?_
  cases ((R.get 1 (R.get 3 s).2).1 == 0 && (R.get 3 (R.get 1 (R.get 3 s).2).2).1 != 0) with
  | true => exact hm _
  | false => exact K.stay _ _ (K.stay _ _ (K.stay _ _ h))
theorem gPart_agree (stop : Bool) (mark : σ → σ) (hm : ∀ s, R.bad (mark s) = true) (s : σ) (h : R.bad s = false) : Agree R (sPart (R.rem s)) (gPart R stop mark s).2 (gPart R stop mark s).1 := by
  have st : ∀ x : σ, R.bad x = true → ∀ b : Bool, R.bad (bif b then mark x else x) = true := fun x hx b => by cases b; exact hx; exact hm x
  unfold sPart gPart
  refine agree_bind _ (agree_get K 3 s h) (fun hb => gLines_stay K stop _ _ _ (st _ (K.stay _ _ (K.stay _ _ hb)) _)) fun h1 => ?_
  refine agree_bind _ (agree_get K 1 _ h1) (fun hb => gLines_stay K stop _ _ _ (st _ (K.stay _ _ hb) _)) fun h2 => ?_
  refine agree_bind _ (agree_get K 3 _ h2) (fun hb => gLines_stay K stop _ _ _ (st _ hb _)) fun h3 => ?_
  by_cases hc : (R.get 1 (R.get 3 s).2).1 = 0 ∧ (R.get 3 (R.get 1 (R.get 3 s).2).2).1 ≠ 0
  · have e : ((R.get 1 (R.get 3 s).2).1 == 0 && (R.get 3 (R.get 1 (R.get 3 s).2).2).1 != 0) = true := by simp [hc.1, hc.2]
    simp only [if_pos hc, e, cond_true]
    exact gLines_stay K stop _ _ _ (hm _)
  · have e : ((R.get 1 (R.get 3 s).2).1 == 0 && (R.get 3 (R.get 1 (R.get 3 s).2).2).1 != 0) = false := by
      cases hq : ((R.get 1 (R.get 3 s).2).1 == 0 && (R.get 3 (R.get 1 (R.get 3 s).2).2).1 != 0) with
      | false => rfl
      | true => simp only [Bool.and_eq_true, beq_iff_eq, bne_iff_ne, ne_eq] at hq; exact (hc hq).elim
    simp only [if_neg hc, e, cond_false]
    refine agree_bind _ (gLines_agree K stop _ _ _ h3) (fun hb => hb) fun h4 => ?_
    exact ⟨rfl, rfl, h4⟩
def gState (R : Rdr σ) (stop : Bool) (mark : σ → σ) (s : σ) : σ × St :=
  let p := R.get 3 s
  let n := R.get 1 p.2
  let it := gItems R stop n.1.toNat n.2
  let x := gPart R stop mark it.1
  let y := gPart R stop mark x.1
  let z := gPart R stop mark y.1
  (z.1, ⟨p.1, it.2, x.2.2, y.2.2, z.2.2, x.2.1, y.2.1, z.2.1⟩)
def sState (b : List UInt8) : Option (St × List UInt8) :=
  (sget 3 b).bind fun p => (sget 1 p.2).bind fun n => (sItems n.1.toNat n.2).bind fun it => (sPart it.2).bind fun x => (sPart x.2).bind fun y => (sPart y.2).bind fun z =>
    some (⟨p.1, it.1, x.1.2, y.1.2, z.1.2, x.1.1, y.1.1, z.1.1⟩, z.2)
theorem gState_agree (stop : Bool) (mark : σ → σ) (hm : ∀ s, R.bad (mark s) = true) (s : σ) (h : R.bad s = false) : Agree R (sState (R.rem s)) (gState R stop mark s).2 (gState R stop mark s).1 := by
  have ps := gPart_stay K stop mark hm
  unfold sState gState
  refine agree_bind _ (agree_get K 3 s h) (fun hb => ps _ (ps _ (ps _ (gItems_stay K stop _ _ (K.stay _ _ hb))))) fun h1 => ?_
  refine agree_bind _ (agree_get K 1 _ h1) (fun hb => ps _ (ps _ (ps _ (gItems_stay K stop _ _ hb)))) fun h2 => ?_
  refine agree_bind _ (gItems_agree K stop _ _ h2) (fun hb => ps _ (ps _ (ps _ hb))) fun h3 => ?_
  refine agree_bind _ (gPart_agree K stop mark hm _ h3) (fun hb => ps _ (ps _ hb)) fun h4 => ?_
  refine agree_bind _ (gPart_agree K stop mark hm _ h4) (fun hb => ps _ hb) fun h5 => ?_
  refine agree_bind _ (gPart_agree K stop mark hm _ h5) (fun hb => hb) fun h6 => ?_
  exact ⟨rfl, rfl, h6⟩
omit K in
theorem readS_eq (b : List UInt8) : readS b = match sState b with
    | some q => if q.2 = [] ∧ standsOK q.1 = true then some q.1 else none
    | none => none := by
  unfold readS sState
  cases sget 3 b with
  | none => rfl
  | some p =>
    simp only [Option.bind_some]
    cases sget 1 p.2 with
    | none => rfl
    | some n =>
      simp only [Option.bind_some]
      cases sItems n.1.toNat n.2 with
      | none => rfl
      | some it =>
        simp only [Option.bind_some]
        cases sPart it.2 with
        | none => rfl
        | some x =>
          simp only [Option.bind_some]
          cases sPart x.2 with
          | none => rfl
          | some y =>
            simp only [Option.bind_some]
            cases sPart y.2 with
            | none => rfl
            | some z => rfl
theorem gState_read (stop : Bool) (mark : σ → σ) (hm : ∀ s, R.bad (mark s) = true) (s : σ) (h : R.bad s = false) :
    readS (R.rem s) = if R.bad (gState R stop mark s).1 = false ∧ R.rem (gState R stop mark s).1 = [] ∧ standsOK (gState R stop mark s).2 = true then some (gState R stop mark s).2 else none := by
  have := gState_agree K stop mark hm s h
  rw [readS_eq]
  cases hq : sState (R.rem s) with
  | none =>
    rw [hq] at this
    have hb : R.bad (gState R stop mark s).1 = true := this
    simp [hb]
  | some q =>
    rw [hq] at this
    obtain ⟨h1, h2, h3⟩ := this
    rw [h1, h2, h3]
    simp
end
def rdP : Rdr Rd := ⟨rget, Rd.bad, Rd.b⟩
theorem rdP_ok : RdrOK rdP where
  ok w s h1 h hw := by
    obtain ⟨c, b, bad⟩ := s
    simp only [rdP] at h hw ⊢
    subst h
    rw [rget_ok hw]; exact ⟨rfl, rfl, rfl⟩
  no w s h hw := by
    obtain ⟨c, b, bad⟩ := s
    simp only [rdP] at hw ⊢
    rw [rget_no hw]
  stay w s h := rget_bad h
structure Rn where
  pos : Nat
  short : Bool
def addL {α : Type} (q k : Int) (l x : List α) : List α := if q = k then l ++ x else l
structure QS (σ : Type) where
  r : σ
  l0 : List Line
  l1 : List Line
  l2 : List Line
  c0 : Int
  c1 : Int
  c2 : Int
section
variable {σ : Type} (R : Rdr σ) (stop : Bool) (mark : σ → σ)
def part0 (s : QS σ) : QS σ := { s with r := (gPart R stop mark s.r).1, l0 := s.l0 ++ (gPart R stop mark s.r).2.2, c0 := (gPart R stop mark s.r).2.1 }
def part1 (s : QS σ) : QS σ := { s with r := (gPart R stop mark s.r).1, l1 := s.l1 ++ (gPart R stop mark s.r).2.2, c1 := (gPart R stop mark s.r).2.1 }
def part2 (s : QS σ) : QS σ := { s with r := (gPart R stop mark s.r).1, l2 := s.l2 ++ (gPart R stop mark s.r).2.2, c2 := (gPart R stop mark s.r).2.1 }
def runQ : Nat → QS σ → QS σ
  | 0, s => part2 R stop mark (part1 R stop mark (part0 R stop mark s))
  | 1, s => part2 R stop mark (part1 R stop mark s)
  | 2, s => part2 R stop mark s
  | _, s => s
end
def markP (r : Rd) : Rd := ⟨r.c, r.b, true⟩
theorem gLines_len {σ : Type} (R : Rdr σ) (stop : Bool) : ∀ (n : Nat) (o : Int) (s : σ), (gLines R stop n o s).2.length ≤ n
  | 0, _, _ => Nat.le_refl _
  | n + 1, o, s => by
    simp only [gLines]
    cases stop && R.bad s with
    | true => simp
    | false => have := gLines_len R stop n (o + 1) (R.get 1 (R.get 1 (R.get 3 s).2).2).2; simp; omega
theorem and15 (m : Nat) (hm : m < 2 ^ 63) : bits .i64 (fun _ u v => u &&& v) (m : Int) 15 = (m : Int) % 16 := by
  unfold bits
  have h1 : ∀ x : Nat, x < 2 ^ 64 → (BitVec.ofInt IntKind.i64.bits (x : Int)).toNat = x := by
    intro x hx
    rw [BitVec.toNat_ofInt]
    simp only [IntKind.bits]
    omega
  have e : (15 : Int) = ((15 : Nat) : Int) := rfl
  rw [e, BitVec.toNat_and, h1 _ (by omega), h1 _ (by omega)]
  have h2 : m &&& 15 = m % 16 := Nat.and_two_pow_sub_one_eq_mod m 4
  rw [h2, wrap_id (by omega) (by omega)]
  omega
theorem gItemsP_succ (k : Nat) (s : Rd) : gItems rdP false (k + 1) s = ((gItems rdP false k (rget 1 (rget 3 (rget 1 s).2).2).2).1, ⟨(rget 1 s).1, (rget 3 (rget 1 s).2).1, (rget 1 (rget 3 (rget 1 s).2).2).1⟩ :: (gItems rdP false k (rget 1 (rget 3 (rget 1 s).2).2).2).2) := rfl
theorem gLinesP_succ (k : Nat) (o : Int) (s : Rd) : gLines rdP false (k + 1) o s = ((gLines rdP false k (o + 1) (rget 1 (rget 1 (rget 3 s).2).2).2).1, ⟨o, (rget 3 s).1, (rget 1 (rget 3 s).2).1 % 16, (rget 1 (rget 3 s).2).1 / 16, (rget 1 (rget 1 (rget 3 s).2).2).1⟩ :: (gLines rdP false k (o + 1) (rget 1 (rget 1 (rget 3 s).2).2).2).2) := rfl
open Go.Proofs
structure rsItems_St where
  c : Bool
  b : List UInt8
  bad : Bool
  pl : Int
  its : List Item
  c0 : Int
  c1 : Int
  c2 : Int
  n : Int
  i : Nat
def rsItems_c (c : Bool) (b : List UInt8) (bad : Bool) (pl : Int) (its : List Item) (c0 : Int) (c1 : Int) (c2 : Int) (n : Int) (i : Nat) : Env RC := [(4, .ptr 0 []), (5, .ptr 1 []), (20, .int .i64 n), (21, .int .i64 (i : Int))]
def rsItems_o (c : Bool) (b : List UInt8) (bad : Bool) (pl : Int) (its : List Item) (c0 : Int) (c1 : Int) (c2 : Int) (n : Int) (i : Nat) : List (Obj RC) := [.var 85 (.acons (.sl (C := RC) .u8 c b) (.acons (.bool bad) .anil)), .var 30 (.acons (.int .i64 pl) (.acons (.vs 2 (its.length)) (.acons (.acons (.sl (C := RC) .line true []) (.acons (.sl (C := RC) .line true []) (.acons (.sl (C := RC) .line true []) .anil))) (.acons (.arr (C := RC) .int 3 [c0, c1, c2]) .anil)))), .vec (C := RC) .item true its]
noncomputable def rsItems_r (c : Bool) (b : List UInt8) (bad : Bool) (pl : Int) (its : List Item) (c0 : Int) (c1 : Int) (c2 : Int) (n : Int) (i : Nat) := rndO s07 ug_4 32 4 40 3 [4, 5, 20, 21] [] [.slot 4 0, .slot 5 0, .path 1 [1]] (rsItems_c c b bad pl its c0 c1 c2 n i) (rsItems_o c b bad pl its c0 c1 c2 n i)
theorem rsItems_eq (c : Bool) (b : List UInt8) (bad : Bool) (pl : Int) (its : List Item) (c0 : Int) (c1 : Int) (c2 : Int) (n : Int) (i : Nat) : rsItems_r c b bad pl its c0 c1 c2 n i = (bif decide ((↑i : Int) < n) then bif decide (List.length b ≤ (1000000000000 : Nat)) then bif Prod.snd (getP b (0 : Int) (1 : Int)) != (0 : Int) then bif Nat.beq its.length its.length && sizeOK (List.length its + (1 : Nat)) (24 : Nat) then some ((X.normal, [((4 : Nat), D.ptr (0 : Nat) []), ((5 : Nat), D.ptr (1 : Nat) []), ((20 : Nat), D.int .i64 n), ((21 : Nat), D.int .i64 (IntKind.wrap .i64 ((↑i : Int) + (1 : Int))))]), [some (Obj.var (85 : Nat) (.acons (D.sl RTy.u8 true []) (.acons (D.bool true) .anil))), some (Obj.var (30 : Nat) (.acons (D.int .i64 pl) (.acons (D.vs (2 : Nat) (List.length its + (1 : Nat))) (.acons (D.acons (D.sl RTy.line true []) (.acons (D.sl RTy.line true []) (.acons (D.sl RTy.line true []) .anil))) (.acons (D.arr RTy.int (3 : Nat) [c0, c1, c2]) .anil))))), some (Obj.vec RTy.item true (its ++ [Item.mk (0 : Int) (0 : Int) (0 : Int)]))]) else none else bif decide ((0 : Int) ≤ (1 : Int) ∧ (1 : Int) ≤ (↑b.length : Int)) then bif decide (List.length (List.drop (1 : Nat) b) ≤ (1000000000000 : Nat)) then bif Prod.snd (getP (List.drop (1 : Nat) b) (0 : Int) (3 : Int)) != (0 : Int) then bif Nat.beq its.length its.length && sizeOK (List.length its + List.length [Item.mk (getP b (0 : Int) (1 : Int)).1 (0 : Int) (0 : Int)]) (24 : Nat) then some ((X.normal, [((4 : Nat), D.ptr (0 : Nat) []), ((5 : Nat), D.ptr (1 : Nat) []), ((20 : Nat), D.int .i64 n), ((21 : Nat), D.int .i64 (IntKind.wrap .i64 ((↑i : Int) + (1 : Int))))]), [some (Obj.var (85 : Nat) (.acons (D.sl RTy.u8 true []) (.acons (D.bool true) .anil))), some (Obj.var (30 : Nat) (.acons (D.int .i64 pl) (.acons (D.vs (2 : Nat) (List.length its + List.length [Item.mk (getP b (0 : Int) (1 : Int)).1 (0 : Int) (0 : Int)])) (.acons (D.acons (D.sl RTy.line true []) (.acons (D.sl RTy.line true []) (.acons (D.sl RTy.line true []) .anil))) (.acons (D.arr RTy.int (3 : Nat) [c0, c1, c2]) .anil))))), some (Obj.vec RTy.item true (its ++ [Item.mk (getP b (0 : Int) (1 : Int)).1 (0 : Int) (0 : Int)]))]) else none else bif decide ((0 : Int) ≤ (3 : Int) ∧ (3 : Int) ≤ (↑(List.drop (1 : Nat) b).length : Int)) then bif decide (List.length (List.drop (3 : Nat) (List.drop (1 : Nat) b)) ≤ (1000000000000 : Nat)) then bif Prod.snd (getP (List.drop (3 : Nat) (List.drop (1 : Nat) b)) (0 : Int) (1 : Int)) != (0 : Int) then bif Nat.beq its.length its.length && sizeOK (List.length its + List.length [Item.mk (getP b (0 : Int) (1 : Int)).1 (getP (List.drop (1 : Nat) b) (0 : Int) (3 : Int)).1 (0 : Int)]) (24 : Nat) then some ((X.normal, [((4 : Nat), D.ptr (0 : Nat) []), ((5 : Nat), D.ptr (1 : Nat) []), ((20 : Nat), D.int .i64 n), ((21 : Nat), D.int .i64 (IntKind.wrap .i64 ((↑i : Int) + (1 : Int))))]), [some (Obj.var (85 : Nat) (.acons (D.sl RTy.u8 true []) (.acons (D.bool true) .anil))), some (Obj.var (30 : Nat) (.acons (D.int .i64 pl) (.acons (D.vs (2 : Nat) (List.length its + List.length [Item.mk (getP b (0 : Int) (1 : Int)).1 (getP (List.drop (1 : Nat) b) (0 : Int) (3 : Int)).1 (0 : Int)])) (.acons (D.acons (D.sl RTy.line true []) (.acons (D.sl RTy.line true []) (.acons (D.sl RTy.line true []) .anil))) (.acons (D.arr RTy.int (3 : Nat) [c0, c1, c2]) .anil))))), some (Obj.vec RTy.item true (its ++ [Item.mk (getP b (0 : Int) (1 : Int)).1 (getP (List.drop (1 : Nat) b) (0 : Int) (3 : Int)).1 (0 : Int)]))]) else none else bif decide ((0 : Int) ≤ (1 : Int) ∧ (1 : Int) ≤ (↑(List.drop (3 : Nat) (List.drop (1 : Nat) b)).length : Int)) then bif Nat.beq its.length its.length && sizeOK (List.length its + List.length [Item.mk (getP b (0 : Int) (1 : Int)).1 (getP (List.drop (1 : Nat) b) (0 : Int) (3 : Int)).1 (getP (List.drop (3 : Nat) (List.drop (1 : Nat) b)) (0 : Int) (1 : Int)).1]) (24 : Nat) then some ((X.normal, [((4 : Nat), D.ptr (0 : Nat) []), ((5 : Nat), D.ptr (1 : Nat) []), ((20 : Nat), D.int .i64 n), ((21 : Nat), D.int .i64 (IntKind.wrap .i64 ((↑i : Int) + (1 : Int))))]), [some (Obj.var (85 : Nat) (.acons (D.sl RTy.u8 c (List.drop (1 : Nat) (List.drop (3 : Nat) (List.drop (1 : Nat) b)))) (.acons (D.bool bad) .anil))), some (Obj.var (30 : Nat) (.acons (D.int .i64 pl) (.acons (D.vs (2 : Nat) (List.length its + List.length [Item.mk (getP b (0 : Int) (1 : Int)).1 (getP (List.drop (1 : Nat) b) (0 : Int) (3 : Int)).1 (getP (List.drop (3 : Nat) (List.drop (1 : Nat) b)) (0 : Int) (1 : Int)).1])) (.acons (D.acons (D.sl RTy.line true []) (.acons (D.sl RTy.line true []) (.acons (D.sl RTy.line true []) .anil))) (.acons (D.arr RTy.int (3 : Nat) [c0, c1, c2]) .anil))))), some (Obj.vec RTy.item true (its ++ [Item.mk (getP b (0 : Int) (1 : Int)).1 (getP (List.drop (1 : Nat) b) (0 : Int) (3 : Int)).1 (getP (List.drop (3 : Nat) (List.drop (1 : Nat) b)) (0 : Int) (1 : Int)).1]))]) else none else none else none else none else none else none else none else some ((X.exit (0 : Nat), []), [some (Obj.var (85 : Nat) (.acons (D.sl RTy.u8 c b) (.acons (D.bool bad) .anil))), some (Obj.var (30 : Nat) (.acons (D.int .i64 pl) (.acons (D.vs (2 : Nat) its.length) (.acons (D.acons (D.sl RTy.line true []) (.acons (D.sl RTy.line true []) (.acons (D.sl RTy.line true []) .anil))) (.acons (D.arr RTy.int (3 : Nat) [c0, c1, c2]) .anil))))), some (Obj.vec RTy.item true its)])) := by kernel_rfl
def rsItems_fin (c : Bool) (b : List UInt8) (bad : Bool) (pl : Int) (its : List Item) (c0 : Int) (c1 : Int) (c2 : Int) (n : Int) (i : Nat) : RT RC := .leaf (.exit 0) [] [.var 85 (.acons (.sl (C := RC) .u8 (gItems rdP false (n.toNat - i) ⟨c, b, bad⟩).1.c (gItems rdP false (n.toNat - i) ⟨c, b, bad⟩).1.b) (.acons (.bool (gItems rdP false (n.toNat - i) ⟨c, b, bad⟩).1.bad) .anil)), .var 30 (.acons (.int .i64 pl) (.acons (.vs 2 (its ++ (gItems rdP false (n.toNat - i) ⟨c, b, bad⟩).2).length) (.acons (.acons (.sl (C := RC) .line true []) (.acons (.sl (C := RC) .line true []) (.acons (.sl (C := RC) .line true []) .anil))) (.acons (.arr (C := RC) .int 3 [c0, c1, c2]) .anil)))), .vec (C := RC) .item true (its ++ (gItems rdP false (n.toNat - i) ⟨c, b, bad⟩).2)]
def rsItems_Inv (c : Bool) (b : List UInt8) (bad : Bool) (pl : Int) (its : List Item) (c0 : Int) (c1 : Int) (c2 : Int) (n : Int) (i : Nat) : Prop := (i : Int) ≤ n ∧ n ≤ 255 ∧ b.length ≤ 1000000 ∧ its.length ≤ i
def rsItems_S : LoopR RC rsItems_St where
  k := 3
  canon q := rsItems_c q.c q.b q.bad q.pl q.its q.c0 q.c1 q.c2 q.n q.i
  objs q := rsItems_o q.c q.b q.bad q.pl q.its q.c0 q.c1 q.c2 q.n q.i
  fin q := rsItems_fin q.c q.b q.bad q.pl q.its q.c0 q.c1 q.c2 q.n q.i
  Inv q := rsItems_Inv q.c q.b q.bad q.pl q.its q.c0 q.c1 q.c2 q.n q.i
  μ q := q.n.toNat - q.i
theorem rsItems_round (c : Bool) (b : List UInt8) (bad : Bool) (pl : Int) (its : List Item) (c0 : Int) (c1 : Int) (c2 : Int) (n : Int) (i : Nat) (hI : rsItems_Inv c b bad pl its c0 c1 c2 n i) : Leaf (rsItems_r c b bad pl its c0 c1 c2 n i) (LedR rsItems_S ⟨c, b, bad, pl, its, c0, c1, c2, n, i⟩) := by
  rw [rsItems_eq]
  unfold rsItems_Inv at hI
  obtain ⟨h1, h2, h3, h4⟩ := hI
  have eb : ∀ n : Nat, n.beq n = true := fun n => by simp
  have z1 : rget 1 ⟨true, [], true⟩ = (0, ⟨true, [], true⟩) := rfl
  have z3 : rget 3 ⟨true, [], true⟩ = (0, ⟨true, [], true⟩) := rfl
  by_cases hlt : (i : Int) < n
  · have w_succ : IntKind.i64.wrap ((i : Int) + 1) = ((i + 1 : Nat) : Int) := by rw [wrap_id (by omega) (by omega)]; simp
    have hn : n.toNat - i = (n.toNat - (i + 1)) + 1 := by omega
    have s1 : sizeOK (its.length + 1) 24 = true := sizeT (by omega)
    have e0 : decide (b.length ≤ 1000000000000) = true := decide_eq_true (by omega)
    have t1 : Int.toNat 1 = 1 := rfl
    have t3 : Int.toNat 3 = 3 := rfl
    simp only [hlt, decide_true, cond_true, e0, getP_snd1, getP_snd3, w_succ, List.length_cons, List.length_nil, Nat.zero_add, s1, eb, Bool.and_self, t1, t3]
    by_cases q0 : (b).length < 1
    · have r0 : rget 1 ⟨c, b, bad⟩ = _ := rget_no q0
      simp only [q0, decide_true, cond_true]
      refine leafR_go ⟨true, [], true, pl, its ++ [⟨0, 0, 0⟩], c0, c1, c2, n, i + 1⟩ (by refine ⟨hlt, h2, ?_, ?_⟩ <;> simp <;> omega) (by simp only [rsItems_S]; omega) ?_ (by simp [rsItems_S, rsItems_c]) (by simp [rsItems_S, rsItems_o])
      simp only [rsItems_S, rsItems_fin, hn, gItemsP_succ, r0, z1, z3, List.append_assoc, List.cons_append, List.nil_append]
    have r0 : rget 1 ⟨c, b, bad⟩ = _ := rget_ok (show 1 ≤ (b).length by omega)
    have d0 : decide ((0 : Int) ≤ 1 ∧ (1 : Int) ≤ (b).length) = true := by simp only [decide_eq_true_eq]; omega
    have e0 : decide (((b).drop 1).length ≤ 1000000000000) = true := decide_eq_true (by simp; omega)
    simp only [q0, decide_false, cond_false, d0, cond_true, e0, getP_fst1 q0]
    by_cases q1 : ((b).drop 1).length < 3
    · have r1 : rget 3 ⟨c, (b).drop 1, bad⟩ = _ := rget_no q1
      simp only [q1, decide_true, cond_true]
      refine leafR_go ⟨true, [], true, pl, its ++ [⟨(leVal ((b).take 1) : Int), 0, 0⟩], c0, c1, c2, n, i + 1⟩ (by refine ⟨hlt, h2, ?_, ?_⟩ <;> simp <;> omega) (by simp only [rsItems_S]; omega) ?_ (by simp [rsItems_S, rsItems_c]) (by simp [rsItems_S, rsItems_o])
      simp only [rsItems_S, rsItems_fin, hn, gItemsP_succ, r0, r1, z1, z3, List.append_assoc, List.cons_append, List.nil_append]
    have r1 : rget 3 ⟨c, (b).drop 1, bad⟩ = _ := rget_ok (show 3 ≤ ((b).drop 1).length by omega)
    have d1 : decide ((0 : Int) ≤ 3 ∧ (3 : Int) ≤ ((b).drop 1).length) = true := by simp only [decide_eq_true_eq]; omega
    have e1 : decide ((((b).drop 1).drop 3).length ≤ 1000000000000) = true := decide_eq_true (by simp; omega)
    simp only [q1, decide_false, cond_false, d1, cond_true, e1, getP_fst3 q1]
    by_cases q2 : (((b).drop 1).drop 3).length < 1
    · have r2 : rget 1 ⟨c, ((b).drop 1).drop 3, bad⟩ = _ := rget_no q2
      simp only [q2, decide_true, cond_true]
      refine leafR_go ⟨true, [], true, pl, its ++ [⟨(leVal ((b).take 1) : Int), (leVal (((b).drop 1).take 3) : Int), 0⟩], c0, c1, c2, n, i + 1⟩ (by refine ⟨hlt, h2, ?_, ?_⟩ <;> simp <;> omega) (by simp only [rsItems_S]; omega) ?_ (by simp [rsItems_S, rsItems_c]) (by simp [rsItems_S, rsItems_o])
      simp only [rsItems_S, rsItems_fin, hn, gItemsP_succ, r0, r1, r2, z1, z3, List.append_assoc, List.cons_append, List.nil_append]
    have r2 : rget 1 ⟨c, ((b).drop 1).drop 3, bad⟩ = _ := rget_ok (show 1 ≤ (((b).drop 1).drop 3).length by omega)
    have d2 : decide ((0 : Int) ≤ 1 ∧ (1 : Int) ≤ (((b).drop 1).drop 3).length) = true := by simp only [decide_eq_true_eq]; omega
    have e2 : decide (((((b).drop 1).drop 3).drop 1).length ≤ 1000000000000) = true := decide_eq_true (by simp; omega)
    simp only [q2, decide_false, cond_false, d2, cond_true, e2, getP_fst1 q2]
    refine leafR_go ⟨c, (((b).drop 1).drop 3).drop 1, bad, pl, its ++ [⟨(leVal ((b).take 1) : Int), (leVal (((b).drop 1).take 3) : Int), (leVal ((((b).drop 1).drop 3).take 1) : Int)⟩], c0, c1, c2, n, i + 1⟩ (by refine ⟨hlt, h2, ?_, ?_⟩ <;> simp <;> omega) (by simp only [rsItems_S]; omega) ?_ (by simp [rsItems_S, rsItems_c]) (by simp [rsItems_S, rsItems_o])
    simp only [rsItems_S, rsItems_fin, hn, gItemsP_succ, r0, r1, r2, List.append_assoc, List.cons_append, List.nil_append]
  · have hi : n.toNat - i = 0 := by omega
    simp only [hlt, decide_false, cond_false]
    exact leafR_exit (rsItems_o c b bad pl its c0 c1 c2 n i) (by simp only [rsItems_S, rsItems_fin, rsItems_o, hi, gItems, RT.val, List.append_nil]) rfl
def rsItems_d (env : Env RC) (os : List (Obj RC)) : Option (Bool × rsItems_St) := match env, os with
  | [(4, .ptr 0 []), (5, .ptr 1 []), (20, .int .i64 n), (21, .int .i64 x0)], [.var 85 (.acons (.sl .u8 c b) (.acons (.bool bad) .anil)), .var 30 (.acons (.int .i64 pl) (.acons (.vs 2 x1) (.acons (.acons (.sl .line true []) (.acons (.sl .line true []) (.acons (.sl .line true []) .anil))) (.acons (.arr .int 3 [c0, c1, c2]) .anil)))), .vec .item true its] => staticD (true) (decide (x0 = 0) && decide (x1 = its.length) && decide (0 ≤ n ∧ n ≤ 255 ∧ b.length ≤ 1000000 ∧ its.length = 0), ⟨c, b, bad, pl, its, c0, c1, c2, n, 0⟩)
  | _, _ => none
noncomputable def um_1 := ug_4.addLoop 32 4 (sumR s07 [.slot 4 0, .slot 5 0, .path 1 [1]] [4, 5, 20, 21] rsItems_S rsItems_d)
theorem um_1_laws : FLaws Try.prog s07 um_1 := by
  refine ug_4_laws.addRoundsR s07_laws (by kernel_rfl) rsItems_S 40 [4, 5, 20, 21] [] [.slot 4 0, .slot 5 0, .path 1 [1]] [4, 5, 20, 21] rsItems_d (fun q hI => ?_) ?_
  · obtain ⟨c, b, bad, pl, its, c0, c1, c2, n, i⟩ := q
    refine ⟨?_, ?_, rsItems_round c b bad pl its c0 c1 c2 n i hI⟩
    · simp_all [RefsOK, rsItems_S, rsItems_c, rsItems_o, rsItems_Inv, D.refs, Obj.refs, rEnc]
    · simp_all [rsItems_S, rsItems_fin, rsItems_o, rsItems_Inv, RT.refsOK, RefsOK, D.refs, Obj.refs, rEnc]
  · intro env os b q hd_ hb
    unfold rsItems_d at hd_
    split at hd_
    · obtain ⟨hs, hd_⟩ := staticD_some hd_
      cases hd_
      simp only [Bool.and_eq_true, decide_eq_true_eq] at hb
      obtain ⟨⟨rfl, rfl⟩, h⟩ := hb
      exact ⟨⟨by simpa using h.1, h.2.1, h.2.2.1, by simp [h.2.2.2]⟩, rfl, rfl⟩
    · cases hd_
structure rsLines_St where
  c : Bool
  b : List UInt8
  bad : Bool
  pl : Int
  its : List Item
  l0 : List Line
  l1 : List Line
  l2 : List Line
  c0 : Int
  c1 : Int
  c2 : Int
  q : Int
  first : Int
  n : Int
  i : Nat
def rsLines_c (c : Bool) (b : List UInt8) (bad : Bool) (pl : Int) (its : List Item) (l0 : List Line) (l1 : List Line) (l2 : List Line) (c0 : Int) (c1 : Int) (c2 : Int) (q : Int) (first : Int) (n : Int) (i : Nat) : Env RC := [(4, .ptr 0 []), (5, .ptr 1 []), (7, .int .i64 q), (9, .int .i64 first), (66, .int .i64 n), (67, .int .i64 (i : Int))]
def rsLines_o (c : Bool) (b : List UInt8) (bad : Bool) (pl : Int) (its : List Item) (l0 : List Line) (l1 : List Line) (l2 : List Line) (c0 : Int) (c1 : Int) (c2 : Int) (q : Int) (first : Int) (n : Int) (i : Nat) : List (Obj RC) := [.var 85 (.acons (.sl (C := RC) .u8 c b) (.acons (.bool bad) .anil)), .var 30 (.acons (.int .i64 pl) (.acons (.vs 2 (its.length)) (.acons (.acons (.vs 3 (l0.length)) (.acons (.vs 4 (l1.length)) (.acons (.vs 5 (l2.length)) .anil))) (.acons (.arr (C := RC) .int 3 [c0, c1, c2]) .anil)))), .vec (C := RC) .item true its, .vec (C := RC) .line true l0, .vec (C := RC) .line true l1, .vec (C := RC) .line true l2]
noncomputable def rsLines_r (c : Bool) (b : List UInt8) (bad : Bool) (pl : Int) (its : List Item) (l0 : List Line) (l1 : List Line) (l2 : List Line) (c0 : Int) (c1 : Int) (c2 : Int) (q : Int) (first : Int) (n : Int) (i : Nat) := rndO s07 um_1 32 18 60 6 [4, 5, 7, 9, 66, 67] [] [.slot 4 0, .slot 5 0, .path 1 [1], .path 1 [2, 0], .path 1 [2, 1], .path 1 [2, 2]] (rsLines_c c b bad pl its l0 l1 l2 c0 c1 c2 q first n i) (rsLines_o c b bad pl its l0 l1 l2 c0 c1 c2 q first n i)
theorem rsLines_eq0 (c : Bool) (b : List UInt8) (bad : Bool) (pl : Int) (its : List Item) (l0 l1 l2 : List Line) (c0 c1 c2 : Int) (first n : Int) (i : Nat) : rsLines_r c b bad pl its l0 l1 l2 c0 c1 c2 0 first n i = (bif decide ((↑i : Int) < n) then bif decide (List.length b ≤ (1000000000000 : Nat)) then bif Prod.snd (getP b (0 : Int) (3 : Int)) != (0 : Int) then bif Nat.beq l0.length l0.length && sizeOK (List.length l0 + List.length [Line.mk (IntKind.wrap .i64 (first + (↑i : Int))) (0 : Int) (0 : Int) (0 : Int) (0 : Int)]) (40 : Nat) then some ((X.normal, [((4 : Nat), D.ptr (0 : Nat) []), ((5 : Nat), D.ptr (1 : Nat) []), ((7 : Nat), D.int .i64 (0 : Int)), ((9 : Nat), D.int .i64 first), ((66 : Nat), D.int .i64 n), ((67 : Nat), D.int .i64 (IntKind.wrap .i64 ((↑i : Int) + (1 : Int))))]), [some (Obj.var (85 : Nat) (.acons (D.sl RTy.u8 true []) (.acons (D.bool true) .anil))), some (Obj.var (30 : Nat) (.acons (D.int .i64 pl) (.acons (D.vs (2 : Nat) its.length) (.acons (D.acons (D.vs (3 : Nat) (List.length l0 + List.length [Line.mk (IntKind.wrap .i64 (first + (↑i : Int))) (0 : Int) (0 : Int) (0 : Int) (0 : Int)])) (.acons (D.vs (4 : Nat) l1.length) (.acons (D.vs (5 : Nat) l2.length) .anil))) (.acons (D.arr RTy.int (3 : Nat) [c0, c1, c2]) .anil))))), some (Obj.vec RTy.item true its), some (Obj.vec RTy.line true (l0 ++ [Line.mk (IntKind.wrap .i64 (first + (↑i : Int))) (0 : Int) (0 : Int) (0 : Int) (0 : Int)])), some (Obj.vec RTy.line true l1), some (Obj.vec RTy.line true l2)]) else none else bif decide ((0 : Int) ≤ (3 : Int) ∧ (3 : Int) ≤ (↑b.length : Int)) then bif decide (List.length (List.drop (3 : Nat) b) ≤ (1000000000000 : Nat)) then bif Prod.snd (getP (List.drop (3 : Nat) b) (0 : Int) (1 : Int)) != (0 : Int) then bif Nat.beq l0.length l0.length && sizeOK (List.length l0 + List.length [Line.mk (IntKind.wrap .i64 (first + (↑i : Int))) (getP b (0 : Int) (3 : Int)).1 (0 : Int) (0 : Int) (0 : Int)]) (40 : Nat) then some ((X.normal, [((4 : Nat), D.ptr (0 : Nat) []), ((5 : Nat), D.ptr (1 : Nat) []), ((7 : Nat), D.int .i64 (0 : Int)), ((9 : Nat), D.int .i64 first), ((66 : Nat), D.int .i64 n), ((67 : Nat), D.int .i64 (IntKind.wrap .i64 ((↑i : Int) + (1 : Int))))]), [some (Obj.var (85 : Nat) (.acons (D.sl RTy.u8 true []) (.acons (D.bool true) .anil))), some (Obj.var (30 : Nat) (.acons (D.int .i64 pl) (.acons (D.vs (2 : Nat) its.length) (.acons (D.acons (D.vs (3 : Nat) (List.length l0 + List.length [Line.mk (IntKind.wrap .i64 (first + (↑i : Int))) (getP b (0 : Int) (3 : Int)).1 (0 : Int) (0 : Int) (0 : Int)])) (.acons (D.vs (4 : Nat) l1.length) (.acons (D.vs (5 : Nat) l2.length) .anil))) (.acons (D.arr RTy.int (3 : Nat) [c0, c1, c2]) .anil))))), some (Obj.vec RTy.item true its), some (Obj.vec RTy.line true (l0 ++ [Line.mk (IntKind.wrap .i64 (first + (↑i : Int))) (getP b (0 : Int) (3 : Int)).1 (0 : Int) (0 : Int) (0 : Int)])), some (Obj.vec RTy.line true l1), some (Obj.vec RTy.line true l2)]) else none else bif decide ((0 : Int) ≤ (1 : Int) ∧ (1 : Int) ≤ (↑(List.drop (3 : Nat) b).length : Int)) then bif decide (List.length (List.drop (1 : Nat) (List.drop (3 : Nat) b)) ≤ (1000000000000 : Nat)) then bif Prod.snd (getP (List.drop (1 : Nat) (List.drop (3 : Nat) b)) (0 : Int) (1 : Int)) != (0 : Int) then bif Nat.beq l0.length l0.length && sizeOK (List.length l0 + List.length [Line.mk (IntKind.wrap .i64 (first + (↑i : Int))) (getP b (0 : Int) (3 : Int)).1 (bits .i64 (fun (x : Nat) (u v : BitVec x) => u &&& v) (getP (List.drop (3 : Nat) b) (0 : Int) (1 : Int)).1 (15 : Int)) (Int.fdiv (getP (List.drop (3 : Nat) b) (0 : Int) (1 : Int)).1 (16 : Int)) (0 : Int)]) (40 : Nat) then some ((X.normal, [((4 : Nat), D.ptr (0 : Nat) []), ((5 : Nat), D.ptr (1 : Nat) []), ((7 : Nat), D.int .i64 (0 : Int)), ((9 : Nat), D.int .i64 first), ((66 : Nat), D.int .i64 n), ((67 : Nat), D.int .i64 (IntKind.wrap .i64 ((↑i : Int) + (1 : Int))))]), [some (Obj.var (85 : Nat) (.acons (D.sl RTy.u8 true []) (.acons (D.bool true) .anil))), some (Obj.var (30 : Nat) (.acons (D.int .i64 pl) (.acons (D.vs (2 : Nat) its.length) (.acons (D.acons (D.vs (3 : Nat) (List.length l0 + List.length [Line.mk (IntKind.wrap .i64 (first + (↑i : Int))) (getP b (0 : Int) (3 : Int)).1 (bits .i64 (fun (x : Nat) (u v : BitVec x) => u &&& v) (getP (List.drop (3 : Nat) b) (0 : Int) (1 : Int)).1 (15 : Int)) (Int.fdiv (getP (List.drop (3 : Nat) b) (0 : Int) (1 : Int)).1 (16 : Int)) (0 : Int)])) (.acons (D.vs (4 : Nat) l1.length) (.acons (D.vs (5 : Nat) l2.length) .anil))) (.acons (D.arr RTy.int (3 : Nat) [c0, c1, c2]) .anil))))), some (Obj.vec RTy.item true its), some (Obj.vec RTy.line true (l0 ++ [Line.mk (IntKind.wrap .i64 (first + (↑i : Int))) (getP b (0 : Int) (3 : Int)).1 (bits .i64 (fun (x : Nat) (u v : BitVec x) => u &&& v) (getP (List.drop (3 : Nat) b) (0 : Int) (1 : Int)).1 (15 : Int)) (Int.fdiv (getP (List.drop (3 : Nat) b) (0 : Int) (1 : Int)).1 (16 : Int)) (0 : Int)])), some (Obj.vec RTy.line true l1), some (Obj.vec RTy.line true l2)]) else none else bif decide ((0 : Int) ≤ (1 : Int) ∧ (1 : Int) ≤ (↑(List.drop (1 : Nat) (List.drop (3 : Nat) b)).length : Int)) then bif Nat.beq l0.length l0.length && sizeOK (List.length l0 + List.length [Line.mk (IntKind.wrap .i64 (first + (↑i : Int))) (getP b (0 : Int) (3 : Int)).1 (bits .i64 (fun (x : Nat) (u v : BitVec x) => u &&& v) (getP (List.drop (3 : Nat) b) (0 : Int) (1 : Int)).1 (15 : Int)) (Int.fdiv (getP (List.drop (3 : Nat) b) (0 : Int) (1 : Int)).1 (16 : Int)) (getP (List.drop (1 : Nat) (List.drop (3 : Nat) b)) (0 : Int) (1 : Int)).1]) (40 : Nat) then some ((X.normal, [((4 : Nat), D.ptr (0 : Nat) []), ((5 : Nat), D.ptr (1 : Nat) []), ((7 : Nat), D.int .i64 (0 : Int)), ((9 : Nat), D.int .i64 first), ((66 : Nat), D.int .i64 n), ((67 : Nat), D.int .i64 (IntKind.wrap .i64 ((↑i : Int) + (1 : Int))))]), [some (Obj.var (85 : Nat) (.acons (D.sl RTy.u8 c (List.drop (1 : Nat) (List.drop (1 : Nat) (List.drop (3 : Nat) b)))) (.acons (D.bool bad) .anil))), some (Obj.var (30 : Nat) (.acons (D.int .i64 pl) (.acons (D.vs (2 : Nat) its.length) (.acons (D.acons (D.vs (3 : Nat) (List.length l0 + List.length [Line.mk (IntKind.wrap .i64 (first + (↑i : Int))) (getP b (0 : Int) (3 : Int)).1 (bits .i64 (fun (x : Nat) (u v : BitVec x) => u &&& v) (getP (List.drop (3 : Nat) b) (0 : Int) (1 : Int)).1 (15 : Int)) (Int.fdiv (getP (List.drop (3 : Nat) b) (0 : Int) (1 : Int)).1 (16 : Int)) (getP (List.drop (1 : Nat) (List.drop (3 : Nat) b)) (0 : Int) (1 : Int)).1])) (.acons (D.vs (4 : Nat) l1.length) (.acons (D.vs (5 : Nat) l2.length) .anil))) (.acons (D.arr RTy.int (3 : Nat) [c0, c1, c2]) .anil))))), some (Obj.vec RTy.item true its), some (Obj.vec RTy.line true (l0 ++ [Line.mk (IntKind.wrap .i64 (first + (↑i : Int))) (getP b (0 : Int) (3 : Int)).1 (bits .i64 (fun (x : Nat) (u v : BitVec x) => u &&& v) (getP (List.drop (3 : Nat) b) (0 : Int) (1 : Int)).1 (15 : Int)) (Int.fdiv (getP (List.drop (3 : Nat) b) (0 : Int) (1 : Int)).1 (16 : Int)) (getP (List.drop (1 : Nat) (List.drop (3 : Nat) b)) (0 : Int) (1 : Int)).1])), some (Obj.vec RTy.line true l1), some (Obj.vec RTy.line true l2)]) else none else none else none else none else none else none else none else some ((X.exit (4 : Nat), []), [some (Obj.var (85 : Nat) (.acons (D.sl RTy.u8 c b) (.acons (D.bool bad) .anil))), some (Obj.var (30 : Nat) (.acons (D.int .i64 pl) (.acons (D.vs (2 : Nat) its.length) (.acons (D.acons (D.vs (3 : Nat) l0.length) (.acons (D.vs (4 : Nat) l1.length) (.acons (D.vs (5 : Nat) l2.length) .anil))) (.acons (D.arr RTy.int (3 : Nat) [c0, c1, c2]) .anil))))), some (Obj.vec RTy.item true its), some (Obj.vec RTy.line true l0), some (Obj.vec RTy.line true l1), some (Obj.vec RTy.line true l2)])) := by kernel_rfl
theorem rsLines_eq1 (c : Bool) (b : List UInt8) (bad : Bool) (pl : Int) (its : List Item) (l0 l1 l2 : List Line) (c0 c1 c2 : Int) (first n : Int) (i : Nat) : rsLines_r c b bad pl its l0 l1 l2 c0 c1 c2 1 first n i = (bif decide ((↑i : Int) < n) then bif decide (List.length b ≤ (1000000000000 : Nat)) then bif Prod.snd (getP b (0 : Int) (3 : Int)) != (0 : Int) then bif Nat.beq l1.length l1.length && sizeOK (List.length l1 + List.length [Line.mk (IntKind.wrap .i64 (first + (↑i : Int))) (0 : Int) (0 : Int) (0 : Int) (0 : Int)]) (40 : Nat) then some ((X.normal, [((4 : Nat), D.ptr (0 : Nat) []), ((5 : Nat), D.ptr (1 : Nat) []), ((7 : Nat), D.int .i64 (1 : Int)), ((9 : Nat), D.int .i64 first), ((66 : Nat), D.int .i64 n), ((67 : Nat), D.int .i64 (IntKind.wrap .i64 ((↑i : Int) + (1 : Int))))]), [some (Obj.var (85 : Nat) (.acons (D.sl RTy.u8 true []) (.acons (D.bool true) .anil))), some (Obj.var (30 : Nat) (.acons (D.int .i64 pl) (.acons (D.vs (2 : Nat) its.length) (.acons (D.acons (D.vs (3 : Nat) l0.length) (.acons (D.vs (4 : Nat) (List.length l1 + List.length [Line.mk (IntKind.wrap .i64 (first + (↑i : Int))) (0 : Int) (0 : Int) (0 : Int) (0 : Int)])) (.acons (D.vs (5 : Nat) l2.length) .anil))) (.acons (D.arr RTy.int (3 : Nat) [c0, c1, c2]) .anil))))), some (Obj.vec RTy.item true its), some (Obj.vec RTy.line true l0), some (Obj.vec RTy.line true (l1 ++ [Line.mk (IntKind.wrap .i64 (first + (↑i : Int))) (0 : Int) (0 : Int) (0 : Int) (0 : Int)])), some (Obj.vec RTy.line true l2)]) else none else bif decide ((0 : Int) ≤ (3 : Int) ∧ (3 : Int) ≤ (↑b.length : Int)) then bif decide (List.length (List.drop (3 : Nat) b) ≤ (1000000000000 : Nat)) then bif Prod.snd (getP (List.drop (3 : Nat) b) (0 : Int) (1 : Int)) != (0 : Int) then bif Nat.beq l1.length l1.length && sizeOK (List.length l1 + List.length [Line.mk (IntKind.wrap .i64 (first + (↑i : Int))) (getP b (0 : Int) (3 : Int)).1 (0 : Int) (0 : Int) (0 : Int)]) (40 : Nat) then some ((X.normal, [((4 : Nat), D.ptr (0 : Nat) []), ((5 : Nat), D.ptr (1 : Nat) []), ((7 : Nat), D.int .i64 (1 : Int)), ((9 : Nat), D.int .i64 first), ((66 : Nat), D.int .i64 n), ((67 : Nat), D.int .i64 (IntKind.wrap .i64 ((↑i : Int) + (1 : Int))))]), [some (Obj.var (85 : Nat) (.acons (D.sl RTy.u8 true []) (.acons (D.bool true) .anil))), some (Obj.var (30 : Nat) (.acons (D.int .i64 pl) (.acons (D.vs (2 : Nat) its.length) (.acons (D.acons (D.vs (3 : Nat) l0.length) (.acons (D.vs (4 : Nat) (List.length l1 + List.length [Line.mk (IntKind.wrap .i64 (first + (↑i : Int))) (getP b (0 : Int) (3 : Int)).1 (0 : Int) (0 : Int) (0 : Int)])) (.acons (D.vs (5 : Nat) l2.length) .anil))) (.acons (D.arr RTy.int (3 : Nat) [c0, c1, c2]) .anil))))), some (Obj.vec RTy.item true its), some (Obj.vec RTy.line true l0), some (Obj.vec RTy.line true (l1 ++ [Line.mk (IntKind.wrap .i64 (first + (↑i : Int))) (getP b (0 : Int) (3 : Int)).1 (0 : Int) (0 : Int) (0 : Int)])), some (Obj.vec RTy.line true l2)]) else none else bif decide ((0 : Int) ≤ (1 : Int) ∧ (1 : Int) ≤ (↑(List.drop (3 : Nat) b).length : Int)) then bif decide (List.length (List.drop (1 : Nat) (List.drop (3 : Nat) b)) ≤ (1000000000000 : Nat)) then bif Prod.snd (getP (List.drop (1 : Nat) (List.drop (3 : Nat) b)) (0 : Int) (1 : Int)) != (0 : Int) then bif Nat.beq l1.length l1.length && sizeOK (List.length l1 + List.length [Line.mk (IntKind.wrap .i64 (first + (↑i : Int))) (getP b (0 : Int) (3 : Int)).1 (bits .i64 (fun (x : Nat) (u v : BitVec x) => u &&& v) (getP (List.drop (3 : Nat) b) (0 : Int) (1 : Int)).1 (15 : Int)) (Int.fdiv (getP (List.drop (3 : Nat) b) (0 : Int) (1 : Int)).1 (16 : Int)) (0 : Int)]) (40 : Nat) then some ((X.normal, [((4 : Nat), D.ptr (0 : Nat) []), ((5 : Nat), D.ptr (1 : Nat) []), ((7 : Nat), D.int .i64 (1 : Int)), ((9 : Nat), D.int .i64 first), ((66 : Nat), D.int .i64 n), ((67 : Nat), D.int .i64 (IntKind.wrap .i64 ((↑i : Int) + (1 : Int))))]), [some (Obj.var (85 : Nat) (.acons (D.sl RTy.u8 true []) (.acons (D.bool true) .anil))), some (Obj.var (30 : Nat) (.acons (D.int .i64 pl) (.acons (D.vs (2 : Nat) its.length) (.acons (D.acons (D.vs (3 : Nat) l0.length) (.acons (D.vs (4 : Nat) (List.length l1 + List.length [Line.mk (IntKind.wrap .i64 (first + (↑i : Int))) (getP b (0 : Int) (3 : Int)).1 (bits .i64 (fun (x : Nat) (u v : BitVec x) => u &&& v) (getP (List.drop (3 : Nat) b) (0 : Int) (1 : Int)).1 (15 : Int)) (Int.fdiv (getP (List.drop (3 : Nat) b) (0 : Int) (1 : Int)).1 (16 : Int)) (0 : Int)])) (.acons (D.vs (5 : Nat) l2.length) .anil))) (.acons (D.arr RTy.int (3 : Nat) [c0, c1, c2]) .anil))))), some (Obj.vec RTy.item true its), some (Obj.vec RTy.line true l0), some (Obj.vec RTy.line true (l1 ++ [Line.mk (IntKind.wrap .i64 (first + (↑i : Int))) (getP b (0 : Int) (3 : Int)).1 (bits .i64 (fun (x : Nat) (u v : BitVec x) => u &&& v) (getP (List.drop (3 : Nat) b) (0 : Int) (1 : Int)).1 (15 : Int)) (Int.fdiv (getP (List.drop (3 : Nat) b) (0 : Int) (1 : Int)).1 (16 : Int)) (0 : Int)])), some (Obj.vec RTy.line true l2)]) else none else bif decide ((0 : Int) ≤ (1 : Int) ∧ (1 : Int) ≤ (↑(List.drop (1 : Nat) (List.drop (3 : Nat) b)).length : Int)) then bif Nat.beq l1.length l1.length && sizeOK (List.length l1 + List.length [Line.mk (IntKind.wrap .i64 (first + (↑i : Int))) (getP b (0 : Int) (3 : Int)).1 (bits .i64 (fun (x : Nat) (u v : BitVec x) => u &&& v) (getP (List.drop (3 : Nat) b) (0 : Int) (1 : Int)).1 (15 : Int)) (Int.fdiv (getP (List.drop (3 : Nat) b) (0 : Int) (1 : Int)).1 (16 : Int)) (getP (List.drop (1 : Nat) (List.drop (3 : Nat) b)) (0 : Int) (1 : Int)).1]) (40 : Nat) then some ((X.normal, [((4 : Nat), D.ptr (0 : Nat) []), ((5 : Nat), D.ptr (1 : Nat) []), ((7 : Nat), D.int .i64 (1 : Int)), ((9 : Nat), D.int .i64 first), ((66 : Nat), D.int .i64 n), ((67 : Nat), D.int .i64 (IntKind.wrap .i64 ((↑i : Int) + (1 : Int))))]), [some (Obj.var (85 : Nat) (.acons (D.sl RTy.u8 c (List.drop (1 : Nat) (List.drop (1 : Nat) (List.drop (3 : Nat) b)))) (.acons (D.bool bad) .anil))), some (Obj.var (30 : Nat) (.acons (D.int .i64 pl) (.acons (D.vs (2 : Nat) its.length) (.acons (D.acons (D.vs (3 : Nat) l0.length) (.acons (D.vs (4 : Nat) (List.length l1 + List.length [Line.mk (IntKind.wrap .i64 (first + (↑i : Int))) (getP b (0 : Int) (3 : Int)).1 (bits .i64 (fun (x : Nat) (u v : BitVec x) => u &&& v) (getP (List.drop (3 : Nat) b) (0 : Int) (1 : Int)).1 (15 : Int)) (Int.fdiv (getP (List.drop (3 : Nat) b) (0 : Int) (1 : Int)).1 (16 : Int)) (getP (List.drop (1 : Nat) (List.drop (3 : Nat) b)) (0 : Int) (1 : Int)).1])) (.acons (D.vs (5 : Nat) l2.length) .anil))) (.acons (D.arr RTy.int (3 : Nat) [c0, c1, c2]) .anil))))), some (Obj.vec RTy.item true its), some (Obj.vec RTy.line true l0), some (Obj.vec RTy.line true (l1 ++ [Line.mk (IntKind.wrap .i64 (first + (↑i : Int))) (getP b (0 : Int) (3 : Int)).1 (bits .i64 (fun (x : Nat) (u v : BitVec x) => u &&& v) (getP (List.drop (3 : Nat) b) (0 : Int) (1 : Int)).1 (15 : Int)) (Int.fdiv (getP (List.drop (3 : Nat) b) (0 : Int) (1 : Int)).1 (16 : Int)) (getP (List.drop (1 : Nat) (List.drop (3 : Nat) b)) (0 : Int) (1 : Int)).1])), some (Obj.vec RTy.line true l2)]) else none else none else none else none else none else none else none else some ((X.exit (4 : Nat), []), [some (Obj.var (85 : Nat) (.acons (D.sl RTy.u8 c b) (.acons (D.bool bad) .anil))), some (Obj.var (30 : Nat) (.acons (D.int .i64 pl) (.acons (D.vs (2 : Nat) its.length) (.acons (D.acons (D.vs (3 : Nat) l0.length) (.acons (D.vs (4 : Nat) l1.length) (.acons (D.vs (5 : Nat) l2.length) .anil))) (.acons (D.arr RTy.int (3 : Nat) [c0, c1, c2]) .anil))))), some (Obj.vec RTy.item true its), some (Obj.vec RTy.line true l0), some (Obj.vec RTy.line true l1), some (Obj.vec RTy.line true l2)])) := by kernel_rfl
theorem rsLines_eq2 (c : Bool) (b : List UInt8) (bad : Bool) (pl : Int) (its : List Item) (l0 l1 l2 : List Line) (c0 c1 c2 : Int) (first n : Int) (i : Nat) : rsLines_r c b bad pl its l0 l1 l2 c0 c1 c2 2 first n i = (bif decide ((↑i : Int) < n) then bif decide (List.length b ≤ (1000000000000 : Nat)) then bif Prod.snd (getP b (0 : Int) (3 : Int)) != (0 : Int) then bif Nat.beq l2.length l2.length && sizeOK (List.length l2 + List.length [Line.mk (IntKind.wrap .i64 (first + (↑i : Int))) (0 : Int) (0 : Int) (0 : Int) (0 : Int)]) (40 : Nat) then some ((X.normal, [((4 : Nat), D.ptr (0 : Nat) []), ((5 : Nat), D.ptr (1 : Nat) []), ((7 : Nat), D.int .i64 (2 : Int)), ((9 : Nat), D.int .i64 first), ((66 : Nat), D.int .i64 n), ((67 : Nat), D.int .i64 (IntKind.wrap .i64 ((↑i : Int) + (1 : Int))))]), [some (Obj.var (85 : Nat) (.acons (D.sl RTy.u8 true []) (.acons (D.bool true) .anil))), some (Obj.var (30 : Nat) (.acons (D.int .i64 pl) (.acons (D.vs (2 : Nat) its.length) (.acons (D.acons (D.vs (3 : Nat) l0.length) (.acons (D.vs (4 : Nat) l1.length) (.acons (D.vs (5 : Nat) (List.length l2 + List.length [Line.mk (IntKind.wrap .i64 (first + (↑i : Int))) (0 : Int) (0 : Int) (0 : Int) (0 : Int)])) .anil))) (.acons (D.arr RTy.int (3 : Nat) [c0, c1, c2]) .anil))))), some (Obj.vec RTy.item true its), some (Obj.vec RTy.line true l0), some (Obj.vec RTy.line true l1), some (Obj.vec RTy.line true (l2 ++ [Line.mk (IntKind.wrap .i64 (first + (↑i : Int))) (0 : Int) (0 : Int) (0 : Int) (0 : Int)]))]) else none else bif decide ((0 : Int) ≤ (3 : Int) ∧ (3 : Int) ≤ (↑b.length : Int)) then bif decide (List.length (List.drop (3 : Nat) b) ≤ (1000000000000 : Nat)) then bif Prod.snd (getP (List.drop (3 : Nat) b) (0 : Int) (1 : Int)) != (0 : Int) then bif Nat.beq l2.length l2.length && sizeOK (List.length l2 + List.length [Line.mk (IntKind.wrap .i64 (first + (↑i : Int))) (getP b (0 : Int) (3 : Int)).1 (0 : Int) (0 : Int) (0 : Int)]) (40 : Nat) then some ((X.normal, [((4 : Nat), D.ptr (0 : Nat) []), ((5 : Nat), D.ptr (1 : Nat) []), ((7 : Nat), D.int .i64 (2 : Int)), ((9 : Nat), D.int .i64 first), ((66 : Nat), D.int .i64 n), ((67 : Nat), D.int .i64 (IntKind.wrap .i64 ((↑i : Int) + (1 : Int))))]), [some (Obj.var (85 : Nat) (.acons (D.sl RTy.u8 true []) (.acons (D.bool true) .anil))), some (Obj.var (30 : Nat) (.acons (D.int .i64 pl) (.acons (D.vs (2 : Nat) its.length) (.acons (D.acons (D.vs (3 : Nat) l0.length) (.acons (D.vs (4 : Nat) l1.length) (.acons (D.vs (5 : Nat) (List.length l2 + List.length [Line.mk (IntKind.wrap .i64 (first + (↑i : Int))) (getP b (0 : Int) (3 : Int)).1 (0 : Int) (0 : Int) (0 : Int)])) .anil))) (.acons (D.arr RTy.int (3 : Nat) [c0, c1, c2]) .anil))))), some (Obj.vec RTy.item true its), some (Obj.vec RTy.line true l0), some (Obj.vec RTy.line true l1), some (Obj.vec RTy.line true (l2 ++ [Line.mk (IntKind.wrap .i64 (first + (↑i : Int))) (getP b (0 : Int) (3 : Int)).1 (0 : Int) (0 : Int) (0 : Int)]))]) else none else bif decide ((0 : Int) ≤ (1 : Int) ∧ (1 : Int) ≤ (↑(List.drop (3 : Nat) b).length : Int)) then bif decide (List.length (List.drop (1 : Nat) (List.drop (3 : Nat) b)) ≤ (1000000000000 : Nat)) then bif Prod.snd (getP (List.drop (1 : Nat) (List.drop (3 : Nat) b)) (0 : Int) (1 : Int)) != (0 : Int) then bif Nat.beq l2.length l2.length && sizeOK (List.length l2 + List.length [Line.mk (IntKind.wrap .i64 (first + (↑i : Int))) (getP b (0 : Int) (3 : Int)).1 (bits .i64 (fun (x : Nat) (u v : BitVec x) => u &&& v) (getP (List.drop (3 : Nat) b) (0 : Int) (1 : Int)).1 (15 : Int)) (Int.fdiv (getP (List.drop (3 : Nat) b) (0 : Int) (1 : Int)).1 (16 : Int)) (0 : Int)]) (40 : Nat) then some ((X.normal, [((4 : Nat), D.ptr (0 : Nat) []), ((5 : Nat), D.ptr (1 : Nat) []), ((7 : Nat), D.int .i64 (2 : Int)), ((9 : Nat), D.int .i64 first), ((66 : Nat), D.int .i64 n), ((67 : Nat), D.int .i64 (IntKind.wrap .i64 ((↑i : Int) + (1 : Int))))]), [some (Obj.var (85 : Nat) (.acons (D.sl RTy.u8 true []) (.acons (D.bool true) .anil))), some (Obj.var (30 : Nat) (.acons (D.int .i64 pl) (.acons (D.vs (2 : Nat) its.length) (.acons (D.acons (D.vs (3 : Nat) l0.length) (.acons (D.vs (4 : Nat) l1.length) (.acons (D.vs (5 : Nat) (List.length l2 + List.length [Line.mk (IntKind.wrap .i64 (first + (↑i : Int))) (getP b (0 : Int) (3 : Int)).1 (bits .i64 (fun (x : Nat) (u v : BitVec x) => u &&& v) (getP (List.drop (3 : Nat) b) (0 : Int) (1 : Int)).1 (15 : Int)) (Int.fdiv (getP (List.drop (3 : Nat) b) (0 : Int) (1 : Int)).1 (16 : Int)) (0 : Int)])) .anil))) (.acons (D.arr RTy.int (3 : Nat) [c0, c1, c2]) .anil))))), some (Obj.vec RTy.item true its), some (Obj.vec RTy.line true l0), some (Obj.vec RTy.line true l1), some (Obj.vec RTy.line true (l2 ++ [Line.mk (IntKind.wrap .i64 (first + (↑i : Int))) (getP b (0 : Int) (3 : Int)).1 (bits .i64 (fun (x : Nat) (u v : BitVec x) => u &&& v) (getP (List.drop (3 : Nat) b) (0 : Int) (1 : Int)).1 (15 : Int)) (Int.fdiv (getP (List.drop (3 : Nat) b) (0 : Int) (1 : Int)).1 (16 : Int)) (0 : Int)]))]) else none else bif decide ((0 : Int) ≤ (1 : Int) ∧ (1 : Int) ≤ (↑(List.drop (1 : Nat) (List.drop (3 : Nat) b)).length : Int)) then bif Nat.beq l2.length l2.length && sizeOK (List.length l2 + List.length [Line.mk (IntKind.wrap .i64 (first + (↑i : Int))) (getP b (0 : Int) (3 : Int)).1 (bits .i64 (fun (x : Nat) (u v : BitVec x) => u &&& v) (getP (List.drop (3 : Nat) b) (0 : Int) (1 : Int)).1 (15 : Int)) (Int.fdiv (getP (List.drop (3 : Nat) b) (0 : Int) (1 : Int)).1 (16 : Int)) (getP (List.drop (1 : Nat) (List.drop (3 : Nat) b)) (0 : Int) (1 : Int)).1]) (40 : Nat) then some ((X.normal, [((4 : Nat), D.ptr (0 : Nat) []), ((5 : Nat), D.ptr (1 : Nat) []), ((7 : Nat), D.int .i64 (2 : Int)), ((9 : Nat), D.int .i64 first), ((66 : Nat), D.int .i64 n), ((67 : Nat), D.int .i64 (IntKind.wrap .i64 ((↑i : Int) + (1 : Int))))]), [some (Obj.var (85 : Nat) (.acons (D.sl RTy.u8 c (List.drop (1 : Nat) (List.drop (1 : Nat) (List.drop (3 : Nat) b)))) (.acons (D.bool bad) .anil))), some (Obj.var (30 : Nat) (.acons (D.int .i64 pl) (.acons (D.vs (2 : Nat) its.length) (.acons (D.acons (D.vs (3 : Nat) l0.length) (.acons (D.vs (4 : Nat) l1.length) (.acons (D.vs (5 : Nat) (List.length l2 + List.length [Line.mk (IntKind.wrap .i64 (first + (↑i : Int))) (getP b (0 : Int) (3 : Int)).1 (bits .i64 (fun (x : Nat) (u v : BitVec x) => u &&& v) (getP (List.drop (3 : Nat) b) (0 : Int) (1 : Int)).1 (15 : Int)) (Int.fdiv (getP (List.drop (3 : Nat) b) (0 : Int) (1 : Int)).1 (16 : Int)) (getP (List.drop (1 : Nat) (List.drop (3 : Nat) b)) (0 : Int) (1 : Int)).1])) .anil))) (.acons (D.arr RTy.int (3 : Nat) [c0, c1, c2]) .anil))))), some (Obj.vec RTy.item true its), some (Obj.vec RTy.line true l0), some (Obj.vec RTy.line true l1), some (Obj.vec RTy.line true (l2 ++ [Line.mk (IntKind.wrap .i64 (first + (↑i : Int))) (getP b (0 : Int) (3 : Int)).1 (bits .i64 (fun (x : Nat) (u v : BitVec x) => u &&& v) (getP (List.drop (3 : Nat) b) (0 : Int) (1 : Int)).1 (15 : Int)) (Int.fdiv (getP (List.drop (3 : Nat) b) (0 : Int) (1 : Int)).1 (16 : Int)) (getP (List.drop (1 : Nat) (List.drop (3 : Nat) b)) (0 : Int) (1 : Int)).1]))]) else none else none else none else none else none else none else none else some ((X.exit (4 : Nat), []), [some (Obj.var (85 : Nat) (.acons (D.sl RTy.u8 c b) (.acons (D.bool bad) .anil))), some (Obj.var (30 : Nat) (.acons (D.int .i64 pl) (.acons (D.vs (2 : Nat) its.length) (.acons (D.acons (D.vs (3 : Nat) l0.length) (.acons (D.vs (4 : Nat) l1.length) (.acons (D.vs (5 : Nat) l2.length) .anil))) (.acons (D.arr RTy.int (3 : Nat) [c0, c1, c2]) .anil))))), some (Obj.vec RTy.item true its), some (Obj.vec RTy.line true l0), some (Obj.vec RTy.line true l1), some (Obj.vec RTy.line true l2)])) := by kernel_rfl
def rsLines_fin (c : Bool) (b : List UInt8) (bad : Bool) (pl : Int) (its : List Item) (l0 : List Line) (l1 : List Line) (l2 : List Line) (c0 : Int) (c1 : Int) (c2 : Int) (q : Int) (first : Int) (n : Int) (i : Nat) : RT RC := .leaf (.exit 4) [] [.var 85 (.acons (.sl (C := RC) .u8 (gLines rdP false (n.toNat - i) (first + i) ⟨c, b, bad⟩).1.c (gLines rdP false (n.toNat - i) (first + i) ⟨c, b, bad⟩).1.b) (.acons (.bool (gLines rdP false (n.toNat - i) (first + i) ⟨c, b, bad⟩).1.bad) .anil)), .var 30 (.acons (.int .i64 pl) (.acons (.vs 2 its.length) (.acons (.acons (.vs 3 (addL q 0 l0 (gLines rdP false (n.toNat - i) (first + i) ⟨c, b, bad⟩).2).length) (.acons (.vs 4 (addL q 1 l1 (gLines rdP false (n.toNat - i) (first + i) ⟨c, b, bad⟩).2).length) (.acons (.vs 5 (addL q 2 l2 (gLines rdP false (n.toNat - i) (first + i) ⟨c, b, bad⟩).2).length) .anil))) (.acons (.arr (C := RC) .int 3 [c0, c1, c2]) .anil)))), .vec (C := RC) .item true its, .vec (C := RC) .line true (addL q 0 l0 (gLines rdP false (n.toNat - i) (first + i) ⟨c, b, bad⟩).2), .vec (C := RC) .line true (addL q 1 l1 (gLines rdP false (n.toNat - i) (first + i) ⟨c, b, bad⟩).2), .vec (C := RC) .line true (addL q 2 l2 (gLines rdP false (n.toNat - i) (first + i) ⟨c, b, bad⟩).2)]
def rsLines_Inv (c : Bool) (b : List UInt8) (bad : Bool) (pl : Int) (its : List Item) (l0 : List Line) (l1 : List Line) (l2 : List Line) (c0 : Int) (c1 : Int) (c2 : Int) (q : Int) (first : Int) (n : Int) (i : Nat) : Prop := (i : Int) ≤ n ∧ n ≤ 255 ∧ b.length ≤ 1000000 ∧ l0.length ≤ 1000 + i ∧ l1.length ≤ 1000 + i ∧ l2.length ≤ 1000 + i ∧ (0 ≤ q ∧ q ≤ 2) ∧ (0 ≤ first ∧ first ≤ 16777215)
def rsLines_S : LoopR RC rsLines_St where
  k := 6
  canon q := rsLines_c q.c q.b q.bad q.pl q.its q.l0 q.l1 q.l2 q.c0 q.c1 q.c2 q.q q.first q.n q.i
  objs q := rsLines_o q.c q.b q.bad q.pl q.its q.l0 q.l1 q.l2 q.c0 q.c1 q.c2 q.q q.first q.n q.i
  fin q := rsLines_fin q.c q.b q.bad q.pl q.its q.l0 q.l1 q.l2 q.c0 q.c1 q.c2 q.q q.first q.n q.i
  Inv q := rsLines_Inv q.c q.b q.bad q.pl q.its q.l0 q.l1 q.l2 q.c0 q.c1 q.c2 q.q q.first q.n q.i
  μ q := q.n.toNat - q.i
theorem rsLines_round (c : Bool) (b : List UInt8) (bad : Bool) (pl : Int) (its : List Item) (l0 : List Line) (l1 : List Line) (l2 : List Line) (c0 : Int) (c1 : Int) (c2 : Int) (q : Int) (first : Int) (n : Int) (i : Nat) (hI : rsLines_Inv c b bad pl its l0 l1 l2 c0 c1 c2 q first n i) : Leaf (rsLines_r c b bad pl its l0 l1 l2 c0 c1 c2 q first n i) (LedR rsLines_S ⟨c, b, bad, pl, its, l0, l1, l2, c0, c1, c2, q, first, n, i⟩) := by
  unfold rsLines_Inv at hI
  obtain ⟨h1, h2, h3, h4, h5, h6, h7, h8⟩ := hI
  have eb : ∀ n : Nat, n.beq n = true := fun n => by simp
  have z1 : rget 1 ⟨true, [], true⟩ = (0, ⟨true, [], true⟩) := rfl
  have z3 : rget 3 ⟨true, [], true⟩ = (0, ⟨true, [], true⟩) := rfl
  by_cases hlt : (i : Int) < n
  · have w_succ : IntKind.i64.wrap ((i : Int) + 1) = ((i + 1 : Nat) : Int) := by rw [wrap_id (by omega) (by omega)]; simp
    have wio : IntKind.i64.wrap (first + (i : Int)) = first + (i : Int) := wrap_id (by omega) (by omega)
    have hn : n.toNat - i = (n.toNat - (i + 1)) + 1 := by omega
    have hio : first + ((i + 1 : Nat) : Int) = first + (i : Int) + 1 := by omega
    have m0 : (0 : Int) % 16 = 0 ∧ (0 : Int) / 16 = 0 := ⟨rfl, rfl⟩
    have s0 : sizeOK (l0.length + 1) 40 = true := sizeT (by omega)
    have s1 : sizeOK (l1.length + 1) 40 = true := sizeT (by omega)
    have s2 : sizeOK (l2.length + 1) 40 = true := sizeT (by omega)
    have k01 : ¬ (0 : Int) = 1 := by omega
    have k02 : ¬ (0 : Int) = 2 := by omega
    have k10 : ¬ (1 : Int) = 0 := by omega
    have k12 : ¬ (1 : Int) = 2 := by omega
    have k20 : ¬ (2 : Int) = 0 := by omega
    have k21 : ¬ (2 : Int) = 1 := by omega
    have e0 : decide (b.length ≤ 1000000000000) = true := decide_eq_true (by omega)
    have t1 : Int.toNat 1 = 1 := rfl
    have t3 : Int.toNat 3 = 3 := rfl
    obtain e_q | e_q | e_q : q = 0 ∨ q = 1 ∨ q = 2 := by omega
    · subst e_q
      rw [rsLines_eq0]
      simp only [hlt, decide_true, cond_true, e0, getP_snd1, getP_snd3, w_succ, wio, List.length_cons, List.length_nil, Nat.zero_add, s0, s1, s2, eb, Bool.and_self, t1, t3]
      by_cases q0 : (b).length < 3
      · have r0 : rget 3 ⟨c, b, bad⟩ = _ := rget_no q0
        simp only [q0, decide_true, cond_true]
        refine leafR_go ⟨true, [], true, pl, its, l0 ++ [⟨first + i, 0, 0, 0, 0⟩], l1, l2, c0, c1, c2, 0, first, n, i + 1⟩ (by refine ⟨hlt, h2, ?_, ?_, ?_, ?_, ?_, h8⟩ <;> simp <;> omega) (by simp only [rsLines_S]; omega) ?_ (by simp [rsLines_S, rsLines_c]) (by simp [rsLines_S, rsLines_o])
        simp only [rsLines_S, rsLines_fin, hn, gLinesP_succ, r0, z1, z3, addL, hio, m0, if_true, if_false, List.append_assoc, List.cons_append, List.nil_append, k01, k02, k10, k12, k20, k21]
      have r0 : rget 3 ⟨c, b, bad⟩ = _ := rget_ok (show 3 ≤ (b).length by omega)
      have d0 : decide ((0 : Int) ≤ 3 ∧ (3 : Int) ≤ (b).length) = true := by simp only [decide_eq_true_eq]; omega
      have e0 : decide (((b).drop 3).length ≤ 1000000000000) = true := decide_eq_true (by simp; omega)
      simp only [q0, decide_false, cond_false, d0, cond_true, e0, getP_fst3 q0]
      by_cases q1 : ((b).drop 3).length < 1
      · have r1 : rget 1 ⟨c, (b).drop 3, bad⟩ = _ := rget_no q1
        simp only [q1, decide_true, cond_true]
        refine leafR_go ⟨true, [], true, pl, its, l0 ++ [⟨first + i, (leVal ((b).take 3) : Int), 0, 0, 0⟩], l1, l2, c0, c1, c2, 0, first, n, i + 1⟩ (by refine ⟨hlt, h2, ?_, ?_, ?_, ?_, ?_, h8⟩ <;> simp <;> omega) (by simp only [rsLines_S]; omega) ?_ (by simp [rsLines_S, rsLines_c]) (by simp [rsLines_S, rsLines_o])
        simp only [rsLines_S, rsLines_fin, hn, gLinesP_succ, r0, r1, z1, z3, addL, hio, m0, if_true, if_false, List.append_assoc, List.cons_append, List.nil_append, k01, k02, k10, k12, k20, k21]
      have hx2 : leVal (((b).drop 3).take 1) < 256 := by rw [leVal_take1 (by omega)]; exact UInt8.toNat_lt _
      have a15 := and15 (leVal (((b).drop 3).take 1)) (by omega)
      have f16 : (leVal (((b).drop 3).take 1) : Int).fdiv 16 = (leVal (((b).drop 3).take 1) : Int) / 16 := Int.fdiv_eq_ediv_of_nonneg _ (by omega)
      have r1 : rget 1 ⟨c, (b).drop 3, bad⟩ = _ := rget_ok (show 1 ≤ ((b).drop 3).length by omega)
      have d1 : decide ((0 : Int) ≤ 1 ∧ (1 : Int) ≤ ((b).drop 3).length) = true := by simp only [decide_eq_true_eq]; omega
      have e1 : decide ((((b).drop 3).drop 1).length ≤ 1000000000000) = true := decide_eq_true (by simp; omega)
      simp only [q1, decide_false, cond_false, d1, cond_true, e1, getP_fst1 q1, a15, f16]
      by_cases q2 : (((b).drop 3).drop 1).length < 1
      · have r2 : rget 1 ⟨c, ((b).drop 3).drop 1, bad⟩ = _ := rget_no q2
        simp only [q2, decide_true, cond_true]
        refine leafR_go ⟨true, [], true, pl, its, l0 ++ [⟨first + i, (leVal ((b).take 3) : Int), (leVal (((b).drop 3).take 1) : Int) % 16, (leVal (((b).drop 3).take 1) : Int) / 16, 0⟩], l1, l2, c0, c1, c2, 0, first, n, i + 1⟩ (by refine ⟨hlt, h2, ?_, ?_, ?_, ?_, ?_, h8⟩ <;> simp <;> omega) (by simp only [rsLines_S]; omega) ?_ (by simp [rsLines_S, rsLines_c]) (by simp [rsLines_S, rsLines_o])
        simp only [rsLines_S, rsLines_fin, hn, gLinesP_succ, r0, r1, r2, z1, z3, addL, hio, m0, if_true, if_false, List.append_assoc, List.cons_append, List.nil_append, k01, k02, k10, k12, k20, k21]
      have r2 : rget 1 ⟨c, ((b).drop 3).drop 1, bad⟩ = _ := rget_ok (show 1 ≤ (((b).drop 3).drop 1).length by omega)
      have d2 : decide ((0 : Int) ≤ 1 ∧ (1 : Int) ≤ (((b).drop 3).drop 1).length) = true := by simp only [decide_eq_true_eq]; omega
      have e2 : decide (((((b).drop 3).drop 1).drop 1).length ≤ 1000000000000) = true := decide_eq_true (by simp; omega)
      simp only [q2, decide_false, cond_false, d2, cond_true, e2, getP_fst1 q2]
      refine leafR_go ⟨c, (((b).drop 3).drop 1).drop 1, bad, pl, its, l0 ++ [⟨first + i, (leVal ((b).take 3) : Int), (leVal (((b).drop 3).take 1) : Int) % 16, (leVal (((b).drop 3).take 1) : Int) / 16, (leVal ((((b).drop 3).drop 1).take 1) : Int)⟩], l1, l2, c0, c1, c2, 0, first, n, i + 1⟩ (by refine ⟨hlt, h2, ?_, ?_, ?_, ?_, ?_, h8⟩ <;> simp <;> omega) (by simp only [rsLines_S]; omega) ?_ (by simp [rsLines_S, rsLines_c]) (by simp [rsLines_S, rsLines_o])
      simp only [rsLines_S, rsLines_fin, hn, gLinesP_succ, r0, r1, r2, addL, hio, m0, if_true, if_false, List.append_assoc, List.cons_append, List.nil_append, k01, k02, k10, k12, k20, k21]
    · subst e_q
      rw [rsLines_eq1]
      simp only [hlt, decide_true, cond_true, e0, getP_snd1, getP_snd3, w_succ, wio, List.length_cons, List.length_nil, Nat.zero_add, s0, s1, s2, eb, Bool.and_self, t1, t3]
      by_cases q0 : (b).length < 3
      · have r0 : rget 3 ⟨c, b, bad⟩ = _ := rget_no q0
        simp only [q0, decide_true, cond_true]
        refine leafR_go ⟨true, [], true, pl, its, l0, l1 ++ [⟨first + i, 0, 0, 0, 0⟩], l2, c0, c1, c2, 1, first, n, i + 1⟩ (by refine ⟨hlt, h2, ?_, ?_, ?_, ?_, ?_, h8⟩ <;> simp <;> omega) (by simp only [rsLines_S]; omega) ?_ (by simp [rsLines_S, rsLines_c]) (by simp [rsLines_S, rsLines_o])
        simp only [rsLines_S, rsLines_fin, hn, gLinesP_succ, r0, z1, z3, addL, hio, m0, if_true, if_false, List.append_assoc, List.cons_append, List.nil_append, k01, k02, k10, k12, k20, k21]
      have r0 : rget 3 ⟨c, b, bad⟩ = _ := rget_ok (show 3 ≤ (b).length by omega)
      have d0 : decide ((0 : Int) ≤ 3 ∧ (3 : Int) ≤ (b).length) = true := by simp only [decide_eq_true_eq]; omega
      have e0 : decide (((b).drop 3).length ≤ 1000000000000) = true := decide_eq_true (by simp; omega)
      simp only [q0, decide_false, cond_false, d0, cond_true, e0, getP_fst3 q0]
      by_cases q1 : ((b).drop 3).length < 1
      · have r1 : rget 1 ⟨c, (b).drop 3, bad⟩ = _ := rget_no q1
        simp only [q1, decide_true, cond_true]
        refine leafR_go ⟨true, [], true, pl, its, l0, l1 ++ [⟨first + i, (leVal ((b).take 3) : Int), 0, 0, 0⟩], l2, c0, c1, c2, 1, first, n, i + 1⟩ (by refine ⟨hlt, h2, ?_, ?_, ?_, ?_, ?_, h8⟩ <;> simp <;> omega) (by simp only [rsLines_S]; omega) ?_ (by simp [rsLines_S, rsLines_c]) (by simp [rsLines_S, rsLines_o])
        simp only [rsLines_S, rsLines_fin, hn, gLinesP_succ, r0, r1, z1, z3, addL, hio, m0, if_true, if_false, List.append_assoc, List.cons_append, List.nil_append, k01, k02, k10, k12, k20, k21]
      have hx2 : leVal (((b).drop 3).take 1) < 256 := by rw [leVal_take1 (by omega)]; exact UInt8.toNat_lt _
      have a15 := and15 (leVal (((b).drop 3).take 1)) (by omega)
      have f16 : (leVal (((b).drop 3).take 1) : Int).fdiv 16 = (leVal (((b).drop 3).take 1) : Int) / 16 := Int.fdiv_eq_ediv_of_nonneg _ (by omega)
      have r1 : rget 1 ⟨c, (b).drop 3, bad⟩ = _ := rget_ok (show 1 ≤ ((b).drop 3).length by omega)
      have d1 : decide ((0 : Int) ≤ 1 ∧ (1 : Int) ≤ ((b).drop 3).length) = true := by simp only [decide_eq_true_eq]; omega
      have e1 : decide ((((b).drop 3).drop 1).length ≤ 1000000000000) = true := decide_eq_true (by simp; omega)
      simp only [q1, decide_false, cond_false, d1, cond_true, e1, getP_fst1 q1, a15, f16]
      by_cases q2 : (((b).drop 3).drop 1).length < 1
      · have r2 : rget 1 ⟨c, ((b).drop 3).drop 1, bad⟩ = _ := rget_no q2
        simp only [q2, decide_true, cond_true]
        refine leafR_go ⟨true, [], true, pl, its, l0, l1 ++ [⟨first + i, (leVal ((b).take 3) : Int), (leVal (((b).drop 3).take 1) : Int) % 16, (leVal (((b).drop 3).take 1) : Int) / 16, 0⟩], l2, c0, c1, c2, 1, first, n, i + 1⟩ (by refine ⟨hlt, h2, ?_, ?_, ?_, ?_, ?_, h8⟩ <;> simp <;> omega) (by simp only [rsLines_S]; omega) ?_ (by simp [rsLines_S, rsLines_c]) (by simp [rsLines_S, rsLines_o])
        simp only [rsLines_S, rsLines_fin, hn, gLinesP_succ, r0, r1, r2, z1, z3, addL, hio, m0, if_true, if_false, List.append_assoc, List.cons_append, List.nil_append, k01, k02, k10, k12, k20, k21]
      have r2 : rget 1 ⟨c, ((b).drop 3).drop 1, bad⟩ = _ := rget_ok (show 1 ≤ (((b).drop 3).drop 1).length by omega)
      have d2 : decide ((0 : Int) ≤ 1 ∧ (1 : Int) ≤ (((b).drop 3).drop 1).length) = true := by simp only [decide_eq_true_eq]; omega
      have e2 : decide (((((b).drop 3).drop 1).drop 1).length ≤ 1000000000000) = true := decide_eq_true (by simp; omega)
      simp only [q2, decide_false, cond_false, d2, cond_true, e2, getP_fst1 q2]
      refine leafR_go ⟨c, (((b).drop 3).drop 1).drop 1, bad, pl, its, l0, l1 ++ [⟨first + i, (leVal ((b).take 3) : Int), (leVal (((b).drop 3).take 1) : Int) % 16, (leVal (((b).drop 3).take 1) : Int) / 16, (leVal ((((b).drop 3).drop 1).take 1) : Int)⟩], l2, c0, c1, c2, 1, first, n, i + 1⟩ (by refine ⟨hlt, h2, ?_, ?_, ?_, ?_, ?_, h8⟩ <;> simp <;> omega) (by simp only [rsLines_S]; omega) ?_ (by simp [rsLines_S, rsLines_c]) (by simp [rsLines_S, rsLines_o])
      simp only [rsLines_S, rsLines_fin, hn, gLinesP_succ, r0, r1, r2, addL, hio, m0, if_true, if_false, List.append_assoc, List.cons_append, List.nil_append, k01, k02, k10, k12, k20, k21]
    · subst e_q
      rw [rsLines_eq2]
      simp only [hlt, decide_true, cond_true, e0, getP_snd1, getP_snd3, w_succ, wio, List.length_cons, List.length_nil, Nat.zero_add, s0, s1, s2, eb, Bool.and_self, t1, t3]
      by_cases q0 : (b).length < 3
      · have r0 : rget 3 ⟨c, b, bad⟩ = _ := rget_no q0
        simp only [q0, decide_true, cond_true]
        refine leafR_go ⟨true, [], true, pl, its, l0, l1, l2 ++ [⟨first + i, 0, 0, 0, 0⟩], c0, c1, c2, 2, first, n, i + 1⟩ (by refine ⟨hlt, h2, ?_, ?_, ?_, ?_, ?_, h8⟩ <;> simp <;> omega) (by simp only [rsLines_S]; omega) ?_ (by simp [rsLines_S, rsLines_c]) (by simp [rsLines_S, rsLines_o])
        simp only [rsLines_S, rsLines_fin, hn, gLinesP_succ, r0, z1, z3, addL, hio, m0, if_true, if_false, List.append_assoc, List.cons_append, List.nil_append, k01, k02, k10, k12, k20, k21]
      have r0 : rget 3 ⟨c, b, bad⟩ = _ := rget_ok (show 3 ≤ (b).length by omega)
      have d0 : decide ((0 : Int) ≤ 3 ∧ (3 : Int) ≤ (b).length) = true := by simp only [decide_eq_true_eq]; omega
      have e0 : decide (((b).drop 3).length ≤ 1000000000000) = true := decide_eq_true (by simp; omega)
      simp only [q0, decide_false, cond_false, d0, cond_true, e0, getP_fst3 q0]
      by_cases q1 : ((b).drop 3).length < 1
      · have r1 : rget 1 ⟨c, (b).drop 3, bad⟩ = _ := rget_no q1
        simp only [q1, decide_true, cond_true]
        refine leafR_go ⟨true, [], true, pl, its, l0, l1, l2 ++ [⟨first + i, (leVal ((b).take 3) : Int), 0, 0, 0⟩], c0, c1, c2, 2, first, n, i + 1⟩ (by refine ⟨hlt, h2, ?_, ?_, ?_, ?_, ?_, h8⟩ <;> simp <;> omega) (by simp only [rsLines_S]; omega) ?_ (by simp [rsLines_S, rsLines_c]) (by simp [rsLines_S, rsLines_o])
        simp only [rsLines_S, rsLines_fin, hn, gLinesP_succ, r0, r1, z1, z3, addL, hio, m0, if_true, if_false, List.append_assoc, List.cons_append, List.nil_append, k01, k02, k10, k12, k20, k21]
      have hx2 : leVal (((b).drop 3).take 1) < 256 := by rw [leVal_take1 (by omega)]; exact UInt8.toNat_lt _
      have a15 := and15 (leVal (((b).drop 3).take 1)) (by omega)
      have f16 : (leVal (((b).drop 3).take 1) : Int).fdiv 16 = (leVal (((b).drop 3).take 1) : Int) / 16 := Int.fdiv_eq_ediv_of_nonneg _ (by omega)
      have r1 : rget 1 ⟨c, (b).drop 3, bad⟩ = _ := rget_ok (show 1 ≤ ((b).drop 3).length by omega)
      have d1 : decide ((0 : Int) ≤ 1 ∧ (1 : Int) ≤ ((b).drop 3).length) = true := by simp only [decide_eq_true_eq]; omega
      have e1 : decide ((((b).drop 3).drop 1).length ≤ 1000000000000) = true := decide_eq_true (by simp; omega)
      simp only [q1, decide_false, cond_false, d1, cond_true, e1, getP_fst1 q1, a15, f16]
      by_cases q2 : (((b).drop 3).drop 1).length < 1
      · have r2 : rget 1 ⟨c, ((b).drop 3).drop 1, bad⟩ = _ := rget_no q2
        simp only [q2, decide_true, cond_true]
        refine leafR_go ⟨true, [], true, pl, its, l0, l1, l2 ++ [⟨first + i, (leVal ((b).take 3) : Int), (leVal (((b).drop 3).take 1) : Int) % 16, (leVal (((b).drop 3).take 1) : Int) / 16, 0⟩], c0, c1, c2, 2, first, n, i + 1⟩ (by refine ⟨hlt, h2, ?_, ?_, ?_, ?_, ?_, h8⟩ <;> simp <;> omega) (by simp only [rsLines_S]; omega) ?_ (by simp [rsLines_S, rsLines_c]) (by simp [rsLines_S, rsLines_o])
        simp only [rsLines_S, rsLines_fin, hn, gLinesP_succ, r0, r1, r2, z1, z3, addL, hio, m0, if_true, if_false, List.append_assoc, List.cons_append, List.nil_append, k01, k02, k10, k12, k20, k21]
      have r2 : rget 1 ⟨c, ((b).drop 3).drop 1, bad⟩ = _ := rget_ok (show 1 ≤ (((b).drop 3).drop 1).length by omega)
      have d2 : decide ((0 : Int) ≤ 1 ∧ (1 : Int) ≤ (((b).drop 3).drop 1).length) = true := by simp only [decide_eq_true_eq]; omega
      have e2 : decide (((((b).drop 3).drop 1).drop 1).length ≤ 1000000000000) = true := decide_eq_true (by simp; omega)
      simp only [q2, decide_false, cond_false, d2, cond_true, e2, getP_fst1 q2]
      refine leafR_go ⟨c, (((b).drop 3).drop 1).drop 1, bad, pl, its, l0, l1, l2 ++ [⟨first + i, (leVal ((b).take 3) : Int), (leVal (((b).drop 3).take 1) : Int) % 16, (leVal (((b).drop 3).take 1) : Int) / 16, (leVal ((((b).drop 3).drop 1).take 1) : Int)⟩], c0, c1, c2, 2, first, n, i + 1⟩ (by refine ⟨hlt, h2, ?_, ?_, ?_, ?_, ?_, h8⟩ <;> simp <;> omega) (by simp only [rsLines_S]; omega) ?_ (by simp [rsLines_S, rsLines_c]) (by simp [rsLines_S, rsLines_o])
      simp only [rsLines_S, rsLines_fin, hn, gLinesP_succ, r0, r1, r2, addL, hio, m0, if_true, if_false, List.append_assoc, List.cons_append, List.nil_append, k01, k02, k10, k12, k20, k21]
  · have hi : n.toNat - i = 0 := by omega
    obtain e_q | e_q | e_q : q = 0 ∨ q = 1 ∨ q = 2 := by omega
    all_goals
      subst e_q
      first | rw [rsLines_eq0] | rw [rsLines_eq1] | rw [rsLines_eq2]
      simp only [hlt, decide_false, cond_false]
      exact leafR_exit (rsLines_o c b bad pl its l0 l1 l2 c0 c1 c2 0 first n i) (by simp [rsLines_S, rsLines_fin, rsLines_o, hi, gLines, addL, RT.val]) rfl
def rsLines_d (env : Env RC) (os : List (Obj RC)) : Option (Bool × rsLines_St) := match env, os with
  | [(4, .ptr 0 []), (5, .ptr 1 []), (7, .int .i64 q), (9, .int .i64 first), (66, .int .i64 n), (67, .int .i64 x0)], [.var 85 (.acons (.sl .u8 c b) (.acons (.bool bad) .anil)), .var 30 (.acons (.int .i64 pl) (.acons (.vs 2 x1) (.acons (.acons (.vs 3 x2) (.acons (.vs 4 x3) (.acons (.vs 5 x4) .anil))) (.acons (.arr .int 3 [c0, c1, c2]) .anil)))), .vec .item true its, .vec .line true l0, .vec .line true l1, .vec .line true l2] => staticD (true) (decide (x0 = 0) && decide (x1 = its.length) && decide (x2 = l0.length) && decide (x3 = l1.length) && decide (x4 = l2.length) && decide (0 ≤ n ∧ n ≤ 255 ∧ b.length ≤ 1000000 ∧ (l0.length ≤ 1000 ∧ l1.length ≤ 1000 ∧ l2.length ≤ 1000) ∧ (0 ≤ q ∧ q ≤ 2) ∧ (0 ≤ first ∧ first ≤ 16777215)), ⟨c, b, bad, pl, its, l0, l1, l2, c0, c1, c2, q, first, n, 0⟩)
  | _, _ => none
noncomputable def um_2 := um_1.addLoop 32 18 (sumR s07 [.slot 4 0, .slot 5 0, .path 1 [1], .path 1 [2, 0], .path 1 [2, 1], .path 1 [2, 2]] [4, 5, 7, 9, 66, 67] rsLines_S rsLines_d)
theorem um_2_laws : FLaws Try.prog s07 um_2 := by
  refine um_1_laws.addRoundsR s07_laws (by kernel_rfl) rsLines_S 60 [4, 5, 7, 9, 66, 67] [] [.slot 4 0, .slot 5 0, .path 1 [1], .path 1 [2, 0], .path 1 [2, 1], .path 1 [2, 2]] [4, 5, 7, 9, 66, 67] rsLines_d (fun q hI => ?_) ?_
  · obtain ⟨c, b, bad, pl, its, l0, l1, l2, c0, c1, c2, q, first, n, i⟩ := q
    refine ⟨?_, ?_, rsLines_round c b bad pl its l0 l1 l2 c0 c1 c2 q first n i hI⟩
    · simp_all [RefsOK, rsLines_S, rsLines_c, rsLines_o, rsLines_Inv, D.refs, Obj.refs, rEnc]
    · simp_all [rsLines_S, rsLines_fin, rsLines_o, rsLines_Inv, RT.refsOK, RefsOK, D.refs, Obj.refs, rEnc]
  · intro env os b q hd_ hb
    unfold rsLines_d at hd_
    split at hd_
    · obtain ⟨hs, hd_⟩ := staticD_some hd_
      cases hd_
      simp only [Bool.and_eq_true, decide_eq_true_eq] at hb
      obtain ⟨⟨⟨⟨⟨rfl, rfl⟩, rfl⟩, rfl⟩, rfl⟩, hq⟩ := hb
      exact ⟨⟨by simpa using hq.1, hq.2.1, hq.2.2.1, by simpa using hq.2.2.2.1.1, by simpa using hq.2.2.2.1.2.1, by simpa using hq.2.2.2.1.2.2, hq.2.2.2.2.1, hq.2.2.2.2.2⟩, rfl, rfl⟩
    · cases hd_
theorem leVal_le (b : List UInt8) (w : Nat) : leVal (b.take w) < 256 ^ w :=
  Nat.lt_of_lt_of_le (leVal_lt _) (Nat.pow_le_pow_right (by omega) (by simp; omega))
theorem rget_rng (w : Nat) (r : Rd) : 0 ≤ (rget w r).1 ∧ (rget w r).1 < ((256 ^ w : Nat) : Int) := by
  unfold rget
  split
  · have := leVal_le r.b w
    exact ⟨Int.natCast_nonneg _, Int.ofNat_lt.2 this⟩
  · have : 0 < 256 ^ w := Nat.pow_pos (by omega)
    exact ⟨Int.le_refl _, Int.ofNat_lt.2 this⟩
theorem rget_rng1 (r : Rd) : 0 ≤ (rget 1 r).1 ∧ (rget 1 r).1 ≤ 255 := by have := rget_rng 1 r; simp at this; omega
theorem rget_blen (w : Nat) (r : Rd) : (rget w r).2.b.length ≤ r.b.length := by
  unfold rget; split <;> simp
theorem gLines_blen : ∀ (n : Nat) (o : Int) (r : Rd), (gLines rdP false n o r).1.b.length ≤ r.b.length
  | 0, _, _ => Nat.le_refl _
  | n + 1, o, r => by
    rw [gLinesP_succ]
    exact Nat.le_trans (gLines_blen n _ _) (Nat.le_trans (rget_blen _ _) (Nat.le_trans (rget_blen _ _) (rget_blen _ _)))
theorem gItems_blen : ∀ (n : Nat) (r : Rd), (gItems rdP false n r).1.b.length ≤ r.b.length
  | 0, _ => Nat.le_refl _
  | n + 1, r => by
    rw [gItemsP_succ]
    exact Nat.le_trans (gItems_blen n _) (Nat.le_trans (rget_blen _ _) (Nat.le_trans (rget_blen _ _) (rget_blen _ _)))
theorem gItems_len {σ : Type} (R : Rdr σ) (stop : Bool) : ∀ (n : Nat) (s : σ), (gItems R stop n s).2.length ≤ n
  | 0, _ => Nat.le_refl _
  | n + 1, s => by
    simp only [gItems]
    cases stop && R.bad s with
    | true => simp
    | false => have := gItems_len R stop n (R.get 1 (R.get 3 (R.get 1 s).2).2).2; simp; omega
theorem gPart_blen (r : Rd) : (gPart rdP false markP r).1.b.length ≤ r.b.length := by
  unfold gPart
  refine Nat.le_trans (gLines_blen _ _ _) ?_
  have h : (rget 3 (rget 1 (rget 3 r).2).2).2.b.length ≤ r.b.length := Nat.le_trans (rget_blen _ _) (Nat.le_trans (rget_blen _ _) (rget_blen _ _))
  show (bif ((rget 1 (rget 3 r).2).1 == 0 && (rget 3 (rget 1 (rget 3 r).2).2).1 != 0) then markP (rget 3 (rget 1 (rget 3 r).2).2).2 else (rget 3 (rget 1 (rget 3 r).2).2).2).b.length ≤ _
  cases ((rget 1 (rget 3 r).2).1 == 0 && (rget 3 (rget 1 (rget 3 r).2).2).1 != 0)
  · exact h
  · exact h
theorem gPart_len (r : Rd) : (gPart rdP false markP r).2.2.length ≤ 255 := by
  unfold gPart
  refine Nat.le_trans (gLines_len _ _ _ _ _) ?_
  have := rget_rng1 (rget 3 r).2
  show (rget 1 (rget 3 r).2).1.toNat ≤ 255
  omega
theorem gPart_of {r r1 r2 r3 : Rd} {c n f : Int} (h1 : rget 3 r = (c, r1)) (h2 : rget 1 r1 = (n, r2)) (h3 : rget 3 r2 = (f, r3)) :
    gPart rdP false markP r = ((gLines rdP false n.toNat f (bif n == 0 && f != 0 then markP r3 else r3)).1, c, (gLines rdP false n.toNat f (bif n == 0 && f != 0 then markP r3 else r3)).2) := by
  simp only [gPart, rdP, h1, h2, h3]
end Go.Ev
