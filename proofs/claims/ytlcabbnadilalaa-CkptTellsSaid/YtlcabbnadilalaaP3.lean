/-
  CkptTells returns true for any disk, number and state, and they read behind the call as before. No condition beyond the given statement. (text 4 of 7)
-/
import Derived.Test.YtlcabbnadilalaaP2
namespace Go.Ev
open Go.Proofs
set_option maxRecDepth 100000
set_option linter.unusedVariables false
set_option linter.unusedSimpArgs false
structure sbItems_St where
  cp : Bool
  bs : List UInt8
  c : Bool
  l : List Item
  i : Nat
def sbItems_c (cp : Bool) (bs : List UInt8) (c : Bool) (l : List Item) (i : Nat) : Env RC := [(4, .ptr 0 []), (27, .sl (C := RC) .item c l), (28, .int .i64 (l.length)), (29, .int .i64 (i : Int))]
def sbItems_o (cp : Bool) (bs : List UInt8) (c : Bool) (l : List Item) (i : Nat) : List (Obj RC) := [.var 91 (.acons (.sl (C := RC) .u8 cp bs) .anil)]
noncomputable def sbItems_r (cp : Bool) (bs : List UInt8) (c : Bool) (l : List Item) (i : Nat) := rndO s07 uc_1 38 7 40 1 [4, 27, 28, 29] [] [.slot 4 0] (sbItems_c cp bs c l i) (sbItems_o cp bs c l i)
theorem sbItems_eq (cp : Bool) (bs : List UInt8) (c : Bool) (l : List Item) (i : Nat) : sbItems_r cp bs c l i = (let Z0 : Int := (↑i : Int); let Z1 : Int := (↑l.length : Int); let Z2 : Item := List.getD l Z0.toNat (Item.mk (0 : Int) (0 : Int) (0 : Int)); let Z3 : List UInt8 := putL bs (Item.key Z2) (1 : Nat); let Z4 : List UInt8 := putL Z3 (Item.place Z2) (3 : Nat); bif decide (Z0 < Z1) then bif decide ((0 : Int) ≤ Z0 ∧ Z0 < Z1) then bif decide (List.length bs ≤ (1000000000 : Nat)) then bif decide (List.length Z3 ≤ (1000000000 : Nat)) then bif decide (List.length Z4 ≤ (1000000000 : Nat)) then some ((X.normal, [(4, D.ptr 0 []), (27, D.sl RTy.item c l), (28, D.int .i64 Z1), (29, D.int .i64 (IntKind.wrap .i64 (Z0 + (1 : Int))))]), [some (Obj.var 91 (.acons (D.sl RTy.u8 (!fitsB (Item.value Z2) (1 : Nat)) (putL Z4 (Item.value Z2) (1 : Nat))) .anil))]) else none else none else none else none else some ((X.exit (0 : Nat), []), [some (Obj.var 91 (.acons (D.sl RTy.u8 cp bs) .anil))])) := by kernel_rfl
def sbItems_fin (cp : Bool) (bs : List UInt8) (c : Bool) (l : List Item) (i : Nat) : RT RC := .leaf (.exit 0) [] [.var 91 (.acons (.sl (C := RC) .u8 (cp && (l.drop i).isEmpty) (bs ++ (l.drop i).flatMap iBytes)) .anil)]
def sbItems_Inv (cp : Bool) (bs : List UInt8) (c : Bool) (l : List Item) (i : Nat) : Prop := i ≤ l.length ∧ l.length ≤ 1000000 ∧ bs.length ≤ 1000000 + 5 * i ∧ l.all fitI = true
def sbItems_S : LoopR RC sbItems_St where
  k := 1
  canon q := sbItems_c q.cp q.bs q.c q.l q.i
  objs q := sbItems_o q.cp q.bs q.c q.l q.i
  fin q := sbItems_fin q.cp q.bs q.c q.l q.i
  Inv q := sbItems_Inv q.cp q.bs q.c q.l q.i
  μ q := q.l.length - q.i
theorem sbItems_round (cp : Bool) (bs : List UInt8) (c : Bool) (l : List Item) (i : Nat) (hI : sbItems_Inv cp bs c l i) : Leaf (sbItems_r cp bs c l i) (LedR sbItems_S ⟨cp, bs, c, l, i⟩) := by
  (rw [sbItems_eq]; conv => zeta)
  unfold sbItems_Inv at hI
  obtain ⟨h1, h2, h3, h4⟩ := hI
  by_cases hlt : i < l.length
  · have w_succ : IntKind.i64.wrap ((i : Int) + 1) = ((i + 1 : Nat) : Int) := by rw [wrap_id (by omega) (by omega)]; simp
    have d_lt : decide ((i : Int) < l.length) = true := by simp; omega
    have d_in : decide (0 ≤ (i : Int) ∧ (i : Int) < l.length) = true := by simp; omega
    have t_nat : ((i : Int)).toNat = i := by simp
    simp only [w_succ, d_lt, d_in, t_nat, cond_true]
    have hf := all_getD h4 hlt (⟨0, 0, 0⟩ : Item)
    have hd : (l.drop i).flatMap iBytes = _ := flatMap_drop_succ l i iBytes hlt (⟨0, 0, 0⟩ : Item)
    have he : (l.drop i).isEmpty = false := by simp; omega
    generalize l.getD i (⟨0, 0, 0⟩ : Item) = x at hf hd ⊢
    simp only [fitI, Bool.and_eq_true] at hf
    obtain ⟨⟨f1, f2⟩, f3⟩ := hf
    have n1 : decide (bs.length ≤ 1000000000) = true := decide_eq_true (by omega)
    have n2 : decide ((bs ++ leB x.key 1).length ≤ 1000000000) = true := decide_eq_true (by simp [leB_length]; omega)
    have n3 : decide ((bs ++ leB x.key 1 ++ leB x.place 3).length ≤ 1000000000) = true := decide_eq_true (by simp [leB_length]; omega)
    simp only [Int.toNat_one, show Int.toNat 3 = 3 from rfl, putL_fits (fits1 f1), putL_fits (fits3 f2), putL_fits (fits1 f3), fits1 f1, fits3 f2, fits1 f3, n1, n2, n3, cond_true, Bool.not_true]
    refine leafR_go ⟨false, bs ++ leB x.key 1 ++ leB x.place 3 ++ leB x.value 1, c, l, i + 1⟩ ⟨hlt, h2, by simp [leB_length]; omega, h4⟩ (by simp only [sbItems_S]; omega) ?_ rfl rfl
    simp [sbItems_S, sbItems_fin, hd, he, iBytes, RT.val]
  · have hi : i = l.length := by omega
    have c1 : decide ((i : Int) < l.length) = false := by simp; omega
    rw [c1]
    exact leafR_exit (sbItems_o cp bs c l i) (by simp [sbItems_S, sbItems_fin, sbItems_o, hi, RT.val]) rfl
def sbItems_d (env : Env RC) (os : List (Obj RC)) : Option (Bool × sbItems_St) := match env, os with
  | [(4, .ptr 0 []), (27, .sl .item c l), (28, .int .i64 x0), (29, .int .i64 x1)], [.var 91 (.acons (.sl .u8 cp bs) .anil)] => staticD (true) (decide (x0 = l.length) && decide (x1 = 0) && decide (l.length ≤ 1000000 ∧ bs.length ≤ 1000000) && l.all fitI, ⟨cp, bs, c, l, 0⟩)
  | _, _ => none
noncomputable def ud_1 := uc_1.addLoop 38 7 (sumR s07 [.slot 4 0] [4, 27, 28, 29] sbItems_S sbItems_d)
theorem ud_1_laws : FLaws Try.prog s07 ud_1 := by
  refine uc_1_laws.addRoundsR s07_laws (by kernel_rfl) sbItems_S 40 [4, 27, 28, 29] [] [.slot 4 0] [4, 27, 28, 29] sbItems_d (fun q hI => ?_) ?_
  · obtain ⟨cp, bs, c, l, i⟩ := q
    refine ⟨?_, ?_, sbItems_round cp bs c l i hI⟩
    · simp_all [RefsOK, sbItems_S, sbItems_c, sbItems_o, sbItems_Inv, D.refs, Obj.refs, rEnc]
    · simp_all [sbItems_S, sbItems_fin, sbItems_o, sbItems_Inv, RT.refsOK, RefsOK, D.refs, Obj.refs, rEnc]
  · intro env os b q hd_ hb
    unfold sbItems_d at hd_
    split at hd_
    · obtain ⟨hs, hd_⟩ := staticD_some hd_
      cases hd_
      simp only [Bool.and_eq_true, decide_eq_true_eq] at hb
      obtain ⟨⟨⟨rfl, rfl⟩, hl⟩, ha⟩ := hb
      exact ⟨⟨Nat.zero_le _, hl.1, Nat.le_trans hl.2 (Nat.le_add_right _ _), ha⟩, rfl, rfl⟩
    · cases hd_
structure sbLines_St where
  cp : Bool
  bs : List UInt8
  c : Bool
  l : List Line
  i : Nat
def sbLines_c (cp : Bool) (bs : List UInt8) (c : Bool) (l : List Line) (i : Nat) : Env RC := [(4, .ptr 0 []), (72, .sl (C := RC) .line c l), (73, .int .i64 (l.length)), (74, .int .i64 (i : Int))]
def sbLines_o (cp : Bool) (bs : List UInt8) (c : Bool) (l : List Line) (i : Nat) : List (Obj RC) := [.var 91 (.acons (.sl (C := RC) .u8 cp bs) .anil)]
noncomputable def sbLines_r (cp : Bool) (bs : List UInt8) (c : Bool) (l : List Line) (i : Nat) := rndO s07 ud_1 38 23 40 1 [4, 72, 73, 74] [] [.slot 4 0] (sbLines_c cp bs c l i) (sbLines_o cp bs c l i)
theorem sbLines_eq (cp : Bool) (bs : List UInt8) (c : Bool) (l : List Line) (i : Nat) : sbLines_r cp bs c l i = (let Z0 : Int := (↑i : Int); let Z1 : Int := (↑l.length : Int); let Z2 : Line := List.getD l Z0.toNat (Line.mk (0 : Int) (0 : Int) (0 : Int) (0 : Int) (0 : Int)); let Z3 : List UInt8 := putL bs (Line.place Z2) (3 : Nat); let Z4 : List UInt8 := putL Z3 (bits .i64 (fun (x : Nat) (u v : BitVec x) => u ||| v) (IntKind.wrap .i64 (Line.key Z2 * (16 : Int))) (Line.j Z2)) (1 : Nat); bif decide (Z0 < Z1) then bif decide ((0 : Int) ≤ Z0 ∧ Z0 < Z1) then bif decide (List.length bs ≤ (1000000000 : Nat)) then bif decide (List.length Z3 ≤ (1000000000 : Nat)) then bif decide (List.length Z4 ≤ (1000000000 : Nat)) then some ((X.normal, [(4, D.ptr 0 []), (72, D.sl RTy.line c l), (73, D.int .i64 Z1), (74, D.int .i64 (IntKind.wrap .i64 (Z0 + (1 : Int))))]), [some (Obj.var 91 (.acons (D.sl RTy.u8 (!fitsB (Line.value Z2) (1 : Nat)) (putL Z4 (Line.value Z2) (1 : Nat))) .anil))]) else none else none else none else none else some ((X.exit (4 : Nat), []), [some (Obj.var 91 (.acons (D.sl RTy.u8 cp bs) .anil))])) := by kernel_rfl
def sbLines_fin (cp : Bool) (bs : List UInt8) (c : Bool) (l : List Line) (i : Nat) : RT RC := .leaf (.exit 4) [] [.var 91 (.acons (.sl (C := RC) .u8 (cp && (l.drop i).isEmpty) (bs ++ (l.drop i).flatMap lBytes)) .anil)]
def sbLines_Inv (cp : Bool) (bs : List UInt8) (c : Bool) (l : List Line) (i : Nat) : Prop := i ≤ l.length ∧ l.length ≤ 1000000 ∧ bs.length ≤ 1000000 + 5 * i ∧ l.all fitLn = true
def sbLines_S : LoopR RC sbLines_St where
  k := 1
  canon q := sbLines_c q.cp q.bs q.c q.l q.i
  objs q := sbLines_o q.cp q.bs q.c q.l q.i
  fin q := sbLines_fin q.cp q.bs q.c q.l q.i
  Inv q := sbLines_Inv q.cp q.bs q.c q.l q.i
  μ q := q.l.length - q.i
theorem sbLines_round (cp : Bool) (bs : List UInt8) (c : Bool) (l : List Line) (i : Nat) (hI : sbLines_Inv cp bs c l i) : Leaf (sbLines_r cp bs c l i) (LedR sbLines_S ⟨cp, bs, c, l, i⟩) := by
  (rw [sbLines_eq]; conv => zeta)
  unfold sbLines_Inv at hI
  obtain ⟨h1, h2, h3, h4⟩ := hI
  by_cases hlt : i < l.length
  · have w_succ : IntKind.i64.wrap ((i : Int) + 1) = ((i + 1 : Nat) : Int) := by rw [wrap_id (by omega) (by omega)]; simp
    have d_lt : decide ((i : Int) < l.length) = true := by simp; omega
    have d_in : decide (0 ≤ (i : Int) ∧ (i : Int) < l.length) = true := by simp; omega
    have t_nat : ((i : Int)).toNat = i := by simp
    simp only [w_succ, d_lt, d_in, t_nat, cond_true]
    have hf := all_getD h4 hlt (⟨0, 0, 0, 0, 0⟩ : Line)
    have hd : (l.drop i).flatMap lBytes = _ := flatMap_drop_succ l i lBytes hlt (⟨0, 0, 0, 0, 0⟩ : Line)
    have he : (l.drop i).isEmpty = false := by simp; omega
    generalize l.getD i (⟨0, 0, 0, 0, 0⟩ : Line) = x at hf hd ⊢
    simp only [fitLn, Bool.and_eq_true] at hf
    obtain ⟨⟨⟨f1, f2⟩, f3⟩, f4⟩ := hf
    have f5 : withinB (x.key * 16 + x.j) 0 255 = true := by rw [withinB_iff] at f2 f3 ⊢; omega
    have n1 : decide (bs.length ≤ 1000000000) = true := decide_eq_true (by omega)
    have n2 : decide ((bs ++ leB x.place 3).length ≤ 1000000000) = true := decide_eq_true (by simp [leB_length]; omega)
    have n3 : decide ((bs ++ leB x.place 3 ++ leB (x.key * 16 + x.j) 1).length ≤ 1000000000) = true := decide_eq_true (by simp [leB_length]; omega)
    have hb : bits .i64 (fun _ u v => u ||| v) (IntKind.i64.wrap (x.key * 16)) x.j = x.key * 16 + x.j := bits_or_low f2 f3
    simp only [hb, Int.toNat_one, show Int.toNat 3 = 3 from rfl, putL_fits (fits3 f1), putL_fits (fits1 f5), putL_fits (fits1 f4), fits3 f1, fits1 f5, fits1 f4, n1, n2, n3, cond_true, Bool.not_true]
    refine leafR_go ⟨false, bs ++ leB x.place 3 ++ leB (x.key * 16 + x.j) 1 ++ leB x.value 1, c, l, i + 1⟩ ⟨hlt, h2, by simp [leB_length]; omega, h4⟩ (by simp only [sbLines_S]; omega) ?_ rfl rfl
    simp [sbLines_S, sbLines_fin, hd, he, lBytes, RT.val]
  · have hi : i = l.length := by omega
    have c1 : decide ((i : Int) < l.length) = false := by simp; omega
    rw [c1]
    exact leafR_exit (sbLines_o cp bs c l i) (by simp [sbLines_S, sbLines_fin, sbLines_o, hi, RT.val]) rfl
def sbLines_d (env : Env RC) (os : List (Obj RC)) : Option (Bool × sbLines_St) := match env, os with
  | [(4, .ptr 0 []), (72, .sl .line c l), (73, .int .i64 x0), (74, .int .i64 x1)], [.var 91 (.acons (.sl .u8 cp bs) .anil)] => staticD (true) (decide (x0 = l.length) && decide (x1 = 0) && decide (l.length ≤ 1000000 ∧ bs.length ≤ 1000000) && l.all fitLn, ⟨cp, bs, c, l, 0⟩)
  | _, _ => none
noncomputable def ud_2 := ud_1.addLoop 38 23 (sumR s07 [.slot 4 0] [4, 72, 73, 74] sbLines_S sbLines_d)
theorem ud_2_laws : FLaws Try.prog s07 ud_2 := by
  refine ud_1_laws.addRoundsR s07_laws (by kernel_rfl) sbLines_S 40 [4, 72, 73, 74] [] [.slot 4 0] [4, 72, 73, 74] sbLines_d (fun q hI => ?_) ?_
  · obtain ⟨cp, bs, c, l, i⟩ := q
    refine ⟨?_, ?_, sbLines_round cp bs c l i hI⟩
    · simp_all [RefsOK, sbLines_S, sbLines_c, sbLines_o, sbLines_Inv, D.refs, Obj.refs, rEnc]
    · simp_all [sbLines_S, sbLines_fin, sbLines_o, sbLines_Inv, RT.refsOK, RefsOK, D.refs, Obj.refs, rEnc]
  · intro env os b q hd_ hb
    unfold sbLines_d at hd_
    split at hd_
    · obtain ⟨hs, hd_⟩ := staticD_some hd_
      cases hd_
      simp only [Bool.and_eq_true, decide_eq_true_eq] at hb
      obtain ⟨⟨⟨rfl, rfl⟩, hl⟩, ha⟩ := hb
      exact ⟨⟨Nat.zero_le _, hl.1, Nat.le_trans hl.2 (Nat.le_add_right _ _), ha⟩, rfl, rfl⟩
    · cases hd_
def stateBytes_s (p : Int) (ci : Bool) (items : List Item) (k0 : Bool) (k1 : Bool) (k2 : Bool) (l0 : List Line) (l1 : List Line) (l2 : List Line) (c0 : Int) (c1 : Int) (c2 : Int) : Option (Bool × D RC) := some (decide (items.length ≤ 9223372036854775807 ∧ l0.length ≤ 9223372036854775807 ∧ l1.length ≤ 9223372036854775807 ∧ l2.length ≤ 9223372036854775807), .tup (.acons (.sl (C := RC) .u8 (!standsOK ⟨p, items, l0, l1, l2, c0, c1, c2⟩) (bif standsOK ⟨p, items, l0, l1, l2, c0, c1, c2⟩ then stBytes ⟨p, items, l0, l1, l2, c0, c1, c2⟩ else [])) (.acons (.int .i64 (bif standsOK ⟨p, items, l0, l1, l2, c0, c1, c2⟩ then 0 else 2)) .anil)))
def stateBytes_sp : List (D RC) → Option (Bool × D RC)
  | [.acons (.int .i64 p) (.acons (.sl .item ci items) (.acons (.acons (.sl .line k0 l0) (.acons (.sl .line k1 l1) (.acons (.sl .line k2 l2) .anil))) (.acons (.arr .int 3 [c0, c1, c2]) .anil)))] => stateBytes_s p ci items k0 k1 k2 l0 l1 l2 c0 c1 c2
  | _ => none
noncomputable def stateBytes_e (p : Int) (ci : Bool) (items : List Item) (k0 : Bool) (k1 : Bool) (k2 : Bool) (l0 : List Line) (l1 : List Line) (l2 : List Line) (c0 : Int) (c1 : Int) (c2 : Int) := evF s07 ud_2 40 38 [.acons (.int .i64 p) (.acons (.sl (C := RC) .item ci items) (.acons (.acons (.sl (C := RC) .line k0 l0) (.acons (.sl (C := RC) .line k1 l1) (.acons (.sl (C := RC) .line k2 l2) .anil))) (.acons (.arr (C := RC) .int 3 [c0, c1, c2]) .anil)))]
set_option maxHeartbeats 4000000 in
theorem stateBytes_eq (p : Int) (ci : Bool) (items : List Item) (k0 : Bool) (k1 : Bool) (k2 : Bool) (l0 : List Line) (l1 : List Line) (l2 : List Line) (c0 : Int) (c1 : Int) (c2 : Int) : stateBytes_e p ci items k0 k1 k2 l0 l1 l2 c0 c1 c2 = (let Z0 : Nat := List.length items; let Z1 : Nat := List.length l0; let Z2 : Nat := List.length l1; let Z3 : Nat := List.length l2; let Z4 : Int := (↑Z0 : Int); let Z5 : List UInt8 := putL (putL [] p (3 : Nat)) Z4 (1 : Nat); let Z6 : Bool := lenOK Z1; let Z7 : Int := (↑Z1 : Int); let Z8 : List UInt8 := Z5 ++ List.flatMap iBytes (List.drop (0 : Nat) items); let Z9 : Bool := decide (List.length Z8 ≤ (1000000000 : Nat)); let Z10 : Bool := decide (List.length (putL Z8 c0 (3 : Nat)) ≤ (1000000000 : Nat)); let Z11 : List UInt8 := putL (putL Z8 c0 (3 : Nat)) Z7 (1 : Nat); let Z12 : Bool := decide (List.length Z11 ≤ (1000000000 : Nat)); let Z13 : Bool := decide (Z7 = Z7) && true; let Z14 : Line := Line.mk (0 : Int) (0 : Int) (0 : Int) (0 : Int) (0 : Int); let Z15 : List UInt8 := putL Z11 (Line.offset (List.getD l0 (0 : Nat) Z14)) (3 : Nat); let Z16 : Bool := lenOK Z2; let Z17 : Int := (↑Z2 : Int); let Z18 : Bool := decide ((0 : Int) < Z17); let Z19 : Bool := decide ((0 : Int) ≤ (0 : Int) ∧ (0 : Int) < Z17); let Z20 : List UInt8 := List.flatMap lBytes (List.drop (0 : Nat) l0); let Z21 : Bool := decide (List.length (Z15 ++ Z20) ≤ (1000000000 : Nat)); let Z22 : List UInt8 := putL (Z15 ++ Z20) c1 (3 : Nat); let Z23 : Bool := decide (List.length Z22 ≤ (1000000000 : Nat)); let Z24 : List UInt8 := putL Z22 Z17 (1 : Nat); let Z25 : Bool := decide (List.length Z24 ≤ (1000000000 : Nat)); let Z26 : Bool := decide (Z17 = Z17) && true; let Z27 : Int := Line.offset (List.getD l1 (0 : Nat) Z14); let Z28 : Bool := List.all l1 fitLn; let Z29 : Bool := lenOK Z3; let Z30 : Int := (↑Z3 : Int); let Z31 : Bool := decide ((0 : Int) < Z30); let Z32 : Bool := decide ((0 : Int) ≤ (0 : Int) ∧ (0 : Int) < Z30); let Z33 : List UInt8 := List.flatMap lBytes (List.drop (0 : Nat) l1); let Z34 : Bool := decide (List.length (putL Z24 Z27 (3 : Nat) ++ Z33) ≤ (1000000000 : Nat)); let Z35 : List UInt8 := putL (putL Z24 Z27 (3 : Nat) ++ Z33) c2 (3 : Nat); let Z36 : Bool := decide (List.length Z35 ≤ (1000000000 : Nat)); let Z37 : List UInt8 := putL Z35 Z30 (1 : Nat); let Z38 : Bool := decide (List.length Z37 ≤ (1000000000 : Nat)); let Z39 : Bool := decide (Z30 = Z30) && true; let Z40 : Int := Line.offset (List.getD l2 (0 : Nat) Z14); let Z41 : Bool := List.all l2 fitLn; let Z42 : Bool := List.isEmpty (List.drop (0 : Nat) l2); let Z43 : Bool := !fitsB Z40 (3 : Nat) && Z42; let Z44 : List UInt8 := List.flatMap lBytes (List.drop (0 : Nat) l2); let Z45 : D RC := D.acons (D.int .i64 0) .anil; let Z46 : DO_ := none; let Z47 : Bool := false && Z42; let Z48 : List UInt8 := putL Z24 (0 : Int) (3 : Nat) ++ Z33; let Z49 : Bool := decide (List.length Z48 ≤ (1000000000 : Nat)); let Z50 : Bool := decide (List.length (putL Z48 c2 (3 : Nat)) ≤ (1000000000 : Nat)); let Z51 : List UInt8 := putL (putL Z48 c2 (3 : Nat)) Z30 (1 : Nat); let Z52 : Bool := decide (List.length Z51 ≤ (1000000000 : Nat)); let Z53 : List UInt8 := putL Z11 (0 : Int) (3 : Nat) ++ Z20; let Z54 : Bool := decide (List.length Z53 ≤ (1000000000 : Nat)); let Z55 : Bool := decide (List.length (putL Z53 c1 (3 : Nat)) ≤ (1000000000 : Nat)); let Z56 : List UInt8 := putL (putL Z53 c1 (3 : Nat)) Z17 (1 : Nat); let Z57 : Bool := decide (List.length Z56 ≤ (1000000000 : Nat)); let Z58 : Bool := decide (List.length (putL Z56 Z27 (3 : Nat) ++ Z33) ≤ (1000000000 : Nat)); let Z59 : List UInt8 := putL (putL Z56 Z27 (3 : Nat) ++ Z33) c2 (3 : Nat); let Z60 : Bool := decide (List.length Z59 ≤ (1000000000 : Nat)); let Z61 : List UInt8 := putL Z59 Z30 (1 : Nat); let Z62 : Bool := decide (List.length Z61 ≤ (1000000000 : Nat)); let Z63 : List UInt8 := putL Z56 (0 : Int) (3 : Nat) ++ Z33; let Z64 : Bool := decide (List.length Z63 ≤ (1000000000 : Nat)); let Z65 : Bool := decide (List.length (putL Z63 c2 (3 : Nat)) ≤ (1000000000 : Nat)); let Z66 : List UInt8 := putL (putL Z63 c2 (3 : Nat)) Z30 (1 : Nat); let Z67 : Bool := decide (List.length Z66 ≤ (1000000000 : Nat)); bif decide (Z0 ≤ (9223372036854775807 : Nat) ∧ Z1 ≤ (9223372036854775807 : Nat) ∧ Z2 ≤ (9223372036854775807 : Nat) ∧ Z3 ≤ (9223372036854775807 : Nat)) then bif !standsOK (St.mk p items l0 l1 l2 c0 c1 c2) then some (D.tup (D.acons (D.sl RTy.u8 true []) (.acons (D.int .i64 2) .anil))) else bif lenOK Z0 then bif decide (List.length (putL [] p (3 : Nat)) ≤ (1000000000 : Nat)) then bif lenOK Z0 then bif decide (Z4 = Z4) && true && decide (Z0 ≤ (1000000 : Nat) ∧ List.length Z5 ≤ (1000000 : Nat)) && List.all items fitI then bif Z6 then bif decide ((0 : Int) < Z7) then bif decide ((0 : Int) ≤ (0 : Int) ∧ (0 : Int) < Z7) then bif Z9 then bif Z6 then bif Z10 then bif Z12 then bif Z6 then bif Z13 && decide (Z1 ≤ (1000000 : Nat) ∧ List.length Z15 ≤ (1000000 : Nat)) && List.all l0 fitLn then bif Z16 then bif Z18 then bif Z19 then bif Z21 then bif Z16 then bif Z23 then bif Z25 then bif Z16 then bif Z26 && decide (Z2 ≤ (1000000 : Nat) ∧ List.length (putL Z24 Z27 (3 : Nat)) ≤ (1000000 : Nat)) && Z28 then bif Z29 then bif Z31 then bif Z32 then bif Z34 then bif Z29 then bif Z36 then bif Z38 then bif Z29 then bif Z39 && decide (Z3 ≤ (1000000 : Nat) ∧ List.length (putL Z37 Z40 (3 : Nat)) ≤ (1000000 : Nat)) && Z41 then some (D.tup (D.acons (D.sl RTy.u8 Z43 (putL Z37 Z40 (3 : Nat) ++ Z44)) Z45)) else Z46 else Z46 else Z46 else Z46 else Z46 else Z46 else Z46 else bif Z34 then bif Z29 then bif Z36 then bif Z38 then bif Z29 then bif Z39 && decide (Z3 ≤ (1000000 : Nat) ∧ List.length (putL Z37 (0 : Int) (3 : Nat)) ≤ (1000000 : Nat)) && Z41 then some (D.tup (D.acons (D.sl RTy.u8 Z47 (putL Z37 (0 : Int) (3 : Nat) ++ Z44)) Z45)) else Z46 else Z46 else Z46 else Z46 else Z46 else Z46 else Z46 else Z46 else Z46 else Z46 else Z46 else Z46 else Z46 else Z46 else bif Z21 then bif Z16 then bif Z23 then bif Z25 then bif Z16 then bif Z26 && decide (Z2 ≤ (1000000 : Nat) ∧ List.length (putL Z24 (0 : Int) (3 : Nat)) ≤ (1000000 : Nat)) && Z28 then bif Z29 then bif Z31 then bif Z32 then bif Z49 then bif Z29 then bif Z50 then bif Z52 then bif Z29 then bif Z39 && decide (Z3 ≤ (1000000 : Nat) ∧ List.length (putL Z51 Z40 (3 : Nat)) ≤ (1000000 : Nat)) && Z41 then some (D.tup (D.acons (D.sl RTy.u8 Z43 (putL Z51 Z40 (3 : Nat) ++ Z44)) Z45)) else Z46 else Z46 else Z46 else Z46 else Z46 else Z46 else Z46 else bif Z49 then bif Z29 then bif Z50 then bif Z52 then bif Z29 then bif Z39 && decide (Z3 ≤ (1000000 : Nat) ∧ List.length (putL Z51 (0 : Int) (3 : Nat)) ≤ (1000000 : Nat)) && Z41 then some (D.tup (D.acons (D.sl RTy.u8 Z47 (putL Z51 (0 : Int) (3 : Nat) ++ Z44)) Z45)) else Z46 else Z46 else Z46 else Z46 else Z46 else Z46 else Z46 else Z46 else Z46 else Z46 else Z46 else Z46 else Z46 else Z46 else Z46 else Z46 else Z46 else Z46 else Z46 else Z46 else Z46 else bif Z9 then bif Z6 then bif Z10 then bif Z12 then bif Z6 then bif Z13 && decide (Z1 ≤ (1000000 : Nat) ∧ List.length (putL Z11 (0 : Int) (3 : Nat)) ≤ (1000000 : Nat)) && List.all l0 fitLn then bif Z16 then bif Z18 then bif Z19 then bif Z54 then bif Z16 then bif Z55 then bif Z57 then bif Z16 then bif Z26 && decide (Z2 ≤ (1000000 : Nat) ∧ List.length (putL Z56 Z27 (3 : Nat)) ≤ (1000000 : Nat)) && Z28 then bif Z29 then bif Z31 then bif Z32 then bif Z58 then bif Z29 then bif Z60 then bif Z62 then bif Z29 then bif Z39 && decide (Z3 ≤ (1000000 : Nat) ∧ List.length (putL Z61 Z40 (3 : Nat)) ≤ (1000000 : Nat)) && Z41 then some (D.tup (D.acons (D.sl RTy.u8 Z43 (putL Z61 Z40 (3 : Nat) ++ Z44)) Z45)) else Z46 else Z46 else Z46 else Z46 else Z46 else Z46 else Z46 else bif Z58 then bif Z29 then bif Z60 then bif Z62 then bif Z29 then bif Z39 && decide (Z3 ≤ (1000000 : Nat) ∧ List.length (putL Z61 (0 : Int) (3 : Nat)) ≤ (1000000 : Nat)) && Z41 then some (D.tup (D.acons (D.sl RTy.u8 Z47 (putL Z61 (0 : Int) (3 : Nat) ++ Z44)) Z45)) else Z46 else Z46 else Z46 else Z46 else Z46 else Z46 else Z46 else Z46 else Z46 else Z46 else Z46 else Z46 else Z46 else Z46 else bif Z54 then bif Z16 then bif Z55 then bif Z57 then bif Z16 then bif Z26 && decide (Z2 ≤ (1000000 : Nat) ∧ List.length (putL Z56 (0 : Int) (3 : Nat)) ≤ (1000000 : Nat)) && Z28 then bif Z29 then bif Z31 then bif Z32 then bif Z64 then bif Z29 then bif Z65 then bif Z67 then bif Z29 then bif Z39 && decide (Z3 ≤ (1000000 : Nat) ∧ List.length (putL Z66 Z40 (3 : Nat)) ≤ (1000000 : Nat)) && Z41 then some (D.tup (D.acons (D.sl RTy.u8 Z43 (putL Z66 Z40 (3 : Nat) ++ Z44)) Z45)) else Z46 else Z46 else Z46 else Z46 else Z46 else Z46 else Z46 else bif Z64 then bif Z29 then bif Z65 then bif Z67 then bif Z29 then bif Z39 && decide (Z3 ≤ (1000000 : Nat) ∧ List.length (putL Z66 (0 : Int) (3 : Nat)) ≤ (1000000 : Nat)) && Z41 then some (D.tup (D.acons (D.sl RTy.u8 Z47 (putL Z66 (0 : Int) (3 : Nat) ++ Z44)) Z45)) else Z46 else Z46 else Z46 else Z46 else Z46 else Z46 else Z46 else Z46 else Z46 else Z46 else Z46 else Z46 else Z46 else Z46 else Z46 else Z46 else Z46 else Z46 else Z46 else Z46 else Z46 else Z46 else Z46 else Z46 else Z46 else Z46) := by kernel_rfl
theorem stateBytes_ok (p : Int) (ci : Bool) (items : List Item) (k0 : Bool) (k1 : Bool) (k2 : Bool) (l0 : List Line) (l1 : List Line) (l2 : List Line) (c0 : Int) (c1 : Int) (c2 : Int) (h : (decide (items.length ≤ 9223372036854775807 ∧ l0.length ≤ 9223372036854775807 ∧ l1.length ≤ 9223372036854775807 ∧ l2.length ≤ 9223372036854775807)) = true) : stateBytes_e p ci items k0 k1 k2 l0 l1 l2 c0 c1 c2 = some (.tup (.acons (.sl (C := RC) .u8 (!standsOK ⟨p, items, l0, l1, l2, c0, c1, c2⟩) (bif standsOK ⟨p, items, l0, l1, l2, c0, c1, c2⟩ then stBytes ⟨p, items, l0, l1, l2, c0, c1, c2⟩ else [])) (.acons (.int .i64 (bif standsOK ⟨p, items, l0, l1, l2, c0, c1, c2⟩ then 0 else 2)) .anil))) := by
  (rw [stateBytes_eq]; conv => zeta)
  rw [h]
  cases hm : standsOK ⟨p, items, l0, l1, l2, c0, c1, c2⟩
  · rfl
  · obtain ⟨hp, hil, hif, ⟨k0, m0, w0, o0⟩, ⟨k1, m1, w1, o1⟩, ⟨k2, m2, w2, o2⟩⟩ := stands_facts hm
    have b := lenOK_of (show items.length ≤ 9223372036854775807 by omega)
    have b0 := lenOK_of (show l0.length ≤ 9223372036854775807 by omega)
    have b1 := lenOK_of (show l1.length ≤ 9223372036854775807 by omega)
    have b2 := lenOK_of (show l2.length ≤ 9223372036854775807 by omega)
    have fp : fitsB p 3 = true := fits3 (by rw [withinB_iff]; omega)
    have fi : fitsB (items.length : Int) 1 = true := fits1 (by rw [withinB_iff]; omega)
    have fc0 : fitsB c0 3 = true := fits3 (by rw [withinB_iff]; omega)
    have fc1 : fitsB c1 3 = true := fits3 (by rw [withinB_iff]; omega)
    have fc2 : fitsB c2 3 = true := fits3 (by rw [withinB_iff]; omega)
    have fl0 : fitsB (l0.length : Int) 1 = true := fits1 (by rw [withinB_iff]; omega)
    have fl1 : fitsB (l1.length : Int) 1 = true := fits1 (by rw [withinB_iff]; omega)
    have fl2 : fitsB (l2.length : Int) 1 = true := fits1 (by rw [withinB_iff]; omega)
    have fo0 : fitsB (l0.getD 0 ⟨0, 0, 0, 0, 0⟩).offset 3 = true := fits3 (by rw [withinB_iff]; unfold firstOff at o0; omega)
    have fo1 : fitsB (l1.getD 0 ⟨0, 0, 0, 0, 0⟩).offset 3 = true := fits3 (by rw [withinB_iff]; unfold firstOff at o1; omega)
    have fo2 : fitsB (l2.getD 0 ⟨0, 0, 0, 0, 0⟩).offset 3 = true := fits3 (by rw [withinB_iff]; unfold firstOff at o2; omega)
    have f0 : fitsB 0 3 = true := rfl
    have L : ∀ b : List UInt8, b.length ≤ 100000 → decide (b.length ≤ 1000000000) = true := fun b hb => decide_eq_true (by omega)
    have L2 : ∀ (b : List UInt8) (n : Nat), n ≤ 24 → b.length ≤ 100000 → decide (n ≤ 1000000 ∧ b.length ≤ 1000000) = true := fun b n hn hb => by simp; omega
    have i0 : ∀ l : List Line, decide (0 ≤ (0 : Int) ∧ (0 : Int) < l.length) = decide (0 < (l.length : Int)) := fun l => by simp
    have sI := flatMap_len items iBytes 5 iBytes_len
    have s0 := flatMap_len l0 lBytes 5 lBytes_len
    have s1 := flatMap_len l1 lBytes 5 lBytes_len
    have s2 := flatMap_len l2 lBytes 5 lBytes_len
    simp only [b, b0, b1, b2, show Int.toNat 1 = 1 from rfl, show Int.toNat 3 = 3 from rfl, putL_fits fp, putL_fits fi, putL_fits fc0, putL_fits fc1, putL_fits fc2, putL_fits fl0, putL_fits fl1, putL_fits fl2, putL_fits fo0, putL_fits fo1, putL_fits fo2, putL_fits f0, fp, fi, fc0, fc1, fc2, fl0, fl1, fl2, fo0, fo1, fo2, f0, hif, w0, w1, w2, cond_true, cond_false, Bool.not_true, Bool.not_false, Bool.and_true, Bool.true_and, decide_true, List.drop_zero, Bool.false_and, i0]
    simp (disch := first | omega | (simp only [List.length_append, leB_length, List.length_nil, sI, s0, s1, s2]; omega)) only [L, L2, cond_true]
    have hx : ∀ l : List Line, ¬ (0 < l.length) → (l.getD 0 ⟨0, 0, 0, 0, 0⟩).offset = 0 := fun l hl => by
      have : l = [] := by cases l with
        | nil => rfl
        | cons _ _ => simp at hl
      rw [this]; rfl
    simp only [stBytes, partBytes, firstOff]
    simp only [Int.natCast_pos]
    by_cases e0 : 0 < l0.length <;> by_cases e1 : 0 < l1.length <;> by_cases e2 : 0 < l2.length <;> simp only [e0, e1, e2, decide_true, decide_false, cond_true, cond_false] <;> simp [e0, e1, e2, hx]
noncomputable def ud_3 := ud_2.addSpec 38 stateBytes_sp
theorem ud_3_laws : FLaws Try.prog s07 ud_3 := ud_2_laws.addEv s07_laws fun args d h => by
  unfold stateBytes_sp at h
  split at h
  · unfold stateBytes_s at h
    have h1 := congrArg Prod.fst (Option.some.inj h)
    obtain rfl : _ = d := congrArg Prod.snd (Option.some.inj h)
    exact ⟨by simp [D.refs], 40, stateBytes_ok _ _ _ _ _ _ _ _ _ _ _ _ h1⟩
  · cases h
theorem drops_step {α : Type} [DecidableEq α] (l m : List α) (i : Nat) (d : α) (hlt : i < l.length) (hlen : l.length = m.length) :
    decide (l.drop i = m.drop i) = (decide (l.getD i d = m.getD i d) && decide (l.drop (i + 1) = m.drop (i + 1))) := by
  have e1 := List.drop_eq_getElem_cons hlt
  have e2 := List.drop_eq_getElem_cons (show i < m.length by omega)
  have h1 : l.getD i d = l[i] := by simp [hlt]
  have h2 : m.getD i d = m[i]'(by omega) := by simp [show i < m.length by omega]
  rw [h1, h2, e1, e2, Bool.eq_iff_iff]
  simp only [List.cons.injEq, decide_eq_true_eq, Bool.and_eq_true]
theorem drops_end {α : Type} [DecidableEq α] (l m : List α) (i : Nat) (h1 : l.length ≤ i) (h2 : m.length ≤ i) : decide (l.drop i = m.drop i) = true := by
  simp [List.drop_eq_nil_of_le h1, List.drop_eq_nil_of_le h2]
theorem beqD {α : Type} [DecidableEq α] [BEq α] [LawfulBEq α] (a b : α) : (a == b) = decide (a = b) := by rw [Bool.eq_iff_iff]; simp
theorem eqItem (x y : Item) : (x.key == y.key && (x.place == y.place && (x.value == y.value && true))) = decide (x = y) := by
  rw [Bool.eq_iff_iff]; cases x; cases y; simp
theorem eqLine (x y : Line) : (x.offset == y.offset && (x.place == y.place && (x.j == y.j && (x.key == y.key && (x.value == y.value && true))))) = decide (x = y) := by
  rw [Bool.eq_iff_iff]; cases x; cases y; simp
def linesAt (p c : Int) (l : List Line) (i : Nat) : Bool := (decide (i ≠ 0) || l.isEmpty || decide (c < (l.getD 0 ⟨0, 0, 0, 0, 0⟩).place)) && eachAt (oneLB p) twoLB l i
theorem partOK_eq (p c : Int) (l : List Line) : partOK p c l = (decide (l.length ≤ 16) && decide (0 ≤ c) && decide (c ≤ p) && linesAt p c l 0) := by
  unfold partOK linesAt withinB
  cases decide (l.length ≤ 16) <;> cases decide (0 ≤ c) <;> cases decide (c ≤ p) <;> simp
theorem putD {n : Int} (h0 : 0 ≤ n) (h1 : n ≤ 9223372036854775807) : IntKind.i64.wrap (n.tdiv 256) = n.fdiv 256 ∧ 0 ≤ n.fdiv 256 ∧ n.fdiv 256 ≤ 9223372036854775807 := by
  obtain ⟨a, b⟩ := fdiv_nonneg h0
  rw [Int.tdiv_eq_ediv_of_nonneg h0, b]
  exact ⟨wrap_id (by omega) (by omega), by omega, by omega⟩
theorem putB {n : Int} (h0 : 0 ≤ n) : UInt8.ofNat (IntKind.u8.wrap (n.tmod 256)).toNat = byteOf n := by
  rw [byteOf, u8_wrap, u8_wrap, Int.tmod_eq_emod_of_nonneg h0, Int.emod_emod_of_dvd _ (by decide)]
theorem leB1 (n : Int) : leB n 1 = [byteOf n] := rfl
theorem leB3 (n : Int) : leB n 3 = [byteOf n, byteOf (n.fdiv 256), byteOf ((n.fdiv 256).fdiv 256)] := rfl
def partFit (c : Int) (l : List Line) : Bool := decide (0 ≤ c) && decide (c ≤ 1048575) && decide (l.length ≤ 16) && l.all fitLn && decide (0 ≤ firstOff l) && decide (firstOff l ≤ 4194303)
theorem partFit_iff {c : Int} {l : List Line} : partFit c l = true ↔ (0 ≤ c ∧ c ≤ 1048575) ∧ l.length ≤ 16 ∧ l.all fitLn = true ∧ (0 ≤ firstOff l ∧ firstOff l ≤ 4194303) := by
  simp only [partFit, Bool.and_eq_true, decide_eq_true_eq]; constructor <;> (intro h; simp_all)
def partsFrom (s : St) : Nat → List UInt8
  | 0 => partBytes s.c0 s.l0 ++ (partBytes s.c1 s.l1 ++ partBytes s.c2 s.l2)
  | 1 => partBytes s.c1 s.l1 ++ partBytes s.c2 s.l2
  | 2 => partBytes s.c2 s.l2
  | _ => []
open Go.Proofs
structure fits01_St where
  n : Int
  w : Int
  i : Nat
def fits01_c (n : Int) (w : Int) (i : Nat) : Env RC := [(0, .int .i64 n), (1, .int .i64 w), (5, .int .i64 (i : Int))]
def fits01_o (n : Int) (w : Int) (i : Nat) : List (Obj RC) := []
noncomputable def fits01_r (n : Int) (w : Int) (i : Nat) := rndO s07 ud_3 76 4 40 0 [0, 1, 5] [0] [] (fits01_c n w i) (fits01_o n w i)
theorem fits01_eq (n : Int) (w : Int) (i : Nat) : fits01_r n w i = (bif decide ((↑i : Int) < w) then some ((X.normal, [(0, D.int .i64 (IntKind.wrap .i64 (Int.tdiv n (256 : Int)))), (1, D.int .i64 w), (5, D.int .i64 (IntKind.wrap .i64 ((↑i : Int) + (1 : Int))))]), []) else some ((X.exit (0 : Nat), [(0, D.int .i64 n)]), [])) := by kernel_rfl
def fits01_fin (n : Int) (w : Int) (i : Nat) : RT RC := .leaf (.exit 0) [(0, .int .i64 (n / 256 ^ (w.toNat - i)))] []
def fits01_Inv (n : Int) (w : Int) (i : Nat) : Prop := 0 ≤ n ∧ n ≤ 9223372036854775807 ∧ (i : Int) ≤ w ∧ w ≤ 6
def fits01_S : LoopR RC fits01_St where
  k := 0
  canon q := fits01_c q.n q.w q.i
  objs q := fits01_o q.n q.w q.i
  fin q := fits01_fin q.n q.w q.i
  Inv q := fits01_Inv q.n q.w q.i
  μ q := q.w.toNat - q.i
theorem fits01_round (n : Int) (w : Int) (i : Nat) (hI : fits01_Inv n w i) : Leaf (fits01_r n w i) (LedR fits01_S ⟨n, w, i⟩) := by
  rw [fits01_eq]
  unfold fits01_Inv at hI
  obtain ⟨h1, h2, h3, h4⟩ := hI
  by_cases hlt : (i : Int) < w
  · have w_succ : IntKind.i64.wrap ((i : Int) + 1) = ((i + 1 : Nat) : Int) := by rw [wrap_id (by omega) (by omega)]; simp
    have hd : IntKind.i64.wrap (n.tdiv 256) = n / 256 := by rw [Int.tdiv_eq_ediv_of_nonneg h1]; exact wrap_id (by omega) (by omega)
    simp only [hlt, decide_true, cond_true, w_succ, hd]
    refine leafR_go ⟨n / 256, w, i + 1⟩ (by simp only [fits01_S, fits01_Inv]; omega) (by simp only [fits01_S]; omega) ?_ rfl rfl
    simp only [fits01_S, fits01_fin]
    have : w.toNat - i = (w.toNat - (i + 1)) + 1 := by omega
    rw [this, Int.pow_succ', Int.ediv_ediv_of_nonneg (by omega)]
  · have hi : w.toNat - i = 0 := by omega
    simp only [hlt, decide_false, cond_false]
    exact leafR_exit [] (by simp [fits01_S, fits01_fin, hi, RT.val]) rfl
def fits01_d (env : Env RC) (os : List (Obj RC)) : Option (Bool × fits01_St) := match env, os with
  | [(0, .int .i64 n), (1, .int .i64 w), (5, .int .i64 x0)], [] => staticD (true) (decide (x0 = 0) && decide (0 ≤ n ∧ n ≤ 9223372036854775807 ∧ 0 ≤ w ∧ w ≤ 6), ⟨n, w, 0⟩)
  | _, _ => none
noncomputable def uf_1 := ud_3.addLoop 76 4 (sumR s07 [] [0, 1, 5] fits01_S fits01_d)
theorem uf_1_laws : FLaws Try.prog s07 uf_1 := by
  refine ud_3_laws.addRoundsR s07_laws (by kernel_rfl) fits01_S 40 [0, 1, 5] [0] [] [0, 1, 5] fits01_d (fun q hI => ?_) ?_
  · obtain ⟨n, w, i⟩ := q
    refine ⟨?_, ?_, fits01_round n w i hI⟩
    · simp_all [RefsOK, fits01_S, fits01_c, fits01_o, fits01_Inv, D.refs, Obj.refs, rEnc]
    · simp_all [fits01_S, fits01_fin, fits01_o, fits01_Inv, RT.refsOK, RefsOK, D.refs, Obj.refs, rEnc]
  · intro env os b q hd_ hb
    unfold fits01_d at hd_
    split at hd_
    · obtain ⟨hs, hd_⟩ := staticD_some hd_
      cases hd_
      simp only [Bool.and_eq_true, decide_eq_true_eq] at hb
      obtain ⟨rfl, hq⟩ := hb
      exact ⟨by simp only [fits01_S, fits01_Inv]; omega, rfl, rfl⟩
    · cases hd_
def fits1f_s (n : Int) (w : Int) : Option (Bool × D RC) := some (decide (n ≤ 9223372036854775807 ∧ 1 ≤ w ∧ w ≤ 6) && fitsB n w.toNat, .bool true)
def fits1f_sp : List (D RC) → Option (Bool × D RC)
  | [.int .i64 n, .int .i64 w] => fits1f_s n w
  | _ => none
noncomputable def fits1f_e (n : Int) (w : Int) := evF s07 uf_1 40 76 [.int .i64 n, .int .i64 w]
theorem fits1f_eq (n : Int) (w : Int) : fits1f_e n w = (let Z0 : DO_ := some (D.bool false); bif decide (w < (1 : Int)) then Z0 else bif decide ((6 : Int) < w) then Z0 else bif decide (n < (0 : Int)) then Z0 else bif decide ((0 : Int) ≤ n ∧ n ≤ (9223372036854775807 : Int) ∧ (0 : Int) ≤ w ∧ w ≤ (6 : Int)) then some (D.bool (n / (256 : Int) ^ (Int.toNat w - 0) == (0 : Int))) else none) := by kernel_rfl
theorem fits1f_ok (n : Int) (w : Int) (h : (decide (n ≤ 9223372036854775807 ∧ 1 ≤ w ∧ w ≤ 6) && fitsB n w.toNat) = true) : fits1f_e n w = some (.bool true) := by
  (rw [fits1f_eq]; conv => zeta)
  simp only [Bool.and_eq_true, decide_eq_true_eq] at h
  obtain ⟨⟨hn, hw1, hw6⟩, hf⟩ := h
  have h0 : 0 ≤ n := (fitsB_iff.1 hf).1
  have w1 : ¬ w < 1 := by omega
  have w6 : ¬ 6 < w := by omega
  have n0 : ¬ n < 0 := by omega
  have hc : (0 ≤ n ∧ n ≤ 9223372036854775807 ∧ 0 ≤ w ∧ w ≤ 6) := by omega
  have hp : (0 : Int) < 256 ^ w.toNat := Int.pow_pos (by decide)
  have hz : n / 256 ^ w.toNat = 0 := (Int.ediv_eq_zero_iff_of_pos' h0 hp).2 (fitsB_iff.1 hf).2
  rw [decide_eq_false w1, decide_eq_false w6, decide_eq_false n0, decide_eq_true hc]
  simp only [cond_false, cond_true, Nat.sub_zero, hz]
  rfl
noncomputable def uf_2 := uf_1.addSpec 76 fits1f_sp
theorem uf_2_laws : FLaws Try.prog s07 uf_2 := uf_1_laws.addEv s07_laws fun args d h => by
  unfold fits1f_sp at h
  split at h
  · unfold fits1f_s at h
    have h1 := congrArg Prod.fst (Option.some.inj h)
    obtain rfl : _ = d := congrArg Prod.snd (Option.some.inj h)
    exact ⟨by simp [D.refs], 40, fits1f_ok _ _ h1⟩
  · cases h
structure get01_St where
  c : Bool
  b : List UInt8
  a : Int
  i : Int
  m : Nat
def get01_c (c : Bool) (b : List UInt8) (a : Int) (i : Int) (m : Nat) : Env RC := [(0, .sl (C := RC) .u8 c b), (1, .int .i64 a), (9, .int .i64 i), (8, .int .i64 (m : Int))]
def get01_o (c : Bool) (b : List UInt8) (a : Int) (i : Int) (m : Nat) : List (Obj RC) := []
noncomputable def get01_r (c : Bool) (b : List UInt8) (a : Int) (i : Int) (m : Nat) := rndO s07 uf_2 61 7 40 0 [0, 1, 9, 8] [8] [] (get01_c c b a i m) (get01_o c b a i m)
theorem get01_eq (c : Bool) (b : List UInt8) (a : Int) (i : Int) (m : Nat) : get01_r c b a i m = (let Z0 : Int := IntKind.wrap .i64 (a + i); bif decide ((0 : Int) ≤ i) then bif decide ((0 : Int) ≤ Z0 ∧ Z0 < (↑b.length : Int)) then some ((X.normal, [(0, D.sl RTy.u8 c b), (1, D.int .i64 a), (9, D.int .i64 (IntKind.wrap .i64 (i - (1 : Int)))), (8, D.int .i64 (IntKind.wrap .i64 (IntKind.wrap .i64 ((256 : Int) * (↑m : Int)) + IntKind.wrap .i64 (↑(UInt8.toNat (List.getD b Z0.toNat (UInt8.ofBitVec (BitVec.ofNat (8 : Nat) (nat_lit 0))))) : Int))))]), []) else none else some ((X.exit (0 : Nat), [(8, D.int .i64 (↑m : Int))]), [])) := by kernel_rfl
def get01_fin (c : Bool) (b : List UInt8) (a : Int) (i : Int) (m : Nat) : RT RC := .leaf (.exit 0) [(8, .int .i64 ((m * 256 ^ (i + 1).toNat + leVal ((b.drop a.toNat).take (i + 1).toNat) : Nat) : Int))] []
def get01_Inv (c : Bool) (b : List UInt8) (a : Int) (i : Int) (m : Nat) : Prop := -1 ≤ i ∧ i ≤ 5 ∧ 0 ≤ a ∧ a + i + 1 ≤ b.length ∧ b.length ≤ 1000000000000 ∧ m < 256 ^ (5 - i).toNat
def get01_S : LoopR RC get01_St where
  k := 0
  canon q := get01_c q.c q.b q.a q.i q.m
  objs q := get01_o q.c q.b q.a q.i q.m
  fin q := get01_fin q.c q.b q.a q.i q.m
  Inv q := get01_Inv q.c q.b q.a q.i q.m
  μ q := (q.i + 1).toNat
theorem get01_round (c : Bool) (b : List UInt8) (a : Int) (i : Int) (m : Nat) (hI : get01_Inv c b a i m) : Leaf (get01_r c b a i m) (LedR get01_S ⟨c, b, a, i, m⟩) := by
  (rw [get01_eq]; conv => zeta)
  unfold get01_Inv at hI
  obtain ⟨h1, h2, h3, h4, h5, h6⟩ := hI
  by_cases hlt : 0 ≤ i
  · have w1 : IntKind.i64.wrap (a + i) = a + i := wrap_id (by omega) (by omega)
    have w2 : IntKind.i64.wrap (i - 1) = i - 1 := wrap_id (by omega) (by omega)
    have d1 : decide (0 ≤ a + i ∧ a + i < b.length) = true := by simp; omega
    have hm : m < 256 ^ 5 := Nat.lt_of_lt_of_le h6 (Nat.pow_le_pow_right (by omega) (by omega))
    have hx := (b.getD (a + i).toNat ⟨0#8⟩).toNat_lt
    have w3 : IntKind.i64.wrap (256 * (m : Int)) = ((256 * m : Nat) : Int) := by rw [wrap_id (by omega) (by omega)]; simp
    have w4 : IntKind.i64.wrap (((256 * m : Nat) : Int) + ((b.getD (a + i).toNat ⟨0#8⟩).toNat : Int)) = ((256 * m + (b.getD (a + i).toNat ⟨0#8⟩).toNat : Nat) : Int) := by
      rw [wrap_id (by omega) (by omega)]; simp
    simp only [hlt, decide_true, cond_true, w1, w2, d1, w3, u8_i64, w4]
    have hk : (5 - (i - 1)).toNat = (5 - i).toNat + 1 := by omega
    have hI' : get01_Inv c b a (i - 1) (256 * m + (b.getD (a + i).toNat ⟨0#8⟩).toNat) := ⟨by omega, by omega, h3, by omega, h5, by rw [hk, Nat.pow_succ]; omega⟩
    refine leafR_go ⟨c, b, a, i - 1, 256 * m + (b.getD (a + i).toNat ⟨0#8⟩).toNat⟩ hI' (by simp only [get01_S]; omega) ?_ rfl rfl
    · simp only [get01_S, get01_fin]
      obtain ⟨k, rfl⟩ : ∃ k : Nat, i = k := ⟨i.toNat, by omega⟩
      obtain ⟨p, rfl⟩ : ∃ p : Nat, a = p := ⟨a.toNat, by omega⟩
      have e1 : ((k : Int) - 1 + 1).toNat = k := by omega
      have e2 : ((k : Int) + 1).toNat = k + 1 := by omega
      have e3 : ((p : Int) + (k : Int)).toNat = p + k := by omega
      have e4 : ((p : Int)).toNat = p := by omega
      rw [e1, e2, e3, e4]
      have hl : ((b.drop p).take k).length = k := by simp; omega
      have hg : (b.drop p)[k]? = some (b.getD (p + k) ⟨0#8⟩) := by
        simp [List.getElem?_drop, show p + k < b.length by omega]
      rw [List.take_add_one, leVal_append, hl, hg]
      simp only [Option.toList_some, leVal]
      have : (256 * m + (b.getD (p + k) ⟨0#8⟩).toNat) * 256 ^ k + leVal ((b.drop p).take k) = m * 256 ^ (k + 1) + (leVal ((b.drop p).take k) + 256 ^ k * ((b.getD (p + k) ⟨0#8⟩).toNat + 256 * 0)) := by
        rw [Nat.pow_succ, Nat.add_mul, Nat.mul_comm 256 m, Nat.mul_assoc, Nat.mul_comm 256 (256 ^ k), Nat.mul_comm (b.getD (p + k) ⟨0#8⟩).toNat]; simp; omega
      rw [this]
  · have e0 : (i + 1).toNat = 0 := by omega
    simp only [hlt, decide_false, cond_false]
    exact leafR_exit [] (by simp [get01_S, get01_fin, e0, RT.val, leVal]) rfl
def get01_d (env : Env RC) (os : List (Obj RC)) : Option (Bool × get01_St) := match env, os with
  | [(0, .sl .u8 c b), (1, .int .i64 a), (9, .int .i64 i), (8, .int .i64 x0)], [] => staticD (true) (decide (x0 = 0) && decide (-1 ≤ i ∧ i ≤ 5 ∧ 0 ≤ a ∧ a + i + 1 ≤ b.length ∧ b.length ≤ 1000000000000), ⟨c, b, a, i, 0⟩)
  | _, _ => none
noncomputable def uf_3 := uf_2.addLoop 61 7 (sumR s07 [] [0, 1, 9, 8] get01_S get01_d)
theorem uf_3_laws : FLaws Try.prog s07 uf_3 := by
  refine uf_2_laws.addRoundsR s07_laws (by kernel_rfl) get01_S 40 [0, 1, 9, 8] [8] [] [0, 1, 9, 8] get01_d (fun q hI => ?_) ?_
  · obtain ⟨c, b, a, i, m⟩ := q
    refine ⟨?_, ?_, get01_round c b a i m hI⟩
    · simp_all [RefsOK, get01_S, get01_c, get01_o, get01_Inv, D.refs, Obj.refs, rEnc]
    · simp_all [get01_S, get01_fin, get01_o, get01_Inv, RT.refsOK, RefsOK, D.refs, Obj.refs, rEnc]
  · intro env os b q hd_ hb
    unfold get01_d at hd_
    split at hd_
    · obtain ⟨hs, hd_⟩ := staticD_some hd_
      cases hd_
      simp only [Bool.and_eq_true, decide_eq_true_eq] at hb
      obtain ⟨rfl, h⟩ := hb
      exact ⟨⟨h.1, h.2.1, h.2.2.1, h.2.2.2.1, h.2.2.2.2, Nat.pow_pos (by omega)⟩, rfl, rfl⟩
    · cases hd_
def get1f_s (c : Bool) (b : List UInt8) (a : Int) (w : Int) : Option (Bool × D RC) := some (decide (b.length ≤ 1000000000000), .tup (.acons (.int .i64 (getP b a w).1) (.acons (.int .i64 (getP b a w).2) .anil)))
def get1f_sp : List (D RC) → Option (Bool × D RC)
  | [.sl .u8 c b, .int .i64 a, .int .i64 w] => get1f_s c b a w
  | _ => none
noncomputable def get1f_e (c : Bool) (b : List UInt8) (a : Int) (w : Int) := evF s07 uf_3 40 61 [.sl (C := RC) .u8 c b, .int .i64 a, .int .i64 w]
theorem get1f_eq (c : Bool) (b : List UInt8) (a : Int) (w : Int) : get1f_e c b a w = (let Z0 : D RC := D.int .i64 0; let Z1 : DO_ := some (D.tup (D.acons Z0 (D.acons (D.int .i64 2) .anil))); let Z2 : DO_ := some (D.tup (D.acons Z0 (D.acons (D.int .i64 50) .anil))); let Z3 : Nat := List.length b; let Z4 : Int := (↑Z3 : Int); let Z5 : Int := IntKind.wrap .i64 (w - (1 : Int)); let Z6 : Nat := Int.toNat (Z5 + (1 : Int)); bif decide (w < (1 : Int)) then Z1 else bif decide ((6 : Int) < w) then Z1 else bif decide (a < (0 : Int)) then Z2 else bif lenOK Z3 then bif decide (Z4 < a) then Z2 else bif lenOK Z3 then bif decide (IntKind.wrap .i64 (Z4 - a) < w) then Z2 else bif decide ((-1 : Int) ≤ Z5 ∧ Z5 ≤ (5 : Int) ∧ (0 : Int) ≤ a ∧ a + Z5 + (1 : Int) ≤ Z4 ∧ Z3 ≤ (1000000000000 : Nat)) then some (D.tup (D.acons (D.int .i64 (↑((0 : Nat) * (256 : Nat) ^ Z6 + leVal (List.take Z6 (List.drop a.toNat b))) : Int)) (.acons Z0 .anil))) else none else none else none) := by kernel_rfl
theorem get1f_ok (c : Bool) (b : List UInt8) (a : Int) (w : Int) (h : (decide (b.length ≤ 1000000000000)) = true) : get1f_e c b a w = some (.tup (.acons (.int .i64 (getP b a w).1) (.acons (.int .i64 (getP b a w).2) .anil))) := by
  (rw [get1f_eq]; conv => zeta)
  have hl := of_decide_eq_true h
  have hl' : lenOK b.length = true := lenOK_of (by omega)
  simp only [hl']
  by_cases hw : 1 ≤ w ∧ w ≤ 6
  · have w1 : decide (w < 1) = false := by simp; omega
    have w2 : decide (6 < w) = false := by simp; omega
    have w3 : (decide (1 ≤ w) && decide (w ≤ 6)) = true := by simp; omega
    have w4 : IntKind.i64.wrap (w - 1) = w - 1 := wrap_id (by omega) (by omega)
    simp only [w1, w2, cond_false, cond_true, getP, w3, w4]
    by_cases ha : 0 ≤ a ∧ a + w ≤ b.length
    · have a1 : decide (a < 0) = false := by simp; omega
      have a2 : decide ((b.length : Int) < a) = false := by simp; omega
      have e1 : IntKind.i64.wrap ((b.length : Int) - a) = b.length - a := wrap_id (by omega) (by omega)
      have a3 : decide ((b.length : Int) - a < w) = false := by simp; omega
      have a5 : (decide (0 ≤ a) && decide (a + w ≤ (b.length : Int))) = true := by simp; omega
      have a6 : decide (-1 ≤ w - 1 ∧ w - 1 ≤ 5 ∧ 0 ≤ a ∧ a + (w - 1) + 1 ≤ (b.length : Int) ∧ b.length ≤ 1000000000000) = true := by simp; omega
      have e2 : (w - 1 + 1).toNat = w.toNat := by omega
      simp [a1, a2, e1, a3, a5, a6, e2]
    · have a5 : (decide (0 ≤ a) && decide (a + w ≤ (b.length : Int))) = false := by simp; omega
      simp only [a5, cond_false]
      by_cases a1 : a < 0
      · simp [a1]
      · by_cases a2 : (b.length : Int) < a
        · simp [a1, a2]
        · have e1 : IntKind.i64.wrap ((b.length : Int) - a) = b.length - a := wrap_id (by omega) (by omega)
          have a3 : decide ((b.length : Int) - a < w) = true := by simp; omega
          simp [a1, a2, e1, a3]
  · have w3 : (decide (1 ≤ w) && decide (w ≤ 6)) = false := by simp; omega
    simp only [getP, w3]
    by_cases w1 : w < 1
    · simp [w1]
    · have w2 : 6 < w := by omega
      simp [w1, w2]
noncomputable def uf_4 := uf_3.addSpec 61 get1f_sp
theorem uf_4_laws : FLaws Try.prog s07 uf_4 := uf_3_laws.addEv s07_laws fun args d h => by
  unfold get1f_sp at h
  split at h
  · unfold get1f_s at h
    have h1 := congrArg Prod.fst (Option.some.inj h)
    obtain rfl : _ = d := congrArg Prod.snd (Option.some.inj h)
    exact ⟨by simp [D.refs], 40, get1f_ok _ _ _ _ h1⟩
  · cases h
open Go.Proofs
structure itemsR_St where
  c : Bool
  l : List Item
  p : Int
  i : Nat
def itemsR_c (c : Bool) (l : List Item) (p : Int) (i : Nat) : Env RC := [(0, .sl (C := RC) .item c l), (1, .int .i64 p), (4, .bool false), (5, .int .i64 (i : Int))]
def itemsR_o (c : Bool) (l : List Item) (p : Int) (i : Nat) : List (Obj RC) := []
noncomputable def itemsR_r (c : Bool) (l : List Item) (p : Int) (i : Nat) := rndO s07 uf_4 36 2 40 0 [0, 1, 4, 5] [4] [] (itemsR_c c l p i) (itemsR_o c l p i)
theorem itemsR_eq (c : Bool) (l : List Item) (p : Int) (i : Nat) : itemsR_r c l p i = (let Z0 : Int := (↑i : Int); let Z1 : Int := (↑l.length : Int); let Z2 : Item := Item.mk (0 : Int) (0 : Int) (0 : Int); let Z3 : Item := List.getD l Z0.toNat Z2; let Z4 : Int := Item.key Z3; let Z5 : RO_ := some ((X.ret, [(4, D.bool false)]), []); let Z6 : Int := IntKind.wrap .i64 (Z0 - (1 : Int)); let Z7 : RO_ := bif decide (Item.place Z3 < (1 : Int)) then Z5 else bif decide (p < Item.place Z3) then Z5 else bif decide (Item.value Z3 < (0 : Int)) then Z5 else bif decide ((255 : Int) < Item.value Z3) then Z5 else some ((X.normal, [(0, D.sl RTy.item c l), (1, D.int .i64 p), (4, D.bool false), (5, D.int .i64 (IntKind.wrap .i64 (Z0 + (1 : Int))))]), []); bif lenOK l.length then bif decide (Z0 < Z1) then bif decide ((0 : Int) ≤ Z0 ∧ Z0 < Z1) then bif decide (Z4 < (0 : Int)) then Z5 else bif decide ((24 : Int) ≤ Z4) then Z5 else bif decide ((0 : Int) < Z0) then bif decide ((0 : Int) ≤ Z6 ∧ Z6 < Z1) then bif decide (Z4 ≤ Item.key (List.getD l Z6.toNat Z2)) then Z5 else Z7 else none else Z7 else none else some ((X.exit (0 : Nat), [(4, D.bool false)]), []) else none) := by kernel_rfl
def itemsR_fin (c : Bool) (l : List Item) (p : Int) (i : Nat) : RT RC := .br (eachAt (oneIB p) twoIB l i) (.leaf (.exit 0) [(4, .bool false)] []) (.leaf .ret [(4, .bool false)] [])
def itemsR_Inv (c : Bool) (l : List Item) (p : Int) (i : Nat) : Prop := i ≤ l.length ∧ l.length ≤ 9223372036854775807
def itemsR_S : LoopR RC itemsR_St where
  k := 0
  canon q := itemsR_c q.c q.l q.p q.i
  objs q := itemsR_o q.c q.l q.p q.i
  fin q := itemsR_fin q.c q.l q.p q.i
  Inv q := itemsR_Inv q.c q.l q.p q.i
  μ q := q.l.length - q.i
theorem itemsR_round (c : Bool) (l : List Item) (p : Int) (i : Nat) (hI : itemsR_Inv c l p i) : Leaf (itemsR_r c l p i) (LedR itemsR_S ⟨c, l, p, i⟩) := by
  (rw [itemsR_eq]; conv => zeta)
  unfold itemsR_Inv at hI
  obtain ⟨h1, h2⟩ := hI
  have hlk := lenOK_of h2
  by_cases hlt : i < l.length
  · have w_succ : IntKind.i64.wrap ((i : Int) + 1) = ((i + 1 : Nat) : Int) := by rw [wrap_id (by omega) (by omega)]; simp
    have d_lt : decide ((i : Int) < l.length) = true := by simp; omega
    have d_in : decide (0 ≤ (i : Int) ∧ (i : Int) < l.length) = true := by simp; omega
    have t_nat : ((i : Int)).toNat = i := by simp
    have w_pred : IntKind.i64.wrap ((i : Int) - 1) = (i : Int) - 1 := wrap_id (by omega) (by omega)
    have t_natp : ((i : Int) - 1).toNat = i - 1 := by omega
    simp only [w_succ, d_lt, d_in, t_nat, w_pred, t_natp, cond_true]
    simp only [hlk, cond_true]
    have hst := eachAt_step (oneIB p) twoIB l i (⟨0, 0, 0⟩ : Item) hlt
    generalize l.getD i (⟨0, 0, 0⟩ : Item) = x at hst ⊢
    generalize l.getD (i - 1) (⟨0, 0, 0⟩ : Item) = y at hst ⊢
    have hgo : oneIB p x = true → (i = 0 ∨ twoIB y x = true) → Leaf (some ((X.normal, itemsR_c c l p (i + 1)), [])) (LedR itemsR_S ⟨c, l, p, i⟩) := fun a b =>
      leafR_go ⟨c, l, p, i + 1⟩ ⟨hlt, h2⟩ (by simp only [itemsR_S]; omega) (by simp only [itemsR_S, itemsR_fin, hst, a]; rcases b with b | b <;> simp [b]) rfl rfl
    have hno : ¬ (oneIB p x = true ∧ (i = 0 ∨ twoIB y x = true)) → Leaf (some ((X.ret, [(4, D.bool false)]), [])) (LedR itemsR_S ⟨c, l, p, i⟩) := fun he => leafR_ret [] (by
      have : eachAt (oneIB p) twoIB l i = false := by rw [hst]; simp only [Bool.and_eq_false_iff]; by_cases a : oneIB p x = true <;> by_cases b : i = 0 <;> simp_all
      simp [itemsR_S, itemsR_fin, this, RT.val]) rfl
    simp only [oneIB, twoIB, withinB, Bool.and_eq_true, decide_eq_true_eq] at hgo hno
    by_cases hi : i = 0
    · have d0 : decide (0 < (i : Int)) = false := by simp; omega
      simp only [d0, cond_false]
      repeat' (first | (refine leaf_cond.2 ⟨fun hc_ => ?_, fun hc_ => ?_⟩ <;> simp only [decide_eq_true_eq, decide_eq_false_iff_not, beq_iff_eq, beq_eq_false_iff_ne, bne_iff_ne, ne_eq, Bool.not_eq_true, Bool.not_eq_false, bne_eq_false_iff_eq, decide_eq_decide, Bool.true_eq_false, Bool.false_eq_true] at hc_))
      all_goals first | (exfalso; omega) | exact hno (by omega) | (apply hgo <;> omega)
    · have d_pos : decide (0 < (i : Int)) = true := by simp; omega
      have d_inp : decide (0 ≤ (i : Int) - 1 ∧ (i : Int) - 1 < l.length) = true := by simp; omega
      simp only [d_pos, d_inp, cond_true]
      repeat' (first | (refine leaf_cond.2 ⟨fun hc_ => ?_, fun hc_ => ?_⟩ <;> simp only [decide_eq_true_eq, decide_eq_false_iff_not, beq_iff_eq, beq_eq_false_iff_ne, bne_iff_ne, ne_eq, Bool.not_eq_true, Bool.not_eq_false, bne_eq_false_iff_eq, decide_eq_decide, Bool.true_eq_false, Bool.false_eq_true] at hc_))
      all_goals first | (exfalso; omega) | exact hno (by omega) | (apply hgo <;> omega)
  · have hi : i = l.length := by omega
    have c1 : decide ((i : Int) < l.length) = false := by simp; omega
    simp only [hlk, c1, cond_true, cond_false]
    exact leafR_exit [] (by simp [itemsR_S, itemsR_fin, hi, eachAt, eachB, RT.val]) rfl
def itemsR_d (env : Env RC) (os : List (Obj RC)) : Option (Bool × itemsR_St) := match env, os with
  | [(0, .sl .item c l), (1, .int .i64 p), (4, .bool false), (5, .int .i64 x0)], [] => staticD (true) (decide (x0 = 0) && decide (l.length ≤ 9223372036854775807), ⟨c, l, p, 0⟩)
  | _, _ => none
noncomputable def ug_1 := uf_4.addLoop 36 2 (sumR s07 [] [0, 1, 4, 5] itemsR_S itemsR_d)
theorem ug_1_laws : FLaws Try.prog s07 ug_1 := by
  refine uf_4_laws.addRoundsR s07_laws (by kernel_rfl) itemsR_S 40 [0, 1, 4, 5] [4] [] [0, 1, 4, 5] itemsR_d (fun q hI => ?_) ?_
  · obtain ⟨c, l, p, i⟩ := q
    refine ⟨?_, ?_, itemsR_round c l p i hI⟩
    · simp_all [RefsOK, itemsR_S, itemsR_c, itemsR_o, itemsR_Inv, D.refs, Obj.refs, rEnc]
    · simp_all [itemsR_S, itemsR_fin, itemsR_o, itemsR_Inv, RT.refsOK, RefsOK, D.refs, Obj.refs, rEnc]
  · intro env os b q hd_ hb
    unfold itemsR_d at hd_
    split at hd_
    · obtain ⟨hs, hd_⟩ := staticD_some hd_
      cases hd_
      simp only [Bool.and_eq_true, decide_eq_true_eq] at hb
      obtain ⟨rfl, hl⟩ := hb
      exact ⟨⟨Nat.zero_le _, hl⟩, rfl, rfl⟩
    · cases hd_
structure linesR_St where
  k : Bool
  l : List Line
  p : Int
  c : Int
  i : Nat
def linesR_c (k : Bool) (l : List Line) (p : Int) (c : Int) (i : Nat) : Env RC := [(0, .sl (C := RC) .line k l), (1, .int .i64 p), (2, .int .i64 c), (6, .bool false), (7, .int .i64 (i : Int))]
def linesR_o (k : Bool) (l : List Line) (p : Int) (c : Int) (i : Nat) : List (Obj RC) := []
noncomputable def linesR_r (k : Bool) (l : List Line) (p : Int) (c : Int) (i : Nat) := rndO s07 ug_1 37 4 60 0 [0, 1, 2, 6, 7] [6] [] (linesR_c k l p c i) (linesR_o k l p c i)
theorem linesR_eq (k : Bool) (l : List Line) (p : Int) (c : Int) (i : Nat) : linesR_r k l p c i = (let Z0 : Int := (↑i : Int); let Z1 : Int := (↑l.length : Int); let Z2 : Line := Line.mk (0 : Int) (0 : Int) (0 : Int) (0 : Int) (0 : Int); let Z3 : Line := List.getD l Z0.toNat Z2; let Z4 : Int := Line.offset Z3; let Z5 : RO_ := some ((X.ret, [(6, D.bool false)]), []); let Z6 : Int := Line.place Z3; let Z7 : Int := IntKind.wrap .i64 (Z0 - (1 : Int)); let Z8 : Bool := decide ((0 : Int) ≤ Z7 ∧ Z7 < Z1); let Z9 : Line := List.getD l Z7.toNat Z2; let Z10 : RO_ := some ((X.normal, [(0, D.sl RTy.line k l), (1, D.int .i64 p), (2, D.int .i64 c), (6, D.bool false), (7, D.int .i64 (IntKind.wrap .i64 (Z0 + (1 : Int))))]), []); let Z11 : RO_ := bif decide ((0 : Int) < Z0) then bif Z8 then bif Z4 != IntKind.wrap .i64 (Line.offset Z9 + (1 : Int)) then Z5 else bif Z8 then bif decide (Z6 < Line.place Z9) then Z5 else bif Z8 then bif Z6 == Line.place Z9 then bif Z8 then bif decide (Line.j Z3 ≤ Line.j Z9) then Z5 else Z10 else none else Z10 else none else none else none else Z10; bif lenOK l.length then bif decide (Z0 < Z1) then bif decide ((0 : Int) ≤ Z0 ∧ Z0 < Z1) then bif decide (Z4 < (0 : Int)) then Z5 else bif decide ((4194304 : Int) ≤ Z4) then Z5 else bif decide (Z6 < (1 : Int)) then Z5 else bif decide (p < Z6) then Z5 else bif decide (Line.j Z3 < (0 : Int)) then Z5 else bif decide ((4 : Int) ≤ Line.j Z3) then Z5 else bif decide (Line.key Z3 < (0 : Int)) then Z5 else bif decide ((8 : Int) ≤ Line.key Z3) then Z5 else bif decide (Line.value Z3 < (0 : Int)) then Z5 else bif decide ((255 : Int) < Line.value Z3) then Z5 else bif Z0 == (0 : Int) then bif decide (Z6 ≤ c) then Z5 else Z11 else Z11 else none else some ((X.exit (0 : Nat), [(6, D.bool false)]), []) else none) := by kernel_rfl
def linesR_fin (k : Bool) (l : List Line) (p : Int) (c : Int) (i : Nat) : RT RC := .br (linesAt p c l i) (.leaf (.exit 0) [(6, .bool false)] []) (.leaf .ret [(6, .bool false)] [])
def linesR_Inv (k : Bool) (l : List Line) (p : Int) (c : Int) (i : Nat) : Prop := i ≤ l.length ∧ l.length ≤ 9223372036854775807
def linesR_S : LoopR RC linesR_St where
  k := 0
  canon q := linesR_c q.k q.l q.p q.c q.i
  objs q := linesR_o q.k q.l q.p q.c q.i
  fin q := linesR_fin q.k q.l q.p q.c q.i
  Inv q := linesR_Inv q.k q.l q.p q.c q.i
  μ q := q.l.length - q.i
theorem linesR_round (k : Bool) (l : List Line) (p : Int) (c : Int) (i : Nat) (hI : linesR_Inv k l p c i) : Leaf (linesR_r k l p c i) (LedR linesR_S ⟨k, l, p, c, i⟩) := by
  (rw [linesR_eq]; conv => zeta)
  unfold linesR_Inv at hI
  obtain ⟨h1, h2⟩ := hI
  have hlk := lenOK_of h2
  by_cases hlt : i < l.length
  · have w_succ : IntKind.i64.wrap ((i : Int) + 1) = ((i + 1 : Nat) : Int) := by rw [wrap_id (by omega) (by omega)]; simp
    have d_lt : decide ((i : Int) < l.length) = true := by simp; omega
    have d_in : decide (0 ≤ (i : Int) ∧ (i : Int) < l.length) = true := by simp; omega
    have t_nat : ((i : Int)).toNat = i := by simp
    have w_pred : IntKind.i64.wrap ((i : Int) - 1) = (i : Int) - 1 := wrap_id (by omega) (by omega)
    have t_natp : ((i : Int) - 1).toNat = i - 1 := by omega
    simp only [w_succ, d_lt, d_in, t_nat, w_pred, t_natp, cond_true]
    simp only [hlk, cond_true]
    have hst := eachAt_step (oneLB p) twoLB l i (⟨0, 0, 0, 0, 0⟩ : Line) hlt
    have hne : l.isEmpty = false := by cases l <;> simp at hlt ⊢
    have hz : linesAt p c l i = ((decide (i ≠ 0) || decide (c < (l.getD i ⟨0, 0, 0, 0, 0⟩).place)) && eachAt (oneLB p) twoLB l i) := by
      unfold linesAt
      by_cases hi : i = 0
      · subst hi; simp [hne]
      · simp [hi]
    have hn : linesAt p c l (i + 1) = eachAt (oneLB p) twoLB l (i + 1) := by simp [linesAt]
    rw [hst] at hz
    generalize l.getD i (⟨0, 0, 0, 0, 0⟩ : Line) = x at hz ⊢
    generalize l.getD (i - 1) (⟨0, 0, 0, 0, 0⟩ : Line) = y at hz ⊢
    have hgo : oneLB p x = true → (i ≠ 0 ∨ c < x.place) → (i = 0 ∨ twoLB y x = true) → Leaf (some ((X.normal, linesR_c k l p c (i + 1)), [])) (LedR linesR_S ⟨k, l, p, c, i⟩) := fun a b d =>
      leafR_go ⟨k, l, p, c, i + 1⟩ ⟨hlt, h2⟩ (by simp only [linesR_S]; omega) (by
        have e1 : (decide (i ≠ 0) || decide (c < x.place)) = true := by simpa using b
        have e2 : (decide (i = 0) || twoLB y x) = true := by simpa using d
        simp only [linesR_S, linesR_fin, hz, hn, a, e1, e2, Bool.true_and]) rfl rfl
    have hno : ¬ (oneLB p x = true ∧ (i ≠ 0 ∨ c < x.place) ∧ (i = 0 ∨ twoLB y x = true)) → Leaf (some ((X.ret, [(6, D.bool false)]), [])) (LedR linesR_S ⟨k, l, p, c, i⟩) := fun he => leafR_ret [] (by
      have : linesAt p c l i = false := by
        rw [hz]
        cases hq : ((decide (i ≠ 0) || decide (c < x.place)) && (oneLB p x && (decide (i = 0) || twoLB y x) && eachAt (oneLB p) twoLB l (i + 1))) with
        | false => rfl
        | true =>
          exfalso
          simp only [Bool.and_eq_true, Bool.or_eq_true, decide_eq_true_eq] at hq
          exact he ⟨hq.2.1.1, hq.1, hq.2.1.2⟩
      simp [linesR_S, linesR_fin, this, RT.val]) rfl
    simp only [oneLB, twoLB, withinB, Bool.and_eq_true, Bool.or_eq_true, decide_eq_true_eq, beq_iff_eq] at hgo hno
    by_cases hi : i = 0
    · have d0 : decide (0 < (i : Int)) = false := by simp; omega
      simp only [d0, cond_false]
      repeat' (first | (refine leaf_cond.2 ⟨fun hc_ => ?_, fun hc_ => ?_⟩ <;> simp only [decide_eq_true_eq, decide_eq_false_iff_not, beq_iff_eq, beq_eq_false_iff_ne, bne_iff_ne, ne_eq, Bool.not_eq_true, Bool.not_eq_false, bne_eq_false_iff_eq, decide_eq_decide, Bool.true_eq_false, Bool.false_eq_true] at hc_))
      all_goals first | (exfalso; omega) | exact hno (by omega) | (apply hgo <;> omega)
    · have d_pos : decide (0 < (i : Int)) = true := by simp; omega
      have d_inp : decide (0 ≤ (i : Int) - 1 ∧ (i : Int) - 1 < l.length) = true := by simp; omega
      simp only [d_pos, d_inp, cond_true]
      have i0 : ((i : Int) == 0) = false := by simp; omega
      simp only [i0, cond_false]
      generalize IntKind.i64.wrap (y.offset + 1) = z at hgo hno ⊢
      repeat' (first | (refine leaf_cond.2 ⟨fun hc_ => ?_, fun hc_ => ?_⟩ <;> simp only [decide_eq_true_eq, decide_eq_false_iff_not, beq_iff_eq, beq_eq_false_iff_ne, bne_iff_ne, ne_eq, Bool.not_eq_true, Bool.not_eq_false, bne_eq_false_iff_eq, decide_eq_decide, Bool.true_eq_false, Bool.false_eq_true] at hc_))
      all_goals first | (exfalso; omega) | exact hno (by omega) | (apply hgo <;> omega)
  · have hi : i = l.length := by omega
    have c1 : decide ((i : Int) < l.length) = false := by simp; omega
    simp only [hlk, c1, cond_true, cond_false]
    have hq : linesAt p c l i = true := by
      unfold linesAt
      rw [eachAt_end _ _ _ _ (by omega)]
      cases l with
      | nil => simp
      | cons _ _ => simp at hi ⊢; left; omega
    exact leafR_exit [] (by simp [linesR_S, linesR_fin, hq, RT.val]) rfl
def linesR_d (env : Env RC) (os : List (Obj RC)) : Option (Bool × linesR_St) := match env, os with
  | [(0, .sl .line k l), (1, .int .i64 p), (2, .int .i64 c), (6, .bool false), (7, .int .i64 x0)], [] => staticD (true) (decide (x0 = 0) && decide (l.length ≤ 9223372036854775807), ⟨k, l, p, c, 0⟩)
  | _, _ => none
noncomputable def ug_2 := ug_1.addLoop 37 4 (sumR s07 [] [0, 1, 2, 6, 7] linesR_S linesR_d)
theorem ug_2_laws : FLaws Try.prog s07 ug_2 := by
  refine ug_1_laws.addRoundsR s07_laws (by kernel_rfl) linesR_S 60 [0, 1, 2, 6, 7] [6] [] [0, 1, 2, 6, 7] linesR_d (fun q hI => ?_) ?_
  · obtain ⟨k, l, p, c, i⟩ := q
    refine ⟨?_, ?_, linesR_round k l p c i hI⟩
    · simp_all [RefsOK, linesR_S, linesR_c, linesR_o, linesR_Inv, D.refs, Obj.refs, rEnc]
    · simp_all [linesR_S, linesR_fin, linesR_o, linesR_Inv, RT.refsOK, RefsOK, D.refs, Obj.refs, rEnc]
  · intro env os b q hd_ hb
    unfold linesR_d at hd_
    split at hd_
    · obtain ⟨hs, hd_⟩ := staticD_some hd_
      cases hd_
      simp only [Bool.and_eq_true, decide_eq_true_eq] at hb
      obtain ⟨rfl, hl⟩ := hb
      exact ⟨⟨Nat.zero_le _, hl⟩, rfl, rfl⟩
    · cases hd_
def linesRf_s (k : Bool) (l : List Line) (p : Int) (c : Int) : Option (Bool × D RC) := some (lenOK l.length, .bool (partOK p c l))
def linesRf_sp : List (D RC) → Option (Bool × D RC)
  | [.sl .line k l, .int .i64 p, .int .i64 c] => linesRf_s k l p c
  | _ => none
noncomputable def linesRf_e (k : Bool) (l : List Line) (p : Int) (c : Int) := evF s07 ug_2 40 37 [.sl (C := RC) .line k l, .int .i64 p, .int .i64 c]
theorem linesRf_eq (k : Bool) (l : List Line) (p : Int) (c : Int) : linesRf_e k l p c = (let Z0 : Nat := List.length l; let Z1 : DO_ := some (D.bool false); bif lenOK Z0 then bif decide ((16 : Int) < (↑Z0 : Int)) then Z1 else bif decide (c < (0 : Int)) then Z1 else bif decide (p < c) then Z1 else bif decide (Z0 ≤ (9223372036854775807 : Nat)) then bif linesAt p c l (0 : Nat) then some (D.bool true) else Z1 else none else none) := by kernel_rfl
theorem linesRf_ok (k : Bool) (l : List Line) (p : Int) (c : Int) (h : (lenOK l.length) = true) : linesRf_e k l p c = some (.bool (partOK p c l)) := by
  (rw [linesRf_eq]; conv => zeta)
  have h2 : l.length ≤ 9223372036854775807 := lenOK_le h
  rw [partOK_eq, h]
  by_cases h4 : l.length ≤ 16
  · have a1 : ¬ (16 : Int) < l.length := by omega
    by_cases c0 : c < 0
    · have : ¬ 0 ≤ c := by omega
      simp [h4, h2, a1, c0, this]
    · have c0' : 0 ≤ c := by omega
      by_cases cp : p < c
      · have : ¬ c ≤ p := by omega
        simp [h4, h2, a1, c0, c0', cp, this]
      · have cp' : c ≤ p := by omega
        simp [h4, h2, a1, c0, c0', cp, cp']
        cases linesAt p c l 0 <;> rfl
  · have : (16 : Int) < l.length := by omega
    simp [h4, this]
noncomputable def ug_3 := ug_2.addSpec 37 linesRf_sp
theorem ug_3_laws : FLaws Try.prog s07 ug_3 := ug_2_laws.addEv s07_laws fun args d h => by
  unfold linesRf_sp at h
  split at h
  · unfold linesRf_s at h
    have h1 := congrArg Prod.fst (Option.some.inj h)
    obtain rfl : _ = d := congrArg Prod.snd (Option.some.inj h)
    exact ⟨by simp [D.refs], 40, linesRf_ok _ _ _ _ h1⟩
  · cases h
def standsR_s (p : Int) (ci : Bool) (items : List Item) (k0 : Bool) (k1 : Bool) (k2 : Bool) (l0 : List Line) (l1 : List Line) (l2 : List Line) (c0 : Int) (c1 : Int) (c2 : Int) : Option (Bool × D RC) := some (decide (items.length ≤ 9223372036854775807 ∧ l0.length ≤ 9223372036854775807 ∧ l1.length ≤ 9223372036854775807 ∧ l2.length ≤ 9223372036854775807), .bool (standsOK ⟨p, items, l0, l1, l2, c0, c1, c2⟩))
def standsR_sp : List (D RC) → Option (Bool × D RC)
  | [.acons (.int .i64 p) (.acons (.sl .item ci items) (.acons (.acons (.sl .line k0 l0) (.acons (.sl .line k1 l1) (.acons (.sl .line k2 l2) .anil))) (.acons (.arr .int 3 [c0, c1, c2]) .anil)))] => standsR_s p ci items k0 k1 k2 l0 l1 l2 c0 c1 c2
  | _ => none
noncomputable def standsR_e (p : Int) (ci : Bool) (items : List Item) (k0 : Bool) (k1 : Bool) (k2 : Bool) (l0 : List Line) (l1 : List Line) (l2 : List Line) (c0 : Int) (c1 : Int) (c2 : Int) := evF s07 ug_3 40 19 [.acons (.int .i64 p) (.acons (.sl (C := RC) .item ci items) (.acons (.acons (.sl (C := RC) .line k0 l0) (.acons (.sl (C := RC) .line k1 l1) (.acons (.sl (C := RC) .line k2 l2) .anil))) (.acons (.arr (C := RC) .int 3 [c0, c1, c2]) .anil)))]
theorem standsR_eq (p : Int) (ci : Bool) (items : List Item) (k0 : Bool) (k1 : Bool) (k2 : Bool) (l0 : List Line) (l1 : List Line) (l2 : List Line) (c0 : Int) (c1 : Int) (c2 : Int) : standsR_e p ci items k0 k1 k2 l0 l1 l2 c0 c1 c2 = (let Z0 : DO_ := some (D.bool false); bif decide (p < (0 : Int)) then Z0 else bif decide ((1048575 : Int) < p) then Z0 else bif decide (List.length items ≤ (9223372036854775807 : Nat)) then bif eachAt (oneIB p) twoIB items (0 : Nat) then bif lenOK l0.length then bif !partOK p c0 l0 then Z0 else bif lenOK l1.length then bif !partOK p c1 l1 then Z0 else bif lenOK l2.length then bif !partOK p c2 l2 then Z0 else some (D.bool true) else none else none else none else Z0 else none) := by kernel_rfl
theorem standsR_ok (p : Int) (ci : Bool) (items : List Item) (k0 : Bool) (k1 : Bool) (k2 : Bool) (l0 : List Line) (l1 : List Line) (l2 : List Line) (c0 : Int) (c1 : Int) (c2 : Int) (h : (decide (items.length ≤ 9223372036854775807 ∧ l0.length ≤ 9223372036854775807 ∧ l1.length ≤ 9223372036854775807 ∧ l2.length ≤ 9223372036854775807)) = true) : standsR_e p ci items k0 k1 k2 l0 l1 l2 c0 c1 c2 = some (.bool (standsOK ⟨p, items, l0, l1, l2, c0, c1, c2⟩)) := by
  (rw [standsR_eq]; conv => zeta)
  obtain ⟨h, h0, h1, h2⟩ := of_decide_eq_true h
  simp only [standsOK, lenOK_of h, lenOK_of h0, lenOK_of h1, lenOK_of h2, h, decide_true, cond_true]
  have e1 : decide (0 ≤ p) = !decide (p < 0) := by by_cases h : p < 0 <;> simp [h] <;> omega
  have e2 : decide (p ≤ 1048575) = !decide (1048575 < p) := by by_cases h : 1048575 < p <;> simp [h] <;> omega
  simp only [withinB, e1, e2]
  generalize decide (p < 0) = x1
  generalize decide (1048575 < p) = x2
  generalize eachAt (oneIB p) twoIB items 0 = x3
  generalize partOK p c0 l0 = x4
  generalize partOK p c1 l1 = x5
  generalize partOK p c2 l2 = x6
  cases x1 <;> cases x2 <;> cases x3 <;> cases x4 <;> cases x5 <;> cases x6 <;> rfl
noncomputable def ug_4 := ug_3.addSpec 19 standsR_sp
theorem ug_4_laws : FLaws Try.prog s07 ug_4 := ug_3_laws.addEv s07_laws fun args d h => by
  unfold standsR_sp at h
  split at h
  · unfold standsR_s at h
    have h1 := congrArg Prod.fst (Option.some.inj h)
    obtain rfl : _ = d := congrArg Prod.snd (Option.some.inj h)
    exact ⟨by simp [D.refs], 40, standsR_ok _ _ _ _ _ _ _ _ _ _ _ _ h1⟩
  · cases h
open Go.Proofs
structure sameLinesR_St where
  c : Bool
  l : List Line
  d : Bool
  m : List Line
  i : Nat
def sameLinesR_c (c : Bool) (l : List Line) (d : Bool) (m : List Line) (i : Nat) : Env RC := [(0, .sl (C := RC) .line c l), (1, .sl (C := RC) .line d m), (4, .bool false), (5, .int .i64 (i : Int))]
def sameLinesR_o (c : Bool) (l : List Line) (d : Bool) (m : List Line) (i : Nat) : List (Obj RC) := []
noncomputable def sameLinesR_r (c : Bool) (l : List Line) (d : Bool) (m : List Line) (i : Nat) := rndO s07 ug_4 33 4 40 0 [0, 1, 4, 5] [4] [] (sameLinesR_c c l d m i) (sameLinesR_o c l d m i)
theorem sameLinesR_eq (c : Bool) (l : List Line) (d : Bool) (m : List Line) (i : Nat) : sameLinesR_r c l d m i = (let Z0 : Int := (↑i : Int); let Z1 : Line := Line.mk (0 : Int) (0 : Int) (0 : Int) (0 : Int) (0 : Int); let Z2 : Line := List.getD l Z0.toNat Z1; let Z3 : Line := List.getD m Z0.toNat Z1; bif lenOK l.length then bif decide (Z0 < (↑l.length : Int)) then bif decide ((0 : Int) ≤ Z0 ∧ Z0 < (↑l.length : Int)) then bif decide ((0 : Int) ≤ Z0 ∧ Z0 < (↑m.length : Int)) then bif !(Line.offset Z2 == Line.offset Z3 && (Line.place Z2 == Line.place Z3 && (Line.j Z2 == Line.j Z3 && (Line.key Z2 == Line.key Z3 && (Line.value Z2 == Line.value Z3 && true))))) then some ((X.ret, [(4, D.bool false)]), []) else some ((X.normal, [(0, D.sl RTy.line c l), (1, D.sl RTy.line d m), (4, D.bool false), (5, D.int .i64 (IntKind.wrap .i64 (Z0 + (1 : Int))))]), []) else none else none else some ((X.exit (0 : Nat), [(4, D.bool false)]), []) else none) := by kernel_rfl
def sameLinesR_fin (c : Bool) (l : List Line) (d : Bool) (m : List Line) (i : Nat) : RT RC := .br (decide (l.drop i = m.drop i)) (.leaf (.exit 0) [(4, .bool false)] []) (.leaf .ret [(4, .bool false)] [])
def sameLinesR_Inv (c : Bool) (l : List Line) (d : Bool) (m : List Line) (i : Nat) : Prop := i ≤ l.length ∧ l.length ≤ 9223372036854775807 ∧ l.length = m.length
def sameLinesR_S : LoopR RC sameLinesR_St where
  k := 0
  canon q := sameLinesR_c q.c q.l q.d q.m q.i
  objs q := sameLinesR_o q.c q.l q.d q.m q.i
  fin q := sameLinesR_fin q.c q.l q.d q.m q.i
  Inv q := sameLinesR_Inv q.c q.l q.d q.m q.i
  μ q := q.l.length - q.i
theorem sameLinesR_round (c : Bool) (l : List Line) (d : Bool) (m : List Line) (i : Nat) (hI : sameLinesR_Inv c l d m i) : Leaf (sameLinesR_r c l d m i) (LedR sameLinesR_S ⟨c, l, d, m, i⟩) := by
  (rw [sameLinesR_eq]; conv => zeta)
  unfold sameLinesR_Inv at hI
  obtain ⟨h1, h2, h3⟩ := hI
  have hlk := lenOK_of h2
  by_cases hlt : i < l.length
  · have w_succ : IntKind.i64.wrap ((i : Int) + 1) = ((i + 1 : Nat) : Int) := by rw [wrap_id (by omega) (by omega)]; simp
    have d_lt : decide ((i : Int) < l.length) = true := by simp; omega
    have d_in : decide (0 ≤ (i : Int) ∧ (i : Int) < l.length) = true := by simp; omega
    have t_nat : ((i : Int)).toNat = i := by simp
    simp only [w_succ, d_lt, d_in, t_nat, cond_true]
    have hlt' : i < m.length := by omega
    have d_in' : decide (0 ≤ (i : Int) ∧ (i : Int) < m.length) = true := by simp; omega
    have hst := drops_step l m i (⟨0, 0, 0, 0, 0⟩ : Line) hlt h3
    simp only [d_in', cond_true, hlk, eqLine]
    generalize l.getD i (⟨0, 0, 0, 0, 0⟩ : Line) = x at hst ⊢
    generalize m.getD i (⟨0, 0, 0, 0, 0⟩ : Line) = y at hst ⊢
    by_cases hxy : x = y
    · simp only [hxy, decide_true, Bool.not_true, cond_false]
      exact leafR_go ⟨c, l, d, m, i + 1⟩ ⟨hlt, h2, h3⟩ (by simp only [sameLinesR_S]; omega) (by simp only [sameLinesR_S, sameLinesR_fin, hst, hxy, decide_true, Bool.true_and]) rfl rfl
    · simp only [hxy, decide_false, Bool.not_false, cond_true]
      exact leafR_ret [] (by simp [sameLinesR_S, sameLinesR_fin, hst, hxy, RT.val]) rfl
  · have hi : i = l.length := by omega
    have c1 : decide ((i : Int) < l.length) = false := by simp; omega
    simp only [hlk, cond_true, c1, cond_false]
    exact leafR_exit [] (by simp only [sameLinesR_S, sameLinesR_fin, drops_end l m i (by omega) (by omega), RT.val, cond_true]) rfl
def sameLinesR_d (env : Env RC) (os : List (Obj RC)) : Option (Bool × sameLinesR_St) := match env, os with
  | [(0, .sl .line c l), (1, .sl .line d m), (4, .bool false), (5, .int .i64 x0)], [] => staticD (true) (decide (x0 = 0) && decide (l.length ≤ 9223372036854775807 ∧ l.length = m.length), ⟨c, l, d, m, 0⟩)
  | _, _ => none
noncomputable def uh_1 := ug_4.addLoop 33 4 (sumR s07 [] [0, 1, 4, 5] sameLinesR_S sameLinesR_d)
theorem uh_1_laws : FLaws Try.prog s07 uh_1 := by
  refine ug_4_laws.addRoundsR s07_laws (by kernel_rfl) sameLinesR_S 40 [0, 1, 4, 5] [4] [] [0, 1, 4, 5] sameLinesR_d (fun q hI => ?_) ?_
  · obtain ⟨c, l, d, m, i⟩ := q
    refine ⟨?_, ?_, sameLinesR_round c l d m i hI⟩
    · simp_all [RefsOK, sameLinesR_S, sameLinesR_c, sameLinesR_o, sameLinesR_Inv, D.refs, Obj.refs, rEnc]
    · simp_all [sameLinesR_S, sameLinesR_fin, sameLinesR_o, sameLinesR_Inv, RT.refsOK, RefsOK, D.refs, Obj.refs, rEnc]
  · intro env os b q hd_ hb
    unfold sameLinesR_d at hd_
    split at hd_
    · obtain ⟨hs, hd_⟩ := staticD_some hd_
      cases hd_
      simp only [Bool.and_eq_true, decide_eq_true_eq] at hb
      obtain ⟨rfl, hl⟩ := hb
      exact ⟨⟨Nat.zero_le _, hl.1, hl.2⟩, rfl, rfl⟩
    · cases hd_
def sameLinesRf_s (c : Bool) (l : List Line) (d : Bool) (m : List Line) : Option (Bool × D RC) := some (lenOK l.length && lenOK m.length, .bool (decide (l = m)))
def sameLinesRf_sp : List (D RC) → Option (Bool × D RC)
  | [.sl .line c l, .sl .line d m] => sameLinesRf_s c l d m
  | _ => none
noncomputable def sameLinesRf_e (c : Bool) (l : List Line) (d : Bool) (m : List Line) := evF s07 uh_1 40 33 [.sl (C := RC) .line c l, .sl (C := RC) .line d m]
theorem sameLinesRf_eq (c : Bool) (l : List Line) (d : Bool) (m : List Line) : sameLinesRf_e c l d m = (let Z0 : Nat := List.length l; let Z1 : Nat := List.length m; bif lenOK Z0 then bif lenOK Z1 then bif (↑Z0 : Int) != (↑Z1 : Int) then some (D.bool false) else bif decide (Z0 ≤ (9223372036854775807 : Nat) ∧ Z0 = Z1) then bif decide (List.drop (0 : Nat) l = List.drop (0 : Nat) m) then some (D.bool true) else some (D.bool false) else none else none else none) := by kernel_rfl
theorem sameLinesRf_ok (c : Bool) (l : List Line) (d : Bool) (m : List Line) (h : (lenOK l.length && lenOK m.length) = true) : sameLinesRf_e c l d m = some (.bool (decide (l = m))) := by
  (rw [sameLinesRf_eq]; conv => zeta)
  simp only [Bool.and_eq_true] at h
  have h1 : l.length ≤ 9223372036854775807 := lenOK_le h.1
  simp only [h.1, h.2, cond_true]
  by_cases hl : l.length = m.length
  · have e1 : ((l.length : Int) != (m.length : Int)) = false := by simp [hl]
    have e2 : (l.length ≤ 9223372036854775807 ∧ l.length = m.length) := ⟨h1, hl⟩
    rw [e1, decide_eq_true e2]
    simp only [cond_true, cond_false, List.drop_zero]
    cases decide (l = m) <;> rfl
  · have e1 : ((l.length : Int) != (m.length : Int)) = true := by simp; omega
    have : ¬ l = m := fun e => hl (by rw [e])
    simp [e1, this]
noncomputable def uh_2 := uh_1.addSpec 33 sameLinesRf_sp
theorem uh_2_laws : FLaws Try.prog s07 uh_2 := uh_1_laws.addEv s07_laws fun args d h => by
  unfold sameLinesRf_sp at h
  split at h
  · unfold sameLinesRf_s at h
    have h1 := congrArg Prod.fst (Option.some.inj h)
    obtain rfl : _ = d := congrArg Prod.snd (Option.some.inj h)
    exact ⟨by simp [D.refs], 40, sameLinesRf_ok _ _ _ _ h1⟩
  · cases h
structure sameStRl_St where
  p : Int
  ci : Bool
  items : List Item
  k0 : Bool
  k1 : Bool
  k2 : Bool
  l0 : List Line
  l1 : List Line
  l2 : List Line
  c0 : Int
  c1 : Int
  c2 : Int
  q : Int
  di : Bool
  jtems : List Item
  j0 : Bool
  j1 : Bool
  j2 : Bool
  m0 : List Line
  m1 : List Line
  m2 : List Line
  d0 : Int
  d1 : Int
  d2 : Int
  i : Nat
def sameStRl_c (p : Int) (ci : Bool) (items : List Item) (k0 : Bool) (k1 : Bool) (k2 : Bool) (l0 : List Line) (l1 : List Line) (l2 : List Line) (c0 : Int) (c1 : Int) (c2 : Int) (q : Int) (di : Bool) (jtems : List Item) (j0 : Bool) (j1 : Bool) (j2 : Bool) (m0 : List Line) (m1 : List Line) (m2 : List Line) (d0 : Int) (d1 : Int) (d2 : Int) (i : Nat) : Env RC := [(2, .ptr 0 []), (3, .ptr 1 []), (4, .bool false), (5, .int .i64 (i : Int))]
def sameStRl_o (p : Int) (ci : Bool) (items : List Item) (k0 : Bool) (k1 : Bool) (k2 : Bool) (l0 : List Line) (l1 : List Line) (l2 : List Line) (c0 : Int) (c1 : Int) (c2 : Int) (q : Int) (di : Bool) (jtems : List Item) (j0 : Bool) (j1 : Bool) (j2 : Bool) (m0 : List Line) (m1 : List Line) (m2 : List Line) (d0 : Int) (d1 : Int) (d2 : Int) (i : Nat) : List (Obj RC) := [.var 30 (.acons (.int .i64 p) (.acons (.sl (C := RC) .item ci items) (.acons (.acons (.sl (C := RC) .line k0 l0) (.acons (.sl (C := RC) .line k1 l1) (.acons (.sl (C := RC) .line k2 l2) .anil))) (.acons (.arr (C := RC) .int 3 [c0, c1, c2]) .anil)))), .var 30 (.acons (.int .i64 q) (.acons (.sl (C := RC) .item di jtems) (.acons (.acons (.sl (C := RC) .line j0 m0) (.acons (.sl (C := RC) .line j1 m1) (.acons (.sl (C := RC) .line j2 m2) .anil))) (.acons (.arr (C := RC) .int 3 [d0, d1, d2]) .anil))))]
noncomputable def sameStRl_r (p : Int) (ci : Bool) (items : List Item) (k0 : Bool) (k1 : Bool) (k2 : Bool) (l0 : List Line) (l1 : List Line) (l2 : List Line) (c0 : Int) (c1 : Int) (c2 : Int) (q : Int) (di : Bool) (jtems : List Item) (j0 : Bool) (j1 : Bool) (j2 : Bool) (m0 : List Line) (m1 : List Line) (m2 : List Line) (d0 : Int) (d1 : Int) (d2 : Int) (i : Nat) := rndO s07 uh_2 14 4 40 2 [2, 3, 4, 5] [4] [.slot 2 0, .slot 3 0] (sameStRl_c p ci items k0 k1 k2 l0 l1 l2 c0 c1 c2 q di jtems j0 j1 j2 m0 m1 m2 d0 d1 d2 i) (sameStRl_o p ci items k0 k1 k2 l0 l1 l2 c0 c1 c2 q di jtems j0 j1 j2 m0 m1 m2 d0 d1 d2 i)
theorem sameStRl_eq (p : Int) (ci : Bool) (items : List Item) (k0 : Bool) (k1 : Bool) (k2 : Bool) (l0 : List Line) (l1 : List Line) (l2 : List Line) (c0 : Int) (c1 : Int) (c2 : Int) (q : Int) (di : Bool) (jtems : List Item) (j0 : Bool) (j1 : Bool) (j2 : Bool) (m0 : List Line) (m1 : List Line) (m2 : List Line) (d0 : Int) (d1 : Int) (d2 : Int) (i : Nat) : sameStRl_r p ci items k0 k1 k2 l0 l1 l2 c0 c1 c2 q di jtems j0 j1 j2 m0 m1 m2 d0 d1 d2 i = (let Z0 : Int := (↑i : Int); let Z1 : Item := Item.mk (0 : Int) (0 : Int) (0 : Int); let Z2 : Item := List.getD items Z0.toNat Z1; let Z3 : Item := List.getD jtems Z0.toNat Z1; let Z4 : List (Option (Obj RC)) := [some (Obj.var 30 (.acons (D.int .i64 p) (.acons (D.sl RTy.item ci items) (.acons (D.acons (D.sl RTy.line k0 l0) (.acons (D.sl RTy.line k1 l1) (.acons (D.sl RTy.line k2 l2) .anil))) (.acons (D.arr RTy.int (3 : Nat) [c0, c1, c2]) .anil))))), some (Obj.var 30 (.acons (D.int .i64 q) (.acons (D.sl RTy.item di jtems) (.acons (D.acons (D.sl RTy.line j0 m0) (.acons (D.sl RTy.line j1 m1) (.acons (D.sl RTy.line j2 m2) .anil))) (.acons (D.arr RTy.int (3 : Nat) [d0, d1, d2]) .anil)))))]; bif lenOK items.length then bif decide (Z0 < (↑items.length : Int)) then bif decide ((0 : Int) ≤ Z0 ∧ Z0 < (↑items.length : Int)) then bif decide ((0 : Int) ≤ Z0 ∧ Z0 < (↑jtems.length : Int)) then bif !(Item.key Z2 == Item.key Z3 && (Item.place Z2 == Item.place Z3 && (Item.value Z2 == Item.value Z3 && true))) then some ((X.ret, [(4, D.bool false)]), Z4) else some ((X.normal, [(2, D.ptr 0 []), (3, D.ptr 1 []), (4, D.bool false), (5, D.int .i64 (IntKind.wrap .i64 (Z0 + (1 : Int))))]), Z4) else none else none else some ((X.exit (0 : Nat), [(4, D.bool false)]), Z4) else none) := by kernel_rfl
def sameStRl_fin (p : Int) (ci : Bool) (items : List Item) (k0 : Bool) (k1 : Bool) (k2 : Bool) (l0 : List Line) (l1 : List Line) (l2 : List Line) (c0 : Int) (c1 : Int) (c2 : Int) (q : Int) (di : Bool) (jtems : List Item) (j0 : Bool) (j1 : Bool) (j2 : Bool) (m0 : List Line) (m1 : List Line) (m2 : List Line) (d0 : Int) (d1 : Int) (d2 : Int) (i : Nat) : RT RC := .br (decide (items.drop i = jtems.drop i)) (.leaf (.exit 0) [(4, .bool false)] (sameStRl_o p ci items k0 k1 k2 l0 l1 l2 c0 c1 c2 q di jtems j0 j1 j2 m0 m1 m2 d0 d1 d2 i)) (.leaf .ret [(4, .bool false)] (sameStRl_o p ci items k0 k1 k2 l0 l1 l2 c0 c1 c2 q di jtems j0 j1 j2 m0 m1 m2 d0 d1 d2 i))
def sameStRl_Inv (p : Int) (ci : Bool) (items : List Item) (k0 : Bool) (k1 : Bool) (k2 : Bool) (l0 : List Line) (l1 : List Line) (l2 : List Line) (c0 : Int) (c1 : Int) (c2 : Int) (q : Int) (di : Bool) (jtems : List Item) (j0 : Bool) (j1 : Bool) (j2 : Bool) (m0 : List Line) (m1 : List Line) (m2 : List Line) (d0 : Int) (d1 : Int) (d2 : Int) (i : Nat) : Prop := i ≤ items.length ∧ items.length ≤ 9223372036854775807 ∧ items.length = jtems.length
def sameStRl_S : LoopR RC sameStRl_St where
  k := 2
  canon q := sameStRl_c q.p q.ci q.items q.k0 q.k1 q.k2 q.l0 q.l1 q.l2 q.c0 q.c1 q.c2 q.q q.di q.jtems q.j0 q.j1 q.j2 q.m0 q.m1 q.m2 q.d0 q.d1 q.d2 q.i
  objs q := sameStRl_o q.p q.ci q.items q.k0 q.k1 q.k2 q.l0 q.l1 q.l2 q.c0 q.c1 q.c2 q.q q.di q.jtems q.j0 q.j1 q.j2 q.m0 q.m1 q.m2 q.d0 q.d1 q.d2 q.i
  fin q := sameStRl_fin q.p q.ci q.items q.k0 q.k1 q.k2 q.l0 q.l1 q.l2 q.c0 q.c1 q.c2 q.q q.di q.jtems q.j0 q.j1 q.j2 q.m0 q.m1 q.m2 q.d0 q.d1 q.d2 q.i
  Inv q := sameStRl_Inv q.p q.ci q.items q.k0 q.k1 q.k2 q.l0 q.l1 q.l2 q.c0 q.c1 q.c2 q.q q.di q.jtems q.j0 q.j1 q.j2 q.m0 q.m1 q.m2 q.d0 q.d1 q.d2 q.i
  μ q := q.items.length - q.i
theorem sameStRl_round (p : Int) (ci : Bool) (items : List Item) (k0 : Bool) (k1 : Bool) (k2 : Bool) (l0 : List Line) (l1 : List Line) (l2 : List Line) (c0 : Int) (c1 : Int) (c2 : Int) (q : Int) (di : Bool) (jtems : List Item) (j0 : Bool) (j1 : Bool) (j2 : Bool) (m0 : List Line) (m1 : List Line) (m2 : List Line) (d0 : Int) (d1 : Int) (d2 : Int) (i : Nat) (hI : sameStRl_Inv p ci items k0 k1 k2 l0 l1 l2 c0 c1 c2 q di jtems j0 j1 j2 m0 m1 m2 d0 d1 d2 i) : Leaf (sameStRl_r p ci items k0 k1 k2 l0 l1 l2 c0 c1 c2 q di jtems j0 j1 j2 m0 m1 m2 d0 d1 d2 i) (LedR sameStRl_S ⟨p, ci, items, k0, k1, k2, l0, l1, l2, c0, c1, c2, q, di, jtems, j0, j1, j2, m0, m1, m2, d0, d1, d2, i⟩) := by
  (rw [sameStRl_eq]; conv => zeta)
  unfold sameStRl_Inv at hI
  obtain ⟨h1, h2, h3⟩ := hI
  have hlk := lenOK_of h2
  by_cases hlt : i < items.length
  · have w_succ : IntKind.i64.wrap ((i : Int) + 1) = ((i + 1 : Nat) : Int) := by rw [wrap_id (by omega) (by omega)]; simp
    have d_lt : decide ((i : Int) < items.length) = true := by simp; omega
    have d_in : decide (0 ≤ (i : Int) ∧ (i : Int) < items.length) = true := by simp; omega
    have t_nat : ((i : Int)).toNat = i := by simp
    simp only [w_succ, d_lt, d_in, t_nat, cond_true]
    have hlt' : i < jtems.length := by omega
    have d_in' : decide (0 ≤ (i : Int) ∧ (i : Int) < jtems.length) = true := by simp; omega
    have hst := drops_step items jtems i (⟨0, 0, 0⟩ : Item) hlt h3
    simp only [d_in', cond_true, hlk, eqItem]
    generalize items.getD i (⟨0, 0, 0⟩ : Item) = x at hst ⊢
    generalize jtems.getD i (⟨0, 0, 0⟩ : Item) = w at hst ⊢
    by_cases hxy : x = w
    · simp only [hxy, decide_true, Bool.not_true, cond_false]
      exact leafR_go ⟨p, ci, items, k0, k1, k2, l0, l1, l2, c0, c1, c2, q, di, jtems, j0, j1, j2, m0, m1, m2, d0, d1, d2, i + 1⟩ ⟨hlt, h2, h3⟩ (by simp only [sameStRl_S]; omega) (by simp only [sameStRl_S, sameStRl_fin, sameStRl_o, hst, hxy, decide_true, Bool.true_and]) rfl rfl
    · simp only [hxy, decide_false, Bool.not_false, cond_true]
      exact leafR_ret (sameStRl_o p ci items k0 k1 k2 l0 l1 l2 c0 c1 c2 q di jtems j0 j1 j2 m0 m1 m2 d0 d1 d2 i) (by simp [sameStRl_S, sameStRl_fin, hst, hxy, RT.val]) rfl
  · have hi : i = items.length := by omega
    have c1 : decide ((i : Int) < items.length) = false := by simp; omega
    simp only [hlk, cond_true, c1, cond_false]
    exact leafR_exit (sameStRl_o p ci items k0 k1 k2 l0 l1 l2 c0 _ c2 q di jtems j0 j1 j2 m0 m1 m2 d0 d1 d2 i) (by simp only [sameStRl_S, sameStRl_fin, drops_end items jtems i (by omega) (by omega), RT.val, cond_true]) rfl
def sameStRl_d (env : Env RC) (os : List (Obj RC)) : Option (Bool × sameStRl_St) := match env, os with
  | [(2, .ptr 0 []), (3, .ptr 1 []), (4, .bool false), (5, .int .i64 x0)], [.var 30 (.acons (.int .i64 p) (.acons (.sl .item ci items) (.acons (.acons (.sl .line k0 l0) (.acons (.sl .line k1 l1) (.acons (.sl .line k2 l2) .anil))) (.acons (.arr .int 3 [c0, c1, c2]) .anil)))), .var 30 (.acons (.int .i64 q) (.acons (.sl .item di jtems) (.acons (.acons (.sl .line j0 m0) (.acons (.sl .line j1 m1) (.acons (.sl .line j2 m2) .anil))) (.acons (.arr .int 3 [d0, d1, d2]) .anil))))] => staticD (true) (decide (x0 = 0) && decide (items.length ≤ 9223372036854775807 ∧ items.length = jtems.length), ⟨p, ci, items, k0, k1, k2, l0, l1, l2, c0, c1, c2, q, di, jtems, j0, j1, j2, m0, m1, m2, d0, d1, d2, 0⟩)
  | _, _ => none
noncomputable def uh_3 := uh_2.addLoop 14 4 (sumR s07 [.slot 2 0, .slot 3 0] [2, 3, 4, 5] sameStRl_S sameStRl_d)
theorem uh_3_laws : FLaws Try.prog s07 uh_3 := by
  refine uh_2_laws.addRoundsR s07_laws (by kernel_rfl) sameStRl_S 40 [2, 3, 4, 5] [4] [.slot 2 0, .slot 3 0] [2, 3, 4, 5] sameStRl_d (fun q hI => ?_) ?_
  · obtain ⟨p, ci, items, k0, k1, k2, l0, l1, l2, c0, c1, c2, q, di, jtems, j0, j1, j2, m0, m1, m2, d0, d1, d2, i⟩ := q
    refine ⟨?_, ?_, sameStRl_round p ci items k0 k1 k2 l0 l1 l2 c0 c1 c2 q di jtems j0 j1 j2 m0 m1 m2 d0 d1 d2 i hI⟩
    · simp_all [RefsOK, sameStRl_S, sameStRl_c, sameStRl_o, sameStRl_Inv, D.refs, Obj.refs, rEnc]
    · simp_all [sameStRl_S, sameStRl_fin, sameStRl_o, sameStRl_Inv, RT.refsOK, RefsOK, D.refs, Obj.refs, rEnc]
  · intro env os b q hd_ hb
    unfold sameStRl_d at hd_
    split at hd_
    · obtain ⟨hs, hd_⟩ := staticD_some hd_
      cases hd_
      simp only [Bool.and_eq_true, decide_eq_true_eq] at hb
      obtain ⟨rfl, hl⟩ := hb
      exact ⟨⟨Nat.zero_le _, hl.1, hl.2⟩, rfl, rfl⟩
    · cases hd_
def sameStR_s (p : Int) (ci : Bool) (items : List Item) (k0 : Bool) (k1 : Bool) (k2 : Bool) (l0 : List Line) (l1 : List Line) (l2 : List Line) (c0 : Int) (c1 : Int) (c2 : Int) (q : Int) (di : Bool) (jtems : List Item) (j0 : Bool) (j1 : Bool) (j2 : Bool) (m0 : List Line) (m1 : List Line) (m2 : List Line) (d0 : Int) (d1 : Int) (d2 : Int) : Option (Bool × D RC) := some (lenOK items.length && lenOK jtems.length && (lenOK l0.length && lenOK m0.length) && (lenOK l1.length && lenOK m1.length) && (lenOK l2.length && lenOK m2.length), .bool (decide ((⟨p, items, l0, l1, l2, c0, c1, c2⟩ : St) = ⟨q, jtems, m0, m1, m2, d0, d1, d2⟩)))
def sameStR_sp : List (D RC) → Option (Bool × D RC)
  | [.acons (.int .i64 p) (.acons (.sl .item ci items) (.acons (.acons (.sl .line k0 l0) (.acons (.sl .line k1 l1) (.acons (.sl .line k2 l2) .anil))) (.acons (.arr .int 3 [c0, c1, c2]) .anil))), .acons (.int .i64 q) (.acons (.sl .item di jtems) (.acons (.acons (.sl .line j0 m0) (.acons (.sl .line j1 m1) (.acons (.sl .line j2 m2) .anil))) (.acons (.arr .int 3 [d0, d1, d2]) .anil)))] => sameStR_s p ci items k0 k1 k2 l0 l1 l2 c0 c1 c2 q di jtems j0 j1 j2 m0 m1 m2 d0 d1 d2
  | _ => none
noncomputable def sameStR_e (p : Int) (ci : Bool) (items : List Item) (k0 : Bool) (k1 : Bool) (k2 : Bool) (l0 : List Line) (l1 : List Line) (l2 : List Line) (c0 : Int) (c1 : Int) (c2 : Int) (q : Int) (di : Bool) (jtems : List Item) (j0 : Bool) (j1 : Bool) (j2 : Bool) (m0 : List Line) (m1 : List Line) (m2 : List Line) (d0 : Int) (d1 : Int) (d2 : Int) := evF s07 uh_3 40 14 [.acons (.int .i64 p) (.acons (.sl (C := RC) .item ci items) (.acons (.acons (.sl (C := RC) .line k0 l0) (.acons (.sl (C := RC) .line k1 l1) (.acons (.sl (C := RC) .line k2 l2) .anil))) (.acons (.arr (C := RC) .int 3 [c0, c1, c2]) .anil))), .acons (.int .i64 q) (.acons (.sl (C := RC) .item di jtems) (.acons (.acons (.sl (C := RC) .line j0 m0) (.acons (.sl (C := RC) .line j1 m1) (.acons (.sl (C := RC) .line j2 m2) .anil))) (.acons (.arr (C := RC) .int 3 [d0, d1, d2]) .anil)))]
theorem sameStR_eq (p : Int) (ci : Bool) (items : List Item) (k0 : Bool) (k1 : Bool) (k2 : Bool) (l0 : List Line) (l1 : List Line) (l2 : List Line) (c0 : Int) (c1 : Int) (c2 : Int) (q : Int) (di : Bool) (jtems : List Item) (j0 : Bool) (j1 : Bool) (j2 : Bool) (m0 : List Line) (m1 : List Line) (m2 : List Line) (d0 : Int) (d1 : Int) (d2 : Int) : sameStR_e p ci items k0 k1 k2 l0 l1 l2 c0 c1 c2 q di jtems j0 j1 j2 m0 m1 m2 d0 d1 d2 = (let Z0 : DO_ := some (D.bool false); let Z1 : Nat := List.length items; let Z2 : Nat := List.length jtems; bif p != q then Z0 else bif !(c0 == d0 && (c1 == d1 && (c2 == d2 && true))) then Z0 else bif lenOK Z1 then bif lenOK Z2 then bif (↑Z1 : Int) != (↑Z2 : Int) then Z0 else bif decide (Z1 ≤ (9223372036854775807 : Nat) ∧ Z1 = Z2) then bif decide (List.drop (0 : Nat) items = List.drop (0 : Nat) jtems) then bif lenOK l0.length && lenOK m0.length then bif !decide (l0 = m0) then Z0 else bif lenOK l1.length && lenOK m1.length then bif !decide (l1 = m1) then Z0 else bif lenOK l2.length && lenOK m2.length then bif !decide (l2 = m2) then Z0 else some (D.bool true) else none else none else none else Z0 else none else none else none) := by kernel_rfl
theorem sameStR_ok (p : Int) (ci : Bool) (items : List Item) (k0 : Bool) (k1 : Bool) (k2 : Bool) (l0 : List Line) (l1 : List Line) (l2 : List Line) (c0 : Int) (c1 : Int) (c2 : Int) (q : Int) (di : Bool) (jtems : List Item) (j0 : Bool) (j1 : Bool) (j2 : Bool) (m0 : List Line) (m1 : List Line) (m2 : List Line) (d0 : Int) (d1 : Int) (d2 : Int) (h : (lenOK items.length && lenOK jtems.length && (lenOK l0.length && lenOK m0.length) && (lenOK l1.length && lenOK m1.length) && (lenOK l2.length && lenOK m2.length)) = true) : sameStR_e p ci items k0 k1 k2 l0 l1 l2 c0 c1 c2 q di jtems j0 j1 j2 m0 m1 m2 d0 d1 d2 = some (.bool (decide ((⟨p, items, l0, l1, l2, c0, c1, c2⟩ : St) = ⟨q, jtems, m0, m1, m2, d0, d1, d2⟩))) := by
  (rw [sameStR_eq]; conv => zeta)
  simp only [Bool.and_eq_true] at h
  obtain ⟨⟨⟨⟨a1, a2⟩, b1, b2⟩, b3, b4⟩, b5, b6⟩ := h
  have hl := lenOK_le a1
  simp only [a1, a2, b1, b2, b3, b4, b5, b6, Bool.and_true, cond_true]
  by_cases h0 : items.length = jtems.length
  · have e1 : ((items.length : Int) != (jtems.length : Int)) = false := by simp [h0]
    have e2 : (items.length ≤ 9223372036854775807 ∧ items.length = jtems.length) := ⟨hl, h0⟩
    rw [e1, decide_eq_true e2]
    by_cases h1 : l0 = m0 <;> by_cases h2 : l1 = m1 <;> by_cases h3 : l2 = m2 <;> by_cases h4 : p = q <;> by_cases h5 : c0 = d0 <;> by_cases h6 : c1 = d1 <;> by_cases h7 : c2 = d2 <;> by_cases h8 : items = jtems <;> simp [h1, h2, h3, h4, h5, h6, h7, h8, bne, beqD]
  · have e1 : ((items.length : Int) != (jtems.length : Int)) = true := by simp; omega
    have h8 : ¬ items = jtems := fun e => h0 (by rw [e])
    rw [e1]
    by_cases h4 : p = q <;> by_cases h5 : c0 = d0 <;> by_cases h6 : c1 = d1 <;> by_cases h7 : c2 = d2 <;> simp [h4, h5, h6, h7, h8, bne, beqD]
noncomputable def uh_4 := uh_3.addSpec 14 sameStR_sp
theorem uh_4_laws : FLaws Try.prog s07 uh_4 := uh_3_laws.addEv s07_laws fun args d h => by
  unfold sameStR_sp at h
  split at h
  · unfold sameStR_s at h
    have h1 := congrArg Prod.fst (Option.some.inj h)
    obtain rfl : _ = d := congrArg Prod.snd (Option.some.inj h)
    exact ⟨by simp [D.refs], 40, sameStR_ok _ _ _ _ _ _ _ _ _ _ _ _ _ _ _ _ _ _ _ _ _ _ _ _ h1⟩
  · cases h
open Go.Proofs
structure putR_St where
  n : Int
  w : Int
  out : List UInt8
  i : Nat
def putR_c (n : Int) (w : Int) (out : List UInt8) (i : Nat) : Env RC := [(1, .int .i64 n), (2, .int .i64 w), (8, .vs 0 (out.length)), (9, .int .i64 (i : Int))]
def putR_o (n : Int) (w : Int) (out : List UInt8) (i : Nat) : List (Obj RC) := [.vec (C := RC) .u8 true out]
noncomputable def putR_r (n : Int) (w : Int) (out : List UInt8) (i : Nat) := rndO s07 uh_4 58 6 40 1 [1, 2, 8, 9] [8] [.slot 8 0] (putR_c n w out i) (putR_o n w out i)
theorem putR_eq (n : Int) (w : Int) (out : List UInt8) (i : Nat) : putR_r n w out i = (let Z0 : Nat := List.length out; let Z1 : List UInt8 := [UInt8.ofNat (IntKind.wrap IntKind.u8 (Int.tmod n (256 : Int))).toNat]; bif decide ((↑i : Int) < w) then bif Nat.beq Z0 Z0 && sizeOK (Z0 + List.length Z1) (1 : Nat) then some ((X.normal, [(1, D.int .i64 (IntKind.wrap .i64 (Int.tdiv n (256 : Int)))), (2, D.int .i64 w), (8, D.vs 0 (Z0 + List.length Z1)), (9, D.int .i64 (IntKind.wrap .i64 ((↑i : Int) + (1 : Int))))]), [some (Obj.vec RTy.u8 true (out ++ Z1))]) else none else some ((X.exit (0 : Nat), [(8, D.vs 0 Z0)]), [some (Obj.vec RTy.u8 true out)])) := by kernel_rfl
def putR_fin (n : Int) (w : Int) (out : List UInt8) (i : Nat) : RT RC := .leaf (.exit 0) [(8, .vs 0 (out ++ leB n (w.toNat - i)).length)] [.vec (C := RC) .u8 true (out ++ leB n (w.toNat - i))]
def putR_Inv (n : Int) (w : Int) (out : List UInt8) (i : Nat) : Prop := 0 ≤ n ∧ n ≤ 9223372036854775807 ∧ (i : Int) ≤ w ∧ w ≤ 6 ∧ out.length ≤ 1000000 + i
def putR_S : LoopR RC putR_St where
  k := 1
  canon q := putR_c q.n q.w q.out q.i
  objs q := putR_o q.n q.w q.out q.i
  fin q := putR_fin q.n q.w q.out q.i
  Inv q := putR_Inv q.n q.w q.out q.i
  μ q := q.w.toNat - q.i
theorem putR_round (n : Int) (w : Int) (out : List UInt8) (i : Nat) (hI : putR_Inv n w out i) : Leaf (putR_r n w out i) (LedR putR_S ⟨n, w, out, i⟩) := by
  (rw [putR_eq]; conv => zeta)
  unfold putR_Inv at hI
  obtain ⟨h1, h2, h3, h4, h5⟩ := hI
  by_cases hlt : (i : Int) < w
  · have w_succ : IntKind.i64.wrap ((i : Int) + 1) = ((i + 1 : Nat) : Int) := by rw [wrap_id (by omega) (by omega)]; simp
    obtain ⟨d1, d2, d3⟩ := putD h1 h2
    have e1 : sizeOK (out.length + 1) 1 = true := sizeT (by omega)
    have eb : ∀ n : Nat, n.beq n = true := fun n => by simp
    simp only [hlt, decide_true, cond_true, w_succ, d1, putB h1, List.length_cons, List.length_nil, Nat.zero_add, e1, eb, Bool.and_self]
    refine leafR_go ⟨n.fdiv 256, w, out ++ [byteOf n], i + 1⟩ (by refine ⟨d2, d3, hlt, h4, ?_⟩; simp; omega) (by simp only [putR_S]; omega) ?_ (by simp [putR_S, putR_c]) (by simp [putR_S, putR_o])
    have : w.toNat - i = (w.toNat - (i + 1)) + 1 := by omega
    simp only [putR_S, putR_fin, this, leB, List.append_assoc, List.cons_append, List.nil_append]
  · have hi : w.toNat - i = 0 := by omega
    simp only [hlt, decide_false, cond_false]
    exact leafR_exit (putR_o n w out i) (by simp only [putR_S, putR_fin, putR_o, hi, leB, RT.val, List.append_nil]) rfl
def putR_d (env : Env RC) (os : List (Obj RC)) : Option (Bool × putR_St) := match env, os with
  | [(1, .int .i64 n), (2, .int .i64 w), (8, .vs 0 x0), (9, .int .i64 x1)], [.vec .u8 true out] => staticD (true) (decide (x0 = out.length) && decide (x1 = 0) && decide (0 ≤ n ∧ n ≤ 9223372036854775807 ∧ 0 ≤ w ∧ w ≤ 6 ∧ out.length ≤ 1000000), ⟨n, w, out, 0⟩)
  | _, _ => none
noncomputable def ui_1 := uh_4.addLoop 58 6 (sumR s07 [.slot 8 0] [1, 2, 8, 9] putR_S putR_d)
theorem ui_1_laws : FLaws Try.prog s07 ui_1 := by
  refine uh_4_laws.addRoundsR s07_laws (by kernel_rfl) putR_S 40 [1, 2, 8, 9] [8] [.slot 8 0] [1, 2, 8, 9] putR_d (fun q hI => ?_) ?_
  · obtain ⟨n, w, out, i⟩ := q
    refine ⟨?_, ?_, putR_round n w out i hI⟩
    · simp_all [RefsOK, putR_S, putR_c, putR_o, putR_Inv, D.refs, Obj.refs, rEnc]
    · simp_all [putR_S, putR_fin, putR_o, putR_Inv, RT.refsOK, RefsOK, D.refs, Obj.refs, rEnc]
  · intro env os b q hd_ hb
    unfold putR_d at hd_
    split at hd_
    · obtain ⟨hs, hd_⟩ := staticD_some hd_
      cases hd_
      simp only [Bool.and_eq_true, decide_eq_true_eq] at hb
      obtain ⟨⟨rfl, rfl⟩, hl⟩ := hb
      exact ⟨by refine ⟨hl.1, hl.2.1, by simpa using hl.2.2.1, hl.2.2.2.1, by simpa using hl.2.2.2.2⟩, rfl, rfl⟩
    · cases hd_
open Go.Proofs
structure sbItR_St where
  p : Int
  ci : Bool
  items : List Item
  k0 : Bool
  k1 : Bool
  k2 : Bool
  l0 : List Line
  l1 : List Line
  l2 : List Line
  c0 : Int
  c1 : Int
  c2 : Int
  bs : List UInt8
  i : Nat
def sbItR_c (p : Int) (ci : Bool) (items : List Item) (k0 : Bool) (k1 : Bool) (k2 : Bool) (l0 : List Line) (l1 : List Line) (l2 : List Line) (c0 : Int) (c1 : Int) (c2 : Int) (bs : List UInt8) (i : Nat) : Env RC := [(1, .ptr 0 []), (4, .vs 1 (bs.length)), (6, .int .i64 (i : Int))]
def sbItR_o (p : Int) (ci : Bool) (items : List Item) (k0 : Bool) (k1 : Bool) (k2 : Bool) (l0 : List Line) (l1 : List Line) (l2 : List Line) (c0 : Int) (c1 : Int) (c2 : Int) (bs : List UInt8) (i : Nat) : List (Obj RC) := [.var 30 (.acons (.int .i64 p) (.acons (.sl (C := RC) .item ci items) (.acons (.acons (.sl (C := RC) .line k0 l0) (.acons (.sl (C := RC) .line k1 l1) (.acons (.sl (C := RC) .line k2 l2) .anil))) (.acons (.arr (C := RC) .int 3 [c0, c1, c2]) .anil)))), .vec (C := RC) .u8 true bs]
noncomputable def sbItR_r (p : Int) (ci : Bool) (items : List Item) (k0 : Bool) (k1 : Bool) (k2 : Bool) (l0 : List Line) (l1 : List Line) (l2 : List Line) (c0 : Int) (c1 : Int) (c2 : Int) (bs : List UInt8) (i : Nat) := rndO s07 ui_1 40 6 40 2 [1, 4, 6] [4] [.slot 1 0, .slot 4 0] (sbItR_c p ci items k0 k1 k2 l0 l1 l2 c0 c1 c2 bs i) (sbItR_o p ci items k0 k1 k2 l0 l1 l2 c0 c1 c2 bs i)
theorem sbItR_eq (p : Int) (ci : Bool) (items : List Item) (k0 : Bool) (k1 : Bool) (k2 : Bool) (l0 : List Line) (l1 : List Line) (l2 : List Line) (c0 : Int) (c1 : Int) (c2 : Int) (bs : List UInt8) (i : Nat) : sbItR_r p ci items k0 k1 k2 l0 l1 l2 c0 c1 c2 bs i = (let Z0 : Int := (↑i : Int); let Z1 : Bool := decide ((0 : Int) ≤ Z0 ∧ Z0 < (↑items.length : Int)); let Z2 : Nat := List.length bs; let Z3 : Item := List.getD items Z0.toNat (Item.mk (0 : Int) (0 : Int) (0 : Int)); let Z4 : List UInt8 := [UInt8.ofNat (IntKind.wrap IntKind.u8 (Item.key Z3)).toNat]; let Z5 : Int := Item.place Z3; let Z6 : Nat := List.length (bs ++ Z4); let Z7 : Nat := List.length ([] ++ (bs ++ Z4)); let Z8 : List UInt8 := [] ++ (bs ++ Z4) ++ leB Z5 (3 : Nat); let Z9 : Nat := List.length Z8; let Z10 : List UInt8 := [UInt8.ofNat (IntKind.wrap IntKind.u8 (Item.value Z3)).toNat]; let Z11 : Option (Obj RC) := some (Obj.var 30 (.acons (D.int .i64 p) (.acons (D.sl RTy.item ci items) (.acons (D.acons (D.sl RTy.line k0 l0) (.acons (D.sl RTy.line k1 l1) (.acons (D.sl RTy.line k2 l2) .anil))) (.acons (D.arr RTy.int (3 : Nat) [c0, c1, c2]) .anil))))); bif lenOK items.length then bif decide (Z0 < (↑items.length : Int)) then bif Z1 then bif Nat.beq Z2 Z2 && sizeOK (Z2 + List.length Z4) (1 : Nat) then bif Z1 then bif decide (Z5 ≤ (9223372036854775807 : Int) ∧ (1 : Int) ≤ (3 : Int) ∧ (3 : Int) ≤ (6 : Int)) && fitsB Z5 (3 : Nat) then bif Nat.beq (Z2 + List.length Z4) Z6 then bif sizeOK ((0 : Nat) + Z6) (1 : Nat) then bif decide ((0 : Nat) + Z6 = Z7) && true && decide ((0 : Int) ≤ Z5 ∧ Z5 ≤ (9223372036854775807 : Int) ∧ (0 : Int) ≤ (3 : Int) ∧ (3 : Int) ≤ (6 : Int) ∧ Z7 ≤ (1000000 : Nat)) then bif Z1 then bif Nat.beq Z9 Z9 && sizeOK (Z9 + List.length Z10) (1 : Nat) then bif Nat.blt Z2 (Z8 ++ Z10).length then some ((X.normal, [(1, D.ptr 0 []), (4, D.vs 1 (Z9 + List.length Z10)), (6, D.int .i64 (IntKind.wrap .i64 (Z0 + (1 : Int))))]), [Z11, some (Obj.vec RTy.u8 true (Z8 ++ Z10))]) else none else none else none else none else none else none else none else none else none else none else some ((X.exit (0 : Nat), [(4, D.vs 1 Z2)]), [Z11, some (Obj.vec RTy.u8 true bs)]) else none) := by kernel_rfl
def sbItR_fin (p : Int) (ci : Bool) (items : List Item) (k0 : Bool) (k1 : Bool) (k2 : Bool) (l0 : List Line) (l1 : List Line) (l2 : List Line) (c0 : Int) (c1 : Int) (c2 : Int) (bs : List UInt8) (i : Nat) : RT RC := .leaf (.exit 0) [(4, .vs 1 (bs ++ (items.drop i).flatMap iBytes).length)] [.var 30 (.acons (.int .i64 p) (.acons (.sl (C := RC) .item ci items) (.acons (.acons (.sl (C := RC) .line k0 l0) (.acons (.sl (C := RC) .line k1 l1) (.acons (.sl (C := RC) .line k2 l2) .anil))) (.acons (.arr (C := RC) .int 3 [c0, c1, c2]) .anil)))), .vec (C := RC) .u8 true (bs ++ (items.drop i).flatMap iBytes)]
def sbItR_Inv (p : Int) (ci : Bool) (items : List Item) (k0 : Bool) (k1 : Bool) (k2 : Bool) (l0 : List Line) (l1 : List Line) (l2 : List Line) (c0 : Int) (c1 : Int) (c2 : Int) (bs : List UInt8) (i : Nat) : Prop := i ≤ items.length ∧ items.length ≤ 1000 ∧ bs.length ≤ 900000 + 5 * i ∧ items.all fitI = true
def sbItR_S : LoopR RC sbItR_St where
  k := 2
  canon q := sbItR_c q.p q.ci q.items q.k0 q.k1 q.k2 q.l0 q.l1 q.l2 q.c0 q.c1 q.c2 q.bs q.i
  objs q := sbItR_o q.p q.ci q.items q.k0 q.k1 q.k2 q.l0 q.l1 q.l2 q.c0 q.c1 q.c2 q.bs q.i
  fin q := sbItR_fin q.p q.ci q.items q.k0 q.k1 q.k2 q.l0 q.l1 q.l2 q.c0 q.c1 q.c2 q.bs q.i
  Inv q := sbItR_Inv q.p q.ci q.items q.k0 q.k1 q.k2 q.l0 q.l1 q.l2 q.c0 q.c1 q.c2 q.bs q.i
  μ q := q.items.length - q.i
theorem sbItR_round (p : Int) (ci : Bool) (items : List Item) (k0 : Bool) (k1 : Bool) (k2 : Bool) (l0 : List Line) (l1 : List Line) (l2 : List Line) (c0 : Int) (c1 : Int) (c2 : Int) (bs : List UInt8) (i : Nat) (hI : sbItR_Inv p ci items k0 k1 k2 l0 l1 l2 c0 c1 c2 bs i) : Leaf (sbItR_r p ci items k0 k1 k2 l0 l1 l2 c0 c1 c2 bs i) (LedR sbItR_S ⟨p, ci, items, k0, k1, k2, l0, l1, l2, c0, c1, c2, bs, i⟩) := by
  (rw [sbItR_eq]; conv => zeta)
  unfold sbItR_Inv at hI
  obtain ⟨h1, h2, h3, h4⟩ := hI
  have hlk := lenOK_of (show items.length ≤ 9223372036854775807 by omega)
  by_cases hlt : i < items.length
  · have w_succ : IntKind.i64.wrap ((i : Int) + 1) = ((i + 1 : Nat) : Int) := by rw [wrap_id (by omega) (by omega)]; simp
    have d_lt : decide ((i : Int) < items.length) = true := by simp; omega
    have d_in : decide (0 ≤ (i : Int) ∧ (i : Int) < items.length) = true := by simp; omega
    have t_nat : ((i : Int)).toNat = i := by simp
    simp only [w_succ, d_lt, d_in, t_nat, cond_true]
    have hf := all_getD h4 hlt (⟨0, 0, 0⟩ : Item)
    have hd : (items.drop i).flatMap iBytes = _ := flatMap_drop_succ items i iBytes hlt (⟨0, 0, 0⟩ : Item)
    generalize items.getD i (⟨0, 0, 0⟩ : Item) = x at hd hf ⊢
    simp only [fitI, Bool.and_eq_true] at hf
    obtain ⟨⟨f1, f2⟩, f3⟩ := hf
    have g2 := withinB_iff.1 f2
    have hk : UInt8.ofNat (IntKind.u8.wrap x.key).toNat = byteOf x.key := rfl
    have hv : UInt8.ofNat (IntKind.u8.wrap x.value).toNat = byteOf x.value := rfl
    have e0 : decide (x.place ≤ 9223372036854775807 ∧ 1 ≤ (3 : Int) ∧ (3 : Int) ≤ 6) = true := by simp; omega
    have e1 : sizeOK (bs.length + 1) 1 = true := sizeT (by omega)
    have e2 : decide (0 ≤ x.place ∧ x.place ≤ 9223372036854775807 ∧ 0 ≤ (3 : Int) ∧ (3 : Int) ≤ 6 ∧ bs.length + 1 ≤ 1000000) = true := by simp; omega
    have e3 : sizeOK (bs.length + 1 + 3 + 1) 1 = true := sizeT (by omega)
    have e6 : Nat.blt bs.length (bs.length + 1 + 3 + 1) = true := by simp [Nat.blt_eq]; omega
    have t3 : (3 : Int).toNat - 0 = 3 := rfl
    have eb : ∀ n : Nat, n.beq n = true := fun n => by simp
    simp only [hlk, cond_true, hk, hv, fits3 f2, e0, List.length_append, List.length_cons, List.length_nil, Nat.zero_add, eb, e1, e2, e3, e6, t3, leB_length, decide_true, Bool.and_self, List.nil_append]
    refine leafR_go ⟨p, ci, items, k0, k1, k2, l0, l1, l2, c0, c1, c2, bs ++ iBytes x, i + 1⟩ (by refine ⟨hlt, h2, ?_, h4⟩; simp [iBytes_len]; omega) (by simp only [sbItR_S]; omega) ?_ (by simp [sbItR_S, sbItR_c, iBytes, leB1, leB3]) (by simp [sbItR_S, sbItR_o, iBytes, leB1, leB3])
    simp only [sbItR_S, sbItR_fin, hd, List.append_assoc]
  · have hi : i = items.length := by omega
    have c1' : decide ((i : Int) < items.length) = false := by simp; omega
    simp only [hlk, cond_true, c1', cond_false]
    have hd0 : items.drop i = [] := List.drop_eq_nil_of_le (by omega)
    exact leafR_exit (sbItR_o p ci items k0 k1 k2 l0 l1 l2 c0 c1 c2 bs i) (by simp only [sbItR_S, sbItR_fin, sbItR_o, hd0, RT.val, List.flatMap_nil, List.append_nil]) rfl
def sbItR_d (env : Env RC) (os : List (Obj RC)) : Option (Bool × sbItR_St) := match env, os with
  | [(1, .ptr 0 []), (4, .vs 1 x0), (6, .int .i64 x1)], [.var 30 (.acons (.int .i64 p) (.acons (.sl .item ci items) (.acons (.acons (.sl .line k0 l0) (.acons (.sl .line k1 l1) (.acons (.sl .line k2 l2) .anil))) (.acons (.arr .int 3 [c0, c1, c2]) .anil)))), .vec .u8 true bs] => staticD (true) (decide (x0 = bs.length) && decide (x1 = 0) && decide (items.length ≤ 1000 ∧ bs.length ≤ 900000) && items.all fitI, ⟨p, ci, items, k0, k1, k2, l0, l1, l2, c0, c1, c2, bs, 0⟩)
  | _, _ => none
noncomputable def uj_1 := ui_1.addLoop 40 6 (sumR s07 [.slot 1 0, .slot 4 0] [1, 4, 6] sbItR_S sbItR_d)
theorem uj_1_laws : FLaws Try.prog s07 uj_1 := by
  refine ui_1_laws.addRoundsR s07_laws (by kernel_rfl) sbItR_S 40 [1, 4, 6] [4] [.slot 1 0, .slot 4 0] [1, 4, 6] sbItR_d (fun q hI => ?_) ?_
  · obtain ⟨p, ci, items, k0, k1, k2, l0, l1, l2, c0, c1, c2, bs, i⟩ := q
    refine ⟨?_, ?_, sbItR_round p ci items k0 k1 k2 l0 l1 l2 c0 c1 c2 bs i hI⟩
    · simp_all [RefsOK, sbItR_S, sbItR_c, sbItR_o, sbItR_Inv, D.refs, Obj.refs, rEnc]
    · simp_all [sbItR_S, sbItR_fin, sbItR_o, sbItR_Inv, RT.refsOK, RefsOK, D.refs, Obj.refs, rEnc]
  · intro env os b q hd_ hb
    unfold sbItR_d at hd_
    split at hd_
    · obtain ⟨hs, hd_⟩ := staticD_some hd_
      cases hd_
      simp only [Bool.and_eq_true, decide_eq_true_eq] at hb
      obtain ⟨⟨⟨rfl, rfl⟩, hl⟩, ha⟩ := hb
      exact ⟨⟨Nat.zero_le _, hl.1, hl.2, ha⟩, rfl, rfl⟩
    · cases hd_
structure sbLnR_St where
  c : Bool
  l : List Line
  bs : List UInt8
  i : Nat
def sbLnR_c (c : Bool) (l : List Line) (bs : List UInt8) (i : Nat) : Env RC := [(4, .vs 0 (bs.length)), (8, .sl (C := RC) .line c l), (10, .int .i64 (i : Int))]
def sbLnR_o (c : Bool) (l : List Line) (bs : List UInt8) (i : Nat) : List (Obj RC) := [.vec (C := RC) .u8 true bs]
noncomputable def sbLnR_r (c : Bool) (l : List Line) (bs : List UInt8) (i : Nat) := rndO s07 uj_1 40 22 40 1 [4, 8, 10] [4] [.slot 4 0] (sbLnR_c c l bs i) (sbLnR_o c l bs i)
theorem sbLnR_eq (c : Bool) (l : List Line) (bs : List UInt8) (i : Nat) : sbLnR_r c l bs i = (let Z0 : Int := (↑i : Int); let Z1 : Bool := decide ((0 : Int) ≤ Z0 ∧ Z0 < (↑l.length : Int)); let Z2 : Line := List.getD l Z0.toNat (Line.mk (0 : Int) (0 : Int) (0 : Int) (0 : Int) (0 : Int)); let Z3 : Int := Line.place Z2; let Z4 : Nat := List.length bs; let Z5 : Nat := List.length ([] ++ bs); let Z6 : List UInt8 := [] ++ bs ++ leB Z3 (3 : Nat); let Z7 : Nat := List.length Z6; let Z8 : List UInt8 := [UInt8.ofNat (IntKind.wrap IntKind.u8 (IntKind.wrap .i64 (Line.j Z2 + IntKind.wrap .i64 ((16 : Int) * Line.key Z2)))).toNat, UInt8.ofNat (IntKind.wrap IntKind.u8 (Line.value Z2)).toNat]; bif lenOK l.length then bif decide (Z0 < (↑l.length : Int)) then bif Z1 then bif decide (Z3 ≤ (9223372036854775807 : Int) ∧ (1 : Int) ≤ (3 : Int) ∧ (3 : Int) ≤ (6 : Int)) && fitsB Z3 (3 : Nat) then bif Nat.beq Z4 Z4 then bif sizeOK ((0 : Nat) + Z4) (1 : Nat) then bif decide ((0 : Nat) + Z4 = Z5) && true && decide ((0 : Int) ≤ Z3 ∧ Z3 ≤ (9223372036854775807 : Int) ∧ (0 : Int) ≤ (3 : Int) ∧ (3 : Int) ≤ (6 : Int) ∧ Z5 ≤ (1000000 : Nat)) then bif Z1 then bif Z1 then bif Z1 then bif Nat.beq Z7 Z7 && sizeOK (Z7 + List.length Z8) (1 : Nat) then bif Nat.blt Z4 (Z6 ++ Z8).length then some ((X.normal, [(4, D.vs 0 (Z7 + List.length Z8)), (8, D.sl RTy.line c l), (10, D.int .i64 (IntKind.wrap .i64 (Z0 + (1 : Int))))]), [some (Obj.vec RTy.u8 true (Z6 ++ Z8))]) else none else none else none else none else none else none else none else none else none else none else some ((X.exit (4 : Nat), [(4, D.vs 0 Z4)]), [some (Obj.vec RTy.u8 true bs)]) else none) := by kernel_rfl
def sbLnR_fin (c : Bool) (l : List Line) (bs : List UInt8) (i : Nat) : RT RC := .leaf (.exit 4) [(4, .vs 0 (bs ++ (l.drop i).flatMap lBytes).length)] [.vec (C := RC) .u8 true (bs ++ (l.drop i).flatMap lBytes)]
def sbLnR_Inv (c : Bool) (l : List Line) (bs : List UInt8) (i : Nat) : Prop := i ≤ l.length ∧ l.length ≤ 1000 ∧ bs.length ≤ 900000 + 5 * i ∧ l.all fitLn = true
def sbLnR_S : LoopR RC sbLnR_St where
  k := 1
  canon q := sbLnR_c q.c q.l q.bs q.i
  objs q := sbLnR_o q.c q.l q.bs q.i
  fin q := sbLnR_fin q.c q.l q.bs q.i
  Inv q := sbLnR_Inv q.c q.l q.bs q.i
  μ q := q.l.length - q.i
theorem sbLnR_round (c : Bool) (l : List Line) (bs : List UInt8) (i : Nat) (hI : sbLnR_Inv c l bs i) : Leaf (sbLnR_r c l bs i) (LedR sbLnR_S ⟨c, l, bs, i⟩) := by
  (rw [sbLnR_eq]; conv => zeta)
  unfold sbLnR_Inv at hI
  obtain ⟨h1, h2, h3, h4⟩ := hI
  have hlk := lenOK_of (show l.length ≤ 9223372036854775807 by omega)
  by_cases hlt : i < l.length
  · have w_succ : IntKind.i64.wrap ((i : Int) + 1) = ((i + 1 : Nat) : Int) := by rw [wrap_id (by omega) (by omega)]; simp
    have d_lt : decide ((i : Int) < l.length) = true := by simp; omega
    have d_in : decide (0 ≤ (i : Int) ∧ (i : Int) < l.length) = true := by simp; omega
    have t_nat : ((i : Int)).toNat = i := by simp
    simp only [w_succ, d_lt, d_in, t_nat, cond_true]
    have hf := all_getD h4 hlt (⟨0, 0, 0, 0, 0⟩ : Line)
    have hd : (l.drop i).flatMap lBytes = _ := flatMap_drop_succ l i lBytes hlt (⟨0, 0, 0, 0, 0⟩ : Line)
    generalize l.getD i (⟨0, 0, 0, 0, 0⟩ : Line) = x at hd hf ⊢
    simp only [fitLn, Bool.and_eq_true] at hf
    obtain ⟨⟨⟨f1, f2⟩, f3⟩, f4⟩ := hf
    have g1 := withinB_iff.1 f1
    have g2 := withinB_iff.1 f2
    have g3 := withinB_iff.1 f3
    have w1 : IntKind.i64.wrap (16 * x.key) = 16 * x.key := wrap_id (by omega) (by omega)
    have w2 : IntKind.i64.wrap (x.j + 16 * x.key) = x.key * 16 + x.j := by rw [wrap_id (by omega) (by omega)]; omega
    have hk : UInt8.ofNat (IntKind.u8.wrap (x.key * 16 + x.j)).toNat = byteOf (x.key * 16 + x.j) := rfl
    have hv : UInt8.ofNat (IntKind.u8.wrap x.value).toNat = byteOf x.value := rfl
    have e0 : decide (x.place ≤ 9223372036854775807 ∧ 1 ≤ (3 : Int) ∧ (3 : Int) ≤ 6) = true := by simp; omega
    have e1 : sizeOK (bs.length + 1) 1 = true := sizeT (by omega)
    have e0' : sizeOK (0 + bs.length) 1 = true := sizeT (by omega)
    have e2 : decide (0 ≤ x.place ∧ x.place ≤ 9223372036854775807 ∧ 0 ≤ (3 : Int) ∧ (3 : Int) ≤ 6 ∧ bs.length ≤ 1000000) = true := by simp; omega
    have e5 : sizeOK (bs.length + 3 + 2) 1 = true := sizeT (by omega)
    have e6 : Nat.blt bs.length (bs.length + 3 + 2) = true := by simp [Nat.blt_eq]; omega
    have t3 : (3 : Int).toNat - 0 = 3 := rfl
    have eb : ∀ n : Nat, n.beq n = true := fun n => by simp
    have e7 : sizeOK bs.length 1 = true := sizeT (by omega)
    simp only [hlk, cond_true, w1, w2, hk, hv, fits3 f1, e0, List.length_append, List.length_cons, List.length_nil, Nat.zero_add, Nat.reduceAdd, eb, e1, e2, e5, e6, e7, t3, leB_length, decide_true, Bool.and_self, List.nil_append]
    refine leafR_go ⟨c, l, bs ++ lBytes x, i + 1⟩ (by refine ⟨hlt, h2, ?_, h4⟩; simp [lBytes_len]; omega) (by simp only [sbLnR_S]; omega) ?_ (by simp [sbLnR_S, sbLnR_c, lBytes, leB1, leB3]) (by simp [sbLnR_S, sbLnR_o, lBytes, leB1, leB3])
    simp only [sbLnR_S, sbLnR_fin, hd, List.append_assoc]
  · have hi : i = l.length := by omega
    have c1' : decide ((i : Int) < l.length) = false := by simp; omega
    simp only [hlk, cond_true, c1', cond_false]
    have hd0 : l.drop i = [] := List.drop_eq_nil_of_le (by omega)
    exact leafR_exit (sbLnR_o c l bs i) (by simp only [sbLnR_S, sbLnR_fin, sbLnR_o, hd0, RT.val, List.flatMap_nil, List.append_nil]) rfl
def sbLnR_d (env : Env RC) (os : List (Obj RC)) : Option (Bool × sbLnR_St) := match env, os with
  | [(4, .vs 0 x0), (8, .sl .line c l), (10, .int .i64 x1)], [.vec .u8 true bs] => staticD (true) (decide (x0 = bs.length) && decide (x1 = 0) && decide (l.length ≤ 1000 ∧ bs.length ≤ 900000) && l.all fitLn, ⟨c, l, bs, 0⟩)
  | _, _ => none
noncomputable def uj_2 := uj_1.addLoop 40 22 (sumR s07 [.slot 4 0] [4, 8, 10] sbLnR_S sbLnR_d)
theorem uj_2_laws : FLaws Try.prog s07 uj_2 := by
  refine uj_1_laws.addRoundsR s07_laws (by kernel_rfl) sbLnR_S 40 [4, 8, 10] [4] [.slot 4 0] [4, 8, 10] sbLnR_d (fun q hI => ?_) ?_
  · obtain ⟨c, l, bs, i⟩ := q
    refine ⟨?_, ?_, sbLnR_round c l bs i hI⟩
    · simp_all [RefsOK, sbLnR_S, sbLnR_c, sbLnR_o, sbLnR_Inv, D.refs, Obj.refs, rEnc]
    · simp_all [sbLnR_S, sbLnR_fin, sbLnR_o, sbLnR_Inv, RT.refsOK, RefsOK, D.refs, Obj.refs, rEnc]
  · intro env os b q hd_ hb
    unfold sbLnR_d at hd_
    split at hd_
    · obtain ⟨hs, hd_⟩ := staticD_some hd_
      cases hd_
      simp only [Bool.and_eq_true, decide_eq_true_eq] at hb
      obtain ⟨⟨⟨rfl, rfl⟩, hl⟩, ha⟩ := hb
      exact ⟨⟨Nat.zero_le _, hl.1, hl.2, ha⟩, rfl, rfl⟩
    · cases hd_
structure sbQR_St where
  p : Int
  ci : Bool
  items : List Item
  k0 : Bool
  k1 : Bool
  k2 : Bool
  l0 : List Line
  l1 : List Line
  l2 : List Line
  c0 : Int
  c1 : Int
  c2 : Int
  bs : List UInt8
  q : Nat
def sbQR_c (p : Int) (ci : Bool) (items : List Item) (k0 : Bool) (k1 : Bool) (k2 : Bool) (l0 : List Line) (l1 : List Line) (l2 : List Line) (c0 : Int) (c1 : Int) (c2 : Int) (bs : List UInt8) (q : Nat) : Env RC := [(1, .ptr 0 []), (4, .vs 1 (bs.length)), (7, .int .i64 (q : Int))]
def sbQR_o (p : Int) (ci : Bool) (items : List Item) (k0 : Bool) (k1 : Bool) (k2 : Bool) (l0 : List Line) (l1 : List Line) (l2 : List Line) (c0 : Int) (c1 : Int) (c2 : Int) (bs : List UInt8) (q : Nat) : List (Obj RC) := [.var 30 (.acons (.int .i64 p) (.acons (.sl (C := RC) .item ci items) (.acons (.acons (.sl (C := RC) .line k0 l0) (.acons (.sl (C := RC) .line k1 l1) (.acons (.sl (C := RC) .line k2 l2) .anil))) (.acons (.arr (C := RC) .int 3 [c0, c1, c2]) .anil)))), .vec (C := RC) .u8 true bs]
noncomputable def sbQR_r (p : Int) (ci : Bool) (items : List Item) (k0 : Bool) (k1 : Bool) (k2 : Bool) (l0 : List Line) (l1 : List Line) (l2 : List Line) (c0 : Int) (c1 : Int) (c2 : Int) (bs : List UInt8) (q : Nat) := rndO s07 uj_2 40 12 60 2 [1, 4, 7] [4] [.slot 1 0, .slot 4 0] (sbQR_c p ci items k0 k1 k2 l0 l1 l2 c0 c1 c2 bs q) (sbQR_o p ci items k0 k1 k2 l0 l1 l2 c0 c1 c2 bs q)
theorem sbQR_eq0 (p : Int) (ci : Bool) (items : List Item) (k0 : Bool) (k1 : Bool) (k2 : Bool) (l0 : List Line) (l1 : List Line) (l2 : List Line) (c0 : Int) (c1 : Int) (c2 : Int) (bs : List UInt8) : sbQR_r p ci items k0 k1 k2 l0 l1 l2 c0 c1 c2 bs 0 = (let Z0 : Nat := List.length bs; let Z1 : Nat := List.length ([] ++ bs); let Z2 : Nat := List.length l0; let Z3 : List UInt8 := [] ++ bs ++ leB c0 (3 : Nat); let Z4 : Nat := List.length Z3; let Z5 : List UInt8 := [UInt8.ofNat (IntKind.wrap IntKind.u8 (↑Z2 : Int)).toNat]; let Z6 : Int := Line.offset (List.getD l0 (0 : Nat) (Line.mk (0 : Int) (0 : Int) (0 : Int) (0 : Int) (0 : Int))); let Z7 : Nat := List.length (Z3 ++ Z5); let Z8 : Bool := Nat.beq (Z4 + List.length Z5) Z7; let Z9 : Bool := sizeOK ((0 : Nat) + Z7) (1 : Nat); let Z10 : List UInt8 := [] ++ (Z3 ++ Z5); let Z11 : Bool := decide ((0 : Nat) + Z7 = List.length Z10) && true; let Z12 : Nat := List.length (Z10 ++ leB Z6 (3 : Nat)); let Z13 : List UInt8 := List.flatMap lBytes (List.drop (0 : Nat) l0); let Z14 : List UInt8 := Z10 ++ leB Z6 (3 : Nat) ++ Z13; let Z15 : Nat × D RC := (1, D.ptr 0 []); let Z16 : List (Nat × D RC) := [(7, D.int .i64 1)]; let Z17 : Option (Obj RC) := some (Obj.var 30 (.acons (D.int .i64 p) (.acons (D.sl RTy.item ci items) (.acons (D.acons (D.sl RTy.line k0 l0) (.acons (D.sl RTy.line k1 l1) (.acons (D.sl RTy.line k2 l2) .anil))) (.acons (D.arr RTy.int (3 : Nat) [c0, c1, c2]) .anil))))); let Z18 : List UInt8 := Z10 ++ leB (0 : Int) (3 : Nat); let Z19 : Nat := List.length Z18; let Z20 : Nat := List.length (Z18 ++ Z13); bif decide (c0 ≤ (9223372036854775807 : Int) ∧ (1 : Int) ≤ (3 : Int) ∧ (3 : Int) ≤ (6 : Int)) && fitsB c0 (3 : Nat) then bif Nat.beq Z0 Z0 then bif sizeOK ((0 : Nat) + Z0) (1 : Nat) then bif decide ((0 : Nat) + Z0 = Z1) && true && decide ((0 : Int) ≤ c0 ∧ c0 ≤ (9223372036854775807 : Int) ∧ (0 : Int) ≤ (3 : Int) ∧ (3 : Int) ≤ (6 : Int) ∧ Z1 ≤ (1000000 : Nat)) then bif lenOK Z2 then bif Nat.beq Z4 Z4 && sizeOK (Z4 + List.length Z5) (1 : Nat) then bif lenOK Z2 then bif decide ((0 : Int) < (↑Z2 : Int)) then bif decide ((0 : Int) ≤ (0 : Int) ∧ (0 : Int) < (↑Z2 : Int)) then bif decide (Z6 ≤ (9223372036854775807 : Int) ∧ (1 : Int) ≤ (3 : Int) ∧ (3 : Int) ≤ (6 : Int)) && fitsB Z6 (3 : Nat) then bif Z8 then bif Z9 then bif Z11 && decide ((0 : Int) ≤ Z6 ∧ Z6 ≤ (9223372036854775807 : Int) ∧ (0 : Int) ≤ (3 : Int) ∧ (3 : Int) ≤ (6 : Int) ∧ List.length Z10 ≤ (1000000 : Nat)) then bif decide (Z12 = Z12) && true && decide (Z2 ≤ (1000 : Nat) ∧ Z12 ≤ (900000 : Nat)) && List.all l0 fitLn then bif Nat.blt Z0 Z14.length then some ((X.normal, Z15 :: (4, D.vs 1 Z14.length) :: Z16), [Z17, some (Obj.vec RTy.u8 true Z14)]) else none else none else none else none else none else none else none else bif Z8 then bif Z9 then bif Z11 && decide ((0 : Int) ≤ (0 : Int) ∧ (0 : Int) ≤ (9223372036854775807 : Int) ∧ (0 : Int) ≤ (3 : Int) ∧ (3 : Int) ≤ (6 : Int) ∧ List.length Z10 ≤ (1000000 : Nat)) then bif decide (Z19 = Z19) && true && decide (Z2 ≤ (1000 : Nat) ∧ Z19 ≤ (900000 : Nat)) && List.all l0 fitLn then bif Nat.blt Z0 Z20 then some ((X.normal, Z15 :: (4, D.vs 1 Z20) :: Z16), [Z17, some (Obj.vec RTy.u8 true (Z18 ++ Z13))]) else none else none else none else none else none else none else none else none else none else none else none else none) := by kernel_rfl
theorem sbQR_eq1 (p : Int) (ci : Bool) (items : List Item) (k0 : Bool) (k1 : Bool) (k2 : Bool) (l0 : List Line) (l1 : List Line) (l2 : List Line) (c0 : Int) (c1 : Int) (c2 : Int) (bs : List UInt8) : sbQR_r p ci items k0 k1 k2 l0 l1 l2 c0 c1 c2 bs 1 = (let Z0 : Nat := List.length bs; let Z1 : Nat := List.length ([] ++ bs); let Z2 : Nat := List.length l1; let Z3 : List UInt8 := [] ++ bs ++ leB c1 (3 : Nat); let Z4 : Nat := List.length Z3; let Z5 : List UInt8 := [UInt8.ofNat (IntKind.wrap IntKind.u8 (↑Z2 : Int)).toNat]; let Z6 : Int := Line.offset (List.getD l1 (0 : Nat) (Line.mk (0 : Int) (0 : Int) (0 : Int) (0 : Int) (0 : Int))); let Z7 : Nat := List.length (Z3 ++ Z5); let Z8 : Bool := Nat.beq (Z4 + List.length Z5) Z7; let Z9 : Bool := sizeOK ((0 : Nat) + Z7) (1 : Nat); let Z10 : List UInt8 := [] ++ (Z3 ++ Z5); let Z11 : Bool := decide ((0 : Nat) + Z7 = List.length Z10) && true; let Z12 : Nat := List.length (Z10 ++ leB Z6 (3 : Nat)); let Z13 : List UInt8 := List.flatMap lBytes (List.drop (0 : Nat) l1); let Z14 : List UInt8 := Z10 ++ leB Z6 (3 : Nat) ++ Z13; let Z15 : Nat × D RC := (1, D.ptr 0 []); let Z16 : List (Nat × D RC) := [(7, D.int .i64 2)]; let Z17 : Option (Obj RC) := some (Obj.var 30 (.acons (D.int .i64 p) (.acons (D.sl RTy.item ci items) (.acons (D.acons (D.sl RTy.line k0 l0) (.acons (D.sl RTy.line k1 l1) (.acons (D.sl RTy.line k2 l2) .anil))) (.acons (D.arr RTy.int (3 : Nat) [c0, c1, c2]) .anil))))); let Z18 : List UInt8 := Z10 ++ leB (0 : Int) (3 : Nat); let Z19 : Nat := List.length Z18; let Z20 : Nat := List.length (Z18 ++ Z13); bif decide (c1 ≤ (9223372036854775807 : Int) ∧ (1 : Int) ≤ (3 : Int) ∧ (3 : Int) ≤ (6 : Int)) && fitsB c1 (3 : Nat) then bif Nat.beq Z0 Z0 then bif sizeOK ((0 : Nat) + Z0) (1 : Nat) then bif decide ((0 : Nat) + Z0 = Z1) && true && decide ((0 : Int) ≤ c1 ∧ c1 ≤ (9223372036854775807 : Int) ∧ (0 : Int) ≤ (3 : Int) ∧ (3 : Int) ≤ (6 : Int) ∧ Z1 ≤ (1000000 : Nat)) then bif lenOK Z2 then bif Nat.beq Z4 Z4 && sizeOK (Z4 + List.length Z5) (1 : Nat) then bif lenOK Z2 then bif decide ((0 : Int) < (↑Z2 : Int)) then bif decide ((0 : Int) ≤ (0 : Int) ∧ (0 : Int) < (↑Z2 : Int)) then bif decide (Z6 ≤ (9223372036854775807 : Int) ∧ (1 : Int) ≤ (3 : Int) ∧ (3 : Int) ≤ (6 : Int)) && fitsB Z6 (3 : Nat) then bif Z8 then bif Z9 then bif Z11 && decide ((0 : Int) ≤ Z6 ∧ Z6 ≤ (9223372036854775807 : Int) ∧ (0 : Int) ≤ (3 : Int) ∧ (3 : Int) ≤ (6 : Int) ∧ List.length Z10 ≤ (1000000 : Nat)) then bif decide (Z12 = Z12) && true && decide (Z2 ≤ (1000 : Nat) ∧ Z12 ≤ (900000 : Nat)) && List.all l1 fitLn then bif Nat.blt Z0 Z14.length then some ((X.normal, Z15 :: (4, D.vs 1 Z14.length) :: Z16), [Z17, some (Obj.vec RTy.u8 true Z14)]) else none else none else none else none else none else none else none else bif Z8 then bif Z9 then bif Z11 && decide ((0 : Int) ≤ (0 : Int) ∧ (0 : Int) ≤ (9223372036854775807 : Int) ∧ (0 : Int) ≤ (3 : Int) ∧ (3 : Int) ≤ (6 : Int) ∧ List.length Z10 ≤ (1000000 : Nat)) then bif decide (Z19 = Z19) && true && decide (Z2 ≤ (1000 : Nat) ∧ Z19 ≤ (900000 : Nat)) && List.all l1 fitLn then bif Nat.blt Z0 Z20 then some ((X.normal, Z15 :: (4, D.vs 1 Z20) :: Z16), [Z17, some (Obj.vec RTy.u8 true (Z18 ++ Z13))]) else none else none else none else none else none else none else none else none else none else none else none else none) := by kernel_rfl
theorem sbQR_eq2 (p : Int) (ci : Bool) (items : List Item) (k0 : Bool) (k1 : Bool) (k2 : Bool) (l0 : List Line) (l1 : List Line) (l2 : List Line) (c0 : Int) (c1 : Int) (c2 : Int) (bs : List UInt8) : sbQR_r p ci items k0 k1 k2 l0 l1 l2 c0 c1 c2 bs 2 = (let Z0 : Nat := List.length bs; let Z1 : Nat := List.length ([] ++ bs); let Z2 : Nat := List.length l2; let Z3 : List UInt8 := [] ++ bs ++ leB c2 (3 : Nat); let Z4 : Nat := List.length Z3; let Z5 : List UInt8 := [UInt8.ofNat (IntKind.wrap IntKind.u8 (↑Z2 : Int)).toNat]; let Z6 : Int := Line.offset (List.getD l2 (0 : Nat) (Line.mk (0 : Int) (0 : Int) (0 : Int) (0 : Int) (0 : Int))); let Z7 : Nat := List.length (Z3 ++ Z5); let Z8 : Bool := Nat.beq (Z4 + List.length Z5) Z7; let Z9 : Bool := sizeOK ((0 : Nat) + Z7) (1 : Nat); let Z10 : List UInt8 := [] ++ (Z3 ++ Z5); let Z11 : Bool := decide ((0 : Nat) + Z7 = List.length Z10) && true; let Z12 : Nat := List.length (Z10 ++ leB Z6 (3 : Nat)); let Z13 : List UInt8 := List.flatMap lBytes (List.drop (0 : Nat) l2); let Z14 : List UInt8 := Z10 ++ leB Z6 (3 : Nat) ++ Z13; let Z15 : Nat × D RC := (1, D.ptr 0 []); let Z16 : List (Nat × D RC) := [(7, D.int .i64 3)]; let Z17 : Option (Obj RC) := some (Obj.var 30 (.acons (D.int .i64 p) (.acons (D.sl RTy.item ci items) (.acons (D.acons (D.sl RTy.line k0 l0) (.acons (D.sl RTy.line k1 l1) (.acons (D.sl RTy.line k2 l2) .anil))) (.acons (D.arr RTy.int (3 : Nat) [c0, c1, c2]) .anil))))); let Z18 : List UInt8 := Z10 ++ leB (0 : Int) (3 : Nat); let Z19 : Nat := List.length Z18; let Z20 : Nat := List.length (Z18 ++ Z13); bif decide (c2 ≤ (9223372036854775807 : Int) ∧ (1 : Int) ≤ (3 : Int) ∧ (3 : Int) ≤ (6 : Int)) && fitsB c2 (3 : Nat) then bif Nat.beq Z0 Z0 then bif sizeOK ((0 : Nat) + Z0) (1 : Nat) then bif decide ((0 : Nat) + Z0 = Z1) && true && decide ((0 : Int) ≤ c2 ∧ c2 ≤ (9223372036854775807 : Int) ∧ (0 : Int) ≤ (3 : Int) ∧ (3 : Int) ≤ (6 : Int) ∧ Z1 ≤ (1000000 : Nat)) then bif lenOK Z2 then bif Nat.beq Z4 Z4 && sizeOK (Z4 + List.length Z5) (1 : Nat) then bif lenOK Z2 then bif decide ((0 : Int) < (↑Z2 : Int)) then bif decide ((0 : Int) ≤ (0 : Int) ∧ (0 : Int) < (↑Z2 : Int)) then bif decide (Z6 ≤ (9223372036854775807 : Int) ∧ (1 : Int) ≤ (3 : Int) ∧ (3 : Int) ≤ (6 : Int)) && fitsB Z6 (3 : Nat) then bif Z8 then bif Z9 then bif Z11 && decide ((0 : Int) ≤ Z6 ∧ Z6 ≤ (9223372036854775807 : Int) ∧ (0 : Int) ≤ (3 : Int) ∧ (3 : Int) ≤ (6 : Int) ∧ List.length Z10 ≤ (1000000 : Nat)) then bif decide (Z12 = Z12) && true && decide (Z2 ≤ (1000 : Nat) ∧ Z12 ≤ (900000 : Nat)) && List.all l2 fitLn then bif Nat.blt Z0 Z14.length then some ((X.normal, Z15 :: (4, D.vs 1 Z14.length) :: Z16), [Z17, some (Obj.vec RTy.u8 true Z14)]) else none else none else none else none else none else none else none else bif Z8 then bif Z9 then bif Z11 && decide ((0 : Int) ≤ (0 : Int) ∧ (0 : Int) ≤ (9223372036854775807 : Int) ∧ (0 : Int) ≤ (3 : Int) ∧ (3 : Int) ≤ (6 : Int) ∧ List.length Z10 ≤ (1000000 : Nat)) then bif decide (Z19 = Z19) && true && decide (Z2 ≤ (1000 : Nat) ∧ Z19 ≤ (900000 : Nat)) && List.all l2 fitLn then bif Nat.blt Z0 Z20 then some ((X.normal, Z15 :: (4, D.vs 1 Z20) :: Z16), [Z17, some (Obj.vec RTy.u8 true (Z18 ++ Z13))]) else none else none else none else none else none else none else none else none else none else none else none else none) := by kernel_rfl
theorem sbQR_eq3 (p : Int) (ci : Bool) (items : List Item) (k0 : Bool) (k1 : Bool) (k2 : Bool) (l0 : List Line) (l1 : List Line) (l2 : List Line) (c0 : Int) (c1 : Int) (c2 : Int) (bs : List UInt8) : sbQR_r p ci items k0 k1 k2 l0 l1 l2 c0 c1 c2 bs 3 = (some ((X.exit (2 : Nat), [(4, D.vs 1 bs.length)]), [some (Obj.var 30 (.acons (D.int .i64 p) (.acons (D.sl RTy.item ci items) (.acons (D.acons (D.sl RTy.line k0 l0) (.acons (D.sl RTy.line k1 l1) (.acons (D.sl RTy.line k2 l2) .anil))) (.acons (D.arr RTy.int (3 : Nat) [c0, c1, c2]) .anil))))), some (Obj.vec RTy.u8 true bs)])) := by kernel_rfl
def sbQR_fin (p : Int) (ci : Bool) (items : List Item) (k0 : Bool) (k1 : Bool) (k2 : Bool) (l0 : List Line) (l1 : List Line) (l2 : List Line) (c0 : Int) (c1 : Int) (c2 : Int) (bs : List UInt8) (q : Nat) : RT RC := .leaf (.exit 2) [(4, .vs 1 (bs ++ partsFrom ⟨p, items, l0, l1, l2, c0, c1, c2⟩ q).length)] [.var 30 (.acons (.int .i64 p) (.acons (.sl (C := RC) .item ci items) (.acons (.acons (.sl (C := RC) .line k0 l0) (.acons (.sl (C := RC) .line k1 l1) (.acons (.sl (C := RC) .line k2 l2) .anil))) (.acons (.arr (C := RC) .int 3 [c0, c1, c2]) .anil)))), .vec (C := RC) .u8 true (bs ++ partsFrom ⟨p, items, l0, l1, l2, c0, c1, c2⟩ q)]
def sbQR_Inv (p : Int) (ci : Bool) (items : List Item) (k0 : Bool) (k1 : Bool) (k2 : Bool) (l0 : List Line) (l1 : List Line) (l2 : List Line) (c0 : Int) (c1 : Int) (c2 : Int) (bs : List UInt8) (q : Nat) : Prop := q ≤ 3 ∧ bs.length ≤ 10000 + 100 * q ∧ partFit c0 l0 = true ∧ partFit c1 l1 = true ∧ partFit c2 l2 = true
def sbQR_S : LoopR RC sbQR_St where
  k := 2
  canon q := sbQR_c q.p q.ci q.items q.k0 q.k1 q.k2 q.l0 q.l1 q.l2 q.c0 q.c1 q.c2 q.bs q.q
  objs q := sbQR_o q.p q.ci q.items q.k0 q.k1 q.k2 q.l0 q.l1 q.l2 q.c0 q.c1 q.c2 q.bs q.q
  fin q := sbQR_fin q.p q.ci q.items q.k0 q.k1 q.k2 q.l0 q.l1 q.l2 q.c0 q.c1 q.c2 q.bs q.q
  Inv q := sbQR_Inv q.p q.ci q.items q.k0 q.k1 q.k2 q.l0 q.l1 q.l2 q.c0 q.c1 q.c2 q.bs q.q
  μ q := 3 - q.q
theorem sbQR_round (p : Int) (ci : Bool) (items : List Item) (k0 : Bool) (k1 : Bool) (k2 : Bool) (l0 : List Line) (l1 : List Line) (l2 : List Line) (c0 : Int) (c1 : Int) (c2 : Int) (bs : List UInt8) (q : Nat) (hI : sbQR_Inv p ci items k0 k1 k2 l0 l1 l2 c0 c1 c2 bs q) : Leaf (sbQR_r p ci items k0 k1 k2 l0 l1 l2 c0 c1 c2 bs q) (LedR sbQR_S ⟨p, ci, items, k0, k1, k2, l0, l1, l2, c0, c1, c2, bs, q⟩) := by
  unfold sbQR_Inv at hI
  obtain ⟨h1, h2, f0, f1, f2⟩ := hI
  have nblt : ∀ {a b : Nat}, a < b → Nat.blt a b = true := fun h => by simpa [Nat.blt_eq] using h
  have eb : ∀ n : Nat, n.beq n = true := fun n => by simp
  have t3 : (3 : Int).toNat - 0 = 3 := rfl
  by_cases h3 : q = 3
  · subst h3
    rw [sbQR_eq3]
    exact leafR_exit (sbQR_o p ci items k0 k1 k2 l0 l1 l2 c0 c1 c2 bs 3) (by simp only [sbQR_S, sbQR_fin, sbQR_o, partsFrom, RT.val, List.append_nil]) rfl
  by_cases e0 : q = 0
  · subst e0
    (rw [sbQR_eq0]; conv => zeta)
    obtain ⟨hc, hl, hfit, ho⟩ := partFit_iff.1 f0
    have hlk : lenOK l0.length = true := lenOK_of (by omega)
    have fc : fitsB c0 3 = true := fits3 (by rw [withinB_iff]; omega)
    have hb : UInt8.ofNat (IntKind.u8.wrap (l0.length : Int)).toNat = byteOf l0.length := rfl
    have sl := flatMap_len l0 lBytes 5 lBytes_len
    unfold firstOff at ho
    have fo : fitsB (l0.getD 0 ⟨0, 0, 0, 0, 0⟩).offset 3 = true := fits3 (by rw [withinB_iff]; omega)
    simp only [hlk, fc, fo, hb, hfit, t3, List.length_append, List.length_cons, List.length_nil, leB_length, sl, eb, Nat.zero_add, List.nil_append, Bool.and_self, Bool.and_true, cond_true, List.drop_zero]
    by_cases hp : 0 < l0.length
    · simp (disch := omega) only [decide_eq_true, sizeT, nblt, cond_true, Bool.and_self]
      refine leafR_go ⟨p, ci, items, k0, k1, k2, l0, l1, l2, c0, c1, c2, bs ++ partBytes c0 l0, 1⟩ (by refine ⟨by simp, ?_, f0, f1, f2⟩; simp [partBytes, leB_length, sl]; omega) (by simp only [sbQR_S]; omega) ?_ (by simp [sbQR_S, sbQR_c, partBytes, leB_length, sl, leB1, firstOff]; omega) (by simp [sbQR_S, sbQR_o, partBytes, leB1, firstOff])
      simp only [sbQR_S, sbQR_fin, partsFrom, List.append_assoc, List.append_nil]
    · have e : l0 = [] := by cases hq : l0 with
        | nil => rfl
        | cons _ _ => rw [hq] at hp; simp at hp
      simp (disch := omega) only [decide_eq_true, decide_eq_false, sizeT, nblt, cond_true, cond_false, Bool.and_self]
      refine leafR_go ⟨p, ci, items, k0, k1, k2, l0, l1, l2, c0, c1, c2, bs ++ partBytes c0 l0, 1⟩ (by refine ⟨by simp, ?_, f0, f1, f2⟩; simp [partBytes, leB_length, sl]; omega) (by simp only [sbQR_S]; omega) ?_ (by simp [sbQR_S, sbQR_c, partBytes, leB_length, sl, leB1, firstOff, e]) (by simp [sbQR_S, sbQR_o, partBytes, leB1, firstOff, e])
      simp only [sbQR_S, sbQR_fin, partsFrom, List.append_assoc, List.append_nil]
  by_cases e1 : q = 1
  · subst e1
    (rw [sbQR_eq1]; conv => zeta)
    obtain ⟨hc, hl, hfit, ho⟩ := partFit_iff.1 f1
    have hlk : lenOK l1.length = true := lenOK_of (by omega)
    have fc : fitsB c1 3 = true := fits3 (by rw [withinB_iff]; omega)
    have hb : UInt8.ofNat (IntKind.u8.wrap (l1.length : Int)).toNat = byteOf l1.length := rfl
    have sl := flatMap_len l1 lBytes 5 lBytes_len
    unfold firstOff at ho
    have fo : fitsB (l1.getD 0 ⟨0, 0, 0, 0, 0⟩).offset 3 = true := fits3 (by rw [withinB_iff]; omega)
    simp only [hlk, fc, fo, hb, hfit, t3, List.length_append, List.length_cons, List.length_nil, leB_length, sl, eb, Nat.zero_add, List.nil_append, Bool.and_self, Bool.and_true, cond_true, List.drop_zero]
    by_cases hp : 0 < l1.length
    · simp (disch := omega) only [decide_eq_true, sizeT, nblt, cond_true, Bool.and_self]
      refine leafR_go ⟨p, ci, items, k0, k1, k2, l0, l1, l2, c0, c1, c2, bs ++ partBytes c1 l1, 2⟩ (by refine ⟨by simp, ?_, f0, f1, f2⟩; simp [partBytes, leB_length, sl]; omega) (by simp only [sbQR_S]; omega) ?_ (by simp [sbQR_S, sbQR_c, partBytes, leB_length, sl, leB1, firstOff]; omega) (by simp [sbQR_S, sbQR_o, partBytes, leB1, firstOff])
      simp only [sbQR_S, sbQR_fin, partsFrom, List.append_assoc, List.append_nil]
    · have e : l1 = [] := by cases hq : l1 with
        | nil => rfl
        | cons _ _ => rw [hq] at hp; simp at hp
      simp (disch := omega) only [decide_eq_true, decide_eq_false, sizeT, nblt, cond_true, cond_false, Bool.and_self]
      refine leafR_go ⟨p, ci, items, k0, k1, k2, l0, l1, l2, c0, c1, c2, bs ++ partBytes c1 l1, 2⟩ (by refine ⟨by simp, ?_, f0, f1, f2⟩; simp [partBytes, leB_length, sl]; omega) (by simp only [sbQR_S]; omega) ?_ (by simp [sbQR_S, sbQR_c, partBytes, leB_length, sl, leB1, firstOff, e]) (by simp [sbQR_S, sbQR_o, partBytes, leB1, firstOff, e])
      simp only [sbQR_S, sbQR_fin, partsFrom, List.append_assoc, List.append_nil]
  by_cases e2 : q = 2
  · subst e2
    (rw [sbQR_eq2]; conv => zeta)
    obtain ⟨hc, hl, hfit, ho⟩ := partFit_iff.1 f2
    have hlk : lenOK l2.length = true := lenOK_of (by omega)
    have fc : fitsB c2 3 = true := fits3 (by rw [withinB_iff]; omega)
    have hb : UInt8.ofNat (IntKind.u8.wrap (l2.length : Int)).toNat = byteOf l2.length := rfl
    have sl := flatMap_len l2 lBytes 5 lBytes_len
    unfold firstOff at ho
    have fo : fitsB (l2.getD 0 ⟨0, 0, 0, 0, 0⟩).offset 3 = true := fits3 (by rw [withinB_iff]; omega)
    simp only [hlk, fc, fo, hb, hfit, t3, List.length_append, List.length_cons, List.length_nil, leB_length, sl, eb, Nat.zero_add, List.nil_append, Bool.and_self, Bool.and_true, cond_true, List.drop_zero]
    by_cases hp : 0 < l2.length
    · simp (disch := omega) only [decide_eq_true, sizeT, nblt, cond_true, Bool.and_self]
      refine leafR_go ⟨p, ci, items, k0, k1, k2, l0, l1, l2, c0, c1, c2, bs ++ partBytes c2 l2, 3⟩ (by refine ⟨by simp, ?_, f0, f1, f2⟩; simp [partBytes, leB_length, sl]; omega) (by simp only [sbQR_S]; omega) ?_ (by simp [sbQR_S, sbQR_c, partBytes, leB_length, sl, leB1, firstOff]; omega) (by simp [sbQR_S, sbQR_o, partBytes, leB1, firstOff])
      simp only [sbQR_S, sbQR_fin, partsFrom, List.append_assoc, List.append_nil]
    · have e : l2 = [] := by cases hq : l2 with
        | nil => rfl
        | cons _ _ => rw [hq] at hp; simp at hp
      simp (disch := omega) only [decide_eq_true, decide_eq_false, sizeT, nblt, cond_true, cond_false, Bool.and_self]
      refine leafR_go ⟨p, ci, items, k0, k1, k2, l0, l1, l2, c0, c1, c2, bs ++ partBytes c2 l2, 3⟩ (by refine ⟨by simp, ?_, f0, f1, f2⟩; simp [partBytes, leB_length, sl]; omega) (by simp only [sbQR_S]; omega) ?_ (by simp [sbQR_S, sbQR_c, partBytes, leB_length, sl, leB1, firstOff, e]) (by simp [sbQR_S, sbQR_o, partBytes, leB1, firstOff, e])
      simp only [sbQR_S, sbQR_fin, partsFrom, List.append_assoc, List.append_nil]
  omega
def sbQR_d (env : Env RC) (os : List (Obj RC)) : Option (Bool × sbQR_St) := match env, os with
  | [(1, .ptr 0 []), (4, .vs 1 x0), (7, .int .i64 x1)], [.var 30 (.acons (.int .i64 p) (.acons (.sl .item ci items) (.acons (.acons (.sl .line k0 l0) (.acons (.sl .line k1 l1) (.acons (.sl .line k2 l2) .anil))) (.acons (.arr .int 3 [c0, c1, c2]) .anil)))), .vec .u8 true bs] => staticD (true) (decide (x0 = bs.length) && decide (x1 = 0) && decide (bs.length ≤ 10000) && (partFit c0 l0 && partFit c1 l1 && partFit c2 l2), ⟨p, ci, items, k0, k1, k2, l0, l1, l2, c0, c1, c2, bs, 0⟩)
  | _, _ => none
noncomputable def uj_3 := uj_2.addLoop 40 12 (sumR s07 [.slot 1 0, .slot 4 0] [1, 4, 7] sbQR_S sbQR_d)
theorem uj_3_laws : FLaws Try.prog s07 uj_3 := by
  refine uj_2_laws.addRoundsR s07_laws (by kernel_rfl) sbQR_S 60 [1, 4, 7] [4] [.slot 1 0, .slot 4 0] [1, 4, 7] sbQR_d (fun q hI => ?_) ?_
  · obtain ⟨p, ci, items, k0, k1, k2, l0, l1, l2, c0, c1, c2, bs, q⟩ := q
    refine ⟨?_, ?_, sbQR_round p ci items k0 k1 k2 l0 l1 l2 c0 c1 c2 bs q hI⟩
    · simp_all [RefsOK, sbQR_S, sbQR_c, sbQR_o, sbQR_Inv, D.refs, Obj.refs, rEnc]
    · simp_all [sbQR_S, sbQR_fin, sbQR_o, sbQR_Inv, RT.refsOK, RefsOK, D.refs, Obj.refs, rEnc]
  · intro env os b q hd_ hb
    unfold sbQR_d at hd_
    split at hd_
    · obtain ⟨hs, hd_⟩ := staticD_some hd_
      cases hd_
      simp only [Bool.and_eq_true, decide_eq_true_eq] at hb
      obtain ⟨⟨⟨rfl, rfl⟩, hl⟩, ha⟩ := hb
      exact ⟨⟨Nat.zero_le _, hl, ha.1.1, ha.1.2, ha.2⟩, rfl, rfl⟩
    · cases hd_
def stateBytesRf_s (p : Int) (ci : Bool) (items : List Item) (k0 : Bool) (k1 : Bool) (k2 : Bool) (l0 : List Line) (l1 : List Line) (l2 : List Line) (c0 : Int) (c1 : Int) (c2 : Int) : Option (Bool × D RC) := some (decide (items.length ≤ 9223372036854775807 ∧ l0.length ≤ 9223372036854775807 ∧ l1.length ≤ 9223372036854775807 ∧ l2.length ≤ 9223372036854775807), .tup (.acons (.sl (C := RC) .u8 (!standsOK ⟨p, items, l0, l1, l2, c0, c1, c2⟩) (bif standsOK ⟨p, items, l0, l1, l2, c0, c1, c2⟩ then stBytes ⟨p, items, l0, l1, l2, c0, c1, c2⟩ else [])) (.acons (.int .i64 (bif standsOK ⟨p, items, l0, l1, l2, c0, c1, c2⟩ then 0 else 2)) .anil)))
def stateBytesRf_sp : List (D RC) → Option (Bool × D RC)
  | [.acons (.int .i64 p) (.acons (.sl .item ci items) (.acons (.acons (.sl .line k0 l0) (.acons (.sl .line k1 l1) (.acons (.sl .line k2 l2) .anil))) (.acons (.arr .int 3 [c0, c1, c2]) .anil)))] => stateBytesRf_s p ci items k0 k1 k2 l0 l1 l2 c0 c1 c2
  | _ => none
noncomputable def stateBytesRf_e (p : Int) (ci : Bool) (items : List Item) (k0 : Bool) (k1 : Bool) (k2 : Bool) (l0 : List Line) (l1 : List Line) (l2 : List Line) (c0 : Int) (c1 : Int) (c2 : Int) := evF s07 uj_3 40 40 [.acons (.int .i64 p) (.acons (.sl (C := RC) .item ci items) (.acons (.acons (.sl (C := RC) .line k0 l0) (.acons (.sl (C := RC) .line k1 l1) (.acons (.sl (C := RC) .line k2 l2) .anil))) (.acons (.arr (C := RC) .int 3 [c0, c1, c2]) .anil)))]
theorem stateBytesRf_eq (p : Int) (ci : Bool) (items : List Item) (k0 : Bool) (k1 : Bool) (k2 : Bool) (l0 : List Line) (l1 : List Line) (l2 : List Line) (c0 : Int) (c1 : Int) (c2 : Int) : stateBytesRf_e p ci items k0 k1 k2 l0 l1 l2 c0 c1 c2 = (let Z0 : Nat := List.length items; let Z1 : St := St.mk p items l0 l1 l2 c0 c1 c2; let Z2 : List UInt8 := [] ++ [] ++ leB p (3 : Nat); let Z3 : List UInt8 := [UInt8.ofNat (IntKind.wrap IntKind.u8 (↑Z0 : Int)).toNat]; let Z4 : Nat := List.length (Z2 ++ Z3); let Z5 : List UInt8 := Z2 ++ Z3 ++ List.flatMap iBytes (List.drop (0 : Nat) items); let Z6 : Nat := List.length Z5; let Z7 : List UInt8 := Z5 ++ partsFrom Z1 (0 : Nat); bif decide (Z0 ≤ (9223372036854775807 : Nat) ∧ List.length l0 ≤ (9223372036854775807 : Nat) ∧ List.length l1 ≤ (9223372036854775807 : Nat) ∧ List.length l2 ≤ (9223372036854775807 : Nat)) then bif !standsOK Z1 then some (D.tup (D.acons (D.sl RTy.u8 true []) (.acons (D.int .i64 2) .anil))) else bif decide (p ≤ (9223372036854775807 : Int) ∧ (1 : Int) ≤ (3 : Int) ∧ (3 : Int) ≤ (6 : Int)) && fitsB p (3 : Nat) then bif decide ((0 : Int) ≤ p ∧ p ≤ (9223372036854775807 : Int) ∧ (0 : Int) ≤ (3 : Int) ∧ (3 : Int) ≤ (6 : Int) ∧ (0 : Nat) ≤ (1000000 : Nat)) then bif lenOK Z0 then bif decide (List.length Z2 + List.length Z3 = Z4) && true && decide (Z0 ≤ (1000 : Nat) ∧ Z4 ≤ (900000 : Nat)) && List.all items fitI then bif decide (Z6 = Z6) && true && decide (Z6 ≤ (10000 : Nat)) && (partFit c0 l0 && partFit c1 l1 && partFit c2 l2) then bif Nat.beq Z7.length Z7.length then some (D.tup (D.acons (D.sl RTy.u8 false Z7) (.acons (D.int .i64 0) .anil))) else none else none else none else none else none else none else none) := by kernel_rfl
theorem stateBytesRf_ok (p : Int) (ci : Bool) (items : List Item) (k0 : Bool) (k1 : Bool) (k2 : Bool) (l0 : List Line) (l1 : List Line) (l2 : List Line) (c0 : Int) (c1 : Int) (c2 : Int) (h : (decide (items.length ≤ 9223372036854775807 ∧ l0.length ≤ 9223372036854775807 ∧ l1.length ≤ 9223372036854775807 ∧ l2.length ≤ 9223372036854775807)) = true) : stateBytesRf_e p ci items k0 k1 k2 l0 l1 l2 c0 c1 c2 = some (.tup (.acons (.sl (C := RC) .u8 (!standsOK ⟨p, items, l0, l1, l2, c0, c1, c2⟩) (bif standsOK ⟨p, items, l0, l1, l2, c0, c1, c2⟩ then stBytes ⟨p, items, l0, l1, l2, c0, c1, c2⟩ else [])) (.acons (.int .i64 (bif standsOK ⟨p, items, l0, l1, l2, c0, c1, c2⟩ then 0 else 2)) .anil))) := by
  (rw [stateBytesRf_eq]; conv => zeta)
  obtain ⟨h, h0, h1, h2⟩ := of_decide_eq_true h
  rw [decide_eq_true (show (items.length ≤ 9223372036854775807 ∧ l0.length ≤ 9223372036854775807 ∧ l1.length ≤ 9223372036854775807 ∧ l2.length ≤ 9223372036854775807) from ⟨h, h0, h1, h2⟩)]
  cases hm : standsOK ⟨p, items, l0, l1, l2, c0, c1, c2⟩
  · rfl
  · obtain ⟨hp, hil, hif, q0, q1, q2⟩ := stands_facts hm
    have fp : fitsB p 3 = true := fits3 (by rw [withinB_iff]; omega)
    have b := lenOK_of h
    have hb : UInt8.ofNat (IntKind.u8.wrap (items.length : Int)).toNat = byteOf items.length := rfl
    have sI := flatMap_len items iBytes 5 iBytes_len
    have eb : ∀ n : Nat, n.beq n = true := fun n => by simp
    have t3 : (3 : Int).toNat - 0 = 3 := rfl
    simp only [fp, b, hb, hif, partFit_iff.2 q0, partFit_iff.2 q1, partFit_iff.2 q2, t3, List.length_append, List.length_cons, List.length_nil, leB_length, sI, eb, Nat.zero_add, List.nil_append, Bool.and_self, Bool.and_true, Bool.not_true, cond_true, cond_false, List.drop_zero]
    simp (disch := omega) only [decide_eq_true, sizeT, cond_true, Bool.and_self]
    simp [stBytes, leB1, partsFrom]
noncomputable def uj_4 := uj_3.addSpec 40 stateBytesRf_sp
theorem uj_4_laws : FLaws Try.prog s07 uj_4 := uj_3_laws.addEv s07_laws fun args d h => by
  unfold stateBytesRf_sp at h
  split at h
  · unfold stateBytesRf_s at h
    have h1 := congrArg Prod.fst (Option.some.inj h)
    obtain rfl : _ = d := congrArg Prod.snd (Option.some.inj h)
    exact ⟨by simp [D.refs], 40, stateBytesRf_ok _ _ _ _ _ _ _ _ _ _ _ _ h1⟩
  · cases h
structure Rd where
  c : Bool
  b : List UInt8
  bad : Bool
def rget (w : Nat) (r : Rd) : Int × Rd := if w ≤ r.b.length then ((leVal (r.b.take w) : Int), ⟨r.c, r.b.drop w, r.bad⟩) else (0, ⟨true, [], true⟩)
theorem rget_ok {w : Nat} {c bad : Bool} {b : List UInt8} (h : w ≤ b.length) : rget w ⟨c, b, bad⟩ = ((leVal (b.take w) : Int), ⟨c, b.drop w, bad⟩) := by simp [rget, h]
theorem rget_no {w : Nat} {c bad : Bool} {b : List UInt8} (h : b.length < w) : rget w ⟨c, b, bad⟩ = (0, ⟨true, [], true⟩) := by simp [rget, Nat.not_le.2 h]
theorem getP_snd1 (b : List UInt8) : ((getP b 0 1).2 != 0) = decide (b.length < 1) := by
  by_cases h : b.length < 1
  · have : ¬ ((1 : Int) ≤ b.length) := by omega
    simp only [getP, h]; simp [this]
  · have : ((1 : Int) ≤ b.length) := by omega
    simp only [getP, h]; simp [this]
theorem getP_snd3 (b : List UInt8) : ((getP b 0 3).2 != 0) = decide (b.length < 3) := by
  by_cases h : b.length < 3
  · have : ¬ ((3 : Int) ≤ b.length) := by omega
    simp only [getP, h]; simp [this]
  · have : ((3 : Int) ≤ b.length) := by omega
    simp only [getP, h]; simp [this]
theorem getP_fst1 {b : List UInt8} (h : ¬ b.length < 1) : (getP b 0 1).1 = (leVal (b.take 1) : Int) := by
  have : ((1 : Int) ≤ b.length) := by omega
  simp only [getP]; simp [this]
theorem getP_fst3 {b : List UInt8} (h : ¬ b.length < 3) : (getP b 0 3).1 = (leVal (b.take 3) : Int) := by
  have : ((3 : Int) ≤ b.length) := by omega
  simp only [getP]; simp [this]
theorem leVal_take1 {b : List UInt8} (h : 1 ≤ b.length) : leVal (b.take 1) = (b.getD 0 0).toNat := by
  cases b with
  | nil => simp at h
  | cons x t => simp [leVal]
theorem rget_bad {w : Nat} {r : Rd} (h : r.bad = true) : (rget w r).2.bad = true := by
  unfold rget; split <;> simp [h]
def sget (w : Nat) (b : List UInt8) : Option (Int × List UInt8) := if w ≤ b.length then some ((leVal (b.take w) : Int), b.drop w) else none
def sItems : Nat → List UInt8 → Option (List Item × List UInt8)
  | 0, b => some ([], b)
  | n + 1, b => (sget 1 b).bind fun k => (sget 3 k.2).bind fun p => (sget 1 p.2).bind fun v => (sItems n v.2).bind fun q => some (⟨k.1, p.1, v.1⟩ :: q.1, q.2)
def sLines : Nat → Int → List UInt8 → Option (List Line × List UInt8)
  | 0, _, b => some ([], b)
  | n + 1, o, b => (sget 3 b).bind fun p => (sget 1 p.2).bind fun x => (sget 1 x.2).bind fun v => (sLines n (o + 1) v.2).bind fun q => some (⟨o, p.1, x.1 % 16, x.1 / 16, v.1⟩ :: q.1, q.2)
def sPart (b : List UInt8) : Option ((Int × List Line) × List UInt8) :=
  (sget 3 b).bind fun c => (sget 1 c.2).bind fun n => (sget 3 n.2).bind fun f => if n.1 = 0 ∧ f.1 ≠ 0 then none else (sLines n.1.toNat f.1 f.2).bind fun q => some ((c.1, q.1), q.2)
def readS (b : List UInt8) : Option St :=
  (sget 3 b).bind fun p => (sget 1 p.2).bind fun n => (sItems n.1.toNat n.2).bind fun it => (sPart it.2).bind fun x => (sPart x.2).bind fun y => (sPart y.2).bind fun z =>
    if z.2 = [] ∧ standsOK ⟨p.1, it.1, x.1.2, y.1.2, z.1.2, x.1.1, y.1.1, z.1.1⟩ = true then some ⟨p.1, it.1, x.1.2, y.1.2, z.1.2, x.1.1, y.1.1, z.1.1⟩ else none
structure Rdr (σ : Type) where
  get : Nat → σ → Int × σ
  bad : σ → Bool
  rem : σ → List UInt8
structure RdrOK {σ : Type} (R : Rdr σ) : Prop where
  ok : ∀ w s, 1 ≤ w → R.bad s = false → w ≤ (R.rem s).length → (R.get w s).1 = (leVal ((R.rem s).take w) : Int) ∧ R.rem (R.get w s).2 = (R.rem s).drop w ∧ R.bad (R.get w s).2 = false
  no : ∀ w s, R.bad s = false → (R.rem s).length < w → R.bad (R.get w s).2 = true
  stay : ∀ w s, R.bad s = true → R.bad (R.get w s).2 = true
section
variable {σ : Type} (R : Rdr σ)
def Agree {α : Type} (o : Option (α × List UInt8)) (v : α) (s : σ) : Prop := match o with
  | some q => v = q.1 ∧ R.rem s = q.2 ∧ R.bad s = false
  | none => R.bad s = true
variable {R} (K : RdrOK R)
include K
theorem agree_get (w : Nat) (s : σ) (h : R.bad s = false) (h1 : 1 ≤ w := by decide) : Agree R (sget w (R.rem s)) (R.get w s).1 (R.get w s).2 := by
  unfold sget
  by_cases hw : w ≤ (R.rem s).length
  · rw [if_pos hw]; exact K.ok w s h1 h hw
  · rw [if_neg hw]; exact K.no w s h (by omega)
omit K in
theorem agree_bind {α β : Type} {o : Option (α × List UInt8)} {v : α} {s s' : σ} {w : β} (f : α × List UInt8 → Option (β × List UInt8)) (h : Agree R o v s) (hs : R.bad s = true → R.bad s' = true) (hf : R.bad s = false → Agree R (f (v, R.rem s)) w s') : Agree R (o.bind f) w s' := by
  cases o with
  | none => exact hs h
  | some q =>
    obtain ⟨h1, h2, h3⟩ := h
    have := hf h3
    rw [h1, h2] at this
    exact this
def gItems (R : Rdr σ) (stop : Bool) : Nat → σ → σ × List Item
  | 0, s => (s, [])
  | n + 1, s => bif stop && R.bad s then (s, []) else
    let k := R.get 1 s
    let p := R.get 3 k.2
    let v := R.get 1 p.2
    let q := gItems R stop n v.2
    (q.1, ⟨k.1, p.1, v.1⟩ :: q.2)
def gLines (R : Rdr σ) (stop : Bool) : Nat → Int → σ → σ × List Line
  | 0, _, s => (s, [])
  | n + 1, o, s => bif stop && R.bad s then (s, []) else
    let p := R.get 3 s
    let x := R.get 1 p.2
    let v := R.get 1 x.2
    let q := gLines R stop n (o + 1) v.2
    (q.1, ⟨o, p.1, x.1 % 16, x.1 / 16, v.1⟩ :: q.2)
theorem gItems_stay (stop : Bool) : ∀ (n : Nat) (s : σ), R.bad s = true → R.bad (gItems R stop n s).1 = true
  | 0, s, h => h
  | n + 1, s, h => by
    cases stop with
    | true => simp [gItems, h]
    | false =>
      simp only [gItems, Bool.false_and, cond_false]
      exact gItems_stay false n _ (K.stay _ _ (K.stay _ _ (K.stay _ _ h)))
theorem gLines_stay (stop : Bool) : ∀ (n : Nat) (o : Int) (s : σ), R.bad s = true → R.bad (gLines R stop n o s).1 = true
  | 0, o, s, h => h
  | n + 1, o, s, h => by
    cases stop with
    | true => simp [gLines, h]
    | false =>
      simp only [gLines, Bool.false_and, cond_false]
      exact gLines_stay false n _ _ (K.stay _ _ (K.stay _ _ (K.stay _ _ h)))
theorem gItems_agree (stop : Bool) : ∀ (n : Nat) (s : σ), R.bad s = false → Agree R (sItems n (R.rem s)) (gItems R stop n s).2 (gItems R stop n s).1
  | 0, s, h => ⟨rfl, rfl, h⟩
  | n + 1, s, h => by
    have e : gItems R stop (n + 1) s = ((gItems R stop n (R.get 1 (R.get 3 (R.get 1 s).2).2).2).1, ⟨(R.get 1 s).1, (R.get 3 (R.get 1 s).2).1, (R.get 1 (R.get 3 (R.get 1 s).2).2).1⟩ :: (gItems R stop n (R.get 1 (R.get 3 (R.get 1 s).2).2).2).2) := by
      simp [gItems, h]
    rw [e, sItems]
    refine agree_bind _ (agree_get K 1 s h) (fun hb => gItems_stay K stop n _ (K.stay _ _ (K.stay _ _ hb))) fun h1 => ?_
    refine agree_bind _ (agree_get K 3 _ h1) (fun hb => gItems_stay K stop n _ (K.stay _ _ hb)) fun h2 => ?_
    refine agree_bind _ (agree_get K 1 _ h2) (fun hb => gItems_stay K stop n _ hb) fun h3 => ?_
    refine agree_bind _ (gItems_agree stop n _ h3) (fun hb => hb) fun h4 => ?_
    exact ⟨rfl, rfl, h4⟩
theorem gLines_agree (stop : Bool) : ∀ (n : Nat) (o : Int) (s : σ), R.bad s = false → Agree R (sLines n o (R.rem s)) (gLines R stop n o s).2 (gLines R stop n o s).1
  | 0, o, s, h => ⟨rfl, rfl, h⟩
  | n + 1, o, s, h => by
    have e : gLines R stop (n + 1) o s = ((gLines R stop n (o + 1) (R.get 1 (R.get 1 (R.get 3 s).2).2).2).1, ⟨o, (R.get 3 s).1, (R.get 1 (R.get 3 s).2).1 % 16, (R.get 1 (R.get 3 s).2).1 / 16, (R.get 1 (R.get 1 (R.get 3 s).2).2).1⟩ :: (gLines R stop n (o + 1) (R.get 1 (R.get 1 (R.get 3 s).2).2).2).2) := by
      simp [gLines, h]
    rw [e, sLines]
    refine agree_bind _ (agree_get K 3 s h) (fun hb => gLines_stay K stop n _ _ (K.stay _ _ (K.stay _ _ hb))) fun h1 => ?_
    refine agree_bind _ (agree_get K 1 _ h1) (fun hb => gLines_stay K stop n _ _ (K.stay _ _ hb)) fun h2 => ?_
    refine agree_bind _ (agree_get K 1 _ h2) (fun hb => gLines_stay K stop n _ _ hb) fun h3 => ?_
    refine agree_bind _ (gLines_agree stop n _ _ h3) (fun hb => hb) fun h4 => ?_
    exact ⟨rfl, rfl, h4⟩
def gPart (R : Rdr σ) (stop : Bool) (mark : σ → σ) (s : σ) : σ × Int × List Line :=
  let c := R.get 3 s
  let n := R.get 1 c.2
  let f := R.get 3 n.2
  let q := gLines R stop n.1.toNat f.1 (bif n.1 == 0 && f.1 != 0 then mark f.2 else f.2)
  (q.1, c.1, q.2)
theorem gPart_stay (stop : Bool) (mark : σ → σ) (hm : ∀ s, R.bad (mark s) = true) (s : σ) (h : R.bad s = true) : R.bad (gPart R stop mark s).1 = true := by
  unfold gPart
  refine gLines_stay K stop _ _ _ ?_
  cases ((R.get 1 (R.get 3 s).2).1 == 0 && (R.get 3 (R.get 1 (R.get 3 s).2).2).1 != 0) with
  | true => exact hm _
  | false => exact K.stay _ _ (K.stay _ _ (K.stay _ _ h))
theorem gPart_agree (stop : Bool) (mark : σ → σ) (hm : ∀ s, R.bad (mark s) = true) (s : σ) (h : R.bad s = false) : Agree R (sPart (R.rem s)) (gPart R stop mark s).2 (gPart R stop mark s).1 := by
  have st : ∀ x : σ, R.bad x = true → ∀ b : Bool, R.bad (bif b then mark x else x) = true := fun x hx b => by cases b; exact hx; exact hm x
  unfold sPart gPart
  refine agree_bind _ (agree_get K 3 s h) (fun hb => gLines_stay K stop _ _ _ (st _ (K.stay _ _ (K.stay _ _ hb)) _)) fun h1 => ?_
  refine agree_bind _ (agree_get K 1 _ h1) (fun hb => gLines_stay K stop _ _ _ (st _ (K.stay _ _ hb) _)) fun h2 => ?_
  refine agree_bind _ (agree_get K 3 _ h2) (fun hb => gLines_stay K stop _ _ _ (st _ hb _)) fun h3 => ?_
  by_cases hc : (R.get 1 (R.get 3 s).2).1 = 0 ∧ (R.get 3 (R.get 1 (R.get 3 s).2).2).1 ≠ 0
  · have e : ((R.get 1 (R.get 3 s).2).1 == 0 && (R.get 3 (R.get 1 (R.get 3 s).2).2).1 != 0) = true := by simp [hc.1, hc.2]
    simp only [if_pos hc, e, cond_true]
    exact gLines_stay K stop _ _ _ (hm _)
  · have e : ((R.get 1 (R.get 3 s).2).1 == 0 && (R.get 3 (R.get 1 (R.get 3 s).2).2).1 != 0) = false := by
      cases hq : ((R.get 1 (R.get 3 s).2).1 == 0 && (R.get 3 (R.get 1 (R.get 3 s).2).2).1 != 0) with
      | false => rfl
      | true => simp only [Bool.and_eq_true, beq_iff_eq, bne_iff_ne, ne_eq] at hq; exact (hc hq).elim
    simp only [if_neg hc, e, cond_false]
    refine agree_bind _ (gLines_agree K stop _ _ _ h3) (fun hb => hb) fun h4 => ?_
    exact ⟨rfl, rfl, h4⟩
def gState (R : Rdr σ) (stop : Bool) (mark : σ → σ) (s : σ) : σ × St :=
  let p := R.get 3 s
  let n := R.get 1 p.2
  let it := gItems R stop n.1.toNat n.2
  let x := gPart R stop mark it.1
  let y := gPart R stop mark x.1
  let z := gPart R stop mark y.1
  (z.1, ⟨p.1, it.2, x.2.2, y.2.2, z.2.2, x.2.1, y.2.1, z.2.1⟩)
def sState (b : List UInt8) : Option (St × List UInt8) :=
  (sget 3 b).bind fun p => (sget 1 p.2).bind fun n => (sItems n.1.toNat n.2).bind fun it => (sPart it.2).bind fun x => (sPart x.2).bind fun y => (sPart y.2).bind fun z =>
    some (⟨p.1, it.1, x.1.2, y.1.2, z.1.2, x.1.1, y.1.1, z.1.1⟩, z.2)
theorem gState_agree (stop : Bool) (mark : σ → σ) (hm : ∀ s, R.bad (mark s) = true) (s : σ) (h : R.bad s = false) : Agree R (sState (R.rem s)) (gState R stop mark s).2 (gState R stop mark s).1 := by
  have ps := gPart_stay K stop mark hm
  unfold sState gState
  refine agree_bind _ (agree_get K 3 s h) (fun hb => ps _ (ps _ (ps _ (gItems_stay K stop _ _ (K.stay _ _ hb))))) fun h1 => ?_
  refine agree_bind _ (agree_get K 1 _ h1) (fun hb => ps _ (ps _ (ps _ (gItems_stay K stop _ _ hb)))) fun h2 => ?_
  refine agree_bind _ (gItems_agree K stop _ _ h2) (fun hb => ps _ (ps _ (ps _ hb))) fun h3 => ?_
  refine agree_bind _ (gPart_agree K stop mark hm _ h3) (fun hb => ps _ (ps _ hb)) fun h4 => ?_
  refine agree_bind _ (gPart_agree K stop mark hm _ h4) (fun hb => ps _ hb) fun h5 => ?_
  refine agree_bind _ (gPart_agree K stop mark hm _ h5) (fun hb => hb) fun h6 => ?_
  exact ⟨rfl, rfl, h6⟩
omit K in
theorem readS_eq (b : List UInt8) : readS b = match sState b with
    | some q => if q.2 = [] ∧ standsOK q.1 = true then some q.1 else none
    | none => none := by
  unfold readS sState
  cases sget 3 b with
  | none => rfl
  | some p =>
    simp only [Option.bind_some]
    cases sget 1 p.2 with
    | none => rfl
    | some n =>
      simp only [Option.bind_some]
      cases sItems n.1.toNat n.2 with
      | none => rfl
      | some it =>
        simp only [Option.bind_some]
        cases sPart it.2 with
        | none => rfl
        | some x =>
          simp only [Option.bind_some]
          cases sPart x.2 with
          | none => rfl
          | some y =>
            simp only [Option.bind_some]
            cases sPart y.2 with
            | none => rfl
            | some z => rfl
theorem gState_read (stop : Bool) (mark : σ → σ) (hm : ∀ s, R.bad (mark s) = true) (s : σ) (h : R.bad s = false) :
    readS (R.rem s) = if R.bad (gState R stop mark s).1 = false ∧ R.rem (gState R stop mark s).1 = [] ∧ standsOK (gState R stop mark s).2 = true then some (gState R stop mark s).2 else none := by
  have := gState_agree K stop mark hm s h
  rw [readS_eq]
  cases hq : sState (R.rem s) with
  | none =>
    rw [hq] at this
    have hb : R.bad (gState R stop mark s).1 = true := this
    simp [hb]
  | some q =>
    rw [hq] at this
    obtain ⟨h1, h2, h3⟩ := this
    rw [h1, h2, h3]
    simp
end
def rdP : Rdr Rd := ⟨rget, Rd.bad, Rd.b⟩
theorem rdP_ok : RdrOK rdP where
  ok w s h1 h hw := by
    obtain ⟨c, b, bad⟩ := s
    simp only [rdP] at h hw ⊢
    subst h
    rw [rget_ok hw]; exact ⟨rfl, rfl, rfl⟩
  no w s h hw := by
    obtain ⟨c, b, bad⟩ := s
    simp only [rdP] at hw ⊢
    rw [rget_no hw]
  stay w s h := rget_bad h
structure Rn where
  pos : Nat
  short : Bool
def nget (b : List UInt8) (w : Nat) (s : Rn) : Int × Rn := if s.pos + w ≤ b.length then ((leVal ((b.drop s.pos).take w) : Int), ⟨s.pos + w, s.short⟩) else (0, ⟨s.pos, true⟩)
def rdN (b : List UInt8) : Rdr Rn := ⟨nget b, Rn.short, fun s => b.drop s.pos⟩
theorem rdN_ok (b : List UInt8) : RdrOK (rdN b) where
  ok w s h1 h hw := by
    obtain ⟨p, sh⟩ := s
    simp only [rdN, List.length_drop] at h hw ⊢
    simp only [nget, if_pos (show p + w ≤ b.length by omega)]
    exact ⟨by first | trivial | rfl, by rw [List.drop_drop], h⟩
  no w s h hw := by
    obtain ⟨p, sh⟩ := s
    simp only [rdN, List.length_drop] at hw ⊢
    simp only [nget, if_neg (show ¬ p + w ≤ b.length by omega)]
  stay w s h := by
    obtain ⟨p, sh⟩ := s
    simp only [rdN] at h ⊢
    unfold nget; split
    · exact h
    · rfl
def addL {α : Type} (q k : Int) (l x : List α) : List α := if q = k then l ++ x else l
structure QS (σ : Type) where
  r : σ
  l0 : List Line
  l1 : List Line
  l2 : List Line
  c0 : Int
  c1 : Int
  c2 : Int
section
variable {σ : Type} (R : Rdr σ) (stop : Bool) (mark : σ → σ)
def part0 (s : QS σ) : QS σ := { s with r := (gPart R stop mark s.r).1, l0 := s.l0 ++ (gPart R stop mark s.r).2.2, c0 := (gPart R stop mark s.r).2.1 }
def part1 (s : QS σ) : QS σ := { s with r := (gPart R stop mark s.r).1, l1 := s.l1 ++ (gPart R stop mark s.r).2.2, c1 := (gPart R stop mark s.r).2.1 }
def part2 (s : QS σ) : QS σ := { s with r := (gPart R stop mark s.r).1, l2 := s.l2 ++ (gPart R stop mark s.r).2.2, c2 := (gPart R stop mark s.r).2.1 }
def runQ : Nat → QS σ → QS σ
  | 0, s => part2 R stop mark (part1 R stop mark (part0 R stop mark s))
  | 1, s => part2 R stop mark (part1 R stop mark s)
  | 2, s => part2 R stop mark s
  | _, s => s
end
def markP (r : Rd) : Rd := ⟨r.c, r.b, true⟩
theorem gLines_len {σ : Type} (R : Rdr σ) (stop : Bool) : ∀ (n : Nat) (o : Int) (s : σ), (gLines R stop n o s).2.length ≤ n
  | 0, _, _ => Nat.le_refl _
  | n + 1, o, s => by
    simp only [gLines]
    cases stop && R.bad s with
    | true => simp
    | false => have := gLines_len R stop n (o + 1) (R.get 1 (R.get 1 (R.get 3 s).2).2).2; simp; omega
theorem and15 (m : Nat) (hm : m < 2 ^ 63) : bits .i64 (fun _ u v => u &&& v) (m : Int) 15 = (m : Int) % 16 := by
  unfold bits
  have h1 : ∀ x : Nat, x < 2 ^ 64 → (BitVec.ofInt IntKind.i64.bits (x : Int)).toNat = x := by
    intro x hx
    rw [BitVec.toNat_ofInt]
    simp only [IntKind.bits]
    omega
  have e : (15 : Int) = ((15 : Nat) : Int) := rfl
  rw [e, BitVec.toNat_and, h1 _ (by omega), h1 _ (by omega)]
  have h2 : m &&& 15 = m % 16 := Nat.and_two_pow_sub_one_eq_mod m 4
  rw [h2, wrap_id (by omega) (by omega)]
  omega
theorem gItemsP_succ (k : Nat) (s : Rd) : gItems rdP false (k + 1) s = ((gItems rdP false k (rget 1 (rget 3 (rget 1 s).2).2).2).1, ⟨(rget 1 s).1, (rget 3 (rget 1 s).2).1, (rget 1 (rget 3 (rget 1 s).2).2).1⟩ :: (gItems rdP false k (rget 1 (rget 3 (rget 1 s).2).2).2).2) := rfl
theorem gLinesP_succ (k : Nat) (o : Int) (s : Rd) : gLines rdP false (k + 1) o s = ((gLines rdP false k (o + 1) (rget 1 (rget 1 (rget 3 s).2).2).2).1, ⟨o, (rget 3 s).1, (rget 1 (rget 3 s).2).1 % 16, (rget 1 (rget 3 s).2).1 / 16, (rget 1 (rget 1 (rget 3 s).2).2).1⟩ :: (gLines rdP false k (o + 1) (rget 1 (rget 1 (rget 3 s).2).2).2).2) := rfl
open Go.Proofs
structure rsItems_St where
  c : Bool
  b : List UInt8
  bad : Bool
  pl : Int
  its : List Item
  c0 : Int
  c1 : Int
  c2 : Int
  n : Int
  i : Nat
def rsItems_c (c : Bool) (b : List UInt8) (bad : Bool) (pl : Int) (its : List Item) (c0 : Int) (c1 : Int) (c2 : Int) (n : Int) (i : Nat) : Env RC := [(4, .ptr 0 []), (5, .ptr 1 []), (20, .int .i64 n), (21, .int .i64 (i : Int))]
def rsItems_o (c : Bool) (b : List UInt8) (bad : Bool) (pl : Int) (its : List Item) (c0 : Int) (c1 : Int) (c2 : Int) (n : Int) (i : Nat) : List (Obj RC) := [.var 85 (.acons (.sl (C := RC) .u8 c b) (.acons (.bool bad) .anil)), .var 30 (.acons (.int .i64 pl) (.acons (.vs 2 (its.length)) (.acons (.acons (.sl (C := RC) .line true []) (.acons (.sl (C := RC) .line true []) (.acons (.sl (C := RC) .line true []) .anil))) (.acons (.arr (C := RC) .int 3 [c0, c1, c2]) .anil)))), .vec (C := RC) .item true its]
noncomputable def rsItems_r (c : Bool) (b : List UInt8) (bad : Bool) (pl : Int) (its : List Item) (c0 : Int) (c1 : Int) (c2 : Int) (n : Int) (i : Nat) := rndO s07 uj_4 32 4 40 3 [4, 5, 20, 21] [] [.slot 4 0, .slot 5 0, .path 1 [1]] (rsItems_c c b bad pl its c0 c1 c2 n i) (rsItems_o c b bad pl its c0 c1 c2 n i)
theorem rsItems_eq (c : Bool) (b : List UInt8) (bad : Bool) (pl : Int) (its : List Item) (c0 : Int) (c1 : Int) (c2 : Int) (n : Int) (i : Nat) : rsItems_r c b bad pl its c0 c1 c2 n i = (let Z0 : Int × Int := getP b (0 : Int) (1 : Int); let Z1 : Nat := List.length its; let Z2 : Bool := Nat.beq Z1 Z1; let Z3 : X × Env RC := (X.normal, [(4, D.ptr 0 []), (5, D.ptr 1 []), (20, D.int .i64 n), (21, D.int .i64 (IntKind.wrap .i64 ((↑i : Int) + (1 : Int))))]); let Z4 : Option (Obj RC) := some (Obj.var 85 (.acons (D.sl RTy.u8 true []) (.acons (D.bool true) .anil))); let Z5 : D RC := D.int .i64 pl; let Z6 : D RC := D.sl RTy.line true []; let Z7 : D RC := D.acons (D.acons Z6 (D.acons Z6 (D.acons Z6 .anil))) (.acons (D.arr RTy.int (3 : Nat) [c0, c1, c2]) .anil); let Z8 : List UInt8 := List.drop (1 : Nat) b; let Z9 : Int × Int := getP Z8 (0 : Int) (3 : Int); let Z10 : List Item := [Item.mk Z0.1 (0 : Int) (0 : Int)]; let Z11 : List UInt8 := List.drop (3 : Nat) Z8; let Z12 : List Item := [Item.mk Z0.1 Z9.1 (0 : Int)]; let Z13 : List Item := [Item.mk Z0.1 Z9.1 (getP Z11 (0 : Int) (1 : Int)).1]; let Z14 : D RC := D.acons (D.bool bad) .anil; bif decide ((↑i : Int) < n) then bif decide (List.length b ≤ (1000000000000 : Nat)) then bif Prod.snd Z0 != (0 : Int) then bif Z2 && sizeOK (Z1 + (1 : Nat)) (24 : Nat) then some (Z3, [Z4, some (Obj.var 30 (.acons Z5 (D.acons (D.vs 2 (Z1 + (1 : Nat))) Z7))), some (Obj.vec RTy.item true (its ++ [Item.mk (0 : Int) (0 : Int) (0 : Int)]))]) else none else bif decide ((0 : Int) ≤ (1 : Int) ∧ (1 : Int) ≤ (↑b.length : Int)) then bif decide (List.length Z8 ≤ (1000000000000 : Nat)) then bif Prod.snd Z9 != (0 : Int) then bif Z2 && sizeOK (Z1 + List.length Z10) (24 : Nat) then some (Z3, [Z4, some (Obj.var 30 (.acons Z5 (D.acons (D.vs 2 (Z1 + List.length Z10)) Z7))), some (Obj.vec RTy.item true (its ++ Z10))]) else none else bif decide ((0 : Int) ≤ (3 : Int) ∧ (3 : Int) ≤ (↑Z8.length : Int)) then bif decide (List.length Z11 ≤ (1000000000000 : Nat)) then bif Prod.snd (getP Z11 (0 : Int) (1 : Int)) != (0 : Int) then bif Z2 && sizeOK (Z1 + List.length Z12) (24 : Nat) then some (Z3, [Z4, some (Obj.var 30 (.acons Z5 (D.acons (D.vs 2 (Z1 + List.length Z12)) Z7))), some (Obj.vec RTy.item true (its ++ Z12))]) else none else bif decide ((0 : Int) ≤ (1 : Int) ∧ (1 : Int) ≤ (↑Z11.length : Int)) then bif Z2 && sizeOK (Z1 + List.length Z13) (24 : Nat) then some (Z3, [some (Obj.var 85 (.acons (D.sl RTy.u8 c (List.drop (1 : Nat) Z11)) Z14)), some (Obj.var 30 (.acons Z5 (D.acons (D.vs 2 (Z1 + List.length Z13)) Z7))), some (Obj.vec RTy.item true (its ++ Z13))]) else none else none else none else none else none else none else none else some ((X.exit (0 : Nat), []), [some (Obj.var 85 (.acons (D.sl RTy.u8 c b) Z14)), some (Obj.var 30 (.acons Z5 (D.acons (D.vs 2 Z1) Z7))), some (Obj.vec RTy.item true its)])) := by kernel_rfl
def rsItems_fin (c : Bool) (b : List UInt8) (bad : Bool) (pl : Int) (its : List Item) (c0 : Int) (c1 : Int) (c2 : Int) (n : Int) (i : Nat) : RT RC := .leaf (.exit 0) [] [.var 85 (.acons (.sl (C := RC) .u8 (gItems rdP false (n.toNat - i) ⟨c, b, bad⟩).1.c (gItems rdP false (n.toNat - i) ⟨c, b, bad⟩).1.b) (.acons (.bool (gItems rdP false (n.toNat - i) ⟨c, b, bad⟩).1.bad) .anil)), .var 30 (.acons (.int .i64 pl) (.acons (.vs 2 (its ++ (gItems rdP false (n.toNat - i) ⟨c, b, bad⟩).2).length) (.acons (.acons (.sl (C := RC) .line true []) (.acons (.sl (C := RC) .line true []) (.acons (.sl (C := RC) .line true []) .anil))) (.acons (.arr (C := RC) .int 3 [c0, c1, c2]) .anil)))), .vec (C := RC) .item true (its ++ (gItems rdP false (n.toNat - i) ⟨c, b, bad⟩).2)]
def rsItems_Inv (c : Bool) (b : List UInt8) (bad : Bool) (pl : Int) (its : List Item) (c0 : Int) (c1 : Int) (c2 : Int) (n : Int) (i : Nat) : Prop := (i : Int) ≤ n ∧ n ≤ 255 ∧ b.length ≤ 1000000 ∧ its.length ≤ i
def rsItems_S : LoopR RC rsItems_St where
  k := 3
  canon q := rsItems_c q.c q.b q.bad q.pl q.its q.c0 q.c1 q.c2 q.n q.i
  objs q := rsItems_o q.c q.b q.bad q.pl q.its q.c0 q.c1 q.c2 q.n q.i
  fin q := rsItems_fin q.c q.b q.bad q.pl q.its q.c0 q.c1 q.c2 q.n q.i
  Inv q := rsItems_Inv q.c q.b q.bad q.pl q.its q.c0 q.c1 q.c2 q.n q.i
  μ q := q.n.toNat - q.i
theorem rsItems_round (c : Bool) (b : List UInt8) (bad : Bool) (pl : Int) (its : List Item) (c0 : Int) (c1 : Int) (c2 : Int) (n : Int) (i : Nat) (hI : rsItems_Inv c b bad pl its c0 c1 c2 n i) : Leaf (rsItems_r c b bad pl its c0 c1 c2 n i) (LedR rsItems_S ⟨c, b, bad, pl, its, c0, c1, c2, n, i⟩) := by
  (rw [rsItems_eq]; conv => zeta)
  unfold rsItems_Inv at hI
  obtain ⟨h1, h2, h3, h4⟩ := hI
  have eb : ∀ n : Nat, n.beq n = true := fun n => by simp
  have z1 : rget 1 ⟨true, [], true⟩ = (0, ⟨true, [], true⟩) := rfl
  have z3 : rget 3 ⟨true, [], true⟩ = (0, ⟨true, [], true⟩) := rfl
  by_cases hlt : (i : Int) < n
  · have w_succ : IntKind.i64.wrap ((i : Int) + 1) = ((i + 1 : Nat) : Int) := by rw [wrap_id (by omega) (by omega)]; simp
    have hn : n.toNat - i = (n.toNat - (i + 1)) + 1 := by omega
    have s1 : sizeOK (its.length + 1) 24 = true := sizeT (by omega)
    have e0 : decide (b.length ≤ 1000000000000) = true := decide_eq_true (by omega)
    have t1 : Int.toNat 1 = 1 := rfl
    have t3 : Int.toNat 3 = 3 := rfl
    simp only [hlt, decide_true, cond_true, e0, getP_snd1, getP_snd3, w_succ, List.length_cons, List.length_nil, Nat.zero_add, s1, eb, Bool.and_self, t1, t3]
    by_cases q0 : (b).length < 1
    · have r0 : rget 1 ⟨c, b, bad⟩ = _ := rget_no q0
      simp only [q0, decide_true, cond_true]
      refine leafR_go ⟨true, [], true, pl, its ++ [⟨0, 0, 0⟩], c0, c1, c2, n, i + 1⟩ (by refine ⟨hlt, h2, ?_, ?_⟩ <;> simp <;> omega) (by simp only [rsItems_S]; omega) ?_ (by simp [rsItems_S, rsItems_c]) (by simp [rsItems_S, rsItems_o])
      simp only [rsItems_S, rsItems_fin, hn, gItemsP_succ, r0, z1, z3, List.append_assoc, List.cons_append, List.nil_append]
    have r0 : rget 1 ⟨c, b, bad⟩ = _ := rget_ok (show 1 ≤ (b).length by omega)
    have d0 : decide ((0 : Int) ≤ 1 ∧ (1 : Int) ≤ (b).length) = true := by simp only [decide_eq_true_eq]; omega
    have e0 : decide (((b).drop 1).length ≤ 1000000000000) = true := decide_eq_true (by simp; omega)
    simp only [q0, decide_false, cond_false, d0, cond_true, e0, getP_fst1 q0]
    by_cases q1 : ((b).drop 1).length < 3
    · have r1 : rget 3 ⟨c, (b).drop 1, bad⟩ = _ := rget_no q1
      simp only [q1, decide_true, cond_true]
      refine leafR_go ⟨true, [], true, pl, its ++ [⟨(leVal ((b).take 1) : Int), 0, 0⟩], c0, c1, c2, n, i + 1⟩ (by refine ⟨hlt, h2, ?_, ?_⟩ <;> simp <;> omega) (by simp only [rsItems_S]; omega) ?_ (by simp [rsItems_S, rsItems_c]) (by simp [rsItems_S, rsItems_o])
      simp only [rsItems_S, rsItems_fin, hn, gItemsP_succ, r0, r1, z1, z3, List.append_assoc, List.cons_append, List.nil_append]
    have r1 : rget 3 ⟨c, (b).drop 1, bad⟩ = _ := rget_ok (show 3 ≤ ((b).drop 1).length by omega)
    have d1 : decide ((0 : Int) ≤ 3 ∧ (3 : Int) ≤ ((b).drop 1).length) = true := by simp only [decide_eq_true_eq]; omega
    have e1 : decide ((((b).drop 1).drop 3).length ≤ 1000000000000) = true := decide_eq_true (by simp; omega)
    simp only [q1, decide_false, cond_false, d1, cond_true, e1, getP_fst3 q1]
    by_cases q2 : (((b).drop 1).drop 3).length < 1
    · have r2 : rget 1 ⟨c, ((b).drop 1).drop 3, bad⟩ = _ := rget_no q2
      simp only [q2, decide_true, cond_true]
      refine leafR_go ⟨true, [], true, pl, its ++ [⟨(leVal ((b).take 1) : Int), (leVal (((b).drop 1).take 3) : Int), 0⟩], c0, c1, c2, n, i + 1⟩ (by refine ⟨hlt, h2, ?_, ?_⟩ <;> simp <;> omega) (by simp only [rsItems_S]; omega) ?_ (by simp [rsItems_S, rsItems_c]) (by simp [rsItems_S, rsItems_o])
      simp only [rsItems_S, rsItems_fin, hn, gItemsP_succ, r0, r1, r2, z1, z3, List.append_assoc, List.cons_append, List.nil_append]
    have r2 : rget 1 ⟨c, ((b).drop 1).drop 3, bad⟩ = _ := rget_ok (show 1 ≤ (((b).drop 1).drop 3).length by omega)
    have d2 : decide ((0 : Int) ≤ 1 ∧ (1 : Int) ≤ (((b).drop 1).drop 3).length) = true := by simp only [decide_eq_true_eq]; omega
    have e2 : decide (((((b).drop 1).drop 3).drop 1).length ≤ 1000000000000) = true := decide_eq_true (by simp; omega)
    simp only [q2, decide_false, cond_false, d2, cond_true, e2, getP_fst1 q2]
    refine leafR_go ⟨c, (((b).drop 1).drop 3).drop 1, bad, pl, its ++ [⟨(leVal ((b).take 1) : Int), (leVal (((b).drop 1).take 3) : Int), (leVal ((((b).drop 1).drop 3).take 1) : Int)⟩], c0, c1, c2, n, i + 1⟩ (by refine ⟨hlt, h2, ?_, ?_⟩ <;> simp <;> omega) (by simp only [rsItems_S]; omega) ?_ (by simp [rsItems_S, rsItems_c]) (by simp [rsItems_S, rsItems_o])
    simp only [rsItems_S, rsItems_fin, hn, gItemsP_succ, r0, r1, r2, List.append_assoc, List.cons_append, List.nil_append]
  · have hi : n.toNat - i = 0 := by omega
    simp only [hlt, decide_false, cond_false]
    exact leafR_exit (rsItems_o c b bad pl its c0 c1 c2 n i) (by simp only [rsItems_S, rsItems_fin, rsItems_o, hi, gItems, RT.val, List.append_nil]) rfl
def rsItems_d (env : Env RC) (os : List (Obj RC)) : Option (Bool × rsItems_St) := match env, os with
  | [(4, .ptr 0 []), (5, .ptr 1 []), (20, .int .i64 n), (21, .int .i64 x0)], [.var 85 (.acons (.sl .u8 c b) (.acons (.bool bad) .anil)), .var 30 (.acons (.int .i64 pl) (.acons (.vs 2 x1) (.acons (.acons (.sl .line true []) (.acons (.sl .line true []) (.acons (.sl .line true []) .anil))) (.acons (.arr .int 3 [c0, c1, c2]) .anil)))), .vec .item true its] => staticD (true) (decide (x0 = 0) && decide (x1 = its.length) && decide (0 ≤ n ∧ n ≤ 255 ∧ b.length ≤ 1000000 ∧ its.length = 0), ⟨c, b, bad, pl, its, c0, c1, c2, n, 0⟩)
  | _, _ => none
noncomputable def um_1 := uj_4.addLoop 32 4 (sumR s07 [.slot 4 0, .slot 5 0, .path 1 [1]] [4, 5, 20, 21] rsItems_S rsItems_d)
theorem um_1_laws : FLaws Try.prog s07 um_1 := by
  refine uj_4_laws.addRoundsR s07_laws (by kernel_rfl) rsItems_S 40 [4, 5, 20, 21] [] [.slot 4 0, .slot 5 0, .path 1 [1]] [4, 5, 20, 21] rsItems_d (fun q hI => ?_) ?_
  · obtain ⟨c, b, bad, pl, its, c0, c1, c2, n, i⟩ := q
    refine ⟨?_, ?_, rsItems_round c b bad pl its c0 c1 c2 n i hI⟩
    · simp_all [RefsOK, rsItems_S, rsItems_c, rsItems_o, rsItems_Inv, D.refs, Obj.refs, rEnc]
    · simp_all [rsItems_S, rsItems_fin, rsItems_o, rsItems_Inv, RT.refsOK, RefsOK, D.refs, Obj.refs, rEnc]
  · intro env os b q hd_ hb
    unfold rsItems_d at hd_
    split at hd_
    · obtain ⟨hs, hd_⟩ := staticD_some hd_
      cases hd_
      simp only [Bool.and_eq_true, decide_eq_true_eq] at hb
      obtain ⟨⟨rfl, rfl⟩, h⟩ := hb
      exact ⟨⟨by simpa using h.1, h.2.1, h.2.2.1, by simp [h.2.2.2]⟩, rfl, rfl⟩
    · cases hd_
structure rsLines_St where
  c : Bool
  b : List UInt8
  bad : Bool
  pl : Int
  its : List Item
  l0 : List Line
  l1 : List Line
  l2 : List Line
  c0 : Int
  c1 : Int
  c2 : Int
  q : Int
  first : Int
  n : Int
  i : Nat
def rsLines_c (c : Bool) (b : List UInt8) (bad : Bool) (pl : Int) (its : List Item) (l0 : List Line) (l1 : List Line) (l2 : List Line) (c0 : Int) (c1 : Int) (c2 : Int) (q : Int) (first : Int) (n : Int) (i : Nat) : Env RC := [(4, .ptr 0 []), (5, .ptr 1 []), (7, .int .i64 q), (9, .int .i64 first), (66, .int .i64 n), (67, .int .i64 (i : Int))]
def rsLines_o (c : Bool) (b : List UInt8) (bad : Bool) (pl : Int) (its : List Item) (l0 : List Line) (l1 : List Line) (l2 : List Line) (c0 : Int) (c1 : Int) (c2 : Int) (q : Int) (first : Int) (n : Int) (i : Nat) : List (Obj RC) := [.var 85 (.acons (.sl (C := RC) .u8 c b) (.acons (.bool bad) .anil)), .var 30 (.acons (.int .i64 pl) (.acons (.vs 2 (its.length)) (.acons (.acons (.vs 3 (l0.length)) (.acons (.vs 4 (l1.length)) (.acons (.vs 5 (l2.length)) .anil))) (.acons (.arr (C := RC) .int 3 [c0, c1, c2]) .anil)))), .vec (C := RC) .item true its, .vec (C := RC) .line true l0, .vec (C := RC) .line true l1, .vec (C := RC) .line true l2]
noncomputable def rsLines_r (c : Bool) (b : List UInt8) (bad : Bool) (pl : Int) (its : List Item) (l0 : List Line) (l1 : List Line) (l2 : List Line) (c0 : Int) (c1 : Int) (c2 : Int) (q : Int) (first : Int) (n : Int) (i : Nat) := rndO s07 um_1 32 18 60 6 [4, 5, 7, 9, 66, 67] [] [.slot 4 0, .slot 5 0, .path 1 [1], .path 1 [2, 0], .path 1 [2, 1], .path 1 [2, 2]] (rsLines_c c b bad pl its l0 l1 l2 c0 c1 c2 q first n i) (rsLines_o c b bad pl its l0 l1 l2 c0 c1 c2 q first n i)
theorem rsLines_eq0 (c : Bool) (b : List UInt8) (bad : Bool) (pl : Int) (its : List Item) (l0 l1 l2 : List Line) (c0 c1 c2 : Int) (first n : Int) (i : Nat) : rsLines_r c b bad pl its l0 l1 l2 c0 c1 c2 0 first n i = (let Z0 : Int := (↑i : Int); let Z1 : Int × Int := getP b (0 : Int) (3 : Int); let Z2 : Nat := List.length l0; let Z3 : Bool := Nat.beq Z2 Z2; let Z4 : Int := IntKind.wrap .i64 (first + Z0); let Z5 : List Line := [Line.mk Z4 (0 : Int) (0 : Int) (0 : Int) (0 : Int)]; let Z6 : X × Env RC := (X.normal, [(4, D.ptr 0 []), (5, D.ptr 1 []), (7, D.int .i64 0), (9, D.int .i64 first), (66, D.int .i64 n), (67, D.int .i64 (IntKind.wrap .i64 (Z0 + (1 : Int))))]); let Z7 : Option (Obj RC) := some (Obj.var 85 (.acons (D.sl RTy.u8 true []) (.acons (D.bool true) .anil))); let Z8 : D RC := D.int .i64 pl; let Z9 : D RC := D.vs 2 its.length; let Z10 : D RC := D.acons (D.vs 4 l1.length) (.acons (D.vs 5 l2.length) .anil); let Z11 : D RC := D.acons (D.arr RTy.int (3 : Nat) [c0, c1, c2]) .anil; let Z12 : Option (Obj RC) := some (Obj.vec RTy.item true its); let Z13 : List (Option (Obj RC)) := [some (Obj.vec RTy.line true l1), some (Obj.vec RTy.line true l2)]; let Z14 : List UInt8 := List.drop (3 : Nat) b; let Z15 : List Line := [Line.mk Z4 Z1.1 (0 : Int) (0 : Int) (0 : Int)]; let Z16 : List UInt8 := List.drop (1 : Nat) Z14; let Z17 : Int := Prod.fst (getP Z14 (0 : Int) (1 : Int)); let Z18 : Int := bits .i64 (fun (x : Nat) (u v : BitVec x) => u &&& v) Z17 (15 : Int); let Z19 : Int := Int.fdiv Z17 (16 : Int); let Z20 : List Line := [Line.mk Z4 Z1.1 Z18 Z19 (0 : Int)]; let Z21 : List Line := [Line.mk Z4 Z1.1 Z18 Z19 (getP Z16 (0 : Int) (1 : Int)).1]; let Z22 : D RC := D.acons (D.bool bad) .anil; bif decide (Z0 < n) then bif decide (List.length b ≤ (1000000000000 : Nat)) then bif Prod.snd Z1 != (0 : Int) then bif Z3 && sizeOK (Z2 + List.length Z5) (40 : Nat) then some (Z6, Z7 :: some (Obj.var 30 (.acons Z8 (D.acons Z9 (D.acons (D.acons (D.vs 3 (Z2 + List.length Z5)) Z10) Z11)))) :: Z12 :: some (Obj.vec RTy.line true (l0 ++ Z5)) :: Z13) else none else bif decide ((0 : Int) ≤ (3 : Int) ∧ (3 : Int) ≤ (↑b.length : Int)) then bif decide (List.length Z14 ≤ (1000000000000 : Nat)) then bif Prod.snd (getP Z14 (0 : Int) (1 : Int)) != (0 : Int) then bif Z3 && sizeOK (Z2 + List.length Z15) (40 : Nat) then some (Z6, Z7 :: some (Obj.var 30 (.acons Z8 (D.acons Z9 (D.acons (D.acons (D.vs 3 (Z2 + List.length Z15)) Z10) Z11)))) :: Z12 :: some (Obj.vec RTy.line true (l0 ++ Z15)) :: Z13) else none else bif decide ((0 : Int) ≤ (1 : Int) ∧ (1 : Int) ≤ (↑Z14.length : Int)) then bif decide (List.length Z16 ≤ (1000000000000 : Nat)) then bif Prod.snd (getP Z16 (0 : Int) (1 : Int)) != (0 : Int) then bif Z3 && sizeOK (Z2 + List.length Z20) (40 : Nat) then some (Z6, Z7 :: some (Obj.var 30 (.acons Z8 (D.acons Z9 (D.acons (D.acons (D.vs 3 (Z2 + List.length Z20)) Z10) Z11)))) :: Z12 :: some (Obj.vec RTy.line true (l0 ++ Z20)) :: Z13) else none else bif decide ((0 : Int) ≤ (1 : Int) ∧ (1 : Int) ≤ (↑Z16.length : Int)) then bif Z3 && sizeOK (Z2 + List.length Z21) (40 : Nat) then some (Z6, some (Obj.var 85 (.acons (D.sl RTy.u8 c (List.drop (1 : Nat) Z16)) Z22)) :: some (Obj.var 30 (.acons Z8 (D.acons Z9 (D.acons (D.acons (D.vs 3 (Z2 + List.length Z21)) Z10) Z11)))) :: Z12 :: some (Obj.vec RTy.line true (l0 ++ Z21)) :: Z13) else none else none else none else none else none else none else none else some ((X.exit (4 : Nat), []), some (Obj.var 85 (.acons (D.sl RTy.u8 c b) Z22)) :: some (Obj.var 30 (.acons Z8 (D.acons Z9 (D.acons (D.acons (D.vs 3 Z2) Z10) Z11)))) :: Z12 :: some (Obj.vec RTy.line true l0) :: Z13)) := by kernel_rfl
theorem rsLines_eq1 (c : Bool) (b : List UInt8) (bad : Bool) (pl : Int) (its : List Item) (l0 l1 l2 : List Line) (c0 c1 c2 : Int) (first n : Int) (i : Nat) : rsLines_r c b bad pl its l0 l1 l2 c0 c1 c2 1 first n i = (let Z0 : Int := (↑i : Int); let Z1 : Int × Int := getP b (0 : Int) (3 : Int); let Z2 : Nat := List.length l1; let Z3 : Bool := Nat.beq Z2 Z2; let Z4 : Int := IntKind.wrap .i64 (first + Z0); let Z5 : List Line := [Line.mk Z4 (0 : Int) (0 : Int) (0 : Int) (0 : Int)]; let Z6 : X × Env RC := (X.normal, [(4, D.ptr 0 []), (5, D.ptr 1 []), (7, D.int .i64 1), (9, D.int .i64 first), (66, D.int .i64 n), (67, D.int .i64 (IntKind.wrap .i64 (Z0 + (1 : Int))))]); let Z7 : Option (Obj RC) := some (Obj.var 85 (.acons (D.sl RTy.u8 true []) (.acons (D.bool true) .anil))); let Z8 : D RC := D.int .i64 pl; let Z9 : D RC := D.vs 2 its.length; let Z10 : D RC := D.vs 3 l0.length; let Z11 : D RC := D.acons (D.vs 5 l2.length) .anil; let Z12 : D RC := D.acons (D.arr RTy.int (3 : Nat) [c0, c1, c2]) .anil; let Z13 : Option (Obj RC) := some (Obj.vec RTy.item true its); let Z14 : Option (Obj RC) := some (Obj.vec RTy.line true l0); let Z15 : List (Option (Obj RC)) := [some (Obj.vec RTy.line true l2)]; let Z16 : List UInt8 := List.drop (3 : Nat) b; let Z17 : List Line := [Line.mk Z4 Z1.1 (0 : Int) (0 : Int) (0 : Int)]; let Z18 : List UInt8 := List.drop (1 : Nat) Z16; let Z19 : Int := Prod.fst (getP Z16 (0 : Int) (1 : Int)); let Z20 : Int := bits .i64 (fun (x : Nat) (u v : BitVec x) => u &&& v) Z19 (15 : Int); let Z21 : Int := Int.fdiv Z19 (16 : Int); let Z22 : List Line := [Line.mk Z4 Z1.1 Z20 Z21 (0 : Int)]; let Z23 : List Line := [Line.mk Z4 Z1.1 Z20 Z21 (getP Z18 (0 : Int) (1 : Int)).1]; let Z24 : D RC := D.acons (D.bool bad) .anil; bif decide (Z0 < n) then bif decide (List.length b ≤ (1000000000000 : Nat)) then bif Prod.snd Z1 != (0 : Int) then bif Z3 && sizeOK (Z2 + List.length Z5) (40 : Nat) then some (Z6, Z7 :: some (Obj.var 30 (.acons Z8 (D.acons Z9 (D.acons (D.acons Z10 (D.acons (D.vs 4 (Z2 + List.length Z5)) Z11)) Z12)))) :: Z13 :: Z14 :: some (Obj.vec RTy.line true (l1 ++ Z5)) :: Z15) else none else bif decide ((0 : Int) ≤ (3 : Int) ∧ (3 : Int) ≤ (↑b.length : Int)) then bif decide (List.length Z16 ≤ (1000000000000 : Nat)) then bif Prod.snd (getP Z16 (0 : Int) (1 : Int)) != (0 : Int) then bif Z3 && sizeOK (Z2 + List.length Z17) (40 : Nat) then some (Z6, Z7 :: some (Obj.var 30 (.acons Z8 (D.acons Z9 (D.acons (D.acons Z10 (D.acons (D.vs 4 (Z2 + List.length Z17)) Z11)) Z12)))) :: Z13 :: Z14 :: some (Obj.vec RTy.line true (l1 ++ Z17)) :: Z15) else none else bif decide ((0 : Int) ≤ (1 : Int) ∧ (1 : Int) ≤ (↑Z16.length : Int)) then bif decide (List.length Z18 ≤ (1000000000000 : Nat)) then bif Prod.snd (getP Z18 (0 : Int) (1 : Int)) != (0 : Int) then bif Z3 && sizeOK (Z2 + List.length Z22) (40 : Nat) then some (Z6, Z7 :: some (Obj.var 30 (.acons Z8 (D.acons Z9 (D.acons (D.acons Z10 (D.acons (D.vs 4 (Z2 + List.length Z22)) Z11)) Z12)))) :: Z13 :: Z14 :: some (Obj.vec RTy.line true (l1 ++ Z22)) :: Z15) else none else bif decide ((0 : Int) ≤ (1 : Int) ∧ (1 : Int) ≤ (↑Z18.length : Int)) then bif Z3 && sizeOK (Z2 + List.length Z23) (40 : Nat) then some (Z6, some (Obj.var 85 (.acons (D.sl RTy.u8 c (List.drop (1 : Nat) Z18)) Z24)) :: some (Obj.var 30 (.acons Z8 (D.acons Z9 (D.acons (D.acons Z10 (D.acons (D.vs 4 (Z2 + List.length Z23)) Z11)) Z12)))) :: Z13 :: Z14 :: some (Obj.vec RTy.line true (l1 ++ Z23)) :: Z15) else none else none else none else none else none else none else none else some ((X.exit (4 : Nat), []), some (Obj.var 85 (.acons (D.sl RTy.u8 c b) Z24)) :: some (Obj.var 30 (.acons Z8 (D.acons Z9 (D.acons (D.acons Z10 (D.acons (D.vs 4 Z2) Z11)) Z12)))) :: Z13 :: Z14 :: some (Obj.vec RTy.line true l1) :: Z15)) := by kernel_rfl
theorem rsLines_eq2 (c : Bool) (b : List UInt8) (bad : Bool) (pl : Int) (its : List Item) (l0 l1 l2 : List Line) (c0 c1 c2 : Int) (first n : Int) (i : Nat) : rsLines_r c b bad pl its l0 l1 l2 c0 c1 c2 2 first n i = (let Z0 : Int := (↑i : Int); let Z1 : Int × Int := getP b (0 : Int) (3 : Int); let Z2 : Nat := List.length l2; let Z3 : Bool := Nat.beq Z2 Z2; let Z4 : Int := IntKind.wrap .i64 (first + Z0); let Z5 : List Line := [Line.mk Z4 (0 : Int) (0 : Int) (0 : Int) (0 : Int)]; let Z6 : X × Env RC := (X.normal, [(4, D.ptr 0 []), (5, D.ptr 1 []), (7, D.int .i64 2), (9, D.int .i64 first), (66, D.int .i64 n), (67, D.int .i64 (IntKind.wrap .i64 (Z0 + (1 : Int))))]); let Z7 : D RC := .anil; let Z8 : Option (Obj RC) := some (Obj.var 85 (.acons (D.sl RTy.u8 true []) (.acons (D.bool true) Z7))); let Z9 : D RC := D.int .i64 pl; let Z10 : D RC := D.vs 2 its.length; let Z11 : D RC := D.vs 3 l0.length; let Z12 : D RC := D.vs 4 l1.length; let Z13 : D RC := D.acons (D.arr RTy.int (3 : Nat) [c0, c1, c2]) Z7; let Z14 : Option (Obj RC) := some (Obj.vec RTy.item true its); let Z15 : Option (Obj RC) := some (Obj.vec RTy.line true l0); let Z16 : Option (Obj RC) := some (Obj.vec RTy.line true l1); let Z17 : List UInt8 := List.drop (3 : Nat) b; let Z18 : List Line := [Line.mk Z4 Z1.1 (0 : Int) (0 : Int) (0 : Int)]; let Z19 : List UInt8 := List.drop (1 : Nat) Z17; let Z20 : Int := Prod.fst (getP Z17 (0 : Int) (1 : Int)); let Z21 : Int := bits .i64 (fun (x : Nat) (u v : BitVec x) => u &&& v) Z20 (15 : Int); let Z22 : Int := Int.fdiv Z20 (16 : Int); let Z23 : List Line := [Line.mk Z4 Z1.1 Z21 Z22 (0 : Int)]; let Z24 : List Line := [Line.mk Z4 Z1.1 Z21 Z22 (getP Z19 (0 : Int) (1 : Int)).1]; bif decide (Z0 < n) then bif decide (List.length b ≤ (1000000000000 : Nat)) then bif Prod.snd Z1 != (0 : Int) then bif Z3 && sizeOK (Z2 + List.length Z5) (40 : Nat) then some (Z6, [Z8, some (Obj.var 30 (.acons Z9 (D.acons Z10 (D.acons (D.acons Z11 (D.acons Z12 (D.acons (D.vs 5 (Z2 + List.length Z5)) Z7))) Z13)))), Z14, Z15, Z16, some (Obj.vec RTy.line true (l2 ++ Z5))]) else none else bif decide ((0 : Int) ≤ (3 : Int) ∧ (3 : Int) ≤ (↑b.length : Int)) then bif decide (List.length Z17 ≤ (1000000000000 : Nat)) then bif Prod.snd (getP Z17 (0 : Int) (1 : Int)) != (0 : Int) then bif Z3 && sizeOK (Z2 + List.length Z18) (40 : Nat) then some (Z6, [Z8, some (Obj.var 30 (.acons Z9 (D.acons Z10 (D.acons (D.acons Z11 (D.acons Z12 (D.acons (D.vs 5 (Z2 + List.length Z18)) Z7))) Z13)))), Z14, Z15, Z16, some (Obj.vec RTy.line true (l2 ++ Z18))]) else none else bif decide ((0 : Int) ≤ (1 : Int) ∧ (1 : Int) ≤ (↑Z17.length : Int)) then bif decide (List.length Z19 ≤ (1000000000000 : Nat)) then bif Prod.snd (getP Z19 (0 : Int) (1 : Int)) != (0 : Int) then bif Z3 && sizeOK (Z2 + List.length Z23) (40 : Nat) then some (Z6, [Z8, some (Obj.var 30 (.acons Z9 (D.acons Z10 (D.acons (D.acons Z11 (D.acons Z12 (D.acons (D.vs 5 (Z2 + List.length Z23)) Z7))) Z13)))), Z14, Z15, Z16, some (Obj.vec RTy.line true (l2 ++ Z23))]) else none else bif decide ((0 : Int) ≤ (1 : Int) ∧ (1 : Int) ≤ (↑Z19.length : Int)) then bif Z3 && sizeOK (Z2 + List.length Z24) (40 : Nat) then some (Z6, [some (Obj.var 85 (.acons (D.sl RTy.u8 c (List.drop (1 : Nat) Z19)) (.acons (D.bool bad) Z7))), some (Obj.var 30 (.acons Z9 (D.acons Z10 (D.acons (D.acons Z11 (D.acons Z12 (D.acons (D.vs 5 (Z2 + List.length Z24)) Z7))) Z13)))), Z14, Z15, Z16, some (Obj.vec RTy.line true (l2 ++ Z24))]) else none else none else none else none else none else none else none else some ((X.exit (4 : Nat), []), [some (Obj.var 85 (.acons (D.sl RTy.u8 c b) (.acons (D.bool bad) Z7))), some (Obj.var 30 (.acons Z9 (D.acons Z10 (D.acons (D.acons Z11 (D.acons Z12 (D.acons (D.vs 5 Z2) Z7))) Z13)))), Z14, Z15, Z16, some (Obj.vec RTy.line true l2)])) := by kernel_rfl
def rsLines_fin (c : Bool) (b : List UInt8) (bad : Bool) (pl : Int) (its : List Item) (l0 : List Line) (l1 : List Line) (l2 : List Line) (c0 : Int) (c1 : Int) (c2 : Int) (q : Int) (first : Int) (n : Int) (i : Nat) : RT RC := .leaf (.exit 4) [] [.var 85 (.acons (.sl (C := RC) .u8 (gLines rdP false (n.toNat - i) (first + i) ⟨c, b, bad⟩).1.c (gLines rdP false (n.toNat - i) (first + i) ⟨c, b, bad⟩).1.b) (.acons (.bool (gLines rdP false (n.toNat - i) (first + i) ⟨c, b, bad⟩).1.bad) .anil)), .var 30 (.acons (.int .i64 pl) (.acons (.vs 2 its.length) (.acons (.acons (.vs 3 (addL q 0 l0 (gLines rdP false (n.toNat - i) (first + i) ⟨c, b, bad⟩).2).length) (.acons (.vs 4 (addL q 1 l1 (gLines rdP false (n.toNat - i) (first + i) ⟨c, b, bad⟩).2).length) (.acons (.vs 5 (addL q 2 l2 (gLines rdP false (n.toNat - i) (first + i) ⟨c, b, bad⟩).2).length) .anil))) (.acons (.arr (C := RC) .int 3 [c0, c1, c2]) .anil)))), .vec (C := RC) .item true its, .vec (C := RC) .line true (addL q 0 l0 (gLines rdP false (n.toNat - i) (first + i) ⟨c, b, bad⟩).2), .vec (C := RC) .line true (addL q 1 l1 (gLines rdP false (n.toNat - i) (first + i) ⟨c, b, bad⟩).2), .vec (C := RC) .line true (addL q 2 l2 (gLines rdP false (n.toNat - i) (first + i) ⟨c, b, bad⟩).2)]
def rsLines_Inv (c : Bool) (b : List UInt8) (bad : Bool) (pl : Int) (its : List Item) (l0 : List Line) (l1 : List Line) (l2 : List Line) (c0 : Int) (c1 : Int) (c2 : Int) (q : Int) (first : Int) (n : Int) (i : Nat) : Prop := (i : Int) ≤ n ∧ n ≤ 255 ∧ b.length ≤ 1000000 ∧ l0.length ≤ 1000 + i ∧ l1.length ≤ 1000 + i ∧ l2.length ≤ 1000 + i ∧ (0 ≤ q ∧ q ≤ 2) ∧ (0 ≤ first ∧ first ≤ 16777215)
def rsLines_S : LoopR RC rsLines_St where
  k := 6
  canon q := rsLines_c q.c q.b q.bad q.pl q.its q.l0 q.l1 q.l2 q.c0 q.c1 q.c2 q.q q.first q.n q.i
  objs q := rsLines_o q.c q.b q.bad q.pl q.its q.l0 q.l1 q.l2 q.c0 q.c1 q.c2 q.q q.first q.n q.i
  fin q := rsLines_fin q.c q.b q.bad q.pl q.its q.l0 q.l1 q.l2 q.c0 q.c1 q.c2 q.q q.first q.n q.i
  Inv q := rsLines_Inv q.c q.b q.bad q.pl q.its q.l0 q.l1 q.l2 q.c0 q.c1 q.c2 q.q q.first q.n q.i
  μ q := q.n.toNat - q.i
theorem rsLines_round (c : Bool) (b : List UInt8) (bad : Bool) (pl : Int) (its : List Item) (l0 : List Line) (l1 : List Line) (l2 : List Line) (c0 : Int) (c1 : Int) (c2 : Int) (q : Int) (first : Int) (n : Int) (i : Nat) (hI : rsLines_Inv c b bad pl its l0 l1 l2 c0 c1 c2 q first n i) : Leaf (rsLines_r c b bad pl its l0 l1 l2 c0 c1 c2 q first n i) (LedR rsLines_S ⟨c, b, bad, pl, its, l0, l1, l2, c0, c1, c2, q, first, n, i⟩) := by
  unfold rsLines_Inv at hI
  obtain ⟨h1, h2, h3, h4, h5, h6, h7, h8⟩ := hI
  have eb : ∀ n : Nat, n.beq n = true := fun n => by simp
  have z1 : rget 1 ⟨true, [], true⟩ = (0, ⟨true, [], true⟩) := rfl
  have z3 : rget 3 ⟨true, [], true⟩ = (0, ⟨true, [], true⟩) := rfl
  by_cases hlt : (i : Int) < n
  · have w_succ : IntKind.i64.wrap ((i : Int) + 1) = ((i + 1 : Nat) : Int) := by rw [wrap_id (by omega) (by omega)]; simp
    have wio : IntKind.i64.wrap (first + (i : Int)) = first + (i : Int) := wrap_id (by omega) (by omega)
    have hn : n.toNat - i = (n.toNat - (i + 1)) + 1 := by omega
    have hio : first + ((i + 1 : Nat) : Int) = first + (i : Int) + 1 := by omega
    have m0 : (0 : Int) % 16 = 0 ∧ (0 : Int) / 16 = 0 := ⟨rfl, rfl⟩
    have s0 : sizeOK (l0.length + 1) 40 = true := sizeT (by omega)
    have s1 : sizeOK (l1.length + 1) 40 = true := sizeT (by omega)
    have s2 : sizeOK (l2.length + 1) 40 = true := sizeT (by omega)
    have k01 : ¬ (0 : Int) = 1 := by omega
    have k02 : ¬ (0 : Int) = 2 := by omega
    have k10 : ¬ (1 : Int) = 0 := by omega
    have k12 : ¬ (1 : Int) = 2 := by omega
    have k20 : ¬ (2 : Int) = 0 := by omega
    have k21 : ¬ (2 : Int) = 1 := by omega
    have e0 : decide (b.length ≤ 1000000000000) = true := decide_eq_true (by omega)
    have t1 : Int.toNat 1 = 1 := rfl
    have t3 : Int.toNat 3 = 3 := rfl
    obtain e_q | e_q | e_q : q = 0 ∨ q = 1 ∨ q = 2 := by omega
    · subst e_q
      (rw [rsLines_eq0]; conv => zeta)
      simp only [hlt, decide_true, cond_true, e0, getP_snd1, getP_snd3, w_succ, wio, List.length_cons, List.length_nil, Nat.zero_add, s0, s1, s2, eb, Bool.and_self, t1, t3]
      by_cases q0 : (b).length < 3
      · have r0 : rget 3 ⟨c, b, bad⟩ = _ := rget_no q0
        simp only [q0, decide_true, cond_true]
        refine leafR_go ⟨true, [], true, pl, its, l0 ++ [⟨first + i, 0, 0, 0, 0⟩], l1, l2, c0, c1, c2, 0, first, n, i + 1⟩ (by refine ⟨hlt, h2, ?_, ?_, ?_, ?_, ?_, h8⟩ <;> simp <;> omega) (by simp only [rsLines_S]; omega) ?_ (by simp [rsLines_S, rsLines_c]) (by simp [rsLines_S, rsLines_o])
        simp only [rsLines_S, rsLines_fin, hn, gLinesP_succ, r0, z1, z3, addL, hio, m0, if_true, if_false, List.append_assoc, List.cons_append, List.nil_append, k01, k02, k10, k12, k20, k21]
      have r0 : rget 3 ⟨c, b, bad⟩ = _ := rget_ok (show 3 ≤ (b).length by omega)
      have d0 : decide ((0 : Int) ≤ 3 ∧ (3 : Int) ≤ (b).length) = true := by simp only [decide_eq_true_eq]; omega
      have e0 : decide (((b).drop 3).length ≤ 1000000000000) = true := decide_eq_true (by simp; omega)
      simp only [q0, decide_false, cond_false, d0, cond_true, e0, getP_fst3 q0]
      by_cases q1 : ((b).drop 3).length < 1
      · have r1 : rget 1 ⟨c, (b).drop 3, bad⟩ = _ := rget_no q1
        simp only [q1, decide_true, cond_true]
        refine leafR_go ⟨true, [], true, pl, its, l0 ++ [⟨first + i, (leVal ((b).take 3) : Int), 0, 0, 0⟩], l1, l2, c0, c1, c2, 0, first, n, i + 1⟩ (by refine ⟨hlt, h2, ?_, ?_, ?_, ?_, ?_, h8⟩ <;> simp <;> omega) (by simp only [rsLines_S]; omega) ?_ (by simp [rsLines_S, rsLines_c]) (by simp [rsLines_S, rsLines_o])
        simp only [rsLines_S, rsLines_fin, hn, gLinesP_succ, r0, r1, z1, z3, addL, hio, m0, if_true, if_false, List.append_assoc, List.cons_append, List.nil_append, k01, k02, k10, k12, k20, k21]
      have hx2 : leVal (((b).drop 3).take 1) < 256 := by rw [leVal_take1 (by omega)]; exact UInt8.toNat_lt _
      have a15 := and15 (leVal (((b).drop 3).take 1)) (by omega)
      have f16 : (leVal (((b).drop 3).take 1) : Int).fdiv 16 = (leVal (((b).drop 3).take 1) : Int) / 16 := Int.fdiv_eq_ediv_of_nonneg _ (by omega)
      have r1 : rget 1 ⟨c, (b).drop 3, bad⟩ = _ := rget_ok (show 1 ≤ ((b).drop 3).length by omega)
      have d1 : decide ((0 : Int) ≤ 1 ∧ (1 : Int) ≤ ((b).drop 3).length) = true := by simp only [decide_eq_true_eq]; omega
      have e1 : decide ((((b).drop 3).drop 1).length ≤ 1000000000000) = true := decide_eq_true (by simp; omega)
      simp only [q1, decide_false, cond_false, d1, cond_true, e1, getP_fst1 q1, a15, f16]
      by_cases q2 : (((b).drop 3).drop 1).length < 1
      · have r2 : rget 1 ⟨c, ((b).drop 3).drop 1, bad⟩ = _ := rget_no q2
        simp only [q2, decide_true, cond_true]
        refine leafR_go ⟨true, [], true, pl, its, l0 ++ [⟨first + i, (leVal ((b).take 3) : Int), (leVal (((b).drop 3).take 1) : Int) % 16, (leVal (((b).drop 3).take 1) : Int) / 16, 0⟩], l1, l2, c0, c1, c2, 0, first, n, i + 1⟩ (by refine ⟨hlt, h2, ?_, ?_, ?_, ?_, ?_, h8⟩ <;> simp <;> omega) (by simp only [rsLines_S]; omega) ?_ (by simp [rsLines_S, rsLines_c]) (by simp [rsLines_S, rsLines_o])
        simp only [rsLines_S, rsLines_fin, hn, gLinesP_succ, r0, r1, r2, z1, z3, addL, hio, m0, if_true, if_false, List.append_assoc, List.cons_append, List.nil_append, k01, k02, k10, k12, k20, k21]
      have r2 : rget 1 ⟨c, ((b).drop 3).drop 1, bad⟩ = _ := rget_ok (show 1 ≤ (((b).drop 3).drop 1).length by omega)
      have d2 : decide ((0 : Int) ≤ 1 ∧ (1 : Int) ≤ (((b).drop 3).drop 1).length) = true := by simp only [decide_eq_true_eq]; omega
      have e2 : decide (((((b).drop 3).drop 1).drop 1).length ≤ 1000000000000) = true := decide_eq_true (by simp; omega)
      simp only [q2, decide_false, cond_false, d2, cond_true, e2, getP_fst1 q2]
      refine leafR_go ⟨c, (((b).drop 3).drop 1).drop 1, bad, pl, its, l0 ++ [⟨first + i, (leVal ((b).take 3) : Int), (leVal (((b).drop 3).take 1) : Int) % 16, (leVal (((b).drop 3).take 1) : Int) / 16, (leVal ((((b).drop 3).drop 1).take 1) : Int)⟩], l1, l2, c0, c1, c2, 0, first, n, i + 1⟩ (by refine ⟨hlt, h2, ?_, ?_, ?_, ?_, ?_, h8⟩ <;> simp <;> omega) (by simp only [rsLines_S]; omega) ?_ (by simp [rsLines_S, rsLines_c]) (by simp [rsLines_S, rsLines_o])
      simp only [rsLines_S, rsLines_fin, hn, gLinesP_succ, r0, r1, r2, addL, hio, m0, if_true, if_false, List.append_assoc, List.cons_append, List.nil_append, k01, k02, k10, k12, k20, k21]
    · subst e_q
      (rw [rsLines_eq1]; conv => zeta)
      simp only [hlt, decide_true, cond_true, e0, getP_snd1, getP_snd3, w_succ, wio, List.length_cons, List.length_nil, Nat.zero_add, s0, s1, s2, eb, Bool.and_self, t1, t3]
      by_cases q0 : (b).length < 3
      · have r0 : rget 3 ⟨c, b, bad⟩ = _ := rget_no q0
        simp only [q0, decide_true, cond_true]
        refine leafR_go ⟨true, [], true, pl, its, l0, l1 ++ [⟨first + i, 0, 0, 0, 0⟩], l2, c0, c1, c2, 1, first, n, i + 1⟩ (by refine ⟨hlt, h2, ?_, ?_, ?_, ?_, ?_, h8⟩ <;> simp <;> omega) (by simp only [rsLines_S]; omega) ?_ (by simp [rsLines_S, rsLines_c]) (by simp [rsLines_S, rsLines_o])
        simp only [rsLines_S, rsLines_fin, hn, gLinesP_succ, r0, z1, z3, addL, hio, m0, if_true, if_false, List.append_assoc, List.cons_append, List.nil_append, k01, k02, k10, k12, k20, k21]
      have r0 : rget 3 ⟨c, b, bad⟩ = _ := rget_ok (show 3 ≤ (b).length by omega)
      have d0 : decide ((0 : Int) ≤ 3 ∧ (3 : Int) ≤ (b).length) = true := by simp only [decide_eq_true_eq]; omega
      have e0 : decide (((b).drop 3).length ≤ 1000000000000) = true := decide_eq_true (by simp; omega)
      simp only [q0, decide_false, cond_false, d0, cond_true, e0, getP_fst3 q0]
      by_cases q1 : ((b).drop 3).length < 1
      · have r1 : rget 1 ⟨c, (b).drop 3, bad⟩ = _ := rget_no q1
        simp only [q1, decide_true, cond_true]
        refine leafR_go ⟨true, [], true, pl, its, l0, l1 ++ [⟨first + i, (leVal ((b).take 3) : Int), 0, 0, 0⟩], l2, c0, c1, c2, 1, first, n, i + 1⟩ (by refine ⟨hlt, h2, ?_, ?_, ?_, ?_, ?_, h8⟩ <;> simp <;> omega) (by simp only [rsLines_S]; omega) ?_ (by simp [rsLines_S, rsLines_c]) (by simp [rsLines_S, rsLines_o])
        simp only [rsLines_S, rsLines_fin, hn, gLinesP_succ, r0, r1, z1, z3, addL, hio, m0, if_true, if_false, List.append_assoc, List.cons_append, List.nil_append, k01, k02, k10, k12, k20, k21]
      have hx2 : leVal (((b).drop 3).take 1) < 256 := by rw [leVal_take1 (by omega)]; exact UInt8.toNat_lt _
      have a15 := and15 (leVal (((b).drop 3).take 1)) (by omega)
      have f16 : (leVal (((b).drop 3).take 1) : Int).fdiv 16 = (leVal (((b).drop 3).take 1) : Int) / 16 := Int.fdiv_eq_ediv_of_nonneg _ (by omega)
      have r1 : rget 1 ⟨c, (b).drop 3, bad⟩ = _ := rget_ok (show 1 ≤ ((b).drop 3).length by omega)
      have d1 : decide ((0 : Int) ≤ 1 ∧ (1 : Int) ≤ ((b).drop 3).length) = true := by simp only [decide_eq_true_eq]; omega
      have e1 : decide ((((b).drop 3).drop 1).length ≤ 1000000000000) = true := decide_eq_true (by simp; omega)
      simp only [q1, decide_false, cond_false, d1, cond_true, e1, getP_fst1 q1, a15, f16]
      by_cases q2 : (((b).drop 3).drop 1).length < 1
      · have r2 : rget 1 ⟨c, ((b).drop 3).drop 1, bad⟩ = _ := rget_no q2
        simp only [q2, decide_true, cond_true]
        refine leafR_go ⟨true, [], true, pl, its, l0, l1 ++ [⟨first + i, (leVal ((b).take 3) : Int), (leVal (((b).drop 3).take 1) : Int) % 16, (leVal (((b).drop 3).take 1) : Int) / 16, 0⟩], l2, c0, c1, c2, 1, first, n, i + 1⟩ (by refine ⟨hlt, h2, ?_, ?_, ?_, ?_, ?_, h8⟩ <;> simp <;> omega) (by simp only [rsLines_S]; omega) ?_ (by simp [rsLines_S, rsLines_c]) (by simp [rsLines_S, rsLines_o])
        simp only [rsLines_S, rsLines_fin, hn, gLinesP_succ, r0, r1, r2, z1, z3, addL, hio, m0, if_true, if_false, List.append_assoc, List.cons_append, List.nil_append, k01, k02, k10, k12, k20, k21]
      have r2 : rget 1 ⟨c, ((b).drop 3).drop 1, bad⟩ = _ := rget_ok (show 1 ≤ (((b).drop 3).drop 1).length by omega)
      have d2 : decide ((0 : Int) ≤ 1 ∧ (1 : Int) ≤ (((b).drop 3).drop 1).length) = true := by simp only [decide_eq_true_eq]; omega
      have e2 : decide (((((b).drop 3).drop 1).drop 1).length ≤ 1000000000000) = true := decide_eq_true (by simp; omega)
      simp only [q2, decide_false, cond_false, d2, cond_true, e2, getP_fst1 q2]
      refine leafR_go ⟨c, (((b).drop 3).drop 1).drop 1, bad, pl, its, l0, l1 ++ [⟨first + i, (leVal ((b).take 3) : Int), (leVal (((b).drop 3).take 1) : Int) % 16, (leVal (((b).drop 3).take 1) : Int) / 16, (leVal ((((b).drop 3).drop 1).take 1) : Int)⟩], l2, c0, c1, c2, 1, first, n, i + 1⟩ (by refine ⟨hlt, h2, ?_, ?_, ?_, ?_, ?_, h8⟩ <;> simp <;> omega) (by simp only [rsLines_S]; omega) ?_ (by simp [rsLines_S, rsLines_c]) (by simp [rsLines_S, rsLines_o])
      simp only [rsLines_S, rsLines_fin, hn, gLinesP_succ, r0, r1, r2, addL, hio, m0, if_true, if_false, List.append_assoc, List.cons_append, List.nil_append, k01, k02, k10, k12, k20, k21]
    · subst e_q
      (rw [rsLines_eq2]; conv => zeta)
      simp only [hlt, decide_true, cond_true, e0, getP_snd1, getP_snd3, w_succ, wio, List.length_cons, List.length_nil, Nat.zero_add, s0, s1, s2, eb, Bool.and_self, t1, t3]
      by_cases q0 : (b).length < 3
      · have r0 : rget 3 ⟨c, b, bad⟩ = _ := rget_no q0
        simp only [q0, decide_true, cond_true]
        refine leafR_go ⟨true, [], true, pl, its, l0, l1, l2 ++ [⟨first + i, 0, 0, 0, 0⟩], c0, c1, c2, 2, first, n, i + 1⟩ (by refine ⟨hlt, h2, ?_, ?_, ?_, ?_, ?_, h8⟩ <;> simp <;> omega) (by simp only [rsLines_S]; omega) ?_ (by simp [rsLines_S, rsLines_c]) (by simp [rsLines_S, rsLines_o])
        simp only [rsLines_S, rsLines_fin, hn, gLinesP_succ, r0, z1, z3, addL, hio, m0, if_true, if_false, List.append_assoc, List.cons_append, List.nil_append, k01, k02, k10, k12, k20, k21]
      have r0 : rget 3 ⟨c, b, bad⟩ = _ := rget_ok (show 3 ≤ (b).length by omega)
      have d0 : decide ((0 : Int) ≤ 3 ∧ (3 : Int) ≤ (b).length) = true := by simp only [decide_eq_true_eq]; omega
      have e0 : decide (((b).drop 3).length ≤ 1000000000000) = true := decide_eq_true (by simp; omega)
      simp only [q0, decide_false, cond_false, d0, cond_true, e0, getP_fst3 q0]
      by_cases q1 : ((b).drop 3).length < 1
      · have r1 : rget 1 ⟨c, (b).drop 3, bad⟩ = _ := rget_no q1
        simp only [q1, decide_true, cond_true]
        refine leafR_go ⟨true, [], true, pl, its, l0, l1, l2 ++ [⟨first + i, (leVal ((b).take 3) : Int), 0, 0, 0⟩], c0, c1, c2, 2, first, n, i + 1⟩ (by refine ⟨hlt, h2, ?_, ?_, ?_, ?_, ?_, h8⟩ <;> simp <;> omega) (by simp only [rsLines_S]; omega) ?_ (by simp [rsLines_S, rsLines_c]) (by simp [rsLines_S, rsLines_o])
        simp only [rsLines_S, rsLines_fin, hn, gLinesP_succ, r0, r1, z1, z3, addL, hio, m0, if_true, if_false, List.append_assoc, List.cons_append, List.nil_append, k01, k02, k10, k12, k20, k21]
      have hx2 : leVal (((b).drop 3).take 1) < 256 := by rw [leVal_take1 (by omega)]; exact UInt8.toNat_lt _
      have a15 := and15 (leVal (((b).drop 3).take 1)) (by omega)
      have f16 : (leVal (((b).drop 3).take 1) : Int).fdiv 16 = (leVal (((b).drop 3).take 1) : Int) / 16 := Int.fdiv_eq_ediv_of_nonneg _ (by omega)
      have r1 : rget 1 ⟨c, (b).drop 3, bad⟩ = _ := rget_ok (show 1 ≤ ((b).drop 3).length by omega)
      have d1 : decide ((0 : Int) ≤ 1 ∧ (1 : Int) ≤ ((b).drop 3).length) = true := by simp only [decide_eq_true_eq]; omega
      have e1 : decide ((((b).drop 3).drop 1).length ≤ 1000000000000) = true := decide_eq_true (by simp; omega)
      simp only [q1, decide_false, cond_false, d1, cond_true, e1, getP_fst1 q1, a15, f16]
      by_cases q2 : (((b).drop 3).drop 1).length < 1
      · have r2 : rget 1 ⟨c, ((b).drop 3).drop 1, bad⟩ = _ := rget_no q2
        simp only [q2, decide_true, cond_true]
        refine leafR_go ⟨true, [], true, pl, its, l0, l1, l2 ++ [⟨first + i, (leVal ((b).take 3) : Int), (leVal (((b).drop 3).take 1) : Int) % 16, (leVal (((b).drop 3).take 1) : Int) / 16, 0⟩], c0, c1, c2, 2, first, n, i + 1⟩ (by refine ⟨hlt, h2, ?_, ?_, ?_, ?_, ?_, h8⟩ <;> simp <;> omega) (by simp only [rsLines_S]; omega) ?_ (by simp [rsLines_S, rsLines_c]) (by simp [rsLines_S, rsLines_o])
        simp only [rsLines_S, rsLines_fin, hn, gLinesP_succ, r0, r1, r2, z1, z3, addL, hio, m0, if_true, if_false, List.append_assoc, List.cons_append, List.nil_append, k01, k02, k10, k12, k20, k21]
      have r2 : rget 1 ⟨c, ((b).drop 3).drop 1, bad⟩ = _ := rget_ok (show 1 ≤ (((b).drop 3).drop 1).length by omega)
      have d2 : decide ((0 : Int) ≤ 1 ∧ (1 : Int) ≤ (((b).drop 3).drop 1).length) = true := by simp only [decide_eq_true_eq]; omega
      have e2 : decide (((((b).drop 3).drop 1).drop 1).length ≤ 1000000000000) = true := decide_eq_true (by simp; omega)
      simp only [q2, decide_false, cond_false, d2, cond_true, e2, getP_fst1 q2]
      refine leafR_go ⟨c, (((b).drop 3).drop 1).drop 1, bad, pl, its, l0, l1, l2 ++ [⟨first + i, (leVal ((b).take 3) : Int), (leVal (((b).drop 3).take 1) : Int) % 16, (leVal (((b).drop 3).take 1) : Int) / 16, (leVal ((((b).drop 3).drop 1).take 1) : Int)⟩], c0, c1, c2, 2, first, n, i + 1⟩ (by refine ⟨hlt, h2, ?_, ?_, ?_, ?_, ?_, h8⟩ <;> simp <;> omega) (by simp only [rsLines_S]; omega) ?_ (by simp [rsLines_S, rsLines_c]) (by simp [rsLines_S, rsLines_o])
      simp only [rsLines_S, rsLines_fin, hn, gLinesP_succ, r0, r1, r2, addL, hio, m0, if_true, if_false, List.append_assoc, List.cons_append, List.nil_append, k01, k02, k10, k12, k20, k21]
  · have hi : n.toNat - i = 0 := by omega
    obtain e_q | e_q | e_q : q = 0 ∨ q = 1 ∨ q = 2 := by omega
    all_goals
      subst e_q
      first | (rw [rsLines_eq0]; conv => zeta) | (rw [rsLines_eq1]; conv => zeta) | (rw [rsLines_eq2]; conv => zeta)
      simp only [hlt, decide_false, cond_false]
      exact leafR_exit (rsLines_o c b bad pl its l0 l1 l2 c0 c1 c2 0 first n i) (by simp [rsLines_S, rsLines_fin, rsLines_o, hi, gLines, addL, RT.val]) rfl
def rsLines_d (env : Env RC) (os : List (Obj RC)) : Option (Bool × rsLines_St) := match env, os with
  | [(4, .ptr 0 []), (5, .ptr 1 []), (7, .int .i64 q), (9, .int .i64 first), (66, .int .i64 n), (67, .int .i64 x0)], [.var 85 (.acons (.sl .u8 c b) (.acons (.bool bad) .anil)), .var 30 (.acons (.int .i64 pl) (.acons (.vs 2 x1) (.acons (.acons (.vs 3 x2) (.acons (.vs 4 x3) (.acons (.vs 5 x4) .anil))) (.acons (.arr .int 3 [c0, c1, c2]) .anil)))), .vec .item true its, .vec .line true l0, .vec .line true l1, .vec .line true l2] => staticD (true) (decide (x0 = 0) && decide (x1 = its.length) && decide (x2 = l0.length) && decide (x3 = l1.length) && decide (x4 = l2.length) && decide (0 ≤ n ∧ n ≤ 255 ∧ b.length ≤ 1000000 ∧ (l0.length ≤ 1000 ∧ l1.length ≤ 1000 ∧ l2.length ≤ 1000) ∧ (0 ≤ q ∧ q ≤ 2) ∧ (0 ≤ first ∧ first ≤ 16777215)), ⟨c, b, bad, pl, its, l0, l1, l2, c0, c1, c2, q, first, n, 0⟩)
  | _, _ => none
noncomputable def um_2 := um_1.addLoop 32 18 (sumR s07 [.slot 4 0, .slot 5 0, .path 1 [1], .path 1 [2, 0], .path 1 [2, 1], .path 1 [2, 2]] [4, 5, 7, 9, 66, 67] rsLines_S rsLines_d)
theorem um_2_laws : FLaws Try.prog s07 um_2 := by
  refine um_1_laws.addRoundsR s07_laws (by kernel_rfl) rsLines_S 60 [4, 5, 7, 9, 66, 67] [] [.slot 4 0, .slot 5 0, .path 1 [1], .path 1 [2, 0], .path 1 [2, 1], .path 1 [2, 2]] [4, 5, 7, 9, 66, 67] rsLines_d (fun q hI => ?_) ?_
  · obtain ⟨c, b, bad, pl, its, l0, l1, l2, c0, c1, c2, q, first, n, i⟩ := q
    refine ⟨?_, ?_, rsLines_round c b bad pl its l0 l1 l2 c0 c1 c2 q first n i hI⟩
    · simp_all [RefsOK, rsLines_S, rsLines_c, rsLines_o, rsLines_Inv, D.refs, Obj.refs, rEnc]
    · simp_all [rsLines_S, rsLines_fin, rsLines_o, rsLines_Inv, RT.refsOK, RefsOK, D.refs, Obj.refs, rEnc]
  · intro env os b q hd_ hb
    unfold rsLines_d at hd_
    split at hd_
    · obtain ⟨hs, hd_⟩ := staticD_some hd_
      cases hd_
      simp only [Bool.and_eq_true, decide_eq_true_eq] at hb
      obtain ⟨⟨⟨⟨⟨rfl, rfl⟩, rfl⟩, rfl⟩, rfl⟩, hq⟩ := hb
      exact ⟨⟨by simpa using hq.1, hq.2.1, hq.2.2.1, by simpa using hq.2.2.2.1.1, by simpa using hq.2.2.2.1.2.1, by simpa using hq.2.2.2.1.2.2, hq.2.2.2.2.1, hq.2.2.2.2.2⟩, rfl, rfl⟩
    · cases hd_
theorem leVal_le (b : List UInt8) (w : Nat) : leVal (b.take w) < 256 ^ w :=
  Nat.lt_of_lt_of_le (leVal_lt _) (Nat.pow_le_pow_right (by omega) (by simp; omega))
theorem rget_rng (w : Nat) (r : Rd) : 0 ≤ (rget w r).1 ∧ (rget w r).1 < ((256 ^ w : Nat) : Int) := by
  unfold rget
  split
  · have := leVal_le r.b w
    exact ⟨Int.natCast_nonneg _, Int.ofNat_lt.2 this⟩
  · have : 0 < 256 ^ w := Nat.pow_pos (by omega)
    exact ⟨Int.le_refl _, Int.ofNat_lt.2 this⟩
theorem rget_rng1 (r : Rd) : 0 ≤ (rget 1 r).1 ∧ (rget 1 r).1 ≤ 255 := by have := rget_rng 1 r; simp at this; omega
theorem rget_blen (w : Nat) (r : Rd) : (rget w r).2.b.length ≤ r.b.length := by
  unfold rget; split <;> simp
theorem gLines_blen : ∀ (n : Nat) (o : Int) (r : Rd), (gLines rdP false n o r).1.b.length ≤ r.b.length
  | 0, _, _ => Nat.le_refl _
  | n + 1, o, r => by
    rw [gLinesP_succ]
    exact Nat.le_trans (gLines_blen n _ _) (Nat.le_trans (rget_blen _ _) (Nat.le_trans (rget_blen _ _) (rget_blen _ _)))
theorem gItems_blen : ∀ (n : Nat) (r : Rd), (gItems rdP false n r).1.b.length ≤ r.b.length
  | 0, _ => Nat.le_refl _
  | n + 1, r => by
    rw [gItemsP_succ]
    exact Nat.le_trans (gItems_blen n _) (Nat.le_trans (rget_blen _ _) (Nat.le_trans (rget_blen _ _) (rget_blen _ _)))
theorem gItems_len {σ : Type} (R : Rdr σ) (stop : Bool) : ∀ (n : Nat) (s : σ), (gItems R stop n s).2.length ≤ n
  | 0, _ => Nat.le_refl _
  | n + 1, s => by
    simp only [gItems]
    cases stop && R.bad s with
    | true => simp
    | false => have := gItems_len R stop n (R.get 1 (R.get 3 (R.get 1 s).2).2).2; simp; omega
theorem gPart_blen (r : Rd) : (gPart rdP false markP r).1.b.length ≤ r.b.length := by
  unfold gPart
  refine Nat.le_trans (gLines_blen _ _ _) ?_
  have h : (rget 3 (rget 1 (rget 3 r).2).2).2.b.length ≤ r.b.length := Nat.le_trans (rget_blen _ _) (Nat.le_trans (rget_blen _ _) (rget_blen _ _))
  show (bif ((rget 1 (rget 3 r).2).1 == 0 && (rget 3 (rget 1 (rget 3 r).2).2).1 != 0) then markP (rget 3 (rget 1 (rget 3 r).2).2).2 else (rget 3 (rget 1 (rget 3 r).2).2).2).b.length ≤ _
  cases ((rget 1 (rget 3 r).2).1 == 0 && (rget 3 (rget 1 (rget 3 r).2).2).1 != 0)
  · exact h
  · exact h
theorem gPart_len (r : Rd) : (gPart rdP false markP r).2.2.length ≤ 255 := by
  unfold gPart
  refine Nat.le_trans (gLines_len _ _ _ _ _) ?_
  have := rget_rng1 (rget 3 r).2
  show (rget 1 (rget 3 r).2).1.toNat ≤ 255
  omega
theorem gPart_of {r r1 r2 r3 : Rd} {c n f : Int} (h1 : rget 3 r = (c, r1)) (h2 : rget 1 r1 = (n, r2)) (h3 : rget 3 r2 = (f, r3)) :
    gPart rdP false markP r = ((gLines rdP false n.toNat f (bif n == 0 && f != 0 then markP r3 else r3)).1, c, (gLines rdP false n.toNat f (bif n == 0 && f != 0 then markP r3 else r3)).2) := by
  simp only [gPart, rdP, h1, h2, h3]
end Go.Ev
