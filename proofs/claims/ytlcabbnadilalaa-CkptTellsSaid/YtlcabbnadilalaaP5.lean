/-
  CkptTells returns true for any disk, number and state, and they read behind the call as before. No condition beyond the given statement. (text 6 of 7)
-/
import Derived.Test.YtlcabbnadilalaaP4
namespace Go.Ev
open Go.Proofs
set_option maxRecDepth 100000
set_option linter.unusedVariables false
set_option linter.unusedSimpArgs false
def readSR_s (c : Bool) (b : List UInt8) : Option (Bool × D RC) := some (decide (b.length ≤ 1000000), .tup (.acons (.acons (.int .i64 (stG (readS b)).place) (.acons (.sl (C := RC) .item (readS b).isNone (stG (readS b)).items) (.acons (.acons (.sl (C := RC) .line (readS b).isNone (stG (readS b)).l0) (.acons (.sl (C := RC) .line (readS b).isNone (stG (readS b)).l1) (.acons (.sl (C := RC) .line (readS b).isNone (stG (readS b)).l2) .anil))) (.acons (.arr (C := RC) .int 3 [(stG (readS b)).c0, (stG (readS b)).c1, (stG (readS b)).c2]) .anil)))) (.acons (.int .i64 (bif (readS b).isNone then 50 else 0)) .anil)))
def readSR_sp : List (D RC) → Option (Bool × D RC)
  | [.sl .u8 c b] => readSR_s c b
  | _ => none
noncomputable def readSR_e (c : Bool) (b : List UInt8) := evF s07 ur_1 60 44 [.sl (C := RC) .u8 c b]
theorem readSR_eq (c : Bool) (b : List UInt8) : readSR_e c b = (let Z0 : Nat := List.length b; let Z1 : Bool := decide (Z0 ≤ (1000000000000 : Nat)); let Z2 : Int × Int := getP b (0 : Int) (3 : Int); let Z3 : Int × Int := getP b (0 : Int) (1 : Int); let Z4 : Int := (↑Z0 : Int); let Z5 : Rn × List Item := gItems (rdN b) true (0 : Nat) (Rn.mk (0 : Nat) true); let Z6 : List Item := [] ++ Prod.snd Z5; let Z7 : Nat := List.length Z6; let Z8 : Int := (↑Z5.1.pos : Int); let Z9 : List Int := List.replicate (3 : Nat) (0 : Int); let Z10 : Bool × QS Rn := runN b (0 : Nat) (QS.mk (Rn.mk Z8.toNat Z5.1.short) [] [] [] (0 : Int) (0 : Int) (0 : Int)); let Z11 : D RC := D.int .i64 0; let Z12 : D RC := D.sl RTy.line true []; let Z13 : D RC := .anil; let Z14 : DO_ := some (D.tup (D.acons (D.acons Z11 (D.acons (D.sl RTy.item true []) (.acons (D.acons Z12 (D.acons Z12 (D.acons Z12 Z13))) (.acons (D.arr RTy.int (3 : Nat) Z9) Z13)))) (.acons (D.int .i64 50) Z13))); let Z15 : QS Rn := Prod.snd Z10; let Z16 : Nat := List.length Z15.l0; let Z17 : Nat := List.length Z15.l1; let Z18 : Nat := List.length Z15.l2; let Z19 : D RC := D.acons Z11 Z13; let Z20 : DO_ := none; let Z21 : Rn × List Item := gItems (rdN b) true (Int.toNat Z3.1 - (0 : Nat)) (Rn.mk (1 : Nat) true); let Z22 : List Item := [] ++ Prod.snd Z21; let Z23 : Nat := List.length Z22; let Z24 : Int := (↑Z21.1.pos : Int); let Z25 : Bool × QS Rn := runN b (0 : Nat) (QS.mk (Rn.mk Z24.toNat Z21.1.short) [] [] [] (0 : Int) (0 : Int) (0 : Int)); let Z26 : QS Rn := Prod.snd Z25; let Z27 : Nat := List.length Z26.l0; let Z28 : Nat := List.length Z26.l1; let Z29 : Nat := List.length Z26.l2; let Z30 : Rn × List Item := gItems (rdN b) true (0 : Nat) (Rn.mk (3 : Nat) true); let Z31 : List Item := [] ++ Prod.snd Z30; let Z32 : Nat := List.length Z31; let Z33 : Int := (↑Z30.1.pos : Int); let Z34 : Bool × QS Rn := runN b (0 : Nat) (QS.mk (Rn.mk Z33.toNat Z30.1.short) [] [] [] (0 : Int) (0 : Int) (0 : Int)); let Z35 : QS Rn := Prod.snd Z34; let Z36 : Nat := List.length Z35.l0; let Z37 : Nat := List.length Z35.l1; let Z38 : Nat := List.length Z35.l2; let Z39 : D RC := D.int .i64 Z2.1; let Z40 : Int := Prod.fst (getP b (3 : Int) (1 : Int)); let Z41 : Rn × List Item := gItems (rdN b) true (Int.toNat Z40 - 0) (Rn.mk (4 : Nat) false); let Z42 : List Item := [] ++ Prod.snd Z41; let Z43 : Nat := List.length Z42; let Z44 : Int := (↑Z41.1.pos : Int); let Z45 : Bool × QS Rn := runN b (0 : Nat) (QS.mk (Rn.mk Z44.toNat Z41.1.short) [] [] [] (0 : Int) (0 : Int) (0 : Int)); let Z46 : QS Rn := Prod.snd Z45; let Z47 : Nat := List.length Z46.l0; let Z48 : Nat := List.length Z46.l1; let Z49 : Nat := List.length Z46.l2; bif Z1 then bif Prod.snd Z2 != (0 : Int) then bif Z1 then bif Prod.snd Z3 != (0 : Int) then bif decide ((0 : Int) ≤ (0 : Int) ∧ (0 : Int) ≤ (255 : Int) ∧ Z0 ≤ (1000000 : Nat) ∧ ((0 : Int) ≤ (0 : Int) ∧ (0 : Int) ≤ Z4) ∧ (0 : Nat) = (0 : Nat)) then bif decide (Z7 = Z7) && true && true && true && true && decide (Z0 ≤ (1000000 : Nat) ∧ ((0 : Int) ≤ Z8 ∧ Z8 ≤ Z4) ∧ (0 : Nat) = (0 : Nat) ∧ (0 : Nat) = (0 : Nat) ∧ (0 : Nat) = (0 : Nat) ∧ Z9 = [(0 : Int), (0 : Int), (0 : Int)]) then bif Prod.fst Z10 then Z14 else bif Rn.short Z15.r then Z14 else bif lenOK Z0 then bif (↑Z15.r.pos : Int) != Z4 then Z14 else bif Nat.beq Z16 Z16 then bif Nat.beq Z17 Z17 then bif Nat.beq Z18 Z18 then bif decide (Z7 ≤ (9223372036854775807 : Nat) ∧ Z16 ≤ (9223372036854775807 : Nat) ∧ Z17 ≤ (9223372036854775807 : Nat) ∧ Z18 ≤ (9223372036854775807 : Nat)) then bif !standsOK (St.mk (0 : Int) Z6 Z15.l0 Z15.l1 Z15.l2 Z15.c0 Z15.c1 Z15.c2) then Z14 else some (D.tup (D.acons (D.acons Z11 (D.acons (D.sl RTy.item false Z6) (.acons (D.acons (D.sl RTy.line false Z15.l0) (.acons (D.sl RTy.line false Z15.l1) (.acons (D.sl RTy.line false Z15.l2) Z13))) (.acons (D.arr RTy.int (3 : Nat) [QS.c0 Z15, QS.c1 Z15, QS.c2 Z15]) Z13)))) Z19)) else Z20 else Z20 else Z20 else Z20 else Z20 else Z20 else Z20 else bif decide ((0 : Int) ≤ Prod.fst Z3 ∧ Prod.fst Z3 ≤ (255 : Int) ∧ Z0 ≤ (1000000 : Nat) ∧ ((0 : Int) ≤ (1 : Int) ∧ (1 : Int) ≤ Z4) ∧ (0 : Nat) = (0 : Nat)) then bif decide (Z23 = Z23) && true && true && true && true && decide (Z0 ≤ (1000000 : Nat) ∧ ((0 : Int) ≤ Z24 ∧ Z24 ≤ Z4) ∧ (0 : Nat) = (0 : Nat) ∧ (0 : Nat) = (0 : Nat) ∧ (0 : Nat) = (0 : Nat) ∧ Z9 = [(0 : Int), (0 : Int), (0 : Int)]) then bif Prod.fst Z25 then Z14 else bif Rn.short Z26.r then Z14 else bif lenOK Z0 then bif (↑Z26.r.pos : Int) != Z4 then Z14 else bif Nat.beq Z23 Z23 then bif Nat.beq Z27 Z27 then bif Nat.beq Z28 Z28 then bif Nat.beq Z29 Z29 then bif decide (Z23 ≤ (9223372036854775807 : Nat) ∧ Z27 ≤ (9223372036854775807 : Nat) ∧ Z28 ≤ (9223372036854775807 : Nat) ∧ Z29 ≤ (9223372036854775807 : Nat)) then bif !standsOK (St.mk (0 : Int) Z22 Z26.l0 Z26.l1 Z26.l2 Z26.c0 Z26.c1 Z26.c2) then Z14 else some (D.tup (D.acons (D.acons Z11 (D.acons (D.sl RTy.item false Z22) (.acons (D.acons (D.sl RTy.line false Z26.l0) (.acons (D.sl RTy.line false Z26.l1) (.acons (D.sl RTy.line false Z26.l2) Z13))) (.acons (D.arr RTy.int (3 : Nat) [QS.c0 Z26, QS.c1 Z26, QS.c2 Z26]) Z13)))) Z19)) else Z20 else Z20 else Z20 else Z20 else Z20 else Z20 else Z20 else Z20 else Z20 else bif Z1 then bif Prod.snd (getP b (3 : Int) (1 : Int)) != (0 : Int) then bif decide ((0 : Int) ≤ (0 : Int) ∧ (0 : Int) ≤ (255 : Int) ∧ Z0 ≤ (1000000 : Nat) ∧ ((0 : Int) ≤ (3 : Int) ∧ (3 : Int) ≤ Z4) ∧ (0 : Nat) = (0 : Nat)) then bif decide (Z32 = Z32) && true && true && true && true && decide (Z0 ≤ (1000000 : Nat) ∧ ((0 : Int) ≤ Z33 ∧ Z33 ≤ Z4) ∧ (0 : Nat) = (0 : Nat) ∧ (0 : Nat) = (0 : Nat) ∧ (0 : Nat) = (0 : Nat) ∧ Z9 = [(0 : Int), (0 : Int), (0 : Int)]) then bif Prod.fst Z34 then Z14 else bif Rn.short Z35.r then Z14 else bif lenOK Z0 then bif (↑Z35.r.pos : Int) != Z4 then Z14 else bif Nat.beq Z36 Z36 then bif Nat.beq Z37 Z37 then bif Nat.beq Z38 Z38 then bif decide (Z32 ≤ (9223372036854775807 : Nat) ∧ Z36 ≤ (9223372036854775807 : Nat) ∧ Z37 ≤ (9223372036854775807 : Nat) ∧ Z38 ≤ (9223372036854775807 : Nat)) then bif !standsOK (St.mk Z2.1 Z31 Z35.l0 Z35.l1 Z35.l2 Z35.c0 Z35.c1 Z35.c2) then Z14 else some (D.tup (D.acons (D.acons Z39 (D.acons (D.sl RTy.item false Z31) (.acons (D.acons (D.sl RTy.line false Z35.l0) (.acons (D.sl RTy.line false Z35.l1) (.acons (D.sl RTy.line false Z35.l2) Z13))) (.acons (D.arr RTy.int (3 : Nat) [QS.c0 Z35, QS.c1 Z35, QS.c2 Z35]) Z13)))) Z19)) else Z20 else Z20 else Z20 else Z20 else Z20 else Z20 else Z20 else bif decide ((0 : Int) ≤ Z40 ∧ Z40 ≤ (255 : Int) ∧ Z0 ≤ (1000000 : Nat) ∧ ((0 : Int) ≤ (4 : Int) ∧ (4 : Int) ≤ Z4) ∧ (0 : Nat) = (0 : Nat)) then bif decide (Z43 = Z43) && true && true && true && true && decide (Z0 ≤ (1000000 : Nat) ∧ ((0 : Int) ≤ Z44 ∧ Z44 ≤ Z4) ∧ (0 : Nat) = (0 : Nat) ∧ (0 : Nat) = (0 : Nat) ∧ (0 : Nat) = (0 : Nat) ∧ Z9 = [(0 : Int), (0 : Int), (0 : Int)]) then bif Prod.fst Z45 then Z14 else bif Rn.short Z46.r then Z14 else bif lenOK Z0 then bif (↑Z46.r.pos : Int) != Z4 then Z14 else bif Nat.beq Z43 Z43 then bif Nat.beq Z47 Z47 then bif Nat.beq Z48 Z48 then bif Nat.beq Z49 Z49 then bif decide (Z43 ≤ (9223372036854775807 : Nat) ∧ Z47 ≤ (9223372036854775807 : Nat) ∧ Z48 ≤ (9223372036854775807 : Nat) ∧ Z49 ≤ (9223372036854775807 : Nat)) then bif !standsOK (St.mk Z2.1 Z42 Z46.l0 Z46.l1 Z46.l2 Z46.c0 Z46.c1 Z46.c2) then Z14 else some (D.tup (D.acons (D.acons Z39 (D.acons (D.sl RTy.item false Z42) (.acons (D.acons (D.sl RTy.line false Z46.l0) (.acons (D.sl RTy.line false Z46.l1) (.acons (D.sl RTy.line false Z46.l2) Z13))) (.acons (D.arr RTy.int (3 : Nat) [QS.c0 Z46, QS.c1 Z46, QS.c2 Z46]) Z13)))) Z19)) else Z20 else Z20 else Z20 else Z20 else Z20 else Z20 else Z20 else Z20 else Z20 else Z20) := by kernel_rfl
theorem readSR_ok (c : Bool) (b : List UInt8) (h : (decide (b.length ≤ 1000000)) = true) : readSR_e c b = some (.tup (.acons (.acons (.int .i64 (stG (readS b)).place) (.acons (.sl (C := RC) .item (readS b).isNone (stG (readS b)).items) (.acons (.acons (.sl (C := RC) .line (readS b).isNone (stG (readS b)).l0) (.acons (.sl (C := RC) .line (readS b).isNone (stG (readS b)).l1) (.acons (.sl (C := RC) .line (readS b).isNone (stG (readS b)).l2) .anil))) (.acons (.arr (C := RC) .int 3 [(stG (readS b)).c0, (stG (readS b)).c1, (stG (readS b)).c2]) .anil)))) (.acons (.int .i64 (bif (readS b).isNone then 50 else 0)) .anil))) := by
  (rw [readSR_eq]; conv => zeta)
  have hl := of_decide_eq_true h
  have e0 : decide (b.length ≤ 1000000000000) = true := decide_eq_true (by omega)
  have lb : lenOK b.length = true := lenOK_of (by omega)
  have eb : ∀ n : Nat, n.beq n = true := fun n => by simp
  have no : readS b = none → some (D.tup (D.acons (D.acons (D.int IntKind.i64 0) (D.acons (D.sl (C := RC) RTy.item true []) (D.acons (D.acons (D.sl (C := RC) RTy.line true []) (D.acons (D.sl (C := RC) RTy.line true []) (D.acons (D.sl (C := RC) RTy.line true []) D.anil))) (D.acons (D.arr (C := RC) RTy.int 3 (List.replicate 3 0)) D.anil)))) (D.acons (D.int IntKind.i64 50) D.anil))) = some (.tup (.acons (.acons (.int .i64 (stG (readS b)).place) (.acons (.sl (C := RC) .item (readS b).isNone (stG (readS b)).items) (.acons (.acons (.sl (C := RC) .line (readS b).isNone (stG (readS b)).l0) (.acons (.sl (C := RC) .line (readS b).isNone (stG (readS b)).l1) (.acons (.sl (C := RC) .line (readS b).isNone (stG (readS b)).l2) .anil))) (.acons (.arr (C := RC) .int 3 [(stG (readS b)).c0, (stG (readS b)).c1, (stG (readS b)).c2]) .anil)))) (.acons (.int .i64 (bif (readS b).isNone then 50 else 0)) .anil))) := fun e => by rw [e]; rfl
  have w3 : IntKind.i64.wrap (0 + 3) = 3 := rfl
  simp (disch := omega) only [e0, cond_true, getI_snd1, getI_snd3, show (0 : Int) + 3 = 3 from rfl, show (0 : Int) + 1 = 1 from rfl, show (3 : Int) + 1 = 4 from rfl]
  by_cases q0 : (b.length : Int) < 3
  · have r0 : nget b 3 ⟨0, false⟩ = _ := nget_no (by omega)
    simp only [q0, decide_true, cond_true]
    by_cases q1 : (b.length : Int) < 1
    · have r1 : nget b 1 ⟨0, true⟩ = _ := nget_no (by omega)
      simp only [q1, decide_true, cond_true]
      have rK := gState_read (rdN_ok b) true markN (fun _ => rfl) ⟨0, false⟩ rfl
      rw [gState_ofN r0 r1] at rK
      change readS b = _ at rK
      have t0 : Int.toNat 0 = 0 := rfl
      simp only [t0] at rK
      have ck : decide (0 ≤ (0 : Int) ∧ (0 : Int) ≤ 255 ∧ b.length ≤ 1000000 ∧ (0 ≤ (0 : Int) ∧ (0 : Int) ≤ b.length) ∧ True) = true := decide_eq_true ⟨by omega, by omega, by omega, by omega, trivial⟩
      have tp : Int.toNat 0 = 0 := rfl
      simp only [ck, tp, cond_true, List.nil_append]
      have gp := gItemsN_pos (b := b) 0 ⟨0, true⟩ (by simp only; omega)
      have gl := gItems_len (rdN b) true 0 ⟨0, true⟩
      generalize gItems (rdN b) true 0 ⟨0, true⟩ = IT at gp gl rK ⊢
      obtain ⟨⟨ip, ish⟩, its⟩ := IT
      simp only at gp gl rK ⊢
      have qb := runN0_bounds (b := b) ⟨ip, ish⟩ gp
      have hr := runN_run (b := b) (s := ⟨⟨ip, ish⟩, [], [], [], 0, 0, 0⟩)
      simp only [Int.toNat_natCast]
      have m1 : decide (b.length ≤ 1000000 ∧ (0 ≤ (ip : Int) ∧ (ip : Int) ≤ b.length) ∧ True ∧ True ∧ True ∧ List.replicate 3 (0 : Int) = [0, 0, 0]) = true := decide_eq_true ⟨by omega, by omega, trivial, trivial, trivial, rfl⟩
      have m2 : decide (its.length ≤ 9223372036854775807 ∧ (runN b 0 ⟨⟨ip, ish⟩, [], [], [], 0, 0, 0⟩).2.l0.length ≤ 9223372036854775807 ∧ (runN b 0 ⟨⟨ip, ish⟩, [], [], [], 0, 0, 0⟩).2.l1.length ≤ 9223372036854775807 ∧ (runN b 0 ⟨⟨ip, ish⟩, [], [], [], 0, 0, 0⟩).2.l2.length ≤ 9223372036854775807) = true := decide_eq_true ⟨by omega, by omega, by omega, by omega⟩
      simp only [m1, m2, lb, eb, decide_true, Bool.and_self, Bool.and_true, Bool.true_and, cond_true]
      generalize runN b 0 ⟨⟨ip, ish⟩, [], [], [], 0, 0, 0⟩ = Q at qb hr ⊢
      generalize runQ (rdN b) true markN 0 ⟨⟨ip, ish⟩, [], [], [], 0, 0, 0⟩ = Xq at hr rK
      obtain ⟨fl, ⟨qp, qs⟩, a0, a1, a2, x0, x1, x2⟩ := Q
      simp only at qb hr ⊢
      obtain ⟨b0, b1, b2, b3⟩ := qb
      cases fl
      · have hx := hr.1 rfl
        subst hx
        replace rK : readS b = if qs = false ∧ b.drop qp = [] ∧ standsOK ⟨0, its, a0, a1, a2, x0, x1, x2⟩ = true then some ⟨0, its, a0, a1, a2, x0, x1, x2⟩ else none := rK
        simp only [cond_false]
        cases qs
        · simp only [cond_false]
          by_cases hz : qp = b.length
          · have z1 : ((qp : Int) != (b.length : Int)) = false := by simp only [bne_eq_false_iff_eq]; omega
            have z2 : b.drop qp = [] := List.drop_eq_nil_of_le (by omega)
            simp only [z1, cond_false]
            cases hs : standsOK ⟨0, its, a0, a1, a2, x0, x1, x2⟩
            · exact no (by rw [rK, if_neg (fun q => by have := q.2.2; rw [hs] at this; cases this)])
            · have : readS b = some ⟨0, its, a0, a1, a2, x0, x1, x2⟩ := by rw [rK, if_pos ⟨rfl, z2, hs⟩]
              rw [this]
              rfl
          · have z1 : ((qp : Int) != (b.length : Int)) = true := by simp only [bne_iff_ne, ne_eq]; omega
            have z2 : ¬ b.drop qp = [] := fun e => by
              have := congrArg List.length e
              simp at this; omega
            simp only [z1, cond_true]
            exact no (by rw [rK, if_neg (fun q => z2 q.2.1)])
        · simp only [cond_true]
          exact no (by rw [rK, if_neg (fun q => by cases q.1)])
      · have hx := hr.2 rfl
        simp only [cond_true]
        exact no (by rw [rK, if_neg (fun q => by have := q.1; rw [hx] at this; cases this)])
    · have r1 : nget b 1 ⟨0, true⟩ = _ := nget_ok (by omega)
      simp only [Nat.zero_add] at r1
      have g1 := getI_fst1 (b := b) (p := 0) (by omega) (by omega)
      simp only [show Int.toNat 0 = 0 from rfl] at g1
      simp only [q1, decide_false, cond_false, g1]
      have rK := gState_read (rdN_ok b) true markN (fun _ => rfl) ⟨0, false⟩ rfl
      rw [gState_ofN r0 r1] at rK
      change readS b = _ at rK
      have n1 : leVal ((b.drop 0).take 1) < 256 := rget_lt1 _
      generalize leVal ((b.drop 0).take 1) = n at n1 rK ⊢
      have tn : (n : Int).toNat - 0 = n := by omega
      have tn' : (n : Int).toNat = n := by omega
      simp only [tn'] at rK
      have ck : decide (0 ≤ (n : Int) ∧ (n : Int) ≤ 255 ∧ b.length ≤ 1000000 ∧ (0 ≤ (1 : Int) ∧ (1 : Int) ≤ b.length) ∧ True) = true := decide_eq_true ⟨by omega, by omega, by omega, by omega, trivial⟩
      have tp : Int.toNat 1 = 1 := rfl
      simp only [ck, tn, tp, cond_true, List.nil_append]
      have gp := gItemsN_pos (b := b) n ⟨1, true⟩ (by simp only; omega)
      have gl := gItems_len (rdN b) true n ⟨1, true⟩
      generalize gItems (rdN b) true n ⟨1, true⟩ = IT at gp gl rK ⊢
      obtain ⟨⟨ip, ish⟩, its⟩ := IT
      simp only at gp gl rK ⊢
      have qb := runN0_bounds (b := b) ⟨ip, ish⟩ gp
      have hr := runN_run (b := b) (s := ⟨⟨ip, ish⟩, [], [], [], 0, 0, 0⟩)
      simp only [Int.toNat_natCast]
      have m1 : decide (b.length ≤ 1000000 ∧ (0 ≤ (ip : Int) ∧ (ip : Int) ≤ b.length) ∧ True ∧ True ∧ True ∧ List.replicate 3 (0 : Int) = [0, 0, 0]) = true := decide_eq_true ⟨by omega, by omega, trivial, trivial, trivial, rfl⟩
      have m2 : decide (its.length ≤ 9223372036854775807 ∧ (runN b 0 ⟨⟨ip, ish⟩, [], [], [], 0, 0, 0⟩).2.l0.length ≤ 9223372036854775807 ∧ (runN b 0 ⟨⟨ip, ish⟩, [], [], [], 0, 0, 0⟩).2.l1.length ≤ 9223372036854775807 ∧ (runN b 0 ⟨⟨ip, ish⟩, [], [], [], 0, 0, 0⟩).2.l2.length ≤ 9223372036854775807) = true := decide_eq_true ⟨by omega, by omega, by omega, by omega⟩
      simp only [m1, m2, lb, eb, decide_true, Bool.and_self, Bool.and_true, Bool.true_and, cond_true]
      generalize runN b 0 ⟨⟨ip, ish⟩, [], [], [], 0, 0, 0⟩ = Q at qb hr ⊢
      generalize runQ (rdN b) true markN 0 ⟨⟨ip, ish⟩, [], [], [], 0, 0, 0⟩ = Xq at hr rK
      obtain ⟨fl, ⟨qp, qs⟩, a0, a1, a2, x0, x1, x2⟩ := Q
      simp only at qb hr ⊢
      obtain ⟨b0, b1, b2, b3⟩ := qb
      cases fl
      · have hx := hr.1 rfl
        subst hx
        replace rK : readS b = if qs = false ∧ b.drop qp = [] ∧ standsOK ⟨0, its, a0, a1, a2, x0, x1, x2⟩ = true then some ⟨0, its, a0, a1, a2, x0, x1, x2⟩ else none := rK
        simp only [cond_false]
        cases qs
        · simp only [cond_false]
          by_cases hz : qp = b.length
          · have z1 : ((qp : Int) != (b.length : Int)) = false := by simp only [bne_eq_false_iff_eq]; omega
            have z2 : b.drop qp = [] := List.drop_eq_nil_of_le (by omega)
            simp only [z1, cond_false]
            cases hs : standsOK ⟨0, its, a0, a1, a2, x0, x1, x2⟩
            · exact no (by rw [rK, if_neg (fun q => by have := q.2.2; rw [hs] at this; cases this)])
            · have : readS b = some ⟨0, its, a0, a1, a2, x0, x1, x2⟩ := by rw [rK, if_pos ⟨rfl, z2, hs⟩]
              rw [this]
              rfl
          · have z1 : ((qp : Int) != (b.length : Int)) = true := by simp only [bne_iff_ne, ne_eq]; omega
            have z2 : ¬ b.drop qp = [] := fun e => by
              have := congrArg List.length e
              simp at this; omega
            simp only [z1, cond_true]
            exact no (by rw [rK, if_neg (fun q => z2 q.2.1)])
        · simp only [cond_true]
          exact no (by rw [rK, if_neg (fun q => by cases q.1)])
      · have hx := hr.2 rfl
        simp only [cond_true]
        exact no (by rw [rK, if_neg (fun q => by have := q.1; rw [hx] at this; cases this)])
  · have r0 : nget b 3 ⟨0, false⟩ = _ := nget_ok (by omega)
    simp only [Nat.zero_add] at r0
    have g0 := getI_fst3 (b := b) (p := 0) (by omega) (by omega)
    simp only [show Int.toNat 0 = 0 from rfl] at g0
    simp only [q0, decide_false, cond_false, g0]
    by_cases q1 : (b.length : Int) < 4
    · have r1 : nget b 1 ⟨3, false⟩ = _ := nget_no (by omega)
      simp only [q1, decide_true, cond_true]
      have rK := gState_read (rdN_ok b) true markN (fun _ => rfl) ⟨0, false⟩ rfl
      rw [gState_ofN r0 r1] at rK
      change readS b = _ at rK
      have t0 : Int.toNat 0 = 0 := rfl
      simp only [t0] at rK
      have ck : decide (0 ≤ (0 : Int) ∧ (0 : Int) ≤ 255 ∧ b.length ≤ 1000000 ∧ (0 ≤ (3 : Int) ∧ (3 : Int) ≤ b.length) ∧ True) = true := decide_eq_true ⟨by omega, by omega, by omega, by omega, trivial⟩
      have tp : Int.toNat 3 = 3 := rfl
      simp only [ck, tp, cond_true, List.nil_append]
      have gp := gItemsN_pos (b := b) 0 ⟨3, true⟩ (by simp only; omega)
      have gl := gItems_len (rdN b) true 0 ⟨3, true⟩
      generalize gItems (rdN b) true 0 ⟨3, true⟩ = IT at gp gl rK ⊢
      obtain ⟨⟨ip, ish⟩, its⟩ := IT
      simp only at gp gl rK ⊢
      have qb := runN0_bounds (b := b) ⟨ip, ish⟩ gp
      have hr := runN_run (b := b) (s := ⟨⟨ip, ish⟩, [], [], [], 0, 0, 0⟩)
      simp only [Int.toNat_natCast]
      have m1 : decide (b.length ≤ 1000000 ∧ (0 ≤ (ip : Int) ∧ (ip : Int) ≤ b.length) ∧ True ∧ True ∧ True ∧ List.replicate 3 (0 : Int) = [0, 0, 0]) = true := decide_eq_true ⟨by omega, by omega, trivial, trivial, trivial, rfl⟩
      have m2 : decide (its.length ≤ 9223372036854775807 ∧ (runN b 0 ⟨⟨ip, ish⟩, [], [], [], 0, 0, 0⟩).2.l0.length ≤ 9223372036854775807 ∧ (runN b 0 ⟨⟨ip, ish⟩, [], [], [], 0, 0, 0⟩).2.l1.length ≤ 9223372036854775807 ∧ (runN b 0 ⟨⟨ip, ish⟩, [], [], [], 0, 0, 0⟩).2.l2.length ≤ 9223372036854775807) = true := decide_eq_true ⟨by omega, by omega, by omega, by omega⟩
      simp only [m1, m2, lb, eb, decide_true, Bool.and_self, Bool.and_true, Bool.true_and, cond_true]
      generalize runN b 0 ⟨⟨ip, ish⟩, [], [], [], 0, 0, 0⟩ = Q at qb hr ⊢
      generalize runQ (rdN b) true markN 0 ⟨⟨ip, ish⟩, [], [], [], 0, 0, 0⟩ = Xq at hr rK
      obtain ⟨fl, ⟨qp, qs⟩, a0, a1, a2, x0, x1, x2⟩ := Q
      simp only at qb hr ⊢
      obtain ⟨b0, b1, b2, b3⟩ := qb
      cases fl
      · have hx := hr.1 rfl
        subst hx
        replace rK : readS b = if qs = false ∧ b.drop qp = [] ∧ standsOK ⟨(leVal ((b.drop 0).take 3) : Int), its, a0, a1, a2, x0, x1, x2⟩ = true then some ⟨(leVal ((b.drop 0).take 3) : Int), its, a0, a1, a2, x0, x1, x2⟩ else none := rK
        simp only [cond_false]
        cases qs
        · simp only [cond_false]
          by_cases hz : qp = b.length
          · have z1 : ((qp : Int) != (b.length : Int)) = false := by simp only [bne_eq_false_iff_eq]; omega
            have z2 : b.drop qp = [] := List.drop_eq_nil_of_le (by omega)
            simp only [z1, cond_false]
            cases hs : standsOK ⟨(leVal ((b.drop 0).take 3) : Int), its, a0, a1, a2, x0, x1, x2⟩
            · exact no (by rw [rK, if_neg (fun q => by have := q.2.2; rw [hs] at this; cases this)])
            · have : readS b = some ⟨(leVal ((b.drop 0).take 3) : Int), its, a0, a1, a2, x0, x1, x2⟩ := by rw [rK, if_pos ⟨rfl, z2, hs⟩]
              rw [this]
              rfl
          · have z1 : ((qp : Int) != (b.length : Int)) = true := by simp only [bne_iff_ne, ne_eq]; omega
            have z2 : ¬ b.drop qp = [] := fun e => by
              have := congrArg List.length e
              simp at this; omega
            simp only [z1, cond_true]
            exact no (by rw [rK, if_neg (fun q => z2 q.2.1)])
        · simp only [cond_true]
          exact no (by rw [rK, if_neg (fun q => by cases q.1)])
      · have hx := hr.2 rfl
        simp only [cond_true]
        exact no (by rw [rK, if_neg (fun q => by have := q.1; rw [hx] at this; cases this)])
    · have r1 : nget b 1 ⟨3, false⟩ = _ := nget_ok (by omega)
      simp only [Nat.reduceAdd] at r1
      have g1 := getI_fst1 (b := b) (p := 3) (by omega) (by omega)
      simp only [show Int.toNat 3 = 3 from rfl] at g1
      simp only [q1, decide_false, cond_false, g1]
      have rK := gState_read (rdN_ok b) true markN (fun _ => rfl) ⟨0, false⟩ rfl
      rw [gState_ofN r0 r1] at rK
      change readS b = _ at rK
      have n1 : leVal ((b.drop 3).take 1) < 256 := rget_lt1 _
      generalize leVal ((b.drop 3).take 1) = n at n1 rK ⊢
      have tn : (n : Int).toNat - 0 = n := by omega
      have tn' : (n : Int).toNat = n := by omega
      simp only [tn'] at rK
      have ck : decide (0 ≤ (n : Int) ∧ (n : Int) ≤ 255 ∧ b.length ≤ 1000000 ∧ (0 ≤ (4 : Int) ∧ (4 : Int) ≤ b.length) ∧ True) = true := decide_eq_true ⟨by omega, by omega, by omega, by omega, trivial⟩
      have tp : Int.toNat 4 = 4 := rfl
      simp only [ck, tn, tp, cond_true, List.nil_append]
      have gp := gItemsN_pos (b := b) n ⟨4, false⟩ (by simp only; omega)
      have gl := gItems_len (rdN b) true n ⟨4, false⟩
      generalize gItems (rdN b) true n ⟨4, false⟩ = IT at gp gl rK ⊢
      obtain ⟨⟨ip, ish⟩, its⟩ := IT
      simp only at gp gl rK ⊢
      have qb := runN0_bounds (b := b) ⟨ip, ish⟩ gp
      have hr := runN_run (b := b) (s := ⟨⟨ip, ish⟩, [], [], [], 0, 0, 0⟩)
      simp only [Int.toNat_natCast]
      have m1 : decide (b.length ≤ 1000000 ∧ (0 ≤ (ip : Int) ∧ (ip : Int) ≤ b.length) ∧ True ∧ True ∧ True ∧ List.replicate 3 (0 : Int) = [0, 0, 0]) = true := decide_eq_true ⟨by omega, by omega, trivial, trivial, trivial, rfl⟩
      have m2 : decide (its.length ≤ 9223372036854775807 ∧ (runN b 0 ⟨⟨ip, ish⟩, [], [], [], 0, 0, 0⟩).2.l0.length ≤ 9223372036854775807 ∧ (runN b 0 ⟨⟨ip, ish⟩, [], [], [], 0, 0, 0⟩).2.l1.length ≤ 9223372036854775807 ∧ (runN b 0 ⟨⟨ip, ish⟩, [], [], [], 0, 0, 0⟩).2.l2.length ≤ 9223372036854775807) = true := decide_eq_true ⟨by omega, by omega, by omega, by omega⟩
      simp only [m1, m2, lb, eb, decide_true, Bool.and_self, Bool.and_true, Bool.true_and, cond_true]
      generalize runN b 0 ⟨⟨ip, ish⟩, [], [], [], 0, 0, 0⟩ = Q at qb hr ⊢
      generalize runQ (rdN b) true markN 0 ⟨⟨ip, ish⟩, [], [], [], 0, 0, 0⟩ = Xq at hr rK
      obtain ⟨fl, ⟨qp, qs⟩, a0, a1, a2, x0, x1, x2⟩ := Q
      simp only at qb hr ⊢
      obtain ⟨b0, b1, b2, b3⟩ := qb
      cases fl
      · have hx := hr.1 rfl
        subst hx
        replace rK : readS b = if qs = false ∧ b.drop qp = [] ∧ standsOK ⟨(leVal ((b.drop 0).take 3) : Int), its, a0, a1, a2, x0, x1, x2⟩ = true then some ⟨(leVal ((b.drop 0).take 3) : Int), its, a0, a1, a2, x0, x1, x2⟩ else none := rK
        simp only [cond_false]
        cases qs
        · simp only [cond_false]
          by_cases hz : qp = b.length
          · have z1 : ((qp : Int) != (b.length : Int)) = false := by simp only [bne_eq_false_iff_eq]; omega
            have z2 : b.drop qp = [] := List.drop_eq_nil_of_le (by omega)
            simp only [z1, cond_false]
            cases hs : standsOK ⟨(leVal ((b.drop 0).take 3) : Int), its, a0, a1, a2, x0, x1, x2⟩
            · exact no (by rw [rK, if_neg (fun q => by have := q.2.2; rw [hs] at this; cases this)])
            · have : readS b = some ⟨(leVal ((b.drop 0).take 3) : Int), its, a0, a1, a2, x0, x1, x2⟩ := by rw [rK, if_pos ⟨rfl, z2, hs⟩]
              rw [this]
              rfl
          · have z1 : ((qp : Int) != (b.length : Int)) = true := by simp only [bne_iff_ne, ne_eq]; omega
            have z2 : ¬ b.drop qp = [] := fun e => by
              have := congrArg List.length e
              simp at this; omega
            simp only [z1, cond_true]
            exact no (by rw [rK, if_neg (fun q => z2 q.2.1)])
        · simp only [cond_true]
          exact no (by rw [rK, if_neg (fun q => by cases q.1)])
      · have hx := hr.2 rfl
        simp only [cond_true]
        exact no (by rw [rK, if_neg (fun q => by have := q.1; rw [hx] at this; cases this)])
noncomputable def us_1 := ur_1.addSpec 44 readSR_sp
theorem us_1_laws : FLaws Try.prog s07 us_1 := ur_1_laws.addEv s07_laws fun args d h => by
  unfold readSR_sp at h
  split at h
  · unfold readSR_s at h
    have h1 := congrArg Prod.fst (Option.some.inj h)
    obtain rfl : _ = d := congrArg Prod.snd (Option.some.inj h)
    exact ⟨by simp [D.refs], 60, readSR_ok _ _ h1⟩
  · cases h
theorem u32_nat (n : Int) : (BitVec.ofInt IntKind.u32.bits n).toNat = (n % 4294967296).toNat := by
  rw [BitVec.toNat_ofInt]
  simp only [IntKind.bits]
  congr 1
theorem u32_wrap (n : Int) : IntKind.u32.wrap n = n % 4294967296 := by
  simp [IntKind.wrap, IntKind.bits, IntKind.signed]
def xor32 (a b : Int) : Int := bits .u32 (fun _ u v => u ^^^ v) a b
theorem xor32_range (a b : Int) : 0 ≤ xor32 a b ∧ xor32 a b < 4294967296 := by
  unfold xor32 bits
  rw [u32_wrap]; omega
def crcS (n : Int) : Int := if n % 2 = 1 then xor32 (n / 2) 3988292384 else n / 2
theorem crcS_range {n : Int} (h : 0 ≤ n ∧ n < 4294967296) : 0 ≤ crcS n ∧ crcS n < 4294967296 := by
  unfold crcS
  split
  · exact xor32_range _ _
  · omega
theorem and1 {n : Int} (h : 0 ≤ n ∧ n < 4294967296) : bits .u32 (fun _ u v => u &&& v) n 1 = n % 2 := by
  unfold bits
  rw [BitVec.toNat_and, u32_nat, u32_nat]
  have e : ((1 : Int) % 4294967296).toNat = 2 ^ 1 - 1 := by decide
  rw [e, Nat.and_two_pow_sub_one_eq_mod, u32_wrap]
  omega
theorem xor32_zero {n : Int} (h : 0 ≤ n ∧ n < 4294967296) : xor32 n 0 = n := by
  unfold xor32 bits
  rw [BitVec.toNat_xor, u32_nat, u32_nat]
  have e : ((0 : Int) % 4294967296).toNat = 0 := by decide
  rw [e, Nat.xor_zero, u32_wrap]
  omega
theorem half {n : Int} (h : 0 ≤ n) : n.fdiv 2 = n / 2 := Int.fdiv_eq_ediv_of_nonneg _ (by omega)
def iterS : Nat → Int → Int
  | 0, n => n
  | k + 1, n => iterS k (crcS n)
def crc8 (n : Int) : Int := iterS 8 n
def crcOn (n : Int) (l : List UInt8) : Int := l.foldl (fun n c => crc8 (xor32 n (c.toNat : Int))) n
theorem crcOn_cons (n : Int) (c : UInt8) (l : List UInt8) : crcOn n (c :: l) = crcOn (crc8 (xor32 n (c.toNat : Int))) l := by
  simp only [crcOn, List.foldl_cons]
theorem crcOn_nil (n : Int) : crcOn n [] = n := by simp only [crcOn, List.foldl_nil]
def crcOf (l : List UInt8) : Int := xor32 4294967295 (crcOn 4294967295 l)
theorem crcOf_range (l : List UInt8) : 0 ≤ crcOf l ∧ crcOf l < 4294967296 := xor32_range _ _
def sealL (b : List UInt8) : List UInt8 := b ++ leB (crcOf b) 4
theorem sealL_len (b : List UInt8) : (sealL b).length = b.length + 4 := by simp [sealL, leB_length]
def openL (b : List UInt8) : Option (List UInt8) := if 4 ≤ b.length ∧ sealL (b.take (b.length - 4)) = b then some (b.take (b.length - 4)) else none
theorem openL_seal (b : List UInt8) : openL (sealL b) = some b := by
  have e : (sealL b).take ((sealL b).length - 4) = b := by
    rw [sealL_len]; simp [sealL]
  unfold openL
  rw [e, if_pos ⟨by rw [sealL_len]; omega, rfl⟩]
theorem openL_len {b x : List UInt8} (h : openL b = some x) : b.length = x.length + 4 := by
  unfold openL at h
  split at h
  · rename_i q; cases h; simp; omega
  · cases h
theorem openL_test (b : List UInt8) (h : 4 ≤ b.length) : (sealL (b.take (b.length - 4))).drop (b.length - 4) = b.drop (b.length - 4) ↔ sealL (b.take (b.length - 4)) = b := by
  have e : ((b.take (b.length - 4))).length = b.length - 4 := by simp
  have e2 : (sealL (b.take (b.length - 4))).drop (b.length - 4) = leB (crcOf (b.take (b.length - 4))) 4 := by
    unfold sealL
    rw [List.drop_left' e]
  rw [e2]
  constructor
  · intro q
    unfold sealL
    rw [q, List.take_append_drop]
  · intro q
    have := congrArg (List.drop (b.length - 4)) q
    rw [← e2]; exact this
def okF (n : Int) (load : List UInt8) : Bool := decide (1 ≤ n) && decide (n ≤ 1048575) && decide (load.length ≤ 600)
def frameB (n : Int) (load : List UInt8) : List UInt8 := sealL (leB n 6 ++ leB load.length 2 ++ load)
def readF (b : List UInt8) : Option (Int × List UInt8) := match openL b with
  | none => none
  | some x => if 8 ≤ x.length ∧ leVal ((x.drop 6).take 2) + 8 = x.length ∧ x.length ≤ 608 ∧ 1 ≤ leVal (x.take 6) ∧ leVal (x.take 6) ≤ 1048575 then some ((leVal (x.take 6) : Int), x.drop 8) else none
theorem frameB_len (n : Int) (load : List UInt8) : (frameB n load).length = load.length + 12 := by
  simp [frameB, sealL_len, leB_length]; omega
theorem readF_frame {n : Int} {load : List UInt8} (h : okF n load = true) : readF (frameB n load) = some (n, load) := by
  simp only [okF, Bool.and_eq_true, decide_eq_true_eq] at h
  unfold readF frameB
  rw [openL_seal]
  have l6 := leB_length 6 n
  have l2 := leB_length 2 (load.length : Int)
  have t6 : (leB n 6 ++ leB (load.length : Int) 2 ++ load).take 6 = leB n 6 := by rw [List.append_assoc, List.take_left' l6]
  have d6 : (leB n 6 ++ leB (load.length : Int) 2 ++ load).drop 6 = leB (load.length : Int) 2 ++ load := by rw [List.append_assoc, List.drop_left' l6]
  have d8 : (leB n 6 ++ leB (load.length : Int) 2 ++ load).drop 8 = load := by
    rw [show (8 : Nat) = 6 + 2 from rfl, ← List.drop_drop, d6, List.drop_left' l2]
  have v6 : (leVal (leB n 6) : Int) = n := leVal_leB 6 n (by omega) (by omega)
  have v2 : (leVal (leB (load.length : Int) 2) : Int) = load.length := leVal_leB 2 _ (by omega) (by omega)
  have t2 : (leB (load.length : Int) 2 ++ load).take 2 = leB (load.length : Int) 2 := List.take_left' l2
  simp only [t6, d6, d8, t2]
  rw [if_pos ⟨by simp [l6, l2]; omega, by simp [l6, l2]; omega, by simp [l6, l2]; omega, by omega, by omega⟩, v6]
theorem readF_ok {b : List UInt8} {n : Int} {load : List UInt8} (h : readF b = some (n, load)) : okF n load = true ∧ frameB n load = b := by
  unfold readF at h
  cases hx : openL b with
  | none => simp [hx] at h
  | some x =>
    simp only [hx] at h
    split at h
    · rename_i q
      obtain ⟨q1, q2, q3, q4, q5⟩ := q
      simp only [Option.some.injEq, Prod.mk.injEq] at h
      obtain ⟨rfl, rfl⟩ := h
      refine ⟨by simp only [okF, Bool.and_eq_true, decide_eq_true_eq, List.length_drop]; omega, ?_⟩
      have e6 : leB (leVal (x.take 6) : Int) 6 = x.take 6 := by
        have := leB_leVal (x.take 6)
        rw [List.length_take, Nat.min_eq_left (by omega)] at this; exact this
      have e2 : leB ((x.drop 8).length : Int) 2 = (x.drop 6).take 2 := by
        have := leB_leVal ((x.drop 6).take 2)
        rw [List.length_take, List.length_drop, Nat.min_eq_left (by omega)] at this
        rw [List.length_drop, show x.length - 8 = leVal ((x.drop 6).take 2) by omega]; exact this
      unfold frameB
      rw [e6, e2, List.append_assoc, show x.drop 8 = (x.drop 6).drop 2 by rw [List.drop_drop], List.take_append_drop, List.take_append_drop]
      unfold openL at hx
      split at hx
      · rename_i q; cases hx; exact q.2
      · cases hx
    · cases h
noncomputable def rng (n : Int) : Bool := @decide (0 ≤ n ∧ n < 4294967296) (Classical.propDecidable _)
theorem rng_iff {n : Int} : rng n = true ↔ 0 ≤ n ∧ n < 4294967296 := by unfold rng; exact @decide_eq_true_iff _ (Classical.propDecidable _)
theorem rng_x (a b : Int) : rng (xor32 a b) = true := rng_iff.2 (xor32_range a b)
theorem rng_s {n : Int} (h : rng n = true) : rng (crcS n) = true := rng_iff.2 (crcS_range (rng_iff.1 h))
theorem u8_u32 (c : UInt8) : IntKind.u32.wrap (c.toNat : Int) = (c.toNat : Int) := by
  have := c.toNat_lt
  rw [u32_wrap]; omega
theorem crcOn_step (b : List UInt8) (i : Nat) (n : Int) (h : i < b.length) (d : UInt8) : crcOn n (b.drop i) = crcOn (crc8 (xor32 n ((b.getD i d).toNat : Int))) (b.drop (i + 1)) := by
  have e : b.getD i d = b[i] := by simp [h]
  have e2 : b.drop i = b[i] :: b.drop (i + 1) := List.drop_eq_getElem_cons h
  rw [e2, e]
  exact crcOn_cons _ _ _
theorem and255 {n : Int} (h : 0 ≤ n ∧ n < 4294967296) : bits .u32 (fun _ u v => u &&& v) n 255 = n % 256 := by
  unfold bits
  rw [BitVec.toNat_and, u32_nat, u32_nat]
  have e : ((255 : Int) % 4294967296).toNat = 2 ^ 8 - 1 := by decide
  rw [e, Nat.and_two_pow_sub_one_eq_mod, u32_wrap]
  omega
theorem byteOf_wrap (n : Int) : UInt8.ofNat (IntKind.u8.wrap n).toNat = byteOf n := rfl
theorem byteOf_mod (n : Int) : byteOf (n % 256) = byteOf n := by
  unfold byteOf; rw [u8_wrap, u8_wrap]; congr 2; omega
theorem leB4 (n : Int) : leB n 4 = [byteOf n, byteOf (n.fdiv 256), byteOf ((n.fdiv 256).fdiv 256), byteOf (((n.fdiv 256).fdiv 256).fdiv 256)] := rfl
theorem cond_of {α : Type} {c : Bool} {x y z : α} (h : c = true) (h2 : x = z) : cond c x y = z := by rw [h]; exact h2
theorem cond_no {α : Type} {c : Bool} {x y z : α} (h : c = false) (h2 : y = z) : cond c x y = z := by rw [h]; exact h2
theorem cond_two {α : Type} {c : Bool} {x y z : α} (h1 : c = true → x = z) (h2 : c = false → y = z) : cond c x y = z := by cases c; exact h2 rfl; exact h1 rfl
open Go.Proofs
noncomputable def stepP_s (n : Int) : Option (Bool × D RC) := some (rng n, .int .u32 (crcS n))
noncomputable def stepP_sp : List (D RC) → Option (Bool × D RC)
  | [.int .u32 n] => stepP_s n
  | _ => none
noncomputable def stepP_e (n : Int) := evF s07 us_1 40 83 [.int .u32 n]
theorem stepP_eq (n : Int) : stepP_e n = (some (D.int IntKind.u32 (bits IntKind.u32 (fun (x : Nat) (u v : BitVec x) => u ^^^ v) (Int.fdiv n (2 : Int)) (IntKind.wrap IntKind.u32 (bits IntKind.u32 (fun (x : Nat) (u v : BitVec x) => u &&& v) n (1 : Int) * (3988292384 : Int)))))) := by kernel_rfl
theorem stepP_ok (n : Int) (h : (rng n) = true) : stepP_e n = some (.int .u32 (crcS n)) := by
  rw [stepP_eq]
  have hr := rng_iff.1 h
  rw [and1 hr, half hr.1]
  congr 2
  unfold crcS
  split
  · rename_i e
    rw [e, u32_wrap]; rfl
  · rename_i e
    have e0 : n % 2 = 0 := by omega
    rw [e0, u32_wrap]
    exact xor32_zero (by omega)
noncomputable def ut_1 := us_1.addSpec 83 stepP_sp
theorem ut_1_laws : FLaws Try.prog s07 ut_1 := us_1_laws.addEv s07_laws fun args d h => by
  unfold stepP_sp at h
  split at h
  · unfold stepP_s at h
    have h1 := congrArg Prod.fst (Option.some.inj h)
    obtain rfl : _ = d := congrArg Prod.snd (Option.some.inj h)
    exact ⟨by simp [D.refs], 40, stepP_ok _ h1⟩
  · cases h
noncomputable def stepR_s (n : Int) : Option (Bool × D RC) := some (rng n, .int .u32 (crcS n))
noncomputable def stepR_sp : List (D RC) → Option (Bool × D RC)
  | [.int .u32 n] => stepR_s n
  | _ => none
noncomputable def stepR_e (n : Int) := evF s07 ut_1 40 82 [.int .u32 n]
theorem stepR_eq (n : Int) : stepR_e n = (let Z0 : Int := Int.fdiv n (2 : Int); bif bits IntKind.u32 (fun (x : Nat) (u v : BitVec x) => u &&& v) n (1 : Int) == (1 : Int) then some (D.int IntKind.u32 (bits IntKind.u32 (fun (x : Nat) (u v : BitVec x) => u ^^^ v) Z0 (3988292384 : Int))) else some (D.int IntKind.u32 Z0)) := by kernel_rfl
theorem stepR_ok (n : Int) (h : (rng n) = true) : stepR_e n = some (.int .u32 (crcS n)) := by
  (rw [stepR_eq]; conv => zeta)
  have hr := rng_iff.1 h
  rw [and1 hr, half hr.1]
  unfold crcS
  by_cases e : n % 2 = 1
  · rw [if_pos e, ibeqT e]; rfl
  · rw [if_neg e, ibeqF e]; rfl
noncomputable def ut_2 := ut_1.addSpec 82 stepR_sp
theorem ut_2_laws : FLaws Try.prog s07 ut_2 := ut_1_laws.addEv s07_laws fun args d h => by
  unfold stepR_sp at h
  split at h
  · unfold stepR_s at h
    have h1 := congrArg Prod.fst (Option.some.inj h)
    obtain rfl : _ = d := congrArg Prod.snd (Option.some.inj h)
    exact ⟨by simp [D.refs], 40, stepR_ok _ h1⟩
  · cases h
structure on8P_St where
  n : Int
  i : Nat
def on8P_c (n : Int) (i : Nat) : Env RC := [(0, .int .u32 n), (17, .int .i64 (i : Int))]
def on8P_o (n : Int) (i : Nat) : List (Obj RC) := []
noncomputable def on8P_r (n : Int) (i : Nat) := rndO s07 ut_2 81 6 60 0 [0, 17] [0] [] (on8P_c n i) (on8P_o n i)
theorem on8P_eq (n : Int) (i : Nat) : on8P_r n i = (bif decide ((↑i : Int) < (8 : Int)) then bif rng n then some ((X.normal, [(0, D.int IntKind.u32 (crcS n)), (17, D.int .i64 (IntKind.wrap .i64 ((↑i : Int) + (1 : Int))))]), []) else none else some ((X.exit (2 : Nat), [(0, D.int IntKind.u32 n)]), [])) := by kernel_rfl
noncomputable def on8P_fin (n : Int) (i : Nat) : RT RC := .leaf (.exit 2) [(0, .int .u32 (iterS (8 - i) n))] []
def on8P_Inv (n : Int) (i : Nat) : Prop := i ≤ 8 ∧ rng n = true
noncomputable def on8P_S : LoopR RC on8P_St where
  k := 0
  canon q := on8P_c q.n q.i
  objs q := on8P_o q.n q.i
  fin q := on8P_fin q.n q.i
  Inv q := on8P_Inv q.n q.i
  μ q := 8 - q.i
theorem on8P_round (n : Int) (i : Nat) (hI : on8P_Inv n i) : Leaf (on8P_r n i) (LedR on8P_S ⟨n, i⟩) := by
  rw [on8P_eq]
  unfold on8P_Inv at hI
  obtain ⟨h1, h2⟩ := hI
  by_cases hlt : i < 8
  · have c1 : decide ((i : Int) < 8) = true := by simp; omega
    have w_succ : IntKind.i64.wrap ((i : Int) + 1) = ((i + 1 : Nat) : Int) := by rw [wrap_id (by omega) (by omega)]; simp
    rw [c1, h2, w_succ]
    refine leafR_go ⟨crcS n, i + 1⟩ ⟨hlt, rng_s h2⟩ (by simp only [on8P_S]; omega) ?_ rfl rfl
    simp only [on8P_S, on8P_fin, show 8 - i = (8 - (i + 1)) + 1 by omega, iterS]
  · have hi : i = 8 := by omega
    have c1 : decide ((i : Int) < 8) = false := by simp; omega
    rw [c1]
    exact leafR_exit [] (by simp only [on8P_S, on8P_fin, hi, Nat.sub_self, iterS, RT.val]) rfl
noncomputable def on8P_d (env : Env RC) (os : List (Obj RC)) : Option (Bool × on8P_St) := match env, os with
  | [(0, .int .u32 n), (17, .int .i64 x0)], [] => staticD (true) (decide (x0 = 0) && rng n, ⟨n, 0⟩)
  | _, _ => none
noncomputable def ut_3 := ut_2.addLoop 81 6 (sumR s07 [] [0, 17] on8P_S on8P_d)
theorem ut_3_laws : FLaws Try.prog s07 ut_3 := by
  refine ut_2_laws.addRoundsR s07_laws (by kernel_rfl) on8P_S 60 [0, 17] [0] [] [0, 17] on8P_d (fun q hI => ?_) ?_
  · obtain ⟨n, i⟩ := q
    refine ⟨?_, ?_, on8P_round n i hI⟩
    · simp_all [RefsOK, on8P_S, on8P_c, on8P_o, on8P_Inv, D.refs, Obj.refs, rEnc]
    · simp_all [on8P_S, on8P_fin, on8P_o, on8P_Inv, RT.refsOK, RefsOK, D.refs, Obj.refs, rEnc]
  · intro env os b q hd_ hb
    unfold on8P_d at hd_
    split at hd_
    · obtain ⟨hs, hd_⟩ := staticD_some hd_
      cases hd_
      simp only [Bool.and_eq_true, decide_eq_true_eq] at hb
      obtain ⟨rfl, h⟩ := hb
      exact ⟨⟨Nat.zero_le _, h⟩, rfl, rfl⟩
    · cases hd_
structure on8R_St where
  n : Int
  i : Nat
def on8R_c (n : Int) (i : Nat) : Env RC := [(0, .int .u32 n), (6, .int .i64 (i : Int))]
def on8R_o (n : Int) (i : Nat) : List (Obj RC) := []
noncomputable def on8R_r (n : Int) (i : Nat) := rndO s07 ut_3 80 6 60 0 [0, 6] [0] [] (on8R_c n i) (on8R_o n i)
theorem on8R_eq (n : Int) (i : Nat) : on8R_r n i = (bif decide ((↑i : Int) < (8 : Int)) then bif rng n then some ((X.normal, [(0, D.int IntKind.u32 (crcS n)), (6, D.int .i64 (IntKind.wrap .i64 ((↑i : Int) + (1 : Int))))]), []) else none else some ((X.exit (2 : Nat), [(0, D.int IntKind.u32 n)]), [])) := by kernel_rfl
noncomputable def on8R_fin (n : Int) (i : Nat) : RT RC := .leaf (.exit 2) [(0, .int .u32 (iterS (8 - i) n))] []
def on8R_Inv (n : Int) (i : Nat) : Prop := i ≤ 8 ∧ rng n = true
noncomputable def on8R_S : LoopR RC on8R_St where
  k := 0
  canon q := on8R_c q.n q.i
  objs q := on8R_o q.n q.i
  fin q := on8R_fin q.n q.i
  Inv q := on8R_Inv q.n q.i
  μ q := 8 - q.i
theorem on8R_round (n : Int) (i : Nat) (hI : on8R_Inv n i) : Leaf (on8R_r n i) (LedR on8R_S ⟨n, i⟩) := by
  rw [on8R_eq]
  unfold on8R_Inv at hI
  obtain ⟨h1, h2⟩ := hI
  by_cases hlt : i < 8
  · have c1 : decide ((i : Int) < 8) = true := by simp; omega
    have w_succ : IntKind.i64.wrap ((i : Int) + 1) = ((i + 1 : Nat) : Int) := by rw [wrap_id (by omega) (by omega)]; simp
    rw [c1, h2, w_succ]
    refine leafR_go ⟨crcS n, i + 1⟩ ⟨hlt, rng_s h2⟩ (by simp only [on8R_S]; omega) ?_ rfl rfl
    simp only [on8R_S, on8R_fin, show 8 - i = (8 - (i + 1)) + 1 by omega, iterS]
  · have hi : i = 8 := by omega
    have c1 : decide ((i : Int) < 8) = false := by simp; omega
    rw [c1]
    exact leafR_exit [] (by simp only [on8R_S, on8R_fin, hi, Nat.sub_self, iterS, RT.val]) rfl
noncomputable def on8R_d (env : Env RC) (os : List (Obj RC)) : Option (Bool × on8R_St) := match env, os with
  | [(0, .int .u32 n), (6, .int .i64 x0)], [] => staticD (true) (decide (x0 = 0) && rng n, ⟨n, 0⟩)
  | _, _ => none
noncomputable def ut_4 := ut_3.addLoop 80 6 (sumR s07 [] [0, 6] on8R_S on8R_d)
theorem ut_4_laws : FLaws Try.prog s07 ut_4 := by
  refine ut_3_laws.addRoundsR s07_laws (by kernel_rfl) on8R_S 60 [0, 6] [0] [] [0, 6] on8R_d (fun q hI => ?_) ?_
  · obtain ⟨n, i⟩ := q
    refine ⟨?_, ?_, on8R_round n i hI⟩
    · simp_all [RefsOK, on8R_S, on8R_c, on8R_o, on8R_Inv, D.refs, Obj.refs, rEnc]
    · simp_all [on8R_S, on8R_fin, on8R_o, on8R_Inv, RT.refsOK, RefsOK, D.refs, Obj.refs, rEnc]
  · intro env os b q hd_ hb
    unfold on8R_d at hd_
    split at hd_
    · obtain ⟨hs, hd_⟩ := staticD_some hd_
      cases hd_
      simp only [Bool.and_eq_true, decide_eq_true_eq] at hb
      obtain ⟨rfl, h⟩ := hb
      exact ⟨⟨Nat.zero_le _, h⟩, rfl, rfl⟩
    · cases hd_
structure onPl_St where
  n : Int
  c : Bool
  b : List UInt8
  i : Nat
def onPl_c (n : Int) (c : Bool) (b : List UInt8) (i : Nat) : Env RC := [(0, .int .u32 n), (7, .sl (C := RC) .u8 c b), (8, .int .i64 (b.length)), (9, .int .i64 (i : Int))]
def onPl_o (n : Int) (c : Bool) (b : List UInt8) (i : Nat) : List (Obj RC) := []
noncomputable def onPl_r (n : Int) (c : Bool) (b : List UInt8) (i : Nat) := rndO s07 ut_4 81 2 60 0 [0, 7, 8, 9] [0] [] (onPl_c n c b i) (onPl_o n c b i)
theorem onPl_eq (n : Int) (c : Bool) (b : List UInt8) (i : Nat) : onPl_r n c b i = (let Z0 : Int := (↑i : Int); let Z1 : Int := (↑b.length : Int); let Z2 : Int := bits IntKind.u32 (fun (x : Nat) (u v : BitVec x) => u ^^^ v) n (IntKind.wrap IntKind.u32 (↑(UInt8.toNat (List.getD b Z0.toNat (UInt8.ofBitVec (BitVec.ofNat (8 : Nat) (nat_lit 0))))) : Int)); bif decide (Z0 < Z1) then bif decide ((0 : Int) ≤ Z0 ∧ Z0 < Z1) then bif rng Z2 then some ((X.normal, [(0, D.int IntKind.u32 (iterS (8 : Nat) Z2)), (7, D.sl RTy.u8 c b), (8, D.int .i64 Z1), (9, D.int .i64 (IntKind.wrap .i64 (Z0 + (1 : Int))))]), []) else none else none else some ((X.exit (0 : Nat), [(0, D.int IntKind.u32 n)]), [])) := by kernel_rfl
noncomputable def onPl_fin (n : Int) (c : Bool) (b : List UInt8) (i : Nat) : RT RC := .leaf (.exit 0) [(0, .int .u32 (crcOn n (b.drop i)))] []
def onPl_Inv (n : Int) (c : Bool) (b : List UInt8) (i : Nat) : Prop := i ≤ b.length ∧ b.length ≤ 1000000
noncomputable def onPl_S : LoopR RC onPl_St where
  k := 0
  canon q := onPl_c q.n q.c q.b q.i
  objs q := onPl_o q.n q.c q.b q.i
  fin q := onPl_fin q.n q.c q.b q.i
  Inv q := onPl_Inv q.n q.c q.b q.i
  μ q := q.b.length - q.i
theorem onPl_round (n : Int) (c : Bool) (b : List UInt8) (i : Nat) (hI : onPl_Inv n c b i) : Leaf (onPl_r n c b i) (LedR onPl_S ⟨n, c, b, i⟩) := by
  (rw [onPl_eq]; conv => zeta)
  unfold onPl_Inv at hI
  obtain ⟨h1, h2⟩ := hI
  by_cases hlt : i < b.length
  · have w_succ : IntKind.i64.wrap ((i : Int) + 1) = ((i + 1 : Nat) : Int) := by rw [wrap_id (by omega) (by omega)]; simp
    have d_lt : decide ((i : Int) < b.length) = true := by simp; omega
    have d_in : decide (0 ≤ (i : Int) ∧ (i : Int) < b.length) = true := by simp; omega
    have t_nat : ((i : Int)).toNat = i := by simp
    simp only [w_succ, d_lt, d_in, t_nat, cond_true]
    have hx : ∀ x : Int, rng (bits .u32 (fun _ u v => u ^^^ v) n x) = true := fun x => rng_x n x
    simp only [u8_u32, hx, cond_true]
    refine leafR_go ⟨crc8 (xor32 n ((b.getD i 0).toNat : Int)), c, b, i + 1⟩ ⟨hlt, h2⟩ (by simp only [onPl_S]; omega) ?_ rfl rfl
    simp only [onPl_S, onPl_fin, crcOn_step b i n hlt 0]
  · have hi : i = b.length := by omega
    have c1 : decide ((i : Int) < b.length) = false := by simp; omega
    rw [c1]
    exact leafR_exit [] (by simp only [onPl_S, onPl_fin, hi, List.drop_length, crcOn_nil, RT.val]) rfl
noncomputable def onPl_d (env : Env RC) (os : List (Obj RC)) : Option (Bool × onPl_St) := match env, os with
  | [(0, .int .u32 n), (7, .sl .u8 c b), (8, .int .i64 x0), (9, .int .i64 x1)], [] => staticD (true) (decide (x0 = b.length) && decide (x1 = 0) && decide (b.length ≤ 1000000), ⟨n, c, b, 0⟩)
  | _, _ => none
noncomputable def ut_5 := ut_4.addLoop 81 2 (sumR s07 [] [0, 7, 8, 9] onPl_S onPl_d)
theorem ut_5_laws : FLaws Try.prog s07 ut_5 := by
  refine ut_4_laws.addRoundsR s07_laws (by kernel_rfl) onPl_S 60 [0, 7, 8, 9] [0] [] [0, 7, 8, 9] onPl_d (fun q hI => ?_) ?_
  · obtain ⟨n, c, b, i⟩ := q
    refine ⟨?_, ?_, onPl_round n c b i hI⟩
    · simp_all [RefsOK, onPl_S, onPl_c, onPl_o, onPl_Inv, D.refs, Obj.refs, rEnc]
    · simp_all [onPl_S, onPl_fin, onPl_o, onPl_Inv, RT.refsOK, RefsOK, D.refs, Obj.refs, rEnc]
  · intro env os b q hd_ hb
    unfold onPl_d at hd_
    split at hd_
    · obtain ⟨hs, hd_⟩ := staticD_some hd_
      cases hd_
      simp only [Bool.and_eq_true, decide_eq_true_eq] at hb
      obtain ⟨⟨rfl, rfl⟩, h⟩ := hb
      exact ⟨⟨Nat.zero_le _, h⟩, rfl, rfl⟩
    · cases hd_
structure onRl_St where
  n : Int
  c : Bool
  b : List UInt8
  i : Nat
def onRl_c (n : Int) (c : Bool) (b : List UInt8) (i : Nat) : Env RC := [(0, .int .u32 n), (1, .sl (C := RC) .u8 c b), (5, .int .i64 (i : Int))]
def onRl_o (n : Int) (c : Bool) (b : List UInt8) (i : Nat) : List (Obj RC) := []
noncomputable def onRl_r (n : Int) (c : Bool) (b : List UInt8) (i : Nat) := rndO s07 ut_5 80 2 60 0 [0, 1, 5] [0] [] (onRl_c n c b i) (onRl_o n c b i)
theorem onRl_eq (n : Int) (c : Bool) (b : List UInt8) (i : Nat) : onRl_r n c b i = (let Z0 : Int := (↑i : Int); let Z1 : Int := bits IntKind.u32 (fun (x : Nat) (u v : BitVec x) => u ^^^ v) n (IntKind.wrap IntKind.u32 (↑(UInt8.toNat (List.getD b Z0.toNat (UInt8.ofBitVec (BitVec.ofNat (8 : Nat) (nat_lit 0))))) : Int)); bif lenOK b.length then bif decide (Z0 < (↑b.length : Int)) then bif decide ((0 : Int) ≤ Z0 ∧ Z0 < (↑b.length : Int)) then bif rng Z1 then some ((X.normal, [(0, D.int IntKind.u32 (iterS (8 : Nat) Z1)), (1, D.sl RTy.u8 c b), (5, D.int .i64 (IntKind.wrap .i64 (Z0 + (1 : Int))))]), []) else none else none else some ((X.exit (0 : Nat), [(0, D.int IntKind.u32 n)]), []) else none) := by kernel_rfl
noncomputable def onRl_fin (n : Int) (c : Bool) (b : List UInt8) (i : Nat) : RT RC := .leaf (.exit 0) [(0, .int .u32 (crcOn n (b.drop i)))] []
def onRl_Inv (n : Int) (c : Bool) (b : List UInt8) (i : Nat) : Prop := i ≤ b.length ∧ b.length ≤ 1000000
noncomputable def onRl_S : LoopR RC onRl_St where
  k := 0
  canon q := onRl_c q.n q.c q.b q.i
  objs q := onRl_o q.n q.c q.b q.i
  fin q := onRl_fin q.n q.c q.b q.i
  Inv q := onRl_Inv q.n q.c q.b q.i
  μ q := q.b.length - q.i
theorem onRl_round (n : Int) (c : Bool) (b : List UInt8) (i : Nat) (hI : onRl_Inv n c b i) : Leaf (onRl_r n c b i) (LedR onRl_S ⟨n, c, b, i⟩) := by
  (rw [onRl_eq]; conv => zeta)
  unfold onRl_Inv at hI
  obtain ⟨h1, h2⟩ := hI
  have hlk : lenOK b.length = true := lenOK_of (by omega)
  by_cases hlt : i < b.length
  · have w_succ : IntKind.i64.wrap ((i : Int) + 1) = ((i + 1 : Nat) : Int) := by rw [wrap_id (by omega) (by omega)]; simp
    have d_lt : decide ((i : Int) < b.length) = true := by simp; omega
    have d_in : decide (0 ≤ (i : Int) ∧ (i : Int) < b.length) = true := by simp; omega
    have t_nat : ((i : Int)).toNat = i := by simp
    simp only [w_succ, d_lt, d_in, t_nat, cond_true]
    have hx : ∀ x : Int, rng (bits .u32 (fun _ u v => u ^^^ v) n x) = true := fun x => rng_x n x
    simp only [u8_u32, hx, hlk, cond_true]
    refine leafR_go ⟨crc8 (xor32 n ((b.getD i 0).toNat : Int)), c, b, i + 1⟩ ⟨hlt, h2⟩ (by simp only [onRl_S]; omega) ?_ rfl rfl
    simp only [onRl_S, onRl_fin, crcOn_step b i n hlt 0]
  · have hi : i = b.length := by omega
    have c1 : decide ((i : Int) < b.length) = false := by simp; omega
    rw [hlk, c1]
    exact leafR_exit [] (by simp only [onRl_S, onRl_fin, hi, List.drop_length, crcOn_nil, RT.val]) rfl
noncomputable def onRl_d (env : Env RC) (os : List (Obj RC)) : Option (Bool × onRl_St) := match env, os with
  | [(0, .int .u32 n), (1, .sl .u8 c b), (5, .int .i64 x0)], [] => staticD (true) (decide (x0 = 0) && decide (b.length ≤ 1000000), ⟨n, c, b, 0⟩)
  | _, _ => none
noncomputable def ut_6 := ut_5.addLoop 80 2 (sumR s07 [] [0, 1, 5] onRl_S onRl_d)
theorem ut_6_laws : FLaws Try.prog s07 ut_6 := by
  refine ut_5_laws.addRoundsR s07_laws (by kernel_rfl) onRl_S 60 [0, 1, 5] [0] [] [0, 1, 5] onRl_d (fun q hI => ?_) ?_
  · obtain ⟨n, c, b, i⟩ := q
    refine ⟨?_, ?_, onRl_round n c b i hI⟩
    · simp_all [RefsOK, onRl_S, onRl_c, onRl_o, onRl_Inv, D.refs, Obj.refs, rEnc]
    · simp_all [onRl_S, onRl_fin, onRl_o, onRl_Inv, RT.refsOK, RefsOK, D.refs, Obj.refs, rEnc]
  · intro env os b q hd_ hb
    unfold onRl_d at hd_
    split at hd_
    · obtain ⟨hs, hd_⟩ := staticD_some hd_
      cases hd_
      simp only [Bool.and_eq_true, decide_eq_true_eq] at hb
      obtain ⟨rfl, h⟩ := hb
      exact ⟨⟨Nat.zero_le _, h⟩, rfl, rfl⟩
    · cases hd_
def onP_s (n : Int) (c : Bool) (b : List UInt8) : Option (Bool × D RC) := some (decide (b.length ≤ 1000000), .int .u32 (crcOn n b))
def onP_sp : List (D RC) → Option (Bool × D RC)
  | [.int .u32 n, .sl .u8 c b] => onP_s n c b
  | _ => none
noncomputable def onP_e (n : Int) (c : Bool) (b : List UInt8) := evF s07 ut_6 60 81 [.int .u32 n, .sl (C := RC) .u8 c b]
theorem onP_eq (n : Int) (c : Bool) (b : List UInt8) : onP_e n c b = (let Z0 : Nat := List.length b; bif lenOK Z0 then bif decide ((↑Z0 : Int) = (↑Z0 : Int)) && true && decide (Z0 ≤ (1000000 : Nat)) then some (D.int IntKind.u32 (crcOn n (List.drop (0 : Nat) b))) else none else none) := by kernel_rfl
theorem onP_ok (n : Int) (c : Bool) (b : List UInt8) (h : (decide (b.length ≤ 1000000)) = true) : onP_e n c b = some (.int .u32 (crcOn n b)) := by
  (rw [onP_eq]; conv => zeta)
  have hl := of_decide_eq_true h
  rw [lenOK_of (by omega), h]
  simp
noncomputable def ut_7 := ut_6.addSpec 81 onP_sp
theorem ut_7_laws : FLaws Try.prog s07 ut_7 := ut_6_laws.addEv s07_laws fun args d h => by
  unfold onP_sp at h
  split at h
  · unfold onP_s at h
    have h1 := congrArg Prod.fst (Option.some.inj h)
    obtain rfl : _ = d := congrArg Prod.snd (Option.some.inj h)
    exact ⟨by simp [D.refs], 60, onP_ok _ _ _ h1⟩
  · cases h
def onR_s (n : Int) (c : Bool) (b : List UInt8) : Option (Bool × D RC) := some (decide (b.length ≤ 1000000), .int .u32 (crcOn n b))
def onR_sp : List (D RC) → Option (Bool × D RC)
  | [.int .u32 n, .sl .u8 c b] => onR_s n c b
  | _ => none
noncomputable def onR_e (n : Int) (c : Bool) (b : List UInt8) := evF s07 ut_7 60 80 [.int .u32 n, .sl (C := RC) .u8 c b]
theorem onR_eq (n : Int) (c : Bool) (b : List UInt8) : onR_e n c b = (bif decide (List.length b ≤ (1000000 : Nat)) then some (D.int IntKind.u32 (crcOn n (List.drop (0 : Nat) b))) else none) := by kernel_rfl
theorem onR_ok (n : Int) (c : Bool) (b : List UInt8) (h : (decide (b.length ≤ 1000000)) = true) : onR_e n c b = some (.int .u32 (crcOn n b)) := by
  rw [onR_eq]
  have hl := of_decide_eq_true h
  rw [h]
  simp
noncomputable def ut_8 := ut_7.addSpec 80 onR_sp
theorem ut_8_laws : FLaws Try.prog s07 ut_8 := ut_7_laws.addEv s07_laws fun args d h => by
  unfold onR_sp at h
  split at h
  · unfold onR_s at h
    have h1 := congrArg Prod.fst (Option.some.inj h)
    obtain rfl : _ = d := congrArg Prod.snd (Option.some.inj h)
    exact ⟨by simp [D.refs], 60, onR_ok _ _ _ h1⟩
  · cases h
def sumP_s (c : Bool) (b : List UInt8) : Option (Bool × D RC) := some (decide (b.length ≤ 1000000), .int .u32 (crcOf b))
def sumP_sp : List (D RC) → Option (Bool × D RC)
  | [.sl .u8 c b] => sumP_s c b
  | _ => none
noncomputable def sumP_e (c : Bool) (b : List UInt8) := evF s07 ut_8 60 75 [.sl (C := RC) .u8 c b]
theorem sumP_eq (c : Bool) (b : List UInt8) : sumP_e c b = (bif decide (List.length b ≤ (1000000 : Nat)) then some (D.int IntKind.u32 (bits IntKind.u32 (fun (x : Nat) (u v : BitVec x) => u ^^^ v) (4294967295 : Int) (crcOn (4294967295 : Int) b))) else none) := by kernel_rfl
theorem sumP_ok (c : Bool) (b : List UInt8) (h : (decide (b.length ≤ 1000000)) = true) : sumP_e c b = some (.int .u32 (crcOf b)) := by
  rw [sumP_eq]
  rw [h]; rfl
noncomputable def ut_9 := ut_8.addSpec 75 sumP_sp
theorem ut_9_laws : FLaws Try.prog s07 ut_9 := ut_8_laws.addEv s07_laws fun args d h => by
  unfold sumP_sp at h
  split at h
  · unfold sumP_s at h
    have h1 := congrArg Prod.fst (Option.some.inj h)
    obtain rfl : _ = d := congrArg Prod.snd (Option.some.inj h)
    exact ⟨by simp [D.refs], 60, sumP_ok _ _ h1⟩
  · cases h
def sumR_s (c : Bool) (b : List UInt8) : Option (Bool × D RC) := some (decide (b.length ≤ 1000000), .int .u32 (crcOf b))
def sumR_sp : List (D RC) → Option (Bool × D RC)
  | [.sl .u8 c b] => sumR_s c b
  | _ => none
noncomputable def sumR_e (c : Bool) (b : List UInt8) := evF s07 ut_9 60 77 [.sl (C := RC) .u8 c b]
theorem sumR_eq (c : Bool) (b : List UInt8) : sumR_e c b = (bif decide (List.length b ≤ (1000000 : Nat)) then some (D.int IntKind.u32 (bits IntKind.u32 (fun (x : Nat) (u v : BitVec x) => u ^^^ v) (4294967295 : Int) (crcOn (4294967295 : Int) b))) else none) := by kernel_rfl
theorem sumR_ok (c : Bool) (b : List UInt8) (h : (decide (b.length ≤ 1000000)) = true) : sumR_e c b = some (.int .u32 (crcOf b)) := by
  rw [sumR_eq]
  rw [h]; rfl
noncomputable def ut_10 := ut_9.addSpec 77 sumR_sp
theorem ut_10_laws : FLaws Try.prog s07 ut_10 := ut_9_laws.addEv s07_laws fun args d h => by
  unfold sumR_sp at h
  split at h
  · unfold sumR_s at h
    have h1 := congrArg Prod.fst (Option.some.inj h)
    obtain rfl : _ = d := congrArg Prod.snd (Option.some.inj h)
    exact ⟨by simp [D.refs], 60, sumR_ok _ _ h1⟩
  · cases h
def sealP_s (c : Bool) (b : List UInt8) : Option (Bool × D RC) := some (decide (b.length ≤ 1000000), .sl (C := RC) .u8 false (sealL b))
def sealP_sp : List (D RC) → Option (Bool × D RC)
  | [.sl .u8 c b] => sealP_s c b
  | _ => none
noncomputable def sealP_e (c : Bool) (b : List UInt8) := evF s07 ut_10 60 56 [.sl (C := RC) .u8 c b]
theorem sealP_eq (c : Bool) (b : List UInt8) : sealP_e c b = (let Z0 : Nat := List.length b; let Z1 : Int := (↑Z0 : Int); let Z2 : Int := IntKind.wrap .i64 (Z1 + (4 : Int)); let Z3 : Nat := Int.toNat Z1; let Z4 : List UInt8 := List.replicate Z3 (UInt8.ofBitVec (BitVec.ofNat (8 : Nat) (nat_lit 0))); let Z5 : List UInt8 := List.take Z4.length b ++ List.drop Z0 Z4; let Z6 : List UInt8 := [UInt8.ofNat (IntKind.wrap IntKind.u8 (crcOf b)).toNat]; let Z7 : Nat := List.length Z5 + List.length Z6; let Z8 : Nat := List.length (Z5 ++ Z6); let Z9 : Int := Int.fdiv (crcOf b) (256 : Int); let Z10 : List UInt8 := [UInt8.ofNat (IntKind.wrap IntKind.u8 Z9).toNat]; let Z11 : Nat := List.length (Z5 ++ Z6 ++ Z10); let Z12 : Int := Int.fdiv Z9 (256 : Int); let Z13 : List UInt8 := [UInt8.ofNat (IntKind.wrap IntKind.u8 Z12).toNat]; let Z14 : Nat := List.length (Z5 ++ Z6 ++ Z10 ++ Z13); let Z15 : List UInt8 := [UInt8.ofNat (IntKind.wrap IntKind.u8 (Int.fdiv Z12 (256 : Int))).toNat]; bif lenOK Z0 then bif lenOK Z0 then bif decide ((0 : Int) ≤ Z1 ∧ Z1 ≤ Z2) && sizeOK Z2.toNat (1 : Nat) then bif Nat.beq Z3 Z4.length && lenOK Z3 then bif decide (Z0 ≤ (1000000 : Nat)) then bif Nat.beq Z3 Z5.length && sizeOK (Z3 + List.length Z6) (1 : Nat) then bif Nat.beq Z7 Z8 && sizeOK (Z7 + List.length Z10) (1 : Nat) then bif Nat.beq (Z8 + List.length Z10) Z11 && sizeOK (Z8 + List.length Z10 + List.length Z13) (1 : Nat) then bif Nat.beq (Z11 + List.length Z13) Z14 && sizeOK (Z11 + List.length Z13 + List.length Z15) (1 : Nat) then bif Nat.beq (Z14 + List.length Z15) (Z5 ++ Z6 ++ Z10 ++ Z13 ++ Z15).length then some (D.sl RTy.u8 false (Z5 ++ Z6 ++ Z10 ++ Z13 ++ Z15)) else none else none else none else none else none else none else none else none else none else none) := by kernel_rfl
theorem sealP_ok (c : Bool) (b : List UInt8) (h : (decide (b.length ≤ 1000000)) = true) : sealP_e c b = some (.sl (C := RC) .u8 false (sealL b)) := by
  (rw [sealP_eq]; conv => zeta)
  have hl := of_decide_eq_true h
  have t1 : ((b.length : Int)).toNat = b.length := by simp
  have t2 : b.take (List.replicate b.length (⟨0#8⟩ : UInt8)).length = b := by simp
  have t3 : (List.replicate b.length (⟨0#8⟩ : UInt8)).drop b.length = [] := by simp
  have w4 : IntKind.i64.wrap ((b.length : Int) + 4) = (b.length : Int) + 4 := wrap_id (by omega) (by omega)
  have t4 : ((b.length : Int) + 4).toNat = b.length + 4 := by omega
  simp only [t1, t2, t3, t4, w4, List.append_nil, byteOf_wrap, List.append_assoc, List.cons_append, List.nil_append, List.length_cons, List.length_nil, List.length_append, List.length_replicate, List.take_length, Nat.zero_add, Nat.reduceAdd, Nat.add_assoc]
  have eb : ∀ n : Nat, n.beq n = true := fun n => by simp
  have es : ∀ k : Nat, k ≤ 10 → sizeOK (b.length + k) 1 = true := fun k hk => sizeT (by omega)
  simp only [eb, es, Nat.reduceLeDiff, Bool.and_self, Bool.true_and, cond_true]
  repeat (refine cond_of (by first | assumption | exact lenOK_of (by omega) | exact sizeT (by omega) | (simp; done) | (simp; omega) | (simp [sizeOK]; omega)) ?_)
  rfl
noncomputable def ut_11 := ut_10.addSpec 56 sealP_sp
theorem ut_11_laws : FLaws Try.prog s07 ut_11 := ut_10_laws.addEv s07_laws fun args d h => by
  unfold sealP_sp at h
  split at h
  · unfold sealP_s at h
    have h1 := congrArg Prod.fst (Option.some.inj h)
    obtain rfl : _ = d := congrArg Prod.snd (Option.some.inj h)
    exact ⟨by simp [D.refs], 60, sealP_ok _ _ h1⟩
  · cases h
def sealR_s (c : Bool) (b : List UInt8) : Option (Bool × D RC) := some (decide (b.length ≤ 1000000), .sl (C := RC) .u8 false (sealL b))
def sealR_sp : List (D RC) → Option (Bool × D RC)
  | [.sl .u8 c b] => sealR_s c b
  | _ => none
noncomputable def sealR_e (c : Bool) (b : List UInt8) := evF s07 ut_11 60 59 [.sl (C := RC) .u8 c b]
theorem sealR_eq (c : Bool) (b : List UInt8) : sealR_e c b = (let Z0 : Nat := (0 : Nat) + List.length b; let Z1 : Nat := List.length ([] ++ b); let Z2 : Int := crcOf b; let Z3 : List UInt8 := [UInt8.ofNat (IntKind.wrap IntKind.u8 (bits IntKind.u32 (fun (x : Nat) (u v : BitVec x) => u &&& v) Z2 (255 : Int))).toNat, UInt8.ofNat (IntKind.wrap IntKind.u8 (bits IntKind.u32 (fun (x : Nat) (u v : BitVec x) => u &&& v) (Int.fdiv Z2 (256 : Int)) (255 : Int))).toNat, UInt8.ofNat (IntKind.wrap IntKind.u8 (bits IntKind.u32 (fun (x : Nat) (u v : BitVec x) => u &&& v) (Int.fdiv Z2 (65536 : Int)) (255 : Int))).toNat, UInt8.ofNat (IntKind.wrap IntKind.u8 (Int.fdiv Z2 (16777216 : Int))).toNat]; bif decide (List.length b ≤ (1000000 : Nat)) then bif sizeOK Z0 (1 : Nat) then bif Nat.beq Z0 Z1 && sizeOK (Z0 + List.length Z3) (1 : Nat) then bif Nat.beq (Z1 + List.length Z3) ([] ++ b ++ Z3).length then some (D.sl RTy.u8 false ([] ++ b ++ Z3)) else none else none else none else none) := by kernel_rfl
theorem sealR_ok (c : Bool) (b : List UInt8) (h : (decide (b.length ≤ 1000000)) = true) : sealR_e c b = some (.sl (C := RC) .u8 false (sealL b)) := by
  (rw [sealR_eq]; conv => zeta)
  have hl := of_decide_eq_true h
  have hr := crcOf_range b
  have f8 : (crcOf b).fdiv 256 = crcOf b / 256 := Int.fdiv_eq_ediv_of_nonneg _ (by omega)
  have f16 : (crcOf b).fdiv 65536 = crcOf b / 65536 := Int.fdiv_eq_ediv_of_nonneg _ (by omega)
  have f24 : (crcOf b).fdiv 16777216 = crcOf b / 16777216 := Int.fdiv_eq_ediv_of_nonneg _ (by omega)
  have g1 : ((crcOf b).fdiv 256).fdiv 256 = crcOf b / 65536 := by rw [f8, Int.fdiv_eq_ediv_of_nonneg _ (by omega)]; omega
  have g2 : (((crcOf b).fdiv 256).fdiv 256).fdiv 256 = crcOf b / 16777216 := by rw [g1, Int.fdiv_eq_ediv_of_nonneg _ (by omega)]; omega
  simp only [f8, f16, f24, and255 hr, and255 (n := crcOf b / 256) (by omega), and255 (n := crcOf b / 65536) (by omega), byteOf_wrap, byteOf_mod, List.nil_append, List.length_cons, List.length_nil, List.length_append]
  iterate 4 refine cond_of (by first | exact lenOK_of (by simp; omega) | exact lenOK_of (by omega) | (simp [sizeOK]; done) | (simp [sizeOK]; omega) | omega) ?_
  rw [sealL, leB4, g2, g1, f8]
noncomputable def ut_12 := ut_11.addSpec 59 sealR_sp
theorem ut_12_laws : FLaws Try.prog s07 ut_12 := ut_11_laws.addEv s07_laws fun args d h => by
  unfold sealR_sp at h
  split at h
  · unfold sealR_s at h
    have h1 := congrArg Prod.fst (Option.some.inj h)
    obtain rfl : _ = d := congrArg Prod.snd (Option.some.inj h)
    exact ⟨by simp [D.refs], 60, sealR_ok _ _ h1⟩
  · cases h
def openP_s (c : Bool) (b : List UInt8) : Option (Bool × D RC) := some (decide (b.length ≤ 1000000), .tup (.acons (.sl (C := RC) .u8 (openL b).isNone ((openL b).getD [])) (.acons (.int .i64 (bif (openL b).isNone then 50 else 0)) .anil)))
def openP_sp : List (D RC) → Option (Bool × D RC)
  | [.sl .u8 c b] => openP_s c b
  | _ => none
noncomputable def openP_e (c : Bool) (b : List UInt8) := evF s07 ut_12 60 65 [.sl (C := RC) .u8 c b]
theorem openP_eq (c : Bool) (b : List UInt8) : openP_e c b = (let Z0 : Nat := List.length b; let Z1 : Int := IntKind.wrap .i64 ((↑Z0 : Int) - (4 : Int)); let Z2 : DO_ := some (D.tup (D.acons (D.sl RTy.u8 true []) (.acons (D.int .i64 50) .anil))); let Z3 : Nat := Int.toNat Z1; let Z4 : List UInt8 := List.drop (0 : Nat) (List.take Z3 b); let Z5 : List UInt8 := List.replicate Z3 (UInt8.ofBitVec (BitVec.ofNat (8 : Nat) (nat_lit 0))); let Z6 : List UInt8 := List.take Z5.length b ++ List.drop Z0 Z5; bif lenOK Z0 then bif decide (Z1 < (0 : Int)) then Z2 else bif decide ((0 : Int) ≤ (0 : Int) ∧ (0 : Int) ≤ Z1 ∧ Z1 ≤ (↑Z0 : Int) ∧ Z1 = Z1) then bif decide (List.length Z4 ≤ (1000000 : Nat)) then bif decide ((0 : Int) ≤ Z1 ∧ Z1 ≤ (↑(sealL Z4).length : Int)) then bif decide ((0 : Int) ≤ Z1 ∧ Z1 ≤ (↑Z0 : Int)) then bif !(fun (l : List (RA RTy.u8)) => l) (List.drop Z3 (sealL Z4)) == (fun (l : List (RA RTy.u8)) => l) (List.drop Z3 b) then Z2 else bif decide ((0 : Int) ≤ Z1 ∧ Z1 ≤ Z1) && sizeOK Z3 (1 : Nat) then bif Nat.beq Z3 Z5.length && lenOK Z3 then bif Nat.beq Z3 Z6.length then some (D.tup (D.acons (D.sl RTy.u8 false Z6) (.acons (D.int .i64 0) .anil))) else none else none else none else none else none else none else none else none) := by kernel_rfl
theorem openP_ok (c : Bool) (b : List UInt8) (h : (decide (b.length ≤ 1000000)) = true) : openP_e c b = some (.tup (.acons (.sl (C := RC) .u8 (openL b).isNone ((openL b).getD [])) (.acons (.int .i64 (bif (openL b).isNone then 50 else 0)) .anil))) := by
  (rw [openP_eq]; conv => zeta)
  have hl := of_decide_eq_true h
  have wm : IntKind.i64.wrap ((b.length : Int) - 4) = (b.length : Int) - 4 := wrap_id (by omega) (by omega)
  have tm : ((b.length : Int) - 4).toNat = b.length - 4 := by omega
  have ts : (b.take (b.length - 4)).length = b.length - 4 := by simp
  simp only [wm, tm, List.drop_zero]
  refine cond_of (lenOK_of (by omega)) ?_
  refine cond_two (fun h0 => ?_) fun h0 => ?_ <;> simp only [decide_eq_true_eq, decide_eq_false_iff_not] at h0
  · have e : openL b = none := by unfold openL; rw [if_neg (by omega)]
    rw [e]; rfl
  iterate 2 refine cond_of (by first | exact lenOK_of (by simp; omega) | exact lenOK_of (by omega) | (simp [sizeOK]; done) | (simp [sizeOK]; omega) | omega) ?_
  refine cond_of (by simp [sealL_len, ts]; omega) ?_
  iterate 1 refine cond_of (by first | exact lenOK_of (by simp; omega) | exact lenOK_of (by omega) | (simp [sizeOK]; done) | (simp [sizeOK]; omega) | omega) ?_
  have ht := openL_test b (by omega)
  by_cases hq : sealL (b.take (b.length - 4)) = b
  · have e : openL b = some (b.take (b.length - 4)) := by unfold openL; rw [if_pos ⟨by omega, hq⟩]
    rw [ht.2 hq, e]
    have tr : b.take (List.replicate (b.length - 4) (⟨0#8⟩ : UInt8)).length = b.take (b.length - 4) := by rw [List.length_replicate]
    have td : (List.replicate (b.length - 4) (⟨0#8⟩ : UInt8)).drop b.length = [] := by simp
    simp only [beq_self_eq_true, Bool.not_true, cond_false, tr, td, List.append_nil, List.length_replicate, ts]
    have lk : lenOK (b.length - 4) = true := lenOK_of (by omega)
    have eb : ∀ n : Nat, n.beq n = true := fun n => by simp
    simp only [lk, eb, Bool.and_self, cond_true]
    repeat (refine cond_of (by first | assumption | exact lenOK_of (by omega) | exact sizeT (by omega) | (simp; done) | (simp; omega) | (simp [sizeOK]; omega)) ?_)
    rfl
  · have e : openL b = none := by unfold openL; rw [if_neg (fun q => hq q.2)]
    rw [e, show ((sealL (b.take (b.length - 4))).drop (b.length - 4) == b.drop (b.length - 4)) = false by simpa using fun q => hq (ht.1 q)]
    rfl
noncomputable def ut_13 := ut_12.addSpec 65 openP_sp
theorem ut_13_laws : FLaws Try.prog s07 ut_13 := ut_12_laws.addEv s07_laws fun args d h => by
  unfold openP_sp at h
  split at h
  · unfold openP_s at h
    have h1 := congrArg Prod.fst (Option.some.inj h)
    obtain rfl : _ = d := congrArg Prod.snd (Option.some.inj h)
    exact ⟨by simp [D.refs], 60, openP_ok _ _ h1⟩
  · cases h
def openR_s (c : Bool) (b : List UInt8) : Option (Bool × D RC) := some (decide (b.length ≤ 1000000), .tup (.acons (.sl (C := RC) .u8 (openL b).isNone ((openL b).getD [])) (.acons (.int .i64 (bif (openL b).isNone then 50 else 0)) .anil)))
def openR_sp : List (D RC) → Option (Bool × D RC)
  | [.sl .u8 c b] => openR_s c b
  | _ => none
noncomputable def openR_e (c : Bool) (b : List UInt8) := evF s07 ut_13 60 60 [.sl (C := RC) .u8 c b]
theorem openR_eq (c : Bool) (b : List UInt8) : openR_e c b = (let Z0 : Int := (↑b.length : Int); let Z1 : Int := IntKind.wrap .i64 (Z0 - (4 : Int)); let Z2 : DO_ := some (D.tup (D.acons (D.sl RTy.u8 true []) (.acons (D.int .i64 50) .anil))); let Z3 : Bool := decide ((0 : Int) ≤ (0 : Int) ∧ (0 : Int) ≤ Z1 ∧ Z1 ≤ Z0); let Z4 : List UInt8 := List.drop (0 : Nat) (List.take Z1.toNat b); let Z5 : Nat := (0 : Nat) + List.length Z4; bif lenOK b.length then bif decide (Z1 < (0 : Int)) then Z2 else bif Z3 then bif decide (List.length Z4 ≤ (1000000 : Nat)) then bif !(fun (l : List (RA RTy.u8)) => l) (sealL Z4) == (fun (l : List (RA RTy.u8)) => l) b then Z2 else bif Z3 then bif sizeOK Z5 (1 : Nat) then bif Nat.beq Z5 ([] ++ Z4).length then some (D.tup (D.acons (D.sl RTy.u8 false ([] ++ Z4)) (.acons (D.int .i64 0) .anil))) else none else none else none else none else none else none) := by kernel_rfl
theorem openR_ok (c : Bool) (b : List UInt8) (h : (decide (b.length ≤ 1000000)) = true) : openR_e c b = some (.tup (.acons (.sl (C := RC) .u8 (openL b).isNone ((openL b).getD [])) (.acons (.int .i64 (bif (openL b).isNone then 50 else 0)) .anil))) := by
  (rw [openR_eq]; conv => zeta)
  have hl := of_decide_eq_true h
  have wm : IntKind.i64.wrap ((b.length : Int) - 4) = (b.length : Int) - 4 := wrap_id (by omega) (by omega)
  have tm : ((b.length : Int) - 4).toNat = b.length - 4 := by omega
  have ts : (b.take (b.length - 4)).length = b.length - 4 := by simp
  simp only [wm, tm, List.drop_zero, List.nil_append]
  refine cond_of (lenOK_of (by omega)) ?_
  refine cond_two (fun h0 => ?_) fun h0 => ?_ <;> simp only [decide_eq_true_eq, decide_eq_false_iff_not] at h0
  · have e : openL b = none := by unfold openL; rw [if_neg (by omega)]
    rw [e]; rfl
  iterate 2 refine cond_of (by first | exact lenOK_of (by simp; omega) | exact lenOK_of (by omega) | (simp [sizeOK]; done) | (simp [sizeOK]; omega) | omega) ?_
  by_cases hq : sealL (b.take (b.length - 4)) = b
  · have e : openL b = some (b.take (b.length - 4)) := by unfold openL; rw [if_pos ⟨by omega, hq⟩]
    rw [hq, e]
    simp only [beq_self_eq_true, Bool.not_true, cond_false]
    iterate 3 refine cond_of (by first | exact lenOK_of (by simp; omega) | exact lenOK_of (by omega) | (simp [sizeOK]; done) | (simp [sizeOK]; omega) | omega) ?_
    rfl
  · have e : openL b = none := by unfold openL; rw [if_neg (fun q => hq q.2)]
    rw [e, show (sealL (b.take (b.length - 4)) == b) = false by simpa using hq]
    rfl
noncomputable def ut_14 := ut_13.addSpec 60 openR_sp
theorem ut_14_laws : FLaws Try.prog s07 ut_14 := ut_13_laws.addEv s07_laws fun args d h => by
  unfold openR_sp at h
  split at h
  · unfold openR_s at h
    have h1 := congrArg Prod.fst (Option.some.inj h)
    obtain rfl : _ = d := congrArg Prod.snd (Option.some.inj h)
    exact ⟨by simp [D.refs], 60, openR_ok _ _ h1⟩
  · cases h
def maySec (s : Sector) : Bool := decide (0 ≤ s.n) && decide (s.n ≤ 1048575) && decide (s.b.length ≤ 640) && (decide (0 < s.n) || s.b == [])
def rowOK (l : List Sector) : Bool := decide (l.length = 33) && l.all maySec
def lowAt (now sure : List Sector) (i : Nat) : Bool := ((now.zip sure).drop i).all fun p => decide (p.2.n ≤ p.1.n)
def diskOK (now sure : List Sector) : Bool := rowOK now && rowOK sure && lowAt now sure 0
theorem diskOK_len {now sure : List Sector} (h : diskOK now sure = true) : now.length = 33 ∧ sure.length = 33 := by
  simp only [diskOK, rowOK, Bool.and_eq_true, decide_eq_true_eq] at h; exact ⟨h.1.1.1, h.1.2.1⟩
def sec0 : Sector := ⟨0, []⟩
theorem all_drop_step {α : Type} (l : List α) (p : α → Bool) (i : Nat) (h : i < l.length) (d : α) : (l.drop i).all p = (p (l.getD i d) && (l.drop (i + 1)).all p) := by
  have e : l.getD i d = l[i] := by simp [h]
  rw [List.drop_eq_getElem_cons h, e, List.all_cons]
theorem lowAt_step {now sure : List Sector} (i : Nat) (h1 : i < now.length) (h2 : i < sure.length) (d : Sector) : lowAt now sure i = (decide ((sure.getD i d).n ≤ (now.getD i d).n) && lowAt now sure (i + 1)) := by
  unfold lowAt
  rw [all_drop_step _ _ i (by simp; omega) (d, d)]
  have e : (now.zip sure).getD i (d, d) = (now.getD i d, sure.getD i d) := by
    have hz : i < (now.zip sure).length := by simp; omega
    simp [List.getD_eq_getElem?_getD, List.getElem?_eq_getElem hz, h1, h2]
  rw [e]
theorem lowAt_end {now sure : List Sector} (i : Nat) (h : now.length ≤ i) : lowAt now sure i = true := by
  unfold lowAt
  rw [List.drop_eq_nil_of_le (by simp; omega)]; rfl
def badAt (l : List Sector) (i : Nat) : Nat := i + (l.drop i).findIdx fun s => !maySec s
def okPut (now sure : List Sector) (k n : Int) (b : List UInt8) : Bool := diskOK now sure && (decide (0 ≤ k) && decide (k < 33) && decide (1 ≤ n) && !(b == []) && maySec ⟨n, b⟩)
def putNow (now : List Sector) (k : Nat) (n : Int) (b : List UInt8) : List Sector := if (now.getD k sec0).n < n then now.set k ⟨n, b⟩ else now
theorem putNow_len (now : List Sector) (k : Nat) (n : Int) (b : List UInt8) : (putNow now k n b).length = now.length := by unfold putNow; split <;> simp
def longAt (l : List Sector) (i : Nat) : Bool := (l.drop i).any fun s => decide (3000 < (s.b.length : Int))
def greatD (now sure : List Sector) : Bool := decide ((60 : Int) < now.length) || decide ((60 : Int) < sure.length) || longAt now 0 || longAt sure 0
theorem set_eq {α : Type} (l : List α) (k : Nat) (x : α) (h : k < l.length) : l.take k ++ [x] ++ l.drop (k + 1) = l.set k x := by
  rw [List.set_eq_take_append_cons_drop, if_pos h]; simp
theorem rowOK_len {l : List Sector} (h : rowOK l = true) : l.length = 33 := by simp only [rowOK, Bool.and_eq_true, decide_eq_true_eq] at h; exact h.1
theorem badAt_ge (l : List Sector) (i : Nat) : i ≤ badAt l i := Nat.le_add_right _ _
theorem badAt_step (l : List Sector) (i : Nat) (h : i < l.length) (d : Sector) : badAt l i = if maySec (l.getD i d) = true then badAt l (i + 1) else i := by
  have e : l.getD i d = l[i] := by simp [h]
  unfold badAt
  rw [List.drop_eq_getElem_cons h, e, List.findIdx_cons]
  cases maySec l[i] <;> simp; omega
def pNow (now sure : List Sector) (k n : Int) (b : List UInt8) : List Sector := bif okPut now sure k n b then putNow now k.toNat n b else []
def pSure (now sure : List Sector) (k n : Int) (b : List UInt8) : List Sector := bif okPut now sure k n b then sure else []
def okGet (now sure : List Sector) (k : Int) : Bool := diskOK now sure && (decide (0 ≤ k) && decide (k < 33))
def getS (now sure : List Sector) (k : Int) : Sector := bif okGet now sure k then now.getD k.toNat sec0 else sec0
theorem longAt_step (l : List Sector) (i : Nat) (h : i < l.length) (d : Sector) : longAt l i = (decide (3000 < ((l.getD i d).b.length : Int)) || longAt l (i + 1)) := by
  have e : l.getD i d = l[i] := by simp [h]
  unfold longAt
  rw [List.drop_eq_getElem_cons h, e, List.any_cons]
theorem longAt_end (l : List Sector) : longAt l l.length = false := by simp [longAt]
theorem eqSector (x y : Sector) : (x.n == y.n && (x.b == y.b && true)) = decide (x = y) := by
  rw [Bool.eq_iff_iff]; cases x; cases y; simp
def bitAt (lost : Int) (i : Nat) : Bool := bits .u64 (fun _ u v => u &&& v) (lost.fdiv (2 ^ min (IntKind.u64.wrap (i : Int)).toNat 64)) 1 == 1
def crashF (lost : Int) : Nat → Nat → List Sector → List Sector → List Sector × List Sector
  | 0, _, n, s => (n, s)
  | k + 1, i, n, s => if bitAt lost i = true then crashF lost k (i + 1) (n.set i (s.getD i sec0)) s else crashF lost k (i + 1) n (s.set i (n.getD i sec0))
def goodL (l : List Sector) : Bool := decide (l.length ≤ 9223372036854775807) && l.all fun s => lenOK s.b.length
theorem goodL_iff {l : List Sector} : goodL l = true ↔ l.length ≤ 9223372036854775807 ∧ ∀ s ∈ l, lenOK s.b.length = true := by simp [goodL]
theorem goodL_at {l : List Sector} (h : goodL l = true) (i : Nat) (hi : i < l.length) (d : Sector) : lenOK (l.getD i d).b.length = true := by
  have e : l.getD i d = l[i] := by simp [hi]
  rw [e]; exact (goodL_iff.1 h).2 _ (List.getElem_mem hi)
theorem okPut_facts {now sure : List Sector} {k n : Int} {b : List UInt8} (h : okPut now sure k n b = true) : diskOK now sure = true ∧ 0 ≤ k ∧ k < 33 ∧ 1 ≤ n ∧ b ≠ [] ∧ maySec ⟨n, b⟩ = true := by
  simp only [okPut, Bool.and_eq_true, decide_eq_true_eq] at h
  obtain ⟨h1, ⟨⟨⟨h2, h3⟩, h4⟩, h5⟩, h6⟩ := h
  exact ⟨h1, h2, h3, h4, by simpa using h5, h6⟩
theorem okPut_not {now sure : List Sector} {k n : Int} {b : List UInt8} (h : ¬ (diskOK now sure = true ∧ 0 ≤ k ∧ k < 33 ∧ 1 ≤ n ∧ b ≠ [] ∧ maySec ⟨n, b⟩ = true)) : okPut now sure k n b = false := by
  cases e : okPut now sure k n b
  · rfl
  · exact absurd (okPut_facts e) h
open Go.Proofs
def mayF_s (n : Int) (b : List UInt8) : Option (Bool × D RC) := some (lenOK b.length, .bool (maySec ⟨n, b⟩))
def mayF_sp : List (D RC) → Option (Bool × D RC)
  | [.acons (.int .i64 n) (.acons (.str b) .anil)] => mayF_s n b
  | _ => none
noncomputable def mayF_e (n : Int) (b : List UInt8) := evF s07 ut_14 40 46 [.acons (.int .i64 n) (.acons (.str b) .anil)]
theorem mayF_eq (n : Int) (b : List UInt8) : mayF_e n b = (let Z0 : DO_ := some (D.bool false); bif decide ((0 : Int) ≤ n) then bif decide (n ≤ (1048575 : Int)) then bif lenOK b.length then bif decide ((↑b.length : Int) ≤ (640 : Int)) then bif decide ((0 : Int) < n) then some (D.bool true) else some (D.bool (b == Array.toList #[])) else Z0 else none else Z0 else Z0) := by kernel_rfl
theorem mayF_ok (n : Int) (b : List UInt8) (h : (lenOK b.length) = true) : mayF_e n b = some (.bool (maySec ⟨n, b⟩)) := by
  (rw [mayF_eq]; conv => zeta)
  have hb : decide (((b.length : Nat) : Int) ≤ 640) = decide (b.length ≤ 640) := by rw [decide_eq_decide]; omega
  simp only [maySec, h, hb, cond_true]
  cases decide (0 ≤ n) <;> cases decide (n ≤ 1048575) <;> cases decide (b.length ≤ 640) <;> cases decide (0 < n) <;> cases b <;> rfl
noncomputable def uu_1 := ut_14.addSpec 46 mayF_sp
theorem uu_1_laws : FLaws Try.prog s07 uu_1 := ut_14_laws.addEv s07_laws fun args d h => by
  unfold mayF_sp at h
  split at h
  · unfold mayF_s at h
    have h1 := congrArg Prod.fst (Option.some.inj h)
    obtain rfl : _ = d := congrArg Prod.snd (Option.some.inj h)
    exact ⟨by simp [D.refs], 40, mayF_ok _ _ h1⟩
  · cases h
structure idxS_St where
  c : Bool
  l : List Sector
  i : Nat
def idxS_c (c : Bool) (l : List Sector) (i : Nat) : Env RC := [(0, .sl (C := RC) .sector c l), (1, .fn 64 (.acons (.ptr 0 []) .anil)), (4, .int .i64 0), (7, .int .i64 (l.length)), (8, .int .i64 (i : Int))]
def idxS_o (c : Bool) (l : List Sector) (i : Nat) : List (Obj RC) := [.var 80 (.fn 46 .anil)]
noncomputable def idxS_r (c : Bool) (l : List Sector) (i : Nat) := rndO s07 uu_1 78 2 40 1 [0, 1, 4, 7, 8] [4] [.slot 1 0] (idxS_c c l i) (idxS_o c l i)
theorem idxS_eq (c : Bool) (l : List Sector) (i : Nat) : idxS_r c l i = (let Z0 : Int := (↑i : Int); let Z1 : Int := (↑l.length : Int); let Z2 : Sector := List.getD l Z0.toNat (Sector.mk (0 : Int) []); let Z3 : List (Option (Obj RC)) := [some (Obj.var 80 (D.fn (46 : Nat) .anil))]; let Z4 : Nat × D RC := (4, D.int .i64 0); bif decide (Z0 < Z1) then bif decide ((0 : Int) ≤ Z0 ∧ Z0 < Z1) then bif lenOK (Sector.b Z2).length then bif !maySec (Sector.mk (Sector.n Z2) (Sector.b Z2)) then some ((X.ret, [(4, D.int .i64 Z0)]), Z3) else some ((X.normal, [(0, D.sl RTy.sector c l), (1, D.fn (64 : Nat) (.acons (D.ptr 0 []) .anil)), Z4, (7, D.int .i64 Z1), (8, D.int .i64 (IntKind.wrap .i64 (Z0 + (1 : Int))))]), Z3) else none else none else some ((X.exit (0 : Nat), [Z4]), Z3)) := by kernel_rfl
def idxS_fin (c : Bool) (l : List Sector) (i : Nat) : RT RC := .br (l.drop i |>.all maySec) (.leaf (.exit 0) [(4, .int .i64 0)] (idxS_o c l i)) (.leaf .ret [(4, .int .i64 (badAt l i))] (idxS_o c l i))
def idxS_Inv (c : Bool) (l : List Sector) (i : Nat) : Prop := i ≤ l.length ∧ goodL l = true
def idxS_S : LoopR RC idxS_St where
  k := 1
  canon q := idxS_c q.c q.l q.i
  objs q := idxS_o q.c q.l q.i
  fin q := idxS_fin q.c q.l q.i
  Inv q := idxS_Inv q.c q.l q.i
  μ q := q.l.length - q.i
theorem idxS_round (c : Bool) (l : List Sector) (i : Nat) (hI : idxS_Inv c l i) : Leaf (idxS_r c l i) (LedR idxS_S ⟨c, l, i⟩) := by
  (rw [idxS_eq]; conv => zeta)
  unfold idxS_Inv at hI
  obtain ⟨h1, hg⟩ := hI
  have h2 := (goodL_iff.1 hg).1
  by_cases hlt : i < l.length
  · have w_succ : IntKind.i64.wrap ((i : Int) + 1) = ((i + 1 : Nat) : Int) := by rw [wrap_id (by omega) (by omega)]; simp
    have d_lt : decide ((i : Int) < l.length) = true := by simp; omega
    have d_in : decide (0 ≤ (i : Int) ∧ (i : Int) < l.length) = true := by simp; omega
    have t_nat : ((i : Int)).toNat = i := by simp
    have w_pred : IntKind.i64.wrap ((i : Int) - 1) = (i : Int) - 1 := wrap_id (by omega) (by omega)
    have t_natp : ((i : Int) - 1).toNat = i - 1 := by omega
    simp only [w_succ, d_lt, d_in, t_nat, w_pred, t_natp, cond_true]
    have hlk := goodL_at hg i hlt (⟨0, []⟩ : Sector)
    have hst := all_drop_step l maySec i hlt (⟨0, []⟩ : Sector)
    have hb := badAt_step l i hlt (⟨0, []⟩ : Sector)
    generalize l.getD i (⟨0, []⟩ : Sector) = x at hst hb hlk ⊢
    simp only [hlk, cond_true]
    cases a1 : maySec x
    · exact leafR_ret (idxS_o c l i) (by simp [idxS_S, idxS_fin, hst, hb, a1, RT.val]) rfl
    · exact leafR_go ⟨c, l, i + 1⟩ ⟨hlt, hg⟩ (by simp only [idxS_S]; omega) (by simp [idxS_S, idxS_fin, hst, hb, a1]; rfl) rfl rfl
  · have hi : i = l.length := by omega
    have c1 : decide ((i : Int) < l.length) = false := by simp; omega
    rw [c1]
    exact leafR_exit (idxS_o c l i) (by simp [idxS_S, idxS_fin, hi, RT.val]) rfl
def idxS_d (env : Env RC) (os : List (Obj RC)) : Option (Bool × idxS_St) := match env, os with
  | [(0, .sl .sector c l), (1, .fn 64 (.acons (.ptr 0 []) .anil)), (4, .int .i64 0), (7, .int .i64 x0), (8, .int .i64 x1)], [.var 80 (.fn 46 .anil)] => staticD (true) (decide (x0 = l.length) && decide (x1 = 0) && goodL l, ⟨c, l, 0⟩)
  | _, _ => none
noncomputable def uu_2 := uu_1.addLoop 78 2 (sumR s07 [.slot 1 0] [0, 1, 4, 7, 8] idxS_S idxS_d)
theorem uu_2_laws : FLaws Try.prog s07 uu_2 := by
  refine uu_1_laws.addRoundsR s07_laws (by kernel_rfl) idxS_S 40 [0, 1, 4, 7, 8] [4] [.slot 1 0] [0, 1, 4, 7, 8] idxS_d (fun q hI => ?_) ?_
  · obtain ⟨c, l, i⟩ := q
    refine ⟨?_, ?_, idxS_round c l i hI⟩
    · simp_all [RefsOK, idxS_S, idxS_c, idxS_o, idxS_Inv, D.refs, Obj.refs, rEnc]
    · simp_all [idxS_S, idxS_fin, idxS_o, idxS_Inv, RT.refsOK, RefsOK, D.refs, Obj.refs, rEnc]
  · intro env os b q hd_ hb
    unfold idxS_d at hd_
    split at hd_
    · obtain ⟨hs, hd_⟩ := staticD_some hd_
      cases hd_
      simp only [Bool.and_eq_true, decide_eq_true_eq] at hb
      obtain ⟨⟨rfl, rfl⟩, hl⟩ := hb
      exact ⟨⟨Nat.zero_le _, hl⟩, rfl, rfl⟩
    · cases hd_
def allF_s (c : Bool) (l : List Sector) : Option (Bool × D RC) := some (goodL l, .bool (rowOK l))
def allF_sp : List (D RC) → Option (Bool × D RC)
  | [.sl .sector c l, .int .i64 33, .fn 46 .anil] => allF_s c l
  | _ => none
noncomputable def allF_e (c : Bool) (l : List Sector) := evF s07 uu_2 40 45 [.sl (C := RC) .sector c l, .int .i64 33, .fn 46 .anil]
theorem allF_eq (c : Bool) (l : List Sector) : allF_e c l = (let Z0 : Bool := lenOK l.length; let Z1 : Int := (↑l.length : Int); bif Z0 then bif Z1 == (33 : Int) then bif Z0 then bif decide (Z1 = Z1) && true && goodL l then bif List.all (List.drop (0 : Nat) l) maySec then some (D.bool true) else some (D.bool !decide ((0 : Int) ≤ (↑(badAt l (0 : Nat)) : Int))) else none else none else some (D.bool false) else none) := by kernel_rfl
theorem allF_ok (c : Bool) (l : List Sector) (h : (goodL l) = true) : allF_e c l = some (.bool (rowOK l)) := by
  (rw [allF_eq]; conv => zeta)
  have hl := (goodL_iff.1 h).1
  have lk := lenOK_of hl
  have hb := badAt_ge l 0
  simp only [h, lk, rowOK, cond_true, List.drop_zero]
  by_cases e : l.length = 33
  · have e2 : ((l.length : Int) == 33) = true := by simp [e]
    cases hm : l.all maySec <;> simp [e, hm] <;> omega
  · have e2 : ((l.length : Int) == 33) = false := by simp; omega
    simp [e, e2]
noncomputable def uu_3 := uu_2.addSpec 45 allF_sp
theorem uu_3_laws : FLaws Try.prog s07 uu_3 := uu_2_laws.addEv s07_laws fun args d h => by
  unfold allF_sp at h
  split at h
  · unfold allF_s at h
    have h1 := congrArg Prod.fst (Option.some.inj h)
    obtain rfl : _ = d := congrArg Prod.snd (Option.some.inj h)
    exact ⟨by simp [D.refs], 40, allF_ok _ _ h1⟩
  · cases h
structure chkD_St where
  c : Bool
  now : List Sector
  r : D RC
  d : Bool
  sure : List Sector
  i : Nat
def chkD_c (c : Bool) (now : List Sector) (r : D RC) (d : Bool) (sure : List Sector) (i : Nat) : Env RC := [(1, .ptr 0 []), (2, .int .i64 0), (16, .sl (C := RC) .sector c now), (17, .int .i64 (now.length)), (18, .int .i64 (i : Int))]
def chkD_o (c : Bool) (now : List Sector) (r : D RC) (d : Bool) (sure : List Sector) (i : Nat) : List (Obj RC) := [.var 24 (.acons r (.acons (.sl (C := RC) .sector d sure) .anil))]
noncomputable def chkD_r (c : Bool) (now : List Sector) (r : D RC) (d : Bool) (sure : List Sector) (i : Nat) := rndO s07 uu_3 28 4 40 1 [1, 2, 16, 17, 18] [2] [.slot 1 0] (chkD_c c now r d sure i) (chkD_o c now r d sure i)
theorem chkD_eq (c : Bool) (now : List Sector) (r : D RC) (d : Bool) (sure : List Sector) (i : Nat) : chkD_r c now r d sure i = (let Z0 : Int := (↑i : Int); let Z1 : Int := (↑now.length : Int); let Z2 : List (Option (Obj RC)) := [some (Obj.var 24 (.acons r (D.acons (D.sl RTy.sector d sure) .anil)))]; let Z3 : Nat × D RC := (2, D.int .i64 0); bif decide (Z0 < Z1) then bif decide ((0 : Int) ≤ Z0 ∧ Z0 < Z1) then bif decide ((0 : Int) ≤ Z0 ∧ Z0 < (↑sure.length : Int)) then bif decide (Sector.n (List.getD now Z0.toNat (Sector.mk (0 : Int) [])) < Sector.n (List.getD sure Z0.toNat (Sector.mk (0 : Int) []))) then some ((X.ret, [(2, D.int .i64 2)]), Z2) else some ((X.normal, [(1, D.ptr 0 []), Z3, (16, D.sl RTy.sector c now), (17, D.int .i64 Z1), (18, D.int .i64 (IntKind.wrap .i64 (Z0 + (1 : Int))))]), Z2) else none else none else some ((X.exit (0 : Nat), [Z3]), Z2)) := by kernel_rfl
def chkD_fin (c : Bool) (now : List Sector) (r : D RC) (d : Bool) (sure : List Sector) (i : Nat) : RT RC := .br (lowAt now sure i) (.leaf (.exit 0) [(2, .int .i64 0)] (chkD_o c now r d sure i)) (.leaf .ret [(2, .int .i64 2)] (chkD_o c now r d sure i))
def chkD_Inv (c : Bool) (now : List Sector) (r : D RC) (d : Bool) (sure : List Sector) (i : Nat) : Prop := r.refs = [] ∧ i ≤ now.length ∧ now.length ≤ 9223372036854775807 ∧ now.length = sure.length
def chkD_S : LoopR RC chkD_St where
  k := 1
  canon q := chkD_c q.c q.now q.r q.d q.sure q.i
  objs q := chkD_o q.c q.now q.r q.d q.sure q.i
  fin q := chkD_fin q.c q.now q.r q.d q.sure q.i
  Inv q := chkD_Inv q.c q.now q.r q.d q.sure q.i
  μ q := q.now.length - q.i
theorem chkD_round (c : Bool) (now : List Sector) (r : D RC) (d : Bool) (sure : List Sector) (i : Nat) (hI : chkD_Inv c now r d sure i) : Leaf (chkD_r c now r d sure i) (LedR chkD_S ⟨c, now, r, d, sure, i⟩) := by
  (rw [chkD_eq]; conv => zeta)
  unfold chkD_Inv at hI
  obtain ⟨h0, h1, h2, h3⟩ := hI
  by_cases hlt : i < now.length
  · have w_succ : IntKind.i64.wrap ((i : Int) + 1) = ((i + 1 : Nat) : Int) := by rw [wrap_id (by omega) (by omega)]; simp
    have d_lt : decide ((i : Int) < now.length) = true := by simp; omega
    have d_in : decide (0 ≤ (i : Int) ∧ (i : Int) < now.length) = true := by simp; omega
    have t_nat : ((i : Int)).toNat = i := by simp
    have w_pred : IntKind.i64.wrap ((i : Int) - 1) = (i : Int) - 1 := wrap_id (by omega) (by omega)
    have t_natp : ((i : Int) - 1).toNat = i - 1 := by omega
    simp only [w_succ, d_lt, d_in, t_nat, w_pred, t_natp, cond_true]
    have hlt2 : i < sure.length := by omega
    have d_in2 : decide (0 ≤ (i : Int) ∧ (i : Int) < sure.length) = true := by simp; omega
    simp only [d_in2, cond_true]
    have hst := lowAt_step (now := now) (sure := sure) i hlt (by omega) (⟨0, []⟩ : Sector)
    generalize now.getD i (⟨0, []⟩ : Sector) = x at hst ⊢
    generalize sure.getD i (⟨0, []⟩ : Sector) = y at hst ⊢
    cases a1 : decide (y.n ≤ x.n)
    · have a2 : decide (x.n < y.n) = true := by simp at a1 ⊢; exact a1
      simp only [a2, cond_true]
      exact leafR_ret (chkD_o c now r d sure i) (by simp [chkD_S, chkD_fin, hst, a1, RT.val]) rfl
    · have a2 : decide (x.n < y.n) = false := by simp at a1 ⊢; exact a1
      simp only [a2, cond_false]
      exact leafR_go ⟨c, now, r, d, sure, i + 1⟩ ⟨h0, hlt, h2, h3⟩ (by simp only [chkD_S]; omega) (by simp [chkD_S, chkD_fin, hst, a1]; rfl) rfl rfl
  · have hi : i = now.length := by omega
    have c1 : decide ((i : Int) < now.length) = false := by simp; omega
    rw [c1]
    exact leafR_exit (chkD_o c now r d sure i) (by simp [chkD_S, chkD_fin, hi, lowAt_end, RT.val]) rfl
def chkD_d (env : Env RC) (os : List (Obj RC)) : Option (Bool × chkD_St) := match env, os with
  | [(1, .ptr 0 []), (2, .int .i64 0), (16, .sl .sector c now), (17, .int .i64 x0), (18, .int .i64 x1)], [.var 24 (.acons r (.acons (.sl .sector d sure) .anil))] => staticD (r.refs.isEmpty) (decide (x0 = now.length) && decide (x1 = 0) && decide (now.length ≤ 9223372036854775807 ∧ now.length = sure.length), ⟨c, now, r, d, sure, 0⟩)
  | _, _ => none
noncomputable def uu_4 := uu_3.addLoop 28 4 (sumR s07 [.slot 1 0] [1, 2, 16, 17, 18] chkD_S chkD_d)
theorem uu_4_laws : FLaws Try.prog s07 uu_4 := by
  refine uu_3_laws.addRoundsR s07_laws (by kernel_rfl) chkD_S 40 [1, 2, 16, 17, 18] [2] [.slot 1 0] [1, 2, 16, 17, 18] chkD_d (fun q hI => ?_) ?_
  · obtain ⟨c, now, r, d, sure, i⟩ := q
    refine ⟨?_, ?_, chkD_round c now r d sure i hI⟩
    · simp_all [RefsOK, chkD_S, chkD_c, chkD_o, chkD_Inv, D.refs, Obj.refs, rEnc]
    · simp_all [chkD_S, chkD_fin, chkD_o, chkD_Inv, RT.refsOK, RefsOK, D.refs, Obj.refs, rEnc]
  · intro env os b q hd_ hb
    unfold chkD_d at hd_
    split at hd_
    · obtain ⟨hs, hd_⟩ := staticD_some hd_
      cases hd_
      simp only [Bool.and_eq_true, decide_eq_true_eq] at hb
      obtain ⟨⟨rfl, rfl⟩, hl⟩ := hb
      exact ⟨⟨List.isEmpty_iff.1 hs, Nat.zero_le _, hl⟩, rfl, rfl⟩
    · cases hd_
def checkD_s (c : Bool) (now : List Sector) (d : Bool) (sure : List Sector) : Option (Bool × D RC) := some (goodL now && goodL sure, .int .i64 (bif diskOK now sure then 0 else 2))
def checkD_sp : List (D RC) → Option (Bool × D RC)
  | [.acons (.sl .sector c now) (.acons (.sl .sector d sure) .anil)] => checkD_s c now d sure
  | _ => none
noncomputable def checkD_e (c : Bool) (now : List Sector) (d : Bool) (sure : List Sector) := evF s07 uu_4 40 28 [.acons (.sl (C := RC) .sector c now) (.acons (.sl (C := RC) .sector d sure) .anil)]
theorem checkD_eq (c : Bool) (now : List Sector) (d : Bool) (sure : List Sector) : checkD_e c now d sure = (let Z0 : DO_ := some (D.int .i64 2); let Z1 : Nat := List.length now; bif goodL now then bif !rowOK now then Z0 else bif goodL sure then bif !rowOK sure then Z0 else bif lenOK Z1 then bif decide ((↑Z1 : Int) = (↑Z1 : Int)) && true && decide (Z1 ≤ (9223372036854775807 : Nat) ∧ Z1 = List.length sure) then bif lowAt now sure (0 : Nat) then some (D.int .i64 0) else Z0 else none else none else none else none) := by kernel_rfl
theorem checkD_ok (c : Bool) (now : List Sector) (d : Bool) (sure : List Sector) (h : (goodL now && goodL sure) = true) : checkD_e c now d sure = some (.int .i64 (bif diskOK now sure then 0 else 2)) := by
  (rw [checkD_eq]; conv => zeta)
  rw [Bool.and_eq_true] at h
  obtain ⟨hg, hgs⟩ := h
  have hl := (goodL_iff.1 hg).1
  have hs := (goodL_iff.1 hgs).1
  have lk := lenOK_of hl
  simp only [hg, hgs, lk, Bool.and_self, cond_true, diskOK]
  cases h1 : rowOK now
  · rfl
  cases h2 : rowOK sure
  · rfl
  have l1 := rowOK_len h1
  have l2 := rowOK_len h2
  have e : decide (now.length ≤ 9223372036854775807 ∧ now.length = sure.length) = true := by simp; omega
  cases h3 : lowAt now sure 0 <;> simp [e]
noncomputable def uu_5 := uu_4.addSpec 28 checkD_sp
theorem uu_5_laws : FLaws Try.prog s07 uu_5 := uu_4_laws.addEv s07_laws fun args d h => by
  unfold checkD_sp at h
  split at h
  · unfold checkD_s at h
    have h1 := congrArg Prod.fst (Option.some.inj h)
    obtain rfl : _ = d := congrArg Prod.snd (Option.some.inj h)
    exact ⟨by simp [D.refs], 40, checkD_ok _ _ _ _ h1⟩
  · cases h
def cloneS_s (c : Bool) (l : List Sector) : Option (Bool × D RC) := some (decide (0 < l.length ∧ l.length ≤ 1000000), .sl (C := RC) .sector false l)
def cloneS_sp : List (D RC) → Option (Bool × D RC)
  | [.sl .sector c l] => cloneS_s c l
  | _ => none
noncomputable def cloneS_e (c : Bool) (l : List Sector) := evF s07 uu_5 40 47 [.sl (C := RC) .sector c l]
theorem cloneS_eq (c : Bool) (l : List Sector) : cloneS_e c l = (let Z0 : Nat := (0 : Nat) + List.length l; let Z1 : List Sector := List.replicate (0 : Nat) (Sector.mk (0 : Int) []) ++ l; bif List.isEmpty l then none else bif sizeOK Z0 (24 : Nat) then bif Nat.beq Z0 Z1.length then some (D.sl RTy.sector false Z1) else none else none) := by kernel_rfl
theorem cloneS_ok (c : Bool) (l : List Sector) (h : (decide (0 < l.length ∧ l.length ≤ 1000000)) = true) : cloneS_e c l = some (.sl (C := RC) .sector false l) := by
  (rw [cloneS_eq]; conv => zeta)
  obtain ⟨h1, h2⟩ := of_decide_eq_true h
  have e0 : l.isEmpty = false := by cases l <;> simp_all
  have e1 : sizeOK l.length 24 = true := by simp [sizeOK]; omega
  have eb : ∀ n : Nat, n.beq n = true := fun n => by simp
  simp only [e0, e1, cond_false, cond_true, List.replicate, List.nil_append, Nat.zero_add, eb]
noncomputable def uu_6 := uu_5.addSpec 47 cloneS_sp
theorem uu_6_laws : FLaws Try.prog s07 uu_6 := uu_5_laws.addEv s07_laws fun args d h => by
  unfold cloneS_sp at h
  split at h
  · unfold cloneS_s at h
    have h1 := congrArg Prod.fst (Option.some.inj h)
    obtain rfl : _ = d := congrArg Prod.snd (Option.some.inj h)
    exact ⟨by simp [D.refs], 40, cloneS_ok _ _ h1⟩
  · cases h
def withF_s (c : Bool) (l : List Sector) (k : Int) (n : Int) (b : List UInt8) : Option (Bool × D RC) := some (decide (0 ≤ k ∧ k < l.length ∧ l.length ≤ 1000000), .sl (C := RC) .sector false (l.set k.toNat ⟨n, b⟩))
def withF_sp : List (D RC) → Option (Bool × D RC)
  | [.sl .sector c l, .int .i64 k, .acons (.int .i64 n) (.acons (.str b) .anil)] => withF_s c l k n b
  | _ => none
noncomputable def withF_e (c : Bool) (l : List Sector) (k : Int) (n : Int) (b : List UInt8) := evF s07 uu_6 40 48 [.sl (C := RC) .sector c l, .int .i64 k, .acons (.int .i64 n) (.acons (.str b) .anil)]
theorem withF_eq (c : Bool) (l : List Sector) (k : Int) (n : Int) (b : List UInt8) : withF_e c l k n b = (let Z0 : Int := (↑l.length : Int); let Z1 : List Sector := List.drop (0 : Nat) (List.take k.toNat l); let Z2 : Nat := List.length Z1 + List.length [Sector.mk n b]; let Z3 : Int := IntKind.wrap .i64 (k + (1 : Int)); let Z4 : Nat := List.length (Z1 ++ [Sector.mk n b]); let Z5 : Nat := List.length (List.drop Z3.toNat l); let Z6 : List Sector := Z1 ++ [Sector.mk n b] ++ List.drop Z3.toNat l; bif decide ((0 : Int) ≤ (0 : Int) ∧ (0 : Int) ≤ k ∧ k ≤ Z0 ∧ k = k) then bif sizeOK Z2 (24 : Nat) then bif decide ((0 : Int) ≤ Z3 ∧ Z3 ≤ Z0) then bif Nat.beq Z2 Z4 && sizeOK (Z2 + Z5) (24 : Nat) then bif Nat.beq (Z4 + Z5) Z6.length then some (D.sl RTy.sector false Z6) else none else none else none else none else none) := by kernel_rfl
theorem withF_ok (c : Bool) (l : List Sector) (k : Int) (n : Int) (b : List UInt8) (h : (decide (0 ≤ k ∧ k < l.length ∧ l.length ≤ 1000000)) = true) : withF_e c l k n b = some (.sl (C := RC) .sector false (l.set k.toNat ⟨n, b⟩)) := by
  (rw [withF_eq]; conv => zeta)
  obtain ⟨h0, h1, h2⟩ := of_decide_eq_true h
  have w1 : IntKind.i64.wrap (k + 1) = k + 1 := wrap_id (by omega) (by omega)
  have t1 : (k + 1).toNat = k.toNat + 1 := by omega
  have hk : k.toNat < l.length := by omega
  have e0 := set_eq l k.toNat (⟨n, b⟩ : Sector) hk
  have m1 : min k.toNat l.length = k.toNat := by omega
  simp only [w1, t1, List.drop_zero, List.length_take, List.length_cons, List.length_nil, List.length_append, List.length_drop, m1, Nat.zero_add]
  repeat (refine cond_of (by first | assumption | exact lenOK_of (by omega) | exact sizeT (by omega) | (simp; done) | (simp; omega) | (simp [sizeOK]; omega)) ?_)
  rw [e0]
noncomputable def uu_7 := uu_6.addSpec 48 withF_sp
theorem uu_7_laws : FLaws Try.prog s07 uu_7 := uu_6_laws.addEv s07_laws fun args d h => by
  unfold withF_sp at h
  split at h
  · unfold withF_s at h
    have h1 := congrArg Prod.fst (Option.some.inj h)
    obtain rfl : _ = d := congrArg Prod.snd (Option.some.inj h)
    exact ⟨by simp [D.refs], 40, withF_ok _ _ _ _ _ h1⟩
  · cases h
def putD_s (c : Bool) (now : List Sector) (d : Bool) (sure : List Sector) (k : Int) (n : Int) (b : List UInt8) : Option (Bool × D RC) := some (goodL now && goodL sure && lenOK b.length, .tup (.acons (.acons (.sl (C := RC) .sector (!okPut now sure k n b) (pNow now sure k n b)) (.acons (.sl (C := RC) .sector (!okPut now sure k n b) (pSure now sure k n b)) .anil)) (.acons (.int .i64 (bif okPut now sure k n b then 0 else 2)) .anil)))
def putD_sp : List (D RC) → Option (Bool × D RC)
  | [.acons (.sl .sector c now) (.acons (.sl .sector d sure) .anil), .int .i64 k, .int .i64 n, .str b] => putD_s c now d sure k n b
  | _ => none
noncomputable def putD_e (c : Bool) (now : List Sector) (d : Bool) (sure : List Sector) (k : Int) (n : Int) (b : List UInt8) := evF s07 uu_7 40 29 [.acons (.sl (C := RC) .sector c now) (.acons (.sl (C := RC) .sector d sure) .anil), .int .i64 k, .int .i64 n, .str b]
theorem putD_eq (c : Bool) (now : List Sector) (d : Bool) (sure : List Sector) (k : Int) (n : Int) (b : List UInt8) : putD_e c now d sure k n b = (let Z0 : D RC := D.sl RTy.sector true []; let Z1 : DO_ := some (D.tup (D.acons (D.acons Z0 (D.acons Z0 .anil)) (.acons (D.int .i64 2) .anil))); let Z2 : Nat := List.length now; let Z3 : D RC := D.acons (D.sl RTy.sector false sure) .anil; let Z4 : D RC := D.acons (D.int .i64 0) .anil; bif goodL now && goodL sure then bif (bif diskOK now sure then (0 : Int) else (2 : Int)) != (0 : Int) then Z1 else bif decide (k < (0 : Int)) then Z1 else bif decide ((33 : Int) ≤ k) then Z1 else bif decide (n < (1 : Int)) then Z1 else bif b == Array.toList #[] then Z1 else bif lenOK b.length then bif !maySec (Sector.mk n b) then Z1 else bif decide ((0 : Nat) < Z2 ∧ Z2 ≤ (1000000 : Nat)) then bif decide ((0 : Nat) < List.length sure ∧ List.length sure ≤ (1000000 : Nat)) then bif decide ((0 : Int) ≤ k ∧ k < (↑Z2 : Int)) then bif decide (Sector.n (List.getD now k.toNat (Sector.mk (0 : Int) [])) < n) then bif decide ((0 : Int) ≤ k ∧ k < (↑Z2 : Int) ∧ Z2 ≤ (1000000 : Nat)) then some (D.tup (D.acons (D.acons (D.sl RTy.sector false (List.set now k.toNat (Sector.mk n b))) Z3) Z4)) else none else some (D.tup (D.acons (D.acons (D.sl RTy.sector false now) Z3) Z4)) else none else none else none else none else none) := by kernel_rfl
theorem putD_ok (c : Bool) (now : List Sector) (d : Bool) (sure : List Sector) (k : Int) (n : Int) (b : List UInt8) (h : (goodL now && goodL sure && lenOK b.length) = true) : putD_e c now d sure k n b = some (.tup (.acons (.acons (.sl (C := RC) .sector (!okPut now sure k n b) (pNow now sure k n b)) (.acons (.sl (C := RC) .sector (!okPut now sure k n b) (pSure now sure k n b)) .anil)) (.acons (.int .i64 (bif okPut now sure k n b then 0 else 2)) .anil))) := by
  (rw [putD_eq]; conv => zeta)
  simp only [Bool.and_eq_true] at h
  obtain ⟨⟨hg, hgs⟩, hb⟩ := h
  have hgg : (goodL now && goodL sure) = true := by rw [hg, hgs]; rfl
  have no : okPut now sure k n b = false → some (D.tup (.acons (.acons (.sl (C := RC) .sector true []) (.acons (.sl (C := RC) .sector true []) .anil)) (.acons (.int .i64 2) .anil))) = some (.tup (.acons (.acons (.sl (C := RC) .sector (!okPut now sure k n b) (pNow now sure k n b)) (.acons (.sl (C := RC) .sector (!okPut now sure k n b) (pSure now sure k n b)) .anil)) (.acons (.int .i64 (bif okPut now sure k n b then 0 else 2)) .anil))) := fun e => by simp only [e, pNow, pSure]; rfl
  refine cond_of hgg ?_
  cases hd : diskOK now sure
  · exact cond_of rfl (no (okPut_not fun f => by rw [hd] at f; cases f.1))
  obtain ⟨l1, l2⟩ := diskOK_len hd
  refine cond_no rfl (cond_two (fun e => no (okPut_not fun f => by simp only [decide_eq_true_eq] at e; omega)) fun e1 => ?_)
  refine (cond_two (fun e => no (okPut_not fun f => by simp only [decide_eq_true_eq] at e; omega)) fun e2 => ?_)
  refine (cond_two (fun e => no (okPut_not fun f => by simp only [decide_eq_true_eq] at e; omega)) fun e3 => ?_)
  refine (cond_two (fun e => no (okPut_not fun f => f.2.2.2.2.1 (by simpa using e))) fun e4 => ?_)
  refine cond_of hb ?_
  refine (cond_two (fun e => no (okPut_not fun f => by rw [f.2.2.2.2.2] at e; cases e)) fun e5 => ?_)
  simp only [decide_eq_false_iff_not] at e1 e2 e3
  have ok : okPut now sure k n b = true := by
    simp only [okPut, hd, Bool.true_and, Bool.and_eq_true, decide_eq_true_eq]
    exact ⟨⟨⟨⟨by omega, by omega⟩, by omega⟩, by simpa using e4⟩, by simpa using e5⟩
  rw [ok]
  simp only [pNow, pSure, ok, cond_true, Bool.not_true]
  repeat (refine cond_of (by first | assumption | exact lenOK_of (by omega) | exact sizeT (by omega) | (simp; done) | (simp; omega) | (simp [sizeOK]; omega)) ?_)
  refine cond_two (fun e => ?_) fun e => ?_ <;> simp only [decide_eq_true_eq, decide_eq_false_iff_not] at e
  · have pn : putNow now k.toNat n b = now.set k.toNat ⟨n, b⟩ := if_pos e
    rw [pn]
    repeat (refine cond_of (by first | assumption | exact lenOK_of (by omega) | exact sizeT (by omega) | (simp; done) | (simp; omega) | (simp [sizeOK]; omega)) ?_)
    rfl
  · have pn : putNow now k.toNat n b = now := if_neg e
    rw [pn]
noncomputable def uu_8 := uu_7.addSpec 29 putD_sp
theorem uu_8_laws : FLaws Try.prog s07 uu_8 := uu_7_laws.addEv s07_laws fun args d h => by
  unfold putD_sp at h
  split at h
  · unfold putD_s at h
    have h1 := congrArg Prod.fst (Option.some.inj h)
    obtain rfl : _ = d := congrArg Prod.snd (Option.some.inj h)
    exact ⟨by simp [D.refs], 40, putD_ok _ _ _ _ _ _ _ h1⟩
  · cases h
def getD_s (c : Bool) (now : List Sector) (d : Bool) (sure : List Sector) (k : Int) : Option (Bool × D RC) := some (goodL now && goodL sure, .tup (.acons (.acons (.int .i64 (getS now sure k).n) (.acons (.str (getS now sure k).b) .anil)) (.acons (.int .i64 (bif okGet now sure k then 0 else 2)) .anil)))
def getD_sp : List (D RC) → Option (Bool × D RC)
  | [.acons (.sl .sector c now) (.acons (.sl .sector d sure) .anil), .int .i64 k] => getD_s c now d sure k
  | _ => none
noncomputable def getD_e (c : Bool) (now : List Sector) (d : Bool) (sure : List Sector) (k : Int) := evF s07 uu_8 40 30 [.acons (.sl (C := RC) .sector c now) (.acons (.sl (C := RC) .sector d sure) .anil), .int .i64 k]
theorem getD_eq (c : Bool) (now : List Sector) (d : Bool) (sure : List Sector) (k : Int) : getD_e c now d sure k = (let Z0 : D RC := D.int .i64 0; let Z1 : DO_ := some (D.tup (D.acons (D.acons Z0 (D.acons (D.str []) .anil)) (.acons (D.int .i64 2) .anil))); let Z2 : Sector := List.getD now k.toNat (Sector.mk (0 : Int) []); bif goodL now && goodL sure then bif (bif diskOK now sure then (0 : Int) else (2 : Int)) != (0 : Int) then Z1 else bif decide (k < (0 : Int)) then Z1 else bif decide ((33 : Int) ≤ k) then Z1 else bif decide ((0 : Int) ≤ k ∧ k < (↑now.length : Int)) then some (D.tup (D.acons (D.acons (D.int .i64 (Sector.n Z2)) (.acons (D.str (Sector.b Z2)) .anil)) (.acons Z0 .anil))) else none else none) := by kernel_rfl
theorem getD_ok (c : Bool) (now : List Sector) (d : Bool) (sure : List Sector) (k : Int) (h : (goodL now && goodL sure) = true) : getD_e c now d sure k = some (.tup (.acons (.acons (.int .i64 (getS now sure k).n) (.acons (.str (getS now sure k).b) .anil)) (.acons (.int .i64 (bif okGet now sure k then 0 else 2)) .anil))) := by
  (rw [getD_eq]; conv => zeta)
  have hgg := h
  rw [Bool.and_eq_true] at h
  obtain ⟨hg, hgs⟩ := h
  have no : okGet now sure k = false → some (D.tup (.acons (.acons (.int .i64 0) (.acons (.str []) .anil)) (.acons (.int .i64 2) .anil))) = some (.tup (.acons (.acons (.int .i64 (getS now sure k).n) (.acons (.str (getS now sure k).b) .anil)) (.acons (.int .i64 (bif okGet now sure k then 0 else 2)) .anil)) : D RC) := fun e => by simp only [getS, e]; rfl
  refine cond_of hgg ?_
  cases hd : diskOK now sure
  · exact cond_of rfl (no (by simp [okGet, hd]))
  obtain ⟨l1, l2⟩ := diskOK_len hd
  refine cond_no rfl (cond_two (fun e => no (by simp only [decide_eq_true_eq] at e; simp [okGet]; omega)) fun e1 => ?_)
  refine (cond_two (fun e => no (by simp only [decide_eq_true_eq] at e; simp [okGet]; omega)) fun e2 => ?_)
  simp only [decide_eq_false_iff_not] at e1 e2
  have ok : okGet now sure k = true := by simp [okGet, hd]; omega
  rw [ok]
  simp only [getS, ok, cond_true, sec0]
  repeat (refine cond_of (by first | assumption | exact lenOK_of (by omega) | exact sizeT (by omega) | (simp; done) | (simp; omega) | (simp [sizeOK]; omega)) ?_)
  rfl
noncomputable def uu_9 := uu_8.addSpec 30 getD_sp
theorem uu_9_laws : FLaws Try.prog s07 uu_9 := uu_8_laws.addEv s07_laws fun args d h => by
  unfold getD_sp at h
  split at h
  · unfold getD_s at h
    have h1 := congrArg Prod.fst (Option.some.inj h)
    obtain rfl : _ = d := congrArg Prod.snd (Option.some.inj h)
    exact ⟨by simp [D.refs], 40, getD_ok _ _ _ _ _ h1⟩
  · cases h
open Go.Proofs
structure rowRl_St where
  c : Bool
  l : List Sector
  i : Nat
def rowRl_c (c : Bool) (l : List Sector) (i : Nat) : Env RC := [(0, .sl (C := RC) .sector c l), (2, .bool false), (3, .int .i64 (i : Int))]
def rowRl_o (c : Bool) (l : List Sector) (i : Nat) : List (Obj RC) := []
noncomputable def rowRl_r (c : Bool) (l : List Sector) (i : Nat) := rndO s07 uu_9 26 4 40 0 [0, 2, 3] [2] [] (rowRl_c c l i) (rowRl_o c l i)
theorem rowRl_eq (c : Bool) (l : List Sector) (i : Nat) : rowRl_r c l i = (let Z0 : Int := (↑i : Int); let Z1 : Bool := decide ((0 : Int) ≤ Z0 ∧ Z0 < (↑l.length : Int)); let Z2 : Sector := List.getD l Z0.toNat (Sector.mk (0 : Int) []); let Z3 : Int := Sector.n Z2; let Z4 : RO_ := some ((X.ret, [(2, D.bool false)]), []); let Z5 : Nat := List.length (Sector.b Z2); let Z6 : RO_ := some ((X.normal, [(0, D.sl RTy.sector c l), (2, D.bool false), (3, D.int .i64 (IntKind.wrap .i64 (Z0 + (1 : Int))))]), []); bif lenOK l.length then bif decide (Z0 < (↑l.length : Int)) then bif Z1 then bif decide (Z3 < (0 : Int)) then Z4 else bif Z1 then bif decide ((1048575 : Int) < Z3) then Z4 else bif Z1 then bif lenOK Z5 then bif decide ((640 : Int) < (↑Z5 : Int)) then Z4 else bif Z1 then bif Z3 == (0 : Int) then bif Z1 then bif !Sector.b Z2 == Array.toList #[] then Z4 else Z6 else none else Z6 else none else none else none else none else none else some ((X.exit (0 : Nat), [(2, D.bool false)]), []) else none) := by kernel_rfl
def rowRl_fin (c : Bool) (l : List Sector) (i : Nat) : RT RC := .br (l.drop i |>.all maySec) (.leaf (.exit 0) [(2, .bool false)] []) (.leaf .ret [(2, .bool false)] [])
def rowRl_Inv (c : Bool) (l : List Sector) (i : Nat) : Prop := i ≤ l.length ∧ goodL l = true
def rowRl_S : LoopR RC rowRl_St where
  k := 0
  canon q := rowRl_c q.c q.l q.i
  objs q := rowRl_o q.c q.l q.i
  fin q := rowRl_fin q.c q.l q.i
  Inv q := rowRl_Inv q.c q.l q.i
  μ q := q.l.length - q.i
theorem rowRl_round (c : Bool) (l : List Sector) (i : Nat) (hI : rowRl_Inv c l i) : Leaf (rowRl_r c l i) (LedR rowRl_S ⟨c, l, i⟩) := by
  (rw [rowRl_eq]; conv => zeta)
  unfold rowRl_Inv at hI
  obtain ⟨h1, hg⟩ := hI
  have h2 := (goodL_iff.1 hg).1
  have hlk0 : lenOK l.length = true := lenOK_of h2
  by_cases hlt : i < l.length
  · have w_succ : IntKind.i64.wrap ((i : Int) + 1) = ((i + 1 : Nat) : Int) := by rw [wrap_id (by omega) (by omega)]; simp
    have d_lt : decide ((i : Int) < l.length) = true := by simp; omega
    have d_in : decide (0 ≤ (i : Int) ∧ (i : Int) < l.length) = true := by simp; omega
    have t_nat : ((i : Int)).toNat = i := by simp
    simp only [w_succ, d_lt, d_in, t_nat, cond_true]
    have hlk := goodL_at hg i hlt (⟨0, []⟩ : Sector)
    have hst := all_drop_step l maySec i hlt (⟨0, []⟩ : Sector)
    generalize l.getD i (⟨0, []⟩ : Sector) = x at hst hlk ⊢
    simp only [hlk0, hlk, cond_true]
    have hgo : maySec x = true → Leaf (some ((X.normal, rowRl_c c l (i + 1)), [])) (LedR rowRl_S ⟨c, l, i⟩) := fun e =>
      leafR_go ⟨c, l, i + 1⟩ ⟨hlt, hg⟩ (by simp only [rowRl_S]; omega) (by simp [rowRl_S, rowRl_fin, hst, e]) rfl rfl
    have hno : maySec x = false → Leaf (some ((X.ret, [(2, D.bool false)]), [])) (LedR rowRl_S ⟨c, l, i⟩) := fun e => leafR_ret [] (by simp [rowRl_S, rowRl_fin, hst, e, RT.val]) rfl
    have hm : maySec x = (decide (0 ≤ x.n) && decide (x.n ≤ 1048575) && decide (x.b.length ≤ 640) && (decide (0 < x.n) || x.b == [])) := rfl
    rw [hm] at hgo hno
    repeat' (refine leaf_cond.2 ⟨fun hc_ => ?_, fun hc_ => ?_⟩)
    all_goals first | exact hno (by clear hgo hno hst hm; simp_all <;> omega) | exact hgo (by clear hgo hno hst hm; simp_all <;> omega)
  · have hi : i = l.length := by omega
    have c1 : decide ((i : Int) < l.length) = false := by simp; omega
    rw [hlk0, c1]
    exact leafR_exit [] (by simp [rowRl_S, rowRl_fin, hi, RT.val]) rfl
def rowRl_d (env : Env RC) (os : List (Obj RC)) : Option (Bool × rowRl_St) := match env, os with
  | [(0, .sl .sector c l), (2, .bool false), (3, .int .i64 x0)], [] => staticD (true) (decide (x0 = 0) && goodL l, ⟨c, l, 0⟩)
  | _, _ => none
noncomputable def uu2_1 := uu_9.addLoop 26 4 (sumR s07 [] [0, 2, 3] rowRl_S rowRl_d)
theorem uu2_1_laws : FLaws Try.prog s07 uu2_1 := by
  refine uu_9_laws.addRoundsR s07_laws (by kernel_rfl) rowRl_S 40 [0, 2, 3] [2] [] [0, 2, 3] rowRl_d (fun q hI => ?_) ?_
  · obtain ⟨c, l, i⟩ := q
    refine ⟨?_, ?_, rowRl_round c l i hI⟩
    · simp_all [RefsOK, rowRl_S, rowRl_c, rowRl_o, rowRl_Inv, D.refs, Obj.refs, rEnc]
    · simp_all [rowRl_S, rowRl_fin, rowRl_o, rowRl_Inv, RT.refsOK, RefsOK, D.refs, Obj.refs, rEnc]
  · intro env os b q hd_ hb
    unfold rowRl_d at hd_
    split at hd_
    · obtain ⟨hs, hd_⟩ := staticD_some hd_
      cases hd_
      simp only [Bool.and_eq_true, decide_eq_true_eq] at hb
      obtain ⟨rfl, hl⟩ := hb
      exact ⟨⟨Nat.zero_le _, hl⟩, rfl, rfl⟩
    · cases hd_
def rowRf_s (c : Bool) (l : List Sector) : Option (Bool × D RC) := some (goodL l, .bool (rowOK l))
def rowRf_sp : List (D RC) → Option (Bool × D RC)
  | [.sl .sector c l] => rowRf_s c l
  | _ => none
noncomputable def rowRf_e (c : Bool) (l : List Sector) := evF s07 uu2_1 40 26 [.sl (C := RC) .sector c l]
theorem rowRf_eq (c : Bool) (l : List Sector) : rowRf_e c l = (bif lenOK l.length then bif (↑l.length : Int) != (33 : Int) then some (D.bool false) else bif goodL l then bif List.all (List.drop (0 : Nat) l) maySec then some (D.bool true) else some (D.bool false) else none else none) := by kernel_rfl
theorem rowRf_ok (c : Bool) (l : List Sector) (h : (goodL l) = true) : rowRf_e c l = some (.bool (rowOK l)) := by
  rw [rowRf_eq]
  have hl := (goodL_iff.1 h).1
  have lk := lenOK_of hl
  simp only [h, lk, rowOK, cond_true, List.drop_zero]
  by_cases e : l.length = 33
  · have e2 : ((l.length : Int) != 33) = false := by simp [e]
    cases hm : l.all maySec <;> simp [e, hm]
  · have e2 : ((l.length : Int) != 33) = true := by simp [bne]; omega
    simp [e, e2]
noncomputable def uu2_2 := uu2_1.addSpec 26 rowRf_sp
theorem uu2_2_laws : FLaws Try.prog s07 uu2_2 := uu2_1_laws.addEv s07_laws fun args d h => by
  unfold rowRf_sp at h
  split at h
  · unfold rowRf_s at h
    have h1 := congrArg Prod.fst (Option.some.inj h)
    obtain rfl : _ = d := congrArg Prod.snd (Option.some.inj h)
    exact ⟨by simp [D.refs], 40, rowRf_ok _ _ h1⟩
  · cases h
structure chkRl_St where
  c : Bool
  now : List Sector
  d : Bool
  sure : List Sector
  i : Nat
def chkRl_c (c : Bool) (now : List Sector) (d : Bool) (sure : List Sector) (i : Nat) : Env RC := [(1, .ptr 0 []), (2, .int .i64 0), (3, .int .i64 (i : Int))]
def chkRl_o (c : Bool) (now : List Sector) (d : Bool) (sure : List Sector) (i : Nat) : List (Obj RC) := [.var 24 (.acons (.sl (C := RC) .sector c now) (.acons (.sl (C := RC) .sector d sure) .anil))]
noncomputable def chkRl_r (c : Bool) (now : List Sector) (d : Bool) (sure : List Sector) (i : Nat) := rndO s07 uu2_2 10 4 40 1 [1, 2, 3] [2] [.slot 1 0] (chkRl_c c now d sure i) (chkRl_o c now d sure i)
theorem chkRl_eq (c : Bool) (now : List Sector) (d : Bool) (sure : List Sector) (i : Nat) : chkRl_r c now d sure i = (let Z0 : Int := (↑i : Int); let Z1 : List (Option (Obj RC)) := [some (Obj.var 24 (.acons (D.sl RTy.sector c now) (.acons (D.sl RTy.sector d sure) .anil)))]; let Z2 : Nat × D RC := (2, D.int .i64 0); bif lenOK now.length then bif decide (Z0 < (↑now.length : Int)) then bif decide ((0 : Int) ≤ Z0 ∧ Z0 < (↑sure.length : Int)) then bif decide ((0 : Int) ≤ Z0 ∧ Z0 < (↑now.length : Int)) then bif decide (Sector.n (List.getD now Z0.toNat (Sector.mk (0 : Int) [])) < Sector.n (List.getD sure Z0.toNat (Sector.mk (0 : Int) []))) then some ((X.ret, [(2, D.int .i64 2)]), Z1) else some ((X.normal, [(1, D.ptr 0 []), Z2, (3, D.int .i64 (IntKind.wrap .i64 (Z0 + (1 : Int))))]), Z1) else none else none else some ((X.exit (0 : Nat), [Z2]), Z1) else none) := by kernel_rfl
def chkRl_fin (c : Bool) (now : List Sector) (d : Bool) (sure : List Sector) (i : Nat) : RT RC := .br (lowAt now sure i) (.leaf (.exit 0) [(2, .int .i64 0)] (chkRl_o c now d sure i)) (.leaf .ret [(2, .int .i64 2)] (chkRl_o c now d sure i))
def chkRl_Inv (c : Bool) (now : List Sector) (d : Bool) (sure : List Sector) (i : Nat) : Prop := i ≤ now.length ∧ now.length ≤ 9223372036854775807 ∧ now.length = sure.length
def chkRl_S : LoopR RC chkRl_St where
  k := 1
  canon q := chkRl_c q.c q.now q.d q.sure q.i
  objs q := chkRl_o q.c q.now q.d q.sure q.i
  fin q := chkRl_fin q.c q.now q.d q.sure q.i
  Inv q := chkRl_Inv q.c q.now q.d q.sure q.i
  μ q := q.now.length - q.i
theorem chkRl_round (c : Bool) (now : List Sector) (d : Bool) (sure : List Sector) (i : Nat) (hI : chkRl_Inv c now d sure i) : Leaf (chkRl_r c now d sure i) (LedR chkRl_S ⟨c, now, d, sure, i⟩) := by
  (rw [chkRl_eq]; conv => zeta)
  unfold chkRl_Inv at hI
  obtain ⟨h1, h2, h3⟩ := hI
  have hlk0 : lenOK now.length = true := lenOK_of h2
  by_cases hlt : i < now.length
  · have w_succ : IntKind.i64.wrap ((i : Int) + 1) = ((i + 1 : Nat) : Int) := by rw [wrap_id (by omega) (by omega)]; simp
    have d_lt : decide ((i : Int) < now.length) = true := by simp; omega
    have d_in : decide (0 ≤ (i : Int) ∧ (i : Int) < now.length) = true := by simp; omega
    have t_nat : ((i : Int)).toNat = i := by simp
    simp only [w_succ, d_lt, d_in, t_nat, cond_true]
    have hlt2 : i < sure.length := by omega
    have d_in2 : decide (0 ≤ (i : Int) ∧ (i : Int) < sure.length) = true := by simp; omega
    simp only [d_in2, hlk0, cond_true]
    have hst := lowAt_step (now := now) (sure := sure) i hlt (by omega) (⟨0, []⟩ : Sector)
    generalize now.getD i (⟨0, []⟩ : Sector) = x at hst ⊢
    generalize sure.getD i (⟨0, []⟩ : Sector) = y at hst ⊢
    cases a1 : decide (y.n ≤ x.n)
    · have a2 : decide (x.n < y.n) = true := by simp at a1 ⊢; exact a1
      simp only [a2, cond_true]
      exact leafR_ret (chkRl_o c now d sure i) (by simp [chkRl_S, chkRl_fin, hst, a1, RT.val]) rfl
    · have a2 : decide (x.n < y.n) = false := by simp at a1 ⊢; exact a1
      simp only [a2, cond_false]
      exact leafR_go ⟨c, now, d, sure, i + 1⟩ ⟨hlt, h2, h3⟩ (by simp only [chkRl_S]; omega) (by simp [chkRl_S, chkRl_fin, hst, a1]; rfl) rfl rfl
  · have hi : i = now.length := by omega
    have c1 : decide ((i : Int) < now.length) = false := by simp; omega
    rw [hlk0, c1]
    exact leafR_exit (chkRl_o c now d sure i) (by simp [chkRl_S, chkRl_fin, hi, lowAt_end, RT.val]) rfl
def chkRl_d (env : Env RC) (os : List (Obj RC)) : Option (Bool × chkRl_St) := match env, os with
  | [(1, .ptr 0 []), (2, .int .i64 0), (3, .int .i64 x0)], [.var 24 (.acons (.sl .sector c now) (.acons (.sl .sector d sure) .anil))] => staticD (true) (decide (x0 = 0) && decide (now.length ≤ 9223372036854775807 ∧ now.length = sure.length), ⟨c, now, d, sure, 0⟩)
  | _, _ => none
noncomputable def uu2_3 := uu2_2.addLoop 10 4 (sumR s07 [.slot 1 0] [1, 2, 3] chkRl_S chkRl_d)
theorem uu2_3_laws : FLaws Try.prog s07 uu2_3 := by
  refine uu2_2_laws.addRoundsR s07_laws (by kernel_rfl) chkRl_S 40 [1, 2, 3] [2] [.slot 1 0] [1, 2, 3] chkRl_d (fun q hI => ?_) ?_
  · obtain ⟨c, now, d, sure, i⟩ := q
    refine ⟨?_, ?_, chkRl_round c now d sure i hI⟩
    · simp_all [RefsOK, chkRl_S, chkRl_c, chkRl_o, chkRl_Inv, D.refs, Obj.refs, rEnc]
    · simp_all [chkRl_S, chkRl_fin, chkRl_o, chkRl_Inv, RT.refsOK, RefsOK, D.refs, Obj.refs, rEnc]
  · intro env os b q hd_ hb
    unfold chkRl_d at hd_
    split at hd_
    · obtain ⟨hs, hd_⟩ := staticD_some hd_
      cases hd_
      simp only [Bool.and_eq_true, decide_eq_true_eq] at hb
      obtain ⟨rfl, hl⟩ := hb
      exact ⟨⟨Nat.zero_le _, hl⟩, rfl, rfl⟩
    · cases hd_
def checkR_s (c : Bool) (now : List Sector) (d : Bool) (sure : List Sector) : Option (Bool × D RC) := some (goodL now && goodL sure, .int .i64 (bif diskOK now sure then 0 else 2))
def checkR_sp : List (D RC) → Option (Bool × D RC)
  | [.acons (.sl .sector c now) (.acons (.sl .sector d sure) .anil)] => checkR_s c now d sure
  | _ => none
noncomputable def checkR_e (c : Bool) (now : List Sector) (d : Bool) (sure : List Sector) := evF s07 uu2_3 40 10 [.acons (.sl (C := RC) .sector c now) (.acons (.sl (C := RC) .sector d sure) .anil)]
theorem checkR_eq (c : Bool) (now : List Sector) (d : Bool) (sure : List Sector) : checkR_e c now d sure = (let Z0 : DO_ := some (D.int .i64 2); bif goodL now then bif !rowOK now then Z0 else bif goodL sure then bif !rowOK sure then Z0 else bif decide (List.length now ≤ (9223372036854775807 : Nat) ∧ List.length now = List.length sure) then bif lowAt now sure (0 : Nat) then some (D.int .i64 0) else Z0 else none else none else none) := by kernel_rfl
theorem checkR_ok (c : Bool) (now : List Sector) (d : Bool) (sure : List Sector) (h : (goodL now && goodL sure) = true) : checkR_e c now d sure = some (.int .i64 (bif diskOK now sure then 0 else 2)) := by
  (rw [checkR_eq]; conv => zeta)
  rw [Bool.and_eq_true] at h
  obtain ⟨hg, hgs⟩ := h
  have hl := (goodL_iff.1 hg).1
  simp only [hg, hgs, cond_true, diskOK]
  cases h1 : rowOK now
  · rfl
  cases h2 : rowOK sure
  · rfl
  have l1 := rowOK_len h1
  have l2 := rowOK_len h2
  have e : decide (now.length ≤ 9223372036854775807 ∧ now.length = sure.length) = true := by simp; omega
  cases h3 : lowAt now sure 0 <;> simp [e]
noncomputable def uu2_4 := uu2_3.addSpec 10 checkR_sp
theorem uu2_4_laws : FLaws Try.prog s07 uu2_4 := uu2_3_laws.addEv s07_laws fun args d h => by
  unfold checkR_sp at h
  split at h
  · unfold checkR_s at h
    have h1 := congrArg Prod.fst (Option.some.inj h)
    obtain rfl : _ = d := congrArg Prod.snd (Option.some.inj h)
    exact ⟨by simp [D.refs], 40, checkR_ok _ _ _ _ h1⟩
  · cases h
structure secRl_St where
  c : Bool
  l : List Sector
  d : Bool
  m : List Sector
  i : Nat
def secRl_c (c : Bool) (l : List Sector) (d : Bool) (m : List Sector) (i : Nat) : Env RC := [(0, .sl (C := RC) .sector c l), (1, .sl (C := RC) .sector d m), (4, .bool false), (5, .int .i64 (i : Int))]
def secRl_o (c : Bool) (l : List Sector) (d : Bool) (m : List Sector) (i : Nat) : List (Obj RC) := []
noncomputable def secRl_r (c : Bool) (l : List Sector) (d : Bool) (m : List Sector) (i : Nat) := rndO s07 uu2_4 35 4 40 0 [0, 1, 4, 5] [4] [] (secRl_c c l d m i) (secRl_o c l d m i)
theorem secRl_eq (c : Bool) (l : List Sector) (d : Bool) (m : List Sector) (i : Nat) : secRl_r c l d m i = (let Z0 : Int := (↑i : Int); let Z1 : Sector := List.getD l Z0.toNat (Sector.mk (0 : Int) []); let Z2 : Sector := List.getD m Z0.toNat (Sector.mk (0 : Int) []); bif lenOK l.length then bif decide (Z0 < (↑l.length : Int)) then bif decide ((0 : Int) ≤ Z0 ∧ Z0 < (↑l.length : Int)) then bif decide ((0 : Int) ≤ Z0 ∧ Z0 < (↑m.length : Int)) then bif !(Sector.n Z1 == Sector.n Z2 && (Sector.b Z1 == Sector.b Z2 && true)) then some ((X.ret, [(4, D.bool false)]), []) else some ((X.normal, [(0, D.sl RTy.sector c l), (1, D.sl RTy.sector d m), (4, D.bool false), (5, D.int .i64 (IntKind.wrap .i64 (Z0 + (1 : Int))))]), []) else none else none else some ((X.exit (0 : Nat), [(4, D.bool false)]), []) else none) := by kernel_rfl
def secRl_fin (c : Bool) (l : List Sector) (d : Bool) (m : List Sector) (i : Nat) : RT RC := .br (decide (l.drop i = m.drop i)) (.leaf (.exit 0) [(4, .bool false)] []) (.leaf .ret [(4, .bool false)] [])
def secRl_Inv (c : Bool) (l : List Sector) (d : Bool) (m : List Sector) (i : Nat) : Prop := i ≤ l.length ∧ l.length ≤ 9223372036854775807 ∧ l.length = m.length
def secRl_S : LoopR RC secRl_St where
  k := 0
  canon q := secRl_c q.c q.l q.d q.m q.i
  objs q := secRl_o q.c q.l q.d q.m q.i
  fin q := secRl_fin q.c q.l q.d q.m q.i
  Inv q := secRl_Inv q.c q.l q.d q.m q.i
  μ q := q.l.length - q.i
theorem secRl_round (c : Bool) (l : List Sector) (d : Bool) (m : List Sector) (i : Nat) (hI : secRl_Inv c l d m i) : Leaf (secRl_r c l d m i) (LedR secRl_S ⟨c, l, d, m, i⟩) := by
  (rw [secRl_eq]; conv => zeta)
  unfold secRl_Inv at hI
  obtain ⟨h1, h2, h3⟩ := hI
  have hlk0 : lenOK l.length = true := lenOK_of h2
  by_cases hlt : i < l.length
  · have w_succ : IntKind.i64.wrap ((i : Int) + 1) = ((i + 1 : Nat) : Int) := by rw [wrap_id (by omega) (by omega)]; simp
    have d_lt : decide ((i : Int) < l.length) = true := by simp; omega
    have d_in : decide (0 ≤ (i : Int) ∧ (i : Int) < l.length) = true := by simp; omega
    have t_nat : ((i : Int)).toNat = i := by simp
    simp only [w_succ, d_lt, d_in, t_nat, cond_true]
    have hlt2 : i < m.length := by omega
    have d_in2 : decide (0 ≤ (i : Int) ∧ (i : Int) < m.length) = true := by simp; omega
    simp only [d_in2, hlk0, cond_true, eqSector]
    have hst := drops_step l m i (⟨0, []⟩ : Sector) hlt h3
    generalize l.getD i (⟨0, []⟩ : Sector) = x at hst ⊢
    generalize m.getD i (⟨0, []⟩ : Sector) = y at hst ⊢
    by_cases hxy : x = y
    · simp only [hxy, decide_true, Bool.not_true, cond_false]
      exact leafR_go ⟨c, l, d, m, i + 1⟩ ⟨hlt, h2, h3⟩ (by simp only [secRl_S]; omega) (by simp only [secRl_S, secRl_fin, hst, hxy, decide_true, Bool.true_and]) rfl rfl
    · simp only [hxy, decide_false, Bool.not_false, cond_true]
      exact leafR_ret [] (by simp [secRl_S, secRl_fin, hst, hxy, RT.val]) rfl
  · have hi : i = l.length := by omega
    have c1 : decide ((i : Int) < l.length) = false := by simp; omega
    rw [hlk0, c1]
    exact leafR_exit [] (by simp only [secRl_S, secRl_fin, drops_end l m i (by omega) (by omega), RT.val, cond_true]) rfl
def secRl_d (env : Env RC) (os : List (Obj RC)) : Option (Bool × secRl_St) := match env, os with
  | [(0, .sl .sector c l), (1, .sl .sector d m), (4, .bool false), (5, .int .i64 x0)], [] => staticD (true) (decide (x0 = 0) && decide (l.length ≤ 9223372036854775807 ∧ l.length = m.length), ⟨c, l, d, m, 0⟩)
  | _, _ => none
noncomputable def uu2_5 := uu2_4.addLoop 35 4 (sumR s07 [] [0, 1, 4, 5] secRl_S secRl_d)
theorem uu2_5_laws : FLaws Try.prog s07 uu2_5 := by
  refine uu2_4_laws.addRoundsR s07_laws (by kernel_rfl) secRl_S 40 [0, 1, 4, 5] [4] [] [0, 1, 4, 5] secRl_d (fun q hI => ?_) ?_
  · obtain ⟨c, l, d, m, i⟩ := q
    refine ⟨?_, ?_, secRl_round c l d m i hI⟩
    · simp_all [RefsOK, secRl_S, secRl_c, secRl_o, secRl_Inv, D.refs, Obj.refs, rEnc]
    · simp_all [secRl_S, secRl_fin, secRl_o, secRl_Inv, RT.refsOK, RefsOK, D.refs, Obj.refs, rEnc]
  · intro env os b q hd_ hb
    unfold secRl_d at hd_
    split at hd_
    · obtain ⟨hs, hd_⟩ := staticD_some hd_
      cases hd_
      simp only [Bool.and_eq_true, decide_eq_true_eq] at hb
      obtain ⟨rfl, hl⟩ := hb
      exact ⟨⟨Nat.zero_le _, hl⟩, rfl, rfl⟩
    · cases hd_
def secRf_s (c : Bool) (l : List Sector) (d : Bool) (m : List Sector) : Option (Bool × D RC) := some (lenOK l.length && lenOK m.length, .bool (decide (l = m)))
def secRf_sp : List (D RC) → Option (Bool × D RC)
  | [.sl .sector c l, .sl .sector d m] => secRf_s c l d m
  | _ => none
noncomputable def secRf_e (c : Bool) (l : List Sector) (d : Bool) (m : List Sector) := evF s07 uu2_5 40 35 [.sl (C := RC) .sector c l, .sl (C := RC) .sector d m]
theorem secRf_eq (c : Bool) (l : List Sector) (d : Bool) (m : List Sector) : secRf_e c l d m = (let Z0 : Nat := List.length l; let Z1 : Nat := List.length m; bif lenOK Z0 then bif lenOK Z1 then bif (↑Z0 : Int) != (↑Z1 : Int) then some (D.bool false) else bif decide (Z0 ≤ (9223372036854775807 : Nat) ∧ Z0 = Z1) then bif decide (List.drop (0 : Nat) l = List.drop (0 : Nat) m) then some (D.bool true) else some (D.bool false) else none else none else none) := by kernel_rfl
theorem secRf_ok (c : Bool) (l : List Sector) (d : Bool) (m : List Sector) (h : (lenOK l.length && lenOK m.length) = true) : secRf_e c l d m = some (.bool (decide (l = m))) := by
  (rw [secRf_eq]; conv => zeta)
  rw [Bool.and_eq_true] at h
  obtain ⟨a1, a2⟩ := h
  have hl := lenOK_le a1
  simp only [a1, a2, cond_true]
  by_cases h0 : l.length = m.length
  · have e1 : ((l.length : Int) != (m.length : Int)) = false := by simp [h0]
    have e2 : decide (l.length ≤ 9223372036854775807 ∧ l.length = m.length) = true := decide_eq_true ⟨hl, h0⟩
    rw [e1, e2]
    by_cases h8 : l = m <;> simp [h8]
  · have e1 : ((l.length : Int) != (m.length : Int)) = true := by simp; omega
    have h8 : ¬ l = m := fun e => h0 (by rw [e])
    rw [e1]
    simp [h8]
noncomputable def uu2_6 := uu2_5.addSpec 35 secRf_sp
theorem uu2_6_laws : FLaws Try.prog s07 uu2_6 := uu2_5_laws.addEv s07_laws fun args d h => by
  unfold secRf_sp at h
  split at h
  · unfold secRf_s at h
    have h1 := congrArg Prod.fst (Option.some.inj h)
    obtain rfl : _ = d := congrArg Prod.snd (Option.some.inj h)
    exact ⟨by simp [D.refs], 40, secRf_ok _ _ _ _ h1⟩
  · cases h
structure gr1R_St where
  c : Bool
  now : List Sector
  r : D RC
  i : Nat
def gr1R_c (c : Bool) (now : List Sector) (r : D RC) (i : Nat) : Env RC := [(1, .ptr 0 []), (2, .bool false), (3, .int .i64 (i : Int))]
def gr1R_o (c : Bool) (now : List Sector) (r : D RC) (i : Nat) : List (Obj RC) := [.var 24 (.acons (.sl (C := RC) .sector c now) r)]
noncomputable def gr1R_r (c : Bool) (now : List Sector) (r : D RC) (i : Nat) := rndO s07 uu2_6 8 4 40 1 [1, 2, 3] [2] [.slot 1 0] (gr1R_c c now r i) (gr1R_o c now r i)
theorem gr1R_eq (c : Bool) (now : List Sector) (r : D RC) (i : Nat) : gr1R_r c now r i = (let Z0 : Int := (↑i : Int); let Z1 : Nat := List.length (Sector.b (List.getD now Z0.toNat (Sector.mk (0 : Int) []))); let Z2 : List (Option (Obj RC)) := [some (Obj.var 24 (.acons (D.sl RTy.sector c now) r))]; bif lenOK now.length then bif decide (Z0 < (↑now.length : Int)) then bif decide ((0 : Int) ≤ Z0 ∧ Z0 < (↑now.length : Int)) then bif lenOK Z1 then bif decide ((3000 : Int) < (↑Z1 : Int)) then some ((X.ret, [(2, D.bool true)]), Z2) else some ((X.normal, [(1, D.ptr 0 []), (2, D.bool false), (3, D.int .i64 (IntKind.wrap .i64 (Z0 + (1 : Int))))]), Z2) else none else none else some ((X.exit (0 : Nat), [(2, D.bool false)]), Z2) else none) := by kernel_rfl
def gr1R_fin (c : Bool) (now : List Sector) (r : D RC) (i : Nat) : RT RC := .br (longAt now i) (.leaf .ret [(2, .bool true)] (gr1R_o c now r i)) (.leaf (.exit 0) [(2, .bool false)] (gr1R_o c now r i))
def gr1R_Inv (c : Bool) (now : List Sector) (r : D RC) (i : Nat) : Prop := r.refs = [] ∧ i ≤ now.length ∧ goodL now = true
def gr1R_S : LoopR RC gr1R_St where
  k := 1
  canon q := gr1R_c q.c q.now q.r q.i
  objs q := gr1R_o q.c q.now q.r q.i
  fin q := gr1R_fin q.c q.now q.r q.i
  Inv q := gr1R_Inv q.c q.now q.r q.i
  μ q := q.now.length - q.i
theorem gr1R_round (c : Bool) (now : List Sector) (r : D RC) (i : Nat) (hI : gr1R_Inv c now r i) : Leaf (gr1R_r c now r i) (LedR gr1R_S ⟨c, now, r, i⟩) := by
  (rw [gr1R_eq]; conv => zeta)
  unfold gr1R_Inv at hI
  obtain ⟨h0, h1, hg⟩ := hI
  have h2 := (goodL_iff.1 hg).1
  have hlk0 : lenOK now.length = true := lenOK_of h2
  by_cases hlt : i < now.length
  · have w_succ : IntKind.i64.wrap ((i : Int) + 1) = ((i + 1 : Nat) : Int) := by rw [wrap_id (by omega) (by omega)]; simp
    have d_lt : decide ((i : Int) < now.length) = true := by simp; omega
    have d_in : decide (0 ≤ (i : Int) ∧ (i : Int) < now.length) = true := by simp; omega
    have t_nat : ((i : Int)).toNat = i := by simp
    simp only [w_succ, d_lt, d_in, t_nat, cond_true]
    have hlk := goodL_at hg i hlt (⟨0, []⟩ : Sector)
    have hst := longAt_step now i hlt (⟨0, []⟩ : Sector)
    generalize now.getD i (⟨0, []⟩ : Sector) = x at hst hlk ⊢
    simp only [hlk0, hlk, cond_true]
    cases a1 : decide (3000 < (x.b.length : Int))
    · simp only [cond_false]
      exact leafR_go ⟨c, now, r, i + 1⟩ ⟨h0, hlt, hg⟩ (by simp only [gr1R_S]; omega) (by simp [gr1R_S, gr1R_fin, hst, a1]; rfl) rfl rfl
    · simp only [cond_true]
      exact leafR_ret (gr1R_o c now r i) (by simp [gr1R_S, gr1R_fin, hst, a1, RT.val]) rfl
  · have hi : i = now.length := by omega
    have c1 : decide ((i : Int) < now.length) = false := by simp; omega
    rw [hlk0, c1]
    exact leafR_exit (gr1R_o c now r i) (by simp [gr1R_S, gr1R_fin, hi, longAt_end, RT.val]) rfl
def gr1R_d (env : Env RC) (os : List (Obj RC)) : Option (Bool × gr1R_St) := match env, os with
  | [(1, .ptr 0 []), (2, .bool false), (3, .int .i64 x0)], [.var 24 (.acons (.sl .sector c now) r)] => staticD (r.refs.isEmpty) (decide (x0 = 0) && goodL now, ⟨c, now, r, 0⟩)
  | _, _ => none
noncomputable def uu2_7 := uu2_6.addLoop 8 4 (sumR s07 [.slot 1 0] [1, 2, 3] gr1R_S gr1R_d)
theorem uu2_7_laws : FLaws Try.prog s07 uu2_7 := by
  refine uu2_6_laws.addRoundsR s07_laws (by kernel_rfl) gr1R_S 40 [1, 2, 3] [2] [.slot 1 0] [1, 2, 3] gr1R_d (fun q hI => ?_) ?_
  · obtain ⟨c, now, r, i⟩ := q
    refine ⟨?_, ?_, gr1R_round c now r i hI⟩
    · simp_all [RefsOK, gr1R_S, gr1R_c, gr1R_o, gr1R_Inv, D.refs, Obj.refs, rEnc]
    · simp_all [gr1R_S, gr1R_fin, gr1R_o, gr1R_Inv, RT.refsOK, RefsOK, D.refs, Obj.refs, rEnc]
  · intro env os b q hd_ hb
    unfold gr1R_d at hd_
    split at hd_
    · obtain ⟨hs, hd_⟩ := staticD_some hd_
      cases hd_
      simp only [Bool.and_eq_true, decide_eq_true_eq] at hb
      obtain ⟨rfl, hl⟩ := hb
      exact ⟨⟨List.isEmpty_iff.1 hs, Nat.zero_le _, hl⟩, rfl, rfl⟩
    · cases hd_
structure gr2R_St where
  q : D RC
  c : Bool
  sure : List Sector
  i : Nat
def gr2R_c (q : D RC) (c : Bool) (sure : List Sector) (i : Nat) : Env RC := [(1, .ptr 0 []), (2, .bool false), (4, .int .i64 (i : Int))]
def gr2R_o (q : D RC) (c : Bool) (sure : List Sector) (i : Nat) : List (Obj RC) := [.var 24 (.acons q (.acons (.sl (C := RC) .sector c sure) .anil))]
noncomputable def gr2R_r (q : D RC) (c : Bool) (sure : List Sector) (i : Nat) := rndO s07 uu2_7 8 9 40 1 [1, 2, 4] [2] [.slot 1 0] (gr2R_c q c sure i) (gr2R_o q c sure i)
theorem gr2R_eq (q : D RC) (c : Bool) (sure : List Sector) (i : Nat) : gr2R_r q c sure i = (let Z0 : Int := (↑i : Int); let Z1 : Nat := List.length (Sector.b (List.getD sure Z0.toNat (Sector.mk (0 : Int) []))); let Z2 : List (Option (Obj RC)) := [some (Obj.var 24 (.acons q (D.acons (D.sl RTy.sector c sure) .anil)))]; bif lenOK sure.length then bif decide (Z0 < (↑sure.length : Int)) then bif decide ((0 : Int) ≤ Z0 ∧ Z0 < (↑sure.length : Int)) then bif lenOK Z1 then bif decide ((3000 : Int) < (↑Z1 : Int)) then some ((X.ret, [(2, D.bool true)]), Z2) else some ((X.normal, [(1, D.ptr 0 []), (2, D.bool false), (4, D.int .i64 (IntKind.wrap .i64 (Z0 + (1 : Int))))]), Z2) else none else none else some ((X.exit (2 : Nat), [(2, D.bool false)]), Z2) else none) := by kernel_rfl
def gr2R_fin (q : D RC) (c : Bool) (sure : List Sector) (i : Nat) : RT RC := .br (longAt sure i) (.leaf .ret [(2, .bool true)] (gr2R_o q c sure i)) (.leaf (.exit 2) [(2, .bool false)] (gr2R_o q c sure i))
def gr2R_Inv (q : D RC) (c : Bool) (sure : List Sector) (i : Nat) : Prop := q.refs = [] ∧ i ≤ sure.length ∧ goodL sure = true
def gr2R_S : LoopR RC gr2R_St where
  k := 1
  canon q := gr2R_c q.q q.c q.sure q.i
  objs q := gr2R_o q.q q.c q.sure q.i
  fin q := gr2R_fin q.q q.c q.sure q.i
  Inv q := gr2R_Inv q.q q.c q.sure q.i
  μ q := q.sure.length - q.i
theorem gr2R_round (q : D RC) (c : Bool) (sure : List Sector) (i : Nat) (hI : gr2R_Inv q c sure i) : Leaf (gr2R_r q c sure i) (LedR gr2R_S ⟨q, c, sure, i⟩) := by
  (rw [gr2R_eq]; conv => zeta)
  unfold gr2R_Inv at hI
  obtain ⟨h0, h1, hg⟩ := hI
  have h2 := (goodL_iff.1 hg).1
  have hlk0 : lenOK sure.length = true := lenOK_of h2
  by_cases hlt : i < sure.length
  · have w_succ : IntKind.i64.wrap ((i : Int) + 1) = ((i + 1 : Nat) : Int) := by rw [wrap_id (by omega) (by omega)]; simp
    have d_lt : decide ((i : Int) < sure.length) = true := by simp; omega
    have d_in : decide (0 ≤ (i : Int) ∧ (i : Int) < sure.length) = true := by simp; omega
    have t_nat : ((i : Int)).toNat = i := by simp
    simp only [w_succ, d_lt, d_in, t_nat, cond_true]
    have hlk := goodL_at hg i hlt (⟨0, []⟩ : Sector)
    have hst := longAt_step sure i hlt (⟨0, []⟩ : Sector)
    generalize sure.getD i (⟨0, []⟩ : Sector) = x at hst hlk ⊢
    simp only [hlk0, hlk, cond_true]
    cases a1 : decide (3000 < (x.b.length : Int))
    · simp only [cond_false]
      exact leafR_go ⟨q, c, sure, i + 1⟩ ⟨h0, hlt, hg⟩ (by simp only [gr2R_S]; omega) (by simp [gr2R_S, gr2R_fin, hst, a1]; rfl) rfl rfl
    · simp only [cond_true]
      exact leafR_ret (gr2R_o q c sure i) (by simp [gr2R_S, gr2R_fin, hst, a1, RT.val]) rfl
  · have hi : i = sure.length := by omega
    have c1 : decide ((i : Int) < sure.length) = false := by simp; omega
    rw [hlk0, c1]
    exact leafR_exit (gr2R_o q c sure i) (by simp [gr2R_S, gr2R_fin, hi, longAt_end, RT.val]) rfl
def gr2R_d (env : Env RC) (os : List (Obj RC)) : Option (Bool × gr2R_St) := match env, os with
  | [(1, .ptr 0 []), (2, .bool false), (4, .int .i64 x0)], [.var 24 (.acons q (.acons (.sl .sector c sure) .anil))] => staticD (q.refs.isEmpty) (decide (x0 = 0) && goodL sure, ⟨q, c, sure, 0⟩)
  | _, _ => none
noncomputable def uu2_8 := uu2_7.addLoop 8 9 (sumR s07 [.slot 1 0] [1, 2, 4] gr2R_S gr2R_d)
theorem uu2_8_laws : FLaws Try.prog s07 uu2_8 := by
  refine uu2_7_laws.addRoundsR s07_laws (by kernel_rfl) gr2R_S 40 [1, 2, 4] [2] [.slot 1 0] [1, 2, 4] gr2R_d (fun q hI => ?_) ?_
  · obtain ⟨q, c, sure, i⟩ := q
    refine ⟨?_, ?_, gr2R_round q c sure i hI⟩
    · simp_all [RefsOK, gr2R_S, gr2R_c, gr2R_o, gr2R_Inv, D.refs, Obj.refs, rEnc]
    · simp_all [gr2R_S, gr2R_fin, gr2R_o, gr2R_Inv, RT.refsOK, RefsOK, D.refs, Obj.refs, rEnc]
  · intro env os b q hd_ hb
    unfold gr2R_d at hd_
    split at hd_
    · obtain ⟨hs, hd_⟩ := staticD_some hd_
      cases hd_
      simp only [Bool.and_eq_true, decide_eq_true_eq] at hb
      obtain ⟨rfl, hl⟩ := hb
      exact ⟨⟨List.isEmpty_iff.1 hs, Nat.zero_le _, hl⟩, rfl, rfl⟩
    · cases hd_
def greatR_s (c : Bool) (now : List Sector) (d : Bool) (sure : List Sector) : Option (Bool × D RC) := some (goodL now && goodL sure, .bool (greatD now sure))
def greatR_sp : List (D RC) → Option (Bool × D RC)
  | [.acons (.sl .sector c now) (.acons (.sl .sector d sure) .anil)] => greatR_s c now d sure
  | _ => none
noncomputable def greatR_e (c : Bool) (now : List Sector) (d : Bool) (sure : List Sector) := evF s07 uu2_8 40 8 [.acons (.sl (C := RC) .sector c now) (.acons (.sl (C := RC) .sector d sure) .anil)]
theorem greatR_eq (c : Bool) (now : List Sector) (d : Bool) (sure : List Sector) : greatR_e c now d sure = (let Z0 : DO_ := some (D.bool true); bif lenOK now.length then bif decide ((60 : Int) < (↑now.length : Int)) then Z0 else bif lenOK sure.length then bif decide ((60 : Int) < (↑sure.length : Int)) then Z0 else bif goodL now then bif longAt now (0 : Nat) then Z0 else bif goodL sure then bif longAt sure (0 : Nat) then Z0 else some (D.bool false) else none else none else none else none) := by kernel_rfl
theorem greatR_ok (c : Bool) (now : List Sector) (d : Bool) (sure : List Sector) (h : (goodL now && goodL sure) = true) : greatR_e c now d sure = some (.bool (greatD now sure)) := by
  (rw [greatR_eq]; conv => zeta)
  rw [Bool.and_eq_true] at h
  obtain ⟨hg, hgs⟩ := h
  have l1 := lenOK_of (goodL_iff.1 hg).1
  have l2 := lenOK_of (goodL_iff.1 hgs).1
  simp only [hg, hgs, l1, l2, cond_true, greatD]
  cases decide ((60 : Int) < now.length) <;> cases decide ((60 : Int) < sure.length) <;> cases longAt now 0 <;> cases longAt sure 0 <;> rfl
noncomputable def uu2_9 := uu2_8.addSpec 8 greatR_sp
theorem uu2_9_laws : FLaws Try.prog s07 uu2_9 := uu2_8_laws.addEv s07_laws fun args d h => by
  unfold greatR_sp at h
  split at h
  · unfold greatR_s at h
    have h1 := congrArg Prod.fst (Option.some.inj h)
    obtain rfl : _ = d := congrArg Prod.snd (Option.some.inj h)
    exact ⟨by simp [D.refs], 40, greatR_ok _ _ _ _ h1⟩
  · cases h
def sameR3_s (c : Bool) (now : List Sector) (d : Bool) (sure : List Sector) (c' : Bool) (now' : List Sector) (d' : Bool) (sure' : List Sector) : Option (Bool × D RC) := some (lenOK now.length && lenOK now'.length && (lenOK sure.length && lenOK sure'.length), .bool (decide (now = now') && decide (sure = sure')))
def sameR3_sp : List (D RC) → Option (Bool × D RC)
  | [.acons (.sl .sector c now) (.acons (.sl .sector d sure) .anil), .acons (.sl .sector c' now') (.acons (.sl .sector d' sure') .anil)] => sameR3_s c now d sure c' now' d' sure'
  | _ => none
noncomputable def sameR3_e (c : Bool) (now : List Sector) (d : Bool) (sure : List Sector) (c' : Bool) (now' : List Sector) (d' : Bool) (sure' : List Sector) := evF s07 uu2_9 40 17 [.acons (.sl (C := RC) .sector c now) (.acons (.sl (C := RC) .sector d sure) .anil), .acons (.sl (C := RC) .sector c' now') (.acons (.sl (C := RC) .sector d' sure') .anil)]
theorem sameR3_eq (c : Bool) (now : List Sector) (d : Bool) (sure : List Sector) (c' : Bool) (now' : List Sector) (d' : Bool) (sure' : List Sector) : sameR3_e c now d sure c' now' d' sure' = (bif lenOK now.length && lenOK now'.length then bif decide (now = now') then bif lenOK sure.length && lenOK sure'.length then some (D.bool (decide (sure = sure'))) else none else some (D.bool false) else none) := by kernel_rfl
theorem sameR3_ok (c : Bool) (now : List Sector) (d : Bool) (sure : List Sector) (c' : Bool) (now' : List Sector) (d' : Bool) (sure' : List Sector) (h : (lenOK now.length && lenOK now'.length && (lenOK sure.length && lenOK sure'.length)) = true) : sameR3_e c now d sure c' now' d' sure' = some (.bool (decide (now = now') && decide (sure = sure'))) := by
  rw [sameR3_eq]
  rw [Bool.and_eq_true] at h
  rw [h.1, h.2]
  cases decide (now = now') <;> rfl
noncomputable def uu2_10 := uu2_9.addSpec 17 sameR3_sp
theorem uu2_10_laws : FLaws Try.prog s07 uu2_10 := uu2_9_laws.addEv s07_laws fun args d h => by
  unfold sameR3_sp at h
  split at h
  · unfold sameR3_s at h
    have h1 := congrArg Prod.fst (Option.some.inj h)
    obtain rfl : _ = d := congrArg Prod.snd (Option.some.inj h)
    exact ⟨by simp [D.refs], 40, sameR3_ok _ _ _ _ _ _ _ _ h1⟩
  · cases h
def putR3_s (c : Bool) (now : List Sector) (d : Bool) (sure : List Sector) (k : Int) (n : Int) (b : List UInt8) : Option (Bool × D RC) := some (goodL now && goodL sure && lenOK b.length, .tup (.acons (.acons (.sl (C := RC) .sector (!okPut now sure k n b) (pNow now sure k n b)) (.acons (.sl (C := RC) .sector (!okPut now sure k n b) (pSure now sure k n b)) .anil)) (.acons (.int .i64 (bif okPut now sure k n b then 0 else 2)) .anil)))
def putR3_sp : List (D RC) → Option (Bool × D RC)
  | [.acons (.sl .sector c now) (.acons (.sl .sector d sure) .anil), .int .i64 k, .int .i64 n, .str b] => putR3_s c now d sure k n b
  | _ => none
noncomputable def putR3_e (c : Bool) (now : List Sector) (d : Bool) (sure : List Sector) (k : Int) (n : Int) (b : List UInt8) := evF s07 uu2_10 40 18 [.acons (.sl (C := RC) .sector c now) (.acons (.sl (C := RC) .sector d sure) .anil), .int .i64 k, .int .i64 n, .str b]
theorem putR3_eq (c : Bool) (now : List Sector) (d : Bool) (sure : List Sector) (k : Int) (n : Int) (b : List UInt8) : putR3_e c now d sure k n b = (let Z0 : D RC := D.sl RTy.sector true []; let Z1 : DO_ := some (D.tup (D.acons (D.acons Z0 (D.acons Z0 .anil)) (.acons (D.int .i64 2) .anil))); let Z2 : Nat := (0 : Nat) + List.length now; let Z3 : Nat := (0 : Nat) + List.length sure; let Z4 : List Sector := List.replicate (0 : Nat) (Sector.mk (0 : Int) []); let Z5 : Nat := List.length (Z4 ++ now); let Z6 : Bool := Nat.beq Z2 Z5; let Z7 : Bool := Z6 && decide ((0 : Int) ≤ k ∧ k < (↑Z5 : Int)); let Z8 : List Sector := List.set (Z4 ++ now) k.toNat (Sector.mk n b); let Z9 : Bool := Nat.beq Z3 (Z4 ++ sure).length; let Z10 : D RC := D.acons (D.sl RTy.sector false (Z4 ++ sure)) .anil; let Z11 : D RC := D.acons (D.int .i64 0) .anil; let Z12 : DO_ := none; bif goodL now && goodL sure then bif (bif diskOK now sure then (0 : Int) else (2 : Int)) != (0 : Int) then Z1 else bif decide (k < (0 : Int)) then Z1 else bif decide ((33 : Int) ≤ k) then Z1 else bif decide (n < (1 : Int)) then Z1 else bif decide ((1048575 : Int) < n) then Z1 else bif b == Array.toList #[] then Z1 else bif lenOK b.length then bif decide ((640 : Int) < (↑b.length : Int)) then Z1 else bif sizeOK Z2 (24 : Nat) then bif sizeOK Z3 (24 : Nat) then bif Z7 then bif Z6 then bif Z6 then bif decide (Sector.n (List.getD (Z4 ++ now) k.toNat (Sector.mk (0 : Int) [])) < n) then bif Z7 then bif Z6 then bif Nat.beq Z2 Z8.length then bif Z9 then some (D.tup (D.acons (D.acons (D.sl RTy.sector false Z8) Z10) Z11)) else Z12 else Z12 else Z12 else Z12 else bif Z6 then bif Z9 then some (D.tup (D.acons (D.acons (D.sl RTy.sector false (Z4 ++ now)) Z10) Z11)) else Z12 else Z12 else Z12 else Z12 else Z12 else Z12 else Z12 else Z12 else Z12) := by kernel_rfl
theorem putR3_ok (c : Bool) (now : List Sector) (d : Bool) (sure : List Sector) (k : Int) (n : Int) (b : List UInt8) (h : (goodL now && goodL sure && lenOK b.length) = true) : putR3_e c now d sure k n b = some (.tup (.acons (.acons (.sl (C := RC) .sector (!okPut now sure k n b) (pNow now sure k n b)) (.acons (.sl (C := RC) .sector (!okPut now sure k n b) (pSure now sure k n b)) .anil)) (.acons (.int .i64 (bif okPut now sure k n b then 0 else 2)) .anil))) := by
  (rw [putR3_eq]; conv => zeta)
  simp only [Bool.and_eq_true] at h
  obtain ⟨⟨hg, hgs⟩, hb⟩ := h
  have hgg : (goodL now && goodL sure) = true := by rw [hg, hgs]; rfl
  have no : okPut now sure k n b = false → some (D.tup (.acons (.acons (.sl (C := RC) .sector true []) (.acons (.sl (C := RC) .sector true []) .anil)) (.acons (.int .i64 2) .anil))) = some (.tup (.acons (.acons (.sl (C := RC) .sector (!okPut now sure k n b) (pNow now sure k n b)) (.acons (.sl (C := RC) .sector (!okPut now sure k n b) (pSure now sure k n b)) .anil)) (.acons (.int .i64 (bif okPut now sure k n b then 0 else 2)) .anil))) := fun e => by simp only [e, pNow, pSure]; rfl
  refine cond_of hgg ?_
  cases hd : diskOK now sure
  · exact cond_of rfl (no (okPut_not fun f => by rw [hd] at f; cases f.1))
  obtain ⟨l1, l2⟩ := diskOK_len hd
  refine cond_no rfl (cond_two (fun e => no (okPut_not fun f => by simp only [decide_eq_true_eq] at e; omega)) fun e1 => ?_)
  refine (cond_two (fun e => no (okPut_not fun f => by simp only [decide_eq_true_eq] at e; omega)) fun e2 => ?_)
  refine (cond_two (fun e => no (okPut_not fun f => by simp only [decide_eq_true_eq] at e; omega)) fun e3 => ?_)
  have mf : maySec ⟨n, b⟩ = true → n ≤ 1048575 ∧ b.length ≤ 640 := fun e => by simp only [maySec, Bool.and_eq_true, decide_eq_true_eq] at e; exact ⟨e.1.1.2, e.1.2⟩
  refine (cond_two (fun e => no (okPut_not fun f => by have := mf f.2.2.2.2.2; simp only [decide_eq_true_eq] at e; omega)) fun e4 => ?_)
  refine (cond_two (fun e => no (okPut_not fun f => f.2.2.2.2.1 (by simpa using e))) fun e5 => ?_)
  refine cond_of hb ?_
  refine (cond_two (fun e => no (okPut_not fun f => by have := mf f.2.2.2.2.2; simp only [decide_eq_true_eq] at e; omega)) fun e6 => ?_)
  simp only [decide_eq_false_iff_not] at e1 e2 e3 e4 e6
  have ok : okPut now sure k n b = true := by
    have d1 : 0 < n := by omega
    simp only [okPut, hd, maySec, Bool.true_and, Bool.and_eq_true, decide_eq_true_eq, d1, decide_true, Bool.true_or]
    exact ⟨⟨⟨⟨by omega, by omega⟩, by omega⟩, by simpa using e5⟩, ⟨⟨by omega, by omega⟩, by omega⟩, trivial⟩
  rw [ok]
  have r0 : ∀ l : List Sector, List.replicate 0 (⟨0, []⟩ : Sector) ++ l = l := fun l => rfl
  have eb : ∀ n : Nat, n.beq n = true := fun n => by simp
  have s1 : sizeOK now.length 24 = true := by simp [sizeOK]; omega
  have s2 : sizeOK sure.length 24 = true := by simp [sizeOK]; omega
  have dk : decide (0 ≤ k ∧ k < (now.length : Int)) = true := by simp; omega
  simp only [pNow, pSure, ok, cond_true, Bool.not_true, r0, Nat.zero_add, List.length_set, eb, s1, s2, dk, Bool.and_self]
  refine cond_two (fun e => ?_) fun e => ?_ <;> simp only [decide_eq_true_eq, decide_eq_false_iff_not] at e
  · have pn : putNow now k.toNat n b = now.set k.toNat ⟨n, b⟩ := if_pos e
    rw [pn]
  · have pn : putNow now k.toNat n b = now := if_neg e
    rw [pn]
noncomputable def uu2_11 := uu2_10.addSpec 18 putR3_sp
theorem uu2_11_laws : FLaws Try.prog s07 uu2_11 := uu2_10_laws.addEv s07_laws fun args d h => by
  unfold putR3_sp at h
  split at h
  · unfold putR3_s at h
    have h1 := congrArg Prod.fst (Option.some.inj h)
    obtain rfl : _ = d := congrArg Prod.snd (Option.some.inj h)
    exact ⟨by simp [D.refs], 40, putR3_ok _ _ _ _ _ _ _ h1⟩
  · cases h
structure crashRl_St where
  lost : Int
  now : List Sector
  sure : List Sector
  i : Nat
def crashRl_c (lost : Int) (now : List Sector) (sure : List Sector) (i : Nat) : Env RC := [(1, .int .u64 lost), (6, .ptr 0 []), (7, .int .i64 (i : Int))]
def crashRl_o (lost : Int) (now : List Sector) (sure : List Sector) (i : Nat) : List (Obj RC) := [.var 24 (.acons (.vs 1 (now.length)) (.acons (.vs 2 (sure.length)) .anil)), .vec (C := RC) .sector true now, .vec (C := RC) .sector true sure]
noncomputable def crashRl_r (lost : Int) (now : List Sector) (sure : List Sector) (i : Nat) := rndO s07 uu2_11 15 5 40 3 [1, 6, 7] [] [.slot 6 0, .path 0 [0], .path 0 [1]] (crashRl_c lost now sure i) (crashRl_o lost now sure i)
theorem crashRl_eq (lost : Int) (now : List Sector) (sure : List Sector) (i : Nat) : crashRl_r lost now sure i = (let Z0 : Int := (↑i : Int); let Z1 : Nat := List.length sure; let Z2 : Bool := Nat.beq Z1 Z1; let Z3 : Bool := Z2 && decide ((0 : Int) ≤ Z0 ∧ Z0 < (↑Z1 : Int)); let Z4 : Nat := List.length now; let Z5 : Bool := Nat.beq Z4 Z4; let Z6 : Bool := Z5 && decide ((0 : Int) ≤ Z0 ∧ Z0 < (↑Z4 : Int)); let Z7 : X × Env RC := (X.normal, [(1, D.int IntKind.u64 lost), (6, D.ptr 0 []), (7, D.int .i64 (IntKind.wrap .i64 (Z0 + (1 : Int))))]); let Z8 : Option (Obj RC) := some (Obj.var 24 (.acons (D.vs 1 Z4) (.acons (D.vs 2 Z1) .anil))); let Z9 : Nat := Int.toNat Z0; let Z10 : Sector := List.getD sure Z9 (Sector.mk (0 : Int) []); let Z11 : Sector := List.getD now Z9 (Sector.mk (0 : Int) []); bif decide (Z0 < (33 : Int)) then bif bits IntKind.u64 (fun (x : Nat) (u v : BitVec x) => u &&& v) (Int.fdiv lost ((2 : Int) ^ min (IntKind.wrap IntKind.u64 Z0).toNat (64 : Nat))) (1 : Int) == (1 : Int) then bif Z3 then bif Z2 then bif Z6 then bif Z5 then some (Z7, [Z8, some (Obj.vec RTy.sector true (List.set now Z9 (Sector.mk (Sector.n Z10) (Sector.b Z10)))), some (Obj.vec RTy.sector true sure)]) else none else none else none else none else bif Z6 then bif Z5 then bif Z3 then bif Z2 then some (Z7, [Z8, some (Obj.vec RTy.sector true now), some (Obj.vec RTy.sector true (List.set sure Z9 (Sector.mk (Sector.n Z11) (Sector.b Z11))))]) else none else none else none else none else some ((X.exit (0 : Nat), []), [Z8, some (Obj.vec RTy.sector true now), some (Obj.vec RTy.sector true sure)])) := by kernel_rfl
def crashRl_fin (lost : Int) (now : List Sector) (sure : List Sector) (i : Nat) : RT RC := .leaf (.exit 0) [] [.var 24 (.acons (.vs 1 (crashF lost (33 - i) i now sure).1.length) (.acons (.vs 2 (crashF lost (33 - i) i now sure).2.length) .anil)), .vec (C := RC) .sector true (crashF lost (33 - i) i now sure).1, .vec (C := RC) .sector true (crashF lost (33 - i) i now sure).2]
def crashRl_Inv (lost : Int) (now : List Sector) (sure : List Sector) (i : Nat) : Prop := i ≤ 33 ∧ now.length = 33 ∧ sure.length = 33
def crashRl_S : LoopR RC crashRl_St where
  k := 3
  canon q := crashRl_c q.lost q.now q.sure q.i
  objs q := crashRl_o q.lost q.now q.sure q.i
  fin q := crashRl_fin q.lost q.now q.sure q.i
  Inv q := crashRl_Inv q.lost q.now q.sure q.i
  μ q := 33 - q.i
theorem crashRl_round (lost : Int) (now : List Sector) (sure : List Sector) (i : Nat) (hI : crashRl_Inv lost now sure i) : Leaf (crashRl_r lost now sure i) (LedR crashRl_S ⟨lost, now, sure, i⟩) := by
  (rw [crashRl_eq]; conv => zeta)
  unfold crashRl_Inv at hI
  obtain ⟨h1, h2, h3⟩ := hI
  have eb : ∀ n : Nat, n.beq n = true := fun n => by simp
  by_cases hlt : (i : Int) < 33
  · have w_succ : IntKind.i64.wrap ((i : Int) + 1) = ((i + 1 : Nat) : Int) := by rw [wrap_id (by omega) (by omega)]; simp
    have d1 : decide ((i : Int) < 33) = true := by simp; omega
    have d2 : decide (0 ≤ (i : Int) ∧ (i : Int) < now.length) = true := by simp; omega
    have d3 : decide (0 ≤ (i : Int) ∧ (i : Int) < sure.length) = true := by simp; omega
    have t_nat : ((i : Int)).toNat = i := by simp
    have hs : 33 - i = (33 - (i + 1)) + 1 := by omega
    simp only [d1, d2, d3, eb, w_succ, t_nat, Bool.and_self, cond_true]
    refine leaf_cond.2 ⟨fun hb => ?_, fun hb => ?_⟩
    · have hb' : bitAt lost i = true := hb
      refine leafR_go ⟨lost, now.set i (sure.getD i sec0), sure, i + 1⟩ (by refine ⟨by show i + 1 ≤ 33; omega, ?_, h3⟩; rw [List.length_set]; exact h2) (by simp only [crashRl_S]; omega) ?_ (by simp [crashRl_S, crashRl_c]) (by simp [crashRl_S, crashRl_o, sec0])
      simp only [crashRl_S, crashRl_fin, hs, crashF, hb', if_true]
    · have hb' : bitAt lost i = false := hb
      refine leafR_go ⟨lost, now, sure.set i (now.getD i sec0), i + 1⟩ (by refine ⟨by show i + 1 ≤ 33; omega, h2, ?_⟩; rw [List.length_set]; exact h3) (by simp only [crashRl_S]; omega) ?_ (by simp [crashRl_S, crashRl_c]) (by simp [crashRl_S, crashRl_o, sec0])
      simp only [crashRl_S, crashRl_fin, hs, crashF, hb', Bool.false_eq_true, if_false]
  · have hi : i = 33 := by omega
    have d1 : decide ((i : Int) < 33) = false := by simp; omega
    rw [d1]
    exact leafR_exit (crashRl_o lost now sure i) (by simp [crashRl_S, crashRl_fin, crashRl_o, hi, crashF, RT.val]) rfl
def crashRl_d (env : Env RC) (os : List (Obj RC)) : Option (Bool × crashRl_St) := match env, os with
  | [(1, .int .u64 lost), (6, .ptr 0 []), (7, .int .i64 x0)], [.var 24 (.acons (.vs 1 x1) (.acons (.vs 2 x2) .anil)), .vec .sector true now, .vec .sector true sure] => staticD (true) (decide (x0 = 0) && decide (x1 = now.length) && decide (x2 = sure.length) && decide (now.length = 33 ∧ sure.length = 33), ⟨lost, now, sure, 0⟩)
  | _, _ => none
noncomputable def uu2_12 := uu2_11.addLoop 15 5 (sumR s07 [.slot 6 0, .path 0 [0], .path 0 [1]] [1, 6, 7] crashRl_S crashRl_d)
theorem uu2_12_laws : FLaws Try.prog s07 uu2_12 := by
  refine uu2_11_laws.addRoundsR s07_laws (by kernel_rfl) crashRl_S 40 [1, 6, 7] [] [.slot 6 0, .path 0 [0], .path 0 [1]] [1, 6, 7] crashRl_d (fun q hI => ?_) ?_
  · obtain ⟨lost, now, sure, i⟩ := q
    refine ⟨?_, ?_, crashRl_round lost now sure i hI⟩
    · simp_all [RefsOK, crashRl_S, crashRl_c, crashRl_o, crashRl_Inv, D.refs, Obj.refs, rEnc]
    · simp_all [crashRl_S, crashRl_fin, crashRl_o, crashRl_Inv, RT.refsOK, RefsOK, D.refs, Obj.refs, rEnc]
  · intro env os b q hd_ hb
    unfold crashRl_d at hd_
    split at hd_
    · obtain ⟨hs, hd_⟩ := staticD_some hd_
      cases hd_
      simp only [Bool.and_eq_true, decide_eq_true_eq] at hb
      obtain ⟨⟨⟨rfl, rfl⟩, rfl⟩, hl⟩ := hb
      exact ⟨⟨Nat.zero_le _, hl⟩, rfl, rfl⟩
    · cases hd_
def crashR3_s (c : Bool) (now : List Sector) (d : Bool) (sure : List Sector) (lost : Int) : Option (Bool × D RC) := some (goodL now && goodL sure, .tup (.acons (.acons (.sl (C := RC) .sector (!diskOK now sure) (bif diskOK now sure then (crashF lost 33 0 now sure).1 else [])) (.acons (.sl (C := RC) .sector (!diskOK now sure) (bif diskOK now sure then (crashF lost 33 0 now sure).2 else [])) .anil)) (.acons (.int .i64 (bif diskOK now sure then 0 else 2)) .anil)))
def crashR3_sp : List (D RC) → Option (Bool × D RC)
  | [.acons (.sl .sector c now) (.acons (.sl .sector d sure) .anil), .int .u64 lost] => crashR3_s c now d sure lost
  | _ => none
noncomputable def crashR3_e (c : Bool) (now : List Sector) (d : Bool) (sure : List Sector) (lost : Int) := evF s07 uu2_12 40 15 [.acons (.sl (C := RC) .sector c now) (.acons (.sl (C := RC) .sector d sure) .anil), .int .u64 lost]
theorem crashR3_eq (c : Bool) (now : List Sector) (d : Bool) (sure : List Sector) (lost : Int) : crashR3_e c now d sure lost = (let Z0 : D RC := D.sl RTy.sector true []; let Z1 : Nat := (0 : Nat) + List.length now; let Z2 : Nat := (0 : Nat) + List.length sure; let Z3 : List Sector := List.replicate (0 : Nat) (Sector.mk (0 : Int) []); let Z4 : Nat := List.length (Z3 ++ now); let Z5 : Nat := List.length (Z3 ++ sure); let Z6 : List Sector × List Sector := crashF lost (33 : Nat) (0 : Nat) (Z3 ++ now) (Z3 ++ sure); let Z7 : Nat := List.length Z6.1; let Z8 : Nat := List.length Z6.2; bif goodL now && goodL sure then bif (bif diskOK now sure then (0 : Int) else (2 : Int)) != (0 : Int) then some (D.tup (D.acons (D.acons Z0 (D.acons Z0 .anil)) (.acons (D.int .i64 2) .anil))) else bif sizeOK Z1 (24 : Nat) then bif sizeOK Z2 (24 : Nat) then bif decide (Z1 = Z4) && decide (Z2 = Z5) && decide (Z4 = (33 : Nat) ∧ Z5 = (33 : Nat)) then bif Nat.beq Z7 Z7 then bif Nat.beq Z8 Z8 then some (D.tup (D.acons (D.acons (D.sl RTy.sector false Z6.1) (.acons (D.sl RTy.sector false Z6.2) .anil)) (.acons (D.int .i64 0) .anil))) else none else none else none else none else none else none) := by kernel_rfl
theorem crashR3_ok (c : Bool) (now : List Sector) (d : Bool) (sure : List Sector) (lost : Int) (h : (goodL now && goodL sure) = true) : crashR3_e c now d sure lost = some (.tup (.acons (.acons (.sl (C := RC) .sector (!diskOK now sure) (bif diskOK now sure then (crashF lost 33 0 now sure).1 else [])) (.acons (.sl (C := RC) .sector (!diskOK now sure) (bif diskOK now sure then (crashF lost 33 0 now sure).2 else [])) .anil)) (.acons (.int .i64 (bif diskOK now sure then 0 else 2)) .anil))) := by
  (rw [crashR3_eq]; conv => zeta)
  have hgg := h
  rw [Bool.and_eq_true] at h
  obtain ⟨hg, hgs⟩ := h
  refine cond_of hgg ?_
  cases hd : diskOK now sure
  · exact cond_of rfl rfl
  obtain ⟨l1, l2⟩ := diskOK_len hd
  have r0 : ∀ l : List Sector, List.replicate 0 (⟨0, []⟩ : Sector) ++ l = l := fun l => rfl
  have eb : ∀ n : Nat, n.beq n = true := fun n => by simp
  have s1 : sizeOK now.length 24 = true := by simp [sizeOK]; omega
  have s2 : sizeOK sure.length 24 = true := by simp [sizeOK]; omega
  have d3 : decide (now.length = 33 ∧ sure.length = 33) = true := decide_eq_true ⟨l1, l2⟩
  refine cond_no rfl ?_
  simp only [r0, eb, s1, s2, d3, Nat.zero_add, decide_true, Bool.and_self, cond_true, Bool.not_true]
noncomputable def uu2_13 := uu2_12.addSpec 15 crashR3_sp
theorem uu2_13_laws : FLaws Try.prog s07 uu2_13 := uu2_12_laws.addEv s07_laws fun args d h => by
  unfold crashR3_sp at h
  split at h
  · unfold crashR3_s at h
    have h1 := congrArg Prod.fst (Option.some.inj h)
    obtain rfl : _ = d := congrArg Prod.snd (Option.some.inj h)
    exact ⟨by simp [D.refs], 40, crashR3_ok _ _ _ _ _ h1⟩
  · cases h
theorem readS_stands {b : List UInt8} {s : St} (h : readS b = some s) : standsOK s = true := by
  rw [readS_eq] at h
  split at h
  · split at h
    · rename_i q; cases h; exact q.2
    · cases h
  · cases h
theorem partBytes_len (c : Int) (l : List Line) : (partBytes c l).length = 7 + 5 * l.length := by
  simp only [partBytes, List.length_append, leB_length, flatMap_len l lBytes 5 lBytes_len]
theorem stBytes_len {s : St} (h : standsOK s = true) : (stBytes s).length ≤ 385 := by
  obtain ⟨p, it, l0, l1, l2, c0, c1, c2⟩ := s
  obtain ⟨hp, hn, hi, h0, h1, h2⟩ := stands_facts h
  simp only [stBytes, List.length_append, leB_length, flatMap_len it iBytes 5 iBytes_len, partBytes_len]
  omega
def frN (b : List UInt8) : Int := ((readF b).getD (0, [])).1
def frL (b : List UInt8) : List UInt8 := ((readF b).getD (0, [])).2
theorem getP_in {b : List UInt8} {a w : Int} (h1 : 1 ≤ w) (h2 : w ≤ 6) (h3 : 0 ≤ a) (h4 : a + w ≤ b.length) : getP b a w = ((leVal ((b.drop a.toNat).take w.toNat) : Int), 0) := by simp [getP, h1, h2, h3, h4]
theorem getP_out {b : List UInt8} {a w : Int} (h1 : 1 ≤ w) (h2 : w ≤ 6) (h4 : b.length < a + w) : getP b a w = (0, 50) := by
  have : ¬ a + w ≤ (b.length : Int) := by omega
  simp [getP, h1, h2, this]
theorem okF_not {n : Int} {l : List UInt8} (h : ¬ (1 ≤ n ∧ n ≤ 1048575 ∧ l.length ≤ 600)) : okF n l = false := by
  cases e : okF n l
  · rfl
  · simp only [okF, Bool.and_eq_true, decide_eq_true_eq] at e; exact absurd ⟨e.1.1, e.1.2, e.2⟩ h
def ofF (s : Sector) : Option (List UInt8) := (readF s.b).bind fun p => if p.1 = s.n then some p.2 else none
def ckAt (s : Sector) : Option St := (ofF s).bind fun l => (readS l).bind fun st => if st.place ≤ s.n then some st else none
def errC (now sure : List Sector) : Int := bif okGet now sure 32 then (bif (getS now sure 32).n == 0 then 60 else bif (ckAt (getS now sure 32)).isNone then 50 else 0) else 2
def stOf (now sure : List Sector) : Option St := bif okGet now sure 32 then (bif (getS now sure 32).n == 0 then none else ckAt (getS now sure 32)) else none
def numC (now sure : List Sector) : Int := bif (stOf now sure).isNone then 0 else (getS now sure 32).n
def okCk (n : Int) (s : St) : Bool := decide (1 ≤ n) && decide (n ≤ 1048575) && decide (s.place ≤ n) && standsOK s
def ckB (n : Int) (s : St) : List UInt8 := bif okCk n s then frameB n (stBytes s) else []
theorem okCk_F {n : Int} {s : St} (h : okCk n s = true) : okF n (stBytes s) = true := by
  simp only [okCk, Bool.and_eq_true, decide_eq_true_eq] at h
  have := stBytes_len h.2
  simp only [okF, Bool.and_eq_true, decide_eq_true_eq]; omega
theorem ckB_len {n : Int} {s : St} : (ckB n s).length ≤ 397 := by
  unfold ckB
  cases h : okCk n s
  · simp
  · simp only [okCk, Bool.and_eq_true, decide_eq_true_eq] at h
    have := stBytes_len h.2
    simp only [cond_true, frameB_len]; omega
theorem getS_len (now sure : List Sector) (k : Int) : (getS now sure k).b.length ≤ 640 := by
  unfold getS
  cases h : okGet now sure k
  · simp [sec0]
  · have l := h
    simp only [okGet, Bool.and_eq_true, decide_eq_true_eq, diskOK, rowOK] at l
    have hm : k.toNat < now.length := by omega
    have e : now.getD k.toNat sec0 = now[k.toNat] := by simp [hm]
    have m := List.all_eq_true.1 l.1.1.1.2 _ (List.getElem_mem hm)
    simp only [maySec, Bool.and_eq_true, decide_eq_true_eq] at m
    rw [cond_true, e]; exact m.1.2
theorem okCk_not {n : Int} {s : St} (h : ¬ (1 ≤ n ∧ n ≤ 1048575 ∧ s.place ≤ n ∧ standsOK s = true)) : okCk n s = false := by
  cases e : okCk n s
  · rfl
  · simp only [okCk, Bool.and_eq_true, decide_eq_true_eq] at e; exact absurd ⟨e.1.1.1, e.1.1.2, e.1.2, e.2⟩ h
theorem ofF_len (s : Sector) : ((ofF s).getD []).length ≤ s.b.length := by
  unfold ofF
  cases h : readF s.b with
  | none => simp
  | some p =>
    obtain ⟨n, l⟩ := p
    have h2 := congrArg List.length (readF_ok h).2
    rw [frameB_len] at h2
    by_cases e : n = s.n
    · simp [e]; omega
    · simp [e]
open Go.Proofs
def frSize_s (n : Int) : Option (Bool × D RC) := some (decide (n ≤ 1000000), .int .i64 (bif decide (n < 0) || decide (600 < n) then 0 else n + 12))
def frSize_sp : List (D RC) → Option (Bool × D RC)
  | [.int .i64 n] => frSize_s n
  | _ => none
noncomputable def frSize_e (n : Int) := evF s07 uu2_13 40 55 [.int .i64 n]
theorem frSize_eq (n : Int) : frSize_e n = (let Z0 : DO_ := some (D.int .i64 0); bif decide (n < (0 : Int)) then Z0 else bif decide ((600 : Int) < n) then Z0 else some (D.int .i64 (IntKind.wrap .i64 (IntKind.wrap .i64 ((8 : Int) + n) + (4 : Int))))) := by kernel_rfl
theorem frSize_ok (n : Int) (h : (decide (n ≤ 1000000)) = true) : frSize_e n = some (.int .i64 (bif decide (n < 0) || decide (600 < n) then 0 else n + 12)) := by
  (rw [frSize_eq]; conv => zeta)
  have hl := of_decide_eq_true h
  by_cases h0 : n < 0
  · simp [h0]
  by_cases h6 : 600 < n
  · simp [h0, h6]
  have w1 : IntKind.i64.wrap (8 + n) = 8 + n := wrap_id (by omega) (by omega)
  have w2 : IntKind.i64.wrap (8 + n + 4) = 8 + n + 4 := wrap_id (by omega) (by omega)
  simp [h0, h6, w1, w2]
  omega
noncomputable def uv_1 := uu2_13.addSpec 55 frSize_sp
theorem uv_1_laws : FLaws Try.prog s07 uv_1 := uu2_13_laws.addEv s07_laws fun args d h => by
  unfold frSize_sp at h
  split at h
  · unfold frSize_s at h
    have h1 := congrArg Prod.fst (Option.some.inj h)
    obtain rfl : _ = d := congrArg Prod.snd (Option.some.inj h)
    exact ⟨by simp [D.refs], 40, frSize_ok _ h1⟩
  · cases h
def frBytes_s (n : Int) (b : List UInt8) : Option (Bool × D RC) := some (decide (b.length ≤ 1000000), .tup (.acons (.str (bif okF n b then frameB n b else [])) (.acons (.int .i64 (bif okF n b then 0 else 2)) .anil)))
def frBytes_sp : List (D RC) → Option (Bool × D RC)
  | [.int .i64 n, .str b] => frBytes_s n b
  | _ => none
noncomputable def frBytes_e (n : Int) (b : List UInt8) := evF s07 uv_1 60 39 [.int .i64 n, .str b]
theorem frBytes_eq (n : Int) (b : List UInt8) : frBytes_e n b = (let Z0 : DO_ := some (D.tup (D.acons (D.str (Array.toList #[])) (.acons (D.int .i64 2) .anil))); let Z1 : Nat := List.length b; let Z2 : Int := (↑Z1 : Int); let Z3 : Nat := (0 : Nat) + List.length (putL [] n (6 : Nat)); let Z4 : Nat := List.length ([] ++ putL [] n (6 : Nat)); let Z5 : Nat := List.length (putL [] Z2 (2 : Nat)); let Z6 : List UInt8 := [] ++ putL [] n (6 : Nat) ++ putL [] Z2 (2 : Nat); let Z7 : Nat := List.length (Z6 ++ b); let Z8 : DO_ := none; bif (bif fitsB n (6 : Nat) then (0 : Int) else (2 : Int)) != (0 : Int) then Z0 else bif decide (n < (1 : Int)) then Z0 else bif decide ((1048575 : Int) < n) then Z0 else bif lenOK Z1 then bif decide (Z2 ≤ (1000000 : Int)) then bif (bif decide (Z2 < (0 : Int)) || decide ((600 : Int) < Z2) then (0 : Int) else Z2 + (12 : Int)) == (0 : Int) then Z0 else bif lenOK Z1 then bif sizeOK Z1 (1 : Nat) then bif sizeOK Z3 (1 : Nat) then bif Nat.beq Z3 Z4 && sizeOK (Z3 + Z5) (1 : Nat) then bif Nat.beq (Z4 + Z5) Z6.length && sizeOK (Z4 + Z5 + Z1) (1 : Nat) then bif Nat.beq (List.length Z6 + Z1) Z7 then bif decide (Z7 ≤ (1000000 : Nat)) then some (D.tup (D.acons (D.str (sealL (Z6 ++ b))) (.acons (D.int .i64 0) .anil))) else Z8 else Z8 else Z8 else Z8 else Z8 else Z8 else Z8 else Z8 else Z8) := by kernel_rfl
theorem frBytes_ok (n : Int) (b : List UInt8) (h : (decide (b.length ≤ 1000000)) = true) : frBytes_e n b = some (.tup (.acons (.str (bif okF n b then frameB n b else [])) (.acons (.int .i64 (bif okF n b then 0 else 2)) .anil))) := by
  (rw [frBytes_eq]; conv => zeta)
  have hl := of_decide_eq_true h
  have lb : lenOK b.length = true := lenOK_of (by omega)
  have ld : decide ((b.length : Int) ≤ 1000000) = true := by simp; omega
  have no : okF n b = false → some (D.tup (.acons (.str []) (.acons (.int .i64 2) .anil))) = some (.tup (.acons (.str (bif okF n b then frameB n b else [])) (.acons (.int .i64 (bif okF n b then 0 else 2)) .anil)) : D RC) := fun e => by rw [e]; rfl
  refine cond_two (fun e => no (okF_not fun f => by rw [show fitsB n 6 = true by rw [fitsB_iff]; omega] at e; cases e)) fun e0 => ?_
  refine cond_two (fun e => no (okF_not fun f => by simp only [decide_eq_true_eq] at e; omega)) fun e1 => ?_
  refine cond_two (fun e => no (okF_not fun f => by simp only [decide_eq_true_eq] at e; omega)) fun e2 => ?_
  refine cond_of lb (cond_of ld ?_)
  simp only [decide_eq_false_iff_not] at e1 e2
  by_cases h6 : 600 < (b.length : Int)
  · refine cond_of ?_ (no (okF_not fun f => by omega))
    simp [h6]
  refine cond_no ?_ ?_
  · have : ¬ (b.length : Int) < 0 := by omega
    simp [this, h6]; omega
  have ok : okF n b = true := by simp only [okF, Bool.and_eq_true, decide_eq_true_eq]; omega
  have f6 : fitsB n 6 = true := by rw [fitsB_iff]; omega
  have f2 : fitsB (b.length : Int) 2 = true := by rw [fitsB_iff]; omega
  have p6 : putL [] n 6 = leB n 6 := (putL_fits f6).trans (List.nil_append _)
  have p2 : putL [] (b.length : Int) 2 = leB b.length 2 := (putL_fits f2).trans (List.nil_append _)
  simp only [p6, p2, List.nil_append, leB_length, List.length_append, Nat.zero_add]
  have hb6 : b.length ≤ 600 := by omega
  have es : ∀ k : Nat, k ≤ 700 → sizeOK k 1 = true := fun k hk => sizeT (by omega)
  have eb : ∀ n : Nat, n.beq n = true := fun n => by simp
  have ed : decide (6 + 2 + b.length ≤ 1000000) = true := by simp; omega
  simp (disch := omega) only [es, eb, lb, ed, Bool.and_self, cond_true]
  rw [ok]
  rfl
noncomputable def uv_2 := uv_1.addSpec 39 frBytes_sp
theorem uv_2_laws : FLaws Try.prog s07 uv_2 := uv_1_laws.addEv s07_laws fun args d h => by
  unfold frBytes_sp at h
  split at h
  · unfold frBytes_s at h
    have h1 := congrArg Prod.fst (Option.some.inj h)
    obtain rfl : _ = d := congrArg Prod.snd (Option.some.inj h)
    exact ⟨by simp [D.refs], 60, frBytes_ok _ _ h1⟩
  · cases h
def frRead_s (b : List UInt8) : Option (Bool × D RC) := some (decide (b.length ≤ 1000000), .tup (.acons (.int .i64 (frN b)) (.acons (.str (frL b)) (.acons (.int .i64 (bif (readF b).isNone then 50 else 0)) .anil))))
def frRead_sp : List (D RC) → Option (Bool × D RC)
  | [.str b] => frRead_s b
  | _ => none
noncomputable def frRead_e (b : List UInt8) := evF s07 uv_2 60 49 [.str b]
theorem frRead_eq (b : List UInt8) : frRead_e b = (let Z0 : List UInt8 := (fun (l : List UInt8) => l) b; let Z1 : List UInt8 := Option.getD (openL Z0) []; let Z2 : Nat := List.length Z1; let Z3 : Bool := decide (Z2 ≤ (1000000000000 : Nat)); let Z4 : D RC := D.int .i64 0; let Z5 : DO_ := some (D.tup (D.acons Z4 (D.acons (D.str (Array.toList #[])) (.acons (D.int .i64 50) .anil)))); let Z6 : Int × Int := getP Z1 (6 : Int) (2 : Int); let Z7 : Int := (↑Z2 : Int); let Z8 : Int := Prod.fst (getP Z1 (0 : Int) (6 : Int)); bif sizeOK b.length (1 : Nat) then bif decide (List.length Z0 ≤ (1000000 : Nat)) then bif Z3 then bif Z3 then bif (bif Option.isNone (openL Z0) then (50 : Int) else (0 : Int)) != (0 : Int) then Z5 else bif Prod.snd Z6 != (0 : Int) then Z5 else bif lenOK Z2 then bif bif Prod.fst Z6 != IntKind.wrap .i64 (IntKind.wrap .i64 (Z7 - (6 : Int)) - (2 : Int)) then true else bif decide ((600 : Int) < Prod.fst Z6) then true else bif decide (Z8 < (1 : Int)) then true else decide ((1048575 : Int) < Z8) then Z5 else bif lenOK Z2 then bif lenOK Z2 then bif decide ((0 : Int) ≤ (8 : Int) ∧ (8 : Int) ≤ Z7 ∧ Z7 ≤ Z7 ∧ Z7 = Z7) then some (D.tup (D.acons (D.int .i64 Z8) (.acons (D.str (List.drop (8 : Nat) (List.take Z7.toNat Z1))) (.acons Z4 .anil)))) else none else none else none else none else none else none else none else none) := by kernel_rfl
theorem frRead_ok (b : List UInt8) (h : (decide (b.length ≤ 1000000)) = true) : frRead_e b = some (.tup (.acons (.int .i64 (frN b)) (.acons (.str (frL b)) (.acons (.int .i64 (bif (readF b).isNone then 50 else 0)) .anil)))) := by
  (rw [frRead_eq]; conv => zeta)
  have hl := of_decide_eq_true h
  have hs : sizeOK b.length 1 = true := sizeT (by omega)
  cases hq : openL b with
  | none =>
    have hr : readF b = none := by simp [readF, hq]
    simp [hs, hl, hq, hr, frN, frL]
  | some x =>
    have hx := openL_len hq
    have lk : lenOK x.length = true := lenOK_of (by omega)
    have d1 : x.length ≤ 1000000000000 := by omega
    have hr : readF b = if 8 ≤ x.length ∧ leVal ((x.drop 6).take 2) + 8 = x.length ∧ x.length ≤ 608 ∧ 1 ≤ leVal (x.take 6) ∧ leVal (x.take 6) ≤ 1048575 then some ((leVal (x.take 6) : Int), x.drop 8) else none := by simp only [readF, hq]
    by_cases h8 : x.length < 8
    · have g2 : getP x 6 2 = (0, 50) := getP_out (by omega) (by omega) (by omega)
      have hr' : readF b = none := by rw [hr, if_neg (by omega)]
      simp [hs, hl, hq, hr', g2, d1, frN, frL]
    · have g2 : getP x 6 2 = ((leVal ((x.drop 6).take 2) : Int), 0) := getP_in (by omega) (by omega) (by omega) (by omega)
      have g6 : getP x 0 6 = ((leVal (x.take 6) : Int), 0) := getP_in (by omega) (by omega) (by omega) (by omega)
      have w1 : IntKind.i64.wrap ((x.length : Int) - 6) = x.length - 6 := wrap_id (by omega) (by omega)
      have w2 : IntKind.i64.wrap ((x.length : Int) - 6 - 2) = x.length - 6 - 2 := wrap_id (by omega) (by omega)
      have dd : (0 : Int) ≤ 8 ∧ 8 ≤ (x.length : Int) ∧ (x.length : Int) ≤ x.length ∧ (x.length : Int) = x.length := by omega
      generalize leVal ((x.drop 6).take 2) = v2 at hr g2
      generalize leVal (x.take 6) = v6 at hr g6
      by_cases C : 8 ≤ x.length ∧ v2 + 8 = x.length ∧ x.length ≤ 608 ∧ 1 ≤ v6 ∧ v6 ≤ 1048575
      · rw [if_pos C] at hr
        have c1 : ((v2 : Int) != (x.length : Int) - 6 - 2) = false := by simp [bne]; omega
        have c2 : ¬ 600 < (v2 : Int) := by omega
        have c3 : ¬ (v6 : Int) < 1 := by omega
        have c4 : ¬ 1048575 < (v6 : Int) := by omega
        have dx : (8 : Int) ≤ x.length := by omega
        simp [hs, hl, hq, hr, g2, g6, d1, frN, frL, lk, w1, w2, c1, c2, c3, c4, dx]
      · rw [if_neg C] at hr
        have c5 : (bif ((v2 : Int) != (x.length : Int) - 6 - 2) then true else bif decide (600 < (v2 : Int)) then true else bif decide ((v6 : Int) < 1) then true else decide (1048575 < (v6 : Int))) = true := by
          cases c1 : ((v2 : Int) != (x.length : Int) - 6 - 2)
          · simp [bne] at c1
            by_cases c2 : 600 < (v2 : Int)
            · simp [c2]
            by_cases c3 : (v6 : Int) < 1
            · simp [c3]
            by_cases c4 : 1048575 < (v6 : Int)
            · simp [c4]
            · exact absurd ⟨by omega, by omega, by omega, by omega, by omega⟩ C
          · rfl
        simp only [hs, hl, hq, hr, g2, g6, d1, frN, frL, lk, w1, w2, c5, Option.getD_some, Option.getD_none, Option.isNone_some, Option.isNone_none, cond_true, cond_false, decide_true]
        rfl
noncomputable def uv_3 := uv_2.addSpec 49 frRead_sp
theorem uv_3_laws : FLaws Try.prog s07 uv_3 := uv_2_laws.addEv s07_laws fun args d h => by
  unfold frRead_sp at h
  split at h
  · unfold frRead_s at h
    have h1 := congrArg Prod.fst (Option.some.inj h)
    obtain rfl : _ = d := congrArg Prod.snd (Option.some.inj h)
    exact ⟨by simp [D.refs], 60, frRead_ok _ h1⟩
  · cases h
def frOf_s (n : Int) (b : List UInt8) : Option (Bool × D RC) := some (decide (b.length ≤ 1000000), .tup (.acons (.str ((ofF ⟨n, b⟩).getD [])) (.acons (.bool (ofF ⟨n, b⟩).isSome) .anil)))
def frOf_sp : List (D RC) → Option (Bool × D RC)
  | [.acons (.int .i64 n) (.acons (.str b) .anil)] => frOf_s n b
  | _ => none
noncomputable def frOf_e (n : Int) (b : List UInt8) := evF s07 uv_3 40 31 [.acons (.int .i64 n) (.acons (.str b) .anil)]
theorem frOf_eq (n : Int) (b : List UInt8) : frOf_e n b = (let Z0 : DO_ := some (D.tup (D.acons (D.str (Array.toList #[])) (.acons (D.bool false) .anil))); bif decide (List.length b ≤ (1000000 : Nat)) then bif (bif Option.isNone (readF b) then (50 : Int) else (0 : Int)) != (0 : Int) then Z0 else bif frN b != n then Z0 else some (D.tup (D.acons (D.str (frL b)) (.acons (D.bool true) .anil))) else none) := by kernel_rfl
theorem frOf_ok (n : Int) (b : List UInt8) (h : (decide (b.length ≤ 1000000)) = true) : frOf_e n b = some (.tup (.acons (.str ((ofF ⟨n, b⟩).getD [])) (.acons (.bool (ofF ⟨n, b⟩).isSome) .anil))) := by
  (rw [frOf_eq]; conv => zeta)
  rw [h]
  simp only [frN, frL, ofF, cond_true]
  cases hr : readF b with
  | none => rfl
  | some p =>
    obtain ⟨m, l⟩ := p
    by_cases e : m = n
    · subst e; simp [bne]
    · have e2 : (m != n) = true := by simpa [bne] using e
      simp [e, e2]
noncomputable def uv_4 := uv_3.addSpec 31 frOf_sp
theorem uv_4_laws : FLaws Try.prog s07 uv_4 := uv_3_laws.addEv s07_laws fun args d h => by
  unfold frOf_sp at h
  split at h
  · unfold frOf_s at h
    have h1 := congrArg Prod.fst (Option.some.inj h)
    obtain rfl : _ = d := congrArg Prod.snd (Option.some.inj h)
    exact ⟨by simp [D.refs], 40, frOf_ok _ _ h1⟩
  · cases h
open Go.Proofs
def ckLoad_s (n : Int) (p : Int) (ci : Bool) (items : List Item) (k0 : Bool) (k1 : Bool) (k2 : Bool) (l0 : List Line) (l1 : List Line) (l2 : List Line) (c0 : Int) (c1 : Int) (c2 : Int) : Option (Bool × D RC) := some (decide (items.length ≤ 9223372036854775807 ∧ l0.length ≤ 9223372036854775807 ∧ l1.length ≤ 9223372036854775807 ∧ l2.length ≤ 9223372036854775807), .tup (.acons (.str (ckB n ⟨p, items, l0, l1, l2, c0, c1, c2⟩)) (.acons (.int .i64 (bif okCk n ⟨p, items, l0, l1, l2, c0, c1, c2⟩ then 0 else 2)) .anil)))
def ckLoad_sp : List (D RC) → Option (Bool × D RC)
  | [.int .i64 n, .acons (.int .i64 p) (.acons (.sl .item ci items) (.acons (.acons (.sl .line k0 l0) (.acons (.sl .line k1 l1) (.acons (.sl .line k2 l2) .anil))) (.acons (.arr .int 3 [c0, c1, c2]) .anil)))] => ckLoad_s n p ci items k0 k1 k2 l0 l1 l2 c0 c1 c2
  | _ => none
noncomputable def ckLoad_e (n : Int) (p : Int) (ci : Bool) (items : List Item) (k0 : Bool) (k1 : Bool) (k2 : Bool) (l0 : List Line) (l1 : List Line) (l2 : List Line) (c0 : Int) (c1 : Int) (c2 : Int) := evF s07 uv_4 40 20 [.int .i64 n, .acons (.int .i64 p) (.acons (.sl (C := RC) .item ci items) (.acons (.acons (.sl (C := RC) .line k0 l0) (.acons (.sl (C := RC) .line k1 l1) (.acons (.sl (C := RC) .line k2 l2) .anil))) (.acons (.arr (C := RC) .int 3 [c0, c1, c2]) .anil)))]
theorem ckLoad_eq (n : Int) (p : Int) (ci : Bool) (items : List Item) (k0 : Bool) (k1 : Bool) (k2 : Bool) (l0 : List Line) (l1 : List Line) (l2 : List Line) (c0 : Int) (c1 : Int) (c2 : Int) : ckLoad_e n p ci items k0 k1 k2 l0 l1 l2 c0 c1 c2 = (let Z0 : DO_ := some (D.tup (D.acons (D.str (Array.toList #[])) (.acons (D.int .i64 2) .anil))); let Z1 : St := St.mk p items l0 l1 l2 c0 c1 c2; let Z2 : List (RA RTy.u8) := (fun (l : List (RA RTy.u8)) => l) (bif standsOK Z1 then stBytes Z1 else []); bif decide (List.length items ≤ (9223372036854775807 : Nat) ∧ List.length l0 ≤ (9223372036854775807 : Nat) ∧ List.length l1 ≤ (9223372036854775807 : Nat) ∧ List.length l2 ≤ (9223372036854775807 : Nat)) then bif decide (n < (1 : Int)) then Z0 else bif decide ((1048575 : Int) < n) then Z0 else bif bif decide (n < p) then true else (bif standsOK Z1 then (0 : Int) else (2 : Int)) != (0 : Int) then Z0 else bif decide (List.length Z2 ≤ (1000000 : Nat)) then some (D.tup (D.acons (D.str (bif okF n Z2 then frameB n Z2 else [])) (.acons (D.int .i64 (bif okF n Z2 then (0 : Int) else (2 : Int))) .anil))) else none else none) := by kernel_rfl
theorem ckLoad_ok (n : Int) (p : Int) (ci : Bool) (items : List Item) (k0 : Bool) (k1 : Bool) (k2 : Bool) (l0 : List Line) (l1 : List Line) (l2 : List Line) (c0 : Int) (c1 : Int) (c2 : Int) (h : (decide (items.length ≤ 9223372036854775807 ∧ l0.length ≤ 9223372036854775807 ∧ l1.length ≤ 9223372036854775807 ∧ l2.length ≤ 9223372036854775807)) = true) : ckLoad_e n p ci items k0 k1 k2 l0 l1 l2 c0 c1 c2 = some (.tup (.acons (.str (ckB n ⟨p, items, l0, l1, l2, c0, c1, c2⟩)) (.acons (.int .i64 (bif okCk n ⟨p, items, l0, l1, l2, c0, c1, c2⟩ then 0 else 2)) .anil))) := by
  (rw [ckLoad_eq]; conv => zeta)
  generalize hs : (⟨p, items, l0, l1, l2, c0, c1, c2⟩ : St) = s
  have hp : s.place = p := by rw [← hs]
  have no : okCk n s = false → some (D.tup (.acons (.str []) (.acons (.int .i64 2) .anil))) = some (.tup (.acons (.str (ckB n s)) (.acons (.int .i64 (bif okCk n s then 0 else 2)) .anil)) : D RC) := fun e => by simp only [ckB, e]; rfl
  refine cond_of h ?_
  have no2 : ∀ m : Int, okCk n s = false → some (D.tup (.acons (.str []) (.acons (.int .i64 2) .anil))) = some (.tup (.acons (.str (ckB n s)) (.acons (.int .i64 (bif okCk n s then 0 else 2)) .anil)) : D RC) := fun _ => no
  refine cond_two (fun e => no (okCk_not fun f => by simp only [decide_eq_true_eq] at e; omega)) fun e1 => ?_
  refine cond_two (fun e => no (okCk_not fun f => by simp only [decide_eq_true_eq] at e; omega)) fun e2 => ?_
  cases hst : standsOK s
  · exact cond_of (by cases decide (n < p) <;> rfl) (no (okCk_not fun f => by rw [hst] at f; cases f.2.2.2))
  by_cases hnp : n < p
  · exact cond_of (by rw [decide_eq_true hnp]; rfl) (no (okCk_not fun f => by omega))
  refine cond_no (by rw [decide_eq_false hnp]; rfl) ?_
  simp only [decide_eq_false_iff_not] at e1 e2
  have ok : okCk n s = true := by simp only [okCk, Bool.and_eq_true, decide_eq_true_eq]; exact ⟨⟨⟨by omega, by omega⟩, by omega⟩, hst⟩
  have oF := okCk_F ok
  have hl := stBytes_len hst
  simp only [cond_true]
  refine cond_of (by simp; omega) ?_
  rw [oF]
  simp only [ckB, ok, cond_true]
noncomputable def uw_1 := uv_4.addSpec 20 ckLoad_sp
theorem uw_1_laws : FLaws Try.prog s07 uw_1 := uv_4_laws.addEv s07_laws fun args d h => by
  unfold ckLoad_sp at h
  split at h
  · unfold ckLoad_s at h
    have h1 := congrArg Prod.fst (Option.some.inj h)
    obtain rfl : _ = d := congrArg Prod.snd (Option.some.inj h)
    exact ⟨by simp [D.refs], 40, ckLoad_ok _ _ _ _ _ _ _ _ _ _ _ _ _ h1⟩
  · cases h
def ckRead_s (c : Bool) (now : List Sector) (d : Bool) (sure : List Sector) : Option (Bool × D RC) := some (goodL now && goodL sure, .tup (.acons (.int .i64 (numC now sure)) (.acons (.acons (.int .i64 (stG (stOf now sure)).place) (.acons (.sl (C := RC) .item (stOf now sure).isNone (stG (stOf now sure)).items) (.acons (.acons (.sl (C := RC) .line (stOf now sure).isNone (stG (stOf now sure)).l0) (.acons (.sl (C := RC) .line (stOf now sure).isNone (stG (stOf now sure)).l1) (.acons (.sl (C := RC) .line (stOf now sure).isNone (stG (stOf now sure)).l2) .anil))) (.acons (.arr (C := RC) .int 3 [(stG (stOf now sure)).c0, (stG (stOf now sure)).c1, (stG (stOf now sure)).c2]) .anil)))) (.acons (.int .i64 (errC now sure)) .anil))))
def ckRead_sp : List (D RC) → Option (Bool × D RC)
  | [.acons (.sl .sector c now) (.acons (.sl .sector d sure) .anil)] => ckRead_s c now d sure
  | _ => none
noncomputable def ckRead_e (c : Bool) (now : List Sector) (d : Bool) (sure : List Sector) := evF s07 uw_1 40 13 [.acons (.sl (C := RC) .sector c now) (.acons (.sl (C := RC) .sector d sure) .anil)]
theorem ckRead_eq (c : Bool) (now : List Sector) (d : Bool) (sure : List Sector) : ckRead_e c now d sure = (let Z0 : Int := bif okGet now sure (32 : Int) then (0 : Int) else (2 : Int); let Z1 : D RC := D.int .i64 0; let Z2 : D RC := D.sl RTy.line true []; let Z3 : D RC := .anil; let Z4 : D RC := D.acons Z1 (D.acons (D.sl RTy.item true []) (.acons (D.acons Z2 (D.acons Z2 (D.acons Z2 Z3))) (.acons (D.arr RTy.int (3 : Nat) (List.replicate (3 : Nat) (0 : Int))) Z3))); let Z5 : Sector := getS now sure (32 : Int); let Z6 : Int := Sector.n Z5; let Z7 : List UInt8 := Option.getD (ofF (Sector.mk Z6 (Sector.b Z5))) []; let Z8 : List UInt8 := (fun (l : List UInt8) => l) Z7; let Z9 : DO_ := some (D.tup (D.acons Z1 (D.acons Z4 (D.acons (D.int .i64 50) Z3)))); let Z10 : Bool := Option.isNone (readS Z8); let Z11 : St := stG (readS Z8); bif goodL now && goodL sure then bif Z0 != (0 : Int) then some (D.tup (D.acons Z1 (D.acons Z4 (D.acons (D.int .i64 Z0) Z3)))) else bif Z6 == (0 : Int) then some (D.tup (D.acons Z1 (D.acons Z4 (D.acons (D.int .i64 60) Z3)))) else bif decide (List.length (Sector.b Z5) ≤ (1000000 : Nat)) then bif sizeOK Z7.length (1 : Nat) then bif decide (List.length Z8 ≤ (1000000 : Nat)) then bif !Option.isSome (ofF (Sector.mk Z6 (Sector.b Z5))) then Z9 else bif (bif Z10 then (50 : Int) else (0 : Int)) != (0 : Int) then Z9 else bif decide (Z6 < St.place Z11) then Z9 else some (D.tup (D.acons (D.int .i64 Z6) (.acons (D.acons (D.int .i64 Z11.place) (.acons (D.sl RTy.item Z10 Z11.items) (.acons (D.acons (D.sl RTy.line Z10 Z11.l0) (.acons (D.sl RTy.line Z10 Z11.l1) (.acons (D.sl RTy.line Z10 Z11.l2) Z3))) (.acons (D.arr RTy.int (3 : Nat) [St.c0 Z11, St.c1 Z11, St.c2 Z11]) Z3)))) (.acons Z1 Z3)))) else none else none else none else none) := by kernel_rfl
theorem ckRead_ok (c : Bool) (now : List Sector) (d : Bool) (sure : List Sector) (h : (goodL now && goodL sure) = true) : ckRead_e c now d sure = some (.tup (.acons (.int .i64 (numC now sure)) (.acons (.acons (.int .i64 (stG (stOf now sure)).place) (.acons (.sl (C := RC) .item (stOf now sure).isNone (stG (stOf now sure)).items) (.acons (.acons (.sl (C := RC) .line (stOf now sure).isNone (stG (stOf now sure)).l0) (.acons (.sl (C := RC) .line (stOf now sure).isNone (stG (stOf now sure)).l1) (.acons (.sl (C := RC) .line (stOf now sure).isNone (stG (stOf now sure)).l2) .anil))) (.acons (.arr (C := RC) .int 3 [(stG (stOf now sure)).c0, (stG (stOf now sure)).c1, (stG (stOf now sure)).c2]) .anil)))) (.acons (.int .i64 (errC now sure)) .anil)))) := by
  (rw [ckRead_eq]; conv => zeta)
  refine cond_of h ?_
  have no : ∀ e : Int, stOf now sure = none → errC now sure = e → some (D.tup (.acons (.int .i64 0) (.acons (.acons (.int .i64 0) (.acons (.sl (C := RC) .item true []) (.acons (.acons (.sl (C := RC) .line true []) (.acons (.sl (C := RC) .line true []) (.acons (.sl (C := RC) .line true []) .anil))) (.acons (.arr (C := RC) .int 3 (List.replicate 3 0)) .anil)))) (.acons (.int .i64 e) .anil)))) = some (.tup (.acons (.int .i64 (numC now sure)) (.acons (.acons (.int .i64 (stG (stOf now sure)).place) (.acons (.sl (C := RC) .item (stOf now sure).isNone (stG (stOf now sure)).items) (.acons (.acons (.sl (C := RC) .line (stOf now sure).isNone (stG (stOf now sure)).l0) (.acons (.sl (C := RC) .line (stOf now sure).isNone (stG (stOf now sure)).l1) (.acons (.sl (C := RC) .line (stOf now sure).isNone (stG (stOf now sure)).l2) .anil))) (.acons (.arr (C := RC) .int 3 [(stG (stOf now sure)).c0, (stG (stOf now sure)).c1, (stG (stOf now sure)).c2]) .anil)))) (.acons (.int .i64 (errC now sure)) .anil)))) := fun e h1 h2 => by simp only [numC, h1, h2]; rfl
  cases hk : okGet now sure 32
  · exact cond_of rfl (no 2 (by simp [stOf, hk]) (by simp [errC, hk]))
  refine cond_no rfl ?_
  have hn := getS_len now sure 32
  generalize hs : getS now sure 32 = s at hn ⊢
  obtain ⟨n, b⟩ := s
  have hf := ofF_len ⟨n, b⟩
  dsimp only at hn hf ⊢
  refine cond_two (fun e => no 60 (by simp [stOf, hk, hs, e]) (by simp [errC, hk, hs, e])) fun e0 => ?_
  refine cond_of (by simp; omega) (cond_of (sizeT (by omega)) (cond_of (by simp; omega) ?_))
  cases ho : ofF ⟨n, b⟩ with
  | none => exact cond_of rfl (no 50 (by simp [stOf, hk, hs, e0, ckAt, ho]) (by simp [errC, hk, hs, e0, ckAt, ho]))
  | some l =>
    refine cond_no rfl ?_
    simp only [Option.getD_some]
    have hc : readS l = none ∨ ∃ st, readS l = some st := by cases readS l <;> simp
    rcases hc with hr | ⟨st, hr⟩
    · exact cond_of (by rw [hr]; rfl) (no 50 (by simp [stOf, hk, hs, e0, ckAt, ho, hr]) (by simp [errC, hk, hs, e0, ckAt, ho, hr]))
    · refine cond_no (by rw [hr]; rfl) ?_
      by_cases hp : st.place ≤ n
      · refine cond_no (by simp [hr, stG]; omega) ?_
        have e1 : stOf now sure = some st := by simp [stOf, hk, hs, e0, ckAt, ho, hr, hp]
        have e2 : errC now sure = 0 := by simp [errC, hk, hs, e0, ckAt, ho, hr, hp]
        have e3 : numC now sure = n := by simp [numC, e1, hs]
        simp only [e1, e2, e3, hr]
      · exact cond_of (by simp [hr, stG]; omega) (no 50 (by simp [stOf, hk, hs, e0, ckAt, ho, hr, hp]) (by simp [errC, hk, hs, e0, ckAt, ho, hr, hp]))
noncomputable def uw_2 := uw_1.addSpec 13 ckRead_sp
theorem uw_2_laws : FLaws Try.prog s07 uw_2 := uw_1_laws.addEv s07_laws fun args d h => by
  unfold ckRead_sp at h
  split at h
  · unfold ckRead_s at h
    have h1 := congrArg Prod.fst (Option.some.inj h)
    obtain rfl : _ = d := congrArg Prod.snd (Option.some.inj h)
    exact ⟨by simp [D.refs], 40, ckRead_ok _ _ _ _ h1⟩
  · cases h
def ckPut_s (c : Bool) (now : List Sector) (d : Bool) (sure : List Sector) (n : Int) (p : Int) (ci : Bool) (items : List Item) (k0 : Bool) (k1 : Bool) (k2 : Bool) (l0 : List Line) (l1 : List Line) (l2 : List Line) (c0 : Int) (c1 : Int) (c2 : Int) : Option (Bool × D RC) := some (goodL now && goodL sure && decide (items.length ≤ 9223372036854775807 ∧ l0.length ≤ 9223372036854775807 ∧ l1.length ≤ 9223372036854775807 ∧ l2.length ≤ 9223372036854775807), .tup (.acons (.acons (.sl (C := RC) .sector (!okPut now sure 32 n (ckB n ⟨p, items, l0, l1, l2, c0, c1, c2⟩)) (pNow now sure 32 n (ckB n ⟨p, items, l0, l1, l2, c0, c1, c2⟩))) (.acons (.sl (C := RC) .sector (!okPut now sure 32 n (ckB n ⟨p, items, l0, l1, l2, c0, c1, c2⟩)) (pSure now sure 32 n (ckB n ⟨p, items, l0, l1, l2, c0, c1, c2⟩))) .anil)) (.acons (.int .i64 (bif okPut now sure 32 n (ckB n ⟨p, items, l0, l1, l2, c0, c1, c2⟩) then 0 else 2)) .anil)))
def ckPut_sp : List (D RC) → Option (Bool × D RC)
  | [.acons (.sl .sector c now) (.acons (.sl .sector d sure) .anil), .int .i64 n, .acons (.int .i64 p) (.acons (.sl .item ci items) (.acons (.acons (.sl .line k0 l0) (.acons (.sl .line k1 l1) (.acons (.sl .line k2 l2) .anil))) (.acons (.arr .int 3 [c0, c1, c2]) .anil)))] => ckPut_s c now d sure n p ci items k0 k1 k2 l0 l1 l2 c0 c1 c2
  | _ => none
noncomputable def ckPut_e (c : Bool) (now : List Sector) (d : Bool) (sure : List Sector) (n : Int) (p : Int) (ci : Bool) (items : List Item) (k0 : Bool) (k1 : Bool) (k2 : Bool) (l0 : List Line) (l1 : List Line) (l2 : List Line) (c0 : Int) (c1 : Int) (c2 : Int) := evF s07 uw_2 40 12 [.acons (.sl (C := RC) .sector c now) (.acons (.sl (C := RC) .sector d sure) .anil), .int .i64 n, .acons (.int .i64 p) (.acons (.sl (C := RC) .item ci items) (.acons (.acons (.sl (C := RC) .line k0 l0) (.acons (.sl (C := RC) .line k1 l1) (.acons (.sl (C := RC) .line k2 l2) .anil))) (.acons (.arr (C := RC) .int 3 [c0, c1, c2]) .anil)))]
theorem ckPut_eq (c : Bool) (now : List Sector) (d : Bool) (sure : List Sector) (n : Int) (p : Int) (ci : Bool) (items : List Item) (k0 : Bool) (k1 : Bool) (k2 : Bool) (l0 : List Line) (l1 : List Line) (l2 : List Line) (c0 : Int) (c1 : Int) (c2 : Int) : ckPut_e c now d sure n p ci items k0 k1 k2 l0 l1 l2 c0 c1 c2 = (let Z0 : Bool := goodL now && goodL sure; let Z1 : Int := bif diskOK now sure then (0 : Int) else (2 : Int); let Z2 : D RC := D.sl RTy.sector true []; let Z3 : D RC := .anil; let Z4 : D RC := D.acons Z2 (D.acons Z2 Z3); let Z5 : St := St.mk p items l0 l1 l2 c0 c1 c2; let Z6 : Bool := okPut now sure (32 : Int) n (ckB n Z5); let Z7 : DO_ := bif Z0 && lenOK (ckB n Z5).length then some (D.tup (D.acons (D.acons (D.sl RTy.sector (!Z6) (pNow now sure (32 : Int) n (ckB n Z5))) (.acons (D.sl RTy.sector (!Z6) (pSure now sure (32 : Int) n (ckB n Z5))) Z3)) (.acons (D.int .i64 (bif Z6 then (0 : Int) else (2 : Int))) Z3))) else none; let Z8 : Int := bif okCk n Z5 then (0 : Int) else (2 : Int); bif decide (List.length items ≤ (9223372036854775807 : Nat) ∧ List.length l0 ≤ (9223372036854775807 : Nat) ∧ List.length l1 ≤ (9223372036854775807 : Nat) ∧ List.length l2 ≤ (9223372036854775807 : Nat)) then bif Z0 then bif Z1 != (0 : Int) then bif Z1 != (0 : Int) then some (D.tup (D.acons Z4 (D.acons (D.int .i64 Z1) Z3))) else Z7 else bif Z8 != (0 : Int) then bif Z8 != (0 : Int) then some (D.tup (D.acons Z4 (D.acons (D.int .i64 Z8) Z3))) else Z7 else Z7 else none else none) := by kernel_rfl
theorem ckPut_ok (c : Bool) (now : List Sector) (d : Bool) (sure : List Sector) (n : Int) (p : Int) (ci : Bool) (items : List Item) (k0 : Bool) (k1 : Bool) (k2 : Bool) (l0 : List Line) (l1 : List Line) (l2 : List Line) (c0 : Int) (c1 : Int) (c2 : Int) (h : (goodL now && goodL sure && decide (items.length ≤ 9223372036854775807 ∧ l0.length ≤ 9223372036854775807 ∧ l1.length ≤ 9223372036854775807 ∧ l2.length ≤ 9223372036854775807)) = true) : ckPut_e c now d sure n p ci items k0 k1 k2 l0 l1 l2 c0 c1 c2 = some (.tup (.acons (.acons (.sl (C := RC) .sector (!okPut now sure 32 n (ckB n ⟨p, items, l0, l1, l2, c0, c1, c2⟩)) (pNow now sure 32 n (ckB n ⟨p, items, l0, l1, l2, c0, c1, c2⟩))) (.acons (.sl (C := RC) .sector (!okPut now sure 32 n (ckB n ⟨p, items, l0, l1, l2, c0, c1, c2⟩)) (pSure now sure 32 n (ckB n ⟨p, items, l0, l1, l2, c0, c1, c2⟩))) .anil)) (.acons (.int .i64 (bif okPut now sure 32 n (ckB n ⟨p, items, l0, l1, l2, c0, c1, c2⟩) then 0 else 2)) .anil))) := by
  (rw [ckPut_eq]; conv => zeta)
  generalize hs : (⟨p, items, l0, l1, l2, c0, c1, c2⟩ : St) = s
  rw [Bool.and_eq_true, Bool.and_eq_true] at h
  obtain ⟨⟨hg, hgs⟩, hl⟩ := h
  refine cond_of hl ?_
  have no : okPut now sure 32 n (ckB n s) = false → some (D.tup (.acons (.acons (.sl (C := RC) .sector true []) (.acons (.sl (C := RC) .sector true []) .anil)) (.acons (.int .i64 2) .anil))) = some (.tup (.acons (.acons (.sl (C := RC) .sector (!okPut now sure 32 n (ckB n s)) (pNow now sure 32 n (ckB n s))) (.acons (.sl (C := RC) .sector (!okPut now sure 32 n (ckB n s)) (pSure now sure 32 n (ckB n s))) .anil)) (.acons (.int .i64 (bif okPut now sure 32 n (ckB n s) then 0 else 2)) .anil))) := fun e => by simp only [e, pNow, pSure]; rfl
  have hlb : lenOK (ckB n s).length = true := lenOK_of (by have := @ckB_len n s; omega)
  have hall : (goodL now && goodL sure && lenOK (ckB n s).length) = true := by rw [hg, hgs, hlb]; rfl
  refine cond_of (by rw [hg, hgs]; rfl) ?_
  cases hd : diskOK now sure
  · exact cond_of rfl (cond_of rfl (no (okPut_not fun f => by rw [hd] at f; cases f.1)))
  refine cond_no rfl ?_
  cases hk : okCk n s
  · exact cond_of rfl (cond_of rfl (no (okPut_not fun f => f.2.2.2.2.1 (by simp [ckB, hk]))))
  · exact cond_no rfl (cond_of hall rfl)
noncomputable def uw_3 := uw_2.addSpec 12 ckPut_sp
theorem uw_3_laws : FLaws Try.prog s07 uw_3 := uw_2_laws.addEv s07_laws fun args d h => by
  unfold ckPut_sp at h
  split at h
  · unfold ckPut_s at h
    have h1 := congrArg Prod.fst (Option.some.inj h)
    obtain rfl : _ = d := congrArg Prod.snd (Option.some.inj h)
    exact ⟨by simp [D.refs], 40, ckPut_ok _ _ _ _ _ _ _ _ _ _ _ _ _ _ _ _ _ h1⟩
  · cases h
open Go.Proofs
def wakes07_s  : Option (Bool × D RC) := some (true, .bool true)
def wakes07_sp : List (D RC) → Option (Bool × D RC)
  | [] => wakes07_s 
  | _ => none
noncomputable def wakes07_e  := evF s07 uw_3 1000 11 []
theorem wakes07_ok  (h : (true) = true) : wakes07_e  = some (.bool true) := by
  kernel_rfl
noncomputable def ux_1 := uw_3.addSpec 11 wakes07_sp
theorem ux_1_laws : FLaws Try.prog s07 ux_1 := uw_3_laws.addEv s07_laws fun args d h => by
  unfold wakes07_sp at h
  split at h
  · unfold wakes07_s at h
    have h1 := congrArg Prod.fst (Option.some.inj h)
    obtain rfl : _ = d := congrArg Prod.snd (Option.some.inj h)
    exact ⟨by simp [D.refs], 1000, wakes07_ok  h1⟩
  · cases h
open Go.Proofs
def r4Bytes_s (n : Int) (b : List UInt8) : Option (Bool × D RC) := some (decide (b.length ≤ 1000000), .tup (.acons (.str (bif okF n b then frameB n b else [])) (.acons (.int .i64 (bif okF n b then 0 else 2)) .anil)))
def r4Bytes_sp : List (D RC) → Option (Bool × D RC)
  | [.int .i64 n, .str b] => r4Bytes_s n b
  | _ => none
noncomputable def r4Bytes_e (n : Int) (b : List UInt8) := evF s07 ux_1 60 41 [.int .i64 n, .str b]
theorem r4Bytes_eq (n : Int) (b : List UInt8) : r4Bytes_e n b = (let Z0 : DO_ := some (D.tup (D.acons (D.str (Array.toList #[])) (.acons (D.int .i64 2) .anil))); let Z1 : Bool := lenOK b.length; let Z2 : Int := (↑b.length : Int); let Z3 : List UInt8 := [] ++ [] ++ leB n (6 : Nat); let Z4 : Nat := List.length ([] ++ Z3); let Z5 : List UInt8 := [] ++ Z3 ++ leB Z2 (2 : Nat); let Z6 : Nat := List.length Z5; let Z7 : List UInt8 := (fun (l : List UInt8) => l) b; let Z8 : Nat := List.length (Z5 ++ Z7); let Z9 : DO_ := none; bif decide (n < (1 : Int)) then Z0 else bif decide ((1048575 : Int) < n) then Z0 else bif Z1 then bif decide ((600 : Int) < Z2) then Z0 else bif decide (n ≤ (9223372036854775807 : Int) ∧ (1 : Int) ≤ (6 : Int) ∧ (6 : Int) ≤ (6 : Int)) && fitsB n (6 : Nat) then bif decide ((0 : Int) ≤ n ∧ n ≤ (9223372036854775807 : Int) ∧ (0 : Int) ≤ (6 : Int) ∧ (6 : Int) ≤ (6 : Int) ∧ (0 : Nat) ≤ (1000000 : Nat)) then bif Z1 then bif decide (Z2 ≤ (9223372036854775807 : Int) ∧ (1 : Int) ≤ (2 : Int) ∧ (2 : Int) ≤ (6 : Int)) && fitsB Z2 (2 : Nat) then bif decide ((0 : Nat) + List.length Z3 = Z4) && true && decide ((0 : Int) ≤ Z2 ∧ Z2 ≤ (9223372036854775807 : Int) ∧ (0 : Int) ≤ (2 : Int) ∧ (2 : Int) ≤ (6 : Int) ∧ Z4 ≤ (1000000 : Nat)) then bif Nat.beq Z6 Z6 && sizeOK (Z6 + List.length Z7) (1 : Nat) then bif Nat.beq (Z6 + List.length Z7) Z8 then bif decide (Z8 ≤ (1000000 : Nat)) then some (D.tup (D.acons (D.str (sealL (Z5 ++ Z7))) (.acons (D.int .i64 0) .anil))) else Z9 else Z9 else Z9 else Z9 else Z9 else Z9 else Z9 else Z9 else Z9) := by kernel_rfl
theorem r4Bytes_ok (n : Int) (b : List UInt8) (h : (decide (b.length ≤ 1000000)) = true) : r4Bytes_e n b = some (.tup (.acons (.str (bif okF n b then frameB n b else [])) (.acons (.int .i64 (bif okF n b then 0 else 2)) .anil))) := by
  (rw [r4Bytes_eq]; conv => zeta)
  have hl := of_decide_eq_true h
  have lb : lenOK b.length = true := lenOK_of (by omega)
  have no : okF n b = false → some (D.tup (.acons (.str []) (.acons (.int .i64 2) .anil))) = some (.tup (.acons (.str (bif okF n b then frameB n b else [])) (.acons (.int .i64 (bif okF n b then 0 else 2)) .anil)) : D RC) := fun e => by rw [e]; rfl
  refine cond_two (fun e => no (okF_not fun f => by simp only [decide_eq_true_eq] at e; omega)) fun e1 => ?_
  refine cond_two (fun e => no (okF_not fun f => by simp only [decide_eq_true_eq] at e; omega)) fun e2 => ?_
  refine cond_of lb (cond_two (fun e => no (okF_not fun f => by simp only [decide_eq_true_eq] at e; omega)) fun e3 => ?_)
  simp only [decide_eq_false_iff_not] at e1 e2 e3
  have ok : okF n b = true := by simp only [okF, Bool.and_eq_true, decide_eq_true_eq]; omega
  have f6 : fitsB n 6 = true := by rw [fitsB_iff]; omega
  have f2 : fitsB (b.length : Int) 2 = true := by rw [fitsB_iff]; omega
  have eb : ∀ n : Nat, n.beq n = true := fun n => by simp
  have s1 : sizeOK (6 + 2 + b.length) 1 = true := sizeT (by omega)
  have g1 : decide (n ≤ 9223372036854775807 ∧ (1 : Int) ≤ 6 ∧ (6 : Int) ≤ 6) = true := decide_eq_true (by omega)
  have g2 : decide (0 ≤ n ∧ n ≤ 9223372036854775807 ∧ (0 : Int) ≤ 6 ∧ (6 : Int) ≤ 6 ∧ 0 ≤ 1000000) = true := decide_eq_true (by omega)
  have g3 : decide ((b.length : Int) ≤ 9223372036854775807 ∧ (1 : Int) ≤ 2 ∧ (2 : Int) ≤ 6) = true := decide_eq_true (by omega)
  have g4 : decide (0 ≤ (b.length : Int) ∧ (b.length : Int) ≤ 9223372036854775807 ∧ (0 : Int) ≤ 2 ∧ (2 : Int) ≤ 6 ∧ 6 ≤ 1000000) = true := decide_eq_true (by omega)
  have g5 : decide (6 + 2 + b.length ≤ 1000000) = true := decide_eq_true (by omega)
  simp only [List.nil_append, leB_length, List.length_append, f6, f2, eb, lb, s1, Nat.zero_add, Bool.and_self, cond_true]
  refine cond_of (by rw [g1]; rfl) (cond_of g2 (cond_of (by rw [g3]; rfl) (cond_of (by rw [g4]; rfl) (cond_of g5 ?_))))
  rw [ok]
  rfl
noncomputable def uy_1 := ux_1.addSpec 41 r4Bytes_sp
theorem uy_1_laws : FLaws Try.prog s07 uy_1 := ux_1_laws.addEv s07_laws fun args d h => by
  unfold r4Bytes_sp at h
  split at h
  · unfold r4Bytes_s at h
    have h1 := congrArg Prod.fst (Option.some.inj h)
    obtain rfl : _ = d := congrArg Prod.snd (Option.some.inj h)
    exact ⟨by simp [D.refs], 60, r4Bytes_ok _ _ h1⟩
  · cases h
def r4Read_s (b : List UInt8) : Option (Bool × D RC) := some (decide (b.length ≤ 1000000), .tup (.acons (.int .i64 (frN b)) (.acons (.str (frL b)) (.acons (.int .i64 (bif (readF b).isNone then 50 else 0)) .anil))))
def r4Read_sp : List (D RC) → Option (Bool × D RC)
  | [.str b] => r4Read_s b
  | _ => none
noncomputable def r4Read_e (b : List UInt8) := evF s07 uy_1 60 43 [.str b]
theorem r4Read_eq (b : List UInt8) : r4Read_e b = (let Z0 : Nat := List.length b; let Z1 : D RC := D.int .i64 0; let Z2 : DO_ := some (D.tup (D.acons Z1 (D.acons (D.str (Array.toList #[])) (.acons (D.int .i64 50) .anil)))); let Z3 : List UInt8 := (fun (l : List UInt8) => l) b; let Z4 : List UInt8 := Option.getD (openL Z3) []; let Z5 : Nat := List.length Z4; let Z6 : List (RA RTy.u8) := (fun (l : List (RA RTy.u8)) => l) (List.drop (8 : Nat) Z4); let Z7 : Int := Prod.fst (getP Z4 (0 : Int) (6 : Int)); bif lenOK Z0 then bif decide ((612 : Int) < (↑Z0 : Int)) then Z2 else bif sizeOK Z0 (1 : Nat) then bif decide (List.length Z3 ≤ (1000000 : Nat)) then bif (bif Option.isNone (openL Z3) then (50 : Int) else (0 : Int)) != (0 : Int) then Z2 else bif lenOK Z5 then bif decide ((↑Z5 : Int) < (8 : Int)) then Z2 else bif decide (Z5 ≤ (1000000000000 : Nat)) then bif decide ((0 : Int) ≤ (8 : Int) ∧ (8 : Int) ≤ (↑Z5 : Int)) then bif decide (List.length Z6 ≤ (1000000 : Nat)) then bif (bif okF Z7 Z6 then (0 : Int) else (2 : Int)) != (0 : Int) then Z2 else bif !(bif okF Z7 Z6 then frameB Z7 Z6 else []) == b then Z2 else some (D.tup (D.acons (D.int .i64 Z7) (.acons (D.str (List.drop (8 : Nat) Z4)) (.acons Z1 .anil)))) else none else none else none else none else none else none else none) := by kernel_rfl
theorem r4Read_ok (b : List UInt8) (h : (decide (b.length ≤ 1000000)) = true) : r4Read_e b = some (.tup (.acons (.int .i64 (frN b)) (.acons (.str (frL b)) (.acons (.int .i64 (bif (readF b).isNone then 50 else 0)) .anil)))) := by
  (rw [r4Read_eq]; conv => zeta)
  have hl := of_decide_eq_true h
  have lb : lenOK b.length = true := lenOK_of (by omega)
  have hs : sizeOK b.length 1 = true := sizeT (by omega)
  have no : readF b = none → some (D.tup (.acons (.int .i64 0) (.acons (.str []) (.acons (.int .i64 50) .anil)))) = some (.tup (.acons (.int .i64 (frN b)) (.acons (.str (frL b)) (.acons (.int .i64 (bif (readF b).isNone then 50 else 0)) .anil))) : D RC) := fun e => by simp only [frN, frL, e]; rfl
  have big : readF b = none ∨ ∃ p, readF b = some p ∧ okF p.1 p.2 = true ∧ frameB p.1 p.2 = b := by
    cases hr : readF b with
    | none => exact .inl rfl
    | some p => exact .inr ⟨p, rfl, readF_ok (n := p.1) (load := p.2) hr⟩
  refine cond_of lb (cond_two (fun e => no ?_) fun e => ?_)
  · rcases big with q | ⟨p, q1, q2, q3⟩
    · exact q
    · have := congrArg List.length q3
      rw [frameB_len] at this
      simp only [okF, Bool.and_eq_true, decide_eq_true_eq] at q2 e
      omega
  refine cond_of hs (cond_of h ?_)
  cases hq : openL b with
  | none => exact cond_of rfl (no (by simp [readF, hq]))
  | some x =>
    have hx := openL_len hq
    have hr : readF b = if 8 ≤ x.length ∧ leVal ((x.drop 6).take 2) + 8 = x.length ∧ x.length ≤ 608 ∧ 1 ≤ leVal (x.take 6) ∧ leVal (x.take 6) ≤ 1048575 then some ((leVal (x.take 6) : Int), x.drop 8) else none := by simp only [readF, hq]
    refine cond_no rfl ?_
    simp only [Option.getD_some]
    refine cond_of (lenOK_of (by omega)) (cond_two (fun e => no (by rw [hr, if_neg (by simp only [decide_eq_true_eq] at e; omega)])) fun e8 => ?_)
    simp only [decide_eq_false_iff_not] at e8
    have g6 : getP x 0 6 = ((leVal (x.take 6) : Int), 0) := getP_in (by omega) (by omega) (by omega) (by omega)
    refine cond_of (decide_eq_true (by omega)) (cond_of (decide_eq_true (by omega)) (cond_of (decide_eq_true (by simp; omega)) ?_))
    simp only [g6]
    cases ho : okF (leVal (x.take 6) : Int) (x.drop 8)
    · refine cond_of rfl (no ?_)
      rcases big with q | ⟨p, q1, q2, q3⟩
      · exact q
      · rw [hr] at q1
        split at q1
        · cases q1; rw [ho] at q2; cases q2
        · cases q1
    refine cond_no rfl ?_
    simp only [cond_true]
    by_cases hb : frameB (leVal (x.take 6) : Int) (x.drop 8) = b
    · have hr2 : readF b = some ((leVal (x.take 6) : Int), x.drop 8) := by rw [← hb]; exact readF_frame ho
      refine cond_no (by rw [hb]; simp) ?_
      simp only [frN, frL, hr2]; rfl
    · refine cond_of (by simpa using hb) (no ?_)
      rcases big with q | ⟨p, q1, q2, q3⟩
      · exact q
      · rw [hr] at q1
        split at q1
        · cases q1; exact absurd q3 hb
        · cases q1
noncomputable def uy_2 := uy_1.addSpec 43 r4Read_sp
theorem uy_2_laws : FLaws Try.prog s07 uy_2 := uy_1_laws.addEv s07_laws fun args d h => by
  unfold r4Read_sp at h
  split at h
  · unfold r4Read_s at h
    have h1 := congrArg Prod.fst (Option.some.inj h)
    obtain rfl : _ = d := congrArg Prod.snd (Option.some.inj h)
    exact ⟨by simp [D.refs], 60, r4Read_ok _ h1⟩
  · cases h
def getR3_s (c : Bool) (now : List Sector) (d : Bool) (sure : List Sector) (k : Int) : Option (Bool × D RC) := some (goodL now && goodL sure, .tup (.acons (.acons (.int .i64 (getS now sure k).n) (.acons (.str (getS now sure k).b) .anil)) (.acons (.int .i64 (bif okGet now sure k then 0 else 2)) .anil)))
def getR3_sp : List (D RC) → Option (Bool × D RC)
  | [.acons (.sl .sector c now) (.acons (.sl .sector d sure) .anil), .int .i64 k] => getR3_s c now d sure k
  | _ => none
noncomputable def getR3_e (c : Bool) (now : List Sector) (d : Bool) (sure : List Sector) (k : Int) := evF s07 uy_2 40 42 [.acons (.sl (C := RC) .sector c now) (.acons (.sl (C := RC) .sector d sure) .anil), .int .i64 k]
theorem getR3_eq (c : Bool) (now : List Sector) (d : Bool) (sure : List Sector) (k : Int) : getR3_e c now d sure k = (let Z0 : D RC := D.int .i64 0; let Z1 : DO_ := some (D.tup (D.acons (D.acons Z0 (D.acons (D.str []) .anil)) (.acons (D.int .i64 2) .anil))); let Z2 : Sector := List.getD now k.toNat (Sector.mk (0 : Int) []); bif goodL now && goodL sure then bif (bif diskOK now sure then (0 : Int) else (2 : Int)) != (0 : Int) then Z1 else bif decide (k < (0 : Int)) then Z1 else bif decide ((33 : Int) ≤ k) then Z1 else bif decide ((0 : Int) ≤ k ∧ k < (↑now.length : Int)) then some (D.tup (D.acons (D.acons (D.int .i64 (Sector.n Z2)) (.acons (D.str (Sector.b Z2)) .anil)) (.acons Z0 .anil))) else none else none) := by kernel_rfl
theorem getR3_ok (c : Bool) (now : List Sector) (d : Bool) (sure : List Sector) (k : Int) (h : (goodL now && goodL sure) = true) : getR3_e c now d sure k = some (.tup (.acons (.acons (.int .i64 (getS now sure k).n) (.acons (.str (getS now sure k).b) .anil)) (.acons (.int .i64 (bif okGet now sure k then 0 else 2)) .anil))) := by
  (rw [getR3_eq]; conv => zeta)
  have hgg := h
  rw [Bool.and_eq_true] at h
  obtain ⟨hg, hgs⟩ := h
  have no : okGet now sure k = false → some (D.tup (.acons (.acons (.int .i64 0) (.acons (.str []) .anil)) (.acons (.int .i64 2) .anil))) = some (.tup (.acons (.acons (.int .i64 (getS now sure k).n) (.acons (.str (getS now sure k).b) .anil)) (.acons (.int .i64 (bif okGet now sure k then 0 else 2)) .anil)) : D RC) := fun e => by simp only [getS, e]; rfl
  refine cond_of hgg ?_
  cases hd : diskOK now sure
  · exact cond_of rfl (no (by simp [okGet, hd]))
  obtain ⟨l1, l2⟩ := diskOK_len hd
  refine cond_no rfl (cond_two (fun e => no (by simp only [decide_eq_true_eq] at e; simp [okGet]; omega)) fun e1 => ?_)
  refine (cond_two (fun e => no (by simp only [decide_eq_true_eq] at e; simp [okGet]; omega)) fun e2 => ?_)
  simp only [decide_eq_false_iff_not] at e1 e2
  have ok : okGet now sure k = true := by simp [okGet, hd]; omega
  rw [ok]
  simp only [getS, ok, cond_true, sec0]
  repeat (refine cond_of (by first | assumption | exact lenOK_of (by omega) | exact sizeT (by omega) | (simp; done) | (simp; omega) | (simp [sizeOK]; omega)) ?_)
  rfl
noncomputable def uy_3 := uy_2.addSpec 42 getR3_sp
theorem uy_3_laws : FLaws Try.prog s07 uy_3 := uy_2_laws.addEv s07_laws fun args d h => by
  unfold getR3_sp at h
  split at h
  · unfold getR3_s at h
    have h1 := congrArg Prod.fst (Option.some.inj h)
    obtain rfl : _ = d := congrArg Prod.snd (Option.some.inj h)
    exact ⟨by simp [D.refs], 40, getR3_ok _ _ _ _ _ h1⟩
  · cases h
open Go.Proofs
def r7Load_s (n : Int) (p : Int) (ci : Bool) (items : List Item) (k0 : Bool) (k1 : Bool) (k2 : Bool) (l0 : List Line) (l1 : List Line) (l2 : List Line) (c0 : Int) (c1 : Int) (c2 : Int) : Option (Bool × D RC) := some (decide (items.length ≤ 9223372036854775807 ∧ l0.length ≤ 9223372036854775807 ∧ l1.length ≤ 9223372036854775807 ∧ l2.length ≤ 9223372036854775807), .tup (.acons (.str (ckB n ⟨p, items, l0, l1, l2, c0, c1, c2⟩)) (.acons (.int .i64 (bif okCk n ⟨p, items, l0, l1, l2, c0, c1, c2⟩ then 0 else 2)) .anil)))
def r7Load_sp : List (D RC) → Option (Bool × D RC)
  | [.int .i64 n, .acons (.int .i64 p) (.acons (.sl .item ci items) (.acons (.acons (.sl .line k0 l0) (.acons (.sl .line k1 l1) (.acons (.sl .line k2 l2) .anil))) (.acons (.arr .int 3 [c0, c1, c2]) .anil)))] => r7Load_s n p ci items k0 k1 k2 l0 l1 l2 c0 c1 c2
  | _ => none
noncomputable def r7Load_e (n : Int) (p : Int) (ci : Bool) (items : List Item) (k0 : Bool) (k1 : Bool) (k2 : Bool) (l0 : List Line) (l1 : List Line) (l2 : List Line) (c0 : Int) (c1 : Int) (c2 : Int) := evF s07 uy_3 40 21 [.int .i64 n, .acons (.int .i64 p) (.acons (.sl (C := RC) .item ci items) (.acons (.acons (.sl (C := RC) .line k0 l0) (.acons (.sl (C := RC) .line k1 l1) (.acons (.sl (C := RC) .line k2 l2) .anil))) (.acons (.arr (C := RC) .int 3 [c0, c1, c2]) .anil)))]
theorem r7Load_eq (n : Int) (p : Int) (ci : Bool) (items : List Item) (k0 : Bool) (k1 : Bool) (k2 : Bool) (l0 : List Line) (l1 : List Line) (l2 : List Line) (c0 : Int) (c1 : Int) (c2 : Int) : r7Load_e n p ci items k0 k1 k2 l0 l1 l2 c0 c1 c2 = (let Z0 : D RC := D.str (Array.toList #[]); let Z1 : DO_ := some (D.tup (D.acons Z0 (D.acons (D.int .i64 2) .anil))); let Z2 : St := St.mk p items l0 l1 l2 c0 c1 c2; let Z3 : Int := bif standsOK Z2 then (0 : Int) else (2 : Int); let Z4 : List (RA RTy.u8) := (fun (l : List (RA RTy.u8)) => l) (bif standsOK Z2 then stBytes Z2 else []); bif decide (n < (1 : Int)) then Z1 else bif decide ((1048575 : Int) < n) then Z1 else bif decide (n < p) then Z1 else bif decide (List.length items ≤ (9223372036854775807 : Nat) ∧ List.length l0 ≤ (9223372036854775807 : Nat) ∧ List.length l1 ≤ (9223372036854775807 : Nat) ∧ List.length l2 ≤ (9223372036854775807 : Nat)) then bif Z3 != (0 : Int) then some (D.tup (D.acons Z0 (D.acons (D.int .i64 Z3) .anil))) else bif decide (List.length Z4 ≤ (1000000 : Nat)) then some (D.tup (D.acons (D.str (bif okF n Z4 then frameB n Z4 else [])) (.acons (D.int .i64 (bif okF n Z4 then (0 : Int) else (2 : Int))) .anil))) else none else none) := by kernel_rfl
theorem r7Load_ok (n : Int) (p : Int) (ci : Bool) (items : List Item) (k0 : Bool) (k1 : Bool) (k2 : Bool) (l0 : List Line) (l1 : List Line) (l2 : List Line) (c0 : Int) (c1 : Int) (c2 : Int) (h : (decide (items.length ≤ 9223372036854775807 ∧ l0.length ≤ 9223372036854775807 ∧ l1.length ≤ 9223372036854775807 ∧ l2.length ≤ 9223372036854775807)) = true) : r7Load_e n p ci items k0 k1 k2 l0 l1 l2 c0 c1 c2 = some (.tup (.acons (.str (ckB n ⟨p, items, l0, l1, l2, c0, c1, c2⟩)) (.acons (.int .i64 (bif okCk n ⟨p, items, l0, l1, l2, c0, c1, c2⟩ then 0 else 2)) .anil))) := by
  (rw [r7Load_eq]; conv => zeta)
  generalize hs : (⟨p, items, l0, l1, l2, c0, c1, c2⟩ : St) = s
  have hp : s.place = p := by rw [← hs]
  have no : okCk n s = false → some (D.tup (.acons (.str []) (.acons (.int .i64 2) .anil))) = some (.tup (.acons (.str (ckB n s)) (.acons (.int .i64 (bif okCk n s then 0 else 2)) .anil)) : D RC) := fun e => by simp only [ckB, e]; rfl
  refine cond_two (fun e => no (okCk_not fun f => by simp only [decide_eq_true_eq] at e; omega)) fun e1 => ?_
  refine cond_two (fun e => no (okCk_not fun f => by simp only [decide_eq_true_eq] at e; omega)) fun e2 => ?_
  refine cond_two (fun e => no (okCk_not fun f => by simp only [decide_eq_true_eq] at e; omega)) fun e3 => ?_
  refine cond_of h ?_
  cases hst : standsOK s
  · exact cond_of rfl (no (okCk_not fun f => by rw [hst] at f; cases f.2.2.2))
  simp only [decide_eq_false_iff_not] at e1 e2 e3
  have ok : okCk n s = true := by simp only [okCk, Bool.and_eq_true, decide_eq_true_eq]; exact ⟨⟨⟨by omega, by omega⟩, by omega⟩, hst⟩
  have oF := okCk_F ok
  have hl := stBytes_len hst
  refine cond_no rfl ?_
  simp only [cond_true]
  refine cond_of (by simp; omega) ?_
  rw [oF]
  simp only [ckB, ok, cond_true]
noncomputable def uz_1 := uy_3.addSpec 21 r7Load_sp
theorem uz_1_laws : FLaws Try.prog s07 uz_1 := uy_3_laws.addEv s07_laws fun args d h => by
  unfold r7Load_sp at h
  split at h
  · unfold r7Load_s at h
    have h1 := congrArg Prod.fst (Option.some.inj h)
    obtain rfl : _ = d := congrArg Prod.snd (Option.some.inj h)
    exact ⟨by simp [D.refs], 40, r7Load_ok _ _ _ _ _ _ _ _ _ _ _ _ _ h1⟩
  · cases h
def r7Read_s (c : Bool) (now : List Sector) (d : Bool) (sure : List Sector) : Option (Bool × D RC) := some (goodL now && goodL sure, .tup (.acons (.int .i64 (numC now sure)) (.acons (.acons (.int .i64 (stG (stOf now sure)).place) (.acons (.sl (C := RC) .item (stOf now sure).isNone (stG (stOf now sure)).items) (.acons (.acons (.sl (C := RC) .line (stOf now sure).isNone (stG (stOf now sure)).l0) (.acons (.sl (C := RC) .line (stOf now sure).isNone (stG (stOf now sure)).l1) (.acons (.sl (C := RC) .line (stOf now sure).isNone (stG (stOf now sure)).l2) .anil))) (.acons (.arr (C := RC) .int 3 [(stG (stOf now sure)).c0, (stG (stOf now sure)).c1, (stG (stOf now sure)).c2]) .anil)))) (.acons (.int .i64 (errC now sure)) .anil))))
def r7Read_sp : List (D RC) → Option (Bool × D RC)
  | [.acons (.sl .sector c now) (.acons (.sl .sector d sure) .anil)] => r7Read_s c now d sure
  | _ => none
noncomputable def r7Read_e (c : Bool) (now : List Sector) (d : Bool) (sure : List Sector) := evF s07 uz_1 40 24 [.acons (.sl (C := RC) .sector c now) (.acons (.sl (C := RC) .sector d sure) .anil)]
theorem r7Read_eq (c : Bool) (now : List Sector) (d : Bool) (sure : List Sector) : r7Read_e c now d sure = (let Z0 : Int := bif okGet now sure (32 : Int) then (0 : Int) else (2 : Int); let Z1 : D RC := D.int .i64 0; let Z2 : D RC := D.sl RTy.line true []; let Z3 : D RC := .anil; let Z4 : D RC := D.acons Z1 (D.acons (D.sl RTy.item true []) (.acons (D.acons Z2 (D.acons Z2 (D.acons Z2 Z3))) (.acons (D.arr RTy.int (3 : Nat) (List.replicate (3 : Nat) (0 : Int))) Z3))); let Z5 : Sector := getS now sure (32 : Int); let Z6 : List UInt8 := Sector.b Z5; let Z7 : DO_ := some (D.tup (D.acons Z1 (D.acons Z4 (D.acons (D.int .i64 50) Z3)))); let Z8 : List UInt8 := (fun (l : List UInt8) => l) (frL Z6); let Z9 : Bool := Option.isNone (readS Z8); let Z10 : St := stG (readS Z8); bif goodL now && goodL sure then bif Z0 != (0 : Int) then some (D.tup (D.acons Z1 (D.acons Z4 (D.acons (D.int .i64 Z0) Z3)))) else bif Sector.n Z5 == (0 : Int) then some (D.tup (D.acons Z1 (D.acons Z4 (D.acons (D.int .i64 60) Z3)))) else bif decide (List.length Z6 ≤ (1000000 : Nat)) then bif (bif Option.isNone (readF Z6) then (50 : Int) else (0 : Int)) != (0 : Int) then Z7 else bif frN Z6 != Sector.n Z5 then Z7 else bif sizeOK (frL Z6).length (1 : Nat) then bif decide (List.length Z8 ≤ (1000000 : Nat)) then bif (bif Z9 then (50 : Int) else (0 : Int)) != (0 : Int) then Z7 else bif decide (frN Z6 < St.place Z10) then Z7 else some (D.tup (D.acons (D.int .i64 (frN Z6)) (.acons (D.acons (D.int .i64 Z10.place) (.acons (D.sl RTy.item Z9 Z10.items) (.acons (D.acons (D.sl RTy.line Z9 Z10.l0) (.acons (D.sl RTy.line Z9 Z10.l1) (.acons (D.sl RTy.line Z9 Z10.l2) Z3))) (.acons (D.arr RTy.int (3 : Nat) [St.c0 Z10, St.c1 Z10, St.c2 Z10]) Z3)))) (.acons Z1 Z3)))) else none else none else none else none) := by kernel_rfl
theorem r7Read_ok (c : Bool) (now : List Sector) (d : Bool) (sure : List Sector) (h : (goodL now && goodL sure) = true) : r7Read_e c now d sure = some (.tup (.acons (.int .i64 (numC now sure)) (.acons (.acons (.int .i64 (stG (stOf now sure)).place) (.acons (.sl (C := RC) .item (stOf now sure).isNone (stG (stOf now sure)).items) (.acons (.acons (.sl (C := RC) .line (stOf now sure).isNone (stG (stOf now sure)).l0) (.acons (.sl (C := RC) .line (stOf now sure).isNone (stG (stOf now sure)).l1) (.acons (.sl (C := RC) .line (stOf now sure).isNone (stG (stOf now sure)).l2) .anil))) (.acons (.arr (C := RC) .int 3 [(stG (stOf now sure)).c0, (stG (stOf now sure)).c1, (stG (stOf now sure)).c2]) .anil)))) (.acons (.int .i64 (errC now sure)) .anil)))) := by
  (rw [r7Read_eq]; conv => zeta)
  refine cond_of h ?_
  have no : ∀ e : Int, stOf now sure = none → errC now sure = e → some (D.tup (.acons (.int .i64 0) (.acons (.acons (.int .i64 0) (.acons (.sl (C := RC) .item true []) (.acons (.acons (.sl (C := RC) .line true []) (.acons (.sl (C := RC) .line true []) (.acons (.sl (C := RC) .line true []) .anil))) (.acons (.arr (C := RC) .int 3 (List.replicate 3 0)) .anil)))) (.acons (.int .i64 e) .anil)))) = some (.tup (.acons (.int .i64 (numC now sure)) (.acons (.acons (.int .i64 (stG (stOf now sure)).place) (.acons (.sl (C := RC) .item (stOf now sure).isNone (stG (stOf now sure)).items) (.acons (.acons (.sl (C := RC) .line (stOf now sure).isNone (stG (stOf now sure)).l0) (.acons (.sl (C := RC) .line (stOf now sure).isNone (stG (stOf now sure)).l1) (.acons (.sl (C := RC) .line (stOf now sure).isNone (stG (stOf now sure)).l2) .anil))) (.acons (.arr (C := RC) .int 3 [(stG (stOf now sure)).c0, (stG (stOf now sure)).c1, (stG (stOf now sure)).c2]) .anil)))) (.acons (.int .i64 (errC now sure)) .anil)))) := fun e h1 h2 => by simp only [numC, h1, h2]; rfl
  cases hk : okGet now sure 32
  · exact cond_of rfl (no 2 (by simp [stOf, hk]) (by simp [errC, hk]))
  refine cond_no rfl ?_
  have hn := getS_len now sure 32
  generalize hs : getS now sure 32 = s at hn ⊢
  obtain ⟨n, b⟩ := s
  have hf := ofF_len ⟨n, b⟩
  dsimp only at hn hf ⊢
  refine cond_two (fun e => no 60 (by simp [stOf, hk, hs, e]) (by simp [errC, hk, hs, e])) fun e0 => ?_
  refine cond_of (by simp; omega) ?_
  have hc : readF b = none ∨ ∃ m l, readF b = some (m, l) := by
    cases readF b with
    | none => exact .inl rfl
    | some p => exact .inr ⟨p.1, p.2, rfl⟩
  rcases hc with hq | ⟨m, l, hq⟩
  · exact cond_of (by rw [hq]; rfl) (no 50 (by simp [stOf, hk, hs, e0, ckAt, ofF, hq]) (by simp [errC, hk, hs, e0, ckAt, ofF, hq]))
  have q1 : frN b = m := by simp [frN, hq]
  have q2 : frL b = l := by simp [frL, hq]
  refine cond_no (by rw [hq]; rfl) ?_
  simp only [q1, q2]
  by_cases hm : m = n
  case neg => exact cond_of (by simpa [bne] using hm) (no 50 (by simp [stOf, hk, hs, e0, ckAt, ofF, hq, hm]) (by simp [errC, hk, hs, e0, ckAt, ofF, hq, hm]))
  subst hm
  have ho : ofF ⟨m, b⟩ = some l := by simp [ofF, hq]
  rw [ho] at hf
  simp only [Option.getD_some] at hf
  refine cond_no (by simp [bne]) (cond_of (sizeT (by omega)) (cond_of (by simp; omega) ?_))
  have hc : readS l = none ∨ ∃ st, readS l = some st := by cases readS l <;> simp
  rcases hc with hr | ⟨st, hr⟩
  · exact cond_of (by rw [hr]; rfl) (no 50 (by simp [stOf, hk, hs, e0, ckAt, ho, hr]) (by simp [errC, hk, hs, e0, ckAt, ho, hr]))
  · refine cond_no (by rw [hr]; rfl) ?_
    by_cases hp : st.place ≤ m
    · refine cond_no (by simp [hr, stG]; omega) ?_
      have e1 : stOf now sure = some st := by simp [stOf, hk, hs, e0, ckAt, ho, hr, hp]
      have e2 : errC now sure = 0 := by simp [errC, hk, hs, e0, ckAt, ho, hr, hp]
      have e3 : numC now sure = m := by simp [numC, e1, hs]
      simp only [e1, e2, e3, hr]
    · exact cond_of (by simp [hr, stG]; omega) (no 50 (by simp [stOf, hk, hs, e0, ckAt, ho, hr, hp]) (by simp [errC, hk, hs, e0, ckAt, ho, hr, hp]))
noncomputable def uz_2 := uz_1.addSpec 24 r7Read_sp
theorem uz_2_laws : FLaws Try.prog s07 uz_2 := uz_1_laws.addEv s07_laws fun args d h => by
  unfold r7Read_sp at h
  split at h
  · unfold r7Read_s at h
    have h1 := congrArg Prod.fst (Option.some.inj h)
    obtain rfl : _ = d := congrArg Prod.snd (Option.some.inj h)
    exact ⟨by simp [D.refs], 40, r7Read_ok _ _ _ _ h1⟩
  · cases h
def r7Put_s (c : Bool) (now : List Sector) (d : Bool) (sure : List Sector) (n : Int) (p : Int) (ci : Bool) (items : List Item) (k0 : Bool) (k1 : Bool) (k2 : Bool) (l0 : List Line) (l1 : List Line) (l2 : List Line) (c0 : Int) (c1 : Int) (c2 : Int) : Option (Bool × D RC) := some (goodL now && goodL sure && decide (items.length ≤ 9223372036854775807 ∧ l0.length ≤ 9223372036854775807 ∧ l1.length ≤ 9223372036854775807 ∧ l2.length ≤ 9223372036854775807), .tup (.acons (.acons (.sl (C := RC) .sector (!okPut now sure 32 n (ckB n ⟨p, items, l0, l1, l2, c0, c1, c2⟩)) (pNow now sure 32 n (ckB n ⟨p, items, l0, l1, l2, c0, c1, c2⟩))) (.acons (.sl (C := RC) .sector (!okPut now sure 32 n (ckB n ⟨p, items, l0, l1, l2, c0, c1, c2⟩)) (pSure now sure 32 n (ckB n ⟨p, items, l0, l1, l2, c0, c1, c2⟩))) .anil)) (.acons (.int .i64 (bif okPut now sure 32 n (ckB n ⟨p, items, l0, l1, l2, c0, c1, c2⟩) then 0 else 2)) .anil)))
def r7Put_sp : List (D RC) → Option (Bool × D RC)
  | [.acons (.sl .sector c now) (.acons (.sl .sector d sure) .anil), .int .i64 n, .acons (.int .i64 p) (.acons (.sl .item ci items) (.acons (.acons (.sl .line k0 l0) (.acons (.sl .line k1 l1) (.acons (.sl .line k2 l2) .anil))) (.acons (.arr .int 3 [c0, c1, c2]) .anil)))] => r7Put_s c now d sure n p ci items k0 k1 k2 l0 l1 l2 c0 c1 c2
  | _ => none
noncomputable def r7Put_e (c : Bool) (now : List Sector) (d : Bool) (sure : List Sector) (n : Int) (p : Int) (ci : Bool) (items : List Item) (k0 : Bool) (k1 : Bool) (k2 : Bool) (l0 : List Line) (l1 : List Line) (l2 : List Line) (c0 : Int) (c1 : Int) (c2 : Int) := evF s07 uz_2 40 25 [.acons (.sl (C := RC) .sector c now) (.acons (.sl (C := RC) .sector d sure) .anil), .int .i64 n, .acons (.int .i64 p) (.acons (.sl (C := RC) .item ci items) (.acons (.acons (.sl (C := RC) .line k0 l0) (.acons (.sl (C := RC) .line k1 l1) (.acons (.sl (C := RC) .line k2 l2) .anil))) (.acons (.arr (C := RC) .int 3 [c0, c1, c2]) .anil)))]
theorem r7Put_eq (c : Bool) (now : List Sector) (d : Bool) (sure : List Sector) (n : Int) (p : Int) (ci : Bool) (items : List Item) (k0 : Bool) (k1 : Bool) (k2 : Bool) (l0 : List Line) (l1 : List Line) (l2 : List Line) (c0 : Int) (c1 : Int) (c2 : Int) : r7Put_e c now d sure n p ci items k0 k1 k2 l0 l1 l2 c0 c1 c2 = (let Z0 : Bool := goodL now && goodL sure; let Z1 : D RC := D.sl RTy.sector true []; let Z2 : D RC := .anil; let Z3 : D RC := D.acons Z1 (D.acons Z1 Z2); let Z4 : St := St.mk p items l0 l1 l2 c0 c1 c2; let Z5 : Int := bif okCk n Z4 then (0 : Int) else (2 : Int); let Z6 : Bool := okPut now sure (32 : Int) n (ckB n Z4); bif Z0 then bif (bif diskOK now sure then (0 : Int) else (2 : Int)) != (0 : Int) then some (D.tup (D.acons Z3 (D.acons (D.int .i64 2) Z2))) else bif decide (List.length items ≤ (9223372036854775807 : Nat) ∧ List.length l0 ≤ (9223372036854775807 : Nat) ∧ List.length l1 ≤ (9223372036854775807 : Nat) ∧ List.length l2 ≤ (9223372036854775807 : Nat)) then bif Z5 != (0 : Int) then some (D.tup (D.acons Z3 (D.acons (D.int .i64 Z5) Z2))) else bif Z0 && lenOK (ckB n Z4).length then some (D.tup (D.acons (D.acons (D.sl RTy.sector (!Z6) (pNow now sure (32 : Int) n (ckB n Z4))) (.acons (D.sl RTy.sector (!Z6) (pSure now sure (32 : Int) n (ckB n Z4))) Z2)) (.acons (D.int .i64 (bif Z6 then (0 : Int) else (2 : Int))) Z2))) else none else none else none) := by kernel_rfl
theorem r7Put_ok (c : Bool) (now : List Sector) (d : Bool) (sure : List Sector) (n : Int) (p : Int) (ci : Bool) (items : List Item) (k0 : Bool) (k1 : Bool) (k2 : Bool) (l0 : List Line) (l1 : List Line) (l2 : List Line) (c0 : Int) (c1 : Int) (c2 : Int) (h : (goodL now && goodL sure && decide (items.length ≤ 9223372036854775807 ∧ l0.length ≤ 9223372036854775807 ∧ l1.length ≤ 9223372036854775807 ∧ l2.length ≤ 9223372036854775807)) = true) : r7Put_e c now d sure n p ci items k0 k1 k2 l0 l1 l2 c0 c1 c2 = some (.tup (.acons (.acons (.sl (C := RC) .sector (!okPut now sure 32 n (ckB n ⟨p, items, l0, l1, l2, c0, c1, c2⟩)) (pNow now sure 32 n (ckB n ⟨p, items, l0, l1, l2, c0, c1, c2⟩))) (.acons (.sl (C := RC) .sector (!okPut now sure 32 n (ckB n ⟨p, items, l0, l1, l2, c0, c1, c2⟩)) (pSure now sure 32 n (ckB n ⟨p, items, l0, l1, l2, c0, c1, c2⟩))) .anil)) (.acons (.int .i64 (bif okPut now sure 32 n (ckB n ⟨p, items, l0, l1, l2, c0, c1, c2⟩) then 0 else 2)) .anil))) := by
  (rw [r7Put_eq]; conv => zeta)
  generalize hs : (⟨p, items, l0, l1, l2, c0, c1, c2⟩ : St) = s
  rw [Bool.and_eq_true, Bool.and_eq_true] at h
  obtain ⟨⟨hg, hgs⟩, hl⟩ := h
  have no : okPut now sure 32 n (ckB n s) = false → some (D.tup (.acons (.acons (.sl (C := RC) .sector true []) (.acons (.sl (C := RC) .sector true []) .anil)) (.acons (.int .i64 2) .anil))) = some (.tup (.acons (.acons (.sl (C := RC) .sector (!okPut now sure 32 n (ckB n s)) (pNow now sure 32 n (ckB n s))) (.acons (.sl (C := RC) .sector (!okPut now sure 32 n (ckB n s)) (pSure now sure 32 n (ckB n s))) .anil)) (.acons (.int .i64 (bif okPut now sure 32 n (ckB n s) then 0 else 2)) .anil))) := fun e => by simp only [e, pNow, pSure]; rfl
  have hlb : lenOK (ckB n s).length = true := lenOK_of (by have := @ckB_len n s; omega)
  have hall : (goodL now && goodL sure && lenOK (ckB n s).length) = true := by rw [hg, hgs, hlb]; rfl
  refine cond_of (by rw [hg, hgs]; rfl) ?_
  cases hd : diskOK now sure
  · exact cond_of rfl (no (okPut_not fun f => by rw [hd] at f; cases f.1))
  refine cond_no rfl (cond_of hl ?_)
  cases hk : okCk n s
  · exact cond_of rfl (no (okPut_not fun f => f.2.2.2.2.1 (by simp [ckB, hk])))
  · exact cond_no rfl (cond_of hall rfl)
noncomputable def uz_3 := uz_2.addSpec 25 r7Put_sp
theorem uz_3_laws : FLaws Try.prog s07 uz_3 := uz_2_laws.addEv s07_laws fun args d h => by
  unfold r7Put_sp at h
  split at h
  · unfold r7Put_s at h
    have h1 := congrArg Prod.fst (Option.some.inj h)
    obtain rfl : _ = d := congrArg Prod.snd (Option.some.inj h)
    exact ⟨by simp [D.refs], 40, r7Put_ok _ _ _ _ _ _ _ _ _ _ _ _ _ _ _ _ _ h1⟩
  · cases h
theorem rowOK_all {l : List Sector} (h : rowOK l = true) : ∀ s ∈ l, maySec s = true := by
  simp only [rowOK, Bool.and_eq_true] at h
  exact List.all_eq_true.1 h.2
theorem rowOK_of {l : List Sector} (h1 : l.length = 33) (h2 : ∀ s ∈ l, maySec s = true) : rowOK l = true := by
  simp only [rowOK, Bool.and_eq_true, decide_eq_true_eq]
  exact ⟨h1, List.all_eq_true.2 h2⟩
theorem rowOK_good {l : List Sector} (h : rowOK l = true) : goodL l = true := by
  have h1 := rowOK_len h
  rw [goodL_iff]
  refine ⟨by omega, fun s hs => lenOK_of ?_⟩
  have := rowOK_all h s hs
  simp only [maySec, Bool.and_eq_true, decide_eq_true_eq] at this
  omega
theorem diskOK_parts {now sure : List Sector} (h : diskOK now sure = true) : rowOK now = true ∧ rowOK sure = true ∧ lowAt now sure 0 = true := by
  simp only [diskOK, Bool.and_eq_true] at h; exact ⟨h.1.1, h.1.2, h.2⟩
theorem low_iff {now sure : List Sector} (hl : now.length = sure.length) : lowAt now sure 0 = true ↔ ∀ i, i < now.length → (sure.getD i sec0).n ≤ (now.getD i sec0).n := by
  unfold lowAt
  rw [List.drop_zero, List.all_eq_true]
  constructor
  · intro h i hi
    have hz : i < (now.zip sure).length := by simp; omega
    have h3 := h _ (List.getElem_mem hz)
    simp only [List.getElem_zip, decide_eq_true_eq] at h3
    have hi2 : i < sure.length := by omega
    simpa [hi, hi2] using h3
  · intro h p hp
    obtain ⟨i, hi, rfl⟩ := List.getElem_of_mem hp
    have h1 : i < now.length := by simp at hi; omega
    have h2 : i < sure.length := by omega
    have := h i h1
    simp only [List.getElem_zip, decide_eq_true_eq]
    simpa [h1, h2] using this
theorem diskOK_good {now sure : List Sector} (h : diskOK now sure = true) : goodL now = true ∧ goodL sure = true :=
  ⟨rowOK_good (diskOK_parts h).1, rowOK_good (diskOK_parts h).2.1⟩
theorem putNow_mem {now : List Sector} {k : Nat} {n : Int} {b : List UInt8} {s : Sector} (h : s ∈ putNow now k n b) : s ∈ now ∨ s = ⟨n, b⟩ := by
  unfold putNow at h
  split at h
  · exact List.mem_or_eq_of_mem_set h
  · exact .inl h
theorem putNow_at {now : List Sector} {k : Nat} {n : Int} {b : List UInt8} (hk : k < now.length) (j : Nat) : (putNow now k n b).getD j sec0 = if j = k ∧ (now.getD k sec0).n < n then ⟨n, b⟩ else now.getD j sec0 := by
  unfold putNow
  by_cases h : (now.getD k sec0).n < n
  · rw [if_pos h]
    by_cases hj : j = k
    · subst hj
      rw [if_pos ⟨rfl, h⟩]
      simp [hk]
    · rw [if_neg (fun q => hj q.1)]
      simp only [List.getD_eq_getElem?_getD]
      rw [List.getElem?_set_ne (fun q => hj q.symm)]
  · rw [if_neg h, if_neg (fun q => h q.2)]
theorem okPut_disk {now sure : List Sector} {k n : Int} {b : List UInt8} (h : okPut now sure k n b = true) : diskOK (pNow now sure k n b) (pSure now sure k n b) = true := by
  obtain ⟨hd, h0, h1, h2, h3, h4⟩ := okPut_facts h
  obtain ⟨d1, d2, d3⟩ := diskOK_parts hd
  obtain ⟨l1, l2⟩ := diskOK_len hd
  simp only [pNow, pSure, h, cond_true, diskOK, Bool.and_eq_true]
  have hk : k.toNat < now.length := by omega
  refine ⟨⟨rowOK_of (by rw [putNow_len]; exact l1) fun s hs => ?_, d2⟩, ?_⟩
  · rcases putNow_mem hs with q | rfl
    · exact rowOK_all d1 s q
    · exact h4
  · rw [low_iff (by rw [putNow_len]; omega)]
    intro i hi
    rw [putNow_len] at hi
    have := (low_iff (by omega)).1 d3 i hi
    rw [putNow_at hk]
    split
    · rename_i q
      obtain ⟨rfl, q⟩ := q
      have h5 : (sure.getD k.toNat sec0).n ≤ (now.getD k.toNat sec0).n := this
      show (sure.getD k.toNat sec0).n ≤ n
      omega
    · exact this
theorem pNow_good (now sure : List Sector) (k n : Int) (b : List UInt8) : goodL (pNow now sure k n b) = true ∧ goodL (pSure now sure k n b) = true := by
  cases h : okPut now sure k n b
  · simp only [pNow, pSure, h, cond_false]; exact ⟨rfl, rfl⟩
  · exact diskOK_good (okPut_disk h)
theorem stOf_stands {now sure : List Sector} {s : St} (h : stOf now sure = some s) : standsOK s = true := by
  unfold stOf at h
  cases h1 : okGet now sure 32
  · rw [h1] at h; cases h
  rw [h1] at h
  cases h2 : ((getS now sure 32).n == 0)
  · rw [h2] at h
    simp only [cond_true, cond_false, ckAt, Option.bind_eq_some_iff] at h
    obtain ⟨_, _, _, h3, h4⟩ := h
    split at h4
    · cases h4; exact readS_stands h3
    · cases h4
  · rw [h2] at h; cases h
theorem stOf_len (now sure : List Sector) : (stG (stOf now sure)).items.length ≤ 1000 ∧ (stG (stOf now sure)).l0.length ≤ 1000 ∧ (stG (stOf now sure)).l1.length ≤ 1000 ∧ (stG (stOf now sure)).l2.length ≤ 1000 := by
  cases h : stOf now sure with
  | none => simp [stG]
  | some s =>
    obtain ⟨p, it, l0, l1, l2, c0, c1, c2⟩ := s
    obtain ⟨hp, hn, hi, ⟨_, h0, _⟩, ⟨_, h1, _⟩, ⟨_, h2, _⟩⟩ := stands_facts (stOf_stands h)
    simp only [stG, Option.getD_some]
    omega
theorem stOf_lk (now sure : List Sector) : lenOK (stG (stOf now sure)).items.length = true ∧ lenOK (stG (stOf now sure)).l0.length = true ∧ lenOK (stG (stOf now sure)).l1.length = true ∧ lenOK (stG (stOf now sure)).l2.length = true := by
  obtain ⟨h0, h1, h2, h3⟩ := stOf_len now sure
  exact ⟨lenOK_of (by omega), lenOK_of (by omega), lenOK_of (by omega), lenOK_of (by omega)⟩
theorem lens2 (a b c d : List Sector) : (lenOK (stG (stOf a b)).items.length && lenOK (stG (stOf c d)).items.length && (lenOK (stG (stOf a b)).l0.length && lenOK (stG (stOf c d)).l0.length) && (lenOK (stG (stOf a b)).l1.length && lenOK (stG (stOf c d)).l1.length) && (lenOK (stG (stOf a b)).l2.length && lenOK (stG (stOf c d)).l2.length)) = true := by
  obtain ⟨h0, h1, h2, h3⟩ := stOf_lk a b
  obtain ⟨g0, g1, g2, g3⟩ := stOf_lk c d
  rw [h0, h1, h2, h3, g0, g1, g2, g3]; rfl
open Go.Proofs
noncomputable def ckptTells_e (c : Bool) (now : List Sector) (d : Bool) (sure : List Sector) (n : Int) (p : Int) (ci : Bool) (items : List Item) (k0 : Bool) (k1 : Bool) (k2 : Bool) (l0 : List Line) (l1 : List Line) (l2 : List Line) (c0 : Int) (c1 : Int) (c2 : Int) := evF s07 uz_3 60 7 [.acons (.sl (C := RC) .sector c now) (.acons (.sl (C := RC) .sector d sure) .anil), .int .i64 n, .acons (.int .i64 p) (.acons (.sl (C := RC) .item ci items) (.acons (.acons (.sl (C := RC) .line k0 l0) (.acons (.sl (C := RC) .line k1 l1) (.acons (.sl (C := RC) .line k2 l2) .anil))) (.acons (.arr (C := RC) .int 3 [c0, c1, c2]) .anil)))]
theorem ckptTells_eq (c : Bool) (now : List Sector) (d : Bool) (sure : List Sector) (n : Int) (p : Int) (ci : Bool) (items : List Item) (k0 : Bool) (k1 : Bool) (k2 : Bool) (l0 : List Line) (l1 : List Line) (l2 : List Line) (c0 : Int) (c1 : Int) (c2 : Int) : ckptTells_e c now d sure n p ci items k0 k1 k2 l0 l1 l2 c0 c1 c2 = (let Z0 : Bool := goodL now && goodL sure; let Z1 : DO_ := some (D.bool true); let Z2 : Nat := List.length items; let Z3 : Nat := List.length l0; let Z4 : Nat := List.length l1; let Z5 : Nat := List.length l2; let Z6 : Bool := decide (Z2 ≤ (9223372036854775807 : Nat) ∧ Z3 ≤ (9223372036854775807 : Nat) ∧ Z4 ≤ (9223372036854775807 : Nat) ∧ Z5 ≤ (9223372036854775807 : Nat)); let Z7 : St := St.mk p items l0 l1 l2 c0 c1 c2; let Z8 : List UInt8 := ckB n Z7; let Z9 : DO_ := some (D.bool false); let Z10 : Int := bif okCk n Z7 then (0 : Int) else (2 : Int); let Z11 : St := stG (stOf now sure); let Z12 : Bool := lenOK Z11.items.length; let Z13 : Bool := lenOK Z11.l0.length; let Z14 : Bool := lenOK Z11.l1.length; let Z15 : Bool := lenOK Z11.l2.length; let Z16 : St := St.mk Z11.place Z11.items Z11.l0 Z11.l1 Z11.l2 Z11.c0 Z11.c1 Z11.c2; let Z17 : List Sector := pNow now sure (32 : Int) n Z8; let Z18 : List Sector := pSure now sure (32 : Int) n Z8; let Z19 : Int := bif okPut now sure (32 : Int) n Z8 then (0 : Int) else (2 : Int); let Z20 : DO_ := none; bif Z0 then bif greatD now sure then Z1 else bif lenOK Z2 then bif decide ((60 : Int) < (↑Z2 : Int)) then Z1 else bif lenOK Z3 then bif decide ((40 : Int) < (↑Z3 : Int)) then Z1 else bif lenOK Z4 then bif decide ((40 : Int) < (↑Z4 : Int)) then Z1 else bif lenOK Z5 then bif decide ((40 : Int) < (↑Z5 : Int)) then Z1 else bif Z6 then bif Z6 then bif !Z8 == Z8 then Z9 else bif Z10 != Z10 then Z9 else bif Z0 then bif Z0 then bif numC now sure != numC now sure then Z9 else bif Z12 && Z12 && (Z13 && Z13) && (Z14 && Z14) && (Z15 && Z15) then bif !decide (Z16 = Z16) then Z9 else bif errC now sure != errC now sure then Z9 else bif Z0 && Z6 then bif Z0 && Z6 then bif lenOK Z17.length && lenOK Z17.length && (lenOK Z18.length && lenOK Z18.length) then bif decide (Z17 = Z17) && decide (Z18 = Z18) then bif Z19 == Z19 then Z1 else Z9 else Z9 else Z20 else Z20 else Z20 else Z20 else Z20 else Z20 else Z20 else Z20 else Z20 else Z20 else Z20 else Z20 else Z20) := by kernel_rfl
theorem ckptTells_ok (c : Bool) (now : List Sector) (d : Bool) (sure : List Sector) (n : Int) (p : Int) (ci : Bool) (items : List Item) (k0 : Bool) (k1 : Bool) (k2 : Bool) (l0 : List Line) (l1 : List Line) (l2 : List Line) (c0 : Int) (c1 : Int) (c2 : Int) (h : (goodL now && goodL sure && (lenOK items.length && lenOK l0.length && lenOK l1.length && lenOK l2.length)) = true) : ckptTells_e c now d sure n p ci items k0 k1 k2 l0 l1 l2 c0 c1 c2 = some (.bool true) := by
  (rw [ckptTells_eq]; conv => zeta)
  simp only [Bool.and_eq_true] at h
  obtain ⟨⟨hg, hgs⟩, ⟨⟨a1, a2⟩, a3⟩, a4⟩ := h
  have hgg : (goodL now && goodL sure) = true := by rw [hg, hgs]; rfl
  have hd0 : decide (items.length ≤ 9223372036854775807 ∧ l0.length ≤ 9223372036854775807 ∧ l1.length ≤ 9223372036854775807 ∧ l2.length ≤ 9223372036854775807) = true := decide_eq_true ⟨lenOK_le a1, lenOK_le a2, lenOK_le a3, lenOK_le a4⟩
  have hgl : (goodL now && goodL sure && decide (items.length ≤ 9223372036854775807 ∧ l0.length ≤ 9223372036854775807 ∧ l1.length ≤ 9223372036854775807 ∧ l2.length ≤ 9223372036854775807)) = true := by rw [hgg, hd0]; rfl
  generalize hs : (⟨p, items, l0, l1, l2, c0, c1, c2⟩ : St) = s
  obtain ⟨gP, gS⟩ := pNow_good now sure 32 n (ckB n s)
  have k1 := lenOK_of (goodL_iff.1 gP).1
  have k2 := lenOK_of (goodL_iff.1 gS).1
  refine cond_of hgg (cond_two (fun _ => rfl) fun _ => cond_of a1 (cond_two (fun _ => rfl) fun _ => cond_of a2 (cond_two (fun _ => rfl) fun _ => cond_of a3 (cond_two (fun _ => rfl) fun _ => cond_of a4 (cond_two (fun _ => rfl) fun _ => cond_of hd0 (cond_of hd0 ?_))))))
  refine cond_no (by simp) (cond_no (by simp [bne]) (cond_of hgg (cond_of hgg (cond_no (by simp [bne]) (cond_of (lens2 _ _ _ _) (cond_no (by simp) (cond_no (by simp [bne]) (cond_of hgl (cond_of hgl (cond_of (by rw [k1, k2]; rfl) (cond_of (by simp) (cond_of (by simp) rfl))))))))))))
end Go.Ev
