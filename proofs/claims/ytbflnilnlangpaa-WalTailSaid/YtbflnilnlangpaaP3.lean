/-
  A part of the proof of a statement of this seat: the model is run over values by content, proved sound; what the functions come to. No condition beyond the given statements. (text 4)
-/
import Derived.Test.YtbflnilnlangpaaP2
namespace Go.Ev
open Go.Proofs
set_option maxRecDepth 100000
set_option linter.unusedVariables false
set_option linter.unusedSimpArgs false
def put_s (c : Bool) (b : List UInt8) (n : Int) (w : Int) : Option (Bool × D RC) := staticD (w == 1 || w == 2 || w == 3 || w == 6) (decide (b.length ≤ 1000000000), .tup (.acons (.sl (C := RC) .u8 (!fitsB n w.toNat) (putL b n w.toNat)) (.acons (.int .i64 (bif fitsB n w.toNat then 0 else 2)) .anil)))
def put_sp : List (D RC) → Option (Bool × D RC)
  | [.sl .u8 c b, .int .i64 n, .int .i64 w] => put_s c b n w
  | _ => none
noncomputable def put_e (c : Bool) (b : List UInt8) (n : Int) (w : Int) := evF s06 ua_6 40 52 [.sl (C := RC) .u8 c b, .int .i64 n, .int .i64 w]
theorem put1_eq (c : Bool) (b : List UInt8) (n : Int) : put_e c b n 1 = (let Z0 : DO_ := some (D.tup (D.acons (D.sl RTy.u8 true []) (.acons (D.int .i64 2) .anil))); let Z1 : Bool := lenOK b.length; let Z2 : Int := (↑b.length : Int); let Z3 : List UInt8 := List.drop (0 : Nat) (List.take Z2.toNat b); let Z4 : List UInt8 := [UInt8.ofNat (IntKind.wrap IntKind.u8 n).toNat]; let Z5 : Nat := List.length Z3 + List.length Z4; bif decide ((0 : Int) ≤ n) then bif !Int.fdiv n (256 : Int) == (0 : Int) then Z0 else bif Z1 then bif Z1 then bif decide ((0 : Int) ≤ (0 : Int) ∧ (0 : Int) ≤ Z2 ∧ Z2 ≤ Z2 ∧ Z2 = Z2) then bif sizeOK Z5 (1 : Nat) then bif Nat.beq Z5 (Z3 ++ Z4).length then some (D.tup (D.acons (D.sl RTy.u8 false (Z3 ++ Z4)) (.acons (D.int .i64 0) .anil))) else none else none else none else none else none else Z0) := by kernel_rfl
theorem put2_eq (c : Bool) (b : List UInt8) (n : Int) : put_e c b n 2 = (let Z0 : DO_ := some (D.tup (D.acons (D.sl RTy.u8 true []) (.acons (D.int .i64 2) .anil))); let Z1 : Bool := lenOK b.length; let Z2 : Int := (↑b.length : Int); let Z3 : List UInt8 := List.drop (0 : Nat) (List.take Z2.toNat b); let Z4 : List UInt8 := [UInt8.ofNat (IntKind.wrap IntKind.u8 n).toNat]; let Z5 : Nat := List.length Z3 + List.length Z4; let Z6 : Nat := List.length (Z3 ++ Z4); let Z7 : List UInt8 := [UInt8.ofNat (IntKind.wrap IntKind.u8 (Int.fdiv n (256 : Int))).toNat]; bif decide ((0 : Int) ≤ n) then bif !Int.fdiv n (65536 : Int) == (0 : Int) then Z0 else bif Z1 then bif Z1 then bif decide ((0 : Int) ≤ (0 : Int) ∧ (0 : Int) ≤ Z2 ∧ Z2 ≤ Z2 ∧ Z2 = Z2) then bif sizeOK Z5 (1 : Nat) then bif Nat.beq Z5 Z6 && sizeOK (Z5 + List.length Z7) (1 : Nat) then bif Nat.beq (Z6 + List.length Z7) (Z3 ++ Z4 ++ Z7).length then some (D.tup (D.acons (D.sl RTy.u8 false (Z3 ++ Z4 ++ Z7)) (.acons (D.int .i64 0) .anil))) else none else none else none else none else none else none else Z0) := by kernel_rfl
theorem put3_eq (c : Bool) (b : List UInt8) (n : Int) : put_e c b n 3 = (let Z0 : DO_ := some (D.tup (D.acons (D.sl RTy.u8 true []) (.acons (D.int .i64 2) .anil))); let Z1 : Bool := lenOK b.length; let Z2 : Int := (↑b.length : Int); let Z3 : List UInt8 := List.drop (0 : Nat) (List.take Z2.toNat b); let Z4 : List UInt8 := [UInt8.ofNat (IntKind.wrap IntKind.u8 n).toNat]; let Z5 : Nat := List.length Z3 + List.length Z4; let Z6 : Nat := List.length (Z3 ++ Z4); let Z7 : Int := Int.fdiv n (256 : Int); let Z8 : List UInt8 := [UInt8.ofNat (IntKind.wrap IntKind.u8 Z7).toNat]; let Z9 : Nat := List.length (Z3 ++ Z4 ++ Z8); let Z10 : List UInt8 := [UInt8.ofNat (IntKind.wrap IntKind.u8 (Int.fdiv Z7 (256 : Int))).toNat]; bif decide ((0 : Int) ≤ n) then bif !Int.fdiv n (16777216 : Int) == (0 : Int) then Z0 else bif Z1 then bif Z1 then bif decide ((0 : Int) ≤ (0 : Int) ∧ (0 : Int) ≤ Z2 ∧ Z2 ≤ Z2 ∧ Z2 = Z2) then bif sizeOK Z5 (1 : Nat) then bif Nat.beq Z5 Z6 && sizeOK (Z5 + List.length Z8) (1 : Nat) then bif Nat.beq (Z6 + List.length Z8) Z9 && sizeOK (Z6 + List.length Z8 + List.length Z10) (1 : Nat) then bif Nat.beq (Z9 + List.length Z10) (Z3 ++ Z4 ++ Z8 ++ Z10).length then some (D.tup (D.acons (D.sl RTy.u8 false (Z3 ++ Z4 ++ Z8 ++ Z10)) (.acons (D.int .i64 0) .anil))) else none else none else none else none else none else none else none else Z0) := by kernel_rfl
theorem put6_eq (c : Bool) (b : List UInt8) (n : Int) : put_e c b n 6 = (let Z0 : DO_ := some (D.tup (D.acons (D.sl RTy.u8 true []) (.acons (D.int .i64 2) .anil))); let Z1 : Bool := lenOK b.length; let Z2 : Int := (↑b.length : Int); let Z3 : List UInt8 := List.drop (0 : Nat) (List.take Z2.toNat b); let Z4 : List UInt8 := [UInt8.ofNat (IntKind.wrap IntKind.u8 n).toNat]; let Z5 : Nat := List.length Z3 + List.length Z4; let Z6 : Nat := List.length (Z3 ++ Z4); let Z7 : Int := Int.fdiv n (256 : Int); let Z8 : List UInt8 := [UInt8.ofNat (IntKind.wrap IntKind.u8 Z7).toNat]; let Z9 : Nat := List.length (Z3 ++ Z4 ++ Z8); let Z10 : Int := Int.fdiv Z7 (256 : Int); let Z11 : List UInt8 := [UInt8.ofNat (IntKind.wrap IntKind.u8 Z10).toNat]; let Z12 : Nat := List.length (Z3 ++ Z4 ++ Z8 ++ Z11); let Z13 : Int := Int.fdiv Z10 (256 : Int); let Z14 : List UInt8 := [UInt8.ofNat (IntKind.wrap IntKind.u8 Z13).toNat]; let Z15 : Nat := List.length (Z3 ++ Z4 ++ Z8 ++ Z11 ++ Z14); let Z16 : Int := Int.fdiv Z13 (256 : Int); let Z17 : List UInt8 := [UInt8.ofNat (IntKind.wrap IntKind.u8 Z16).toNat]; let Z18 : List UInt8 := Z3 ++ Z4 ++ Z8 ++ Z11 ++ Z14 ++ Z17; let Z19 : List UInt8 := [UInt8.ofNat (IntKind.wrap IntKind.u8 (Int.fdiv Z16 (256 : Int))).toNat]; bif decide ((0 : Int) ≤ n) then bif !Int.fdiv n (281474976710656 : Int) == (0 : Int) then Z0 else bif Z1 then bif Z1 then bif decide ((0 : Int) ≤ (0 : Int) ∧ (0 : Int) ≤ Z2 ∧ Z2 ≤ Z2 ∧ Z2 = Z2) then bif sizeOK Z5 (1 : Nat) then bif Nat.beq Z5 Z6 && sizeOK (Z5 + List.length Z8) (1 : Nat) then bif Nat.beq (Z6 + List.length Z8) Z9 && sizeOK (Z6 + List.length Z8 + List.length Z11) (1 : Nat) then bif Nat.beq (Z9 + List.length Z11) Z12 && sizeOK (Z9 + List.length Z11 + List.length Z14) (1 : Nat) then bif Nat.beq (Z12 + List.length Z14) Z15 && sizeOK (Z12 + List.length Z14 + List.length Z17) (1 : Nat) then bif Nat.beq (Z15 + List.length Z17) Z18.length && sizeOK (Z15 + List.length Z17 + List.length Z19) (1 : Nat) then bif Nat.beq (List.length Z18 + List.length Z19) (Z18 ++ Z19).length then some (D.tup (D.acons (D.sl RTy.u8 false (Z18 ++ Z19)) (.acons (D.int .i64 0) .anil))) else none else none else none else none else none else none else none else none else none else none else Z0) := by kernel_rfl
theorem put_ok (c : Bool) (b : List UInt8) (n : Int) (w : Int) (hs : (w == 1 || w == 2 || w == 3 || w == 6) = true) (h : (decide (b.length ≤ 1000000000)) = true) : put_e c b n w = some (.tup (.acons (.sl (C := RC) .u8 (!fitsB n w.toNat) (putL b n w.toNat)) (.acons (.int .i64 (bif fitsB n w.toNat then 0 else 2)) .anil))) := by
  have hl := of_decide_eq_true h
  have hl' : lenOK b.length = true := lenOK_of (by omega)
  have hle : ∀ m, 1000000000 ≤ m → (b.length ≤ m) := fun m hm => by omega
  have hz : ∀ (k : Nat) (m : Int), 0 ≤ n → m = 256 ^ k → 0 < m → ((n.fdiv m == 0) = fitsB n k) := by
    intro k m h0 hm hp
    rw [Int.fdiv_eq_ediv_of_nonneg _ (by omega), fitsB, ← hm]
    have : (n / m = 0) ↔ n < m := Int.ediv_eq_zero_iff_of_pos' h0 hp
    rw [Bool.eq_iff_iff]; simp [this, h0]
  simp only [Bool.or_eq_true, beq_iff_eq] at hs
  rcases hs with ((rfl | rfl) | rfl) | rfl
  · (rw [put1_eq]; conv => zeta)
    show _ = some (D.tup (.acons (.sl (C := RC) .u8 (!fitsB n 1) (putL b n 1)) (.acons (.int .i64 (bif fitsB n 1 then 0 else 2)) .anil)))
    by_cases h0 : 0 ≤ n
    · simp only [h0, decide_true, cond_true, hz 1 256 h0 (by decide) (by omega)]
      cases hf : fitsB n 1
      · simp [putL, hf]
      · simp [putL, hf, hl', sizeOK, leB, byteOf, hle]
    · have hf : fitsB n 1 = false := by simp [fitsB, h0]
      simp [h0, hf, putL]
  · (rw [put2_eq]; conv => zeta)
    show _ = some (D.tup (.acons (.sl (C := RC) .u8 (!fitsB n 2) (putL b n 2)) (.acons (.int .i64 (bif fitsB n 2 then 0 else 2)) .anil)))
    by_cases h0 : 0 ≤ n
    · simp only [h0, decide_true, cond_true, hz 2 65536 h0 (by decide) (by omega)]
      cases hf : fitsB n 2
      · simp [putL, hf]
      · simp [putL, hf, hl', sizeOK, leB, byteOf, hle]
    · have hf : fitsB n 2 = false := by simp [fitsB, h0]
      simp [h0, hf, putL]
  · (rw [put3_eq]; conv => zeta)
    show _ = some (D.tup (.acons (.sl (C := RC) .u8 (!fitsB n 3) (putL b n 3)) (.acons (.int .i64 (bif fitsB n 3 then 0 else 2)) .anil)))
    by_cases h0 : 0 ≤ n
    · simp only [h0, decide_true, cond_true, hz 3 16777216 h0 (by decide) (by omega)]
      cases hf : fitsB n 3
      · simp [putL, hf]
      · simp [putL, hf, hl', sizeOK, leB, byteOf, hle]
    · have hf : fitsB n 3 = false := by simp [fitsB, h0]
      simp [h0, hf, putL]
  · (rw [put6_eq]; conv => zeta)
    show _ = some (D.tup (.acons (.sl (C := RC) .u8 (!fitsB n 6) (putL b n 6)) (.acons (.int .i64 (bif fitsB n 6 then 0 else 2)) .anil)))
    by_cases h0 : 0 ≤ n
    · simp only [h0, decide_true, cond_true, hz 6 281474976710656 h0 (by decide) (by omega)]
      cases hf : fitsB n 6
      · simp [putL, hf]
      · simp [putL, hf, hl', sizeOK, leB, byteOf, hle]
    · have hf : fitsB n 6 = false := by simp [fitsB, h0]
      simp [h0, hf, putL]
noncomputable def ub_1 := ua_6.addSpec 52 put_sp
theorem ub_1_laws : FLaws Try.prog s06 ub_1 := ua_6_laws.addEv s06_laws fun args d h => by
  unfold put_sp at h
  split at h
  · unfold put_s at h
    obtain ⟨hs, h⟩ := staticD_some h
    obtain ⟨h1, h2⟩ := Prod.mk.inj h
    obtain rfl : _ = d := h2
    exact ⟨by simp [D.refs], 40, put_ok _ _ _ _ hs h1⟩
  · cases h
structure getLoop_St where
  c : Bool
  l : List UInt8
  i : Nat
def getLoop_c (c : Bool) (l : List UInt8) (i : Nat) : Env RC := [(40, .sl (C := RC) .u8 c l), (41, .int .i64 (l.length)), (42, .int .i64 (i : Int)), (8, .int .i64 ((leVal (l.take i) : Int)))]
def getLoop_o (c : Bool) (l : List UInt8) (i : Nat) : List (Obj RC) := []
noncomputable def getLoop_r (c : Bool) (l : List UInt8) (i : Nat) := rndO s06 ub_1 78 7 40 0 [40, 41, 42, 8] [8] [] (getLoop_c c l i) (getLoop_o c l i)
theorem getLoop_eq (c : Bool) (l : List UInt8) (i : Nat) : getLoop_r c l i = (let Z0 : Int := (↑i : Int); let Z1 : Int := (↑l.length : Int); let Z2 : Int := IntKind.wrap .i64 ((8 : Int) * Z0); let Z3 : Int := (↑(leVal (List.take i l)) : Int); bif decide (Z0 < Z1) then bif decide ((0 : Int) ≤ Z0 ∧ Z0 < Z1) then bif decide (Z2 < (0 : Int)) then none else some ((X.normal, [(40, D.sl RTy.u8 c l), (41, D.int .i64 Z1), (42, D.int .i64 (IntKind.wrap .i64 (Z0 + (1 : Int)))), (8, D.int .i64 (bits .i64 (fun (x : Nat) (u v : BitVec x) => u ||| v) Z3 (IntKind.wrap .i64 (IntKind.wrap .i64 (↑(UInt8.toNat (List.getD l Z0.toNat (UInt8.ofBitVec (BitVec.ofNat (8 : Nat) (nat_lit 0))))) : Int) * (2 : Int) ^ min Z2.toNat (64 : Nat)))))]), []) else none else some ((X.exit (1 : Nat), [(8, D.int .i64 Z3)]), [])) := by kernel_rfl
def getLoop_fin (c : Bool) (l : List UInt8) (i : Nat) : RT RC := .leaf (.exit 1) [(8, .int .i64 (leVal l : Int))] []
def getLoop_Inv (c : Bool) (l : List UInt8) (i : Nat) : Prop := i ≤ l.length ∧ l.length ≤ 6
def getLoop_S : LoopR RC getLoop_St where
  k := 0
  canon q := getLoop_c q.c q.l q.i
  objs q := getLoop_o q.c q.l q.i
  fin q := getLoop_fin q.c q.l q.i
  Inv q := getLoop_Inv q.c q.l q.i
  μ q := q.l.length - q.i
theorem getLoop_round (c : Bool) (l : List UInt8) (i : Nat) (hI : getLoop_Inv c l i) : Leaf (getLoop_r c l i) (LedR getLoop_S ⟨c, l, i⟩) := by
  (rw [getLoop_eq]; conv => zeta)
  unfold getLoop_Inv at hI
  obtain ⟨h1, h2⟩ := hI
  by_cases hlt : i < l.length
  · have w_succ : IntKind.i64.wrap ((i : Int) + 1) = ((i + 1 : Nat) : Int) := by rw [wrap_id (by omega) (by omega)]; simp
    have d_lt : decide ((i : Int) < l.length) = true := by simp; omega
    have d_in : decide (0 ≤ (i : Int) ∧ (i : Int) < l.length) = true := by simp; omega
    have t_nat : ((i : Int)).toNat = i := by simp
    simp only [w_succ, d_lt, d_in, t_nat, cond_true]
    have hw8 : IntKind.i64.wrap (8 * (i : Int)) = 8 * (i : Int) := wrap_id (by omega) (by omega)
    have hd8 : decide (IntKind.i64.wrap (8 * (i : Int)) < 0) = false := by rw [hw8]; simp; omega
    have hlen : (l.take i).length = i := by simp; omega
    have hv : leVal (l.take i) < 256 ^ i := by have := leVal_lt (l.take i); rwa [hlen] at this
    have hval : leVal (l.take (i + 1)) = leVal (l.take i) + (l.getD i 0).toNat * 256 ^ i := by
      rw [List.take_add_one, leVal_append, hlen]
      simp [hlt, leVal, Nat.mul_comm]
    simp only [hd8, cond_false]
    refine leafR_go ⟨c, l, i + 1⟩ ⟨hlt, h2⟩ (by simp only [getLoop_S]; omega) (by simp only [getLoop_S, getLoop_fin]) ?_ rfl
    simp only [getLoop_S, getLoop_c, hval]
    exact congrArg (fun z => [(40, D.sl (C := RC) .u8 c l), (41, .int .i64 (l.length : Int)), (42, .int .i64 ((i + 1 : Nat) : Int)), (8, .int .i64 z)]) (bits_or_shift' _ _ _ hv (by omega))
  · have hi : i = l.length := by omega
    have c1 : decide ((i : Int) < l.length) = false := by simp; omega
    rw [c1]
    exact leafR_exit [] (by simp [getLoop_S, getLoop_fin, hi, RT.val]) rfl
def getLoop_d (env : Env RC) (os : List (Obj RC)) : Option (Bool × getLoop_St) := match env, os with
  | [(40, .sl .u8 c l), (41, .int .i64 x0), (42, .int .i64 x1), (8, .int .i64 x2)], [] => staticD (true) (decide (x0 = l.length) && decide (x1 = 0) && decide (x2 = 0) && decide (l.length ≤ 6), ⟨c, l, 0⟩)
  | _, _ => none
noncomputable def ub_2 := ub_1.addLoop 78 7 (sumR s06 [] [40, 41, 42, 8] getLoop_S getLoop_d)
theorem ub_2_laws : FLaws Try.prog s06 ub_2 := by
  refine ub_1_laws.addRoundsR s06_laws (by kernel_rfl) getLoop_S 40 [40, 41, 42, 8] [8] [] [40, 41, 42, 8] getLoop_d (fun q hI => ?_) ?_
  · obtain ⟨c, l, i⟩ := q
    refine ⟨?_, ?_, getLoop_round c l i hI⟩
    · simp_all [RefsOK, getLoop_S, getLoop_c, getLoop_o, getLoop_Inv, D.refs, Obj.refs, rEnc]
    · simp_all [getLoop_S, getLoop_fin, getLoop_o, getLoop_Inv, RT.refsOK, RefsOK, D.refs, Obj.refs, rEnc]
  · intro env os b q hd_ hb
    unfold getLoop_d at hd_
    split at hd_
    · obtain ⟨hs, hd_⟩ := staticD_some hd_
      cases hd_
      simp only [Bool.and_eq_true, decide_eq_true_eq] at hb
      obtain ⟨⟨⟨rfl, rfl⟩, rfl⟩, hl⟩ := hb
      exact ⟨⟨Nat.zero_le _, hl⟩, rfl, rfl⟩
    · cases hd_
def get_s (c : Bool) (b : List UInt8) (a : Int) (w : Int) : Option (Bool × D RC) := some (decide (b.length ≤ 1000000000000), .tup (.acons (.int .i64 (getP b a w).1) (.acons (.int .i64 (getP b a w).2) .anil)))
def get_sp : List (D RC) → Option (Bool × D RC)
  | [.sl .u8 c b, .int .i64 a, .int .i64 w] => get_s c b a w
  | _ => none
noncomputable def get_e (c : Bool) (b : List UInt8) (a : Int) (w : Int) := evF s06 ub_2 40 78 [.sl (C := RC) .u8 c b, .int .i64 a, .int .i64 w]
theorem get_eq (c : Bool) (b : List UInt8) (a : Int) (w : Int) : get_e c b a w = (let Z0 : D RC := D.int .i64 0; let Z1 : DO_ := some (D.tup (D.acons Z0 (D.acons (D.int .i64 2) .anil))); let Z2 : DO_ := some (D.tup (D.acons Z0 (D.acons (D.int .i64 50) .anil))); let Z3 : Bool := lenOK b.length; let Z4 : Int := (↑b.length : Int); let Z5 : Int := IntKind.wrap .i64 (a + w); let Z6 : List UInt8 := List.drop a.toNat (List.take Z5.toNat b); let Z7 : Nat := List.length Z6; bif decide (w < (1 : Int)) then Z1 else bif decide ((6 : Int) < w) then Z1 else bif decide (a < (0 : Int)) then Z2 else bif Z3 then bif decide (Z4 < a) then Z2 else bif Z3 then bif decide (IntKind.wrap .i64 (Z4 - a) < w) then Z2 else bif decide ((0 : Int) ≤ a ∧ a ≤ Z5 ∧ Z5 ≤ Z4) then bif lenOK Z7 then bif decide ((↑Z7 : Int) = (↑Z7 : Int)) && true && true && decide (Z7 ≤ (6 : Nat)) then some (D.tup (D.acons (D.int .i64 (↑(leVal Z6) : Int)) (.acons Z0 .anil))) else none else none else none else none else none) := by kernel_rfl
theorem get_ok (c : Bool) (b : List UInt8) (a : Int) (w : Int) (h : (decide (b.length ≤ 1000000000000)) = true) : get_e c b a w = some (.tup (.acons (.int .i64 (getP b a w).1) (.acons (.int .i64 (getP b a w).2) .anil))) := by
  (rw [get_eq]; conv => zeta)
  have hl := of_decide_eq_true h
  have hl' : lenOK b.length = true := lenOK_of (by omega)
  rw [hl']
  by_cases hw : 1 ≤ w ∧ w ≤ 6
  · have w1 : decide (w < 1) = false := by simp; omega
    have w2 : decide (6 < w) = false := by simp; omega
    have w3 : (decide (1 ≤ w) && decide (w ≤ 6)) = true := by simp; omega
    simp only [w1, w2, cond_false, cond_true, getP, w3]
    by_cases ha : 0 ≤ a ∧ a + w ≤ b.length
    · have a1 : decide (a < 0) = false := by simp; omega
      have a2 : decide ((b.length : Int) < a) = false := by simp; omega
      have e1 : IntKind.i64.wrap ((b.length : Int) - a) = b.length - a := wrap_id (by omega) (by omega)
      have e2 : IntKind.i64.wrap (a + w) = a + w := wrap_id (by omega) (by omega)
      have a3 : decide ((b.length : Int) - a < w) = false := by simp; omega
      have a4 : decide (0 ≤ a ∧ a ≤ a + w ∧ a + w ≤ (b.length : Int)) = true := by simp; omega
      have a5 : (decide (0 ≤ a) && decide (a + w ≤ (b.length : Int))) = true := by simp; omega
      have e3 : (List.drop a.toNat (List.take (a + w).toNat b)) = List.take w.toNat (List.drop a.toNat b) := by
        rw [List.drop_take]; congr 1; omega
      have e4 : (List.take w.toNat (List.drop a.toNat b)).length = w.toNat := by simp; omega
      simp only [a1, a2, e1, e2, a3, a4, a5, e3, e4, cond_false, cond_true]
      have a6 : lenOK w.toNat = true := lenOK_of (by omega)
      have a7 : w.toNat ≤ 6 := by omega
      simp [a6, a7]
    · have a5 : (decide (0 ≤ a) && decide (a + w ≤ (b.length : Int))) = false := by simp; omega
      simp only [a5, cond_false]
      by_cases a1 : a < 0
      · simp [a1]
      · by_cases a2 : (b.length : Int) < a
        · simp [a1, a2]
        · have e1 : IntKind.i64.wrap ((b.length : Int) - a) = b.length - a := wrap_id (by omega) (by omega)
          have a3 : decide ((b.length : Int) - a < w) = true := by simp; omega
          simp [a1, a2, e1, a3]
  · have w3 : (decide (1 ≤ w) && decide (w ≤ 6)) = false := by simp; omega
    simp only [getP, w3]
    by_cases w1 : w < 1
    · simp [w1]
    · have w2 : 6 < w := by omega
      simp [w1, w2]
noncomputable def ub_3 := ub_2.addSpec 78 get_sp
theorem ub_3_laws : FLaws Try.prog s06 ub_3 := ub_2_laws.addEv s06_laws fun args d h => by
  unfold get_sp at h
  split at h
  · unfold get_s at h
    have h1 := congrArg Prod.fst (Option.some.inj h)
    obtain rfl : _ = d := congrArg Prod.snd (Option.some.inj h)
    exact ⟨by simp [D.refs], 40, get_ok _ _ _ _ h1⟩
  · cases h
open Go.Proofs
structure bytesLoop_St where
  cp : Bool
  bs : List UInt8
  c : Bool
  l : List Write
  i : Nat
def bytesLoop_c (cp : Bool) (bs : List UInt8) (c : Bool) (l : List Write) (i : Nat) : Env RC := [(4, .ptr 0 []), (28, .sl (C := RC) .write c l), (29, .int .i64 (l.length)), (30, .int .i64 (i : Int))]
def bytesLoop_o (cp : Bool) (bs : List UInt8) (c : Bool) (l : List Write) (i : Nat) : List (Obj RC) := [.var 82 (.acons (.sl (C := RC) .u8 cp bs) .anil)]
noncomputable def bytesLoop_r (cp : Bool) (bs : List UInt8) (c : Bool) (l : List Write) (i : Nat) := rndO s06 ub_3 28 11 40 1 [4, 28, 29, 30] [] [.slot 4 0] (bytesLoop_c cp bs c l i) (bytesLoop_o cp bs c l i)
theorem bytesLoop_eq (cp : Bool) (bs : List UInt8) (c : Bool) (l : List Write) (i : Nat) : bytesLoop_r cp bs c l i = (let Z0 : Int := (↑i : Int); let Z1 : Int := (↑l.length : Int); let Z2 : Write := List.getD l Z0.toNat (Write.mk (0 : Int) (0 : Int)); let Z3 : List UInt8 := putL bs (Write.key Z2) (1 : Nat); bif decide (Z0 < Z1) then bif decide ((0 : Int) ≤ Z0 ∧ Z0 < Z1) then bif decide (List.length bs ≤ (1000000000 : Nat)) then bif decide (List.length Z3 ≤ (1000000000 : Nat)) then some ((X.normal, [(4, D.ptr 0 []), (28, D.sl RTy.write c l), (29, D.int .i64 Z1), (30, D.int .i64 (IntKind.wrap .i64 (Z0 + (1 : Int))))]), [some (Obj.var 82 (.acons (D.sl RTy.u8 (!fitsB (Write.value Z2) (1 : Nat)) (putL Z3 (Write.value Z2) (1 : Nat))) .anil))]) else none else none else none else some ((X.exit (0 : Nat), []), [some (Obj.var 82 (.acons (D.sl RTy.u8 cp bs) .anil))])) := by kernel_rfl
def bytesLoop_fin (cp : Bool) (bs : List UInt8) (c : Bool) (l : List Write) (i : Nat) : RT RC := .leaf (.exit 0) [] [.var 82 (.acons (.sl (C := RC) .u8 (cp && (l.drop i).isEmpty) (bs ++ (l.drop i).flatMap wBytes)) .anil)]
def bytesLoop_Inv (cp : Bool) (bs : List UInt8) (c : Bool) (l : List Write) (i : Nat) : Prop := i ≤ l.length ∧ l.length ≤ 1000000 ∧ bs.length ≤ 1000000 + 2 * i ∧ l.all fitW = true
def bytesLoop_S : LoopR RC bytesLoop_St where
  k := 1
  canon q := bytesLoop_c q.cp q.bs q.c q.l q.i
  objs q := bytesLoop_o q.cp q.bs q.c q.l q.i
  fin q := bytesLoop_fin q.cp q.bs q.c q.l q.i
  Inv q := bytesLoop_Inv q.cp q.bs q.c q.l q.i
  μ q := q.l.length - q.i
theorem bytesLoop_round (cp : Bool) (bs : List UInt8) (c : Bool) (l : List Write) (i : Nat) (hI : bytesLoop_Inv cp bs c l i) : Leaf (bytesLoop_r cp bs c l i) (LedR bytesLoop_S ⟨cp, bs, c, l, i⟩) := by
  (rw [bytesLoop_eq]; conv => zeta)
  unfold bytesLoop_Inv at hI
  obtain ⟨h1, h2, h3, h4⟩ := hI
  by_cases hlt : i < l.length
  · have w_succ : IntKind.i64.wrap ((i : Int) + 1) = ((i + 1 : Nat) : Int) := by rw [wrap_id (by omega) (by omega)]; simp
    have d_lt : decide ((i : Int) < l.length) = true := by simp; omega
    have d_in : decide (0 ≤ (i : Int) ∧ (i : Int) < l.length) = true := by simp; omega
    have t_nat : ((i : Int)).toNat = i := by simp
    simp only [w_succ, d_lt, d_in, t_nat, cond_true]
    have hf := all_getD h4 hlt (⟨0, 0⟩ : Write)
    have hd : (l.drop i).flatMap wBytes = _ := flatMap_drop_succ l i wBytes hlt (⟨0, 0⟩ : Write)
    have he : (l.drop i).isEmpty = false := by simp; omega
    generalize l.getD i (⟨0, 0⟩ : Write) = x at hf hd ⊢
    simp only [fitW, Bool.and_eq_true] at hf
    simp only [putL_fits (fits1 hf.1), putL_fits (fits1 hf.2), fits1 hf.1, fits1 hf.2]
    have n1 : decide (bs.length ≤ 1000000000) = true := decide_eq_true (by omega)
    have n2 : decide ((bs ++ leB x.key 1).length ≤ 1000000000) = true := decide_eq_true (by simp [leB_length]; omega)
    simp only [Int.toNat_one, putL_fits (fits1 hf.1), putL_fits (fits1 hf.2), fits1 hf.1, fits1 hf.2, n1, n2, cond_true, Bool.not_true]
    refine leafR_go ⟨false, bs ++ leB x.key 1 ++ leB x.value 1, c, l, i + 1⟩ ⟨hlt, h2, by simp [leB_length]; omega, h4⟩ (by simp only [bytesLoop_S]; omega) ?_ rfl rfl
    simp only [bytesLoop_S, bytesLoop_fin, hd, he, wBytes, leB, RT.val]
    simp
  · have hi : i = l.length := by omega
    have c1 : decide ((i : Int) < l.length) = false := by simp; omega
    rw [c1]
    exact leafR_exit (bytesLoop_o cp bs c l i) (by simp [bytesLoop_S, bytesLoop_fin, bytesLoop_o, hi, RT.val]) rfl
def bytesLoop_d (env : Env RC) (os : List (Obj RC)) : Option (Bool × bytesLoop_St) := match env, os with
  | [(4, .ptr 0 []), (28, .sl .write c l), (29, .int .i64 x0), (30, .int .i64 x1)], [.var 82 (.acons (.sl .u8 cp bs) .anil)] => staticD (true) (decide (x0 = l.length) && decide (x1 = 0) && decide (l.length ≤ 1000000 ∧ bs.length ≤ 1000000) && l.all fitW, ⟨cp, bs, c, l, 0⟩)
  | _, _ => none
noncomputable def uc_1 := ub_3.addLoop 28 11 (sumR s06 [.slot 4 0] [4, 28, 29, 30] bytesLoop_S bytesLoop_d)
theorem uc_1_laws : FLaws Try.prog s06 uc_1 := by
  refine ub_3_laws.addRoundsR s06_laws (by kernel_rfl) bytesLoop_S 40 [4, 28, 29, 30] [] [.slot 4 0] [4, 28, 29, 30] bytesLoop_d (fun q hI => ?_) ?_
  · obtain ⟨cp, bs, c, l, i⟩ := q
    refine ⟨?_, ?_, bytesLoop_round cp bs c l i hI⟩
    · simp_all [RefsOK, bytesLoop_S, bytesLoop_c, bytesLoop_o, bytesLoop_Inv, D.refs, Obj.refs, rEnc]
    · simp_all [bytesLoop_S, bytesLoop_fin, bytesLoop_o, bytesLoop_Inv, RT.refsOK, RefsOK, D.refs, Obj.refs, rEnc]
  · intro env os b q hd_ hb
    unfold bytesLoop_d at hd_
    split at hd_
    · obtain ⟨hs, hd_⟩ := staticD_some hd_
      cases hd_
      simp only [Bool.and_eq_true, decide_eq_true_eq] at hb
      obtain ⟨⟨⟨rfl, rfl⟩, hl⟩, ha⟩ := hb
      exact ⟨⟨Nat.zero_le _, hl.1, Nat.le_trans hl.2 (Nat.le_add_right _ _), ha⟩, rfl, rfl⟩
    · cases hd_
def bytes_s (p : Int) (y : Bool) (c : Bool) (l : List Write) : Option (Bool × D RC) := some (lenOK l.length, .tup (.acons (.sl (C := RC) .u8 (!mayB ⟨p, y, l⟩) (bif mayB ⟨p, y, l⟩ then bytesR ⟨p, y, l⟩ else [])) (.acons (.int .i64 (bif mayB ⟨p, y, l⟩ then 0 else 2)) .anil)))
def bytes_sp : List (D RC) → Option (Bool × D RC)
  | [.acons (.int .i64 p) (.acons (.bool y) (.acons (.sl .write c l) .anil))] => bytes_s p y c l
  | _ => none
noncomputable def bytes_e (p : Int) (y : Bool) (c : Bool) (l : List Write) := evF s06 uc_1 40 28 [.acons (.int .i64 p) (.acons (.bool y) (.acons (.sl (C := RC) .write c l) .anil))]
theorem bytes_eq (p : Int) (y : Bool) (c : Bool) (l : List Write) : bytes_e p y c l = (let Z0 : Nat := List.length l; let Z1 : List UInt8 := putL (putL [] p (3 : Nat)) (bif y then (1 : Int) else (0 : Int)) (1 : Nat); let Z2 : Int := (↑Z0 : Int); bif lenOK Z0 then bif !mayB (Rec.mk p y l) then some (D.tup (D.acons (D.sl RTy.u8 true []) (.acons (D.int .i64 2) .anil))) else bif decide (List.length (putL [] p (3 : Nat)) ≤ (1000000000 : Nat)) then bif lenOK Z0 then bif decide (List.length Z1 ≤ (1000000000 : Nat)) then bif lenOK Z0 then bif decide (Z2 = Z2) && true && decide (Z0 ≤ (1000000 : Nat) ∧ List.length (putL Z1 Z2 (1 : Nat)) ≤ (1000000 : Nat)) && List.all l fitW then some (D.tup (D.acons (D.sl RTy.u8 (!fitsB Z2 (1 : Nat) && List.isEmpty (List.drop (0 : Nat) l)) (putL Z1 Z2 (1 : Nat) ++ List.flatMap wBytes (List.drop (0 : Nat) l))) (.acons (D.int .i64 0) .anil))) else none else none else none else none else none else none) := by kernel_rfl
theorem bytes_ok (p : Int) (y : Bool) (c : Bool) (l : List Write) (h : (lenOK l.length) = true) : bytes_e p y c l = some (.tup (.acons (.sl (C := RC) .u8 (!mayB ⟨p, y, l⟩) (bif mayB ⟨p, y, l⟩ then bytesR ⟨p, y, l⟩ else [])) (.acons (.int .i64 (bif mayB ⟨p, y, l⟩ then 0 else 2)) .anil))) := by
  (rw [bytes_eq]; conv => zeta)
  rw [h]
  cases hm : mayB ⟨p, y, l⟩
  · rfl
  · obtain ⟨hp, hl, hw⟩ := may_facts hm
    have f3 := fits3 (n := p) (by rw [withinB_iff]; omega)
    have f1 : fitsB (l.length : Int) 1 = true := fits1 (by rw [withinB_iff]; omega)
    have fy1 : fitsB 1 1 = true := rfl
    have fy0 : fitsB 0 1 = true := rfl
    have g1 : decide (([] : List UInt8).length ≤ 1000000000) = true := rfl
    have g2 : ∀ b : List UInt8, b.length ≤ 1000 → decide (b.length ≤ 1000000000) = true := fun b hb => decide_eq_true (by omega)
    have g3 : ∀ b : List UInt8, b.length ≤ 1000 → (decide (l.length ≤ 1000000 ∧ b.length ≤ 1000000)) = true := fun b hb => by simp; omega
    cases y <;> simp only [Int.toNat_one, show Int.toNat 3 = 3 from rfl, putL_fits f3, putL_fits f1, putL_fits fy1, putL_fits fy0, f3, f1, fy1, fy0, g1, cond_true, cond_false, Bool.not_true, Bool.not_false]
    · rw [g2 _ (by simp [leB_length]), g2 _ (by simp [leB_length]), g3 _ (by simp [leB_length]), hw]
      simp [bytesR]
    · rw [g2 _ (by simp [leB_length]), g2 _ (by simp [leB_length]), g3 _ (by simp [leB_length]), hw]
      simp [bytesR]
noncomputable def uc_2 := uc_1.addSpec 28 bytes_sp
theorem uc_2_laws : FLaws Try.prog s06 uc_2 := uc_1_laws.addEv s06_laws fun args d h => by
  unfold bytes_sp at h
  split at h
  · unfold bytes_s at h
    have h1 := congrArg Prod.fst (Option.some.inj h)
    obtain rfl : _ = d := congrArg Prod.snd (Option.some.inj h)
    exact ⟨by simp [D.refs], 40, bytes_ok _ _ _ _ h1⟩
  · cases h
open Go.Proofs
theorem drops_step {α : Type} [DecidableEq α] (l m : List α) (i : Nat) (d : α) (hlt : i < l.length) (hlen : l.length = m.length) :
    decide (l.drop i = m.drop i) = (decide (l.getD i d = m.getD i d) && decide (l.drop (i + 1) = m.drop (i + 1))) := by
  have e1 := List.drop_eq_getElem_cons hlt
  have e2 := List.drop_eq_getElem_cons (show i < m.length by omega)
  have h1 : l.getD i d = l[i] := by simp [hlt]
  have h2 : m.getD i d = m[i]'(by omega) := by simp [show i < m.length by omega]
  rw [h1, h2, e1, e2, Bool.eq_iff_iff]
  simp only [List.cons.injEq, decide_eq_true_eq, Bool.and_eq_true]
theorem drops_end {α : Type} [DecidableEq α] (l m : List α) (i : Nat) (h1 : l.length ≤ i) (h2 : m.length ≤ i) : decide (l.drop i = m.drop i) = true := by
  simp [List.drop_eq_nil_of_le h1, List.drop_eq_nil_of_le h2]
theorem beqD {α : Type} [DecidableEq α] [BEq α] [LawfulBEq α] (a b : α) : (a == b) = decide (a = b) := by rw [Bool.eq_iff_iff]; simp
theorem eqWrite (x y : Write) : (x.key == y.key && (x.value == y.value && true)) = decide (x = y) := by
  rw [Bool.eq_iff_iff]; cases x; cases y; simp
theorem putD {n : Int} (h0 : 0 ≤ n) (h1 : n ≤ 9223372036854775807) : IntKind.i64.wrap (n.tdiv 256) = n.fdiv 256 ∧ 0 ≤ n.fdiv 256 ∧ n.fdiv 256 ≤ 9223372036854775807 := by
  obtain ⟨a, b⟩ := fdiv_nonneg h0
  rw [Int.tdiv_eq_ediv_of_nonneg h0, b]
  exact ⟨wrap_id (by omega) (by omega), by omega, by omega⟩
theorem putB {n : Int} (h0 : 0 ≤ n) : UInt8.ofNat (IntKind.u8.wrap (n.tmod 256)).toNat = byteOf n := by
  rw [byteOf, u8_wrap, u8_wrap, Int.tmod_eq_emod_of_nonneg h0, Int.emod_emod_of_dvd _ (by decide)]
theorem leB1 (n : Int) : leB n 1 = [byteOf n] := rfl
open Go.Proofs
structure fits01_St where
  n : Int
  w : Int
  i : Nat
def fits01_c (n : Int) (w : Int) (i : Nat) : Env RC := [(0, .int .i64 n), (1, .int .i64 w), (5, .int .i64 (i : Int))]
def fits01_o (n : Int) (w : Int) (i : Nat) : List (Obj RC) := []
noncomputable def fits01_r (n : Int) (w : Int) (i : Nat) := rndO s06 uc_2 73 4 40 0 [0, 1, 5] [0] [] (fits01_c n w i) (fits01_o n w i)
theorem fits01_eq (n : Int) (w : Int) (i : Nat) : fits01_r n w i = (bif decide ((↑i : Int) < w) then some ((X.normal, [(0, D.int .i64 (IntKind.wrap .i64 (Int.tdiv n (256 : Int)))), (1, D.int .i64 w), (5, D.int .i64 (IntKind.wrap .i64 ((↑i : Int) + (1 : Int))))]), []) else some ((X.exit (0 : Nat), [(0, D.int .i64 n)]), [])) := by kernel_rfl
def fits01_fin (n : Int) (w : Int) (i : Nat) : RT RC := .leaf (.exit 0) [(0, .int .i64 (n / 256 ^ (w.toNat - i)))] []
def fits01_Inv (n : Int) (w : Int) (i : Nat) : Prop := 0 ≤ n ∧ n ≤ 9223372036854775807 ∧ (i : Int) ≤ w ∧ w ≤ 6
def fits01_S : LoopR RC fits01_St where
  k := 0
  canon q := fits01_c q.n q.w q.i
  objs q := fits01_o q.n q.w q.i
  fin q := fits01_fin q.n q.w q.i
  Inv q := fits01_Inv q.n q.w q.i
  μ q := q.w.toNat - q.i
theorem fits01_round (n : Int) (w : Int) (i : Nat) (hI : fits01_Inv n w i) : Leaf (fits01_r n w i) (LedR fits01_S ⟨n, w, i⟩) := by
  rw [fits01_eq]
  unfold fits01_Inv at hI
  obtain ⟨h1, h2, h3, h4⟩ := hI
  by_cases hlt : (i : Int) < w
  · have w_succ : IntKind.i64.wrap ((i : Int) + 1) = ((i + 1 : Nat) : Int) := by rw [wrap_id (by omega) (by omega)]; simp
    have hd : IntKind.i64.wrap (n.tdiv 256) = n / 256 := by rw [Int.tdiv_eq_ediv_of_nonneg h1]; exact wrap_id (by omega) (by omega)
    simp only [hlt, decide_true, cond_true, w_succ, hd]
    refine leafR_go ⟨n / 256, w, i + 1⟩ (by simp only [fits01_S, fits01_Inv]; omega) (by simp only [fits01_S]; omega) ?_ rfl rfl
    simp only [fits01_S, fits01_fin]
    have : w.toNat - i = (w.toNat - (i + 1)) + 1 := by omega
    rw [this, Int.pow_succ', Int.ediv_ediv_of_nonneg (by omega)]
  · have hi : w.toNat - i = 0 := by omega
    simp only [hlt, decide_false, cond_false]
    exact leafR_exit [] (by simp [fits01_S, fits01_fin, hi, RT.val]) rfl
def fits01_d (env : Env RC) (os : List (Obj RC)) : Option (Bool × fits01_St) := match env, os with
  | [(0, .int .i64 n), (1, .int .i64 w), (5, .int .i64 x0)], [] => staticD (true) (decide (x0 = 0) && decide (0 ≤ n ∧ n ≤ 9223372036854775807 ∧ 0 ≤ w ∧ w ≤ 6), ⟨n, w, 0⟩)
  | _, _ => none
noncomputable def uf_1 := uc_2.addLoop 73 4 (sumR s06 [] [0, 1, 5] fits01_S fits01_d)
theorem uf_1_laws : FLaws Try.prog s06 uf_1 := by
  refine uc_2_laws.addRoundsR s06_laws (by kernel_rfl) fits01_S 40 [0, 1, 5] [0] [] [0, 1, 5] fits01_d (fun q hI => ?_) ?_
  · obtain ⟨n, w, i⟩ := q
    refine ⟨?_, ?_, fits01_round n w i hI⟩
    · simp_all [RefsOK, fits01_S, fits01_c, fits01_o, fits01_Inv, D.refs, Obj.refs, rEnc]
    · simp_all [fits01_S, fits01_fin, fits01_o, fits01_Inv, RT.refsOK, RefsOK, D.refs, Obj.refs, rEnc]
  · intro env os b q hd_ hb
    unfold fits01_d at hd_
    split at hd_
    · obtain ⟨hs, hd_⟩ := staticD_some hd_
      cases hd_
      simp only [Bool.and_eq_true, decide_eq_true_eq] at hb
      obtain ⟨rfl, hq⟩ := hb
      exact ⟨by simp only [fits01_S, fits01_Inv]; omega, rfl, rfl⟩
    · cases hd_
def fits1f_s (n : Int) (w : Int) : Option (Bool × D RC) := some (decide (n ≤ 9223372036854775807 ∧ 1 ≤ w ∧ w ≤ 6) && fitsB n w.toNat, .bool true)
def fits1f_sp : List (D RC) → Option (Bool × D RC)
  | [.int .i64 n, .int .i64 w] => fits1f_s n w
  | _ => none
noncomputable def fits1f_e (n : Int) (w : Int) := evF s06 uf_1 40 73 [.int .i64 n, .int .i64 w]
theorem fits1f_eq (n : Int) (w : Int) : fits1f_e n w = (let Z0 : DO_ := some (D.bool false); bif decide (w < (1 : Int)) then Z0 else bif decide ((6 : Int) < w) then Z0 else bif decide (n < (0 : Int)) then Z0 else bif decide ((0 : Int) ≤ n ∧ n ≤ (9223372036854775807 : Int) ∧ (0 : Int) ≤ w ∧ w ≤ (6 : Int)) then some (D.bool (n / (256 : Int) ^ (Int.toNat w - 0) == (0 : Int))) else none) := by kernel_rfl
theorem fits1f_ok (n : Int) (w : Int) (h : (decide (n ≤ 9223372036854775807 ∧ 1 ≤ w ∧ w ≤ 6) && fitsB n w.toNat) = true) : fits1f_e n w = some (.bool true) := by
  (rw [fits1f_eq]; conv => zeta)
  simp only [Bool.and_eq_true, decide_eq_true_eq] at h
  obtain ⟨⟨hn, hw1, hw6⟩, hf⟩ := h
  have h0 : 0 ≤ n := (fitsB_iff.1 hf).1
  have w1 : ¬ w < 1 := by omega
  have w6 : ¬ 6 < w := by omega
  have n0 : ¬ n < 0 := by omega
  have hc : (0 ≤ n ∧ n ≤ 9223372036854775807 ∧ 0 ≤ w ∧ w ≤ 6) := by omega
  have hp : (0 : Int) < 256 ^ w.toNat := Int.pow_pos (by decide)
  have hz : n / 256 ^ w.toNat = 0 := (Int.ediv_eq_zero_iff_of_pos' h0 hp).2 (fitsB_iff.1 hf).2
  rw [decide_eq_false w1, decide_eq_false w6, decide_eq_false n0, decide_eq_true hc]
  simp only [cond_false, cond_true, Nat.sub_zero, hz]
  rfl
noncomputable def uf_2 := uf_1.addSpec 73 fits1f_sp
theorem uf_2_laws : FLaws Try.prog s06 uf_2 := uf_1_laws.addEv s06_laws fun args d h => by
  unfold fits1f_sp at h
  split at h
  · unfold fits1f_s at h
    have h1 := congrArg Prod.fst (Option.some.inj h)
    obtain rfl : _ = d := congrArg Prod.snd (Option.some.inj h)
    exact ⟨by simp [D.refs], 40, fits1f_ok _ _ h1⟩
  · cases h
structure get01_St where
  c : Bool
  b : List UInt8
  a : Int
  i : Int
  m : Nat
def get01_c (c : Bool) (b : List UInt8) (a : Int) (i : Int) (m : Nat) : Env RC := [(0, .sl (C := RC) .u8 c b), (1, .int .i64 a), (9, .int .i64 i), (8, .int .i64 (m : Int))]
def get01_o (c : Bool) (b : List UInt8) (a : Int) (i : Int) (m : Nat) : List (Obj RC) := []
noncomputable def get01_r (c : Bool) (b : List UInt8) (a : Int) (i : Int) (m : Nat) := rndO s06 uf_2 65 7 40 0 [0, 1, 9, 8] [8] [] (get01_c c b a i m) (get01_o c b a i m)
theorem get01_eq (c : Bool) (b : List UInt8) (a : Int) (i : Int) (m : Nat) : get01_r c b a i m = (let Z0 : Int := IntKind.wrap .i64 (a + i); bif decide ((0 : Int) ≤ i) then bif decide ((0 : Int) ≤ Z0 ∧ Z0 < (↑b.length : Int)) then some ((X.normal, [(0, D.sl RTy.u8 c b), (1, D.int .i64 a), (9, D.int .i64 (IntKind.wrap .i64 (i - (1 : Int)))), (8, D.int .i64 (IntKind.wrap .i64 (IntKind.wrap .i64 ((256 : Int) * (↑m : Int)) + IntKind.wrap .i64 (↑(UInt8.toNat (List.getD b Z0.toNat (UInt8.ofBitVec (BitVec.ofNat (8 : Nat) (nat_lit 0))))) : Int))))]), []) else none else some ((X.exit (0 : Nat), [(8, D.int .i64 (↑m : Int))]), [])) := by kernel_rfl
def get01_fin (c : Bool) (b : List UInt8) (a : Int) (i : Int) (m : Nat) : RT RC := .leaf (.exit 0) [(8, .int .i64 ((m * 256 ^ (i + 1).toNat + leVal ((b.drop a.toNat).take (i + 1).toNat) : Nat) : Int))] []
def get01_Inv (c : Bool) (b : List UInt8) (a : Int) (i : Int) (m : Nat) : Prop := -1 ≤ i ∧ i ≤ 5 ∧ 0 ≤ a ∧ a + i + 1 ≤ b.length ∧ b.length ≤ 1000000000000 ∧ m < 256 ^ (5 - i).toNat
def get01_S : LoopR RC get01_St where
  k := 0
  canon q := get01_c q.c q.b q.a q.i q.m
  objs q := get01_o q.c q.b q.a q.i q.m
  fin q := get01_fin q.c q.b q.a q.i q.m
  Inv q := get01_Inv q.c q.b q.a q.i q.m
  μ q := (q.i + 1).toNat
theorem get01_round (c : Bool) (b : List UInt8) (a : Int) (i : Int) (m : Nat) (hI : get01_Inv c b a i m) : Leaf (get01_r c b a i m) (LedR get01_S ⟨c, b, a, i, m⟩) := by
  (rw [get01_eq]; conv => zeta)
  unfold get01_Inv at hI
  obtain ⟨h1, h2, h3, h4, h5, h6⟩ := hI
  by_cases hlt : 0 ≤ i
  · have w1 : IntKind.i64.wrap (a + i) = a + i := wrap_id (by omega) (by omega)
    have w2 : IntKind.i64.wrap (i - 1) = i - 1 := wrap_id (by omega) (by omega)
    have d1 : decide (0 ≤ a + i ∧ a + i < b.length) = true := by simp; omega
    have hm : m < 256 ^ 5 := Nat.lt_of_lt_of_le h6 (Nat.pow_le_pow_right (by omega) (by omega))
    have hx := (b.getD (a + i).toNat ⟨0#8⟩).toNat_lt
    have w3 : IntKind.i64.wrap (256 * (m : Int)) = ((256 * m : Nat) : Int) := by rw [wrap_id (by omega) (by omega)]; simp
    have w4 : IntKind.i64.wrap (((256 * m : Nat) : Int) + ((b.getD (a + i).toNat ⟨0#8⟩).toNat : Int)) = ((256 * m + (b.getD (a + i).toNat ⟨0#8⟩).toNat : Nat) : Int) := by
      rw [wrap_id (by omega) (by omega)]; simp
    simp only [hlt, decide_true, cond_true, w1, w2, d1, w3, u8_i64, w4]
    have hk : (5 - (i - 1)).toNat = (5 - i).toNat + 1 := by omega
    have hI' : get01_Inv c b a (i - 1) (256 * m + (b.getD (a + i).toNat ⟨0#8⟩).toNat) := ⟨by omega, by omega, h3, by omega, h5, by rw [hk, Nat.pow_succ]; omega⟩
    refine leafR_go ⟨c, b, a, i - 1, 256 * m + (b.getD (a + i).toNat ⟨0#8⟩).toNat⟩ hI' (by simp only [get01_S]; omega) ?_ rfl rfl
    · simp only [get01_S, get01_fin]
      obtain ⟨k, rfl⟩ : ∃ k : Nat, i = k := ⟨i.toNat, by omega⟩
      obtain ⟨p, rfl⟩ : ∃ p : Nat, a = p := ⟨a.toNat, by omega⟩
      have e1 : ((k : Int) - 1 + 1).toNat = k := by omega
      have e2 : ((k : Int) + 1).toNat = k + 1 := by omega
      have e3 : ((p : Int) + (k : Int)).toNat = p + k := by omega
      have e4 : ((p : Int)).toNat = p := by omega
      rw [e1, e2, e3, e4]
      have hl : ((b.drop p).take k).length = k := by simp; omega
      have hg : (b.drop p)[k]? = some (b.getD (p + k) ⟨0#8⟩) := by
        simp [List.getElem?_drop, show p + k < b.length by omega]
      rw [List.take_add_one, leVal_append, hl, hg]
      simp only [Option.toList_some, leVal]
      have : (256 * m + (b.getD (p + k) ⟨0#8⟩).toNat) * 256 ^ k + leVal ((b.drop p).take k) = m * 256 ^ (k + 1) + (leVal ((b.drop p).take k) + 256 ^ k * ((b.getD (p + k) ⟨0#8⟩).toNat + 256 * 0)) := by
        rw [Nat.pow_succ, Nat.add_mul, Nat.mul_comm 256 m, Nat.mul_assoc, Nat.mul_comm 256 (256 ^ k), Nat.mul_comm (b.getD (p + k) ⟨0#8⟩).toNat]; simp; omega
      rw [this]
  · have e0 : (i + 1).toNat = 0 := by omega
    simp only [hlt, decide_false, cond_false]
    exact leafR_exit [] (by simp [get01_S, get01_fin, e0, RT.val, leVal]) rfl
def get01_d (env : Env RC) (os : List (Obj RC)) : Option (Bool × get01_St) := match env, os with
  | [(0, .sl .u8 c b), (1, .int .i64 a), (9, .int .i64 i), (8, .int .i64 x0)], [] => staticD (true) (decide (x0 = 0) && decide (-1 ≤ i ∧ i ≤ 5 ∧ 0 ≤ a ∧ a + i + 1 ≤ b.length ∧ b.length ≤ 1000000000000), ⟨c, b, a, i, 0⟩)
  | _, _ => none
noncomputable def uf_3 := uf_2.addLoop 65 7 (sumR s06 [] [0, 1, 9, 8] get01_S get01_d)
theorem uf_3_laws : FLaws Try.prog s06 uf_3 := by
  refine uf_2_laws.addRoundsR s06_laws (by kernel_rfl) get01_S 40 [0, 1, 9, 8] [8] [] [0, 1, 9, 8] get01_d (fun q hI => ?_) ?_
  · obtain ⟨c, b, a, i, m⟩ := q
    refine ⟨?_, ?_, get01_round c b a i m hI⟩
    · simp_all [RefsOK, get01_S, get01_c, get01_o, get01_Inv, D.refs, Obj.refs, rEnc]
    · simp_all [get01_S, get01_fin, get01_o, get01_Inv, RT.refsOK, RefsOK, D.refs, Obj.refs, rEnc]
  · intro env os b q hd_ hb
    unfold get01_d at hd_
    split at hd_
    · obtain ⟨hs, hd_⟩ := staticD_some hd_
      cases hd_
      simp only [Bool.and_eq_true, decide_eq_true_eq] at hb
      obtain ⟨rfl, h⟩ := hb
      exact ⟨⟨h.1, h.2.1, h.2.2.1, h.2.2.2.1, h.2.2.2.2, Nat.pow_pos (by omega)⟩, rfl, rfl⟩
    · cases hd_
def get1f_s (c : Bool) (b : List UInt8) (a : Int) (w : Int) : Option (Bool × D RC) := some (decide (b.length ≤ 1000000000000), .tup (.acons (.int .i64 (getP b a w).1) (.acons (.int .i64 (getP b a w).2) .anil)))
def get1f_sp : List (D RC) → Option (Bool × D RC)
  | [.sl .u8 c b, .int .i64 a, .int .i64 w] => get1f_s c b a w
  | _ => none
noncomputable def get1f_e (c : Bool) (b : List UInt8) (a : Int) (w : Int) := evF s06 uf_3 40 65 [.sl (C := RC) .u8 c b, .int .i64 a, .int .i64 w]
theorem get1f_eq (c : Bool) (b : List UInt8) (a : Int) (w : Int) : get1f_e c b a w = (let Z0 : D RC := D.int .i64 0; let Z1 : DO_ := some (D.tup (D.acons Z0 (D.acons (D.int .i64 2) .anil))); let Z2 : DO_ := some (D.tup (D.acons Z0 (D.acons (D.int .i64 50) .anil))); let Z3 : Nat := List.length b; let Z4 : Int := (↑Z3 : Int); let Z5 : Int := IntKind.wrap .i64 (w - (1 : Int)); let Z6 : Nat := Int.toNat (Z5 + (1 : Int)); bif decide (w < (1 : Int)) then Z1 else bif decide ((6 : Int) < w) then Z1 else bif decide (a < (0 : Int)) then Z2 else bif lenOK Z3 then bif decide (Z4 < a) then Z2 else bif lenOK Z3 then bif decide (IntKind.wrap .i64 (Z4 - a) < w) then Z2 else bif decide ((-1 : Int) ≤ Z5 ∧ Z5 ≤ (5 : Int) ∧ (0 : Int) ≤ a ∧ a + Z5 + (1 : Int) ≤ Z4 ∧ Z3 ≤ (1000000000000 : Nat)) then some (D.tup (D.acons (D.int .i64 (↑((0 : Nat) * (256 : Nat) ^ Z6 + leVal (List.take Z6 (List.drop a.toNat b))) : Int)) (.acons Z0 .anil))) else none else none else none) := by kernel_rfl
theorem get1f_ok (c : Bool) (b : List UInt8) (a : Int) (w : Int) (h : (decide (b.length ≤ 1000000000000)) = true) : get1f_e c b a w = some (.tup (.acons (.int .i64 (getP b a w).1) (.acons (.int .i64 (getP b a w).2) .anil))) := by
  (rw [get1f_eq]; conv => zeta)
  have hl := of_decide_eq_true h
  have hl' : lenOK b.length = true := lenOK_of (by omega)
  simp only [hl']
  by_cases hw : 1 ≤ w ∧ w ≤ 6
  · have w1 : decide (w < 1) = false := by simp; omega
    have w2 : decide (6 < w) = false := by simp; omega
    have w3 : (decide (1 ≤ w) && decide (w ≤ 6)) = true := by simp; omega
    have w4 : IntKind.i64.wrap (w - 1) = w - 1 := wrap_id (by omega) (by omega)
    simp only [w1, w2, cond_false, cond_true, getP, w3, w4]
    by_cases ha : 0 ≤ a ∧ a + w ≤ b.length
    · have a1 : decide (a < 0) = false := by simp; omega
      have a2 : decide ((b.length : Int) < a) = false := by simp; omega
      have e1 : IntKind.i64.wrap ((b.length : Int) - a) = b.length - a := wrap_id (by omega) (by omega)
      have a3 : decide ((b.length : Int) - a < w) = false := by simp; omega
      have a5 : (decide (0 ≤ a) && decide (a + w ≤ (b.length : Int))) = true := by simp; omega
      have a6 : decide (-1 ≤ w - 1 ∧ w - 1 ≤ 5 ∧ 0 ≤ a ∧ a + (w - 1) + 1 ≤ (b.length : Int) ∧ b.length ≤ 1000000000000) = true := by simp; omega
      have e2 : (w - 1 + 1).toNat = w.toNat := by omega
      simp [a1, a2, e1, a3, a5, a6, e2]
    · have a5 : (decide (0 ≤ a) && decide (a + w ≤ (b.length : Int))) = false := by simp; omega
      simp only [a5, cond_false]
      by_cases a1 : a < 0
      · simp [a1]
      · by_cases a2 : (b.length : Int) < a
        · simp [a1, a2]
        · have e1 : IntKind.i64.wrap ((b.length : Int) - a) = b.length - a := wrap_id (by omega) (by omega)
          have a3 : decide ((b.length : Int) - a < w) = true := by simp; omega
          simp [a1, a2, e1, a3]
  · have w3 : (decide (1 ≤ w) && decide (w ≤ 6)) = false := by simp; omega
    simp only [getP, w3]
    by_cases w1 : w < 1
    · simp [w1]
    · have w2 : 6 < w := by omega
      simp [w1, w2]
noncomputable def uf_4 := uf_3.addSpec 65 get1f_sp
theorem uf_4_laws : FLaws Try.prog s06 uf_4 := uf_3_laws.addEv s06_laws fun args d h => by
  unfold get1f_sp at h
  split at h
  · unfold get1f_s at h
    have h1 := congrArg Prod.fst (Option.some.inj h)
    obtain rfl : _ = d := congrArg Prod.snd (Option.some.inj h)
    exact ⟨by simp [D.refs], 40, get1f_ok _ _ _ _ h1⟩
  · cases h
open Go.Proofs
structure writtenR_St where
  c : Bool
  l : List Write
  i : Nat
def writtenR_c (c : Bool) (l : List Write) (i : Nat) : Env RC := [(0, .sl (C := RC) .write c l), (2, .bool false), (3, .int .i64 (i : Int))]
def writtenR_o (c : Bool) (l : List Write) (i : Nat) : List (Obj RC) := []
noncomputable def writtenR_r (c : Bool) (l : List Write) (i : Nat) := rndO s06 uf_4 48 4 40 0 [0, 2, 3] [2] [] (writtenR_c c l i) (writtenR_o c l i)
theorem writtenR_eq (c : Bool) (l : List Write) (i : Nat) : writtenR_r c l i = (let Z0 : Int := (↑i : Int); let Z1 : Int := (↑l.length : Int); let Z2 : Bool := decide ((0 : Int) ≤ Z0 ∧ Z0 < Z1); let Z3 : Write := Write.mk (0 : Int) (0 : Int); let Z4 : Write := List.getD l Z0.toNat Z3; let Z5 : Int := Write.key Z4; let Z6 : RO_ := some ((X.ret, [(2, D.bool false)]), []); let Z7 : Int := IntKind.wrap .i64 (Z0 - (1 : Int)); let Z8 : RO_ := some ((X.normal, [(0, D.sl RTy.write c l), (2, D.bool false), (3, D.int .i64 (IntKind.wrap .i64 (Z0 + (1 : Int))))]), []); bif lenOK l.length then bif decide (Z0 < Z1) then bif Z2 then bif decide (Z5 < (0 : Int)) then Z6 else bif Z2 then bif decide ((24 : Int) ≤ Z5) then Z6 else bif Z2 then bif decide (Write.value Z4 < (0 : Int)) then Z6 else bif Z2 then bif decide ((255 : Int) < Write.value Z4) then Z6 else bif decide ((0 : Int) < Z0) then bif Z2 then bif decide ((0 : Int) ≤ Z7 ∧ Z7 < Z1) then bif decide (Z5 ≤ Write.key (List.getD l Z7.toNat Z3)) then Z6 else Z8 else none else none else Z8 else none else none else none else none else some ((X.exit (0 : Nat), [(2, D.bool false)]), []) else none) := by kernel_rfl
def writtenR_fin (c : Bool) (l : List Write) (i : Nat) : RT RC := .br (eachAt oneWB twoWB l i) (.leaf (.exit 0) [(2, .bool false)] []) (.leaf .ret [(2, .bool false)] [])
def writtenR_Inv (c : Bool) (l : List Write) (i : Nat) : Prop := i ≤ l.length ∧ l.length ≤ 9223372036854775807
def writtenR_S : LoopR RC writtenR_St where
  k := 0
  canon q := writtenR_c q.c q.l q.i
  objs q := writtenR_o q.c q.l q.i
  fin q := writtenR_fin q.c q.l q.i
  Inv q := writtenR_Inv q.c q.l q.i
  μ q := q.l.length - q.i
theorem writtenR_round (c : Bool) (l : List Write) (i : Nat) (hI : writtenR_Inv c l i) : Leaf (writtenR_r c l i) (LedR writtenR_S ⟨c, l, i⟩) := by
  (rw [writtenR_eq]; conv => zeta)
  unfold writtenR_Inv at hI
  obtain ⟨h1, h2⟩ := hI
  have hlk := lenOK_of h2
  by_cases hlt : i < l.length
  · have w_succ : IntKind.i64.wrap ((i : Int) + 1) = ((i + 1 : Nat) : Int) := by rw [wrap_id (by omega) (by omega)]; simp
    have d_lt : decide ((i : Int) < l.length) = true := by simp; omega
    have d_in : decide (0 ≤ (i : Int) ∧ (i : Int) < l.length) = true := by simp; omega
    have t_nat : ((i : Int)).toNat = i := by simp
    have w_pred : IntKind.i64.wrap ((i : Int) - 1) = (i : Int) - 1 := wrap_id (by omega) (by omega)
    have t_natp : ((i : Int) - 1).toNat = i - 1 := by omega
    simp only [w_succ, d_lt, d_in, t_nat, w_pred, t_natp, cond_true]
    simp only [hlk, cond_true]
    have hst := eachAt_step oneWB twoWB l i (⟨0, 0⟩ : Write) hlt
    generalize l.getD i (⟨0, 0⟩ : Write) = x at hst ⊢
    generalize l.getD (i - 1) (⟨0, 0⟩ : Write) = y at hst ⊢
    have hgo : oneWB x = true → (i = 0 ∨ twoWB y x = true) → Leaf (some ((X.normal, writtenR_c c l (i + 1)), [])) (LedR writtenR_S ⟨c, l, i⟩) := fun a b =>
      leafR_go ⟨c, l, i + 1⟩ ⟨hlt, h2⟩ (by simp only [writtenR_S]; omega) (by simp only [writtenR_S, writtenR_fin, hst, a]; rcases b with b | b <;> simp [b]) rfl rfl
    have hno : ¬ (oneWB x = true ∧ (i = 0 ∨ twoWB y x = true)) → Leaf (some ((X.ret, [(2, D.bool false)]), [])) (LedR writtenR_S ⟨c, l, i⟩) := fun he => leafR_ret [] (by
      have : eachAt oneWB twoWB l i = false := by rw [hst]; simp only [Bool.and_eq_false_iff]; by_cases a : oneWB x = true <;> by_cases b : i = 0 <;> simp_all
      simp [writtenR_S, writtenR_fin, this, RT.val]) rfl
    simp only [oneWB, twoWB, withinB, Bool.and_eq_true, decide_eq_true_eq] at hgo hno
    by_cases hi : i = 0
    · have d0 : decide (0 < (i : Int)) = false := by simp; omega
      simp only [d0, cond_false]
      repeat' (first | (refine leaf_cond.2 ⟨fun hc_ => ?_, fun hc_ => ?_⟩ <;> simp only [decide_eq_true_eq, decide_eq_false_iff_not, beq_iff_eq, beq_eq_false_iff_ne, bne_iff_ne, ne_eq, Bool.not_eq_true, Bool.not_eq_false, bne_eq_false_iff_eq, decide_eq_decide, Bool.true_eq_false, Bool.false_eq_true] at hc_))
      all_goals first | (exfalso; omega) | exact hno (by omega) | (apply hgo <;> omega)
    · have d_pos : decide (0 < (i : Int)) = true := by simp; omega
      have d_inp : decide (0 ≤ (i : Int) - 1 ∧ (i : Int) - 1 < l.length) = true := by simp; omega
      simp only [d_pos, d_inp, cond_true]
      repeat' (first | (refine leaf_cond.2 ⟨fun hc_ => ?_, fun hc_ => ?_⟩ <;> simp only [decide_eq_true_eq, decide_eq_false_iff_not, beq_iff_eq, beq_eq_false_iff_ne, bne_iff_ne, ne_eq, Bool.not_eq_true, Bool.not_eq_false, bne_eq_false_iff_eq, decide_eq_decide, Bool.true_eq_false, Bool.false_eq_true] at hc_))
      all_goals first | (exfalso; omega) | exact hno (by omega) | (apply hgo <;> omega)
  · have hi : i = l.length := by omega
    have c1 : decide ((i : Int) < l.length) = false := by simp; omega
    simp only [hlk, c1, cond_true, cond_false]
    exact leafR_exit [] (by simp [writtenR_S, writtenR_fin, hi, eachAt, eachB, RT.val]) rfl
def writtenR_d (env : Env RC) (os : List (Obj RC)) : Option (Bool × writtenR_St) := match env, os with
  | [(0, .sl .write c l), (2, .bool false), (3, .int .i64 x0)], [] => staticD (true) (decide (x0 = 0) && decide (l.length ≤ 9223372036854775807), ⟨c, l, 0⟩)
  | _, _ => none
noncomputable def ug_1 := uf_4.addLoop 48 4 (sumR s06 [] [0, 2, 3] writtenR_S writtenR_d)
theorem ug_1_laws : FLaws Try.prog s06 ug_1 := by
  refine uf_4_laws.addRoundsR s06_laws (by kernel_rfl) writtenR_S 40 [0, 2, 3] [2] [] [0, 2, 3] writtenR_d (fun q hI => ?_) ?_
  · obtain ⟨c, l, i⟩ := q
    refine ⟨?_, ?_, writtenR_round c l i hI⟩
    · simp_all [RefsOK, writtenR_S, writtenR_c, writtenR_o, writtenR_Inv, D.refs, Obj.refs, rEnc]
    · simp_all [writtenR_S, writtenR_fin, writtenR_o, writtenR_Inv, RT.refsOK, RefsOK, D.refs, Obj.refs, rEnc]
  · intro env os b q hd_ hb
    unfold writtenR_d at hd_
    split at hd_
    · obtain ⟨hs, hd_⟩ := staticD_some hd_
      cases hd_
      simp only [Bool.and_eq_true, decide_eq_true_eq] at hb
      obtain ⟨rfl, hl⟩ := hb
      exact ⟨⟨Nat.zero_le _, hl⟩, rfl, rfl⟩
    · cases hd_
def writtenRf_s (c : Bool) (l : List Write) : Option (Bool × D RC) := some (lenOK l.length, .bool (writtenL l))
def writtenRf_sp : List (D RC) → Option (Bool × D RC)
  | [.sl .write c l] => writtenRf_s c l
  | _ => none
noncomputable def writtenRf_e (c : Bool) (l : List Write) := evF s06 ug_1 40 48 [.sl (C := RC) .write c l]
theorem writtenRf_eq (c : Bool) (l : List Write) : writtenRf_e c l = (let Z0 : Nat := List.length l; bif lenOK Z0 then bif decide ((4 : Int) < (↑Z0 : Int)) then some (D.bool false) else bif decide (Z0 ≤ (9223372036854775807 : Nat)) then bif eachAt oneWB twoWB l (0 : Nat) then some (D.bool true) else some (D.bool false) else none else none) := by kernel_rfl
theorem writtenRf_ok (c : Bool) (l : List Write) (h : (lenOK l.length) = true) : writtenRf_e c l = some (.bool (writtenL l)) := by
  (rw [writtenRf_eq]; conv => zeta)
  have h2 : l.length ≤ 9223372036854775807 := lenOK_le h
  rw [writtenL, h]
  by_cases h4 : l.length ≤ 4
  · have : ¬ (4 : Int) < l.length := by omega
    simp [h4, h2, this]
    cases eachAt oneWB twoWB l 0 <;> rfl
  · have : (4 : Int) < l.length := by omega
    simp [h4, this]
noncomputable def ug_2 := ug_1.addSpec 48 writtenRf_sp
theorem ug_2_laws : FLaws Try.prog s06 ug_2 := ug_1_laws.addEv s06_laws fun args d h => by
  unfold writtenRf_sp at h
  split at h
  · unfold writtenRf_s at h
    have h1 := congrArg Prod.fst (Option.some.inj h)
    obtain rfl : _ = d := congrArg Prod.snd (Option.some.inj h)
    exact ⟨by simp [D.refs], 40, writtenRf_ok _ _ h1⟩
  · cases h
def mayR_s (p : Int) (y : Bool) (c : Bool) (l : List Write) : Option (Bool × D RC) := some (lenOK l.length, .bool (mayB ⟨p, y, l⟩))
def mayR_sp : List (D RC) → Option (Bool × D RC)
  | [.acons (.int .i64 p) (.acons (.bool y) (.acons (.sl .write c l) .anil))] => mayR_s p y c l
  | _ => none
noncomputable def mayR_e (p : Int) (y : Bool) (c : Bool) (l : List Write) := evF s06 ug_2 40 25 [.acons (.int .i64 p) (.acons (.bool y) (.acons (.sl (C := RC) .write c l) .anil))]
theorem mayR_eq (p : Int) (y : Bool) (c : Bool) (l : List Write) : mayR_e p y c l = (let Z0 : Bool := lenOK l.length; let Z1 : DO_ := some (D.bool false); bif decide ((1 : Int) ≤ p) then bif decide (p ≤ (1048575 : Int)) then bif Z0 then bif writtenL l then bif y then some (D.bool true) else bif Z0 then some (D.bool ((↑l.length : Int) == (0 : Int))) else none else Z1 else none else Z1 else Z1) := by kernel_rfl
theorem mayR_ok (p : Int) (y : Bool) (c : Bool) (l : List Write) (h : (lenOK l.length) = true) : mayR_e p y c l = some (.bool (mayB ⟨p, y, l⟩)) := by
  (rw [mayR_eq]; conv => zeta)
  have h3 : (((l.length : Nat) : Int) = 0) ↔ l.length = 0 := by omega
  simp only [mayB, h, withinB]
  cases decide (1 ≤ p) <;> cases decide (p ≤ 1048575) <;> cases writtenL l <;> cases y <;> simp [h3]
  cases l <;> simp
  omega
noncomputable def ug_3 := ug_2.addSpec 25 mayR_sp
theorem ug_3_laws : FLaws Try.prog s06 ug_3 := ug_2_laws.addEv s06_laws fun args d h => by
  unfold mayR_sp at h
  split at h
  · unfold mayR_s at h
    have h1 := congrArg Prod.fst (Option.some.inj h)
    obtain rfl : _ = d := congrArg Prod.snd (Option.some.inj h)
    exact ⟨by simp [D.refs], 40, mayR_ok _ _ _ _ h1⟩
  · cases h
open Go.Proofs
structure sameRl_St where
  p : Int
  y : Bool
  c : Bool
  l : List Write
  q : Int
  z : Bool
  d : Bool
  m : List Write
  i : Nat
def sameRl_c (p : Int) (y : Bool) (c : Bool) (l : List Write) (q : Int) (z : Bool) (d : Bool) (m : List Write) (i : Nat) : Env RC := [(2, .ptr 0 []), (3, .ptr 1 []), (4, .bool false), (5, .int .i64 (i : Int))]
def sameRl_o (p : Int) (y : Bool) (c : Bool) (l : List Write) (q : Int) (z : Bool) (d : Bool) (m : List Write) (i : Nat) : List (Obj RC) := [.var 27 (.acons (.int .i64 p) (.acons (.bool y) (.acons (.sl (C := RC) .write c l) .anil))), .var 27 (.acons (.int .i64 q) (.acons (.bool z) (.acons (.sl (C := RC) .write d m) .anil)))]
noncomputable def sameRl_r (p : Int) (y : Bool) (c : Bool) (l : List Write) (q : Int) (z : Bool) (d : Bool) (m : List Write) (i : Nat) := rndO s06 ug_3 21 4 40 2 [2, 3, 4, 5] [4] [.slot 2 0, .slot 3 0] (sameRl_c p y c l q z d m i) (sameRl_o p y c l q z d m i)
theorem sameRl_eq (p : Int) (y : Bool) (c : Bool) (l : List Write) (q : Int) (z : Bool) (d : Bool) (m : List Write) (i : Nat) : sameRl_r p y c l q z d m i = (let Z0 : Int := (↑i : Int); let Z1 : Write := Write.mk (0 : Int) (0 : Int); let Z2 : Write := List.getD l Z0.toNat Z1; let Z3 : Write := List.getD m Z0.toNat Z1; let Z4 : List (Option (Obj RC)) := [some (Obj.var 27 (.acons (D.int .i64 p) (.acons (D.bool y) (.acons (D.sl RTy.write c l) .anil)))), some (Obj.var 27 (.acons (D.int .i64 q) (.acons (D.bool z) (.acons (D.sl RTy.write d m) .anil))))]; bif lenOK l.length then bif decide (Z0 < (↑l.length : Int)) then bif decide ((0 : Int) ≤ Z0 ∧ Z0 < (↑l.length : Int)) then bif decide ((0 : Int) ≤ Z0 ∧ Z0 < (↑m.length : Int)) then bif !(Write.key Z2 == Write.key Z3 && (Write.value Z2 == Write.value Z3 && true)) then some ((X.ret, [(4, D.bool false)]), Z4) else some ((X.normal, [(2, D.ptr 0 []), (3, D.ptr 1 []), (4, D.bool false), (5, D.int .i64 (IntKind.wrap .i64 (Z0 + (1 : Int))))]), Z4) else none else none else some ((X.exit (0 : Nat), [(4, D.bool false)]), Z4) else none) := by kernel_rfl
def sameRl_fin (p : Int) (y : Bool) (c : Bool) (l : List Write) (q : Int) (z : Bool) (d : Bool) (m : List Write) (i : Nat) : RT RC := .br (decide (l.drop i = m.drop i)) (.leaf (.exit 0) [(4, .bool false)] (sameRl_o p y c l q z d m i)) (.leaf .ret [(4, .bool false)] (sameRl_o p y c l q z d m i))
def sameRl_Inv (p : Int) (y : Bool) (c : Bool) (l : List Write) (q : Int) (z : Bool) (d : Bool) (m : List Write) (i : Nat) : Prop := i ≤ l.length ∧ l.length ≤ 9223372036854775807 ∧ l.length = m.length
def sameRl_S : LoopR RC sameRl_St where
  k := 2
  canon q := sameRl_c q.p q.y q.c q.l q.q q.z q.d q.m q.i
  objs q := sameRl_o q.p q.y q.c q.l q.q q.z q.d q.m q.i
  fin q := sameRl_fin q.p q.y q.c q.l q.q q.z q.d q.m q.i
  Inv q := sameRl_Inv q.p q.y q.c q.l q.q q.z q.d q.m q.i
  μ q := q.l.length - q.i
theorem sameRl_round (p : Int) (y : Bool) (c : Bool) (l : List Write) (q : Int) (z : Bool) (d : Bool) (m : List Write) (i : Nat) (hI : sameRl_Inv p y c l q z d m i) : Leaf (sameRl_r p y c l q z d m i) (LedR sameRl_S ⟨p, y, c, l, q, z, d, m, i⟩) := by
  (rw [sameRl_eq]; conv => zeta)
  unfold sameRl_Inv at hI
  obtain ⟨h1, h2, h3⟩ := hI
  have hlk := lenOK_of h2
  by_cases hlt : i < l.length
  · have w_succ : IntKind.i64.wrap ((i : Int) + 1) = ((i + 1 : Nat) : Int) := by rw [wrap_id (by omega) (by omega)]; simp
    have d_lt : decide ((i : Int) < l.length) = true := by simp; omega
    have d_in : decide (0 ≤ (i : Int) ∧ (i : Int) < l.length) = true := by simp; omega
    have t_nat : ((i : Int)).toNat = i := by simp
    simp only [w_succ, d_lt, d_in, t_nat, cond_true]
    have hlt' : i < m.length := by omega
    have d_in' : decide (0 ≤ (i : Int) ∧ (i : Int) < m.length) = true := by simp; omega
    have hst := drops_step l m i (⟨0, 0⟩ : Write) hlt h3
    simp only [d_in', cond_true, hlk, eqWrite]
    generalize l.getD i (⟨0, 0⟩ : Write) = x at hst ⊢
    generalize m.getD i (⟨0, 0⟩ : Write) = w at hst ⊢
    by_cases hxy : x = w
    · simp only [hxy, decide_true, Bool.not_true, cond_false]
      exact leafR_go ⟨p, y, c, l, q, z, d, m, i + 1⟩ ⟨hlt, h2, h3⟩ (by simp only [sameRl_S]; omega) (by simp only [sameRl_S, sameRl_fin, sameRl_o, hst, hxy, decide_true, Bool.true_and]) rfl rfl
    · simp only [hxy, decide_false, Bool.not_false, cond_true]
      exact leafR_ret (sameRl_o p y c l q z d m i) (by simp [sameRl_S, sameRl_fin, hst, hxy, RT.val]) rfl
  · have hi : i = l.length := by omega
    have c1 : decide ((i : Int) < l.length) = false := by simp; omega
    simp only [hlk, cond_true, c1, cond_false]
    exact leafR_exit (sameRl_o p y c l q z d m i) (by simp only [sameRl_S, sameRl_fin, drops_end l m i (by omega) (by omega), RT.val, cond_true]) rfl
def sameRl_d (env : Env RC) (os : List (Obj RC)) : Option (Bool × sameRl_St) := match env, os with
  | [(2, .ptr 0 []), (3, .ptr 1 []), (4, .bool false), (5, .int .i64 x0)], [.var 27 (.acons (.int .i64 p) (.acons (.bool y) (.acons (.sl .write c l) .anil))), .var 27 (.acons (.int .i64 q) (.acons (.bool z) (.acons (.sl .write d m) .anil)))] => staticD (true) (decide (x0 = 0) && decide (l.length ≤ 9223372036854775807 ∧ l.length = m.length), ⟨p, y, c, l, q, z, d, m, 0⟩)
  | _, _ => none
noncomputable def uh_1 := ug_3.addLoop 21 4 (sumR s06 [.slot 2 0, .slot 3 0] [2, 3, 4, 5] sameRl_S sameRl_d)
theorem uh_1_laws : FLaws Try.prog s06 uh_1 := by
  refine ug_3_laws.addRoundsR s06_laws (by kernel_rfl) sameRl_S 40 [2, 3, 4, 5] [4] [.slot 2 0, .slot 3 0] [2, 3, 4, 5] sameRl_d (fun q hI => ?_) ?_
  · obtain ⟨p, y, c, l, q, z, d, m, i⟩ := q
    refine ⟨?_, ?_, sameRl_round p y c l q z d m i hI⟩
    · simp_all [RefsOK, sameRl_S, sameRl_c, sameRl_o, sameRl_Inv, D.refs, Obj.refs, rEnc]
    · simp_all [sameRl_S, sameRl_fin, sameRl_o, sameRl_Inv, RT.refsOK, RefsOK, D.refs, Obj.refs, rEnc]
  · intro env os b q hd_ hb
    unfold sameRl_d at hd_
    split at hd_
    · obtain ⟨hs, hd_⟩ := staticD_some hd_
      cases hd_
      simp only [Bool.and_eq_true, decide_eq_true_eq] at hb
      obtain ⟨rfl, hl⟩ := hb
      exact ⟨⟨Nat.zero_le _, hl.1, hl.2⟩, rfl, rfl⟩
    · cases hd_
def sameR_s (p : Int) (y : Bool) (c : Bool) (l : List Write) (q : Int) (z : Bool) (d : Bool) (m : List Write) : Option (Bool × D RC) := some (lenOK l.length && lenOK m.length, .bool (decide ((⟨p, y, l⟩ : Rec) = ⟨q, z, m⟩)))
def sameR_sp : List (D RC) → Option (Bool × D RC)
  | [.acons (.int .i64 p) (.acons (.bool y) (.acons (.sl .write c l) .anil)), .acons (.int .i64 q) (.acons (.bool z) (.acons (.sl .write d m) .anil))] => sameR_s p y c l q z d m
  | _ => none
noncomputable def sameR_e (p : Int) (y : Bool) (c : Bool) (l : List Write) (q : Int) (z : Bool) (d : Bool) (m : List Write) := evF s06 uh_1 40 21 [.acons (.int .i64 p) (.acons (.bool y) (.acons (.sl (C := RC) .write c l) .anil)), .acons (.int .i64 q) (.acons (.bool z) (.acons (.sl (C := RC) .write d m) .anil))]
theorem sameR_eq (p : Int) (y : Bool) (c : Bool) (l : List Write) (q : Int) (z : Bool) (d : Bool) (m : List Write) : sameR_e p y c l q z d m = (let Z0 : DO_ := some (D.bool false); let Z1 : Nat := List.length l; let Z2 : Nat := List.length m; bif p != q then Z0 else bif !y == z then Z0 else bif lenOK Z1 then bif lenOK Z2 then bif (↑Z1 : Int) != (↑Z2 : Int) then Z0 else bif decide (Z1 ≤ (9223372036854775807 : Nat) ∧ Z1 = Z2) then bif decide (List.drop (0 : Nat) l = List.drop (0 : Nat) m) then some (D.bool true) else Z0 else none else none else none) := by kernel_rfl
theorem sameR_ok (p : Int) (y : Bool) (c : Bool) (l : List Write) (q : Int) (z : Bool) (d : Bool) (m : List Write) (h : (lenOK l.length && lenOK m.length) = true) : sameR_e p y c l q z d m = some (.bool (decide ((⟨p, y, l⟩ : Rec) = ⟨q, z, m⟩))) := by
  (rw [sameR_eq]; conv => zeta)
  simp only [Bool.and_eq_true] at h
  have hl := lenOK_le h.1
  simp only [h.1, h.2, cond_true]
  by_cases h0 : l.length = m.length
  · have e1 : ((l.length : Int) != (m.length : Int)) = false := by simp [h0]
    have e2 : (l.length ≤ 9223372036854775807 ∧ l.length = m.length) := ⟨hl, h0⟩
    rw [e1, decide_eq_true e2]
    by_cases h1 : p = q <;> by_cases h2 : y = z <;> by_cases h3 : l = m <;> simp [h1, h2, h3, bne, beqD]
  · have e1 : ((l.length : Int) != (m.length : Int)) = true := by simp; omega
    have h3 : ¬ l = m := fun e => h0 (by rw [e])
    rw [e1]
    by_cases h1 : p = q <;> by_cases h2 : y = z <;> simp [h1, h2, h3, bne, beqD]
noncomputable def uh_2 := uh_1.addSpec 21 sameR_sp
theorem uh_2_laws : FLaws Try.prog s06 uh_2 := uh_1_laws.addEv s06_laws fun args d h => by
  unfold sameR_sp at h
  split at h
  · unfold sameR_s at h
    have h1 := congrArg Prod.fst (Option.some.inj h)
    obtain rfl : _ = d := congrArg Prod.snd (Option.some.inj h)
    exact ⟨by simp [D.refs], 40, sameR_ok _ _ _ _ _ _ _ _ h1⟩
  · cases h
open Go.Proofs
structure putR_St where
  n : Int
  w : Int
  out : List UInt8
  i : Nat
def putR_c (n : Int) (w : Int) (out : List UInt8) (i : Nat) : Env RC := [(1, .int .i64 n), (2, .int .i64 w), (8, .vs 0 (out.length)), (9, .int .i64 (i : Int))]
def putR_o (n : Int) (w : Int) (out : List UInt8) (i : Nat) : List (Obj RC) := [.vec (C := RC) .u8 true out]
noncomputable def putR_r (n : Int) (w : Int) (out : List UInt8) (i : Nat) := rndO s06 uh_2 56 6 40 1 [1, 2, 8, 9] [8] [.slot 8 0] (putR_c n w out i) (putR_o n w out i)
theorem putR_eq (n : Int) (w : Int) (out : List UInt8) (i : Nat) : putR_r n w out i = (let Z0 : Nat := List.length out; let Z1 : List UInt8 := [UInt8.ofNat (IntKind.wrap IntKind.u8 (Int.tmod n (256 : Int))).toNat]; bif decide ((↑i : Int) < w) then bif Nat.beq Z0 Z0 && sizeOK (Z0 + List.length Z1) (1 : Nat) then some ((X.normal, [(1, D.int .i64 (IntKind.wrap .i64 (Int.tdiv n (256 : Int)))), (2, D.int .i64 w), (8, D.vs 0 (Z0 + List.length Z1)), (9, D.int .i64 (IntKind.wrap .i64 ((↑i : Int) + (1 : Int))))]), [some (Obj.vec RTy.u8 true (out ++ Z1))]) else none else some ((X.exit (0 : Nat), [(8, D.vs 0 Z0)]), [some (Obj.vec RTy.u8 true out)])) := by kernel_rfl
def putR_fin (n : Int) (w : Int) (out : List UInt8) (i : Nat) : RT RC := .leaf (.exit 0) [(8, .vs 0 (out ++ leB n (w.toNat - i)).length)] [.vec (C := RC) .u8 true (out ++ leB n (w.toNat - i))]
def putR_Inv (n : Int) (w : Int) (out : List UInt8) (i : Nat) : Prop := 0 ≤ n ∧ n ≤ 9223372036854775807 ∧ (i : Int) ≤ w ∧ w ≤ 6 ∧ out.length ≤ 1000000 + i
def putR_S : LoopR RC putR_St where
  k := 1
  canon q := putR_c q.n q.w q.out q.i
  objs q := putR_o q.n q.w q.out q.i
  fin q := putR_fin q.n q.w q.out q.i
  Inv q := putR_Inv q.n q.w q.out q.i
  μ q := q.w.toNat - q.i
theorem putR_round (n : Int) (w : Int) (out : List UInt8) (i : Nat) (hI : putR_Inv n w out i) : Leaf (putR_r n w out i) (LedR putR_S ⟨n, w, out, i⟩) := by
  (rw [putR_eq]; conv => zeta)
  unfold putR_Inv at hI
  obtain ⟨h1, h2, h3, h4, h5⟩ := hI
  by_cases hlt : (i : Int) < w
  · have w_succ : IntKind.i64.wrap ((i : Int) + 1) = ((i + 1 : Nat) : Int) := by rw [wrap_id (by omega) (by omega)]; simp
    obtain ⟨d1, d2, d3⟩ := putD h1 h2
    have e1 : sizeOK (out.length + 1) 1 = true := sizeT (by omega)
    have eb : ∀ n : Nat, n.beq n = true := fun n => by simp
    simp only [hlt, decide_true, cond_true, w_succ, d1, putB h1, List.length_cons, List.length_nil, Nat.zero_add, e1, eb, Bool.and_self]
    refine leafR_go ⟨n.fdiv 256, w, out ++ [byteOf n], i + 1⟩ (by refine ⟨d2, d3, hlt, h4, ?_⟩; simp; omega) (by simp only [putR_S]; omega) ?_ (by simp [putR_S, putR_c]) (by simp [putR_S, putR_o])
    have : w.toNat - i = (w.toNat - (i + 1)) + 1 := by omega
    simp only [putR_S, putR_fin, this, leB, List.append_assoc, List.cons_append, List.nil_append]
  · have hi : w.toNat - i = 0 := by omega
    simp only [hlt, decide_false, cond_false]
    exact leafR_exit (putR_o n w out i) (by simp only [putR_S, putR_fin, putR_o, hi, leB, RT.val, List.append_nil]) rfl
def putR_d (env : Env RC) (os : List (Obj RC)) : Option (Bool × putR_St) := match env, os with
  | [(1, .int .i64 n), (2, .int .i64 w), (8, .vs 0 x0), (9, .int .i64 x1)], [.vec .u8 true out] => staticD (true) (decide (x0 = out.length) && decide (x1 = 0) && decide (0 ≤ n ∧ n ≤ 9223372036854775807 ∧ 0 ≤ w ∧ w ≤ 6 ∧ out.length ≤ 1000000), ⟨n, w, out, 0⟩)
  | _, _ => none
noncomputable def ui_1 := uh_2.addLoop 56 6 (sumR s06 [.slot 8 0] [1, 2, 8, 9] putR_S putR_d)
theorem ui_1_laws : FLaws Try.prog s06 ui_1 := by
  refine uh_2_laws.addRoundsR s06_laws (by kernel_rfl) putR_S 40 [1, 2, 8, 9] [8] [.slot 8 0] [1, 2, 8, 9] putR_d (fun q hI => ?_) ?_
  · obtain ⟨n, w, out, i⟩ := q
    refine ⟨?_, ?_, putR_round n w out i hI⟩
    · simp_all [RefsOK, putR_S, putR_c, putR_o, putR_Inv, D.refs, Obj.refs, rEnc]
    · simp_all [putR_S, putR_fin, putR_o, putR_Inv, RT.refsOK, RefsOK, D.refs, Obj.refs, rEnc]
  · intro env os b q hd_ hb
    unfold putR_d at hd_
    split at hd_
    · obtain ⟨hs, hd_⟩ := staticD_some hd_
      cases hd_
      simp only [Bool.and_eq_true, decide_eq_true_eq] at hb
      obtain ⟨⟨rfl, rfl⟩, hl⟩ := hb
      exact ⟨by refine ⟨hl.1, hl.2.1, by simpa using hl.2.2.1, hl.2.2.2.1, by simpa using hl.2.2.2.2⟩, rfl, rfl⟩
    · cases hd_
structure bytesRl_St where
  p : Int
  y : Bool
  c : Bool
  l : List Write
  bs : List UInt8
  i : Nat
def bytesRl_c (p : Int) (y : Bool) (c : Bool) (l : List Write) (bs : List UInt8) (i : Nat) : Env RC := [(1, .ptr 0 []), (4, .vs 1 (bs.length)), (7, .int .i64 (i : Int))]
def bytesRl_o (p : Int) (y : Bool) (c : Bool) (l : List Write) (bs : List UInt8) (i : Nat) : List (Obj RC) := [.var 27 (.acons (.int .i64 p) (.acons (.bool y) (.acons (.sl (C := RC) .write c l) .anil))), .vec (C := RC) .u8 true bs]
noncomputable def bytesRl_r (p : Int) (y : Bool) (c : Bool) (l : List Write) (bs : List UInt8) (i : Nat) := rndO s06 ui_1 30 9 40 2 [1, 4, 7] [4] [.slot 1 0, .slot 4 0] (bytesRl_c p y c l bs i) (bytesRl_o p y c l bs i)
theorem bytesRl_eq (p : Int) (y : Bool) (c : Bool) (l : List Write) (bs : List UInt8) (i : Nat) : bytesRl_r p y c l bs i = (let Z0 : Int := (↑i : Int); let Z1 : Bool := decide ((0 : Int) ≤ Z0 ∧ Z0 < (↑l.length : Int)); let Z2 : Nat := List.length bs; let Z3 : Write := List.getD l Z0.toNat (Write.mk (0 : Int) (0 : Int)); let Z4 : List UInt8 := [UInt8.ofNat (IntKind.wrap IntKind.u8 (Write.key Z3)).toNat, UInt8.ofNat (IntKind.wrap IntKind.u8 (Write.value Z3)).toNat]; let Z5 : Option (Obj RC) := some (Obj.var 27 (.acons (D.int .i64 p) (.acons (D.bool y) (.acons (D.sl RTy.write c l) .anil)))); bif lenOK l.length then bif decide (Z0 < (↑l.length : Int)) then bif Z1 then bif Z1 then bif Nat.beq Z2 Z2 && sizeOK (Z2 + List.length Z4) (1 : Nat) then some ((X.normal, [(1, D.ptr 0 []), (4, D.vs 1 (Z2 + List.length Z4)), (7, D.int .i64 (IntKind.wrap .i64 (Z0 + (1 : Int))))]), [Z5, some (Obj.vec RTy.u8 true (bs ++ Z4))]) else none else none else none else some ((X.exit (0 : Nat), [(4, D.vs 1 Z2)]), [Z5, some (Obj.vec RTy.u8 true bs)]) else none) := by kernel_rfl
def bytesRl_fin (p : Int) (y : Bool) (c : Bool) (l : List Write) (bs : List UInt8) (i : Nat) : RT RC := .leaf (.exit 0) [(4, .vs 1 (bs ++ (l.drop i).flatMap wBytes).length)] [.var 27 (.acons (.int .i64 p) (.acons (.bool y) (.acons (.sl (C := RC) .write c l) .anil))), .vec (C := RC) .u8 true (bs ++ (l.drop i).flatMap wBytes)]
def bytesRl_Inv (p : Int) (y : Bool) (c : Bool) (l : List Write) (bs : List UInt8) (i : Nat) : Prop := i ≤ l.length ∧ l.length ≤ 1000000 ∧ bs.length ≤ 1000000 + 2 * i
def bytesRl_S : LoopR RC bytesRl_St where
  k := 2
  canon q := bytesRl_c q.p q.y q.c q.l q.bs q.i
  objs q := bytesRl_o q.p q.y q.c q.l q.bs q.i
  fin q := bytesRl_fin q.p q.y q.c q.l q.bs q.i
  Inv q := bytesRl_Inv q.p q.y q.c q.l q.bs q.i
  μ q := q.l.length - q.i
theorem bytesRl_round (p : Int) (y : Bool) (c : Bool) (l : List Write) (bs : List UInt8) (i : Nat) (hI : bytesRl_Inv p y c l bs i) : Leaf (bytesRl_r p y c l bs i) (LedR bytesRl_S ⟨p, y, c, l, bs, i⟩) := by
  (rw [bytesRl_eq]; conv => zeta)
  unfold bytesRl_Inv at hI
  obtain ⟨h1, h2, h3⟩ := hI
  have hlk := lenOK_of (show l.length ≤ 9223372036854775807 by omega)
  by_cases hlt : i < l.length
  · have w_succ : IntKind.i64.wrap ((i : Int) + 1) = ((i + 1 : Nat) : Int) := by rw [wrap_id (by omega) (by omega)]; simp
    have d_lt : decide ((i : Int) < l.length) = true := by simp; omega
    have d_in : decide (0 ≤ (i : Int) ∧ (i : Int) < l.length) = true := by simp; omega
    have t_nat : ((i : Int)).toNat = i := by simp
    simp only [w_succ, d_lt, d_in, t_nat, cond_true]
    have hd : (l.drop i).flatMap wBytes = _ := flatMap_drop_succ l i wBytes hlt (⟨0, 0⟩ : Write)
    generalize l.getD i (⟨0, 0⟩ : Write) = x at hd ⊢
    have e1 : sizeOK (bs.length + 2) 1 = true := sizeT (by omega)
    have e2 : bs.length.beq bs.length = true := by simp
    simp only [hlk, cond_true, List.length_cons, List.length_nil, Nat.zero_add, Nat.reduceAdd, e1, e2, Bool.and_self]
    refine leafR_go ⟨p, y, c, l, bs ++ [byteOf x.key, byteOf x.value], i + 1⟩ (by refine ⟨hlt, h2, ?_⟩; simp; omega) (by simp only [bytesRl_S]; omega) ?_ (by simp [bytesRl_S, bytesRl_c, byteOf]) (by simp [bytesRl_S, bytesRl_o, byteOf])
    simp only [bytesRl_S, bytesRl_fin, hd, wBytes, List.append_assoc]
  · have hi : i = l.length := by omega
    have c1 : decide ((i : Int) < l.length) = false := by simp; omega
    simp only [hlk, cond_true, c1, cond_false]
    have hd0 : l.drop i = [] := List.drop_eq_nil_of_le (by omega)
    exact leafR_exit (bytesRl_o p y c l bs i) (by simp only [bytesRl_S, bytesRl_fin, bytesRl_o, hd0, RT.val, List.flatMap_nil, List.append_nil]) rfl
def bytesRl_d (env : Env RC) (os : List (Obj RC)) : Option (Bool × bytesRl_St) := match env, os with
  | [(1, .ptr 0 []), (4, .vs 1 x0), (7, .int .i64 x1)], [.var 27 (.acons (.int .i64 p) (.acons (.bool y) (.acons (.sl .write c l) .anil))), .vec .u8 true bs] => staticD (true) (decide (x0 = bs.length) && decide (x1 = 0) && decide (l.length ≤ 1000000 ∧ bs.length ≤ 1000000), ⟨p, y, c, l, bs, 0⟩)
  | _, _ => none
noncomputable def ui_2 := ui_1.addLoop 30 9 (sumR s06 [.slot 1 0, .slot 4 0] [1, 4, 7] bytesRl_S bytesRl_d)
theorem ui_2_laws : FLaws Try.prog s06 ui_2 := by
  refine ui_1_laws.addRoundsR s06_laws (by kernel_rfl) bytesRl_S 40 [1, 4, 7] [4] [.slot 1 0, .slot 4 0] [1, 4, 7] bytesRl_d (fun q hI => ?_) ?_
  · obtain ⟨p, y, c, l, bs, i⟩ := q
    refine ⟨?_, ?_, bytesRl_round p y c l bs i hI⟩
    · simp_all [RefsOK, bytesRl_S, bytesRl_c, bytesRl_o, bytesRl_Inv, D.refs, Obj.refs, rEnc]
    · simp_all [bytesRl_S, bytesRl_fin, bytesRl_o, bytesRl_Inv, RT.refsOK, RefsOK, D.refs, Obj.refs, rEnc]
  · intro env os b q hd_ hb
    unfold bytesRl_d at hd_
    split at hd_
    · obtain ⟨hs, hd_⟩ := staticD_some hd_
      cases hd_
      simp only [Bool.and_eq_true, decide_eq_true_eq] at hb
      obtain ⟨⟨rfl, rfl⟩, hl⟩ := hb
      exact ⟨⟨Nat.zero_le _, hl.1, hl.2⟩, rfl, rfl⟩
    · cases hd_
def bytesRf_s (p : Int) (y : Bool) (c : Bool) (l : List Write) : Option (Bool × D RC) := some (lenOK l.length, .tup (.acons (.sl (C := RC) .u8 (!mayB ⟨p, y, l⟩) (bif mayB ⟨p, y, l⟩ then bytesR ⟨p, y, l⟩ else [])) (.acons (.int .i64 (bif mayB ⟨p, y, l⟩ then 0 else 2)) .anil)))
def bytesRf_sp : List (D RC) → Option (Bool × D RC)
  | [.acons (.int .i64 p) (.acons (.bool y) (.acons (.sl .write c l) .anil))] => bytesRf_s p y c l
  | _ => none
noncomputable def bytesRf_e (p : Int) (y : Bool) (c : Bool) (l : List Write) := evF s06 ui_2 40 30 [.acons (.int .i64 p) (.acons (.bool y) (.acons (.sl (C := RC) .write c l) .anil))]
theorem bytesRf_eq (p : Int) (y : Bool) (c : Bool) (l : List Write) : bytesRf_e p y c l = (let Z0 : Nat := List.length l; let Z1 : List UInt8 := [] ++ [] ++ leB p (3 : Nat); let Z2 : List UInt8 := [UInt8.ofNat (bif y then (1 : Int) else (0 : Int)).toNat, UInt8.ofNat (IntKind.wrap IntKind.u8 (↑Z0 : Int)).toNat]; let Z3 : Nat := List.length (Z1 ++ Z2); let Z4 : List UInt8 := Z1 ++ Z2 ++ List.flatMap wBytes (List.drop (0 : Nat) l); bif lenOK Z0 then bif !mayB (Rec.mk p y l) then some (D.tup (D.acons (D.sl RTy.u8 true []) (.acons (D.int .i64 2) .anil))) else bif decide (p ≤ (9223372036854775807 : Int) ∧ (1 : Int) ≤ (3 : Int) ∧ (3 : Int) ≤ (6 : Int)) && fitsB p (3 : Nat) then bif decide ((0 : Int) ≤ p ∧ p ≤ (9223372036854775807 : Int) ∧ (0 : Int) ≤ (3 : Int) ∧ (3 : Int) ≤ (6 : Int) ∧ (0 : Nat) ≤ (1000000 : Nat)) then bif lenOK Z0 then bif decide (List.length Z1 + List.length Z2 = Z3) && true && decide (Z0 ≤ (1000000 : Nat) ∧ Z3 ≤ (1000000 : Nat)) then bif Nat.beq Z4.length Z4.length then some (D.tup (D.acons (D.sl RTy.u8 false Z4) (.acons (D.int .i64 0) .anil))) else none else none else none else none else none else none) := by kernel_rfl
theorem bytesRf_ok (p : Int) (y : Bool) (c : Bool) (l : List Write) (h : (lenOK l.length) = true) : bytesRf_e p y c l = some (.tup (.acons (.sl (C := RC) .u8 (!mayB ⟨p, y, l⟩) (bif mayB ⟨p, y, l⟩ then bytesR ⟨p, y, l⟩ else [])) (.acons (.int .i64 (bif mayB ⟨p, y, l⟩ then 0 else 2)) .anil))) := by
  (rw [bytesRf_eq]; conv => zeta)
  rw [h]
  have hlen := lenOK_le h
  cases hm : mayB ⟨p, y, l⟩
  · rfl
  · obtain ⟨hp, hl, hw⟩ := may_facts hm
    have f3 := fits3 (n := p) (by rw [withinB_iff]; omega)
    have hy : UInt8.ofNat (Int.toNat (bif y then 1 else 0)) = byteOf (bif y then 1 else 0) := by cases y <;> rfl
    have hb : UInt8.ofNat (IntKind.u8.wrap (l.length : Int)).toNat = byteOf l.length := rfl
    have e1 : (p ≤ 9223372036854775807 ∧ 1 ≤ (3 : Int) ∧ (3 : Int) ≤ 6) := by omega
    have e2 : l.length ≤ 1000000 := by omega
    have e3 : 0 ≤ p := by omega
    have e4 : p ≤ 9223372036854775807 := by omega
    simp [hy, hb, f3, e1, e2, e3, e4, leB_length, bytesR, leB1]
noncomputable def ui_3 := ui_2.addSpec 30 bytesRf_sp
theorem ui_3_laws : FLaws Try.prog s06 ui_3 := ui_2_laws.addEv s06_laws fun args d h => by
  unfold bytesRf_sp at h
  split at h
  · unfold bytesRf_s at h
    have h1 := congrArg Prod.fst (Option.some.inj h)
    obtain rfl : _ = d := congrArg Prod.snd (Option.some.inj h)
    exact ⟨by simp [D.refs], 40, bytesRf_ok _ _ _ _ h1⟩
  · cases h
structure Rd where
  c : Bool
  b : List UInt8
  bad : Bool
def rget (w : Nat) (r : Rd) : Int × Rd := if w ≤ r.b.length then ((leVal (r.b.take w) : Int), ⟨r.c, r.b.drop w, r.bad⟩) else (0, ⟨true, [], true⟩)
def rWrites : Nat → Rd → Rd × List Write
  | 0, r => (r, [])
  | n + 1, r =>
    let k := rget 1 r
    let v := rget 1 k.2
    let q := rWrites n v.2
    (q.1, ⟨k.1, v.1⟩ :: q.2)
theorem rget_ok {w : Nat} {c bad : Bool} {b : List UInt8} (h : w ≤ b.length) : rget w ⟨c, b, bad⟩ = ((leVal (b.take w) : Int), ⟨c, b.drop w, bad⟩) := by simp [rget, h]
theorem rget_no {w : Nat} {c bad : Bool} {b : List UInt8} (h : b.length < w) : rget w ⟨c, b, bad⟩ = (0, ⟨true, [], true⟩) := by simp [rget, Nat.not_le.2 h]
theorem getP_snd1 (b : List UInt8) : ((getP b 0 1).2 != 0) = decide (b.length < 1) := by
  by_cases h : b.length < 1
  · have : ¬ ((1 : Int) ≤ b.length) := by omega
    simp only [getP, h]; simp [this]
  · have : ((1 : Int) ≤ b.length) := by omega
    simp only [getP, h]; simp [this]
theorem getP_snd3 (b : List UInt8) : ((getP b 0 3).2 != 0) = decide (b.length < 3) := by
  by_cases h : b.length < 3
  · have : ¬ ((3 : Int) ≤ b.length) := by omega
    simp only [getP, h]; simp [this]
  · have : ((3 : Int) ≤ b.length) := by omega
    simp only [getP, h]; simp [this]
theorem getP_fst1 {b : List UInt8} (h : ¬ b.length < 1) : (getP b 0 1).1 = (leVal (b.take 1) : Int) := by
  have : ((1 : Int) ≤ b.length) := by omega
  simp only [getP]; simp [this]
theorem getP_fst3 {b : List UInt8} (h : ¬ b.length < 3) : (getP b 0 3).1 = (leVal (b.take 3) : Int) := by
  have : ((3 : Int) ≤ b.length) := by omega
  simp only [getP]; simp [this]
theorem leVal_take1 {b : List UInt8} (h : 1 ≤ b.length) : leVal (b.take 1) = (b.getD 0 0).toNat := by
  cases b with
  | nil => simp at h
  | cons x t => simp [leVal]
def pairsN : Nat → List UInt8 → List Write
  | 0, _ => []
  | n + 1, b => ⟨(b.getD 0 0).toNat, (b.getD 1 0).toNat⟩ :: pairsN n (b.drop 2)
theorem rWrites_ok : ∀ (n : Nat) (c : Bool) (b : List UInt8) (bad : Bool), 2 * n ≤ b.length → rWrites n ⟨c, b, bad⟩ = (⟨c, b.drop (2 * n), bad⟩, pairsN n b)
  | 0, c, b, bad, _ => by simp [rWrites, pairsN]
  | n + 1, c, b, bad, h => by
    have h1 : 1 ≤ b.length := by omega
    have h2 : 1 ≤ (b.drop 1).length := by simp; omega
    have h3 := rWrites_ok n c ((b.drop 1).drop 1) bad (by simp; omega)
    have e : (b.drop 1).getD 0 0 = b.getD 1 0 := by simp [List.getElem?_drop]
    have e2 : ((b.drop 1).drop 1).drop (2 * n) = b.drop (2 * (n + 1)) := by rw [List.drop_drop, List.drop_drop]; congr 1; omega
    have e3 : (b.drop 1).drop 1 = b.drop 2 := by rw [List.drop_drop]
    simp only [rWrites, rget_ok h1, rget_ok h2, h3, leVal_take1 h1, leVal_take1 h2, e, pairsN, e2]
    rw [e3]
theorem rget_bad {w : Nat} {r : Rd} (h : r.bad = true) : (rget w r).2.bad = true := by
  unfold rget; split <;> simp [h]
theorem rWrites_bad : ∀ (n : Nat) (r : Rd), r.bad = true → (rWrites n r).1.bad = true
  | 0, r, h => h
  | n + 1, r, h => rWrites_bad n _ (rget_bad (rget_bad h))
theorem rWrites_short : ∀ (n : Nat) (c : Bool) (b : List UInt8) (bad : Bool), b.length < 2 * n → (rWrites n ⟨c, b, bad⟩).1.bad = true
  | 0, c, b, bad, h => by omega
  | n + 1, c, b, bad, h => by
    simp only [rWrites]
    by_cases h1 : b.length < 1
    · rw [rget_no h1]; exact rWrites_bad n _ (rget_bad rfl)
    · rw [rget_ok (show 1 ≤ b.length by omega)]
      by_cases h2 : (b.drop 1).length < 1
      · simp only [rget_no h2]; exact rWrites_bad n _ rfl
      · simp only [rget_ok (show 1 ≤ (b.drop 1).length by omega)]
        exact rWrites_short n _ _ _ (by simp at h2 ⊢; omega)
theorem pairsN_len : ∀ (n : Nat) (b : List UInt8), (pairsN n b).length = n
  | 0, _ => rfl
  | n + 1, b => by simp [pairsN, pairsN_len n]
def readR (b : List UInt8) : Option Rec :=
  if 5 ≤ b.length ∧ (b.getD 3 0).toNat ≤ 1 ∧ b.length = 5 + 2 * (b.getD 4 0).toNat ∧ mayB ⟨leVal (b.take 3), (b.getD 3 0).toNat == 1, pairsN (b.getD 4 0).toNat (b.drop 5)⟩ = true then
    some ⟨leVal (b.take 3), (b.getD 3 0).toNat == 1, pairsN (b.getD 4 0).toNat (b.drop 5)⟩ else none
def recG (o : Option Rec) : Rec := o.getD ⟨0, false, []⟩
structure Rdr (σ : Type) where
  get : Nat → σ → Int × σ
  bad : σ → Bool
  rem : σ → List UInt8
structure RdrOK {σ : Type} (R : Rdr σ) : Prop where
  ok : ∀ w s, 1 ≤ w → R.bad s = false → w ≤ (R.rem s).length → (R.get w s).1 = (leVal ((R.rem s).take w) : Int) ∧ R.rem (R.get w s).2 = (R.rem s).drop w ∧ R.bad (R.get w s).2 = false
  no : ∀ w s, R.bad s = false → (R.rem s).length < w → R.bad (R.get w s).2 = true
  stay : ∀ w s, R.bad s = true → R.bad (R.get w s).2 = true
section
variable {σ : Type} (R : Rdr σ)
variable {R} (K : RdrOK R)
include K
end
structure Rn where
  pos : Nat
  short : Bool
structure QS (σ : Type) where
  r : σ
  l0 : List Line
  l1 : List Line
  l2 : List Line
  c0 : Int
  c1 : Int
  c2 : Int
section
variable {σ : Type} (R : Rdr σ) (stop : Bool) (mark : σ → σ)
end
open Go.Proofs
structure readW_St where
  c : Bool
  b : List UInt8
  bad : Bool
  pl : Int
  y : Bool
  ws : List Write
  n : Int
  i : Nat
def readW_c (c : Bool) (b : List UInt8) (bad : Bool) (pl : Int) (y : Bool) (ws : List Write) (n : Int) (i : Nat) : Env RC := [(4, .ptr 0 []), (5, .ptr 1 []), (20, .int .i64 n), (21, .int .i64 (i : Int))]
def readW_o (c : Bool) (b : List UInt8) (bad : Bool) (pl : Int) (y : Bool) (ws : List Write) (n : Int) (i : Nat) : List (Obj RC) := [.var 93 (.acons (.sl (C := RC) .u8 c b) (.acons (.bool bad) .anil)), .var 27 (.acons (.int .i64 pl) (.acons (.bool y) (.acons (.vs 2 (ws.length)) .anil))), .vec (C := RC) .write true ws]
noncomputable def readW_r (c : Bool) (b : List UInt8) (bad : Bool) (pl : Int) (y : Bool) (ws : List Write) (n : Int) (i : Nat) := rndO s06 ui_3 38 6 40 3 [4, 5, 20, 21] [] [.slot 4 0, .slot 5 0, .path 1 [2]] (readW_c c b bad pl y ws n i) (readW_o c b bad pl y ws n i)
theorem readW_eq (c : Bool) (b : List UInt8) (bad : Bool) (pl : Int) (y : Bool) (ws : List Write) (n : Int) (i : Nat) : readW_r c b bad pl y ws n i = (let Z0 : Int × Int := getP b (0 : Int) (1 : Int); let Z1 : Nat := List.length ws; let Z2 : Bool := Nat.beq Z1 Z1; let Z3 : X × Env RC := (X.normal, [(4, D.ptr 0 []), (5, D.ptr 1 []), (20, D.int .i64 n), (21, D.int .i64 (IntKind.wrap .i64 ((↑i : Int) + (1 : Int))))]); let Z4 : D RC := .anil; let Z5 : Option (Obj RC) := some (Obj.var 93 (.acons (D.sl RTy.u8 true []) (.acons (D.bool true) Z4))); let Z6 : D RC := D.int .i64 pl; let Z7 : D RC := D.bool y; let Z8 : List UInt8 := List.drop (1 : Nat) b; let Z9 : Int × Int := getP Z8 (0 : Int) (1 : Int); let Z10 : List Write := [Write.mk Z0.1 (0 : Int)]; let Z11 : List Write := [Write.mk Z0.1 Z9.1]; bif decide ((↑i : Int) < n) then bif decide (List.length b ≤ (1000000000000 : Nat)) then bif Prod.snd Z0 != (0 : Int) then bif Z2 && sizeOK (Z1 + (1 : Nat)) (16 : Nat) then some (Z3, [Z5, some (Obj.var 27 (.acons Z6 (D.acons Z7 (D.acons (D.vs 2 (Z1 + (1 : Nat))) Z4)))), some (Obj.vec RTy.write true (ws ++ [Write.mk (0 : Int) (0 : Int)]))]) else none else bif decide ((0 : Int) ≤ (1 : Int) ∧ (1 : Int) ≤ (↑b.length : Int)) then bif decide (List.length Z8 ≤ (1000000000000 : Nat)) then bif Prod.snd Z9 != (0 : Int) then bif Z2 && sizeOK (Z1 + List.length Z10) (16 : Nat) then some (Z3, [Z5, some (Obj.var 27 (.acons Z6 (D.acons Z7 (D.acons (D.vs 2 (Z1 + List.length Z10)) Z4)))), some (Obj.vec RTy.write true (ws ++ Z10))]) else none else bif decide ((0 : Int) ≤ (1 : Int) ∧ (1 : Int) ≤ (↑Z8.length : Int)) then bif Z2 && sizeOK (Z1 + List.length Z11) (16 : Nat) then some (Z3, [some (Obj.var 93 (.acons (D.sl RTy.u8 c (List.drop (1 : Nat) Z8)) (.acons (D.bool bad) Z4))), some (Obj.var 27 (.acons Z6 (D.acons Z7 (D.acons (D.vs 2 (Z1 + List.length Z11)) Z4)))), some (Obj.vec RTy.write true (ws ++ Z11))]) else none else none else none else none else none else some ((X.exit (0 : Nat), []), [some (Obj.var 93 (.acons (D.sl RTy.u8 c b) (.acons (D.bool bad) Z4))), some (Obj.var 27 (.acons Z6 (D.acons Z7 (D.acons (D.vs 2 Z1) Z4)))), some (Obj.vec RTy.write true ws)])) := by kernel_rfl
def readW_fin (c : Bool) (b : List UInt8) (bad : Bool) (pl : Int) (y : Bool) (ws : List Write) (n : Int) (i : Nat) : RT RC := .leaf (.exit 0) [] [.var 93 (.acons (.sl (C := RC) .u8 (rWrites (n.toNat - i) ⟨c, b, bad⟩).1.c (rWrites (n.toNat - i) ⟨c, b, bad⟩).1.b) (.acons (.bool (rWrites (n.toNat - i) ⟨c, b, bad⟩).1.bad) .anil)), .var 27 (.acons (.int .i64 pl) (.acons (.bool y) (.acons (.vs 2 (ws ++ (rWrites (n.toNat - i) ⟨c, b, bad⟩).2).length) .anil))), .vec (C := RC) .write true (ws ++ (rWrites (n.toNat - i) ⟨c, b, bad⟩).2)]
def readW_Inv (c : Bool) (b : List UInt8) (bad : Bool) (pl : Int) (y : Bool) (ws : List Write) (n : Int) (i : Nat) : Prop := (i : Int) ≤ n ∧ n ≤ 255 ∧ b.length ≤ 1000000 ∧ ws.length ≤ i
def readW_S : LoopR RC readW_St where
  k := 3
  canon q := readW_c q.c q.b q.bad q.pl q.y q.ws q.n q.i
  objs q := readW_o q.c q.b q.bad q.pl q.y q.ws q.n q.i
  fin q := readW_fin q.c q.b q.bad q.pl q.y q.ws q.n q.i
  Inv q := readW_Inv q.c q.b q.bad q.pl q.y q.ws q.n q.i
  μ q := q.n.toNat - q.i
theorem readW_round (c : Bool) (b : List UInt8) (bad : Bool) (pl : Int) (y : Bool) (ws : List Write) (n : Int) (i : Nat) (hI : readW_Inv c b bad pl y ws n i) : Leaf (readW_r c b bad pl y ws n i) (LedR readW_S ⟨c, b, bad, pl, y, ws, n, i⟩) := by
  (rw [readW_eq]; conv => zeta)
  unfold readW_Inv at hI
  obtain ⟨h1, h2, h3, h4⟩ := hI
  have tk : ∀ l : List UInt8, List.take (Int.toNat (l.length : Int)) l = l := fun l => by simp
  have eb : ∀ n : Nat, n.beq n = true := fun n => by simp
  have r0 : rget 1 ⟨true, [], true⟩ = (0, ⟨true, [], true⟩) := rfl
  by_cases hlt : (i : Int) < n
  · have w_succ : IntKind.i64.wrap ((i : Int) + 1) = ((i + 1 : Nat) : Int) := by rw [wrap_id (by omega) (by omega)]; simp
    have hn : n.toNat - i = (n.toNat - (i + 1)) + 1 := by omega
    have s1 : sizeOK (ws.length + 1) 16 = true := sizeT (by omega)
    have e0 : decide (b.length ≤ 1000000000000) = true := decide_eq_true (by omega)
    simp only [hlt, decide_true, cond_true, e0, getP_snd1, show Int.toNat 1 = 1 from rfl, w_succ, List.length_cons, List.length_nil, Nat.zero_add, s1, eb, Bool.and_self]
    by_cases b1 : b.length < 1
    · have r1 : rget 1 ⟨c, b, bad⟩ = _ := rget_no b1
      simp only [b1, decide_true, cond_true]
      refine leafR_go ⟨true, [], true, pl, y, ws ++ [⟨0, 0⟩], n, i + 1⟩ (by refine ⟨hlt, h2, by simp, ?_⟩; simp; omega) (by simp only [readW_S]; omega) ?_ (by simp [readW_S, readW_c]) (by simp [readW_S, readW_o])
      simp only [readW_S, readW_fin, hn, rWrites, r1, r0, List.append_assoc, List.cons_append, List.nil_append]
    · have r1 : rget 1 ⟨c, b, bad⟩ = _ := rget_ok (show 1 ≤ b.length by omega)
      have d1 : decide ((0 : Int) ≤ 1 ∧ (1 : Int) ≤ b.length) = true := by simp; omega
      have e1 : decide ((b.drop 1).length ≤ 1000000000000) = true := decide_eq_true (by simp; omega)
      simp only [b1, decide_false, cond_false, d1, cond_true, e1, getP_fst1 b1]
      by_cases b2 : (b.drop 1).length < 1
      · have r2 : rget 1 ⟨c, b.drop 1, bad⟩ = _ := rget_no b2
        simp only [b2, decide_true, cond_true]
        refine leafR_go ⟨true, [], true, pl, y, ws ++ [⟨leVal (b.take 1), 0⟩], n, i + 1⟩ (by refine ⟨hlt, h2, by simp, ?_⟩; simp; omega) (by simp only [readW_S]; omega) ?_ (by simp [readW_S, readW_c]) (by simp [readW_S, readW_o])
        simp only [readW_S, readW_fin, hn, rWrites, r1, r2, List.append_assoc, List.cons_append, List.nil_append]
      · have r2 : rget 1 ⟨c, b.drop 1, bad⟩ = _ := rget_ok (show 1 ≤ (b.drop 1).length by omega)
        have d2 : decide ((0 : Int) ≤ 1 ∧ (1 : Int) ≤ (b.drop 1).length) = true := by simp only [decide_eq_true_eq]; omega
        simp only [b2, decide_false, cond_false, d2, cond_true, getP_fst1 b2]
        refine leafR_go ⟨c, (b.drop 1).drop 1, bad, pl, y, ws ++ [⟨leVal (b.take 1), leVal ((b.drop 1).take 1)⟩], n, i + 1⟩ (by refine ⟨hlt, h2, ?_, ?_⟩ <;> simp <;> omega) (by simp only [readW_S]; omega) ?_ (by simp [readW_S, readW_c]) (by simp [readW_S, readW_o])
        simp only [readW_S, readW_fin, hn, rWrites, r1, r2, List.append_assoc, List.cons_append, List.nil_append]
  · have hi : n.toNat - i = 0 := by omega
    simp only [hlt, decide_false, cond_false]
    exact leafR_exit (readW_o c b bad pl y ws n i) (by simp only [readW_S, readW_fin, readW_o, hi, rWrites, RT.val, List.append_nil]) rfl
def readW_d (env : Env RC) (os : List (Obj RC)) : Option (Bool × readW_St) := match env, os with
  | [(4, .ptr 0 []), (5, .ptr 1 []), (20, .int .i64 n), (21, .int .i64 x0)], [.var 93 (.acons (.sl .u8 c b) (.acons (.bool bad) .anil)), .var 27 (.acons (.int .i64 pl) (.acons (.bool y) (.acons (.vs 2 x1) .anil))), .vec .write true ws] => staticD (true) (decide (x0 = 0) && decide (x1 = ws.length) && decide (0 ≤ n ∧ n ≤ 255 ∧ b.length ≤ 1000000 ∧ ws.length = 0), ⟨c, b, bad, pl, y, ws, n, 0⟩)
  | _, _ => none
noncomputable def uk_1 := ui_3.addLoop 38 6 (sumR s06 [.slot 4 0, .slot 5 0, .path 1 [2]] [4, 5, 20, 21] readW_S readW_d)
theorem uk_1_laws : FLaws Try.prog s06 uk_1 := by
  refine ui_3_laws.addRoundsR s06_laws (by kernel_rfl) readW_S 40 [4, 5, 20, 21] [] [.slot 4 0, .slot 5 0, .path 1 [2]] [4, 5, 20, 21] readW_d (fun q hI => ?_) ?_
  · obtain ⟨c, b, bad, pl, y, ws, n, i⟩ := q
    refine ⟨?_, ?_, readW_round c b bad pl y ws n i hI⟩
    · simp_all [RefsOK, readW_S, readW_c, readW_o, readW_Inv, D.refs, Obj.refs, rEnc]
    · simp_all [readW_S, readW_fin, readW_o, readW_Inv, RT.refsOK, RefsOK, D.refs, Obj.refs, rEnc]
  · intro env os b q hd_ hb
    unfold readW_d at hd_
    split at hd_
    · obtain ⟨hs, hd_⟩ := staticD_some hd_
      cases hd_
      simp only [Bool.and_eq_true, decide_eq_true_eq] at hb
      obtain ⟨⟨rfl, rfl⟩, h⟩ := hb
      exact ⟨⟨by simpa using h.1, h.2.1, h.2.2.1, by simp [h.2.2.2]⟩, rfl, rfl⟩
    · cases hd_
def readP_s (c : Bool) (b : List UInt8) : Option (Bool × D RC) := some (decide (b.length ≤ 1000000), .tup (.acons (.acons (.int .i64 (recG (readR b)).place) (.acons (.bool (recG (readR b)).yes) (.acons (.sl (C := RC) .write (readR b).isNone (recG (readR b)).writes) .anil))) (.acons (.int .i64 (bif (readR b).isNone then 50 else 0)) .anil)))
def readP_sp : List (D RC) → Option (Bool × D RC)
  | [.sl .u8 c b] => readP_s c b
  | _ => none
noncomputable def readP_e (c : Bool) (b : List UInt8) := evF s06 uk_1 40 38 [.sl (C := RC) .u8 c b]
theorem readP_eq (c : Bool) (b : List UInt8) : readP_e c b = (let Z0 : Int × Int := getP b (0 : Int) (3 : Int); let Z1 : D RC := D.int .i64 0; let Z2 : DO_ := some (D.tup (D.acons (D.acons Z1 (D.acons (D.bool false) (.acons (D.sl RTy.write true []) .anil))) (.acons (D.int .i64 50) .anil))); let Z3 : List UInt8 := List.drop (3 : Nat) b; let Z4 : Int × Int := getP Z3 (0 : Int) (1 : Int); let Z5 : List UInt8 := List.drop (1 : Nat) Z3; let Z6 : Int × Int := getP Z5 (0 : Int) (1 : Int); let Z7 : Int := Prod.fst Z6; let Z8 : Rd × List Write := rWrites (Int.toNat Z7 - 0) (Rd.mk c (List.drop (1 : Nat) Z5) false); let Z9 : Nat := List.length Z8.1.b; let Z10 : List Write := [] ++ Prod.snd Z8; let Z11 : Nat := List.length Z10; let Z12 : Bool := Prod.fst Z4 == (1 : Int); bif decide (List.length b ≤ (1000000000000 : Nat)) then bif Prod.snd Z0 != (0 : Int) then Z2 else bif decide ((0 : Int) ≤ (3 : Int) ∧ (3 : Int) ≤ (↑b.length : Int)) then bif decide (List.length Z3 ≤ (1000000000000 : Nat)) then bif Prod.snd Z4 != (0 : Int) then Z2 else bif decide ((0 : Int) ≤ (1 : Int) ∧ (1 : Int) ≤ (↑Z3.length : Int)) then bif decide (List.length Z5 ≤ (1000000000000 : Nat)) then bif Prod.snd Z6 != (0 : Int) then Z2 else bif decide ((0 : Int) ≤ (1 : Int) ∧ (1 : Int) ≤ (↑Z5.length : Int)) then bif decide ((0 : Int) ≤ Z7 ∧ Z7 ≤ (255 : Int) ∧ List.length (List.drop (1 : Nat) Z5) ≤ (1000000 : Nat) ∧ (0 : Nat) = (0 : Nat)) then bif !Rd.bad Z8.1 then bif lenOK Z9 then bif !(↑Z9 : Int) == (0 : Int) then Z2 else bif decide ((1 : Int) < Prod.fst Z4) then Z2 else bif Nat.beq Z11 Z11 then bif lenOK Z11 then bif !mayB (Rec.mk Z0.1 Z12 Z10) then Z2 else some (D.tup (D.acons (D.acons (D.int .i64 Z0.1) (.acons (D.bool Z12) (.acons (D.sl RTy.write false Z10) .anil))) (.acons Z1 .anil))) else none else none else none else Z2 else none else none else none else none else none else none else none) := by kernel_rfl
theorem readP_ok (c : Bool) (b : List UInt8) (h : (decide (b.length ≤ 1000000)) = true) : readP_e c b = some (.tup (.acons (.acons (.int .i64 (recG (readR b)).place) (.acons (.bool (recG (readR b)).yes) (.acons (.sl (C := RC) .write (readR b).isNone (recG (readR b)).writes) .anil))) (.acons (.int .i64 (bif (readR b).isNone then 50 else 0)) .anil))) := by
  (rw [readP_eq]; conv => zeta)
  have hl := of_decide_eq_true h
  have e0 : decide (b.length ≤ 1000000000000) = true := decide_eq_true (by omega)
  have no : readR b = none → some (D.tup (D.acons (D.acons (D.int IntKind.i64 0) (D.acons (D.bool false) (D.acons (D.sl (C := RC) RTy.write true []) D.anil))) (D.acons (D.int IntKind.i64 50) D.anil))) = some (.tup (.acons (.acons (.int .i64 (recG (readR b)).place) (.acons (.bool (recG (readR b)).yes) (.acons (.sl (C := RC) .write (readR b).isNone (recG (readR b)).writes) .anil))) (.acons (.int .i64 (bif (readR b).isNone then 50 else 0)) .anil))) := fun e => by rw [e]; rfl
  simp only [e0, cond_true, getP_snd3, getP_snd1]
  by_cases b3 : b.length < 3
  · simp only [b3, decide_true, cond_true]
    exact no (by unfold readR; rw [if_neg]; omega)
  have d3 : decide ((0 : Int) ≤ 3 ∧ (3 : Int) ≤ b.length) = true := by simp; omega
  have e1 : decide ((b.drop 3).length ≤ 1000000000000) = true := decide_eq_true (by simp; omega)
  simp only [b3, decide_false, cond_false, d3, cond_true, e1, getP_fst3 b3]
  by_cases b4 : (b.drop 3).length < 1
  · simp only [b4, decide_true, cond_true]
    exact no (by unfold readR; rw [if_neg]; simp at b4; omega)
  have d4 : decide ((0 : Int) ≤ 1 ∧ (1 : Int) ≤ (b.drop 3).length) = true := by simp only [decide_eq_true_eq]; omega
  have e2 : decide (((b.drop 3).drop 1).length ≤ 1000000000000) = true := decide_eq_true (by simp; omega)
  simp only [b4, decide_false, cond_false, d4, cond_true, e2, getP_fst1 b4]
  by_cases b5 : ((b.drop 3).drop 1).length < 1
  · simp only [b5, decide_true, cond_true]
    exact no (by unfold readR; rw [if_neg]; simp at b5; omega)
  have d5 : decide ((0 : Int) ≤ 1 ∧ (1 : Int) ≤ ((b.drop 3).drop 1).length) = true := by simp only [decide_eq_true_eq]; omega
  have v3 : leVal ((b.drop 3).take 1) = (b.getD 3 0).toNat := by
    rw [leVal_take1 (by omega)]; simp [List.getElem?_drop]
  have v4 : leVal (((b.drop 3).drop 1).take 1) = (b.getD 4 0).toNat := by
    rw [leVal_take1 (by omega)]; simp [List.getElem?_drop]
  have dr : ((b.drop 3).drop 1).drop 1 = b.drop 5 := by rw [List.drop_drop, List.drop_drop]
  simp only [b5, decide_false, cond_false, d5, cond_true, getP_fst1 b5, v3, v4, dr]
  have h4 := (b.getD 4 0).toNat_lt
  have dl : (b.drop 5).length = b.length - 5 := by simp
  have hl5 : 5 ≤ b.length := by have : ((b.drop 3).drop 1).length = b.length - 4 := by rw [List.drop_drop]; simp
                                omega
  generalize hn : (b.getD 4 0).toNat = n at h4 ⊢
  have c1 : decide ((0 : Int) ≤ n ∧ (n : Int) ≤ 255 ∧ (b.drop 5).length ≤ 1000000 ∧ True) = true := decide_eq_true ⟨by omega, by omega, by omega, trivial⟩
  have tn : (n : Int).toNat - 0 = n := by omega
  simp only [c1, tn, cond_true, List.nil_append]
  by_cases hs : (b.drop 5).length < 2 * n
  · simp only [rWrites_short n c _ false hs, Bool.not_true, cond_false]
    exact no (by unfold readR; rw [if_neg]; omega)
  rw [rWrites_ok n c _ false (by omega)]
  have k1 : lenOK ((b.drop 5).drop (2 * n)).length = true := lenOK_of (by simp; omega)
  have kp : (pairsN n (b.drop 5)).length ≤ 9223372036854775807 := by rw [pairsN_len]; omega
  have eb : ∀ n : Nat, n.beq n = true := fun n => by simp
  simp only [Bool.not_false, cond_true, k1, eb, lenOK_of kp]
  by_cases he : ((b.drop 5).drop (2 * n)).length = 0
  · have e5 : b.length = 5 + 2 * n := by simp at he; omega
    have e6 : ((((b.drop 5).drop (2 * n)).length : Int) == 0) = true := by simp only [beq_iff_eq]; omega
    simp only [e6, Bool.not_true, cond_false]
    by_cases hy : 1 < (b.getD 3 0).toNat
    · have : decide (1 < ((b.getD 3 0).toNat : Int)) = true := by simp only [decide_eq_true_eq]; omega
      simp only [this, cond_true]
      exact no (by unfold readR; rw [if_neg]; omega)
    · have y1 : decide (1 < ((b.getD 3 0).toNat : Int)) = false := by simp only [decide_eq_false_iff_not]; omega
      have y2 : (((b.getD 3 0).toNat : Int) == 1) = ((b.getD 3 0).toNat == 1) := by rw [Bool.eq_iff_iff]; simp only [beq_iff_eq]; omega
      simp only [y1, y2, cond_false]
      cases hm : mayB ⟨(leVal (b.take 3) : Int), (b.getD 3 0).toNat == 1, pairsN n (b.drop 5)⟩
      · simp only [Bool.not_false, cond_true]
        exact no (by unfold readR; rw [hn, if_neg]; intro q; rw [hm] at q; cases q.2.2.2)
      · have hr : readR b = some ⟨(leVal (b.take 3) : Int), (b.getD 3 0).toNat == 1, pairsN n (b.drop 5)⟩ := by
          unfold readR; rw [hn, if_pos ⟨hl5, by omega, e5, hm⟩]
        simp only [Bool.not_true, cond_false, hr, recG, Option.getD_some, Option.isNone_some]
  · have e6 : ((((b.drop 5).drop (2 * n)).length : Int) == 0) = false := by simp only [beq_eq_false_iff_ne]; omega
    simp only [e6, Bool.not_false, cond_true]
    exact no (by unfold readR; rw [hn, if_neg]; intro q; simp at he; omega)
noncomputable def uk_2 := uk_1.addSpec 38 readP_sp
theorem uk_2_laws : FLaws Try.prog s06 uk_2 := uk_1_laws.addEv s06_laws fun args d h => by
  unfold readP_sp at h
  split at h
  · unfold readP_s at h
    have h1 := congrArg Prod.fst (Option.some.inj h)
    obtain rfl : _ = d := congrArg Prod.snd (Option.some.inj h)
    exact ⟨by simp [D.refs], 40, readP_ok _ _ h1⟩
  · cases h
structure readWR_St where
  c : Bool
  b : List UInt8
  pl : Int
  y : Bool
  ws : List Write
  i : Nat
def readWR_c (c : Bool) (b : List UInt8) (pl : Int) (y : Bool) (ws : List Write) (i : Nat) : Env RC := [(0, .sl (C := RC) .u8 c b), (6, .ptr 0 []), (7, .int .i64 (i : Int))]
def readWR_o (c : Bool) (b : List UInt8) (pl : Int) (y : Bool) (ws : List Write) (i : Nat) : List (Obj RC) := [.var 27 (.acons (.int .i64 pl) (.acons (.bool y) (.acons (.vs 1 (ws.length)) .anil))), .vec (C := RC) .write true ws]
noncomputable def readWR_r (c : Bool) (b : List UInt8) (pl : Int) (y : Bool) (ws : List Write) (i : Nat) := rndO s06 uk_2 42 6 40 2 [0, 6, 7] [] [.slot 6 0, .path 0 [2]] (readWR_c c b pl y ws i) (readWR_o c b pl y ws i)
theorem readWR_eq (c : Bool) (b : List UInt8) (pl : Int) (y : Bool) (ws : List Write) (i : Nat) : readWR_r c b pl y ws i = (let Z0 : Int := (↑b.length : Int); let Z1 : Int := (↑i : Int); let Z2 : UInt8 := UInt8.ofBitVec (BitVec.ofNat (8 : Nat) (nat_lit 0)); let Z3 : Int := IntKind.wrap .i64 ((2 : Int) * Z1); let Z4 : Int := IntKind.wrap .i64 ((5 : Int) + Z3); let Z5 : Int := IntKind.wrap .i64 ((6 : Int) + Z3); let Z6 : Nat := List.length ws; let Z7 : List Write := [Write.mk (IntKind.wrap .i64 (↑(UInt8.toNat (List.getD b Z4.toNat Z2)) : Int)) (IntKind.wrap .i64 (↑(UInt8.toNat (List.getD b Z5.toNat Z2)) : Int))]; bif decide ((0 : Int) ≤ (4 : Int) ∧ (4 : Int) < Z0) then bif decide (Z1 < IntKind.wrap .i64 (↑(UInt8.toNat (List.getD b (4 : Nat) Z2)) : Int)) then bif decide ((0 : Int) ≤ Z4 ∧ Z4 < Z0) then bif decide ((0 : Int) ≤ Z5 ∧ Z5 < Z0) then bif Nat.beq Z6 Z6 && sizeOK (Z6 + List.length Z7) (16 : Nat) then some ((X.normal, [(0, D.sl RTy.u8 c b), (6, D.ptr 0 []), (7, D.int .i64 (IntKind.wrap .i64 (Z1 + (1 : Int))))]), [some (Obj.var 27 (.acons (D.int .i64 pl) (.acons (D.bool y) (.acons (D.vs 1 (Z6 + List.length Z7)) .anil)))), some (Obj.vec RTy.write true (ws ++ Z7))]) else none else none else none else some ((X.exit (0 : Nat), []), [some (Obj.var 27 (.acons (D.int .i64 pl) (.acons (D.bool y) (.acons (D.vs 1 Z6) .anil)))), some (Obj.vec RTy.write true ws)]) else none) := by kernel_rfl
def readWR_fin (c : Bool) (b : List UInt8) (pl : Int) (y : Bool) (ws : List Write) (i : Nat) : RT RC := .leaf (.exit 0) [] [.var 27 (.acons (.int .i64 pl) (.acons (.bool y) (.acons (.vs 1 (ws ++ pairsN ((b.getD 4 0).toNat - i) (b.drop (5 + 2 * i))).length) .anil))), .vec (C := RC) .write true (ws ++ pairsN ((b.getD 4 0).toNat - i) (b.drop (5 + 2 * i)))]
def readWR_Inv (c : Bool) (b : List UInt8) (pl : Int) (y : Bool) (ws : List Write) (i : Nat) : Prop := b.length = 5 + 2 * (b.getD 4 0).toNat ∧ i ≤ (b.getD 4 0).toNat ∧ ws.length ≤ i
def readWR_S : LoopR RC readWR_St where
  k := 2
  canon q := readWR_c q.c q.b q.pl q.y q.ws q.i
  objs q := readWR_o q.c q.b q.pl q.y q.ws q.i
  fin q := readWR_fin q.c q.b q.pl q.y q.ws q.i
  Inv q := readWR_Inv q.c q.b q.pl q.y q.ws q.i
  μ q := (q.b.getD 4 0).toNat - q.i
theorem readWR_round (c : Bool) (b : List UInt8) (pl : Int) (y : Bool) (ws : List Write) (i : Nat) (hI : readWR_Inv c b pl y ws i) : Leaf (readWR_r c b pl y ws i) (LedR readWR_S ⟨c, b, pl, y, ws, i⟩) := by
  (rw [readWR_eq]; conv => zeta)
  unfold readWR_Inv at hI
  obtain ⟨h1, h2, h3⟩ := hI
  have eb : ∀ n : Nat, n.beq n = true := fun n => by simp
  have h4 := (b.getD 4 0).toNat_lt
  have z : (⟨0#8⟩ : UInt8) = 0 := rfl
  have d4 : decide ((0 : Int) ≤ 4 ∧ (4 : Int) < b.length) = true := by simp only [decide_eq_true_eq]; omega
  simp only [z, d4, cond_true, u8_i64, show Int.toNat 4 = 4 from rfl]
  by_cases hlt : i < (b.getD 4 0).toNat
  · have w_succ : IntKind.i64.wrap ((i : Int) + 1) = ((i + 1 : Nat) : Int) := by rw [wrap_id (by omega) (by omega)]; simp
    have w2 : IntKind.i64.wrap (2 * (i : Int)) = 2 * (i : Int) := wrap_id (by omega) (by omega)
    have w5 : IntKind.i64.wrap (5 + 2 * (i : Int)) = 5 + 2 * (i : Int) := wrap_id (by omega) (by omega)
    have w6 : IntKind.i64.wrap (6 + 2 * (i : Int)) = 6 + 2 * (i : Int) := wrap_id (by omega) (by omega)
    have t5 : (5 + 2 * (i : Int)).toNat = 5 + 2 * i := by omega
    have t6 : (6 + 2 * (i : Int)).toNat = 6 + 2 * i := by omega
    have l1 : decide ((i : Int) < ((b.getD 4 0).toNat : Int)) = true := by simp only [decide_eq_true_eq]; omega
    have d5 : decide (0 ≤ 5 + 2 * (i : Int) ∧ 5 + 2 * (i : Int) < b.length) = true := by simp only [decide_eq_true_eq]; omega
    have d6 : decide (0 ≤ 6 + 2 * (i : Int) ∧ 6 + 2 * (i : Int) < b.length) = true := by simp only [decide_eq_true_eq]; omega
    have s1 : sizeOK (ws.length + 1) 16 = true := sizeT (by omega)
    have hn : (b.getD 4 0).toNat - i = ((b.getD 4 0).toNat - (i + 1)) + 1 := by omega
    have g0 : (b.drop (5 + 2 * i)).getD 0 0 = b.getD (5 + 2 * i) 0 := by simp [List.getElem?_drop]
    have g1 : (b.drop (5 + 2 * i)).getD 1 0 = b.getD (6 + 2 * i) 0 := by simp [List.getElem?_drop]; congr 1; congr 1; omega
    have g2 : (b.drop (5 + 2 * i)).drop 2 = b.drop (5 + 2 * (i + 1)) := by rw [List.drop_drop]; congr 1
    simp only [w2, w5, w6, l1, d5, d6, w_succ, t5, t6, cond_true, List.length_cons, List.length_nil, Nat.zero_add, eb, s1, Bool.and_self]
    refine leafR_go ⟨c, b, pl, y, ws ++ [⟨((b.getD (5 + 2 * i) 0).toNat : Int), ((b.getD (6 + 2 * i) 0).toNat : Int)⟩], i + 1⟩ (by refine ⟨h1, hlt, ?_⟩; simp; omega) (by simp only [readWR_S]; omega) ?_ (by simp [readWR_S, readWR_c]) (by simp [readWR_S, readWR_o])
    simp only [readWR_S, readWR_fin, hn, pairsN, g0, g1, g2, List.append_assoc, List.cons_append, List.nil_append]
  · have l1 : decide ((i : Int) < ((b.getD 4 0).toNat : Int)) = false := by simp only [decide_eq_false_iff_not]; omega
    have hi : (b.getD 4 0).toNat - i = 0 := by omega
    simp only [l1, cond_false]
    exact leafR_exit (readWR_o c b pl y ws i) (by simp only [readWR_S, readWR_fin, readWR_o, hi, pairsN, RT.val, List.append_nil]) rfl
def readWR_d (env : Env RC) (os : List (Obj RC)) : Option (Bool × readWR_St) := match env, os with
  | [(0, .sl .u8 c b), (6, .ptr 0 []), (7, .int .i64 x0)], [.var 27 (.acons (.int .i64 pl) (.acons (.bool y) (.acons (.vs 1 x1) .anil))), .vec .write true ws] => staticD (true) (decide (x0 = 0) && decide (x1 = ws.length) && decide (b.length = 5 + 2 * (b.getD 4 0).toNat ∧ ws.length = 0), ⟨c, b, pl, y, ws, 0⟩)
  | _, _ => none
noncomputable def uk_3 := uk_2.addLoop 42 6 (sumR s06 [.slot 6 0, .path 0 [2]] [0, 6, 7] readWR_S readWR_d)
theorem uk_3_laws : FLaws Try.prog s06 uk_3 := by
  refine uk_2_laws.addRoundsR s06_laws (by kernel_rfl) readWR_S 40 [0, 6, 7] [] [.slot 6 0, .path 0 [2]] [0, 6, 7] readWR_d (fun q hI => ?_) ?_
  · obtain ⟨c, b, pl, y, ws, i⟩ := q
    refine ⟨?_, ?_, readWR_round c b pl y ws i hI⟩
    · simp_all [RefsOK, readWR_S, readWR_c, readWR_o, readWR_Inv, D.refs, Obj.refs, rEnc]
    · simp_all [readWR_S, readWR_fin, readWR_o, readWR_Inv, RT.refsOK, RefsOK, D.refs, Obj.refs, rEnc]
  · intro env os b q hd_ hb
    unfold readWR_d at hd_
    split at hd_
    · obtain ⟨hs, hd_⟩ := staticD_some hd_
      cases hd_
      simp only [Bool.and_eq_true, decide_eq_true_eq] at hb
      obtain ⟨⟨rfl, rfl⟩, hq⟩ := hb
      exact ⟨⟨hq.1, Nat.zero_le _, by simp [hq.2]⟩, rfl, rfl⟩
    · cases hd_
def readRr_s (c : Bool) (b : List UInt8) : Option (Bool × D RC) := some (decide (b.length ≤ 1000000), .tup (.acons (.acons (.int .i64 (recG (readR b)).place) (.acons (.bool (recG (readR b)).yes) (.acons (.sl (C := RC) .write (readR b).isNone (recG (readR b)).writes) .anil))) (.acons (.int .i64 (bif (readR b).isNone then 50 else 0)) .anil)))
def readRr_sp : List (D RC) → Option (Bool × D RC)
  | [.sl .u8 c b] => readRr_s c b
  | _ => none
noncomputable def readRr_e (c : Bool) (b : List UInt8) := evF s06 uk_3 40 42 [.sl (C := RC) .u8 c b]
theorem readRr_eq (c : Bool) (b : List UInt8) : readRr_e c b = (let Z0 : Nat := List.length b; let Z1 : Int := (↑Z0 : Int); let Z2 : D RC := D.int .i64 0; let Z3 : DO_ := some (D.tup (D.acons (D.acons Z2 (D.acons (D.bool false) (.acons (D.sl RTy.write true []) .anil))) (.acons (D.int .i64 50) .anil))); let Z4 : Bool := decide ((0 : Int) ≤ (3 : Int) ∧ (3 : Int) < Z1); let Z5 : UInt8 := UInt8.ofBitVec (BitVec.ofNat (8 : Nat) (nat_lit 0)); let Z6 : Int := (↑(UInt8.toNat (List.getD b (3 : Nat) Z5)) : Int); let Z7 : Nat := UInt8.toNat (List.getD b (4 : Nat) (0 : UInt8)); let Z8 : List Write := [] ++ pairsN (Z7 - 0) (List.drop (5 : Nat) b); let Z9 : Nat := List.length Z8; let Z10 : Int := Prod.fst (getP b (0 : Int) (3 : Int)); bif lenOK Z0 then bif decide (Z1 < (5 : Int)) then Z3 else bif Z4 then bif decide ((1 : Int) < Z6) then Z3 else bif lenOK Z0 then bif decide ((0 : Int) ≤ (4 : Int) ∧ (4 : Int) < Z1) then bif Z1 != IntKind.wrap .i64 ((5 : Int) + IntKind.wrap .i64 ((2 : Int) * IntKind.wrap .i64 (↑(UInt8.toNat (List.getD b (4 : Nat) Z5)) : Int))) then Z3 else bif decide (Z0 ≤ (1000000000000 : Nat)) then bif Z4 then bif decide (Z0 = (5 : Nat) + (2 : Nat) * Z7 ∧ (0 : Nat) = (0 : Nat)) then bif Nat.beq Z9 Z9 then bif lenOK Z9 then bif !mayB (Rec.mk Z10 (Z6 == (1 : Int)) Z8) then Z3 else some (D.tup (D.acons (D.acons (D.int .i64 Z10) (.acons (D.bool (Z6 == (1 : Int))) (.acons (D.sl RTy.write false Z8) .anil))) (.acons Z2 .anil))) else none else none else none else none else none else none else none else none else none) := by kernel_rfl
theorem readRr_ok (c : Bool) (b : List UInt8) (h : (decide (b.length ≤ 1000000)) = true) : readRr_e c b = some (.tup (.acons (.acons (.int .i64 (recG (readR b)).place) (.acons (.bool (recG (readR b)).yes) (.acons (.sl (C := RC) .write (readR b).isNone (recG (readR b)).writes) .anil))) (.acons (.int .i64 (bif (readR b).isNone then 50 else 0)) .anil))) := by
  (rw [readRr_eq]; conv => zeta)
  have hl := of_decide_eq_true h
  have z : (⟨0#8⟩ : UInt8) = 0 := rfl
  have h4 := (b.getD 4 0).toNat_lt
  have no : readR b = none → some (D.tup (D.acons (D.acons (D.int IntKind.i64 0) (D.acons (D.bool false) (D.acons (D.sl (C := RC) RTy.write true []) D.anil))) (D.acons (D.int IntKind.i64 50) D.anil))) = some (.tup (.acons (.acons (.int .i64 (recG (readR b)).place) (.acons (.bool (recG (readR b)).yes) (.acons (.sl (C := RC) .write (readR b).isNone (recG (readR b)).writes) .anil))) (.acons (.int .i64 (bif (readR b).isNone then 50 else 0)) .anil))) := fun e => by rw [e]; rfl
  simp only [z, lenOK_of (show b.length ≤ 9223372036854775807 by omega), cond_true, u8_i64]
  by_cases b5 : b.length < 5
  · have : decide ((b.length : Int) < 5) = true := by simp only [decide_eq_true_eq]; omega
    simp only [this, cond_true]
    exact no (by unfold readR; rw [if_neg]; omega)
  have l5 : decide ((b.length : Int) < 5) = false := by simp only [decide_eq_false_iff_not]; omega
  have d3 : decide ((0 : Int) ≤ 3 ∧ (3 : Int) < b.length) = true := by simp only [decide_eq_true_eq]; omega
  have d4 : decide ((0 : Int) ≤ 4 ∧ (4 : Int) < b.length) = true := by simp only [decide_eq_true_eq]; omega
  simp only [l5, d3, d4, cond_true, cond_false]
  by_cases y0 : 1 < (b.getD 3 0).toNat
  · have : decide (1 < ((b.getD 3 0).toNat : Int)) = true := by simp only [decide_eq_true_eq]; omega
    simp only [this, cond_true]
    exact no (by unfold readR; rw [if_neg]; omega)
  have y1 : decide (1 < ((b.getD 3 0).toNat : Int)) = false := by simp only [decide_eq_false_iff_not]; omega
  have y2 : (((b.getD 3 0).toNat : Int) == 1) = ((b.getD 3 0).toNat == 1) := by rw [Bool.eq_iff_iff]; simp only [beq_iff_eq]; omega
  have w2 : IntKind.i64.wrap (2 * ((b.getD 4 0).toNat : Int)) = 2 * ((b.getD 4 0).toNat : Int) := wrap_id (by omega) (by omega)
  have w5 : IntKind.i64.wrap (5 + 2 * ((b.getD 4 0).toNat : Int)) = 5 + 2 * ((b.getD 4 0).toNat : Int) := wrap_id (by omega) (by omega)
  simp only [y1, y2, w2, w5, cond_false]
  by_cases e5 : b.length = 5 + 2 * (b.getD 4 0).toNat
  · have q1 : ((b.length : Int) != 5 + 2 * ((b.getD 4 0).toNat : Int)) = false := by simp only [bne_eq_false_iff_eq]; omega
    have q2 : decide (b.length ≤ 1000000000000) = true := decide_eq_true (by omega)
    have q3 : decide (b.length = 5 + 2 * (b.getD 4 0).toNat ∧ True) = true := decide_eq_true ⟨e5, trivial⟩
    have kp : (pairsN (b.getD 4 0).toNat (b.drop 5)).length ≤ 9223372036854775807 := by rw [pairsN_len]; omega
    have eb : ∀ n : Nat, n.beq n = true := fun n => by simp
    simp only [q1, q2, q3, eb, lenOK_of kp, cond_true, cond_false, List.nil_append, Nat.sub_zero, getP_fst3 (show ¬ b.length < 3 by omega)]
    cases hm : mayB ⟨(leVal (b.take 3) : Int), (b.getD 3 0).toNat == 1, pairsN (b.getD 4 0).toNat (b.drop 5)⟩
    · simp only [Bool.not_false, cond_true]
      exact no (by unfold readR; rw [if_neg]; intro q; rw [hm] at q; cases q.2.2.2)
    · have hr : readR b = some ⟨(leVal (b.take 3) : Int), (b.getD 3 0).toNat == 1, pairsN (b.getD 4 0).toNat (b.drop 5)⟩ := by
        unfold readR; rw [if_pos ⟨by omega, by omega, e5, hm⟩]
      simp only [Bool.not_true, cond_false, hr, recG, Option.getD_some, Option.isNone_some]
  · have q1 : ((b.length : Int) != 5 + 2 * ((b.getD 4 0).toNat : Int)) = true := by simp only [bne_iff_ne, ne_eq]; omega
    simp only [q1, cond_true]
    exact no (by unfold readR; rw [if_neg]; omega)
noncomputable def uk_4 := uk_3.addSpec 42 readRr_sp
theorem uk_4_laws : FLaws Try.prog s06 uk_4 := uk_3_laws.addEv s06_laws fun args d h => by
  unfold readRr_sp at h
  split at h
  · unfold readRr_s at h
    have h1 := congrArg Prod.fst (Option.some.inj h)
    obtain rfl : _ = d := congrArg Prod.snd (Option.some.inj h)
    exact ⟨by simp [D.refs], 40, readRr_ok _ _ h1⟩
  · cases h
open Go.Proofs
theorem u32_nat (n : Int) : (BitVec.ofInt IntKind.u32.bits n).toNat = (n % 4294967296).toNat := by
  rw [BitVec.toNat_ofInt]
  simp only [IntKind.bits]
  congr 1
theorem u32_wrap (n : Int) : IntKind.u32.wrap n = n % 4294967296 := by
  simp [IntKind.wrap, IntKind.bits, IntKind.signed]
def xor32 (a b : Int) : Int := bits .u32 (fun _ u v => u ^^^ v) a b
theorem xor32_range (a b : Int) : 0 ≤ xor32 a b ∧ xor32 a b < 4294967296 := by
  unfold xor32 bits
  rw [u32_wrap]; omega
def crcS (n : Int) : Int := if n % 2 = 1 then xor32 (n / 2) 3988292384 else n / 2
theorem crcS_range {n : Int} (h : 0 ≤ n ∧ n < 4294967296) : 0 ≤ crcS n ∧ crcS n < 4294967296 := by
  unfold crcS
  split
  · exact xor32_range _ _
  · omega
theorem and1 {n : Int} (h : 0 ≤ n ∧ n < 4294967296) : bits .u32 (fun _ u v => u &&& v) n 1 = n % 2 := by
  unfold bits
  rw [BitVec.toNat_and, u32_nat, u32_nat]
  have e : ((1 : Int) % 4294967296).toNat = 2 ^ 1 - 1 := by decide
  rw [e, Nat.and_two_pow_sub_one_eq_mod, u32_wrap]
  omega
theorem xor32_zero {n : Int} (h : 0 ≤ n ∧ n < 4294967296) : xor32 n 0 = n := by
  unfold xor32 bits
  rw [BitVec.toNat_xor, u32_nat, u32_nat]
  have e : ((0 : Int) % 4294967296).toNat = 0 := by decide
  rw [e, Nat.xor_zero, u32_wrap]
  omega
theorem half {n : Int} (h : 0 ≤ n) : n.fdiv 2 = n / 2 := Int.fdiv_eq_ediv_of_nonneg _ (by omega)
def iterS : Nat → Int → Int
  | 0, n => n
  | k + 1, n => iterS k (crcS n)
def crc8 (n : Int) : Int := iterS 8 n
def crcOn (n : Int) (l : List UInt8) : Int := l.foldl (fun n c => crc8 (xor32 n (c.toNat : Int))) n
theorem crcOn_cons (n : Int) (c : UInt8) (l : List UInt8) : crcOn n (c :: l) = crcOn (crc8 (xor32 n (c.toNat : Int))) l := by
  simp only [crcOn, List.foldl_cons]
theorem crcOn_nil (n : Int) : crcOn n [] = n := by simp only [crcOn, List.foldl_nil]
def crcOf (l : List UInt8) : Int := xor32 4294967295 (crcOn 4294967295 l)
theorem crcOf_range (l : List UInt8) : 0 ≤ crcOf l ∧ crcOf l < 4294967296 := xor32_range _ _
def sealL (b : List UInt8) : List UInt8 := b ++ leB (crcOf b) 4
theorem sealL_len (b : List UInt8) : (sealL b).length = b.length + 4 := by simp [sealL, leB_length]
def openL (b : List UInt8) : Option (List UInt8) := if 4 ≤ b.length ∧ sealL (b.take (b.length - 4)) = b then some (b.take (b.length - 4)) else none
theorem openL_seal (b : List UInt8) : openL (sealL b) = some b := by
  have e : (sealL b).take ((sealL b).length - 4) = b := by
    rw [sealL_len]; simp [sealL]
  unfold openL
  rw [e, if_pos ⟨by rw [sealL_len]; omega, rfl⟩]
theorem openL_len {b x : List UInt8} (h : openL b = some x) : b.length = x.length + 4 := by
  unfold openL at h
  split at h
  · rename_i q; cases h; simp; omega
  · cases h
theorem openL_test (b : List UInt8) (h : 4 ≤ b.length) : (sealL (b.take (b.length - 4))).drop (b.length - 4) = b.drop (b.length - 4) ↔ sealL (b.take (b.length - 4)) = b := by
  have e : ((b.take (b.length - 4))).length = b.length - 4 := by simp
  have e2 : (sealL (b.take (b.length - 4))).drop (b.length - 4) = leB (crcOf (b.take (b.length - 4))) 4 := by
    unfold sealL
    rw [List.drop_left' e]
  rw [e2]
  constructor
  · intro q
    unfold sealL
    rw [q, List.take_append_drop]
  · intro q
    have := congrArg (List.drop (b.length - 4)) q
    rw [← e2]; exact this
def okF (n : Int) (load : List UInt8) : Bool := decide (1 ≤ n) && decide (n ≤ 1048575) && decide (load.length ≤ 600)
def frameB (n : Int) (load : List UInt8) : List UInt8 := sealL (leB n 6 ++ leB load.length 2 ++ load)
def readF (b : List UInt8) : Option (Int × List UInt8) := match openL b with
  | none => none
  | some x => if 8 ≤ x.length ∧ leVal ((x.drop 6).take 2) + 8 = x.length ∧ x.length ≤ 608 ∧ 1 ≤ leVal (x.take 6) ∧ leVal (x.take 6) ≤ 1048575 then some ((leVal (x.take 6) : Int), x.drop 8) else none
theorem frameB_len (n : Int) (load : List UInt8) : (frameB n load).length = load.length + 12 := by
  simp [frameB, sealL_len, leB_length]; omega
theorem readF_frame {n : Int} {load : List UInt8} (h : okF n load = true) : readF (frameB n load) = some (n, load) := by
  simp only [okF, Bool.and_eq_true, decide_eq_true_eq] at h
  unfold readF frameB
  rw [openL_seal]
  have l6 := leB_length 6 n
  have l2 := leB_length 2 (load.length : Int)
  have t6 : (leB n 6 ++ leB (load.length : Int) 2 ++ load).take 6 = leB n 6 := by rw [List.append_assoc, List.take_left' l6]
  have d6 : (leB n 6 ++ leB (load.length : Int) 2 ++ load).drop 6 = leB (load.length : Int) 2 ++ load := by rw [List.append_assoc, List.drop_left' l6]
  have d8 : (leB n 6 ++ leB (load.length : Int) 2 ++ load).drop 8 = load := by
    rw [show (8 : Nat) = 6 + 2 from rfl, ← List.drop_drop, d6, List.drop_left' l2]
  have v6 : (leVal (leB n 6) : Int) = n := leVal_leB 6 n (by omega) (by omega)
  have v2 : (leVal (leB (load.length : Int) 2) : Int) = load.length := leVal_leB 2 _ (by omega) (by omega)
  have t2 : (leB (load.length : Int) 2 ++ load).take 2 = leB (load.length : Int) 2 := List.take_left' l2
  simp only [t6, d6, d8, t2]
  rw [if_pos ⟨by simp [l6, l2]; omega, by simp [l6, l2]; omega, by simp [l6, l2]; omega, by omega, by omega⟩, v6]
theorem readF_ok {b : List UInt8} {n : Int} {load : List UInt8} (h : readF b = some (n, load)) : okF n load = true ∧ frameB n load = b := by
  unfold readF at h
  cases hx : openL b with
  | none => simp [hx] at h
  | some x =>
    simp only [hx] at h
    split at h
    · rename_i q
      obtain ⟨q1, q2, q3, q4, q5⟩ := q
      simp only [Option.some.injEq, Prod.mk.injEq] at h
      obtain ⟨rfl, rfl⟩ := h
      refine ⟨by simp only [okF, Bool.and_eq_true, decide_eq_true_eq, List.length_drop]; omega, ?_⟩
      have e6 : leB (leVal (x.take 6) : Int) 6 = x.take 6 := by
        have := leB_leVal (x.take 6)
        rw [List.length_take, Nat.min_eq_left (by omega)] at this; exact this
      have e2 : leB ((x.drop 8).length : Int) 2 = (x.drop 6).take 2 := by
        have := leB_leVal ((x.drop 6).take 2)
        rw [List.length_take, List.length_drop, Nat.min_eq_left (by omega)] at this
        rw [List.length_drop, show x.length - 8 = leVal ((x.drop 6).take 2) by omega]; exact this
      unfold frameB
      rw [e6, e2, List.append_assoc, show x.drop 8 = (x.drop 6).drop 2 by rw [List.drop_drop], List.take_append_drop, List.take_append_drop]
      unfold openL at hx
      split at hx
      · rename_i q; cases hx; exact q.2
      · cases hx
    · cases h
noncomputable def rng (n : Int) : Bool := @decide (0 ≤ n ∧ n < 4294967296) (Classical.propDecidable _)
theorem rng_iff {n : Int} : rng n = true ↔ 0 ≤ n ∧ n < 4294967296 := by unfold rng; exact @decide_eq_true_iff _ (Classical.propDecidable _)
theorem rng_x (a b : Int) : rng (xor32 a b) = true := rng_iff.2 (xor32_range a b)
theorem rng_s {n : Int} (h : rng n = true) : rng (crcS n) = true := rng_iff.2 (crcS_range (rng_iff.1 h))
theorem u8_u32 (c : UInt8) : IntKind.u32.wrap (c.toNat : Int) = (c.toNat : Int) := by
  have := c.toNat_lt
  rw [u32_wrap]; omega
theorem crcOn_step (b : List UInt8) (i : Nat) (n : Int) (h : i < b.length) (d : UInt8) : crcOn n (b.drop i) = crcOn (crc8 (xor32 n ((b.getD i d).toNat : Int))) (b.drop (i + 1)) := by
  have e : b.getD i d = b[i] := by simp [h]
  have e2 : b.drop i = b[i] :: b.drop (i + 1) := List.drop_eq_getElem_cons h
  rw [e2, e]
  exact crcOn_cons _ _ _
theorem and255 {n : Int} (h : 0 ≤ n ∧ n < 4294967296) : bits .u32 (fun _ u v => u &&& v) n 255 = n % 256 := by
  unfold bits
  rw [BitVec.toNat_and, u32_nat, u32_nat]
  have e : ((255 : Int) % 4294967296).toNat = 2 ^ 8 - 1 := by decide
  rw [e, Nat.and_two_pow_sub_one_eq_mod, u32_wrap]
  omega
theorem byteOf_wrap (n : Int) : UInt8.ofNat (IntKind.u8.wrap n).toNat = byteOf n := rfl
theorem byteOf_mod (n : Int) : byteOf (n % 256) = byteOf n := by
  unfold byteOf; rw [u8_wrap, u8_wrap]; congr 2; omega
theorem leB4 (n : Int) : leB n 4 = [byteOf n, byteOf (n.fdiv 256), byteOf ((n.fdiv 256).fdiv 256), byteOf (((n.fdiv 256).fdiv 256).fdiv 256)] := rfl
theorem cond_of {α : Type} {c : Bool} {x y z : α} (h : c = true) (h2 : x = z) : cond c x y = z := by rw [h]; exact h2
theorem cond_no {α : Type} {c : Bool} {x y z : α} (h : c = false) (h2 : y = z) : cond c x y = z := by rw [h]; exact h2
theorem cond_two {α : Type} {c : Bool} {x y z : α} (h1 : c = true → x = z) (h2 : c = false → y = z) : cond c x y = z := by cases c; exact h2 rfl; exact h1 rfl
open Go.Proofs
noncomputable def stepP_s (n : Int) : Option (Bool × D RC) := some (rng n, .int .u32 (crcS n))
noncomputable def stepP_sp : List (D RC) → Option (Bool × D RC)
  | [.int .u32 n] => stepP_s n
  | _ => none
noncomputable def stepP_e (n : Int) := evF s06 uk_4 40 88 [.int .u32 n]
theorem stepP_eq (n : Int) : stepP_e n = (some (D.int IntKind.u32 (bits IntKind.u32 (fun (x : Nat) (u v : BitVec x) => u ^^^ v) (Int.fdiv n (2 : Int)) (IntKind.wrap IntKind.u32 (bits IntKind.u32 (fun (x : Nat) (u v : BitVec x) => u &&& v) n (1 : Int) * (3988292384 : Int)))))) := by kernel_rfl
theorem stepP_ok (n : Int) (h : (rng n) = true) : stepP_e n = some (.int .u32 (crcS n)) := by
  rw [stepP_eq]
  have hr := rng_iff.1 h
  rw [and1 hr, half hr.1]
  congr 2
  unfold crcS
  split
  · rename_i e
    rw [e, u32_wrap]; rfl
  · rename_i e
    have e0 : n % 2 = 0 := by omega
    rw [e0, u32_wrap]
    exact xor32_zero (by omega)
noncomputable def ut_1 := uk_4.addSpec 88 stepP_sp
theorem ut_1_laws : FLaws Try.prog s06 ut_1 := uk_4_laws.addEv s06_laws fun args d h => by
  unfold stepP_sp at h
  split at h
  · unfold stepP_s at h
    have h1 := congrArg Prod.fst (Option.some.inj h)
    obtain rfl : _ = d := congrArg Prod.snd (Option.some.inj h)
    exact ⟨by simp [D.refs], 40, stepP_ok _ h1⟩
  · cases h
noncomputable def stepR_s (n : Int) : Option (Bool × D RC) := some (rng n, .int .u32 (crcS n))
noncomputable def stepR_sp : List (D RC) → Option (Bool × D RC)
  | [.int .u32 n] => stepR_s n
  | _ => none
noncomputable def stepR_e (n : Int) := evF s06 ut_1 40 87 [.int .u32 n]
theorem stepR_eq (n : Int) : stepR_e n = (let Z0 : Int := Int.fdiv n (2 : Int); bif bits IntKind.u32 (fun (x : Nat) (u v : BitVec x) => u &&& v) n (1 : Int) == (1 : Int) then some (D.int IntKind.u32 (bits IntKind.u32 (fun (x : Nat) (u v : BitVec x) => u ^^^ v) Z0 (3988292384 : Int))) else some (D.int IntKind.u32 Z0)) := by kernel_rfl
theorem stepR_ok (n : Int) (h : (rng n) = true) : stepR_e n = some (.int .u32 (crcS n)) := by
  (rw [stepR_eq]; conv => zeta)
  have hr := rng_iff.1 h
  rw [and1 hr, half hr.1]
  unfold crcS
  by_cases e : n % 2 = 1
  · rw [if_pos e, ibeqT e]; rfl
  · rw [if_neg e, ibeqF e]; rfl
noncomputable def ut_2 := ut_1.addSpec 87 stepR_sp
theorem ut_2_laws : FLaws Try.prog s06 ut_2 := ut_1_laws.addEv s06_laws fun args d h => by
  unfold stepR_sp at h
  split at h
  · unfold stepR_s at h
    have h1 := congrArg Prod.fst (Option.some.inj h)
    obtain rfl : _ = d := congrArg Prod.snd (Option.some.inj h)
    exact ⟨by simp [D.refs], 40, stepR_ok _ h1⟩
  · cases h
structure on8P_St where
  n : Int
  i : Nat
def on8P_c (n : Int) (i : Nat) : Env RC := [(0, .int .u32 n), (17, .int .i64 (i : Int))]
def on8P_o (n : Int) (i : Nat) : List (Obj RC) := []
noncomputable def on8P_r (n : Int) (i : Nat) := rndO s06 ut_2 86 6 60 0 [0, 17] [0] [] (on8P_c n i) (on8P_o n i)
theorem on8P_eq (n : Int) (i : Nat) : on8P_r n i = (bif decide ((↑i : Int) < (8 : Int)) then bif rng n then some ((X.normal, [(0, D.int IntKind.u32 (crcS n)), (17, D.int .i64 (IntKind.wrap .i64 ((↑i : Int) + (1 : Int))))]), []) else none else some ((X.exit (2 : Nat), [(0, D.int IntKind.u32 n)]), [])) := by kernel_rfl
noncomputable def on8P_fin (n : Int) (i : Nat) : RT RC := .leaf (.exit 2) [(0, .int .u32 (iterS (8 - i) n))] []
def on8P_Inv (n : Int) (i : Nat) : Prop := i ≤ 8 ∧ rng n = true
noncomputable def on8P_S : LoopR RC on8P_St where
  k := 0
  canon q := on8P_c q.n q.i
  objs q := on8P_o q.n q.i
  fin q := on8P_fin q.n q.i
  Inv q := on8P_Inv q.n q.i
  μ q := 8 - q.i
theorem on8P_round (n : Int) (i : Nat) (hI : on8P_Inv n i) : Leaf (on8P_r n i) (LedR on8P_S ⟨n, i⟩) := by
  rw [on8P_eq]
  unfold on8P_Inv at hI
  obtain ⟨h1, h2⟩ := hI
  by_cases hlt : i < 8
  · have c1 : decide ((i : Int) < 8) = true := by simp; omega
    have w_succ : IntKind.i64.wrap ((i : Int) + 1) = ((i + 1 : Nat) : Int) := by rw [wrap_id (by omega) (by omega)]; simp
    rw [c1, h2, w_succ]
    refine leafR_go ⟨crcS n, i + 1⟩ ⟨hlt, rng_s h2⟩ (by simp only [on8P_S]; omega) ?_ rfl rfl
    simp only [on8P_S, on8P_fin, show 8 - i = (8 - (i + 1)) + 1 by omega, iterS]
  · have hi : i = 8 := by omega
    have c1 : decide ((i : Int) < 8) = false := by simp; omega
    rw [c1]
    exact leafR_exit [] (by simp only [on8P_S, on8P_fin, hi, Nat.sub_self, iterS, RT.val]) rfl
noncomputable def on8P_d (env : Env RC) (os : List (Obj RC)) : Option (Bool × on8P_St) := match env, os with
  | [(0, .int .u32 n), (17, .int .i64 x0)], [] => staticD (true) (decide (x0 = 0) && rng n, ⟨n, 0⟩)
  | _, _ => none
noncomputable def ut_3 := ut_2.addLoop 86 6 (sumR s06 [] [0, 17] on8P_S on8P_d)
theorem ut_3_laws : FLaws Try.prog s06 ut_3 := by
  refine ut_2_laws.addRoundsR s06_laws (by kernel_rfl) on8P_S 60 [0, 17] [0] [] [0, 17] on8P_d (fun q hI => ?_) ?_
  · obtain ⟨n, i⟩ := q
    refine ⟨?_, ?_, on8P_round n i hI⟩
    · simp_all [RefsOK, on8P_S, on8P_c, on8P_o, on8P_Inv, D.refs, Obj.refs, rEnc]
    · simp_all [on8P_S, on8P_fin, on8P_o, on8P_Inv, RT.refsOK, RefsOK, D.refs, Obj.refs, rEnc]
  · intro env os b q hd_ hb
    unfold on8P_d at hd_
    split at hd_
    · obtain ⟨hs, hd_⟩ := staticD_some hd_
      cases hd_
      simp only [Bool.and_eq_true, decide_eq_true_eq] at hb
      obtain ⟨rfl, h⟩ := hb
      exact ⟨⟨Nat.zero_le _, h⟩, rfl, rfl⟩
    · cases hd_
structure on8R_St where
  n : Int
  i : Nat
def on8R_c (n : Int) (i : Nat) : Env RC := [(0, .int .u32 n), (6, .int .i64 (i : Int))]
def on8R_o (n : Int) (i : Nat) : List (Obj RC) := []
noncomputable def on8R_r (n : Int) (i : Nat) := rndO s06 ut_3 84 6 60 0 [0, 6] [0] [] (on8R_c n i) (on8R_o n i)
theorem on8R_eq (n : Int) (i : Nat) : on8R_r n i = (bif decide ((↑i : Int) < (8 : Int)) then bif rng n then some ((X.normal, [(0, D.int IntKind.u32 (crcS n)), (6, D.int .i64 (IntKind.wrap .i64 ((↑i : Int) + (1 : Int))))]), []) else none else some ((X.exit (2 : Nat), [(0, D.int IntKind.u32 n)]), [])) := by kernel_rfl
noncomputable def on8R_fin (n : Int) (i : Nat) : RT RC := .leaf (.exit 2) [(0, .int .u32 (iterS (8 - i) n))] []
def on8R_Inv (n : Int) (i : Nat) : Prop := i ≤ 8 ∧ rng n = true
noncomputable def on8R_S : LoopR RC on8R_St where
  k := 0
  canon q := on8R_c q.n q.i
  objs q := on8R_o q.n q.i
  fin q := on8R_fin q.n q.i
  Inv q := on8R_Inv q.n q.i
  μ q := 8 - q.i
theorem on8R_round (n : Int) (i : Nat) (hI : on8R_Inv n i) : Leaf (on8R_r n i) (LedR on8R_S ⟨n, i⟩) := by
  rw [on8R_eq]
  unfold on8R_Inv at hI
  obtain ⟨h1, h2⟩ := hI
  by_cases hlt : i < 8
  · have c1 : decide ((i : Int) < 8) = true := by simp; omega
    have w_succ : IntKind.i64.wrap ((i : Int) + 1) = ((i + 1 : Nat) : Int) := by rw [wrap_id (by omega) (by omega)]; simp
    rw [c1, h2, w_succ]
    refine leafR_go ⟨crcS n, i + 1⟩ ⟨hlt, rng_s h2⟩ (by simp only [on8R_S]; omega) ?_ rfl rfl
    simp only [on8R_S, on8R_fin, show 8 - i = (8 - (i + 1)) + 1 by omega, iterS]
  · have hi : i = 8 := by omega
    have c1 : decide ((i : Int) < 8) = false := by simp; omega
    rw [c1]
    exact leafR_exit [] (by simp only [on8R_S, on8R_fin, hi, Nat.sub_self, iterS, RT.val]) rfl
noncomputable def on8R_d (env : Env RC) (os : List (Obj RC)) : Option (Bool × on8R_St) := match env, os with
  | [(0, .int .u32 n), (6, .int .i64 x0)], [] => staticD (true) (decide (x0 = 0) && rng n, ⟨n, 0⟩)
  | _, _ => none
noncomputable def ut_4 := ut_3.addLoop 84 6 (sumR s06 [] [0, 6] on8R_S on8R_d)
theorem ut_4_laws : FLaws Try.prog s06 ut_4 := by
  refine ut_3_laws.addRoundsR s06_laws (by kernel_rfl) on8R_S 60 [0, 6] [0] [] [0, 6] on8R_d (fun q hI => ?_) ?_
  · obtain ⟨n, i⟩ := q
    refine ⟨?_, ?_, on8R_round n i hI⟩
    · simp_all [RefsOK, on8R_S, on8R_c, on8R_o, on8R_Inv, D.refs, Obj.refs, rEnc]
    · simp_all [on8R_S, on8R_fin, on8R_o, on8R_Inv, RT.refsOK, RefsOK, D.refs, Obj.refs, rEnc]
  · intro env os b q hd_ hb
    unfold on8R_d at hd_
    split at hd_
    · obtain ⟨hs, hd_⟩ := staticD_some hd_
      cases hd_
      simp only [Bool.and_eq_true, decide_eq_true_eq] at hb
      obtain ⟨rfl, h⟩ := hb
      exact ⟨⟨Nat.zero_le _, h⟩, rfl, rfl⟩
    · cases hd_
structure onPl_St where
  n : Int
  c : Bool
  b : List UInt8
  i : Nat
def onPl_c (n : Int) (c : Bool) (b : List UInt8) (i : Nat) : Env RC := [(0, .int .u32 n), (7, .sl (C := RC) .u8 c b), (8, .int .i64 (b.length)), (9, .int .i64 (i : Int))]
def onPl_o (n : Int) (c : Bool) (b : List UInt8) (i : Nat) : List (Obj RC) := []
noncomputable def onPl_r (n : Int) (c : Bool) (b : List UInt8) (i : Nat) := rndO s06 ut_4 86 2 60 0 [0, 7, 8, 9] [0] [] (onPl_c n c b i) (onPl_o n c b i)
theorem onPl_eq (n : Int) (c : Bool) (b : List UInt8) (i : Nat) : onPl_r n c b i = (let Z0 : Int := (↑i : Int); let Z1 : Int := (↑b.length : Int); let Z2 : Int := bits IntKind.u32 (fun (x : Nat) (u v : BitVec x) => u ^^^ v) n (IntKind.wrap IntKind.u32 (↑(UInt8.toNat (List.getD b Z0.toNat (UInt8.ofBitVec (BitVec.ofNat (8 : Nat) (nat_lit 0))))) : Int)); bif decide (Z0 < Z1) then bif decide ((0 : Int) ≤ Z0 ∧ Z0 < Z1) then bif rng Z2 then some ((X.normal, [(0, D.int IntKind.u32 (iterS (8 : Nat) Z2)), (7, D.sl RTy.u8 c b), (8, D.int .i64 Z1), (9, D.int .i64 (IntKind.wrap .i64 (Z0 + (1 : Int))))]), []) else none else none else some ((X.exit (0 : Nat), [(0, D.int IntKind.u32 n)]), [])) := by kernel_rfl
noncomputable def onPl_fin (n : Int) (c : Bool) (b : List UInt8) (i : Nat) : RT RC := .leaf (.exit 0) [(0, .int .u32 (crcOn n (b.drop i)))] []
def onPl_Inv (n : Int) (c : Bool) (b : List UInt8) (i : Nat) : Prop := i ≤ b.length ∧ b.length ≤ 1000000
noncomputable def onPl_S : LoopR RC onPl_St where
  k := 0
  canon q := onPl_c q.n q.c q.b q.i
  objs q := onPl_o q.n q.c q.b q.i
  fin q := onPl_fin q.n q.c q.b q.i
  Inv q := onPl_Inv q.n q.c q.b q.i
  μ q := q.b.length - q.i
theorem onPl_round (n : Int) (c : Bool) (b : List UInt8) (i : Nat) (hI : onPl_Inv n c b i) : Leaf (onPl_r n c b i) (LedR onPl_S ⟨n, c, b, i⟩) := by
  (rw [onPl_eq]; conv => zeta)
  unfold onPl_Inv at hI
  obtain ⟨h1, h2⟩ := hI
  by_cases hlt : i < b.length
  · have w_succ : IntKind.i64.wrap ((i : Int) + 1) = ((i + 1 : Nat) : Int) := by rw [wrap_id (by omega) (by omega)]; simp
    have d_lt : decide ((i : Int) < b.length) = true := by simp; omega
    have d_in : decide (0 ≤ (i : Int) ∧ (i : Int) < b.length) = true := by simp; omega
    have t_nat : ((i : Int)).toNat = i := by simp
    simp only [w_succ, d_lt, d_in, t_nat, cond_true]
    have hx : ∀ x : Int, rng (bits .u32 (fun _ u v => u ^^^ v) n x) = true := fun x => rng_x n x
    simp only [u8_u32, hx, cond_true]
    refine leafR_go ⟨crc8 (xor32 n ((b.getD i 0).toNat : Int)), c, b, i + 1⟩ ⟨hlt, h2⟩ (by simp only [onPl_S]; omega) ?_ rfl rfl
    simp only [onPl_S, onPl_fin, crcOn_step b i n hlt 0]
  · have hi : i = b.length := by omega
    have c1 : decide ((i : Int) < b.length) = false := by simp; omega
    rw [c1]
    exact leafR_exit [] (by simp only [onPl_S, onPl_fin, hi, List.drop_length, crcOn_nil, RT.val]) rfl
noncomputable def onPl_d (env : Env RC) (os : List (Obj RC)) : Option (Bool × onPl_St) := match env, os with
  | [(0, .int .u32 n), (7, .sl .u8 c b), (8, .int .i64 x0), (9, .int .i64 x1)], [] => staticD (true) (decide (x0 = b.length) && decide (x1 = 0) && decide (b.length ≤ 1000000), ⟨n, c, b, 0⟩)
  | _, _ => none
noncomputable def ut_5 := ut_4.addLoop 86 2 (sumR s06 [] [0, 7, 8, 9] onPl_S onPl_d)
theorem ut_5_laws : FLaws Try.prog s06 ut_5 := by
  refine ut_4_laws.addRoundsR s06_laws (by kernel_rfl) onPl_S 60 [0, 7, 8, 9] [0] [] [0, 7, 8, 9] onPl_d (fun q hI => ?_) ?_
  · obtain ⟨n, c, b, i⟩ := q
    refine ⟨?_, ?_, onPl_round n c b i hI⟩
    · simp_all [RefsOK, onPl_S, onPl_c, onPl_o, onPl_Inv, D.refs, Obj.refs, rEnc]
    · simp_all [onPl_S, onPl_fin, onPl_o, onPl_Inv, RT.refsOK, RefsOK, D.refs, Obj.refs, rEnc]
  · intro env os b q hd_ hb
    unfold onPl_d at hd_
    split at hd_
    · obtain ⟨hs, hd_⟩ := staticD_some hd_
      cases hd_
      simp only [Bool.and_eq_true, decide_eq_true_eq] at hb
      obtain ⟨⟨rfl, rfl⟩, h⟩ := hb
      exact ⟨⟨Nat.zero_le _, h⟩, rfl, rfl⟩
    · cases hd_
structure onRl_St where
  n : Int
  c : Bool
  b : List UInt8
  i : Nat
def onRl_c (n : Int) (c : Bool) (b : List UInt8) (i : Nat) : Env RC := [(0, .int .u32 n), (1, .sl (C := RC) .u8 c b), (5, .int .i64 (i : Int))]
def onRl_o (n : Int) (c : Bool) (b : List UInt8) (i : Nat) : List (Obj RC) := []
noncomputable def onRl_r (n : Int) (c : Bool) (b : List UInt8) (i : Nat) := rndO s06 ut_5 84 2 60 0 [0, 1, 5] [0] [] (onRl_c n c b i) (onRl_o n c b i)
theorem onRl_eq (n : Int) (c : Bool) (b : List UInt8) (i : Nat) : onRl_r n c b i = (let Z0 : Int := (↑i : Int); let Z1 : Int := bits IntKind.u32 (fun (x : Nat) (u v : BitVec x) => u ^^^ v) n (IntKind.wrap IntKind.u32 (↑(UInt8.toNat (List.getD b Z0.toNat (UInt8.ofBitVec (BitVec.ofNat (8 : Nat) (nat_lit 0))))) : Int)); bif lenOK b.length then bif decide (Z0 < (↑b.length : Int)) then bif decide ((0 : Int) ≤ Z0 ∧ Z0 < (↑b.length : Int)) then bif rng Z1 then some ((X.normal, [(0, D.int IntKind.u32 (iterS (8 : Nat) Z1)), (1, D.sl RTy.u8 c b), (5, D.int .i64 (IntKind.wrap .i64 (Z0 + (1 : Int))))]), []) else none else none else some ((X.exit (0 : Nat), [(0, D.int IntKind.u32 n)]), []) else none) := by kernel_rfl
noncomputable def onRl_fin (n : Int) (c : Bool) (b : List UInt8) (i : Nat) : RT RC := .leaf (.exit 0) [(0, .int .u32 (crcOn n (b.drop i)))] []
def onRl_Inv (n : Int) (c : Bool) (b : List UInt8) (i : Nat) : Prop := i ≤ b.length ∧ b.length ≤ 1000000
noncomputable def onRl_S : LoopR RC onRl_St where
  k := 0
  canon q := onRl_c q.n q.c q.b q.i
  objs q := onRl_o q.n q.c q.b q.i
  fin q := onRl_fin q.n q.c q.b q.i
  Inv q := onRl_Inv q.n q.c q.b q.i
  μ q := q.b.length - q.i
theorem onRl_round (n : Int) (c : Bool) (b : List UInt8) (i : Nat) (hI : onRl_Inv n c b i) : Leaf (onRl_r n c b i) (LedR onRl_S ⟨n, c, b, i⟩) := by
  (rw [onRl_eq]; conv => zeta)
  unfold onRl_Inv at hI
  obtain ⟨h1, h2⟩ := hI
  have hlk : lenOK b.length = true := lenOK_of (by omega)
  by_cases hlt : i < b.length
  · have w_succ : IntKind.i64.wrap ((i : Int) + 1) = ((i + 1 : Nat) : Int) := by rw [wrap_id (by omega) (by omega)]; simp
    have d_lt : decide ((i : Int) < b.length) = true := by simp; omega
    have d_in : decide (0 ≤ (i : Int) ∧ (i : Int) < b.length) = true := by simp; omega
    have t_nat : ((i : Int)).toNat = i := by simp
    simp only [w_succ, d_lt, d_in, t_nat, cond_true]
    have hx : ∀ x : Int, rng (bits .u32 (fun _ u v => u ^^^ v) n x) = true := fun x => rng_x n x
    simp only [u8_u32, hx, hlk, cond_true]
    refine leafR_go ⟨crc8 (xor32 n ((b.getD i 0).toNat : Int)), c, b, i + 1⟩ ⟨hlt, h2⟩ (by simp only [onRl_S]; omega) ?_ rfl rfl
    simp only [onRl_S, onRl_fin, crcOn_step b i n hlt 0]
  · have hi : i = b.length := by omega
    have c1 : decide ((i : Int) < b.length) = false := by simp; omega
    rw [hlk, c1]
    exact leafR_exit [] (by simp only [onRl_S, onRl_fin, hi, List.drop_length, crcOn_nil, RT.val]) rfl
noncomputable def onRl_d (env : Env RC) (os : List (Obj RC)) : Option (Bool × onRl_St) := match env, os with
  | [(0, .int .u32 n), (1, .sl .u8 c b), (5, .int .i64 x0)], [] => staticD (true) (decide (x0 = 0) && decide (b.length ≤ 1000000), ⟨n, c, b, 0⟩)
  | _, _ => none
noncomputable def ut_6 := ut_5.addLoop 84 2 (sumR s06 [] [0, 1, 5] onRl_S onRl_d)
theorem ut_6_laws : FLaws Try.prog s06 ut_6 := by
  refine ut_5_laws.addRoundsR s06_laws (by kernel_rfl) onRl_S 60 [0, 1, 5] [0] [] [0, 1, 5] onRl_d (fun q hI => ?_) ?_
  · obtain ⟨n, c, b, i⟩ := q
    refine ⟨?_, ?_, onRl_round n c b i hI⟩
    · simp_all [RefsOK, onRl_S, onRl_c, onRl_o, onRl_Inv, D.refs, Obj.refs, rEnc]
    · simp_all [onRl_S, onRl_fin, onRl_o, onRl_Inv, RT.refsOK, RefsOK, D.refs, Obj.refs, rEnc]
  · intro env os b q hd_ hb
    unfold onRl_d at hd_
    split at hd_
    · obtain ⟨hs, hd_⟩ := staticD_some hd_
      cases hd_
      simp only [Bool.and_eq_true, decide_eq_true_eq] at hb
      obtain ⟨rfl, h⟩ := hb
      exact ⟨⟨Nat.zero_le _, h⟩, rfl, rfl⟩
    · cases hd_
def onP_s (n : Int) (c : Bool) (b : List UInt8) : Option (Bool × D RC) := some (decide (b.length ≤ 1000000), .int .u32 (crcOn n b))
def onP_sp : List (D RC) → Option (Bool × D RC)
  | [.int .u32 n, .sl .u8 c b] => onP_s n c b
  | _ => none
noncomputable def onP_e (n : Int) (c : Bool) (b : List UInt8) := evF s06 ut_6 60 86 [.int .u32 n, .sl (C := RC) .u8 c b]
theorem onP_eq (n : Int) (c : Bool) (b : List UInt8) : onP_e n c b = (let Z0 : Nat := List.length b; bif lenOK Z0 then bif decide ((↑Z0 : Int) = (↑Z0 : Int)) && true && decide (Z0 ≤ (1000000 : Nat)) then some (D.int IntKind.u32 (crcOn n (List.drop (0 : Nat) b))) else none else none) := by kernel_rfl
theorem onP_ok (n : Int) (c : Bool) (b : List UInt8) (h : (decide (b.length ≤ 1000000)) = true) : onP_e n c b = some (.int .u32 (crcOn n b)) := by
  (rw [onP_eq]; conv => zeta)
  have hl := of_decide_eq_true h
  rw [lenOK_of (by omega), h]
  simp
noncomputable def ut_7 := ut_6.addSpec 86 onP_sp
theorem ut_7_laws : FLaws Try.prog s06 ut_7 := ut_6_laws.addEv s06_laws fun args d h => by
  unfold onP_sp at h
  split at h
  · unfold onP_s at h
    have h1 := congrArg Prod.fst (Option.some.inj h)
    obtain rfl : _ = d := congrArg Prod.snd (Option.some.inj h)
    exact ⟨by simp [D.refs], 60, onP_ok _ _ _ h1⟩
  · cases h
def onR_s (n : Int) (c : Bool) (b : List UInt8) : Option (Bool × D RC) := some (decide (b.length ≤ 1000000), .int .u32 (crcOn n b))
def onR_sp : List (D RC) → Option (Bool × D RC)
  | [.int .u32 n, .sl .u8 c b] => onR_s n c b
  | _ => none
noncomputable def onR_e (n : Int) (c : Bool) (b : List UInt8) := evF s06 ut_7 60 84 [.int .u32 n, .sl (C := RC) .u8 c b]
theorem onR_eq (n : Int) (c : Bool) (b : List UInt8) : onR_e n c b = (bif decide (List.length b ≤ (1000000 : Nat)) then some (D.int IntKind.u32 (crcOn n (List.drop (0 : Nat) b))) else none) := by kernel_rfl
theorem onR_ok (n : Int) (c : Bool) (b : List UInt8) (h : (decide (b.length ≤ 1000000)) = true) : onR_e n c b = some (.int .u32 (crcOn n b)) := by
  rw [onR_eq]
  have hl := of_decide_eq_true h
  rw [h]
  simp
noncomputable def ut_8 := ut_7.addSpec 84 onR_sp
theorem ut_8_laws : FLaws Try.prog s06 ut_8 := ut_7_laws.addEv s06_laws fun args d h => by
  unfold onR_sp at h
  split at h
  · unfold onR_s at h
    have h1 := congrArg Prod.fst (Option.some.inj h)
    obtain rfl : _ = d := congrArg Prod.snd (Option.some.inj h)
    exact ⟨by simp [D.refs], 60, onR_ok _ _ _ h1⟩
  · cases h
def sumP_s (c : Bool) (b : List UInt8) : Option (Bool × D RC) := some (decide (b.length ≤ 1000000), .int .u32 (crcOf b))
def sumP_sp : List (D RC) → Option (Bool × D RC)
  | [.sl .u8 c b] => sumP_s c b
  | _ => none
noncomputable def sumP_e (c : Bool) (b : List UInt8) := evF s06 ut_8 60 72 [.sl (C := RC) .u8 c b]
theorem sumP_eq (c : Bool) (b : List UInt8) : sumP_e c b = (bif decide (List.length b ≤ (1000000 : Nat)) then some (D.int IntKind.u32 (bits IntKind.u32 (fun (x : Nat) (u v : BitVec x) => u ^^^ v) (4294967295 : Int) (crcOn (4294967295 : Int) b))) else none) := by kernel_rfl
theorem sumP_ok (c : Bool) (b : List UInt8) (h : (decide (b.length ≤ 1000000)) = true) : sumP_e c b = some (.int .u32 (crcOf b)) := by
  rw [sumP_eq]
  rw [h]; rfl
noncomputable def ut_9 := ut_8.addSpec 72 sumP_sp
theorem ut_9_laws : FLaws Try.prog s06 ut_9 := ut_8_laws.addEv s06_laws fun args d h => by
  unfold sumP_sp at h
  split at h
  · unfold sumP_s at h
    have h1 := congrArg Prod.fst (Option.some.inj h)
    obtain rfl : _ = d := congrArg Prod.snd (Option.some.inj h)
    exact ⟨by simp [D.refs], 60, sumP_ok _ _ h1⟩
  · cases h
def sumR_s (c : Bool) (b : List UInt8) : Option (Bool × D RC) := some (decide (b.length ≤ 1000000), .int .u32 (crcOf b))
def sumR_sp : List (D RC) → Option (Bool × D RC)
  | [.sl .u8 c b] => sumR_s c b
  | _ => none
noncomputable def sumR_e (c : Bool) (b : List UInt8) := evF s06 ut_9 60 74 [.sl (C := RC) .u8 c b]
theorem sumR_eq (c : Bool) (b : List UInt8) : sumR_e c b = (bif decide (List.length b ≤ (1000000 : Nat)) then some (D.int IntKind.u32 (bits IntKind.u32 (fun (x : Nat) (u v : BitVec x) => u ^^^ v) (4294967295 : Int) (crcOn (4294967295 : Int) b))) else none) := by kernel_rfl
theorem sumR_ok (c : Bool) (b : List UInt8) (h : (decide (b.length ≤ 1000000)) = true) : sumR_e c b = some (.int .u32 (crcOf b)) := by
  rw [sumR_eq]
  rw [h]; rfl
noncomputable def ut_10 := ut_9.addSpec 74 sumR_sp
theorem ut_10_laws : FLaws Try.prog s06 ut_10 := ut_9_laws.addEv s06_laws fun args d h => by
  unfold sumR_sp at h
  split at h
  · unfold sumR_s at h
    have h1 := congrArg Prod.fst (Option.some.inj h)
    obtain rfl : _ = d := congrArg Prod.snd (Option.some.inj h)
    exact ⟨by simp [D.refs], 60, sumR_ok _ _ h1⟩
  · cases h
def sealP_s (c : Bool) (b : List UInt8) : Option (Bool × D RC) := some (decide (b.length ≤ 1000000), .sl (C := RC) .u8 false (sealL b))
def sealP_sp : List (D RC) → Option (Bool × D RC)
  | [.sl .u8 c b] => sealP_s c b
  | _ => none
noncomputable def sealP_e (c : Bool) (b : List UInt8) := evF s06 ut_10 60 54 [.sl (C := RC) .u8 c b]
theorem sealP_eq (c : Bool) (b : List UInt8) : sealP_e c b = (let Z0 : Nat := List.length b; let Z1 : Int := (↑Z0 : Int); let Z2 : Int := IntKind.wrap .i64 (Z1 + (4 : Int)); let Z3 : Nat := Int.toNat Z1; let Z4 : List UInt8 := List.replicate Z3 (UInt8.ofBitVec (BitVec.ofNat (8 : Nat) (nat_lit 0))); let Z5 : List UInt8 := List.take Z4.length b ++ List.drop Z0 Z4; let Z6 : List UInt8 := [UInt8.ofNat (IntKind.wrap IntKind.u8 (crcOf b)).toNat]; let Z7 : Nat := List.length Z5 + List.length Z6; let Z8 : Nat := List.length (Z5 ++ Z6); let Z9 : Int := Int.fdiv (crcOf b) (256 : Int); let Z10 : List UInt8 := [UInt8.ofNat (IntKind.wrap IntKind.u8 Z9).toNat]; let Z11 : Nat := List.length (Z5 ++ Z6 ++ Z10); let Z12 : Int := Int.fdiv Z9 (256 : Int); let Z13 : List UInt8 := [UInt8.ofNat (IntKind.wrap IntKind.u8 Z12).toNat]; let Z14 : Nat := List.length (Z5 ++ Z6 ++ Z10 ++ Z13); let Z15 : List UInt8 := [UInt8.ofNat (IntKind.wrap IntKind.u8 (Int.fdiv Z12 (256 : Int))).toNat]; bif lenOK Z0 then bif lenOK Z0 then bif decide ((0 : Int) ≤ Z1 ∧ Z1 ≤ Z2) && sizeOK Z2.toNat (1 : Nat) then bif Nat.beq Z3 Z4.length && lenOK Z3 then bif decide (Z0 ≤ (1000000 : Nat)) then bif Nat.beq Z3 Z5.length && sizeOK (Z3 + List.length Z6) (1 : Nat) then bif Nat.beq Z7 Z8 && sizeOK (Z7 + List.length Z10) (1 : Nat) then bif Nat.beq (Z8 + List.length Z10) Z11 && sizeOK (Z8 + List.length Z10 + List.length Z13) (1 : Nat) then bif Nat.beq (Z11 + List.length Z13) Z14 && sizeOK (Z11 + List.length Z13 + List.length Z15) (1 : Nat) then bif Nat.beq (Z14 + List.length Z15) (Z5 ++ Z6 ++ Z10 ++ Z13 ++ Z15).length then some (D.sl RTy.u8 false (Z5 ++ Z6 ++ Z10 ++ Z13 ++ Z15)) else none else none else none else none else none else none else none else none else none else none) := by kernel_rfl
theorem sealP_ok (c : Bool) (b : List UInt8) (h : (decide (b.length ≤ 1000000)) = true) : sealP_e c b = some (.sl (C := RC) .u8 false (sealL b)) := by
  (rw [sealP_eq]; conv => zeta)
  have hl := of_decide_eq_true h
  have t1 : ((b.length : Int)).toNat = b.length := by simp
  have t2 : b.take (List.replicate b.length (⟨0#8⟩ : UInt8)).length = b := by simp
  have t3 : (List.replicate b.length (⟨0#8⟩ : UInt8)).drop b.length = [] := by simp
  have w4 : IntKind.i64.wrap ((b.length : Int) + 4) = (b.length : Int) + 4 := wrap_id (by omega) (by omega)
  have t4 : ((b.length : Int) + 4).toNat = b.length + 4 := by omega
  simp only [t1, t2, t3, t4, w4, List.append_nil, byteOf_wrap, List.append_assoc, List.cons_append, List.nil_append, List.length_cons, List.length_nil, List.length_append, List.length_replicate, List.take_length, Nat.zero_add, Nat.reduceAdd, Nat.add_assoc]
  have eb : ∀ n : Nat, n.beq n = true := fun n => by simp
  have es : ∀ k : Nat, k ≤ 10 → sizeOK (b.length + k) 1 = true := fun k hk => sizeT (by omega)
  simp only [eb, es, Nat.reduceLeDiff, Bool.and_self, Bool.true_and, cond_true]
  repeat (refine cond_of (by first | assumption | exact lenOK_of (by omega) | exact sizeT (by omega) | (simp; done) | (simp; omega) | (simp [sizeOK]; omega)) ?_)
  rfl
noncomputable def ut_11 := ut_10.addSpec 54 sealP_sp
theorem ut_11_laws : FLaws Try.prog s06 ut_11 := ut_10_laws.addEv s06_laws fun args d h => by
  unfold sealP_sp at h
  split at h
  · unfold sealP_s at h
    have h1 := congrArg Prod.fst (Option.some.inj h)
    obtain rfl : _ = d := congrArg Prod.snd (Option.some.inj h)
    exact ⟨by simp [D.refs], 60, sealP_ok _ _ h1⟩
  · cases h
def sealR_s (c : Bool) (b : List UInt8) : Option (Bool × D RC) := some (decide (b.length ≤ 1000000), .sl (C := RC) .u8 false (sealL b))
def sealR_sp : List (D RC) → Option (Bool × D RC)
  | [.sl .u8 c b] => sealR_s c b
  | _ => none
noncomputable def sealR_e (c : Bool) (b : List UInt8) := evF s06 ut_11 60 57 [.sl (C := RC) .u8 c b]
theorem sealR_eq (c : Bool) (b : List UInt8) : sealR_e c b = (let Z0 : Nat := (0 : Nat) + List.length b; let Z1 : Nat := List.length ([] ++ b); let Z2 : Int := crcOf b; let Z3 : List UInt8 := [UInt8.ofNat (IntKind.wrap IntKind.u8 (bits IntKind.u32 (fun (x : Nat) (u v : BitVec x) => u &&& v) Z2 (255 : Int))).toNat, UInt8.ofNat (IntKind.wrap IntKind.u8 (bits IntKind.u32 (fun (x : Nat) (u v : BitVec x) => u &&& v) (Int.fdiv Z2 (256 : Int)) (255 : Int))).toNat, UInt8.ofNat (IntKind.wrap IntKind.u8 (bits IntKind.u32 (fun (x : Nat) (u v : BitVec x) => u &&& v) (Int.fdiv Z2 (65536 : Int)) (255 : Int))).toNat, UInt8.ofNat (IntKind.wrap IntKind.u8 (Int.fdiv Z2 (16777216 : Int))).toNat]; bif decide (List.length b ≤ (1000000 : Nat)) then bif sizeOK Z0 (1 : Nat) then bif Nat.beq Z0 Z1 && sizeOK (Z0 + List.length Z3) (1 : Nat) then bif Nat.beq (Z1 + List.length Z3) ([] ++ b ++ Z3).length then some (D.sl RTy.u8 false ([] ++ b ++ Z3)) else none else none else none else none) := by kernel_rfl
theorem sealR_ok (c : Bool) (b : List UInt8) (h : (decide (b.length ≤ 1000000)) = true) : sealR_e c b = some (.sl (C := RC) .u8 false (sealL b)) := by
  (rw [sealR_eq]; conv => zeta)
  have hl := of_decide_eq_true h
  have hr := crcOf_range b
  have f8 : (crcOf b).fdiv 256 = crcOf b / 256 := Int.fdiv_eq_ediv_of_nonneg _ (by omega)
  have f16 : (crcOf b).fdiv 65536 = crcOf b / 65536 := Int.fdiv_eq_ediv_of_nonneg _ (by omega)
  have f24 : (crcOf b).fdiv 16777216 = crcOf b / 16777216 := Int.fdiv_eq_ediv_of_nonneg _ (by omega)
  have g1 : ((crcOf b).fdiv 256).fdiv 256 = crcOf b / 65536 := by rw [f8, Int.fdiv_eq_ediv_of_nonneg _ (by omega)]; omega
  have g2 : (((crcOf b).fdiv 256).fdiv 256).fdiv 256 = crcOf b / 16777216 := by rw [g1, Int.fdiv_eq_ediv_of_nonneg _ (by omega)]; omega
  simp only [f8, f16, f24, and255 hr, and255 (n := crcOf b / 256) (by omega), and255 (n := crcOf b / 65536) (by omega), byteOf_wrap, byteOf_mod, List.nil_append, List.length_cons, List.length_nil, List.length_append]
  iterate 4 refine cond_of (by first | exact lenOK_of (by simp; omega) | exact lenOK_of (by omega) | (simp [sizeOK]; done) | (simp [sizeOK]; omega) | omega) ?_
  rw [sealL, leB4, g2, g1, f8]
noncomputable def ut_12 := ut_11.addSpec 57 sealR_sp
theorem ut_12_laws : FLaws Try.prog s06 ut_12 := ut_11_laws.addEv s06_laws fun args d h => by
  unfold sealR_sp at h
  split at h
  · unfold sealR_s at h
    have h1 := congrArg Prod.fst (Option.some.inj h)
    obtain rfl : _ = d := congrArg Prod.snd (Option.some.inj h)
    exact ⟨by simp [D.refs], 60, sealR_ok _ _ h1⟩
  · cases h
def openP_s (c : Bool) (b : List UInt8) : Option (Bool × D RC) := some (decide (b.length ≤ 1000000), .tup (.acons (.sl (C := RC) .u8 (openL b).isNone ((openL b).getD [])) (.acons (.int .i64 (bif (openL b).isNone then 50 else 0)) .anil)))
def openP_sp : List (D RC) → Option (Bool × D RC)
  | [.sl .u8 c b] => openP_s c b
  | _ => none
noncomputable def openP_e (c : Bool) (b : List UInt8) := evF s06 ut_12 60 77 [.sl (C := RC) .u8 c b]
theorem openP_eq (c : Bool) (b : List UInt8) : openP_e c b = (let Z0 : Nat := List.length b; let Z1 : Int := IntKind.wrap .i64 ((↑Z0 : Int) - (4 : Int)); let Z2 : DO_ := some (D.tup (D.acons (D.sl RTy.u8 true []) (.acons (D.int .i64 50) .anil))); let Z3 : Nat := Int.toNat Z1; let Z4 : List UInt8 := List.drop (0 : Nat) (List.take Z3 b); let Z5 : List UInt8 := List.replicate Z3 (UInt8.ofBitVec (BitVec.ofNat (8 : Nat) (nat_lit 0))); let Z6 : List UInt8 := List.take Z5.length b ++ List.drop Z0 Z5; bif lenOK Z0 then bif decide (Z1 < (0 : Int)) then Z2 else bif decide ((0 : Int) ≤ (0 : Int) ∧ (0 : Int) ≤ Z1 ∧ Z1 ≤ (↑Z0 : Int) ∧ Z1 = Z1) then bif decide (List.length Z4 ≤ (1000000 : Nat)) then bif decide ((0 : Int) ≤ Z1 ∧ Z1 ≤ (↑(sealL Z4).length : Int)) then bif decide ((0 : Int) ≤ Z1 ∧ Z1 ≤ (↑Z0 : Int)) then bif !(fun (l : List (RA RTy.u8)) => l) (List.drop Z3 (sealL Z4)) == (fun (l : List (RA RTy.u8)) => l) (List.drop Z3 b) then Z2 else bif decide ((0 : Int) ≤ Z1 ∧ Z1 ≤ Z1) && sizeOK Z3 (1 : Nat) then bif Nat.beq Z3 Z5.length && lenOK Z3 then bif Nat.beq Z3 Z6.length then some (D.tup (D.acons (D.sl RTy.u8 false Z6) (.acons (D.int .i64 0) .anil))) else none else none else none else none else none else none else none else none) := by kernel_rfl
theorem openP_ok (c : Bool) (b : List UInt8) (h : (decide (b.length ≤ 1000000)) = true) : openP_e c b = some (.tup (.acons (.sl (C := RC) .u8 (openL b).isNone ((openL b).getD [])) (.acons (.int .i64 (bif (openL b).isNone then 50 else 0)) .anil))) := by
  (rw [openP_eq]; conv => zeta)
  have hl := of_decide_eq_true h
  have wm : IntKind.i64.wrap ((b.length : Int) - 4) = (b.length : Int) - 4 := wrap_id (by omega) (by omega)
  have tm : ((b.length : Int) - 4).toNat = b.length - 4 := by omega
  have ts : (b.take (b.length - 4)).length = b.length - 4 := by simp
  simp only [wm, tm, List.drop_zero]
  refine cond_of (lenOK_of (by omega)) ?_
  refine cond_two (fun h0 => ?_) fun h0 => ?_ <;> simp only [decide_eq_true_eq, decide_eq_false_iff_not] at h0
  · have e : openL b = none := by unfold openL; rw [if_neg (by omega)]
    rw [e]; rfl
  iterate 2 refine cond_of (by first | exact lenOK_of (by simp; omega) | exact lenOK_of (by omega) | (simp [sizeOK]; done) | (simp [sizeOK]; omega) | omega) ?_
  refine cond_of (by simp [sealL_len, ts]; omega) ?_
  iterate 1 refine cond_of (by first | exact lenOK_of (by simp; omega) | exact lenOK_of (by omega) | (simp [sizeOK]; done) | (simp [sizeOK]; omega) | omega) ?_
  have ht := openL_test b (by omega)
  by_cases hq : sealL (b.take (b.length - 4)) = b
  · have e : openL b = some (b.take (b.length - 4)) := by unfold openL; rw [if_pos ⟨by omega, hq⟩]
    rw [ht.2 hq, e]
    have tr : b.take (List.replicate (b.length - 4) (⟨0#8⟩ : UInt8)).length = b.take (b.length - 4) := by rw [List.length_replicate]
    have td : (List.replicate (b.length - 4) (⟨0#8⟩ : UInt8)).drop b.length = [] := by simp
    simp only [beq_self_eq_true, Bool.not_true, cond_false, tr, td, List.append_nil, List.length_replicate, ts]
    have lk : lenOK (b.length - 4) = true := lenOK_of (by omega)
    have eb : ∀ n : Nat, n.beq n = true := fun n => by simp
    simp only [lk, eb, Bool.and_self, cond_true]
    repeat (refine cond_of (by first | assumption | exact lenOK_of (by omega) | exact sizeT (by omega) | (simp; done) | (simp; omega) | (simp [sizeOK]; omega)) ?_)
    rfl
  · have e : openL b = none := by unfold openL; rw [if_neg (fun q => hq q.2)]
    rw [e, show ((sealL (b.take (b.length - 4))).drop (b.length - 4) == b.drop (b.length - 4)) = false by simpa using fun q => hq (ht.1 q)]
    rfl
noncomputable def ut_13 := ut_12.addSpec 77 openP_sp
theorem ut_13_laws : FLaws Try.prog s06 ut_13 := ut_12_laws.addEv s06_laws fun args d h => by
  unfold openP_sp at h
  split at h
  · unfold openP_s at h
    have h1 := congrArg Prod.fst (Option.some.inj h)
    obtain rfl : _ = d := congrArg Prod.snd (Option.some.inj h)
    exact ⟨by simp [D.refs], 60, openP_ok _ _ h1⟩
  · cases h
def openR_s (c : Bool) (b : List UInt8) : Option (Bool × D RC) := some (decide (b.length ≤ 1000000), .tup (.acons (.sl (C := RC) .u8 (openL b).isNone ((openL b).getD [])) (.acons (.int .i64 (bif (openL b).isNone then 50 else 0)) .anil)))
def openR_sp : List (D RC) → Option (Bool × D RC)
  | [.sl .u8 c b] => openR_s c b
  | _ => none
noncomputable def openR_e (c : Bool) (b : List UInt8) := evF s06 ut_13 60 79 [.sl (C := RC) .u8 c b]
theorem openR_eq (c : Bool) (b : List UInt8) : openR_e c b = (let Z0 : Int := (↑b.length : Int); let Z1 : Int := IntKind.wrap .i64 (Z0 - (4 : Int)); let Z2 : DO_ := some (D.tup (D.acons (D.sl RTy.u8 true []) (.acons (D.int .i64 50) .anil))); let Z3 : Bool := decide ((0 : Int) ≤ (0 : Int) ∧ (0 : Int) ≤ Z1 ∧ Z1 ≤ Z0); let Z4 : List UInt8 := List.drop (0 : Nat) (List.take Z1.toNat b); let Z5 : Nat := (0 : Nat) + List.length Z4; bif lenOK b.length then bif decide (Z1 < (0 : Int)) then Z2 else bif Z3 then bif decide (List.length Z4 ≤ (1000000 : Nat)) then bif !(fun (l : List (RA RTy.u8)) => l) (sealL Z4) == (fun (l : List (RA RTy.u8)) => l) b then Z2 else bif Z3 then bif sizeOK Z5 (1 : Nat) then bif Nat.beq Z5 ([] ++ Z4).length then some (D.tup (D.acons (D.sl RTy.u8 false ([] ++ Z4)) (.acons (D.int .i64 0) .anil))) else none else none else none else none else none else none) := by kernel_rfl
theorem openR_ok (c : Bool) (b : List UInt8) (h : (decide (b.length ≤ 1000000)) = true) : openR_e c b = some (.tup (.acons (.sl (C := RC) .u8 (openL b).isNone ((openL b).getD [])) (.acons (.int .i64 (bif (openL b).isNone then 50 else 0)) .anil))) := by
  (rw [openR_eq]; conv => zeta)
  have hl := of_decide_eq_true h
  have wm : IntKind.i64.wrap ((b.length : Int) - 4) = (b.length : Int) - 4 := wrap_id (by omega) (by omega)
  have tm : ((b.length : Int) - 4).toNat = b.length - 4 := by omega
  have ts : (b.take (b.length - 4)).length = b.length - 4 := by simp
  simp only [wm, tm, List.drop_zero, List.nil_append]
  refine cond_of (lenOK_of (by omega)) ?_
  refine cond_two (fun h0 => ?_) fun h0 => ?_ <;> simp only [decide_eq_true_eq, decide_eq_false_iff_not] at h0
  · have e : openL b = none := by unfold openL; rw [if_neg (by omega)]
    rw [e]; rfl
  iterate 2 refine cond_of (by first | exact lenOK_of (by simp; omega) | exact lenOK_of (by omega) | (simp [sizeOK]; done) | (simp [sizeOK]; omega) | omega) ?_
  by_cases hq : sealL (b.take (b.length - 4)) = b
  · have e : openL b = some (b.take (b.length - 4)) := by unfold openL; rw [if_pos ⟨by omega, hq⟩]
    rw [hq, e]
    simp only [beq_self_eq_true, Bool.not_true, cond_false]
    iterate 3 refine cond_of (by first | exact lenOK_of (by simp; omega) | exact lenOK_of (by omega) | (simp [sizeOK]; done) | (simp [sizeOK]; omega) | omega) ?_
    rfl
  · have e : openL b = none := by unfold openL; rw [if_neg (fun q => hq q.2)]
    rw [e, show (sealL (b.take (b.length - 4)) == b) = false by simpa using hq]
    rfl
noncomputable def ut_14 := ut_13.addSpec 79 openR_sp
theorem ut_14_laws : FLaws Try.prog s06 ut_14 := ut_13_laws.addEv s06_laws fun args d h => by
  unfold openR_sp at h
  split at h
  · unfold openR_s at h
    have h1 := congrArg Prod.fst (Option.some.inj h)
    obtain rfl : _ = d := congrArg Prod.snd (Option.some.inj h)
    exact ⟨by simp [D.refs], 60, openR_ok _ _ h1⟩
  · cases h
def maySec (s : Sector) : Bool := decide (0 ≤ s.n) && decide (s.n ≤ 1048575) && decide (s.b.length ≤ 640) && (decide (0 < s.n) || s.b == [])
def rowOK (l : List Sector) : Bool := decide (l.length = 33) && l.all maySec
def lowAt (now sure : List Sector) (i : Nat) : Bool := ((now.zip sure).drop i).all fun p => decide (p.2.n ≤ p.1.n)
def diskOK (now sure : List Sector) : Bool := rowOK now && rowOK sure && lowAt now sure 0
theorem diskOK_len {now sure : List Sector} (h : diskOK now sure = true) : now.length = 33 ∧ sure.length = 33 := by
  simp only [diskOK, rowOK, Bool.and_eq_true, decide_eq_true_eq] at h; exact ⟨h.1.1.1, h.1.2.1⟩
def sec0 : Sector := ⟨0, []⟩
theorem all_drop_step {α : Type} (l : List α) (p : α → Bool) (i : Nat) (h : i < l.length) (d : α) : (l.drop i).all p = (p (l.getD i d) && (l.drop (i + 1)).all p) := by
  have e : l.getD i d = l[i] := by simp [h]
  rw [List.drop_eq_getElem_cons h, e, List.all_cons]
theorem lowAt_step {now sure : List Sector} (i : Nat) (h1 : i < now.length) (h2 : i < sure.length) (d : Sector) : lowAt now sure i = (decide ((sure.getD i d).n ≤ (now.getD i d).n) && lowAt now sure (i + 1)) := by
  unfold lowAt
  rw [all_drop_step _ _ i (by simp; omega) (d, d)]
  have e : (now.zip sure).getD i (d, d) = (now.getD i d, sure.getD i d) := by
    have hz : i < (now.zip sure).length := by simp; omega
    simp [List.getD_eq_getElem?_getD, List.getElem?_eq_getElem hz, h1, h2]
  rw [e]
theorem lowAt_end {now sure : List Sector} (i : Nat) (h : now.length ≤ i) : lowAt now sure i = true := by
  unfold lowAt
  rw [List.drop_eq_nil_of_le (by simp; omega)]; rfl
def badAt (l : List Sector) (i : Nat) : Nat := i + (l.drop i).findIdx fun s => !maySec s
def okPut (now sure : List Sector) (k n : Int) (b : List UInt8) : Bool := diskOK now sure && (decide (0 ≤ k) && decide (k < 33) && decide (1 ≤ n) && !(b == []) && maySec ⟨n, b⟩)
def putNow (now : List Sector) (k : Nat) (n : Int) (b : List UInt8) : List Sector := if (now.getD k sec0).n < n then now.set k ⟨n, b⟩ else now
theorem putNow_len (now : List Sector) (k : Nat) (n : Int) (b : List UInt8) : (putNow now k n b).length = now.length := by unfold putNow; split <;> simp
def longAt (l : List Sector) (i : Nat) : Bool := (l.drop i).any fun s => decide (3000 < (s.b.length : Int))
def greatD (now sure : List Sector) : Bool := decide ((60 : Int) < now.length) || decide ((60 : Int) < sure.length) || longAt now 0 || longAt sure 0
theorem set_eq {α : Type} (l : List α) (k : Nat) (x : α) (h : k < l.length) : l.take k ++ [x] ++ l.drop (k + 1) = l.set k x := by
  rw [List.set_eq_take_append_cons_drop, if_pos h]; simp
theorem rowOK_len {l : List Sector} (h : rowOK l = true) : l.length = 33 := by simp only [rowOK, Bool.and_eq_true, decide_eq_true_eq] at h; exact h.1
theorem badAt_ge (l : List Sector) (i : Nat) : i ≤ badAt l i := Nat.le_add_right _ _
theorem badAt_step (l : List Sector) (i : Nat) (h : i < l.length) (d : Sector) : badAt l i = if maySec (l.getD i d) = true then badAt l (i + 1) else i := by
  have e : l.getD i d = l[i] := by simp [h]
  unfold badAt
  rw [List.drop_eq_getElem_cons h, e, List.findIdx_cons]
  cases maySec l[i] <;> simp; omega
def pNow (now sure : List Sector) (k n : Int) (b : List UInt8) : List Sector := bif okPut now sure k n b then putNow now k.toNat n b else []
def pSure (now sure : List Sector) (k n : Int) (b : List UInt8) : List Sector := bif okPut now sure k n b then sure else []
theorem longAt_step (l : List Sector) (i : Nat) (h : i < l.length) (d : Sector) : longAt l i = (decide (3000 < ((l.getD i d).b.length : Int)) || longAt l (i + 1)) := by
  have e : l.getD i d = l[i] := by simp [h]
  unfold longAt
  rw [List.drop_eq_getElem_cons h, e, List.any_cons]
theorem longAt_end (l : List Sector) : longAt l l.length = false := by simp [longAt]
theorem eqSector (x y : Sector) : (x.n == y.n && (x.b == y.b && true)) = decide (x = y) := by
  rw [Bool.eq_iff_iff]; cases x; cases y; simp
def bitAt (lost : Int) (i : Nat) : Bool := bits .u64 (fun _ u v => u &&& v) (lost.fdiv (2 ^ min (IntKind.u64.wrap (i : Int)).toNat 64)) 1 == 1
def crashF (lost : Int) : Nat → Nat → List Sector → List Sector → List Sector × List Sector
  | 0, _, n, s => (n, s)
  | k + 1, i, n, s => if bitAt lost i = true then crashF lost k (i + 1) (n.set i (s.getD i sec0)) s else crashF lost k (i + 1) n (s.set i (n.getD i sec0))
def goodL (l : List Sector) : Bool := decide (l.length ≤ 9223372036854775807) && l.all fun s => lenOK s.b.length
theorem goodL_iff {l : List Sector} : goodL l = true ↔ l.length ≤ 9223372036854775807 ∧ ∀ s ∈ l, lenOK s.b.length = true := by simp [goodL]
theorem goodL_at {l : List Sector} (h : goodL l = true) (i : Nat) (hi : i < l.length) (d : Sector) : lenOK (l.getD i d).b.length = true := by
  have e : l.getD i d = l[i] := by simp [hi]
  rw [e]; exact (goodL_iff.1 h).2 _ (List.getElem_mem hi)
theorem okPut_facts {now sure : List Sector} {k n : Int} {b : List UInt8} (h : okPut now sure k n b = true) : diskOK now sure = true ∧ 0 ≤ k ∧ k < 33 ∧ 1 ≤ n ∧ b ≠ [] ∧ maySec ⟨n, b⟩ = true := by
  simp only [okPut, Bool.and_eq_true, decide_eq_true_eq] at h
  obtain ⟨h1, ⟨⟨⟨h2, h3⟩, h4⟩, h5⟩, h6⟩ := h
  exact ⟨h1, h2, h3, h4, by simpa using h5, h6⟩
theorem okPut_not {now sure : List Sector} {k n : Int} {b : List UInt8} (h : ¬ (diskOK now sure = true ∧ 0 ≤ k ∧ k < 33 ∧ 1 ≤ n ∧ b ≠ [] ∧ maySec ⟨n, b⟩ = true)) : okPut now sure k n b = false := by
  cases e : okPut now sure k n b
  · rfl
  · exact absurd (okPut_facts e) h
open Go.Proofs
def mayF_s (n : Int) (b : List UInt8) : Option (Bool × D RC) := some (lenOK b.length, .bool (maySec ⟨n, b⟩))
def mayF_sp : List (D RC) → Option (Bool × D RC)
  | [.acons (.int .i64 n) (.acons (.str b) .anil)] => mayF_s n b
  | _ => none
noncomputable def mayF_e (n : Int) (b : List UInt8) := evF s06 ut_14 40 59 [.acons (.int .i64 n) (.acons (.str b) .anil)]
theorem mayF_eq (n : Int) (b : List UInt8) : mayF_e n b = (let Z0 : DO_ := some (D.bool false); bif decide ((0 : Int) ≤ n) then bif decide (n ≤ (1048575 : Int)) then bif lenOK b.length then bif decide ((↑b.length : Int) ≤ (640 : Int)) then bif decide ((0 : Int) < n) then some (D.bool true) else some (D.bool (b == Array.toList #[])) else Z0 else none else Z0 else Z0) := by kernel_rfl
theorem mayF_ok (n : Int) (b : List UInt8) (h : (lenOK b.length) = true) : mayF_e n b = some (.bool (maySec ⟨n, b⟩)) := by
  (rw [mayF_eq]; conv => zeta)
  have hb : decide (((b.length : Nat) : Int) ≤ 640) = decide (b.length ≤ 640) := by rw [decide_eq_decide]; omega
  simp only [maySec, h, hb, cond_true]
  cases decide (0 ≤ n) <;> cases decide (n ≤ 1048575) <;> cases decide (b.length ≤ 640) <;> cases decide (0 < n) <;> cases b <;> rfl
noncomputable def uu_1 := ut_14.addSpec 59 mayF_sp
theorem uu_1_laws : FLaws Try.prog s06 uu_1 := ut_14_laws.addEv s06_laws fun args d h => by
  unfold mayF_sp at h
  split at h
  · unfold mayF_s at h
    have h1 := congrArg Prod.fst (Option.some.inj h)
    obtain rfl : _ = d := congrArg Prod.snd (Option.some.inj h)
    exact ⟨by simp [D.refs], 40, mayF_ok _ _ h1⟩
  · cases h
structure idxS_St where
  c : Bool
  l : List Sector
  i : Nat
def idxS_c (c : Bool) (l : List Sector) (i : Nat) : Env RC := [(0, .sl (C := RC) .sector c l), (1, .fn 76 (.acons (.ptr 0 []) .anil)), (4, .int .i64 0), (7, .int .i64 (l.length)), (8, .int .i64 (i : Int))]
def idxS_o (c : Bool) (l : List Sector) (i : Nat) : List (Obj RC) := [.var 88 (.fn 59 .anil)]
noncomputable def idxS_r (c : Bool) (l : List Sector) (i : Nat) := rndO s06 uu_1 85 2 40 1 [0, 1, 4, 7, 8] [4] [.slot 1 0] (idxS_c c l i) (idxS_o c l i)
theorem idxS_eq (c : Bool) (l : List Sector) (i : Nat) : idxS_r c l i = (let Z0 : Int := (↑i : Int); let Z1 : Int := (↑l.length : Int); let Z2 : Sector := List.getD l Z0.toNat (Sector.mk (0 : Int) []); let Z3 : List (Option (Obj RC)) := [some (Obj.var 88 (D.fn (59 : Nat) .anil))]; let Z4 : Nat × D RC := (4, D.int .i64 0); bif decide (Z0 < Z1) then bif decide ((0 : Int) ≤ Z0 ∧ Z0 < Z1) then bif lenOK (Sector.b Z2).length then bif !maySec (Sector.mk (Sector.n Z2) (Sector.b Z2)) then some ((X.ret, [(4, D.int .i64 Z0)]), Z3) else some ((X.normal, [(0, D.sl RTy.sector c l), (1, D.fn (76 : Nat) (.acons (D.ptr 0 []) .anil)), Z4, (7, D.int .i64 Z1), (8, D.int .i64 (IntKind.wrap .i64 (Z0 + (1 : Int))))]), Z3) else none else none else some ((X.exit (0 : Nat), [Z4]), Z3)) := by kernel_rfl
def idxS_fin (c : Bool) (l : List Sector) (i : Nat) : RT RC := .br (l.drop i |>.all maySec) (.leaf (.exit 0) [(4, .int .i64 0)] (idxS_o c l i)) (.leaf .ret [(4, .int .i64 (badAt l i))] (idxS_o c l i))
def idxS_Inv (c : Bool) (l : List Sector) (i : Nat) : Prop := i ≤ l.length ∧ goodL l = true
def idxS_S : LoopR RC idxS_St where
  k := 1
  canon q := idxS_c q.c q.l q.i
  objs q := idxS_o q.c q.l q.i
  fin q := idxS_fin q.c q.l q.i
  Inv q := idxS_Inv q.c q.l q.i
  μ q := q.l.length - q.i
theorem idxS_round (c : Bool) (l : List Sector) (i : Nat) (hI : idxS_Inv c l i) : Leaf (idxS_r c l i) (LedR idxS_S ⟨c, l, i⟩) := by
  (rw [idxS_eq]; conv => zeta)
  unfold idxS_Inv at hI
  obtain ⟨h1, hg⟩ := hI
  have h2 := (goodL_iff.1 hg).1
  by_cases hlt : i < l.length
  · have w_succ : IntKind.i64.wrap ((i : Int) + 1) = ((i + 1 : Nat) : Int) := by rw [wrap_id (by omega) (by omega)]; simp
    have d_lt : decide ((i : Int) < l.length) = true := by simp; omega
    have d_in : decide (0 ≤ (i : Int) ∧ (i : Int) < l.length) = true := by simp; omega
    have t_nat : ((i : Int)).toNat = i := by simp
    have w_pred : IntKind.i64.wrap ((i : Int) - 1) = (i : Int) - 1 := wrap_id (by omega) (by omega)
    have t_natp : ((i : Int) - 1).toNat = i - 1 := by omega
    simp only [w_succ, d_lt, d_in, t_nat, w_pred, t_natp, cond_true]
    have hlk := goodL_at hg i hlt (⟨0, []⟩ : Sector)
    have hst := all_drop_step l maySec i hlt (⟨0, []⟩ : Sector)
    have hb := badAt_step l i hlt (⟨0, []⟩ : Sector)
    generalize l.getD i (⟨0, []⟩ : Sector) = x at hst hb hlk ⊢
    simp only [hlk, cond_true]
    cases a1 : maySec x
    · exact leafR_ret (idxS_o c l i) (by simp [idxS_S, idxS_fin, hst, hb, a1, RT.val]) rfl
    · exact leafR_go ⟨c, l, i + 1⟩ ⟨hlt, hg⟩ (by simp only [idxS_S]; omega) (by simp [idxS_S, idxS_fin, hst, hb, a1]; rfl) rfl rfl
  · have hi : i = l.length := by omega
    have c1 : decide ((i : Int) < l.length) = false := by simp; omega
    rw [c1]
    exact leafR_exit (idxS_o c l i) (by simp [idxS_S, idxS_fin, hi, RT.val]) rfl
def idxS_d (env : Env RC) (os : List (Obj RC)) : Option (Bool × idxS_St) := match env, os with
  | [(0, .sl .sector c l), (1, .fn 76 (.acons (.ptr 0 []) .anil)), (4, .int .i64 0), (7, .int .i64 x0), (8, .int .i64 x1)], [.var 88 (.fn 59 .anil)] => staticD (true) (decide (x0 = l.length) && decide (x1 = 0) && goodL l, ⟨c, l, 0⟩)
  | _, _ => none
noncomputable def uu_2 := uu_1.addLoop 85 2 (sumR s06 [.slot 1 0] [0, 1, 4, 7, 8] idxS_S idxS_d)
theorem uu_2_laws : FLaws Try.prog s06 uu_2 := by
  refine uu_1_laws.addRoundsR s06_laws (by kernel_rfl) idxS_S 40 [0, 1, 4, 7, 8] [4] [.slot 1 0] [0, 1, 4, 7, 8] idxS_d (fun q hI => ?_) ?_
  · obtain ⟨c, l, i⟩ := q
    refine ⟨?_, ?_, idxS_round c l i hI⟩
    · simp_all [RefsOK, idxS_S, idxS_c, idxS_o, idxS_Inv, D.refs, Obj.refs, rEnc]
    · simp_all [idxS_S, idxS_fin, idxS_o, idxS_Inv, RT.refsOK, RefsOK, D.refs, Obj.refs, rEnc]
  · intro env os b q hd_ hb
    unfold idxS_d at hd_
    split at hd_
    · obtain ⟨hs, hd_⟩ := staticD_some hd_
      cases hd_
      simp only [Bool.and_eq_true, decide_eq_true_eq] at hb
      obtain ⟨⟨rfl, rfl⟩, hl⟩ := hb
      exact ⟨⟨Nat.zero_le _, hl⟩, rfl, rfl⟩
    · cases hd_
def allF_s (c : Bool) (l : List Sector) : Option (Bool × D RC) := some (goodL l, .bool (rowOK l))
def allF_sp : List (D RC) → Option (Bool × D RC)
  | [.sl .sector c l, .int .i64 33, .fn 59 .anil] => allF_s c l
  | _ => none
noncomputable def allF_e (c : Bool) (l : List Sector) := evF s06 uu_2 40 58 [.sl (C := RC) .sector c l, .int .i64 33, .fn 59 .anil]
theorem allF_eq (c : Bool) (l : List Sector) : allF_e c l = (let Z0 : Bool := lenOK l.length; let Z1 : Int := (↑l.length : Int); bif Z0 then bif Z1 == (33 : Int) then bif Z0 then bif decide (Z1 = Z1) && true && goodL l then bif List.all (List.drop (0 : Nat) l) maySec then some (D.bool true) else some (D.bool !decide ((0 : Int) ≤ (↑(badAt l (0 : Nat)) : Int))) else none else none else some (D.bool false) else none) := by kernel_rfl
theorem allF_ok (c : Bool) (l : List Sector) (h : (goodL l) = true) : allF_e c l = some (.bool (rowOK l)) := by
  (rw [allF_eq]; conv => zeta)
  have hl := (goodL_iff.1 h).1
  have lk := lenOK_of hl
  have hb := badAt_ge l 0
  simp only [h, lk, rowOK, cond_true, List.drop_zero]
  by_cases e : l.length = 33
  · have e2 : ((l.length : Int) == 33) = true := by simp [e]
    cases hm : l.all maySec <;> simp [e, hm] <;> omega
  · have e2 : ((l.length : Int) == 33) = false := by simp; omega
    simp [e, e2]
noncomputable def uu_3 := uu_2.addSpec 58 allF_sp
theorem uu_3_laws : FLaws Try.prog s06 uu_3 := uu_2_laws.addEv s06_laws fun args d h => by
  unfold allF_sp at h
  split at h
  · unfold allF_s at h
    have h1 := congrArg Prod.fst (Option.some.inj h)
    obtain rfl : _ = d := congrArg Prod.snd (Option.some.inj h)
    exact ⟨by simp [D.refs], 40, allF_ok _ _ h1⟩
  · cases h
structure chkD_St where
  c : Bool
  now : List Sector
  r : D RC
  d : Bool
  sure : List Sector
  i : Nat
def chkD_c (c : Bool) (now : List Sector) (r : D RC) (d : Bool) (sure : List Sector) (i : Nat) : Env RC := [(1, .ptr 0 []), (2, .int .i64 0), (16, .sl (C := RC) .sector c now), (17, .int .i64 (now.length)), (18, .int .i64 (i : Int))]
def chkD_o (c : Bool) (now : List Sector) (r : D RC) (d : Bool) (sure : List Sector) (i : Nat) : List (Obj RC) := [.var 24 (.acons r (.acons (.sl (C := RC) .sector d sure) .anil))]
noncomputable def chkD_r (c : Bool) (now : List Sector) (r : D RC) (d : Bool) (sure : List Sector) (i : Nat) := rndO s06 uu_3 32 4 40 1 [1, 2, 16, 17, 18] [2] [.slot 1 0] (chkD_c c now r d sure i) (chkD_o c now r d sure i)
theorem chkD_eq (c : Bool) (now : List Sector) (r : D RC) (d : Bool) (sure : List Sector) (i : Nat) : chkD_r c now r d sure i = (let Z0 : Int := (↑i : Int); let Z1 : Int := (↑now.length : Int); let Z2 : List (Option (Obj RC)) := [some (Obj.var 24 (.acons r (D.acons (D.sl RTy.sector d sure) .anil)))]; let Z3 : Nat × D RC := (2, D.int .i64 0); bif decide (Z0 < Z1) then bif decide ((0 : Int) ≤ Z0 ∧ Z0 < Z1) then bif decide ((0 : Int) ≤ Z0 ∧ Z0 < (↑sure.length : Int)) then bif decide (Sector.n (List.getD now Z0.toNat (Sector.mk (0 : Int) [])) < Sector.n (List.getD sure Z0.toNat (Sector.mk (0 : Int) []))) then some ((X.ret, [(2, D.int .i64 2)]), Z2) else some ((X.normal, [(1, D.ptr 0 []), Z3, (16, D.sl RTy.sector c now), (17, D.int .i64 Z1), (18, D.int .i64 (IntKind.wrap .i64 (Z0 + (1 : Int))))]), Z2) else none else none else some ((X.exit (0 : Nat), [Z3]), Z2)) := by kernel_rfl
def chkD_fin (c : Bool) (now : List Sector) (r : D RC) (d : Bool) (sure : List Sector) (i : Nat) : RT RC := .br (lowAt now sure i) (.leaf (.exit 0) [(2, .int .i64 0)] (chkD_o c now r d sure i)) (.leaf .ret [(2, .int .i64 2)] (chkD_o c now r d sure i))
def chkD_Inv (c : Bool) (now : List Sector) (r : D RC) (d : Bool) (sure : List Sector) (i : Nat) : Prop := r.refs = [] ∧ i ≤ now.length ∧ now.length ≤ 9223372036854775807 ∧ now.length = sure.length
def chkD_S : LoopR RC chkD_St where
  k := 1
  canon q := chkD_c q.c q.now q.r q.d q.sure q.i
  objs q := chkD_o q.c q.now q.r q.d q.sure q.i
  fin q := chkD_fin q.c q.now q.r q.d q.sure q.i
  Inv q := chkD_Inv q.c q.now q.r q.d q.sure q.i
  μ q := q.now.length - q.i
theorem chkD_round (c : Bool) (now : List Sector) (r : D RC) (d : Bool) (sure : List Sector) (i : Nat) (hI : chkD_Inv c now r d sure i) : Leaf (chkD_r c now r d sure i) (LedR chkD_S ⟨c, now, r, d, sure, i⟩) := by
  (rw [chkD_eq]; conv => zeta)
  unfold chkD_Inv at hI
  obtain ⟨h0, h1, h2, h3⟩ := hI
  by_cases hlt : i < now.length
  · have w_succ : IntKind.i64.wrap ((i : Int) + 1) = ((i + 1 : Nat) : Int) := by rw [wrap_id (by omega) (by omega)]; simp
    have d_lt : decide ((i : Int) < now.length) = true := by simp; omega
    have d_in : decide (0 ≤ (i : Int) ∧ (i : Int) < now.length) = true := by simp; omega
    have t_nat : ((i : Int)).toNat = i := by simp
    have w_pred : IntKind.i64.wrap ((i : Int) - 1) = (i : Int) - 1 := wrap_id (by omega) (by omega)
    have t_natp : ((i : Int) - 1).toNat = i - 1 := by omega
    simp only [w_succ, d_lt, d_in, t_nat, w_pred, t_natp, cond_true]
    have hlt2 : i < sure.length := by omega
    have d_in2 : decide (0 ≤ (i : Int) ∧ (i : Int) < sure.length) = true := by simp; omega
    simp only [d_in2, cond_true]
    have hst := lowAt_step (now := now) (sure := sure) i hlt (by omega) (⟨0, []⟩ : Sector)
    generalize now.getD i (⟨0, []⟩ : Sector) = x at hst ⊢
    generalize sure.getD i (⟨0, []⟩ : Sector) = y at hst ⊢
    cases a1 : decide (y.n ≤ x.n)
    · have a2 : decide (x.n < y.n) = true := by simp at a1 ⊢; exact a1
      simp only [a2, cond_true]
      exact leafR_ret (chkD_o c now r d sure i) (by simp [chkD_S, chkD_fin, hst, a1, RT.val]) rfl
    · have a2 : decide (x.n < y.n) = false := by simp at a1 ⊢; exact a1
      simp only [a2, cond_false]
      exact leafR_go ⟨c, now, r, d, sure, i + 1⟩ ⟨h0, hlt, h2, h3⟩ (by simp only [chkD_S]; omega) (by simp [chkD_S, chkD_fin, hst, a1]; rfl) rfl rfl
  · have hi : i = now.length := by omega
    have c1 : decide ((i : Int) < now.length) = false := by simp; omega
    rw [c1]
    exact leafR_exit (chkD_o c now r d sure i) (by simp [chkD_S, chkD_fin, hi, lowAt_end, RT.val]) rfl
def chkD_d (env : Env RC) (os : List (Obj RC)) : Option (Bool × chkD_St) := match env, os with
  | [(1, .ptr 0 []), (2, .int .i64 0), (16, .sl .sector c now), (17, .int .i64 x0), (18, .int .i64 x1)], [.var 24 (.acons r (.acons (.sl .sector d sure) .anil))] => staticD (r.refs.isEmpty) (decide (x0 = now.length) && decide (x1 = 0) && decide (now.length ≤ 9223372036854775807 ∧ now.length = sure.length), ⟨c, now, r, d, sure, 0⟩)
  | _, _ => none
noncomputable def uu_4 := uu_3.addLoop 32 4 (sumR s06 [.slot 1 0] [1, 2, 16, 17, 18] chkD_S chkD_d)
theorem uu_4_laws : FLaws Try.prog s06 uu_4 := by
  refine uu_3_laws.addRoundsR s06_laws (by kernel_rfl) chkD_S 40 [1, 2, 16, 17, 18] [2] [.slot 1 0] [1, 2, 16, 17, 18] chkD_d (fun q hI => ?_) ?_
  · obtain ⟨c, now, r, d, sure, i⟩ := q
    refine ⟨?_, ?_, chkD_round c now r d sure i hI⟩
    · simp_all [RefsOK, chkD_S, chkD_c, chkD_o, chkD_Inv, D.refs, Obj.refs, rEnc]
    · simp_all [chkD_S, chkD_fin, chkD_o, chkD_Inv, RT.refsOK, RefsOK, D.refs, Obj.refs, rEnc]
  · intro env os b q hd_ hb
    unfold chkD_d at hd_
    split at hd_
    · obtain ⟨hs, hd_⟩ := staticD_some hd_
      cases hd_
      simp only [Bool.and_eq_true, decide_eq_true_eq] at hb
      obtain ⟨⟨rfl, rfl⟩, hl⟩ := hb
      exact ⟨⟨List.isEmpty_iff.1 hs, Nat.zero_le _, hl⟩, rfl, rfl⟩
    · cases hd_
def checkD_s (c : Bool) (now : List Sector) (d : Bool) (sure : List Sector) : Option (Bool × D RC) := some (goodL now && goodL sure, .int .i64 (bif diskOK now sure then 0 else 2))
def checkD_sp : List (D RC) → Option (Bool × D RC)
  | [.acons (.sl .sector c now) (.acons (.sl .sector d sure) .anil)] => checkD_s c now d sure
  | _ => none
noncomputable def checkD_e (c : Bool) (now : List Sector) (d : Bool) (sure : List Sector) := evF s06 uu_4 40 32 [.acons (.sl (C := RC) .sector c now) (.acons (.sl (C := RC) .sector d sure) .anil)]
theorem checkD_eq (c : Bool) (now : List Sector) (d : Bool) (sure : List Sector) : checkD_e c now d sure = (let Z0 : DO_ := some (D.int .i64 2); let Z1 : Nat := List.length now; bif goodL now then bif !rowOK now then Z0 else bif goodL sure then bif !rowOK sure then Z0 else bif lenOK Z1 then bif decide ((↑Z1 : Int) = (↑Z1 : Int)) && true && decide (Z1 ≤ (9223372036854775807 : Nat) ∧ Z1 = List.length sure) then bif lowAt now sure (0 : Nat) then some (D.int .i64 0) else Z0 else none else none else none else none) := by kernel_rfl
theorem checkD_ok (c : Bool) (now : List Sector) (d : Bool) (sure : List Sector) (h : (goodL now && goodL sure) = true) : checkD_e c now d sure = some (.int .i64 (bif diskOK now sure then 0 else 2)) := by
  (rw [checkD_eq]; conv => zeta)
  rw [Bool.and_eq_true] at h
  obtain ⟨hg, hgs⟩ := h
  have hl := (goodL_iff.1 hg).1
  have hs := (goodL_iff.1 hgs).1
  have lk := lenOK_of hl
  simp only [hg, hgs, lk, Bool.and_self, cond_true, diskOK]
  cases h1 : rowOK now
  · rfl
  cases h2 : rowOK sure
  · rfl
  have l1 := rowOK_len h1
  have l2 := rowOK_len h2
  have e : decide (now.length ≤ 9223372036854775807 ∧ now.length = sure.length) = true := by simp; omega
  cases h3 : lowAt now sure 0 <;> simp [e]
noncomputable def uu_5 := uu_4.addSpec 32 checkD_sp
theorem uu_5_laws : FLaws Try.prog s06 uu_5 := uu_4_laws.addEv s06_laws fun args d h => by
  unfold checkD_sp at h
  split at h
  · unfold checkD_s at h
    have h1 := congrArg Prod.fst (Option.some.inj h)
    obtain rfl : _ = d := congrArg Prod.snd (Option.some.inj h)
    exact ⟨by simp [D.refs], 40, checkD_ok _ _ _ _ h1⟩
  · cases h
def cloneS_s (c : Bool) (l : List Sector) : Option (Bool × D RC) := some (decide (0 < l.length ∧ l.length ≤ 1000000), .sl (C := RC) .sector false l)
def cloneS_sp : List (D RC) → Option (Bool × D RC)
  | [.sl .sector c l] => cloneS_s c l
  | _ => none
noncomputable def cloneS_e (c : Bool) (l : List Sector) := evF s06 uu_5 40 67 [.sl (C := RC) .sector c l]
theorem cloneS_eq (c : Bool) (l : List Sector) : cloneS_e c l = (let Z0 : Nat := (0 : Nat) + List.length l; let Z1 : List Sector := List.replicate (0 : Nat) (Sector.mk (0 : Int) []) ++ l; bif List.isEmpty l then none else bif sizeOK Z0 (24 : Nat) then bif Nat.beq Z0 Z1.length then some (D.sl RTy.sector false Z1) else none else none) := by kernel_rfl
theorem cloneS_ok (c : Bool) (l : List Sector) (h : (decide (0 < l.length ∧ l.length ≤ 1000000)) = true) : cloneS_e c l = some (.sl (C := RC) .sector false l) := by
  (rw [cloneS_eq]; conv => zeta)
  obtain ⟨h1, h2⟩ := of_decide_eq_true h
  have e0 : l.isEmpty = false := by cases l <;> simp_all
  have e1 : sizeOK l.length 24 = true := by simp [sizeOK]; omega
  have eb : ∀ n : Nat, n.beq n = true := fun n => by simp
  simp only [e0, e1, cond_false, cond_true, List.replicate, List.nil_append, Nat.zero_add, eb]
noncomputable def uu_6 := uu_5.addSpec 67 cloneS_sp
theorem uu_6_laws : FLaws Try.prog s06 uu_6 := uu_5_laws.addEv s06_laws fun args d h => by
  unfold cloneS_sp at h
  split at h
  · unfold cloneS_s at h
    have h1 := congrArg Prod.fst (Option.some.inj h)
    obtain rfl : _ = d := congrArg Prod.snd (Option.some.inj h)
    exact ⟨by simp [D.refs], 40, cloneS_ok _ _ h1⟩
  · cases h
def withF_s (c : Bool) (l : List Sector) (k : Int) (n : Int) (b : List UInt8) : Option (Bool × D RC) := some (decide (0 ≤ k ∧ k < l.length ∧ l.length ≤ 1000000), .sl (C := RC) .sector false (l.set k.toNat ⟨n, b⟩))
def withF_sp : List (D RC) → Option (Bool × D RC)
  | [.sl .sector c l, .int .i64 k, .acons (.int .i64 n) (.acons (.str b) .anil)] => withF_s c l k n b
  | _ => none
noncomputable def withF_e (c : Bool) (l : List Sector) (k : Int) (n : Int) (b : List UInt8) := evF s06 uu_6 40 68 [.sl (C := RC) .sector c l, .int .i64 k, .acons (.int .i64 n) (.acons (.str b) .anil)]
theorem withF_eq (c : Bool) (l : List Sector) (k : Int) (n : Int) (b : List UInt8) : withF_e c l k n b = (let Z0 : Int := (↑l.length : Int); let Z1 : List Sector := List.drop (0 : Nat) (List.take k.toNat l); let Z2 : Nat := List.length Z1 + List.length [Sector.mk n b]; let Z3 : Int := IntKind.wrap .i64 (k + (1 : Int)); let Z4 : Nat := List.length (Z1 ++ [Sector.mk n b]); let Z5 : Nat := List.length (List.drop Z3.toNat l); let Z6 : List Sector := Z1 ++ [Sector.mk n b] ++ List.drop Z3.toNat l; bif decide ((0 : Int) ≤ (0 : Int) ∧ (0 : Int) ≤ k ∧ k ≤ Z0 ∧ k = k) then bif sizeOK Z2 (24 : Nat) then bif decide ((0 : Int) ≤ Z3 ∧ Z3 ≤ Z0) then bif Nat.beq Z2 Z4 && sizeOK (Z2 + Z5) (24 : Nat) then bif Nat.beq (Z4 + Z5) Z6.length then some (D.sl RTy.sector false Z6) else none else none else none else none else none) := by kernel_rfl
theorem withF_ok (c : Bool) (l : List Sector) (k : Int) (n : Int) (b : List UInt8) (h : (decide (0 ≤ k ∧ k < l.length ∧ l.length ≤ 1000000)) = true) : withF_e c l k n b = some (.sl (C := RC) .sector false (l.set k.toNat ⟨n, b⟩)) := by
  (rw [withF_eq]; conv => zeta)
  obtain ⟨h0, h1, h2⟩ := of_decide_eq_true h
  have w1 : IntKind.i64.wrap (k + 1) = k + 1 := wrap_id (by omega) (by omega)
  have t1 : (k + 1).toNat = k.toNat + 1 := by omega
  have hk : k.toNat < l.length := by omega
  have e0 := set_eq l k.toNat (⟨n, b⟩ : Sector) hk
  have m1 : min k.toNat l.length = k.toNat := by omega
  simp only [w1, t1, List.drop_zero, List.length_take, List.length_cons, List.length_nil, List.length_append, List.length_drop, m1, Nat.zero_add]
  repeat (refine cond_of (by first | assumption | exact lenOK_of (by omega) | exact sizeT (by omega) | (simp; done) | (simp; omega) | (simp [sizeOK]; omega)) ?_)
  rw [e0]
noncomputable def uu_7 := uu_6.addSpec 68 withF_sp
theorem uu_7_laws : FLaws Try.prog s06 uu_7 := uu_6_laws.addEv s06_laws fun args d h => by
  unfold withF_sp at h
  split at h
  · unfold withF_s at h
    have h1 := congrArg Prod.fst (Option.some.inj h)
    obtain rfl : _ = d := congrArg Prod.snd (Option.some.inj h)
    exact ⟨by simp [D.refs], 40, withF_ok _ _ _ _ _ h1⟩
  · cases h
def putD_s (c : Bool) (now : List Sector) (d : Bool) (sure : List Sector) (k : Int) (n : Int) (b : List UInt8) : Option (Bool × D RC) := some (goodL now && goodL sure && lenOK b.length, .tup (.acons (.acons (.sl (C := RC) .sector (!okPut now sure k n b) (pNow now sure k n b)) (.acons (.sl (C := RC) .sector (!okPut now sure k n b) (pSure now sure k n b)) .anil)) (.acons (.int .i64 (bif okPut now sure k n b then 0 else 2)) .anil)))
def putD_sp : List (D RC) → Option (Bool × D RC)
  | [.acons (.sl .sector c now) (.acons (.sl .sector d sure) .anil), .int .i64 k, .int .i64 n, .str b] => putD_s c now d sure k n b
  | _ => none
noncomputable def putD_e (c : Bool) (now : List Sector) (d : Bool) (sure : List Sector) (k : Int) (n : Int) (b : List UInt8) := evF s06 uu_7 40 44 [.acons (.sl (C := RC) .sector c now) (.acons (.sl (C := RC) .sector d sure) .anil), .int .i64 k, .int .i64 n, .str b]
theorem putD_eq (c : Bool) (now : List Sector) (d : Bool) (sure : List Sector) (k : Int) (n : Int) (b : List UInt8) : putD_e c now d sure k n b = (let Z0 : D RC := D.sl RTy.sector true []; let Z1 : DO_ := some (D.tup (D.acons (D.acons Z0 (D.acons Z0 .anil)) (.acons (D.int .i64 2) .anil))); let Z2 : Nat := List.length now; let Z3 : D RC := D.acons (D.sl RTy.sector false sure) .anil; let Z4 : D RC := D.acons (D.int .i64 0) .anil; bif goodL now && goodL sure then bif (bif diskOK now sure then (0 : Int) else (2 : Int)) != (0 : Int) then Z1 else bif decide (k < (0 : Int)) then Z1 else bif decide ((33 : Int) ≤ k) then Z1 else bif decide (n < (1 : Int)) then Z1 else bif b == Array.toList #[] then Z1 else bif lenOK b.length then bif !maySec (Sector.mk n b) then Z1 else bif decide ((0 : Nat) < Z2 ∧ Z2 ≤ (1000000 : Nat)) then bif decide ((0 : Nat) < List.length sure ∧ List.length sure ≤ (1000000 : Nat)) then bif decide ((0 : Int) ≤ k ∧ k < (↑Z2 : Int)) then bif decide (Sector.n (List.getD now k.toNat (Sector.mk (0 : Int) [])) < n) then bif decide ((0 : Int) ≤ k ∧ k < (↑Z2 : Int) ∧ Z2 ≤ (1000000 : Nat)) then some (D.tup (D.acons (D.acons (D.sl RTy.sector false (List.set now k.toNat (Sector.mk n b))) Z3) Z4)) else none else some (D.tup (D.acons (D.acons (D.sl RTy.sector false now) Z3) Z4)) else none else none else none else none else none) := by kernel_rfl
theorem putD_ok (c : Bool) (now : List Sector) (d : Bool) (sure : List Sector) (k : Int) (n : Int) (b : List UInt8) (h : (goodL now && goodL sure && lenOK b.length) = true) : putD_e c now d sure k n b = some (.tup (.acons (.acons (.sl (C := RC) .sector (!okPut now sure k n b) (pNow now sure k n b)) (.acons (.sl (C := RC) .sector (!okPut now sure k n b) (pSure now sure k n b)) .anil)) (.acons (.int .i64 (bif okPut now sure k n b then 0 else 2)) .anil))) := by
  (rw [putD_eq]; conv => zeta)
  simp only [Bool.and_eq_true] at h
  obtain ⟨⟨hg, hgs⟩, hb⟩ := h
  have hgg : (goodL now && goodL sure) = true := by rw [hg, hgs]; rfl
  have no : okPut now sure k n b = false → some (D.tup (.acons (.acons (.sl (C := RC) .sector true []) (.acons (.sl (C := RC) .sector true []) .anil)) (.acons (.int .i64 2) .anil))) = some (.tup (.acons (.acons (.sl (C := RC) .sector (!okPut now sure k n b) (pNow now sure k n b)) (.acons (.sl (C := RC) .sector (!okPut now sure k n b) (pSure now sure k n b)) .anil)) (.acons (.int .i64 (bif okPut now sure k n b then 0 else 2)) .anil))) := fun e => by simp only [e, pNow, pSure]; rfl
  refine cond_of hgg ?_
  cases hd : diskOK now sure
  · exact cond_of rfl (no (okPut_not fun f => by rw [hd] at f; cases f.1))
  obtain ⟨l1, l2⟩ := diskOK_len hd
  refine cond_no rfl (cond_two (fun e => no (okPut_not fun f => by simp only [decide_eq_true_eq] at e; omega)) fun e1 => ?_)
  refine (cond_two (fun e => no (okPut_not fun f => by simp only [decide_eq_true_eq] at e; omega)) fun e2 => ?_)
  refine (cond_two (fun e => no (okPut_not fun f => by simp only [decide_eq_true_eq] at e; omega)) fun e3 => ?_)
  refine (cond_two (fun e => no (okPut_not fun f => f.2.2.2.2.1 (by simpa using e))) fun e4 => ?_)
  refine cond_of hb ?_
  refine (cond_two (fun e => no (okPut_not fun f => by rw [f.2.2.2.2.2] at e; cases e)) fun e5 => ?_)
  simp only [decide_eq_false_iff_not] at e1 e2 e3
  have ok : okPut now sure k n b = true := by
    simp only [okPut, hd, Bool.true_and, Bool.and_eq_true, decide_eq_true_eq]
    exact ⟨⟨⟨⟨by omega, by omega⟩, by omega⟩, by simpa using e4⟩, by simpa using e5⟩
  rw [ok]
  simp only [pNow, pSure, ok, cond_true, Bool.not_true]
  repeat (refine cond_of (by first | assumption | exact lenOK_of (by omega) | exact sizeT (by omega) | (simp; done) | (simp; omega) | (simp [sizeOK]; omega)) ?_)
  refine cond_two (fun e => ?_) fun e => ?_ <;> simp only [decide_eq_true_eq, decide_eq_false_iff_not] at e
  · have pn : putNow now k.toNat n b = now.set k.toNat ⟨n, b⟩ := if_pos e
    rw [pn]
    repeat (refine cond_of (by first | assumption | exact lenOK_of (by omega) | exact sizeT (by omega) | (simp; done) | (simp; omega) | (simp [sizeOK]; omega)) ?_)
    rfl
  · have pn : putNow now k.toNat n b = now := if_neg e
    rw [pn]
noncomputable def uu_8 := uu_7.addSpec 44 putD_sp
theorem uu_8_laws : FLaws Try.prog s06 uu_8 := uu_7_laws.addEv s06_laws fun args d h => by
  unfold putD_sp at h
  split at h
  · unfold putD_s at h
    have h1 := congrArg Prod.fst (Option.some.inj h)
    obtain rfl : _ = d := congrArg Prod.snd (Option.some.inj h)
    exact ⟨by simp [D.refs], 40, putD_ok _ _ _ _ _ _ _ h1⟩
  · cases h
end Go.Ev
