/-
  RecordReads returns true for any bytes, and they read behind the call as before. No condition beyond the given statement. (text 4 of 8)
-/
import Derived.Test.YtnphmfcnnpoinaaP2
namespace Go.Ev
open Go.Proofs
set_option maxRecDepth 100000
set_option linter.unusedVariables false
set_option linter.unusedSimpArgs false
def put_s (c : Bool) (b : List UInt8) (n : Int) (w : Int) : Option (Bool × D RC) := staticD (w == 1 || w == 2 || w == 3 || w == 6) (decide (b.length ≤ 1000000000), .tup (.acons (.sl (C := RC) .u8 (!fitsB n w.toNat) (putL b n w.toNat)) (.acons (.int .i64 (bif fitsB n w.toNat then 0 else 2)) .anil)))
def put_sp : List (D RC) → Option (Bool × D RC)
  | [.sl .u8 c b, .int .i64 n, .int .i64 w] => put_s c b n w
  | _ => none
noncomputable def put_e (c : Bool) (b : List UInt8) (n : Int) (w : Int) := evF s05 ua_10 40 53 [.sl (C := RC) .u8 c b, .int .i64 n, .int .i64 w]
theorem put1_eq (c : Bool) (b : List UInt8) (n : Int) : put_e c b n 1 = (bif decide ((0 : Int) ≤ n) then bif !Int.fdiv n (256 : Int) == (0 : Int) then some (D.tup (D.acons (D.sl RTy.u8 true []) (.acons (D.int .i64 (2 : Int)) .anil))) else bif lenOK b.length then bif lenOK b.length then bif decide ((0 : Int) ≤ (0 : Int) ∧ (0 : Int) ≤ (↑b.length : Int) ∧ (↑b.length : Int) ≤ (↑b.length : Int) ∧ (↑b.length : Int) = (↑b.length : Int)) then bif sizeOK (List.length (List.drop (0 : Nat) (List.take (↑b.length : Int).toNat b)) + List.length [UInt8.ofNat (IntKind.wrap IntKind.u8 n).toNat]) (1 : Nat) then bif Nat.beq (List.length (List.drop (0 : Nat) (List.take (↑b.length : Int).toNat b)) + List.length [UInt8.ofNat (IntKind.wrap IntKind.u8 n).toNat]) (List.drop (0 : Nat) (List.take (↑b.length : Int).toNat b) ++ [UInt8.ofNat (IntKind.wrap IntKind.u8 n).toNat]).length then some (D.tup (D.acons (D.sl RTy.u8 false (List.drop (0 : Nat) (List.take (↑b.length : Int).toNat b) ++ [UInt8.ofNat (IntKind.wrap IntKind.u8 n).toNat])) (.acons (D.int .i64 (0 : Int)) .anil))) else none else none else none else none else none else some (D.tup (D.acons (D.sl RTy.u8 true []) (.acons (D.int .i64 (2 : Int)) .anil)))) := by kernel_rfl
theorem put2_eq (c : Bool) (b : List UInt8) (n : Int) : put_e c b n 2 = (bif decide ((0 : Int) ≤ n) then bif !Int.fdiv n (65536 : Int) == (0 : Int) then some (D.tup (D.acons (D.sl RTy.u8 true []) (.acons (D.int .i64 (2 : Int)) .anil))) else bif lenOK b.length then bif lenOK b.length then bif decide ((0 : Int) ≤ (0 : Int) ∧ (0 : Int) ≤ (↑b.length : Int) ∧ (↑b.length : Int) ≤ (↑b.length : Int) ∧ (↑b.length : Int) = (↑b.length : Int)) then bif sizeOK (List.length (List.drop (0 : Nat) (List.take (↑b.length : Int).toNat b)) + List.length [UInt8.ofNat (IntKind.wrap IntKind.u8 n).toNat]) (1 : Nat) then bif Nat.beq (List.length (List.drop (0 : Nat) (List.take (↑b.length : Int).toNat b)) + List.length [UInt8.ofNat (IntKind.wrap IntKind.u8 n).toNat]) (List.drop (0 : Nat) (List.take (↑b.length : Int).toNat b) ++ [UInt8.ofNat (IntKind.wrap IntKind.u8 n).toNat]).length && sizeOK (List.length (List.drop (0 : Nat) (List.take (↑b.length : Int).toNat b)) + List.length [UInt8.ofNat (IntKind.wrap IntKind.u8 n).toNat] + List.length [UInt8.ofNat (IntKind.wrap IntKind.u8 (Int.fdiv n (256 : Int))).toNat]) (1 : Nat) then bif Nat.beq (List.length (List.drop (0 : Nat) (List.take (↑b.length : Int).toNat b) ++ [UInt8.ofNat (IntKind.wrap IntKind.u8 n).toNat]) + List.length [UInt8.ofNat (IntKind.wrap IntKind.u8 (Int.fdiv n (256 : Int))).toNat]) (List.drop (0 : Nat) (List.take (↑b.length : Int).toNat b) ++ [UInt8.ofNat (IntKind.wrap IntKind.u8 n).toNat] ++ [UInt8.ofNat (IntKind.wrap IntKind.u8 (Int.fdiv n (256 : Int))).toNat]).length then some (D.tup (D.acons (D.sl RTy.u8 false (List.drop (0 : Nat) (List.take (↑b.length : Int).toNat b) ++ [UInt8.ofNat (IntKind.wrap IntKind.u8 n).toNat] ++ [UInt8.ofNat (IntKind.wrap IntKind.u8 (Int.fdiv n (256 : Int))).toNat])) (.acons (D.int .i64 (0 : Int)) .anil))) else none else none else none else none else none else none else some (D.tup (D.acons (D.sl RTy.u8 true []) (.acons (D.int .i64 (2 : Int)) .anil)))) := by kernel_rfl
theorem put3_eq (c : Bool) (b : List UInt8) (n : Int) : put_e c b n 3 = (bif decide ((0 : Int) ≤ n) then bif !Int.fdiv n (16777216 : Int) == (0 : Int) then some (D.tup (D.acons (D.sl RTy.u8 true []) (.acons (D.int .i64 (2 : Int)) .anil))) else bif lenOK b.length then bif lenOK b.length then bif decide ((0 : Int) ≤ (0 : Int) ∧ (0 : Int) ≤ (↑b.length : Int) ∧ (↑b.length : Int) ≤ (↑b.length : Int) ∧ (↑b.length : Int) = (↑b.length : Int)) then bif sizeOK (List.length (List.drop (0 : Nat) (List.take (↑b.length : Int).toNat b)) + List.length [UInt8.ofNat (IntKind.wrap IntKind.u8 n).toNat]) (1 : Nat) then bif Nat.beq (List.length (List.drop (0 : Nat) (List.take (↑b.length : Int).toNat b)) + List.length [UInt8.ofNat (IntKind.wrap IntKind.u8 n).toNat]) (List.drop (0 : Nat) (List.take (↑b.length : Int).toNat b) ++ [UInt8.ofNat (IntKind.wrap IntKind.u8 n).toNat]).length && sizeOK (List.length (List.drop (0 : Nat) (List.take (↑b.length : Int).toNat b)) + List.length [UInt8.ofNat (IntKind.wrap IntKind.u8 n).toNat] + List.length [UInt8.ofNat (IntKind.wrap IntKind.u8 (Int.fdiv n (256 : Int))).toNat]) (1 : Nat) then bif Nat.beq (List.length (List.drop (0 : Nat) (List.take (↑b.length : Int).toNat b) ++ [UInt8.ofNat (IntKind.wrap IntKind.u8 n).toNat]) + List.length [UInt8.ofNat (IntKind.wrap IntKind.u8 (Int.fdiv n (256 : Int))).toNat]) (List.drop (0 : Nat) (List.take (↑b.length : Int).toNat b) ++ [UInt8.ofNat (IntKind.wrap IntKind.u8 n).toNat] ++ [UInt8.ofNat (IntKind.wrap IntKind.u8 (Int.fdiv n (256 : Int))).toNat]).length && sizeOK (List.length (List.drop (0 : Nat) (List.take (↑b.length : Int).toNat b) ++ [UInt8.ofNat (IntKind.wrap IntKind.u8 n).toNat]) + List.length [UInt8.ofNat (IntKind.wrap IntKind.u8 (Int.fdiv n (256 : Int))).toNat] + List.length [UInt8.ofNat (IntKind.wrap IntKind.u8 (Int.fdiv (Int.fdiv n (256 : Int)) (256 : Int))).toNat]) (1 : Nat) then bif Nat.beq (List.length (List.drop (0 : Nat) (List.take (↑b.length : Int).toNat b) ++ [UInt8.ofNat (IntKind.wrap IntKind.u8 n).toNat] ++ [UInt8.ofNat (IntKind.wrap IntKind.u8 (Int.fdiv n (256 : Int))).toNat]) + List.length [UInt8.ofNat (IntKind.wrap IntKind.u8 (Int.fdiv (Int.fdiv n (256 : Int)) (256 : Int))).toNat]) (List.drop (0 : Nat) (List.take (↑b.length : Int).toNat b) ++ [UInt8.ofNat (IntKind.wrap IntKind.u8 n).toNat] ++ [UInt8.ofNat (IntKind.wrap IntKind.u8 (Int.fdiv n (256 : Int))).toNat] ++ [UInt8.ofNat (IntKind.wrap IntKind.u8 (Int.fdiv (Int.fdiv n (256 : Int)) (256 : Int))).toNat]).length then some (D.tup (D.acons (D.sl RTy.u8 false (List.drop (0 : Nat) (List.take (↑b.length : Int).toNat b) ++ [UInt8.ofNat (IntKind.wrap IntKind.u8 n).toNat] ++ [UInt8.ofNat (IntKind.wrap IntKind.u8 (Int.fdiv n (256 : Int))).toNat] ++ [UInt8.ofNat (IntKind.wrap IntKind.u8 (Int.fdiv (Int.fdiv n (256 : Int)) (256 : Int))).toNat])) (.acons (D.int .i64 (0 : Int)) .anil))) else none else none else none else none else none else none else none else some (D.tup (D.acons (D.sl RTy.u8 true []) (.acons (D.int .i64 (2 : Int)) .anil)))) := by kernel_rfl
set_option maxHeartbeats 4000000 in
theorem put6_eq (c : Bool) (b : List UInt8) (n : Int) : put_e c b n 6 = (bif decide ((0 : Int) ≤ n) then bif !Int.fdiv n (281474976710656 : Int) == (0 : Int) then some (D.tup (D.acons (D.sl RTy.u8 true []) (.acons (D.int .i64 (2 : Int)) .anil))) else bif lenOK b.length then bif lenOK b.length then bif decide ((0 : Int) ≤ (0 : Int) ∧ (0 : Int) ≤ (↑b.length : Int) ∧ (↑b.length : Int) ≤ (↑b.length : Int) ∧ (↑b.length : Int) = (↑b.length : Int)) then bif sizeOK (List.length (List.drop (0 : Nat) (List.take (↑b.length : Int).toNat b)) + List.length [UInt8.ofNat (IntKind.wrap IntKind.u8 n).toNat]) (1 : Nat) then bif Nat.beq (List.length (List.drop (0 : Nat) (List.take (↑b.length : Int).toNat b)) + List.length [UInt8.ofNat (IntKind.wrap IntKind.u8 n).toNat]) (List.drop (0 : Nat) (List.take (↑b.length : Int).toNat b) ++ [UInt8.ofNat (IntKind.wrap IntKind.u8 n).toNat]).length && sizeOK (List.length (List.drop (0 : Nat) (List.take (↑b.length : Int).toNat b)) + List.length [UInt8.ofNat (IntKind.wrap IntKind.u8 n).toNat] + List.length [UInt8.ofNat (IntKind.wrap IntKind.u8 (Int.fdiv n (256 : Int))).toNat]) (1 : Nat) then bif Nat.beq (List.length (List.drop (0 : Nat) (List.take (↑b.length : Int).toNat b) ++ [UInt8.ofNat (IntKind.wrap IntKind.u8 n).toNat]) + List.length [UInt8.ofNat (IntKind.wrap IntKind.u8 (Int.fdiv n (256 : Int))).toNat]) (List.drop (0 : Nat) (List.take (↑b.length : Int).toNat b) ++ [UInt8.ofNat (IntKind.wrap IntKind.u8 n).toNat] ++ [UInt8.ofNat (IntKind.wrap IntKind.u8 (Int.fdiv n (256 : Int))).toNat]).length && sizeOK (List.length (List.drop (0 : Nat) (List.take (↑b.length : Int).toNat b) ++ [UInt8.ofNat (IntKind.wrap IntKind.u8 n).toNat]) + List.length [UInt8.ofNat (IntKind.wrap IntKind.u8 (Int.fdiv n (256 : Int))).toNat] + List.length [UInt8.ofNat (IntKind.wrap IntKind.u8 (Int.fdiv (Int.fdiv n (256 : Int)) (256 : Int))).toNat]) (1 : Nat) then bif Nat.beq (List.length (List.drop (0 : Nat) (List.take (↑b.length : Int).toNat b) ++ [UInt8.ofNat (IntKind.wrap IntKind.u8 n).toNat] ++ [UInt8.ofNat (IntKind.wrap IntKind.u8 (Int.fdiv n (256 : Int))).toNat]) + List.length [UInt8.ofNat (IntKind.wrap IntKind.u8 (Int.fdiv (Int.fdiv n (256 : Int)) (256 : Int))).toNat]) (List.drop (0 : Nat) (List.take (↑b.length : Int).toNat b) ++ [UInt8.ofNat (IntKind.wrap IntKind.u8 n).toNat] ++ [UInt8.ofNat (IntKind.wrap IntKind.u8 (Int.fdiv n (256 : Int))).toNat] ++ [UInt8.ofNat (IntKind.wrap IntKind.u8 (Int.fdiv (Int.fdiv n (256 : Int)) (256 : Int))).toNat]).length && sizeOK (List.length (List.drop (0 : Nat) (List.take (↑b.length : Int).toNat b) ++ [UInt8.ofNat (IntKind.wrap IntKind.u8 n).toNat] ++ [UInt8.ofNat (IntKind.wrap IntKind.u8 (Int.fdiv n (256 : Int))).toNat]) + List.length [UInt8.ofNat (IntKind.wrap IntKind.u8 (Int.fdiv (Int.fdiv n (256 : Int)) (256 : Int))).toNat] + List.length [UInt8.ofNat (IntKind.wrap IntKind.u8 (Int.fdiv (Int.fdiv (Int.fdiv n (256 : Int)) (256 : Int)) (256 : Int))).toNat]) (1 : Nat) then bif Nat.beq (List.length (List.drop (0 : Nat) (List.take (↑b.length : Int).toNat b) ++ [UInt8.ofNat (IntKind.wrap IntKind.u8 n).toNat] ++ [UInt8.ofNat (IntKind.wrap IntKind.u8 (Int.fdiv n (256 : Int))).toNat] ++ [UInt8.ofNat (IntKind.wrap IntKind.u8 (Int.fdiv (Int.fdiv n (256 : Int)) (256 : Int))).toNat]) + List.length [UInt8.ofNat (IntKind.wrap IntKind.u8 (Int.fdiv (Int.fdiv (Int.fdiv n (256 : Int)) (256 : Int)) (256 : Int))).toNat]) (List.drop (0 : Nat) (List.take (↑b.length : Int).toNat b) ++ [UInt8.ofNat (IntKind.wrap IntKind.u8 n).toNat] ++ [UInt8.ofNat (IntKind.wrap IntKind.u8 (Int.fdiv n (256 : Int))).toNat] ++ [UInt8.ofNat (IntKind.wrap IntKind.u8 (Int.fdiv (Int.fdiv n (256 : Int)) (256 : Int))).toNat] ++ [UInt8.ofNat (IntKind.wrap IntKind.u8 (Int.fdiv (Int.fdiv (Int.fdiv n (256 : Int)) (256 : Int)) (256 : Int))).toNat]).length && sizeOK (List.length (List.drop (0 : Nat) (List.take (↑b.length : Int).toNat b) ++ [UInt8.ofNat (IntKind.wrap IntKind.u8 n).toNat] ++ [UInt8.ofNat (IntKind.wrap IntKind.u8 (Int.fdiv n (256 : Int))).toNat] ++ [UInt8.ofNat (IntKind.wrap IntKind.u8 (Int.fdiv (Int.fdiv n (256 : Int)) (256 : Int))).toNat]) + List.length [UInt8.ofNat (IntKind.wrap IntKind.u8 (Int.fdiv (Int.fdiv (Int.fdiv n (256 : Int)) (256 : Int)) (256 : Int))).toNat] + List.length [UInt8.ofNat (IntKind.wrap IntKind.u8 (Int.fdiv (Int.fdiv (Int.fdiv (Int.fdiv n (256 : Int)) (256 : Int)) (256 : Int)) (256 : Int))).toNat]) (1 : Nat) then bif Nat.beq (List.length (List.drop (0 : Nat) (List.take (↑b.length : Int).toNat b) ++ [UInt8.ofNat (IntKind.wrap IntKind.u8 n).toNat] ++ [UInt8.ofNat (IntKind.wrap IntKind.u8 (Int.fdiv n (256 : Int))).toNat] ++ [UInt8.ofNat (IntKind.wrap IntKind.u8 (Int.fdiv (Int.fdiv n (256 : Int)) (256 : Int))).toNat] ++ [UInt8.ofNat (IntKind.wrap IntKind.u8 (Int.fdiv (Int.fdiv (Int.fdiv n (256 : Int)) (256 : Int)) (256 : Int))).toNat]) + List.length [UInt8.ofNat (IntKind.wrap IntKind.u8 (Int.fdiv (Int.fdiv (Int.fdiv (Int.fdiv n (256 : Int)) (256 : Int)) (256 : Int)) (256 : Int))).toNat]) (List.drop (0 : Nat) (List.take (↑b.length : Int).toNat b) ++ [UInt8.ofNat (IntKind.wrap IntKind.u8 n).toNat] ++ [UInt8.ofNat (IntKind.wrap IntKind.u8 (Int.fdiv n (256 : Int))).toNat] ++ [UInt8.ofNat (IntKind.wrap IntKind.u8 (Int.fdiv (Int.fdiv n (256 : Int)) (256 : Int))).toNat] ++ [UInt8.ofNat (IntKind.wrap IntKind.u8 (Int.fdiv (Int.fdiv (Int.fdiv n (256 : Int)) (256 : Int)) (256 : Int))).toNat] ++ [UInt8.ofNat (IntKind.wrap IntKind.u8 (Int.fdiv (Int.fdiv (Int.fdiv (Int.fdiv n (256 : Int)) (256 : Int)) (256 : Int)) (256 : Int))).toNat]).length && sizeOK (List.length (List.drop (0 : Nat) (List.take (↑b.length : Int).toNat b) ++ [UInt8.ofNat (IntKind.wrap IntKind.u8 n).toNat] ++ [UInt8.ofNat (IntKind.wrap IntKind.u8 (Int.fdiv n (256 : Int))).toNat] ++ [UInt8.ofNat (IntKind.wrap IntKind.u8 (Int.fdiv (Int.fdiv n (256 : Int)) (256 : Int))).toNat] ++ [UInt8.ofNat (IntKind.wrap IntKind.u8 (Int.fdiv (Int.fdiv (Int.fdiv n (256 : Int)) (256 : Int)) (256 : Int))).toNat]) + List.length [UInt8.ofNat (IntKind.wrap IntKind.u8 (Int.fdiv (Int.fdiv (Int.fdiv (Int.fdiv n (256 : Int)) (256 : Int)) (256 : Int)) (256 : Int))).toNat] + List.length [UInt8.ofNat (IntKind.wrap IntKind.u8 (Int.fdiv (Int.fdiv (Int.fdiv (Int.fdiv (Int.fdiv n (256 : Int)) (256 : Int)) (256 : Int)) (256 : Int)) (256 : Int))).toNat]) (1 : Nat) then bif Nat.beq (List.length (List.drop (0 : Nat) (List.take (↑b.length : Int).toNat b) ++ [UInt8.ofNat (IntKind.wrap IntKind.u8 n).toNat] ++ [UInt8.ofNat (IntKind.wrap IntKind.u8 (Int.fdiv n (256 : Int))).toNat] ++ [UInt8.ofNat (IntKind.wrap IntKind.u8 (Int.fdiv (Int.fdiv n (256 : Int)) (256 : Int))).toNat] ++ [UInt8.ofNat (IntKind.wrap IntKind.u8 (Int.fdiv (Int.fdiv (Int.fdiv n (256 : Int)) (256 : Int)) (256 : Int))).toNat] ++ [UInt8.ofNat (IntKind.wrap IntKind.u8 (Int.fdiv (Int.fdiv (Int.fdiv (Int.fdiv n (256 : Int)) (256 : Int)) (256 : Int)) (256 : Int))).toNat]) + List.length [UInt8.ofNat (IntKind.wrap IntKind.u8 (Int.fdiv (Int.fdiv (Int.fdiv (Int.fdiv (Int.fdiv n (256 : Int)) (256 : Int)) (256 : Int)) (256 : Int)) (256 : Int))).toNat]) (List.drop (0 : Nat) (List.take (↑b.length : Int).toNat b) ++ [UInt8.ofNat (IntKind.wrap IntKind.u8 n).toNat] ++ [UInt8.ofNat (IntKind.wrap IntKind.u8 (Int.fdiv n (256 : Int))).toNat] ++ [UInt8.ofNat (IntKind.wrap IntKind.u8 (Int.fdiv (Int.fdiv n (256 : Int)) (256 : Int))).toNat] ++ [UInt8.ofNat (IntKind.wrap IntKind.u8 (Int.fdiv (Int.fdiv (Int.fdiv n (256 : Int)) (256 : Int)) (256 : Int))).toNat] ++ [UInt8.ofNat (IntKind.wrap IntKind.u8 (Int.fdiv (Int.fdiv (Int.fdiv (Int.fdiv n (256 : Int)) (256 : Int)) (256 : Int)) (256 : Int))).toNat] ++ [UInt8.ofNat (IntKind.wrap IntKind.u8 (Int.fdiv (Int.fdiv (Int.fdiv (Int.fdiv (Int.fdiv n (256 : Int)) (256 : Int)) (256 : Int)) (256 : Int)) (256 : Int))).toNat]).length then some (D.tup (D.acons (D.sl RTy.u8 false (List.drop (0 : Nat) (List.take (↑b.length : Int).toNat b) ++ [UInt8.ofNat (IntKind.wrap IntKind.u8 n).toNat] ++ [UInt8.ofNat (IntKind.wrap IntKind.u8 (Int.fdiv n (256 : Int))).toNat] ++ [UInt8.ofNat (IntKind.wrap IntKind.u8 (Int.fdiv (Int.fdiv n (256 : Int)) (256 : Int))).toNat] ++ [UInt8.ofNat (IntKind.wrap IntKind.u8 (Int.fdiv (Int.fdiv (Int.fdiv n (256 : Int)) (256 : Int)) (256 : Int))).toNat] ++ [UInt8.ofNat (IntKind.wrap IntKind.u8 (Int.fdiv (Int.fdiv (Int.fdiv (Int.fdiv n (256 : Int)) (256 : Int)) (256 : Int)) (256 : Int))).toNat] ++ [UInt8.ofNat (IntKind.wrap IntKind.u8 (Int.fdiv (Int.fdiv (Int.fdiv (Int.fdiv (Int.fdiv n (256 : Int)) (256 : Int)) (256 : Int)) (256 : Int)) (256 : Int))).toNat])) (.acons (D.int .i64 (0 : Int)) .anil))) else none else none else none else none else none else none else none else none else none else none else some (D.tup (D.acons (D.sl RTy.u8 true []) (.acons (D.int .i64 (2 : Int)) .anil)))) := by kernel_rfl
theorem put_ok (c : Bool) (b : List UInt8) (n : Int) (w : Int) (hs : (w == 1 || w == 2 || w == 3 || w == 6) = true) (h : (decide (b.length ≤ 1000000000)) = true) : put_e c b n w = some (.tup (.acons (.sl (C := RC) .u8 (!fitsB n w.toNat) (putL b n w.toNat)) (.acons (.int .i64 (bif fitsB n w.toNat then 0 else 2)) .anil))) := by
  have hl := of_decide_eq_true h
  have hl' : lenOK b.length = true := lenOK_of (by omega)
  have hle : ∀ m, 1000000000 ≤ m → (b.length ≤ m) := fun m hm => by omega
  have hz : ∀ (k : Nat) (m : Int), 0 ≤ n → m = 256 ^ k → 0 < m → ((n.fdiv m == 0) = fitsB n k) := by
    intro k m h0 hm hp
    rw [Int.fdiv_eq_ediv_of_nonneg _ (by omega), fitsB, ← hm]
    have : (n / m = 0) ↔ n < m := Int.ediv_eq_zero_iff_of_pos' h0 hp
    rw [Bool.eq_iff_iff]; simp [this, h0]
  simp only [Bool.or_eq_true, beq_iff_eq] at hs
  rcases hs with ((rfl | rfl) | rfl) | rfl
  · rw [put1_eq]
    show _ = some (D.tup (.acons (.sl (C := RC) .u8 (!fitsB n 1) (putL b n 1)) (.acons (.int .i64 (bif fitsB n 1 then 0 else 2)) .anil)))
    by_cases h0 : 0 ≤ n
    · simp only [h0, decide_true, cond_true, hz 1 256 h0 (by decide) (by omega)]
      cases hf : fitsB n 1
      · simp [putL, hf]
      · simp [putL, hf, hl', sizeOK, leB, byteOf, hle]
    · have hf : fitsB n 1 = false := by simp [fitsB, h0]
      simp [h0, hf, putL]
  · rw [put2_eq]
    show _ = some (D.tup (.acons (.sl (C := RC) .u8 (!fitsB n 2) (putL b n 2)) (.acons (.int .i64 (bif fitsB n 2 then 0 else 2)) .anil)))
    by_cases h0 : 0 ≤ n
    · simp only [h0, decide_true, cond_true, hz 2 65536 h0 (by decide) (by omega)]
      cases hf : fitsB n 2
      · simp [putL, hf]
      · simp [putL, hf, hl', sizeOK, leB, byteOf, hle]
    · have hf : fitsB n 2 = false := by simp [fitsB, h0]
      simp [h0, hf, putL]
  · rw [put3_eq]
    show _ = some (D.tup (.acons (.sl (C := RC) .u8 (!fitsB n 3) (putL b n 3)) (.acons (.int .i64 (bif fitsB n 3 then 0 else 2)) .anil)))
    by_cases h0 : 0 ≤ n
    · simp only [h0, decide_true, cond_true, hz 3 16777216 h0 (by decide) (by omega)]
      cases hf : fitsB n 3
      · simp [putL, hf]
      · simp [putL, hf, hl', sizeOK, leB, byteOf, hle]
    · have hf : fitsB n 3 = false := by simp [fitsB, h0]
      simp [h0, hf, putL]
  · rw [put6_eq]
    show _ = some (D.tup (.acons (.sl (C := RC) .u8 (!fitsB n 6) (putL b n 6)) (.acons (.int .i64 (bif fitsB n 6 then 0 else 2)) .anil)))
    by_cases h0 : 0 ≤ n
    · simp only [h0, decide_true, cond_true, hz 6 281474976710656 h0 (by decide) (by omega)]
      cases hf : fitsB n 6
      · simp [putL, hf]
      · simp [putL, hf, hl', sizeOK, leB, byteOf, hle]
    · have hf : fitsB n 6 = false := by simp [fitsB, h0]
      simp [h0, hf, putL]
noncomputable def ub_1 := ua_10.addSpec 53 put_sp
theorem ub_1_laws : FLaws Try.prog s05 ub_1 := ua_10_laws.addEv s05_laws fun args d h => by
  unfold put_sp at h
  split at h
  · unfold put_s at h
    obtain ⟨hs, h⟩ := staticD_some h
    obtain ⟨h1, h2⟩ := Prod.mk.inj h
    obtain rfl : _ = d := h2
    exact ⟨by simp [D.refs], 40, put_ok _ _ _ _ hs h1⟩
  · cases h
structure getLoop_St where
  c : Bool
  l : List UInt8
  i : Nat
def getLoop_c (c : Bool) (l : List UInt8) (i : Nat) : Env RC := [(40, .sl (C := RC) .u8 c l), (41, .int .i64 (l.length)), (42, .int .i64 (i : Int)), (8, .int .i64 ((leVal (l.take i) : Int)))]
def getLoop_o (c : Bool) (l : List UInt8) (i : Nat) : List (Obj RC) := []
noncomputable def getLoop_r (c : Bool) (l : List UInt8) (i : Nat) := rndO s05 ub_1 54 7 40 0 [40, 41, 42, 8] [8] [] (getLoop_c c l i) (getLoop_o c l i)
theorem getLoop_eq (c : Bool) (l : List UInt8) (i : Nat) : getLoop_r c l i = (bif decide ((↑i : Int) < (↑l.length : Int)) then bif decide ((0 : Int) ≤ (↑i : Int) ∧ (↑i : Int) < (↑l.length : Int)) then bif decide (IntKind.wrap .i64 ((8 : Int) * (↑i : Int)) < (0 : Int)) then none else some ((X.normal, [((40 : Nat), D.sl RTy.u8 c l), ((41 : Nat), D.int .i64 (↑l.length : Int)), ((42 : Nat), D.int .i64 (IntKind.wrap .i64 ((↑i : Int) + (1 : Int)))), ((8 : Nat), D.int .i64 (bits .i64 (fun (x : Nat) (u v : BitVec x) => u ||| v) (↑(leVal (List.take i l)) : Int) (IntKind.wrap .i64 (IntKind.wrap .i64 (↑(UInt8.toNat (List.getD l (↑i : Int).toNat (UInt8.ofBitVec (BitVec.ofNat (8 : Nat) (nat_lit 0))))) : Int) * (2 : Int) ^ min (IntKind.wrap .i64 ((8 : Int) * (↑i : Int))).toNat (64 : Nat)))))]), []) else none else some ((X.exit (1 : Nat), [((8 : Nat), D.int .i64 (↑(leVal (List.take i l)) : Int))]), [])) := by kernel_rfl
def getLoop_fin (c : Bool) (l : List UInt8) (i : Nat) : RT RC := .leaf (.exit 1) [(8, .int .i64 (leVal l : Int))] []
def getLoop_Inv (c : Bool) (l : List UInt8) (i : Nat) : Prop := i ≤ l.length ∧ l.length ≤ 6
def getLoop_S : LoopR RC getLoop_St where
  k := 0
  canon q := getLoop_c q.c q.l q.i
  objs q := getLoop_o q.c q.l q.i
  fin q := getLoop_fin q.c q.l q.i
  Inv q := getLoop_Inv q.c q.l q.i
  μ q := q.l.length - q.i
theorem getLoop_round (c : Bool) (l : List UInt8) (i : Nat) (hI : getLoop_Inv c l i) : Leaf (getLoop_r c l i) (LedR getLoop_S ⟨c, l, i⟩) := by
  rw [getLoop_eq]
  unfold getLoop_Inv at hI
  obtain ⟨h1, h2⟩ := hI
  by_cases hlt : i < l.length
  · have w_succ : IntKind.i64.wrap ((i : Int) + 1) = ((i + 1 : Nat) : Int) := by rw [wrap_id (by omega) (by omega)]; simp
    have d_lt : decide ((i : Int) < l.length) = true := by simp; omega
    have d_in : decide (0 ≤ (i : Int) ∧ (i : Int) < l.length) = true := by simp; omega
    have t_nat : ((i : Int)).toNat = i := by simp
    simp only [w_succ, d_lt, d_in, t_nat, cond_true]
    have hw8 : IntKind.i64.wrap (8 * (i : Int)) = 8 * (i : Int) := wrap_id (by omega) (by omega)
    have hd8 : decide (IntKind.i64.wrap (8 * (i : Int)) < 0) = false := by rw [hw8]; simp; omega
    have hlen : (l.take i).length = i := by simp; omega
    have hv : leVal (l.take i) < 256 ^ i := by have := leVal_lt (l.take i); rwa [hlen] at this
    have hval : leVal (l.take (i + 1)) = leVal (l.take i) + (l.getD i 0).toNat * 256 ^ i := by
      rw [List.take_add_one, leVal_append, hlen]
      simp [hlt, leVal, Nat.mul_comm]
    simp only [hd8, cond_false]
    refine leafR_go ⟨c, l, i + 1⟩ ⟨hlt, h2⟩ (by simp only [getLoop_S]; omega) (by simp only [getLoop_S, getLoop_fin]) ?_ rfl
    simp only [getLoop_S, getLoop_c, hval]
    exact congrArg (fun z => [(40, D.sl (C := RC) .u8 c l), (41, .int .i64 (l.length : Int)), (42, .int .i64 ((i + 1 : Nat) : Int)), (8, .int .i64 z)]) (bits_or_shift' _ _ _ hv (by omega))
  · have hi : i = l.length := by omega
    have c1 : decide ((i : Int) < l.length) = false := by simp; omega
    rw [c1]
    exact leafR_exit [] (by simp [getLoop_S, getLoop_fin, hi, RT.val]) rfl
def getLoop_d (env : Env RC) (os : List (Obj RC)) : Option (Bool × getLoop_St) := match env, os with
  | [(40, .sl .u8 c l), (41, .int .i64 x0), (42, .int .i64 x1), (8, .int .i64 x2)], [] => staticD (true) (decide (x0 = l.length) && decide (x1 = 0) && decide (x2 = 0) && decide (l.length ≤ 6), ⟨c, l, 0⟩)
  | _, _ => none
noncomputable def ub_2 := ub_1.addLoop 54 7 (sumR s05 [] [40, 41, 42, 8] getLoop_S getLoop_d)
theorem ub_2_laws : FLaws Try.prog s05 ub_2 := by
  refine ub_1_laws.addRoundsR s05_laws (by kernel_rfl) getLoop_S 40 [40, 41, 42, 8] [8] [] [40, 41, 42, 8] getLoop_d (fun q hI => ?_) ?_
  · obtain ⟨c, l, i⟩ := q
    refine ⟨?_, ?_, getLoop_round c l i hI⟩
    · simp_all [RefsOK, getLoop_S, getLoop_c, getLoop_o, getLoop_Inv, D.refs, Obj.refs, rEnc]
    · simp_all [getLoop_S, getLoop_fin, getLoop_o, getLoop_Inv, RT.refsOK, RefsOK, D.refs, Obj.refs, rEnc]
  · intro env os b q hd_ hb
    unfold getLoop_d at hd_
    split at hd_
    · obtain ⟨hs, hd_⟩ := staticD_some hd_
      cases hd_
      simp only [Bool.and_eq_true, decide_eq_true_eq] at hb
      obtain ⟨⟨⟨rfl, rfl⟩, rfl⟩, hl⟩ := hb
      exact ⟨⟨Nat.zero_le _, hl⟩, rfl, rfl⟩
    · cases hd_
def get_s (c : Bool) (b : List UInt8) (a : Int) (w : Int) : Option (Bool × D RC) := some (decide (b.length ≤ 1000000000000), .tup (.acons (.int .i64 (getP b a w).1) (.acons (.int .i64 (getP b a w).2) .anil)))
def get_sp : List (D RC) → Option (Bool × D RC)
  | [.sl .u8 c b, .int .i64 a, .int .i64 w] => get_s c b a w
  | _ => none
noncomputable def get_e (c : Bool) (b : List UInt8) (a : Int) (w : Int) := evF s05 ub_2 40 54 [.sl (C := RC) .u8 c b, .int .i64 a, .int .i64 w]
theorem get_eq (c : Bool) (b : List UInt8) (a : Int) (w : Int) : get_e c b a w = (bif decide (w < (1 : Int)) then some (D.tup (D.acons (D.int .i64 (0 : Int)) (.acons (D.int .i64 (2 : Int)) .anil))) else bif decide ((6 : Int) < w) then some (D.tup (D.acons (D.int .i64 (0 : Int)) (.acons (D.int .i64 (2 : Int)) .anil))) else bif decide (a < (0 : Int)) then some (D.tup (D.acons (D.int .i64 (0 : Int)) (.acons (D.int .i64 (50 : Int)) .anil))) else bif lenOK b.length then bif decide ((↑b.length : Int) < a) then some (D.tup (D.acons (D.int .i64 (0 : Int)) (.acons (D.int .i64 (50 : Int)) .anil))) else bif lenOK b.length then bif decide (IntKind.wrap .i64 ((↑b.length : Int) - a) < w) then some (D.tup (D.acons (D.int .i64 (0 : Int)) (.acons (D.int .i64 (50 : Int)) .anil))) else bif decide ((0 : Int) ≤ a ∧ a ≤ IntKind.wrap .i64 (a + w) ∧ IntKind.wrap .i64 (a + w) ≤ (↑b.length : Int)) then bif lenOK (List.drop a.toNat (List.take (IntKind.wrap .i64 (a + w)).toNat b)).length then bif decide ((↑(List.drop a.toNat (List.take (IntKind.wrap .i64 (a + w)).toNat b)).length : Int) = (↑(List.drop a.toNat (List.take (IntKind.wrap .i64 (a + w)).toNat b)).length : Int)) && true && true && decide (List.length (List.drop a.toNat (List.take (IntKind.wrap .i64 (a + w)).toNat b)) ≤ (6 : Nat)) then some (D.tup (D.acons (D.int .i64 (↑(leVal (List.drop a.toNat (List.take (IntKind.wrap .i64 (a + w)).toNat b))) : Int)) (.acons (D.int .i64 (0 : Int)) .anil))) else none else none else none else none else none) := by kernel_rfl
theorem get_ok (c : Bool) (b : List UInt8) (a : Int) (w : Int) (h : (decide (b.length ≤ 1000000000000)) = true) : get_e c b a w = some (.tup (.acons (.int .i64 (getP b a w).1) (.acons (.int .i64 (getP b a w).2) .anil))) := by
  rw [get_eq]
  have hl := of_decide_eq_true h
  have hl' : lenOK b.length = true := lenOK_of (by omega)
  rw [hl']
  by_cases hw : 1 ≤ w ∧ w ≤ 6
  · have w1 : decide (w < 1) = false := by simp; omega
    have w2 : decide (6 < w) = false := by simp; omega
    have w3 : (decide (1 ≤ w) && decide (w ≤ 6)) = true := by simp; omega
    simp only [w1, w2, cond_false, cond_true, getP, w3]
    by_cases ha : 0 ≤ a ∧ a + w ≤ b.length
    · have a1 : decide (a < 0) = false := by simp; omega
      have a2 : decide ((b.length : Int) < a) = false := by simp; omega
      have e1 : IntKind.i64.wrap ((b.length : Int) - a) = b.length - a := wrap_id (by omega) (by omega)
      have e2 : IntKind.i64.wrap (a + w) = a + w := wrap_id (by omega) (by omega)
      have a3 : decide ((b.length : Int) - a < w) = false := by simp; omega
      have a4 : decide (0 ≤ a ∧ a ≤ a + w ∧ a + w ≤ (b.length : Int)) = true := by simp; omega
      have a5 : (decide (0 ≤ a) && decide (a + w ≤ (b.length : Int))) = true := by simp; omega
      have e3 : (List.drop a.toNat (List.take (a + w).toNat b)) = List.take w.toNat (List.drop a.toNat b) := by
        rw [List.drop_take]; congr 1; omega
      have e4 : (List.take w.toNat (List.drop a.toNat b)).length = w.toNat := by simp; omega
      simp only [a1, a2, e1, e2, a3, a4, a5, e3, e4, cond_false, cond_true]
      have a6 : lenOK w.toNat = true := lenOK_of (by omega)
      have a7 : w.toNat ≤ 6 := by omega
      simp [a6, a7]
    · have a5 : (decide (0 ≤ a) && decide (a + w ≤ (b.length : Int))) = false := by simp; omega
      simp only [a5, cond_false]
      by_cases a1 : a < 0
      · simp [a1]
      · by_cases a2 : (b.length : Int) < a
        · simp [a1, a2]
        · have e1 : IntKind.i64.wrap ((b.length : Int) - a) = b.length - a := wrap_id (by omega) (by omega)
          have a3 : decide ((b.length : Int) - a < w) = true := by simp; omega
          simp [a1, a2, e1, a3]
  · have w3 : (decide (1 ≤ w) && decide (w ≤ 6)) = false := by simp; omega
    simp only [getP, w3]
    by_cases w1 : w < 1
    · simp [w1]
    · have w2 : 6 < w := by omega
      simp [w1, w2]
noncomputable def ub_3 := ub_2.addSpec 54 get_sp
theorem ub_3_laws : FLaws Try.prog s05 ub_3 := ub_2_laws.addEv s05_laws fun args d h => by
  unfold get_sp at h
  split at h
  · unfold get_s at h
    have h1 := congrArg Prod.fst (Option.some.inj h)
    obtain rfl : _ = d := congrArg Prod.snd (Option.some.inj h)
    exact ⟨by simp [D.refs], 40, get_ok _ _ _ _ h1⟩
  · cases h
open Go.Proofs
def stands_s (p : Int) (ci : Bool) (items : List Item) (k0 : Bool) (k1 : Bool) (k2 : Bool) (l0 : List Line) (l1 : List Line) (l2 : List Line) (c0 : Int) (c1 : Int) (c2 : Int) : Option (Bool × D RC) := some (decide (items.length ≤ 9223372036854775807 ∧ l0.length ≤ 9223372036854775807 ∧ l1.length ≤ 9223372036854775807 ∧ l2.length ≤ 9223372036854775807), .bool (standsOK ⟨p, items, l0, l1, l2, c0, c1, c2⟩))
def stands_sp : List (D RC) → Option (Bool × D RC)
  | [.acons (.int .i64 p) (.acons (.sl .item ci items) (.acons (.acons (.sl .line k0 l0) (.acons (.sl .line k1 l1) (.acons (.sl .line k2 l2) .anil))) (.acons (.arr .int 3 [c0, c1, c2]) .anil)))] => stands_s p ci items k0 k1 k2 l0 l1 l2 c0 c1 c2
  | _ => none
noncomputable def stands_e (p : Int) (ci : Bool) (items : List Item) (k0 : Bool) (k1 : Bool) (k2 : Bool) (l0 : List Line) (l1 : List Line) (l2 : List Line) (c0 : Int) (c1 : Int) (c2 : Int) := evF s05 ub_3 30 15 [.acons (.int .i64 p) (.acons (.sl (C := RC) .item ci items) (.acons (.acons (.sl (C := RC) .line k0 l0) (.acons (.sl (C := RC) .line k1 l1) (.acons (.sl (C := RC) .line k2 l2) .anil))) (.acons (.arr (C := RC) .int 3 [c0, c1, c2]) .anil)))]
theorem stands_eq (p : Int) (ci : Bool) (items : List Item) (k0 : Bool) (k1 : Bool) (k2 : Bool) (l0 : List Line) (l1 : List Line) (l2 : List Line) (c0 : Int) (c1 : Int) (c2 : Int) : stands_e p ci items k0 k1 k2 l0 l1 l2 c0 c1 c2 = (bif !withinB p (0 : Int) (1048575 : Int) then some (D.bool false) else bif lenOK items.length then bif decide ((↑items.length : Int) = (↑items.length : Int)) && true && decide (List.length items ≤ (9223372036854775807 : Nat)) then bif eachAt (oneIB p) twoIB items (0 : Nat) then bif !withinB c0 (0 : Int) p then some (D.bool false) else bif lenOK l0.length then bif decide ((16 : Int) < (↑l0.length : Int)) then some (D.bool false) else bif lenOK l0.length then bif decide ((0 : Int) < (↑l0.length : Int)) then bif decide ((0 : Int) ≤ (0 : Int) ∧ (0 : Int) < (↑l0.length : Int)) then bif decide (Line.place (List.getD l0 (0 : Nat) (Line.mk (0 : Int) (0 : Int) (0 : Int) (0 : Int) (0 : Int))) ≤ c0) then some (D.bool false) else bif lenOK l0.length then bif decide ((↑l0.length : Int) = (↑l0.length : Int)) && true && decide (List.length l0 ≤ (9223372036854775807 : Nat)) then bif eachAt (oneLB p) twoLB l0 (0 : Nat) then bif !withinB c1 (0 : Int) p then some (D.bool false) else bif lenOK l1.length then bif decide ((16 : Int) < (↑l1.length : Int)) then some (D.bool false) else bif lenOK l1.length then bif decide ((0 : Int) < (↑l1.length : Int)) then bif decide ((0 : Int) ≤ (0 : Int) ∧ (0 : Int) < (↑l1.length : Int)) then bif decide (Line.place (List.getD l1 (0 : Nat) (Line.mk (0 : Int) (0 : Int) (0 : Int) (0 : Int) (0 : Int))) ≤ c1) then some (D.bool false) else bif lenOK l1.length then bif decide ((↑l1.length : Int) = (↑l1.length : Int)) && true && decide (List.length l1 ≤ (9223372036854775807 : Nat)) then bif eachAt (oneLB p) twoLB l1 (0 : Nat) then bif !withinB c2 (0 : Int) p then some (D.bool false) else bif lenOK l2.length then bif decide ((16 : Int) < (↑l2.length : Int)) then some (D.bool false) else bif lenOK l2.length then bif decide ((0 : Int) < (↑l2.length : Int)) then bif decide ((0 : Int) ≤ (0 : Int) ∧ (0 : Int) < (↑l2.length : Int)) then bif decide (Line.place (List.getD l2 (0 : Nat) (Line.mk (0 : Int) (0 : Int) (0 : Int) (0 : Int) (0 : Int))) ≤ c2) then some (D.bool false) else bif lenOK l2.length then bif decide ((↑l2.length : Int) = (↑l2.length : Int)) && true && decide (List.length l2 ≤ (9223372036854775807 : Nat)) then bif eachAt (oneLB p) twoLB l2 (0 : Nat) then some (D.bool true) else some (D.bool false) else none else none else none else bif lenOK l2.length then bif decide ((↑l2.length : Int) = (↑l2.length : Int)) && true && decide (List.length l2 ≤ (9223372036854775807 : Nat)) then bif eachAt (oneLB p) twoLB l2 (0 : Nat) then some (D.bool true) else some (D.bool false) else none else none else none else none else some (D.bool false) else none else none else none else bif lenOK l1.length then bif decide ((↑l1.length : Int) = (↑l1.length : Int)) && true && decide (List.length l1 ≤ (9223372036854775807 : Nat)) then bif eachAt (oneLB p) twoLB l1 (0 : Nat) then bif !withinB c2 (0 : Int) p then some (D.bool false) else bif lenOK l2.length then bif decide ((16 : Int) < (↑l2.length : Int)) then some (D.bool false) else bif lenOK l2.length then bif decide ((0 : Int) < (↑l2.length : Int)) then bif decide ((0 : Int) ≤ (0 : Int) ∧ (0 : Int) < (↑l2.length : Int)) then bif decide (Line.place (List.getD l2 (0 : Nat) (Line.mk (0 : Int) (0 : Int) (0 : Int) (0 : Int) (0 : Int))) ≤ c2) then some (D.bool false) else bif lenOK l2.length then bif decide ((↑l2.length : Int) = (↑l2.length : Int)) && true && decide (List.length l2 ≤ (9223372036854775807 : Nat)) then bif eachAt (oneLB p) twoLB l2 (0 : Nat) then some (D.bool true) else some (D.bool false) else none else none else none else bif lenOK l2.length then bif decide ((↑l2.length : Int) = (↑l2.length : Int)) && true && decide (List.length l2 ≤ (9223372036854775807 : Nat)) then bif eachAt (oneLB p) twoLB l2 (0 : Nat) then some (D.bool true) else some (D.bool false) else none else none else none else none else some (D.bool false) else none else none else none else none else some (D.bool false) else none else none else none else bif lenOK l0.length then bif decide ((↑l0.length : Int) = (↑l0.length : Int)) && true && decide (List.length l0 ≤ (9223372036854775807 : Nat)) then bif eachAt (oneLB p) twoLB l0 (0 : Nat) then bif !withinB c1 (0 : Int) p then some (D.bool false) else bif lenOK l1.length then bif decide ((16 : Int) < (↑l1.length : Int)) then some (D.bool false) else bif lenOK l1.length then bif decide ((0 : Int) < (↑l1.length : Int)) then bif decide ((0 : Int) ≤ (0 : Int) ∧ (0 : Int) < (↑l1.length : Int)) then bif decide (Line.place (List.getD l1 (0 : Nat) (Line.mk (0 : Int) (0 : Int) (0 : Int) (0 : Int) (0 : Int))) ≤ c1) then some (D.bool false) else bif lenOK l1.length then bif decide ((↑l1.length : Int) = (↑l1.length : Int)) && true && decide (List.length l1 ≤ (9223372036854775807 : Nat)) then bif eachAt (oneLB p) twoLB l1 (0 : Nat) then bif !withinB c2 (0 : Int) p then some (D.bool false) else bif lenOK l2.length then bif decide ((16 : Int) < (↑l2.length : Int)) then some (D.bool false) else bif lenOK l2.length then bif decide ((0 : Int) < (↑l2.length : Int)) then bif decide ((0 : Int) ≤ (0 : Int) ∧ (0 : Int) < (↑l2.length : Int)) then bif decide (Line.place (List.getD l2 (0 : Nat) (Line.mk (0 : Int) (0 : Int) (0 : Int) (0 : Int) (0 : Int))) ≤ c2) then some (D.bool false) else bif lenOK l2.length then bif decide ((↑l2.length : Int) = (↑l2.length : Int)) && true && decide (List.length l2 ≤ (9223372036854775807 : Nat)) then bif eachAt (oneLB p) twoLB l2 (0 : Nat) then some (D.bool true) else some (D.bool false) else none else none else none else bif lenOK l2.length then bif decide ((↑l2.length : Int) = (↑l2.length : Int)) && true && decide (List.length l2 ≤ (9223372036854775807 : Nat)) then bif eachAt (oneLB p) twoLB l2 (0 : Nat) then some (D.bool true) else some (D.bool false) else none else none else none else none else some (D.bool false) else none else none else none else bif lenOK l1.length then bif decide ((↑l1.length : Int) = (↑l1.length : Int)) && true && decide (List.length l1 ≤ (9223372036854775807 : Nat)) then bif eachAt (oneLB p) twoLB l1 (0 : Nat) then bif !withinB c2 (0 : Int) p then some (D.bool false) else bif lenOK l2.length then bif decide ((16 : Int) < (↑l2.length : Int)) then some (D.bool false) else bif lenOK l2.length then bif decide ((0 : Int) < (↑l2.length : Int)) then bif decide ((0 : Int) ≤ (0 : Int) ∧ (0 : Int) < (↑l2.length : Int)) then bif decide (Line.place (List.getD l2 (0 : Nat) (Line.mk (0 : Int) (0 : Int) (0 : Int) (0 : Int) (0 : Int))) ≤ c2) then some (D.bool false) else bif lenOK l2.length then bif decide ((↑l2.length : Int) = (↑l2.length : Int)) && true && decide (List.length l2 ≤ (9223372036854775807 : Nat)) then bif eachAt (oneLB p) twoLB l2 (0 : Nat) then some (D.bool true) else some (D.bool false) else none else none else none else bif lenOK l2.length then bif decide ((↑l2.length : Int) = (↑l2.length : Int)) && true && decide (List.length l2 ≤ (9223372036854775807 : Nat)) then bif eachAt (oneLB p) twoLB l2 (0 : Nat) then some (D.bool true) else some (D.bool false) else none else none else none else none else some (D.bool false) else none else none else none else none else some (D.bool false) else none else none else none else none else some (D.bool false) else none else none) := by kernel_rfl
theorem stands_ok (p : Int) (ci : Bool) (items : List Item) (k0 : Bool) (k1 : Bool) (k2 : Bool) (l0 : List Line) (l1 : List Line) (l2 : List Line) (c0 : Int) (c1 : Int) (c2 : Int) (h : (decide (items.length ≤ 9223372036854775807 ∧ l0.length ≤ 9223372036854775807 ∧ l1.length ≤ 9223372036854775807 ∧ l2.length ≤ 9223372036854775807)) = true) : stands_e p ci items k0 k1 k2 l0 l1 l2 c0 c1 c2 = some (.bool (standsOK ⟨p, items, l0, l1, l2, c0, c1, c2⟩)) := by
  rw [stands_eq]
  obtain ⟨h, h0, h1, h2⟩ := of_decide_eq_true h
  have b := lenOK_of h
  have b0 := lenOK_of h0
  have b1 := lenOK_of h1
  have b2 := lenOK_of h2
  have i0 : ∀ l : List Line, decide (0 ≤ (0 : Int) ∧ (0 : Int) < l.length) = !l.isEmpty := fun l => by cases l <;> simp
  have n0 : ∀ l : List Line, decide (0 < (l.length : Int)) = !l.isEmpty := fun l => by cases l <;> simp
  have n16 : ∀ l : List Line, decide (16 < (l.length : Int)) = !decide (l.length ≤ 16) := fun l => by
    by_cases h : l.length ≤ 16 <;> simp [h]
    · omega
    · omega
  have nle : ∀ a b : Int, decide (a ≤ b) = !decide (b < a) := fun a b => by
    by_cases h : b < a <;> simp [h] <;> omega
  simp only [standsOK, partOK, b, b0, b1, b2, h, h0, h1, h2, decide_true, cond_true, i0, n0, n16, nle (Line.place _)]
  generalize withinB p 0 1048575 = x1
  generalize eachAt (oneIB p) twoIB items 0 = x2
  generalize withinB c0 0 p = x3
  generalize withinB c1 0 p = x4
  generalize withinB c2 0 p = x5
  generalize eachAt (oneLB p) twoLB l0 0 = x6
  generalize eachAt (oneLB p) twoLB l1 0 = x7
  generalize eachAt (oneLB p) twoLB l2 0 = x8
  generalize decide (l0.length ≤ 16) = x9
  generalize decide (l1.length ≤ 16) = x10
  generalize decide (l2.length ≤ 16) = x11
  generalize decide (c0 < (l0.getD 0 ⟨0, 0, 0, 0, 0⟩).place) = x12
  generalize decide (c1 < (l1.getD 0 ⟨0, 0, 0, 0, 0⟩).place) = x13
  generalize decide (c2 < (l2.getD 0 ⟨0, 0, 0, 0, 0⟩).place) = x14
  generalize l0.isEmpty = x15
  generalize l1.isEmpty = x16
  generalize l2.isEmpty = x17
  cases x1; · rfl
  cases x2; · rfl
  cases x3; · rfl
  cases x9; · rfl
  cases x6
  · cases x15 <;> cases x12 <;> rfl
  cases x4; · cases x15 <;> cases x12 <;> rfl
  cases x10; · cases x15 <;> cases x12 <;> rfl
  cases x7; · cases x15 <;> cases x12 <;> cases x16 <;> cases x13 <;> rfl
  cases x5; · cases x15 <;> cases x12 <;> cases x16 <;> cases x13 <;> rfl
  cases x11; · cases x15 <;> cases x12 <;> cases x16 <;> cases x13 <;> rfl
  cases x15 <;> cases x12 <;> cases x16 <;> cases x13 <;> cases x17 <;> cases x14 <;> cases x8 <;> rfl
noncomputable def uc_1 := ub_3.addSpec 15 stands_sp
theorem uc_1_laws : FLaws Try.prog s05 uc_1 := ub_3_laws.addEv s05_laws fun args d h => by
  unfold stands_sp at h
  split at h
  · unfold stands_s at h
    have h1 := congrArg Prod.fst (Option.some.inj h)
    obtain rfl : _ = d := congrArg Prod.snd (Option.some.inj h)
    exact ⟨by simp [D.refs], 30, stands_ok _ _ _ _ _ _ _ _ _ _ _ _ h1⟩
  · cases h
structure bytesLoop_St where
  cp : Bool
  bs : List UInt8
  c : Bool
  l : List Write
  i : Nat
def bytesLoop_c (cp : Bool) (bs : List UInt8) (c : Bool) (l : List Write) (i : Nat) : Env RC := [(4, .ptr 0 []), (28, .sl (C := RC) .write c l), (29, .int .i64 (l.length)), (30, .int .i64 (i : Int))]
def bytesLoop_o (cp : Bool) (bs : List UInt8) (c : Bool) (l : List Write) (i : Nat) : List (Obj RC) := [.var 70 (.acons (.sl (C := RC) .u8 cp bs) .anil)]
noncomputable def bytesLoop_r (cp : Bool) (bs : List UInt8) (c : Bool) (l : List Write) (i : Nat) := rndO s05 uc_1 16 11 40 1 [4, 28, 29, 30] [] [.slot 4 0] (bytesLoop_c cp bs c l i) (bytesLoop_o cp bs c l i)
theorem bytesLoop_eq (cp : Bool) (bs : List UInt8) (c : Bool) (l : List Write) (i : Nat) : bytesLoop_r cp bs c l i = (bif decide ((↑i : Int) < (↑l.length : Int)) then bif decide ((0 : Int) ≤ (↑i : Int) ∧ (↑i : Int) < (↑l.length : Int)) then bif decide (List.length bs ≤ (1000000000 : Nat)) then bif decide (List.length (putL bs (Write.key (List.getD l (↑i : Int).toNat (Write.mk (0 : Int) (0 : Int)))) (1 : Nat)) ≤ (1000000000 : Nat)) then some ((X.normal, [((4 : Nat), D.ptr (0 : Nat) []), ((28 : Nat), D.sl RTy.write c l), ((29 : Nat), D.int .i64 (↑l.length : Int)), ((30 : Nat), D.int .i64 (IntKind.wrap .i64 ((↑i : Int) + (1 : Int))))]), [some (Obj.var (70 : Nat) (.acons (D.sl RTy.u8 (!fitsB (Write.value (List.getD l (↑i : Int).toNat (Write.mk (0 : Int) (0 : Int)))) (1 : Nat)) (putL (putL bs (Write.key (List.getD l (↑i : Int).toNat (Write.mk (0 : Int) (0 : Int)))) (1 : Nat)) (Write.value (List.getD l (↑i : Int).toNat (Write.mk (0 : Int) (0 : Int)))) (1 : Nat))) .anil))]) else none else none else none else some ((X.exit (0 : Nat), []), [some (Obj.var (70 : Nat) (.acons (D.sl RTy.u8 cp bs) .anil))])) := by kernel_rfl
def bytesLoop_fin (cp : Bool) (bs : List UInt8) (c : Bool) (l : List Write) (i : Nat) : RT RC := .leaf (.exit 0) [] [.var 70 (.acons (.sl (C := RC) .u8 (cp && (l.drop i).isEmpty) (bs ++ (l.drop i).flatMap wBytes)) .anil)]
def bytesLoop_Inv (cp : Bool) (bs : List UInt8) (c : Bool) (l : List Write) (i : Nat) : Prop := i ≤ l.length ∧ l.length ≤ 1000000 ∧ bs.length ≤ 1000000 + 2 * i ∧ l.all fitW = true
def bytesLoop_S : LoopR RC bytesLoop_St where
  k := 1
  canon q := bytesLoop_c q.cp q.bs q.c q.l q.i
  objs q := bytesLoop_o q.cp q.bs q.c q.l q.i
  fin q := bytesLoop_fin q.cp q.bs q.c q.l q.i
  Inv q := bytesLoop_Inv q.cp q.bs q.c q.l q.i
  μ q := q.l.length - q.i
theorem bytesLoop_round (cp : Bool) (bs : List UInt8) (c : Bool) (l : List Write) (i : Nat) (hI : bytesLoop_Inv cp bs c l i) : Leaf (bytesLoop_r cp bs c l i) (LedR bytesLoop_S ⟨cp, bs, c, l, i⟩) := by
  rw [bytesLoop_eq]
  unfold bytesLoop_Inv at hI
  obtain ⟨h1, h2, h3, h4⟩ := hI
  by_cases hlt : i < l.length
  · have w_succ : IntKind.i64.wrap ((i : Int) + 1) = ((i + 1 : Nat) : Int) := by rw [wrap_id (by omega) (by omega)]; simp
    have d_lt : decide ((i : Int) < l.length) = true := by simp; omega
    have d_in : decide (0 ≤ (i : Int) ∧ (i : Int) < l.length) = true := by simp; omega
    have t_nat : ((i : Int)).toNat = i := by simp
    simp only [w_succ, d_lt, d_in, t_nat, cond_true]
    have hf := all_getD h4 hlt (⟨0, 0⟩ : Write)
    have hd : (l.drop i).flatMap wBytes = _ := flatMap_drop_succ l i wBytes hlt (⟨0, 0⟩ : Write)
    have he : (l.drop i).isEmpty = false := by simp; omega
    generalize l.getD i (⟨0, 0⟩ : Write) = x at hf hd ⊢
    simp only [fitW, Bool.and_eq_true] at hf
    simp only [putL_fits (fits1 hf.1), putL_fits (fits1 hf.2), fits1 hf.1, fits1 hf.2]
    have n1 : decide (bs.length ≤ 1000000000) = true := decide_eq_true (by omega)
    have n2 : decide ((bs ++ leB x.key 1).length ≤ 1000000000) = true := decide_eq_true (by simp [leB_length]; omega)
    simp only [Int.toNat_one, putL_fits (fits1 hf.1), putL_fits (fits1 hf.2), fits1 hf.1, fits1 hf.2, n1, n2, cond_true, Bool.not_true]
    refine leafR_go ⟨false, bs ++ leB x.key 1 ++ leB x.value 1, c, l, i + 1⟩ ⟨hlt, h2, by simp [leB_length]; omega, h4⟩ (by simp only [bytesLoop_S]; omega) ?_ rfl rfl
    simp only [bytesLoop_S, bytesLoop_fin, hd, he, wBytes, leB, RT.val]
    simp
  · have hi : i = l.length := by omega
    have c1 : decide ((i : Int) < l.length) = false := by simp; omega
    rw [c1]
    exact leafR_exit (bytesLoop_o cp bs c l i) (by simp [bytesLoop_S, bytesLoop_fin, bytesLoop_o, hi, RT.val]) rfl
def bytesLoop_d (env : Env RC) (os : List (Obj RC)) : Option (Bool × bytesLoop_St) := match env, os with
  | [(4, .ptr 0 []), (28, .sl .write c l), (29, .int .i64 x0), (30, .int .i64 x1)], [.var 70 (.acons (.sl .u8 cp bs) .anil)] => staticD (true) (decide (x0 = l.length) && decide (x1 = 0) && decide (l.length ≤ 1000000 ∧ bs.length ≤ 1000000) && l.all fitW, ⟨cp, bs, c, l, 0⟩)
  | _, _ => none
noncomputable def uc_2 := uc_1.addLoop 16 11 (sumR s05 [.slot 4 0] [4, 28, 29, 30] bytesLoop_S bytesLoop_d)
theorem uc_2_laws : FLaws Try.prog s05 uc_2 := by
  refine uc_1_laws.addRoundsR s05_laws (by kernel_rfl) bytesLoop_S 40 [4, 28, 29, 30] [] [.slot 4 0] [4, 28, 29, 30] bytesLoop_d (fun q hI => ?_) ?_
  · obtain ⟨cp, bs, c, l, i⟩ := q
    refine ⟨?_, ?_, bytesLoop_round cp bs c l i hI⟩
    · simp_all [RefsOK, bytesLoop_S, bytesLoop_c, bytesLoop_o, bytesLoop_Inv, D.refs, Obj.refs, rEnc]
    · simp_all [bytesLoop_S, bytesLoop_fin, bytesLoop_o, bytesLoop_Inv, RT.refsOK, RefsOK, D.refs, Obj.refs, rEnc]
  · intro env os b q hd_ hb
    unfold bytesLoop_d at hd_
    split at hd_
    · obtain ⟨hs, hd_⟩ := staticD_some hd_
      cases hd_
      simp only [Bool.and_eq_true, decide_eq_true_eq] at hb
      obtain ⟨⟨⟨rfl, rfl⟩, hl⟩, ha⟩ := hb
      exact ⟨⟨Nat.zero_le _, hl.1, Nat.le_trans hl.2 (Nat.le_add_right _ _), ha⟩, rfl, rfl⟩
    · cases hd_
def bytes_s (p : Int) (y : Bool) (c : Bool) (l : List Write) : Option (Bool × D RC) := some (lenOK l.length, .tup (.acons (.sl (C := RC) .u8 (!mayB ⟨p, y, l⟩) (bif mayB ⟨p, y, l⟩ then bytesR ⟨p, y, l⟩ else [])) (.acons (.int .i64 (bif mayB ⟨p, y, l⟩ then 0 else 2)) .anil)))
def bytes_sp : List (D RC) → Option (Bool × D RC)
  | [.acons (.int .i64 p) (.acons (.bool y) (.acons (.sl .write c l) .anil))] => bytes_s p y c l
  | _ => none
noncomputable def bytes_e (p : Int) (y : Bool) (c : Bool) (l : List Write) := evF s05 uc_2 40 16 [.acons (.int .i64 p) (.acons (.bool y) (.acons (.sl (C := RC) .write c l) .anil))]
theorem bytes_eq (p : Int) (y : Bool) (c : Bool) (l : List Write) : bytes_e p y c l = (bif lenOK l.length then bif !mayB (Rec.mk p y l) then some (D.tup (D.acons (D.sl RTy.u8 true []) (.acons (D.int .i64 (2 : Int)) .anil))) else bif decide (List.length (putL [] p (3 : Nat)) ≤ (1000000000 : Nat)) then bif lenOK l.length then bif decide (List.length (putL (putL [] p (3 : Nat)) (bif y then (1 : Int) else (0 : Int)) (1 : Nat)) ≤ (1000000000 : Nat)) then bif lenOK l.length then bif decide ((↑l.length : Int) = (↑l.length : Int)) && true && decide (List.length l ≤ (1000000 : Nat) ∧ List.length (putL (putL (putL [] p (3 : Nat)) (bif y then (1 : Int) else (0 : Int)) (1 : Nat)) (↑l.length : Int) (1 : Nat)) ≤ (1000000 : Nat)) && List.all l fitW then some (D.tup (D.acons (D.sl RTy.u8 (!fitsB (↑l.length : Int) (1 : Nat) && List.isEmpty (List.drop (0 : Nat) l)) (putL (putL (putL [] p (3 : Nat)) (bif y then (1 : Int) else (0 : Int)) (1 : Nat)) (↑l.length : Int) (1 : Nat) ++ List.flatMap wBytes (List.drop (0 : Nat) l))) (.acons (D.int .i64 (0 : Int)) .anil))) else none else none else none else none else none else none) := by kernel_rfl
theorem bytes_ok (p : Int) (y : Bool) (c : Bool) (l : List Write) (h : (lenOK l.length) = true) : bytes_e p y c l = some (.tup (.acons (.sl (C := RC) .u8 (!mayB ⟨p, y, l⟩) (bif mayB ⟨p, y, l⟩ then bytesR ⟨p, y, l⟩ else [])) (.acons (.int .i64 (bif mayB ⟨p, y, l⟩ then 0 else 2)) .anil))) := by
  rw [bytes_eq]
  rw [h]
  cases hm : mayB ⟨p, y, l⟩
  · rfl
  · obtain ⟨hp, hl, hw⟩ := may_facts hm
    have f3 := fits3 (n := p) (by rw [withinB_iff]; omega)
    have f1 : fitsB (l.length : Int) 1 = true := fits1 (by rw [withinB_iff]; omega)
    have fy1 : fitsB 1 1 = true := rfl
    have fy0 : fitsB 0 1 = true := rfl
    have g1 : decide (([] : List UInt8).length ≤ 1000000000) = true := rfl
    have g2 : ∀ b : List UInt8, b.length ≤ 1000 → decide (b.length ≤ 1000000000) = true := fun b hb => decide_eq_true (by omega)
    have g3 : ∀ b : List UInt8, b.length ≤ 1000 → (decide (l.length ≤ 1000000 ∧ b.length ≤ 1000000)) = true := fun b hb => by simp; omega
    cases y <;> simp only [Int.toNat_one, show Int.toNat 3 = 3 from rfl, putL_fits f3, putL_fits f1, putL_fits fy1, putL_fits fy0, f3, f1, fy1, fy0, g1, cond_true, cond_false, Bool.not_true, Bool.not_false]
    · rw [g2 _ (by simp [leB_length]), g2 _ (by simp [leB_length]), g3 _ (by simp [leB_length]), hw]
      simp [bytesR]
    · rw [g2 _ (by simp [leB_length]), g2 _ (by simp [leB_length]), g3 _ (by simp [leB_length]), hw]
      simp [bytesR]
noncomputable def uc_3 := uc_2.addSpec 16 bytes_sp
theorem uc_3_laws : FLaws Try.prog s05 uc_3 := uc_2_laws.addEv s05_laws fun args d h => by
  unfold bytes_sp at h
  split at h
  · unfold bytes_s at h
    have h1 := congrArg Prod.fst (Option.some.inj h)
    obtain rfl : _ = d := congrArg Prod.snd (Option.some.inj h)
    exact ⟨by simp [D.refs], 40, bytes_ok _ _ _ _ h1⟩
  · cases h
open Go.Proofs
def wakes_s  : Option (Bool × D RC) := some (true, .bool true)
def wakes_sp : List (D RC) → Option (Bool × D RC)
  | [] => wakes_s 
  | _ => none
noncomputable def wakes_e  := evF s05 uc_3 1000 11 []
theorem wakes_ok  (h : (true) = true) : wakes_e  = some (.bool true) := by
  kernel_rfl
noncomputable def ue_1 := uc_3.addSpec 11 wakes_sp
theorem ue_1_laws : FLaws Try.prog s05 ue_1 := uc_3_laws.addEv s05_laws fun args d h => by
  unfold wakes_sp at h
  split at h
  · unfold wakes_s at h
    have h1 := congrArg Prod.fst (Option.some.inj h)
    obtain rfl : _ = d := congrArg Prod.snd (Option.some.inj h)
    exact ⟨by simp [D.refs], 1000, wakes_ok  h1⟩
  · cases h
theorem drops_step {α : Type} [DecidableEq α] (l m : List α) (i : Nat) (d : α) (hlt : i < l.length) (hlen : l.length = m.length) :
    decide (l.drop i = m.drop i) = (decide (l.getD i d = m.getD i d) && decide (l.drop (i + 1) = m.drop (i + 1))) := by
  have e1 := List.drop_eq_getElem_cons hlt
  have e2 := List.drop_eq_getElem_cons (show i < m.length by omega)
  have h1 : l.getD i d = l[i] := by simp [hlt]
  have h2 : m.getD i d = m[i]'(by omega) := by simp [show i < m.length by omega]
  rw [h1, h2, e1, e2, Bool.eq_iff_iff]
  simp only [List.cons.injEq, decide_eq_true_eq, Bool.and_eq_true]
theorem drops_end {α : Type} [DecidableEq α] (l m : List α) (i : Nat) (h1 : l.length ≤ i) (h2 : m.length ≤ i) : decide (l.drop i = m.drop i) = true := by
  simp [List.drop_eq_nil_of_le h1, List.drop_eq_nil_of_le h2]
theorem beqD {α : Type} [DecidableEq α] [BEq α] [LawfulBEq α] (a b : α) : (a == b) = decide (a = b) := by rw [Bool.eq_iff_iff]; simp
theorem eqWrite (x y : Write) : (x.key == y.key && (x.value == y.value && true)) = decide (x = y) := by
  rw [Bool.eq_iff_iff]; cases x; cases y; simp
theorem eqItem (x y : Item) : (x.key == y.key && (x.place == y.place && (x.value == y.value && true))) = decide (x = y) := by
  rw [Bool.eq_iff_iff]; cases x; cases y; simp
theorem eqLine (x y : Line) : (x.offset == y.offset && (x.place == y.place && (x.j == y.j && (x.key == y.key && (x.value == y.value && true))))) = decide (x = y) := by
  rw [Bool.eq_iff_iff]; cases x; cases y; simp
def linesAt (p c : Int) (l : List Line) (i : Nat) : Bool := (decide (i ≠ 0) || l.isEmpty || decide (c < (l.getD 0 ⟨0, 0, 0, 0, 0⟩).place)) && eachAt (oneLB p) twoLB l i
theorem partOK_eq (p c : Int) (l : List Line) : partOK p c l = (decide (l.length ≤ 16) && decide (0 ≤ c) && decide (c ≤ p) && linesAt p c l 0) := by
  unfold partOK linesAt withinB
  cases decide (l.length ≤ 16) <;> cases decide (0 ≤ c) <;> cases decide (c ≤ p) <;> simp
open Go.Proofs
structure fits01_St where
  n : Int
  w : Int
  i : Nat
def fits01_c (n : Int) (w : Int) (i : Nat) : Env RC := [(0, .int .i64 n), (1, .int .i64 w), (5, .int .i64 (i : Int))]
def fits01_o (n : Int) (w : Int) (i : Nat) : List (Obj RC) := []
noncomputable def fits01_r (n : Int) (w : Int) (i : Nat) := rndO s05 ue_1 55 4 40 0 [0, 1, 5] [0] [] (fits01_c n w i) (fits01_o n w i)
theorem fits01_eq (n : Int) (w : Int) (i : Nat) : fits01_r n w i = (bif decide ((↑i : Int) < w) then some ((X.normal, [((0 : Nat), D.int .i64 (IntKind.wrap .i64 (Int.tdiv n (256 : Int)))), ((1 : Nat), D.int .i64 w), ((5 : Nat), D.int .i64 (IntKind.wrap .i64 ((↑i : Int) + (1 : Int))))]), []) else some ((X.exit (0 : Nat), [((0 : Nat), D.int .i64 n)]), [])) := by kernel_rfl
def fits01_fin (n : Int) (w : Int) (i : Nat) : RT RC := .leaf (.exit 0) [(0, .int .i64 (n / 256 ^ (w.toNat - i)))] []
def fits01_Inv (n : Int) (w : Int) (i : Nat) : Prop := 0 ≤ n ∧ n ≤ 9223372036854775807 ∧ (i : Int) ≤ w ∧ w ≤ 6
def fits01_S : LoopR RC fits01_St where
  k := 0
  canon q := fits01_c q.n q.w q.i
  objs q := fits01_o q.n q.w q.i
  fin q := fits01_fin q.n q.w q.i
  Inv q := fits01_Inv q.n q.w q.i
  μ q := q.w.toNat - q.i
theorem fits01_round (n : Int) (w : Int) (i : Nat) (hI : fits01_Inv n w i) : Leaf (fits01_r n w i) (LedR fits01_S ⟨n, w, i⟩) := by
  rw [fits01_eq]
  unfold fits01_Inv at hI
  obtain ⟨h1, h2, h3, h4⟩ := hI
  by_cases hlt : (i : Int) < w
  · have w_succ : IntKind.i64.wrap ((i : Int) + 1) = ((i + 1 : Nat) : Int) := by rw [wrap_id (by omega) (by omega)]; simp
    have hd : IntKind.i64.wrap (n.tdiv 256) = n / 256 := by rw [Int.tdiv_eq_ediv_of_nonneg h1]; exact wrap_id (by omega) (by omega)
    simp only [hlt, decide_true, cond_true, w_succ, hd]
    refine leafR_go ⟨n / 256, w, i + 1⟩ (by simp only [fits01_S, fits01_Inv]; omega) (by simp only [fits01_S]; omega) ?_ rfl rfl
    simp only [fits01_S, fits01_fin]
    have : w.toNat - i = (w.toNat - (i + 1)) + 1 := by omega
    rw [this, Int.pow_succ', Int.ediv_ediv_of_nonneg (by omega)]
  · have hi : w.toNat - i = 0 := by omega
    simp only [hlt, decide_false, cond_false]
    exact leafR_exit [] (by simp [fits01_S, fits01_fin, hi, RT.val]) rfl
def fits01_d (env : Env RC) (os : List (Obj RC)) : Option (Bool × fits01_St) := match env, os with
  | [(0, .int .i64 n), (1, .int .i64 w), (5, .int .i64 x0)], [] => staticD (true) (decide (x0 = 0) && decide (0 ≤ n ∧ n ≤ 9223372036854775807 ∧ 0 ≤ w ∧ w ≤ 6), ⟨n, w, 0⟩)
  | _, _ => none
noncomputable def uf_1 := ue_1.addLoop 55 4 (sumR s05 [] [0, 1, 5] fits01_S fits01_d)
theorem uf_1_laws : FLaws Try.prog s05 uf_1 := by
  refine ue_1_laws.addRoundsR s05_laws (by kernel_rfl) fits01_S 40 [0, 1, 5] [0] [] [0, 1, 5] fits01_d (fun q hI => ?_) ?_
  · obtain ⟨n, w, i⟩ := q
    refine ⟨?_, ?_, fits01_round n w i hI⟩
    · simp_all [RefsOK, fits01_S, fits01_c, fits01_o, fits01_Inv, D.refs, Obj.refs, rEnc]
    · simp_all [fits01_S, fits01_fin, fits01_o, fits01_Inv, RT.refsOK, RefsOK, D.refs, Obj.refs, rEnc]
  · intro env os b q hd_ hb
    unfold fits01_d at hd_
    split at hd_
    · obtain ⟨hs, hd_⟩ := staticD_some hd_
      cases hd_
      simp only [Bool.and_eq_true, decide_eq_true_eq] at hb
      obtain ⟨rfl, hq⟩ := hb
      exact ⟨by simp only [fits01_S, fits01_Inv]; omega, rfl, rfl⟩
    · cases hd_
def fits1f_s (n : Int) (w : Int) : Option (Bool × D RC) := some (decide (n ≤ 9223372036854775807 ∧ 1 ≤ w ∧ w ≤ 6) && fitsB n w.toNat, .bool true)
def fits1f_sp : List (D RC) → Option (Bool × D RC)
  | [.int .i64 n, .int .i64 w] => fits1f_s n w
  | _ => none
noncomputable def fits1f_e (n : Int) (w : Int) := evF s05 uf_1 40 55 [.int .i64 n, .int .i64 w]
theorem fits1f_eq (n : Int) (w : Int) : fits1f_e n w = (bif decide (w < (1 : Int)) then some (D.bool false) else bif decide ((6 : Int) < w) then some (D.bool false) else bif decide (n < (0 : Int)) then some (D.bool false) else bif decide ((0 : Int) ≤ n ∧ n ≤ (9223372036854775807 : Int) ∧ (0 : Int) ≤ w ∧ w ≤ (6 : Int)) then some (D.bool (n / (256 : Int) ^ (Int.toNat w - (0 : Nat)) == (0 : Int))) else none) := by kernel_rfl
theorem fits1f_ok (n : Int) (w : Int) (h : (decide (n ≤ 9223372036854775807 ∧ 1 ≤ w ∧ w ≤ 6) && fitsB n w.toNat) = true) : fits1f_e n w = some (.bool true) := by
  rw [fits1f_eq]
  simp only [Bool.and_eq_true, decide_eq_true_eq] at h
  obtain ⟨⟨hn, hw1, hw6⟩, hf⟩ := h
  have h0 : 0 ≤ n := (fitsB_iff.1 hf).1
  have w1 : ¬ w < 1 := by omega
  have w6 : ¬ 6 < w := by omega
  have n0 : ¬ n < 0 := by omega
  have hc : (0 ≤ n ∧ n ≤ 9223372036854775807 ∧ 0 ≤ w ∧ w ≤ 6) := by omega
  have hp : (0 : Int) < 256 ^ w.toNat := Int.pow_pos (by decide)
  have hz : n / 256 ^ w.toNat = 0 := (Int.ediv_eq_zero_iff_of_pos' h0 hp).2 (fitsB_iff.1 hf).2
  rw [decide_eq_false w1, decide_eq_false w6, decide_eq_false n0, decide_eq_true hc]
  simp only [cond_false, cond_true, Nat.sub_zero, hz]
  rfl
noncomputable def uf_2 := uf_1.addSpec 55 fits1f_sp
theorem uf_2_laws : FLaws Try.prog s05 uf_2 := uf_1_laws.addEv s05_laws fun args d h => by
  unfold fits1f_sp at h
  split at h
  · unfold fits1f_s at h
    have h1 := congrArg Prod.fst (Option.some.inj h)
    obtain rfl : _ = d := congrArg Prod.snd (Option.some.inj h)
    exact ⟨by simp [D.refs], 40, fits1f_ok _ _ h1⟩
  · cases h
structure get01_St where
  c : Bool
  b : List UInt8
  a : Int
  i : Int
  m : Nat
def get01_c (c : Bool) (b : List UInt8) (a : Int) (i : Int) (m : Nat) : Env RC := [(0, .sl (C := RC) .u8 c b), (1, .int .i64 a), (9, .int .i64 i), (8, .int .i64 (m : Int))]
def get01_o (c : Bool) (b : List UInt8) (a : Int) (i : Int) (m : Nat) : List (Obj RC) := []
noncomputable def get01_r (c : Bool) (b : List UInt8) (a : Int) (i : Int) (m : Nat) := rndO s05 uf_2 44 7 40 0 [0, 1, 9, 8] [8] [] (get01_c c b a i m) (get01_o c b a i m)
theorem get01_eq (c : Bool) (b : List UInt8) (a : Int) (i : Int) (m : Nat) : get01_r c b a i m = (bif decide ((0 : Int) ≤ i) then bif decide ((0 : Int) ≤ IntKind.wrap .i64 (a + i) ∧ IntKind.wrap .i64 (a + i) < (↑b.length : Int)) then some ((X.normal, [((0 : Nat), D.sl RTy.u8 c b), ((1 : Nat), D.int .i64 a), ((9 : Nat), D.int .i64 (IntKind.wrap .i64 (i - (1 : Int)))), ((8 : Nat), D.int .i64 (IntKind.wrap .i64 (IntKind.wrap .i64 ((256 : Int) * (↑m : Int)) + IntKind.wrap .i64 (↑(UInt8.toNat (List.getD b (IntKind.wrap .i64 (a + i)).toNat (UInt8.ofBitVec (BitVec.ofNat (8 : Nat) (nat_lit 0))))) : Int))))]), []) else none else some ((X.exit (0 : Nat), [((8 : Nat), D.int .i64 (↑m : Int))]), [])) := by kernel_rfl
def get01_fin (c : Bool) (b : List UInt8) (a : Int) (i : Int) (m : Nat) : RT RC := .leaf (.exit 0) [(8, .int .i64 ((m * 256 ^ (i + 1).toNat + leVal ((b.drop a.toNat).take (i + 1).toNat) : Nat) : Int))] []
def get01_Inv (c : Bool) (b : List UInt8) (a : Int) (i : Int) (m : Nat) : Prop := -1 ≤ i ∧ i ≤ 5 ∧ 0 ≤ a ∧ a + i + 1 ≤ b.length ∧ b.length ≤ 1000000000000 ∧ m < 256 ^ (5 - i).toNat
def get01_S : LoopR RC get01_St where
  k := 0
  canon q := get01_c q.c q.b q.a q.i q.m
  objs q := get01_o q.c q.b q.a q.i q.m
  fin q := get01_fin q.c q.b q.a q.i q.m
  Inv q := get01_Inv q.c q.b q.a q.i q.m
  μ q := (q.i + 1).toNat
theorem get01_round (c : Bool) (b : List UInt8) (a : Int) (i : Int) (m : Nat) (hI : get01_Inv c b a i m) : Leaf (get01_r c b a i m) (LedR get01_S ⟨c, b, a, i, m⟩) := by
  rw [get01_eq]
  unfold get01_Inv at hI
  obtain ⟨h1, h2, h3, h4, h5, h6⟩ := hI
  by_cases hlt : 0 ≤ i
  · have w1 : IntKind.i64.wrap (a + i) = a + i := wrap_id (by omega) (by omega)
    have w2 : IntKind.i64.wrap (i - 1) = i - 1 := wrap_id (by omega) (by omega)
    have d1 : decide (0 ≤ a + i ∧ a + i < b.length) = true := by simp; omega
    have hm : m < 256 ^ 5 := Nat.lt_of_lt_of_le h6 (Nat.pow_le_pow_right (by omega) (by omega))
    have hx := (b.getD (a + i).toNat ⟨0#8⟩).toNat_lt
    have w3 : IntKind.i64.wrap (256 * (m : Int)) = ((256 * m : Nat) : Int) := by rw [wrap_id (by omega) (by omega)]; simp
    have w4 : IntKind.i64.wrap (((256 * m : Nat) : Int) + ((b.getD (a + i).toNat ⟨0#8⟩).toNat : Int)) = ((256 * m + (b.getD (a + i).toNat ⟨0#8⟩).toNat : Nat) : Int) := by
      rw [wrap_id (by omega) (by omega)]; simp
    simp only [hlt, decide_true, cond_true, w1, w2, d1, w3, u8_i64, w4]
    have hk : (5 - (i - 1)).toNat = (5 - i).toNat + 1 := by omega
    have hI' : get01_Inv c b a (i - 1) (256 * m + (b.getD (a + i).toNat ⟨0#8⟩).toNat) := ⟨by omega, by omega, h3, by omega, h5, by rw [hk, Nat.pow_succ]; omega⟩
    refine leafR_go ⟨c, b, a, i - 1, 256 * m + (b.getD (a + i).toNat ⟨0#8⟩).toNat⟩ hI' (by simp only [get01_S]; omega) ?_ rfl rfl
    · simp only [get01_S, get01_fin]
      obtain ⟨k, rfl⟩ : ∃ k : Nat, i = k := ⟨i.toNat, by omega⟩
      obtain ⟨p, rfl⟩ : ∃ p : Nat, a = p := ⟨a.toNat, by omega⟩
      have e1 : ((k : Int) - 1 + 1).toNat = k := by omega
      have e2 : ((k : Int) + 1).toNat = k + 1 := by omega
      have e3 : ((p : Int) + (k : Int)).toNat = p + k := by omega
      have e4 : ((p : Int)).toNat = p := by omega
      rw [e1, e2, e3, e4]
      have hl : ((b.drop p).take k).length = k := by simp; omega
      have hg : (b.drop p)[k]? = some (b.getD (p + k) ⟨0#8⟩) := by
        simp [List.getElem?_drop, show p + k < b.length by omega]
      rw [List.take_add_one, leVal_append, hl, hg]
      simp only [Option.toList_some, leVal]
      have : (256 * m + (b.getD (p + k) ⟨0#8⟩).toNat) * 256 ^ k + leVal ((b.drop p).take k) = m * 256 ^ (k + 1) + (leVal ((b.drop p).take k) + 256 ^ k * ((b.getD (p + k) ⟨0#8⟩).toNat + 256 * 0)) := by
        rw [Nat.pow_succ, Nat.add_mul, Nat.mul_comm 256 m, Nat.mul_assoc, Nat.mul_comm 256 (256 ^ k), Nat.mul_comm (b.getD (p + k) ⟨0#8⟩).toNat]; simp; omega
      rw [this]
  · have e0 : (i + 1).toNat = 0 := by omega
    simp only [hlt, decide_false, cond_false]
    exact leafR_exit [] (by simp [get01_S, get01_fin, e0, RT.val, leVal]) rfl
def get01_d (env : Env RC) (os : List (Obj RC)) : Option (Bool × get01_St) := match env, os with
  | [(0, .sl .u8 c b), (1, .int .i64 a), (9, .int .i64 i), (8, .int .i64 x0)], [] => staticD (true) (decide (x0 = 0) && decide (-1 ≤ i ∧ i ≤ 5 ∧ 0 ≤ a ∧ a + i + 1 ≤ b.length ∧ b.length ≤ 1000000000000), ⟨c, b, a, i, 0⟩)
  | _, _ => none
noncomputable def uf_3 := uf_2.addLoop 44 7 (sumR s05 [] [0, 1, 9, 8] get01_S get01_d)
theorem uf_3_laws : FLaws Try.prog s05 uf_3 := by
  refine uf_2_laws.addRoundsR s05_laws (by kernel_rfl) get01_S 40 [0, 1, 9, 8] [8] [] [0, 1, 9, 8] get01_d (fun q hI => ?_) ?_
  · obtain ⟨c, b, a, i, m⟩ := q
    refine ⟨?_, ?_, get01_round c b a i m hI⟩
    · simp_all [RefsOK, get01_S, get01_c, get01_o, get01_Inv, D.refs, Obj.refs, rEnc]
    · simp_all [get01_S, get01_fin, get01_o, get01_Inv, RT.refsOK, RefsOK, D.refs, Obj.refs, rEnc]
  · intro env os b q hd_ hb
    unfold get01_d at hd_
    split at hd_
    · obtain ⟨hs, hd_⟩ := staticD_some hd_
      cases hd_
      simp only [Bool.and_eq_true, decide_eq_true_eq] at hb
      obtain ⟨rfl, h⟩ := hb
      exact ⟨⟨h.1, h.2.1, h.2.2.1, h.2.2.2.1, h.2.2.2.2, Nat.pow_pos (by omega)⟩, rfl, rfl⟩
    · cases hd_
def get1f_s (c : Bool) (b : List UInt8) (a : Int) (w : Int) : Option (Bool × D RC) := some (decide (b.length ≤ 1000000000000), .tup (.acons (.int .i64 (getP b a w).1) (.acons (.int .i64 (getP b a w).2) .anil)))
def get1f_sp : List (D RC) → Option (Bool × D RC)
  | [.sl .u8 c b, .int .i64 a, .int .i64 w] => get1f_s c b a w
  | _ => none
noncomputable def get1f_e (c : Bool) (b : List UInt8) (a : Int) (w : Int) := evF s05 uf_3 40 44 [.sl (C := RC) .u8 c b, .int .i64 a, .int .i64 w]
theorem get1f_eq (c : Bool) (b : List UInt8) (a : Int) (w : Int) : get1f_e c b a w = (bif decide (w < (1 : Int)) then some (D.tup (D.acons (D.int .i64 (0 : Int)) (.acons (D.int .i64 (2 : Int)) .anil))) else bif decide ((6 : Int) < w) then some (D.tup (D.acons (D.int .i64 (0 : Int)) (.acons (D.int .i64 (2 : Int)) .anil))) else bif decide (a < (0 : Int)) then some (D.tup (D.acons (D.int .i64 (0 : Int)) (.acons (D.int .i64 (50 : Int)) .anil))) else bif lenOK b.length then bif decide ((↑b.length : Int) < a) then some (D.tup (D.acons (D.int .i64 (0 : Int)) (.acons (D.int .i64 (50 : Int)) .anil))) else bif lenOK b.length then bif decide (IntKind.wrap .i64 ((↑b.length : Int) - a) < w) then some (D.tup (D.acons (D.int .i64 (0 : Int)) (.acons (D.int .i64 (50 : Int)) .anil))) else bif decide ((-1 : Int) ≤ IntKind.wrap .i64 (w - (1 : Int)) ∧ IntKind.wrap .i64 (w - (1 : Int)) ≤ (5 : Int) ∧ (0 : Int) ≤ a ∧ a + IntKind.wrap .i64 (w - (1 : Int)) + (1 : Int) ≤ (↑b.length : Int) ∧ List.length b ≤ (1000000000000 : Nat)) then some (D.tup (D.acons (D.int .i64 (↑((0 : Nat) * (256 : Nat) ^ Int.toNat (IntKind.wrap .i64 (w - (1 : Int)) + (1 : Int)) + leVal (List.take (IntKind.wrap .i64 (w - (1 : Int)) + (1 : Int)).toNat (List.drop a.toNat b))) : Int)) (.acons (D.int .i64 (0 : Int)) .anil))) else none else none else none) := by kernel_rfl
theorem get1f_ok (c : Bool) (b : List UInt8) (a : Int) (w : Int) (h : (decide (b.length ≤ 1000000000000)) = true) : get1f_e c b a w = some (.tup (.acons (.int .i64 (getP b a w).1) (.acons (.int .i64 (getP b a w).2) .anil))) := by
  rw [get1f_eq]
  have hl := of_decide_eq_true h
  have hl' : lenOK b.length = true := lenOK_of (by omega)
  simp only [hl']
  by_cases hw : 1 ≤ w ∧ w ≤ 6
  · have w1 : decide (w < 1) = false := by simp; omega
    have w2 : decide (6 < w) = false := by simp; omega
    have w3 : (decide (1 ≤ w) && decide (w ≤ 6)) = true := by simp; omega
    have w4 : IntKind.i64.wrap (w - 1) = w - 1 := wrap_id (by omega) (by omega)
    simp only [w1, w2, cond_false, cond_true, getP, w3, w4]
    by_cases ha : 0 ≤ a ∧ a + w ≤ b.length
    · have a1 : decide (a < 0) = false := by simp; omega
      have a2 : decide ((b.length : Int) < a) = false := by simp; omega
      have e1 : IntKind.i64.wrap ((b.length : Int) - a) = b.length - a := wrap_id (by omega) (by omega)
      have a3 : decide ((b.length : Int) - a < w) = false := by simp; omega
      have a5 : (decide (0 ≤ a) && decide (a + w ≤ (b.length : Int))) = true := by simp; omega
      have a6 : decide (-1 ≤ w - 1 ∧ w - 1 ≤ 5 ∧ 0 ≤ a ∧ a + (w - 1) + 1 ≤ (b.length : Int) ∧ b.length ≤ 1000000000000) = true := by simp; omega
      have e2 : (w - 1 + 1).toNat = w.toNat := by omega
      simp [a1, a2, e1, a3, a5, a6, e2]
    · have a5 : (decide (0 ≤ a) && decide (a + w ≤ (b.length : Int))) = false := by simp; omega
      simp only [a5, cond_false]
      by_cases a1 : a < 0
      · simp [a1]
      · by_cases a2 : (b.length : Int) < a
        · simp [a1, a2]
        · have e1 : IntKind.i64.wrap ((b.length : Int) - a) = b.length - a := wrap_id (by omega) (by omega)
          have a3 : decide ((b.length : Int) - a < w) = true := by simp; omega
          simp [a1, a2, e1, a3]
  · have w3 : (decide (1 ≤ w) && decide (w ≤ 6)) = false := by simp; omega
    simp only [getP, w3]
    by_cases w1 : w < 1
    · simp [w1]
    · have w2 : 6 < w := by omega
      simp [w1, w2]
noncomputable def uf_4 := uf_3.addSpec 44 get1f_sp
theorem uf_4_laws : FLaws Try.prog s05 uf_4 := uf_3_laws.addEv s05_laws fun args d h => by
  unfold get1f_sp at h
  split at h
  · unfold get1f_s at h
    have h1 := congrArg Prod.fst (Option.some.inj h)
    obtain rfl : _ = d := congrArg Prod.snd (Option.some.inj h)
    exact ⟨by simp [D.refs], 40, get1f_ok _ _ _ _ h1⟩
  · cases h
open Go.Proofs
structure writtenR_St where
  c : Bool
  l : List Write
  i : Nat
def writtenR_c (c : Bool) (l : List Write) (i : Nat) : Env RC := [(0, .sl (C := RC) .write c l), (2, .bool false), (3, .int .i64 (i : Int))]
def writtenR_o (c : Bool) (l : List Write) (i : Nat) : List (Obj RC) := []
noncomputable def writtenR_r (c : Bool) (l : List Write) (i : Nat) := rndO s05 uf_4 27 4 40 0 [0, 2, 3] [2] [] (writtenR_c c l i) (writtenR_o c l i)
theorem writtenR_eq (c : Bool) (l : List Write) (i : Nat) : writtenR_r c l i = (bif lenOK l.length then bif decide ((↑i : Int) < (↑l.length : Int)) then bif decide ((0 : Int) ≤ (↑i : Int) ∧ (↑i : Int) < (↑l.length : Int)) then bif decide (Write.key (List.getD l (↑i : Int).toNat (Write.mk (0 : Int) (0 : Int))) < (0 : Int)) then some ((X.ret, [((2 : Nat), D.bool false)]), []) else bif decide ((0 : Int) ≤ (↑i : Int) ∧ (↑i : Int) < (↑l.length : Int)) then bif decide ((24 : Int) ≤ Write.key (List.getD l (↑i : Int).toNat (Write.mk (0 : Int) (0 : Int)))) then some ((X.ret, [((2 : Nat), D.bool false)]), []) else bif decide ((0 : Int) ≤ (↑i : Int) ∧ (↑i : Int) < (↑l.length : Int)) then bif decide (Write.value (List.getD l (↑i : Int).toNat (Write.mk (0 : Int) (0 : Int))) < (0 : Int)) then some ((X.ret, [((2 : Nat), D.bool false)]), []) else bif decide ((0 : Int) ≤ (↑i : Int) ∧ (↑i : Int) < (↑l.length : Int)) then bif decide ((255 : Int) < Write.value (List.getD l (↑i : Int).toNat (Write.mk (0 : Int) (0 : Int)))) then some ((X.ret, [((2 : Nat), D.bool false)]), []) else bif decide ((0 : Int) < (↑i : Int)) then bif decide ((0 : Int) ≤ (↑i : Int) ∧ (↑i : Int) < (↑l.length : Int)) then bif decide ((0 : Int) ≤ IntKind.wrap .i64 ((↑i : Int) - (1 : Int)) ∧ IntKind.wrap .i64 ((↑i : Int) - (1 : Int)) < (↑l.length : Int)) then bif decide (Write.key (List.getD l (↑i : Int).toNat (Write.mk (0 : Int) (0 : Int))) ≤ Write.key (List.getD l (IntKind.wrap .i64 ((↑i : Int) - (1 : Int))).toNat (Write.mk (0 : Int) (0 : Int)))) then some ((X.ret, [((2 : Nat), D.bool false)]), []) else some ((X.normal, [((0 : Nat), D.sl RTy.write c l), ((2 : Nat), D.bool false), ((3 : Nat), D.int .i64 (IntKind.wrap .i64 ((↑i : Int) + (1 : Int))))]), []) else none else none else some ((X.normal, [((0 : Nat), D.sl RTy.write c l), ((2 : Nat), D.bool false), ((3 : Nat), D.int .i64 (IntKind.wrap .i64 ((↑i : Int) + (1 : Int))))]), []) else none else none else none else none else some ((X.exit (0 : Nat), [((2 : Nat), D.bool false)]), []) else none) := by kernel_rfl
def writtenR_fin (c : Bool) (l : List Write) (i : Nat) : RT RC := .br (eachAt oneWB twoWB l i) (.leaf (.exit 0) [(2, .bool false)] []) (.leaf .ret [(2, .bool false)] [])
def writtenR_Inv (c : Bool) (l : List Write) (i : Nat) : Prop := i ≤ l.length ∧ l.length ≤ 9223372036854775807
def writtenR_S : LoopR RC writtenR_St where
  k := 0
  canon q := writtenR_c q.c q.l q.i
  objs q := writtenR_o q.c q.l q.i
  fin q := writtenR_fin q.c q.l q.i
  Inv q := writtenR_Inv q.c q.l q.i
  μ q := q.l.length - q.i
theorem writtenR_round (c : Bool) (l : List Write) (i : Nat) (hI : writtenR_Inv c l i) : Leaf (writtenR_r c l i) (LedR writtenR_S ⟨c, l, i⟩) := by
  rw [writtenR_eq]
  unfold writtenR_Inv at hI
  obtain ⟨h1, h2⟩ := hI
  have hlk := lenOK_of h2
  by_cases hlt : i < l.length
  · have w_succ : IntKind.i64.wrap ((i : Int) + 1) = ((i + 1 : Nat) : Int) := by rw [wrap_id (by omega) (by omega)]; simp
    have d_lt : decide ((i : Int) < l.length) = true := by simp; omega
    have d_in : decide (0 ≤ (i : Int) ∧ (i : Int) < l.length) = true := by simp; omega
    have t_nat : ((i : Int)).toNat = i := by simp
    have w_pred : IntKind.i64.wrap ((i : Int) - 1) = (i : Int) - 1 := wrap_id (by omega) (by omega)
    have t_natp : ((i : Int) - 1).toNat = i - 1 := by omega
    simp only [w_succ, d_lt, d_in, t_nat, w_pred, t_natp, cond_true]
    simp only [hlk, cond_true]
    have hst := eachAt_step oneWB twoWB l i (⟨0, 0⟩ : Write) hlt
    generalize l.getD i (⟨0, 0⟩ : Write) = x at hst ⊢
    generalize l.getD (i - 1) (⟨0, 0⟩ : Write) = y at hst ⊢
    have hgo : oneWB x = true → (i = 0 ∨ twoWB y x = true) → Leaf (some ((X.normal, writtenR_c c l (i + 1)), [])) (LedR writtenR_S ⟨c, l, i⟩) := fun a b =>
      leafR_go ⟨c, l, i + 1⟩ ⟨hlt, h2⟩ (by simp only [writtenR_S]; omega) (by simp only [writtenR_S, writtenR_fin, hst, a]; rcases b with b | b <;> simp [b]) rfl rfl
    have hno : ¬ (oneWB x = true ∧ (i = 0 ∨ twoWB y x = true)) → Leaf (some ((X.ret, [(2, D.bool false)]), [])) (LedR writtenR_S ⟨c, l, i⟩) := fun he => leafR_ret [] (by
      have : eachAt oneWB twoWB l i = false := by rw [hst]; simp only [Bool.and_eq_false_iff]; by_cases a : oneWB x = true <;> by_cases b : i = 0 <;> simp_all
      simp [writtenR_S, writtenR_fin, this, RT.val]) rfl
    simp only [oneWB, twoWB, withinB, Bool.and_eq_true, decide_eq_true_eq] at hgo hno
    by_cases hi : i = 0
    · have d0 : decide (0 < (i : Int)) = false := by simp; omega
      simp only [d0, cond_false]
      repeat' (first | (refine leaf_cond.2 ⟨fun hc_ => ?_, fun hc_ => ?_⟩ <;> simp only [decide_eq_true_eq, decide_eq_false_iff_not, beq_iff_eq, beq_eq_false_iff_ne, bne_iff_ne, ne_eq, Bool.not_eq_true, Bool.not_eq_false, bne_eq_false_iff_eq, decide_eq_decide, Bool.true_eq_false, Bool.false_eq_true] at hc_))
      all_goals first | (exfalso; omega) | exact hno (by omega) | (apply hgo <;> omega)
    · have d_pos : decide (0 < (i : Int)) = true := by simp; omega
      have d_inp : decide (0 ≤ (i : Int) - 1 ∧ (i : Int) - 1 < l.length) = true := by simp; omega
      simp only [d_pos, d_inp, cond_true]
      repeat' (first | (refine leaf_cond.2 ⟨fun hc_ => ?_, fun hc_ => ?_⟩ <;> simp only [decide_eq_true_eq, decide_eq_false_iff_not, beq_iff_eq, beq_eq_false_iff_ne, bne_iff_ne, ne_eq, Bool.not_eq_true, Bool.not_eq_false, bne_eq_false_iff_eq, decide_eq_decide, Bool.true_eq_false, Bool.false_eq_true] at hc_))
      all_goals first | (exfalso; omega) | exact hno (by omega) | (apply hgo <;> omega)
  · have hi : i = l.length := by omega
    have c1 : decide ((i : Int) < l.length) = false := by simp; omega
    simp only [hlk, c1, cond_true, cond_false]
    exact leafR_exit [] (by simp [writtenR_S, writtenR_fin, hi, eachAt, eachB, RT.val]) rfl
def writtenR_d (env : Env RC) (os : List (Obj RC)) : Option (Bool × writtenR_St) := match env, os with
  | [(0, .sl .write c l), (2, .bool false), (3, .int .i64 x0)], [] => staticD (true) (decide (x0 = 0) && decide (l.length ≤ 9223372036854775807), ⟨c, l, 0⟩)
  | _, _ => none
noncomputable def ug_1 := uf_4.addLoop 27 4 (sumR s05 [] [0, 2, 3] writtenR_S writtenR_d)
theorem ug_1_laws : FLaws Try.prog s05 ug_1 := by
  refine uf_4_laws.addRoundsR s05_laws (by kernel_rfl) writtenR_S 40 [0, 2, 3] [2] [] [0, 2, 3] writtenR_d (fun q hI => ?_) ?_
  · obtain ⟨c, l, i⟩ := q
    refine ⟨?_, ?_, writtenR_round c l i hI⟩
    · simp_all [RefsOK, writtenR_S, writtenR_c, writtenR_o, writtenR_Inv, D.refs, Obj.refs, rEnc]
    · simp_all [writtenR_S, writtenR_fin, writtenR_o, writtenR_Inv, RT.refsOK, RefsOK, D.refs, Obj.refs, rEnc]
  · intro env os b q hd_ hb
    unfold writtenR_d at hd_
    split at hd_
    · obtain ⟨hs, hd_⟩ := staticD_some hd_
      cases hd_
      simp only [Bool.and_eq_true, decide_eq_true_eq] at hb
      obtain ⟨rfl, hl⟩ := hb
      exact ⟨⟨Nat.zero_le _, hl⟩, rfl, rfl⟩
    · cases hd_
def writtenRf_s (c : Bool) (l : List Write) : Option (Bool × D RC) := some (lenOK l.length, .bool (writtenL l))
def writtenRf_sp : List (D RC) → Option (Bool × D RC)
  | [.sl .write c l] => writtenRf_s c l
  | _ => none
noncomputable def writtenRf_e (c : Bool) (l : List Write) := evF s05 ug_1 40 27 [.sl (C := RC) .write c l]
theorem writtenRf_eq (c : Bool) (l : List Write) : writtenRf_e c l = (bif lenOK l.length then bif decide ((4 : Int) < (↑l.length : Int)) then some (D.bool false) else bif decide (List.length l ≤ (9223372036854775807 : Nat)) then bif eachAt oneWB twoWB l (0 : Nat) then some (D.bool true) else some (D.bool false) else none else none) := by kernel_rfl
theorem writtenRf_ok (c : Bool) (l : List Write) (h : (lenOK l.length) = true) : writtenRf_e c l = some (.bool (writtenL l)) := by
  rw [writtenRf_eq]
  have h2 : l.length ≤ 9223372036854775807 := lenOK_le h
  rw [writtenL, h]
  by_cases h4 : l.length ≤ 4
  · have : ¬ (4 : Int) < l.length := by omega
    simp [h4, h2, this]
    cases eachAt oneWB twoWB l 0 <;> rfl
  · have : (4 : Int) < l.length := by omega
    simp [h4, this]
noncomputable def ug_2 := ug_1.addSpec 27 writtenRf_sp
theorem ug_2_laws : FLaws Try.prog s05 ug_2 := ug_1_laws.addEv s05_laws fun args d h => by
  unfold writtenRf_sp at h
  split at h
  · unfold writtenRf_s at h
    have h1 := congrArg Prod.fst (Option.some.inj h)
    obtain rfl : _ = d := congrArg Prod.snd (Option.some.inj h)
    exact ⟨by simp [D.refs], 40, writtenRf_ok _ _ h1⟩
  · cases h
def mayR_s (p : Int) (y : Bool) (c : Bool) (l : List Write) : Option (Bool × D RC) := some (lenOK l.length, .bool (mayB ⟨p, y, l⟩))
def mayR_sp : List (D RC) → Option (Bool × D RC)
  | [.acons (.int .i64 p) (.acons (.bool y) (.acons (.sl .write c l) .anil))] => mayR_s p y c l
  | _ => none
noncomputable def mayR_e (p : Int) (y : Bool) (c : Bool) (l : List Write) := evF s05 ug_2 40 26 [.acons (.int .i64 p) (.acons (.bool y) (.acons (.sl (C := RC) .write c l) .anil))]
theorem mayR_eq (p : Int) (y : Bool) (c : Bool) (l : List Write) : mayR_e p y c l = (bif decide ((1 : Int) ≤ p) then bif decide (p ≤ (1048575 : Int)) then bif lenOK l.length then bif writtenL l then bif y then some (D.bool true) else bif lenOK l.length then some (D.bool ((↑l.length : Int) == (0 : Int))) else none else some (D.bool false) else none else some (D.bool false) else some (D.bool false)) := by kernel_rfl
theorem mayR_ok (p : Int) (y : Bool) (c : Bool) (l : List Write) (h : (lenOK l.length) = true) : mayR_e p y c l = some (.bool (mayB ⟨p, y, l⟩)) := by
  rw [mayR_eq]
  have h3 : (((l.length : Nat) : Int) = 0) ↔ l.length = 0 := by omega
  simp only [mayB, h, withinB]
  cases decide (1 ≤ p) <;> cases decide (p ≤ 1048575) <;> cases writtenL l <;> cases y <;> simp [h3]
  cases l <;> simp
  omega
noncomputable def ug_3 := ug_2.addSpec 26 mayR_sp
theorem ug_3_laws : FLaws Try.prog s05 ug_3 := ug_2_laws.addEv s05_laws fun args d h => by
  unfold mayR_sp at h
  split at h
  · unfold mayR_s at h
    have h1 := congrArg Prod.fst (Option.some.inj h)
    obtain rfl : _ = d := congrArg Prod.snd (Option.some.inj h)
    exact ⟨by simp [D.refs], 40, mayR_ok _ _ _ _ h1⟩
  · cases h
structure itemsR_St where
  c : Bool
  l : List Item
  p : Int
  i : Nat
def itemsR_c (c : Bool) (l : List Item) (p : Int) (i : Nat) : Env RC := [(0, .sl (C := RC) .item c l), (1, .int .i64 p), (4, .bool false), (5, .int .i64 (i : Int))]
def itemsR_o (c : Bool) (l : List Item) (p : Int) (i : Nat) : List (Obj RC) := []
noncomputable def itemsR_r (c : Bool) (l : List Item) (p : Int) (i : Nat) := rndO s05 ug_3 48 2 40 0 [0, 1, 4, 5] [4] [] (itemsR_c c l p i) (itemsR_o c l p i)
theorem itemsR_eq (c : Bool) (l : List Item) (p : Int) (i : Nat) : itemsR_r c l p i = (bif lenOK l.length then bif decide ((↑i : Int) < (↑l.length : Int)) then bif decide ((0 : Int) ≤ (↑i : Int) ∧ (↑i : Int) < (↑l.length : Int)) then bif decide (Item.key (List.getD l (↑i : Int).toNat (Item.mk (0 : Int) (0 : Int) (0 : Int))) < (0 : Int)) then some ((X.ret, [((4 : Nat), D.bool false)]), []) else bif decide ((24 : Int) ≤ Item.key (List.getD l (↑i : Int).toNat (Item.mk (0 : Int) (0 : Int) (0 : Int)))) then some ((X.ret, [((4 : Nat), D.bool false)]), []) else bif decide ((0 : Int) < (↑i : Int)) then bif decide ((0 : Int) ≤ IntKind.wrap .i64 ((↑i : Int) - (1 : Int)) ∧ IntKind.wrap .i64 ((↑i : Int) - (1 : Int)) < (↑l.length : Int)) then bif decide (Item.key (List.getD l (↑i : Int).toNat (Item.mk (0 : Int) (0 : Int) (0 : Int))) ≤ Item.key (List.getD l (IntKind.wrap .i64 ((↑i : Int) - (1 : Int))).toNat (Item.mk (0 : Int) (0 : Int) (0 : Int)))) then some ((X.ret, [((4 : Nat), D.bool false)]), []) else bif decide (Item.place (List.getD l (↑i : Int).toNat (Item.mk (0 : Int) (0 : Int) (0 : Int))) < (1 : Int)) then some ((X.ret, [((4 : Nat), D.bool false)]), []) else bif decide (p < Item.place (List.getD l (↑i : Int).toNat (Item.mk (0 : Int) (0 : Int) (0 : Int)))) then some ((X.ret, [((4 : Nat), D.bool false)]), []) else bif decide (Item.value (List.getD l (↑i : Int).toNat (Item.mk (0 : Int) (0 : Int) (0 : Int))) < (0 : Int)) then some ((X.ret, [((4 : Nat), D.bool false)]), []) else bif decide ((255 : Int) < Item.value (List.getD l (↑i : Int).toNat (Item.mk (0 : Int) (0 : Int) (0 : Int)))) then some ((X.ret, [((4 : Nat), D.bool false)]), []) else some ((X.normal, [((0 : Nat), D.sl RTy.item c l), ((1 : Nat), D.int .i64 p), ((4 : Nat), D.bool false), ((5 : Nat), D.int .i64 (IntKind.wrap .i64 ((↑i : Int) + (1 : Int))))]), []) else none else bif decide (Item.place (List.getD l (↑i : Int).toNat (Item.mk (0 : Int) (0 : Int) (0 : Int))) < (1 : Int)) then some ((X.ret, [((4 : Nat), D.bool false)]), []) else bif decide (p < Item.place (List.getD l (↑i : Int).toNat (Item.mk (0 : Int) (0 : Int) (0 : Int)))) then some ((X.ret, [((4 : Nat), D.bool false)]), []) else bif decide (Item.value (List.getD l (↑i : Int).toNat (Item.mk (0 : Int) (0 : Int) (0 : Int))) < (0 : Int)) then some ((X.ret, [((4 : Nat), D.bool false)]), []) else bif decide ((255 : Int) < Item.value (List.getD l (↑i : Int).toNat (Item.mk (0 : Int) (0 : Int) (0 : Int)))) then some ((X.ret, [((4 : Nat), D.bool false)]), []) else some ((X.normal, [((0 : Nat), D.sl RTy.item c l), ((1 : Nat), D.int .i64 p), ((4 : Nat), D.bool false), ((5 : Nat), D.int .i64 (IntKind.wrap .i64 ((↑i : Int) + (1 : Int))))]), []) else none else some ((X.exit (0 : Nat), [((4 : Nat), D.bool false)]), []) else none) := by kernel_rfl
def itemsR_fin (c : Bool) (l : List Item) (p : Int) (i : Nat) : RT RC := .br (eachAt (oneIB p) twoIB l i) (.leaf (.exit 0) [(4, .bool false)] []) (.leaf .ret [(4, .bool false)] [])
def itemsR_Inv (c : Bool) (l : List Item) (p : Int) (i : Nat) : Prop := i ≤ l.length ∧ l.length ≤ 9223372036854775807
def itemsR_S : LoopR RC itemsR_St where
  k := 0
  canon q := itemsR_c q.c q.l q.p q.i
  objs q := itemsR_o q.c q.l q.p q.i
  fin q := itemsR_fin q.c q.l q.p q.i
  Inv q := itemsR_Inv q.c q.l q.p q.i
  μ q := q.l.length - q.i
theorem itemsR_round (c : Bool) (l : List Item) (p : Int) (i : Nat) (hI : itemsR_Inv c l p i) : Leaf (itemsR_r c l p i) (LedR itemsR_S ⟨c, l, p, i⟩) := by
  rw [itemsR_eq]
  unfold itemsR_Inv at hI
  obtain ⟨h1, h2⟩ := hI
  have hlk := lenOK_of h2
  by_cases hlt : i < l.length
  · have w_succ : IntKind.i64.wrap ((i : Int) + 1) = ((i + 1 : Nat) : Int) := by rw [wrap_id (by omega) (by omega)]; simp
    have d_lt : decide ((i : Int) < l.length) = true := by simp; omega
    have d_in : decide (0 ≤ (i : Int) ∧ (i : Int) < l.length) = true := by simp; omega
    have t_nat : ((i : Int)).toNat = i := by simp
    have w_pred : IntKind.i64.wrap ((i : Int) - 1) = (i : Int) - 1 := wrap_id (by omega) (by omega)
    have t_natp : ((i : Int) - 1).toNat = i - 1 := by omega
    simp only [w_succ, d_lt, d_in, t_nat, w_pred, t_natp, cond_true]
    simp only [hlk, cond_true]
    have hst := eachAt_step (oneIB p) twoIB l i (⟨0, 0, 0⟩ : Item) hlt
    generalize l.getD i (⟨0, 0, 0⟩ : Item) = x at hst ⊢
    generalize l.getD (i - 1) (⟨0, 0, 0⟩ : Item) = y at hst ⊢
    have hgo : oneIB p x = true → (i = 0 ∨ twoIB y x = true) → Leaf (some ((X.normal, itemsR_c c l p (i + 1)), [])) (LedR itemsR_S ⟨c, l, p, i⟩) := fun a b =>
      leafR_go ⟨c, l, p, i + 1⟩ ⟨hlt, h2⟩ (by simp only [itemsR_S]; omega) (by simp only [itemsR_S, itemsR_fin, hst, a]; rcases b with b | b <;> simp [b]) rfl rfl
    have hno : ¬ (oneIB p x = true ∧ (i = 0 ∨ twoIB y x = true)) → Leaf (some ((X.ret, [(4, D.bool false)]), [])) (LedR itemsR_S ⟨c, l, p, i⟩) := fun he => leafR_ret [] (by
      have : eachAt (oneIB p) twoIB l i = false := by rw [hst]; simp only [Bool.and_eq_false_iff]; by_cases a : oneIB p x = true <;> by_cases b : i = 0 <;> simp_all
      simp [itemsR_S, itemsR_fin, this, RT.val]) rfl
    simp only [oneIB, twoIB, withinB, Bool.and_eq_true, decide_eq_true_eq] at hgo hno
    by_cases hi : i = 0
    · have d0 : decide (0 < (i : Int)) = false := by simp; omega
      simp only [d0, cond_false]
      repeat' (first | (refine leaf_cond.2 ⟨fun hc_ => ?_, fun hc_ => ?_⟩ <;> simp only [decide_eq_true_eq, decide_eq_false_iff_not, beq_iff_eq, beq_eq_false_iff_ne, bne_iff_ne, ne_eq, Bool.not_eq_true, Bool.not_eq_false, bne_eq_false_iff_eq, decide_eq_decide, Bool.true_eq_false, Bool.false_eq_true] at hc_))
      all_goals first | (exfalso; omega) | exact hno (by omega) | (apply hgo <;> omega)
    · have d_pos : decide (0 < (i : Int)) = true := by simp; omega
      have d_inp : decide (0 ≤ (i : Int) - 1 ∧ (i : Int) - 1 < l.length) = true := by simp; omega
      simp only [d_pos, d_inp, cond_true]
      repeat' (first | (refine leaf_cond.2 ⟨fun hc_ => ?_, fun hc_ => ?_⟩ <;> simp only [decide_eq_true_eq, decide_eq_false_iff_not, beq_iff_eq, beq_eq_false_iff_ne, bne_iff_ne, ne_eq, Bool.not_eq_true, Bool.not_eq_false, bne_eq_false_iff_eq, decide_eq_decide, Bool.true_eq_false, Bool.false_eq_true] at hc_))
      all_goals first | (exfalso; omega) | exact hno (by omega) | (apply hgo <;> omega)
  · have hi : i = l.length := by omega
    have c1 : decide ((i : Int) < l.length) = false := by simp; omega
    simp only [hlk, c1, cond_true, cond_false]
    exact leafR_exit [] (by simp [itemsR_S, itemsR_fin, hi, eachAt, eachB, RT.val]) rfl
def itemsR_d (env : Env RC) (os : List (Obj RC)) : Option (Bool × itemsR_St) := match env, os with
  | [(0, .sl .item c l), (1, .int .i64 p), (4, .bool false), (5, .int .i64 x0)], [] => staticD (true) (decide (x0 = 0) && decide (l.length ≤ 9223372036854775807), ⟨c, l, p, 0⟩)
  | _, _ => none
noncomputable def ug_4 := ug_3.addLoop 48 2 (sumR s05 [] [0, 1, 4, 5] itemsR_S itemsR_d)
theorem ug_4_laws : FLaws Try.prog s05 ug_4 := by
  refine ug_3_laws.addRoundsR s05_laws (by kernel_rfl) itemsR_S 40 [0, 1, 4, 5] [4] [] [0, 1, 4, 5] itemsR_d (fun q hI => ?_) ?_
  · obtain ⟨c, l, p, i⟩ := q
    refine ⟨?_, ?_, itemsR_round c l p i hI⟩
    · simp_all [RefsOK, itemsR_S, itemsR_c, itemsR_o, itemsR_Inv, D.refs, Obj.refs, rEnc]
    · simp_all [itemsR_S, itemsR_fin, itemsR_o, itemsR_Inv, RT.refsOK, RefsOK, D.refs, Obj.refs, rEnc]
  · intro env os b q hd_ hb
    unfold itemsR_d at hd_
    split at hd_
    · obtain ⟨hs, hd_⟩ := staticD_some hd_
      cases hd_
      simp only [Bool.and_eq_true, decide_eq_true_eq] at hb
      obtain ⟨rfl, hl⟩ := hb
      exact ⟨⟨Nat.zero_le _, hl⟩, rfl, rfl⟩
    · cases hd_
structure linesR_St where
  k : Bool
  l : List Line
  p : Int
  c : Int
  i : Nat
def linesR_c (k : Bool) (l : List Line) (p : Int) (c : Int) (i : Nat) : Env RC := [(0, .sl (C := RC) .line k l), (1, .int .i64 p), (2, .int .i64 c), (6, .bool false), (7, .int .i64 (i : Int))]
def linesR_o (k : Bool) (l : List Line) (p : Int) (c : Int) (i : Nat) : List (Obj RC) := []
noncomputable def linesR_r (k : Bool) (l : List Line) (p : Int) (c : Int) (i : Nat) := rndO s05 ug_4 49 4 60 0 [0, 1, 2, 6, 7] [6] [] (linesR_c k l p c i) (linesR_o k l p c i)
theorem linesR_eq (k : Bool) (l : List Line) (p : Int) (c : Int) (i : Nat) : linesR_r k l p c i = (bif lenOK l.length then bif decide ((↑i : Int) < (↑l.length : Int)) then bif decide ((0 : Int) ≤ (↑i : Int) ∧ (↑i : Int) < (↑l.length : Int)) then bif decide (Line.offset (List.getD l (↑i : Int).toNat (Line.mk (0 : Int) (0 : Int) (0 : Int) (0 : Int) (0 : Int))) < (0 : Int)) then some ((X.ret, [((6 : Nat), D.bool false)]), []) else bif decide ((4194304 : Int) ≤ Line.offset (List.getD l (↑i : Int).toNat (Line.mk (0 : Int) (0 : Int) (0 : Int) (0 : Int) (0 : Int)))) then some ((X.ret, [((6 : Nat), D.bool false)]), []) else bif decide (Line.place (List.getD l (↑i : Int).toNat (Line.mk (0 : Int) (0 : Int) (0 : Int) (0 : Int) (0 : Int))) < (1 : Int)) then some ((X.ret, [((6 : Nat), D.bool false)]), []) else bif decide (p < Line.place (List.getD l (↑i : Int).toNat (Line.mk (0 : Int) (0 : Int) (0 : Int) (0 : Int) (0 : Int)))) then some ((X.ret, [((6 : Nat), D.bool false)]), []) else bif decide (Line.j (List.getD l (↑i : Int).toNat (Line.mk (0 : Int) (0 : Int) (0 : Int) (0 : Int) (0 : Int))) < (0 : Int)) then some ((X.ret, [((6 : Nat), D.bool false)]), []) else bif decide ((4 : Int) ≤ Line.j (List.getD l (↑i : Int).toNat (Line.mk (0 : Int) (0 : Int) (0 : Int) (0 : Int) (0 : Int)))) then some ((X.ret, [((6 : Nat), D.bool false)]), []) else bif decide (Line.key (List.getD l (↑i : Int).toNat (Line.mk (0 : Int) (0 : Int) (0 : Int) (0 : Int) (0 : Int))) < (0 : Int)) then some ((X.ret, [((6 : Nat), D.bool false)]), []) else bif decide ((8 : Int) ≤ Line.key (List.getD l (↑i : Int).toNat (Line.mk (0 : Int) (0 : Int) (0 : Int) (0 : Int) (0 : Int)))) then some ((X.ret, [((6 : Nat), D.bool false)]), []) else bif decide (Line.value (List.getD l (↑i : Int).toNat (Line.mk (0 : Int) (0 : Int) (0 : Int) (0 : Int) (0 : Int))) < (0 : Int)) then some ((X.ret, [((6 : Nat), D.bool false)]), []) else bif decide ((255 : Int) < Line.value (List.getD l (↑i : Int).toNat (Line.mk (0 : Int) (0 : Int) (0 : Int) (0 : Int) (0 : Int)))) then some ((X.ret, [((6 : Nat), D.bool false)]), []) else bif (↑i : Int) == (0 : Int) then bif decide (Line.place (List.getD l (↑i : Int).toNat (Line.mk (0 : Int) (0 : Int) (0 : Int) (0 : Int) (0 : Int))) ≤ c) then some ((X.ret, [((6 : Nat), D.bool false)]), []) else bif decide ((0 : Int) < (↑i : Int)) then bif decide ((0 : Int) ≤ IntKind.wrap .i64 ((↑i : Int) - (1 : Int)) ∧ IntKind.wrap .i64 ((↑i : Int) - (1 : Int)) < (↑l.length : Int)) then bif Line.offset (List.getD l (↑i : Int).toNat (Line.mk (0 : Int) (0 : Int) (0 : Int) (0 : Int) (0 : Int))) != IntKind.wrap .i64 (Line.offset (List.getD l (IntKind.wrap .i64 ((↑i : Int) - (1 : Int))).toNat (Line.mk (0 : Int) (0 : Int) (0 : Int) (0 : Int) (0 : Int))) + (1 : Int)) then some ((X.ret, [((6 : Nat), D.bool false)]), []) else bif decide ((0 : Int) ≤ IntKind.wrap .i64 ((↑i : Int) - (1 : Int)) ∧ IntKind.wrap .i64 ((↑i : Int) - (1 : Int)) < (↑l.length : Int)) then bif decide (Line.place (List.getD l (↑i : Int).toNat (Line.mk (0 : Int) (0 : Int) (0 : Int) (0 : Int) (0 : Int))) < Line.place (List.getD l (IntKind.wrap .i64 ((↑i : Int) - (1 : Int))).toNat (Line.mk (0 : Int) (0 : Int) (0 : Int) (0 : Int) (0 : Int)))) then some ((X.ret, [((6 : Nat), D.bool false)]), []) else bif decide ((0 : Int) ≤ IntKind.wrap .i64 ((↑i : Int) - (1 : Int)) ∧ IntKind.wrap .i64 ((↑i : Int) - (1 : Int)) < (↑l.length : Int)) then bif Line.place (List.getD l (↑i : Int).toNat (Line.mk (0 : Int) (0 : Int) (0 : Int) (0 : Int) (0 : Int))) == Line.place (List.getD l (IntKind.wrap .i64 ((↑i : Int) - (1 : Int))).toNat (Line.mk (0 : Int) (0 : Int) (0 : Int) (0 : Int) (0 : Int))) then bif decide ((0 : Int) ≤ IntKind.wrap .i64 ((↑i : Int) - (1 : Int)) ∧ IntKind.wrap .i64 ((↑i : Int) - (1 : Int)) < (↑l.length : Int)) then bif decide (Line.j (List.getD l (↑i : Int).toNat (Line.mk (0 : Int) (0 : Int) (0 : Int) (0 : Int) (0 : Int))) ≤ Line.j (List.getD l (IntKind.wrap .i64 ((↑i : Int) - (1 : Int))).toNat (Line.mk (0 : Int) (0 : Int) (0 : Int) (0 : Int) (0 : Int)))) then some ((X.ret, [((6 : Nat), D.bool false)]), []) else some ((X.normal, [((0 : Nat), D.sl RTy.line k l), ((1 : Nat), D.int .i64 p), ((2 : Nat), D.int .i64 c), ((6 : Nat), D.bool false), ((7 : Nat), D.int .i64 (IntKind.wrap .i64 ((↑i : Int) + (1 : Int))))]), []) else none else some ((X.normal, [((0 : Nat), D.sl RTy.line k l), ((1 : Nat), D.int .i64 p), ((2 : Nat), D.int .i64 c), ((6 : Nat), D.bool false), ((7 : Nat), D.int .i64 (IntKind.wrap .i64 ((↑i : Int) + (1 : Int))))]), []) else none else none else none else some ((X.normal, [((0 : Nat), D.sl RTy.line k l), ((1 : Nat), D.int .i64 p), ((2 : Nat), D.int .i64 c), ((6 : Nat), D.bool false), ((7 : Nat), D.int .i64 (IntKind.wrap .i64 ((↑i : Int) + (1 : Int))))]), []) else bif decide ((0 : Int) < (↑i : Int)) then bif decide ((0 : Int) ≤ IntKind.wrap .i64 ((↑i : Int) - (1 : Int)) ∧ IntKind.wrap .i64 ((↑i : Int) - (1 : Int)) < (↑l.length : Int)) then bif Line.offset (List.getD l (↑i : Int).toNat (Line.mk (0 : Int) (0 : Int) (0 : Int) (0 : Int) (0 : Int))) != IntKind.wrap .i64 (Line.offset (List.getD l (IntKind.wrap .i64 ((↑i : Int) - (1 : Int))).toNat (Line.mk (0 : Int) (0 : Int) (0 : Int) (0 : Int) (0 : Int))) + (1 : Int)) then some ((X.ret, [((6 : Nat), D.bool false)]), []) else bif decide ((0 : Int) ≤ IntKind.wrap .i64 ((↑i : Int) - (1 : Int)) ∧ IntKind.wrap .i64 ((↑i : Int) - (1 : Int)) < (↑l.length : Int)) then bif decide (Line.place (List.getD l (↑i : Int).toNat (Line.mk (0 : Int) (0 : Int) (0 : Int) (0 : Int) (0 : Int))) < Line.place (List.getD l (IntKind.wrap .i64 ((↑i : Int) - (1 : Int))).toNat (Line.mk (0 : Int) (0 : Int) (0 : Int) (0 : Int) (0 : Int)))) then some ((X.ret, [((6 : Nat), D.bool false)]), []) else bif decide ((0 : Int) ≤ IntKind.wrap .i64 ((↑i : Int) - (1 : Int)) ∧ IntKind.wrap .i64 ((↑i : Int) - (1 : Int)) < (↑l.length : Int)) then bif Line.place (List.getD l (↑i : Int).toNat (Line.mk (0 : Int) (0 : Int) (0 : Int) (0 : Int) (0 : Int))) == Line.place (List.getD l (IntKind.wrap .i64 ((↑i : Int) - (1 : Int))).toNat (Line.mk (0 : Int) (0 : Int) (0 : Int) (0 : Int) (0 : Int))) then bif decide ((0 : Int) ≤ IntKind.wrap .i64 ((↑i : Int) - (1 : Int)) ∧ IntKind.wrap .i64 ((↑i : Int) - (1 : Int)) < (↑l.length : Int)) then bif decide (Line.j (List.getD l (↑i : Int).toNat (Line.mk (0 : Int) (0 : Int) (0 : Int) (0 : Int) (0 : Int))) ≤ Line.j (List.getD l (IntKind.wrap .i64 ((↑i : Int) - (1 : Int))).toNat (Line.mk (0 : Int) (0 : Int) (0 : Int) (0 : Int) (0 : Int)))) then some ((X.ret, [((6 : Nat), D.bool false)]), []) else some ((X.normal, [((0 : Nat), D.sl RTy.line k l), ((1 : Nat), D.int .i64 p), ((2 : Nat), D.int .i64 c), ((6 : Nat), D.bool false), ((7 : Nat), D.int .i64 (IntKind.wrap .i64 ((↑i : Int) + (1 : Int))))]), []) else none else some ((X.normal, [((0 : Nat), D.sl RTy.line k l), ((1 : Nat), D.int .i64 p), ((2 : Nat), D.int .i64 c), ((6 : Nat), D.bool false), ((7 : Nat), D.int .i64 (IntKind.wrap .i64 ((↑i : Int) + (1 : Int))))]), []) else none else none else none else some ((X.normal, [((0 : Nat), D.sl RTy.line k l), ((1 : Nat), D.int .i64 p), ((2 : Nat), D.int .i64 c), ((6 : Nat), D.bool false), ((7 : Nat), D.int .i64 (IntKind.wrap .i64 ((↑i : Int) + (1 : Int))))]), []) else none else some ((X.exit (0 : Nat), [((6 : Nat), D.bool false)]), []) else none) := by kernel_rfl
def linesR_fin (k : Bool) (l : List Line) (p : Int) (c : Int) (i : Nat) : RT RC := .br (linesAt p c l i) (.leaf (.exit 0) [(6, .bool false)] []) (.leaf .ret [(6, .bool false)] [])
def linesR_Inv (k : Bool) (l : List Line) (p : Int) (c : Int) (i : Nat) : Prop := i ≤ l.length ∧ l.length ≤ 9223372036854775807
def linesR_S : LoopR RC linesR_St where
  k := 0
  canon q := linesR_c q.k q.l q.p q.c q.i
  objs q := linesR_o q.k q.l q.p q.c q.i
  fin q := linesR_fin q.k q.l q.p q.c q.i
  Inv q := linesR_Inv q.k q.l q.p q.c q.i
  μ q := q.l.length - q.i
theorem linesR_round (k : Bool) (l : List Line) (p : Int) (c : Int) (i : Nat) (hI : linesR_Inv k l p c i) : Leaf (linesR_r k l p c i) (LedR linesR_S ⟨k, l, p, c, i⟩) := by
  rw [linesR_eq]
  unfold linesR_Inv at hI
  obtain ⟨h1, h2⟩ := hI
  have hlk := lenOK_of h2
  by_cases hlt : i < l.length
  · have w_succ : IntKind.i64.wrap ((i : Int) + 1) = ((i + 1 : Nat) : Int) := by rw [wrap_id (by omega) (by omega)]; simp
    have d_lt : decide ((i : Int) < l.length) = true := by simp; omega
    have d_in : decide (0 ≤ (i : Int) ∧ (i : Int) < l.length) = true := by simp; omega
    have t_nat : ((i : Int)).toNat = i := by simp
    have w_pred : IntKind.i64.wrap ((i : Int) - 1) = (i : Int) - 1 := wrap_id (by omega) (by omega)
    have t_natp : ((i : Int) - 1).toNat = i - 1 := by omega
    simp only [w_succ, d_lt, d_in, t_nat, w_pred, t_natp, cond_true]
    simp only [hlk, cond_true]
    have hst := eachAt_step (oneLB p) twoLB l i (⟨0, 0, 0, 0, 0⟩ : Line) hlt
    have hne : l.isEmpty = false := by cases l <;> simp at hlt ⊢
    have hz : linesAt p c l i = ((decide (i ≠ 0) || decide (c < (l.getD i ⟨0, 0, 0, 0, 0⟩).place)) && eachAt (oneLB p) twoLB l i) := by
      unfold linesAt
      by_cases hi : i = 0
      · subst hi; simp [hne]
      · simp [hi]
    have hn : linesAt p c l (i + 1) = eachAt (oneLB p) twoLB l (i + 1) := by simp [linesAt]
    rw [hst] at hz
    generalize l.getD i (⟨0, 0, 0, 0, 0⟩ : Line) = x at hz ⊢
    generalize l.getD (i - 1) (⟨0, 0, 0, 0, 0⟩ : Line) = y at hz ⊢
    have hgo : oneLB p x = true → (i ≠ 0 ∨ c < x.place) → (i = 0 ∨ twoLB y x = true) → Leaf (some ((X.normal, linesR_c k l p c (i + 1)), [])) (LedR linesR_S ⟨k, l, p, c, i⟩) := fun a b d =>
      leafR_go ⟨k, l, p, c, i + 1⟩ ⟨hlt, h2⟩ (by simp only [linesR_S]; omega) (by
        have e1 : (decide (i ≠ 0) || decide (c < x.place)) = true := by simpa using b
        have e2 : (decide (i = 0) || twoLB y x) = true := by simpa using d
        simp only [linesR_S, linesR_fin, hz, hn, a, e1, e2, Bool.true_and]) rfl rfl
    have hno : ¬ (oneLB p x = true ∧ (i ≠ 0 ∨ c < x.place) ∧ (i = 0 ∨ twoLB y x = true)) → Leaf (some ((X.ret, [(6, D.bool false)]), [])) (LedR linesR_S ⟨k, l, p, c, i⟩) := fun he => leafR_ret [] (by
      have : linesAt p c l i = false := by
        rw [hz]
        cases hq : ((decide (i ≠ 0) || decide (c < x.place)) && (oneLB p x && (decide (i = 0) || twoLB y x) && eachAt (oneLB p) twoLB l (i + 1))) with
        | false => rfl
        | true =>
          exfalso
          simp only [Bool.and_eq_true, Bool.or_eq_true, decide_eq_true_eq] at hq
          exact he ⟨hq.2.1.1, hq.1, hq.2.1.2⟩
      simp [linesR_S, linesR_fin, this, RT.val]) rfl
    simp only [oneLB, twoLB, withinB, Bool.and_eq_true, Bool.or_eq_true, decide_eq_true_eq, beq_iff_eq] at hgo hno
    by_cases hi : i = 0
    · have d0 : decide (0 < (i : Int)) = false := by simp; omega
      simp only [d0, cond_false]
      repeat' (first | (refine leaf_cond.2 ⟨fun hc_ => ?_, fun hc_ => ?_⟩ <;> simp only [decide_eq_true_eq, decide_eq_false_iff_not, beq_iff_eq, beq_eq_false_iff_ne, bne_iff_ne, ne_eq, Bool.not_eq_true, Bool.not_eq_false, bne_eq_false_iff_eq, decide_eq_decide, Bool.true_eq_false, Bool.false_eq_true] at hc_))
      all_goals first | (exfalso; omega) | exact hno (by omega) | (apply hgo <;> omega)
    · have d_pos : decide (0 < (i : Int)) = true := by simp; omega
      have d_inp : decide (0 ≤ (i : Int) - 1 ∧ (i : Int) - 1 < l.length) = true := by simp; omega
      simp only [d_pos, d_inp, cond_true]
      have i0 : ((i : Int) == 0) = false := by simp; omega
      simp only [i0, cond_false]
      generalize IntKind.i64.wrap (y.offset + 1) = z at hgo hno ⊢
      repeat' (first | (refine leaf_cond.2 ⟨fun hc_ => ?_, fun hc_ => ?_⟩ <;> simp only [decide_eq_true_eq, decide_eq_false_iff_not, beq_iff_eq, beq_eq_false_iff_ne, bne_iff_ne, ne_eq, Bool.not_eq_true, Bool.not_eq_false, bne_eq_false_iff_eq, decide_eq_decide, Bool.true_eq_false, Bool.false_eq_true] at hc_))
      all_goals first | (exfalso; omega) | exact hno (by omega) | (apply hgo <;> omega)
  · have hi : i = l.length := by omega
    have c1 : decide ((i : Int) < l.length) = false := by simp; omega
    simp only [hlk, c1, cond_true, cond_false]
    have hq : linesAt p c l i = true := by
      unfold linesAt
      rw [eachAt_end _ _ _ _ (by omega)]
      cases l with
      | nil => simp
      | cons _ _ => simp at hi ⊢; left; omega
    exact leafR_exit [] (by simp [linesR_S, linesR_fin, hq, RT.val]) rfl
def linesR_d (env : Env RC) (os : List (Obj RC)) : Option (Bool × linesR_St) := match env, os with
  | [(0, .sl .line k l), (1, .int .i64 p), (2, .int .i64 c), (6, .bool false), (7, .int .i64 x0)], [] => staticD (true) (decide (x0 = 0) && decide (l.length ≤ 9223372036854775807), ⟨k, l, p, c, 0⟩)
  | _, _ => none
noncomputable def ug_5 := ug_4.addLoop 49 4 (sumR s05 [] [0, 1, 2, 6, 7] linesR_S linesR_d)
theorem ug_5_laws : FLaws Try.prog s05 ug_5 := by
  refine ug_4_laws.addRoundsR s05_laws (by kernel_rfl) linesR_S 60 [0, 1, 2, 6, 7] [6] [] [0, 1, 2, 6, 7] linesR_d (fun q hI => ?_) ?_
  · obtain ⟨k, l, p, c, i⟩ := q
    refine ⟨?_, ?_, linesR_round k l p c i hI⟩
    · simp_all [RefsOK, linesR_S, linesR_c, linesR_o, linesR_Inv, D.refs, Obj.refs, rEnc]
    · simp_all [linesR_S, linesR_fin, linesR_o, linesR_Inv, RT.refsOK, RefsOK, D.refs, Obj.refs, rEnc]
  · intro env os b q hd_ hb
    unfold linesR_d at hd_
    split at hd_
    · obtain ⟨hs, hd_⟩ := staticD_some hd_
      cases hd_
      simp only [Bool.and_eq_true, decide_eq_true_eq] at hb
      obtain ⟨rfl, hl⟩ := hb
      exact ⟨⟨Nat.zero_le _, hl⟩, rfl, rfl⟩
    · cases hd_
def linesRf_s (k : Bool) (l : List Line) (p : Int) (c : Int) : Option (Bool × D RC) := some (lenOK l.length, .bool (partOK p c l))
def linesRf_sp : List (D RC) → Option (Bool × D RC)
  | [.sl .line k l, .int .i64 p, .int .i64 c] => linesRf_s k l p c
  | _ => none
noncomputable def linesRf_e (k : Bool) (l : List Line) (p : Int) (c : Int) := evF s05 ug_5 40 49 [.sl (C := RC) .line k l, .int .i64 p, .int .i64 c]
theorem linesRf_eq (k : Bool) (l : List Line) (p : Int) (c : Int) : linesRf_e k l p c = (bif lenOK l.length then bif decide ((16 : Int) < (↑l.length : Int)) then some (D.bool false) else bif decide (c < (0 : Int)) then some (D.bool false) else bif decide (p < c) then some (D.bool false) else bif decide (List.length l ≤ (9223372036854775807 : Nat)) then bif linesAt p c l (0 : Nat) then some (D.bool true) else some (D.bool false) else none else none) := by kernel_rfl
theorem linesRf_ok (k : Bool) (l : List Line) (p : Int) (c : Int) (h : (lenOK l.length) = true) : linesRf_e k l p c = some (.bool (partOK p c l)) := by
  rw [linesRf_eq]
  have h2 : l.length ≤ 9223372036854775807 := lenOK_le h
  rw [partOK_eq, h]
  by_cases h4 : l.length ≤ 16
  · have a1 : ¬ (16 : Int) < l.length := by omega
    by_cases c0 : c < 0
    · have : ¬ 0 ≤ c := by omega
      simp [h4, h2, a1, c0, this]
    · have c0' : 0 ≤ c := by omega
      by_cases cp : p < c
      · have : ¬ c ≤ p := by omega
        simp [h4, h2, a1, c0, c0', cp, this]
      · have cp' : c ≤ p := by omega
        simp [h4, h2, a1, c0, c0', cp, cp']
        cases linesAt p c l 0 <;> rfl
  · have : (16 : Int) < l.length := by omega
    simp [h4, this]
noncomputable def ug_6 := ug_5.addSpec 49 linesRf_sp
theorem ug_6_laws : FLaws Try.prog s05 ug_6 := ug_5_laws.addEv s05_laws fun args d h => by
  unfold linesRf_sp at h
  split at h
  · unfold linesRf_s at h
    have h1 := congrArg Prod.fst (Option.some.inj h)
    obtain rfl : _ = d := congrArg Prod.snd (Option.some.inj h)
    exact ⟨by simp [D.refs], 40, linesRf_ok _ _ _ _ h1⟩
  · cases h
def standsR_s (p : Int) (ci : Bool) (items : List Item) (k0 : Bool) (k1 : Bool) (k2 : Bool) (l0 : List Line) (l1 : List Line) (l2 : List Line) (c0 : Int) (c1 : Int) (c2 : Int) : Option (Bool × D RC) := some (decide (items.length ≤ 9223372036854775807 ∧ l0.length ≤ 9223372036854775807 ∧ l1.length ≤ 9223372036854775807 ∧ l2.length ≤ 9223372036854775807), .bool (standsOK ⟨p, items, l0, l1, l2, c0, c1, c2⟩))
def standsR_sp : List (D RC) → Option (Bool × D RC)
  | [.acons (.int .i64 p) (.acons (.sl .item ci items) (.acons (.acons (.sl .line k0 l0) (.acons (.sl .line k1 l1) (.acons (.sl .line k2 l2) .anil))) (.acons (.arr .int 3 [c0, c1, c2]) .anil)))] => standsR_s p ci items k0 k1 k2 l0 l1 l2 c0 c1 c2
  | _ => none
noncomputable def standsR_e (p : Int) (ci : Bool) (items : List Item) (k0 : Bool) (k1 : Bool) (k2 : Bool) (l0 : List Line) (l1 : List Line) (l2 : List Line) (c0 : Int) (c1 : Int) (c2 : Int) := evF s05 ug_6 40 28 [.acons (.int .i64 p) (.acons (.sl (C := RC) .item ci items) (.acons (.acons (.sl (C := RC) .line k0 l0) (.acons (.sl (C := RC) .line k1 l1) (.acons (.sl (C := RC) .line k2 l2) .anil))) (.acons (.arr (C := RC) .int 3 [c0, c1, c2]) .anil)))]
theorem standsR_eq (p : Int) (ci : Bool) (items : List Item) (k0 : Bool) (k1 : Bool) (k2 : Bool) (l0 : List Line) (l1 : List Line) (l2 : List Line) (c0 : Int) (c1 : Int) (c2 : Int) : standsR_e p ci items k0 k1 k2 l0 l1 l2 c0 c1 c2 = (bif decide (p < (0 : Int)) then some (D.bool false) else bif decide ((1048575 : Int) < p) then some (D.bool false) else bif decide (List.length items ≤ (9223372036854775807 : Nat)) then bif eachAt (oneIB p) twoIB items (0 : Nat) then bif lenOK l0.length then bif !partOK p c0 l0 then some (D.bool false) else bif lenOK l1.length then bif !partOK p c1 l1 then some (D.bool false) else bif lenOK l2.length then bif !partOK p c2 l2 then some (D.bool false) else some (D.bool true) else none else none else none else some (D.bool false) else none) := by kernel_rfl
theorem standsR_ok (p : Int) (ci : Bool) (items : List Item) (k0 : Bool) (k1 : Bool) (k2 : Bool) (l0 : List Line) (l1 : List Line) (l2 : List Line) (c0 : Int) (c1 : Int) (c2 : Int) (h : (decide (items.length ≤ 9223372036854775807 ∧ l0.length ≤ 9223372036854775807 ∧ l1.length ≤ 9223372036854775807 ∧ l2.length ≤ 9223372036854775807)) = true) : standsR_e p ci items k0 k1 k2 l0 l1 l2 c0 c1 c2 = some (.bool (standsOK ⟨p, items, l0, l1, l2, c0, c1, c2⟩)) := by
  rw [standsR_eq]
  obtain ⟨h, h0, h1, h2⟩ := of_decide_eq_true h
  simp only [standsOK, lenOK_of h, lenOK_of h0, lenOK_of h1, lenOK_of h2, h, decide_true, cond_true]
  have e1 : decide (0 ≤ p) = !decide (p < 0) := by by_cases h : p < 0 <;> simp [h] <;> omega
  have e2 : decide (p ≤ 1048575) = !decide (1048575 < p) := by by_cases h : 1048575 < p <;> simp [h] <;> omega
  simp only [withinB, e1, e2]
  generalize decide (p < 0) = x1
  generalize decide (1048575 < p) = x2
  generalize eachAt (oneIB p) twoIB items 0 = x3
  generalize partOK p c0 l0 = x4
  generalize partOK p c1 l1 = x5
  generalize partOK p c2 l2 = x6
  cases x1 <;> cases x2 <;> cases x3 <;> cases x4 <;> cases x5 <;> cases x6 <;> rfl
noncomputable def ug_7 := ug_6.addSpec 28 standsR_sp
theorem ug_7_laws : FLaws Try.prog s05 ug_7 := ug_6_laws.addEv s05_laws fun args d h => by
  unfold standsR_sp at h
  split at h
  · unfold standsR_s at h
    have h1 := congrArg Prod.fst (Option.some.inj h)
    obtain rfl : _ = d := congrArg Prod.snd (Option.some.inj h)
    exact ⟨by simp [D.refs], 40, standsR_ok _ _ _ _ _ _ _ _ _ _ _ _ h1⟩
  · cases h
open Go.Proofs
structure equalW_St where
  c : Bool
  l : List Write
  d : Bool
  m : List Write
  i : Nat
def equalW_c (c : Bool) (l : List Write) (d : Bool) (m : List Write) (i : Nat) : Env RC := [(0, .sl (C := RC) .write c l), (1, .sl (C := RC) .write d m), (4, .bool false), (12, .int .i64 (l.length)), (13, .int .i64 (i : Int))]
def equalW_o (c : Bool) (l : List Write) (d : Bool) (m : List Write) (i : Nat) : List (Obj RC) := []
noncomputable def equalW_r (c : Bool) (l : List Write) (d : Bool) (m : List Write) (i : Nat) := rndO s05 ug_7 50 4 40 0 [0, 1, 4, 12, 13] [4] [] (equalW_c c l d m i) (equalW_o c l d m i)
theorem equalW_eq (c : Bool) (l : List Write) (d : Bool) (m : List Write) (i : Nat) : equalW_r c l d m i = (bif decide ((↑i : Int) < (↑l.length : Int)) then bif decide ((0 : Int) ≤ (↑i : Int) ∧ (↑i : Int) < (↑l.length : Int)) then bif decide ((0 : Int) ≤ (↑i : Int) ∧ (↑i : Int) < (↑m.length : Int)) then bif !(Write.key (List.getD l (↑i : Int).toNat (Write.mk (0 : Int) (0 : Int))) == Write.key (List.getD m (↑i : Int).toNat (Write.mk (0 : Int) (0 : Int))) && (Write.value (List.getD l (↑i : Int).toNat (Write.mk (0 : Int) (0 : Int))) == Write.value (List.getD m (↑i : Int).toNat (Write.mk (0 : Int) (0 : Int))) && true)) then some ((X.ret, [((4 : Nat), D.bool false)]), []) else some ((X.normal, [((0 : Nat), D.sl RTy.write c l), ((1 : Nat), D.sl RTy.write d m), ((4 : Nat), D.bool false), ((12 : Nat), D.int .i64 (↑l.length : Int)), ((13 : Nat), D.int .i64 (IntKind.wrap .i64 ((↑i : Int) + (1 : Int))))]), []) else none else none else some ((X.exit (0 : Nat), [((4 : Nat), D.bool false)]), [])) := by kernel_rfl
def equalW_fin (c : Bool) (l : List Write) (d : Bool) (m : List Write) (i : Nat) : RT RC := .br (decide (l.drop i = m.drop i)) (.leaf (.exit 0) [(4, .bool false)] []) (.leaf .ret [(4, .bool false)] [])
def equalW_Inv (c : Bool) (l : List Write) (d : Bool) (m : List Write) (i : Nat) : Prop := i ≤ l.length ∧ l.length ≤ 9223372036854775807 ∧ l.length = m.length
def equalW_S : LoopR RC equalW_St where
  k := 0
  canon q := equalW_c q.c q.l q.d q.m q.i
  objs q := equalW_o q.c q.l q.d q.m q.i
  fin q := equalW_fin q.c q.l q.d q.m q.i
  Inv q := equalW_Inv q.c q.l q.d q.m q.i
  μ q := q.l.length - q.i
theorem equalW_round (c : Bool) (l : List Write) (d : Bool) (m : List Write) (i : Nat) (hI : equalW_Inv c l d m i) : Leaf (equalW_r c l d m i) (LedR equalW_S ⟨c, l, d, m, i⟩) := by
  rw [equalW_eq]
  unfold equalW_Inv at hI
  obtain ⟨h1, h2, h3⟩ := hI
  have hlk := lenOK_of h2
  by_cases hlt : i < l.length
  · have w_succ : IntKind.i64.wrap ((i : Int) + 1) = ((i + 1 : Nat) : Int) := by rw [wrap_id (by omega) (by omega)]; simp
    have d_lt : decide ((i : Int) < l.length) = true := by simp; omega
    have d_in : decide (0 ≤ (i : Int) ∧ (i : Int) < l.length) = true := by simp; omega
    have t_nat : ((i : Int)).toNat = i := by simp
    simp only [w_succ, d_lt, d_in, t_nat, cond_true]
    have hlt' : i < m.length := by omega
    have d_in' : decide (0 ≤ (i : Int) ∧ (i : Int) < m.length) = true := by simp; omega
    have hst := drops_step l m i (⟨0, 0⟩ : Write) hlt h3
    simp only [d_in', cond_true, eqWrite]
    generalize l.getD i (⟨0, 0⟩ : Write) = x at hst ⊢
    generalize m.getD i (⟨0, 0⟩ : Write) = y at hst ⊢
    by_cases hxy : x = y
    · simp only [hxy, decide_true, Bool.not_true, cond_false]
      exact leafR_go ⟨c, l, d, m, i + 1⟩ ⟨hlt, h2, h3⟩ (by simp only [equalW_S]; omega) (by simp only [equalW_S, equalW_fin, hst, hxy, decide_true, Bool.true_and]) rfl rfl
    · simp only [hxy, decide_false, Bool.not_false, cond_true]
      exact leafR_ret [] (by simp [equalW_S, equalW_fin, hst, hxy, RT.val]) rfl
  · have hi : i = l.length := by omega
    have c1 : decide ((i : Int) < l.length) = false := by simp; omega
    simp only [c1, cond_false]
    exact leafR_exit [] (by simp only [equalW_S, equalW_fin, drops_end l m i (by omega) (by omega), RT.val, cond_true]) rfl
def equalW_d (env : Env RC) (os : List (Obj RC)) : Option (Bool × equalW_St) := match env, os with
  | [(0, .sl .write c l), (1, .sl .write d m), (4, .bool false), (12, .int .i64 x0), (13, .int .i64 x1)], [] => staticD (true) (decide (x0 = l.length) && decide (x1 = 0) && decide (l.length ≤ 9223372036854775807 ∧ l.length = m.length), ⟨c, l, d, m, 0⟩)
  | _, _ => none
noncomputable def uh_1 := ug_7.addLoop 50 4 (sumR s05 [] [0, 1, 4, 12, 13] equalW_S equalW_d)
theorem uh_1_laws : FLaws Try.prog s05 uh_1 := by
  refine ug_7_laws.addRoundsR s05_laws (by kernel_rfl) equalW_S 40 [0, 1, 4, 12, 13] [4] [] [0, 1, 4, 12, 13] equalW_d (fun q hI => ?_) ?_
  · obtain ⟨c, l, d, m, i⟩ := q
    refine ⟨?_, ?_, equalW_round c l d m i hI⟩
    · simp_all [RefsOK, equalW_S, equalW_c, equalW_o, equalW_Inv, D.refs, Obj.refs, rEnc]
    · simp_all [equalW_S, equalW_fin, equalW_o, equalW_Inv, RT.refsOK, RefsOK, D.refs, Obj.refs, rEnc]
  · intro env os b q hd_ hb
    unfold equalW_d at hd_
    split at hd_
    · obtain ⟨hs, hd_⟩ := staticD_some hd_
      cases hd_
      simp only [Bool.and_eq_true, decide_eq_true_eq] at hb
      obtain ⟨⟨rfl, rfl⟩, hl⟩ := hb
      exact ⟨⟨Nat.zero_le _, hl.1, hl.2⟩, rfl, rfl⟩
    · cases hd_
def equalWf_s (c : Bool) (l : List Write) (d : Bool) (m : List Write) : Option (Bool × D RC) := some (lenOK l.length && lenOK m.length, .bool (decide (l = m)))
def equalWf_sp : List (D RC) → Option (Bool × D RC)
  | [.sl .write c l, .sl .write d m] => equalWf_s c l d m
  | _ => none
noncomputable def equalWf_e (c : Bool) (l : List Write) (d : Bool) (m : List Write) := evF s05 uh_1 40 50 [.sl (C := RC) .write c l, .sl (C := RC) .write d m]
theorem equalWf_eq (c : Bool) (l : List Write) (d : Bool) (m : List Write) : equalWf_e c l d m = (bif lenOK l.length then bif lenOK m.length then bif (↑l.length : Int) != (↑m.length : Int) then some (D.bool false) else bif lenOK l.length then bif decide ((↑l.length : Int) = (↑l.length : Int)) && true && decide (List.length l ≤ (9223372036854775807 : Nat) ∧ List.length l = List.length m) then bif decide (List.drop (0 : Nat) l = List.drop (0 : Nat) m) then some (D.bool true) else some (D.bool false) else none else none else none else none) := by kernel_rfl
theorem equalWf_ok (c : Bool) (l : List Write) (d : Bool) (m : List Write) (h : (lenOK l.length && lenOK m.length) = true) : equalWf_e c l d m = some (.bool (decide (l = m))) := by
  rw [equalWf_eq]
  simp only [Bool.and_eq_true] at h
  have h1 : l.length ≤ 9223372036854775807 := lenOK_le h.1
  simp only [h.1, h.2, cond_true]
  by_cases hl : l.length = m.length
  · have e1 : ((l.length : Int) != (m.length : Int)) = false := by simp [hl]
    have e2 : (l.length ≤ 9223372036854775807 ∧ l.length = m.length) := ⟨h1, hl⟩
    rw [e1, decide_eq_true e2]
    simp only [cond_true, cond_false, List.drop_zero]
    cases decide (l = m) <;> rfl
  · have e1 : ((l.length : Int) != (m.length : Int)) = true := by simp; omega
    have : ¬ l = m := fun e => hl (by rw [e])
    simp [e1, this]
noncomputable def uh_2 := uh_1.addSpec 50 equalWf_sp
theorem uh_2_laws : FLaws Try.prog s05 uh_2 := uh_1_laws.addEv s05_laws fun args d h => by
  unfold equalWf_sp at h
  split at h
  · unfold equalWf_s at h
    have h1 := congrArg Prod.fst (Option.some.inj h)
    obtain rfl : _ = d := congrArg Prod.snd (Option.some.inj h)
    exact ⟨by simp [D.refs], 40, equalWf_ok _ _ _ _ h1⟩
  · cases h
structure equalL_St where
  c : Bool
  l : List Line
  d : Bool
  m : List Line
  i : Nat
def equalL_c (c : Bool) (l : List Line) (d : Bool) (m : List Line) (i : Nat) : Env RC := [(0, .sl (C := RC) .line c l), (1, .sl (C := RC) .line d m), (4, .bool false), (12, .int .i64 (l.length)), (13, .int .i64 (i : Int))]
def equalL_o (c : Bool) (l : List Line) (d : Bool) (m : List Line) (i : Nat) : List (Obj RC) := []
noncomputable def equalL_r (c : Bool) (l : List Line) (d : Bool) (m : List Line) (i : Nat) := rndO s05 uh_2 51 4 40 0 [0, 1, 4, 12, 13] [4] [] (equalL_c c l d m i) (equalL_o c l d m i)
theorem equalL_eq (c : Bool) (l : List Line) (d : Bool) (m : List Line) (i : Nat) : equalL_r c l d m i = (bif decide ((↑i : Int) < (↑l.length : Int)) then bif decide ((0 : Int) ≤ (↑i : Int) ∧ (↑i : Int) < (↑l.length : Int)) then bif decide ((0 : Int) ≤ (↑i : Int) ∧ (↑i : Int) < (↑m.length : Int)) then bif !(Line.offset (List.getD l (↑i : Int).toNat (Line.mk (0 : Int) (0 : Int) (0 : Int) (0 : Int) (0 : Int))) == Line.offset (List.getD m (↑i : Int).toNat (Line.mk (0 : Int) (0 : Int) (0 : Int) (0 : Int) (0 : Int))) && (Line.place (List.getD l (↑i : Int).toNat (Line.mk (0 : Int) (0 : Int) (0 : Int) (0 : Int) (0 : Int))) == Line.place (List.getD m (↑i : Int).toNat (Line.mk (0 : Int) (0 : Int) (0 : Int) (0 : Int) (0 : Int))) && (Line.j (List.getD l (↑i : Int).toNat (Line.mk (0 : Int) (0 : Int) (0 : Int) (0 : Int) (0 : Int))) == Line.j (List.getD m (↑i : Int).toNat (Line.mk (0 : Int) (0 : Int) (0 : Int) (0 : Int) (0 : Int))) && (Line.key (List.getD l (↑i : Int).toNat (Line.mk (0 : Int) (0 : Int) (0 : Int) (0 : Int) (0 : Int))) == Line.key (List.getD m (↑i : Int).toNat (Line.mk (0 : Int) (0 : Int) (0 : Int) (0 : Int) (0 : Int))) && (Line.value (List.getD l (↑i : Int).toNat (Line.mk (0 : Int) (0 : Int) (0 : Int) (0 : Int) (0 : Int))) == Line.value (List.getD m (↑i : Int).toNat (Line.mk (0 : Int) (0 : Int) (0 : Int) (0 : Int) (0 : Int))) && true))))) then some ((X.ret, [((4 : Nat), D.bool false)]), []) else some ((X.normal, [((0 : Nat), D.sl RTy.line c l), ((1 : Nat), D.sl RTy.line d m), ((4 : Nat), D.bool false), ((12 : Nat), D.int .i64 (↑l.length : Int)), ((13 : Nat), D.int .i64 (IntKind.wrap .i64 ((↑i : Int) + (1 : Int))))]), []) else none else none else some ((X.exit (0 : Nat), [((4 : Nat), D.bool false)]), [])) := by kernel_rfl
def equalL_fin (c : Bool) (l : List Line) (d : Bool) (m : List Line) (i : Nat) : RT RC := .br (decide (l.drop i = m.drop i)) (.leaf (.exit 0) [(4, .bool false)] []) (.leaf .ret [(4, .bool false)] [])
def equalL_Inv (c : Bool) (l : List Line) (d : Bool) (m : List Line) (i : Nat) : Prop := i ≤ l.length ∧ l.length ≤ 9223372036854775807 ∧ l.length = m.length
def equalL_S : LoopR RC equalL_St where
  k := 0
  canon q := equalL_c q.c q.l q.d q.m q.i
  objs q := equalL_o q.c q.l q.d q.m q.i
  fin q := equalL_fin q.c q.l q.d q.m q.i
  Inv q := equalL_Inv q.c q.l q.d q.m q.i
  μ q := q.l.length - q.i
theorem equalL_round (c : Bool) (l : List Line) (d : Bool) (m : List Line) (i : Nat) (hI : equalL_Inv c l d m i) : Leaf (equalL_r c l d m i) (LedR equalL_S ⟨c, l, d, m, i⟩) := by
  rw [equalL_eq]
  unfold equalL_Inv at hI
  obtain ⟨h1, h2, h3⟩ := hI
  have hlk := lenOK_of h2
  by_cases hlt : i < l.length
  · have w_succ : IntKind.i64.wrap ((i : Int) + 1) = ((i + 1 : Nat) : Int) := by rw [wrap_id (by omega) (by omega)]; simp
    have d_lt : decide ((i : Int) < l.length) = true := by simp; omega
    have d_in : decide (0 ≤ (i : Int) ∧ (i : Int) < l.length) = true := by simp; omega
    have t_nat : ((i : Int)).toNat = i := by simp
    simp only [w_succ, d_lt, d_in, t_nat, cond_true]
    have hlt' : i < m.length := by omega
    have d_in' : decide (0 ≤ (i : Int) ∧ (i : Int) < m.length) = true := by simp; omega
    have hst := drops_step l m i (⟨0, 0, 0, 0, 0⟩ : Line) hlt h3
    simp only [d_in', cond_true, eqLine]
    generalize l.getD i (⟨0, 0, 0, 0, 0⟩ : Line) = x at hst ⊢
    generalize m.getD i (⟨0, 0, 0, 0, 0⟩ : Line) = y at hst ⊢
    by_cases hxy : x = y
    · simp only [hxy, decide_true, Bool.not_true, cond_false]
      exact leafR_go ⟨c, l, d, m, i + 1⟩ ⟨hlt, h2, h3⟩ (by simp only [equalL_S]; omega) (by simp only [equalL_S, equalL_fin, hst, hxy, decide_true, Bool.true_and]) rfl rfl
    · simp only [hxy, decide_false, Bool.not_false, cond_true]
      exact leafR_ret [] (by simp [equalL_S, equalL_fin, hst, hxy, RT.val]) rfl
  · have hi : i = l.length := by omega
    have c1 : decide ((i : Int) < l.length) = false := by simp; omega
    simp only [c1, cond_false]
    exact leafR_exit [] (by simp only [equalL_S, equalL_fin, drops_end l m i (by omega) (by omega), RT.val, cond_true]) rfl
def equalL_d (env : Env RC) (os : List (Obj RC)) : Option (Bool × equalL_St) := match env, os with
  | [(0, .sl .line c l), (1, .sl .line d m), (4, .bool false), (12, .int .i64 x0), (13, .int .i64 x1)], [] => staticD (true) (decide (x0 = l.length) && decide (x1 = 0) && decide (l.length ≤ 9223372036854775807 ∧ l.length = m.length), ⟨c, l, d, m, 0⟩)
  | _, _ => none
noncomputable def uh_3 := uh_2.addLoop 51 4 (sumR s05 [] [0, 1, 4, 12, 13] equalL_S equalL_d)
theorem uh_3_laws : FLaws Try.prog s05 uh_3 := by
  refine uh_2_laws.addRoundsR s05_laws (by kernel_rfl) equalL_S 40 [0, 1, 4, 12, 13] [4] [] [0, 1, 4, 12, 13] equalL_d (fun q hI => ?_) ?_
  · obtain ⟨c, l, d, m, i⟩ := q
    refine ⟨?_, ?_, equalL_round c l d m i hI⟩
    · simp_all [RefsOK, equalL_S, equalL_c, equalL_o, equalL_Inv, D.refs, Obj.refs, rEnc]
    · simp_all [equalL_S, equalL_fin, equalL_o, equalL_Inv, RT.refsOK, RefsOK, D.refs, Obj.refs, rEnc]
  · intro env os b q hd_ hb
    unfold equalL_d at hd_
    split at hd_
    · obtain ⟨hs, hd_⟩ := staticD_some hd_
      cases hd_
      simp only [Bool.and_eq_true, decide_eq_true_eq] at hb
      obtain ⟨⟨rfl, rfl⟩, hl⟩ := hb
      exact ⟨⟨Nat.zero_le _, hl.1, hl.2⟩, rfl, rfl⟩
    · cases hd_
def equalLf_s (c : Bool) (l : List Line) (d : Bool) (m : List Line) : Option (Bool × D RC) := some (lenOK l.length && lenOK m.length, .bool (decide (l = m)))
def equalLf_sp : List (D RC) → Option (Bool × D RC)
  | [.sl .line c l, .sl .line d m] => equalLf_s c l d m
  | _ => none
noncomputable def equalLf_e (c : Bool) (l : List Line) (d : Bool) (m : List Line) := evF s05 uh_3 40 51 [.sl (C := RC) .line c l, .sl (C := RC) .line d m]
theorem equalLf_eq (c : Bool) (l : List Line) (d : Bool) (m : List Line) : equalLf_e c l d m = (bif lenOK l.length then bif lenOK m.length then bif (↑l.length : Int) != (↑m.length : Int) then some (D.bool false) else bif lenOK l.length then bif decide ((↑l.length : Int) = (↑l.length : Int)) && true && decide (List.length l ≤ (9223372036854775807 : Nat) ∧ List.length l = List.length m) then bif decide (List.drop (0 : Nat) l = List.drop (0 : Nat) m) then some (D.bool true) else some (D.bool false) else none else none else none else none) := by kernel_rfl
theorem equalLf_ok (c : Bool) (l : List Line) (d : Bool) (m : List Line) (h : (lenOK l.length && lenOK m.length) = true) : equalLf_e c l d m = some (.bool (decide (l = m))) := by
  rw [equalLf_eq]
  simp only [Bool.and_eq_true] at h
  have h1 : l.length ≤ 9223372036854775807 := lenOK_le h.1
  simp only [h.1, h.2, cond_true]
  by_cases hl : l.length = m.length
  · have e1 : ((l.length : Int) != (m.length : Int)) = false := by simp [hl]
    have e2 : (l.length ≤ 9223372036854775807 ∧ l.length = m.length) := ⟨h1, hl⟩
    rw [e1, decide_eq_true e2]
    simp only [cond_true, cond_false, List.drop_zero]
    cases decide (l = m) <;> rfl
  · have e1 : ((l.length : Int) != (m.length : Int)) = true := by simp; omega
    have : ¬ l = m := fun e => hl (by rw [e])
    simp [e1, this]
noncomputable def uh_4 := uh_3.addSpec 51 equalLf_sp
theorem uh_4_laws : FLaws Try.prog s05 uh_4 := uh_3_laws.addEv s05_laws fun args d h => by
  unfold equalLf_sp at h
  split at h
  · unfold equalLf_s at h
    have h1 := congrArg Prod.fst (Option.some.inj h)
    obtain rfl : _ = d := congrArg Prod.snd (Option.some.inj h)
    exact ⟨by simp [D.refs], 40, equalLf_ok _ _ _ _ h1⟩
  · cases h
structure equalI_St where
  c : Bool
  l : List Item
  d : Bool
  m : List Item
  i : Nat
def equalI_c (c : Bool) (l : List Item) (d : Bool) (m : List Item) (i : Nat) : Env RC := [(0, .sl (C := RC) .item c l), (1, .sl (C := RC) .item d m), (4, .bool false), (12, .int .i64 (l.length)), (13, .int .i64 (i : Int))]
def equalI_o (c : Bool) (l : List Item) (d : Bool) (m : List Item) (i : Nat) : List (Obj RC) := []
noncomputable def equalI_r (c : Bool) (l : List Item) (d : Bool) (m : List Item) (i : Nat) := rndO s05 uh_4 52 4 40 0 [0, 1, 4, 12, 13] [4] [] (equalI_c c l d m i) (equalI_o c l d m i)
theorem equalI_eq (c : Bool) (l : List Item) (d : Bool) (m : List Item) (i : Nat) : equalI_r c l d m i = (bif decide ((↑i : Int) < (↑l.length : Int)) then bif decide ((0 : Int) ≤ (↑i : Int) ∧ (↑i : Int) < (↑l.length : Int)) then bif decide ((0 : Int) ≤ (↑i : Int) ∧ (↑i : Int) < (↑m.length : Int)) then bif !(Item.key (List.getD l (↑i : Int).toNat (Item.mk (0 : Int) (0 : Int) (0 : Int))) == Item.key (List.getD m (↑i : Int).toNat (Item.mk (0 : Int) (0 : Int) (0 : Int))) && (Item.place (List.getD l (↑i : Int).toNat (Item.mk (0 : Int) (0 : Int) (0 : Int))) == Item.place (List.getD m (↑i : Int).toNat (Item.mk (0 : Int) (0 : Int) (0 : Int))) && (Item.value (List.getD l (↑i : Int).toNat (Item.mk (0 : Int) (0 : Int) (0 : Int))) == Item.value (List.getD m (↑i : Int).toNat (Item.mk (0 : Int) (0 : Int) (0 : Int))) && true))) then some ((X.ret, [((4 : Nat), D.bool false)]), []) else some ((X.normal, [((0 : Nat), D.sl RTy.item c l), ((1 : Nat), D.sl RTy.item d m), ((4 : Nat), D.bool false), ((12 : Nat), D.int .i64 (↑l.length : Int)), ((13 : Nat), D.int .i64 (IntKind.wrap .i64 ((↑i : Int) + (1 : Int))))]), []) else none else none else some ((X.exit (0 : Nat), [((4 : Nat), D.bool false)]), [])) := by kernel_rfl
def equalI_fin (c : Bool) (l : List Item) (d : Bool) (m : List Item) (i : Nat) : RT RC := .br (decide (l.drop i = m.drop i)) (.leaf (.exit 0) [(4, .bool false)] []) (.leaf .ret [(4, .bool false)] [])
def equalI_Inv (c : Bool) (l : List Item) (d : Bool) (m : List Item) (i : Nat) : Prop := i ≤ l.length ∧ l.length ≤ 9223372036854775807 ∧ l.length = m.length
def equalI_S : LoopR RC equalI_St where
  k := 0
  canon q := equalI_c q.c q.l q.d q.m q.i
  objs q := equalI_o q.c q.l q.d q.m q.i
  fin q := equalI_fin q.c q.l q.d q.m q.i
  Inv q := equalI_Inv q.c q.l q.d q.m q.i
  μ q := q.l.length - q.i
theorem equalI_round (c : Bool) (l : List Item) (d : Bool) (m : List Item) (i : Nat) (hI : equalI_Inv c l d m i) : Leaf (equalI_r c l d m i) (LedR equalI_S ⟨c, l, d, m, i⟩) := by
  rw [equalI_eq]
  unfold equalI_Inv at hI
  obtain ⟨h1, h2, h3⟩ := hI
  have hlk := lenOK_of h2
  by_cases hlt : i < l.length
  · have w_succ : IntKind.i64.wrap ((i : Int) + 1) = ((i + 1 : Nat) : Int) := by rw [wrap_id (by omega) (by omega)]; simp
    have d_lt : decide ((i : Int) < l.length) = true := by simp; omega
    have d_in : decide (0 ≤ (i : Int) ∧ (i : Int) < l.length) = true := by simp; omega
    have t_nat : ((i : Int)).toNat = i := by simp
    simp only [w_succ, d_lt, d_in, t_nat, cond_true]
    have hlt' : i < m.length := by omega
    have d_in' : decide (0 ≤ (i : Int) ∧ (i : Int) < m.length) = true := by simp; omega
    have hst := drops_step l m i (⟨0, 0, 0⟩ : Item) hlt h3
    simp only [d_in', cond_true, eqItem]
    generalize l.getD i (⟨0, 0, 0⟩ : Item) = x at hst ⊢
    generalize m.getD i (⟨0, 0, 0⟩ : Item) = y at hst ⊢
    by_cases hxy : x = y
    · simp only [hxy, decide_true, Bool.not_true, cond_false]
      exact leafR_go ⟨c, l, d, m, i + 1⟩ ⟨hlt, h2, h3⟩ (by simp only [equalI_S]; omega) (by simp only [equalI_S, equalI_fin, hst, hxy, decide_true, Bool.true_and]) rfl rfl
    · simp only [hxy, decide_false, Bool.not_false, cond_true]
      exact leafR_ret [] (by simp [equalI_S, equalI_fin, hst, hxy, RT.val]) rfl
  · have hi : i = l.length := by omega
    have c1 : decide ((i : Int) < l.length) = false := by simp; omega
    simp only [c1, cond_false]
    exact leafR_exit [] (by simp only [equalI_S, equalI_fin, drops_end l m i (by omega) (by omega), RT.val, cond_true]) rfl
def equalI_d (env : Env RC) (os : List (Obj RC)) : Option (Bool × equalI_St) := match env, os with
  | [(0, .sl .item c l), (1, .sl .item d m), (4, .bool false), (12, .int .i64 x0), (13, .int .i64 x1)], [] => staticD (true) (decide (x0 = l.length) && decide (x1 = 0) && decide (l.length ≤ 9223372036854775807 ∧ l.length = m.length), ⟨c, l, d, m, 0⟩)
  | _, _ => none
noncomputable def uh_5 := uh_4.addLoop 52 4 (sumR s05 [] [0, 1, 4, 12, 13] equalI_S equalI_d)
theorem uh_5_laws : FLaws Try.prog s05 uh_5 := by
  refine uh_4_laws.addRoundsR s05_laws (by kernel_rfl) equalI_S 40 [0, 1, 4, 12, 13] [4] [] [0, 1, 4, 12, 13] equalI_d (fun q hI => ?_) ?_
  · obtain ⟨c, l, d, m, i⟩ := q
    refine ⟨?_, ?_, equalI_round c l d m i hI⟩
    · simp_all [RefsOK, equalI_S, equalI_c, equalI_o, equalI_Inv, D.refs, Obj.refs, rEnc]
    · simp_all [equalI_S, equalI_fin, equalI_o, equalI_Inv, RT.refsOK, RefsOK, D.refs, Obj.refs, rEnc]
  · intro env os b q hd_ hb
    unfold equalI_d at hd_
    split at hd_
    · obtain ⟨hs, hd_⟩ := staticD_some hd_
      cases hd_
      simp only [Bool.and_eq_true, decide_eq_true_eq] at hb
      obtain ⟨⟨rfl, rfl⟩, hl⟩ := hb
      exact ⟨⟨Nat.zero_le _, hl.1, hl.2⟩, rfl, rfl⟩
    · cases hd_
def equalIf_s (c : Bool) (l : List Item) (d : Bool) (m : List Item) : Option (Bool × D RC) := some (lenOK l.length && lenOK m.length, .bool (decide (l = m)))
def equalIf_sp : List (D RC) → Option (Bool × D RC)
  | [.sl .item c l, .sl .item d m] => equalIf_s c l d m
  | _ => none
noncomputable def equalIf_e (c : Bool) (l : List Item) (d : Bool) (m : List Item) := evF s05 uh_5 40 52 [.sl (C := RC) .item c l, .sl (C := RC) .item d m]
theorem equalIf_eq (c : Bool) (l : List Item) (d : Bool) (m : List Item) : equalIf_e c l d m = (bif lenOK l.length then bif lenOK m.length then bif (↑l.length : Int) != (↑m.length : Int) then some (D.bool false) else bif lenOK l.length then bif decide ((↑l.length : Int) = (↑l.length : Int)) && true && decide (List.length l ≤ (9223372036854775807 : Nat) ∧ List.length l = List.length m) then bif decide (List.drop (0 : Nat) l = List.drop (0 : Nat) m) then some (D.bool true) else some (D.bool false) else none else none else none else none) := by kernel_rfl
theorem equalIf_ok (c : Bool) (l : List Item) (d : Bool) (m : List Item) (h : (lenOK l.length && lenOK m.length) = true) : equalIf_e c l d m = some (.bool (decide (l = m))) := by
  rw [equalIf_eq]
  simp only [Bool.and_eq_true] at h
  have h1 : l.length ≤ 9223372036854775807 := lenOK_le h.1
  simp only [h.1, h.2, cond_true]
  by_cases hl : l.length = m.length
  · have e1 : ((l.length : Int) != (m.length : Int)) = false := by simp [hl]
    have e2 : (l.length ≤ 9223372036854775807 ∧ l.length = m.length) := ⟨h1, hl⟩
    rw [e1, decide_eq_true e2]
    simp only [cond_true, cond_false, List.drop_zero]
    cases decide (l = m) <;> rfl
  · have e1 : ((l.length : Int) != (m.length : Int)) = true := by simp; omega
    have : ¬ l = m := fun e => hl (by rw [e])
    simp [e1, this]
noncomputable def uh_6 := uh_5.addSpec 52 equalIf_sp
theorem uh_6_laws : FLaws Try.prog s05 uh_6 := uh_5_laws.addEv s05_laws fun args d h => by
  unfold equalIf_sp at h
  split at h
  · unfold equalIf_s at h
    have h1 := congrArg Prod.fst (Option.some.inj h)
    obtain rfl : _ = d := congrArg Prod.snd (Option.some.inj h)
    exact ⟨by simp [D.refs], 40, equalIf_ok _ _ _ _ h1⟩
  · cases h
structure sameLinesR_St where
  c : Bool
  l : List Line
  d : Bool
  m : List Line
  i : Nat
def sameLinesR_c (c : Bool) (l : List Line) (d : Bool) (m : List Line) (i : Nat) : Env RC := [(0, .sl (C := RC) .line c l), (1, .sl (C := RC) .line d m), (4, .bool false), (5, .int .i64 (i : Int))]
def sameLinesR_o (c : Bool) (l : List Line) (d : Bool) (m : List Line) (i : Nat) : List (Obj RC) := []
noncomputable def sameLinesR_r (c : Bool) (l : List Line) (d : Bool) (m : List Line) (i : Nat) := rndO s05 uh_6 46 4 40 0 [0, 1, 4, 5] [4] [] (sameLinesR_c c l d m i) (sameLinesR_o c l d m i)
theorem sameLinesR_eq (c : Bool) (l : List Line) (d : Bool) (m : List Line) (i : Nat) : sameLinesR_r c l d m i = (bif lenOK l.length then bif decide ((↑i : Int) < (↑l.length : Int)) then bif decide ((0 : Int) ≤ (↑i : Int) ∧ (↑i : Int) < (↑l.length : Int)) then bif decide ((0 : Int) ≤ (↑i : Int) ∧ (↑i : Int) < (↑m.length : Int)) then bif !(Line.offset (List.getD l (↑i : Int).toNat (Line.mk (0 : Int) (0 : Int) (0 : Int) (0 : Int) (0 : Int))) == Line.offset (List.getD m (↑i : Int).toNat (Line.mk (0 : Int) (0 : Int) (0 : Int) (0 : Int) (0 : Int))) && (Line.place (List.getD l (↑i : Int).toNat (Line.mk (0 : Int) (0 : Int) (0 : Int) (0 : Int) (0 : Int))) == Line.place (List.getD m (↑i : Int).toNat (Line.mk (0 : Int) (0 : Int) (0 : Int) (0 : Int) (0 : Int))) && (Line.j (List.getD l (↑i : Int).toNat (Line.mk (0 : Int) (0 : Int) (0 : Int) (0 : Int) (0 : Int))) == Line.j (List.getD m (↑i : Int).toNat (Line.mk (0 : Int) (0 : Int) (0 : Int) (0 : Int) (0 : Int))) && (Line.key (List.getD l (↑i : Int).toNat (Line.mk (0 : Int) (0 : Int) (0 : Int) (0 : Int) (0 : Int))) == Line.key (List.getD m (↑i : Int).toNat (Line.mk (0 : Int) (0 : Int) (0 : Int) (0 : Int) (0 : Int))) && (Line.value (List.getD l (↑i : Int).toNat (Line.mk (0 : Int) (0 : Int) (0 : Int) (0 : Int) (0 : Int))) == Line.value (List.getD m (↑i : Int).toNat (Line.mk (0 : Int) (0 : Int) (0 : Int) (0 : Int) (0 : Int))) && true))))) then some ((X.ret, [((4 : Nat), D.bool false)]), []) else some ((X.normal, [((0 : Nat), D.sl RTy.line c l), ((1 : Nat), D.sl RTy.line d m), ((4 : Nat), D.bool false), ((5 : Nat), D.int .i64 (IntKind.wrap .i64 ((↑i : Int) + (1 : Int))))]), []) else none else none else some ((X.exit (0 : Nat), [((4 : Nat), D.bool false)]), []) else none) := by kernel_rfl
def sameLinesR_fin (c : Bool) (l : List Line) (d : Bool) (m : List Line) (i : Nat) : RT RC := .br (decide (l.drop i = m.drop i)) (.leaf (.exit 0) [(4, .bool false)] []) (.leaf .ret [(4, .bool false)] [])
def sameLinesR_Inv (c : Bool) (l : List Line) (d : Bool) (m : List Line) (i : Nat) : Prop := i ≤ l.length ∧ l.length ≤ 9223372036854775807 ∧ l.length = m.length
def sameLinesR_S : LoopR RC sameLinesR_St where
  k := 0
  canon q := sameLinesR_c q.c q.l q.d q.m q.i
  objs q := sameLinesR_o q.c q.l q.d q.m q.i
  fin q := sameLinesR_fin q.c q.l q.d q.m q.i
  Inv q := sameLinesR_Inv q.c q.l q.d q.m q.i
  μ q := q.l.length - q.i
theorem sameLinesR_round (c : Bool) (l : List Line) (d : Bool) (m : List Line) (i : Nat) (hI : sameLinesR_Inv c l d m i) : Leaf (sameLinesR_r c l d m i) (LedR sameLinesR_S ⟨c, l, d, m, i⟩) := by
  rw [sameLinesR_eq]
  unfold sameLinesR_Inv at hI
  obtain ⟨h1, h2, h3⟩ := hI
  have hlk := lenOK_of h2
  by_cases hlt : i < l.length
  · have w_succ : IntKind.i64.wrap ((i : Int) + 1) = ((i + 1 : Nat) : Int) := by rw [wrap_id (by omega) (by omega)]; simp
    have d_lt : decide ((i : Int) < l.length) = true := by simp; omega
    have d_in : decide (0 ≤ (i : Int) ∧ (i : Int) < l.length) = true := by simp; omega
    have t_nat : ((i : Int)).toNat = i := by simp
    simp only [w_succ, d_lt, d_in, t_nat, cond_true]
    have hlt' : i < m.length := by omega
    have d_in' : decide (0 ≤ (i : Int) ∧ (i : Int) < m.length) = true := by simp; omega
    have hst := drops_step l m i (⟨0, 0, 0, 0, 0⟩ : Line) hlt h3
    simp only [d_in', cond_true, hlk, eqLine]
    generalize l.getD i (⟨0, 0, 0, 0, 0⟩ : Line) = x at hst ⊢
    generalize m.getD i (⟨0, 0, 0, 0, 0⟩ : Line) = y at hst ⊢
    by_cases hxy : x = y
    · simp only [hxy, decide_true, Bool.not_true, cond_false]
      exact leafR_go ⟨c, l, d, m, i + 1⟩ ⟨hlt, h2, h3⟩ (by simp only [sameLinesR_S]; omega) (by simp only [sameLinesR_S, sameLinesR_fin, hst, hxy, decide_true, Bool.true_and]) rfl rfl
    · simp only [hxy, decide_false, Bool.not_false, cond_true]
      exact leafR_ret [] (by simp [sameLinesR_S, sameLinesR_fin, hst, hxy, RT.val]) rfl
  · have hi : i = l.length := by omega
    have c1 : decide ((i : Int) < l.length) = false := by simp; omega
    simp only [hlk, cond_true, c1, cond_false]
    exact leafR_exit [] (by simp only [sameLinesR_S, sameLinesR_fin, drops_end l m i (by omega) (by omega), RT.val, cond_true]) rfl
def sameLinesR_d (env : Env RC) (os : List (Obj RC)) : Option (Bool × sameLinesR_St) := match env, os with
  | [(0, .sl .line c l), (1, .sl .line d m), (4, .bool false), (5, .int .i64 x0)], [] => staticD (true) (decide (x0 = 0) && decide (l.length ≤ 9223372036854775807 ∧ l.length = m.length), ⟨c, l, d, m, 0⟩)
  | _, _ => none
noncomputable def uh_7 := uh_6.addLoop 46 4 (sumR s05 [] [0, 1, 4, 5] sameLinesR_S sameLinesR_d)
theorem uh_7_laws : FLaws Try.prog s05 uh_7 := by
  refine uh_6_laws.addRoundsR s05_laws (by kernel_rfl) sameLinesR_S 40 [0, 1, 4, 5] [4] [] [0, 1, 4, 5] sameLinesR_d (fun q hI => ?_) ?_
  · obtain ⟨c, l, d, m, i⟩ := q
    refine ⟨?_, ?_, sameLinesR_round c l d m i hI⟩
    · simp_all [RefsOK, sameLinesR_S, sameLinesR_c, sameLinesR_o, sameLinesR_Inv, D.refs, Obj.refs, rEnc]
    · simp_all [sameLinesR_S, sameLinesR_fin, sameLinesR_o, sameLinesR_Inv, RT.refsOK, RefsOK, D.refs, Obj.refs, rEnc]
  · intro env os b q hd_ hb
    unfold sameLinesR_d at hd_
    split at hd_
    · obtain ⟨hs, hd_⟩ := staticD_some hd_
      cases hd_
      simp only [Bool.and_eq_true, decide_eq_true_eq] at hb
      obtain ⟨rfl, hl⟩ := hb
      exact ⟨⟨Nat.zero_le _, hl.1, hl.2⟩, rfl, rfl⟩
    · cases hd_
def sameLinesRf_s (c : Bool) (l : List Line) (d : Bool) (m : List Line) : Option (Bool × D RC) := some (lenOK l.length && lenOK m.length, .bool (decide (l = m)))
def sameLinesRf_sp : List (D RC) → Option (Bool × D RC)
  | [.sl .line c l, .sl .line d m] => sameLinesRf_s c l d m
  | _ => none
noncomputable def sameLinesRf_e (c : Bool) (l : List Line) (d : Bool) (m : List Line) := evF s05 uh_7 40 46 [.sl (C := RC) .line c l, .sl (C := RC) .line d m]
theorem sameLinesRf_eq (c : Bool) (l : List Line) (d : Bool) (m : List Line) : sameLinesRf_e c l d m = (bif lenOK l.length then bif lenOK m.length then bif (↑l.length : Int) != (↑m.length : Int) then some (D.bool false) else bif decide (List.length l ≤ (9223372036854775807 : Nat) ∧ List.length l = List.length m) then bif decide (List.drop (0 : Nat) l = List.drop (0 : Nat) m) then some (D.bool true) else some (D.bool false) else none else none else none) := by kernel_rfl
theorem sameLinesRf_ok (c : Bool) (l : List Line) (d : Bool) (m : List Line) (h : (lenOK l.length && lenOK m.length) = true) : sameLinesRf_e c l d m = some (.bool (decide (l = m))) := by
  rw [sameLinesRf_eq]
  simp only [Bool.and_eq_true] at h
  have h1 : l.length ≤ 9223372036854775807 := lenOK_le h.1
  simp only [h.1, h.2, cond_true]
  by_cases hl : l.length = m.length
  · have e1 : ((l.length : Int) != (m.length : Int)) = false := by simp [hl]
    have e2 : (l.length ≤ 9223372036854775807 ∧ l.length = m.length) := ⟨h1, hl⟩
    rw [e1, decide_eq_true e2]
    simp only [cond_true, cond_false, List.drop_zero]
    cases decide (l = m) <;> rfl
  · have e1 : ((l.length : Int) != (m.length : Int)) = true := by simp; omega
    have : ¬ l = m := fun e => hl (by rw [e])
    simp [e1, this]
noncomputable def uh_8 := uh_7.addSpec 46 sameLinesRf_sp
theorem uh_8_laws : FLaws Try.prog s05 uh_8 := uh_7_laws.addEv s05_laws fun args d h => by
  unfold sameLinesRf_sp at h
  split at h
  · unfold sameLinesRf_s at h
    have h1 := congrArg Prod.fst (Option.some.inj h)
    obtain rfl : _ = d := congrArg Prod.snd (Option.some.inj h)
    exact ⟨by simp [D.refs], 40, sameLinesRf_ok _ _ _ _ h1⟩
  · cases h
def sameP_s (p : Int) (y : Bool) (c : Bool) (l : List Write) (q : Int) (z : Bool) (d : Bool) (m : List Write) : Option (Bool × D RC) := some (lenOK l.length && lenOK m.length, .bool (decide ((⟨p, y, l⟩ : Rec) = ⟨q, z, m⟩)))
def sameP_sp : List (D RC) → Option (Bool × D RC)
  | [.acons (.int .i64 p) (.acons (.bool y) (.acons (.sl .write c l) .anil)), .acons (.int .i64 q) (.acons (.bool z) (.acons (.sl .write d m) .anil))] => sameP_s p y c l q z d m
  | _ => none
noncomputable def sameP_e (p : Int) (y : Bool) (c : Bool) (l : List Write) (q : Int) (z : Bool) (d : Bool) (m : List Write) := evF s05 uh_8 40 29 [.acons (.int .i64 p) (.acons (.bool y) (.acons (.sl (C := RC) .write c l) .anil)), .acons (.int .i64 q) (.acons (.bool z) (.acons (.sl (C := RC) .write d m) .anil))]
theorem sameP_eq (p : Int) (y : Bool) (c : Bool) (l : List Write) (q : Int) (z : Bool) (d : Bool) (m : List Write) : sameP_e p y c l q z d m = (bif p == q then bif y == z then bif lenOK l.length && lenOK m.length then some (D.bool (decide (l = m))) else none else some (D.bool false) else some (D.bool false)) := by kernel_rfl
theorem sameP_ok (p : Int) (y : Bool) (c : Bool) (l : List Write) (q : Int) (z : Bool) (d : Bool) (m : List Write) (h : (lenOK l.length && lenOK m.length) = true) : sameP_e p y c l q z d m = some (.bool (decide ((⟨p, y, l⟩ : Rec) = ⟨q, z, m⟩))) := by
  rw [sameP_eq]
  simp only [h, cond_true]
  by_cases h1 : p = q <;> by_cases h2 : y = z <;> by_cases h3 : l = m <;> simp [h1, h2, h3, bne, beqD]
noncomputable def uh_9 := uh_8.addSpec 29 sameP_sp
theorem uh_9_laws : FLaws Try.prog s05 uh_9 := uh_8_laws.addEv s05_laws fun args d h => by
  unfold sameP_sp at h
  split at h
  · unfold sameP_s at h
    have h1 := congrArg Prod.fst (Option.some.inj h)
    obtain rfl : _ = d := congrArg Prod.snd (Option.some.inj h)
    exact ⟨by simp [D.refs], 40, sameP_ok _ _ _ _ _ _ _ _ h1⟩
  · cases h
def sameStP_s (p : Int) (ci : Bool) (items : List Item) (k0 : Bool) (k1 : Bool) (k2 : Bool) (l0 : List Line) (l1 : List Line) (l2 : List Line) (c0 : Int) (c1 : Int) (c2 : Int) (q : Int) (di : Bool) (jtems : List Item) (j0 : Bool) (j1 : Bool) (j2 : Bool) (m0 : List Line) (m1 : List Line) (m2 : List Line) (d0 : Int) (d1 : Int) (d2 : Int) : Option (Bool × D RC) := some (lenOK items.length && lenOK jtems.length && (lenOK l0.length && lenOK m0.length) && (lenOK l1.length && lenOK m1.length) && (lenOK l2.length && lenOK m2.length), .bool (decide ((⟨p, items, l0, l1, l2, c0, c1, c2⟩ : St) = ⟨q, jtems, m0, m1, m2, d0, d1, d2⟩)))
def sameStP_sp : List (D RC) → Option (Bool × D RC)
  | [.acons (.int .i64 p) (.acons (.sl .item ci items) (.acons (.acons (.sl .line k0 l0) (.acons (.sl .line k1 l1) (.acons (.sl .line k2 l2) .anil))) (.acons (.arr .int 3 [c0, c1, c2]) .anil))), .acons (.int .i64 q) (.acons (.sl .item di jtems) (.acons (.acons (.sl .line j0 m0) (.acons (.sl .line j1 m1) (.acons (.sl .line j2 m2) .anil))) (.acons (.arr .int 3 [d0, d1, d2]) .anil)))] => sameStP_s p ci items k0 k1 k2 l0 l1 l2 c0 c1 c2 q di jtems j0 j1 j2 m0 m1 m2 d0 d1 d2
  | _ => none
noncomputable def sameStP_e (p : Int) (ci : Bool) (items : List Item) (k0 : Bool) (k1 : Bool) (k2 : Bool) (l0 : List Line) (l1 : List Line) (l2 : List Line) (c0 : Int) (c1 : Int) (c2 : Int) (q : Int) (di : Bool) (jtems : List Item) (j0 : Bool) (j1 : Bool) (j2 : Bool) (m0 : List Line) (m1 : List Line) (m2 : List Line) (d0 : Int) (d1 : Int) (d2 : Int) := evF s05 uh_9 40 30 [.acons (.int .i64 p) (.acons (.sl (C := RC) .item ci items) (.acons (.acons (.sl (C := RC) .line k0 l0) (.acons (.sl (C := RC) .line k1 l1) (.acons (.sl (C := RC) .line k2 l2) .anil))) (.acons (.arr (C := RC) .int 3 [c0, c1, c2]) .anil))), .acons (.int .i64 q) (.acons (.sl (C := RC) .item di jtems) (.acons (.acons (.sl (C := RC) .line j0 m0) (.acons (.sl (C := RC) .line j1 m1) (.acons (.sl (C := RC) .line j2 m2) .anil))) (.acons (.arr (C := RC) .int 3 [d0, d1, d2]) .anil)))]
theorem sameStP_eq (p : Int) (ci : Bool) (items : List Item) (k0 : Bool) (k1 : Bool) (k2 : Bool) (l0 : List Line) (l1 : List Line) (l2 : List Line) (c0 : Int) (c1 : Int) (c2 : Int) (q : Int) (di : Bool) (jtems : List Item) (j0 : Bool) (j1 : Bool) (j2 : Bool) (m0 : List Line) (m1 : List Line) (m2 : List Line) (d0 : Int) (d1 : Int) (d2 : Int) : sameStP_e p ci items k0 k1 k2 l0 l1 l2 c0 c1 c2 q di jtems j0 j1 j2 m0 m1 m2 d0 d1 d2 = (bif lenOK l0.length && lenOK m0.length then bif !decide (l0 = m0) then some (D.bool false) else bif lenOK l1.length && lenOK m1.length then bif !decide (l1 = m1) then some (D.bool false) else bif lenOK l2.length && lenOK m2.length then bif !decide (l2 = m2) then some (D.bool false) else bif p == q then bif c0 == d0 && (c1 == d1 && (c2 == d2 && true)) then bif lenOK items.length && lenOK jtems.length then some (D.bool (decide (items = jtems))) else none else some (D.bool false) else some (D.bool false) else none else none else none) := by kernel_rfl
theorem sameStP_ok (p : Int) (ci : Bool) (items : List Item) (k0 : Bool) (k1 : Bool) (k2 : Bool) (l0 : List Line) (l1 : List Line) (l2 : List Line) (c0 : Int) (c1 : Int) (c2 : Int) (q : Int) (di : Bool) (jtems : List Item) (j0 : Bool) (j1 : Bool) (j2 : Bool) (m0 : List Line) (m1 : List Line) (m2 : List Line) (d0 : Int) (d1 : Int) (d2 : Int) (h : (lenOK items.length && lenOK jtems.length && (lenOK l0.length && lenOK m0.length) && (lenOK l1.length && lenOK m1.length) && (lenOK l2.length && lenOK m2.length)) = true) : sameStP_e p ci items k0 k1 k2 l0 l1 l2 c0 c1 c2 q di jtems j0 j1 j2 m0 m1 m2 d0 d1 d2 = some (.bool (decide ((⟨p, items, l0, l1, l2, c0, c1, c2⟩ : St) = ⟨q, jtems, m0, m1, m2, d0, d1, d2⟩))) := by
  rw [sameStP_eq]
  simp only [Bool.and_eq_true] at h
  obtain ⟨⟨⟨⟨a1, a2⟩, b1, b2⟩, b3, b4⟩, b5, b6⟩ := h
  simp only [a1, a2, b1, b2, b3, b4, b5, b6, Bool.and_true, cond_true]
  by_cases h1 : l0 = m0 <;> by_cases h2 : l1 = m1 <;> by_cases h3 : l2 = m2 <;> by_cases h4 : p = q <;> by_cases h5 : c0 = d0 <;> by_cases h6 : c1 = d1 <;> by_cases h7 : c2 = d2 <;> by_cases h8 : items = jtems <;> simp [h1, h2, h3, h4, h5, h6, h7, h8, bne, beqD]
noncomputable def uh_10 := uh_9.addSpec 30 sameStP_sp
theorem uh_10_laws : FLaws Try.prog s05 uh_10 := uh_9_laws.addEv s05_laws fun args d h => by
  unfold sameStP_sp at h
  split at h
  · unfold sameStP_s at h
    have h1 := congrArg Prod.fst (Option.some.inj h)
    obtain rfl : _ = d := congrArg Prod.snd (Option.some.inj h)
    exact ⟨by simp [D.refs], 40, sameStP_ok _ _ _ _ _ _ _ _ _ _ _ _ _ _ _ _ _ _ _ _ _ _ _ _ h1⟩
  · cases h
structure sameRl_St where
  p : Int
  y : Bool
  c : Bool
  l : List Write
  q : Int
  z : Bool
  d : Bool
  m : List Write
  i : Nat
def sameRl_c (p : Int) (y : Bool) (c : Bool) (l : List Write) (q : Int) (z : Bool) (d : Bool) (m : List Write) (i : Nat) : Env RC := [(2, .ptr 0 []), (3, .ptr 1 []), (4, .bool false), (5, .int .i64 (i : Int))]
def sameRl_o (p : Int) (y : Bool) (c : Bool) (l : List Write) (q : Int) (z : Bool) (d : Bool) (m : List Write) (i : Nat) : List (Obj RC) := [.var 27 (.acons (.int .i64 p) (.acons (.bool y) (.acons (.sl (C := RC) .write c l) .anil))), .var 27 (.acons (.int .i64 q) (.acons (.bool z) (.acons (.sl (C := RC) .write d m) .anil)))]
noncomputable def sameRl_r (p : Int) (y : Bool) (c : Bool) (l : List Write) (q : Int) (z : Bool) (d : Bool) (m : List Write) (i : Nat) := rndO s05 uh_10 21 4 40 2 [2, 3, 4, 5] [4] [.slot 2 0, .slot 3 0] (sameRl_c p y c l q z d m i) (sameRl_o p y c l q z d m i)
theorem sameRl_eq (p : Int) (y : Bool) (c : Bool) (l : List Write) (q : Int) (z : Bool) (d : Bool) (m : List Write) (i : Nat) : sameRl_r p y c l q z d m i = (bif lenOK l.length then bif decide ((↑i : Int) < (↑l.length : Int)) then bif decide ((0 : Int) ≤ (↑i : Int) ∧ (↑i : Int) < (↑l.length : Int)) then bif decide ((0 : Int) ≤ (↑i : Int) ∧ (↑i : Int) < (↑m.length : Int)) then bif !(Write.key (List.getD l (↑i : Int).toNat (Write.mk (0 : Int) (0 : Int))) == Write.key (List.getD m (↑i : Int).toNat (Write.mk (0 : Int) (0 : Int))) && (Write.value (List.getD l (↑i : Int).toNat (Write.mk (0 : Int) (0 : Int))) == Write.value (List.getD m (↑i : Int).toNat (Write.mk (0 : Int) (0 : Int))) && true)) then some ((X.ret, [((4 : Nat), D.bool false)]), [some (Obj.var (27 : Nat) (.acons (D.int .i64 p) (.acons (D.bool y) (.acons (D.sl RTy.write c l) .anil)))), some (Obj.var (27 : Nat) (.acons (D.int .i64 q) (.acons (D.bool z) (.acons (D.sl RTy.write d m) .anil))))]) else some ((X.normal, [((2 : Nat), D.ptr (0 : Nat) []), ((3 : Nat), D.ptr (1 : Nat) []), ((4 : Nat), D.bool false), ((5 : Nat), D.int .i64 (IntKind.wrap .i64 ((↑i : Int) + (1 : Int))))]), [some (Obj.var (27 : Nat) (.acons (D.int .i64 p) (.acons (D.bool y) (.acons (D.sl RTy.write c l) .anil)))), some (Obj.var (27 : Nat) (.acons (D.int .i64 q) (.acons (D.bool z) (.acons (D.sl RTy.write d m) .anil))))]) else none else none else some ((X.exit (0 : Nat), [((4 : Nat), D.bool false)]), [some (Obj.var (27 : Nat) (.acons (D.int .i64 p) (.acons (D.bool y) (.acons (D.sl RTy.write c l) .anil)))), some (Obj.var (27 : Nat) (.acons (D.int .i64 q) (.acons (D.bool z) (.acons (D.sl RTy.write d m) .anil))))]) else none) := by kernel_rfl
def sameRl_fin (p : Int) (y : Bool) (c : Bool) (l : List Write) (q : Int) (z : Bool) (d : Bool) (m : List Write) (i : Nat) : RT RC := .br (decide (l.drop i = m.drop i)) (.leaf (.exit 0) [(4, .bool false)] (sameRl_o p y c l q z d m i)) (.leaf .ret [(4, .bool false)] (sameRl_o p y c l q z d m i))
def sameRl_Inv (p : Int) (y : Bool) (c : Bool) (l : List Write) (q : Int) (z : Bool) (d : Bool) (m : List Write) (i : Nat) : Prop := i ≤ l.length ∧ l.length ≤ 9223372036854775807 ∧ l.length = m.length
def sameRl_S : LoopR RC sameRl_St where
  k := 2
  canon q := sameRl_c q.p q.y q.c q.l q.q q.z q.d q.m q.i
  objs q := sameRl_o q.p q.y q.c q.l q.q q.z q.d q.m q.i
  fin q := sameRl_fin q.p q.y q.c q.l q.q q.z q.d q.m q.i
  Inv q := sameRl_Inv q.p q.y q.c q.l q.q q.z q.d q.m q.i
  μ q := q.l.length - q.i
theorem sameRl_round (p : Int) (y : Bool) (c : Bool) (l : List Write) (q : Int) (z : Bool) (d : Bool) (m : List Write) (i : Nat) (hI : sameRl_Inv p y c l q z d m i) : Leaf (sameRl_r p y c l q z d m i) (LedR sameRl_S ⟨p, y, c, l, q, z, d, m, i⟩) := by
  rw [sameRl_eq]
  unfold sameRl_Inv at hI
  obtain ⟨h1, h2, h3⟩ := hI
  have hlk := lenOK_of h2
  by_cases hlt : i < l.length
  · have w_succ : IntKind.i64.wrap ((i : Int) + 1) = ((i + 1 : Nat) : Int) := by rw [wrap_id (by omega) (by omega)]; simp
    have d_lt : decide ((i : Int) < l.length) = true := by simp; omega
    have d_in : decide (0 ≤ (i : Int) ∧ (i : Int) < l.length) = true := by simp; omega
    have t_nat : ((i : Int)).toNat = i := by simp
    simp only [w_succ, d_lt, d_in, t_nat, cond_true]
    have hlt' : i < m.length := by omega
    have d_in' : decide (0 ≤ (i : Int) ∧ (i : Int) < m.length) = true := by simp; omega
    have hst := drops_step l m i (⟨0, 0⟩ : Write) hlt h3
    simp only [d_in', cond_true, hlk, eqWrite]
    generalize l.getD i (⟨0, 0⟩ : Write) = x at hst ⊢
    generalize m.getD i (⟨0, 0⟩ : Write) = w at hst ⊢
    by_cases hxy : x = w
    · simp only [hxy, decide_true, Bool.not_true, cond_false]
      exact leafR_go ⟨p, y, c, l, q, z, d, m, i + 1⟩ ⟨hlt, h2, h3⟩ (by simp only [sameRl_S]; omega) (by simp only [sameRl_S, sameRl_fin, sameRl_o, hst, hxy, decide_true, Bool.true_and]) rfl rfl
    · simp only [hxy, decide_false, Bool.not_false, cond_true]
      exact leafR_ret (sameRl_o p y c l q z d m i) (by simp [sameRl_S, sameRl_fin, hst, hxy, RT.val]) rfl
  · have hi : i = l.length := by omega
    have c1 : decide ((i : Int) < l.length) = false := by simp; omega
    simp only [hlk, cond_true, c1, cond_false]
    exact leafR_exit (sameRl_o p y c l q z d m i) (by simp only [sameRl_S, sameRl_fin, drops_end l m i (by omega) (by omega), RT.val, cond_true]) rfl
def sameRl_d (env : Env RC) (os : List (Obj RC)) : Option (Bool × sameRl_St) := match env, os with
  | [(2, .ptr 0 []), (3, .ptr 1 []), (4, .bool false), (5, .int .i64 x0)], [.var 27 (.acons (.int .i64 p) (.acons (.bool y) (.acons (.sl .write c l) .anil))), .var 27 (.acons (.int .i64 q) (.acons (.bool z) (.acons (.sl .write d m) .anil)))] => staticD (true) (decide (x0 = 0) && decide (l.length ≤ 9223372036854775807 ∧ l.length = m.length), ⟨p, y, c, l, q, z, d, m, 0⟩)
  | _, _ => none
noncomputable def uh_11 := uh_10.addLoop 21 4 (sumR s05 [.slot 2 0, .slot 3 0] [2, 3, 4, 5] sameRl_S sameRl_d)
theorem uh_11_laws : FLaws Try.prog s05 uh_11 := by
  refine uh_10_laws.addRoundsR s05_laws (by kernel_rfl) sameRl_S 40 [2, 3, 4, 5] [4] [.slot 2 0, .slot 3 0] [2, 3, 4, 5] sameRl_d (fun q hI => ?_) ?_
  · obtain ⟨p, y, c, l, q, z, d, m, i⟩ := q
    refine ⟨?_, ?_, sameRl_round p y c l q z d m i hI⟩
    · simp_all [RefsOK, sameRl_S, sameRl_c, sameRl_o, sameRl_Inv, D.refs, Obj.refs, rEnc]
    · simp_all [sameRl_S, sameRl_fin, sameRl_o, sameRl_Inv, RT.refsOK, RefsOK, D.refs, Obj.refs, rEnc]
  · intro env os b q hd_ hb
    unfold sameRl_d at hd_
    split at hd_
    · obtain ⟨hs, hd_⟩ := staticD_some hd_
      cases hd_
      simp only [Bool.and_eq_true, decide_eq_true_eq] at hb
      obtain ⟨rfl, hl⟩ := hb
      exact ⟨⟨Nat.zero_le _, hl.1, hl.2⟩, rfl, rfl⟩
    · cases hd_
def sameR_s (p : Int) (y : Bool) (c : Bool) (l : List Write) (q : Int) (z : Bool) (d : Bool) (m : List Write) : Option (Bool × D RC) := some (lenOK l.length && lenOK m.length, .bool (decide ((⟨p, y, l⟩ : Rec) = ⟨q, z, m⟩)))
def sameR_sp : List (D RC) → Option (Bool × D RC)
  | [.acons (.int .i64 p) (.acons (.bool y) (.acons (.sl .write c l) .anil)), .acons (.int .i64 q) (.acons (.bool z) (.acons (.sl .write d m) .anil))] => sameR_s p y c l q z d m
  | _ => none
noncomputable def sameR_e (p : Int) (y : Bool) (c : Bool) (l : List Write) (q : Int) (z : Bool) (d : Bool) (m : List Write) := evF s05 uh_11 40 21 [.acons (.int .i64 p) (.acons (.bool y) (.acons (.sl (C := RC) .write c l) .anil)), .acons (.int .i64 q) (.acons (.bool z) (.acons (.sl (C := RC) .write d m) .anil))]
theorem sameR_eq (p : Int) (y : Bool) (c : Bool) (l : List Write) (q : Int) (z : Bool) (d : Bool) (m : List Write) : sameR_e p y c l q z d m = (bif p != q then some (D.bool false) else bif !y == z then some (D.bool false) else bif lenOK l.length then bif lenOK m.length then bif (↑l.length : Int) != (↑m.length : Int) then some (D.bool false) else bif decide (List.length l ≤ (9223372036854775807 : Nat) ∧ List.length l = List.length m) then bif decide (List.drop (0 : Nat) l = List.drop (0 : Nat) m) then some (D.bool true) else some (D.bool false) else none else none else none) := by kernel_rfl
theorem sameR_ok (p : Int) (y : Bool) (c : Bool) (l : List Write) (q : Int) (z : Bool) (d : Bool) (m : List Write) (h : (lenOK l.length && lenOK m.length) = true) : sameR_e p y c l q z d m = some (.bool (decide ((⟨p, y, l⟩ : Rec) = ⟨q, z, m⟩))) := by
  rw [sameR_eq]
  simp only [Bool.and_eq_true] at h
  have hl := lenOK_le h.1
  simp only [h.1, h.2, cond_true]
  by_cases h0 : l.length = m.length
  · have e1 : ((l.length : Int) != (m.length : Int)) = false := by simp [h0]
    have e2 : (l.length ≤ 9223372036854775807 ∧ l.length = m.length) := ⟨hl, h0⟩
    rw [e1, decide_eq_true e2]
    by_cases h1 : p = q <;> by_cases h2 : y = z <;> by_cases h3 : l = m <;> simp [h1, h2, h3, bne, beqD]
  · have e1 : ((l.length : Int) != (m.length : Int)) = true := by simp; omega
    have h3 : ¬ l = m := fun e => h0 (by rw [e])
    rw [e1]
    by_cases h1 : p = q <;> by_cases h2 : y = z <;> simp [h1, h2, h3, bne, beqD]
noncomputable def uh_12 := uh_11.addSpec 21 sameR_sp
theorem uh_12_laws : FLaws Try.prog s05 uh_12 := uh_11_laws.addEv s05_laws fun args d h => by
  unfold sameR_sp at h
  split at h
  · unfold sameR_s at h
    have h1 := congrArg Prod.fst (Option.some.inj h)
    obtain rfl : _ = d := congrArg Prod.snd (Option.some.inj h)
    exact ⟨by simp [D.refs], 40, sameR_ok _ _ _ _ _ _ _ _ h1⟩
  · cases h
structure sameStRl_St where
  p : Int
  ci : Bool
  items : List Item
  k0 : Bool
  k1 : Bool
  k2 : Bool
  l0 : List Line
  l1 : List Line
  l2 : List Line
  c0 : Int
  c1 : Int
  c2 : Int
  q : Int
  di : Bool
  jtems : List Item
  j0 : Bool
  j1 : Bool
  j2 : Bool
  m0 : List Line
  m1 : List Line
  m2 : List Line
  d0 : Int
  d1 : Int
  d2 : Int
  i : Nat
def sameStRl_c (p : Int) (ci : Bool) (items : List Item) (k0 : Bool) (k1 : Bool) (k2 : Bool) (l0 : List Line) (l1 : List Line) (l2 : List Line) (c0 : Int) (c1 : Int) (c2 : Int) (q : Int) (di : Bool) (jtems : List Item) (j0 : Bool) (j1 : Bool) (j2 : Bool) (m0 : List Line) (m1 : List Line) (m2 : List Line) (d0 : Int) (d1 : Int) (d2 : Int) (i : Nat) : Env RC := [(2, .ptr 0 []), (3, .ptr 1 []), (4, .bool false), (5, .int .i64 (i : Int))]
def sameStRl_o (p : Int) (ci : Bool) (items : List Item) (k0 : Bool) (k1 : Bool) (k2 : Bool) (l0 : List Line) (l1 : List Line) (l2 : List Line) (c0 : Int) (c1 : Int) (c2 : Int) (q : Int) (di : Bool) (jtems : List Item) (j0 : Bool) (j1 : Bool) (j2 : Bool) (m0 : List Line) (m1 : List Line) (m2 : List Line) (d0 : Int) (d1 : Int) (d2 : Int) (i : Nat) : List (Obj RC) := [.var 33 (.acons (.int .i64 p) (.acons (.sl (C := RC) .item ci items) (.acons (.acons (.sl (C := RC) .line k0 l0) (.acons (.sl (C := RC) .line k1 l1) (.acons (.sl (C := RC) .line k2 l2) .anil))) (.acons (.arr (C := RC) .int 3 [c0, c1, c2]) .anil)))), .var 33 (.acons (.int .i64 q) (.acons (.sl (C := RC) .item di jtems) (.acons (.acons (.sl (C := RC) .line j0 m0) (.acons (.sl (C := RC) .line j1 m1) (.acons (.sl (C := RC) .line j2 m2) .anil))) (.acons (.arr (C := RC) .int 3 [d0, d1, d2]) .anil))))]
noncomputable def sameStRl_r (p : Int) (ci : Bool) (items : List Item) (k0 : Bool) (k1 : Bool) (k2 : Bool) (l0 : List Line) (l1 : List Line) (l2 : List Line) (c0 : Int) (c1 : Int) (c2 : Int) (q : Int) (di : Bool) (jtems : List Item) (j0 : Bool) (j1 : Bool) (j2 : Bool) (m0 : List Line) (m1 : List Line) (m2 : List Line) (d0 : Int) (d1 : Int) (d2 : Int) (i : Nat) := rndO s05 uh_12 22 4 40 2 [2, 3, 4, 5] [4] [.slot 2 0, .slot 3 0] (sameStRl_c p ci items k0 k1 k2 l0 l1 l2 c0 c1 c2 q di jtems j0 j1 j2 m0 m1 m2 d0 d1 d2 i) (sameStRl_o p ci items k0 k1 k2 l0 l1 l2 c0 c1 c2 q di jtems j0 j1 j2 m0 m1 m2 d0 d1 d2 i)
theorem sameStRl_eq (p : Int) (ci : Bool) (items : List Item) (k0 : Bool) (k1 : Bool) (k2 : Bool) (l0 : List Line) (l1 : List Line) (l2 : List Line) (c0 : Int) (c1 : Int) (c2 : Int) (q : Int) (di : Bool) (jtems : List Item) (j0 : Bool) (j1 : Bool) (j2 : Bool) (m0 : List Line) (m1 : List Line) (m2 : List Line) (d0 : Int) (d1 : Int) (d2 : Int) (i : Nat) : sameStRl_r p ci items k0 k1 k2 l0 l1 l2 c0 c1 c2 q di jtems j0 j1 j2 m0 m1 m2 d0 d1 d2 i = (bif lenOK items.length then bif decide ((↑i : Int) < (↑items.length : Int)) then bif decide ((0 : Int) ≤ (↑i : Int) ∧ (↑i : Int) < (↑items.length : Int)) then bif decide ((0 : Int) ≤ (↑i : Int) ∧ (↑i : Int) < (↑jtems.length : Int)) then bif !(Item.key (List.getD items (↑i : Int).toNat (Item.mk (0 : Int) (0 : Int) (0 : Int))) == Item.key (List.getD jtems (↑i : Int).toNat (Item.mk (0 : Int) (0 : Int) (0 : Int))) && (Item.place (List.getD items (↑i : Int).toNat (Item.mk (0 : Int) (0 : Int) (0 : Int))) == Item.place (List.getD jtems (↑i : Int).toNat (Item.mk (0 : Int) (0 : Int) (0 : Int))) && (Item.value (List.getD items (↑i : Int).toNat (Item.mk (0 : Int) (0 : Int) (0 : Int))) == Item.value (List.getD jtems (↑i : Int).toNat (Item.mk (0 : Int) (0 : Int) (0 : Int))) && true))) then some ((X.ret, [((4 : Nat), D.bool false)]), [some (Obj.var (33 : Nat) (.acons (D.int .i64 p) (.acons (D.sl RTy.item ci items) (.acons (D.acons (D.sl RTy.line k0 l0) (.acons (D.sl RTy.line k1 l1) (.acons (D.sl RTy.line k2 l2) .anil))) (.acons (D.arr RTy.int (3 : Nat) [c0, c1, c2]) .anil))))), some (Obj.var (33 : Nat) (.acons (D.int .i64 q) (.acons (D.sl RTy.item di jtems) (.acons (D.acons (D.sl RTy.line j0 m0) (.acons (D.sl RTy.line j1 m1) (.acons (D.sl RTy.line j2 m2) .anil))) (.acons (D.arr RTy.int (3 : Nat) [d0, d1, d2]) .anil)))))]) else some ((X.normal, [((2 : Nat), D.ptr (0 : Nat) []), ((3 : Nat), D.ptr (1 : Nat) []), ((4 : Nat), D.bool false), ((5 : Nat), D.int .i64 (IntKind.wrap .i64 ((↑i : Int) + (1 : Int))))]), [some (Obj.var (33 : Nat) (.acons (D.int .i64 p) (.acons (D.sl RTy.item ci items) (.acons (D.acons (D.sl RTy.line k0 l0) (.acons (D.sl RTy.line k1 l1) (.acons (D.sl RTy.line k2 l2) .anil))) (.acons (D.arr RTy.int (3 : Nat) [c0, c1, c2]) .anil))))), some (Obj.var (33 : Nat) (.acons (D.int .i64 q) (.acons (D.sl RTy.item di jtems) (.acons (D.acons (D.sl RTy.line j0 m0) (.acons (D.sl RTy.line j1 m1) (.acons (D.sl RTy.line j2 m2) .anil))) (.acons (D.arr RTy.int (3 : Nat) [d0, d1, d2]) .anil)))))]) else none else none else some ((X.exit (0 : Nat), [((4 : Nat), D.bool false)]), [some (Obj.var (33 : Nat) (.acons (D.int .i64 p) (.acons (D.sl RTy.item ci items) (.acons (D.acons (D.sl RTy.line k0 l0) (.acons (D.sl RTy.line k1 l1) (.acons (D.sl RTy.line k2 l2) .anil))) (.acons (D.arr RTy.int (3 : Nat) [c0, c1, c2]) .anil))))), some (Obj.var (33 : Nat) (.acons (D.int .i64 q) (.acons (D.sl RTy.item di jtems) (.acons (D.acons (D.sl RTy.line j0 m0) (.acons (D.sl RTy.line j1 m1) (.acons (D.sl RTy.line j2 m2) .anil))) (.acons (D.arr RTy.int (3 : Nat) [d0, d1, d2]) .anil)))))]) else none) := by kernel_rfl
def sameStRl_fin (p : Int) (ci : Bool) (items : List Item) (k0 : Bool) (k1 : Bool) (k2 : Bool) (l0 : List Line) (l1 : List Line) (l2 : List Line) (c0 : Int) (c1 : Int) (c2 : Int) (q : Int) (di : Bool) (jtems : List Item) (j0 : Bool) (j1 : Bool) (j2 : Bool) (m0 : List Line) (m1 : List Line) (m2 : List Line) (d0 : Int) (d1 : Int) (d2 : Int) (i : Nat) : RT RC := .br (decide (items.drop i = jtems.drop i)) (.leaf (.exit 0) [(4, .bool false)] (sameStRl_o p ci items k0 k1 k2 l0 l1 l2 c0 c1 c2 q di jtems j0 j1 j2 m0 m1 m2 d0 d1 d2 i)) (.leaf .ret [(4, .bool false)] (sameStRl_o p ci items k0 k1 k2 l0 l1 l2 c0 c1 c2 q di jtems j0 j1 j2 m0 m1 m2 d0 d1 d2 i))
def sameStRl_Inv (p : Int) (ci : Bool) (items : List Item) (k0 : Bool) (k1 : Bool) (k2 : Bool) (l0 : List Line) (l1 : List Line) (l2 : List Line) (c0 : Int) (c1 : Int) (c2 : Int) (q : Int) (di : Bool) (jtems : List Item) (j0 : Bool) (j1 : Bool) (j2 : Bool) (m0 : List Line) (m1 : List Line) (m2 : List Line) (d0 : Int) (d1 : Int) (d2 : Int) (i : Nat) : Prop := i ≤ items.length ∧ items.length ≤ 9223372036854775807 ∧ items.length = jtems.length
def sameStRl_S : LoopR RC sameStRl_St where
  k := 2
  canon q := sameStRl_c q.p q.ci q.items q.k0 q.k1 q.k2 q.l0 q.l1 q.l2 q.c0 q.c1 q.c2 q.q q.di q.jtems q.j0 q.j1 q.j2 q.m0 q.m1 q.m2 q.d0 q.d1 q.d2 q.i
  objs q := sameStRl_o q.p q.ci q.items q.k0 q.k1 q.k2 q.l0 q.l1 q.l2 q.c0 q.c1 q.c2 q.q q.di q.jtems q.j0 q.j1 q.j2 q.m0 q.m1 q.m2 q.d0 q.d1 q.d2 q.i
  fin q := sameStRl_fin q.p q.ci q.items q.k0 q.k1 q.k2 q.l0 q.l1 q.l2 q.c0 q.c1 q.c2 q.q q.di q.jtems q.j0 q.j1 q.j2 q.m0 q.m1 q.m2 q.d0 q.d1 q.d2 q.i
  Inv q := sameStRl_Inv q.p q.ci q.items q.k0 q.k1 q.k2 q.l0 q.l1 q.l2 q.c0 q.c1 q.c2 q.q q.di q.jtems q.j0 q.j1 q.j2 q.m0 q.m1 q.m2 q.d0 q.d1 q.d2 q.i
  μ q := q.items.length - q.i
theorem sameStRl_round (p : Int) (ci : Bool) (items : List Item) (k0 : Bool) (k1 : Bool) (k2 : Bool) (l0 : List Line) (l1 : List Line) (l2 : List Line) (c0 : Int) (c1 : Int) (c2 : Int) (q : Int) (di : Bool) (jtems : List Item) (j0 : Bool) (j1 : Bool) (j2 : Bool) (m0 : List Line) (m1 : List Line) (m2 : List Line) (d0 : Int) (d1 : Int) (d2 : Int) (i : Nat) (hI : sameStRl_Inv p ci items k0 k1 k2 l0 l1 l2 c0 c1 c2 q di jtems j0 j1 j2 m0 m1 m2 d0 d1 d2 i) : Leaf (sameStRl_r p ci items k0 k1 k2 l0 l1 l2 c0 c1 c2 q di jtems j0 j1 j2 m0 m1 m2 d0 d1 d2 i) (LedR sameStRl_S ⟨p, ci, items, k0, k1, k2, l0, l1, l2, c0, c1, c2, q, di, jtems, j0, j1, j2, m0, m1, m2, d0, d1, d2, i⟩) := by
  rw [sameStRl_eq]
  unfold sameStRl_Inv at hI
  obtain ⟨h1, h2, h3⟩ := hI
  have hlk := lenOK_of h2
  by_cases hlt : i < items.length
  · have w_succ : IntKind.i64.wrap ((i : Int) + 1) = ((i + 1 : Nat) : Int) := by rw [wrap_id (by omega) (by omega)]; simp
    have d_lt : decide ((i : Int) < items.length) = true := by simp; omega
    have d_in : decide (0 ≤ (i : Int) ∧ (i : Int) < items.length) = true := by simp; omega
    have t_nat : ((i : Int)).toNat = i := by simp
    simp only [w_succ, d_lt, d_in, t_nat, cond_true]
    have hlt' : i < jtems.length := by omega
    have d_in' : decide (0 ≤ (i : Int) ∧ (i : Int) < jtems.length) = true := by simp; omega
    have hst := drops_step items jtems i (⟨0, 0, 0⟩ : Item) hlt h3
    simp only [d_in', cond_true, hlk, eqItem]
    generalize items.getD i (⟨0, 0, 0⟩ : Item) = x at hst ⊢
    generalize jtems.getD i (⟨0, 0, 0⟩ : Item) = w at hst ⊢
    by_cases hxy : x = w
    · simp only [hxy, decide_true, Bool.not_true, cond_false]
      exact leafR_go ⟨p, ci, items, k0, k1, k2, l0, l1, l2, c0, c1, c2, q, di, jtems, j0, j1, j2, m0, m1, m2, d0, d1, d2, i + 1⟩ ⟨hlt, h2, h3⟩ (by simp only [sameStRl_S]; omega) (by simp only [sameStRl_S, sameStRl_fin, sameStRl_o, hst, hxy, decide_true, Bool.true_and]) rfl rfl
    · simp only [hxy, decide_false, Bool.not_false, cond_true]
      exact leafR_ret (sameStRl_o p ci items k0 k1 k2 l0 l1 l2 c0 c1 c2 q di jtems j0 j1 j2 m0 m1 m2 d0 d1 d2 i) (by simp [sameStRl_S, sameStRl_fin, hst, hxy, RT.val]) rfl
  · have hi : i = items.length := by omega
    have c1 : decide ((i : Int) < items.length) = false := by simp; omega
    simp only [hlk, cond_true, c1, cond_false]
    exact leafR_exit (sameStRl_o p ci items k0 k1 k2 l0 l1 l2 c0 _ c2 q di jtems j0 j1 j2 m0 m1 m2 d0 d1 d2 i) (by simp only [sameStRl_S, sameStRl_fin, drops_end items jtems i (by omega) (by omega), RT.val, cond_true]) rfl
def sameStRl_d (env : Env RC) (os : List (Obj RC)) : Option (Bool × sameStRl_St) := match env, os with
  | [(2, .ptr 0 []), (3, .ptr 1 []), (4, .bool false), (5, .int .i64 x0)], [.var 33 (.acons (.int .i64 p) (.acons (.sl .item ci items) (.acons (.acons (.sl .line k0 l0) (.acons (.sl .line k1 l1) (.acons (.sl .line k2 l2) .anil))) (.acons (.arr .int 3 [c0, c1, c2]) .anil)))), .var 33 (.acons (.int .i64 q) (.acons (.sl .item di jtems) (.acons (.acons (.sl .line j0 m0) (.acons (.sl .line j1 m1) (.acons (.sl .line j2 m2) .anil))) (.acons (.arr .int 3 [d0, d1, d2]) .anil))))] => staticD (true) (decide (x0 = 0) && decide (items.length ≤ 9223372036854775807 ∧ items.length = jtems.length), ⟨p, ci, items, k0, k1, k2, l0, l1, l2, c0, c1, c2, q, di, jtems, j0, j1, j2, m0, m1, m2, d0, d1, d2, 0⟩)
  | _, _ => none
noncomputable def uh_13 := uh_12.addLoop 22 4 (sumR s05 [.slot 2 0, .slot 3 0] [2, 3, 4, 5] sameStRl_S sameStRl_d)
theorem uh_13_laws : FLaws Try.prog s05 uh_13 := by
  refine uh_12_laws.addRoundsR s05_laws (by kernel_rfl) sameStRl_S 40 [2, 3, 4, 5] [4] [.slot 2 0, .slot 3 0] [2, 3, 4, 5] sameStRl_d (fun q hI => ?_) ?_
  · obtain ⟨p, ci, items, k0, k1, k2, l0, l1, l2, c0, c1, c2, q, di, jtems, j0, j1, j2, m0, m1, m2, d0, d1, d2, i⟩ := q
    refine ⟨?_, ?_, sameStRl_round p ci items k0 k1 k2 l0 l1 l2 c0 c1 c2 q di jtems j0 j1 j2 m0 m1 m2 d0 d1 d2 i hI⟩
    · simp_all [RefsOK, sameStRl_S, sameStRl_c, sameStRl_o, sameStRl_Inv, D.refs, Obj.refs, rEnc]
    · simp_all [sameStRl_S, sameStRl_fin, sameStRl_o, sameStRl_Inv, RT.refsOK, RefsOK, D.refs, Obj.refs, rEnc]
  · intro env os b q hd_ hb
    unfold sameStRl_d at hd_
    split at hd_
    · obtain ⟨hs, hd_⟩ := staticD_some hd_
      cases hd_
      simp only [Bool.and_eq_true, decide_eq_true_eq] at hb
      obtain ⟨rfl, hl⟩ := hb
      exact ⟨⟨Nat.zero_le _, hl.1, hl.2⟩, rfl, rfl⟩
    · cases hd_
def sameStR_s (p : Int) (ci : Bool) (items : List Item) (k0 : Bool) (k1 : Bool) (k2 : Bool) (l0 : List Line) (l1 : List Line) (l2 : List Line) (c0 : Int) (c1 : Int) (c2 : Int) (q : Int) (di : Bool) (jtems : List Item) (j0 : Bool) (j1 : Bool) (j2 : Bool) (m0 : List Line) (m1 : List Line) (m2 : List Line) (d0 : Int) (d1 : Int) (d2 : Int) : Option (Bool × D RC) := some (lenOK items.length && lenOK jtems.length && (lenOK l0.length && lenOK m0.length) && (lenOK l1.length && lenOK m1.length) && (lenOK l2.length && lenOK m2.length), .bool (decide ((⟨p, items, l0, l1, l2, c0, c1, c2⟩ : St) = ⟨q, jtems, m0, m1, m2, d0, d1, d2⟩)))
def sameStR_sp : List (D RC) → Option (Bool × D RC)
  | [.acons (.int .i64 p) (.acons (.sl .item ci items) (.acons (.acons (.sl .line k0 l0) (.acons (.sl .line k1 l1) (.acons (.sl .line k2 l2) .anil))) (.acons (.arr .int 3 [c0, c1, c2]) .anil))), .acons (.int .i64 q) (.acons (.sl .item di jtems) (.acons (.acons (.sl .line j0 m0) (.acons (.sl .line j1 m1) (.acons (.sl .line j2 m2) .anil))) (.acons (.arr .int 3 [d0, d1, d2]) .anil)))] => sameStR_s p ci items k0 k1 k2 l0 l1 l2 c0 c1 c2 q di jtems j0 j1 j2 m0 m1 m2 d0 d1 d2
  | _ => none
noncomputable def sameStR_e (p : Int) (ci : Bool) (items : List Item) (k0 : Bool) (k1 : Bool) (k2 : Bool) (l0 : List Line) (l1 : List Line) (l2 : List Line) (c0 : Int) (c1 : Int) (c2 : Int) (q : Int) (di : Bool) (jtems : List Item) (j0 : Bool) (j1 : Bool) (j2 : Bool) (m0 : List Line) (m1 : List Line) (m2 : List Line) (d0 : Int) (d1 : Int) (d2 : Int) := evF s05 uh_13 40 22 [.acons (.int .i64 p) (.acons (.sl (C := RC) .item ci items) (.acons (.acons (.sl (C := RC) .line k0 l0) (.acons (.sl (C := RC) .line k1 l1) (.acons (.sl (C := RC) .line k2 l2) .anil))) (.acons (.arr (C := RC) .int 3 [c0, c1, c2]) .anil))), .acons (.int .i64 q) (.acons (.sl (C := RC) .item di jtems) (.acons (.acons (.sl (C := RC) .line j0 m0) (.acons (.sl (C := RC) .line j1 m1) (.acons (.sl (C := RC) .line j2 m2) .anil))) (.acons (.arr (C := RC) .int 3 [d0, d1, d2]) .anil)))]
theorem sameStR_eq (p : Int) (ci : Bool) (items : List Item) (k0 : Bool) (k1 : Bool) (k2 : Bool) (l0 : List Line) (l1 : List Line) (l2 : List Line) (c0 : Int) (c1 : Int) (c2 : Int) (q : Int) (di : Bool) (jtems : List Item) (j0 : Bool) (j1 : Bool) (j2 : Bool) (m0 : List Line) (m1 : List Line) (m2 : List Line) (d0 : Int) (d1 : Int) (d2 : Int) : sameStR_e p ci items k0 k1 k2 l0 l1 l2 c0 c1 c2 q di jtems j0 j1 j2 m0 m1 m2 d0 d1 d2 = (bif p != q then some (D.bool false) else bif !(c0 == d0 && (c1 == d1 && (c2 == d2 && true))) then some (D.bool false) else bif lenOK items.length then bif lenOK jtems.length then bif (↑items.length : Int) != (↑jtems.length : Int) then some (D.bool false) else bif decide (List.length items ≤ (9223372036854775807 : Nat) ∧ List.length items = List.length jtems) then bif decide (List.drop (0 : Nat) items = List.drop (0 : Nat) jtems) then bif lenOK l0.length && lenOK m0.length then bif !decide (l0 = m0) then some (D.bool false) else bif lenOK l1.length && lenOK m1.length then bif !decide (l1 = m1) then some (D.bool false) else bif lenOK l2.length && lenOK m2.length then bif !decide (l2 = m2) then some (D.bool false) else some (D.bool true) else none else none else none else some (D.bool false) else none else none else none) := by kernel_rfl
theorem sameStR_ok (p : Int) (ci : Bool) (items : List Item) (k0 : Bool) (k1 : Bool) (k2 : Bool) (l0 : List Line) (l1 : List Line) (l2 : List Line) (c0 : Int) (c1 : Int) (c2 : Int) (q : Int) (di : Bool) (jtems : List Item) (j0 : Bool) (j1 : Bool) (j2 : Bool) (m0 : List Line) (m1 : List Line) (m2 : List Line) (d0 : Int) (d1 : Int) (d2 : Int) (h : (lenOK items.length && lenOK jtems.length && (lenOK l0.length && lenOK m0.length) && (lenOK l1.length && lenOK m1.length) && (lenOK l2.length && lenOK m2.length)) = true) : sameStR_e p ci items k0 k1 k2 l0 l1 l2 c0 c1 c2 q di jtems j0 j1 j2 m0 m1 m2 d0 d1 d2 = some (.bool (decide ((⟨p, items, l0, l1, l2, c0, c1, c2⟩ : St) = ⟨q, jtems, m0, m1, m2, d0, d1, d2⟩))) := by
  rw [sameStR_eq]
  simp only [Bool.and_eq_true] at h
  obtain ⟨⟨⟨⟨a1, a2⟩, b1, b2⟩, b3, b4⟩, b5, b6⟩ := h
  have hl := lenOK_le a1
  simp only [a1, a2, b1, b2, b3, b4, b5, b6, Bool.and_true, cond_true]
  by_cases h0 : items.length = jtems.length
  · have e1 : ((items.length : Int) != (jtems.length : Int)) = false := by simp [h0]
    have e2 : (items.length ≤ 9223372036854775807 ∧ items.length = jtems.length) := ⟨hl, h0⟩
    rw [e1, decide_eq_true e2]
    by_cases h1 : l0 = m0 <;> by_cases h2 : l1 = m1 <;> by_cases h3 : l2 = m2 <;> by_cases h4 : p = q <;> by_cases h5 : c0 = d0 <;> by_cases h6 : c1 = d1 <;> by_cases h7 : c2 = d2 <;> by_cases h8 : items = jtems <;> simp [h1, h2, h3, h4, h5, h6, h7, h8, bne, beqD]
  · have e1 : ((items.length : Int) != (jtems.length : Int)) = true := by simp; omega
    have h8 : ¬ items = jtems := fun e => h0 (by rw [e])
    rw [e1]
    by_cases h4 : p = q <;> by_cases h5 : c0 = d0 <;> by_cases h6 : c1 = d1 <;> by_cases h7 : c2 = d2 <;> simp [h4, h5, h6, h7, h8, bne, beqD]
noncomputable def uh_14 := uh_13.addSpec 22 sameStR_sp
theorem uh_14_laws : FLaws Try.prog s05 uh_14 := uh_13_laws.addEv s05_laws fun args d h => by
  unfold sameStR_sp at h
  split at h
  · unfold sameStR_s at h
    have h1 := congrArg Prod.fst (Option.some.inj h)
    obtain rfl : _ = d := congrArg Prod.snd (Option.some.inj h)
    exact ⟨by simp [D.refs], 40, sameStR_ok _ _ _ _ _ _ _ _ _ _ _ _ _ _ _ _ _ _ _ _ _ _ _ _ h1⟩
  · cases h
structure Rd where
  c : Bool
  b : List UInt8
  bad : Bool
def rget (w : Nat) (r : Rd) : Int × Rd := if w ≤ r.b.length then ((leVal (r.b.take w) : Int), ⟨r.c, r.b.drop w, r.bad⟩) else (0, ⟨true, [], true⟩)
def rWrites : Nat → Rd → Rd × List Write
  | 0, r => (r, [])
  | n + 1, r =>
    let k := rget 1 r
    let v := rget 1 k.2
    let q := rWrites n v.2
    (q.1, ⟨k.1, v.1⟩ :: q.2)
theorem rget_ok {w : Nat} {c bad : Bool} {b : List UInt8} (h : w ≤ b.length) : rget w ⟨c, b, bad⟩ = ((leVal (b.take w) : Int), ⟨c, b.drop w, bad⟩) := by simp [rget, h]
theorem rget_no {w : Nat} {c bad : Bool} {b : List UInt8} (h : b.length < w) : rget w ⟨c, b, bad⟩ = (0, ⟨true, [], true⟩) := by simp [rget, Nat.not_le.2 h]
theorem getP_snd1 (b : List UInt8) : ((getP b 0 1).2 != 0) = decide (b.length < 1) := by
  by_cases h : b.length < 1
  · have : ¬ ((1 : Int) ≤ b.length) := by omega
    simp only [getP, h]; simp [this]
  · have : ((1 : Int) ≤ b.length) := by omega
    simp only [getP, h]; simp [this]
theorem getP_snd3 (b : List UInt8) : ((getP b 0 3).2 != 0) = decide (b.length < 3) := by
  by_cases h : b.length < 3
  · have : ¬ ((3 : Int) ≤ b.length) := by omega
    simp only [getP, h]; simp [this]
  · have : ((3 : Int) ≤ b.length) := by omega
    simp only [getP, h]; simp [this]
theorem getP_fst1 {b : List UInt8} (h : ¬ b.length < 1) : (getP b 0 1).1 = (leVal (b.take 1) : Int) := by
  have : ((1 : Int) ≤ b.length) := by omega
  simp only [getP]; simp [this]
theorem getP_fst3 {b : List UInt8} (h : ¬ b.length < 3) : (getP b 0 3).1 = (leVal (b.take 3) : Int) := by
  have : ((3 : Int) ≤ b.length) := by omega
  simp only [getP]; simp [this]
theorem leVal_take1 {b : List UInt8} (h : 1 ≤ b.length) : leVal (b.take 1) = (b.getD 0 0).toNat := by
  cases b with
  | nil => simp at h
  | cons x t => simp [leVal]
def pairsN : Nat → List UInt8 → List Write
  | 0, _ => []
  | n + 1, b => ⟨(b.getD 0 0).toNat, (b.getD 1 0).toNat⟩ :: pairsN n (b.drop 2)
theorem rWrites_ok : ∀ (n : Nat) (c : Bool) (b : List UInt8) (bad : Bool), 2 * n ≤ b.length → rWrites n ⟨c, b, bad⟩ = (⟨c, b.drop (2 * n), bad⟩, pairsN n b)
  | 0, c, b, bad, _ => by simp [rWrites, pairsN]
  | n + 1, c, b, bad, h => by
    have h1 : 1 ≤ b.length := by omega
    have h2 : 1 ≤ (b.drop 1).length := by simp; omega
    have h3 := rWrites_ok n c ((b.drop 1).drop 1) bad (by simp; omega)
    have e : (b.drop 1).getD 0 0 = b.getD 1 0 := by simp [List.getElem?_drop]
    have e2 : ((b.drop 1).drop 1).drop (2 * n) = b.drop (2 * (n + 1)) := by rw [List.drop_drop, List.drop_drop]; congr 1; omega
    have e3 : (b.drop 1).drop 1 = b.drop 2 := by rw [List.drop_drop]
    simp only [rWrites, rget_ok h1, rget_ok h2, h3, leVal_take1 h1, leVal_take1 h2, e, pairsN, e2]
    rw [e3]
theorem rget_bad {w : Nat} {r : Rd} (h : r.bad = true) : (rget w r).2.bad = true := by
  unfold rget; split <;> simp [h]
theorem rWrites_bad : ∀ (n : Nat) (r : Rd), r.bad = true → (rWrites n r).1.bad = true
  | 0, r, h => h
  | n + 1, r, h => rWrites_bad n _ (rget_bad (rget_bad h))
theorem rWrites_short : ∀ (n : Nat) (c : Bool) (b : List UInt8) (bad : Bool), b.length < 2 * n → (rWrites n ⟨c, b, bad⟩).1.bad = true
  | 0, c, b, bad, h => by omega
  | n + 1, c, b, bad, h => by
    simp only [rWrites]
    by_cases h1 : b.length < 1
    · rw [rget_no h1]; exact rWrites_bad n _ (rget_bad rfl)
    · rw [rget_ok (show 1 ≤ b.length by omega)]
      by_cases h2 : (b.drop 1).length < 1
      · simp only [rget_no h2]; exact rWrites_bad n _ rfl
      · simp only [rget_ok (show 1 ≤ (b.drop 1).length by omega)]
        exact rWrites_short n _ _ _ (by simp at h2 ⊢; omega)
theorem pairsN_len : ∀ (n : Nat) (b : List UInt8), (pairsN n b).length = n
  | 0, _ => rfl
  | n + 1, b => by simp [pairsN, pairsN_len n]
def readR (b : List UInt8) : Option Rec :=
  if 5 ≤ b.length ∧ (b.getD 3 0).toNat ≤ 1 ∧ b.length = 5 + 2 * (b.getD 4 0).toNat ∧ mayB ⟨leVal (b.take 3), (b.getD 3 0).toNat == 1, pairsN (b.getD 4 0).toNat (b.drop 5)⟩ = true then
    some ⟨leVal (b.take 3), (b.getD 3 0).toNat == 1, pairsN (b.getD 4 0).toNat (b.drop 5)⟩ else none
def recG (o : Option Rec) : Rec := o.getD ⟨0, false, []⟩
theorem cond_both {α : Type} {c : Bool} {x y z : α} (h1 : c = true → x = z) (h2 : c = false → y = z) : cond c x y = z := by cases c; exact h2 rfl; exact h1 rfl
open Go.Proofs
structure readW_St where
  c : Bool
  b : List UInt8
  bad : Bool
  pl : Int
  y : Bool
  ws : List Write
  n : Int
  i : Nat
def readW_c (c : Bool) (b : List UInt8) (bad : Bool) (pl : Int) (y : Bool) (ws : List Write) (n : Int) (i : Nat) : Env RC := [(4, .ptr 0 []), (5, .ptr 1 []), (20, .int .i64 n), (21, .int .i64 (i : Int))]
def readW_o (c : Bool) (b : List UInt8) (bad : Bool) (pl : Int) (y : Bool) (ws : List Write) (n : Int) (i : Nat) : List (Obj RC) := [.var 74 (.acons (.sl (C := RC) .u8 c b) (.acons (.bool bad) .anil)), .var 27 (.acons (.int .i64 pl) (.acons (.bool y) (.acons (.vs 2 (ws.length)) .anil))), .vec (C := RC) .write true ws]
noncomputable def readW_r (c : Bool) (b : List UInt8) (bad : Bool) (pl : Int) (y : Bool) (ws : List Write) (n : Int) (i : Nat) := rndO s05 uh_14 17 6 40 3 [4, 5, 20, 21] [] [.slot 4 0, .slot 5 0, .path 1 [2]] (readW_c c b bad pl y ws n i) (readW_o c b bad pl y ws n i)
theorem readW_eq (c : Bool) (b : List UInt8) (bad : Bool) (pl : Int) (y : Bool) (ws : List Write) (n : Int) (i : Nat) : readW_r c b bad pl y ws n i = (bif decide ((↑i : Int) < n) then bif decide (List.length b ≤ (1000000000000 : Nat)) then bif Prod.snd (getP b (0 : Int) (1 : Int)) != (0 : Int) then bif Nat.beq ws.length ws.length && sizeOK (List.length ws + (1 : Nat)) (16 : Nat) then some ((X.normal, [((4 : Nat), D.ptr (0 : Nat) []), ((5 : Nat), D.ptr (1 : Nat) []), ((20 : Nat), D.int .i64 n), ((21 : Nat), D.int .i64 (IntKind.wrap .i64 ((↑i : Int) + (1 : Int))))]), [some (Obj.var (74 : Nat) (.acons (D.sl RTy.u8 true []) (.acons (D.bool true) .anil))), some (Obj.var (27 : Nat) (.acons (D.int .i64 pl) (.acons (D.bool y) (.acons (D.vs (2 : Nat) (List.length ws + (1 : Nat))) .anil)))), some (Obj.vec RTy.write true (ws ++ [Write.mk (0 : Int) (0 : Int)]))]) else none else bif decide ((0 : Int) ≤ (1 : Int) ∧ (1 : Int) ≤ (↑b.length : Int)) then bif decide (List.length (List.drop (1 : Nat) b) ≤ (1000000000000 : Nat)) then bif Prod.snd (getP (List.drop (1 : Nat) b) (0 : Int) (1 : Int)) != (0 : Int) then bif Nat.beq ws.length ws.length && sizeOK (List.length ws + List.length [Write.mk (getP b (0 : Int) (1 : Int)).1 (0 : Int)]) (16 : Nat) then some ((X.normal, [((4 : Nat), D.ptr (0 : Nat) []), ((5 : Nat), D.ptr (1 : Nat) []), ((20 : Nat), D.int .i64 n), ((21 : Nat), D.int .i64 (IntKind.wrap .i64 ((↑i : Int) + (1 : Int))))]), [some (Obj.var (74 : Nat) (.acons (D.sl RTy.u8 true []) (.acons (D.bool true) .anil))), some (Obj.var (27 : Nat) (.acons (D.int .i64 pl) (.acons (D.bool y) (.acons (D.vs (2 : Nat) (List.length ws + List.length [Write.mk (getP b (0 : Int) (1 : Int)).1 (0 : Int)])) .anil)))), some (Obj.vec RTy.write true (ws ++ [Write.mk (getP b (0 : Int) (1 : Int)).1 (0 : Int)]))]) else none else bif decide ((0 : Int) ≤ (1 : Int) ∧ (1 : Int) ≤ (↑(List.drop (1 : Nat) b).length : Int)) then bif Nat.beq ws.length ws.length && sizeOK (List.length ws + List.length [Write.mk (getP b (0 : Int) (1 : Int)).1 (getP (List.drop (1 : Nat) b) (0 : Int) (1 : Int)).1]) (16 : Nat) then some ((X.normal, [((4 : Nat), D.ptr (0 : Nat) []), ((5 : Nat), D.ptr (1 : Nat) []), ((20 : Nat), D.int .i64 n), ((21 : Nat), D.int .i64 (IntKind.wrap .i64 ((↑i : Int) + (1 : Int))))]), [some (Obj.var (74 : Nat) (.acons (D.sl RTy.u8 c (List.drop (1 : Nat) (List.drop (1 : Nat) b))) (.acons (D.bool bad) .anil))), some (Obj.var (27 : Nat) (.acons (D.int .i64 pl) (.acons (D.bool y) (.acons (D.vs (2 : Nat) (List.length ws + List.length [Write.mk (getP b (0 : Int) (1 : Int)).1 (getP (List.drop (1 : Nat) b) (0 : Int) (1 : Int)).1])) .anil)))), some (Obj.vec RTy.write true (ws ++ [Write.mk (getP b (0 : Int) (1 : Int)).1 (getP (List.drop (1 : Nat) b) (0 : Int) (1 : Int)).1]))]) else none else none else none else none else none else some ((X.exit (0 : Nat), []), [some (Obj.var (74 : Nat) (.acons (D.sl RTy.u8 c b) (.acons (D.bool bad) .anil))), some (Obj.var (27 : Nat) (.acons (D.int .i64 pl) (.acons (D.bool y) (.acons (D.vs (2 : Nat) ws.length) .anil)))), some (Obj.vec RTy.write true ws)])) := by kernel_rfl
def readW_fin (c : Bool) (b : List UInt8) (bad : Bool) (pl : Int) (y : Bool) (ws : List Write) (n : Int) (i : Nat) : RT RC := .leaf (.exit 0) [] [.var 74 (.acons (.sl (C := RC) .u8 (rWrites (n.toNat - i) ⟨c, b, bad⟩).1.c (rWrites (n.toNat - i) ⟨c, b, bad⟩).1.b) (.acons (.bool (rWrites (n.toNat - i) ⟨c, b, bad⟩).1.bad) .anil)), .var 27 (.acons (.int .i64 pl) (.acons (.bool y) (.acons (.vs 2 (ws ++ (rWrites (n.toNat - i) ⟨c, b, bad⟩).2).length) .anil))), .vec (C := RC) .write true (ws ++ (rWrites (n.toNat - i) ⟨c, b, bad⟩).2)]
def readW_Inv (c : Bool) (b : List UInt8) (bad : Bool) (pl : Int) (y : Bool) (ws : List Write) (n : Int) (i : Nat) : Prop := (i : Int) ≤ n ∧ n ≤ 255 ∧ b.length ≤ 1000000 ∧ ws.length ≤ i
def readW_S : LoopR RC readW_St where
  k := 3
  canon q := readW_c q.c q.b q.bad q.pl q.y q.ws q.n q.i
  objs q := readW_o q.c q.b q.bad q.pl q.y q.ws q.n q.i
  fin q := readW_fin q.c q.b q.bad q.pl q.y q.ws q.n q.i
  Inv q := readW_Inv q.c q.b q.bad q.pl q.y q.ws q.n q.i
  μ q := q.n.toNat - q.i
theorem readW_round (c : Bool) (b : List UInt8) (bad : Bool) (pl : Int) (y : Bool) (ws : List Write) (n : Int) (i : Nat) (hI : readW_Inv c b bad pl y ws n i) : Leaf (readW_r c b bad pl y ws n i) (LedR readW_S ⟨c, b, bad, pl, y, ws, n, i⟩) := by
  rw [readW_eq]
  unfold readW_Inv at hI
  obtain ⟨h1, h2, h3, h4⟩ := hI
  have tk : ∀ l : List UInt8, List.take (Int.toNat (l.length : Int)) l = l := fun l => by simp
  have eb : ∀ n : Nat, n.beq n = true := fun n => by simp
  have r0 : rget 1 ⟨true, [], true⟩ = (0, ⟨true, [], true⟩) := rfl
  by_cases hlt : (i : Int) < n
  · have w_succ : IntKind.i64.wrap ((i : Int) + 1) = ((i + 1 : Nat) : Int) := by rw [wrap_id (by omega) (by omega)]; simp
    have hn : n.toNat - i = (n.toNat - (i + 1)) + 1 := by omega
    have s1 : sizeOK (ws.length + 1) 16 = true := sizeT (by omega)
    have e0 : decide (b.length ≤ 1000000000000) = true := decide_eq_true (by omega)
    simp only [hlt, decide_true, cond_true, e0, getP_snd1, show Int.toNat 1 = 1 from rfl, w_succ, List.length_cons, List.length_nil, Nat.zero_add, s1, eb, Bool.and_self]
    by_cases b1 : b.length < 1
    · have r1 : rget 1 ⟨c, b, bad⟩ = _ := rget_no b1
      simp only [b1, decide_true, cond_true]
      refine leafR_go ⟨true, [], true, pl, y, ws ++ [⟨0, 0⟩], n, i + 1⟩ (by refine ⟨hlt, h2, by simp, ?_⟩; simp; omega) (by simp only [readW_S]; omega) ?_ (by simp [readW_S, readW_c]) (by simp [readW_S, readW_o])
      simp only [readW_S, readW_fin, hn, rWrites, r1, r0, List.append_assoc, List.cons_append, List.nil_append]
    · have r1 : rget 1 ⟨c, b, bad⟩ = _ := rget_ok (show 1 ≤ b.length by omega)
      have d1 : decide ((0 : Int) ≤ 1 ∧ (1 : Int) ≤ b.length) = true := by simp; omega
      have e1 : decide ((b.drop 1).length ≤ 1000000000000) = true := decide_eq_true (by simp; omega)
      simp only [b1, decide_false, cond_false, d1, cond_true, e1, getP_fst1 b1]
      by_cases b2 : (b.drop 1).length < 1
      · have r2 : rget 1 ⟨c, b.drop 1, bad⟩ = _ := rget_no b2
        simp only [b2, decide_true, cond_true]
        refine leafR_go ⟨true, [], true, pl, y, ws ++ [⟨leVal (b.take 1), 0⟩], n, i + 1⟩ (by refine ⟨hlt, h2, by simp, ?_⟩; simp; omega) (by simp only [readW_S]; omega) ?_ (by simp [readW_S, readW_c]) (by simp [readW_S, readW_o])
        simp only [readW_S, readW_fin, hn, rWrites, r1, r2, List.append_assoc, List.cons_append, List.nil_append]
      · have r2 : rget 1 ⟨c, b.drop 1, bad⟩ = _ := rget_ok (show 1 ≤ (b.drop 1).length by omega)
        have d2 : decide ((0 : Int) ≤ 1 ∧ (1 : Int) ≤ (b.drop 1).length) = true := by simp only [decide_eq_true_eq]; omega
        simp only [b2, decide_false, cond_false, d2, cond_true, getP_fst1 b2]
        refine leafR_go ⟨c, (b.drop 1).drop 1, bad, pl, y, ws ++ [⟨leVal (b.take 1), leVal ((b.drop 1).take 1)⟩], n, i + 1⟩ (by refine ⟨hlt, h2, ?_, ?_⟩ <;> simp <;> omega) (by simp only [readW_S]; omega) ?_ (by simp [readW_S, readW_c]) (by simp [readW_S, readW_o])
        simp only [readW_S, readW_fin, hn, rWrites, r1, r2, List.append_assoc, List.cons_append, List.nil_append]
  · have hi : n.toNat - i = 0 := by omega
    simp only [hlt, decide_false, cond_false]
    exact leafR_exit (readW_o c b bad pl y ws n i) (by simp only [readW_S, readW_fin, readW_o, hi, rWrites, RT.val, List.append_nil]) rfl
def readW_d (env : Env RC) (os : List (Obj RC)) : Option (Bool × readW_St) := match env, os with
  | [(4, .ptr 0 []), (5, .ptr 1 []), (20, .int .i64 n), (21, .int .i64 x0)], [.var 74 (.acons (.sl .u8 c b) (.acons (.bool bad) .anil)), .var 27 (.acons (.int .i64 pl) (.acons (.bool y) (.acons (.vs 2 x1) .anil))), .vec .write true ws] => staticD (true) (decide (x0 = 0) && decide (x1 = ws.length) && decide (0 ≤ n ∧ n ≤ 255 ∧ b.length ≤ 1000000 ∧ ws.length = 0), ⟨c, b, bad, pl, y, ws, n, 0⟩)
  | _, _ => none
noncomputable def uk_1 := uh_14.addLoop 17 6 (sumR s05 [.slot 4 0, .slot 5 0, .path 1 [2]] [4, 5, 20, 21] readW_S readW_d)
theorem uk_1_laws : FLaws Try.prog s05 uk_1 := by
  refine uh_14_laws.addRoundsR s05_laws (by kernel_rfl) readW_S 40 [4, 5, 20, 21] [] [.slot 4 0, .slot 5 0, .path 1 [2]] [4, 5, 20, 21] readW_d (fun q hI => ?_) ?_
  · obtain ⟨c, b, bad, pl, y, ws, n, i⟩ := q
    refine ⟨?_, ?_, readW_round c b bad pl y ws n i hI⟩
    · simp_all [RefsOK, readW_S, readW_c, readW_o, readW_Inv, D.refs, Obj.refs, rEnc]
    · simp_all [readW_S, readW_fin, readW_o, readW_Inv, RT.refsOK, RefsOK, D.refs, Obj.refs, rEnc]
  · intro env os b q hd_ hb
    unfold readW_d at hd_
    split at hd_
    · obtain ⟨hs, hd_⟩ := staticD_some hd_
      cases hd_
      simp only [Bool.and_eq_true, decide_eq_true_eq] at hb
      obtain ⟨⟨rfl, rfl⟩, h⟩ := hb
      exact ⟨⟨by simpa using h.1, h.2.1, h.2.2.1, by simp [h.2.2.2]⟩, rfl, rfl⟩
    · cases hd_
def readP_s (c : Bool) (b : List UInt8) : Option (Bool × D RC) := some (decide (b.length ≤ 1000000), .tup (.acons (.acons (.int .i64 (recG (readR b)).place) (.acons (.bool (recG (readR b)).yes) (.acons (.sl (C := RC) .write (readR b).isNone (recG (readR b)).writes) .anil))) (.acons (.int .i64 (bif (readR b).isNone then 50 else 0)) .anil)))
def readP_sp : List (D RC) → Option (Bool × D RC)
  | [.sl .u8 c b] => readP_s c b
  | _ => none
noncomputable def readP_e (c : Bool) (b : List UInt8) := evF s05 uk_1 40 17 [.sl (C := RC) .u8 c b]
theorem readP_eq (c : Bool) (b : List UInt8) : readP_e c b = (bif decide (List.length b ≤ (1000000000000 : Nat)) then bif Prod.snd (getP b (0 : Int) (3 : Int)) != (0 : Int) then some (D.tup (D.acons (D.acons (D.int .i64 (0 : Int)) (.acons (D.bool false) (.acons (D.sl RTy.write true []) .anil))) (.acons (D.int .i64 (50 : Int)) .anil))) else bif decide ((0 : Int) ≤ (3 : Int) ∧ (3 : Int) ≤ (↑b.length : Int)) then bif decide (List.length (List.drop (3 : Nat) b) ≤ (1000000000000 : Nat)) then bif Prod.snd (getP (List.drop (3 : Nat) b) (0 : Int) (1 : Int)) != (0 : Int) then some (D.tup (D.acons (D.acons (D.int .i64 (0 : Int)) (.acons (D.bool false) (.acons (D.sl RTy.write true []) .anil))) (.acons (D.int .i64 (50 : Int)) .anil))) else bif decide ((0 : Int) ≤ (1 : Int) ∧ (1 : Int) ≤ (↑(List.drop (3 : Nat) b).length : Int)) then bif decide (List.length (List.drop (1 : Nat) (List.drop (3 : Nat) b)) ≤ (1000000000000 : Nat)) then bif Prod.snd (getP (List.drop (1 : Nat) (List.drop (3 : Nat) b)) (0 : Int) (1 : Int)) != (0 : Int) then some (D.tup (D.acons (D.acons (D.int .i64 (0 : Int)) (.acons (D.bool false) (.acons (D.sl RTy.write true []) .anil))) (.acons (D.int .i64 (50 : Int)) .anil))) else bif decide ((0 : Int) ≤ (1 : Int) ∧ (1 : Int) ≤ (↑(List.drop (1 : Nat) (List.drop (3 : Nat) b)).length : Int)) then bif decide ((0 : Int) ≤ Prod.fst (getP (List.drop (1 : Nat) (List.drop (3 : Nat) b)) (0 : Int) (1 : Int)) ∧ Prod.fst (getP (List.drop (1 : Nat) (List.drop (3 : Nat) b)) (0 : Int) (1 : Int)) ≤ (255 : Int) ∧ List.length (List.drop (1 : Nat) (List.drop (1 : Nat) (List.drop (3 : Nat) b))) ≤ (1000000 : Nat) ∧ (0 : Nat) = (0 : Nat)) then bif !Rd.bad (rWrites (Int.toNat (getP (List.drop (1 : Nat) (List.drop (3 : Nat) b)) (0 : Int) (1 : Int)).1 - (0 : Nat)) (Rd.mk c (List.drop (1 : Nat) (List.drop (1 : Nat) (List.drop (3 : Nat) b))) false)).1 then bif lenOK (rWrites (Int.toNat (getP (List.drop (1 : Nat) (List.drop (3 : Nat) b)) (0 : Int) (1 : Int)).1 - (0 : Nat)) (Rd.mk c (List.drop (1 : Nat) (List.drop (1 : Nat) (List.drop (3 : Nat) b))) false)).1.b.length then bif !(↑(rWrites (Int.toNat (getP (List.drop (1 : Nat) (List.drop (3 : Nat) b)) (0 : Int) (1 : Int)).1 - (0 : Nat)) (Rd.mk c (List.drop (1 : Nat) (List.drop (1 : Nat) (List.drop (3 : Nat) b))) false)).1.b.length : Int) == (0 : Int) then some (D.tup (D.acons (D.acons (D.int .i64 (0 : Int)) (.acons (D.bool false) (.acons (D.sl RTy.write true []) .anil))) (.acons (D.int .i64 (50 : Int)) .anil))) else bif decide ((1 : Int) < Prod.fst (getP (List.drop (3 : Nat) b) (0 : Int) (1 : Int))) then some (D.tup (D.acons (D.acons (D.int .i64 (0 : Int)) (.acons (D.bool false) (.acons (D.sl RTy.write true []) .anil))) (.acons (D.int .i64 (50 : Int)) .anil))) else bif Nat.beq ([] ++ Prod.snd (rWrites (Int.toNat (getP (List.drop (1 : Nat) (List.drop (3 : Nat) b)) (0 : Int) (1 : Int)).1 - (0 : Nat)) (Rd.mk c (List.drop (1 : Nat) (List.drop (1 : Nat) (List.drop (3 : Nat) b))) false))).length ([] ++ Prod.snd (rWrites (Int.toNat (getP (List.drop (1 : Nat) (List.drop (3 : Nat) b)) (0 : Int) (1 : Int)).1 - (0 : Nat)) (Rd.mk c (List.drop (1 : Nat) (List.drop (1 : Nat) (List.drop (3 : Nat) b))) false))).length then bif lenOK ([] ++ Prod.snd (rWrites (Int.toNat (getP (List.drop (1 : Nat) (List.drop (3 : Nat) b)) (0 : Int) (1 : Int)).1 - (0 : Nat)) (Rd.mk c (List.drop (1 : Nat) (List.drop (1 : Nat) (List.drop (3 : Nat) b))) false))).length then bif !mayB (Rec.mk (getP b (0 : Int) (3 : Int)).1 (Prod.fst (getP (List.drop (3 : Nat) b) (0 : Int) (1 : Int)) == (1 : Int)) ([] ++ Prod.snd (rWrites (Int.toNat (getP (List.drop (1 : Nat) (List.drop (3 : Nat) b)) (0 : Int) (1 : Int)).1 - (0 : Nat)) (Rd.mk c (List.drop (1 : Nat) (List.drop (1 : Nat) (List.drop (3 : Nat) b))) false)))) then some (D.tup (D.acons (D.acons (D.int .i64 (0 : Int)) (.acons (D.bool false) (.acons (D.sl RTy.write true []) .anil))) (.acons (D.int .i64 (50 : Int)) .anil))) else some (D.tup (D.acons (D.acons (D.int .i64 (getP b (0 : Int) (3 : Int)).1) (.acons (D.bool (Prod.fst (getP (List.drop (3 : Nat) b) (0 : Int) (1 : Int)) == (1 : Int))) (.acons (D.sl RTy.write false ([] ++ Prod.snd (rWrites (Int.toNat (getP (List.drop (1 : Nat) (List.drop (3 : Nat) b)) (0 : Int) (1 : Int)).1 - (0 : Nat)) (Rd.mk c (List.drop (1 : Nat) (List.drop (1 : Nat) (List.drop (3 : Nat) b))) false)))) .anil))) (.acons (D.int .i64 (0 : Int)) .anil))) else none else none else none else some (D.tup (D.acons (D.acons (D.int .i64 (0 : Int)) (.acons (D.bool false) (.acons (D.sl RTy.write true []) .anil))) (.acons (D.int .i64 (50 : Int)) .anil))) else none else none else none else none else none else none else none) := by kernel_rfl
theorem readP_ok (c : Bool) (b : List UInt8) (h : (decide (b.length ≤ 1000000)) = true) : readP_e c b = some (.tup (.acons (.acons (.int .i64 (recG (readR b)).place) (.acons (.bool (recG (readR b)).yes) (.acons (.sl (C := RC) .write (readR b).isNone (recG (readR b)).writes) .anil))) (.acons (.int .i64 (bif (readR b).isNone then 50 else 0)) .anil))) := by
  rw [readP_eq]
  have hl := of_decide_eq_true h
  have e0 : decide (b.length ≤ 1000000000000) = true := decide_eq_true (by omega)
  have no : readR b = none → some (D.tup (D.acons (D.acons (D.int IntKind.i64 0) (D.acons (D.bool false) (D.acons (D.sl (C := RC) RTy.write true []) D.anil))) (D.acons (D.int IntKind.i64 50) D.anil))) = some (.tup (.acons (.acons (.int .i64 (recG (readR b)).place) (.acons (.bool (recG (readR b)).yes) (.acons (.sl (C := RC) .write (readR b).isNone (recG (readR b)).writes) .anil))) (.acons (.int .i64 (bif (readR b).isNone then 50 else 0)) .anil))) := fun e => by rw [e]; rfl
  simp only [e0, cond_true, getP_snd3, getP_snd1]
  by_cases b3 : b.length < 3
  · simp only [b3, decide_true, cond_true]
    exact no (by unfold readR; rw [if_neg]; omega)
  have d3 : decide ((0 : Int) ≤ 3 ∧ (3 : Int) ≤ b.length) = true := by simp; omega
  have e1 : decide ((b.drop 3).length ≤ 1000000000000) = true := decide_eq_true (by simp; omega)
  simp only [b3, decide_false, cond_false, d3, cond_true, e1, getP_fst3 b3]
  by_cases b4 : (b.drop 3).length < 1
  · simp only [b4, decide_true, cond_true]
    exact no (by unfold readR; rw [if_neg]; simp at b4; omega)
  have d4 : decide ((0 : Int) ≤ 1 ∧ (1 : Int) ≤ (b.drop 3).length) = true := by simp only [decide_eq_true_eq]; omega
  have e2 : decide (((b.drop 3).drop 1).length ≤ 1000000000000) = true := decide_eq_true (by simp; omega)
  simp only [b4, decide_false, cond_false, d4, cond_true, e2, getP_fst1 b4]
  by_cases b5 : ((b.drop 3).drop 1).length < 1
  · simp only [b5, decide_true, cond_true]
    exact no (by unfold readR; rw [if_neg]; simp at b5; omega)
  have d5 : decide ((0 : Int) ≤ 1 ∧ (1 : Int) ≤ ((b.drop 3).drop 1).length) = true := by simp only [decide_eq_true_eq]; omega
  have v3 : leVal ((b.drop 3).take 1) = (b.getD 3 0).toNat := by
    rw [leVal_take1 (by omega)]; simp [List.getElem?_drop]
  have v4 : leVal (((b.drop 3).drop 1).take 1) = (b.getD 4 0).toNat := by
    rw [leVal_take1 (by omega)]; simp [List.getElem?_drop]
  have dr : ((b.drop 3).drop 1).drop 1 = b.drop 5 := by rw [List.drop_drop, List.drop_drop]
  simp only [b5, decide_false, cond_false, d5, cond_true, getP_fst1 b5, v3, v4, dr]
  have h4 := (b.getD 4 0).toNat_lt
  have dl : (b.drop 5).length = b.length - 5 := by simp
  have hl5 : 5 ≤ b.length := by have : ((b.drop 3).drop 1).length = b.length - 4 := by rw [List.drop_drop]; simp
                                omega
  generalize hn : (b.getD 4 0).toNat = n at h4 ⊢
  have c1 : decide ((0 : Int) ≤ n ∧ (n : Int) ≤ 255 ∧ (b.drop 5).length ≤ 1000000 ∧ True) = true := decide_eq_true ⟨by omega, by omega, by omega, trivial⟩
  have tn : (n : Int).toNat - 0 = n := by omega
  simp only [c1, tn, cond_true, List.nil_append]
  by_cases hs : (b.drop 5).length < 2 * n
  · simp only [rWrites_short n c _ false hs, Bool.not_true, cond_false]
    exact no (by unfold readR; rw [if_neg]; omega)
  rw [rWrites_ok n c _ false (by omega)]
  have k1 : lenOK ((b.drop 5).drop (2 * n)).length = true := lenOK_of (by simp; omega)
  have kp : (pairsN n (b.drop 5)).length ≤ 9223372036854775807 := by rw [pairsN_len]; omega
  have eb : ∀ n : Nat, n.beq n = true := fun n => by simp
  simp only [Bool.not_false, cond_true, k1, eb, lenOK_of kp]
  by_cases he : ((b.drop 5).drop (2 * n)).length = 0
  · have e5 : b.length = 5 + 2 * n := by simp at he; omega
    have e6 : ((((b.drop 5).drop (2 * n)).length : Int) == 0) = true := by simp only [beq_iff_eq]; omega
    simp only [e6, Bool.not_true, cond_false]
    by_cases hy : 1 < (b.getD 3 0).toNat
    · have : decide (1 < ((b.getD 3 0).toNat : Int)) = true := by simp only [decide_eq_true_eq]; omega
      simp only [this, cond_true]
      exact no (by unfold readR; rw [if_neg]; omega)
    · have y1 : decide (1 < ((b.getD 3 0).toNat : Int)) = false := by simp only [decide_eq_false_iff_not]; omega
      have y2 : (((b.getD 3 0).toNat : Int) == 1) = ((b.getD 3 0).toNat == 1) := by rw [Bool.eq_iff_iff]; simp only [beq_iff_eq]; omega
      simp only [y1, y2, cond_false]
      cases hm : mayB ⟨(leVal (b.take 3) : Int), (b.getD 3 0).toNat == 1, pairsN n (b.drop 5)⟩
      · simp only [Bool.not_false, cond_true]
        exact no (by unfold readR; rw [hn, if_neg]; intro q; rw [hm] at q; cases q.2.2.2)
      · have hr : readR b = some ⟨(leVal (b.take 3) : Int), (b.getD 3 0).toNat == 1, pairsN n (b.drop 5)⟩ := by
          unfold readR; rw [hn, if_pos ⟨hl5, by omega, e5, hm⟩]
        simp only [Bool.not_true, cond_false, hr, recG, Option.getD_some, Option.isNone_some]
  · have e6 : ((((b.drop 5).drop (2 * n)).length : Int) == 0) = false := by simp only [beq_eq_false_iff_ne]; omega
    simp only [e6, Bool.not_false, cond_true]
    exact no (by unfold readR; rw [hn, if_neg]; intro q; simp at he; omega)
noncomputable def uk_2 := uk_1.addSpec 17 readP_sp
theorem uk_2_laws : FLaws Try.prog s05 uk_2 := uk_1_laws.addEv s05_laws fun args d h => by
  unfold readP_sp at h
  split at h
  · unfold readP_s at h
    have h1 := congrArg Prod.fst (Option.some.inj h)
    obtain rfl : _ = d := congrArg Prod.snd (Option.some.inj h)
    exact ⟨by simp [D.refs], 40, readP_ok _ _ h1⟩
  · cases h
structure readWR_St where
  c : Bool
  b : List UInt8
  pl : Int
  y : Bool
  ws : List Write
  i : Nat
def readWR_c (c : Bool) (b : List UInt8) (pl : Int) (y : Bool) (ws : List Write) (i : Nat) : Env RC := [(0, .sl (C := RC) .u8 c b), (6, .ptr 0 []), (7, .int .i64 (i : Int))]
def readWR_o (c : Bool) (b : List UInt8) (pl : Int) (y : Bool) (ws : List Write) (i : Nat) : List (Obj RC) := [.var 27 (.acons (.int .i64 pl) (.acons (.bool y) (.acons (.vs 1 (ws.length)) .anil))), .vec (C := RC) .write true ws]
noncomputable def readWR_r (c : Bool) (b : List UInt8) (pl : Int) (y : Bool) (ws : List Write) (i : Nat) := rndO s05 uk_2 18 6 40 2 [0, 6, 7] [] [.slot 6 0, .path 0 [2]] (readWR_c c b pl y ws i) (readWR_o c b pl y ws i)
theorem readWR_eq (c : Bool) (b : List UInt8) (pl : Int) (y : Bool) (ws : List Write) (i : Nat) : readWR_r c b pl y ws i = (bif decide ((0 : Int) ≤ (4 : Int) ∧ (4 : Int) < (↑b.length : Int)) then bif decide ((↑i : Int) < IntKind.wrap .i64 (↑(UInt8.toNat (List.getD b (4 : Nat) (UInt8.ofBitVec (BitVec.ofNat (8 : Nat) (nat_lit 0))))) : Int)) then bif decide ((0 : Int) ≤ IntKind.wrap .i64 ((5 : Int) + IntKind.wrap .i64 ((2 : Int) * (↑i : Int))) ∧ IntKind.wrap .i64 ((5 : Int) + IntKind.wrap .i64 ((2 : Int) * (↑i : Int))) < (↑b.length : Int)) then bif decide ((0 : Int) ≤ IntKind.wrap .i64 ((6 : Int) + IntKind.wrap .i64 ((2 : Int) * (↑i : Int))) ∧ IntKind.wrap .i64 ((6 : Int) + IntKind.wrap .i64 ((2 : Int) * (↑i : Int))) < (↑b.length : Int)) then bif Nat.beq ws.length ws.length && sizeOK (List.length ws + List.length [Write.mk (IntKind.wrap .i64 (↑(UInt8.toNat (List.getD b (IntKind.wrap .i64 ((5 : Int) + IntKind.wrap .i64 ((2 : Int) * (↑i : Int)))).toNat (UInt8.ofBitVec (BitVec.ofNat (8 : Nat) (nat_lit 0))))) : Int)) (IntKind.wrap .i64 (↑(UInt8.toNat (List.getD b (IntKind.wrap .i64 ((6 : Int) + IntKind.wrap .i64 ((2 : Int) * (↑i : Int)))).toNat (UInt8.ofBitVec (BitVec.ofNat (8 : Nat) (nat_lit 0))))) : Int))]) (16 : Nat) then some ((X.normal, [((0 : Nat), D.sl RTy.u8 c b), ((6 : Nat), D.ptr (0 : Nat) []), ((7 : Nat), D.int .i64 (IntKind.wrap .i64 ((↑i : Int) + (1 : Int))))]), [some (Obj.var (27 : Nat) (.acons (D.int .i64 pl) (.acons (D.bool y) (.acons (D.vs (1 : Nat) (List.length ws + List.length [Write.mk (IntKind.wrap .i64 (↑(UInt8.toNat (List.getD b (IntKind.wrap .i64 ((5 : Int) + IntKind.wrap .i64 ((2 : Int) * (↑i : Int)))).toNat (UInt8.ofBitVec (BitVec.ofNat (8 : Nat) (nat_lit 0))))) : Int)) (IntKind.wrap .i64 (↑(UInt8.toNat (List.getD b (IntKind.wrap .i64 ((6 : Int) + IntKind.wrap .i64 ((2 : Int) * (↑i : Int)))).toNat (UInt8.ofBitVec (BitVec.ofNat (8 : Nat) (nat_lit 0))))) : Int))])) .anil)))), some (Obj.vec RTy.write true (ws ++ [Write.mk (IntKind.wrap .i64 (↑(UInt8.toNat (List.getD b (IntKind.wrap .i64 ((5 : Int) + IntKind.wrap .i64 ((2 : Int) * (↑i : Int)))).toNat (UInt8.ofBitVec (BitVec.ofNat (8 : Nat) (nat_lit 0))))) : Int)) (IntKind.wrap .i64 (↑(UInt8.toNat (List.getD b (IntKind.wrap .i64 ((6 : Int) + IntKind.wrap .i64 ((2 : Int) * (↑i : Int)))).toNat (UInt8.ofBitVec (BitVec.ofNat (8 : Nat) (nat_lit 0))))) : Int))]))]) else none else none else none else some ((X.exit (0 : Nat), []), [some (Obj.var (27 : Nat) (.acons (D.int .i64 pl) (.acons (D.bool y) (.acons (D.vs (1 : Nat) ws.length) .anil)))), some (Obj.vec RTy.write true ws)]) else none) := by kernel_rfl
def readWR_fin (c : Bool) (b : List UInt8) (pl : Int) (y : Bool) (ws : List Write) (i : Nat) : RT RC := .leaf (.exit 0) [] [.var 27 (.acons (.int .i64 pl) (.acons (.bool y) (.acons (.vs 1 (ws ++ pairsN ((b.getD 4 0).toNat - i) (b.drop (5 + 2 * i))).length) .anil))), .vec (C := RC) .write true (ws ++ pairsN ((b.getD 4 0).toNat - i) (b.drop (5 + 2 * i)))]
def readWR_Inv (c : Bool) (b : List UInt8) (pl : Int) (y : Bool) (ws : List Write) (i : Nat) : Prop := b.length = 5 + 2 * (b.getD 4 0).toNat ∧ i ≤ (b.getD 4 0).toNat ∧ ws.length ≤ i
def readWR_S : LoopR RC readWR_St where
  k := 2
  canon q := readWR_c q.c q.b q.pl q.y q.ws q.i
  objs q := readWR_o q.c q.b q.pl q.y q.ws q.i
  fin q := readWR_fin q.c q.b q.pl q.y q.ws q.i
  Inv q := readWR_Inv q.c q.b q.pl q.y q.ws q.i
  μ q := (q.b.getD 4 0).toNat - q.i
theorem readWR_round (c : Bool) (b : List UInt8) (pl : Int) (y : Bool) (ws : List Write) (i : Nat) (hI : readWR_Inv c b pl y ws i) : Leaf (readWR_r c b pl y ws i) (LedR readWR_S ⟨c, b, pl, y, ws, i⟩) := by
  rw [readWR_eq]
  unfold readWR_Inv at hI
  obtain ⟨h1, h2, h3⟩ := hI
  have eb : ∀ n : Nat, n.beq n = true := fun n => by simp
  have h4 := (b.getD 4 0).toNat_lt
  have z : (⟨0#8⟩ : UInt8) = 0 := rfl
  have d4 : decide ((0 : Int) ≤ 4 ∧ (4 : Int) < b.length) = true := by simp only [decide_eq_true_eq]; omega
  simp only [z, d4, cond_true, u8_i64, show Int.toNat 4 = 4 from rfl]
  by_cases hlt : i < (b.getD 4 0).toNat
  · have w_succ : IntKind.i64.wrap ((i : Int) + 1) = ((i + 1 : Nat) : Int) := by rw [wrap_id (by omega) (by omega)]; simp
    have w2 : IntKind.i64.wrap (2 * (i : Int)) = 2 * (i : Int) := wrap_id (by omega) (by omega)
    have w5 : IntKind.i64.wrap (5 + 2 * (i : Int)) = 5 + 2 * (i : Int) := wrap_id (by omega) (by omega)
    have w6 : IntKind.i64.wrap (6 + 2 * (i : Int)) = 6 + 2 * (i : Int) := wrap_id (by omega) (by omega)
    have t5 : (5 + 2 * (i : Int)).toNat = 5 + 2 * i := by omega
    have t6 : (6 + 2 * (i : Int)).toNat = 6 + 2 * i := by omega
    have l1 : decide ((i : Int) < ((b.getD 4 0).toNat : Int)) = true := by simp only [decide_eq_true_eq]; omega
    have d5 : decide (0 ≤ 5 + 2 * (i : Int) ∧ 5 + 2 * (i : Int) < b.length) = true := by simp only [decide_eq_true_eq]; omega
    have d6 : decide (0 ≤ 6 + 2 * (i : Int) ∧ 6 + 2 * (i : Int) < b.length) = true := by simp only [decide_eq_true_eq]; omega
    have s1 : sizeOK (ws.length + 1) 16 = true := sizeT (by omega)
    have hn : (b.getD 4 0).toNat - i = ((b.getD 4 0).toNat - (i + 1)) + 1 := by omega
    have g0 : (b.drop (5 + 2 * i)).getD 0 0 = b.getD (5 + 2 * i) 0 := by simp [List.getElem?_drop]
    have g1 : (b.drop (5 + 2 * i)).getD 1 0 = b.getD (6 + 2 * i) 0 := by simp [List.getElem?_drop]; congr 1; congr 1; omega
    have g2 : (b.drop (5 + 2 * i)).drop 2 = b.drop (5 + 2 * (i + 1)) := by rw [List.drop_drop]; congr 1
    simp only [w2, w5, w6, l1, d5, d6, w_succ, t5, t6, cond_true, List.length_cons, List.length_nil, Nat.zero_add, eb, s1, Bool.and_self]
    refine leafR_go ⟨c, b, pl, y, ws ++ [⟨((b.getD (5 + 2 * i) 0).toNat : Int), ((b.getD (6 + 2 * i) 0).toNat : Int)⟩], i + 1⟩ (by refine ⟨h1, hlt, ?_⟩; simp; omega) (by simp only [readWR_S]; omega) ?_ (by simp [readWR_S, readWR_c]) (by simp [readWR_S, readWR_o])
    simp only [readWR_S, readWR_fin, hn, pairsN, g0, g1, g2, List.append_assoc, List.cons_append, List.nil_append]
  · have l1 : decide ((i : Int) < ((b.getD 4 0).toNat : Int)) = false := by simp only [decide_eq_false_iff_not]; omega
    have hi : (b.getD 4 0).toNat - i = 0 := by omega
    simp only [l1, cond_false]
    exact leafR_exit (readWR_o c b pl y ws i) (by simp only [readWR_S, readWR_fin, readWR_o, hi, pairsN, RT.val, List.append_nil]) rfl
def readWR_d (env : Env RC) (os : List (Obj RC)) : Option (Bool × readWR_St) := match env, os with
  | [(0, .sl .u8 c b), (6, .ptr 0 []), (7, .int .i64 x0)], [.var 27 (.acons (.int .i64 pl) (.acons (.bool y) (.acons (.vs 1 x1) .anil))), .vec .write true ws] => staticD (true) (decide (x0 = 0) && decide (x1 = ws.length) && decide (b.length = 5 + 2 * (b.getD 4 0).toNat ∧ ws.length = 0), ⟨c, b, pl, y, ws, 0⟩)
  | _, _ => none
noncomputable def uk_3 := uk_2.addLoop 18 6 (sumR s05 [.slot 6 0, .path 0 [2]] [0, 6, 7] readWR_S readWR_d)
theorem uk_3_laws : FLaws Try.prog s05 uk_3 := by
  refine uk_2_laws.addRoundsR s05_laws (by kernel_rfl) readWR_S 40 [0, 6, 7] [] [.slot 6 0, .path 0 [2]] [0, 6, 7] readWR_d (fun q hI => ?_) ?_
  · obtain ⟨c, b, pl, y, ws, i⟩ := q
    refine ⟨?_, ?_, readWR_round c b pl y ws i hI⟩
    · simp_all [RefsOK, readWR_S, readWR_c, readWR_o, readWR_Inv, D.refs, Obj.refs, rEnc]
    · simp_all [readWR_S, readWR_fin, readWR_o, readWR_Inv, RT.refsOK, RefsOK, D.refs, Obj.refs, rEnc]
  · intro env os b q hd_ hb
    unfold readWR_d at hd_
    split at hd_
    · obtain ⟨hs, hd_⟩ := staticD_some hd_
      cases hd_
      simp only [Bool.and_eq_true, decide_eq_true_eq] at hb
      obtain ⟨⟨rfl, rfl⟩, hq⟩ := hb
      exact ⟨⟨hq.1, Nat.zero_le _, by simp [hq.2]⟩, rfl, rfl⟩
    · cases hd_
def readRr_s (c : Bool) (b : List UInt8) : Option (Bool × D RC) := some (decide (b.length ≤ 1000000), .tup (.acons (.acons (.int .i64 (recG (readR b)).place) (.acons (.bool (recG (readR b)).yes) (.acons (.sl (C := RC) .write (readR b).isNone (recG (readR b)).writes) .anil))) (.acons (.int .i64 (bif (readR b).isNone then 50 else 0)) .anil)))
def readRr_sp : List (D RC) → Option (Bool × D RC)
  | [.sl .u8 c b] => readRr_s c b
  | _ => none
noncomputable def readRr_e (c : Bool) (b : List UInt8) := evF s05 uk_3 40 18 [.sl (C := RC) .u8 c b]
theorem readRr_eq (c : Bool) (b : List UInt8) : readRr_e c b = (bif lenOK b.length then bif decide ((↑b.length : Int) < (5 : Int)) then some (D.tup (D.acons (D.acons (D.int .i64 (0 : Int)) (.acons (D.bool false) (.acons (D.sl RTy.write true []) .anil))) (.acons (D.int .i64 (50 : Int)) .anil))) else bif decide ((0 : Int) ≤ (3 : Int) ∧ (3 : Int) < (↑b.length : Int)) then bif decide ((1 : Int) < (↑(UInt8.toNat (List.getD b (3 : Nat) (UInt8.ofBitVec (BitVec.ofNat (8 : Nat) (nat_lit 0))))) : Int)) then some (D.tup (D.acons (D.acons (D.int .i64 (0 : Int)) (.acons (D.bool false) (.acons (D.sl RTy.write true []) .anil))) (.acons (D.int .i64 (50 : Int)) .anil))) else bif lenOK b.length then bif decide ((0 : Int) ≤ (4 : Int) ∧ (4 : Int) < (↑b.length : Int)) then bif (↑b.length : Int) != IntKind.wrap .i64 ((5 : Int) + IntKind.wrap .i64 ((2 : Int) * IntKind.wrap .i64 (↑(UInt8.toNat (List.getD b (4 : Nat) (UInt8.ofBitVec (BitVec.ofNat (8 : Nat) (nat_lit 0))))) : Int))) then some (D.tup (D.acons (D.acons (D.int .i64 (0 : Int)) (.acons (D.bool false) (.acons (D.sl RTy.write true []) .anil))) (.acons (D.int .i64 (50 : Int)) .anil))) else bif decide (List.length b ≤ (1000000000000 : Nat)) then bif decide ((0 : Int) ≤ (3 : Int) ∧ (3 : Int) < (↑b.length : Int)) then bif decide (List.length b = (5 : Nat) + (2 : Nat) * UInt8.toNat (List.getD b (4 : Nat) (0 : UInt8)) ∧ (0 : Nat) = (0 : Nat)) then bif Nat.beq ([] ++ pairsN (UInt8.toNat (List.getD b (4 : Nat) (0 : UInt8)) - (0 : Nat)) (List.drop (5 : Nat) b)).length ([] ++ pairsN (UInt8.toNat (List.getD b (4 : Nat) (0 : UInt8)) - (0 : Nat)) (List.drop (5 : Nat) b)).length then bif lenOK ([] ++ pairsN (UInt8.toNat (List.getD b (4 : Nat) (0 : UInt8)) - (0 : Nat)) (List.drop (5 : Nat) b)).length then bif !mayB (Rec.mk (getP b (0 : Int) (3 : Int)).1 ((↑(UInt8.toNat (List.getD b (3 : Nat) (UInt8.ofBitVec (BitVec.ofNat (8 : Nat) (nat_lit 0))))) : Int) == (1 : Int)) ([] ++ pairsN (UInt8.toNat (List.getD b (4 : Nat) (0 : UInt8)) - (0 : Nat)) (List.drop (5 : Nat) b))) then some (D.tup (D.acons (D.acons (D.int .i64 (0 : Int)) (.acons (D.bool false) (.acons (D.sl RTy.write true []) .anil))) (.acons (D.int .i64 (50 : Int)) .anil))) else some (D.tup (D.acons (D.acons (D.int .i64 (getP b (0 : Int) (3 : Int)).1) (.acons (D.bool ((↑(UInt8.toNat (List.getD b (3 : Nat) (UInt8.ofBitVec (BitVec.ofNat (8 : Nat) (nat_lit 0))))) : Int) == (1 : Int))) (.acons (D.sl RTy.write false ([] ++ pairsN (UInt8.toNat (List.getD b (4 : Nat) (0 : UInt8)) - (0 : Nat)) (List.drop (5 : Nat) b))) .anil))) (.acons (D.int .i64 (0 : Int)) .anil))) else none else none else none else none else none else none else none else none else none) := by kernel_rfl
theorem readRr_ok (c : Bool) (b : List UInt8) (h : (decide (b.length ≤ 1000000)) = true) : readRr_e c b = some (.tup (.acons (.acons (.int .i64 (recG (readR b)).place) (.acons (.bool (recG (readR b)).yes) (.acons (.sl (C := RC) .write (readR b).isNone (recG (readR b)).writes) .anil))) (.acons (.int .i64 (bif (readR b).isNone then 50 else 0)) .anil))) := by
  rw [readRr_eq]
  have hl := of_decide_eq_true h
  have z : (⟨0#8⟩ : UInt8) = 0 := rfl
  have h4 := (b.getD 4 0).toNat_lt
  have no : readR b = none → some (D.tup (D.acons (D.acons (D.int IntKind.i64 0) (D.acons (D.bool false) (D.acons (D.sl (C := RC) RTy.write true []) D.anil))) (D.acons (D.int IntKind.i64 50) D.anil))) = some (.tup (.acons (.acons (.int .i64 (recG (readR b)).place) (.acons (.bool (recG (readR b)).yes) (.acons (.sl (C := RC) .write (readR b).isNone (recG (readR b)).writes) .anil))) (.acons (.int .i64 (bif (readR b).isNone then 50 else 0)) .anil))) := fun e => by rw [e]; rfl
  simp only [z, lenOK_of (show b.length ≤ 9223372036854775807 by omega), cond_true, u8_i64]
  by_cases b5 : b.length < 5
  · have : decide ((b.length : Int) < 5) = true := by simp only [decide_eq_true_eq]; omega
    simp only [this, cond_true]
    exact no (by unfold readR; rw [if_neg]; omega)
  have l5 : decide ((b.length : Int) < 5) = false := by simp only [decide_eq_false_iff_not]; omega
  have d3 : decide ((0 : Int) ≤ 3 ∧ (3 : Int) < b.length) = true := by simp only [decide_eq_true_eq]; omega
  have d4 : decide ((0 : Int) ≤ 4 ∧ (4 : Int) < b.length) = true := by simp only [decide_eq_true_eq]; omega
  simp only [l5, d3, d4, cond_true, cond_false]
  by_cases y0 : 1 < (b.getD 3 0).toNat
  · have : decide (1 < ((b.getD 3 0).toNat : Int)) = true := by simp only [decide_eq_true_eq]; omega
    simp only [this, cond_true]
    exact no (by unfold readR; rw [if_neg]; omega)
  have y1 : decide (1 < ((b.getD 3 0).toNat : Int)) = false := by simp only [decide_eq_false_iff_not]; omega
  have y2 : (((b.getD 3 0).toNat : Int) == 1) = ((b.getD 3 0).toNat == 1) := by rw [Bool.eq_iff_iff]; simp only [beq_iff_eq]; omega
  have w2 : IntKind.i64.wrap (2 * ((b.getD 4 0).toNat : Int)) = 2 * ((b.getD 4 0).toNat : Int) := wrap_id (by omega) (by omega)
  have w5 : IntKind.i64.wrap (5 + 2 * ((b.getD 4 0).toNat : Int)) = 5 + 2 * ((b.getD 4 0).toNat : Int) := wrap_id (by omega) (by omega)
  simp only [y1, y2, w2, w5, cond_false]
  by_cases e5 : b.length = 5 + 2 * (b.getD 4 0).toNat
  · have q1 : ((b.length : Int) != 5 + 2 * ((b.getD 4 0).toNat : Int)) = false := by simp only [bne_eq_false_iff_eq]; omega
    have q2 : decide (b.length ≤ 1000000000000) = true := decide_eq_true (by omega)
    have q3 : decide (b.length = 5 + 2 * (b.getD 4 0).toNat ∧ True) = true := decide_eq_true ⟨e5, trivial⟩
    have kp : (pairsN (b.getD 4 0).toNat (b.drop 5)).length ≤ 9223372036854775807 := by rw [pairsN_len]; omega
    have eb : ∀ n : Nat, n.beq n = true := fun n => by simp
    simp only [q1, q2, q3, eb, lenOK_of kp, cond_true, cond_false, List.nil_append, Nat.sub_zero, getP_fst3 (show ¬ b.length < 3 by omega)]
    cases hm : mayB ⟨(leVal (b.take 3) : Int), (b.getD 3 0).toNat == 1, pairsN (b.getD 4 0).toNat (b.drop 5)⟩
    · simp only [Bool.not_false, cond_true]
      exact no (by unfold readR; rw [if_neg]; intro q; rw [hm] at q; cases q.2.2.2)
    · have hr : readR b = some ⟨(leVal (b.take 3) : Int), (b.getD 3 0).toNat == 1, pairsN (b.getD 4 0).toNat (b.drop 5)⟩ := by
        unfold readR; rw [if_pos ⟨by omega, by omega, e5, hm⟩]
      simp only [Bool.not_true, cond_false, hr, recG, Option.getD_some, Option.isNone_some]
  · have q1 : ((b.length : Int) != 5 + 2 * ((b.getD 4 0).toNat : Int)) = true := by simp only [bne_iff_ne, ne_eq]; omega
    simp only [q1, cond_true]
    exact no (by unfold readR; rw [if_neg]; omega)
noncomputable def uk_4 := uk_3.addSpec 18 readRr_sp
theorem uk_4_laws : FLaws Try.prog s05 uk_4 := uk_3_laws.addEv s05_laws fun args d h => by
  unfold readRr_sp at h
  split at h
  · unfold readRr_s at h
    have h1 := congrArg Prod.fst (Option.some.inj h)
    obtain rfl : _ = d := congrArg Prod.snd (Option.some.inj h)
    exact ⟨by simp [D.refs], 40, readRr_ok _ _ h1⟩
  · cases h
def sget (w : Nat) (b : List UInt8) : Option (Int × List UInt8) := if w ≤ b.length then some ((leVal (b.take w) : Int), b.drop w) else none
def sItems : Nat → List UInt8 → Option (List Item × List UInt8)
  | 0, b => some ([], b)
  | n + 1, b => (sget 1 b).bind fun k => (sget 3 k.2).bind fun p => (sget 1 p.2).bind fun v => (sItems n v.2).bind fun q => some (⟨k.1, p.1, v.1⟩ :: q.1, q.2)
def sLines : Nat → Int → List UInt8 → Option (List Line × List UInt8)
  | 0, _, b => some ([], b)
  | n + 1, o, b => (sget 3 b).bind fun p => (sget 1 p.2).bind fun x => (sget 1 x.2).bind fun v => (sLines n (o + 1) v.2).bind fun q => some (⟨o, p.1, x.1 % 16, x.1 / 16, v.1⟩ :: q.1, q.2)
def sPart (b : List UInt8) : Option ((Int × List Line) × List UInt8) :=
  (sget 3 b).bind fun c => (sget 1 c.2).bind fun n => (sget 3 n.2).bind fun f => if n.1 = 0 ∧ f.1 ≠ 0 then none else (sLines n.1.toNat f.1 f.2).bind fun q => some ((c.1, q.1), q.2)
def readS (b : List UInt8) : Option St :=
  (sget 3 b).bind fun p => (sget 1 p.2).bind fun n => (sItems n.1.toNat n.2).bind fun it => (sPart it.2).bind fun x => (sPart x.2).bind fun y => (sPart y.2).bind fun z =>
    if z.2 = [] ∧ standsOK ⟨p.1, it.1, x.1.2, y.1.2, z.1.2, x.1.1, y.1.1, z.1.1⟩ = true then some ⟨p.1, it.1, x.1.2, y.1.2, z.1.2, x.1.1, y.1.1, z.1.1⟩ else none
structure Rdr (σ : Type) where
  get : Nat → σ → Int × σ
  bad : σ → Bool
  rem : σ → List UInt8
structure RdrOK {σ : Type} (R : Rdr σ) : Prop where
  ok : ∀ w s, 1 ≤ w → R.bad s = false → w ≤ (R.rem s).length → (R.get w s).1 = (leVal ((R.rem s).take w) : Int) ∧ R.rem (R.get w s).2 = (R.rem s).drop w ∧ R.bad (R.get w s).2 = false
  no : ∀ w s, R.bad s = false → (R.rem s).length < w → R.bad (R.get w s).2 = true
  stay : ∀ w s, R.bad s = true → R.bad (R.get w s).2 = true
section
variable {σ : Type} (R : Rdr σ)
def Agree {α : Type} (o : Option (α × List UInt8)) (v : α) (s : σ) : Prop := match o with
  | some q => v = q.1 ∧ R.rem s = q.2 ∧ R.bad s = false
  | none => R.bad s = true
variable {R} (K : RdrOK R)
include K
theorem agree_get (w : Nat) (s : σ) (h : R.bad s = false) (h1 : 1 ≤ w := by decide) : Agree R (sget w (R.rem s)) (R.get w s).1 (R.get w s).2 := by
  unfold sget
  by_cases hw : w ≤ (R.rem s).length
  · rw [if_pos hw]; exact K.ok w s h1 h hw
  · rw [if_neg hw]; exact K.no w s h (by omega)
omit K in
theorem agree_bind {α β : Type} {o : Option (α × List UInt8)} {v : α} {s s' : σ} {w : β} (f : α × List UInt8 → Option (β × List UInt8)) (h : Agree R o v s) (hs : R.bad s = true → R.bad s' = true) (hf : R.bad s = false → Agree R (f (v, R.rem s)) w s') : Agree R (o.bind f) w s' := by
  cases o with
  | none => exact hs h
  | some q =>
    obtain ⟨h1, h2, h3⟩ := h
    have := hf h3
    rw [h1, h2] at this
    exact this
def gItems (R : Rdr σ) (stop : Bool) : Nat → σ → σ × List Item
  | 0, s => (s, [])
  | n + 1, s => bif stop && R.bad s then (s, []) else
    let k := R.get 1 s
    let p := R.get 3 k.2
    let v := R.get 1 p.2
    let q := gItems R stop n v.2
    (q.1, ⟨k.1, p.1, v.1⟩ :: q.2)
def gLines (R : Rdr σ) (stop : Bool) : Nat → Int → σ → σ × List Line
  | 0, _, s => (s, [])
  | n + 1, o, s => bif stop && R.bad s then (s, []) else
    let p := R.get 3 s
    let x := R.get 1 p.2
    let v := R.get 1 x.2
    let q := gLines R stop n (o + 1) v.2
    (q.1, ⟨o, p.1, x.1 % 16, x.1 / 16, v.1⟩ :: q.2)
theorem gItems_stay (stop : Bool) : ∀ (n : Nat) (s : σ), R.bad s = true → R.bad (gItems R stop n s).1 = true
  | 0, s, h => h
  | n + 1, s, h => by
    cases stop with
    | true => simp [gItems, h]
    | false =>
      simp only [gItems, Bool.false_and, cond_false]
      exact gItems_stay false n _ (K.stay _ _ (K.stay _ _ (K.stay _ _ h)))
theorem gLines_stay (stop : Bool) : ∀ (n : Nat) (o : Int) (s : σ), R.bad s = true → R.bad (gLines R stop n o s).1 = true
  | 0, o, s, h => h
  | n + 1, o, s, h => by
    cases stop with
    | true => simp [gLines, h]
    | false =>
      simp only [gLines, Bool.false_and, cond_false]
      exact gLines_stay false n _ _ (K.stay _ _ (K.stay _ _ (K.stay _ _ h)))
theorem gItems_agree (stop : Bool) : ∀ (n : Nat) (s : σ), R.bad s = false → Agree R (sItems n (R.rem s)) (gItems R stop n s).2 (gItems R stop n s).1
  | 0, s, h => ⟨rfl, rfl, h⟩
  | n + 1, s, h => by
    have e : gItems R stop (n + 1) s = ((gItems R stop n (R.get 1 (R.get 3 (R.get 1 s).2).2).2).1, ⟨(R.get 1 s).1, (R.get 3 (R.get 1 s).2).1, (R.get 1 (R.get 3 (R.get 1 s).2).2).1⟩ :: (gItems R stop n (R.get 1 (R.get 3 (R.get 1 s).2).2).2).2) := by
      simp [gItems, h]
    rw [e, sItems]
    refine agree_bind _ (agree_get K 1 s h) (fun hb => gItems_stay K stop n _ (K.stay _ _ (K.stay _ _ hb))) fun h1 => ?_
    refine agree_bind _ (agree_get K 3 _ h1) (fun hb => gItems_stay K stop n _ (K.stay _ _ hb)) fun h2 => ?_
    refine agree_bind _ (agree_get K 1 _ h2) (fun hb => gItems_stay K stop n _ hb) fun h3 => ?_
    refine agree_bind _ (gItems_agree stop n _ h3) (fun hb => hb) fun h4 => ?_
    exact ⟨rfl, rfl, h4⟩
theorem gLines_agree (stop : Bool) : ∀ (n : Nat) (o : Int) (s : σ), R.bad s = false → Agree R (sLines n o (R.rem s)) (gLines R stop n o s).2 (gLines R stop n o s).1
  | 0, o, s, h => ⟨rfl, rfl, h⟩
  | n + 1, o, s, h => by
    have e : gLines R stop (n + 1) o s = ((gLines R stop n (o + 1) (R.get 1 (R.get 1 (R.get 3 s).2).2).2).1, ⟨o, (R.get 3 s).1, (R.get 1 (R.get 3 s).2).1 % 16, (R.get 1 (R.get 3 s).2).1 / 16, (R.get 1 (R.get 1 (R.get 3 s).2).2).1⟩ :: (gLines R stop n (o + 1) (R.get 1 (R.get 1 (R.get 3 s).2).2).2).2) := by
      simp [gLines, h]
    rw [e, sLines]
    refine agree_bind _ (agree_get K 3 s h) (fun hb => gLines_stay K stop n _ _ (K.stay _ _ (K.stay _ _ hb))) fun h1 => ?_
    refine agree_bind _ (agree_get K 1 _ h1) (fun hb => gLines_stay K stop n _ _ (K.stay _ _ hb)) fun h2 => ?_
    refine agree_bind _ (agree_get K 1 _ h2) (fun hb => gLines_stay K stop n _ _ hb) fun h3 => ?_
    refine agree_bind _ (gLines_agree stop n _ _ h3) (fun hb => hb) fun h4 => ?_
    exact ⟨rfl, rfl, h4⟩
def gPart (R : Rdr σ) (stop : Bool) (mark : σ → σ) (s : σ) : σ × Int × List Line :=
  let c := R.get 3 s
  let n := R.get 1 c.2
  let f := R.get 3 n.2
  let q := gLines R stop n.1.toNat f.1 (bif n.1 == 0 && f.1 != 0 then mark f.2 else f.2)
  (q.1, c.1, q.2)
theorem gPart_stay (stop : Bool) (mark : σ → σ) (hm : ∀ s, R.bad (mark s) = true) (s : σ) (h : R.bad s = true) : R.bad (gPart R stop mark s).1 = true := by
  unfold gPart
  refine gLines_stay K stop _ _ _ ?_
  cases ((R.get 1 (R.get 3 s).2).1 == 0 && (R.get 3 (R.get 1 (R.get 3 s).2).2).1 != 0) with
  | true => exact hm _
  | false => exact K.stay _ _ (K.stay _ _ (K.stay _ _ h))
theorem gPart_agree (stop : Bool) (mark : σ → σ) (hm : ∀ s, R.bad (mark s) = true) (s : σ) (h : R.bad s = false) : Agree R (sPart (R.rem s)) (gPart R stop mark s).2 (gPart R stop mark s).1 := by
  have st : ∀ x : σ, R.bad x = true → ∀ b : Bool, R.bad (bif b then mark x else x) = true := fun x hx b => by cases b; exact hx; exact hm x
  unfold sPart gPart
  refine agree_bind _ (agree_get K 3 s h) (fun hb => gLines_stay K stop _ _ _ (st _ (K.stay _ _ (K.stay _ _ hb)) _)) fun h1 => ?_
  refine agree_bind _ (agree_get K 1 _ h1) (fun hb => gLines_stay K stop _ _ _ (st _ (K.stay _ _ hb) _)) fun h2 => ?_
  refine agree_bind _ (agree_get K 3 _ h2) (fun hb => gLines_stay K stop _ _ _ (st _ hb _)) fun h3 => ?_
  by_cases hc : (R.get 1 (R.get 3 s).2).1 = 0 ∧ (R.get 3 (R.get 1 (R.get 3 s).2).2).1 ≠ 0
  · have e : ((R.get 1 (R.get 3 s).2).1 == 0 && (R.get 3 (R.get 1 (R.get 3 s).2).2).1 != 0) = true := by simp [hc.1, hc.2]
    simp only [if_pos hc, e, cond_true]
    exact gLines_stay K stop _ _ _ (hm _)
  · have e : ((R.get 1 (R.get 3 s).2).1 == 0 && (R.get 3 (R.get 1 (R.get 3 s).2).2).1 != 0) = false := by
      cases hq : ((R.get 1 (R.get 3 s).2).1 == 0 && (R.get 3 (R.get 1 (R.get 3 s).2).2).1 != 0) with
      | false => rfl
      | true => simp only [Bool.and_eq_true, beq_iff_eq, bne_iff_ne, ne_eq] at hq; exact (hc hq).elim
    simp only [if_neg hc, e, cond_false]
    refine agree_bind _ (gLines_agree K stop _ _ _ h3) (fun hb => hb) fun h4 => ?_
    exact ⟨rfl, rfl, h4⟩
def gState (R : Rdr σ) (stop : Bool) (mark : σ → σ) (s : σ) : σ × St :=
  let p := R.get 3 s
  let n := R.get 1 p.2
  let it := gItems R stop n.1.toNat n.2
  let x := gPart R stop mark it.1
  let y := gPart R stop mark x.1
  let z := gPart R stop mark y.1
  (z.1, ⟨p.1, it.2, x.2.2, y.2.2, z.2.2, x.2.1, y.2.1, z.2.1⟩)
def sState (b : List UInt8) : Option (St × List UInt8) :=
  (sget 3 b).bind fun p => (sget 1 p.2).bind fun n => (sItems n.1.toNat n.2).bind fun it => (sPart it.2).bind fun x => (sPart x.2).bind fun y => (sPart y.2).bind fun z =>
    some (⟨p.1, it.1, x.1.2, y.1.2, z.1.2, x.1.1, y.1.1, z.1.1⟩, z.2)
theorem gState_agree (stop : Bool) (mark : σ → σ) (hm : ∀ s, R.bad (mark s) = true) (s : σ) (h : R.bad s = false) : Agree R (sState (R.rem s)) (gState R stop mark s).2 (gState R stop mark s).1 := by
  have ps := gPart_stay K stop mark hm
  unfold sState gState
  refine agree_bind _ (agree_get K 3 s h) (fun hb => ps _ (ps _ (ps _ (gItems_stay K stop _ _ (K.stay _ _ hb))))) fun h1 => ?_
  refine agree_bind _ (agree_get K 1 _ h1) (fun hb => ps _ (ps _ (ps _ (gItems_stay K stop _ _ hb)))) fun h2 => ?_
  refine agree_bind _ (gItems_agree K stop _ _ h2) (fun hb => ps _ (ps _ (ps _ hb))) fun h3 => ?_
  refine agree_bind _ (gPart_agree K stop mark hm _ h3) (fun hb => ps _ (ps _ hb)) fun h4 => ?_
  refine agree_bind _ (gPart_agree K stop mark hm _ h4) (fun hb => ps _ hb) fun h5 => ?_
  refine agree_bind _ (gPart_agree K stop mark hm _ h5) (fun hb => hb) fun h6 => ?_
  exact ⟨rfl, rfl, h6⟩
omit K in
theorem readS_eq (b : List UInt8) : readS b = match sState b with
    | some q => if q.2 = [] ∧ standsOK q.1 = true then some q.1 else none
    | none => none := by
  unfold readS sState
  cases sget 3 b with
  | none => rfl
  | some p =>
    simp only [Option.bind_some]
    cases sget 1 p.2 with
    | none => rfl
    | some n =>
      simp only [Option.bind_some]
      cases sItems n.1.toNat n.2 with
      | none => rfl
      | some it =>
        simp only [Option.bind_some]
        cases sPart it.2 with
        | none => rfl
        | some x =>
          simp only [Option.bind_some]
          cases sPart x.2 with
          | none => rfl
          | some y =>
            simp only [Option.bind_some]
            cases sPart y.2 with
            | none => rfl
            | some z => rfl
theorem gState_read (stop : Bool) (mark : σ → σ) (hm : ∀ s, R.bad (mark s) = true) (s : σ) (h : R.bad s = false) :
    readS (R.rem s) = if R.bad (gState R stop mark s).1 = false ∧ R.rem (gState R stop mark s).1 = [] ∧ standsOK (gState R stop mark s).2 = true then some (gState R stop mark s).2 else none := by
  have := gState_agree K stop mark hm s h
  rw [readS_eq]
  cases hq : sState (R.rem s) with
  | none =>
    rw [hq] at this
    have hb : R.bad (gState R stop mark s).1 = true := this
    simp [hb]
  | some q =>
    rw [hq] at this
    obtain ⟨h1, h2, h3⟩ := this
    rw [h1, h2, h3]
    simp
end
def rdP : Rdr Rd := ⟨rget, Rd.bad, Rd.b⟩
theorem rdP_ok : RdrOK rdP where
  ok w s h1 h hw := by
    obtain ⟨c, b, bad⟩ := s
    simp only [rdP] at h hw ⊢
    subst h
    rw [rget_ok hw]; exact ⟨rfl, rfl, rfl⟩
  no w s h hw := by
    obtain ⟨c, b, bad⟩ := s
    simp only [rdP] at hw ⊢
    rw [rget_no hw]
  stay w s h := rget_bad h
structure Rn where
  pos : Nat
  short : Bool
def nget (b : List UInt8) (w : Nat) (s : Rn) : Int × Rn := if s.pos + w ≤ b.length then ((leVal ((b.drop s.pos).take w) : Int), ⟨s.pos + w, s.short⟩) else (0, ⟨s.pos, true⟩)
def rdN (b : List UInt8) : Rdr Rn := ⟨nget b, Rn.short, fun s => b.drop s.pos⟩
theorem rdN_ok (b : List UInt8) : RdrOK (rdN b) where
  ok w s h1 h hw := by
    obtain ⟨p, sh⟩ := s
    simp only [rdN, List.length_drop] at h hw ⊢
    simp only [nget, if_pos (show p + w ≤ b.length by omega)]
    exact ⟨by first | trivial | rfl, by rw [List.drop_drop], h⟩
  no w s h hw := by
    obtain ⟨p, sh⟩ := s
    simp only [rdN, List.length_drop] at hw ⊢
    simp only [nget, if_neg (show ¬ p + w ≤ b.length by omega)]
  stay w s h := by
    obtain ⟨p, sh⟩ := s
    simp only [rdN] at h ⊢
    unfold nget; split
    · exact h
    · rfl
def addL {α : Type} (q k : Int) (l x : List α) : List α := if q = k then l ++ x else l
structure QS (σ : Type) where
  r : σ
  l0 : List Line
  l1 : List Line
  l2 : List Line
  c0 : Int
  c1 : Int
  c2 : Int
section
variable {σ : Type} (R : Rdr σ) (stop : Bool) (mark : σ → σ)
def part0 (s : QS σ) : QS σ := { s with r := (gPart R stop mark s.r).1, l0 := s.l0 ++ (gPart R stop mark s.r).2.2, c0 := (gPart R stop mark s.r).2.1 }
def part1 (s : QS σ) : QS σ := { s with r := (gPart R stop mark s.r).1, l1 := s.l1 ++ (gPart R stop mark s.r).2.2, c1 := (gPart R stop mark s.r).2.1 }
def part2 (s : QS σ) : QS σ := { s with r := (gPart R stop mark s.r).1, l2 := s.l2 ++ (gPart R stop mark s.r).2.2, c2 := (gPart R stop mark s.r).2.1 }
def runQ : Nat → QS σ → QS σ
  | 0, s => part2 R stop mark (part1 R stop mark (part0 R stop mark s))
  | 1, s => part2 R stop mark (part1 R stop mark s)
  | 2, s => part2 R stop mark s
  | _, s => s
end
def markP (r : Rd) : Rd := ⟨r.c, r.b, true⟩
theorem gLines_len {σ : Type} (R : Rdr σ) (stop : Bool) : ∀ (n : Nat) (o : Int) (s : σ), (gLines R stop n o s).2.length ≤ n
  | 0, _, _ => Nat.le_refl _
  | n + 1, o, s => by
    simp only [gLines]
    cases stop && R.bad s with
    | true => simp
    | false => have := gLines_len R stop n (o + 1) (R.get 1 (R.get 1 (R.get 3 s).2).2).2; simp; omega
theorem and15 (m : Nat) (hm : m < 2 ^ 63) : bits .i64 (fun _ u v => u &&& v) (m : Int) 15 = (m : Int) % 16 := by
  unfold bits
  have h1 : ∀ x : Nat, x < 2 ^ 64 → (BitVec.ofInt IntKind.i64.bits (x : Int)).toNat = x := by
    intro x hx
    rw [BitVec.toNat_ofInt]
    simp only [IntKind.bits]
    omega
  have e : (15 : Int) = ((15 : Nat) : Int) := rfl
  rw [e, BitVec.toNat_and, h1 _ (by omega), h1 _ (by omega)]
  have h2 : m &&& 15 = m % 16 := Nat.and_two_pow_sub_one_eq_mod m 4
  rw [h2, wrap_id (by omega) (by omega)]
  omega
theorem gItemsP_succ (k : Nat) (s : Rd) : gItems rdP false (k + 1) s = ((gItems rdP false k (rget 1 (rget 3 (rget 1 s).2).2).2).1, ⟨(rget 1 s).1, (rget 3 (rget 1 s).2).1, (rget 1 (rget 3 (rget 1 s).2).2).1⟩ :: (gItems rdP false k (rget 1 (rget 3 (rget 1 s).2).2).2).2) := rfl
theorem gLinesP_succ (k : Nat) (o : Int) (s : Rd) : gLines rdP false (k + 1) o s = ((gLines rdP false k (o + 1) (rget 1 (rget 1 (rget 3 s).2).2).2).1, ⟨o, (rget 3 s).1, (rget 1 (rget 3 s).2).1 % 16, (rget 1 (rget 3 s).2).1 / 16, (rget 1 (rget 1 (rget 3 s).2).2).1⟩ :: (gLines rdP false k (o + 1) (rget 1 (rget 1 (rget 3 s).2).2).2).2) := rfl
end Go.Ev
