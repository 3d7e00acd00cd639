/-
  RecordBack returns true for all records, states and bytes, and all read behind the call as before. No condition beyond the given statement. (text 4 of 6)
-/
import Derived.Test.YtnphmfcnnpoinaaP2
namespace Go.Ev
open Go.Proofs
set_option maxRecDepth 100000
set_option linter.unusedVariables false
set_option linter.unusedSimpArgs false
/-! ## package pack -/
/-! ### function put: flume/pack.Put -/
def put_s (c : Bool) (b : List UInt8) (n : Int) (w : Int) : Option (Bool × D RC) := staticD (w == 1 || w == 2 || w == 3 || w == 6) (decide (b.length ≤ 1000000000), .tup (.acons (.sl (C := RC) .u8 (!fitsB n w.toNat) (putL b n w.toNat)) (.acons (.int .i64 (bif fitsB n w.toNat then 0 else 2)) .anil)))
def put_sp : List (D RC) → Option (Bool × D RC)
  | [.sl .u8 c b, .int .i64 n, .int .i64 w] => put_s c b n w
  | _ => none
noncomputable def put_e (c : Bool) (b : List UInt8) (n : Int) (w : Int) := evF s05 ua_10 40 53 [.sl (C := RC) .u8 c b, .int .i64 n, .int .i64 w]
theorem put1_eq (c : Bool) (b : List UInt8) (n : Int) : put_e c b n 1 = (bif decide ((0 : Int) ≤ n) then bif !Int.fdiv n (256 : Int) == (0 : Int) then some (D.tup (D.acons (D.sl RTy.u8 true []) (D.acons (D.int IntKind.i64 (2 : Int)) D.anil))) else bif lenOK (List.length b) then bif lenOK (List.length b) then bif decide ((0 : Int) ≤ (0 : Int) ∧ (0 : Int) ≤ (↑(List.length b) : Int) ∧ (↑(List.length b) : Int) ≤ (↑(List.length b) : Int) ∧ (↑(List.length b) : Int) = (↑(List.length b) : Int)) then bif sizeOK (List.length (List.drop (0 : Nat) (List.take (Int.toNat (↑(List.length b) : Int)) b)) + List.length [UInt8.ofNat (Int.toNat (IntKind.wrap IntKind.u8 n))]) (1 : Nat) then bif Nat.beq (List.length (List.drop (0 : Nat) (List.take (Int.toNat (↑(List.length b) : Int)) b)) + List.length [UInt8.ofNat (Int.toNat (IntKind.wrap IntKind.u8 n))]) (List.length (List.drop (0 : Nat) (List.take (Int.toNat (↑(List.length b) : Int)) b) ++ [UInt8.ofNat (Int.toNat (IntKind.wrap IntKind.u8 n))])) then some (D.tup (D.acons (D.sl RTy.u8 false (List.drop (0 : Nat) (List.take (Int.toNat (↑(List.length b) : Int)) b) ++ [UInt8.ofNat (Int.toNat (IntKind.wrap IntKind.u8 n))])) (D.acons (D.int IntKind.i64 (0 : Int)) D.anil))) else none else none else none else none else none else some (D.tup (D.acons (D.sl RTy.u8 true []) (D.acons (D.int IntKind.i64 (2 : Int)) D.anil)))) := by kernel_rfl
theorem put2_eq (c : Bool) (b : List UInt8) (n : Int) : put_e c b n 2 = (bif decide ((0 : Int) ≤ n) then bif !Int.fdiv n (65536 : Int) == (0 : Int) then some (D.tup (D.acons (D.sl RTy.u8 true []) (D.acons (D.int IntKind.i64 (2 : Int)) D.anil))) else bif lenOK (List.length b) then bif lenOK (List.length b) then bif decide ((0 : Int) ≤ (0 : Int) ∧ (0 : Int) ≤ (↑(List.length b) : Int) ∧ (↑(List.length b) : Int) ≤ (↑(List.length b) : Int) ∧ (↑(List.length b) : Int) = (↑(List.length b) : Int)) then bif sizeOK (List.length (List.drop (0 : Nat) (List.take (Int.toNat (↑(List.length b) : Int)) b)) + List.length [UInt8.ofNat (Int.toNat (IntKind.wrap IntKind.u8 n))]) (1 : Nat) then bif Nat.beq (List.length (List.drop (0 : Nat) (List.take (Int.toNat (↑(List.length b) : Int)) b)) + List.length [UInt8.ofNat (Int.toNat (IntKind.wrap IntKind.u8 n))]) (List.length (List.drop (0 : Nat) (List.take (Int.toNat (↑(List.length b) : Int)) b) ++ [UInt8.ofNat (Int.toNat (IntKind.wrap IntKind.u8 n))])) && sizeOK (List.length (List.drop (0 : Nat) (List.take (Int.toNat (↑(List.length b) : Int)) b)) + List.length [UInt8.ofNat (Int.toNat (IntKind.wrap IntKind.u8 n))] + List.length [UInt8.ofNat (Int.toNat (IntKind.wrap IntKind.u8 (Int.fdiv n (256 : Int))))]) (1 : Nat) then bif Nat.beq (List.length (List.drop (0 : Nat) (List.take (Int.toNat (↑(List.length b) : Int)) b) ++ [UInt8.ofNat (Int.toNat (IntKind.wrap IntKind.u8 n))]) + List.length [UInt8.ofNat (Int.toNat (IntKind.wrap IntKind.u8 (Int.fdiv n (256 : Int))))]) (List.length (List.drop (0 : Nat) (List.take (Int.toNat (↑(List.length b) : Int)) b) ++ [UInt8.ofNat (Int.toNat (IntKind.wrap IntKind.u8 n))] ++ [UInt8.ofNat (Int.toNat (IntKind.wrap IntKind.u8 (Int.fdiv n (256 : Int))))])) then some (D.tup (D.acons (D.sl RTy.u8 false (List.drop (0 : Nat) (List.take (Int.toNat (↑(List.length b) : Int)) b) ++ [UInt8.ofNat (Int.toNat (IntKind.wrap IntKind.u8 n))] ++ [UInt8.ofNat (Int.toNat (IntKind.wrap IntKind.u8 (Int.fdiv n (256 : Int))))])) (D.acons (D.int IntKind.i64 (0 : Int)) D.anil))) else none else none else none else none else none else none else some (D.tup (D.acons (D.sl RTy.u8 true []) (D.acons (D.int IntKind.i64 (2 : Int)) D.anil)))) := by kernel_rfl
theorem put3_eq (c : Bool) (b : List UInt8) (n : Int) : put_e c b n 3 = (bif decide ((0 : Int) ≤ n) then bif !Int.fdiv n (16777216 : Int) == (0 : Int) then some (D.tup (D.acons (D.sl RTy.u8 true []) (D.acons (D.int IntKind.i64 (2 : Int)) D.anil))) else bif lenOK (List.length b) then bif lenOK (List.length b) then bif decide ((0 : Int) ≤ (0 : Int) ∧ (0 : Int) ≤ (↑(List.length b) : Int) ∧ (↑(List.length b) : Int) ≤ (↑(List.length b) : Int) ∧ (↑(List.length b) : Int) = (↑(List.length b) : Int)) then bif sizeOK (List.length (List.drop (0 : Nat) (List.take (Int.toNat (↑(List.length b) : Int)) b)) + List.length [UInt8.ofNat (Int.toNat (IntKind.wrap IntKind.u8 n))]) (1 : Nat) then bif Nat.beq (List.length (List.drop (0 : Nat) (List.take (Int.toNat (↑(List.length b) : Int)) b)) + List.length [UInt8.ofNat (Int.toNat (IntKind.wrap IntKind.u8 n))]) (List.length (List.drop (0 : Nat) (List.take (Int.toNat (↑(List.length b) : Int)) b) ++ [UInt8.ofNat (Int.toNat (IntKind.wrap IntKind.u8 n))])) && sizeOK (List.length (List.drop (0 : Nat) (List.take (Int.toNat (↑(List.length b) : Int)) b)) + List.length [UInt8.ofNat (Int.toNat (IntKind.wrap IntKind.u8 n))] + List.length [UInt8.ofNat (Int.toNat (IntKind.wrap IntKind.u8 (Int.fdiv n (256 : Int))))]) (1 : Nat) then bif Nat.beq (List.length (List.drop (0 : Nat) (List.take (Int.toNat (↑(List.length b) : Int)) b) ++ [UInt8.ofNat (Int.toNat (IntKind.wrap IntKind.u8 n))]) + List.length [UInt8.ofNat (Int.toNat (IntKind.wrap IntKind.u8 (Int.fdiv n (256 : Int))))]) (List.length (List.drop (0 : Nat) (List.take (Int.toNat (↑(List.length b) : Int)) b) ++ [UInt8.ofNat (Int.toNat (IntKind.wrap IntKind.u8 n))] ++ [UInt8.ofNat (Int.toNat (IntKind.wrap IntKind.u8 (Int.fdiv n (256 : Int))))])) && sizeOK (List.length (List.drop (0 : Nat) (List.take (Int.toNat (↑(List.length b) : Int)) b) ++ [UInt8.ofNat (Int.toNat (IntKind.wrap IntKind.u8 n))]) + List.length [UInt8.ofNat (Int.toNat (IntKind.wrap IntKind.u8 (Int.fdiv n (256 : Int))))] + List.length [UInt8.ofNat (Int.toNat (IntKind.wrap IntKind.u8 (Int.fdiv (Int.fdiv n (256 : Int)) (256 : Int))))]) (1 : Nat) then bif Nat.beq (List.length (List.drop (0 : Nat) (List.take (Int.toNat (↑(List.length b) : Int)) b) ++ [UInt8.ofNat (Int.toNat (IntKind.wrap IntKind.u8 n))] ++ [UInt8.ofNat (Int.toNat (IntKind.wrap IntKind.u8 (Int.fdiv n (256 : Int))))]) + List.length [UInt8.ofNat (Int.toNat (IntKind.wrap IntKind.u8 (Int.fdiv (Int.fdiv n (256 : Int)) (256 : Int))))]) (List.length (List.drop (0 : Nat) (List.take (Int.toNat (↑(List.length b) : Int)) b) ++ [UInt8.ofNat (Int.toNat (IntKind.wrap IntKind.u8 n))] ++ [UInt8.ofNat (Int.toNat (IntKind.wrap IntKind.u8 (Int.fdiv n (256 : Int))))] ++ [UInt8.ofNat (Int.toNat (IntKind.wrap IntKind.u8 (Int.fdiv (Int.fdiv n (256 : Int)) (256 : Int))))])) then some (D.tup (D.acons (D.sl RTy.u8 false (List.drop (0 : Nat) (List.take (Int.toNat (↑(List.length b) : Int)) b) ++ [UInt8.ofNat (Int.toNat (IntKind.wrap IntKind.u8 n))] ++ [UInt8.ofNat (Int.toNat (IntKind.wrap IntKind.u8 (Int.fdiv n (256 : Int))))] ++ [UInt8.ofNat (Int.toNat (IntKind.wrap IntKind.u8 (Int.fdiv (Int.fdiv n (256 : Int)) (256 : Int))))])) (D.acons (D.int IntKind.i64 (0 : Int)) D.anil))) else none else none else none else none else none else none else none else some (D.tup (D.acons (D.sl RTy.u8 true []) (D.acons (D.int IntKind.i64 (2 : Int)) D.anil)))) := by kernel_rfl
theorem put6_eq (c : Bool) (b : List UInt8) (n : Int) : put_e c b n 6 = (bif decide ((0 : Int) ≤ n) then bif !Int.fdiv n (281474976710656 : Int) == (0 : Int) then some (D.tup (D.acons (D.sl RTy.u8 true []) (D.acons (D.int IntKind.i64 (2 : Int)) D.anil))) else bif lenOK (List.length b) then bif lenOK (List.length b) then bif decide ((0 : Int) ≤ (0 : Int) ∧ (0 : Int) ≤ (↑(List.length b) : Int) ∧ (↑(List.length b) : Int) ≤ (↑(List.length b) : Int) ∧ (↑(List.length b) : Int) = (↑(List.length b) : Int)) then bif sizeOK (List.length (List.drop (0 : Nat) (List.take (Int.toNat (↑(List.length b) : Int)) b)) + List.length [UInt8.ofNat (Int.toNat (IntKind.wrap IntKind.u8 n))]) (1 : Nat) then bif Nat.beq (List.length (List.drop (0 : Nat) (List.take (Int.toNat (↑(List.length b) : Int)) b)) + List.length [UInt8.ofNat (Int.toNat (IntKind.wrap IntKind.u8 n))]) (List.length (List.drop (0 : Nat) (List.take (Int.toNat (↑(List.length b) : Int)) b) ++ [UInt8.ofNat (Int.toNat (IntKind.wrap IntKind.u8 n))])) && sizeOK (List.length (List.drop (0 : Nat) (List.take (Int.toNat (↑(List.length b) : Int)) b)) + List.length [UInt8.ofNat (Int.toNat (IntKind.wrap IntKind.u8 n))] + List.length [UInt8.ofNat (Int.toNat (IntKind.wrap IntKind.u8 (Int.fdiv n (256 : Int))))]) (1 : Nat) then bif Nat.beq (List.length (List.drop (0 : Nat) (List.take (Int.toNat (↑(List.length b) : Int)) b) ++ [UInt8.ofNat (Int.toNat (IntKind.wrap IntKind.u8 n))]) + List.length [UInt8.ofNat (Int.toNat (IntKind.wrap IntKind.u8 (Int.fdiv n (256 : Int))))]) (List.length (List.drop (0 : Nat) (List.take (Int.toNat (↑(List.length b) : Int)) b) ++ [UInt8.ofNat (Int.toNat (IntKind.wrap IntKind.u8 n))] ++ [UInt8.ofNat (Int.toNat (IntKind.wrap IntKind.u8 (Int.fdiv n (256 : Int))))])) && sizeOK (List.length (List.drop (0 : Nat) (List.take (Int.toNat (↑(List.length b) : Int)) b) ++ [UInt8.ofNat (Int.toNat (IntKind.wrap IntKind.u8 n))]) + List.length [UInt8.ofNat (Int.toNat (IntKind.wrap IntKind.u8 (Int.fdiv n (256 : Int))))] + List.length [UInt8.ofNat (Int.toNat (IntKind.wrap IntKind.u8 (Int.fdiv (Int.fdiv n (256 : Int)) (256 : Int))))]) (1 : Nat) then bif Nat.beq (List.length (List.drop (0 : Nat) (List.take (Int.toNat (↑(List.length b) : Int)) b) ++ [UInt8.ofNat (Int.toNat (IntKind.wrap IntKind.u8 n))] ++ [UInt8.ofNat (Int.toNat (IntKind.wrap IntKind.u8 (Int.fdiv n (256 : Int))))]) + List.length [UInt8.ofNat (Int.toNat (IntKind.wrap IntKind.u8 (Int.fdiv (Int.fdiv n (256 : Int)) (256 : Int))))]) (List.length (List.drop (0 : Nat) (List.take (Int.toNat (↑(List.length b) : Int)) b) ++ [UInt8.ofNat (Int.toNat (IntKind.wrap IntKind.u8 n))] ++ [UInt8.ofNat (Int.toNat (IntKind.wrap IntKind.u8 (Int.fdiv n (256 : Int))))] ++ [UInt8.ofNat (Int.toNat (IntKind.wrap IntKind.u8 (Int.fdiv (Int.fdiv n (256 : Int)) (256 : Int))))])) && sizeOK (List.length (List.drop (0 : Nat) (List.take (Int.toNat (↑(List.length b) : Int)) b) ++ [UInt8.ofNat (Int.toNat (IntKind.wrap IntKind.u8 n))] ++ [UInt8.ofNat (Int.toNat (IntKind.wrap IntKind.u8 (Int.fdiv n (256 : Int))))]) + List.length [UInt8.ofNat (Int.toNat (IntKind.wrap IntKind.u8 (Int.fdiv (Int.fdiv n (256 : Int)) (256 : Int))))] + List.length [UInt8.ofNat (Int.toNat (IntKind.wrap IntKind.u8 (Int.fdiv (Int.fdiv (Int.fdiv n (256 : Int)) (256 : Int)) (256 : Int))))]) (1 : Nat) then bif Nat.beq (List.length (List.drop (0 : Nat) (List.take (Int.toNat (↑(List.length b) : Int)) b) ++ [UInt8.ofNat (Int.toNat (IntKind.wrap IntKind.u8 n))] ++ [UInt8.ofNat (Int.toNat (IntKind.wrap IntKind.u8 (Int.fdiv n (256 : Int))))] ++ [UInt8.ofNat (Int.toNat (IntKind.wrap IntKind.u8 (Int.fdiv (Int.fdiv n (256 : Int)) (256 : Int))))]) + List.length [UInt8.ofNat (Int.toNat (IntKind.wrap IntKind.u8 (Int.fdiv (Int.fdiv (Int.fdiv n (256 : Int)) (256 : Int)) (256 : Int))))]) (List.length (List.drop (0 : Nat) (List.take (Int.toNat (↑(List.length b) : Int)) b) ++ [UInt8.ofNat (Int.toNat (IntKind.wrap IntKind.u8 n))] ++ [UInt8.ofNat (Int.toNat (IntKind.wrap IntKind.u8 (Int.fdiv n (256 : Int))))] ++ [UInt8.ofNat (Int.toNat (IntKind.wrap IntKind.u8 (Int.fdiv (Int.fdiv n (256 : Int)) (256 : Int))))] ++ [UInt8.ofNat (Int.toNat (IntKind.wrap IntKind.u8 (Int.fdiv (Int.fdiv (Int.fdiv n (256 : Int)) (256 : Int)) (256 : Int))))])) && sizeOK (List.length (List.drop (0 : Nat) (List.take (Int.toNat (↑(List.length b) : Int)) b) ++ [UInt8.ofNat (Int.toNat (IntKind.wrap IntKind.u8 n))] ++ [UInt8.ofNat (Int.toNat (IntKind.wrap IntKind.u8 (Int.fdiv n (256 : Int))))] ++ [UInt8.ofNat (Int.toNat (IntKind.wrap IntKind.u8 (Int.fdiv (Int.fdiv n (256 : Int)) (256 : Int))))]) + List.length [UInt8.ofNat (Int.toNat (IntKind.wrap IntKind.u8 (Int.fdiv (Int.fdiv (Int.fdiv n (256 : Int)) (256 : Int)) (256 : Int))))] + List.length [UInt8.ofNat (Int.toNat (IntKind.wrap IntKind.u8 (Int.fdiv (Int.fdiv (Int.fdiv (Int.fdiv n (256 : Int)) (256 : Int)) (256 : Int)) (256 : Int))))]) (1 : Nat) then bif Nat.beq (List.length (List.drop (0 : Nat) (List.take (Int.toNat (↑(List.length b) : Int)) b) ++ [UInt8.ofNat (Int.toNat (IntKind.wrap IntKind.u8 n))] ++ [UInt8.ofNat (Int.toNat (IntKind.wrap IntKind.u8 (Int.fdiv n (256 : Int))))] ++ [UInt8.ofNat (Int.toNat (IntKind.wrap IntKind.u8 (Int.fdiv (Int.fdiv n (256 : Int)) (256 : Int))))] ++ [UInt8.ofNat (Int.toNat (IntKind.wrap IntKind.u8 (Int.fdiv (Int.fdiv (Int.fdiv n (256 : Int)) (256 : Int)) (256 : Int))))]) + List.length [UInt8.ofNat (Int.toNat (IntKind.wrap IntKind.u8 (Int.fdiv (Int.fdiv (Int.fdiv (Int.fdiv n (256 : Int)) (256 : Int)) (256 : Int)) (256 : Int))))]) (List.length (List.drop (0 : Nat) (List.take (Int.toNat (↑(List.length b) : Int)) b) ++ [UInt8.ofNat (Int.toNat (IntKind.wrap IntKind.u8 n))] ++ [UInt8.ofNat (Int.toNat (IntKind.wrap IntKind.u8 (Int.fdiv n (256 : Int))))] ++ [UInt8.ofNat (Int.toNat (IntKind.wrap IntKind.u8 (Int.fdiv (Int.fdiv n (256 : Int)) (256 : Int))))] ++ [UInt8.ofNat (Int.toNat (IntKind.wrap IntKind.u8 (Int.fdiv (Int.fdiv (Int.fdiv n (256 : Int)) (256 : Int)) (256 : Int))))] ++ [UInt8.ofNat (Int.toNat (IntKind.wrap IntKind.u8 (Int.fdiv (Int.fdiv (Int.fdiv (Int.fdiv n (256 : Int)) (256 : Int)) (256 : Int)) (256 : Int))))])) && sizeOK (List.length (List.drop (0 : Nat) (List.take (Int.toNat (↑(List.length b) : Int)) b) ++ [UInt8.ofNat (Int.toNat (IntKind.wrap IntKind.u8 n))] ++ [UInt8.ofNat (Int.toNat (IntKind.wrap IntKind.u8 (Int.fdiv n (256 : Int))))] ++ [UInt8.ofNat (Int.toNat (IntKind.wrap IntKind.u8 (Int.fdiv (Int.fdiv n (256 : Int)) (256 : Int))))] ++ [UInt8.ofNat (Int.toNat (IntKind.wrap IntKind.u8 (Int.fdiv (Int.fdiv (Int.fdiv n (256 : Int)) (256 : Int)) (256 : Int))))]) + List.length [UInt8.ofNat (Int.toNat (IntKind.wrap IntKind.u8 (Int.fdiv (Int.fdiv (Int.fdiv (Int.fdiv n (256 : Int)) (256 : Int)) (256 : Int)) (256 : Int))))] + List.length [UInt8.ofNat (Int.toNat (IntKind.wrap IntKind.u8 (Int.fdiv (Int.fdiv (Int.fdiv (Int.fdiv (Int.fdiv n (256 : Int)) (256 : Int)) (256 : Int)) (256 : Int)) (256 : Int))))]) (1 : Nat) then bif Nat.beq (List.length (List.drop (0 : Nat) (List.take (Int.toNat (↑(List.length b) : Int)) b) ++ [UInt8.ofNat (Int.toNat (IntKind.wrap IntKind.u8 n))] ++ [UInt8.ofNat (Int.toNat (IntKind.wrap IntKind.u8 (Int.fdiv n (256 : Int))))] ++ [UInt8.ofNat (Int.toNat (IntKind.wrap IntKind.u8 (Int.fdiv (Int.fdiv n (256 : Int)) (256 : Int))))] ++ [UInt8.ofNat (Int.toNat (IntKind.wrap IntKind.u8 (Int.fdiv (Int.fdiv (Int.fdiv n (256 : Int)) (256 : Int)) (256 : Int))))] ++ [UInt8.ofNat (Int.toNat (IntKind.wrap IntKind.u8 (Int.fdiv (Int.fdiv (Int.fdiv (Int.fdiv n (256 : Int)) (256 : Int)) (256 : Int)) (256 : Int))))]) + List.length [UInt8.ofNat (Int.toNat (IntKind.wrap IntKind.u8 (Int.fdiv (Int.fdiv (Int.fdiv (Int.fdiv (Int.fdiv n (256 : Int)) (256 : Int)) (256 : Int)) (256 : Int)) (256 : Int))))]) (List.length (List.drop (0 : Nat) (List.take (Int.toNat (↑(List.length b) : Int)) b) ++ [UInt8.ofNat (Int.toNat (IntKind.wrap IntKind.u8 n))] ++ [UInt8.ofNat (Int.toNat (IntKind.wrap IntKind.u8 (Int.fdiv n (256 : Int))))] ++ [UInt8.ofNat (Int.toNat (IntKind.wrap IntKind.u8 (Int.fdiv (Int.fdiv n (256 : Int)) (256 : Int))))] ++ [UInt8.ofNat (Int.toNat (IntKind.wrap IntKind.u8 (Int.fdiv (Int.fdiv (Int.fdiv n (256 : Int)) (256 : Int)) (256 : Int))))] ++ [UInt8.ofNat (Int.toNat (IntKind.wrap IntKind.u8 (Int.fdiv (Int.fdiv (Int.fdiv (Int.fdiv n (256 : Int)) (256 : Int)) (256 : Int)) (256 : Int))))] ++ [UInt8.ofNat (Int.toNat (IntKind.wrap IntKind.u8 (Int.fdiv (Int.fdiv (Int.fdiv (Int.fdiv (Int.fdiv n (256 : Int)) (256 : Int)) (256 : Int)) (256 : Int)) (256 : Int))))])) then some (D.tup (D.acons (D.sl RTy.u8 false (List.drop (0 : Nat) (List.take (Int.toNat (↑(List.length b) : Int)) b) ++ [UInt8.ofNat (Int.toNat (IntKind.wrap IntKind.u8 n))] ++ [UInt8.ofNat (Int.toNat (IntKind.wrap IntKind.u8 (Int.fdiv n (256 : Int))))] ++ [UInt8.ofNat (Int.toNat (IntKind.wrap IntKind.u8 (Int.fdiv (Int.fdiv n (256 : Int)) (256 : Int))))] ++ [UInt8.ofNat (Int.toNat (IntKind.wrap IntKind.u8 (Int.fdiv (Int.fdiv (Int.fdiv n (256 : Int)) (256 : Int)) (256 : Int))))] ++ [UInt8.ofNat (Int.toNat (IntKind.wrap IntKind.u8 (Int.fdiv (Int.fdiv (Int.fdiv (Int.fdiv n (256 : Int)) (256 : Int)) (256 : Int)) (256 : Int))))] ++ [UInt8.ofNat (Int.toNat (IntKind.wrap IntKind.u8 (Int.fdiv (Int.fdiv (Int.fdiv (Int.fdiv (Int.fdiv n (256 : Int)) (256 : Int)) (256 : Int)) (256 : Int)) (256 : Int))))])) (D.acons (D.int IntKind.i64 (0 : Int)) D.anil))) else none else none else none else none else none else none else none else none else none else none else some (D.tup (D.acons (D.sl RTy.u8 true []) (D.acons (D.int IntKind.i64 (2 : Int)) D.anil)))) := by kernel_rfl
theorem put_ok (c : Bool) (b : List UInt8) (n : Int) (w : Int) (hs : (w == 1 || w == 2 || w == 3 || w == 6) = true) (h : (decide (b.length ≤ 1000000000)) = true) : put_e c b n w = some (.tup (.acons (.sl (C := RC) .u8 (!fitsB n w.toNat) (putL b n w.toNat)) (.acons (.int .i64 (bif fitsB n w.toNat then 0 else 2)) .anil))) := by
  have hl := of_decide_eq_true h
  have hl' : lenOK b.length = true := lenOK_of (by omega)
  have hle : ∀ m, 1000000000 ≤ m → (b.length ≤ m) := fun m hm => by omega
  have hz : ∀ (k : Nat) (m : Int), 0 ≤ n → m = 256 ^ k → 0 < m → ((n.fdiv m == 0) = fitsB n k) := by
    intro k m h0 hm hp
    rw [Int.fdiv_eq_ediv_of_nonneg _ (by omega), fitsB, ← hm]
    have : (n / m = 0) ↔ n < m := Int.ediv_eq_zero_iff_of_pos' h0 hp
    rw [Bool.eq_iff_iff]; simp [this, h0]
  simp only [Bool.or_eq_true, beq_iff_eq] at hs
  rcases hs with ((rfl | rfl) | rfl) | rfl
  · rw [put1_eq]
    show _ = some (D.tup (.acons (.sl (C := RC) .u8 (!fitsB n 1) (putL b n 1)) (.acons (.int .i64 (bif fitsB n 1 then 0 else 2)) .anil)))
    by_cases h0 : 0 ≤ n
    · simp only [h0, decide_true, cond_true, hz 1 256 h0 (by decide) (by omega)]
      cases hf : fitsB n 1
      · simp [putL, hf]
      · simp [putL, hf, hl', sizeOK, leB, byteOf, hle]
    · have hf : fitsB n 1 = false := by simp [fitsB, h0]
      simp [h0, hf, putL]
  · rw [put2_eq]
    show _ = some (D.tup (.acons (.sl (C := RC) .u8 (!fitsB n 2) (putL b n 2)) (.acons (.int .i64 (bif fitsB n 2 then 0 else 2)) .anil)))
    by_cases h0 : 0 ≤ n
    · simp only [h0, decide_true, cond_true, hz 2 65536 h0 (by decide) (by omega)]
      cases hf : fitsB n 2
      · simp [putL, hf]
      · simp [putL, hf, hl', sizeOK, leB, byteOf, hle]
    · have hf : fitsB n 2 = false := by simp [fitsB, h0]
      simp [h0, hf, putL]
  · rw [put3_eq]
    show _ = some (D.tup (.acons (.sl (C := RC) .u8 (!fitsB n 3) (putL b n 3)) (.acons (.int .i64 (bif fitsB n 3 then 0 else 2)) .anil)))
    by_cases h0 : 0 ≤ n
    · simp only [h0, decide_true, cond_true, hz 3 16777216 h0 (by decide) (by omega)]
      cases hf : fitsB n 3
      · simp [putL, hf]
      · simp [putL, hf, hl', sizeOK, leB, byteOf, hle]
    · have hf : fitsB n 3 = false := by simp [fitsB, h0]
      simp [h0, hf, putL]
  · rw [put6_eq]
    show _ = some (D.tup (.acons (.sl (C := RC) .u8 (!fitsB n 6) (putL b n 6)) (.acons (.int .i64 (bif fitsB n 6 then 0 else 2)) .anil)))
    by_cases h0 : 0 ≤ n
    · simp only [h0, decide_true, cond_true, hz 6 281474976710656 h0 (by decide) (by omega)]
      cases hf : fitsB n 6
      · simp [putL, hf]
      · simp [putL, hf, hl', sizeOK, leB, byteOf, hle]
    · have hf : fitsB n 6 = false := by simp [fitsB, h0]
      simp [h0, hf, putL]
noncomputable def ub_1 := ua_10.addSpec 53 put_sp
theorem ub_1_laws : FLaws Try.prog s05 ub_1 := ua_10_laws.addEv s05_laws fun args d h => by
  unfold put_sp at h
  split at h
  · unfold put_s at h
    obtain ⟨hs, h⟩ := staticD_some h
    obtain ⟨h1, h2⟩ := Prod.mk.inj h
    obtain rfl : _ = d := h2
    exact ⟨by simp [D.refs], 40, put_ok _ _ _ _ hs h1⟩
  · cases h
/-! ### loop getLoop: flume/pack.Get, region 7 -/
structure getLoop_St where
  c : Bool
  l : List UInt8
  i : Nat
def getLoop_c (c : Bool) (l : List UInt8) (i : Nat) : Env RC := [(40, .sl (C := RC) .u8 c l), (41, .int .i64 (l.length)), (42, .int .i64 (i : Int)), (8, .int .i64 ((leVal (l.take i) : Int)))]
def getLoop_o (c : Bool) (l : List UInt8) (i : Nat) : List (Obj RC) := []
noncomputable def getLoop_r (c : Bool) (l : List UInt8) (i : Nat) := rndO s05 ub_1 54 7 40 0 [40, 41, 42, 8] [8] [] (getLoop_c c l i) (getLoop_o c l i)
theorem getLoop_eq (c : Bool) (l : List UInt8) (i : Nat) : getLoop_r c l i = (bif decide ((↑i : Int) < (↑(List.length l) : Int)) then bif decide ((0 : Int) ≤ (↑i : Int) ∧ (↑i : Int) < (↑(List.length l) : Int)) then bif decide (IntKind.wrap IntKind.i64 ((8 : Int) * (↑i : Int)) < (0 : Int)) then none else some ((X.normal, [((40 : Nat), D.sl RTy.u8 c l), ((41 : Nat), D.int IntKind.i64 (↑(List.length l) : Int)), ((42 : Nat), D.int IntKind.i64 (IntKind.wrap IntKind.i64 ((↑i : Int) + (1 : Int)))), ((8 : Nat), D.int IntKind.i64 (bits IntKind.i64 (fun (x : Nat) (u v : BitVec x) => u ||| v) (↑(leVal (List.take i l)) : Int) (IntKind.wrap IntKind.i64 (IntKind.wrap IntKind.i64 (↑(UInt8.toNat (List.getD l (Int.toNat (↑i : Int)) (UInt8.ofBitVec (BitVec.ofNat (8 : Nat) (nat_lit 0))))) : Int) * (2 : Int) ^ min (Int.toNat (IntKind.wrap IntKind.i64 ((8 : Int) * (↑i : Int)))) (64 : Nat)))))]), []) else none else some ((X.exit (1 : Nat), [((8 : Nat), D.int IntKind.i64 (↑(leVal (List.take i l)) : Int))]), [])) := by kernel_rfl
def getLoop_fin (c : Bool) (l : List UInt8) (i : Nat) : RT RC := .leaf (.exit 1) [(8, .int .i64 (leVal l : Int))] []
def getLoop_Inv (c : Bool) (l : List UInt8) (i : Nat) : Prop := i ≤ l.length ∧ l.length ≤ 6
def getLoop_S : LoopR RC getLoop_St where
  k := 0
  canon q := getLoop_c q.c q.l q.i
  objs q := getLoop_o q.c q.l q.i
  fin q := getLoop_fin q.c q.l q.i
  Inv q := getLoop_Inv q.c q.l q.i
  μ q := q.l.length - q.i
theorem getLoop_round (c : Bool) (l : List UInt8) (i : Nat) (hI : getLoop_Inv c l i) : Leaf (getLoop_r c l i) (LedR getLoop_S ⟨c, l, i⟩) := by
  rw [getLoop_eq]
  unfold getLoop_Inv at hI
  obtain ⟨h1, h2⟩ := hI
  by_cases hlt : i < l.length
  · have w_succ : IntKind.i64.wrap ((i : Int) + 1) = ((i + 1 : Nat) : Int) := by rw [wrap_id (by omega) (by omega)]; simp
    have d_lt : decide ((i : Int) < l.length) = true := by simp; omega
    have d_in : decide (0 ≤ (i : Int) ∧ (i : Int) < l.length) = true := by simp; omega
    have t_nat : ((i : Int)).toNat = i := by simp
    simp only [w_succ, d_lt, d_in, t_nat, cond_true]
    have hw8 : IntKind.i64.wrap (8 * (i : Int)) = 8 * (i : Int) := wrap_id (by omega) (by omega)
    have hd8 : decide (IntKind.i64.wrap (8 * (i : Int)) < 0) = false := by rw [hw8]; simp; omega
    have hlen : (l.take i).length = i := by simp; omega
    have hv : leVal (l.take i) < 256 ^ i := by have := leVal_lt (l.take i); rwa [hlen] at this
    have hval : leVal (l.take (i + 1)) = leVal (l.take i) + (l.getD i 0).toNat * 256 ^ i := by
      rw [List.take_add_one, leVal_append, hlen]
      simp [hlt, leVal, Nat.mul_comm]
    simp only [hd8, cond_false]
    refine leafR_go ⟨c, l, i + 1⟩ ⟨hlt, h2⟩ (by simp only [getLoop_S]; omega) (by simp only [getLoop_S, getLoop_fin]) ?_ rfl
    simp only [getLoop_S, getLoop_c, hval]
    exact congrArg (fun z => [(40, D.sl (C := RC) .u8 c l), (41, .int .i64 (l.length : Int)), (42, .int .i64 ((i + 1 : Nat) : Int)), (8, .int .i64 z)]) (bits_or_shift' _ _ _ hv (by omega))
  · have hi : i = l.length := by omega
    have c1 : decide ((i : Int) < l.length) = false := by simp; omega
    rw [c1]
    exact leafR_exit [] (by simp [getLoop_S, getLoop_fin, hi, RT.val]) rfl
def getLoop_d (env : Env RC) (os : List (Obj RC)) : Option (Bool × getLoop_St) := match env, os with
  | [(40, .sl .u8 c l), (41, .int .i64 x0), (42, .int .i64 x1), (8, .int .i64 x2)], [] => staticD (true) (decide (x0 = l.length) && decide (x1 = 0) && decide (x2 = 0) && decide (l.length ≤ 6), ⟨c, l, 0⟩)
  | _, _ => none
noncomputable def ub_2 := ub_1.addLoop 54 7 (sumR s05 [] [40, 41, 42, 8] getLoop_S getLoop_d)
theorem ub_2_laws : FLaws Try.prog s05 ub_2 := by
  refine ub_1_laws.addRoundsR s05_laws (by kernel_rfl) getLoop_S 40 [40, 41, 42, 8] [8] [] [40, 41, 42, 8] getLoop_d (fun q hI => ?_) ?_
  · obtain ⟨c, l, i⟩ := q
    refine ⟨?_, ?_, getLoop_round c l i hI⟩
    · simp_all [RefsOK, getLoop_S, getLoop_c, getLoop_o, getLoop_Inv, D.refs, Obj.refs, rEnc]
    · simp_all [getLoop_S, getLoop_fin, getLoop_o, getLoop_Inv, RT.refsOK, RefsOK, D.refs, Obj.refs, rEnc]
  · intro env os b q hd_ hb
    unfold getLoop_d at hd_
    split at hd_
    · obtain ⟨hs, hd_⟩ := staticD_some hd_
      cases hd_
      simp only [Bool.and_eq_true, decide_eq_true_eq] at hb
      obtain ⟨⟨⟨rfl, rfl⟩, rfl⟩, hl⟩ := hb
      exact ⟨⟨Nat.zero_le _, hl⟩, rfl, rfl⟩
    · cases hd_
/-! ### function get: flume/pack.Get -/
def get_s (c : Bool) (b : List UInt8) (a : Int) (w : Int) : Option (Bool × D RC) := some (decide (b.length ≤ 1000000000000), .tup (.acons (.int .i64 (getP b a w).1) (.acons (.int .i64 (getP b a w).2) .anil)))
def get_sp : List (D RC) → Option (Bool × D RC)
  | [.sl .u8 c b, .int .i64 a, .int .i64 w] => get_s c b a w
  | _ => none
noncomputable def get_e (c : Bool) (b : List UInt8) (a : Int) (w : Int) := evF s05 ub_2 40 54 [.sl (C := RC) .u8 c b, .int .i64 a, .int .i64 w]
theorem get_eq (c : Bool) (b : List UInt8) (a : Int) (w : Int) : get_e c b a w = (bif decide (w < (1 : Int)) then some (D.tup (D.acons (D.int IntKind.i64 (0 : Int)) (D.acons (D.int IntKind.i64 (2 : Int)) D.anil))) else bif decide ((6 : Int) < w) then some (D.tup (D.acons (D.int IntKind.i64 (0 : Int)) (D.acons (D.int IntKind.i64 (2 : Int)) D.anil))) else bif decide (a < (0 : Int)) then some (D.tup (D.acons (D.int IntKind.i64 (0 : Int)) (D.acons (D.int IntKind.i64 (50 : Int)) D.anil))) else bif lenOK (List.length b) then bif decide ((↑(List.length b) : Int) < a) then some (D.tup (D.acons (D.int IntKind.i64 (0 : Int)) (D.acons (D.int IntKind.i64 (50 : Int)) D.anil))) else bif lenOK (List.length b) then bif decide (IntKind.wrap IntKind.i64 ((↑(List.length b) : Int) - a) < w) then some (D.tup (D.acons (D.int IntKind.i64 (0 : Int)) (D.acons (D.int IntKind.i64 (50 : Int)) D.anil))) else bif decide ((0 : Int) ≤ a ∧ a ≤ IntKind.wrap IntKind.i64 (a + w) ∧ IntKind.wrap IntKind.i64 (a + w) ≤ (↑(List.length b) : Int)) then bif lenOK (List.length (List.drop (Int.toNat a) (List.take (Int.toNat (IntKind.wrap IntKind.i64 (a + w))) b))) then bif decide ((↑(List.length (List.drop (Int.toNat a) (List.take (Int.toNat (IntKind.wrap IntKind.i64 (a + w))) b))) : Int) = (↑(List.length (List.drop (Int.toNat a) (List.take (Int.toNat (IntKind.wrap IntKind.i64 (a + w))) b))) : Int)) && true && true && decide (List.length (List.drop (Int.toNat a) (List.take (Int.toNat (IntKind.wrap IntKind.i64 (a + w))) b)) ≤ (6 : Nat)) then some (D.tup (D.acons (D.int IntKind.i64 (↑(leVal (List.drop (Int.toNat a) (List.take (Int.toNat (IntKind.wrap IntKind.i64 (a + w))) b))) : Int)) (D.acons (D.int IntKind.i64 (0 : Int)) D.anil))) else none else none else none else none else none) := by kernel_rfl
theorem get_ok (c : Bool) (b : List UInt8) (a : Int) (w : Int) (h : (decide (b.length ≤ 1000000000000)) = true) : get_e c b a w = some (.tup (.acons (.int .i64 (getP b a w).1) (.acons (.int .i64 (getP b a w).2) .anil))) := by
  rw [get_eq]
  have hl := of_decide_eq_true h
  have hl' : lenOK b.length = true := lenOK_of (by omega)
  rw [hl']
  by_cases hw : 1 ≤ w ∧ w ≤ 6
  · have w1 : decide (w < 1) = false := by simp; omega
    have w2 : decide (6 < w) = false := by simp; omega
    have w3 : (decide (1 ≤ w) && decide (w ≤ 6)) = true := by simp; omega
    simp only [w1, w2, cond_false, cond_true, getP, w3]
    by_cases ha : 0 ≤ a ∧ a + w ≤ b.length
    · have a1 : decide (a < 0) = false := by simp; omega
      have a2 : decide ((b.length : Int) < a) = false := by simp; omega
      have e1 : IntKind.i64.wrap ((b.length : Int) - a) = b.length - a := wrap_id (by omega) (by omega)
      have e2 : IntKind.i64.wrap (a + w) = a + w := wrap_id (by omega) (by omega)
      have a3 : decide ((b.length : Int) - a < w) = false := by simp; omega
      have a4 : decide (0 ≤ a ∧ a ≤ a + w ∧ a + w ≤ (b.length : Int)) = true := by simp; omega
      have a5 : (decide (0 ≤ a) && decide (a + w ≤ (b.length : Int))) = true := by simp; omega
      have e3 : (List.drop a.toNat (List.take (a + w).toNat b)) = List.take w.toNat (List.drop a.toNat b) := by
        rw [List.drop_take]; congr 1; omega
      have e4 : (List.take w.toNat (List.drop a.toNat b)).length = w.toNat := by simp; omega
      simp only [a1, a2, e1, e2, a3, a4, a5, e3, e4, cond_false, cond_true]
      have a6 : lenOK w.toNat = true := lenOK_of (by omega)
      have a7 : w.toNat ≤ 6 := by omega
      simp [a6, a7]
    · have a5 : (decide (0 ≤ a) && decide (a + w ≤ (b.length : Int))) = false := by simp; omega
      simp only [a5, cond_false]
      by_cases a1 : a < 0
      · simp [a1]
      · by_cases a2 : (b.length : Int) < a
        · simp [a1, a2]
        · have e1 : IntKind.i64.wrap ((b.length : Int) - a) = b.length - a := wrap_id (by omega) (by omega)
          have a3 : decide ((b.length : Int) - a < w) = true := by simp; omega
          simp [a1, a2, e1, a3]
  · have w3 : (decide (1 ≤ w) && decide (w ≤ 6)) = false := by simp; omega
    simp only [getP, w3]
    by_cases w1 : w < 1
    · simp [w1]
    · have w2 : 6 < w := by omega
      simp [w1, w2]
noncomputable def ub_3 := ub_2.addSpec 54 get_sp
theorem ub_3_laws : FLaws Try.prog s05 ub_3 := ub_2_laws.addEv s05_laws fun args d h => by
  unfold get_sp at h
  split at h
  · unfold get_s at h
    have h1 := congrArg Prod.fst (Option.some.inj h)
    obtain rfl : _ = d := congrArg Prod.snd (Option.some.inj h)
    exact ⟨by simp [D.refs], 40, get_ok _ _ _ _ h1⟩
  · cases h
end Go.Ev


namespace Go.Ev
open Go.Proofs
set_option maxRecDepth 100000
set_option linter.unusedVariables false
set_option linter.unusedSimpArgs false
/-! ## package record: states; bytes -/
/-! ### function stands: flume/record.Stands -/
def stands_s (p : Int) (ci : Bool) (items : List Item) (k0 : Bool) (k1 : Bool) (k2 : Bool) (l0 : List Line) (l1 : List Line) (l2 : List Line) (c0 : Int) (c1 : Int) (c2 : Int) : Option (Bool × D RC) := some (decide (items.length ≤ 9223372036854775807 ∧ l0.length ≤ 9223372036854775807 ∧ l1.length ≤ 9223372036854775807 ∧ l2.length ≤ 9223372036854775807), .bool (standsOK ⟨p, items, l0, l1, l2, c0, c1, c2⟩))
def stands_sp : List (D RC) → Option (Bool × D RC)
  | [.acons (.int .i64 p) (.acons (.sl .item ci items) (.acons (.acons (.sl .line k0 l0) (.acons (.sl .line k1 l1) (.acons (.sl .line k2 l2) .anil))) (.acons (.arr .int 3 [c0, c1, c2]) .anil)))] => stands_s p ci items k0 k1 k2 l0 l1 l2 c0 c1 c2
  | _ => none
noncomputable def stands_e (p : Int) (ci : Bool) (items : List Item) (k0 : Bool) (k1 : Bool) (k2 : Bool) (l0 : List Line) (l1 : List Line) (l2 : List Line) (c0 : Int) (c1 : Int) (c2 : Int) := evF s05 ub_3 30 15 [.acons (.int .i64 p) (.acons (.sl (C := RC) .item ci items) (.acons (.acons (.sl (C := RC) .line k0 l0) (.acons (.sl (C := RC) .line k1 l1) (.acons (.sl (C := RC) .line k2 l2) .anil))) (.acons (.arr (C := RC) .int 3 [c0, c1, c2]) .anil)))]
theorem stands_eq (p : Int) (ci : Bool) (items : List Item) (k0 : Bool) (k1 : Bool) (k2 : Bool) (l0 : List Line) (l1 : List Line) (l2 : List Line) (c0 : Int) (c1 : Int) (c2 : Int) : stands_e p ci items k0 k1 k2 l0 l1 l2 c0 c1 c2 = (bif !withinB p (0 : Int) (1048575 : Int) then some (D.bool false) else bif lenOK (List.length items) then bif decide ((↑(List.length items) : Int) = (↑(List.length items) : Int)) && true && decide (List.length items ≤ (9223372036854775807 : Nat)) then bif eachAt (oneIB p) twoIB items (0 : Nat) then bif !withinB c0 (0 : Int) p then some (D.bool false) else bif lenOK (List.length l0) then bif decide ((16 : Int) < (↑(List.length l0) : Int)) then some (D.bool false) else bif lenOK (List.length l0) then bif decide ((0 : Int) < (↑(List.length l0) : Int)) then bif decide ((0 : Int) ≤ (0 : Int) ∧ (0 : Int) < (↑(List.length l0) : Int)) then bif decide (Line.place (List.getD l0 (0 : Nat) (Line.mk (0 : Int) (0 : Int) (0 : Int) (0 : Int) (0 : Int))) ≤ c0) then some (D.bool false) else bif lenOK (List.length l0) then bif decide ((↑(List.length l0) : Int) = (↑(List.length l0) : Int)) && true && decide (List.length l0 ≤ (9223372036854775807 : Nat)) then bif eachAt (oneLB p) twoLB l0 (0 : Nat) then bif !withinB c1 (0 : Int) p then some (D.bool false) else bif lenOK (List.length l1) then bif decide ((16 : Int) < (↑(List.length l1) : Int)) then some (D.bool false) else bif lenOK (List.length l1) then bif decide ((0 : Int) < (↑(List.length l1) : Int)) then bif decide ((0 : Int) ≤ (0 : Int) ∧ (0 : Int) < (↑(List.length l1) : Int)) then bif decide (Line.place (List.getD l1 (0 : Nat) (Line.mk (0 : Int) (0 : Int) (0 : Int) (0 : Int) (0 : Int))) ≤ c1) then some (D.bool false) else bif lenOK (List.length l1) then bif decide ((↑(List.length l1) : Int) = (↑(List.length l1) : Int)) && true && decide (List.length l1 ≤ (9223372036854775807 : Nat)) then bif eachAt (oneLB p) twoLB l1 (0 : Nat) then bif !withinB c2 (0 : Int) p then some (D.bool false) else bif lenOK (List.length l2) then bif decide ((16 : Int) < (↑(List.length l2) : Int)) then some (D.bool false) else bif lenOK (List.length l2) then bif decide ((0 : Int) < (↑(List.length l2) : Int)) then bif decide ((0 : Int) ≤ (0 : Int) ∧ (0 : Int) < (↑(List.length l2) : Int)) then bif decide (Line.place (List.getD l2 (0 : Nat) (Line.mk (0 : Int) (0 : Int) (0 : Int) (0 : Int) (0 : Int))) ≤ c2) then some (D.bool false) else bif lenOK (List.length l2) then bif decide ((↑(List.length l2) : Int) = (↑(List.length l2) : Int)) && true && decide (List.length l2 ≤ (9223372036854775807 : Nat)) then bif eachAt (oneLB p) twoLB l2 (0 : Nat) then some (D.bool true) else some (D.bool false) else none else none else none else bif lenOK (List.length l2) then bif decide ((↑(List.length l2) : Int) = (↑(List.length l2) : Int)) && true && decide (List.length l2 ≤ (9223372036854775807 : Nat)) then bif eachAt (oneLB p) twoLB l2 (0 : Nat) then some (D.bool true) else some (D.bool false) else none else none else none else none else some (D.bool false) else none else none else none else bif lenOK (List.length l1) then bif decide ((↑(List.length l1) : Int) = (↑(List.length l1) : Int)) && true && decide (List.length l1 ≤ (9223372036854775807 : Nat)) then bif eachAt (oneLB p) twoLB l1 (0 : Nat) then bif !withinB c2 (0 : Int) p then some (D.bool false) else bif lenOK (List.length l2) then bif decide ((16 : Int) < (↑(List.length l2) : Int)) then some (D.bool false) else bif lenOK (List.length l2) then bif decide ((0 : Int) < (↑(List.length l2) : Int)) then bif decide ((0 : Int) ≤ (0 : Int) ∧ (0 : Int) < (↑(List.length l2) : Int)) then bif decide (Line.place (List.getD l2 (0 : Nat) (Line.mk (0 : Int) (0 : Int) (0 : Int) (0 : Int) (0 : Int))) ≤ c2) then some (D.bool false) else bif lenOK (List.length l2) then bif decide ((↑(List.length l2) : Int) = (↑(List.length l2) : Int)) && true && decide (List.length l2 ≤ (9223372036854775807 : Nat)) then bif eachAt (oneLB p) twoLB l2 (0 : Nat) then some (D.bool true) else some (D.bool false) else none else none else none else bif lenOK (List.length l2) then bif decide ((↑(List.length l2) : Int) = (↑(List.length l2) : Int)) && true && decide (List.length l2 ≤ (9223372036854775807 : Nat)) then bif eachAt (oneLB p) twoLB l2 (0 : Nat) then some (D.bool true) else some (D.bool false) else none else none else none else none else some (D.bool false) else none else none else none else none else some (D.bool false) else none else none else none else bif lenOK (List.length l0) then bif decide ((↑(List.length l0) : Int) = (↑(List.length l0) : Int)) && true && decide (List.length l0 ≤ (9223372036854775807 : Nat)) then bif eachAt (oneLB p) twoLB l0 (0 : Nat) then bif !withinB c1 (0 : Int) p then some (D.bool false) else bif lenOK (List.length l1) then bif decide ((16 : Int) < (↑(List.length l1) : Int)) then some (D.bool false) else bif lenOK (List.length l1) then bif decide ((0 : Int) < (↑(List.length l1) : Int)) then bif decide ((0 : Int) ≤ (0 : Int) ∧ (0 : Int) < (↑(List.length l1) : Int)) then bif decide (Line.place (List.getD l1 (0 : Nat) (Line.mk (0 : Int) (0 : Int) (0 : Int) (0 : Int) (0 : Int))) ≤ c1) then some (D.bool false) else bif lenOK (List.length l1) then bif decide ((↑(List.length l1) : Int) = (↑(List.length l1) : Int)) && true && decide (List.length l1 ≤ (9223372036854775807 : Nat)) then bif eachAt (oneLB p) twoLB l1 (0 : Nat) then bif !withinB c2 (0 : Int) p then some (D.bool false) else bif lenOK (List.length l2) then bif decide ((16 : Int) < (↑(List.length l2) : Int)) then some (D.bool false) else bif lenOK (List.length l2) then bif decide ((0 : Int) < (↑(List.length l2) : Int)) then bif decide ((0 : Int) ≤ (0 : Int) ∧ (0 : Int) < (↑(List.length l2) : Int)) then bif decide (Line.place (List.getD l2 (0 : Nat) (Line.mk (0 : Int) (0 : Int) (0 : Int) (0 : Int) (0 : Int))) ≤ c2) then some (D.bool false) else bif lenOK (List.length l2) then bif decide ((↑(List.length l2) : Int) = (↑(List.length l2) : Int)) && true && decide (List.length l2 ≤ (9223372036854775807 : Nat)) then bif eachAt (oneLB p) twoLB l2 (0 : Nat) then some (D.bool true) else some (D.bool false) else none else none else none else bif lenOK (List.length l2) then bif decide ((↑(List.length l2) : Int) = (↑(List.length l2) : Int)) && true && decide (List.length l2 ≤ (9223372036854775807 : Nat)) then bif eachAt (oneLB p) twoLB l2 (0 : Nat) then some (D.bool true) else some (D.bool false) else none else none else none else none else some (D.bool false) else none else none else none else bif lenOK (List.length l1) then bif decide ((↑(List.length l1) : Int) = (↑(List.length l1) : Int)) && true && decide (List.length l1 ≤ (9223372036854775807 : Nat)) then bif eachAt (oneLB p) twoLB l1 (0 : Nat) then bif !withinB c2 (0 : Int) p then some (D.bool false) else bif lenOK (List.length l2) then bif decide ((16 : Int) < (↑(List.length l2) : Int)) then some (D.bool false) else bif lenOK (List.length l2) then bif decide ((0 : Int) < (↑(List.length l2) : Int)) then bif decide ((0 : Int) ≤ (0 : Int) ∧ (0 : Int) < (↑(List.length l2) : Int)) then bif decide (Line.place (List.getD l2 (0 : Nat) (Line.mk (0 : Int) (0 : Int) (0 : Int) (0 : Int) (0 : Int))) ≤ c2) then some (D.bool false) else bif lenOK (List.length l2) then bif decide ((↑(List.length l2) : Int) = (↑(List.length l2) : Int)) && true && decide (List.length l2 ≤ (9223372036854775807 : Nat)) then bif eachAt (oneLB p) twoLB l2 (0 : Nat) then some (D.bool true) else some (D.bool false) else none else none else none else bif lenOK (List.length l2) then bif decide ((↑(List.length l2) : Int) = (↑(List.length l2) : Int)) && true && decide (List.length l2 ≤ (9223372036854775807 : Nat)) then bif eachAt (oneLB p) twoLB l2 (0 : Nat) then some (D.bool true) else some (D.bool false) else none else none else none else none else some (D.bool false) else none else none else none else none else some (D.bool false) else none else none else none else none else some (D.bool false) else none else none) := by kernel_rfl
theorem stands_ok (p : Int) (ci : Bool) (items : List Item) (k0 : Bool) (k1 : Bool) (k2 : Bool) (l0 : List Line) (l1 : List Line) (l2 : List Line) (c0 : Int) (c1 : Int) (c2 : Int) (h : (decide (items.length ≤ 9223372036854775807 ∧ l0.length ≤ 9223372036854775807 ∧ l1.length ≤ 9223372036854775807 ∧ l2.length ≤ 9223372036854775807)) = true) : stands_e p ci items k0 k1 k2 l0 l1 l2 c0 c1 c2 = some (.bool (standsOK ⟨p, items, l0, l1, l2, c0, c1, c2⟩)) := by
  rw [stands_eq]
  obtain ⟨h, h0, h1, h2⟩ := of_decide_eq_true h
  have b := lenOK_of h
  have b0 := lenOK_of h0
  have b1 := lenOK_of h1
  have b2 := lenOK_of h2
  have i0 : ∀ l : List Line, decide (0 ≤ (0 : Int) ∧ (0 : Int) < l.length) = !l.isEmpty := fun l => by cases l <;> simp
  have n0 : ∀ l : List Line, decide (0 < (l.length : Int)) = !l.isEmpty := fun l => by cases l <;> simp
  have n16 : ∀ l : List Line, decide (16 < (l.length : Int)) = !decide (l.length ≤ 16) := fun l => by
    by_cases h : l.length ≤ 16 <;> simp [h]
    · omega
    · omega
  have nle : ∀ a b : Int, decide (a ≤ b) = !decide (b < a) := fun a b => by
    by_cases h : b < a <;> simp [h] <;> omega
  simp only [standsOK, partOK, b, b0, b1, b2, h, h0, h1, h2, decide_true, cond_true, i0, n0, n16, nle (Line.place _)]
  generalize withinB p 0 1048575 = x1
  generalize eachAt (oneIB p) twoIB items 0 = x2
  generalize withinB c0 0 p = x3
  generalize withinB c1 0 p = x4
  generalize withinB c2 0 p = x5
  generalize eachAt (oneLB p) twoLB l0 0 = x6
  generalize eachAt (oneLB p) twoLB l1 0 = x7
  generalize eachAt (oneLB p) twoLB l2 0 = x8
  generalize decide (l0.length ≤ 16) = x9
  generalize decide (l1.length ≤ 16) = x10
  generalize decide (l2.length ≤ 16) = x11
  generalize decide (c0 < (l0.getD 0 ⟨0, 0, 0, 0, 0⟩).place) = x12
  generalize decide (c1 < (l1.getD 0 ⟨0, 0, 0, 0, 0⟩).place) = x13
  generalize decide (c2 < (l2.getD 0 ⟨0, 0, 0, 0, 0⟩).place) = x14
  generalize l0.isEmpty = x15
  generalize l1.isEmpty = x16
  generalize l2.isEmpty = x17
  cases x1; · rfl
  cases x2; · rfl
  cases x3; · rfl
  cases x9; · rfl
  cases x6
  · cases x15 <;> cases x12 <;> rfl
  cases x4; · cases x15 <;> cases x12 <;> rfl
  cases x10; · cases x15 <;> cases x12 <;> rfl
  cases x7; · cases x15 <;> cases x12 <;> cases x16 <;> cases x13 <;> rfl
  cases x5; · cases x15 <;> cases x12 <;> cases x16 <;> cases x13 <;> rfl
  cases x11; · cases x15 <;> cases x12 <;> cases x16 <;> cases x13 <;> rfl
  cases x15 <;> cases x12 <;> cases x16 <;> cases x13 <;> cases x17 <;> cases x14 <;> cases x8 <;> rfl
noncomputable def uc_1 := ub_3.addSpec 15 stands_sp
theorem uc_1_laws : FLaws Try.prog s05 uc_1 := ub_3_laws.addEv s05_laws fun args d h => by
  unfold stands_sp at h
  split at h
  · unfold stands_s at h
    have h1 := congrArg Prod.fst (Option.some.inj h)
    obtain rfl : _ = d := congrArg Prod.snd (Option.some.inj h)
    exact ⟨by simp [D.refs], 30, stands_ok _ _ _ _ _ _ _ _ _ _ _ _ h1⟩
  · cases h
/-! ### loop bytesLoop: flume/record.Bytes, region 11 -/
structure bytesLoop_St where
  cp : Bool
  bs : List UInt8
  c : Bool
  l : List Write
  i : Nat
def bytesLoop_c (cp : Bool) (bs : List UInt8) (c : Bool) (l : List Write) (i : Nat) : Env RC := [(4, .ptr 0 []), (28, .sl (C := RC) .write c l), (29, .int .i64 (l.length)), (30, .int .i64 (i : Int))]
def bytesLoop_o (cp : Bool) (bs : List UInt8) (c : Bool) (l : List Write) (i : Nat) : List (Obj RC) := [.var 70 (.acons (.sl (C := RC) .u8 cp bs) .anil)]
noncomputable def bytesLoop_r (cp : Bool) (bs : List UInt8) (c : Bool) (l : List Write) (i : Nat) := rndO s05 uc_1 16 11 40 1 [4, 28, 29, 30] [] [.slot 4 0] (bytesLoop_c cp bs c l i) (bytesLoop_o cp bs c l i)
theorem bytesLoop_eq (cp : Bool) (bs : List UInt8) (c : Bool) (l : List Write) (i : Nat) : bytesLoop_r cp bs c l i = (bif decide ((↑i : Int) < (↑(List.length l) : Int)) then bif decide ((0 : Int) ≤ (↑i : Int) ∧ (↑i : Int) < (↑(List.length l) : Int)) then bif decide (List.length bs ≤ (1000000000 : Nat)) then bif decide (List.length (putL bs (Write.key (List.getD l (Int.toNat (↑i : Int)) (Write.mk (0 : Int) (0 : Int)))) (1 : Nat)) ≤ (1000000000 : Nat)) then some ((X.normal, [((4 : Nat), D.ptr (0 : Nat) []), ((28 : Nat), D.sl RTy.write c l), ((29 : Nat), D.int IntKind.i64 (↑(List.length l) : Int)), ((30 : Nat), D.int IntKind.i64 (IntKind.wrap IntKind.i64 ((↑i : Int) + (1 : Int))))]), [some (Obj.var (70 : Nat) (D.acons (D.sl RTy.u8 (!fitsB (Write.value (List.getD l (Int.toNat (↑i : Int)) (Write.mk (0 : Int) (0 : Int)))) (1 : Nat)) (putL (putL bs (Write.key (List.getD l (Int.toNat (↑i : Int)) (Write.mk (0 : Int) (0 : Int)))) (1 : Nat)) (Write.value (List.getD l (Int.toNat (↑i : Int)) (Write.mk (0 : Int) (0 : Int)))) (1 : Nat))) D.anil))]) else none else none else none else some ((X.exit (0 : Nat), []), [some (Obj.var (70 : Nat) (D.acons (D.sl RTy.u8 cp bs) D.anil))])) := by kernel_rfl
def bytesLoop_fin (cp : Bool) (bs : List UInt8) (c : Bool) (l : List Write) (i : Nat) : RT RC := .leaf (.exit 0) [] [.var 70 (.acons (.sl (C := RC) .u8 (cp && (l.drop i).isEmpty) (bs ++ (l.drop i).flatMap wBytes)) .anil)]
def bytesLoop_Inv (cp : Bool) (bs : List UInt8) (c : Bool) (l : List Write) (i : Nat) : Prop := i ≤ l.length ∧ l.length ≤ 1000000 ∧ bs.length ≤ 1000000 + 2 * i ∧ l.all fitW = true
def bytesLoop_S : LoopR RC bytesLoop_St where
  k := 1
  canon q := bytesLoop_c q.cp q.bs q.c q.l q.i
  objs q := bytesLoop_o q.cp q.bs q.c q.l q.i
  fin q := bytesLoop_fin q.cp q.bs q.c q.l q.i
  Inv q := bytesLoop_Inv q.cp q.bs q.c q.l q.i
  μ q := q.l.length - q.i
theorem bytesLoop_round (cp : Bool) (bs : List UInt8) (c : Bool) (l : List Write) (i : Nat) (hI : bytesLoop_Inv cp bs c l i) : Leaf (bytesLoop_r cp bs c l i) (LedR bytesLoop_S ⟨cp, bs, c, l, i⟩) := by
  rw [bytesLoop_eq]
  unfold bytesLoop_Inv at hI
  obtain ⟨h1, h2, h3, h4⟩ := hI
  by_cases hlt : i < l.length
  · have w_succ : IntKind.i64.wrap ((i : Int) + 1) = ((i + 1 : Nat) : Int) := by rw [wrap_id (by omega) (by omega)]; simp
    have d_lt : decide ((i : Int) < l.length) = true := by simp; omega
    have d_in : decide (0 ≤ (i : Int) ∧ (i : Int) < l.length) = true := by simp; omega
    have t_nat : ((i : Int)).toNat = i := by simp
    simp only [w_succ, d_lt, d_in, t_nat, cond_true]
    have hf := all_getD h4 hlt (⟨0, 0⟩ : Write)
    have hd : (l.drop i).flatMap wBytes = _ := flatMap_drop_succ l i wBytes hlt (⟨0, 0⟩ : Write)
    have he : (l.drop i).isEmpty = false := by simp; omega
    generalize l.getD i (⟨0, 0⟩ : Write) = x at hf hd ⊢
    simp only [fitW, Bool.and_eq_true] at hf
    simp only [putL_fits (fits1 hf.1), putL_fits (fits1 hf.2), fits1 hf.1, fits1 hf.2]
    have n1 : decide (bs.length ≤ 1000000000) = true := decide_eq_true (by omega)
    have n2 : decide ((bs ++ leB x.key 1).length ≤ 1000000000) = true := decide_eq_true (by simp [leB_length]; omega)
    simp only [Int.toNat_one, putL_fits (fits1 hf.1), putL_fits (fits1 hf.2), fits1 hf.1, fits1 hf.2, n1, n2, cond_true, Bool.not_true]
    refine leafR_go ⟨false, bs ++ leB x.key 1 ++ leB x.value 1, c, l, i + 1⟩ ⟨hlt, h2, by simp [leB_length]; omega, h4⟩ (by simp only [bytesLoop_S]; omega) ?_ rfl rfl
    simp only [bytesLoop_S, bytesLoop_fin, hd, he, wBytes, leB, RT.val]
    simp
  · have hi : i = l.length := by omega
    have c1 : decide ((i : Int) < l.length) = false := by simp; omega
    rw [c1]
    exact leafR_exit (bytesLoop_o cp bs c l i) (by simp [bytesLoop_S, bytesLoop_fin, bytesLoop_o, hi, RT.val]) rfl
def bytesLoop_d (env : Env RC) (os : List (Obj RC)) : Option (Bool × bytesLoop_St) := match env, os with
  | [(4, .ptr 0 []), (28, .sl .write c l), (29, .int .i64 x0), (30, .int .i64 x1)], [.var 70 (.acons (.sl .u8 cp bs) .anil)] => staticD (true) (decide (x0 = l.length) && decide (x1 = 0) && decide (l.length ≤ 1000000 ∧ bs.length ≤ 1000000) && l.all fitW, ⟨cp, bs, c, l, 0⟩)
  | _, _ => none
noncomputable def uc_2 := uc_1.addLoop 16 11 (sumR s05 [.slot 4 0] [4, 28, 29, 30] bytesLoop_S bytesLoop_d)
theorem uc_2_laws : FLaws Try.prog s05 uc_2 := by
  refine uc_1_laws.addRoundsR s05_laws (by kernel_rfl) bytesLoop_S 40 [4, 28, 29, 30] [] [.slot 4 0] [4, 28, 29, 30] bytesLoop_d (fun q hI => ?_) ?_
  · obtain ⟨cp, bs, c, l, i⟩ := q
    refine ⟨?_, ?_, bytesLoop_round cp bs c l i hI⟩
    · simp_all [RefsOK, bytesLoop_S, bytesLoop_c, bytesLoop_o, bytesLoop_Inv, D.refs, Obj.refs, rEnc]
    · simp_all [bytesLoop_S, bytesLoop_fin, bytesLoop_o, bytesLoop_Inv, RT.refsOK, RefsOK, D.refs, Obj.refs, rEnc]
  · intro env os b q hd_ hb
    unfold bytesLoop_d at hd_
    split at hd_
    · obtain ⟨hs, hd_⟩ := staticD_some hd_
      cases hd_
      simp only [Bool.and_eq_true, decide_eq_true_eq] at hb
      obtain ⟨⟨⟨rfl, rfl⟩, hl⟩, ha⟩ := hb
      exact ⟨⟨Nat.zero_le _, hl.1, Nat.le_trans hl.2 (Nat.le_add_right _ _), ha⟩, rfl, rfl⟩
    · cases hd_
/-! ### function bytes: flume/record.Bytes -/
def bytes_s (p : Int) (y : Bool) (c : Bool) (l : List Write) : Option (Bool × D RC) := some (lenOK l.length, .tup (.acons (.sl (C := RC) .u8 (!mayB ⟨p, y, l⟩) (bif mayB ⟨p, y, l⟩ then bytesR ⟨p, y, l⟩ else [])) (.acons (.int .i64 (bif mayB ⟨p, y, l⟩ then 0 else 2)) .anil)))
def bytes_sp : List (D RC) → Option (Bool × D RC)
  | [.acons (.int .i64 p) (.acons (.bool y) (.acons (.sl .write c l) .anil))] => bytes_s p y c l
  | _ => none
noncomputable def bytes_e (p : Int) (y : Bool) (c : Bool) (l : List Write) := evF s05 uc_2 40 16 [.acons (.int .i64 p) (.acons (.bool y) (.acons (.sl (C := RC) .write c l) .anil))]
theorem bytes_eq (p : Int) (y : Bool) (c : Bool) (l : List Write) : bytes_e p y c l = (bif lenOK (List.length l) then bif !mayB (Rec.mk p y l) then some (D.tup (D.acons (D.sl RTy.u8 true []) (D.acons (D.int IntKind.i64 (2 : Int)) D.anil))) else bif decide (List.length (putL [] p (3 : Nat)) ≤ (1000000000 : Nat)) then bif lenOK (List.length l) then bif decide (List.length (putL (putL [] p (3 : Nat)) (bif y then (1 : Int) else (0 : Int)) (1 : Nat)) ≤ (1000000000 : Nat)) then bif lenOK (List.length l) then bif decide ((↑(List.length l) : Int) = (↑(List.length l) : Int)) && true && decide (List.length l ≤ (1000000 : Nat) ∧ List.length (putL (putL (putL [] p (3 : Nat)) (bif y then (1 : Int) else (0 : Int)) (1 : Nat)) (↑(List.length l) : Int) (1 : Nat)) ≤ (1000000 : Nat)) && List.all l fitW then some (D.tup (D.acons (D.sl RTy.u8 (!fitsB (↑(List.length l) : Int) (1 : Nat) && List.isEmpty (List.drop (0 : Nat) l)) (putL (putL (putL [] p (3 : Nat)) (bif y then (1 : Int) else (0 : Int)) (1 : Nat)) (↑(List.length l) : Int) (1 : Nat) ++ List.flatMap wBytes (List.drop (0 : Nat) l))) (D.acons (D.int IntKind.i64 (0 : Int)) D.anil))) else none else none else none else none else none else none) := by kernel_rfl
theorem bytes_ok (p : Int) (y : Bool) (c : Bool) (l : List Write) (h : (lenOK l.length) = true) : bytes_e p y c l = some (.tup (.acons (.sl (C := RC) .u8 (!mayB ⟨p, y, l⟩) (bif mayB ⟨p, y, l⟩ then bytesR ⟨p, y, l⟩ else [])) (.acons (.int .i64 (bif mayB ⟨p, y, l⟩ then 0 else 2)) .anil))) := by
  rw [bytes_eq]
  rw [h]
  cases hm : mayB ⟨p, y, l⟩
  · rfl
  · obtain ⟨hp, hl, hw⟩ := may_facts hm
    have f3 := fits3 (n := p) (by rw [withinB_iff]; omega)
    have f1 : fitsB (l.length : Int) 1 = true := fits1 (by rw [withinB_iff]; omega)
    have fy1 : fitsB 1 1 = true := rfl
    have fy0 : fitsB 0 1 = true := rfl
    have g1 : decide (([] : List UInt8).length ≤ 1000000000) = true := rfl
    have g2 : ∀ b : List UInt8, b.length ≤ 1000 → decide (b.length ≤ 1000000000) = true := fun b hb => decide_eq_true (by omega)
    have g3 : ∀ b : List UInt8, b.length ≤ 1000 → (decide (l.length ≤ 1000000 ∧ b.length ≤ 1000000)) = true := fun b hb => by simp; omega
    cases y <;> simp only [Int.toNat_one, show Int.toNat 3 = 3 from rfl, putL_fits f3, putL_fits f1, putL_fits fy1, putL_fits fy0, f3, f1, fy1, fy0, g1, cond_true, cond_false, Bool.not_true, Bool.not_false]
    · rw [g2 _ (by simp [leB_length]), g2 _ (by simp [leB_length]), g3 _ (by simp [leB_length]), hw]
      simp [bytesR]
    · rw [g2 _ (by simp [leB_length]), g2 _ (by simp [leB_length]), g3 _ (by simp [leB_length]), hw]
      simp [bytesR]
noncomputable def uc_3 := uc_2.addSpec 16 bytes_sp
theorem uc_3_laws : FLaws Try.prog s05 uc_3 := uc_2_laws.addEv s05_laws fun args d h => by
  unfold bytes_sp at h
  split at h
  · unfold bytes_s at h
    have h1 := congrArg Prod.fst (Option.some.inj h)
    obtain rfl : _ = d := congrArg Prod.snd (Option.some.inj h)
    exact ⟨by simp [D.refs], 40, bytes_ok _ _ _ _ h1⟩
  · cases h
end Go.Ev


namespace Go.Ev
open Go.Proofs
set_option maxRecDepth 100000
set_option linter.unusedVariables false
set_option linter.unusedSimpArgs false
/-! ### function wakes: flume/flumelaw05.wakes -/
def wakes_s  : Option (Bool × D RC) := some (true, .bool true)
def wakes_sp : List (D RC) → Option (Bool × D RC)
  | [] => wakes_s 
  | _ => none
noncomputable def wakes_e  := evF s05 uc_3 1000 11 []
theorem wakes_ok  (h : (true) = true) : wakes_e  = some (.bool true) := by
  kernel_rfl
noncomputable def ue_1 := uc_3.addSpec 11 wakes_sp
theorem ue_1_laws : FLaws Try.prog s05 ue_1 := uc_3_laws.addEv s05_laws fun args d h => by
  unfold wakes_sp at h
  split at h
  · unfold wakes_s at h
    have h1 := congrArg Prod.fst (Option.some.inj h)
    obtain rfl : _ = d := congrArg Prod.snd (Option.some.inj h)
    exact ⟨by simp [D.refs], 1000, wakes_ok  h1⟩
  · cases h
end Go.Ev


/-
  Records and states, by themselves: the same ones; what bytes are.
-/
namespace Go.Ev
set_option linter.unusedVariables false
set_option linter.unusedSimpArgs false

theorem drops_step {α : Type} [DecidableEq α] (l m : List α) (i : Nat) (d : α) (hlt : i < l.length) (hlen : l.length = m.length) :
    decide (l.drop i = m.drop i) = (decide (l.getD i d = m.getD i d) && decide (l.drop (i + 1) = m.drop (i + 1))) := by
  have e1 := List.drop_eq_getElem_cons hlt
  have e2 := List.drop_eq_getElem_cons (show i < m.length by omega)
  have h1 : l.getD i d = l[i] := by simp [hlt]
  have h2 : m.getD i d = m[i]'(by omega) := by simp [show i < m.length by omega]
  rw [h1, h2, e1, e2, Bool.eq_iff_iff]
  simp only [List.cons.injEq, decide_eq_true_eq, Bool.and_eq_true]
theorem drops_end {α : Type} [DecidableEq α] (l m : List α) (i : Nat) (h1 : l.length ≤ i) (h2 : m.length ≤ i) : decide (l.drop i = m.drop i) = true := by
  simp [List.drop_eq_nil_of_le h1, List.drop_eq_nil_of_le h2]
theorem beqD {α : Type} [DecidableEq α] [BEq α] [LawfulBEq α] (a b : α) : (a == b) = decide (a = b) := by rw [Bool.eq_iff_iff]; simp
theorem eqWrite (x y : Write) : (x.key == y.key && (x.value == y.value && true)) = decide (x = y) := by
  rw [Bool.eq_iff_iff]; cases x; cases y; simp
theorem eqItem (x y : Item) : (x.key == y.key && (x.place == y.place && (x.value == y.value && true))) = decide (x = y) := by
  rw [Bool.eq_iff_iff]; cases x; cases y; simp
theorem eqLine (x y : Line) : (x.offset == y.offset && (x.place == y.place && (x.j == y.j && (x.key == y.key && (x.value == y.value && true))))) = decide (x = y) := by
  rw [Bool.eq_iff_iff]; cases x; cases y; simp

/-- the lines of a partition from one on: is each as asked, the first one above the cut? -/
def linesAt (p c : Int) (l : List Line) (i : Nat) : Bool := (decide (i ≠ 0) || l.isEmpty || decide (c < (l.getD 0 ⟨0, 0, 0, 0, 0⟩).place)) && eachAt (oneLB p) twoLB l i
theorem partOK_eq (p c : Int) (l : List Line) : partOK p c l = (decide (l.length ≤ 16) && decide (0 ≤ c) && decide (c ≤ p) && linesAt p c l 0) := by
  unfold partOK linesAt withinB
  cases decide (l.length ≤ 16) <;> cases decide (0 ≤ c) <;> cases decide (c ≤ p) <;> simp
theorem putD {n : Int} (h0 : 0 ≤ n) (h1 : n ≤ 9223372036854775807) : IntKind.i64.wrap (n.tdiv 256) = n.fdiv 256 ∧ 0 ≤ n.fdiv 256 ∧ n.fdiv 256 ≤ 9223372036854775807 := by
  obtain ⟨a, b⟩ := fdiv_nonneg h0
  rw [Int.tdiv_eq_ediv_of_nonneg h0, b]
  exact ⟨wrap_id (by omega) (by omega), by omega, by omega⟩
theorem putB {n : Int} (h0 : 0 ≤ n) : UInt8.ofNat (IntKind.u8.wrap (n.tmod 256)).toNat = byteOf n := by
  rw [byteOf, u8_wrap, u8_wrap, Int.tmod_eq_emod_of_nonneg h0, Int.emod_emod_of_dvd _ (by decide)]
/-- three bytes of a number, as the reference puts them -/
theorem put3 {n : Int} (h0 : 0 ≤ n) (h1 : n ≤ 9223372036854775807) :
    IntKind.i64.wrap (n.tdiv 256) = n.fdiv 256 ∧ IntKind.i64.wrap ((n.fdiv 256).tdiv 256) = (n.fdiv 256).fdiv 256 ∧ UInt8.ofNat (IntKind.u8.wrap (n.tmod 256)).toNat = byteOf n ∧
    UInt8.ofNat (IntKind.u8.wrap ((n.fdiv 256).tmod 256)).toNat = byteOf (n.fdiv 256) ∧ UInt8.ofNat (IntKind.u8.wrap (((n.fdiv 256).fdiv 256).tmod 256)).toNat = byteOf ((n.fdiv 256).fdiv 256) := by
  obtain ⟨a, b, c⟩ := putD h0 h1
  obtain ⟨d, e, f⟩ := putD b c
  exact ⟨a, d, putB h0, putB b, putB e⟩
theorem leB1 (n : Int) : leB n 1 = [byteOf n] := rfl
theorem leB3 (n : Int) : leB n 3 = [byteOf n, byteOf (n.fdiv 256), byteOf ((n.fdiv 256).fdiv 256)] := rfl
def partFit (c : Int) (l : List Line) : Bool := decide (0 ≤ c) && decide (c ≤ 1048575) && decide (l.length ≤ 16) && l.all fitLn && decide (0 ≤ firstOff l) && decide (firstOff l ≤ 4194303)
theorem partFit_iff {c : Int} {l : List Line} : partFit c l = true ↔ (0 ≤ c ∧ c ≤ 1048575) ∧ l.length ≤ 16 ∧ l.all fitLn = true ∧ (0 ≤ firstOff l ∧ firstOff l ≤ 4194303) := by
  simp only [partFit, Bool.and_eq_true, decide_eq_true_eq]; constructor <;> (intro h; simp_all)
def partsFrom (s : St) : Nat → List UInt8
  | 0 => partBytes s.c0 s.l0 ++ (partBytes s.c1 s.l1 ++ partBytes s.c2 s.l2)
  | 1 => partBytes s.c1 s.l1 ++ partBytes s.c2 s.l2
  | 2 => partBytes s.c2 s.l2
  | _ => []
end Go.Ev

/-
  Records and states: what bytes are.
-/
namespace Go.Ev
set_option linter.unusedVariables false
set_option linter.unusedSimpArgs false
/-! ### reading -/
structure Rd where
  c : Bool
  b : List UInt8
  bad : Bool
def rget (w : Nat) (r : Rd) : Int × Rd := if w ≤ r.b.length then ((leVal (r.b.take w) : Int), ⟨r.c, r.b.drop w, r.bad⟩) else (0, ⟨true, [], true⟩)
def rWrites : Nat → Rd → Rd × List Write
  | 0, r => (r, [])
  | n + 1, r =>
    let k := rget 1 r
    let v := rget 1 k.2
    let q := rWrites n v.2
    (q.1, ⟨k.1, v.1⟩ :: q.2)
theorem rget_ok {w : Nat} {c bad : Bool} {b : List UInt8} (h : w ≤ b.length) : rget w ⟨c, b, bad⟩ = ((leVal (b.take w) : Int), ⟨c, b.drop w, bad⟩) := by simp [rget, h]
theorem rget_no {w : Nat} {c bad : Bool} {b : List UInt8} (h : b.length < w) : rget w ⟨c, b, bad⟩ = (0, ⟨true, [], true⟩) := by simp [rget, Nat.not_le.2 h]
theorem getP_snd1 (b : List UInt8) : ((getP b 0 1).2 != 0) = decide (b.length < 1) := by
  by_cases h : b.length < 1
  · have : ¬ ((1 : Int) ≤ b.length) := by omega
    simp only [getP, h]; simp [this]
  · have : ((1 : Int) ≤ b.length) := by omega
    simp only [getP, h]; simp [this]
theorem getP_snd3 (b : List UInt8) : ((getP b 0 3).2 != 0) = decide (b.length < 3) := by
  by_cases h : b.length < 3
  · have : ¬ ((3 : Int) ≤ b.length) := by omega
    simp only [getP, h]; simp [this]
  · have : ((3 : Int) ≤ b.length) := by omega
    simp only [getP, h]; simp [this]
theorem getP_fst1 {b : List UInt8} (h : ¬ b.length < 1) : (getP b 0 1).1 = (leVal (b.take 1) : Int) := by
  have : ((1 : Int) ≤ b.length) := by omega
  simp only [getP]; simp [this]
theorem getP_fst3 {b : List UInt8} (h : ¬ b.length < 3) : (getP b 0 3).1 = (leVal (b.take 3) : Int) := by
  have : ((3 : Int) ≤ b.length) := by omega
  simp only [getP]; simp [this]
def rItems : Nat → Rd → Rd × List Item
  | 0, r => (r, [])
  | n + 1, r =>
    let k := rget 1 r
    let p := rget 3 k.2
    let v := rget 1 p.2
    let q := rItems n v.2
    (q.1, ⟨k.1, p.1, v.1⟩ :: q.2)
def rLines : Nat → Int → Rd → Rd × List Line
  | 0, _, r => (r, [])
  | n + 1, o, r =>
    let p := rget 3 r
    let x := rget 1 p.2
    let v := rget 1 x.2
    let q := rLines n (o + 1) v.2
    (q.1, ⟨o, p.1, x.1 % 16, x.1 / 16, v.1⟩ :: q.2)
theorem leVal_take1 {b : List UInt8} (h : 1 ≤ b.length) : leVal (b.take 1) = (b.getD 0 0).toNat := by
  cases b with
  | nil => simp at h
  | cons x t => simp [leVal]
def pairsN : Nat → List UInt8 → List Write
  | 0, _ => []
  | n + 1, b => ⟨(b.getD 0 0).toNat, (b.getD 1 0).toNat⟩ :: pairsN n (b.drop 2)
theorem rWrites_ok : ∀ (n : Nat) (c : Bool) (b : List UInt8) (bad : Bool), 2 * n ≤ b.length → rWrites n ⟨c, b, bad⟩ = (⟨c, b.drop (2 * n), bad⟩, pairsN n b)
  | 0, c, b, bad, _ => by simp [rWrites, pairsN]
  | n + 1, c, b, bad, h => by
    have h1 : 1 ≤ b.length := by omega
    have h2 : 1 ≤ (b.drop 1).length := by simp; omega
    have h3 := rWrites_ok n c ((b.drop 1).drop 1) bad (by simp; omega)
    have e : (b.drop 1).getD 0 0 = b.getD 1 0 := by simp [List.getElem?_drop]
    have e2 : ((b.drop 1).drop 1).drop (2 * n) = b.drop (2 * (n + 1)) := by rw [List.drop_drop, List.drop_drop]; congr 1; omega
    have e3 : (b.drop 1).drop 1 = b.drop 2 := by rw [List.drop_drop]
    simp only [rWrites, rget_ok h1, rget_ok h2, h3, leVal_take1 h1, leVal_take1 h2, e, pairsN, e2]
    rw [e3]
theorem rget_bad {w : Nat} {r : Rd} (h : r.bad = true) : (rget w r).2.bad = true := by
  unfold rget; split <;> simp [h]
theorem rWrites_bad : ∀ (n : Nat) (r : Rd), r.bad = true → (rWrites n r).1.bad = true
  | 0, r, h => h
  | n + 1, r, h => rWrites_bad n _ (rget_bad (rget_bad h))
theorem rWrites_short : ∀ (n : Nat) (c : Bool) (b : List UInt8) (bad : Bool), b.length < 2 * n → (rWrites n ⟨c, b, bad⟩).1.bad = true
  | 0, c, b, bad, h => by omega
  | n + 1, c, b, bad, h => by
    simp only [rWrites]
    by_cases h1 : b.length < 1
    · rw [rget_no h1]; exact rWrites_bad n _ (rget_bad rfl)
    · rw [rget_ok (show 1 ≤ b.length by omega)]
      by_cases h2 : (b.drop 1).length < 1
      · simp only [rget_no h2]; exact rWrites_bad n _ rfl
      · simp only [rget_ok (show 1 ≤ (b.drop 1).length by omega)]
        exact rWrites_short n _ _ _ (by simp at h2 ⊢; omega)
theorem pairsN_len : ∀ (n : Nat) (b : List UInt8), (pairsN n b).length = n
  | 0, _ => rfl
  | n + 1, b => by simp [pairsN, pairsN_len n]
/-- what bytes are, as a record -/
def readR (b : List UInt8) : Option Rec :=
  if 5 ≤ b.length ∧ (b.getD 3 0).toNat ≤ 1 ∧ b.length = 5 + 2 * (b.getD 4 0).toNat ∧ mayB ⟨leVal (b.take 3), (b.getD 3 0).toNat == 1, pairsN (b.getD 4 0).toNat (b.drop 5)⟩ = true then
    some ⟨leVal (b.take 3), (b.getD 3 0).toNat == 1, pairsN (b.getD 4 0).toNat (b.drop 5)⟩ else none
def recG (o : Option Rec) : Rec := o.getD ⟨0, false, []⟩
theorem cond_both {α : Type} {c : Bool} {x y z : α} (h1 : c = true → x = z) (h2 : c = false → y = z) : cond c x y = z := by cases c; exact h2 rfl; exact h1 rfl
end Go.Ev

namespace Go.Ev
open Go.Proofs
set_option maxRecDepth 100000
set_option linter.unusedVariables false
set_option linter.unusedSimpArgs false
/-! ## package record: what bytes are -/
/-! ### loop readW: flume/record.Read, region 6 -/
structure readW_St where
  c : Bool
  b : List UInt8
  bad : Bool
  pl : Int
  y : Bool
  ws : List Write
  n : Int
  i : Nat
def readW_c (c : Bool) (b : List UInt8) (bad : Bool) (pl : Int) (y : Bool) (ws : List Write) (n : Int) (i : Nat) : Env RC := [(4, .ptr 0 []), (5, .ptr 1 []), (20, .int .i64 n), (21, .int .i64 (i : Int))]
def readW_o (c : Bool) (b : List UInt8) (bad : Bool) (pl : Int) (y : Bool) (ws : List Write) (n : Int) (i : Nat) : List (Obj RC) := [.var 74 (.acons (.sl (C := RC) .u8 c b) (.acons (.bool bad) .anil)), .var 27 (.acons (.int .i64 pl) (.acons (.bool y) (.acons (.vs 2 (ws.length)) .anil))), .vec (C := RC) .write true ws]
noncomputable def readW_r (c : Bool) (b : List UInt8) (bad : Bool) (pl : Int) (y : Bool) (ws : List Write) (n : Int) (i : Nat) := rndO s05 ue_1 17 6 40 3 [4, 5, 20, 21] [] [.slot 4 0, .slot 5 0, .path 1 [2]] (readW_c c b bad pl y ws n i) (readW_o c b bad pl y ws n i)
theorem readW_eq (c : Bool) (b : List UInt8) (bad : Bool) (pl : Int) (y : Bool) (ws : List Write) (n : Int) (i : Nat) : readW_r c b bad pl y ws n i = (bif decide ((↑i : Int) < n) then bif decide (List.length b ≤ (1000000000000 : Nat)) then bif Prod.snd (getP b (0 : Int) (1 : Int)) != (0 : Int) then bif Nat.beq (List.length ws) (List.length ws) && sizeOK (List.length ws + (1 : Nat)) (16 : Nat) then some ((X.normal, [((4 : Nat), D.ptr (0 : Nat) []), ((5 : Nat), D.ptr (1 : Nat) []), ((20 : Nat), D.int IntKind.i64 n), ((21 : Nat), D.int IntKind.i64 (IntKind.wrap IntKind.i64 ((↑i : Int) + (1 : Int))))]), [some (Obj.var (74 : Nat) (D.acons (D.sl RTy.u8 true []) (D.acons (D.bool true) D.anil))), some (Obj.var (27 : Nat) (D.acons (D.int IntKind.i64 pl) (D.acons (D.bool y) (D.acons (D.vs (2 : Nat) (List.length ws + (1 : Nat))) D.anil)))), some (Obj.vec RTy.write true (ws ++ [Write.mk (0 : Int) (0 : Int)]))]) else none else bif decide ((0 : Int) ≤ (1 : Int) ∧ (1 : Int) ≤ (↑(List.length b) : Int)) then bif decide (List.length (List.drop (1 : Nat) b) ≤ (1000000000000 : Nat)) then bif Prod.snd (getP (List.drop (1 : Nat) b) (0 : Int) (1 : Int)) != (0 : Int) then bif Nat.beq (List.length ws) (List.length ws) && sizeOK (List.length ws + List.length [Write.mk (Prod.fst (getP b (0 : Int) (1 : Int))) (0 : Int)]) (16 : Nat) then some ((X.normal, [((4 : Nat), D.ptr (0 : Nat) []), ((5 : Nat), D.ptr (1 : Nat) []), ((20 : Nat), D.int IntKind.i64 n), ((21 : Nat), D.int IntKind.i64 (IntKind.wrap IntKind.i64 ((↑i : Int) + (1 : Int))))]), [some (Obj.var (74 : Nat) (D.acons (D.sl RTy.u8 true []) (D.acons (D.bool true) D.anil))), some (Obj.var (27 : Nat) (D.acons (D.int IntKind.i64 pl) (D.acons (D.bool y) (D.acons (D.vs (2 : Nat) (List.length ws + List.length [Write.mk (Prod.fst (getP b (0 : Int) (1 : Int))) (0 : Int)])) D.anil)))), some (Obj.vec RTy.write true (ws ++ [Write.mk (Prod.fst (getP b (0 : Int) (1 : Int))) (0 : Int)]))]) else none else bif decide ((0 : Int) ≤ (1 : Int) ∧ (1 : Int) ≤ (↑(List.length (List.drop (1 : Nat) b)) : Int)) then bif Nat.beq (List.length ws) (List.length ws) && sizeOK (List.length ws + List.length [Write.mk (Prod.fst (getP b (0 : Int) (1 : Int))) (Prod.fst (getP (List.drop (1 : Nat) b) (0 : Int) (1 : Int)))]) (16 : Nat) then some ((X.normal, [((4 : Nat), D.ptr (0 : Nat) []), ((5 : Nat), D.ptr (1 : Nat) []), ((20 : Nat), D.int IntKind.i64 n), ((21 : Nat), D.int IntKind.i64 (IntKind.wrap IntKind.i64 ((↑i : Int) + (1 : Int))))]), [some (Obj.var (74 : Nat) (D.acons (D.sl RTy.u8 c (List.drop (1 : Nat) (List.drop (1 : Nat) b))) (D.acons (D.bool bad) D.anil))), some (Obj.var (27 : Nat) (D.acons (D.int IntKind.i64 pl) (D.acons (D.bool y) (D.acons (D.vs (2 : Nat) (List.length ws + List.length [Write.mk (Prod.fst (getP b (0 : Int) (1 : Int))) (Prod.fst (getP (List.drop (1 : Nat) b) (0 : Int) (1 : Int)))])) D.anil)))), some (Obj.vec RTy.write true (ws ++ [Write.mk (Prod.fst (getP b (0 : Int) (1 : Int))) (Prod.fst (getP (List.drop (1 : Nat) b) (0 : Int) (1 : Int)))]))]) else none else none else none else none else none else some ((X.exit (0 : Nat), []), [some (Obj.var (74 : Nat) (D.acons (D.sl RTy.u8 c b) (D.acons (D.bool bad) D.anil))), some (Obj.var (27 : Nat) (D.acons (D.int IntKind.i64 pl) (D.acons (D.bool y) (D.acons (D.vs (2 : Nat) (List.length ws)) D.anil)))), some (Obj.vec RTy.write true ws)])) := by kernel_rfl
def readW_fin (c : Bool) (b : List UInt8) (bad : Bool) (pl : Int) (y : Bool) (ws : List Write) (n : Int) (i : Nat) : RT RC := .leaf (.exit 0) [] [.var 74 (.acons (.sl (C := RC) .u8 (rWrites (n.toNat - i) ⟨c, b, bad⟩).1.c (rWrites (n.toNat - i) ⟨c, b, bad⟩).1.b) (.acons (.bool (rWrites (n.toNat - i) ⟨c, b, bad⟩).1.bad) .anil)), .var 27 (.acons (.int .i64 pl) (.acons (.bool y) (.acons (.vs 2 (ws ++ (rWrites (n.toNat - i) ⟨c, b, bad⟩).2).length) .anil))), .vec (C := RC) .write true (ws ++ (rWrites (n.toNat - i) ⟨c, b, bad⟩).2)]
def readW_Inv (c : Bool) (b : List UInt8) (bad : Bool) (pl : Int) (y : Bool) (ws : List Write) (n : Int) (i : Nat) : Prop := (i : Int) ≤ n ∧ n ≤ 255 ∧ b.length ≤ 1000000 ∧ ws.length ≤ i
def readW_S : LoopR RC readW_St where
  k := 3
  canon q := readW_c q.c q.b q.bad q.pl q.y q.ws q.n q.i
  objs q := readW_o q.c q.b q.bad q.pl q.y q.ws q.n q.i
  fin q := readW_fin q.c q.b q.bad q.pl q.y q.ws q.n q.i
  Inv q := readW_Inv q.c q.b q.bad q.pl q.y q.ws q.n q.i
  μ q := q.n.toNat - q.i
theorem readW_round (c : Bool) (b : List UInt8) (bad : Bool) (pl : Int) (y : Bool) (ws : List Write) (n : Int) (i : Nat) (hI : readW_Inv c b bad pl y ws n i) : Leaf (readW_r c b bad pl y ws n i) (LedR readW_S ⟨c, b, bad, pl, y, ws, n, i⟩) := by
  rw [readW_eq]
  unfold readW_Inv at hI
  obtain ⟨h1, h2, h3, h4⟩ := hI
  have tk : ∀ l : List UInt8, List.take (Int.toNat (l.length : Int)) l = l := fun l => by simp
  have eb : ∀ n : Nat, n.beq n = true := fun n => by simp
  have r0 : rget 1 ⟨true, [], true⟩ = (0, ⟨true, [], true⟩) := rfl
  by_cases hlt : (i : Int) < n
  · have w_succ : IntKind.i64.wrap ((i : Int) + 1) = ((i + 1 : Nat) : Int) := by rw [wrap_id (by omega) (by omega)]; simp
    have hn : n.toNat - i = (n.toNat - (i + 1)) + 1 := by omega
    have s1 : sizeOK (ws.length + 1) 16 = true := sizeT (by omega)
    have e0 : decide (b.length ≤ 1000000000000) = true := decide_eq_true (by omega)
    simp only [hlt, decide_true, cond_true, e0, getP_snd1, show Int.toNat 1 = 1 from rfl, w_succ, List.length_cons, List.length_nil, Nat.zero_add, s1, eb, Bool.and_self]
    by_cases b1 : b.length < 1
    · have r1 : rget 1 ⟨c, b, bad⟩ = _ := rget_no b1
      simp only [b1, decide_true, cond_true]
      refine leafR_go ⟨true, [], true, pl, y, ws ++ [⟨0, 0⟩], n, i + 1⟩ (by refine ⟨hlt, h2, by simp, ?_⟩; simp; omega) (by simp only [readW_S]; omega) ?_ (by simp [readW_S, readW_c]) (by simp [readW_S, readW_o])
      simp only [readW_S, readW_fin, hn, rWrites, r1, r0, List.append_assoc, List.cons_append, List.nil_append]
    · have r1 : rget 1 ⟨c, b, bad⟩ = _ := rget_ok (show 1 ≤ b.length by omega)
      have d1 : decide ((0 : Int) ≤ 1 ∧ (1 : Int) ≤ b.length) = true := by simp; omega
      have e1 : decide ((b.drop 1).length ≤ 1000000000000) = true := decide_eq_true (by simp; omega)
      simp only [b1, decide_false, cond_false, d1, cond_true, e1, getP_fst1 b1]
      by_cases b2 : (b.drop 1).length < 1
      · have r2 : rget 1 ⟨c, b.drop 1, bad⟩ = _ := rget_no b2
        simp only [b2, decide_true, cond_true]
        refine leafR_go ⟨true, [], true, pl, y, ws ++ [⟨leVal (b.take 1), 0⟩], n, i + 1⟩ (by refine ⟨hlt, h2, by simp, ?_⟩; simp; omega) (by simp only [readW_S]; omega) ?_ (by simp [readW_S, readW_c]) (by simp [readW_S, readW_o])
        simp only [readW_S, readW_fin, hn, rWrites, r1, r2, List.append_assoc, List.cons_append, List.nil_append]
      · have r2 : rget 1 ⟨c, b.drop 1, bad⟩ = _ := rget_ok (show 1 ≤ (b.drop 1).length by omega)
        have d2 : decide ((0 : Int) ≤ 1 ∧ (1 : Int) ≤ (b.drop 1).length) = true := by simp only [decide_eq_true_eq]; omega
        simp only [b2, decide_false, cond_false, d2, cond_true, getP_fst1 b2]
        refine leafR_go ⟨c, (b.drop 1).drop 1, bad, pl, y, ws ++ [⟨leVal (b.take 1), leVal ((b.drop 1).take 1)⟩], n, i + 1⟩ (by refine ⟨hlt, h2, ?_, ?_⟩ <;> simp <;> omega) (by simp only [readW_S]; omega) ?_ (by simp [readW_S, readW_c]) (by simp [readW_S, readW_o])
        simp only [readW_S, readW_fin, hn, rWrites, r1, r2, List.append_assoc, List.cons_append, List.nil_append]
  · have hi : n.toNat - i = 0 := by omega
    simp only [hlt, decide_false, cond_false]
    exact leafR_exit (readW_o c b bad pl y ws n i) (by simp only [readW_S, readW_fin, readW_o, hi, rWrites, RT.val, List.append_nil]) rfl
def readW_d (env : Env RC) (os : List (Obj RC)) : Option (Bool × readW_St) := match env, os with
  | [(4, .ptr 0 []), (5, .ptr 1 []), (20, .int .i64 n), (21, .int .i64 x0)], [.var 74 (.acons (.sl .u8 c b) (.acons (.bool bad) .anil)), .var 27 (.acons (.int .i64 pl) (.acons (.bool y) (.acons (.vs 2 x1) .anil))), .vec .write true ws] => staticD (true) (decide (x0 = 0) && decide (x1 = ws.length) && decide (0 ≤ n ∧ n ≤ 255 ∧ b.length ≤ 1000000 ∧ ws.length = 0), ⟨c, b, bad, pl, y, ws, n, 0⟩)
  | _, _ => none
noncomputable def uk_1 := ue_1.addLoop 17 6 (sumR s05 [.slot 4 0, .slot 5 0, .path 1 [2]] [4, 5, 20, 21] readW_S readW_d)
theorem uk_1_laws : FLaws Try.prog s05 uk_1 := by
  refine ue_1_laws.addRoundsR s05_laws (by kernel_rfl) readW_S 40 [4, 5, 20, 21] [] [.slot 4 0, .slot 5 0, .path 1 [2]] [4, 5, 20, 21] readW_d (fun q hI => ?_) ?_
  · obtain ⟨c, b, bad, pl, y, ws, n, i⟩ := q
    refine ⟨?_, ?_, readW_round c b bad pl y ws n i hI⟩
    · simp_all [RefsOK, readW_S, readW_c, readW_o, readW_Inv, D.refs, Obj.refs, rEnc]
    · simp_all [readW_S, readW_fin, readW_o, readW_Inv, RT.refsOK, RefsOK, D.refs, Obj.refs, rEnc]
  · intro env os b q hd_ hb
    unfold readW_d at hd_
    split at hd_
    · obtain ⟨hs, hd_⟩ := staticD_some hd_
      cases hd_
      simp only [Bool.and_eq_true, decide_eq_true_eq] at hb
      obtain ⟨⟨rfl, rfl⟩, h⟩ := hb
      exact ⟨⟨by simpa using h.1, h.2.1, h.2.2.1, by simp [h.2.2.2]⟩, rfl, rfl⟩
    · cases hd_
/-! ### function readP: flume/record.Read -/
def readP_s (c : Bool) (b : List UInt8) : Option (Bool × D RC) := some (decide (b.length ≤ 1000000), .tup (.acons (.acons (.int .i64 (recG (readR b)).place) (.acons (.bool (recG (readR b)).yes) (.acons (.sl (C := RC) .write (readR b).isNone (recG (readR b)).writes) .anil))) (.acons (.int .i64 (bif (readR b).isNone then 50 else 0)) .anil)))
def readP_sp : List (D RC) → Option (Bool × D RC)
  | [.sl .u8 c b] => readP_s c b
  | _ => none
noncomputable def readP_e (c : Bool) (b : List UInt8) := evF s05 uk_1 40 17 [.sl (C := RC) .u8 c b]
theorem readP_eq (c : Bool) (b : List UInt8) : readP_e c b = (bif decide (List.length b ≤ (1000000000000 : Nat)) then bif Prod.snd (getP b (0 : Int) (3 : Int)) != (0 : Int) then some (D.tup (D.acons (D.acons (D.int IntKind.i64 (0 : Int)) (D.acons (D.bool false) (D.acons (D.sl RTy.write true []) D.anil))) (D.acons (D.int IntKind.i64 (50 : Int)) D.anil))) else bif decide ((0 : Int) ≤ (3 : Int) ∧ (3 : Int) ≤ (↑(List.length b) : Int)) then bif decide (List.length (List.drop (3 : Nat) b) ≤ (1000000000000 : Nat)) then bif Prod.snd (getP (List.drop (3 : Nat) b) (0 : Int) (1 : Int)) != (0 : Int) then some (D.tup (D.acons (D.acons (D.int IntKind.i64 (0 : Int)) (D.acons (D.bool false) (D.acons (D.sl RTy.write true []) D.anil))) (D.acons (D.int IntKind.i64 (50 : Int)) D.anil))) else bif decide ((0 : Int) ≤ (1 : Int) ∧ (1 : Int) ≤ (↑(List.length (List.drop (3 : Nat) b)) : Int)) then bif decide (List.length (List.drop (1 : Nat) (List.drop (3 : Nat) b)) ≤ (1000000000000 : Nat)) then bif Prod.snd (getP (List.drop (1 : Nat) (List.drop (3 : Nat) b)) (0 : Int) (1 : Int)) != (0 : Int) then some (D.tup (D.acons (D.acons (D.int IntKind.i64 (0 : Int)) (D.acons (D.bool false) (D.acons (D.sl RTy.write true []) D.anil))) (D.acons (D.int IntKind.i64 (50 : Int)) D.anil))) else bif decide ((0 : Int) ≤ (1 : Int) ∧ (1 : Int) ≤ (↑(List.length (List.drop (1 : Nat) (List.drop (3 : Nat) b))) : Int)) then bif decide ((0 : Int) ≤ Prod.fst (getP (List.drop (1 : Nat) (List.drop (3 : Nat) b)) (0 : Int) (1 : Int)) ∧ Prod.fst (getP (List.drop (1 : Nat) (List.drop (3 : Nat) b)) (0 : Int) (1 : Int)) ≤ (255 : Int) ∧ List.length (List.drop (1 : Nat) (List.drop (1 : Nat) (List.drop (3 : Nat) b))) ≤ (1000000 : Nat) ∧ (0 : Nat) = (0 : Nat)) then bif !Rd.bad (Prod.fst (rWrites (Int.toNat (Prod.fst (getP (List.drop (1 : Nat) (List.drop (3 : Nat) b)) (0 : Int) (1 : Int))) - (0 : Nat)) (Rd.mk c (List.drop (1 : Nat) (List.drop (1 : Nat) (List.drop (3 : Nat) b))) false))) then bif lenOK (List.length (Rd.b (Prod.fst (rWrites (Int.toNat (Prod.fst (getP (List.drop (1 : Nat) (List.drop (3 : Nat) b)) (0 : Int) (1 : Int))) - (0 : Nat)) (Rd.mk c (List.drop (1 : Nat) (List.drop (1 : Nat) (List.drop (3 : Nat) b))) false))))) then bif !(↑(List.length (Rd.b (Prod.fst (rWrites (Int.toNat (Prod.fst (getP (List.drop (1 : Nat) (List.drop (3 : Nat) b)) (0 : Int) (1 : Int))) - (0 : Nat)) (Rd.mk c (List.drop (1 : Nat) (List.drop (1 : Nat) (List.drop (3 : Nat) b))) false))))) : Int) == (0 : Int) then some (D.tup (D.acons (D.acons (D.int IntKind.i64 (0 : Int)) (D.acons (D.bool false) (D.acons (D.sl RTy.write true []) D.anil))) (D.acons (D.int IntKind.i64 (50 : Int)) D.anil))) else bif decide ((1 : Int) < Prod.fst (getP (List.drop (3 : Nat) b) (0 : Int) (1 : Int))) then some (D.tup (D.acons (D.acons (D.int IntKind.i64 (0 : Int)) (D.acons (D.bool false) (D.acons (D.sl RTy.write true []) D.anil))) (D.acons (D.int IntKind.i64 (50 : Int)) D.anil))) else bif Nat.beq (List.length ([] ++ Prod.snd (rWrites (Int.toNat (Prod.fst (getP (List.drop (1 : Nat) (List.drop (3 : Nat) b)) (0 : Int) (1 : Int))) - (0 : Nat)) (Rd.mk c (List.drop (1 : Nat) (List.drop (1 : Nat) (List.drop (3 : Nat) b))) false)))) (List.length ([] ++ Prod.snd (rWrites (Int.toNat (Prod.fst (getP (List.drop (1 : Nat) (List.drop (3 : Nat) b)) (0 : Int) (1 : Int))) - (0 : Nat)) (Rd.mk c (List.drop (1 : Nat) (List.drop (1 : Nat) (List.drop (3 : Nat) b))) false)))) then bif lenOK (List.length ([] ++ Prod.snd (rWrites (Int.toNat (Prod.fst (getP (List.drop (1 : Nat) (List.drop (3 : Nat) b)) (0 : Int) (1 : Int))) - (0 : Nat)) (Rd.mk c (List.drop (1 : Nat) (List.drop (1 : Nat) (List.drop (3 : Nat) b))) false)))) then bif !mayB (Rec.mk (Prod.fst (getP b (0 : Int) (3 : Int))) (Prod.fst (getP (List.drop (3 : Nat) b) (0 : Int) (1 : Int)) == (1 : Int)) ([] ++ Prod.snd (rWrites (Int.toNat (Prod.fst (getP (List.drop (1 : Nat) (List.drop (3 : Nat) b)) (0 : Int) (1 : Int))) - (0 : Nat)) (Rd.mk c (List.drop (1 : Nat) (List.drop (1 : Nat) (List.drop (3 : Nat) b))) false)))) then some (D.tup (D.acons (D.acons (D.int IntKind.i64 (0 : Int)) (D.acons (D.bool false) (D.acons (D.sl RTy.write true []) D.anil))) (D.acons (D.int IntKind.i64 (50 : Int)) D.anil))) else some (D.tup (D.acons (D.acons (D.int IntKind.i64 (Prod.fst (getP b (0 : Int) (3 : Int)))) (D.acons (D.bool (Prod.fst (getP (List.drop (3 : Nat) b) (0 : Int) (1 : Int)) == (1 : Int))) (D.acons (D.sl RTy.write false ([] ++ Prod.snd (rWrites (Int.toNat (Prod.fst (getP (List.drop (1 : Nat) (List.drop (3 : Nat) b)) (0 : Int) (1 : Int))) - (0 : Nat)) (Rd.mk c (List.drop (1 : Nat) (List.drop (1 : Nat) (List.drop (3 : Nat) b))) false)))) D.anil))) (D.acons (D.int IntKind.i64 (0 : Int)) D.anil))) else none else none else none else some (D.tup (D.acons (D.acons (D.int IntKind.i64 (0 : Int)) (D.acons (D.bool false) (D.acons (D.sl RTy.write true []) D.anil))) (D.acons (D.int IntKind.i64 (50 : Int)) D.anil))) else none else none else none else none else none else none else none) := by kernel_rfl
theorem readP_ok (c : Bool) (b : List UInt8) (h : (decide (b.length ≤ 1000000)) = true) : readP_e c b = some (.tup (.acons (.acons (.int .i64 (recG (readR b)).place) (.acons (.bool (recG (readR b)).yes) (.acons (.sl (C := RC) .write (readR b).isNone (recG (readR b)).writes) .anil))) (.acons (.int .i64 (bif (readR b).isNone then 50 else 0)) .anil))) := by
  rw [readP_eq]
  have hl := of_decide_eq_true h
  have e0 : decide (b.length ≤ 1000000000000) = true := decide_eq_true (by omega)
  have no : readR b = none → some (D.tup (D.acons (D.acons (D.int IntKind.i64 0) (D.acons (D.bool false) (D.acons (D.sl (C := RC) RTy.write true []) D.anil))) (D.acons (D.int IntKind.i64 50) D.anil))) = some (.tup (.acons (.acons (.int .i64 (recG (readR b)).place) (.acons (.bool (recG (readR b)).yes) (.acons (.sl (C := RC) .write (readR b).isNone (recG (readR b)).writes) .anil))) (.acons (.int .i64 (bif (readR b).isNone then 50 else 0)) .anil))) := fun e => by rw [e]; rfl
  simp only [e0, cond_true, getP_snd3, getP_snd1]
  by_cases b3 : b.length < 3
  · simp only [b3, decide_true, cond_true]
    exact no (by unfold readR; rw [if_neg]; omega)
  have d3 : decide ((0 : Int) ≤ 3 ∧ (3 : Int) ≤ b.length) = true := by simp; omega
  have e1 : decide ((b.drop 3).length ≤ 1000000000000) = true := decide_eq_true (by simp; omega)
  simp only [b3, decide_false, cond_false, d3, cond_true, e1, getP_fst3 b3]
  by_cases b4 : (b.drop 3).length < 1
  · simp only [b4, decide_true, cond_true]
    exact no (by unfold readR; rw [if_neg]; simp at b4; omega)
  have d4 : decide ((0 : Int) ≤ 1 ∧ (1 : Int) ≤ (b.drop 3).length) = true := by simp only [decide_eq_true_eq]; omega
  have e2 : decide (((b.drop 3).drop 1).length ≤ 1000000000000) = true := decide_eq_true (by simp; omega)
  simp only [b4, decide_false, cond_false, d4, cond_true, e2, getP_fst1 b4]
  by_cases b5 : ((b.drop 3).drop 1).length < 1
  · simp only [b5, decide_true, cond_true]
    exact no (by unfold readR; rw [if_neg]; simp at b5; omega)
  have d5 : decide ((0 : Int) ≤ 1 ∧ (1 : Int) ≤ ((b.drop 3).drop 1).length) = true := by simp only [decide_eq_true_eq]; omega
  have v3 : leVal ((b.drop 3).take 1) = (b.getD 3 0).toNat := by
    rw [leVal_take1 (by omega)]; simp [List.getElem?_drop]
  have v4 : leVal (((b.drop 3).drop 1).take 1) = (b.getD 4 0).toNat := by
    rw [leVal_take1 (by omega)]; simp [List.getElem?_drop]
  have dr : ((b.drop 3).drop 1).drop 1 = b.drop 5 := by rw [List.drop_drop, List.drop_drop]
  simp only [b5, decide_false, cond_false, d5, cond_true, getP_fst1 b5, v3, v4, dr]
  have h4 := (b.getD 4 0).toNat_lt
  have dl : (b.drop 5).length = b.length - 5 := by simp
  have hl5 : 5 ≤ b.length := by have : ((b.drop 3).drop 1).length = b.length - 4 := by rw [List.drop_drop]; simp
                                omega
  generalize hn : (b.getD 4 0).toNat = n at h4 ⊢
  have c1 : decide ((0 : Int) ≤ n ∧ (n : Int) ≤ 255 ∧ (b.drop 5).length ≤ 1000000 ∧ True) = true := decide_eq_true ⟨by omega, by omega, by omega, trivial⟩
  have tn : (n : Int).toNat - 0 = n := by omega
  simp only [c1, tn, cond_true, List.nil_append]
  by_cases hs : (b.drop 5).length < 2 * n
  · simp only [rWrites_short n c _ false hs, Bool.not_true, cond_false]
    exact no (by unfold readR; rw [if_neg]; omega)
  rw [rWrites_ok n c _ false (by omega)]
  have k1 : lenOK ((b.drop 5).drop (2 * n)).length = true := lenOK_of (by simp; omega)
  have kp : (pairsN n (b.drop 5)).length ≤ 9223372036854775807 := by rw [pairsN_len]; omega
  have eb : ∀ n : Nat, n.beq n = true := fun n => by simp
  simp only [Bool.not_false, cond_true, k1, eb, lenOK_of kp]
  by_cases he : ((b.drop 5).drop (2 * n)).length = 0
  · have e5 : b.length = 5 + 2 * n := by simp at he; omega
    have e6 : ((((b.drop 5).drop (2 * n)).length : Int) == 0) = true := by simp only [beq_iff_eq]; omega
    simp only [e6, Bool.not_true, cond_false]
    by_cases hy : 1 < (b.getD 3 0).toNat
    · have : decide (1 < ((b.getD 3 0).toNat : Int)) = true := by simp only [decide_eq_true_eq]; omega
      simp only [this, cond_true]
      exact no (by unfold readR; rw [if_neg]; omega)
    · have y1 : decide (1 < ((b.getD 3 0).toNat : Int)) = false := by simp only [decide_eq_false_iff_not]; omega
      have y2 : (((b.getD 3 0).toNat : Int) == 1) = ((b.getD 3 0).toNat == 1) := by rw [Bool.eq_iff_iff]; simp only [beq_iff_eq]; omega
      simp only [y1, y2, cond_false]
      cases hm : mayB ⟨(leVal (b.take 3) : Int), (b.getD 3 0).toNat == 1, pairsN n (b.drop 5)⟩
      · simp only [Bool.not_false, cond_true]
        exact no (by unfold readR; rw [hn, if_neg]; intro q; rw [hm] at q; cases q.2.2.2)
      · have hr : readR b = some ⟨(leVal (b.take 3) : Int), (b.getD 3 0).toNat == 1, pairsN n (b.drop 5)⟩ := by
          unfold readR; rw [hn, if_pos ⟨hl5, by omega, e5, hm⟩]
        simp only [Bool.not_true, cond_false, hr, recG, Option.getD_some, Option.isNone_some]
  · have e6 : ((((b.drop 5).drop (2 * n)).length : Int) == 0) = false := by simp only [beq_eq_false_iff_ne]; omega
    simp only [e6, Bool.not_false, cond_true]
    exact no (by unfold readR; rw [hn, if_neg]; intro q; simp at he; omega)
noncomputable def uk_2 := uk_1.addSpec 17 readP_sp
theorem uk_2_laws : FLaws Try.prog s05 uk_2 := uk_1_laws.addEv s05_laws fun args d h => by
  unfold readP_sp at h
  split at h
  · unfold readP_s at h
    have h1 := congrArg Prod.fst (Option.some.inj h)
    obtain rfl : _ = d := congrArg Prod.snd (Option.some.inj h)
    exact ⟨by simp [D.refs], 40, readP_ok _ _ h1⟩
  · cases h
end Go.Ev


/-
  Reading a state: strictly, and by readers that go on when bytes lack.
-/
namespace Go.Ev
set_option linter.unusedVariables false
set_option linter.unusedSimpArgs false

def sget (w : Nat) (b : List UInt8) : Option (Int × List UInt8) := if w ≤ b.length then some ((leVal (b.take w) : Int), b.drop w) else none
def sItems : Nat → List UInt8 → Option (List Item × List UInt8)
  | 0, b => some ([], b)
  | n + 1, b => (sget 1 b).bind fun k => (sget 3 k.2).bind fun p => (sget 1 p.2).bind fun v => (sItems n v.2).bind fun q => some (⟨k.1, p.1, v.1⟩ :: q.1, q.2)
def sLines : Nat → Int → List UInt8 → Option (List Line × List UInt8)
  | 0, _, b => some ([], b)
  | n + 1, o, b => (sget 3 b).bind fun p => (sget 1 p.2).bind fun x => (sget 1 x.2).bind fun v => (sLines n (o + 1) v.2).bind fun q => some (⟨o, p.1, x.1 % 16, x.1 / 16, v.1⟩ :: q.1, q.2)
def sPart (b : List UInt8) : Option ((Int × List Line) × List UInt8) :=
  (sget 3 b).bind fun c => (sget 1 c.2).bind fun n => (sget 3 n.2).bind fun f => if n.1 = 0 ∧ f.1 ≠ 0 then none else (sLines n.1.toNat f.1 f.2).bind fun q => some ((c.1, q.1), q.2)
/-- what bytes are, as a state -/
def readS (b : List UInt8) : Option St :=
  (sget 3 b).bind fun p => (sget 1 p.2).bind fun n => (sItems n.1.toNat n.2).bind fun it => (sPart it.2).bind fun x => (sPart x.2).bind fun y => (sPart y.2).bind fun z =>
    if z.2 = [] ∧ standsOK ⟨p.1, it.1, x.1.2, y.1.2, z.1.2, x.1.1, y.1.1, z.1.1⟩ = true then some ⟨p.1, it.1, x.1.2, y.1.2, z.1.2, x.1.1, y.1.1, z.1.1⟩ else none

structure Rdr (σ : Type) where
  get : Nat → σ → Int × σ
  bad : σ → Bool
  rem : σ → List UInt8
structure RdrOK {σ : Type} (R : Rdr σ) : Prop where
  ok : ∀ w s, 1 ≤ w → R.bad s = false → w ≤ (R.rem s).length → (R.get w s).1 = (leVal ((R.rem s).take w) : Int) ∧ R.rem (R.get w s).2 = (R.rem s).drop w ∧ R.bad (R.get w s).2 = false
  no : ∀ w s, R.bad s = false → (R.rem s).length < w → R.bad (R.get w s).2 = true
  stay : ∀ w s, R.bad s = true → R.bad (R.get w s).2 = true

section
variable {σ : Type} (R : Rdr σ)
def Agree {α : Type} (o : Option (α × List UInt8)) (v : α) (s : σ) : Prop := match o with
  | some q => v = q.1 ∧ R.rem s = q.2 ∧ R.bad s = false
  | none => R.bad s = true
variable {R} (K : RdrOK R)
include K
theorem agree_get (w : Nat) (s : σ) (h : R.bad s = false) (h1 : 1 ≤ w := by decide) : Agree R (sget w (R.rem s)) (R.get w s).1 (R.get w s).2 := by
  unfold sget
  by_cases hw : w ≤ (R.rem s).length
  · rw [if_pos hw]; exact K.ok w s h1 h hw
  · rw [if_neg hw]; exact K.no w s h (by omega)
omit K in
theorem agree_bind {α β : Type} {o : Option (α × List UInt8)} {v : α} {s s' : σ} {w : β} (f : α × List UInt8 → Option (β × List UInt8)) (h : Agree R o v s) (hs : R.bad s = true → R.bad s' = true) (hf : R.bad s = false → Agree R (f (v, R.rem s)) w s') : Agree R (o.bind f) w s' := by
  cases o with
  | none => exact hs h
  | some q =>
    obtain ⟨h1, h2, h3⟩ := h
    have := hf h3
    rw [h1, h2] at this
    exact this

def gItems (R : Rdr σ) (stop : Bool) : Nat → σ → σ × List Item
  | 0, s => (s, [])
  | n + 1, s => bif stop && R.bad s then (s, []) else
    let k := R.get 1 s
    let p := R.get 3 k.2
    let v := R.get 1 p.2
    let q := gItems R stop n v.2
    (q.1, ⟨k.1, p.1, v.1⟩ :: q.2)
def gLines (R : Rdr σ) (stop : Bool) : Nat → Int → σ → σ × List Line
  | 0, _, s => (s, [])
  | n + 1, o, s => bif stop && R.bad s then (s, []) else
    let p := R.get 3 s
    let x := R.get 1 p.2
    let v := R.get 1 x.2
    let q := gLines R stop n (o + 1) v.2
    (q.1, ⟨o, p.1, x.1 % 16, x.1 / 16, v.1⟩ :: q.2)
theorem gItems_stay (stop : Bool) : ∀ (n : Nat) (s : σ), R.bad s = true → R.bad (gItems R stop n s).1 = true
  | 0, s, h => h
  | n + 1, s, h => by
    cases stop with
    | true => simp [gItems, h]
    | false =>
      simp only [gItems, Bool.false_and, cond_false]
      exact gItems_stay false n _ (K.stay _ _ (K.stay _ _ (K.stay _ _ h)))
theorem gLines_stay (stop : Bool) : ∀ (n : Nat) (o : Int) (s : σ), R.bad s = true → R.bad (gLines R stop n o s).1 = true
  | 0, o, s, h => h
  | n + 1, o, s, h => by
    cases stop with
    | true => simp [gLines, h]
    | false =>
      simp only [gLines, Bool.false_and, cond_false]
      exact gLines_stay false n _ _ (K.stay _ _ (K.stay _ _ (K.stay _ _ h)))
theorem gItems_agree (stop : Bool) : ∀ (n : Nat) (s : σ), R.bad s = false → Agree R (sItems n (R.rem s)) (gItems R stop n s).2 (gItems R stop n s).1
  | 0, s, h => ⟨rfl, rfl, h⟩
  | n + 1, s, h => by
    have e : gItems R stop (n + 1) s = ((gItems R stop n (R.get 1 (R.get 3 (R.get 1 s).2).2).2).1, ⟨(R.get 1 s).1, (R.get 3 (R.get 1 s).2).1, (R.get 1 (R.get 3 (R.get 1 s).2).2).1⟩ :: (gItems R stop n (R.get 1 (R.get 3 (R.get 1 s).2).2).2).2) := by
      simp [gItems, h]
    rw [e, sItems]
    refine agree_bind _ (agree_get K 1 s h) (fun hb => gItems_stay K stop n _ (K.stay _ _ (K.stay _ _ hb))) fun h1 => ?_
    refine agree_bind _ (agree_get K 3 _ h1) (fun hb => gItems_stay K stop n _ (K.stay _ _ hb)) fun h2 => ?_
    refine agree_bind _ (agree_get K 1 _ h2) (fun hb => gItems_stay K stop n _ hb) fun h3 => ?_
    refine agree_bind _ (gItems_agree stop n _ h3) (fun hb => hb) fun h4 => ?_
    exact ⟨rfl, rfl, h4⟩
theorem gLines_agree (stop : Bool) : ∀ (n : Nat) (o : Int) (s : σ), R.bad s = false → Agree R (sLines n o (R.rem s)) (gLines R stop n o s).2 (gLines R stop n o s).1
  | 0, o, s, h => ⟨rfl, rfl, h⟩
  | n + 1, o, s, h => by
    have e : gLines R stop (n + 1) o s = ((gLines R stop n (o + 1) (R.get 1 (R.get 1 (R.get 3 s).2).2).2).1, ⟨o, (R.get 3 s).1, (R.get 1 (R.get 3 s).2).1 % 16, (R.get 1 (R.get 3 s).2).1 / 16, (R.get 1 (R.get 1 (R.get 3 s).2).2).1⟩ :: (gLines R stop n (o + 1) (R.get 1 (R.get 1 (R.get 3 s).2).2).2).2) := by
      simp [gLines, h]
    rw [e, sLines]
    refine agree_bind _ (agree_get K 3 s h) (fun hb => gLines_stay K stop n _ _ (K.stay _ _ (K.stay _ _ hb))) fun h1 => ?_
    refine agree_bind _ (agree_get K 1 _ h1) (fun hb => gLines_stay K stop n _ _ (K.stay _ _ hb)) fun h2 => ?_
    refine agree_bind _ (agree_get K 1 _ h2) (fun hb => gLines_stay K stop n _ _ hb) fun h3 => ?_
    refine agree_bind _ (gLines_agree stop n _ _ h3) (fun hb => hb) fun h4 => ?_
    exact ⟨rfl, rfl, h4⟩
/-- a partition: 'mark' tells that it may not be -/
def gPart (R : Rdr σ) (stop : Bool) (mark : σ → σ) (s : σ) : σ × Int × List Line :=
  let c := R.get 3 s
  let n := R.get 1 c.2
  let f := R.get 3 n.2
  let q := gLines R stop n.1.toNat f.1 (bif n.1 == 0 && f.1 != 0 then mark f.2 else f.2)
  (q.1, c.1, q.2)
theorem gPart_stay (stop : Bool) (mark : σ → σ) (hm : ∀ s, R.bad (mark s) = true) (s : σ) (h : R.bad s = true) : R.bad (gPart R stop mark s).1 = true := by
  unfold gPart
  refine gLines_stay K stop _ _ _ ?_
  cases ((R.get 1 (R.get 3 s).2).1 == 0 && (R.get 3 (R.get 1 (R.get 3 s).2).2).1 != 0) with
  | true => exact hm _
  | false => exact K.stay _ _ (K.stay _ _ (K.stay _ _ h))
theorem gPart_agree (stop : Bool) (mark : σ → σ) (hm : ∀ s, R.bad (mark s) = true) (s : σ) (h : R.bad s = false) : Agree R (sPart (R.rem s)) (gPart R stop mark s).2 (gPart R stop mark s).1 := by
  have st : ∀ x : σ, R.bad x = true → ∀ b : Bool, R.bad (bif b then mark x else x) = true := fun x hx b => by cases b; exact hx; exact hm x
  unfold sPart gPart
  refine agree_bind _ (agree_get K 3 s h) (fun hb => gLines_stay K stop _ _ _ (st _ (K.stay _ _ (K.stay _ _ hb)) _)) fun h1 => ?_
  refine agree_bind _ (agree_get K 1 _ h1) (fun hb => gLines_stay K stop _ _ _ (st _ (K.stay _ _ hb) _)) fun h2 => ?_
  refine agree_bind _ (agree_get K 3 _ h2) (fun hb => gLines_stay K stop _ _ _ (st _ hb _)) fun h3 => ?_
  by_cases hc : (R.get 1 (R.get 3 s).2).1 = 0 ∧ (R.get 3 (R.get 1 (R.get 3 s).2).2).1 ≠ 0
  · have e : ((R.get 1 (R.get 3 s).2).1 == 0 && (R.get 3 (R.get 1 (R.get 3 s).2).2).1 != 0) = true := by simp [hc.1, hc.2]
    simp only [if_pos hc, e, cond_true]
    exact gLines_stay K stop _ _ _ (hm _)
  · have e : ((R.get 1 (R.get 3 s).2).1 == 0 && (R.get 3 (R.get 1 (R.get 3 s).2).2).1 != 0) = false := by
      cases hq : ((R.get 1 (R.get 3 s).2).1 == 0 && (R.get 3 (R.get 1 (R.get 3 s).2).2).1 != 0) with
      | false => rfl
      | true => simp only [Bool.and_eq_true, beq_iff_eq, bne_iff_ne, ne_eq] at hq; exact (hc hq).elim
    simp only [if_neg hc, e, cond_false]
    refine agree_bind _ (gLines_agree K stop _ _ _ h3) (fun hb => hb) fun h4 => ?_
    exact ⟨rfl, rfl, h4⟩
/-- all of a state -/
def gState (R : Rdr σ) (stop : Bool) (mark : σ → σ) (s : σ) : σ × St :=
  let p := R.get 3 s
  let n := R.get 1 p.2
  let it := gItems R stop n.1.toNat n.2
  let x := gPart R stop mark it.1
  let y := gPart R stop mark x.1
  let z := gPart R stop mark y.1
  (z.1, ⟨p.1, it.2, x.2.2, y.2.2, z.2.2, x.2.1, y.2.1, z.2.1⟩)
def sState (b : List UInt8) : Option (St × List UInt8) :=
  (sget 3 b).bind fun p => (sget 1 p.2).bind fun n => (sItems n.1.toNat n.2).bind fun it => (sPart it.2).bind fun x => (sPart x.2).bind fun y => (sPart y.2).bind fun z =>
    some (⟨p.1, it.1, x.1.2, y.1.2, z.1.2, x.1.1, y.1.1, z.1.1⟩, z.2)
theorem gState_agree (stop : Bool) (mark : σ → σ) (hm : ∀ s, R.bad (mark s) = true) (s : σ) (h : R.bad s = false) : Agree R (sState (R.rem s)) (gState R stop mark s).2 (gState R stop mark s).1 := by
  have ps := gPart_stay K stop mark hm
  unfold sState gState
  refine agree_bind _ (agree_get K 3 s h) (fun hb => ps _ (ps _ (ps _ (gItems_stay K stop _ _ (K.stay _ _ hb))))) fun h1 => ?_
  refine agree_bind _ (agree_get K 1 _ h1) (fun hb => ps _ (ps _ (ps _ (gItems_stay K stop _ _ hb)))) fun h2 => ?_
  refine agree_bind _ (gItems_agree K stop _ _ h2) (fun hb => ps _ (ps _ (ps _ hb))) fun h3 => ?_
  refine agree_bind _ (gPart_agree K stop mark hm _ h3) (fun hb => ps _ (ps _ hb)) fun h4 => ?_
  refine agree_bind _ (gPart_agree K stop mark hm _ h4) (fun hb => ps _ hb) fun h5 => ?_
  refine agree_bind _ (gPart_agree K stop mark hm _ h5) (fun hb => hb) fun h6 => ?_
  exact ⟨rfl, rfl, h6⟩
omit K in
theorem readS_eq (b : List UInt8) : readS b = match sState b with
    | some q => if q.2 = [] ∧ standsOK q.1 = true then some q.1 else none
    | none => none := by
  unfold readS sState
  cases sget 3 b with
  | none => rfl
  | some p =>
    simp only [Option.bind_some]
    cases sget 1 p.2 with
    | none => rfl
    | some n =>
      simp only [Option.bind_some]
      cases sItems n.1.toNat n.2 with
      | none => rfl
      | some it =>
        simp only [Option.bind_some]
        cases sPart it.2 with
        | none => rfl
        | some x =>
          simp only [Option.bind_some]
          cases sPart x.2 with
          | none => rfl
          | some y =>
            simp only [Option.bind_some]
            cases sPart y.2 with
            | none => rfl
            | some z => rfl
theorem gState_read (stop : Bool) (mark : σ → σ) (hm : ∀ s, R.bad (mark s) = true) (s : σ) (h : R.bad s = false) :
    readS (R.rem s) = if R.bad (gState R stop mark s).1 = false ∧ R.rem (gState R stop mark s).1 = [] ∧ standsOK (gState R stop mark s).2 = true then some (gState R stop mark s).2 else none := by
  have := gState_agree K stop mark hm s h
  rw [readS_eq]
  cases hq : sState (R.rem s) with
  | none =>
    rw [hq] at this
    have hb : R.bad (gState R stop mark s).1 = true := this
    simp [hb]
  | some q =>
    rw [hq] at this
    obtain ⟨h1, h2, h3⟩ := this
    rw [h1, h2, h3]
    simp
end

/-- the program's reader -/
def rdP : Rdr Rd := ⟨rget, Rd.bad, Rd.b⟩
theorem rdP_ok : RdrOK rdP where
  ok w s h1 h hw := by
    obtain ⟨c, b, bad⟩ := s
    simp only [rdP] at h hw ⊢
    subst h
    rw [rget_ok hw]; exact ⟨rfl, rfl, rfl⟩
  no w s h hw := by
    obtain ⟨c, b, bad⟩ := s
    simp only [rdP] at hw ⊢
    rw [rget_no hw]
  stay w s h := rget_bad h
/-- the reference's reader, of those bytes -/
structure Rn where
  pos : Nat
  short : Bool
def nget (b : List UInt8) (w : Nat) (s : Rn) : Int × Rn := if s.pos + w ≤ b.length then ((leVal ((b.drop s.pos).take w) : Int), ⟨s.pos + w, s.short⟩) else (0, ⟨s.pos, true⟩)
def rdN (b : List UInt8) : Rdr Rn := ⟨nget b, Rn.short, fun s => b.drop s.pos⟩
theorem rdN_ok (b : List UInt8) : RdrOK (rdN b) where
  ok w s h1 h hw := by
    obtain ⟨p, sh⟩ := s
    simp only [rdN, List.length_drop] at h hw ⊢
    simp only [nget, if_pos (show p + w ≤ b.length by omega)]
    exact ⟨by first | trivial | rfl, by rw [List.drop_drop], h⟩
  no w s h hw := by
    obtain ⟨p, sh⟩ := s
    simp only [rdN, List.length_drop] at hw ⊢
    simp only [nget, if_neg (show ¬ p + w ≤ b.length by omega)]
  stay w s h := by
    obtain ⟨p, sh⟩ := s
    simp only [rdN] at h ⊢
    unfold nget; split
    · exact h
    · rfl
end Go.Ev

/-
  Reading a state's partitions, one behind the other.
-/
namespace Go.Ev
set_option linter.unusedVariables false
set_option linter.unusedSimpArgs false
def addL {α : Type} (q k : Int) (l x : List α) : List α := if q = k then l ++ x else l
structure QS (σ : Type) where
  r : σ
  l0 : List Line
  l1 : List Line
  l2 : List Line
  c0 : Int
  c1 : Int
  c2 : Int
section
variable {σ : Type} (R : Rdr σ) (stop : Bool) (mark : σ → σ)
def part0 (s : QS σ) : QS σ := { s with r := (gPart R stop mark s.r).1, l0 := s.l0 ++ (gPart R stop mark s.r).2.2, c0 := (gPart R stop mark s.r).2.1 }
def part1 (s : QS σ) : QS σ := { s with r := (gPart R stop mark s.r).1, l1 := s.l1 ++ (gPart R stop mark s.r).2.2, c1 := (gPart R stop mark s.r).2.1 }
def part2 (s : QS σ) : QS σ := { s with r := (gPart R stop mark s.r).1, l2 := s.l2 ++ (gPart R stop mark s.r).2.2, c2 := (gPart R stop mark s.r).2.1 }
def runQ : Nat → QS σ → QS σ
  | 0, s => part2 R stop mark (part1 R stop mark (part0 R stop mark s))
  | 1, s => part2 R stop mark (part1 R stop mark s)
  | 2, s => part2 R stop mark s
  | _, s => s
end
def markP (r : Rd) : Rd := ⟨r.c, r.b, true⟩
theorem gLines_len {σ : Type} (R : Rdr σ) (stop : Bool) : ∀ (n : Nat) (o : Int) (s : σ), (gLines R stop n o s).2.length ≤ n
  | 0, _, _ => Nat.le_refl _
  | n + 1, o, s => by
    simp only [gLines]
    cases stop && R.bad s with
    | true => simp
    | false => have := gLines_len R stop n (o + 1) (R.get 1 (R.get 1 (R.get 3 s).2).2).2; simp; omega
theorem and15 (m : Nat) (hm : m < 2 ^ 63) : bits .i64 (fun _ u v => u &&& v) (m : Int) 15 = (m : Int) % 16 := by
  unfold bits
  have h1 : ∀ x : Nat, x < 2 ^ 64 → (BitVec.ofInt IntKind.i64.bits (x : Int)).toNat = x := by
    intro x hx
    rw [BitVec.toNat_ofInt]
    simp only [IntKind.bits]
    omega
  have e : (15 : Int) = ((15 : Nat) : Int) := rfl
  rw [e, BitVec.toNat_and, h1 _ (by omega), h1 _ (by omega)]
  have h2 : m &&& 15 = m % 16 := Nat.and_two_pow_sub_one_eq_mod m 4
  rw [h2, wrap_id (by omega) (by omega)]
  omega
theorem gItemsP_succ (k : Nat) (s : Rd) : gItems rdP false (k + 1) s = ((gItems rdP false k (rget 1 (rget 3 (rget 1 s).2).2).2).1, ⟨(rget 1 s).1, (rget 3 (rget 1 s).2).1, (rget 1 (rget 3 (rget 1 s).2).2).1⟩ :: (gItems rdP false k (rget 1 (rget 3 (rget 1 s).2).2).2).2) := rfl
theorem gLinesP_succ (k : Nat) (o : Int) (s : Rd) : gLines rdP false (k + 1) o s = ((gLines rdP false k (o + 1) (rget 1 (rget 1 (rget 3 s).2).2).2).1, ⟨o, (rget 3 s).1, (rget 1 (rget 3 s).2).1 % 16, (rget 1 (rget 3 s).2).1 / 16, (rget 1 (rget 1 (rget 3 s).2).2).1⟩ :: (gLines rdP false k (o + 1) (rget 1 (rget 1 (rget 3 s).2).2).2).2) := rfl
end Go.Ev

namespace Go.Ev
open Go.Proofs
set_option maxRecDepth 100000
set_option linter.unusedVariables false
set_option linter.unusedSimpArgs false
/-! ## package record: what bytes are, as a state -/
/-! ### loop rsItems: flume/record.ReadState, region 4 -/
structure rsItems_St where
  c : Bool
  b : List UInt8
  bad : Bool
  pl : Int
  its : List Item
  c0 : Int
  c1 : Int
  c2 : Int
  n : Int
  i : Nat
def rsItems_c (c : Bool) (b : List UInt8) (bad : Bool) (pl : Int) (its : List Item) (c0 : Int) (c1 : Int) (c2 : Int) (n : Int) (i : Nat) : Env RC := [(4, .ptr 0 []), (5, .ptr 1 []), (20, .int .i64 n), (21, .int .i64 (i : Int))]
def rsItems_o (c : Bool) (b : List UInt8) (bad : Bool) (pl : Int) (its : List Item) (c0 : Int) (c1 : Int) (c2 : Int) (n : Int) (i : Nat) : List (Obj RC) := [.var 74 (.acons (.sl (C := RC) .u8 c b) (.acons (.bool bad) .anil)), .var 33 (.acons (.int .i64 pl) (.acons (.vs 2 (its.length)) (.acons (.acons (.sl (C := RC) .line true []) (.acons (.sl (C := RC) .line true []) (.acons (.sl (C := RC) .line true []) .anil))) (.acons (.arr (C := RC) .int 3 [c0, c1, c2]) .anil)))), .vec (C := RC) .item true its]
noncomputable def rsItems_r (c : Bool) (b : List UInt8) (bad : Bool) (pl : Int) (its : List Item) (c0 : Int) (c1 : Int) (c2 : Int) (n : Int) (i : Nat) := rndO s05 uk_2 19 4 40 3 [4, 5, 20, 21] [] [.slot 4 0, .slot 5 0, .path 1 [1]] (rsItems_c c b bad pl its c0 c1 c2 n i) (rsItems_o c b bad pl its c0 c1 c2 n i)
theorem rsItems_eq (c : Bool) (b : List UInt8) (bad : Bool) (pl : Int) (its : List Item) (c0 : Int) (c1 : Int) (c2 : Int) (n : Int) (i : Nat) : rsItems_r c b bad pl its c0 c1 c2 n i = (bif decide ((↑i : Int) < n) then bif decide (List.length b ≤ (1000000000000 : Nat)) then bif Prod.snd (getP b (0 : Int) (1 : Int)) != (0 : Int) then bif Nat.beq (List.length its) (List.length its) && sizeOK (List.length its + (1 : Nat)) (24 : Nat) then some ((X.normal, [((4 : Nat), D.ptr (0 : Nat) []), ((5 : Nat), D.ptr (1 : Nat) []), ((20 : Nat), D.int IntKind.i64 n), ((21 : Nat), D.int IntKind.i64 (IntKind.wrap IntKind.i64 ((↑i : Int) + (1 : Int))))]), [some (Obj.var (74 : Nat) (D.acons (D.sl RTy.u8 true []) (D.acons (D.bool true) D.anil))), some (Obj.var (33 : Nat) (D.acons (D.int IntKind.i64 pl) (D.acons (D.vs (2 : Nat) (List.length its + (1 : Nat))) (D.acons (D.acons (D.sl RTy.line true []) (D.acons (D.sl RTy.line true []) (D.acons (D.sl RTy.line true []) D.anil))) (D.acons (D.arr RTy.int (3 : Nat) [c0, c1, c2]) D.anil))))), some (Obj.vec RTy.item true (its ++ [Item.mk (0 : Int) (0 : Int) (0 : Int)]))]) else none else bif decide ((0 : Int) ≤ (1 : Int) ∧ (1 : Int) ≤ (↑(List.length b) : Int)) then bif decide (List.length (List.drop (1 : Nat) b) ≤ (1000000000000 : Nat)) then bif Prod.snd (getP (List.drop (1 : Nat) b) (0 : Int) (3 : Int)) != (0 : Int) then bif Nat.beq (List.length its) (List.length its) && sizeOK (List.length its + List.length [Item.mk (Prod.fst (getP b (0 : Int) (1 : Int))) (0 : Int) (0 : Int)]) (24 : Nat) then some ((X.normal, [((4 : Nat), D.ptr (0 : Nat) []), ((5 : Nat), D.ptr (1 : Nat) []), ((20 : Nat), D.int IntKind.i64 n), ((21 : Nat), D.int IntKind.i64 (IntKind.wrap IntKind.i64 ((↑i : Int) + (1 : Int))))]), [some (Obj.var (74 : Nat) (D.acons (D.sl RTy.u8 true []) (D.acons (D.bool true) D.anil))), some (Obj.var (33 : Nat) (D.acons (D.int IntKind.i64 pl) (D.acons (D.vs (2 : Nat) (List.length its + List.length [Item.mk (Prod.fst (getP b (0 : Int) (1 : Int))) (0 : Int) (0 : Int)])) (D.acons (D.acons (D.sl RTy.line true []) (D.acons (D.sl RTy.line true []) (D.acons (D.sl RTy.line true []) D.anil))) (D.acons (D.arr RTy.int (3 : Nat) [c0, c1, c2]) D.anil))))), some (Obj.vec RTy.item true (its ++ [Item.mk (Prod.fst (getP b (0 : Int) (1 : Int))) (0 : Int) (0 : Int)]))]) else none else bif decide ((0 : Int) ≤ (3 : Int) ∧ (3 : Int) ≤ (↑(List.length (List.drop (1 : Nat) b)) : Int)) then bif decide (List.length (List.drop (3 : Nat) (List.drop (1 : Nat) b)) ≤ (1000000000000 : Nat)) then bif Prod.snd (getP (List.drop (3 : Nat) (List.drop (1 : Nat) b)) (0 : Int) (1 : Int)) != (0 : Int) then bif Nat.beq (List.length its) (List.length its) && sizeOK (List.length its + List.length [Item.mk (Prod.fst (getP b (0 : Int) (1 : Int))) (Prod.fst (getP (List.drop (1 : Nat) b) (0 : Int) (3 : Int))) (0 : Int)]) (24 : Nat) then some ((X.normal, [((4 : Nat), D.ptr (0 : Nat) []), ((5 : Nat), D.ptr (1 : Nat) []), ((20 : Nat), D.int IntKind.i64 n), ((21 : Nat), D.int IntKind.i64 (IntKind.wrap IntKind.i64 ((↑i : Int) + (1 : Int))))]), [some (Obj.var (74 : Nat) (D.acons (D.sl RTy.u8 true []) (D.acons (D.bool true) D.anil))), some (Obj.var (33 : Nat) (D.acons (D.int IntKind.i64 pl) (D.acons (D.vs (2 : Nat) (List.length its + List.length [Item.mk (Prod.fst (getP b (0 : Int) (1 : Int))) (Prod.fst (getP (List.drop (1 : Nat) b) (0 : Int) (3 : Int))) (0 : Int)])) (D.acons (D.acons (D.sl RTy.line true []) (D.acons (D.sl RTy.line true []) (D.acons (D.sl RTy.line true []) D.anil))) (D.acons (D.arr RTy.int (3 : Nat) [c0, c1, c2]) D.anil))))), some (Obj.vec RTy.item true (its ++ [Item.mk (Prod.fst (getP b (0 : Int) (1 : Int))) (Prod.fst (getP (List.drop (1 : Nat) b) (0 : Int) (3 : Int))) (0 : Int)]))]) else none else bif decide ((0 : Int) ≤ (1 : Int) ∧ (1 : Int) ≤ (↑(List.length (List.drop (3 : Nat) (List.drop (1 : Nat) b))) : Int)) then bif Nat.beq (List.length its) (List.length its) && sizeOK (List.length its + List.length [Item.mk (Prod.fst (getP b (0 : Int) (1 : Int))) (Prod.fst (getP (List.drop (1 : Nat) b) (0 : Int) (3 : Int))) (Prod.fst (getP (List.drop (3 : Nat) (List.drop (1 : Nat) b)) (0 : Int) (1 : Int)))]) (24 : Nat) then some ((X.normal, [((4 : Nat), D.ptr (0 : Nat) []), ((5 : Nat), D.ptr (1 : Nat) []), ((20 : Nat), D.int IntKind.i64 n), ((21 : Nat), D.int IntKind.i64 (IntKind.wrap IntKind.i64 ((↑i : Int) + (1 : Int))))]), [some (Obj.var (74 : Nat) (D.acons (D.sl RTy.u8 c (List.drop (1 : Nat) (List.drop (3 : Nat) (List.drop (1 : Nat) b)))) (D.acons (D.bool bad) D.anil))), some (Obj.var (33 : Nat) (D.acons (D.int IntKind.i64 pl) (D.acons (D.vs (2 : Nat) (List.length its + List.length [Item.mk (Prod.fst (getP b (0 : Int) (1 : Int))) (Prod.fst (getP (List.drop (1 : Nat) b) (0 : Int) (3 : Int))) (Prod.fst (getP (List.drop (3 : Nat) (List.drop (1 : Nat) b)) (0 : Int) (1 : Int)))])) (D.acons (D.acons (D.sl RTy.line true []) (D.acons (D.sl RTy.line true []) (D.acons (D.sl RTy.line true []) D.anil))) (D.acons (D.arr RTy.int (3 : Nat) [c0, c1, c2]) D.anil))))), some (Obj.vec RTy.item true (its ++ [Item.mk (Prod.fst (getP b (0 : Int) (1 : Int))) (Prod.fst (getP (List.drop (1 : Nat) b) (0 : Int) (3 : Int))) (Prod.fst (getP (List.drop (3 : Nat) (List.drop (1 : Nat) b)) (0 : Int) (1 : Int)))]))]) else none else none else none else none else none else none else none else some ((X.exit (0 : Nat), []), [some (Obj.var (74 : Nat) (D.acons (D.sl RTy.u8 c b) (D.acons (D.bool bad) D.anil))), some (Obj.var (33 : Nat) (D.acons (D.int IntKind.i64 pl) (D.acons (D.vs (2 : Nat) (List.length its)) (D.acons (D.acons (D.sl RTy.line true []) (D.acons (D.sl RTy.line true []) (D.acons (D.sl RTy.line true []) D.anil))) (D.acons (D.arr RTy.int (3 : Nat) [c0, c1, c2]) D.anil))))), some (Obj.vec RTy.item true its)])) := by kernel_rfl
def rsItems_fin (c : Bool) (b : List UInt8) (bad : Bool) (pl : Int) (its : List Item) (c0 : Int) (c1 : Int) (c2 : Int) (n : Int) (i : Nat) : RT RC := .leaf (.exit 0) [] [.var 74 (.acons (.sl (C := RC) .u8 (gItems rdP false (n.toNat - i) ⟨c, b, bad⟩).1.c (gItems rdP false (n.toNat - i) ⟨c, b, bad⟩).1.b) (.acons (.bool (gItems rdP false (n.toNat - i) ⟨c, b, bad⟩).1.bad) .anil)), .var 33 (.acons (.int .i64 pl) (.acons (.vs 2 (its ++ (gItems rdP false (n.toNat - i) ⟨c, b, bad⟩).2).length) (.acons (.acons (.sl (C := RC) .line true []) (.acons (.sl (C := RC) .line true []) (.acons (.sl (C := RC) .line true []) .anil))) (.acons (.arr (C := RC) .int 3 [c0, c1, c2]) .anil)))), .vec (C := RC) .item true (its ++ (gItems rdP false (n.toNat - i) ⟨c, b, bad⟩).2)]
def rsItems_Inv (c : Bool) (b : List UInt8) (bad : Bool) (pl : Int) (its : List Item) (c0 : Int) (c1 : Int) (c2 : Int) (n : Int) (i : Nat) : Prop := (i : Int) ≤ n ∧ n ≤ 255 ∧ b.length ≤ 1000000 ∧ its.length ≤ i
def rsItems_S : LoopR RC rsItems_St where
  k := 3
  canon q := rsItems_c q.c q.b q.bad q.pl q.its q.c0 q.c1 q.c2 q.n q.i
  objs q := rsItems_o q.c q.b q.bad q.pl q.its q.c0 q.c1 q.c2 q.n q.i
  fin q := rsItems_fin q.c q.b q.bad q.pl q.its q.c0 q.c1 q.c2 q.n q.i
  Inv q := rsItems_Inv q.c q.b q.bad q.pl q.its q.c0 q.c1 q.c2 q.n q.i
  μ q := q.n.toNat - q.i
theorem rsItems_round (c : Bool) (b : List UInt8) (bad : Bool) (pl : Int) (its : List Item) (c0 : Int) (c1 : Int) (c2 : Int) (n : Int) (i : Nat) (hI : rsItems_Inv c b bad pl its c0 c1 c2 n i) : Leaf (rsItems_r c b bad pl its c0 c1 c2 n i) (LedR rsItems_S ⟨c, b, bad, pl, its, c0, c1, c2, n, i⟩) := by
  rw [rsItems_eq]
  unfold rsItems_Inv at hI
  obtain ⟨h1, h2, h3, h4⟩ := hI
  have eb : ∀ n : Nat, n.beq n = true := fun n => by simp
  have z1 : rget 1 ⟨true, [], true⟩ = (0, ⟨true, [], true⟩) := rfl
  have z3 : rget 3 ⟨true, [], true⟩ = (0, ⟨true, [], true⟩) := rfl
  by_cases hlt : (i : Int) < n
  · have w_succ : IntKind.i64.wrap ((i : Int) + 1) = ((i + 1 : Nat) : Int) := by rw [wrap_id (by omega) (by omega)]; simp
    have hn : n.toNat - i = (n.toNat - (i + 1)) + 1 := by omega
    have s1 : sizeOK (its.length + 1) 24 = true := sizeT (by omega)
    have e0 : decide (b.length ≤ 1000000000000) = true := decide_eq_true (by omega)
    have t1 : Int.toNat 1 = 1 := rfl
    have t3 : Int.toNat 3 = 3 := rfl
    simp only [hlt, decide_true, cond_true, e0, getP_snd1, getP_snd3, w_succ, List.length_cons, List.length_nil, Nat.zero_add, s1, eb, Bool.and_self, t1, t3]
    by_cases q0 : (b).length < 1
    · have r0 : rget 1 ⟨c, b, bad⟩ = _ := rget_no q0
      simp only [q0, decide_true, cond_true]
      refine leafR_go ⟨true, [], true, pl, its ++ [⟨0, 0, 0⟩], c0, c1, c2, n, i + 1⟩ (by refine ⟨hlt, h2, ?_, ?_⟩ <;> simp <;> omega) (by simp only [rsItems_S]; omega) ?_ (by simp [rsItems_S, rsItems_c]) (by simp [rsItems_S, rsItems_o])
      simp only [rsItems_S, rsItems_fin, hn, gItemsP_succ, r0, z1, z3, List.append_assoc, List.cons_append, List.nil_append]
    have r0 : rget 1 ⟨c, b, bad⟩ = _ := rget_ok (show 1 ≤ (b).length by omega)
    have d0 : decide ((0 : Int) ≤ 1 ∧ (1 : Int) ≤ (b).length) = true := by simp only [decide_eq_true_eq]; omega
    have e0 : decide (((b).drop 1).length ≤ 1000000000000) = true := decide_eq_true (by simp; omega)
    simp only [q0, decide_false, cond_false, d0, cond_true, e0, getP_fst1 q0]
    by_cases q1 : ((b).drop 1).length < 3
    · have r1 : rget 3 ⟨c, (b).drop 1, bad⟩ = _ := rget_no q1
      simp only [q1, decide_true, cond_true]
      refine leafR_go ⟨true, [], true, pl, its ++ [⟨(leVal ((b).take 1) : Int), 0, 0⟩], c0, c1, c2, n, i + 1⟩ (by refine ⟨hlt, h2, ?_, ?_⟩ <;> simp <;> omega) (by simp only [rsItems_S]; omega) ?_ (by simp [rsItems_S, rsItems_c]) (by simp [rsItems_S, rsItems_o])
      simp only [rsItems_S, rsItems_fin, hn, gItemsP_succ, r0, r1, z1, z3, List.append_assoc, List.cons_append, List.nil_append]
    have r1 : rget 3 ⟨c, (b).drop 1, bad⟩ = _ := rget_ok (show 3 ≤ ((b).drop 1).length by omega)
    have d1 : decide ((0 : Int) ≤ 3 ∧ (3 : Int) ≤ ((b).drop 1).length) = true := by simp only [decide_eq_true_eq]; omega
    have e1 : decide ((((b).drop 1).drop 3).length ≤ 1000000000000) = true := decide_eq_true (by simp; omega)
    simp only [q1, decide_false, cond_false, d1, cond_true, e1, getP_fst3 q1]
    by_cases q2 : (((b).drop 1).drop 3).length < 1
    · have r2 : rget 1 ⟨c, ((b).drop 1).drop 3, bad⟩ = _ := rget_no q2
      simp only [q2, decide_true, cond_true]
      refine leafR_go ⟨true, [], true, pl, its ++ [⟨(leVal ((b).take 1) : Int), (leVal (((b).drop 1).take 3) : Int), 0⟩], c0, c1, c2, n, i + 1⟩ (by refine ⟨hlt, h2, ?_, ?_⟩ <;> simp <;> omega) (by simp only [rsItems_S]; omega) ?_ (by simp [rsItems_S, rsItems_c]) (by simp [rsItems_S, rsItems_o])
      simp only [rsItems_S, rsItems_fin, hn, gItemsP_succ, r0, r1, r2, z1, z3, List.append_assoc, List.cons_append, List.nil_append]
    have r2 : rget 1 ⟨c, ((b).drop 1).drop 3, bad⟩ = _ := rget_ok (show 1 ≤ (((b).drop 1).drop 3).length by omega)
    have d2 : decide ((0 : Int) ≤ 1 ∧ (1 : Int) ≤ (((b).drop 1).drop 3).length) = true := by simp only [decide_eq_true_eq]; omega
    have e2 : decide (((((b).drop 1).drop 3).drop 1).length ≤ 1000000000000) = true := decide_eq_true (by simp; omega)
    simp only [q2, decide_false, cond_false, d2, cond_true, e2, getP_fst1 q2]
    refine leafR_go ⟨c, (((b).drop 1).drop 3).drop 1, bad, pl, its ++ [⟨(leVal ((b).take 1) : Int), (leVal (((b).drop 1).take 3) : Int), (leVal ((((b).drop 1).drop 3).take 1) : Int)⟩], c0, c1, c2, n, i + 1⟩ (by refine ⟨hlt, h2, ?_, ?_⟩ <;> simp <;> omega) (by simp only [rsItems_S]; omega) ?_ (by simp [rsItems_S, rsItems_c]) (by simp [rsItems_S, rsItems_o])
    simp only [rsItems_S, rsItems_fin, hn, gItemsP_succ, r0, r1, r2, List.append_assoc, List.cons_append, List.nil_append]
  · have hi : n.toNat - i = 0 := by omega
    simp only [hlt, decide_false, cond_false]
    exact leafR_exit (rsItems_o c b bad pl its c0 c1 c2 n i) (by simp only [rsItems_S, rsItems_fin, rsItems_o, hi, gItems, RT.val, List.append_nil]) rfl
def rsItems_d (env : Env RC) (os : List (Obj RC)) : Option (Bool × rsItems_St) := match env, os with
  | [(4, .ptr 0 []), (5, .ptr 1 []), (20, .int .i64 n), (21, .int .i64 x0)], [.var 74 (.acons (.sl .u8 c b) (.acons (.bool bad) .anil)), .var 33 (.acons (.int .i64 pl) (.acons (.vs 2 x1) (.acons (.acons (.sl .line true []) (.acons (.sl .line true []) (.acons (.sl .line true []) .anil))) (.acons (.arr .int 3 [c0, c1, c2]) .anil)))), .vec .item true its] => staticD (true) (decide (x0 = 0) && decide (x1 = its.length) && decide (0 ≤ n ∧ n ≤ 255 ∧ b.length ≤ 1000000 ∧ its.length = 0), ⟨c, b, bad, pl, its, c0, c1, c2, n, 0⟩)
  | _, _ => none
noncomputable def um_1 := uk_2.addLoop 19 4 (sumR s05 [.slot 4 0, .slot 5 0, .path 1 [1]] [4, 5, 20, 21] rsItems_S rsItems_d)
theorem um_1_laws : FLaws Try.prog s05 um_1 := by
  refine uk_2_laws.addRoundsR s05_laws (by kernel_rfl) rsItems_S 40 [4, 5, 20, 21] [] [.slot 4 0, .slot 5 0, .path 1 [1]] [4, 5, 20, 21] rsItems_d (fun q hI => ?_) ?_
  · obtain ⟨c, b, bad, pl, its, c0, c1, c2, n, i⟩ := q
    refine ⟨?_, ?_, rsItems_round c b bad pl its c0 c1 c2 n i hI⟩
    · simp_all [RefsOK, rsItems_S, rsItems_c, rsItems_o, rsItems_Inv, D.refs, Obj.refs, rEnc]
    · simp_all [rsItems_S, rsItems_fin, rsItems_o, rsItems_Inv, RT.refsOK, RefsOK, D.refs, Obj.refs, rEnc]
  · intro env os b q hd_ hb
    unfold rsItems_d at hd_
    split at hd_
    · obtain ⟨hs, hd_⟩ := staticD_some hd_
      cases hd_
      simp only [Bool.and_eq_true, decide_eq_true_eq] at hb
      obtain ⟨⟨rfl, rfl⟩, h⟩ := hb
      exact ⟨⟨by simpa using h.1, h.2.1, h.2.2.1, by simp [h.2.2.2]⟩, rfl, rfl⟩
    · cases hd_
/-! ### loop rsLines: flume/record.ReadState, region 18 -/
structure rsLines_St where
  c : Bool
  b : List UInt8
  bad : Bool
  pl : Int
  its : List Item
  l0 : List Line
  l1 : List Line
  l2 : List Line
  c0 : Int
  c1 : Int
  c2 : Int
  q : Int
  first : Int
  n : Int
  i : Nat
def rsLines_c (c : Bool) (b : List UInt8) (bad : Bool) (pl : Int) (its : List Item) (l0 : List Line) (l1 : List Line) (l2 : List Line) (c0 : Int) (c1 : Int) (c2 : Int) (q : Int) (first : Int) (n : Int) (i : Nat) : Env RC := [(4, .ptr 0 []), (5, .ptr 1 []), (7, .int .i64 q), (9, .int .i64 first), (66, .int .i64 n), (67, .int .i64 (i : Int))]
def rsLines_o (c : Bool) (b : List UInt8) (bad : Bool) (pl : Int) (its : List Item) (l0 : List Line) (l1 : List Line) (l2 : List Line) (c0 : Int) (c1 : Int) (c2 : Int) (q : Int) (first : Int) (n : Int) (i : Nat) : List (Obj RC) := [.var 74 (.acons (.sl (C := RC) .u8 c b) (.acons (.bool bad) .anil)), .var 33 (.acons (.int .i64 pl) (.acons (.vs 2 (its.length)) (.acons (.acons (.vs 3 (l0.length)) (.acons (.vs 4 (l1.length)) (.acons (.vs 5 (l2.length)) .anil))) (.acons (.arr (C := RC) .int 3 [c0, c1, c2]) .anil)))), .vec (C := RC) .item true its, .vec (C := RC) .line true l0, .vec (C := RC) .line true l1, .vec (C := RC) .line true l2]
noncomputable def rsLines_r (c : Bool) (b : List UInt8) (bad : Bool) (pl : Int) (its : List Item) (l0 : List Line) (l1 : List Line) (l2 : List Line) (c0 : Int) (c1 : Int) (c2 : Int) (q : Int) (first : Int) (n : Int) (i : Nat) := rndO s05 um_1 19 18 60 6 [4, 5, 7, 9, 66, 67] [] [.slot 4 0, .slot 5 0, .path 1 [1], .path 1 [2, 0], .path 1 [2, 1], .path 1 [2, 2]] (rsLines_c c b bad pl its l0 l1 l2 c0 c1 c2 q first n i) (rsLines_o c b bad pl its l0 l1 l2 c0 c1 c2 q first n i)
theorem rsLines_eq0 (c : Bool) (b : List UInt8) (bad : Bool) (pl : Int) (its : List Item) (l0 l1 l2 : List Line) (c0 c1 c2 : Int) (first n : Int) (i : Nat) : rsLines_r c b bad pl its l0 l1 l2 c0 c1 c2 0 first n i = (bif decide ((↑i : Int) < n) then bif decide (List.length b ≤ (1000000000000 : Nat)) then bif Prod.snd (getP b (0 : Int) (3 : Int)) != (0 : Int) then bif Nat.beq (List.length l0) (List.length l0) && sizeOK (List.length l0 + List.length [Line.mk (IntKind.wrap IntKind.i64 (first + (↑i : Int))) (0 : Int) (0 : Int) (0 : Int) (0 : Int)]) (40 : Nat) then some ((X.normal, [((4 : Nat), D.ptr (0 : Nat) []), ((5 : Nat), D.ptr (1 : Nat) []), ((7 : Nat), D.int IntKind.i64 (0 : Int)), ((9 : Nat), D.int IntKind.i64 first), ((66 : Nat), D.int IntKind.i64 n), ((67 : Nat), D.int IntKind.i64 (IntKind.wrap IntKind.i64 ((↑i : Int) + (1 : Int))))]), [some (Obj.var (74 : Nat) (D.acons (D.sl RTy.u8 true []) (D.acons (D.bool true) D.anil))), some (Obj.var (33 : Nat) (D.acons (D.int IntKind.i64 pl) (D.acons (D.vs (2 : Nat) (List.length its)) (D.acons (D.acons (D.vs (3 : Nat) (List.length l0 + List.length [Line.mk (IntKind.wrap IntKind.i64 (first + (↑i : Int))) (0 : Int) (0 : Int) (0 : Int) (0 : Int)])) (D.acons (D.vs (4 : Nat) (List.length l1)) (D.acons (D.vs (5 : Nat) (List.length l2)) D.anil))) (D.acons (D.arr RTy.int (3 : Nat) [c0, c1, c2]) D.anil))))), some (Obj.vec RTy.item true its), some (Obj.vec RTy.line true (l0 ++ [Line.mk (IntKind.wrap IntKind.i64 (first + (↑i : Int))) (0 : Int) (0 : Int) (0 : Int) (0 : Int)])), some (Obj.vec RTy.line true l1), some (Obj.vec RTy.line true l2)]) else none else bif decide ((0 : Int) ≤ (3 : Int) ∧ (3 : Int) ≤ (↑(List.length b) : Int)) then bif decide (List.length (List.drop (3 : Nat) b) ≤ (1000000000000 : Nat)) then bif Prod.snd (getP (List.drop (3 : Nat) b) (0 : Int) (1 : Int)) != (0 : Int) then bif Nat.beq (List.length l0) (List.length l0) && sizeOK (List.length l0 + List.length [Line.mk (IntKind.wrap IntKind.i64 (first + (↑i : Int))) (Prod.fst (getP b (0 : Int) (3 : Int))) (0 : Int) (0 : Int) (0 : Int)]) (40 : Nat) then some ((X.normal, [((4 : Nat), D.ptr (0 : Nat) []), ((5 : Nat), D.ptr (1 : Nat) []), ((7 : Nat), D.int IntKind.i64 (0 : Int)), ((9 : Nat), D.int IntKind.i64 first), ((66 : Nat), D.int IntKind.i64 n), ((67 : Nat), D.int IntKind.i64 (IntKind.wrap IntKind.i64 ((↑i : Int) + (1 : Int))))]), [some (Obj.var (74 : Nat) (D.acons (D.sl RTy.u8 true []) (D.acons (D.bool true) D.anil))), some (Obj.var (33 : Nat) (D.acons (D.int IntKind.i64 pl) (D.acons (D.vs (2 : Nat) (List.length its)) (D.acons (D.acons (D.vs (3 : Nat) (List.length l0 + List.length [Line.mk (IntKind.wrap IntKind.i64 (first + (↑i : Int))) (Prod.fst (getP b (0 : Int) (3 : Int))) (0 : Int) (0 : Int) (0 : Int)])) (D.acons (D.vs (4 : Nat) (List.length l1)) (D.acons (D.vs (5 : Nat) (List.length l2)) D.anil))) (D.acons (D.arr RTy.int (3 : Nat) [c0, c1, c2]) D.anil))))), some (Obj.vec RTy.item true its), some (Obj.vec RTy.line true (l0 ++ [Line.mk (IntKind.wrap IntKind.i64 (first + (↑i : Int))) (Prod.fst (getP b (0 : Int) (3 : Int))) (0 : Int) (0 : Int) (0 : Int)])), some (Obj.vec RTy.line true l1), some (Obj.vec RTy.line true l2)]) else none else bif decide ((0 : Int) ≤ (1 : Int) ∧ (1 : Int) ≤ (↑(List.length (List.drop (3 : Nat) b)) : Int)) then bif decide (List.length (List.drop (1 : Nat) (List.drop (3 : Nat) b)) ≤ (1000000000000 : Nat)) then bif Prod.snd (getP (List.drop (1 : Nat) (List.drop (3 : Nat) b)) (0 : Int) (1 : Int)) != (0 : Int) then bif Nat.beq (List.length l0) (List.length l0) && sizeOK (List.length l0 + List.length [Line.mk (IntKind.wrap IntKind.i64 (first + (↑i : Int))) (Prod.fst (getP b (0 : Int) (3 : Int))) (bits IntKind.i64 (fun (x : Nat) (u v : BitVec x) => u &&& v) (Prod.fst (getP (List.drop (3 : Nat) b) (0 : Int) (1 : Int))) (15 : Int)) (Int.fdiv (Prod.fst (getP (List.drop (3 : Nat) b) (0 : Int) (1 : Int))) (16 : Int)) (0 : Int)]) (40 : Nat) then some ((X.normal, [((4 : Nat), D.ptr (0 : Nat) []), ((5 : Nat), D.ptr (1 : Nat) []), ((7 : Nat), D.int IntKind.i64 (0 : Int)), ((9 : Nat), D.int IntKind.i64 first), ((66 : Nat), D.int IntKind.i64 n), ((67 : Nat), D.int IntKind.i64 (IntKind.wrap IntKind.i64 ((↑i : Int) + (1 : Int))))]), [some (Obj.var (74 : Nat) (D.acons (D.sl RTy.u8 true []) (D.acons (D.bool true) D.anil))), some (Obj.var (33 : Nat) (D.acons (D.int IntKind.i64 pl) (D.acons (D.vs (2 : Nat) (List.length its)) (D.acons (D.acons (D.vs (3 : Nat) (List.length l0 + List.length [Line.mk (IntKind.wrap IntKind.i64 (first + (↑i : Int))) (Prod.fst (getP b (0 : Int) (3 : Int))) (bits IntKind.i64 (fun (x : Nat) (u v : BitVec x) => u &&& v) (Prod.fst (getP (List.drop (3 : Nat) b) (0 : Int) (1 : Int))) (15 : Int)) (Int.fdiv (Prod.fst (getP (List.drop (3 : Nat) b) (0 : Int) (1 : Int))) (16 : Int)) (0 : Int)])) (D.acons (D.vs (4 : Nat) (List.length l1)) (D.acons (D.vs (5 : Nat) (List.length l2)) D.anil))) (D.acons (D.arr RTy.int (3 : Nat) [c0, c1, c2]) D.anil))))), some (Obj.vec RTy.item true its), some (Obj.vec RTy.line true (l0 ++ [Line.mk (IntKind.wrap IntKind.i64 (first + (↑i : Int))) (Prod.fst (getP b (0 : Int) (3 : Int))) (bits IntKind.i64 (fun (x : Nat) (u v : BitVec x) => u &&& v) (Prod.fst (getP (List.drop (3 : Nat) b) (0 : Int) (1 : Int))) (15 : Int)) (Int.fdiv (Prod.fst (getP (List.drop (3 : Nat) b) (0 : Int) (1 : Int))) (16 : Int)) (0 : Int)])), some (Obj.vec RTy.line true l1), some (Obj.vec RTy.line true l2)]) else none else bif decide ((0 : Int) ≤ (1 : Int) ∧ (1 : Int) ≤ (↑(List.length (List.drop (1 : Nat) (List.drop (3 : Nat) b))) : Int)) then bif Nat.beq (List.length l0) (List.length l0) && sizeOK (List.length l0 + List.length [Line.mk (IntKind.wrap IntKind.i64 (first + (↑i : Int))) (Prod.fst (getP b (0 : Int) (3 : Int))) (bits IntKind.i64 (fun (x : Nat) (u v : BitVec x) => u &&& v) (Prod.fst (getP (List.drop (3 : Nat) b) (0 : Int) (1 : Int))) (15 : Int)) (Int.fdiv (Prod.fst (getP (List.drop (3 : Nat) b) (0 : Int) (1 : Int))) (16 : Int)) (Prod.fst (getP (List.drop (1 : Nat) (List.drop (3 : Nat) b)) (0 : Int) (1 : Int)))]) (40 : Nat) then some ((X.normal, [((4 : Nat), D.ptr (0 : Nat) []), ((5 : Nat), D.ptr (1 : Nat) []), ((7 : Nat), D.int IntKind.i64 (0 : Int)), ((9 : Nat), D.int IntKind.i64 first), ((66 : Nat), D.int IntKind.i64 n), ((67 : Nat), D.int IntKind.i64 (IntKind.wrap IntKind.i64 ((↑i : Int) + (1 : Int))))]), [some (Obj.var (74 : Nat) (D.acons (D.sl RTy.u8 c (List.drop (1 : Nat) (List.drop (1 : Nat) (List.drop (3 : Nat) b)))) (D.acons (D.bool bad) D.anil))), some (Obj.var (33 : Nat) (D.acons (D.int IntKind.i64 pl) (D.acons (D.vs (2 : Nat) (List.length its)) (D.acons (D.acons (D.vs (3 : Nat) (List.length l0 + List.length [Line.mk (IntKind.wrap IntKind.i64 (first + (↑i : Int))) (Prod.fst (getP b (0 : Int) (3 : Int))) (bits IntKind.i64 (fun (x : Nat) (u v : BitVec x) => u &&& v) (Prod.fst (getP (List.drop (3 : Nat) b) (0 : Int) (1 : Int))) (15 : Int)) (Int.fdiv (Prod.fst (getP (List.drop (3 : Nat) b) (0 : Int) (1 : Int))) (16 : Int)) (Prod.fst (getP (List.drop (1 : Nat) (List.drop (3 : Nat) b)) (0 : Int) (1 : Int)))])) (D.acons (D.vs (4 : Nat) (List.length l1)) (D.acons (D.vs (5 : Nat) (List.length l2)) D.anil))) (D.acons (D.arr RTy.int (3 : Nat) [c0, c1, c2]) D.anil))))), some (Obj.vec RTy.item true its), some (Obj.vec RTy.line true (l0 ++ [Line.mk (IntKind.wrap IntKind.i64 (first + (↑i : Int))) (Prod.fst (getP b (0 : Int) (3 : Int))) (bits IntKind.i64 (fun (x : Nat) (u v : BitVec x) => u &&& v) (Prod.fst (getP (List.drop (3 : Nat) b) (0 : Int) (1 : Int))) (15 : Int)) (Int.fdiv (Prod.fst (getP (List.drop (3 : Nat) b) (0 : Int) (1 : Int))) (16 : Int)) (Prod.fst (getP (List.drop (1 : Nat) (List.drop (3 : Nat) b)) (0 : Int) (1 : Int)))])), some (Obj.vec RTy.line true l1), some (Obj.vec RTy.line true l2)]) else none else none else none else none else none else none else none else some ((X.exit (4 : Nat), []), [some (Obj.var (74 : Nat) (D.acons (D.sl RTy.u8 c b) (D.acons (D.bool bad) D.anil))), some (Obj.var (33 : Nat) (D.acons (D.int IntKind.i64 pl) (D.acons (D.vs (2 : Nat) (List.length its)) (D.acons (D.acons (D.vs (3 : Nat) (List.length l0)) (D.acons (D.vs (4 : Nat) (List.length l1)) (D.acons (D.vs (5 : Nat) (List.length l2)) D.anil))) (D.acons (D.arr RTy.int (3 : Nat) [c0, c1, c2]) D.anil))))), some (Obj.vec RTy.item true its), some (Obj.vec RTy.line true l0), some (Obj.vec RTy.line true l1), some (Obj.vec RTy.line true l2)])) := by kernel_rfl
theorem rsLines_eq1 (c : Bool) (b : List UInt8) (bad : Bool) (pl : Int) (its : List Item) (l0 l1 l2 : List Line) (c0 c1 c2 : Int) (first n : Int) (i : Nat) : rsLines_r c b bad pl its l0 l1 l2 c0 c1 c2 1 first n i = (bif decide ((↑i : Int) < n) then bif decide (List.length b ≤ (1000000000000 : Nat)) then bif Prod.snd (getP b (0 : Int) (3 : Int)) != (0 : Int) then bif Nat.beq (List.length l1) (List.length l1) && sizeOK (List.length l1 + List.length [Line.mk (IntKind.wrap IntKind.i64 (first + (↑i : Int))) (0 : Int) (0 : Int) (0 : Int) (0 : Int)]) (40 : Nat) then some ((X.normal, [((4 : Nat), D.ptr (0 : Nat) []), ((5 : Nat), D.ptr (1 : Nat) []), ((7 : Nat), D.int IntKind.i64 (1 : Int)), ((9 : Nat), D.int IntKind.i64 first), ((66 : Nat), D.int IntKind.i64 n), ((67 : Nat), D.int IntKind.i64 (IntKind.wrap IntKind.i64 ((↑i : Int) + (1 : Int))))]), [some (Obj.var (74 : Nat) (D.acons (D.sl RTy.u8 true []) (D.acons (D.bool true) D.anil))), some (Obj.var (33 : Nat) (D.acons (D.int IntKind.i64 pl) (D.acons (D.vs (2 : Nat) (List.length its)) (D.acons (D.acons (D.vs (3 : Nat) (List.length l0)) (D.acons (D.vs (4 : Nat) (List.length l1 + List.length [Line.mk (IntKind.wrap IntKind.i64 (first + (↑i : Int))) (0 : Int) (0 : Int) (0 : Int) (0 : Int)])) (D.acons (D.vs (5 : Nat) (List.length l2)) D.anil))) (D.acons (D.arr RTy.int (3 : Nat) [c0, c1, c2]) D.anil))))), some (Obj.vec RTy.item true its), some (Obj.vec RTy.line true l0), some (Obj.vec RTy.line true (l1 ++ [Line.mk (IntKind.wrap IntKind.i64 (first + (↑i : Int))) (0 : Int) (0 : Int) (0 : Int) (0 : Int)])), some (Obj.vec RTy.line true l2)]) else none else bif decide ((0 : Int) ≤ (3 : Int) ∧ (3 : Int) ≤ (↑(List.length b) : Int)) then bif decide (List.length (List.drop (3 : Nat) b) ≤ (1000000000000 : Nat)) then bif Prod.snd (getP (List.drop (3 : Nat) b) (0 : Int) (1 : Int)) != (0 : Int) then bif Nat.beq (List.length l1) (List.length l1) && sizeOK (List.length l1 + List.length [Line.mk (IntKind.wrap IntKind.i64 (first + (↑i : Int))) (Prod.fst (getP b (0 : Int) (3 : Int))) (0 : Int) (0 : Int) (0 : Int)]) (40 : Nat) then some ((X.normal, [((4 : Nat), D.ptr (0 : Nat) []), ((5 : Nat), D.ptr (1 : Nat) []), ((7 : Nat), D.int IntKind.i64 (1 : Int)), ((9 : Nat), D.int IntKind.i64 first), ((66 : Nat), D.int IntKind.i64 n), ((67 : Nat), D.int IntKind.i64 (IntKind.wrap IntKind.i64 ((↑i : Int) + (1 : Int))))]), [some (Obj.var (74 : Nat) (D.acons (D.sl RTy.u8 true []) (D.acons (D.bool true) D.anil))), some (Obj.var (33 : Nat) (D.acons (D.int IntKind.i64 pl) (D.acons (D.vs (2 : Nat) (List.length its)) (D.acons (D.acons (D.vs (3 : Nat) (List.length l0)) (D.acons (D.vs (4 : Nat) (List.length l1 + List.length [Line.mk (IntKind.wrap IntKind.i64 (first + (↑i : Int))) (Prod.fst (getP b (0 : Int) (3 : Int))) (0 : Int) (0 : Int) (0 : Int)])) (D.acons (D.vs (5 : Nat) (List.length l2)) D.anil))) (D.acons (D.arr RTy.int (3 : Nat) [c0, c1, c2]) D.anil))))), some (Obj.vec RTy.item true its), some (Obj.vec RTy.line true l0), some (Obj.vec RTy.line true (l1 ++ [Line.mk (IntKind.wrap IntKind.i64 (first + (↑i : Int))) (Prod.fst (getP b (0 : Int) (3 : Int))) (0 : Int) (0 : Int) (0 : Int)])), some (Obj.vec RTy.line true l2)]) else none else bif decide ((0 : Int) ≤ (1 : Int) ∧ (1 : Int) ≤ (↑(List.length (List.drop (3 : Nat) b)) : Int)) then bif decide (List.length (List.drop (1 : Nat) (List.drop (3 : Nat) b)) ≤ (1000000000000 : Nat)) then bif Prod.snd (getP (List.drop (1 : Nat) (List.drop (3 : Nat) b)) (0 : Int) (1 : Int)) != (0 : Int) then bif Nat.beq (List.length l1) (List.length l1) && sizeOK (List.length l1 + List.length [Line.mk (IntKind.wrap IntKind.i64 (first + (↑i : Int))) (Prod.fst (getP b (0 : Int) (3 : Int))) (bits IntKind.i64 (fun (x : Nat) (u v : BitVec x) => u &&& v) (Prod.fst (getP (List.drop (3 : Nat) b) (0 : Int) (1 : Int))) (15 : Int)) (Int.fdiv (Prod.fst (getP (List.drop (3 : Nat) b) (0 : Int) (1 : Int))) (16 : Int)) (0 : Int)]) (40 : Nat) then some ((X.normal, [((4 : Nat), D.ptr (0 : Nat) []), ((5 : Nat), D.ptr (1 : Nat) []), ((7 : Nat), D.int IntKind.i64 (1 : Int)), ((9 : Nat), D.int IntKind.i64 first), ((66 : Nat), D.int IntKind.i64 n), ((67 : Nat), D.int IntKind.i64 (IntKind.wrap IntKind.i64 ((↑i : Int) + (1 : Int))))]), [some (Obj.var (74 : Nat) (D.acons (D.sl RTy.u8 true []) (D.acons (D.bool true) D.anil))), some (Obj.var (33 : Nat) (D.acons (D.int IntKind.i64 pl) (D.acons (D.vs (2 : Nat) (List.length its)) (D.acons (D.acons (D.vs (3 : Nat) (List.length l0)) (D.acons (D.vs (4 : Nat) (List.length l1 + List.length [Line.mk (IntKind.wrap IntKind.i64 (first + (↑i : Int))) (Prod.fst (getP b (0 : Int) (3 : Int))) (bits IntKind.i64 (fun (x : Nat) (u v : BitVec x) => u &&& v) (Prod.fst (getP (List.drop (3 : Nat) b) (0 : Int) (1 : Int))) (15 : Int)) (Int.fdiv (Prod.fst (getP (List.drop (3 : Nat) b) (0 : Int) (1 : Int))) (16 : Int)) (0 : Int)])) (D.acons (D.vs (5 : Nat) (List.length l2)) D.anil))) (D.acons (D.arr RTy.int (3 : Nat) [c0, c1, c2]) D.anil))))), some (Obj.vec RTy.item true its), some (Obj.vec RTy.line true l0), some (Obj.vec RTy.line true (l1 ++ [Line.mk (IntKind.wrap IntKind.i64 (first + (↑i : Int))) (Prod.fst (getP b (0 : Int) (3 : Int))) (bits IntKind.i64 (fun (x : Nat) (u v : BitVec x) => u &&& v) (Prod.fst (getP (List.drop (3 : Nat) b) (0 : Int) (1 : Int))) (15 : Int)) (Int.fdiv (Prod.fst (getP (List.drop (3 : Nat) b) (0 : Int) (1 : Int))) (16 : Int)) (0 : Int)])), some (Obj.vec RTy.line true l2)]) else none else bif decide ((0 : Int) ≤ (1 : Int) ∧ (1 : Int) ≤ (↑(List.length (List.drop (1 : Nat) (List.drop (3 : Nat) b))) : Int)) then bif Nat.beq (List.length l1) (List.length l1) && sizeOK (List.length l1 + List.length [Line.mk (IntKind.wrap IntKind.i64 (first + (↑i : Int))) (Prod.fst (getP b (0 : Int) (3 : Int))) (bits IntKind.i64 (fun (x : Nat) (u v : BitVec x) => u &&& v) (Prod.fst (getP (List.drop (3 : Nat) b) (0 : Int) (1 : Int))) (15 : Int)) (Int.fdiv (Prod.fst (getP (List.drop (3 : Nat) b) (0 : Int) (1 : Int))) (16 : Int)) (Prod.fst (getP (List.drop (1 : Nat) (List.drop (3 : Nat) b)) (0 : Int) (1 : Int)))]) (40 : Nat) then some ((X.normal, [((4 : Nat), D.ptr (0 : Nat) []), ((5 : Nat), D.ptr (1 : Nat) []), ((7 : Nat), D.int IntKind.i64 (1 : Int)), ((9 : Nat), D.int IntKind.i64 first), ((66 : Nat), D.int IntKind.i64 n), ((67 : Nat), D.int IntKind.i64 (IntKind.wrap IntKind.i64 ((↑i : Int) + (1 : Int))))]), [some (Obj.var (74 : Nat) (D.acons (D.sl RTy.u8 c (List.drop (1 : Nat) (List.drop (1 : Nat) (List.drop (3 : Nat) b)))) (D.acons (D.bool bad) D.anil))), some (Obj.var (33 : Nat) (D.acons (D.int IntKind.i64 pl) (D.acons (D.vs (2 : Nat) (List.length its)) (D.acons (D.acons (D.vs (3 : Nat) (List.length l0)) (D.acons (D.vs (4 : Nat) (List.length l1 + List.length [Line.mk (IntKind.wrap IntKind.i64 (first + (↑i : Int))) (Prod.fst (getP b (0 : Int) (3 : Int))) (bits IntKind.i64 (fun (x : Nat) (u v : BitVec x) => u &&& v) (Prod.fst (getP (List.drop (3 : Nat) b) (0 : Int) (1 : Int))) (15 : Int)) (Int.fdiv (Prod.fst (getP (List.drop (3 : Nat) b) (0 : Int) (1 : Int))) (16 : Int)) (Prod.fst (getP (List.drop (1 : Nat) (List.drop (3 : Nat) b)) (0 : Int) (1 : Int)))])) (D.acons (D.vs (5 : Nat) (List.length l2)) D.anil))) (D.acons (D.arr RTy.int (3 : Nat) [c0, c1, c2]) D.anil))))), some (Obj.vec RTy.item true its), some (Obj.vec RTy.line true l0), some (Obj.vec RTy.line true (l1 ++ [Line.mk (IntKind.wrap IntKind.i64 (first + (↑i : Int))) (Prod.fst (getP b (0 : Int) (3 : Int))) (bits IntKind.i64 (fun (x : Nat) (u v : BitVec x) => u &&& v) (Prod.fst (getP (List.drop (3 : Nat) b) (0 : Int) (1 : Int))) (15 : Int)) (Int.fdiv (Prod.fst (getP (List.drop (3 : Nat) b) (0 : Int) (1 : Int))) (16 : Int)) (Prod.fst (getP (List.drop (1 : Nat) (List.drop (3 : Nat) b)) (0 : Int) (1 : Int)))])), some (Obj.vec RTy.line true l2)]) else none else none else none else none else none else none else none else some ((X.exit (4 : Nat), []), [some (Obj.var (74 : Nat) (D.acons (D.sl RTy.u8 c b) (D.acons (D.bool bad) D.anil))), some (Obj.var (33 : Nat) (D.acons (D.int IntKind.i64 pl) (D.acons (D.vs (2 : Nat) (List.length its)) (D.acons (D.acons (D.vs (3 : Nat) (List.length l0)) (D.acons (D.vs (4 : Nat) (List.length l1)) (D.acons (D.vs (5 : Nat) (List.length l2)) D.anil))) (D.acons (D.arr RTy.int (3 : Nat) [c0, c1, c2]) D.anil))))), some (Obj.vec RTy.item true its), some (Obj.vec RTy.line true l0), some (Obj.vec RTy.line true l1), some (Obj.vec RTy.line true l2)])) := by kernel_rfl
theorem rsLines_eq2 (c : Bool) (b : List UInt8) (bad : Bool) (pl : Int) (its : List Item) (l0 l1 l2 : List Line) (c0 c1 c2 : Int) (first n : Int) (i : Nat) : rsLines_r c b bad pl its l0 l1 l2 c0 c1 c2 2 first n i = (bif decide ((↑i : Int) < n) then bif decide (List.length b ≤ (1000000000000 : Nat)) then bif Prod.snd (getP b (0 : Int) (3 : Int)) != (0 : Int) then bif Nat.beq (List.length l2) (List.length l2) && sizeOK (List.length l2 + List.length [Line.mk (IntKind.wrap IntKind.i64 (first + (↑i : Int))) (0 : Int) (0 : Int) (0 : Int) (0 : Int)]) (40 : Nat) then some ((X.normal, [((4 : Nat), D.ptr (0 : Nat) []), ((5 : Nat), D.ptr (1 : Nat) []), ((7 : Nat), D.int IntKind.i64 (2 : Int)), ((9 : Nat), D.int IntKind.i64 first), ((66 : Nat), D.int IntKind.i64 n), ((67 : Nat), D.int IntKind.i64 (IntKind.wrap IntKind.i64 ((↑i : Int) + (1 : Int))))]), [some (Obj.var (74 : Nat) (D.acons (D.sl RTy.u8 true []) (D.acons (D.bool true) D.anil))), some (Obj.var (33 : Nat) (D.acons (D.int IntKind.i64 pl) (D.acons (D.vs (2 : Nat) (List.length its)) (D.acons (D.acons (D.vs (3 : Nat) (List.length l0)) (D.acons (D.vs (4 : Nat) (List.length l1)) (D.acons (D.vs (5 : Nat) (List.length l2 + List.length [Line.mk (IntKind.wrap IntKind.i64 (first + (↑i : Int))) (0 : Int) (0 : Int) (0 : Int) (0 : Int)])) D.anil))) (D.acons (D.arr RTy.int (3 : Nat) [c0, c1, c2]) D.anil))))), some (Obj.vec RTy.item true its), some (Obj.vec RTy.line true l0), some (Obj.vec RTy.line true l1), some (Obj.vec RTy.line true (l2 ++ [Line.mk (IntKind.wrap IntKind.i64 (first + (↑i : Int))) (0 : Int) (0 : Int) (0 : Int) (0 : Int)]))]) else none else bif decide ((0 : Int) ≤ (3 : Int) ∧ (3 : Int) ≤ (↑(List.length b) : Int)) then bif decide (List.length (List.drop (3 : Nat) b) ≤ (1000000000000 : Nat)) then bif Prod.snd (getP (List.drop (3 : Nat) b) (0 : Int) (1 : Int)) != (0 : Int) then bif Nat.beq (List.length l2) (List.length l2) && sizeOK (List.length l2 + List.length [Line.mk (IntKind.wrap IntKind.i64 (first + (↑i : Int))) (Prod.fst (getP b (0 : Int) (3 : Int))) (0 : Int) (0 : Int) (0 : Int)]) (40 : Nat) then some ((X.normal, [((4 : Nat), D.ptr (0 : Nat) []), ((5 : Nat), D.ptr (1 : Nat) []), ((7 : Nat), D.int IntKind.i64 (2 : Int)), ((9 : Nat), D.int IntKind.i64 first), ((66 : Nat), D.int IntKind.i64 n), ((67 : Nat), D.int IntKind.i64 (IntKind.wrap IntKind.i64 ((↑i : Int) + (1 : Int))))]), [some (Obj.var (74 : Nat) (D.acons (D.sl RTy.u8 true []) (D.acons (D.bool true) D.anil))), some (Obj.var (33 : Nat) (D.acons (D.int IntKind.i64 pl) (D.acons (D.vs (2 : Nat) (List.length its)) (D.acons (D.acons (D.vs (3 : Nat) (List.length l0)) (D.acons (D.vs (4 : Nat) (List.length l1)) (D.acons (D.vs (5 : Nat) (List.length l2 + List.length [Line.mk (IntKind.wrap IntKind.i64 (first + (↑i : Int))) (Prod.fst (getP b (0 : Int) (3 : Int))) (0 : Int) (0 : Int) (0 : Int)])) D.anil))) (D.acons (D.arr RTy.int (3 : Nat) [c0, c1, c2]) D.anil))))), some (Obj.vec RTy.item true its), some (Obj.vec RTy.line true l0), some (Obj.vec RTy.line true l1), some (Obj.vec RTy.line true (l2 ++ [Line.mk (IntKind.wrap IntKind.i64 (first + (↑i : Int))) (Prod.fst (getP b (0 : Int) (3 : Int))) (0 : Int) (0 : Int) (0 : Int)]))]) else none else bif decide ((0 : Int) ≤ (1 : Int) ∧ (1 : Int) ≤ (↑(List.length (List.drop (3 : Nat) b)) : Int)) then bif decide (List.length (List.drop (1 : Nat) (List.drop (3 : Nat) b)) ≤ (1000000000000 : Nat)) then bif Prod.snd (getP (List.drop (1 : Nat) (List.drop (3 : Nat) b)) (0 : Int) (1 : Int)) != (0 : Int) then bif Nat.beq (List.length l2) (List.length l2) && sizeOK (List.length l2 + List.length [Line.mk (IntKind.wrap IntKind.i64 (first + (↑i : Int))) (Prod.fst (getP b (0 : Int) (3 : Int))) (bits IntKind.i64 (fun (x : Nat) (u v : BitVec x) => u &&& v) (Prod.fst (getP (List.drop (3 : Nat) b) (0 : Int) (1 : Int))) (15 : Int)) (Int.fdiv (Prod.fst (getP (List.drop (3 : Nat) b) (0 : Int) (1 : Int))) (16 : Int)) (0 : Int)]) (40 : Nat) then some ((X.normal, [((4 : Nat), D.ptr (0 : Nat) []), ((5 : Nat), D.ptr (1 : Nat) []), ((7 : Nat), D.int IntKind.i64 (2 : Int)), ((9 : Nat), D.int IntKind.i64 first), ((66 : Nat), D.int IntKind.i64 n), ((67 : Nat), D.int IntKind.i64 (IntKind.wrap IntKind.i64 ((↑i : Int) + (1 : Int))))]), [some (Obj.var (74 : Nat) (D.acons (D.sl RTy.u8 true []) (D.acons (D.bool true) D.anil))), some (Obj.var (33 : Nat) (D.acons (D.int IntKind.i64 pl) (D.acons (D.vs (2 : Nat) (List.length its)) (D.acons (D.acons (D.vs (3 : Nat) (List.length l0)) (D.acons (D.vs (4 : Nat) (List.length l1)) (D.acons (D.vs (5 : Nat) (List.length l2 + List.length [Line.mk (IntKind.wrap IntKind.i64 (first + (↑i : Int))) (Prod.fst (getP b (0 : Int) (3 : Int))) (bits IntKind.i64 (fun (x : Nat) (u v : BitVec x) => u &&& v) (Prod.fst (getP (List.drop (3 : Nat) b) (0 : Int) (1 : Int))) (15 : Int)) (Int.fdiv (Prod.fst (getP (List.drop (3 : Nat) b) (0 : Int) (1 : Int))) (16 : Int)) (0 : Int)])) D.anil))) (D.acons (D.arr RTy.int (3 : Nat) [c0, c1, c2]) D.anil))))), some (Obj.vec RTy.item true its), some (Obj.vec RTy.line true l0), some (Obj.vec RTy.line true l1), some (Obj.vec RTy.line true (l2 ++ [Line.mk (IntKind.wrap IntKind.i64 (first + (↑i : Int))) (Prod.fst (getP b (0 : Int) (3 : Int))) (bits IntKind.i64 (fun (x : Nat) (u v : BitVec x) => u &&& v) (Prod.fst (getP (List.drop (3 : Nat) b) (0 : Int) (1 : Int))) (15 : Int)) (Int.fdiv (Prod.fst (getP (List.drop (3 : Nat) b) (0 : Int) (1 : Int))) (16 : Int)) (0 : Int)]))]) else none else bif decide ((0 : Int) ≤ (1 : Int) ∧ (1 : Int) ≤ (↑(List.length (List.drop (1 : Nat) (List.drop (3 : Nat) b))) : Int)) then bif Nat.beq (List.length l2) (List.length l2) && sizeOK (List.length l2 + List.length [Line.mk (IntKind.wrap IntKind.i64 (first + (↑i : Int))) (Prod.fst (getP b (0 : Int) (3 : Int))) (bits IntKind.i64 (fun (x : Nat) (u v : BitVec x) => u &&& v) (Prod.fst (getP (List.drop (3 : Nat) b) (0 : Int) (1 : Int))) (15 : Int)) (Int.fdiv (Prod.fst (getP (List.drop (3 : Nat) b) (0 : Int) (1 : Int))) (16 : Int)) (Prod.fst (getP (List.drop (1 : Nat) (List.drop (3 : Nat) b)) (0 : Int) (1 : Int)))]) (40 : Nat) then some ((X.normal, [((4 : Nat), D.ptr (0 : Nat) []), ((5 : Nat), D.ptr (1 : Nat) []), ((7 : Nat), D.int IntKind.i64 (2 : Int)), ((9 : Nat), D.int IntKind.i64 first), ((66 : Nat), D.int IntKind.i64 n), ((67 : Nat), D.int IntKind.i64 (IntKind.wrap IntKind.i64 ((↑i : Int) + (1 : Int))))]), [some (Obj.var (74 : Nat) (D.acons (D.sl RTy.u8 c (List.drop (1 : Nat) (List.drop (1 : Nat) (List.drop (3 : Nat) b)))) (D.acons (D.bool bad) D.anil))), some (Obj.var (33 : Nat) (D.acons (D.int IntKind.i64 pl) (D.acons (D.vs (2 : Nat) (List.length its)) (D.acons (D.acons (D.vs (3 : Nat) (List.length l0)) (D.acons (D.vs (4 : Nat) (List.length l1)) (D.acons (D.vs (5 : Nat) (List.length l2 + List.length [Line.mk (IntKind.wrap IntKind.i64 (first + (↑i : Int))) (Prod.fst (getP b (0 : Int) (3 : Int))) (bits IntKind.i64 (fun (x : Nat) (u v : BitVec x) => u &&& v) (Prod.fst (getP (List.drop (3 : Nat) b) (0 : Int) (1 : Int))) (15 : Int)) (Int.fdiv (Prod.fst (getP (List.drop (3 : Nat) b) (0 : Int) (1 : Int))) (16 : Int)) (Prod.fst (getP (List.drop (1 : Nat) (List.drop (3 : Nat) b)) (0 : Int) (1 : Int)))])) D.anil))) (D.acons (D.arr RTy.int (3 : Nat) [c0, c1, c2]) D.anil))))), some (Obj.vec RTy.item true its), some (Obj.vec RTy.line true l0), some (Obj.vec RTy.line true l1), some (Obj.vec RTy.line true (l2 ++ [Line.mk (IntKind.wrap IntKind.i64 (first + (↑i : Int))) (Prod.fst (getP b (0 : Int) (3 : Int))) (bits IntKind.i64 (fun (x : Nat) (u v : BitVec x) => u &&& v) (Prod.fst (getP (List.drop (3 : Nat) b) (0 : Int) (1 : Int))) (15 : Int)) (Int.fdiv (Prod.fst (getP (List.drop (3 : Nat) b) (0 : Int) (1 : Int))) (16 : Int)) (Prod.fst (getP (List.drop (1 : Nat) (List.drop (3 : Nat) b)) (0 : Int) (1 : Int)))]))]) else none else none else none else none else none else none else none else some ((X.exit (4 : Nat), []), [some (Obj.var (74 : Nat) (D.acons (D.sl RTy.u8 c b) (D.acons (D.bool bad) D.anil))), some (Obj.var (33 : Nat) (D.acons (D.int IntKind.i64 pl) (D.acons (D.vs (2 : Nat) (List.length its)) (D.acons (D.acons (D.vs (3 : Nat) (List.length l0)) (D.acons (D.vs (4 : Nat) (List.length l1)) (D.acons (D.vs (5 : Nat) (List.length l2)) D.anil))) (D.acons (D.arr RTy.int (3 : Nat) [c0, c1, c2]) D.anil))))), some (Obj.vec RTy.item true its), some (Obj.vec RTy.line true l0), some (Obj.vec RTy.line true l1), some (Obj.vec RTy.line true l2)])) := by kernel_rfl
def rsLines_fin (c : Bool) (b : List UInt8) (bad : Bool) (pl : Int) (its : List Item) (l0 : List Line) (l1 : List Line) (l2 : List Line) (c0 : Int) (c1 : Int) (c2 : Int) (q : Int) (first : Int) (n : Int) (i : Nat) : RT RC := .leaf (.exit 4) [] [.var 74 (.acons (.sl (C := RC) .u8 (gLines rdP false (n.toNat - i) (first + i) ⟨c, b, bad⟩).1.c (gLines rdP false (n.toNat - i) (first + i) ⟨c, b, bad⟩).1.b) (.acons (.bool (gLines rdP false (n.toNat - i) (first + i) ⟨c, b, bad⟩).1.bad) .anil)), .var 33 (.acons (.int .i64 pl) (.acons (.vs 2 its.length) (.acons (.acons (.vs 3 (addL q 0 l0 (gLines rdP false (n.toNat - i) (first + i) ⟨c, b, bad⟩).2).length) (.acons (.vs 4 (addL q 1 l1 (gLines rdP false (n.toNat - i) (first + i) ⟨c, b, bad⟩).2).length) (.acons (.vs 5 (addL q 2 l2 (gLines rdP false (n.toNat - i) (first + i) ⟨c, b, bad⟩).2).length) .anil))) (.acons (.arr (C := RC) .int 3 [c0, c1, c2]) .anil)))), .vec (C := RC) .item true its, .vec (C := RC) .line true (addL q 0 l0 (gLines rdP false (n.toNat - i) (first + i) ⟨c, b, bad⟩).2), .vec (C := RC) .line true (addL q 1 l1 (gLines rdP false (n.toNat - i) (first + i) ⟨c, b, bad⟩).2), .vec (C := RC) .line true (addL q 2 l2 (gLines rdP false (n.toNat - i) (first + i) ⟨c, b, bad⟩).2)]
def rsLines_Inv (c : Bool) (b : List UInt8) (bad : Bool) (pl : Int) (its : List Item) (l0 : List Line) (l1 : List Line) (l2 : List Line) (c0 : Int) (c1 : Int) (c2 : Int) (q : Int) (first : Int) (n : Int) (i : Nat) : Prop := (i : Int) ≤ n ∧ n ≤ 255 ∧ b.length ≤ 1000000 ∧ l0.length ≤ 1000 + i ∧ l1.length ≤ 1000 + i ∧ l2.length ≤ 1000 + i ∧ (0 ≤ q ∧ q ≤ 2) ∧ (0 ≤ first ∧ first ≤ 16777215)
def rsLines_S : LoopR RC rsLines_St where
  k := 6
  canon q := rsLines_c q.c q.b q.bad q.pl q.its q.l0 q.l1 q.l2 q.c0 q.c1 q.c2 q.q q.first q.n q.i
  objs q := rsLines_o q.c q.b q.bad q.pl q.its q.l0 q.l1 q.l2 q.c0 q.c1 q.c2 q.q q.first q.n q.i
  fin q := rsLines_fin q.c q.b q.bad q.pl q.its q.l0 q.l1 q.l2 q.c0 q.c1 q.c2 q.q q.first q.n q.i
  Inv q := rsLines_Inv q.c q.b q.bad q.pl q.its q.l0 q.l1 q.l2 q.c0 q.c1 q.c2 q.q q.first q.n q.i
  μ q := q.n.toNat - q.i
theorem rsLines_round (c : Bool) (b : List UInt8) (bad : Bool) (pl : Int) (its : List Item) (l0 : List Line) (l1 : List Line) (l2 : List Line) (c0 : Int) (c1 : Int) (c2 : Int) (q : Int) (first : Int) (n : Int) (i : Nat) (hI : rsLines_Inv c b bad pl its l0 l1 l2 c0 c1 c2 q first n i) : Leaf (rsLines_r c b bad pl its l0 l1 l2 c0 c1 c2 q first n i) (LedR rsLines_S ⟨c, b, bad, pl, its, l0, l1, l2, c0, c1, c2, q, first, n, i⟩) := by
  unfold rsLines_Inv at hI
  obtain ⟨h1, h2, h3, h4, h5, h6, h7, h8⟩ := hI
  have eb : ∀ n : Nat, n.beq n = true := fun n => by simp
  have z1 : rget 1 ⟨true, [], true⟩ = (0, ⟨true, [], true⟩) := rfl
  have z3 : rget 3 ⟨true, [], true⟩ = (0, ⟨true, [], true⟩) := rfl
  by_cases hlt : (i : Int) < n
  · have w_succ : IntKind.i64.wrap ((i : Int) + 1) = ((i + 1 : Nat) : Int) := by rw [wrap_id (by omega) (by omega)]; simp
    have wio : IntKind.i64.wrap (first + (i : Int)) = first + (i : Int) := wrap_id (by omega) (by omega)
    have hn : n.toNat - i = (n.toNat - (i + 1)) + 1 := by omega
    have hio : first + ((i + 1 : Nat) : Int) = first + (i : Int) + 1 := by omega
    have m0 : (0 : Int) % 16 = 0 ∧ (0 : Int) / 16 = 0 := ⟨rfl, rfl⟩
    have s0 : sizeOK (l0.length + 1) 40 = true := sizeT (by omega)
    have s1 : sizeOK (l1.length + 1) 40 = true := sizeT (by omega)
    have s2 : sizeOK (l2.length + 1) 40 = true := sizeT (by omega)
    have k01 : ¬ (0 : Int) = 1 := by omega
    have k02 : ¬ (0 : Int) = 2 := by omega
    have k10 : ¬ (1 : Int) = 0 := by omega
    have k12 : ¬ (1 : Int) = 2 := by omega
    have k20 : ¬ (2 : Int) = 0 := by omega
    have k21 : ¬ (2 : Int) = 1 := by omega
    have e0 : decide (b.length ≤ 1000000000000) = true := decide_eq_true (by omega)
    have t1 : Int.toNat 1 = 1 := rfl
    have t3 : Int.toNat 3 = 3 := rfl
    obtain e_q | e_q | e_q : q = 0 ∨ q = 1 ∨ q = 2 := by omega
    · subst e_q
      rw [rsLines_eq0]
      simp only [hlt, decide_true, cond_true, e0, getP_snd1, getP_snd3, w_succ, wio, List.length_cons, List.length_nil, Nat.zero_add, s0, s1, s2, eb, Bool.and_self, t1, t3]
      by_cases q0 : (b).length < 3
      · have r0 : rget 3 ⟨c, b, bad⟩ = _ := rget_no q0
        simp only [q0, decide_true, cond_true]
        refine leafR_go ⟨true, [], true, pl, its, l0 ++ [⟨first + i, 0, 0, 0, 0⟩], l1, l2, c0, c1, c2, 0, first, n, i + 1⟩ (by refine ⟨hlt, h2, ?_, ?_, ?_, ?_, ?_, h8⟩ <;> simp <;> omega) (by simp only [rsLines_S]; omega) ?_ (by simp [rsLines_S, rsLines_c]) (by simp [rsLines_S, rsLines_o])
        simp only [rsLines_S, rsLines_fin, hn, gLinesP_succ, r0, z1, z3, addL, hio, m0, if_true, if_false, List.append_assoc, List.cons_append, List.nil_append, k01, k02, k10, k12, k20, k21]
      have r0 : rget 3 ⟨c, b, bad⟩ = _ := rget_ok (show 3 ≤ (b).length by omega)
      have d0 : decide ((0 : Int) ≤ 3 ∧ (3 : Int) ≤ (b).length) = true := by simp only [decide_eq_true_eq]; omega
      have e0 : decide (((b).drop 3).length ≤ 1000000000000) = true := decide_eq_true (by simp; omega)
      simp only [q0, decide_false, cond_false, d0, cond_true, e0, getP_fst3 q0]
      by_cases q1 : ((b).drop 3).length < 1
      · have r1 : rget 1 ⟨c, (b).drop 3, bad⟩ = _ := rget_no q1
        simp only [q1, decide_true, cond_true]
        refine leafR_go ⟨true, [], true, pl, its, l0 ++ [⟨first + i, (leVal ((b).take 3) : Int), 0, 0, 0⟩], l1, l2, c0, c1, c2, 0, first, n, i + 1⟩ (by refine ⟨hlt, h2, ?_, ?_, ?_, ?_, ?_, h8⟩ <;> simp <;> omega) (by simp only [rsLines_S]; omega) ?_ (by simp [rsLines_S, rsLines_c]) (by simp [rsLines_S, rsLines_o])
        simp only [rsLines_S, rsLines_fin, hn, gLinesP_succ, r0, r1, z1, z3, addL, hio, m0, if_true, if_false, List.append_assoc, List.cons_append, List.nil_append, k01, k02, k10, k12, k20, k21]
      have hx2 : leVal (((b).drop 3).take 1) < 256 := by rw [leVal_take1 (by omega)]; exact UInt8.toNat_lt _
      have a15 := and15 (leVal (((b).drop 3).take 1)) (by omega)
      have f16 : (leVal (((b).drop 3).take 1) : Int).fdiv 16 = (leVal (((b).drop 3).take 1) : Int) / 16 := Int.fdiv_eq_ediv_of_nonneg _ (by omega)
      have r1 : rget 1 ⟨c, (b).drop 3, bad⟩ = _ := rget_ok (show 1 ≤ ((b).drop 3).length by omega)
      have d1 : decide ((0 : Int) ≤ 1 ∧ (1 : Int) ≤ ((b).drop 3).length) = true := by simp only [decide_eq_true_eq]; omega
      have e1 : decide ((((b).drop 3).drop 1).length ≤ 1000000000000) = true := decide_eq_true (by simp; omega)
      simp only [q1, decide_false, cond_false, d1, cond_true, e1, getP_fst1 q1, a15, f16]
      by_cases q2 : (((b).drop 3).drop 1).length < 1
      · have r2 : rget 1 ⟨c, ((b).drop 3).drop 1, bad⟩ = _ := rget_no q2
        simp only [q2, decide_true, cond_true]
        refine leafR_go ⟨true, [], true, pl, its, l0 ++ [⟨first + i, (leVal ((b).take 3) : Int), (leVal (((b).drop 3).take 1) : Int) % 16, (leVal (((b).drop 3).take 1) : Int) / 16, 0⟩], l1, l2, c0, c1, c2, 0, first, n, i + 1⟩ (by refine ⟨hlt, h2, ?_, ?_, ?_, ?_, ?_, h8⟩ <;> simp <;> omega) (by simp only [rsLines_S]; omega) ?_ (by simp [rsLines_S, rsLines_c]) (by simp [rsLines_S, rsLines_o])
        simp only [rsLines_S, rsLines_fin, hn, gLinesP_succ, r0, r1, r2, z1, z3, addL, hio, m0, if_true, if_false, List.append_assoc, List.cons_append, List.nil_append, k01, k02, k10, k12, k20, k21]
      have r2 : rget 1 ⟨c, ((b).drop 3).drop 1, bad⟩ = _ := rget_ok (show 1 ≤ (((b).drop 3).drop 1).length by omega)
      have d2 : decide ((0 : Int) ≤ 1 ∧ (1 : Int) ≤ (((b).drop 3).drop 1).length) = true := by simp only [decide_eq_true_eq]; omega
      have e2 : decide (((((b).drop 3).drop 1).drop 1).length ≤ 1000000000000) = true := decide_eq_true (by simp; omega)
      simp only [q2, decide_false, cond_false, d2, cond_true, e2, getP_fst1 q2]
      refine leafR_go ⟨c, (((b).drop 3).drop 1).drop 1, bad, pl, its, l0 ++ [⟨first + i, (leVal ((b).take 3) : Int), (leVal (((b).drop 3).take 1) : Int) % 16, (leVal (((b).drop 3).take 1) : Int) / 16, (leVal ((((b).drop 3).drop 1).take 1) : Int)⟩], l1, l2, c0, c1, c2, 0, first, n, i + 1⟩ (by refine ⟨hlt, h2, ?_, ?_, ?_, ?_, ?_, h8⟩ <;> simp <;> omega) (by simp only [rsLines_S]; omega) ?_ (by simp [rsLines_S, rsLines_c]) (by simp [rsLines_S, rsLines_o])
      simp only [rsLines_S, rsLines_fin, hn, gLinesP_succ, r0, r1, r2, addL, hio, m0, if_true, if_false, List.append_assoc, List.cons_append, List.nil_append, k01, k02, k10, k12, k20, k21]
    · subst e_q
      rw [rsLines_eq1]
      simp only [hlt, decide_true, cond_true, e0, getP_snd1, getP_snd3, w_succ, wio, List.length_cons, List.length_nil, Nat.zero_add, s0, s1, s2, eb, Bool.and_self, t1, t3]
      by_cases q0 : (b).length < 3
      · have r0 : rget 3 ⟨c, b, bad⟩ = _ := rget_no q0
        simp only [q0, decide_true, cond_true]
        refine leafR_go ⟨true, [], true, pl, its, l0, l1 ++ [⟨first + i, 0, 0, 0, 0⟩], l2, c0, c1, c2, 1, first, n, i + 1⟩ (by refine ⟨hlt, h2, ?_, ?_, ?_, ?_, ?_, h8⟩ <;> simp <;> omega) (by simp only [rsLines_S]; omega) ?_ (by simp [rsLines_S, rsLines_c]) (by simp [rsLines_S, rsLines_o])
        simp only [rsLines_S, rsLines_fin, hn, gLinesP_succ, r0, z1, z3, addL, hio, m0, if_true, if_false, List.append_assoc, List.cons_append, List.nil_append, k01, k02, k10, k12, k20, k21]
      have r0 : rget 3 ⟨c, b, bad⟩ = _ := rget_ok (show 3 ≤ (b).length by omega)
      have d0 : decide ((0 : Int) ≤ 3 ∧ (3 : Int) ≤ (b).length) = true := by simp only [decide_eq_true_eq]; omega
      have e0 : decide (((b).drop 3).length ≤ 1000000000000) = true := decide_eq_true (by simp; omega)
      simp only [q0, decide_false, cond_false, d0, cond_true, e0, getP_fst3 q0]
      by_cases q1 : ((b).drop 3).length < 1
      · have r1 : rget 1 ⟨c, (b).drop 3, bad⟩ = _ := rget_no q1
        simp only [q1, decide_true, cond_true]
        refine leafR_go ⟨true, [], true, pl, its, l0, l1 ++ [⟨first + i, (leVal ((b).take 3) : Int), 0, 0, 0⟩], l2, c0, c1, c2, 1, first, n, i + 1⟩ (by refine ⟨hlt, h2, ?_, ?_, ?_, ?_, ?_, h8⟩ <;> simp <;> omega) (by simp only [rsLines_S]; omega) ?_ (by simp [rsLines_S, rsLines_c]) (by simp [rsLines_S, rsLines_o])
        simp only [rsLines_S, rsLines_fin, hn, gLinesP_succ, r0, r1, z1, z3, addL, hio, m0, if_true, if_false, List.append_assoc, List.cons_append, List.nil_append, k01, k02, k10, k12, k20, k21]
      have hx2 : leVal (((b).drop 3).take 1) < 256 := by rw [leVal_take1 (by omega)]; exact UInt8.toNat_lt _
      have a15 := and15 (leVal (((b).drop 3).take 1)) (by omega)
      have f16 : (leVal (((b).drop 3).take 1) : Int).fdiv 16 = (leVal (((b).drop 3).take 1) : Int) / 16 := Int.fdiv_eq_ediv_of_nonneg _ (by omega)
      have r1 : rget 1 ⟨c, (b).drop 3, bad⟩ = _ := rget_ok (show 1 ≤ ((b).drop 3).length by omega)
      have d1 : decide ((0 : Int) ≤ 1 ∧ (1 : Int) ≤ ((b).drop 3).length) = true := by simp only [decide_eq_true_eq]; omega
      have e1 : decide ((((b).drop 3).drop 1).length ≤ 1000000000000) = true := decide_eq_true (by simp; omega)
      simp only [q1, decide_false, cond_false, d1, cond_true, e1, getP_fst1 q1, a15, f16]
      by_cases q2 : (((b).drop 3).drop 1).length < 1
      · have r2 : rget 1 ⟨c, ((b).drop 3).drop 1, bad⟩ = _ := rget_no q2
        simp only [q2, decide_true, cond_true]
        refine leafR_go ⟨true, [], true, pl, its, l0, l1 ++ [⟨first + i, (leVal ((b).take 3) : Int), (leVal (((b).drop 3).take 1) : Int) % 16, (leVal (((b).drop 3).take 1) : Int) / 16, 0⟩], l2, c0, c1, c2, 1, first, n, i + 1⟩ (by refine ⟨hlt, h2, ?_, ?_, ?_, ?_, ?_, h8⟩ <;> simp <;> omega) (by simp only [rsLines_S]; omega) ?_ (by simp [rsLines_S, rsLines_c]) (by simp [rsLines_S, rsLines_o])
        simp only [rsLines_S, rsLines_fin, hn, gLinesP_succ, r0, r1, r2, z1, z3, addL, hio, m0, if_true, if_false, List.append_assoc, List.cons_append, List.nil_append, k01, k02, k10, k12, k20, k21]
      have r2 : rget 1 ⟨c, ((b).drop 3).drop 1, bad⟩ = _ := rget_ok (show 1 ≤ (((b).drop 3).drop 1).length by omega)
      have d2 : decide ((0 : Int) ≤ 1 ∧ (1 : Int) ≤ (((b).drop 3).drop 1).length) = true := by simp only [decide_eq_true_eq]; omega
      have e2 : decide (((((b).drop 3).drop 1).drop 1).length ≤ 1000000000000) = true := decide_eq_true (by simp; omega)
      simp only [q2, decide_false, cond_false, d2, cond_true, e2, getP_fst1 q2]
      refine leafR_go ⟨c, (((b).drop 3).drop 1).drop 1, bad, pl, its, l0, l1 ++ [⟨first + i, (leVal ((b).take 3) : Int), (leVal (((b).drop 3).take 1) : Int) % 16, (leVal (((b).drop 3).take 1) : Int) / 16, (leVal ((((b).drop 3).drop 1).take 1) : Int)⟩], l2, c0, c1, c2, 1, first, n, i + 1⟩ (by refine ⟨hlt, h2, ?_, ?_, ?_, ?_, ?_, h8⟩ <;> simp <;> omega) (by simp only [rsLines_S]; omega) ?_ (by simp [rsLines_S, rsLines_c]) (by simp [rsLines_S, rsLines_o])
      simp only [rsLines_S, rsLines_fin, hn, gLinesP_succ, r0, r1, r2, addL, hio, m0, if_true, if_false, List.append_assoc, List.cons_append, List.nil_append, k01, k02, k10, k12, k20, k21]
    · subst e_q
      rw [rsLines_eq2]
      simp only [hlt, decide_true, cond_true, e0, getP_snd1, getP_snd3, w_succ, wio, List.length_cons, List.length_nil, Nat.zero_add, s0, s1, s2, eb, Bool.and_self, t1, t3]
      by_cases q0 : (b).length < 3
      · have r0 : rget 3 ⟨c, b, bad⟩ = _ := rget_no q0
        simp only [q0, decide_true, cond_true]
        refine leafR_go ⟨true, [], true, pl, its, l0, l1, l2 ++ [⟨first + i, 0, 0, 0, 0⟩], c0, c1, c2, 2, first, n, i + 1⟩ (by refine ⟨hlt, h2, ?_, ?_, ?_, ?_, ?_, h8⟩ <;> simp <;> omega) (by simp only [rsLines_S]; omega) ?_ (by simp [rsLines_S, rsLines_c]) (by simp [rsLines_S, rsLines_o])
        simp only [rsLines_S, rsLines_fin, hn, gLinesP_succ, r0, z1, z3, addL, hio, m0, if_true, if_false, List.append_assoc, List.cons_append, List.nil_append, k01, k02, k10, k12, k20, k21]
      have r0 : rget 3 ⟨c, b, bad⟩ = _ := rget_ok (show 3 ≤ (b).length by omega)
      have d0 : decide ((0 : Int) ≤ 3 ∧ (3 : Int) ≤ (b).length) = true := by simp only [decide_eq_true_eq]; omega
      have e0 : decide (((b).drop 3).length ≤ 1000000000000) = true := decide_eq_true (by simp; omega)
      simp only [q0, decide_false, cond_false, d0, cond_true, e0, getP_fst3 q0]
      by_cases q1 : ((b).drop 3).length < 1
      · have r1 : rget 1 ⟨c, (b).drop 3, bad⟩ = _ := rget_no q1
        simp only [q1, decide_true, cond_true]
        refine leafR_go ⟨true, [], true, pl, its, l0, l1, l2 ++ [⟨first + i, (leVal ((b).take 3) : Int), 0, 0, 0⟩], c0, c1, c2, 2, first, n, i + 1⟩ (by refine ⟨hlt, h2, ?_, ?_, ?_, ?_, ?_, h8⟩ <;> simp <;> omega) (by simp only [rsLines_S]; omega) ?_ (by simp [rsLines_S, rsLines_c]) (by simp [rsLines_S, rsLines_o])
        simp only [rsLines_S, rsLines_fin, hn, gLinesP_succ, r0, r1, z1, z3, addL, hio, m0, if_true, if_false, List.append_assoc, List.cons_append, List.nil_append, k01, k02, k10, k12, k20, k21]
      have hx2 : leVal (((b).drop 3).take 1) < 256 := by rw [leVal_take1 (by omega)]; exact UInt8.toNat_lt _
      have a15 := and15 (leVal (((b).drop 3).take 1)) (by omega)
      have f16 : (leVal (((b).drop 3).take 1) : Int).fdiv 16 = (leVal (((b).drop 3).take 1) : Int) / 16 := Int.fdiv_eq_ediv_of_nonneg _ (by omega)
      have r1 : rget 1 ⟨c, (b).drop 3, bad⟩ = _ := rget_ok (show 1 ≤ ((b).drop 3).length by omega)
      have d1 : decide ((0 : Int) ≤ 1 ∧ (1 : Int) ≤ ((b).drop 3).length) = true := by simp only [decide_eq_true_eq]; omega
      have e1 : decide ((((b).drop 3).drop 1).length ≤ 1000000000000) = true := decide_eq_true (by simp; omega)
      simp only [q1, decide_false, cond_false, d1, cond_true, e1, getP_fst1 q1, a15, f16]
      by_cases q2 : (((b).drop 3).drop 1).length < 1
      · have r2 : rget 1 ⟨c, ((b).drop 3).drop 1, bad⟩ = _ := rget_no q2
        simp only [q2, decide_true, cond_true]
        refine leafR_go ⟨true, [], true, pl, its, l0, l1, l2 ++ [⟨first + i, (leVal ((b).take 3) : Int), (leVal (((b).drop 3).take 1) : Int) % 16, (leVal (((b).drop 3).take 1) : Int) / 16, 0⟩], c0, c1, c2, 2, first, n, i + 1⟩ (by refine ⟨hlt, h2, ?_, ?_, ?_, ?_, ?_, h8⟩ <;> simp <;> omega) (by simp only [rsLines_S]; omega) ?_ (by simp [rsLines_S, rsLines_c]) (by simp [rsLines_S, rsLines_o])
        simp only [rsLines_S, rsLines_fin, hn, gLinesP_succ, r0, r1, r2, z1, z3, addL, hio, m0, if_true, if_false, List.append_assoc, List.cons_append, List.nil_append, k01, k02, k10, k12, k20, k21]
      have r2 : rget 1 ⟨c, ((b).drop 3).drop 1, bad⟩ = _ := rget_ok (show 1 ≤ (((b).drop 3).drop 1).length by omega)
      have d2 : decide ((0 : Int) ≤ 1 ∧ (1 : Int) ≤ (((b).drop 3).drop 1).length) = true := by simp only [decide_eq_true_eq]; omega
      have e2 : decide (((((b).drop 3).drop 1).drop 1).length ≤ 1000000000000) = true := decide_eq_true (by simp; omega)
      simp only [q2, decide_false, cond_false, d2, cond_true, e2, getP_fst1 q2]
      refine leafR_go ⟨c, (((b).drop 3).drop 1).drop 1, bad, pl, its, l0, l1, l2 ++ [⟨first + i, (leVal ((b).take 3) : Int), (leVal (((b).drop 3).take 1) : Int) % 16, (leVal (((b).drop 3).take 1) : Int) / 16, (leVal ((((b).drop 3).drop 1).take 1) : Int)⟩], c0, c1, c2, 2, first, n, i + 1⟩ (by refine ⟨hlt, h2, ?_, ?_, ?_, ?_, ?_, h8⟩ <;> simp <;> omega) (by simp only [rsLines_S]; omega) ?_ (by simp [rsLines_S, rsLines_c]) (by simp [rsLines_S, rsLines_o])
      simp only [rsLines_S, rsLines_fin, hn, gLinesP_succ, r0, r1, r2, addL, hio, m0, if_true, if_false, List.append_assoc, List.cons_append, List.nil_append, k01, k02, k10, k12, k20, k21]
  · have hi : n.toNat - i = 0 := by omega
    obtain e_q | e_q | e_q : q = 0 ∨ q = 1 ∨ q = 2 := by omega
    all_goals
      subst e_q
      first | rw [rsLines_eq0] | rw [rsLines_eq1] | rw [rsLines_eq2]
      simp only [hlt, decide_false, cond_false]
      exact leafR_exit (rsLines_o c b bad pl its l0 l1 l2 c0 c1 c2 0 first n i) (by simp [rsLines_S, rsLines_fin, rsLines_o, hi, gLines, addL, RT.val]) rfl
def rsLines_d (env : Env RC) (os : List (Obj RC)) : Option (Bool × rsLines_St) := match env, os with
  | [(4, .ptr 0 []), (5, .ptr 1 []), (7, .int .i64 q), (9, .int .i64 first), (66, .int .i64 n), (67, .int .i64 x0)], [.var 74 (.acons (.sl .u8 c b) (.acons (.bool bad) .anil)), .var 33 (.acons (.int .i64 pl) (.acons (.vs 2 x1) (.acons (.acons (.vs 3 x2) (.acons (.vs 4 x3) (.acons (.vs 5 x4) .anil))) (.acons (.arr .int 3 [c0, c1, c2]) .anil)))), .vec .item true its, .vec .line true l0, .vec .line true l1, .vec .line true l2] => staticD (true) (decide (x0 = 0) && decide (x1 = its.length) && decide (x2 = l0.length) && decide (x3 = l1.length) && decide (x4 = l2.length) && decide (0 ≤ n ∧ n ≤ 255 ∧ b.length ≤ 1000000 ∧ (l0.length ≤ 1000 ∧ l1.length ≤ 1000 ∧ l2.length ≤ 1000) ∧ (0 ≤ q ∧ q ≤ 2) ∧ (0 ≤ first ∧ first ≤ 16777215)), ⟨c, b, bad, pl, its, l0, l1, l2, c0, c1, c2, q, first, n, 0⟩)
  | _, _ => none
noncomputable def um_2 := um_1.addLoop 19 18 (sumR s05 [.slot 4 0, .slot 5 0, .path 1 [1], .path 1 [2, 0], .path 1 [2, 1], .path 1 [2, 2]] [4, 5, 7, 9, 66, 67] rsLines_S rsLines_d)
theorem um_2_laws : FLaws Try.prog s05 um_2 := by
  refine um_1_laws.addRoundsR s05_laws (by kernel_rfl) rsLines_S 60 [4, 5, 7, 9, 66, 67] [] [.slot 4 0, .slot 5 0, .path 1 [1], .path 1 [2, 0], .path 1 [2, 1], .path 1 [2, 2]] [4, 5, 7, 9, 66, 67] rsLines_d (fun q hI => ?_) ?_
  · obtain ⟨c, b, bad, pl, its, l0, l1, l2, c0, c1, c2, q, first, n, i⟩ := q
    refine ⟨?_, ?_, rsLines_round c b bad pl its l0 l1 l2 c0 c1 c2 q first n i hI⟩
    · simp_all [RefsOK, rsLines_S, rsLines_c, rsLines_o, rsLines_Inv, D.refs, Obj.refs, rEnc]
    · simp_all [rsLines_S, rsLines_fin, rsLines_o, rsLines_Inv, RT.refsOK, RefsOK, D.refs, Obj.refs, rEnc]
  · intro env os b q hd_ hb
    unfold rsLines_d at hd_
    split at hd_
    · obtain ⟨hs, hd_⟩ := staticD_some hd_
      cases hd_
      simp only [Bool.and_eq_true, decide_eq_true_eq] at hb
      obtain ⟨⟨⟨⟨⟨rfl, rfl⟩, rfl⟩, rfl⟩, rfl⟩, hq⟩ := hb
      exact ⟨⟨by simpa using hq.1, hq.2.1, hq.2.2.1, by simpa using hq.2.2.2.1.1, by simpa using hq.2.2.2.1.2.1, by simpa using hq.2.2.2.1.2.2, hq.2.2.2.2.1, hq.2.2.2.2.2⟩, rfl, rfl⟩
    · cases hd_
end Go.Ev


/-
  Reading a state's partitions: bounds.
-/
namespace Go.Ev
set_option linter.unusedVariables false
set_option linter.unusedSimpArgs false
theorem leVal_le (b : List UInt8) (w : Nat) : leVal (b.take w) < 256 ^ w :=
  Nat.lt_of_lt_of_le (leVal_lt _) (Nat.pow_le_pow_right (by omega) (by simp; omega))
theorem rget_rng (w : Nat) (r : Rd) : 0 ≤ (rget w r).1 ∧ (rget w r).1 < ((256 ^ w : Nat) : Int) := by
  unfold rget
  split
  · have := leVal_le r.b w
    exact ⟨Int.natCast_nonneg _, Int.ofNat_lt.2 this⟩
  · have : 0 < 256 ^ w := Nat.pow_pos (by omega)
    exact ⟨Int.le_refl _, Int.ofNat_lt.2 this⟩
theorem rget_rng1 (r : Rd) : 0 ≤ (rget 1 r).1 ∧ (rget 1 r).1 ≤ 255 := by have := rget_rng 1 r; simp at this; omega
theorem rget_rng3 (r : Rd) : 0 ≤ (rget 3 r).1 ∧ (rget 3 r).1 ≤ 16777215 := by have := rget_rng 3 r; simp at this; omega
theorem rget_blen (w : Nat) (r : Rd) : (rget w r).2.b.length ≤ r.b.length := by
  unfold rget; split <;> simp
theorem gLines_blen : ∀ (n : Nat) (o : Int) (r : Rd), (gLines rdP false n o r).1.b.length ≤ r.b.length
  | 0, _, _ => Nat.le_refl _
  | n + 1, o, r => by
    rw [gLinesP_succ]
    exact Nat.le_trans (gLines_blen n _ _) (Nat.le_trans (rget_blen _ _) (Nat.le_trans (rget_blen _ _) (rget_blen _ _)))
theorem gItems_blen : ∀ (n : Nat) (r : Rd), (gItems rdP false n r).1.b.length ≤ r.b.length
  | 0, _ => Nat.le_refl _
  | n + 1, r => by
    rw [gItemsP_succ]
    exact Nat.le_trans (gItems_blen n _) (Nat.le_trans (rget_blen _ _) (Nat.le_trans (rget_blen _ _) (rget_blen _ _)))
theorem gItems_len {σ : Type} (R : Rdr σ) (stop : Bool) : ∀ (n : Nat) (s : σ), (gItems R stop n s).2.length ≤ n
  | 0, _ => Nat.le_refl _
  | n + 1, s => by
    simp only [gItems]
    cases stop && R.bad s with
    | true => simp
    | false => have := gItems_len R stop n (R.get 1 (R.get 3 (R.get 1 s).2).2).2; simp; omega
theorem gPart_blen (r : Rd) : (gPart rdP false markP r).1.b.length ≤ r.b.length := by
  unfold gPart
  refine Nat.le_trans (gLines_blen _ _ _) ?_
  have h : (rget 3 (rget 1 (rget 3 r).2).2).2.b.length ≤ r.b.length := Nat.le_trans (rget_blen _ _) (Nat.le_trans (rget_blen _ _) (rget_blen _ _))
  show (bif ((rget 1 (rget 3 r).2).1 == 0 && (rget 3 (rget 1 (rget 3 r).2).2).1 != 0) then markP (rget 3 (rget 1 (rget 3 r).2).2).2 else (rget 3 (rget 1 (rget 3 r).2).2).2).b.length ≤ _
  cases ((rget 1 (rget 3 r).2).1 == 0 && (rget 3 (rget 1 (rget 3 r).2).2).1 != 0)
  · exact h
  · exact h
theorem gPart_len (r : Rd) : (gPart rdP false markP r).2.2.length ≤ 255 := by
  unfold gPart
  refine Nat.le_trans (gLines_len _ _ _ _ _) ?_
  have := rget_rng1 (rget 3 r).2
  show (rget 1 (rget 3 r).2).1.toNat ≤ 255
  omega
/-- a partition, by what its three numbers are -/
theorem gPart_of {r r1 r2 r3 : Rd} {c n f : Int} (h1 : rget 3 r = (c, r1)) (h2 : rget 1 r1 = (n, r2)) (h3 : rget 3 r2 = (f, r3)) :
    gPart rdP false markP r = ((gLines rdP false n.toNat f (bif n == 0 && f != 0 then markP r3 else r3)).1, c, (gLines rdP false n.toNat f (bif n == 0 && f != 0 then markP r3 else r3)).2) := by
  simp only [gPart, rdP, h1, h2, h3]
end Go.Ev
