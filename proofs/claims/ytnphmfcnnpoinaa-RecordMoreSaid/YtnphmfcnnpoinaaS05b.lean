import Derived.Test.YtnphmfcnnpoinaaS05a
namespace Go.Ev
open Go.Proofs
set_option maxRecDepth 100000
set_option linter.unusedVariables false
set_option linter.unusedSimpArgs false
/-! ## package pack -/
/-! ### function put: flume/pack.Put -/
def put_s (c : Bool) (b : List UInt8) (n : Int) (w : Int) : Option (Bool × D RC) := staticD (w == 1 || w == 2 || w == 3 || w == 6) (decide (b.length ≤ 1000000000), .tup (.acons (.sl (C := RC) .u8 (!fitsB n w.toNat) (putL b n w.toNat)) (.acons (.int .i64 (bif fitsB n w.toNat then 0 else 2)) .anil)))
def put_sp : List (D RC) → Option (Bool × D RC)
  | [.sl .u8 c b, .int .i64 n, .int .i64 w] => put_s c b n w
  | _ => none
noncomputable def put_e (c : Bool) (b : List UInt8) (n : Int) (w : Int) := evF s05 p10 40 53 [.sl (C := RC) .u8 c b, .int .i64 n, .int .i64 w]
theorem put1_eq (c : Bool) (b : List UInt8) (n : Int) : put_e c b n 1 = (bif Decidable.decide ((0 : Int) ≤ n) then bif !Int.fdiv n (256 : Int) == (0 : Int) then Option.some (Go.Ev.D.tup (Go.Ev.D.acons (Go.Ev.D.sl Go.Ev.RTy.u8 Bool.true []) (Go.Ev.D.acons (Go.Ev.D.int Go.IntKind.i64 (2 : Int)) Go.Ev.D.anil))) else bif Go.Ev.lenOK (List.length b) then bif Go.Ev.lenOK (List.length b) then bif Decidable.decide ((0 : Int) ≤ (0 : Int) ∧ (0 : Int) ≤ (↑(List.length b) : Int) ∧ (↑(List.length b) : Int) ≤ (↑(List.length b) : Int) ∧ (↑(List.length b) : Int) = (↑(List.length b) : Int)) then bif Go.Ev.sizeOK (List.length (List.drop (0 : Nat) (List.take (Int.toNat (↑(List.length b) : Int)) b)) + List.length [UInt8.ofNat (Int.toNat (Go.IntKind.wrap Go.IntKind.u8 n))]) (1 : Nat) then bif Nat.beq (List.length (List.drop (0 : Nat) (List.take (Int.toNat (↑(List.length b) : Int)) b)) + List.length [UInt8.ofNat (Int.toNat (Go.IntKind.wrap Go.IntKind.u8 n))]) (List.length (List.drop (0 : Nat) (List.take (Int.toNat (↑(List.length b) : Int)) b) ++ [UInt8.ofNat (Int.toNat (Go.IntKind.wrap Go.IntKind.u8 n))])) then Option.some (Go.Ev.D.tup (Go.Ev.D.acons (Go.Ev.D.sl Go.Ev.RTy.u8 Bool.false (List.drop (0 : Nat) (List.take (Int.toNat (↑(List.length b) : Int)) b) ++ [UInt8.ofNat (Int.toNat (Go.IntKind.wrap Go.IntKind.u8 n))])) (Go.Ev.D.acons (Go.Ev.D.int Go.IntKind.i64 (0 : Int)) Go.Ev.D.anil))) else Option.none else Option.none else Option.none else Option.none else Option.none else Option.some (Go.Ev.D.tup (Go.Ev.D.acons (Go.Ev.D.sl Go.Ev.RTy.u8 Bool.true []) (Go.Ev.D.acons (Go.Ev.D.int Go.IntKind.i64 (2 : Int)) Go.Ev.D.anil)))) := by kernel_rfl
theorem put2_eq (c : Bool) (b : List UInt8) (n : Int) : put_e c b n 2 = (bif Decidable.decide ((0 : Int) ≤ n) then bif !Int.fdiv n (65536 : Int) == (0 : Int) then Option.some (Go.Ev.D.tup (Go.Ev.D.acons (Go.Ev.D.sl Go.Ev.RTy.u8 Bool.true []) (Go.Ev.D.acons (Go.Ev.D.int Go.IntKind.i64 (2 : Int)) Go.Ev.D.anil))) else bif Go.Ev.lenOK (List.length b) then bif Go.Ev.lenOK (List.length b) then bif Decidable.decide ((0 : Int) ≤ (0 : Int) ∧ (0 : Int) ≤ (↑(List.length b) : Int) ∧ (↑(List.length b) : Int) ≤ (↑(List.length b) : Int) ∧ (↑(List.length b) : Int) = (↑(List.length b) : Int)) then bif Go.Ev.sizeOK (List.length (List.drop (0 : Nat) (List.take (Int.toNat (↑(List.length b) : Int)) b)) + List.length [UInt8.ofNat (Int.toNat (Go.IntKind.wrap Go.IntKind.u8 n))]) (1 : Nat) then bif Nat.beq (List.length (List.drop (0 : Nat) (List.take (Int.toNat (↑(List.length b) : Int)) b)) + List.length [UInt8.ofNat (Int.toNat (Go.IntKind.wrap Go.IntKind.u8 n))]) (List.length (List.drop (0 : Nat) (List.take (Int.toNat (↑(List.length b) : Int)) b) ++ [UInt8.ofNat (Int.toNat (Go.IntKind.wrap Go.IntKind.u8 n))])) && Go.Ev.sizeOK (List.length (List.drop (0 : Nat) (List.take (Int.toNat (↑(List.length b) : Int)) b)) + List.length [UInt8.ofNat (Int.toNat (Go.IntKind.wrap Go.IntKind.u8 n))] + List.length [UInt8.ofNat (Int.toNat (Go.IntKind.wrap Go.IntKind.u8 (Int.fdiv n (256 : Int))))]) (1 : Nat) then bif Nat.beq (List.length (List.drop (0 : Nat) (List.take (Int.toNat (↑(List.length b) : Int)) b) ++ [UInt8.ofNat (Int.toNat (Go.IntKind.wrap Go.IntKind.u8 n))]) + List.length [UInt8.ofNat (Int.toNat (Go.IntKind.wrap Go.IntKind.u8 (Int.fdiv n (256 : Int))))]) (List.length (List.drop (0 : Nat) (List.take (Int.toNat (↑(List.length b) : Int)) b) ++ [UInt8.ofNat (Int.toNat (Go.IntKind.wrap Go.IntKind.u8 n))] ++ [UInt8.ofNat (Int.toNat (Go.IntKind.wrap Go.IntKind.u8 (Int.fdiv n (256 : Int))))])) then Option.some (Go.Ev.D.tup (Go.Ev.D.acons (Go.Ev.D.sl Go.Ev.RTy.u8 Bool.false (List.drop (0 : Nat) (List.take (Int.toNat (↑(List.length b) : Int)) b) ++ [UInt8.ofNat (Int.toNat (Go.IntKind.wrap Go.IntKind.u8 n))] ++ [UInt8.ofNat (Int.toNat (Go.IntKind.wrap Go.IntKind.u8 (Int.fdiv n (256 : Int))))])) (Go.Ev.D.acons (Go.Ev.D.int Go.IntKind.i64 (0 : Int)) Go.Ev.D.anil))) else Option.none else Option.none else Option.none else Option.none else Option.none else Option.none else Option.some (Go.Ev.D.tup (Go.Ev.D.acons (Go.Ev.D.sl Go.Ev.RTy.u8 Bool.true []) (Go.Ev.D.acons (Go.Ev.D.int Go.IntKind.i64 (2 : Int)) Go.Ev.D.anil)))) := by kernel_rfl
theorem put3_eq (c : Bool) (b : List UInt8) (n : Int) : put_e c b n 3 = (bif Decidable.decide ((0 : Int) ≤ n) then bif !Int.fdiv n (16777216 : Int) == (0 : Int) then Option.some (Go.Ev.D.tup (Go.Ev.D.acons (Go.Ev.D.sl Go.Ev.RTy.u8 Bool.true []) (Go.Ev.D.acons (Go.Ev.D.int Go.IntKind.i64 (2 : Int)) Go.Ev.D.anil))) else bif Go.Ev.lenOK (List.length b) then bif Go.Ev.lenOK (List.length b) then bif Decidable.decide ((0 : Int) ≤ (0 : Int) ∧ (0 : Int) ≤ (↑(List.length b) : Int) ∧ (↑(List.length b) : Int) ≤ (↑(List.length b) : Int) ∧ (↑(List.length b) : Int) = (↑(List.length b) : Int)) then bif Go.Ev.sizeOK (List.length (List.drop (0 : Nat) (List.take (Int.toNat (↑(List.length b) : Int)) b)) + List.length [UInt8.ofNat (Int.toNat (Go.IntKind.wrap Go.IntKind.u8 n))]) (1 : Nat) then bif Nat.beq (List.length (List.drop (0 : Nat) (List.take (Int.toNat (↑(List.length b) : Int)) b)) + List.length [UInt8.ofNat (Int.toNat (Go.IntKind.wrap Go.IntKind.u8 n))]) (List.length (List.drop (0 : Nat) (List.take (Int.toNat (↑(List.length b) : Int)) b) ++ [UInt8.ofNat (Int.toNat (Go.IntKind.wrap Go.IntKind.u8 n))])) && Go.Ev.sizeOK (List.length (List.drop (0 : Nat) (List.take (Int.toNat (↑(List.length b) : Int)) b)) + List.length [UInt8.ofNat (Int.toNat (Go.IntKind.wrap Go.IntKind.u8 n))] + List.length [UInt8.ofNat (Int.toNat (Go.IntKind.wrap Go.IntKind.u8 (Int.fdiv n (256 : Int))))]) (1 : Nat) then bif Nat.beq (List.length (List.drop (0 : Nat) (List.take (Int.toNat (↑(List.length b) : Int)) b) ++ [UInt8.ofNat (Int.toNat (Go.IntKind.wrap Go.IntKind.u8 n))]) + List.length [UInt8.ofNat (Int.toNat (Go.IntKind.wrap Go.IntKind.u8 (Int.fdiv n (256 : Int))))]) (List.length (List.drop (0 : Nat) (List.take (Int.toNat (↑(List.length b) : Int)) b) ++ [UInt8.ofNat (Int.toNat (Go.IntKind.wrap Go.IntKind.u8 n))] ++ [UInt8.ofNat (Int.toNat (Go.IntKind.wrap Go.IntKind.u8 (Int.fdiv n (256 : Int))))])) && Go.Ev.sizeOK (List.length (List.drop (0 : Nat) (List.take (Int.toNat (↑(List.length b) : Int)) b) ++ [UInt8.ofNat (Int.toNat (Go.IntKind.wrap Go.IntKind.u8 n))]) + List.length [UInt8.ofNat (Int.toNat (Go.IntKind.wrap Go.IntKind.u8 (Int.fdiv n (256 : Int))))] + List.length [UInt8.ofNat (Int.toNat (Go.IntKind.wrap Go.IntKind.u8 (Int.fdiv (Int.fdiv n (256 : Int)) (256 : Int))))]) (1 : Nat) then bif Nat.beq (List.length (List.drop (0 : Nat) (List.take (Int.toNat (↑(List.length b) : Int)) b) ++ [UInt8.ofNat (Int.toNat (Go.IntKind.wrap Go.IntKind.u8 n))] ++ [UInt8.ofNat (Int.toNat (Go.IntKind.wrap Go.IntKind.u8 (Int.fdiv n (256 : Int))))]) + List.length [UInt8.ofNat (Int.toNat (Go.IntKind.wrap Go.IntKind.u8 (Int.fdiv (Int.fdiv n (256 : Int)) (256 : Int))))]) (List.length (List.drop (0 : Nat) (List.take (Int.toNat (↑(List.length b) : Int)) b) ++ [UInt8.ofNat (Int.toNat (Go.IntKind.wrap Go.IntKind.u8 n))] ++ [UInt8.ofNat (Int.toNat (Go.IntKind.wrap Go.IntKind.u8 (Int.fdiv n (256 : Int))))] ++ [UInt8.ofNat (Int.toNat (Go.IntKind.wrap Go.IntKind.u8 (Int.fdiv (Int.fdiv n (256 : Int)) (256 : Int))))])) then Option.some (Go.Ev.D.tup (Go.Ev.D.acons (Go.Ev.D.sl Go.Ev.RTy.u8 Bool.false (List.drop (0 : Nat) (List.take (Int.toNat (↑(List.length b) : Int)) b) ++ [UInt8.ofNat (Int.toNat (Go.IntKind.wrap Go.IntKind.u8 n))] ++ [UInt8.ofNat (Int.toNat (Go.IntKind.wrap Go.IntKind.u8 (Int.fdiv n (256 : Int))))] ++ [UInt8.ofNat (Int.toNat (Go.IntKind.wrap Go.IntKind.u8 (Int.fdiv (Int.fdiv n (256 : Int)) (256 : Int))))])) (Go.Ev.D.acons (Go.Ev.D.int Go.IntKind.i64 (0 : Int)) Go.Ev.D.anil))) else Option.none else Option.none else Option.none else Option.none else Option.none else Option.none else Option.none else Option.some (Go.Ev.D.tup (Go.Ev.D.acons (Go.Ev.D.sl Go.Ev.RTy.u8 Bool.true []) (Go.Ev.D.acons (Go.Ev.D.int Go.IntKind.i64 (2 : Int)) Go.Ev.D.anil)))) := by kernel_rfl
theorem put6_eq (c : Bool) (b : List UInt8) (n : Int) : put_e c b n 6 = (bif Decidable.decide ((0 : Int) ≤ n) then bif !Int.fdiv n (281474976710656 : Int) == (0 : Int) then Option.some (Go.Ev.D.tup (Go.Ev.D.acons (Go.Ev.D.sl Go.Ev.RTy.u8 Bool.true []) (Go.Ev.D.acons (Go.Ev.D.int Go.IntKind.i64 (2 : Int)) Go.Ev.D.anil))) else bif Go.Ev.lenOK (List.length b) then bif Go.Ev.lenOK (List.length b) then bif Decidable.decide ((0 : Int) ≤ (0 : Int) ∧ (0 : Int) ≤ (↑(List.length b) : Int) ∧ (↑(List.length b) : Int) ≤ (↑(List.length b) : Int) ∧ (↑(List.length b) : Int) = (↑(List.length b) : Int)) then bif Go.Ev.sizeOK (List.length (List.drop (0 : Nat) (List.take (Int.toNat (↑(List.length b) : Int)) b)) + List.length [UInt8.ofNat (Int.toNat (Go.IntKind.wrap Go.IntKind.u8 n))]) (1 : Nat) then bif Nat.beq (List.length (List.drop (0 : Nat) (List.take (Int.toNat (↑(List.length b) : Int)) b)) + List.length [UInt8.ofNat (Int.toNat (Go.IntKind.wrap Go.IntKind.u8 n))]) (List.length (List.drop (0 : Nat) (List.take (Int.toNat (↑(List.length b) : Int)) b) ++ [UInt8.ofNat (Int.toNat (Go.IntKind.wrap Go.IntKind.u8 n))])) && Go.Ev.sizeOK (List.length (List.drop (0 : Nat) (List.take (Int.toNat (↑(List.length b) : Int)) b)) + List.length [UInt8.ofNat (Int.toNat (Go.IntKind.wrap Go.IntKind.u8 n))] + List.length [UInt8.ofNat (Int.toNat (Go.IntKind.wrap Go.IntKind.u8 (Int.fdiv n (256 : Int))))]) (1 : Nat) then bif Nat.beq (List.length (List.drop (0 : Nat) (List.take (Int.toNat (↑(List.length b) : Int)) b) ++ [UInt8.ofNat (Int.toNat (Go.IntKind.wrap Go.IntKind.u8 n))]) + List.length [UInt8.ofNat (Int.toNat (Go.IntKind.wrap Go.IntKind.u8 (Int.fdiv n (256 : Int))))]) (List.length (List.drop (0 : Nat) (List.take (Int.toNat (↑(List.length b) : Int)) b) ++ [UInt8.ofNat (Int.toNat (Go.IntKind.wrap Go.IntKind.u8 n))] ++ [UInt8.ofNat (Int.toNat (Go.IntKind.wrap Go.IntKind.u8 (Int.fdiv n (256 : Int))))])) && Go.Ev.sizeOK (List.length (List.drop (0 : Nat) (List.take (Int.toNat (↑(List.length b) : Int)) b) ++ [UInt8.ofNat (Int.toNat (Go.IntKind.wrap Go.IntKind.u8 n))]) + List.length [UInt8.ofNat (Int.toNat (Go.IntKind.wrap Go.IntKind.u8 (Int.fdiv n (256 : Int))))] + List.length [UInt8.ofNat (Int.toNat (Go.IntKind.wrap Go.IntKind.u8 (Int.fdiv (Int.fdiv n (256 : Int)) (256 : Int))))]) (1 : Nat) then bif Nat.beq (List.length (List.drop (0 : Nat) (List.take (Int.toNat (↑(List.length b) : Int)) b) ++ [UInt8.ofNat (Int.toNat (Go.IntKind.wrap Go.IntKind.u8 n))] ++ [UInt8.ofNat (Int.toNat (Go.IntKind.wrap Go.IntKind.u8 (Int.fdiv n (256 : Int))))]) + List.length [UInt8.ofNat (Int.toNat (Go.IntKind.wrap Go.IntKind.u8 (Int.fdiv (Int.fdiv n (256 : Int)) (256 : Int))))]) (List.length (List.drop (0 : Nat) (List.take (Int.toNat (↑(List.length b) : Int)) b) ++ [UInt8.ofNat (Int.toNat (Go.IntKind.wrap Go.IntKind.u8 n))] ++ [UInt8.ofNat (Int.toNat (Go.IntKind.wrap Go.IntKind.u8 (Int.fdiv n (256 : Int))))] ++ [UInt8.ofNat (Int.toNat (Go.IntKind.wrap Go.IntKind.u8 (Int.fdiv (Int.fdiv n (256 : Int)) (256 : Int))))])) && Go.Ev.sizeOK (List.length (List.drop (0 : Nat) (List.take (Int.toNat (↑(List.length b) : Int)) b) ++ [UInt8.ofNat (Int.toNat (Go.IntKind.wrap Go.IntKind.u8 n))] ++ [UInt8.ofNat (Int.toNat (Go.IntKind.wrap Go.IntKind.u8 (Int.fdiv n (256 : Int))))]) + List.length [UInt8.ofNat (Int.toNat (Go.IntKind.wrap Go.IntKind.u8 (Int.fdiv (Int.fdiv n (256 : Int)) (256 : Int))))] + List.length [UInt8.ofNat (Int.toNat (Go.IntKind.wrap Go.IntKind.u8 (Int.fdiv (Int.fdiv (Int.fdiv n (256 : Int)) (256 : Int)) (256 : Int))))]) (1 : Nat) then bif Nat.beq (List.length (List.drop (0 : Nat) (List.take (Int.toNat (↑(List.length b) : Int)) b) ++ [UInt8.ofNat (Int.toNat (Go.IntKind.wrap Go.IntKind.u8 n))] ++ [UInt8.ofNat (Int.toNat (Go.IntKind.wrap Go.IntKind.u8 (Int.fdiv n (256 : Int))))] ++ [UInt8.ofNat (Int.toNat (Go.IntKind.wrap Go.IntKind.u8 (Int.fdiv (Int.fdiv n (256 : Int)) (256 : Int))))]) + List.length [UInt8.ofNat (Int.toNat (Go.IntKind.wrap Go.IntKind.u8 (Int.fdiv (Int.fdiv (Int.fdiv n (256 : Int)) (256 : Int)) (256 : Int))))]) (List.length (List.drop (0 : Nat) (List.take (Int.toNat (↑(List.length b) : Int)) b) ++ [UInt8.ofNat (Int.toNat (Go.IntKind.wrap Go.IntKind.u8 n))] ++ [UInt8.ofNat (Int.toNat (Go.IntKind.wrap Go.IntKind.u8 (Int.fdiv n (256 : Int))))] ++ [UInt8.ofNat (Int.toNat (Go.IntKind.wrap Go.IntKind.u8 (Int.fdiv (Int.fdiv n (256 : Int)) (256 : Int))))] ++ [UInt8.ofNat (Int.toNat (Go.IntKind.wrap Go.IntKind.u8 (Int.fdiv (Int.fdiv (Int.fdiv n (256 : Int)) (256 : Int)) (256 : Int))))])) && Go.Ev.sizeOK (List.length (List.drop (0 : Nat) (List.take (Int.toNat (↑(List.length b) : Int)) b) ++ [UInt8.ofNat (Int.toNat (Go.IntKind.wrap Go.IntKind.u8 n))] ++ [UInt8.ofNat (Int.toNat (Go.IntKind.wrap Go.IntKind.u8 (Int.fdiv n (256 : Int))))] ++ [UInt8.ofNat (Int.toNat (Go.IntKind.wrap Go.IntKind.u8 (Int.fdiv (Int.fdiv n (256 : Int)) (256 : Int))))]) + List.length [UInt8.ofNat (Int.toNat (Go.IntKind.wrap Go.IntKind.u8 (Int.fdiv (Int.fdiv (Int.fdiv n (256 : Int)) (256 : Int)) (256 : Int))))] + List.length [UInt8.ofNat (Int.toNat (Go.IntKind.wrap Go.IntKind.u8 (Int.fdiv (Int.fdiv (Int.fdiv (Int.fdiv n (256 : Int)) (256 : Int)) (256 : Int)) (256 : Int))))]) (1 : Nat) then bif Nat.beq (List.length (List.drop (0 : Nat) (List.take (Int.toNat (↑(List.length b) : Int)) b) ++ [UInt8.ofNat (Int.toNat (Go.IntKind.wrap Go.IntKind.u8 n))] ++ [UInt8.ofNat (Int.toNat (Go.IntKind.wrap Go.IntKind.u8 (Int.fdiv n (256 : Int))))] ++ [UInt8.ofNat (Int.toNat (Go.IntKind.wrap Go.IntKind.u8 (Int.fdiv (Int.fdiv n (256 : Int)) (256 : Int))))] ++ [UInt8.ofNat (Int.toNat (Go.IntKind.wrap Go.IntKind.u8 (Int.fdiv (Int.fdiv (Int.fdiv n (256 : Int)) (256 : Int)) (256 : Int))))]) + List.length [UInt8.ofNat (Int.toNat (Go.IntKind.wrap Go.IntKind.u8 (Int.fdiv (Int.fdiv (Int.fdiv (Int.fdiv n (256 : Int)) (256 : Int)) (256 : Int)) (256 : Int))))]) (List.length (List.drop (0 : Nat) (List.take (Int.toNat (↑(List.length b) : Int)) b) ++ [UInt8.ofNat (Int.toNat (Go.IntKind.wrap Go.IntKind.u8 n))] ++ [UInt8.ofNat (Int.toNat (Go.IntKind.wrap Go.IntKind.u8 (Int.fdiv n (256 : Int))))] ++ [UInt8.ofNat (Int.toNat (Go.IntKind.wrap Go.IntKind.u8 (Int.fdiv (Int.fdiv n (256 : Int)) (256 : Int))))] ++ [UInt8.ofNat (Int.toNat (Go.IntKind.wrap Go.IntKind.u8 (Int.fdiv (Int.fdiv (Int.fdiv n (256 : Int)) (256 : Int)) (256 : Int))))] ++ [UInt8.ofNat (Int.toNat (Go.IntKind.wrap Go.IntKind.u8 (Int.fdiv (Int.fdiv (Int.fdiv (Int.fdiv n (256 : Int)) (256 : Int)) (256 : Int)) (256 : Int))))])) && Go.Ev.sizeOK (List.length (List.drop (0 : Nat) (List.take (Int.toNat (↑(List.length b) : Int)) b) ++ [UInt8.ofNat (Int.toNat (Go.IntKind.wrap Go.IntKind.u8 n))] ++ [UInt8.ofNat (Int.toNat (Go.IntKind.wrap Go.IntKind.u8 (Int.fdiv n (256 : Int))))] ++ [UInt8.ofNat (Int.toNat (Go.IntKind.wrap Go.IntKind.u8 (Int.fdiv (Int.fdiv n (256 : Int)) (256 : Int))))] ++ [UInt8.ofNat (Int.toNat (Go.IntKind.wrap Go.IntKind.u8 (Int.fdiv (Int.fdiv (Int.fdiv n (256 : Int)) (256 : Int)) (256 : Int))))]) + List.length [UInt8.ofNat (Int.toNat (Go.IntKind.wrap Go.IntKind.u8 (Int.fdiv (Int.fdiv (Int.fdiv (Int.fdiv n (256 : Int)) (256 : Int)) (256 : Int)) (256 : Int))))] + List.length [UInt8.ofNat (Int.toNat (Go.IntKind.wrap Go.IntKind.u8 (Int.fdiv (Int.fdiv (Int.fdiv (Int.fdiv (Int.fdiv n (256 : Int)) (256 : Int)) (256 : Int)) (256 : Int)) (256 : Int))))]) (1 : Nat) then bif Nat.beq (List.length (List.drop (0 : Nat) (List.take (Int.toNat (↑(List.length b) : Int)) b) ++ [UInt8.ofNat (Int.toNat (Go.IntKind.wrap Go.IntKind.u8 n))] ++ [UInt8.ofNat (Int.toNat (Go.IntKind.wrap Go.IntKind.u8 (Int.fdiv n (256 : Int))))] ++ [UInt8.ofNat (Int.toNat (Go.IntKind.wrap Go.IntKind.u8 (Int.fdiv (Int.fdiv n (256 : Int)) (256 : Int))))] ++ [UInt8.ofNat (Int.toNat (Go.IntKind.wrap Go.IntKind.u8 (Int.fdiv (Int.fdiv (Int.fdiv n (256 : Int)) (256 : Int)) (256 : Int))))] ++ [UInt8.ofNat (Int.toNat (Go.IntKind.wrap Go.IntKind.u8 (Int.fdiv (Int.fdiv (Int.fdiv (Int.fdiv n (256 : Int)) (256 : Int)) (256 : Int)) (256 : Int))))]) + List.length [UInt8.ofNat (Int.toNat (Go.IntKind.wrap Go.IntKind.u8 (Int.fdiv (Int.fdiv (Int.fdiv (Int.fdiv (Int.fdiv n (256 : Int)) (256 : Int)) (256 : Int)) (256 : Int)) (256 : Int))))]) (List.length (List.drop (0 : Nat) (List.take (Int.toNat (↑(List.length b) : Int)) b) ++ [UInt8.ofNat (Int.toNat (Go.IntKind.wrap Go.IntKind.u8 n))] ++ [UInt8.ofNat (Int.toNat (Go.IntKind.wrap Go.IntKind.u8 (Int.fdiv n (256 : Int))))] ++ [UInt8.ofNat (Int.toNat (Go.IntKind.wrap Go.IntKind.u8 (Int.fdiv (Int.fdiv n (256 : Int)) (256 : Int))))] ++ [UInt8.ofNat (Int.toNat (Go.IntKind.wrap Go.IntKind.u8 (Int.fdiv (Int.fdiv (Int.fdiv n (256 : Int)) (256 : Int)) (256 : Int))))] ++ [UInt8.ofNat (Int.toNat (Go.IntKind.wrap Go.IntKind.u8 (Int.fdiv (Int.fdiv (Int.fdiv (Int.fdiv n (256 : Int)) (256 : Int)) (256 : Int)) (256 : Int))))] ++ [UInt8.ofNat (Int.toNat (Go.IntKind.wrap Go.IntKind.u8 (Int.fdiv (Int.fdiv (Int.fdiv (Int.fdiv (Int.fdiv n (256 : Int)) (256 : Int)) (256 : Int)) (256 : Int)) (256 : Int))))])) then Option.some (Go.Ev.D.tup (Go.Ev.D.acons (Go.Ev.D.sl Go.Ev.RTy.u8 Bool.false (List.drop (0 : Nat) (List.take (Int.toNat (↑(List.length b) : Int)) b) ++ [UInt8.ofNat (Int.toNat (Go.IntKind.wrap Go.IntKind.u8 n))] ++ [UInt8.ofNat (Int.toNat (Go.IntKind.wrap Go.IntKind.u8 (Int.fdiv n (256 : Int))))] ++ [UInt8.ofNat (Int.toNat (Go.IntKind.wrap Go.IntKind.u8 (Int.fdiv (Int.fdiv n (256 : Int)) (256 : Int))))] ++ [UInt8.ofNat (Int.toNat (Go.IntKind.wrap Go.IntKind.u8 (Int.fdiv (Int.fdiv (Int.fdiv n (256 : Int)) (256 : Int)) (256 : Int))))] ++ [UInt8.ofNat (Int.toNat (Go.IntKind.wrap Go.IntKind.u8 (Int.fdiv (Int.fdiv (Int.fdiv (Int.fdiv n (256 : Int)) (256 : Int)) (256 : Int)) (256 : Int))))] ++ [UInt8.ofNat (Int.toNat (Go.IntKind.wrap Go.IntKind.u8 (Int.fdiv (Int.fdiv (Int.fdiv (Int.fdiv (Int.fdiv n (256 : Int)) (256 : Int)) (256 : Int)) (256 : Int)) (256 : Int))))])) (Go.Ev.D.acons (Go.Ev.D.int Go.IntKind.i64 (0 : Int)) Go.Ev.D.anil))) else Option.none else Option.none else Option.none else Option.none else Option.none else Option.none else Option.none else Option.none else Option.none else Option.none else Option.some (Go.Ev.D.tup (Go.Ev.D.acons (Go.Ev.D.sl Go.Ev.RTy.u8 Bool.true []) (Go.Ev.D.acons (Go.Ev.D.int Go.IntKind.i64 (2 : Int)) Go.Ev.D.anil)))) := by kernel_rfl
theorem put_ok (c : Bool) (b : List UInt8) (n : Int) (w : Int) (hs : (w == 1 || w == 2 || w == 3 || w == 6) = true) (h : (decide (b.length ≤ 1000000000)) = true) : put_e c b n w = some (.tup (.acons (.sl (C := RC) .u8 (!fitsB n w.toNat) (putL b n w.toNat)) (.acons (.int .i64 (bif fitsB n w.toNat then 0 else 2)) .anil))) := by
  have hl := of_decide_eq_true h
  have hl' : lenOK b.length = true := lenOK_of (by omega)
  have hle : ∀ m, 1000000000 ≤ m → (b.length ≤ m) := fun m hm => by omega
  have hz : ∀ (k : Nat) (m : Int), 0 ≤ n → m = 256 ^ k → 0 < m → ((n.fdiv m == 0) = fitsB n k) := by
    intro k m h0 hm hp
    rw [Int.fdiv_eq_ediv_of_nonneg _ (by omega), fitsB, ← hm]
    have : (n / m = 0) ↔ n < m := Int.ediv_eq_zero_iff_of_pos' h0 hp
    rw [Bool.eq_iff_iff]; simp [this, h0]
  simp only [Bool.or_eq_true, beq_iff_eq] at hs
  rcases hs with ((rfl | rfl) | rfl) | rfl
  · rw [put1_eq]
    show _ = some (D.tup (.acons (.sl (C := RC) .u8 (!fitsB n 1) (putL b n 1)) (.acons (.int .i64 (bif fitsB n 1 then 0 else 2)) .anil)))
    by_cases h0 : 0 ≤ n
    · simp only [h0, decide_true, cond_true, hz 1 256 h0 (by decide) (by omega)]
      cases hf : fitsB n 1
      · simp [putL, hf]
      · simp [putL, hf, hl', sizeOK, leB, byteOf, hle]
    · have hf : fitsB n 1 = false := by simp [fitsB, h0]
      simp [h0, hf, putL]
  · rw [put2_eq]
    show _ = some (D.tup (.acons (.sl (C := RC) .u8 (!fitsB n 2) (putL b n 2)) (.acons (.int .i64 (bif fitsB n 2 then 0 else 2)) .anil)))
    by_cases h0 : 0 ≤ n
    · simp only [h0, decide_true, cond_true, hz 2 65536 h0 (by decide) (by omega)]
      cases hf : fitsB n 2
      · simp [putL, hf]
      · simp [putL, hf, hl', sizeOK, leB, byteOf, hle]
    · have hf : fitsB n 2 = false := by simp [fitsB, h0]
      simp [h0, hf, putL]
  · rw [put3_eq]
    show _ = some (D.tup (.acons (.sl (C := RC) .u8 (!fitsB n 3) (putL b n 3)) (.acons (.int .i64 (bif fitsB n 3 then 0 else 2)) .anil)))
    by_cases h0 : 0 ≤ n
    · simp only [h0, decide_true, cond_true, hz 3 16777216 h0 (by decide) (by omega)]
      cases hf : fitsB n 3
      · simp [putL, hf]
      · simp [putL, hf, hl', sizeOK, leB, byteOf, hle]
    · have hf : fitsB n 3 = false := by simp [fitsB, h0]
      simp [h0, hf, putL]
  · rw [put6_eq]
    show _ = some (D.tup (.acons (.sl (C := RC) .u8 (!fitsB n 6) (putL b n 6)) (.acons (.int .i64 (bif fitsB n 6 then 0 else 2)) .anil)))
    by_cases h0 : 0 ≤ n
    · simp only [h0, decide_true, cond_true, hz 6 281474976710656 h0 (by decide) (by omega)]
      cases hf : fitsB n 6
      · simp [putL, hf]
      · simp [putL, hf, hl', sizeOK, leB, byteOf, hle]
    · have hf : fitsB n 6 = false := by simp [fitsB, h0]
      simp [h0, hf, putL]
noncomputable def q1 := p10.addSpec 53 put_sp
theorem q1_laws : FLaws Try.prog s05 q1 := p10_laws.addEv s05_laws fun args d h => by
  unfold put_sp at h
  split at h
  · unfold put_s at h
    obtain ⟨hs, h⟩ := staticD_some h
    obtain ⟨h1, h2⟩ := Prod.mk.inj h
    obtain rfl : _ = d := h2
    exact ⟨by simp [D.refs], 40, put_ok _ _ _ _ hs h1⟩
  · cases h
/-! ### loop getLoop: flume/pack.Get, region 7 -/
structure getLoop_St where
  c : Bool
  l : List UInt8
  i : Nat
def getLoop_c (c : Bool) (l : List UInt8) (i : Nat) : Env RC := [(40, .sl (C := RC) .u8 c l), (41, .int .i64 (l.length)), (42, .int .i64 (i : Int)), (8, .int .i64 ((leVal (l.take i) : Int)))]
def getLoop_o (c : Bool) (l : List UInt8) (i : Nat) : List (Obj RC) := []
noncomputable def getLoop_r (c : Bool) (l : List UInt8) (i : Nat) := rndO s05 q1 54 7 40 0 [40, 41, 42, 8] [8] (getLoop_c c l i) (getLoop_o c l i)
theorem getLoop_eq (c : Bool) (l : List UInt8) (i : Nat) : getLoop_r c l i = (bif Decidable.decide ((↑i : Int) < (↑(List.length l) : Int)) then bif Decidable.decide ((0 : Int) ≤ (↑i : Int) ∧ (↑i : Int) < (↑(List.length l) : Int)) then bif Decidable.decide (Go.IntKind.wrap Go.IntKind.i64 ((8 : Int) * (↑i : Int)) < (0 : Int)) then Option.none else Option.some ((Go.Ev.X.normal, [((40 : Nat), Go.Ev.D.sl Go.Ev.RTy.u8 c l), ((41 : Nat), Go.Ev.D.int Go.IntKind.i64 (↑(List.length l) : Int)), ((42 : Nat), Go.Ev.D.int Go.IntKind.i64 (Go.IntKind.wrap Go.IntKind.i64 ((↑i : Int) + (1 : Int)))), ((8 : Nat), Go.Ev.D.int Go.IntKind.i64 (Go.Ev.bits Go.IntKind.i64 (fun (x : Nat) (u v : BitVec x) => u ||| v) (↑(Go.Ev.leVal (List.take i l)) : Int) (Go.IntKind.wrap Go.IntKind.i64 (Go.IntKind.wrap Go.IntKind.i64 (↑(UInt8.toNat (List.getD l (Int.toNat (↑i : Int)) (UInt8.ofBitVec (BitVec.ofNat (8 : Nat) (nat_lit 0))))) : Int) * (2 : Int) ^ Min.min (Int.toNat (Go.IntKind.wrap Go.IntKind.i64 ((8 : Int) * (↑i : Int)))) (64 : Nat)))))]), []) else Option.none else Option.some ((Go.Ev.X.exit (1 : Nat), [((8 : Nat), Go.Ev.D.int Go.IntKind.i64 (↑(Go.Ev.leVal (List.take i l)) : Int))]), [])) := by kernel_rfl
def getLoop_fin (c : Bool) (l : List UInt8) (i : Nat) : RT RC := .leaf (.exit 1) [(8, .int .i64 (leVal l : Int))] []
def getLoop_Inv (c : Bool) (l : List UInt8) (i : Nat) : Prop := i ≤ l.length ∧ l.length ≤ 6
def getLoop_S : LoopR RC getLoop_St where
  k := 0
  canon q := getLoop_c q.c q.l q.i
  objs q := getLoop_o q.c q.l q.i
  fin q := getLoop_fin q.c q.l q.i
  Inv q := getLoop_Inv q.c q.l q.i
  μ q := q.l.length - q.i
theorem getLoop_round (c : Bool) (l : List UInt8) (i : Nat) (hI : getLoop_Inv c l i) : Leaf (getLoop_r c l i) (LedR getLoop_S ⟨c, l, i⟩) := by
  rw [getLoop_eq]
  unfold getLoop_Inv at hI
  obtain ⟨h1, h2⟩ := hI
  by_cases hlt : i < l.length
  · have w_succ : IntKind.i64.wrap ((i : Int) + 1) = ((i + 1 : Nat) : Int) := by rw [wrap_id (by omega) (by omega)]; simp
    have d_lt : decide ((i : Int) < l.length) = true := by simp; omega
    have d_in : decide (0 ≤ (i : Int) ∧ (i : Int) < l.length) = true := by simp; omega
    have t_nat : ((i : Int)).toNat = i := by simp
    simp only [w_succ, d_lt, d_in, t_nat, cond_true]
    have hw8 : IntKind.i64.wrap (8 * (i : Int)) = 8 * (i : Int) := wrap_id (by omega) (by omega)
    have hd8 : decide (IntKind.i64.wrap (8 * (i : Int)) < 0) = false := by rw [hw8]; simp; omega
    have hlen : (l.take i).length = i := by simp; omega
    have hv : leVal (l.take i) < 256 ^ i := by have := leVal_lt (l.take i); rwa [hlen] at this
    have hval : leVal (l.take (i + 1)) = leVal (l.take i) + (l.getD i 0).toNat * 256 ^ i := by
      rw [List.take_add_one, leVal_append, hlen]
      simp [hlt, leVal, Nat.mul_comm]
    simp only [hd8, cond_false]
    refine leafR_go ⟨c, l, i + 1⟩ ⟨hlt, h2⟩ (by simp only [getLoop_S]; omega) (by simp only [getLoop_S, getLoop_fin]) ?_ rfl
    simp only [getLoop_S, getLoop_c, hval]
    exact congrArg (fun z => [(40, D.sl (C := RC) .u8 c l), (41, .int .i64 (l.length : Int)), (42, .int .i64 ((i + 1 : Nat) : Int)), (8, .int .i64 z)]) (bits_or_shift' _ _ _ hv (by omega))
  · have hi : i = l.length := by omega
    have c1 : decide ((i : Int) < l.length) = false := by simp; omega
    rw [c1]
    exact leafR_exit [] (by simp [getLoop_S, getLoop_fin, hi, RT.val]) rfl
def getLoop_d (env : Env RC) (os : List (Obj RC)) : Option (Bool × getLoop_St) := match env, os with
  | [(40, .sl .u8 c l), (41, .int .i64 x0), (42, .int .i64 x1), (8, .int .i64 x2)], [] => staticD (true) (decide (x0 = l.length) && decide (x1 = 0) && decide (x2 = 0) && decide (l.length ≤ 6), ⟨c, l, 0⟩)
  | _, _ => none
noncomputable def q2 := q1.addLoop 54 7 (sumR s05 [] [40, 41, 42, 8] getLoop_S getLoop_d)
theorem q2_laws : FLaws Try.prog s05 q2 := by
  refine q1_laws.addRoundsR s05_laws (by kernel_rfl) getLoop_S 40 [40, 41, 42, 8] [8] [] [40, 41, 42, 8] getLoop_d (fun q hI => ?_) ?_
  · obtain ⟨c, l, i⟩ := q
    refine ⟨?_, ?_, getLoop_round c l i hI⟩
    · simp_all [RefsOK, getLoop_S, getLoop_c, getLoop_o, getLoop_Inv, D.refs, Obj.refs, rEnc]
    · simp_all [getLoop_S, getLoop_fin, getLoop_o, getLoop_Inv, RT.refsOK, RefsOK, D.refs, Obj.refs, rEnc]
  · intro env os b q h hb
    unfold getLoop_d at h
    split at h
    · obtain ⟨hs, h⟩ := staticD_some h
      cases h
      simp only [Bool.and_eq_true, decide_eq_true_eq] at hb
      obtain ⟨⟨⟨rfl, rfl⟩, rfl⟩, hl⟩ := hb
      exact ⟨⟨Nat.zero_le _, hl⟩, rfl, rfl⟩
    · cases h
/-! ### function get: flume/pack.Get -/
def get_s (c : Bool) (b : List UInt8) (a : Int) (w : Int) : Option (Bool × D RC) := some (decide (b.length ≤ 1000000000000), .tup (.acons (.int .i64 (getP b a w).1) (.acons (.int .i64 (getP b a w).2) .anil)))
def get_sp : List (D RC) → Option (Bool × D RC)
  | [.sl .u8 c b, .int .i64 a, .int .i64 w] => get_s c b a w
  | _ => none
noncomputable def get_e (c : Bool) (b : List UInt8) (a : Int) (w : Int) := evF s05 q2 40 54 [.sl (C := RC) .u8 c b, .int .i64 a, .int .i64 w]
theorem get_eq (c : Bool) (b : List UInt8) (a : Int) (w : Int) : get_e c b a w = (bif Decidable.decide (w < (1 : Int)) then Option.some (Go.Ev.D.tup (Go.Ev.D.acons (Go.Ev.D.int Go.IntKind.i64 (0 : Int)) (Go.Ev.D.acons (Go.Ev.D.int Go.IntKind.i64 (2 : Int)) Go.Ev.D.anil))) else bif Decidable.decide ((6 : Int) < w) then Option.some (Go.Ev.D.tup (Go.Ev.D.acons (Go.Ev.D.int Go.IntKind.i64 (0 : Int)) (Go.Ev.D.acons (Go.Ev.D.int Go.IntKind.i64 (2 : Int)) Go.Ev.D.anil))) else bif Decidable.decide (a < (0 : Int)) then Option.some (Go.Ev.D.tup (Go.Ev.D.acons (Go.Ev.D.int Go.IntKind.i64 (0 : Int)) (Go.Ev.D.acons (Go.Ev.D.int Go.IntKind.i64 (50 : Int)) Go.Ev.D.anil))) else bif Go.Ev.lenOK (List.length b) then bif Decidable.decide ((↑(List.length b) : Int) < a) then Option.some (Go.Ev.D.tup (Go.Ev.D.acons (Go.Ev.D.int Go.IntKind.i64 (0 : Int)) (Go.Ev.D.acons (Go.Ev.D.int Go.IntKind.i64 (50 : Int)) Go.Ev.D.anil))) else bif Go.Ev.lenOK (List.length b) then bif Decidable.decide (Go.IntKind.wrap Go.IntKind.i64 ((↑(List.length b) : Int) - a) < w) then Option.some (Go.Ev.D.tup (Go.Ev.D.acons (Go.Ev.D.int Go.IntKind.i64 (0 : Int)) (Go.Ev.D.acons (Go.Ev.D.int Go.IntKind.i64 (50 : Int)) Go.Ev.D.anil))) else bif Decidable.decide ((0 : Int) ≤ a ∧ a ≤ Go.IntKind.wrap Go.IntKind.i64 (a + w) ∧ Go.IntKind.wrap Go.IntKind.i64 (a + w) ≤ (↑(List.length b) : Int)) then bif Go.Ev.lenOK (List.length (List.drop (Int.toNat a) (List.take (Int.toNat (Go.IntKind.wrap Go.IntKind.i64 (a + w))) b))) then bif Decidable.decide ((↑(List.length (List.drop (Int.toNat a) (List.take (Int.toNat (Go.IntKind.wrap Go.IntKind.i64 (a + w))) b))) : Int) = (↑(List.length (List.drop (Int.toNat a) (List.take (Int.toNat (Go.IntKind.wrap Go.IntKind.i64 (a + w))) b))) : Int)) && Bool.true && Bool.true && Decidable.decide (List.length (List.drop (Int.toNat a) (List.take (Int.toNat (Go.IntKind.wrap Go.IntKind.i64 (a + w))) b)) ≤ (6 : Nat)) then Option.some (Go.Ev.D.tup (Go.Ev.D.acons (Go.Ev.D.int Go.IntKind.i64 (↑(Go.Ev.leVal (List.drop (Int.toNat a) (List.take (Int.toNat (Go.IntKind.wrap Go.IntKind.i64 (a + w))) b))) : Int)) (Go.Ev.D.acons (Go.Ev.D.int Go.IntKind.i64 (0 : Int)) Go.Ev.D.anil))) else Option.none else Option.none else Option.none else Option.none else Option.none) := by kernel_rfl
theorem get_ok (c : Bool) (b : List UInt8) (a : Int) (w : Int) (h : (decide (b.length ≤ 1000000000000)) = true) : get_e c b a w = some (.tup (.acons (.int .i64 (getP b a w).1) (.acons (.int .i64 (getP b a w).2) .anil))) := by
  rw [get_eq]
  have hl := of_decide_eq_true h
  have hl' : lenOK b.length = true := lenOK_of (by omega)
  rw [hl']
  by_cases hw : 1 ≤ w ∧ w ≤ 6
  · have w1 : decide (w < 1) = false := by simp; omega
    have w2 : decide (6 < w) = false := by simp; omega
    have w3 : (decide (1 ≤ w) && decide (w ≤ 6)) = true := by simp; omega
    simp only [w1, w2, cond_false, cond_true, getP, w3]
    by_cases ha : 0 ≤ a ∧ a + w ≤ b.length
    · have a1 : decide (a < 0) = false := by simp; omega
      have a2 : decide ((b.length : Int) < a) = false := by simp; omega
      have e1 : IntKind.i64.wrap ((b.length : Int) - a) = b.length - a := wrap_id (by omega) (by omega)
      have e2 : IntKind.i64.wrap (a + w) = a + w := wrap_id (by omega) (by omega)
      have a3 : decide ((b.length : Int) - a < w) = false := by simp; omega
      have a4 : decide (0 ≤ a ∧ a ≤ a + w ∧ a + w ≤ (b.length : Int)) = true := by simp; omega
      have a5 : (decide (0 ≤ a) && decide (a + w ≤ (b.length : Int))) = true := by simp; omega
      have e3 : (List.drop a.toNat (List.take (a + w).toNat b)) = List.take w.toNat (List.drop a.toNat b) := by
        rw [List.drop_take]; congr 1; omega
      have e4 : (List.take w.toNat (List.drop a.toNat b)).length = w.toNat := by simp; omega
      simp only [a1, a2, e1, e2, a3, a4, a5, e3, e4, cond_false, cond_true]
      have a6 : lenOK w.toNat = true := lenOK_of (by omega)
      have a7 : w.toNat ≤ 6 := by omega
      simp [a6, a7]
    · have a5 : (decide (0 ≤ a) && decide (a + w ≤ (b.length : Int))) = false := by simp; omega
      simp only [a5, cond_false]
      by_cases a1 : a < 0
      · simp [a1]
      · by_cases a2 : (b.length : Int) < a
        · simp [a1, a2]
        · have e1 : IntKind.i64.wrap ((b.length : Int) - a) = b.length - a := wrap_id (by omega) (by omega)
          have a3 : decide ((b.length : Int) - a < w) = true := by simp; omega
          simp [a1, a2, e1, a3]
  · have w3 : (decide (1 ≤ w) && decide (w ≤ 6)) = false := by simp; omega
    simp only [getP, w3]
    by_cases w1 : w < 1
    · simp [w1]
    · have w2 : 6 < w := by omega
      simp [w1, w2]
noncomputable def q3 := q2.addSpec 54 get_sp
theorem q3_laws : FLaws Try.prog s05 q3 := q2_laws.addEv s05_laws fun args d h => by
  unfold get_sp at h
  split at h
  · unfold get_s at h
    have h1 := congrArg Prod.fst (Option.some.inj h)
    obtain rfl : _ = d := congrArg Prod.snd (Option.some.inj h)
    exact ⟨by simp [D.refs], 40, get_ok _ _ _ _ h1⟩
  · cases h
end Go.Ev

