/-
  RingSpace returns true for any numbers, and they read behind the call as before. No condition beyond the given statement. (text 4)
-/
import Derived.Test.YtnockfncodafeaaGreatP2
import Derived.OpenShut
import Derived.ReadAgain
import Derived.WalkKit
import Derived.ProofKit
import Derived.Test.YtnockfncodafeaaGreatRows
namespace Go.Ev
open Go.Proofs
set_option maxRecDepth 100000
set_option linter.unusedVariables false
set_option linter.unusedSimpArgs false
def goes_s (c : Int) (st : List Frame) (got : List Int) (over : Bool) (own : Bool) : Option (Bool × D RC) := some (okG c st got && !over, .tup (.acons (.acons (.int .i64 c) (.acons (.sl (C := RC) .frame false (goR st got).st) (.acons (.sl (C := RC) .int false (goR st got).got) (.acons (.bool (goR st got).over) .anil)))) (.acons (.acons (.int .i8 (goR st got).kind) (.acons (.int .i64 (goR st got).a) (.acons (.int .i64 (goR st got).b) (.acons (.int .i64 (goR st got).v) (.acons (.int .i64 0) (.acons (.str []) (.acons (.sl (C := RC) .int true []) .anil))))))) (.acons (.bool (goR st got).is) .anil))))
def goes_sp : List (D RC) → Option (Bool × D RC)
  | [.acons (.int .i64 c) (.acons (.sl .frame false st) (.acons (.sl .int false got) (.acons (.bool over) .anil))), .bool own] => goes_s c st got over own
  | _ => none
noncomputable def goes_e (c : Int) (st : List Frame) (got : List Int) (over : Bool) (own : Bool) := evF s17 ub_1 200 22 [.acons (.int .i64 c) (.acons (.sl (C := RC) .frame false st) (.acons (.sl (C := RC) .int false got) (.acons (.bool over) .anil))), .bool own]
theorem goesT0 (c : Int) (r : List Int) : goes_e c [⟨68, 0, r⟩] [] false true = (let Z0 : List Frame := [Frame.mk (68 : Int) (0 : Int) r]; let Z1 : D RC := D.acons (D.bool false) .anil; let Z2 : D RC := D.acons (D.sl RTy.int false []) Z1; let Z3 : D RC := D.int .i64 0; let Z4 : D RC := D.acons (D.int IntKind.i8 (0 : Int)) (.acons (D.int .i64 1) (.acons Z3 (D.acons Z3 (D.acons Z3 (D.acons (D.str []) (.acons (D.sl RTy.int true []) .anil)))))); let Z5 : DO_ := some (D.tup (D.acons (D.acons (D.int .i64 c) (.acons (D.sl RTy.frame false Z0) Z2)) (.acons Z4 Z1))); let Z6 : Nat := Int.toNat (IntKind.wrap .i64 ((↑Z0.length : Int) - (1 : Int))); let Z7 : Frame := List.getD Z0 Z6 (Frame.mk (0 : Int) (0 : Int) (List.replicate (96 : Nat) (0 : Int))); bif decide (c < (0 : Int)) then Z5 else bif decide ((4 : Int) ≤ c) then Z5 else some (D.tup (D.acons (D.acons (D.int .i64 c) (.acons (D.sl RTy.frame false ([] ++ List.drop (0 : Nat) (List.take Z6 Z0) ++ [Frame.mk (Frame.prog Z7) (1 : Int) (Frame.r Z7)])) Z2)) (.acons Z4 (D.acons (D.bool true) .anil))))) := by kernel_rfl
theorem goesF0 (c : Int) (r : List Int) : goes_e c [⟨68, 0, r⟩] [] false false = (let Z0 : List Frame := [Frame.mk (68 : Int) (0 : Int) r]; let Z1 : D RC := D.acons (D.bool false) .anil; let Z2 : D RC := D.acons (D.sl RTy.int false []) Z1; let Z3 : D RC := D.int .i64 0; let Z4 : D RC := D.acons (D.int IntKind.i8 (0 : Int)) (.acons (D.int .i64 1) (.acons Z3 (D.acons Z3 (D.acons Z3 (D.acons (D.str []) (.acons (D.sl RTy.int true []) .anil)))))); let Z5 : DO_ := some (D.tup (D.acons (D.acons (D.int .i64 c) (.acons (D.sl RTy.frame false Z0) Z2)) (.acons Z4 Z1))); let Z6 : Nat := Int.toNat (IntKind.wrap .i64 ((↑Z0.length : Int) - (1 : Int))); let Z7 : Frame := List.getD Z0 Z6 (Frame.mk (0 : Int) (0 : Int) (List.replicate (96 : Nat) (0 : Int))); bif decide (c < (0 : Int)) then Z5 else bif decide ((4 : Int) ≤ c) then Z5 else some (D.tup (D.acons (D.acons (D.int .i64 c) (.acons (D.sl RTy.frame false ([] ++ List.drop (0 : Nat) (List.take Z6 Z0) ++ [Frame.mk (Frame.prog Z7) (1 : Int) (Frame.r Z7)])) Z2)) (.acons Z4 (D.acons (D.bool true) .anil))))) := by kernel_rfl
theorem goesT1 (c x : Int) (r : List Int) : goes_e c [⟨68, 1, r⟩] [x] false true = (let Z0 : List Frame := [Frame.mk (68 : Int) (1 : Int) r]; let Z1 : D RC := D.acons (D.bool false) .anil; let Z2 : D RC := D.acons (D.sl RTy.int false [x]) Z1; let Z3 : D RC := D.int .i64 0; let Z4 : D RC := D.acons (D.int IntKind.i8 (0 : Int)) (.acons Z3 (D.acons Z3 (D.acons Z3 (D.acons Z3 (D.acons (D.str []) (.acons (D.sl RTy.int true []) .anil)))))); let Z5 : DO_ := some (D.tup (D.acons (D.acons (D.int .i64 c) (.acons (D.sl RTy.frame false Z0) Z2)) (.acons Z4 Z1))); let Z6 : Nat := Int.toNat (IntKind.wrap .i64 ((↑Z0.length : Int) - (1 : Int))); let Z7 : Frame := List.getD Z0 Z6 (Frame.mk (0 : Int) (0 : Int) (List.replicate (96 : Nat) (0 : Int))); bif decide (c < (0 : Int)) then Z5 else bif decide ((4 : Int) ≤ c) then Z5 else some (D.tup (D.acons (D.acons (D.int .i64 c) (.acons (D.sl RTy.frame false ([] ++ List.drop (0 : Nat) (List.take Z6 Z0) ++ [Frame.mk (Frame.prog Z7) (2 : Int) (List.set (Frame.r Z7) (2 : Nat) x)])) Z2)) (.acons Z4 (D.acons (D.bool true) .anil))))) := by kernel_rfl
theorem goesF1 (c x : Int) (r : List Int) : goes_e c [⟨68, 1, r⟩] [x] false false = (let Z0 : List Frame := [Frame.mk (68 : Int) (1 : Int) r]; let Z1 : D RC := D.acons (D.bool false) .anil; let Z2 : D RC := D.acons (D.sl RTy.int false [x]) Z1; let Z3 : D RC := D.int .i64 0; let Z4 : D RC := D.acons (D.int IntKind.i8 (0 : Int)) (.acons Z3 (D.acons Z3 (D.acons Z3 (D.acons Z3 (D.acons (D.str []) (.acons (D.sl RTy.int true []) .anil)))))); let Z5 : DO_ := some (D.tup (D.acons (D.acons (D.int .i64 c) (.acons (D.sl RTy.frame false Z0) Z2)) (.acons Z4 Z1))); let Z6 : Nat := Int.toNat (IntKind.wrap .i64 ((↑Z0.length : Int) - (1 : Int))); let Z7 : Frame := List.getD Z0 Z6 (Frame.mk (0 : Int) (0 : Int) (List.replicate (96 : Nat) (0 : Int))); bif decide (c < (0 : Int)) then Z5 else bif decide ((4 : Int) ≤ c) then Z5 else some (D.tup (D.acons (D.acons (D.int .i64 c) (.acons (D.sl RTy.frame false ([] ++ List.drop (0 : Nat) (List.take Z6 Z0) ++ [Frame.mk (Frame.prog Z7) (2 : Int) (List.set (Frame.r Z7) (2 : Nat) x)])) Z2)) (.acons Z4 (D.acons (D.bool true) .anil))))) := by kernel_rfl
theorem goesT2 (c x : Int) (r : List Int) : goes_e c [⟨68, 2, r⟩] [x] false true = (let Z0 : List Frame := [Frame.mk (68 : Int) (2 : Int) r]; let Z1 : Int := IntKind.wrap .i64 ((↑Z0.length : Int) - (1 : Int)); let Z2 : Nat := Int.toNat Z1; let Z3 : Frame := List.getD Z0 Z2 (Frame.mk (0 : Int) (0 : Int) (List.replicate (96 : Nat) (0 : Int))); let Z4 : List Int := Frame.r Z3; let Z5 : Int := List.getD Z4 (2 : Nat) (0 : Int); let Z6 : Bool := decide (c < (0 : Int)); let Z7 : D RC := D.int .i64 c; let Z8 : D RC := .anil; let Z9 : D RC := D.acons (D.bool false) Z8; let Z10 : D RC := D.acons (D.sl RTy.int false [x]) Z9; let Z11 : D RC := D.acons Z7 (D.acons (D.sl RTy.frame false Z0) Z10); let Z12 : D RC := D.int IntKind.i8 (7 : Int); let Z13 : D RC := D.int .i64 0; let Z14 : DO_ := some (D.tup (D.acons Z11 (D.acons (D.acons Z12 (D.acons Z13 (D.acons Z13 (D.acons Z13 (D.acons Z13 (D.acons (D.str []) (.acons (D.sl RTy.int true [(170 : Int)]) Z8))))))) Z9))); let Z15 : Bool := decide ((4 : Int) ≤ c); let Z16 : List Frame := [] ++ List.drop (0 : Nat) (List.take Z2 Z0); let Z17 : D RC := D.sl RTy.frame false (List.drop (0 : Nat) (List.take Z2 (Z16 ++ [Frame.mk (Frame.prog Z3) (Frame.at' Z3) Z4]))); let Z18 : D RC := D.acons (D.bool (Z1 == (0 : Int))) Z8; let Z19 : D RC := D.int IntKind.i8 (0 : Int); let Z20 : D RC := D.acons Z13 (D.acons Z13 (D.acons Z13 (D.acons (D.str []) (.acons (D.sl RTy.int true []) Z8)))); let Z21 : D RC := D.acons (D.acons Z19 (D.acons Z13 Z20)) Z9; let Z22 : DO_ := some (D.tup (D.acons Z11 (D.acons (D.acons Z12 (D.acons Z13 (D.acons Z13 (D.acons Z13 (D.acons Z13 (D.acons (D.str []) (.acons (D.sl RTy.int true [(172 : Int)]) Z8))))))) Z9))); let Z23 : D RC := D.acons Z19 (D.acons (D.int .i64 4) Z20); let Z24 : DO_ := some (D.tup (D.acons Z11 (D.acons Z23 Z9))); bif decide (IntKind.wrap .i64 (x + List.getD Z4 (0 : Nat) (0 : Int)) < Z5) then bif Z6 then Z14 else bif Z15 then Z14 else some (D.tup (D.acons (D.acons Z7 (D.acons Z17 (D.acons (D.sl RTy.int false ([] ++ [(170 : Int)])) Z18))) Z21)) else bif decide ((1048575 : Int) < Z5) then bif Z6 then Z22 else bif Z15 then Z22 else some (D.tup (D.acons (D.acons Z7 (D.acons Z17 (D.acons (D.sl RTy.int false ([] ++ [(172 : Int)])) Z18))) Z21)) else bif Z6 then Z24 else bif Z15 then Z24 else some (D.tup (D.acons (D.acons Z7 (D.acons (D.sl RTy.frame false (Z16 ++ [Frame.mk (Frame.prog Z3) (3 : Int) Z4])) Z10)) (.acons Z23 (D.acons (D.bool true) Z8))))) := by kernel_rfl
theorem goesF2 (c x : Int) (r : List Int) : goes_e c [⟨68, 2, r⟩] [x] false false = (let Z0 : List Frame := [Frame.mk (68 : Int) (2 : Int) r]; let Z1 : Int := IntKind.wrap .i64 ((↑Z0.length : Int) - (1 : Int)); let Z2 : Nat := Int.toNat Z1; let Z3 : Frame := List.getD Z0 Z2 (Frame.mk (0 : Int) (0 : Int) (List.replicate (96 : Nat) (0 : Int))); let Z4 : List Int := Frame.r Z3; let Z5 : Int := List.getD Z4 (2 : Nat) (0 : Int); let Z6 : Bool := decide (c < (0 : Int)); let Z7 : D RC := D.int .i64 c; let Z8 : D RC := .anil; let Z9 : D RC := D.acons (D.bool false) Z8; let Z10 : D RC := D.acons (D.sl RTy.int false [x]) Z9; let Z11 : D RC := D.acons Z7 (D.acons (D.sl RTy.frame false Z0) Z10); let Z12 : D RC := D.int IntKind.i8 (7 : Int); let Z13 : D RC := D.int .i64 0; let Z14 : DO_ := some (D.tup (D.acons Z11 (D.acons (D.acons Z12 (D.acons Z13 (D.acons Z13 (D.acons Z13 (D.acons Z13 (D.acons (D.str []) (.acons (D.sl RTy.int true [(170 : Int)]) Z8))))))) Z9))); let Z15 : Bool := decide ((4 : Int) ≤ c); let Z16 : List Frame := [] ++ List.drop (0 : Nat) (List.take Z2 Z0); let Z17 : D RC := D.sl RTy.frame false (List.drop (0 : Nat) (List.take Z2 (Z16 ++ [Frame.mk (Frame.prog Z3) (Frame.at' Z3) Z4]))); let Z18 : D RC := D.acons (D.bool (Z1 == (0 : Int))) Z8; let Z19 : D RC := D.int IntKind.i8 (0 : Int); let Z20 : D RC := D.acons Z13 (D.acons Z13 (D.acons Z13 (D.acons (D.str []) (.acons (D.sl RTy.int true []) Z8)))); let Z21 : D RC := D.acons (D.acons Z19 (D.acons Z13 Z20)) Z9; let Z22 : DO_ := some (D.tup (D.acons Z11 (D.acons (D.acons Z12 (D.acons Z13 (D.acons Z13 (D.acons Z13 (D.acons Z13 (D.acons (D.str []) (.acons (D.sl RTy.int true [(172 : Int)]) Z8))))))) Z9))); let Z23 : D RC := D.acons Z19 (D.acons (D.int .i64 4) Z20); let Z24 : DO_ := some (D.tup (D.acons Z11 (D.acons Z23 Z9))); bif decide (IntKind.wrap .i64 (x + List.getD Z4 (0 : Nat) (0 : Int)) < Z5) then bif Z6 then Z14 else bif Z15 then Z14 else some (D.tup (D.acons (D.acons Z7 (D.acons Z17 (D.acons (D.sl RTy.int false ([] ++ [(170 : Int)])) Z18))) Z21)) else bif decide ((1048575 : Int) < Z5) then bif Z6 then Z22 else bif Z15 then Z22 else some (D.tup (D.acons (D.acons Z7 (D.acons Z17 (D.acons (D.sl RTy.int false ([] ++ [(172 : Int)])) Z18))) Z21)) else bif Z6 then Z24 else bif Z15 then Z24 else some (D.tup (D.acons (D.acons Z7 (D.acons (D.sl RTy.frame false (Z16 ++ [Frame.mk (Frame.prog Z3) (3 : Int) Z4])) Z10)) (.acons Z23 (D.acons (D.bool true) Z8))))) := by kernel_rfl
theorem goesT3 (c x : Int) (r : List Int) : goes_e c [⟨68, 3, r⟩] [x] false true = (let Z0 : List Frame := [Frame.mk (68 : Int) (3 : Int) r]; let Z1 : Int := IntKind.wrap .i64 ((↑Z0.length : Int) - (1 : Int)); let Z2 : Nat := Int.toNat Z1; let Z3 : Frame := List.getD Z0 Z2 (Frame.mk (0 : Int) (0 : Int) (List.replicate (96 : Nat) (0 : Int))); let Z4 : List Int := Frame.r Z3; let Z5 : Int := List.getD Z4 (2 : Nat) (0 : Int); let Z6 : Bool := decide (c < (0 : Int)); let Z7 : D RC := D.int .i64 c; let Z8 : D RC := .anil; let Z9 : D RC := D.acons (D.bool false) Z8; let Z10 : D RC := D.acons (D.sl RTy.int false [x]) Z9; let Z11 : D RC := D.acons Z7 (D.acons (D.sl RTy.frame false Z0) Z10); let Z12 : D RC := D.int .i64 0; let Z13 : DO_ := some (D.tup (D.acons Z11 (D.acons (D.acons (D.int IntKind.i8 (7 : Int)) (.acons Z12 (D.acons Z12 (D.acons Z12 (D.acons Z12 (D.acons (D.str []) (.acons (D.sl RTy.int true [(171 : Int)]) Z8))))))) Z9))); let Z14 : List Frame := [] ++ List.drop (0 : Nat) (List.take Z2 Z0); let Z15 : D RC := D.acons (D.bool (Z1 == (0 : Int))) Z8; let Z16 : D RC := D.int IntKind.i8 (0 : Int); let Z17 : D RC := D.acons Z12 (D.acons Z12 (D.acons Z12 (D.acons (D.str []) (.acons (D.sl RTy.int true []) Z8)))); let Z18 : D RC := D.acons (D.acons Z16 (D.acons Z12 Z17)) Z9; let Z19 : Int := lRing Z5 (List.getD Z4 (0 : Nat) (0 : Int)); let Z20 : D RC := D.acons Z16 (D.acons (D.int .i64 Z19) Z17); let Z21 : DO_ := some (D.tup (D.acons Z11 (D.acons Z20 Z9))); let Z22 : Bool := mayAct (0 : Int) Z19 (0 : Int) (0 : Int) (0 : Int) [] []; let Z23 : List Frame := Z14 ++ [Frame.mk (Frame.prog Z3) (4 : Int) Z4]; bif decide (x < IntKind.wrap .i64 (Z5 - (32 : Int))) then bif Z6 then Z13 else bif decide ((4 : Int) ≤ c) then Z13 else some (D.tup (D.acons (D.acons Z7 (D.acons (D.sl RTy.frame false (List.drop (0 : Nat) (List.take Z2 (Z14 ++ [Frame.mk (Frame.prog Z3) (Frame.at' Z3) Z4])))) (.acons (D.sl RTy.int false ([] ++ [(171 : Int)])) Z15))) Z18)) else bif Z6 then Z21 else bif decide ((4 : Int) ≤ c) then Z21 else bif !Z22 then Z21 else bif Z22 then some (D.tup (D.acons (D.acons Z7 (D.acons (D.sl RTy.frame false Z23) Z10)) (.acons Z20 (D.acons (D.bool true) Z8)))) else some (D.tup (D.acons (D.acons Z7 (D.acons (D.sl RTy.frame false (List.drop (0 : Nat) (List.take Z2 Z23))) (.acons (D.sl RTy.int false ([] ++ [])) Z15))) Z18))) := by kernel_rfl
theorem goesF3 (c x : Int) (r : List Int) : goes_e c [⟨68, 3, r⟩] [x] false false = (let Z0 : List Frame := [Frame.mk (68 : Int) (3 : Int) r]; let Z1 : Int := IntKind.wrap .i64 ((↑Z0.length : Int) - (1 : Int)); let Z2 : Nat := Int.toNat Z1; let Z3 : Frame := List.getD Z0 Z2 (Frame.mk (0 : Int) (0 : Int) (List.replicate (96 : Nat) (0 : Int))); let Z4 : List Int := Frame.r Z3; let Z5 : Int := List.getD Z4 (2 : Nat) (0 : Int); let Z6 : Bool := decide (c < (0 : Int)); let Z7 : D RC := D.int .i64 c; let Z8 : D RC := .anil; let Z9 : D RC := D.acons (D.bool false) Z8; let Z10 : D RC := D.acons (D.sl RTy.int false [x]) Z9; let Z11 : D RC := D.acons Z7 (D.acons (D.sl RTy.frame false Z0) Z10); let Z12 : D RC := D.int .i64 0; let Z13 : DO_ := some (D.tup (D.acons Z11 (D.acons (D.acons (D.int IntKind.i8 (7 : Int)) (.acons Z12 (D.acons Z12 (D.acons Z12 (D.acons Z12 (D.acons (D.str []) (.acons (D.sl RTy.int true [(171 : Int)]) Z8))))))) Z9))); let Z14 : List Frame := [] ++ List.drop (0 : Nat) (List.take Z2 Z0); let Z15 : D RC := D.acons (D.bool (Z1 == (0 : Int))) Z8; let Z16 : D RC := D.int IntKind.i8 (0 : Int); let Z17 : D RC := D.acons Z12 (D.acons Z12 (D.acons Z12 (D.acons (D.str []) (.acons (D.sl RTy.int true []) Z8)))); let Z18 : D RC := D.acons (D.acons Z16 (D.acons Z12 Z17)) Z9; let Z19 : Int := lRing Z5 (List.getD Z4 (0 : Nat) (0 : Int)); let Z20 : D RC := D.acons Z16 (D.acons (D.int .i64 Z19) Z17); let Z21 : DO_ := some (D.tup (D.acons Z11 (D.acons Z20 Z9))); let Z22 : Bool := mayAct (0 : Int) Z19 (0 : Int) (0 : Int) (0 : Int) [] []; let Z23 : List Frame := Z14 ++ [Frame.mk (Frame.prog Z3) (4 : Int) Z4]; bif decide (x < IntKind.wrap .i64 (Z5 - (32 : Int))) then bif Z6 then Z13 else bif decide ((4 : Int) ≤ c) then Z13 else some (D.tup (D.acons (D.acons Z7 (D.acons (D.sl RTy.frame false (List.drop (0 : Nat) (List.take Z2 (Z14 ++ [Frame.mk (Frame.prog Z3) (Frame.at' Z3) Z4])))) (.acons (D.sl RTy.int false ([] ++ [(171 : Int)])) Z15))) Z18)) else bif Z6 then Z21 else bif decide ((4 : Int) ≤ c) then Z21 else bif !Z22 then Z21 else bif Z22 then some (D.tup (D.acons (D.acons Z7 (D.acons (D.sl RTy.frame false Z23) Z10)) (.acons Z20 (D.acons (D.bool true) Z8)))) else some (D.tup (D.acons (D.acons Z7 (D.acons (D.sl RTy.frame false (List.drop (0 : Nat) (List.take Z2 Z23))) (.acons (D.sl RTy.int false ([] ++ [])) Z15))) Z18))) := by kernel_rfl
theorem goesT4 (c x : Int) (r : List Int) : goes_e c [⟨68, 4, r⟩] [x] false true = (let Z0 : List Frame := [Frame.mk (68 : Int) (4 : Int) r]; let Z1 : Int := IntKind.wrap .i64 ((↑Z0.length : Int) - (1 : Int)); let Z2 : Nat := Int.toNat Z1; let Z3 : Frame := List.getD Z0 Z2 (Frame.mk (0 : Int) (0 : Int) (List.replicate (96 : Nat) (0 : Int))); let Z4 : List Int := Frame.r Z3; let Z5 : Int := List.getD Z4 (2 : Nat) (0 : Int); let Z6 : Bool := decide (c < (0 : Int)); let Z7 : D RC := D.int .i64 c; let Z8 : D RC := D.acons (D.bool false) .anil; let Z9 : D RC := D.acons (D.sl RTy.int false [x]) Z8; let Z10 : D RC := D.acons Z7 (D.acons (D.sl RTy.frame false Z0) Z9); let Z11 : D RC := D.int IntKind.i8 (2 : Int); let Z12 : D RC := D.int .i64 1; let Z13 : Int := IntKind.wrap .i64 (Z5 + (1 : Int)); let Z14 : D RC := D.int .i64 0; let Z15 : D RC := D.acons Z14 (D.acons (D.str []) (.acons (D.sl RTy.int true []) .anil)); let Z16 : D RC := D.acons Z11 (D.acons Z12 (D.acons (D.int .i64 Z5) (.acons (D.int .i64 Z13) Z15))); let Z17 : DO_ := some (D.tup (D.acons Z10 (D.acons Z16 Z8))); let Z18 : Bool := decide ((4 : Int) ≤ c); let Z19 : Bool := mayAct (2 : Int) (1 : Int) Z5 Z13 (0 : Int) [] []; let Z20 : List Frame := [] ++ List.drop (0 : Nat) (List.take Z2 Z0); let Z21 : Int := Frame.prog Z3; let Z22 : List Int := List.set Z4 (3 : Nat) x; let Z23 : List Frame := Z20 ++ [Frame.mk Z21 (5 : Int) Z22]; let Z24 : D RC := D.acons (D.bool true) .anil; let Z25 : D RC := D.acons (D.sl RTy.int false ([] ++ [])) (.acons (D.bool (Z1 == (0 : Int))) .anil); let Z26 : D RC := D.int IntKind.i8 (0 : Int); let Z27 : D RC := D.acons Z14 (D.acons Z14 Z15); let Z28 : D RC := D.acons (D.acons Z26 (D.acons Z14 Z27)) Z8; let Z29 : D RC := D.acons Z26 (D.acons Z12 Z27); let Z30 : DO_ := some (D.tup (D.acons Z10 (D.acons Z29 Z8))); let Z31 : Int := lRing Z5 (List.getD Z4 (0 : Nat) (0 : Int)); let Z32 : Int := wordN Z5 (List.getD Z4 (1 : Nat) (0 : Int)); let Z33 : D RC := D.acons Z11 (D.acons (D.int .i64 Z31) (.acons (D.int .i64 x) (.acons (D.int .i64 Z32) Z15))); let Z34 : DO_ := some (D.tup (D.acons Z10 (D.acons Z33 Z8))); let Z35 : Bool := mayAct (2 : Int) Z31 x Z32 (0 : Int) [] []; let Z36 : List Frame := Z20 ++ [Frame.mk Z21 (6 : Int) Z22]; bif plc x == Z5 then bif Z6 then Z17 else bif Z18 then Z17 else bif !Z19 then Z17 else bif Z19 then some (D.tup (D.acons (D.acons Z7 (D.acons (D.sl RTy.frame false Z23) Z9)) (.acons Z16 Z24))) else some (D.tup (D.acons (D.acons Z7 (D.acons (D.sl RTy.frame false (List.drop (0 : Nat) (List.take Z2 Z23))) Z25)) Z28)) else bif decide (Z5 < plc x) then bif Z6 then Z30 else bif Z18 then Z30 else some (D.tup (D.acons (D.acons Z7 (D.acons (D.sl RTy.frame false (Z20 ++ [Frame.mk Z21 (1 : Int) Z22])) Z9)) (.acons Z29 Z24))) else bif Z6 then Z34 else bif Z18 then Z34 else bif !Z35 then Z34 else bif Z35 then some (D.tup (D.acons (D.acons Z7 (D.acons (D.sl RTy.frame false Z36) Z9)) (.acons Z33 Z24))) else some (D.tup (D.acons (D.acons Z7 (D.acons (D.sl RTy.frame false (List.drop (0 : Nat) (List.take Z2 Z36))) Z25)) Z28))) := by kernel_rfl
theorem goesF4 (c x : Int) (r : List Int) : goes_e c [⟨68, 4, r⟩] [x] false false = (let Z0 : List Frame := [Frame.mk (68 : Int) (4 : Int) r]; let Z1 : Int := IntKind.wrap .i64 ((↑Z0.length : Int) - (1 : Int)); let Z2 : Nat := Int.toNat Z1; let Z3 : Frame := List.getD Z0 Z2 (Frame.mk (0 : Int) (0 : Int) (List.replicate (96 : Nat) (0 : Int))); let Z4 : List Int := List.set (Frame.r Z3) (3 : Nat) x; let Z5 : Int := List.getD Z4 (2 : Nat) (0 : Int); let Z6 : Bool := decide (c < (0 : Int)); let Z7 : D RC := D.int .i64 c; let Z8 : D RC := D.acons (D.bool false) .anil; let Z9 : D RC := D.acons (D.sl RTy.int false [x]) Z8; let Z10 : D RC := D.acons Z7 (D.acons (D.sl RTy.frame false Z0) Z9); let Z11 : D RC := D.int IntKind.i8 (2 : Int); let Z12 : D RC := D.int .i64 1; let Z13 : Int := IntKind.wrap .i64 (Z5 + (1 : Int)); let Z14 : D RC := D.int .i64 0; let Z15 : D RC := D.acons Z14 (D.acons (D.str []) (.acons (D.sl RTy.int true []) .anil)); let Z16 : D RC := D.acons Z11 (D.acons Z12 (D.acons (D.int .i64 Z5) (.acons (D.int .i64 Z13) Z15))); let Z17 : DO_ := some (D.tup (D.acons Z10 (D.acons Z16 Z8))); let Z18 : Bool := decide ((4 : Int) ≤ c); let Z19 : Bool := mayAct (2 : Int) (1 : Int) Z5 Z13 (0 : Int) [] []; let Z20 : List Frame := [] ++ List.drop (0 : Nat) (List.take Z2 Z0); let Z21 : Int := Frame.prog Z3; let Z22 : List Frame := Z20 ++ [Frame.mk Z21 (5 : Int) Z4]; let Z23 : D RC := D.acons (D.bool true) .anil; let Z24 : D RC := D.acons (D.sl RTy.int false ([] ++ [])) (.acons (D.bool (Z1 == (0 : Int))) .anil); let Z25 : D RC := D.int IntKind.i8 (0 : Int); let Z26 : D RC := D.acons Z14 (D.acons Z14 Z15); let Z27 : D RC := D.acons (D.acons Z25 (D.acons Z14 Z26)) Z8; let Z28 : D RC := D.acons Z25 (D.acons Z12 Z26); let Z29 : DO_ := some (D.tup (D.acons Z10 (D.acons Z28 Z8))); let Z30 : Int := lRing Z5 (List.getD Z4 (0 : Nat) (0 : Int)); let Z31 : Int := wordN Z5 (List.getD Z4 (1 : Nat) (0 : Int)); let Z32 : D RC := D.acons Z11 (D.acons (D.int .i64 Z30) (.acons (D.int .i64 x) (.acons (D.int .i64 Z31) Z15))); let Z33 : DO_ := some (D.tup (D.acons Z10 (D.acons Z32 Z8))); let Z34 : Bool := mayAct (2 : Int) Z30 x Z31 (0 : Int) [] []; let Z35 : List Frame := Z20 ++ [Frame.mk Z21 (6 : Int) Z4]; bif plc x == Z5 then bif Z6 then Z17 else bif Z18 then Z17 else bif !Z19 then Z17 else bif Z19 then some (D.tup (D.acons (D.acons Z7 (D.acons (D.sl RTy.frame false Z22) Z9)) (.acons Z16 Z23))) else some (D.tup (D.acons (D.acons Z7 (D.acons (D.sl RTy.frame false (List.drop (0 : Nat) (List.take Z2 Z22))) Z24)) Z27)) else bif decide (Z5 < plc x) then bif Z6 then Z29 else bif Z18 then Z29 else some (D.tup (D.acons (D.acons Z7 (D.acons (D.sl RTy.frame false (Z20 ++ [Frame.mk Z21 (1 : Int) Z4])) Z9)) (.acons Z28 Z23))) else bif Z6 then Z33 else bif Z18 then Z33 else bif !Z34 then Z33 else bif Z34 then some (D.tup (D.acons (D.acons Z7 (D.acons (D.sl RTy.frame false Z35) Z9)) (.acons Z32 Z23))) else some (D.tup (D.acons (D.acons Z7 (D.acons (D.sl RTy.frame false (List.drop (0 : Nat) (List.take Z2 Z35))) Z24)) Z27))) := by kernel_rfl
theorem goesT5 (c x : Int) (r : List Int) : goes_e c [⟨68, 5, r⟩] [x] false true = (let Z0 : List Frame := [Frame.mk (68 : Int) (5 : Int) r]; let Z1 : D RC := D.acons (D.bool false) .anil; let Z2 : D RC := D.acons (D.sl RTy.int false [x]) Z1; let Z3 : D RC := D.int .i64 0; let Z4 : D RC := D.acons (D.int IntKind.i8 (0 : Int)) (.acons (D.int .i64 1) (.acons Z3 (D.acons Z3 (D.acons Z3 (D.acons (D.str []) (.acons (D.sl RTy.int true []) .anil)))))); let Z5 : DO_ := some (D.tup (D.acons (D.acons (D.int .i64 c) (.acons (D.sl RTy.frame false Z0) Z2)) (.acons Z4 Z1))); let Z6 : Nat := Int.toNat (IntKind.wrap .i64 ((↑Z0.length : Int) - (1 : Int))); let Z7 : Frame := List.getD Z0 Z6 (Frame.mk (0 : Int) (0 : Int) (List.replicate (96 : Nat) (0 : Int))); bif decide (c < (0 : Int)) then Z5 else bif decide ((4 : Int) ≤ c) then Z5 else some (D.tup (D.acons (D.acons (D.int .i64 c) (.acons (D.sl RTy.frame false ([] ++ List.drop (0 : Nat) (List.take Z6 Z0) ++ [Frame.mk (Frame.prog Z7) (1 : Int) (Frame.r Z7)])) Z2)) (.acons Z4 (D.acons (D.bool true) .anil))))) := by kernel_rfl
theorem goesF5 (c x : Int) (r : List Int) : goes_e c [⟨68, 5, r⟩] [x] false false = (let Z0 : List Frame := [Frame.mk (68 : Int) (5 : Int) r]; let Z1 : D RC := D.acons (D.bool false) .anil; let Z2 : D RC := D.acons (D.sl RTy.int false [x]) Z1; let Z3 : D RC := D.int .i64 0; let Z4 : D RC := D.acons (D.int IntKind.i8 (0 : Int)) (.acons (D.int .i64 1) (.acons Z3 (D.acons Z3 (D.acons Z3 (D.acons (D.str []) (.acons (D.sl RTy.int true []) .anil)))))); let Z5 : DO_ := some (D.tup (D.acons (D.acons (D.int .i64 c) (.acons (D.sl RTy.frame false Z0) Z2)) (.acons Z4 Z1))); let Z6 : Nat := Int.toNat (IntKind.wrap .i64 ((↑Z0.length : Int) - (1 : Int))); let Z7 : Frame := List.getD Z0 Z6 (Frame.mk (0 : Int) (0 : Int) (List.replicate (96 : Nat) (0 : Int))); bif decide (c < (0 : Int)) then Z5 else bif decide ((4 : Int) ≤ c) then Z5 else some (D.tup (D.acons (D.acons (D.int .i64 c) (.acons (D.sl RTy.frame false ([] ++ List.drop (0 : Nat) (List.take Z6 Z0) ++ [Frame.mk (Frame.prog Z7) (1 : Int) (Frame.r Z7)])) Z2)) (.acons Z4 (D.acons (D.bool true) .anil))))) := by kernel_rfl
theorem goesT6 (c x : Int) (r : List Int) : goes_e c [⟨68, 6, r⟩] [x] false true = (let Z0 : Bool := decide (c < (0 : Int)); let Z1 : D RC := D.int .i64 c; let Z2 : List Frame := [Frame.mk (68 : Int) (6 : Int) r]; let Z3 : D RC := D.acons (D.bool false) .anil; let Z4 : D RC := D.acons (D.sl RTy.int false [x]) Z3; let Z5 : D RC := D.acons Z1 (D.acons (D.sl RTy.frame false Z2) Z4); let Z6 : D RC := D.int IntKind.i8 (0 : Int); let Z7 : D RC := D.int .i64 1; let Z8 : D RC := D.int .i64 0; let Z9 : D RC := D.acons Z8 (D.acons (D.str []) (.acons (D.sl RTy.int true []) .anil)); let Z10 : D RC := D.acons Z8 (D.acons Z8 Z9); let Z11 : D RC := D.acons Z6 (D.acons Z7 Z10); let Z12 : DO_ := some (D.tup (D.acons Z5 (D.acons Z11 Z3))); let Z13 : Int := IntKind.wrap .i64 ((↑Z2.length : Int) - (1 : Int)); let Z14 : Nat := Int.toNat Z13; let Z15 : List Frame := [] ++ List.drop (0 : Nat) (List.take Z14 Z2); let Z16 : Frame := List.getD Z2 Z14 (Frame.mk (0 : Int) (0 : Int) (List.replicate (96 : Nat) (0 : Int))); let Z17 : D RC := D.acons (D.bool true) .anil; let Z18 : Int := List.getD (Frame.r Z16) (2 : Nat) (0 : Int); let Z19 : Int := IntKind.wrap .i64 (Z18 + (1 : Int)); let Z20 : D RC := D.acons (D.int IntKind.i8 (2 : Int)) (.acons Z7 (D.acons (D.int .i64 Z18) (.acons (D.int .i64 Z19) Z9))); let Z21 : DO_ := some (D.tup (D.acons Z5 (D.acons Z20 Z3))); let Z22 : Bool := mayAct (2 : Int) (1 : Int) Z18 Z19 (0 : Int) [] []; let Z23 : List Frame := Z15 ++ [Frame.mk (Frame.prog Z16) (7 : Int) (Frame.r Z16)]; bif x == (0 : Int) then bif Z0 then Z12 else bif decide ((4 : Int) ≤ c) then Z12 else some (D.tup (D.acons (D.acons Z1 (D.acons (D.sl RTy.frame false (Z15 ++ [Frame.mk (Frame.prog Z16) (1 : Int) (Frame.r Z16)])) Z4)) (.acons Z11 Z17))) else bif Z0 then Z21 else bif decide ((4 : Int) ≤ c) then Z21 else bif !Z22 then Z21 else bif Z22 then some (D.tup (D.acons (D.acons Z1 (D.acons (D.sl RTy.frame false Z23) Z4)) (.acons Z20 Z17))) else some (D.tup (D.acons (D.acons Z1 (D.acons (D.sl RTy.frame false (List.drop (0 : Nat) (List.take Z14 Z23))) (.acons (D.sl RTy.int false ([] ++ [])) (.acons (D.bool (Z13 == (0 : Int))) .anil)))) (.acons (D.acons Z6 (D.acons Z8 Z10)) Z3)))) := by kernel_rfl
theorem goesF6 (c x : Int) (r : List Int) : goes_e c [⟨68, 6, r⟩] [x] false false = (let Z0 : Bool := decide (c < (0 : Int)); let Z1 : D RC := D.int .i64 c; let Z2 : List Frame := [Frame.mk (68 : Int) (6 : Int) r]; let Z3 : D RC := D.acons (D.bool false) .anil; let Z4 : D RC := D.acons (D.sl RTy.int false [x]) Z3; let Z5 : D RC := D.acons Z1 (D.acons (D.sl RTy.frame false Z2) Z4); let Z6 : D RC := D.int IntKind.i8 (0 : Int); let Z7 : D RC := D.int .i64 1; let Z8 : D RC := D.int .i64 0; let Z9 : D RC := D.acons Z8 (D.acons (D.str []) (.acons (D.sl RTy.int true []) .anil)); let Z10 : D RC := D.acons Z8 (D.acons Z8 Z9); let Z11 : D RC := D.acons Z6 (D.acons Z7 Z10); let Z12 : DO_ := some (D.tup (D.acons Z5 (D.acons Z11 Z3))); let Z13 : Int := IntKind.wrap .i64 ((↑Z2.length : Int) - (1 : Int)); let Z14 : Nat := Int.toNat Z13; let Z15 : List Frame := [] ++ List.drop (0 : Nat) (List.take Z14 Z2); let Z16 : Frame := List.getD Z2 Z14 (Frame.mk (0 : Int) (0 : Int) (List.replicate (96 : Nat) (0 : Int))); let Z17 : D RC := D.acons (D.bool true) .anil; let Z18 : Int := List.getD (Frame.r Z16) (2 : Nat) (0 : Int); let Z19 : Int := IntKind.wrap .i64 (Z18 + (1 : Int)); let Z20 : D RC := D.acons (D.int IntKind.i8 (2 : Int)) (.acons Z7 (D.acons (D.int .i64 Z18) (.acons (D.int .i64 Z19) Z9))); let Z21 : DO_ := some (D.tup (D.acons Z5 (D.acons Z20 Z3))); let Z22 : Bool := mayAct (2 : Int) (1 : Int) Z18 Z19 (0 : Int) [] []; let Z23 : List Frame := Z15 ++ [Frame.mk (Frame.prog Z16) (7 : Int) (Frame.r Z16)]; bif x == (0 : Int) then bif Z0 then Z12 else bif decide ((4 : Int) ≤ c) then Z12 else some (D.tup (D.acons (D.acons Z1 (D.acons (D.sl RTy.frame false (Z15 ++ [Frame.mk (Frame.prog Z16) (1 : Int) (Frame.r Z16)])) Z4)) (.acons Z11 Z17))) else bif Z0 then Z21 else bif decide ((4 : Int) ≤ c) then Z21 else bif !Z22 then Z21 else bif Z22 then some (D.tup (D.acons (D.acons Z1 (D.acons (D.sl RTy.frame false Z23) Z4)) (.acons Z20 Z17))) else some (D.tup (D.acons (D.acons Z1 (D.acons (D.sl RTy.frame false (List.drop (0 : Nat) (List.take Z14 Z23))) (.acons (D.sl RTy.int false ([] ++ [])) (.acons (D.bool (Z13 == (0 : Int))) .anil)))) (.acons (D.acons Z6 (D.acons Z8 Z10)) Z3)))) := by kernel_rfl
theorem goesT7 (c x : Int) (r : List Int) : goes_e c [⟨68, 7, r⟩] [x] false true = (let Z0 : List Frame := [Frame.mk (68 : Int) (7 : Int) r]; let Z1 : D RC := D.acons (D.bool false) .anil; let Z2 : D RC := D.int .i64 0; let Z3 : Int := IntKind.wrap .i64 ((↑Z0.length : Int) - (1 : Int)); let Z4 : Nat := Int.toNat Z3; let Z5 : Frame := List.getD Z0 Z4 (Frame.mk (0 : Int) (0 : Int) (List.replicate (96 : Nat) (0 : Int))); let Z6 : List Int := [(0 : Int), List.getD (Frame.r Z5) (2 : Nat) (0 : Int)]; let Z7 : DO_ := some (D.tup (D.acons (D.acons (D.int .i64 c) (.acons (D.sl RTy.frame false Z0) (.acons (D.sl RTy.int false [x]) Z1))) (.acons (D.acons (D.int IntKind.i8 (7 : Int)) (.acons Z2 (D.acons Z2 (D.acons Z2 (D.acons Z2 (D.acons (D.str []) (.acons (D.sl RTy.int true Z6) .anil))))))) Z1))); bif decide (c < (0 : Int)) then Z7 else bif decide ((4 : Int) ≤ c) then Z7 else some (D.tup (D.acons (D.acons (D.int .i64 c) (.acons (D.sl RTy.frame false (List.drop (0 : Nat) (List.take Z4 ([] ++ List.drop (0 : Nat) (List.take Z4 Z0) ++ [Frame.mk (Frame.prog Z5) (Frame.at' Z5) (Frame.r Z5)])))) (.acons (D.sl RTy.int false ([] ++ Z6)) (.acons (D.bool (Z3 == (0 : Int))) .anil)))) (.acons (D.acons (D.int IntKind.i8 (0 : Int)) (.acons Z2 (D.acons Z2 (D.acons Z2 (D.acons Z2 (D.acons (D.str []) (.acons (D.sl RTy.int true []) .anil))))))) Z1)))) := by kernel_rfl
theorem goesF7 (c x : Int) (r : List Int) : goes_e c [⟨68, 7, r⟩] [x] false false = (let Z0 : List Frame := [Frame.mk (68 : Int) (7 : Int) r]; let Z1 : D RC := D.acons (D.bool false) .anil; let Z2 : D RC := D.int .i64 0; let Z3 : Int := IntKind.wrap .i64 ((↑Z0.length : Int) - (1 : Int)); let Z4 : Nat := Int.toNat Z3; let Z5 : Frame := List.getD Z0 Z4 (Frame.mk (0 : Int) (0 : Int) (List.replicate (96 : Nat) (0 : Int))); let Z6 : List Int := [(0 : Int), List.getD (Frame.r Z5) (2 : Nat) (0 : Int)]; let Z7 : DO_ := some (D.tup (D.acons (D.acons (D.int .i64 c) (.acons (D.sl RTy.frame false Z0) (.acons (D.sl RTy.int false [x]) Z1))) (.acons (D.acons (D.int IntKind.i8 (7 : Int)) (.acons Z2 (D.acons Z2 (D.acons Z2 (D.acons Z2 (D.acons (D.str []) (.acons (D.sl RTy.int true Z6) .anil))))))) Z1))); bif decide (c < (0 : Int)) then Z7 else bif decide ((4 : Int) ≤ c) then Z7 else some (D.tup (D.acons (D.acons (D.int .i64 c) (.acons (D.sl RTy.frame false (List.drop (0 : Nat) (List.take Z4 ([] ++ List.drop (0 : Nat) (List.take Z4 Z0) ++ [Frame.mk (Frame.prog Z5) (Frame.at' Z5) (Frame.r Z5)])))) (.acons (D.sl RTy.int false ([] ++ Z6)) (.acons (D.bool (Z3 == (0 : Int))) .anil)))) (.acons (D.acons (D.int IntKind.i8 (0 : Int)) (.acons Z2 (D.acons Z2 (D.acons Z2 (D.acons Z2 (D.acons (D.str []) (.acons (D.sl RTy.int true []) .anil))))))) Z1)))) := by kernel_rfl
theorem goes_ok (c : Int) (st : List Frame) (got : List Int) (over : Bool) (own : Bool) (h : (okG c st got && !over) = true) : goes_e c st got over own = some (.tup (.acons (.acons (.int .i64 c) (.acons (.sl (C := RC) .frame false (goR st got).st) (.acons (.sl (C := RC) .int false (goR st got).got) (.acons (.bool (goR st got).over) .anil)))) (.acons (.acons (.int .i8 (goR st got).kind) (.acons (.int .i64 (goR st got).a) (.acons (.int .i64 (goR st got).b) (.acons (.int .i64 (goR st got).v) (.acons (.int .i64 0) (.acons (.str []) (.acons (.sl (C := RC) .int true []) .anil))))))) (.acons (.bool (goR st got).is) .anil)))) := by
  simp only [Bool.and_eq_true, Bool.not_eq_true'] at h
  obtain ⟨h, rfl⟩ := h
  obtain ⟨k, r, rfl, hc1, hc2, hr, hk⟩ := okG_inv h
  have c1 : decide (c < 0) = false := by simp; omega
  have c2 : decide (4 ≤ c) = false := by simp; omega
  have n0 : (3 : Nat) ≠ 0 := by decide
  have n1 : (3 : Nat) ≠ 1 := by decide
  have n2 : (3 : Nat) ≠ 2 := by decide
  rcases hk with ⟨rfl, rfl⟩ | ⟨x, rfl, hk⟩
  · cases own
    · (rw [goesF0]; conv => zeta)
      simp only [c1, c2, cond_false, st1, st2, st3, List.drop_zero, List.nil_append]
      rfl
    · (rw [goesT0]; conv => zeta)
      simp only [c1, c2, cond_false, st1, st2, st3, List.drop_zero, List.nil_append]
      rfl
  show goes_e c [⟨68, k, r⟩] [x] false own = some (.tup (.acons (.acons (.int .i64 c) (.acons (.sl (C := RC) .frame false (goF k r [x] x).st) (.acons (.sl (C := RC) .int false (goF k r [x] x).got) (.acons (.bool (goF k r [x] x).over) .anil)))) (.acons (.acons (.int .i8 (goF k r [x] x).kind) (.acons (.int .i64 (goF k r [x] x).a) (.acons (.int .i64 (goF k r [x] x).b) (.acons (.int .i64 (goF k r [x] x).v) (.acons (.int .i64 0) (.acons (.str []) (.acons (.sl (C := RC) .int true []) .anil))))))) (.acons (.bool (goF k r [x] x).is) .anil))))
  obtain ⟨k1, k7, x0, x1, w0, w1, t0, t1⟩ := hk
  have hrg := lRing_in t0 ⟨w0, w1⟩
  have hwd := wordN_in (r.getD 2 0) (r.getD 1 0)
  have v1 : IntKind.i64.wrap (x + r.getD 0 0) = x + r.getD 0 0 := wrap_id (by omega) (by omega)
  have v2 : IntKind.i64.wrap (r.getD 2 0 - 32) = r.getD 2 0 - 32 := wrap_id (by omega) (by omega)
  have v3 : IntKind.i64.wrap (r.getD 2 0 + 1) = r.getD 2 0 + 1 := wrap_id (by omega) (by omega)
  have m0 : mayAct 0 (lRing (r.getD 2 0) (r.getD 0 0)) 0 0 0 [] [] = true := decide_eq_true (by unfold MayAct; simp only [List.length_nil, true_and, and_true, true_or, or_true]; omega)
  have m1 : mayAct 2 1 (r.getD 2 0) (r.getD 2 0 + 1) 0 [] [] = true := decide_eq_true (by unfold MayAct; simp only [List.length_nil, true_and, and_true, true_or, or_true]; omega)
  have m2 : mayAct 2 (lRing (r.getD 2 0) (r.getD 0 0)) x (wordN (r.getD 2 0) (r.getD 1 0)) 0 [] [] = true := decide_eq_true (by unfold MayAct; simp only [List.length_nil, true_and, and_true, true_or, or_true]; omega)
  have hks : k = 1 ∨ k = 2 ∨ k = 3 ∨ k = 4 ∨ k = 5 ∨ k = 6 ∨ k = 7 := by omega
  rcases hks with rfl | rfl | rfl | rfl | rfl | rfl | rfl
  · cases own
    · (rw [goesF1]; conv => zeta)
      simp only [c1, c2, cond_false, cond_true, st1, st2, st3, List.drop_zero, List.nil_append, getD_set_ne' n0, getD_set_ne' n1, getD_set_ne' n2, v1, v2, v3, m0, m1, m2, Bool.not_true]
      rfl
    · (rw [goesT1]; conv => zeta)
      simp only [c1, c2, cond_false, cond_true, st1, st2, st3, List.drop_zero, List.nil_append, getD_set_ne' n0, getD_set_ne' n1, getD_set_ne' n2, v1, v2, v3, m0, m1, m2, Bool.not_true]
      rfl
  · cases own
    · (rw [goesF2]; conv => zeta)
      simp only [c1, c2, cond_false, cond_true, st1, st2, st3, List.drop_zero, List.nil_append, getD_set_ne' n0, getD_set_ne' n1, getD_set_ne' n2, v1, v2, v3, m0, m1, m2, Bool.not_true]
      rw [goF2]
      refine cond2 (fun h0 => ?_) fun h0 => ?_
      · have h0 := of_decide_eq_true h0
        rw [if_pos (show x + r.getD 0 0 < r.getD 2 0 from h0)]; rfl
      have h0 := of_decide_eq_false h0
      rw [if_neg (show ¬ (x + r.getD 0 0 < r.getD 2 0) from h0)]
      refine cond2 (fun h1 => ?_) fun h1 => ?_
      · have h1 := of_decide_eq_true h1
        rw [if_pos (show 1048575 < r.getD 2 0 from h1)]; rfl
      have h1 := of_decide_eq_false h1
      rw [if_neg (show ¬ (1048575 < r.getD 2 0) from h1)]
      rfl
    · (rw [goesT2]; conv => zeta)
      simp only [c1, c2, cond_false, cond_true, st1, st2, st3, List.drop_zero, List.nil_append, getD_set_ne' n0, getD_set_ne' n1, getD_set_ne' n2, v1, v2, v3, m0, m1, m2, Bool.not_true]
      rw [goF2]
      refine cond2 (fun h0 => ?_) fun h0 => ?_
      · have h0 := of_decide_eq_true h0
        rw [if_pos (show x + r.getD 0 0 < r.getD 2 0 from h0)]; rfl
      have h0 := of_decide_eq_false h0
      rw [if_neg (show ¬ (x + r.getD 0 0 < r.getD 2 0) from h0)]
      refine cond2 (fun h1 => ?_) fun h1 => ?_
      · have h1 := of_decide_eq_true h1
        rw [if_pos (show 1048575 < r.getD 2 0 from h1)]; rfl
      have h1 := of_decide_eq_false h1
      rw [if_neg (show ¬ (1048575 < r.getD 2 0) from h1)]
      rfl
  · cases own
    · (rw [goesF3]; conv => zeta)
      simp only [c1, c2, cond_false, cond_true, st1, st2, st3, List.drop_zero, List.nil_append, getD_set_ne' n0, getD_set_ne' n1, getD_set_ne' n2, v1, v2, v3, m0, m1, m2, Bool.not_true]
      rw [goF3]
      refine cond2 (fun h0 => ?_) fun h0 => ?_
      · have h0 := of_decide_eq_true h0
        rw [if_pos (show x < r.getD 2 0 - 32 from h0)]; rfl
      have h0 := of_decide_eq_false h0
      rw [if_neg (show ¬ (x < r.getD 2 0 - 32) from h0)]
      rfl
    · (rw [goesT3]; conv => zeta)
      simp only [c1, c2, cond_false, cond_true, st1, st2, st3, List.drop_zero, List.nil_append, getD_set_ne' n0, getD_set_ne' n1, getD_set_ne' n2, v1, v2, v3, m0, m1, m2, Bool.not_true]
      rw [goF3]
      refine cond2 (fun h0 => ?_) fun h0 => ?_
      · have h0 := of_decide_eq_true h0
        rw [if_pos (show x < r.getD 2 0 - 32 from h0)]; rfl
      have h0 := of_decide_eq_false h0
      rw [if_neg (show ¬ (x < r.getD 2 0 - 32) from h0)]
      rfl
  · cases own
    · (rw [goesF4]; conv => zeta)
      simp only [c1, c2, cond_false, cond_true, st1, st2, st3, List.drop_zero, List.nil_append, getD_set_ne' n0, getD_set_ne' n1, getD_set_ne' n2, v1, v2, v3, m0, m1, m2, Bool.not_true]
      rw [goF4]
      refine cond2 (fun h0 => ?_) fun h0 => ?_
      · have h0 := eq_of_beq h0
        rw [if_pos (show plc x = r.getD 2 0 from h0)]; rfl
      have h0 := ne_of_beq_false h0
      rw [if_neg (show ¬ (plc x = r.getD 2 0) from h0)]
      refine cond2 (fun h1 => ?_) fun h1 => ?_
      · have h1 := of_decide_eq_true h1
        rw [if_pos (show r.getD 2 0 < plc x from h1)]; rfl
      have h1 := of_decide_eq_false h1
      rw [if_neg (show ¬ (r.getD 2 0 < plc x) from h1)]
      rfl
    · (rw [goesT4]; conv => zeta)
      simp only [c1, c2, cond_false, cond_true, st1, st2, st3, List.drop_zero, List.nil_append, getD_set_ne' n0, getD_set_ne' n1, getD_set_ne' n2, v1, v2, v3, m0, m1, m2, Bool.not_true]
      rw [goF4]
      refine cond2 (fun h0 => ?_) fun h0 => ?_
      · have h0 := eq_of_beq h0
        rw [if_pos (show plc x = r.getD 2 0 from h0)]; rfl
      have h0 := ne_of_beq_false h0
      rw [if_neg (show ¬ (plc x = r.getD 2 0) from h0)]
      refine cond2 (fun h1 => ?_) fun h1 => ?_
      · have h1 := of_decide_eq_true h1
        rw [if_pos (show r.getD 2 0 < plc x from h1)]; rfl
      have h1 := of_decide_eq_false h1
      rw [if_neg (show ¬ (r.getD 2 0 < plc x) from h1)]
      rfl
  · cases own
    · (rw [goesF5]; conv => zeta)
      simp only [c1, c2, cond_false, cond_true, st1, st2, st3, List.drop_zero, List.nil_append, getD_set_ne' n0, getD_set_ne' n1, getD_set_ne' n2, v1, v2, v3, m0, m1, m2, Bool.not_true]
      rfl
    · (rw [goesT5]; conv => zeta)
      simp only [c1, c2, cond_false, cond_true, st1, st2, st3, List.drop_zero, List.nil_append, getD_set_ne' n0, getD_set_ne' n1, getD_set_ne' n2, v1, v2, v3, m0, m1, m2, Bool.not_true]
      rfl
  · cases own
    · (rw [goesF6]; conv => zeta)
      simp only [c1, c2, cond_false, cond_true, st1, st2, st3, List.drop_zero, List.nil_append, getD_set_ne' n0, getD_set_ne' n1, getD_set_ne' n2, v1, v2, v3, m0, m1, m2, Bool.not_true]
      rw [goF6]
      refine cond2 (fun h0 => ?_) fun h0 => ?_
      · have h0 := eq_of_beq h0
        rw [if_pos (show x = 0 from h0)]; rfl
      have h0 := ne_of_beq_false h0
      rw [if_neg (show ¬ (x = 0) from h0)]
      rfl
    · (rw [goesT6]; conv => zeta)
      simp only [c1, c2, cond_false, cond_true, st1, st2, st3, List.drop_zero, List.nil_append, getD_set_ne' n0, getD_set_ne' n1, getD_set_ne' n2, v1, v2, v3, m0, m1, m2, Bool.not_true]
      rw [goF6]
      refine cond2 (fun h0 => ?_) fun h0 => ?_
      · have h0 := eq_of_beq h0
        rw [if_pos (show x = 0 from h0)]; rfl
      have h0 := ne_of_beq_false h0
      rw [if_neg (show ¬ (x = 0) from h0)]
      rfl
  · cases own
    · (rw [goesF7]; conv => zeta)
      simp only [c1, c2, cond_false, cond_true, st1, st2, st3, List.drop_zero, List.nil_append, getD_set_ne' n0, getD_set_ne' n1, getD_set_ne' n2, v1, v2, v3, m0, m1, m2, Bool.not_true]
      rfl
    · (rw [goesT7]; conv => zeta)
      simp only [c1, c2, cond_false, cond_true, st1, st2, st3, List.drop_zero, List.nil_append, getD_set_ne' n0, getD_set_ne' n1, getD_set_ne' n2, v1, v2, v3, m0, m1, m2, Bool.not_true]
      rfl
noncomputable def uc_1 := ub_1.addSpec 22 goes_sp
theorem uc_1_laws : FLaws Tryz.prog s17 uc_1 := ub_1_laws.addEv s17_laws fun args d h => by
  unfold goes_sp at h
  split at h
  · unfold goes_s at h
    have h1 := congrArg Prod.fst (Option.some.inj h)
    obtain rfl : _ = d := congrArg Prod.snd (Option.some.inj h)
    exact ⟨by simp [D.refs], 200, goes_ok _ _ _ _ _ h1⟩
  · cases h
open Go.Proofs
structure rowRl_St where
  c : Bool
  l : List Sector
  i : Nat
def rowRl_c (c : Bool) (l : List Sector) (i : Nat) : Env RC := [(0, .sl (C := RC) .sector c l), (2, .bool false), (3, .int .i64 (i : Int))]
def rowRl_o (c : Bool) (l : List Sector) (i : Nat) : List (Obj RC) := []
noncomputable def rowRl_r (c : Bool) (l : List Sector) (i : Nat) := rndO s17 uc_1 99 4 40 0 [0, 2, 3] [2] [] (rowRl_c c l i) (rowRl_o c l i)
theorem rowRl_eq (c : Bool) (l : List Sector) (i : Nat) : rowRl_r c l i = (let Z0 : Int := (↑i : Int); let Z1 : Bool := decide ((0 : Int) ≤ Z0 ∧ Z0 < (↑l.length : Int)); let Z2 : Sector := List.getD l Z0.toNat (Sector.mk (0 : Int) []); let Z3 : Int := Sector.n Z2; let Z4 : RO_ := some ((X.ret, [(2, D.bool false)]), []); let Z5 : Nat := List.length (Sector.b Z2); let Z6 : RO_ := some ((X.normal, [(0, D.sl RTy.sector c l), (2, D.bool false), (3, D.int .i64 (IntKind.wrap .i64 (Z0 + (1 : Int))))]), []); bif lenOK l.length then bif decide (Z0 < (↑l.length : Int)) then bif Z1 then bif decide (Z3 < (0 : Int)) then Z4 else bif Z1 then bif decide ((1048575 : Int) < Z3) then Z4 else bif Z1 then bif lenOK Z5 then bif decide ((640 : Int) < (↑Z5 : Int)) then Z4 else bif Z1 then bif Z3 == (0 : Int) then bif Z1 then bif !Sector.b Z2 == Array.toList #[] then Z4 else Z6 else none else Z6 else none else none else none else none else none else some ((X.exit (0 : Nat), [(2, D.bool false)]), []) else none) := by kernel_rfl
def rowRl_fin (c : Bool) (l : List Sector) (i : Nat) : RT RC := .br (l.drop i |>.all maySec) (.leaf (.exit 0) [(2, .bool false)] []) (.leaf .ret [(2, .bool false)] [])
def rowRl_Inv (c : Bool) (l : List Sector) (i : Nat) : Prop := i ≤ l.length ∧ goodL l = true
def rowRl_S : LoopR RC rowRl_St where
  k := 0
  canon q := rowRl_c q.c q.l q.i
  objs q := rowRl_o q.c q.l q.i
  fin q := rowRl_fin q.c q.l q.i
  Inv q := rowRl_Inv q.c q.l q.i
  μ q := q.l.length - q.i
theorem rowRl_round (c : Bool) (l : List Sector) (i : Nat) (hI : rowRl_Inv c l i) : Leaf (rowRl_r c l i) (LedR rowRl_S ⟨c, l, i⟩) := by
  (rw [rowRl_eq]; conv => zeta)
  unfold rowRl_Inv at hI
  obtain ⟨h1, hg⟩ := hI
  have h2 := (goodL_iff.1 hg).1
  have hlk0 : lenOK l.length = true := lenOK_of h2
  by_cases hlt : i < l.length
  · have w_succ : IntKind.i64.wrap ((i : Int) + 1) = ((i + 1 : Nat) : Int) := by rw [wrap_id (by omega) (by omega)]; simp
    have d_lt : decide ((i : Int) < l.length) = true := by simp; omega
    have d_in : decide (0 ≤ (i : Int) ∧ (i : Int) < l.length) = true := by simp; omega
    have t_nat : ((i : Int)).toNat = i := by simp
    simp only [w_succ, d_lt, d_in, t_nat, cond_true]
    have hlk := goodL_at hg i hlt (⟨0, []⟩ : Sector)
    have hst := all_drop_step l maySec i hlt (⟨0, []⟩ : Sector)
    generalize l.getD i (⟨0, []⟩ : Sector) = x at hst hlk ⊢
    simp only [hlk0, hlk, cond_true]
    have hgo : maySec x = true → Leaf (some ((X.normal, rowRl_c c l (i + 1)), [])) (LedR rowRl_S ⟨c, l, i⟩) := fun e =>
      leafR_go ⟨c, l, i + 1⟩ ⟨hlt, hg⟩ (by simp only [rowRl_S]; omega) (by simp [rowRl_S, rowRl_fin, hst, e]) rfl rfl
    have hno : maySec x = false → Leaf (some ((X.ret, [(2, D.bool false)]), [])) (LedR rowRl_S ⟨c, l, i⟩) := fun e => leafR_ret [] (by simp [rowRl_S, rowRl_fin, hst, e, RT.val]) rfl
    have hm : maySec x = (decide (0 ≤ x.n) && decide (x.n ≤ 1048575) && decide (x.b.length ≤ 640) && (decide (0 < x.n) || x.b == [])) := rfl
    rw [hm] at hgo hno
    repeat' (refine leaf_cond.2 ⟨fun hc_ => ?_, fun hc_ => ?_⟩)
    all_goals first | exact hno (by clear hgo hno hst hm; simp_all <;> omega) | exact hgo (by clear hgo hno hst hm; simp_all <;> omega)
  · have hi : i = l.length := by omega
    have c1 : decide ((i : Int) < l.length) = false := by simp; omega
    rw [hlk0, c1]
    exact leafR_exit [] (by simp [rowRl_S, rowRl_fin, hi, RT.val]) rfl
def rowRl_d (env : Env RC) (os : List (Obj RC)) : Option (Bool × rowRl_St) := match env, os with
  | [(0, .sl .sector c l), (2, .bool false), (3, .int .i64 x0)], [] => staticD (true) (decide (x0 = 0) && goodL l, ⟨c, l, 0⟩)
  | _, _ => none
noncomputable def ud_1 := uc_1.addLoop 99 4 (sumR s17 [] [0, 2, 3] rowRl_S rowRl_d)
theorem ud_1_laws : FLaws Tryz.prog s17 ud_1 := by
  refine uc_1_laws.addRoundsR s17_laws (by kernel_rfl) rowRl_S 40 [0, 2, 3] [2] [] [0, 2, 3] rowRl_d (fun q hI => ?_) ?_
  · obtain ⟨c, l, i⟩ := q
    refine ⟨?_, ?_, rowRl_round c l i hI⟩
    · simp_all [RefsOK, rowRl_S, rowRl_c, rowRl_o, rowRl_Inv, D.refs, Obj.refs, rEnc]
    · simp_all [rowRl_S, rowRl_fin, rowRl_o, rowRl_Inv, RT.refsOK, RefsOK, D.refs, Obj.refs, rEnc]
  · intro env os b q hd_ hb
    unfold rowRl_d at hd_
    split at hd_
    · obtain ⟨hs, hd_⟩ := staticD_some hd_
      cases hd_
      simp only [Bool.and_eq_true, decide_eq_true_eq] at hb
      obtain ⟨rfl, hl⟩ := hb
      exact ⟨⟨Nat.zero_le _, hl⟩, rfl, rfl⟩
    · cases hd_
def rowRf_s (c : Bool) (l : List Sector) : Option (Bool × D RC) := some (goodL l, .bool (rowOK l))
def rowRf_sp : List (D RC) → Option (Bool × D RC)
  | [.sl .sector c l] => rowRf_s c l
  | _ => none
noncomputable def rowRf_e (c : Bool) (l : List Sector) := evF s17 ud_1 40 99 [.sl (C := RC) .sector c l]
theorem rowRf_eq (c : Bool) (l : List Sector) : rowRf_e c l = (bif lenOK l.length then bif (↑l.length : Int) != (33 : Int) then some (D.bool false) else bif goodL l then bif List.all (List.drop (0 : Nat) l) maySec then some (D.bool true) else some (D.bool false) else none else none) := by kernel_rfl
theorem rowRf_ok (c : Bool) (l : List Sector) (h : (goodL l) = true) : rowRf_e c l = some (.bool (rowOK l)) := by
  rw [rowRf_eq]
  have hl := (goodL_iff.1 h).1
  have lk := lenOK_of hl
  simp only [h, lk, rowOK, cond_true, List.drop_zero]
  by_cases e : l.length = 33
  · have e2 : ((l.length : Int) != 33) = false := by simp [e]
    cases hm : l.all maySec <;> simp [e, hm]
  · have e2 : ((l.length : Int) != 33) = true := by simp [bne]; omega
    simp [e, e2]
noncomputable def ud_2 := ud_1.addSpec 99 rowRf_sp
theorem ud_2_laws : FLaws Tryz.prog s17 ud_2 := ud_1_laws.addEv s17_laws fun args d h => by
  unfold rowRf_sp at h
  split at h
  · unfold rowRf_s at h
    have h1 := congrArg Prod.fst (Option.some.inj h)
    obtain rfl : _ = d := congrArg Prod.snd (Option.some.inj h)
    exact ⟨by simp [D.refs], 40, rowRf_ok _ _ h1⟩
  · cases h
structure chkRl_St where
  c : Bool
  now : List Sector
  d : Bool
  sure : List Sector
  i : Nat
def chkRl_c (c : Bool) (now : List Sector) (d : Bool) (sure : List Sector) (i : Nat) : Env RC := [(1, .ptr 0 []), (2, .int .i64 0), (3, .int .i64 (i : Int))]
def chkRl_o (c : Bool) (now : List Sector) (d : Bool) (sure : List Sector) (i : Nat) : List (Obj RC) := [.var 38 (.acons (.sl (C := RC) .sector c now) (.acons (.sl (C := RC) .sector d sure) .anil))]
noncomputable def chkRl_r (c : Bool) (now : List Sector) (d : Bool) (sure : List Sector) (i : Nat) := rndO s17 ud_2 69 4 40 1 [1, 2, 3] [2] [.slot 1 0] (chkRl_c c now d sure i) (chkRl_o c now d sure i)
theorem chkRl_eq (c : Bool) (now : List Sector) (d : Bool) (sure : List Sector) (i : Nat) : chkRl_r c now d sure i = (let Z0 : Int := (↑i : Int); let Z1 : List (Option (Obj RC)) := [some (Obj.var 38 (.acons (D.sl RTy.sector c now) (.acons (D.sl RTy.sector d sure) .anil)))]; let Z2 : Nat × D RC := (2, D.int .i64 0); bif lenOK now.length then bif decide (Z0 < (↑now.length : Int)) then bif decide ((0 : Int) ≤ Z0 ∧ Z0 < (↑sure.length : Int)) then bif decide ((0 : Int) ≤ Z0 ∧ Z0 < (↑now.length : Int)) then bif decide (Sector.n (List.getD now Z0.toNat (Sector.mk (0 : Int) [])) < Sector.n (List.getD sure Z0.toNat (Sector.mk (0 : Int) []))) then some ((X.ret, [(2, D.int .i64 2)]), Z1) else some ((X.normal, [(1, D.ptr 0 []), Z2, (3, D.int .i64 (IntKind.wrap .i64 (Z0 + (1 : Int))))]), Z1) else none else none else some ((X.exit (0 : Nat), [Z2]), Z1) else none) := by kernel_rfl
def chkRl_fin (c : Bool) (now : List Sector) (d : Bool) (sure : List Sector) (i : Nat) : RT RC := .br (lowAt now sure i) (.leaf (.exit 0) [(2, .int .i64 0)] (chkRl_o c now d sure i)) (.leaf .ret [(2, .int .i64 2)] (chkRl_o c now d sure i))
def chkRl_Inv (c : Bool) (now : List Sector) (d : Bool) (sure : List Sector) (i : Nat) : Prop := i ≤ now.length ∧ now.length ≤ 9223372036854775807 ∧ now.length = sure.length
def chkRl_S : LoopR RC chkRl_St where
  k := 1
  canon q := chkRl_c q.c q.now q.d q.sure q.i
  objs q := chkRl_o q.c q.now q.d q.sure q.i
  fin q := chkRl_fin q.c q.now q.d q.sure q.i
  Inv q := chkRl_Inv q.c q.now q.d q.sure q.i
  μ q := q.now.length - q.i
theorem chkRl_round (c : Bool) (now : List Sector) (d : Bool) (sure : List Sector) (i : Nat) (hI : chkRl_Inv c now d sure i) : Leaf (chkRl_r c now d sure i) (LedR chkRl_S ⟨c, now, d, sure, i⟩) := by
  (rw [chkRl_eq]; conv => zeta)
  unfold chkRl_Inv at hI
  obtain ⟨h1, h2, h3⟩ := hI
  have hlk0 : lenOK now.length = true := lenOK_of h2
  by_cases hlt : i < now.length
  · have w_succ : IntKind.i64.wrap ((i : Int) + 1) = ((i + 1 : Nat) : Int) := by rw [wrap_id (by omega) (by omega)]; simp
    have d_lt : decide ((i : Int) < now.length) = true := by simp; omega
    have d_in : decide (0 ≤ (i : Int) ∧ (i : Int) < now.length) = true := by simp; omega
    have t_nat : ((i : Int)).toNat = i := by simp
    simp only [w_succ, d_lt, d_in, t_nat, cond_true]
    have hlt2 : i < sure.length := by omega
    have d_in2 : decide (0 ≤ (i : Int) ∧ (i : Int) < sure.length) = true := by simp; omega
    simp only [d_in2, hlk0, cond_true]
    have hst := lowAt_step (now := now) (sure := sure) i hlt (by omega) (⟨0, []⟩ : Sector)
    generalize now.getD i (⟨0, []⟩ : Sector) = x at hst ⊢
    generalize sure.getD i (⟨0, []⟩ : Sector) = y at hst ⊢
    cases a1 : decide (y.n ≤ x.n)
    · have a2 : decide (x.n < y.n) = true := by simp at a1 ⊢; exact a1
      simp only [a2, cond_true]
      exact leafR_ret (chkRl_o c now d sure i) (by simp [chkRl_S, chkRl_fin, hst, a1, RT.val]) rfl
    · have a2 : decide (x.n < y.n) = false := by simp at a1 ⊢; exact a1
      simp only [a2, cond_false]
      exact leafR_go ⟨c, now, d, sure, i + 1⟩ ⟨hlt, h2, h3⟩ (by simp only [chkRl_S]; omega) (by simp [chkRl_S, chkRl_fin, hst, a1]; rfl) rfl rfl
  · have hi : i = now.length := by omega
    have c1 : decide ((i : Int) < now.length) = false := by simp; omega
    rw [hlk0, c1]
    exact leafR_exit (chkRl_o c now d sure i) (by simp [chkRl_S, chkRl_fin, hi, lowAt_end, RT.val]) rfl
def chkRl_d (env : Env RC) (os : List (Obj RC)) : Option (Bool × chkRl_St) := match env, os with
  | [(1, .ptr 0 []), (2, .int .i64 0), (3, .int .i64 x0)], [.var 38 (.acons (.sl .sector c now) (.acons (.sl .sector d sure) .anil))] => staticD (true) (decide (x0 = 0) && decide (now.length ≤ 9223372036854775807 ∧ now.length = sure.length), ⟨c, now, d, sure, 0⟩)
  | _, _ => none
noncomputable def ud_3 := ud_2.addLoop 69 4 (sumR s17 [.slot 1 0] [1, 2, 3] chkRl_S chkRl_d)
theorem ud_3_laws : FLaws Tryz.prog s17 ud_3 := by
  refine ud_2_laws.addRoundsR s17_laws (by kernel_rfl) chkRl_S 40 [1, 2, 3] [2] [.slot 1 0] [1, 2, 3] chkRl_d (fun q hI => ?_) ?_
  · obtain ⟨c, now, d, sure, i⟩ := q
    refine ⟨?_, ?_, chkRl_round c now d sure i hI⟩
    · simp_all [RefsOK, chkRl_S, chkRl_c, chkRl_o, chkRl_Inv, D.refs, Obj.refs, rEnc]
    · simp_all [chkRl_S, chkRl_fin, chkRl_o, chkRl_Inv, RT.refsOK, RefsOK, D.refs, Obj.refs, rEnc]
  · intro env os b q hd_ hb
    unfold chkRl_d at hd_
    split at hd_
    · obtain ⟨hs, hd_⟩ := staticD_some hd_
      cases hd_
      simp only [Bool.and_eq_true, decide_eq_true_eq] at hb
      obtain ⟨rfl, hl⟩ := hb
      exact ⟨⟨Nat.zero_le _, hl⟩, rfl, rfl⟩
    · cases hd_
def checkR_s (c : Bool) (now : List Sector) (d : Bool) (sure : List Sector) : Option (Bool × D RC) := some (goodL now && goodL sure, .int .i64 (bif diskOK now sure then 0 else 2))
def checkR_sp : List (D RC) → Option (Bool × D RC)
  | [.acons (.sl .sector c now) (.acons (.sl .sector d sure) .anil)] => checkR_s c now d sure
  | _ => none
noncomputable def checkR_e (c : Bool) (now : List Sector) (d : Bool) (sure : List Sector) := evF s17 ud_3 40 69 [.acons (.sl (C := RC) .sector c now) (.acons (.sl (C := RC) .sector d sure) .anil)]
theorem checkR_eq (c : Bool) (now : List Sector) (d : Bool) (sure : List Sector) : checkR_e c now d sure = (let Z0 : DO_ := some (D.int .i64 2); bif goodL now then bif !rowOK now then Z0 else bif goodL sure then bif !rowOK sure then Z0 else bif decide (List.length now ≤ (9223372036854775807 : Nat) ∧ List.length now = List.length sure) then bif lowAt now sure (0 : Nat) then some (D.int .i64 0) else Z0 else none else none else none) := by kernel_rfl
theorem checkR_ok (c : Bool) (now : List Sector) (d : Bool) (sure : List Sector) (h : (goodL now && goodL sure) = true) : checkR_e c now d sure = some (.int .i64 (bif diskOK now sure then 0 else 2)) := by
  (rw [checkR_eq]; conv => zeta)
  rw [Bool.and_eq_true] at h
  obtain ⟨hg, hgs⟩ := h
  have hl := (goodL_iff.1 hg).1
  simp only [hg, hgs, cond_true, diskOK]
  cases h1 : rowOK now
  · rfl
  cases h2 : rowOK sure
  · rfl
  have l1 := rowOK_len h1
  have l2 := rowOK_len h2
  have e : decide (now.length ≤ 9223372036854775807 ∧ now.length = sure.length) = true := by simp; omega
  cases h3 : lowAt now sure 0 <;> simp [e]
noncomputable def ud_4 := ud_3.addSpec 69 checkR_sp
theorem ud_4_laws : FLaws Tryz.prog s17 ud_4 := ud_3_laws.addEv s17_laws fun args d h => by
  unfold checkR_sp at h
  split at h
  · unfold checkR_s at h
    have h1 := congrArg Prod.fst (Option.some.inj h)
    obtain rfl : _ = d := congrArg Prod.snd (Option.some.inj h)
    exact ⟨by simp [D.refs], 40, checkR_ok _ _ _ _ h1⟩
  · cases h
def putR3_s (c : Bool) (now : List Sector) (d : Bool) (sure : List Sector) (k : Int) (n : Int) (b : List UInt8) : Option (Bool × D RC) := some (goodL now && goodL sure && lenOK b.length, .tup (.acons (.acons (.sl (C := RC) .sector (!okPut now sure k n b) (pNow now sure k n b)) (.acons (.sl (C := RC) .sector (!okPut now sure k n b) (pSure now sure k n b)) .anil)) (.acons (.int .i64 (bif okPut now sure k n b then 0 else 2)) .anil)))
def putR3_sp : List (D RC) → Option (Bool × D RC)
  | [.acons (.sl .sector c now) (.acons (.sl .sector d sure) .anil), .int .i64 k, .int .i64 n, .str b] => putR3_s c now d sure k n b
  | _ => none
noncomputable def putR3_e (c : Bool) (now : List Sector) (d : Bool) (sure : List Sector) (k : Int) (n : Int) (b : List UInt8) := evF s17 ud_4 40 44 [.acons (.sl (C := RC) .sector c now) (.acons (.sl (C := RC) .sector d sure) .anil), .int .i64 k, .int .i64 n, .str b]
theorem putR3_eq (c : Bool) (now : List Sector) (d : Bool) (sure : List Sector) (k : Int) (n : Int) (b : List UInt8) : putR3_e c now d sure k n b = (let Z0 : D RC := D.sl RTy.sector true []; let Z1 : DO_ := some (D.tup (D.acons (D.acons Z0 (D.acons Z0 .anil)) (.acons (D.int .i64 2) .anil))); let Z2 : Nat := (0 : Nat) + List.length now; let Z3 : Nat := (0 : Nat) + List.length sure; let Z4 : List Sector := List.replicate (0 : Nat) (Sector.mk (0 : Int) []); let Z5 : Nat := List.length (Z4 ++ now); let Z6 : Bool := Nat.beq Z2 Z5; let Z7 : Bool := Z6 && decide ((0 : Int) ≤ k ∧ k < (↑Z5 : Int)); let Z8 : List Sector := List.set (Z4 ++ now) k.toNat (Sector.mk n b); let Z9 : Bool := Nat.beq Z3 (Z4 ++ sure).length; let Z10 : D RC := D.acons (D.sl RTy.sector false (Z4 ++ sure)) .anil; let Z11 : D RC := D.acons (D.int .i64 0) .anil; let Z12 : DO_ := none; bif goodL now && goodL sure then bif (bif diskOK now sure then (0 : Int) else (2 : Int)) != (0 : Int) then Z1 else bif decide (k < (0 : Int)) then Z1 else bif decide ((33 : Int) ≤ k) then Z1 else bif decide (n < (1 : Int)) then Z1 else bif decide ((1048575 : Int) < n) then Z1 else bif b == Array.toList #[] then Z1 else bif lenOK b.length then bif decide ((640 : Int) < (↑b.length : Int)) then Z1 else bif sizeOK Z2 (24 : Nat) then bif sizeOK Z3 (24 : Nat) then bif Z7 then bif Z6 then bif Z6 then bif decide (Sector.n (List.getD (Z4 ++ now) k.toNat (Sector.mk (0 : Int) [])) < n) then bif Z7 then bif Z6 then bif Nat.beq Z2 Z8.length then bif Z9 then some (D.tup (D.acons (D.acons (D.sl RTy.sector false Z8) Z10) Z11)) else Z12 else Z12 else Z12 else Z12 else bif Z6 then bif Z9 then some (D.tup (D.acons (D.acons (D.sl RTy.sector false (Z4 ++ now)) Z10) Z11)) else Z12 else Z12 else Z12 else Z12 else Z12 else Z12 else Z12 else Z12 else Z12) := by kernel_rfl
theorem putR3_ok (c : Bool) (now : List Sector) (d : Bool) (sure : List Sector) (k : Int) (n : Int) (b : List UInt8) (h : (goodL now && goodL sure && lenOK b.length) = true) : putR3_e c now d sure k n b = some (.tup (.acons (.acons (.sl (C := RC) .sector (!okPut now sure k n b) (pNow now sure k n b)) (.acons (.sl (C := RC) .sector (!okPut now sure k n b) (pSure now sure k n b)) .anil)) (.acons (.int .i64 (bif okPut now sure k n b then 0 else 2)) .anil))) := by
  (rw [putR3_eq]; conv => zeta)
  simp only [Bool.and_eq_true] at h
  obtain ⟨⟨hg, hgs⟩, hb⟩ := h
  have hgg : (goodL now && goodL sure) = true := by rw [hg, hgs]; rfl
  have no : okPut now sure k n b = false → some (D.tup (.acons (.acons (.sl (C := RC) .sector true []) (.acons (.sl (C := RC) .sector true []) .anil)) (.acons (.int .i64 2) .anil))) = some (.tup (.acons (.acons (.sl (C := RC) .sector (!okPut now sure k n b) (pNow now sure k n b)) (.acons (.sl (C := RC) .sector (!okPut now sure k n b) (pSure now sure k n b)) .anil)) (.acons (.int .i64 (bif okPut now sure k n b then 0 else 2)) .anil))) := fun e => by simp only [e, pNow, pSure]; rfl
  refine cond_of hgg ?_
  cases hd : diskOK now sure
  · exact cond_of rfl (no (okPut_not fun f => by rw [hd] at f; cases f.1))
  obtain ⟨l1, l2⟩ := diskOK_len hd
  refine cond_no rfl (cond_two (fun e => no (okPut_not fun f => by simp only [decide_eq_true_eq] at e; omega)) fun e1 => ?_)
  refine (cond_two (fun e => no (okPut_not fun f => by simp only [decide_eq_true_eq] at e; omega)) fun e2 => ?_)
  refine (cond_two (fun e => no (okPut_not fun f => by simp only [decide_eq_true_eq] at e; omega)) fun e3 => ?_)
  have mf : maySec ⟨n, b⟩ = true → n ≤ 1048575 ∧ b.length ≤ 640 := fun e => by simp only [maySec, Bool.and_eq_true, decide_eq_true_eq] at e; exact ⟨e.1.1.2, e.1.2⟩
  refine (cond_two (fun e => no (okPut_not fun f => by have := mf f.2.2.2.2.2; simp only [decide_eq_true_eq] at e; omega)) fun e4 => ?_)
  refine (cond_two (fun e => no (okPut_not fun f => f.2.2.2.2.1 (by simpa using e))) fun e5 => ?_)
  refine cond_of hb ?_
  refine (cond_two (fun e => no (okPut_not fun f => by have := mf f.2.2.2.2.2; simp only [decide_eq_true_eq] at e; omega)) fun e6 => ?_)
  simp only [decide_eq_false_iff_not] at e1 e2 e3 e4 e6
  have ok : okPut now sure k n b = true := by
    have d1 : 0 < n := by omega
    simp only [okPut, hd, maySec, Bool.true_and, Bool.and_eq_true, decide_eq_true_eq, d1, decide_true, Bool.true_or]
    exact ⟨⟨⟨⟨by omega, by omega⟩, by omega⟩, by simpa using e5⟩, ⟨⟨by omega, by omega⟩, by omega⟩, trivial⟩
  rw [ok]
  have r0 : ∀ l : List Sector, List.replicate 0 (⟨0, []⟩ : Sector) ++ l = l := fun l => rfl
  have eb : ∀ n : Nat, n.beq n = true := fun n => by simp
  have s1 : sizeOK now.length 24 = true := by simp [sizeOK]; omega
  have s2 : sizeOK sure.length 24 = true := by simp [sizeOK]; omega
  have dk : decide (0 ≤ k ∧ k < (now.length : Int)) = true := by simp; omega
  simp only [pNow, pSure, ok, cond_true, Bool.not_true, r0, Nat.zero_add, List.length_set, eb, s1, s2, dk, Bool.and_self]
  refine cond_two (fun e => ?_) fun e => ?_ <;> simp only [decide_eq_true_eq, decide_eq_false_iff_not] at e
  · have pn : putNow now k.toNat n b = now.set k.toNat ⟨n, b⟩ := if_pos e
    rw [pn]
  · have pn : putNow now k.toNat n b = now := if_neg e
    rw [pn]
noncomputable def ud_5 := ud_4.addSpec 44 putR3_sp
theorem ud_5_laws : FLaws Tryz.prog s17 ud_5 := ud_4_laws.addEv s17_laws fun args d h => by
  unfold putR3_sp at h
  split at h
  · unfold putR3_s at h
    have h1 := congrArg Prod.fst (Option.some.inj h)
    obtain rfl : _ = d := congrArg Prod.snd (Option.some.inj h)
    exact ⟨by simp [D.refs], 40, putR3_ok _ _ _ _ _ _ _ h1⟩
  · cases h
open Go.Proofs
structure ints11l_St where
  c : Bool
  l : List Int
  d : Bool
  m : List Int
  i : Nat
def ints11l_c (c : Bool) (l : List Int) (d : Bool) (m : List Int) (i : Nat) : Env RC := [(0, .sl (C := RC) .int c l), (1, .sl (C := RC) .int d m), (4, .bool false), (5, .int .i64 (i : Int))]
def ints11l_o (c : Bool) (l : List Int) (d : Bool) (m : List Int) (i : Nat) : List (Obj RC) := []
noncomputable def ints11l_r (c : Bool) (l : List Int) (d : Bool) (m : List Int) (i : Nat) := rndO s17 ud_5 24 4 40 0 [0, 1, 4, 5] [4] [] (ints11l_c c l d m i) (ints11l_o c l d m i)
theorem ints11l_eq (c : Bool) (l : List Int) (d : Bool) (m : List Int) (i : Nat) : ints11l_r c l d m i = (let Z0 : Int := (↑i : Int); bif lenOK l.length then bif decide (Z0 < (↑l.length : Int)) then bif decide ((0 : Int) ≤ Z0 ∧ Z0 < (↑l.length : Int)) then bif decide ((0 : Int) ≤ Z0 ∧ Z0 < (↑m.length : Int)) then bif List.getD l Z0.toNat (0 : Int) != List.getD m Z0.toNat (0 : Int) then some ((X.ret, [(4, D.bool false)]), []) else some ((X.normal, [(0, D.sl RTy.int c l), (1, D.sl RTy.int d m), (4, D.bool false), (5, D.int .i64 (IntKind.wrap .i64 (Z0 + (1 : Int))))]), []) else none else none else some ((X.exit (0 : Nat), [(4, D.bool false)]), []) else none) := by kernel_rfl
def ints11l_fin (c : Bool) (l : List Int) (d : Bool) (m : List Int) (i : Nat) : RT RC := .br (decide (l.drop i = m.drop i)) (.leaf (.exit 0) [(4, .bool false)] []) (.leaf .ret [(4, .bool false)] [])
def ints11l_Inv (c : Bool) (l : List Int) (d : Bool) (m : List Int) (i : Nat) : Prop := i ≤ l.length ∧ l.length ≤ 9223372036854775807 ∧ l.length = m.length
def ints11l_S : LoopR RC ints11l_St where
  k := 0
  canon q := ints11l_c q.c q.l q.d q.m q.i
  objs q := ints11l_o q.c q.l q.d q.m q.i
  fin q := ints11l_fin q.c q.l q.d q.m q.i
  Inv q := ints11l_Inv q.c q.l q.d q.m q.i
  μ q := q.l.length - q.i
theorem ints11l_round (c : Bool) (l : List Int) (d : Bool) (m : List Int) (i : Nat) (hI : ints11l_Inv c l d m i) : Leaf (ints11l_r c l d m i) (LedR ints11l_S ⟨c, l, d, m, i⟩) := by
  (rw [ints11l_eq]; conv => zeta)
  unfold ints11l_Inv at hI
  obtain ⟨h1, h2, h3⟩ := hI
  have hlk := lenOK_of h2
  rw [hlk]
  simp only [cond_true]
  by_cases hlt : i < l.length
  · have w_succ : IntKind.i64.wrap ((i : Int) + 1) = ((i + 1 : Nat) : Int) := by rw [wrap_id (by omega) (by omega)]; simp
    have d_lt : decide ((i : Int) < l.length) = true := by simp; omega
    have d_in : decide (0 ≤ (i : Int) ∧ (i : Int) < l.length) = true := by simp; omega
    have t_nat : ((i : Int)).toNat = i := by simp
    simp only [w_succ, d_lt, d_in, t_nat, cond_true]
    have hlt' : i < m.length := by omega
    have d_in' : decide (0 ≤ (i : Int) ∧ (i : Int) < m.length) = true := by simp; omega
    have hst := drops_step l m i (0 : Int) hlt h3
    simp only [d_in', cond_true]
    generalize l.getD i (0 : Int) = x at hst ⊢
    generalize m.getD i (0 : Int) = y at hst ⊢
    by_cases hxy : x = y
    · simp only [ibneF hxy, cond_false]
      exact leafR_go ⟨c, l, d, m, i + 1⟩ ⟨hlt, h2, h3⟩ (by simp only [ints11l_S]; omega) (by simp only [ints11l_S, ints11l_fin, hst, hxy, decide_true, Bool.true_and]) rfl rfl
    · simp only [ibneT hxy, cond_true]
      exact leafR_ret [] (by simp [ints11l_S, ints11l_fin, hst, hxy, RT.val]) rfl
  · have hi : i = l.length := by omega
    have c1 : decide ((i : Int) < l.length) = false := by simp; omega
    simp only [c1, cond_false]
    exact leafR_exit [] (by simp only [ints11l_S, ints11l_fin, drops_end l m i (by omega) (by omega), RT.val, cond_true]) rfl
def ints11l_d (env : Env RC) (os : List (Obj RC)) : Option (Bool × ints11l_St) := match env, os with
  | [(0, .sl .int c l), (1, .sl .int d m), (4, .bool false), (5, .int .i64 x0)], [] => staticD (true) (decide (x0 = 0) && decide (l.length ≤ 9223372036854775807 ∧ l.length = m.length), ⟨c, l, d, m, 0⟩)
  | _, _ => none
noncomputable def ue_1 := ud_5.addLoop 24 4 (sumR s17 [] [0, 1, 4, 5] ints11l_S ints11l_d)
theorem ue_1_laws : FLaws Tryz.prog s17 ue_1 := by
  refine ud_5_laws.addRoundsR s17_laws (by kernel_rfl) ints11l_S 40 [0, 1, 4, 5] [4] [] [0, 1, 4, 5] ints11l_d (fun q hI => ?_) ?_
  · obtain ⟨c, l, d, m, i⟩ := q
    refine ⟨?_, ?_, ints11l_round c l d m i hI⟩
    · simp_all [RefsOK, ints11l_S, ints11l_c, ints11l_o, ints11l_Inv, D.refs, Obj.refs, rEnc]
    · simp_all [ints11l_S, ints11l_fin, ints11l_o, ints11l_Inv, RT.refsOK, RefsOK, D.refs, Obj.refs, rEnc]
  · intro env os b q hd_ hb
    unfold ints11l_d at hd_
    split at hd_
    · obtain ⟨hs, hd_⟩ := staticD_some hd_
      cases hd_
      simp only [Bool.and_eq_true, decide_eq_true_eq] at hb
      obtain ⟨⟨rfl, rfl⟩, hl⟩ := hb
      exact ⟨⟨Nat.zero_le _, hl.1, hl.2⟩, rfl, rfl⟩
    · cases hd_
def ints11_s (c : Bool) (l : List Int) (d : Bool) (m : List Int) : Option (Bool × D RC) := some (lenOK l.length && lenOK m.length, .bool (decide (l = m)))
def ints11_sp : List (D RC) → Option (Bool × D RC)
  | [.sl .int c l, .sl .int d m] => ints11_s c l d m
  | _ => none
noncomputable def ints11_e (c : Bool) (l : List Int) (d : Bool) (m : List Int) := evF s17 ue_1 40 24 [.sl (C := RC) .int c l, .sl (C := RC) .int d m]
theorem ints11_eq (c : Bool) (l : List Int) (d : Bool) (m : List Int) : ints11_e c l d m = (let Z0 : Nat := List.length l; let Z1 : Nat := List.length m; bif lenOK Z0 then bif lenOK Z1 then bif (↑Z0 : Int) != (↑Z1 : Int) then some (D.bool false) else bif decide (Z0 ≤ (9223372036854775807 : Nat) ∧ Z0 = Z1) then bif decide (List.drop (0 : Nat) l = List.drop (0 : Nat) m) then some (D.bool true) else some (D.bool false) else none else none else none) := by kernel_rfl
theorem ints11_ok (c : Bool) (l : List Int) (d : Bool) (m : List Int) (h : (lenOK l.length && lenOK m.length) = true) : ints11_e c l d m = some (.bool (decide (l = m))) := by
  (rw [ints11_eq]; conv => zeta)
  simp only [Bool.and_eq_true] at h
  have h1 : l.length ≤ 9223372036854775807 := lenOK_le h.1
  simp only [h.1, h.2, cond_true]
  by_cases hl : l.length = m.length
  · have e1 : ((l.length : Int) != (m.length : Int)) = false := by simp [hl]
    have e2 : (l.length ≤ 9223372036854775807 ∧ l.length = m.length) := ⟨h1, hl⟩
    rw [e1, decide_eq_true e2]
    simp only [cond_true, cond_false, List.drop_zero]
    cases decide (l = m) <;> rfl
  · have e1 : ((l.length : Int) != (m.length : Int)) = true := by simp; omega
    have : ¬ l = m := fun e => hl (by rw [e])
    simp [e1, this]
noncomputable def ue_2 := ue_1.addSpec 24 ints11_sp
theorem ue_2_laws : FLaws Tryz.prog s17 ue_2 := ue_1_laws.addEv s17_laws fun args d h => by
  unfold ints11_sp at h
  split at h
  · unfold ints11_s at h
    have h1 := congrArg Prod.fst (Option.some.inj h)
    obtain rfl : _ = d := congrArg Prod.snd (Option.some.inj h)
    exact ⟨by simp [D.refs], 40, ints11_ok _ _ _ _ h1⟩
  · cases h
structure chk09l_St where
  c : Bool
  l : List Int
  a : Bool
  now : List Sector
  b : Bool
  sure : List Sector
  i : Nat
def chk09l_c (c : Bool) (l : List Int) (a : Bool) (now : List Sector) (b : Bool) (sure : List Sector) (i : Nat) : Env RC := [(1, .ptr 0 []), (2, .int .i64 0), (3, .int .i64 (i : Int))]
def chk09l_o (c : Bool) (l : List Int) (a : Bool) (now : List Sector) (b : Bool) (sure : List Sector) (i : Nat) : List (Obj RC) := [.var 40 (.acons (.sl (C := RC) .int c l) (.acons (.acons (.sl (C := RC) .sector a now) (.acons (.sl (C := RC) .sector b sure) .anil)) .anil))]
noncomputable def chk09l_r (c : Bool) (l : List Int) (a : Bool) (now : List Sector) (b : Bool) (sure : List Sector) (i : Nat) := rndO s17 ue_2 67 4 40 1 [1, 2, 3] [2] [.slot 1 0] (chk09l_c c l a now b sure i) (chk09l_o c l a now b sure i)
theorem chk09l_eq (c : Bool) (l : List Int) (a : Bool) (now : List Sector) (b : Bool) (sure : List Sector) (i : Nat) : chk09l_r c l a now b sure i = (let Z0 : Int := (↑i : Int); let Z1 : Int := List.getD l Z0.toNat (0 : Int); let Z2 : List (Option (Obj RC)) := [some (Obj.var 40 (.acons (D.sl RTy.int c l) (.acons (D.acons (D.sl RTy.sector a now) (.acons (D.sl RTy.sector b sure) .anil)) .anil)))]; let Z3 : Nat × D RC := (2, D.int .i64 0); bif lenOK l.length then bif decide (Z0 < (↑l.length : Int)) then bif decide ((0 : Int) ≤ Z0 ∧ Z0 < (↑l.length : Int)) then bif decide ((-1152921504606846976 : Int) ≤ Z1) then bif !decide (Z1 ≤ (1152921504606846976 : Int)) then some ((X.ret, [(2, D.int .i64 2)]), Z2) else some ((X.normal, [(1, D.ptr 0 []), Z3, (3, D.int .i64 (IntKind.wrap .i64 (Z0 + (1 : Int))))]), Z2) else some ((X.ret, [(2, D.int .i64 2)]), Z2) else none else some ((X.exit (0 : Nat), [Z3]), Z2) else none) := by kernel_rfl
def chk09l_fin (c : Bool) (l : List Int) (a : Bool) (now : List Sector) (b : Bool) (sure : List Sector) (i : Nat) : RT RC := .br ((l.drop i).all fitsC) (.leaf (.exit 0) [(2, .int .i64 0)] (chk09l_o c l a now b sure i)) (.leaf .ret [(2, .int .i64 2)] (chk09l_o c l a now b sure i))
def chk09l_Inv (c : Bool) (l : List Int) (a : Bool) (now : List Sector) (b : Bool) (sure : List Sector) (i : Nat) : Prop := i ≤ l.length ∧ l.length ≤ 1024
def chk09l_S : LoopR RC chk09l_St where
  k := 1
  canon q := chk09l_c q.c q.l q.a q.now q.b q.sure q.i
  objs q := chk09l_o q.c q.l q.a q.now q.b q.sure q.i
  fin q := chk09l_fin q.c q.l q.a q.now q.b q.sure q.i
  Inv q := chk09l_Inv q.c q.l q.a q.now q.b q.sure q.i
  μ q := q.l.length - q.i
theorem chk09l_round (c : Bool) (l : List Int) (a : Bool) (now : List Sector) (b : Bool) (sure : List Sector) (i : Nat) (hI : chk09l_Inv c l a now b sure i) : Leaf (chk09l_r c l a now b sure i) (LedR chk09l_S ⟨c, l, a, now, b, sure, i⟩) := by
  (rw [chk09l_eq]; conv => zeta)
  unfold chk09l_Inv at hI
  obtain ⟨h1, h2⟩ := hI
  have hlk := lenOK_of (n := l.length) (by omega)
  by_cases hlt : i < l.length
  · have w_succ : IntKind.i64.wrap ((i : Int) + 1) = ((i + 1 : Nat) : Int) := by rw [wrap_id (by omega) (by omega)]; simp
    have d_lt : decide ((i : Int) < l.length) = true := by simp; omega
    have d_in : decide (0 ≤ (i : Int) ∧ (i : Int) < l.length) = true := by simp; omega
    have t_nat : ((i : Int)).toNat = i := by simp
    simp only [w_succ, d_lt, d_in, t_nat, cond_true]
    have hst := all_drop_step l fitsC i hlt (0 : Int)
    generalize l.getD i (0 : Int) = x at hst ⊢
    simp only [hlk, cond_true]
    have hgo : fitsC x = true → Leaf (some ((X.normal, chk09l_c c l a now b sure (i + 1)), (chk09l_o c l a now b sure (i + 1)).map some)) (LedR chk09l_S ⟨c, l, a, now, b, sure, i⟩) := fun e =>
      leafR_go ⟨c, l, a, now, b, sure, i + 1⟩ ⟨hlt, h2⟩ (by simp only [chk09l_S]; omega) (by simp [chk09l_S, chk09l_fin, hst, e]; rfl) rfl rfl
    have hno : fitsC x = false → Leaf (some ((X.ret, [(2, D.int .i64 2)]), (chk09l_o c l a now b sure i).map some)) (LedR chk09l_S ⟨c, l, a, now, b, sure, i⟩) := fun e => leafR_ret (chk09l_o c l a now b sure i) (by simp [chk09l_S, chk09l_fin, hst, e, RT.val]) rfl
    have hm : fitsC x = (decide (-1152921504606846976 ≤ x) && decide (x ≤ 1152921504606846976)) := rfl
    rw [hm] at hgo hno
    repeat' (refine leaf_cond.2 ⟨fun hc_ => ?_, fun hc_ => ?_⟩)
    all_goals first | exact hno (by clear hgo hno hst hm; simp_all <;> omega) | exact hgo (by clear hgo hno hst hm; simp_all <;> omega)
  · have hi : i = l.length := by omega
    have c1 : decide ((i : Int) < l.length) = false := by simp; omega
    rw [hlk, c1]
    exact leafR_exit (chk09l_o c l a now b sure i) (by simp [chk09l_S, chk09l_fin, hi, RT.val]) rfl
def chk09l_d (env : Env RC) (os : List (Obj RC)) : Option (Bool × chk09l_St) := match env, os with
  | [(1, .ptr 0 []), (2, .int .i64 0), (3, .int .i64 x0)], [.var 40 (.acons (.sl .int c l) (.acons (.acons (.sl .sector a now) (.acons (.sl .sector b sure) .anil)) .anil))] => staticD (true) (decide (x0 = 0) && decide (l.length ≤ 1024), ⟨c, l, a, now, b, sure, 0⟩)
  | _, _ => none
noncomputable def ue_3 := ue_2.addLoop 67 4 (sumR s17 [.slot 1 0] [1, 2, 3] chk09l_S chk09l_d)
theorem ue_3_laws : FLaws Tryz.prog s17 ue_3 := by
  refine ue_2_laws.addRoundsR s17_laws (by kernel_rfl) chk09l_S 40 [1, 2, 3] [2] [.slot 1 0] [1, 2, 3] chk09l_d (fun q hI => ?_) ?_
  · obtain ⟨c, l, a, now, b, sure, i⟩ := q
    refine ⟨?_, ?_, chk09l_round c l a now b sure i hI⟩
    · simp_all [RefsOK, chk09l_S, chk09l_c, chk09l_o, chk09l_Inv, D.refs, Obj.refs, rEnc]
    · simp_all [chk09l_S, chk09l_fin, chk09l_o, chk09l_Inv, RT.refsOK, RefsOK, D.refs, Obj.refs, rEnc]
  · intro env os b q hd_ hb
    unfold chk09l_d at hd_
    split at hd_
    · obtain ⟨hs, hd_⟩ := staticD_some hd_
      cases hd_
      simp only [Bool.and_eq_true, decide_eq_true_eq] at hb
      obtain ⟨rfl, hl⟩ := hb
      exact ⟨⟨Nat.zero_le _, hl⟩, rfl, rfl⟩
    · cases hd_
def chk09_s (c : Bool) (l : List Int) (a : Bool) (now : List Sector) (b : Bool) (sure : List Sector) : Option (Bool × D RC) := some (lenOK l.length && (goodL now && goodL sure), .int .i64 (bif cellsOK l && diskOK now sure then 0 else 2))
def chk09_sp : List (D RC) → Option (Bool × D RC)
  | [.acons (.sl .int c l) (.acons (.acons (.sl .sector a now) (.acons (.sl .sector b sure) .anil)) .anil)] => chk09_s c l a now b sure
  | _ => none
noncomputable def chk09_e (c : Bool) (l : List Int) (a : Bool) (now : List Sector) (b : Bool) (sure : List Sector) := evF s17 ue_3 40 67 [.acons (.sl (C := RC) .int c l) (.acons (.acons (.sl (C := RC) .sector a now) (.acons (.sl (C := RC) .sector b sure) .anil)) .anil)]
theorem chk09_eq (c : Bool) (l : List Int) (a : Bool) (now : List Sector) (b : Bool) (sure : List Sector) : chk09_e c l a now b sure = (let Z0 : Nat := List.length l; let Z1 : DO_ := some (D.int .i64 2); bif lenOK Z0 then bif decide ((1024 : Int) < (↑Z0 : Int)) then Z1 else bif decide (Z0 ≤ (1024 : Nat)) then bif List.all (List.drop (0 : Nat) l) fitsC then bif goodL now && goodL sure then some (D.int .i64 (bif diskOK now sure then (0 : Int) else (2 : Int))) else none else Z1 else none else none) := by kernel_rfl
theorem chk09_ok (c : Bool) (l : List Int) (a : Bool) (now : List Sector) (b : Bool) (sure : List Sector) (h : (lenOK l.length && (goodL now && goodL sure)) = true) : chk09_e c l a now b sure = some (.int .i64 (bif cellsOK l && diskOK now sure then 0 else 2)) := by
  (rw [chk09_eq]; conv => zeta)
  rw [Bool.and_eq_true] at h
  obtain ⟨h1, h2⟩ := h
  simp only [h1, h2, cond_true, List.drop_zero, cellsOK]
  by_cases hl : l.length ≤ 1024
  · have e1 : decide ((1024 : Int) < l.length) = false := by simp; omega
    simp only [e1, decide_eq_true hl, cond_false, cond_true, Bool.true_and]
    cases l.all fitsC <;> rfl
  · have e1 : decide ((1024 : Int) < l.length) = true := by simp; omega
    simp only [e1, decide_eq_false hl, cond_true, Bool.false_and, cond_false]
noncomputable def ue_4 := ue_3.addSpec 67 chk09_sp
theorem ue_4_laws : FLaws Tryz.prog s17 ue_4 := ue_3_laws.addEv s17_laws fun args d h => by
  unfold chk09_sp at h
  split at h
  · unfold chk09_s at h
    have h1 := congrArg Prod.fst (Option.some.inj h)
    obtain rfl : _ = d := congrArg Prod.snd (Option.some.inj h)
    exact ⟨by simp [D.refs], 40, chk09_ok _ _ _ _ _ _ h1⟩
  · cases h
def new03_s  : Option (Bool × D RC) := some (true, .acons (.sl (C := RC) .sector false emptyDisk) (.acons (.sl (C := RC) .sector false emptyDisk) .anil))
def new03_sp : List (D RC) → Option (Bool × D RC)
  | [] => new03_s 
  | _ => none
noncomputable def new03_e  := evF s17 ue_4 40 19 []
theorem new03_ok  (h : (true) = true) : new03_e  = some (.acons (.sl (C := RC) .sector false emptyDisk) (.acons (.sl (C := RC) .sector false emptyDisk) .anil)) := by
  kernel_rfl
noncomputable def ue_5 := ue_4.addSpec 19 new03_sp
theorem ue_5_laws : FLaws Tryz.prog s17 ue_5 := ue_4_laws.addEv s17_laws fun args d h => by
  unfold new03_sp at h
  split at h
  · unfold new03_s at h
    have h1 := congrArg Prod.fst (Option.some.inj h)
    obtain rfl : _ = d := congrArg Prod.snd (Option.some.inj h)
    exact ⟨by simp [D.refs], 40, new03_ok  h1⟩
  · cases h
def do09_s (c : Bool) (l : List Int) (a : Bool) (now : List Sector) (b : Bool) (sure : List Sector) (k : Int) (ad : Int) (bb : Int) (v : Int) (ca : Bool) : Option (Bool × D RC) := some (decide (OkDo l k ad bb v) && (cellsOK l && (diskOK now sure && (goodL now && goodL sure))), .tup (.acons (.acons (.sl (C := RC) .int false (doC l k ad bb v)) (.acons (.acons (.sl (C := RC) .sector a now) (.acons (.sl (C := RC) .sector b sure) .anil)) .anil)) (.acons (.int .i64 (doG l k ad bb)) (.acons (.int .i64 0) .anil))))
def do09_sp : List (D RC) → Option (Bool × D RC)
  | [.acons (.sl .int c l) (.acons (.acons (.sl .sector a now) (.acons (.sl .sector b sure) .anil)) .anil), .acons (.int .i8 k) (.acons (.int .i64 ad) (.acons (.int .i64 bb) (.acons (.int .i64 v) (.acons (.int .i64 0) (.acons (.str []) (.acons (.sl .int ca []) .anil))))))] => do09_s c l a now b sure k ad bb v ca
  | _ => none
noncomputable def do09_e (c : Bool) (l : List Int) (a : Bool) (now : List Sector) (b : Bool) (sure : List Sector) (k : Int) (ad : Int) (bb : Int) (v : Int) (ca : Bool) := evF s17 ue_5 80 25 [.acons (.sl (C := RC) .int c l) (.acons (.acons (.sl (C := RC) .sector a now) (.acons (.sl (C := RC) .sector b sure) .anil)) .anil), .acons (.int .i8 k) (.acons (.int .i64 ad) (.acons (.int .i64 bb) (.acons (.int .i64 v) (.acons (.int .i64 0) (.acons (.str []) (.acons (.sl (C := RC) .int ca []) .anil))))))]
theorem do09_eq0 (c : Bool) (l : List Int) (a : Bool) (now : List Sector) (b : Bool) (sure : List Sector) (ad : Int) (ca : Bool) : do09_e c l a now b sure 0 ad 0 0 ca = (let Z0 : Nat := List.length l; let Z1 : D RC := D.sl RTy.sector true []; let Z2 : D RC := .anil; let Z3 : D RC := D.int .i64 0; let Z4 : DO_ := some (D.tup (D.acons (D.acons (D.sl RTy.int true []) (.acons (D.acons Z1 (D.acons Z1 Z2)) Z2)) (.acons Z3 (D.acons (D.int .i64 2) Z2)))); let Z5 : List Int := List.replicate (0 : Nat) (0 : Int) ++ l; bif lenOK Z0 && (goodL now && goodL sure) then bif (bif cellsOK l && diskOK now sure then (0 : Int) else (2 : Int)) != (0 : Int) then Z4 else bif decide (ad < (0 : Int)) then Z4 else bif lenOK Z0 then bif decide ((↑Z0 : Int) ≤ ad) then Z4 else bif sizeOK ((0 : Nat) + Z0) (8 : Nat) then bif Nat.beq ((0 : Nat) + Z0) Z5.length then bif decide ((0 : Int) ≤ ad ∧ ad < (↑Z5.length : Int)) then some (D.tup (D.acons (D.acons (D.sl RTy.int false Z5) (.acons (D.acons (D.sl RTy.sector a now) (.acons (D.sl RTy.sector b sure) Z2)) Z2)) (.acons (D.int .i64 (List.getD Z5 ad.toNat (0 : Int))) (.acons Z3 Z2)))) else none else none else none else none else none) := by kernel_rfl
theorem do09_eq2 (c : Bool) (l : List Int) (a : Bool) (now : List Sector) (b : Bool) (sure : List Sector) (ad bb v : Int) (ca : Bool) : do09_e c l a now b sure 2 ad bb v ca = (let Z0 : Nat := List.length l; let Z1 : D RC := D.sl RTy.sector true []; let Z2 : D RC := .anil; let Z3 : D RC := D.int .i64 0; let Z4 : DO_ := some (D.tup (D.acons (D.acons (D.sl RTy.int true []) (.acons (D.acons Z1 (D.acons Z1 Z2)) Z2)) (.acons Z3 (D.acons (D.int .i64 2) Z2)))); let Z5 : Int := (-1152921504606846976 : Int); let Z6 : Nat := (0 : Nat) + Z0; let Z7 : List Int := List.replicate (0 : Nat) (0 : Int) ++ l; let Z8 : Bool := Nat.beq Z6 Z7.length; let Z9 : Bool := Z8 && decide ((0 : Int) ≤ ad ∧ ad < (↑Z7.length : Int)); let Z10 : D RC := D.acons (D.acons (D.sl RTy.sector a now) (.acons (D.sl RTy.sector b sure) Z2)) Z2; let Z11 : List Int := List.set Z7 ad.toNat v; bif lenOK Z0 && (goodL now && goodL sure) then bif (bif cellsOK l && diskOK now sure then (0 : Int) else (2 : Int)) != (0 : Int) then Z4 else bif decide (ad < (0 : Int)) then Z4 else bif lenOK Z0 then bif decide ((↑Z0 : Int) ≤ ad) then Z4 else bif decide (Z5 ≤ bb) then bif !decide (bb ≤ (1152921504606846976 : Int)) then Z4 else bif decide (Z5 ≤ v) then bif !decide (v ≤ (1152921504606846976 : Int)) then Z4 else bif sizeOK Z6 (8 : Nat) then bif Z9 then bif Z8 then bif List.getD Z7 ad.toNat (0 : Int) != bb then bif Z8 then some (D.tup (D.acons (D.acons (D.sl RTy.int false Z7) Z10) (.acons Z3 (D.acons Z3 Z2)))) else none else bif Z9 then bif Z8 then bif Nat.beq Z6 Z11.length then some (D.tup (D.acons (D.acons (D.sl RTy.int false Z11) Z10) (.acons (D.int .i64 1) (.acons Z3 Z2)))) else none else none else none else none else none else none else Z4 else Z4 else none else none) := by kernel_rfl
theorem do09_ok (c : Bool) (l : List Int) (a : Bool) (now : List Sector) (b : Bool) (sure : List Sector) (k : Int) (ad : Int) (bb : Int) (v : Int) (ca : Bool) (h : (decide (OkDo l k ad bb v) && (cellsOK l && (diskOK now sure && (goodL now && goodL sure)))) = true) : do09_e c l a now b sure k ad bb v ca = some (.tup (.acons (.acons (.sl (C := RC) .int false (doC l k ad bb v)) (.acons (.acons (.sl (C := RC) .sector a now) (.acons (.sl (C := RC) .sector b sure) .anil)) .anil)) (.acons (.int .i64 (doG l k ad bb)) (.acons (.int .i64 0) .anil)))) := by
  simp only [Bool.and_eq_true, decide_eq_true_eq] at h
  obtain ⟨ho, hc, hd, hg1, hg2⟩ := h
  obtain ⟨hk, a0, a1, b0, b1, v0, v1⟩ := ho
  have hlen : l.length ≤ 1024 := by
    simp only [cellsOK, Bool.and_eq_true, decide_eq_true_eq] at hc; exact hc.1
  have e1 : lenOK l.length = true := lenOK_of (by omega)
  have e4 : decide (ad < 0) = false := by simp; omega
  have e5 : decide ((l.length : Int) ≤ ad) = false := by simp; omega
  have e6 : decide (0 ≤ ad ∧ ad < (l.length : Int)) = true := by simp; omega
  have e7 : sizeOK (0 + l.length) 8 = true := sizeT (by omega)
  have e8 : Nat.beq (0 + l.length) l.length = true := nbeqT (by omega)
  have e9 : decide (-1152921504606846976 ≤ bb) = true := by simp; omega
  have f0 : decide (bb ≤ 1152921504606846976) = true := by simp; omega
  have f1 : decide (-1152921504606846976 ≤ v) = true := by simp; omega
  have f2 : decide (v ≤ 1152921504606846976) = true := by simp; omega
  rcases hk with ⟨rfl, rfl, rfl⟩ | rfl
  · (rw [do09_eq0]; conv => zeta)
    simp only [List.replicate_zero, List.nil_append, e1, hg1, hg2, hc, hd, Bool.and_self, cond_true, cond_false, bne_self_eq_false, e4, e5, e6, e7, e8]
    rfl
  · (rw [do09_eq2]; conv => zeta)
    simp only [List.replicate_zero, List.nil_append, List.length_set, e1, hg1, hg2, hc, hd, Bool.and_self, cond_true, cond_false, bne_self_eq_false, e4, e5, e6, e7, e8, e9, f0, f1, f2, Bool.not_true]
    by_cases hb : l.getD ad.toNat 0 = bb
    · rw [ibneF hb]
      simp only [cond_false, doC, doG, hb, and_self, if_true]
      rfl
    · rw [ibneT hb]
      simp only [cond_true, doC, doG, hb, and_false, if_false]
      rfl
noncomputable def ue_6 := ue_5.addSpec 25 do09_sp
theorem ue_6_laws : FLaws Tryz.prog s17 ue_6 := ue_5_laws.addEv s17_laws fun args d h => by
  unfold do09_sp at h
  split at h
  · unfold do09_s at h
    have h1 := congrArg Prod.fst (Option.some.inj h)
    obtain rfl : _ = d := congrArg Prod.snd (Option.some.inj h)
    exact ⟨by simp [D.refs], 80, do09_ok _ _ _ _ _ _ _ _ _ _ _ h1⟩
  · cases h
open Go.Proofs
def regs (w d : Int) : List Int := w :: d :: List.replicate 94 0
def sameA_s (k : Int) (a : Int) (b : Int) (v : Int) (g : Int) (ca : Bool) (k2 : Int) (a2 : Int) (b2 : Int) (v2 : Int) (g2 : Int) (cb : Bool) : Option (Bool × D RC) := some (true, .bool (decide (k = k2 ∧ a = a2 ∧ b = b2 ∧ v = v2 ∧ g = g2)))
def sameA_sp : List (D RC) → Option (Bool × D RC)
  | [.acons (.int .i8 k) (.acons (.int .i64 a) (.acons (.int .i64 b) (.acons (.int .i64 v) (.acons (.int .i64 g) (.acons (.str []) (.acons (.sl .int ca []) .anil)))))), .acons (.int .i8 k2) (.acons (.int .i64 a2) (.acons (.int .i64 b2) (.acons (.int .i64 v2) (.acons (.int .i64 g2) (.acons (.str []) (.acons (.sl .int cb []) .anil))))))] => sameA_s k a b v g ca k2 a2 b2 v2 g2 cb
  | _ => none
noncomputable def sameA_e (k : Int) (a : Int) (b : Int) (v : Int) (g : Int) (ca : Bool) (k2 : Int) (a2 : Int) (b2 : Int) (v2 : Int) (g2 : Int) (cb : Bool) := evF s17 ue_6 40 23 [.acons (.int .i8 k) (.acons (.int .i64 a) (.acons (.int .i64 b) (.acons (.int .i64 v) (.acons (.int .i64 g) (.acons (.str []) (.acons (.sl (C := RC) .int ca []) .anil)))))), .acons (.int .i8 k2) (.acons (.int .i64 a2) (.acons (.int .i64 b2) (.acons (.int .i64 v2) (.acons (.int .i64 g2) (.acons (.str []) (.acons (.sl (C := RC) .int cb []) .anil))))))]
theorem sameA_eq (k : Int) (a : Int) (b : Int) (v : Int) (g : Int) (ca : Bool) (k2 : Int) (a2 : Int) (b2 : Int) (v2 : Int) (g2 : Int) (cb : Bool) : sameA_e k a b v g ca k2 a2 b2 v2 g2 cb = (let Z0 : DO_ := some (D.bool false); bif k == k2 then bif a == a2 then bif b == b2 then bif v == v2 then bif g == g2 then some (D.bool true) else Z0 else Z0 else Z0 else Z0 else Z0) := by kernel_rfl
theorem sameA_ok (k : Int) (a : Int) (b : Int) (v : Int) (g : Int) (ca : Bool) (k2 : Int) (a2 : Int) (b2 : Int) (v2 : Int) (g2 : Int) (cb : Bool) (h : (true) = true) : sameA_e k a b v g ca k2 a2 b2 v2 g2 cb = some (.bool (decide (k = k2 ∧ a = a2 ∧ b = b2 ∧ v = v2 ∧ g = g2))) := by
  (rw [sameA_eq]; conv => zeta)
  repeat' (refine cond2 (fun hc => ?_) fun hc => ?_)
  all_goals simp only [beq_iff_eq, beq_eq_false_iff_ne, ne_eq] at *
  all_goals first | exact congrArg (fun b => some (D.bool b)) (decide_eq_true (by omega)).symm | exact congrArg (fun b => some (D.bool b)) (decide_eq_false (by omega)).symm
noncomputable def uf_1 := ue_6.addSpec 23 sameA_sp
theorem uf_1_laws : FLaws Tryz.prog s17 uf_1 := ue_6_laws.addEv s17_laws fun args d h => by
  unfold sameA_sp at h
  split at h
  · unfold sameA_s at h
    have h1 := congrArg Prod.fst (Option.some.inj h)
    obtain rfl : _ = d := congrArg Prod.snd (Option.some.inj h)
    exact ⟨by simp [D.refs], 40, sameA_ok _ _ _ _ _ _ _ _ _ _ _ _ h1⟩
  · cases h
def give_s (c : Int) (f : Bool) (st : List Frame) (e : Bool) (got : List Int) (over : Bool) (x : Int) : Option (Bool × D RC) := some (decide (0 ≤ c ∧ c ≤ 3 ∧ got.length ≤ 96 ∧ 1 ≤ st.length ∧ st.length ≤ 6) && !over, .tup (.acons (.acons (.int .i64 c) (.acons (.sl (C := RC) .frame f st) (.acons (.sl (C := RC) .int true [x]) (.acons (.bool over) .anil)))) (.acons (.int .i64 0) .anil)))
def give_sp : List (D RC) → Option (Bool × D RC)
  | [.acons (.int .i64 c) (.acons (.sl .frame f st) (.acons (.sl .int e got) (.acons (.bool over) .anil))), .int .i64 x] => give_s c f st e got over x
  | _ => none
noncomputable def give_e (c : Int) (f : Bool) (st : List Frame) (e : Bool) (got : List Int) (over : Bool) (x : Int) := evF s17 uf_1 40 26 [.acons (.int .i64 c) (.acons (.sl (C := RC) .frame f st) (.acons (.sl (C := RC) .int e got) (.acons (.bool over) .anil))), .int .i64 x]
theorem give_eq (c : Int) (f : Bool) (st : List Frame) (e : Bool) (got : List Int) (over : Bool) (x : Int) : give_e c f st e got over x = (let Z0 : D RC := D.int .i64 0; let Z1 : DO_ := some (D.tup (D.acons (D.acons Z0 (D.acons (D.sl RTy.frame true []) (.acons (D.sl RTy.int true []) (.acons (D.bool false) .anil)))) (.acons (D.int .i64 2) .anil))); let Z2 : Bool := lenOK st.length; let Z3 : Int := (↑st.length : Int); let Z4 : DO_ := bif over then Z1 else some (D.tup (D.acons (D.acons (D.int .i64 c) (.acons (D.sl RTy.frame f st) (.acons (D.sl RTy.int true [x]) (.acons (D.bool over) .anil)))) (.acons Z0 .anil))); bif decide (c < (0 : Int)) then Z1 else bif decide ((4 : Int) ≤ c) then Z1 else bif lenOK got.length then bif decide ((96 : Int) < (↑got.length : Int)) then Z1 else bif over then bif Z2 then bif !Z3 == (0 : Int) then Z1 else Z4 else none else bif Z2 then bif decide ((1 : Int) ≤ Z3) then bif Z2 then bif !decide (Z3 ≤ (6 : Int)) then Z1 else Z4 else none else Z1 else none else none) := by kernel_rfl
theorem give_ok (c : Int) (f : Bool) (st : List Frame) (e : Bool) (got : List Int) (over : Bool) (x : Int) (h : (decide (0 ≤ c ∧ c ≤ 3 ∧ got.length ≤ 96 ∧ 1 ≤ st.length ∧ st.length ≤ 6) && !over) = true) : give_e c f st e got over x = some (.tup (.acons (.acons (.int .i64 c) (.acons (.sl (C := RC) .frame f st) (.acons (.sl (C := RC) .int true [x]) (.acons (.bool over) .anil)))) (.acons (.int .i64 0) .anil))) := by
  (rw [give_eq]; conv => zeta)
  simp only [Bool.and_eq_true, decide_eq_true_eq, Bool.not_eq_true'] at h
  obtain ⟨⟨h1, h2, h3, h4, h5⟩, rfl⟩ := h
  have c1 : decide (c < 0) = false := by simp; omega
  have c2 : decide (4 ≤ c) = false := by simp; omega
  have c3 : decide ((96 : Int) < got.length) = false := by simp; omega
  have c4 : lenOK got.length = true := lenOK_of (by omega)
  have c5 : lenOK st.length = true := lenOK_of (by omega)
  have c6 : decide ((1 : Int) ≤ st.length) = true := by simp; omega
  have c7 : decide ((st.length : Int) ≤ 6) = true := by simp; omega
  simp only [c1, c2, c3, c4, c5, c6, c7, cond_true, cond_false, Bool.not_true]
noncomputable def uf_2 := uf_1.addSpec 26 give_sp
theorem uf_2_laws : FLaws Tryz.prog s17 uf_2 := uf_1_laws.addEv s17_laws fun args d h => by
  unfold give_sp at h
  split at h
  · unfold give_s at h
    have h1 := congrArg Prod.fst (Option.some.inj h)
    obtain rfl : _ = d := congrArg Prod.snd (Option.some.inj h)
    exact ⟨by simp [D.refs], 40, give_ok _ _ _ _ _ _ _ h1⟩
  · cases h
def new10_s (c : Int) (ca : Bool) (w : Int) (d : Int) : Option (Bool × D RC) := some (decide (0 ≤ c ∧ c ≤ 3), .tup (.acons (.acons (.int .i64 c) (.acons (.sl (C := RC) .frame true [⟨68, 0, regs w d⟩]) (.acons (.sl (C := RC) .int true []) (.acons (.bool false) .anil)))) (.acons (.int .i64 0) .anil)))
def new10_sp : List (D RC) → Option (Bool × D RC)
  | [.int .i64 c, .int .i8 68, .sl .int ca [w, d]] => new10_s c ca w d
  | _ => none
noncomputable def new10_e (c : Int) (ca : Bool) (w : Int) (d : Int) := evF s17 uf_2 60 21 [.int .i64 c, .int .i8 68, .sl (C := RC) .int ca [w, d]]
theorem new10_eq (c : Int) (ca : Bool) (w : Int) (d : Int) : new10_e c ca w d = (let Z0 : D RC := D.int .i64 0; let Z1 : D RC := D.acons (D.sl RTy.int true []) (.acons (D.bool false) .anil); let Z2 : DO_ := some (D.tup (D.acons (D.acons Z0 (D.acons (D.sl RTy.frame true []) Z1)) (.acons (D.int .i64 2) .anil))); bif decide (c < (0 : Int)) then Z2 else bif decide ((4 : Int) ≤ c) then Z2 else some (D.tup (D.acons (D.acons (D.int .i64 c) (.acons (D.sl RTy.frame true [Frame.mk (68 : Int) (0 : Int) [w, d, (0 : Int), (0 : Int), (0 : Int), (0 : Int), (0 : Int), (0 : Int), (0 : Int), (0 : Int), (0 : Int), (0 : Int), (0 : Int), (0 : Int), (0 : Int), (0 : Int), (0 : Int), (0 : Int), (0 : Int), (0 : Int), (0 : Int), (0 : Int), (0 : Int), (0 : Int), (0 : Int), (0 : Int), (0 : Int), (0 : Int), (0 : Int), (0 : Int), (0 : Int), (0 : Int), (0 : Int), (0 : Int), (0 : Int), (0 : Int), (0 : Int), (0 : Int), (0 : Int), (0 : Int), (0 : Int), (0 : Int), (0 : Int), (0 : Int), (0 : Int), (0 : Int), (0 : Int), (0 : Int), (0 : Int), (0 : Int), (0 : Int), (0 : Int), (0 : Int), (0 : Int), (0 : Int), (0 : Int), (0 : Int), (0 : Int), (0 : Int), (0 : Int), (0 : Int), (0 : Int), (0 : Int), (0 : Int), (0 : Int), (0 : Int), (0 : Int), (0 : Int), (0 : Int), (0 : Int), (0 : Int), (0 : Int), (0 : Int), (0 : Int), (0 : Int), (0 : Int), (0 : Int), (0 : Int), (0 : Int), (0 : Int), (0 : Int), (0 : Int), (0 : Int), (0 : Int), (0 : Int), (0 : Int), (0 : Int), (0 : Int), (0 : Int), (0 : Int), (0 : Int), (0 : Int), (0 : Int), (0 : Int), (0 : Int), (0 : Int)]]) Z1)) (.acons Z0 .anil)))) := by kernel_rfl
theorem new10_ok (c : Int) (ca : Bool) (w : Int) (d : Int) (h : (decide (0 ≤ c ∧ c ≤ 3)) = true) : new10_e c ca w d = some (.tup (.acons (.acons (.int .i64 c) (.acons (.sl (C := RC) .frame true [⟨68, 0, regs w d⟩]) (.acons (.sl (C := RC) .int true []) (.acons (.bool false) .anil)))) (.acons (.int .i64 0) .anil))) := by
  (rw [new10_eq]; conv => zeta)
  rw [decide_eq_true_eq] at h
  have c1 : decide (c < 0) = false := by simp; omega
  have c2 : decide (4 ≤ c) = false := by simp; omega
  simp only [c1, c2, cond_false]
  rfl
noncomputable def uf_3 := uf_2.addSpec 21 new10_sp
theorem uf_3_laws : FLaws Tryz.prog s17 uf_3 := uf_2_laws.addEv s17_laws fun args d h => by
  unfold new10_sp at h
  split at h
  · unfold new10_s at h
    have h1 := congrArg Prod.fst (Option.some.inj h)
    obtain rfl : _ = d := congrArg Prod.snd (Option.some.inj h)
    exact ⟨by simp [D.refs], 60, new10_ok _ _ _ _ h1⟩
  · cases h
def tkC (ts : List Task) (c : Int) : Task := ts.getD c.toNat ⟨0, [], [], false⟩
def stG (t : Task) : GoR := goR t.stack t.got
def stX (cs : List Int) (t : Task) : Int := doG cs (stG t).kind (stG t).a (stG t).b
def stCs (cs : List Int) (t : Task) : List Int := doC cs (stG t).kind (stG t).a (stG t).b (stG t).v
def stE (cs : List Int) (t : Task) : GoR := goR (stG t).st [stX cs t]
def stT (cs : List Int) (t : Task) : Task := ⟨t.client, (stG t).st, [stX cs t], (stG t).over⟩
def OkStep (cs : List Int) (t : Task) (now sure : List Sector) : Prop :=
  okG t.client t.stack t.got = true ∧ t.over = false ∧ (stG t).is = true ∧ OkDo cs (stG t).kind (stG t).a (stG t).b (stG t).v ∧ cellsOK cs = true ∧ diskOK now sure = true ∧ goodL now = true ∧ goodL sure = true ∧ okG t.client (stG t).st [stX cs t] = true
instance instOkStep (cs : List Int) (t : Task) (now sure : List Sector) : Decidable (OkStep cs t now sure) := by unfold OkStep; infer_instance
theorem goF_cases (k : Int) (r got : List Int) (x : Int) : (∃ r' n cell, goF k r got x = gLoad r' got n cell) ∨ (∃ r' n cell b v, goF k r got x = gCas r' got n cell b v) ∨ ∃ l, l.length ≤ 2 ∧ goF k r got x = gEnd l := by
  unfold goF
  split
  · exact .inl ⟨_, _, _, rfl⟩
  split
  · exact .inl ⟨_, _, _, rfl⟩
  split
  · split
    · exact .inr (.inr ⟨_, by simp, rfl⟩)
    split
    · exact .inr (.inr ⟨_, by simp, rfl⟩)
    · exact .inl ⟨_, _, _, rfl⟩
  split
  · split
    · exact .inr (.inr ⟨_, by simp, rfl⟩)
    · exact .inl ⟨_, _, _, rfl⟩
  split
  · split
    · exact .inr (.inl ⟨_, _, _, _, _, rfl⟩)
    split
    · exact .inl ⟨_, _, _, rfl⟩
    · exact .inr (.inl ⟨_, _, _, _, _, rfl⟩)
  split
  · split
    · exact .inl ⟨_, _, _, rfl⟩
    · exact .inr (.inl ⟨_, _, _, _, _, rfl⟩)
  · exact .inr (.inr ⟨_, by simp, rfl⟩)
theorem okG_len {c : Int} {st : List Frame} {got : List Int} (h : okG c st got = true) : 0 ≤ c ∧ c ≤ 3 ∧ got.length ≤ 1 := by
  obtain ⟨k, r, rfl, h1, h2, h3, h4⟩ := okG_inv h
  rcases h4 with ⟨_, rfl⟩ | ⟨x, rfl, _⟩
  · exact ⟨h1, h2, by simp⟩
  · exact ⟨h1, h2, by simp⟩
theorem goR_is {c : Int} {st : List Frame} {got : List Int} (h : okG c st got = true) (hi : (goR st got).is = true) : (goR st got).over = false ∧ (goR st got).st.length = 1 ∧ (goR st got).got = got := by
  obtain ⟨k, r, rfl, h1, h2, h3, h4⟩ := okG_inv h
  simp only [goR] at hi ⊢
  rcases goF_cases k r got (got.headD 0) with ⟨r', n, cell, e⟩ | ⟨r', n, cell, b, v, e⟩ | ⟨l, hl, e⟩
  · rw [e]; exact ⟨rfl, rfl, rfl⟩
  · rw [e]; exact ⟨rfl, rfl, rfl⟩
  · rw [e] at hi; cases hi
theorem goR_end {c : Int} {st : List Frame} {got : List Int} (h : okG c st got = true) (hi : (goR st got).is = false) : (goR st got).st = [] ∧ (goR st got).got.length ≤ 2 := by
  obtain ⟨k, r, rfl, h1, h2, h3, h4⟩ := okG_inv h
  simp only [goR] at hi ⊢
  rcases goF_cases k r got (got.headD 0) with ⟨r', n, cell, e⟩ | ⟨r', n, cell, b, v, e⟩ | ⟨l, hl, e⟩
  · rw [e] at hi; cases hi
  · rw [e] at hi; cases hi
  · rw [e]; exact ⟨rfl, hl⟩
section
variable {C : Cdc} {P : Program} {T : Tab C} {Φ : Fns C}
open Pg (Ex)
structure FunR (C : Cdc) (σ : Type) where
  k : Nat
  args : σ → List (D C)
  objs : σ → List (Obj C)
  fin : σ → RT C
  Inv : σ → Prop
def fnO (T : Tab C) (Φ : Fns C) (g n k : Nat) (args : List (D C)) (os : List (Obj C)) : Option (D C × List (Option (Obj C))) :=
  (enterD T Φ (evC T Φ n) g args).run (0, 0) (hpOf 0 os) k [] fun d h _ _ => some (d, getsL 0 k h)
def LedF {σ : Type} (S : FunR C σ) (s : σ) (r : D C × List (Option (Obj C))) : Prop := ∃ os, (S.fin s).val = some ((.ret, [(0, r.1)]), os) ∧ r.2 = os.map some
def resF {σ : Type} (S : FunR C σ) (d : Env C → List (Obj C) → Option (Bool × σ)) (env : Env C) (os : List (Obj C)) : RT C := match d env os with
  | some (b, q) => .br b (S.fin q) .fail
  | none => .fail
def sumF (T : Tab C) (fs : List Fnd) (n : Nat) {σ : Type} (S : FunR C σ) (d : Env C → List (Obj C) → Option (Bool × σ)) (args : List (D C)) : Pg C (D C) :=
  bif Nat.beq args.length n then .bind (sumO T fs (List.range n) (resF S d) (eargs 0 args)) fun r => .ret (eget r.2 0) else .fail
theorem EnvOK.args (K : PLaws P T) {X : Cx} {nx : Nat} {lim : Lim} {args : List (D C)} {vs : List Value} (h : RVs T X args vs) (hr : ∀ a ∈ args, ∀ id ∈ D.refs a, old nx lim id) : EnvOK T X nx lim (eargs 0 args) (⟨vs⟩ : Array Value) := by
  intro t
  rw [eargs_get]
  simp only [Nat.zero_le, if_true, Nat.sub_zero]
  refine ⟨?_, ?_⟩
  · have := h.get t
    have e : (⟨vs⟩ : Array Value).getD t undef = vs.getD t undef := by simp [Array.getD_eq_getD_getElem?]
    rw [e]; exact this
  · by_cases ht : t < args.length
    · exact hr _ (by simp [List.getD_eq_getElem?_getD, ht])
    · have : args.getD t .top = .top := by
        simp only [List.getD_eq_getElem?_getD]
        rw [List.getElem?_eq_none (by omega)]; rfl
      rw [this]; simp [D.refs]
theorem RVs.of_get {X : Cx} : ∀ (args : List (D C)) (vs : List Value), args.length = vs.length → (∀ i, i < args.length → RV T X (args.getD i .top) (vs.getD i undef)) → RVs T X args vs
  | [], [], _, _ => .nil
  | [], _ :: _, h, _ => by simp at h
  | _ :: _, [], h, _ => by simp at h
  | d :: ds, v :: vs, h, hg => .cons (by simpa using hg 0 (by simp)) (RVs.of_get ds vs (by simpa using h) fun i hi => by simpa using hg (i + 1) (by simpa using hi))
theorem RVs.of_env {X : Cx} {nx : Nat} {lim : Lim} {args : List (D C)} {vs : List Value} (hl : args.length = vs.length) (h : EnvOK T X nx lim (eargs 0 args) (⟨vs⟩ : Array Value)) : RVs T X args vs := by
  refine RVs.of_get args vs hl fun i hi => ?_
  have := (h i).1
  rw [eargs_get] at this
  simpa [Array.getD_eq_getD_getElem?] using this
theorem eargs_mem : ∀ (l : List (D C)) (n i : Nat) (h : i < l.length), (n + i, l[i]) ∈ eargs n l
  | [], _, _, h => by simp at h
  | d :: l, n, 0, _ => by simp [eargs]
  | d :: l, n, i + 1, h => by
    have := eargs_mem l (n + 1) i (by simpa using h)
    simp only [eargs, List.mem_cons]
    right
    rw [show n + (i + 1) = n + 1 + i by omega]
    simpa using this
theorem keep_objs (K : PLaws P T) {X X1 : Cx} {h' : Heap C} {k nx' : Nat} (g1 : G T X1 h' nx' (lim0 nx')) (s1 : Step X k (lim0 nx') X1) (hle : k ≤ nx') {os : List (Obj C)} {d : D C} {v : Value} (q : RefsOK k [(0, d)] os)
    (hget : ∀ j, j < k → h'.get j = os[j]?) (rd : RO T X1 nx' (lim0 nx') d v) : ∃ X2, X2.w = X1.w ∧ G T X2 (hpOf 0 os) k (lim0 k) ∧ Step X k (lim0 k) X2 ∧ RO T X2 k (lim0 k) d v := by
  obtain ⟨q1, q2, q3⟩ := q
  obtain ⟨X2, w2, g2, s2, hρ⟩ := G.drop K.base g1 (h' := hpOf 0 os) (fun id => by
    rw [hpOf_get0]
    by_cases hid : id < k
    · exact .inl (hget id hid).symm
    · exact .inr (List.getElem?_eq_none (by omega)))
  have hnone : ∀ id, ¬ id < k → X2.ρ id = none := fun id hid => by
    cases hq : X2.ρ id with
    | none => rfl
    | some l =>
      have := g2.dom id l hq
      rw [hpOf_get0, List.getElem?_eq_none (by omega)] at this
      cases this
  have s3 := s1.trans s2 hle
  refine ⟨X2, w2, g2.relim2 (hpOf_nums q1 q3) (Nat.le_refl _) (Nat.zero_le _) (fun _ h => h), ⟨s3.O, s3.os, s3.tape, s3.output, s3.size, fun id ho => ?_, s3.mine, s3.cell, s3.block, s3.frz⟩, ?_⟩
  · by_cases hid : id < k
    · exact s3.ρ id ⟨.inl hid, fun h => h⟩
    · rw [hnone id hid]; cases X.ρ id <;> simp [Compat]
  · have hrt : ∀ r ∈ d.refs, r < k := q2 (0, d) (by simp)
    exact ⟨rd.1.mono T K.base.encRefs s2.keeps fun r hh => s2.ρ r ⟨.inl (by have := hrt r hh; omega), fun h => h⟩, fun r hh => ⟨.inl (hrt r hh), fun h => h⟩⟩
theorem call_obj (K : PLaws P T) (F : FLaws P T Φ) {g : Nat} {fs : List Fnd} {m n : Nat} {σ : Type} {S : FunR C σ}
    (hr : ∀ q, S.Inv q → RefsOK S.k (eargs 0 (S.args q)) (S.objs q) ∧ (S.fin q).refsOK S.k ∧ (S.args q).length = m ∧ Leaf (fnO T Φ g n S.k (S.args q) (S.objs q)) (LedF S q))
    (d : Env C → List (Obj C) → Option (Bool × σ)) (hd : ∀ env os b q, d env os = some (b, q) → b = true → S.Inv q ∧ eargs 0 (S.args q) = env ∧ S.objs q = os) : CallLaw P T g (sumF T fs m S d) := by
  intro args vs X h nx lim e dd h' nx' tr gg hargs hrefs hlim hx
  unfold sumF at hx
  cases hm : Nat.beq args.length m with
  | false => rw [hm] at hx; exact (Ex.fail hx).elim
  | true =>
  rw [hm] at hx
  simp only [cond_true] at hx
  have hm := Nat.eq_of_beq_eq_true hm
  obtain ⟨⟨x, env'⟩, h9, n9, t8, t9, hx0, hret, _⟩ := Ex.bind hx
  obtain ⟨hdd, e1h, e1n, _⟩ := Ex.ret hret
  subst e1h
  subst e1n
  have he := EnvOK.args K hargs hrefs
  unfold sumO at hx0
  obtain ⟨X1, h1, nx1, env1, ids, tr1, w1, g1, s1, hn1, e1, hx1⟩ := findP_ok K hlim fs X h nx _ _ [] gg he hx0
  cases hnd : nodupB ids with
  | false => rw [hnd] at hx1; exact (Ex.fail hx1).elim
  | true =>
  rw [hnd] at hx1
  simp only [cond_true] at hx1
  have hnodup := nodupB_spec hnd
  obtain ⟨os, tr2, hlen, hos, hx2⟩ := rdAll_ok ids _ _ hx1
  cases hin : inB ids ((List.range m).flatMap fun t => (eget env1 t).refs) && inB ids (os.flatMap Obj.refs) with
  | false => rw [hin] at hx2; exact (Ex.fail hx2).elim
  | true =>
  rw [hin] at hx2
  simp only [cond_true] at hx2
  simp only [Bool.and_eq_true] at hin
  have hin1 := inB_spec hin.1
  have hin2 := inB_spec hin.2
  obtain ⟨xx, ee, os', hq, hx3⟩ := RT.pg_ok _ _ hx2
  unfold resF at hq
  split at hq
  · rename_i b q hdq
    cases b with
    | false => simp [RT.val] at hq
    | true =>
    simp only [RT.val, cond_true] at hq
    obtain ⟨hI, hcan, hobjs⟩ := hd _ _ _ _ hdq rfl
    obtain ⟨hr1, hr2, hlenA, r, hr3, hr4⟩ := hr q hI
    obtain ⟨h2, tr3, hl2, hw1, hw2, hx4⟩ := wrAll_ok ids _ h1 _ hnodup hx3
    obtain ⟨hxx, eh, en, _⟩ := Ex.ret hx4
    obtain ⟨rfl, rfl⟩ := Prod.mk.inj hxx
    subst eh
    subst en
    let f : Nat → Nat := fun j => ids.getD j 0
    have hfj : ∀ j, j < ids.length → ids[j]? = some (f j) := fun j hj => by simp [f, hj]
    have hk0 : ids.length = S.k := by rw [← hr1.1, hobjs]; simp [hlen]
    have hff : ∀ r, r ∈ ids → f (idx ids r) = r := fun r hr => by
      have := idx_spec ids r hr
      simp only [f, List.getD_eq_getElem?_getD, this, Option.getD_some]
    have hlenO : (S.objs q).length = ids.length := by rw [hr1.1, hk0]
    have part : Part h1 (S.objs q) f := by
      refine ⟨fun j o ho => ?_, fun i j hi hj hij => ?_, fun o ho r hr => by rw [hr1.1]; exact hr1.2.2 o ho r hr⟩
      · rw [hobjs, List.getElem?_map] at ho
        cases hoj : os[j]? with
        | none => simp [hoj] at ho
        | some o0 =>
          simp only [hoj, Option.map_some, Option.some.injEq] at ho
          have hj : j < ids.length := by rw [← hlen]; exact (List.getElem?_eq_some_iff.1 hoj).1
          rw [hos j (f j) o0 (hfj j hj) hoj, ← ho, Obj.ren_ren]
          intro id hid
          exact hff id (hin2 id (List.mem_flatMap.2 ⟨o0, List.mem_of_getElem? hoj, hid⟩))
      · rw [hlenO] at hi hj
        have := (List.getElem?_inj hi hnodup (j := j)).1 (by rw [hfj i hi, hfj j hj]; simp only [f] at hij ⊢; rw [hij])
        exact this
    have g2 := Part.ctx K.base g1 part (S.objs q).length
    have e2 : EnvOK T (X1.part (S.objs q).length f) (S.objs q).length (lim0 (S.objs q).length) (eargs 0 (S.args q)) (⟨vs⟩ : Array Value) := by
      refine EnvOK.part K.base e1 part.inj (fun p hp => ?_) (fun p hp r hr => by rw [hr1.1]; exact hr1.2.1 p hp r hr)
      rw [hcan] at hp
      simp only [List.mem_map] at hp
      obtain ⟨t, ht, rfl⟩ := hp
      simp only
      rw [D.ren_ren]
      intro id hid
      exact hff id (hin1 id (List.mem_flatMap.2 ⟨t, ht, hid⟩))
    rw [hr1.1] at g2 e2
    obtain ⟨d0, hh, nn, tt, hex, hsome⟩ := Pg.run_some hr3
    simp only [Option.some.injEq] at hsome
    subst hsome
    obtain ⟨os2, hv2, hg2⟩ := hr4
    rw [hq] at hv2
    simp only [Option.some.injEq, Prod.mk.injEq] at hv2
    obtain ⟨⟨rfl, rfl⟩, rfl⟩ := hv2
    have hgets := getsL_get S.k 0 hh _ hg2
    simp only [Nat.zero_add] at hgets
    obtain ⟨x5, env5, os5, hv5, hok5⟩ := RT.refsOK_val hr2
    rw [hq] at hv5
    simp only [Option.some.injEq, Prod.mk.injEq] at hv5
    obtain ⟨⟨rfl, rfl⟩, rfl⟩ := hv5
    have hle : S.k ≤ nn := hex.le
    have g0 : G T (X1.part S.k f) (hpOf 0 (S.objs q)) S.k (lim0 nn) := g2.relim2 (hpOf_nums hr1.1 hr1.2.2) (Nat.le_refl _) (Nat.zero_le _) (fun _ h => h)
    have hvs : RVs T (X1.part S.k f) (S.args q) vs := RVs.of_env (by rw [hlenA, ← hm]; exact RVs.length T hargs) e2
    have hrefs0 : ∀ a ∈ S.args q, ∀ id ∈ D.refs a, old S.k (lim0 nn) id := fun a ha id hid => ⟨.inl (by
      obtain ⟨i, hi, hia⟩ := List.getElem_of_mem ha
      refine hr1.2.1 (0 + i, a) ?_ id hid
      rw [← hia]; exact eargs_mem _ _ _ hi), fun h => h⟩
    obtain ⟨c1, c2⟩ := enter_ok K F n g (S.args q) vs (X1.part S.k f) (hpOf 0 (S.objs q)) S.k (lim0 nn) (0, 0) d0 hh nn tt g0 hvs hrefs0 (Nat.le_refl _) hex
    have hw : (X1.part S.k f).w = X.w := w1
    rw [hw] at c1 c2
    refine ⟨c1, c2.mono fun en w9 hp => ?_⟩
    obtain ⟨v, X2, rfl, hX2, g3, s3, ro3⟩ := hp
    obtain ⟨X3, w3, g4, s4, ro4⟩ := keep_objs K g3 s3 hle hok5 hgets ro3
    have hlen' : os'.length = (S.objs q).length := by rw [hok5.1, hr1.1]
    have hrefs' : ∀ o ∈ os', ∀ r ∈ Obj.refs o, r < (S.objs q).length := fun o ho r hr => by rw [hr1.1]; exact hok5.2.2 o ho r hr
    obtain ⟨X4, w4, g5, s5, hρ, hB2⟩ := Part.back K.base g1 part hlen' hrefs' (X1 := X3) (lim1 := lim0 S.k) (h' := h') (by rw [hr1.1]; exact g4) (by rw [hr1.1]; exact s4) (fun j o hj => by
        have hlt : j < ids.length := by rw [← hlenO, ← hlen']; exact (List.getElem?_eq_some_iff.1 hj).1
        exact hw1 j (f j) _ (hfj j hlt) (by rw [List.getElem?_map, hj]; rfl)) (fun id hid => by
        refine hw2 id fun hm => ?_
        obtain ⟨j, hj, hjj⟩ := List.getElem_of_mem hm
        refine hid j (by rw [hlenO]; exact hj) ?_
        simp [f, hj, hjj])
    have hold : ∀ j, j < S.k → old nx' lim (f j) := fun j hj => by
      have hj' : j < (S.objs q).length := by rw [hr1.1]; exact hj
      exact (g1.nums _ _ (part.at' j (S.objs q)[j] (by simp [hj']))).1
    have e4 : EnvOK T X3 S.k (lim0 S.k) [(0, d0)] (#[v] : Array Value) := fun t => by
      rw [eget_cons]
      by_cases ht : t = 0
      · subst ht; simpa using ro4
      · simp only [ht, if_false, eget]; exact RO.mk (RV.top _ _ _) rfl
    have e5 := EnvOK.back (nx := nx') (lim := lim) (f := f) K.base e4 (fun p hp r hr => hok5.2.1 p hp r hr) (fun j hj => hρ j (by rw [hr1.1]; exact hj)) hB2 hold
    have ro5 := e5 0
    refine ⟨v, X4, rfl, by rw [w4, w3, hX2], g5, s1.trans s5 hn1, ?_⟩
    rw [hdd]
    exact ro5
  · simp [RT.val] at hq
theorem FLaws.addFun (K : PLaws P T) (F : FLaws P T Φ) {g : Nat} {σ : Type} (S : FunR C σ) (n m : Nat) (fs : List Fnd) (d : Env C → List (Obj C) → Option (Bool × σ))
    (hr : ∀ q, S.Inv q → RefsOK S.k (eargs 0 (S.args q)) (S.objs q) ∧ (S.fin q).refsOK S.k ∧ (S.args q).length = m ∧ Leaf (fnO T Φ g n S.k (S.args q) (S.objs q)) (LedF S q))
    (hd : ∀ env os b q, d env os = some (b, q) → b = true → S.Inv q ∧ eargs 0 (S.args q) = env ∧ S.objs q = os) : FLaws P T (Φ.addObj g (sumF T fs m S d)) := F.addObj (call_obj K F hr d hd)
theorem leafF {σ : Type} {S : FunR C σ} {s : σ} {d : D C} {os : List (Option (Obj C))} (os' : List (Obj C)) (h1 : (S.fin s).val = some ((.ret, [(0, d)]), os')) (h2 : os = os'.map some) : Leaf (some (d, os)) (LedF S s) :=
  leaf_some.2 ⟨os', h1, h2⟩
end
open Go.Proofs
structure step17_St where
  c : Int
  now : List Sector
  sure : List Sector
  cs : List Int
  ts : List Task
  busy : List Bool
def step17_a (c : Int) (now : List Sector) (sure : List Sector) (cs : List Int) (ts : List Task) (busy : List Bool) : List (D RC) := [.ptr 0 [], .int .i64 c]
def step17_o (c : Int) (now : List Sector) (sure : List Sector) (cs : List Int) (ts : List Task) (busy : List Bool) : List (Obj RC) := [.var 47 (.acons (.acons (.sl (C := RC) .int false cs) (.acons (.acons (.sl (C := RC) .sector false now) (.acons (.sl (C := RC) .sector false sure) .anil)) .anil)) (.acons (.arr (C := RC) .task 4 ts) (.acons (.arr (C := RC) .task 4 (ts)) (.acons (.arr (C := RC) .bool 4 busy) .anil))))]
noncomputable def step17_r (c : Int) (now : List Sector) (sure : List Sector) (cs : List Int) (ts : List Task) (busy : List Bool) := fnO s17 uf_3 16 60 1 (step17_a c now sure cs ts busy) (step17_o c now sure cs ts busy)
theorem step17_eq (c : Int) (now : List Sector) (sure : List Sector) (cs : List Int) (ts : List Task) (busy : List Bool) : step17_r c now sure cs ts busy = (let Z0 : Bool := decide ((0 : Int) ≤ c ∧ c < (4 : Int)); let Z1 : Nat := Int.toNat c; let Z2 : Task := Task.mk (0 : Int) [] [] false; let Z3 : Task := List.getD ts Z1 Z2; let Z4 : Int := Task.client Z3; let Z5 : Bool := okG Z4 (Task.stack Z3) (Task.got Z3) && !Task.over Z3; let Z6 : GoR := goR (Task.stack Z3) (Task.got Z3); let Z7 : Bool := GoR.is Z6; let Z8 : D RC := D.sl RTy.int true []; let Z9 : D RC := D.bool false; let Z10 : D RC := .anil; let Z11 : D RC := D.tup (D.acons Z8 (D.acons Z9 (D.acons Z9 Z10))); let Z12 : D RC := D.acons (D.acons (D.sl RTy.sector false now) (.acons (D.sl RTy.sector false sure) Z10)) Z10; let Z13 : D RC := D.acons (D.sl RTy.int false cs) Z12; let Z14 : D RC := D.arr RTy.task (4 : Nat) ts; let Z15 : D RC := D.acons (D.arr RTy.bool (4 : Nat) busy) Z10; let Z16 : Option (D RC × List (Option (Obj RC))) := some (Z11, [some (Obj.var 47 (.acons Z13 (D.acons Z14 (D.acons Z14 Z15))))]); let Z17 : Int := GoR.kind Z6; let Z18 : Int := GoR.a Z6; let Z19 : Int := GoR.b Z6; let Z20 : Nat := List.length (GoR.st Z6); let Z21 : Bool := (↑Z20 : Int) == (0 : Int); let Z22 : Nat := List.length (GoR.got Z6); let Z23 : D RC := D.bool true; let Z24 : D RC := D.acons (D.arr RTy.bool (4 : Nat) (List.set busy Z1 false)) Z10; let Z25 : List (Option (Obj RC)) := [some (Obj.var 47 (.acons Z13 (D.acons Z14 (D.acons Z14 Z24))))]; let Z26 : Option (D RC × List (Option (Obj RC))) := none; let Z27 : D RC := D.acons Z23 (D.acons Z9 Z10); let Z28 : Bool := decide ((0 : Int) ≤ Z4 ∧ Z4 ≤ (3 : Int) ∧ Z22 ≤ (96 : Nat) ∧ (1 : Nat) ≤ Z20 ∧ Z20 ≤ (6 : Nat)) && !GoR.over Z6; let Z29 : List Task := List.set ts Z1 (Task.mk Z4 (GoR.st Z6) [doG cs Z17 Z18 Z19] (GoR.over Z6)); let Z30 : Task := List.getD Z29 Z1 Z2; let Z31 : Bool := okG (Task.client Z30) (Task.stack Z30) (Task.got Z30) && !Task.over Z30; let Z32 : GoR := goR (Task.stack Z30) (Task.got Z30); let Z33 : Bool := GoR.is Z32; let Z34 : D RC := D.acons (D.sl RTy.int false (doC cs Z17 Z18 Z19 (GoR.v Z6))) Z12; let Z35 : D RC := D.arr RTy.task (4 : Nat) Z29; let Z36 : List (Option (Obj RC)) := [some (Obj.var 47 (.acons Z34 (D.acons Z35 (D.acons Z35 Z15))))]; let Z37 : Nat := List.length (GoR.st Z32); let Z38 : Bool := (↑Z37 : Int) == (0 : Int); let Z39 : List Int := GoR.got Z32; let Z40 : List (Option (Obj RC)) := [some (Obj.var 47 (.acons Z34 (D.acons Z35 (D.acons Z35 Z24))))]; let Z41 : Option (D RC × List (Option (Obj RC))) := bif Z33 then some (D.tup (D.acons Z8 (D.acons Z9 (D.acons Z23 Z10))), Z36) else bif Z0 then bif lenOK Z37 then bif Z38 then bif lenOK Z37 then bif Z38 then bif lenOK Z39.length && lenOK Z39.length then some (D.tup (D.acons (D.sl RTy.int false Z39) (.acons Z23 (D.acons (D.bool (decide (Z39 = Z39))) Z10))), Z40) else Z26 else some (D.tup (D.acons (D.sl RTy.int false Z39) Z27), Z40) else Z26 else some (D.tup (D.acons (D.sl RTy.int false Z39) Z27), Z40) else Z26 else Z26; let Z42 : Option (D RC × List (Option (Obj RC))) := bif !Z7 then bif Z0 then bif lenOK Z20 then bif Z21 then bif lenOK Z20 then bif Z21 then bif lenOK Z22 && lenOK Z22 then some (D.tup (D.acons Z8 (D.acons Z23 (D.acons (D.bool (decide (GoR.got Z6 = GoR.got Z6))) Z10))), Z25) else Z26 else some (D.tup (D.acons Z8 Z27), Z25) else Z26 else some (D.tup (D.acons Z8 Z27), Z25) else Z26 else Z26 else bif decide (OkDo cs Z17 Z18 Z19 (GoR.v Z6)) && (cellsOK cs && (diskOK now sure && (goodL now && goodL sure))) then bif Z28 then bif Z0 then bif Z28 then bif Z0 then bif Z0 then bif Z31 then bif Z0 then bif Z31 then bif !Z33 == Z33 then some (Z11, Z36) else bif Z33 then bif !decide (GoR.kind Z32 = GoR.kind Z32 ∧ GoR.a Z32 = GoR.a Z32 ∧ GoR.b Z32 = GoR.b Z32 ∧ GoR.v Z32 = GoR.v Z32 ∧ (0 : Int) = (0 : Int)) then some (Z11, Z36) else Z41 else Z41 else Z26 else Z26 else Z26 else Z26 else Z26 else Z26 else Z26 else Z26 else Z26; bif Z0 then bif Z5 then bif Z0 then bif Z5 then bif !Z7 == Z7 then Z16 else bif Z7 then bif !decide (Z17 = Z17 ∧ Z18 = Z18 ∧ Z19 = Z19 ∧ GoR.v Z6 = GoR.v Z6 ∧ (0 : Int) = (0 : Int)) then Z16 else Z42 else Z42 else Z26 else Z26 else Z26 else Z26) := by kernel_rfl
def step17_fin (c : Int) (now : List Sector) (sure : List Sector) (cs : List Int) (ts : List Task) (busy : List Bool) : RT RC := .leaf .ret [(0, .tup (.acons (.sl (C := RC) .int (stE cs (tkC ts c)).is (bif (stE cs (tkC ts c)).is then [] else (stE cs (tkC ts c)).got)) (.acons (.bool (!(stE cs (tkC ts c)).is)) (.acons (.bool true) .anil))))] (step17_o c now sure (stCs cs (tkC ts c)) (ts.set c.toNat (stT cs (tkC ts c))) (bif (stE cs (tkC ts c)).is then busy else busy.set c.toNat false))
def step17_Inv (c : Int) (now : List Sector) (sure : List Sector) (cs : List Int) (ts : List Task) (busy : List Bool) : Prop := 0 ≤ c ∧ c ≤ 3 ∧ ts.length = 4 ∧ OkStep cs (tkC ts c) now sure
def step17_S : FunR RC step17_St where
  k := 1
  args q := step17_a q.c q.now q.sure q.cs q.ts q.busy
  objs q := step17_o q.c q.now q.sure q.cs q.ts q.busy
  fin q := step17_fin q.c q.now q.sure q.cs q.ts q.busy
  Inv q := step17_Inv q.c q.now q.sure q.cs q.ts q.busy
theorem step17_ok (c : Int) (now : List Sector) (sure : List Sector) (cs : List Int) (ts : List Task) (busy : List Bool) (hI : step17_Inv c now sure cs ts busy) : Leaf (step17_r c now sure cs ts busy) (LedF step17_S ⟨c, now, sure, cs, ts, busy⟩) := by
  (rw [step17_eq]; conv => zeta)
  unfold step17_Inv at hI
  obtain ⟨h1, h2, h3, h4⟩ := hI
  have hc : decide ((0 : Int) ≤ c ∧ c < 4) = true := by simp; omega
  have hset : ∀ T' d : Task, (ts.set c.toNat T').getD c.toNat d = T' := fun T' d => by
    rw [List.getD_eq_getElem?_getD, List.getElem?_set_self (by omega)]; rfl
  have hfin : ∀ t, tkC ts c = t → step17_fin c now sure cs ts busy = .leaf .ret [(0, .tup (.acons (.sl (C := RC) .int (stE cs t).is (bif (stE cs t).is then [] else (stE cs t).got)) (.acons (.bool (!(stE cs t).is)) (.acons (.bool true) .anil))))] (step17_o c now sure (stCs cs t) (ts.set c.toNat (stT cs t)) (bif (stE cs t).is then busy else busy.set c.toNat false)) := fun t ht => by
    unfold step17_fin; rw [ht]
  simp only [hset]
  have ht : tkC ts c = ts.getD c.toNat ⟨0, [], [], false⟩ := rfl
  generalize ts.getD c.toNat ⟨0, [], [], false⟩ = t at ht ⊢
  have hfin := hfin t ht
  rw [ht] at h4
  obtain ⟨k1, k2, k3, k4, k5, k6, k7, k8, k9⟩ := h4
  have kl := okG_len k1
  have ki := goR_is k1 k3
  simp only [stG] at k3 k4 k9
  have e1 : decide (0 ≤ t.client ∧ t.client ≤ 3 ∧ (goR t.stack t.got).got.length ≤ 96 ∧ 1 ≤ (goR t.stack t.got).st.length ∧ (goR t.stack t.got).st.length ≤ 6) = true := by
    rw [ki.2.1, ki.2.2]; simp; omega
  have e2 : decide (OkDo cs (goR t.stack t.got).kind (goR t.stack t.got).a (goR t.stack t.got).b (goR t.stack t.got).v) = true := decide_eq_true k4
  simp only [stX, stG] at k9
  simp only [hc, k1, k2, k3, e1, e2, k5, k6, k7, k8, k9, ki.1, Bool.not_false, Bool.not_true, Bool.and_self, cond_true, cond_false, decide_true, and_self]
  have q1 : ∀ b : Bool, (!(b == b)) = false := fun b => by cases b <;> rfl
  simp only [q1, cond_false]
  have hE : stE cs t = goR (goR t.stack t.got).st [doG cs (goR t.stack t.got).kind (goR t.stack t.got).a (goR t.stack t.got).b] := rfl
  rw [← hE]
  have hobj : ∀ b : List Bool, [some (Obj.var (C := RC) 47 (.acons (.acons (.sl (C := RC) .int false (doC cs (goR t.stack t.got).kind (goR t.stack t.got).a (goR t.stack t.got).b (goR t.stack t.got).v)) (.acons (.acons (.sl (C := RC) .sector false now) (.acons (.sl (C := RC) .sector false sure) .anil)) .anil)) (.acons (.arr (C := RC) .task 4 (ts.set c.toNat ⟨t.client, (goR t.stack t.got).st, [doG cs (goR t.stack t.got).kind (goR t.stack t.got).a (goR t.stack t.got).b], false⟩)) (.acons (.arr (C := RC) .task 4 (ts.set c.toNat ⟨t.client, (goR t.stack t.got).st, [doG cs (goR t.stack t.got).kind (goR t.stack t.got).a (goR t.stack t.got).b], false⟩)) (.acons (.arr (C := RC) .bool 4 b) .anil)))))] = (step17_o c now sure (stCs cs t) (ts.set c.toNat (stT cs t)) b).map some := fun b => by
    simp only [step17_o, stCs, stT, stX, stG, ki.1, List.map_cons, List.map_nil]
  cases hi : (stE cs t).is with
  | true =>
    simp only [cond_true]
    refine leafF (step17_o c now sure (stCs cs t) (ts.set c.toNat (stT cs t)) busy) ?_ (hobj _)
    show (step17_fin c now sure cs ts busy).val = _
    rw [hfin]
    simp only [RT.val, hi, cond_true, Bool.not_true]
  | false =>
    have k9e : (goR (goR t.stack t.got).st [doG cs (goR t.stack t.got).kind (goR t.stack t.got).a (goR t.stack t.got).b]).st = [] ∧ (goR (goR t.stack t.got).st [doG cs (goR t.stack t.got).kind (goR t.stack t.got).a (goR t.stack t.got).b]).got.length ≤ 2 := goR_end k9 hi
    rw [← hE] at k9e
    have l1 : lenOK (stE cs t).got.length = true := lenOK_of (by omega)
    have l2 : lenOK ([] : List Frame).length = true := rfl
    have l3 : (((([] : List Frame).length : Nat) : Int) == 0) = true := rfl
    rw [k9e.1]
    simp only [l1, l2, l3, cond_true, cond_false]
    refine leafF (step17_o c now sure (stCs cs t) (ts.set c.toNat (stT cs t)) (busy.set c.toNat false)) ?_ (hobj _)
    show (step17_fin c now sure cs ts busy).val = _
    rw [hfin]
    simp only [RT.val, hi, cond_false, Bool.not_false]
def step17_d (env : Env RC) (os : List (Obj RC)) : Option (Bool × step17_St) := match env, os with
  | [(0, .ptr 0 []), (1, .int .i64 c)], [.var 47 (.acons (.acons (.sl .int false cs) (.acons (.acons (.sl .sector false now) (.acons (.sl .sector false sure) .anil)) .anil)) (.acons (.arr .task 4 ts) (.acons (.arr .task 4 x0) (.acons (.arr .bool 4 busy) .anil))))] => staticD (true) (decide (x0 = ts) && decide (0 ≤ c ∧ c ≤ 3 ∧ ts.length = 4 ∧ OkStep cs (tkC ts c) now sure), ⟨c, now, sure, cs, ts, busy⟩)
  | _, _ => none
noncomputable def ug_1 := uf_3.addObj 16 (sumF s17 [.slot 0 0] 2 step17_S step17_d)
theorem ug_1_laws : FLaws Tryz.prog s17 ug_1 := by
  refine uf_3_laws.addFun s17_laws step17_S 60 2 [.slot 0 0] step17_d (fun q hI => ?_) ?_
  · obtain ⟨c, now, sure, cs, ts, busy⟩ := q
    refine ⟨?_, ?_, rfl, step17_ok c now sure cs ts busy hI⟩
    · simp [RefsOK, step17_S, step17_a, step17_o, eargs, D.refs, Obj.refs]
    · simp [step17_S, step17_fin, step17_o, RT.refsOK, RefsOK, D.refs, Obj.refs]
  · intro env os b q hd_ hb
    unfold step17_d at hd_
    split at hd_
    · obtain ⟨hs, hd_⟩ := staticD_some hd_
      cases hd_
      simp only [Bool.and_eq_true, decide_eq_true_eq] at hb
      obtain ⟨e1, e2⟩ := hb
      subst e1
      exact ⟨e2, rfl, rfl⟩
    · cases hd_
def spRun (now sure : List Sector) (b t : Int) : Nat → List Int → List Task → Bool
  | 0, _, _ => false
  | n + 1, cs, ts => decide (OkStep cs (tkC ts 0) now sure) && (bif (stE cs (tkC ts 0)).is then spRun now sure b t n (stCs cs (tkC ts 0)) (ts.set 0 (stT cs (tkC ts 0))) else decide ((stE cs (tkC ts 0)).got = bif b == 0 then [172] else [0, t]))
def spEnd : Nat → List Int → List Task → List Bool → List Int × List Task × List Bool
  | 0, cs, ts, bs => (cs, ts, bs)
  | n + 1, cs, ts, bs => bif (stE cs (tkC ts 0)).is then spEnd n (stCs cs (tkC ts 0)) (ts.set 0 (stT cs (tkC ts 0))) bs else (stCs cs (tkC ts 0), ts.set 0 (stT cs (tkC ts 0)), bs.set 0 false)
def spCells (t : Int) : List Int := ((newCells.set 0 (t - 1)).set 4 (t - 1)).set 1 t
def spTasks (w : Int) : List Task := ((List.replicate 4 (⟨0, [], [], false⟩ : Task))).set 0 ⟨0, [⟨68, 0, w :: 512 :: List.replicate 94 0⟩], [], false⟩
def spAll (v : Nat) : Bool := spRun emptyDisk emptyDisk 0 1048576 9 (spCells 1048576) (spTasks (2 + v)) && (spRun emptyDisk emptyDisk 1 1048575 9 (spCells 1048575) (spTasks (2 + v)) && spRun emptyDisk emptyDisk 2 1048574 9 (spCells 1048574) (spTasks (2 + v)))
theorem sp0 : spAll 0 = true := by kernel_rfl
theorem sp1 : spAll 1 = true := by kernel_rfl
theorem sp2 : spAll 2 = true := by kernel_rfl
theorem sp3 : spAll 3 = true := by kernel_rfl
theorem sp4 : spAll 4 = true := by kernel_rfl
theorem sp5 : spAll 5 = true := by kernel_rfl
theorem sp6 : spAll 6 = true := by kernel_rfl
theorem sp_all {b w : Int} (hb : 0 ≤ b ∧ b ≤ 2) (hw : 2 ≤ w ∧ w ≤ 8) : spRun emptyDisk emptyDisk b (1048576 - b) 9 (spCells (1048576 - b)) (spTasks w) = true := by
  obtain ⟨v, rfl, hv⟩ : ∃ v : Nat, w = 2 + (v : Int) ∧ v ≤ 6 := ⟨(w - 2).toNat, by omega, by omega⟩
  have h : spAll v = true := by
    obtain rfl | rfl | rfl | rfl | rfl | rfl | rfl : v = 0 ∨ v = 1 ∨ v = 2 ∨ v = 3 ∨ v = 4 ∨ v = 5 ∨ v = 6 := by omega
    · exact sp0
    · exact sp1
    · exact sp2
    · exact sp3
    · exact sp4
    · exact sp5
    · exact sp6
  unfold spAll at h
  simp only [Bool.and_eq_true] at h
  obtain rfl | rfl | rfl : b = 0 ∨ b = 1 ∨ b = 2 := by omega
  · exact h.1
  · exact h.2.1
  · exact h.2.2
open Go.Proofs
def wakesS_s  : Option (Bool × D RC) := some (true, .bool true)
def wakesS_sp : List (D RC) → Option (Bool × D RC)
  | [] => wakesS_s 
  | _ => none
noncomputable def wakesS_e  := evF s17 ug_1 100 7 []
theorem wakesS_ok  (h : (true) = true) : wakesS_e  = some (.bool true) := by
  kernel_rfl
noncomputable def uh_1 := ug_1.addSpec 7 wakesS_sp
theorem uh_1_laws : FLaws Tryz.prog s17 uh_1 := ug_1_laws.addEv s17_laws fun args d h => by
  unfold wakesS_sp at h
  split at h
  · unfold wakesS_s at h
    have h1 := congrArg Prod.fst (Option.some.inj h)
    obtain rfl : _ = d := congrArg Prod.snd (Option.some.inj h)
    exact ⟨by simp [D.refs], 100, wakesS_ok  h1⟩
  · cases h
def widthS_s (n : Int) : Option (Bool × D RC) := some (true, .int .i64 (2 + n % 7))
def widthS_sp : List (D RC) → Option (Bool × D RC)
  | [.int .i64 n] => widthS_s n
  | _ => none
noncomputable def widthS_e (n : Int) := evF s17 uh_1 20 9 [.int .i64 n]
theorem widthS_eq (n : Int) : widthS_e n = (some (D.int .i64 (IntKind.wrap .i64 ((2 : Int) + Int.tmod (IntKind.wrap .i64 (IntKind.wrap .i64 (Int.tmod n (7 : Int) + (8 : Int)) - (1 : Int))) (7 : Int))))) := by kernel_rfl
theorem widthS_ok (n : Int) (h : (true) = true) : widthS_e n = some (.int .i64 (2 + n % 7)) := by
  rw [widthS_eq]
  have h1 : -7 < Int.tmod n 7 := Int.lt_tmod_of_pos _ (by decide)
  have h2 : Int.tmod n 7 < 7 := Int.tmod_lt_of_pos _ (by decide)
  have h3 : n = 7 * (n.tdiv 7) + n.tmod 7 := (Int.mul_tdiv_add_tmod n 7).symm
  rw [wrap_id (n := Int.tmod n 7 + 8) (by omega) (by omega), wrap_id (n := Int.tmod n 7 + 8 - 1) (by omega) (by omega), Int.tmod_eq_emod_of_nonneg (by omega), wrap_id (by omega) (by omega)]
  have : (n.tmod 7 + 8 - 1) % 7 = n % 7 := by omega
  rw [this]
noncomputable def uh_2 := uh_1.addSpec 9 widthS_sp
theorem uh_2_laws : FLaws Tryz.prog s17 uh_2 := uh_1_laws.addEv s17_laws fun args d h => by
  unfold widthS_sp at h
  split at h
  · unfold widthS_s at h
    have h1 := congrArg Prod.fst (Option.some.inj h)
    obtain rfl : _ = d := congrArg Prod.snd (Option.some.inj h)
    exact ⟨by simp [D.refs], 20, widthS_ok _ h1⟩
  · cases h
structure spL_St where
  b : Int
  t : Int
  i : Nat
  w : Int
  m : Int
  has : List Int
  tc : Bool
  told : List Int
  now : List Sector
  sure : List Sector
  cs : List Int
  ts : List Task
  busy : List Bool
def spL_c (b : Int) (t : Int) (i : Nat) (w : Int) (m : Int) (has : List Int) (tc : Bool) (told : List Int) (now : List Sector) (sure : List Sector) (cs : List Int) (ts : List Task) (busy : List Bool) : Env RC := [(0, .int .i64 b), (5, .ptr 0 []), (6, .int .i64 t), (8, .int .i64 (i : Int))]
def spL_o (b : Int) (t : Int) (i : Nat) (w : Int) (m : Int) (has : List Int) (tc : Bool) (told : List Int) (now : List Sector) (sure : List Sector) (cs : List Int) (ts : List Task) (busy : List Bool) : List (Obj RC) := [.var 31 (.acons (.ptr 1 []) (.acons (.int .i64 w) (.acons (.int .i64 m) (.acons (.arr (C := RC) .int 4 has) (.acons (.sl (C := RC) .int tc told) .anil))))), .var 47 (.acons (.acons (.sl (C := RC) .int false cs) (.acons (.acons (.sl (C := RC) .sector false now) (.acons (.sl (C := RC) .sector false sure) .anil)) .anil)) (.acons (.arr (C := RC) .task 4 ts) (.acons (.arr (C := RC) .task 4 ((ts))) (.acons (.arr (C := RC) .bool 4 busy) .anil))))]
noncomputable def spL_r (b : Int) (t : Int) (i : Nat) (w : Int) (m : Int) (has : List Int) (tc : Bool) (told : List Int) (now : List Sector) (sure : List Sector) (cs : List Int) (ts : List Task) (busy : List Bool) := rndO s17 uh_2 5 10 60 2 [0, 5, 6, 8] [4] [.slot 5 0, .path 0 [0]] (spL_c b t i w m has tc told now sure cs ts busy) (spL_o b t i w m has tc told now sure cs ts busy)
theorem spL_eq (b : Int) (t : Int) (i : Nat) (w : Int) (m : Int) (has : List Int) (tc : Bool) (told : List Int) (now : List Sector) (sure : List Sector) (cs : List Int) (ts : List Task) (busy : List Bool) : spL_r b t i w m has tc told now sure cs ts busy = (let Z0 : Task := tkC ts (0 : Int); let Z1 : Bool := GoR.is (stE cs Z0); let Z2 : List Int := bif Z1 then [] else GoR.got (stE cs Z0); let Z3 : Bool := lenOK Z2.length; let Z4 : Int := (↑Z2.length : Int); let Z5 : Bool := decide ((0 : Int) ≤ (0 : Int) ∧ (0 : Int) < Z4); let Z6 : Int := List.getD Z2 (0 : Nat) (0 : Int); let Z7 : D RC := .anil; let Z8 : Option (Obj RC) := some (Obj.var 31 (.acons (D.ptr 1 []) (.acons (D.int .i64 w) (.acons (D.int .i64 m) (.acons (D.arr RTy.int (4 : Nat) has) (.acons (D.sl RTy.int tc told) Z7)))))); let Z9 : D RC := D.acons (D.acons (D.sl RTy.sector false now) (.acons (D.sl RTy.sector false sure) Z7)) Z7; let Z10 : D RC := D.arr RTy.task (4 : Nat) (List.set ts (0 : Nat) (stT cs Z0)); let Z11 : List (Option (Obj RC)) := [Z8, some (Obj.var 47 (.acons (D.acons (D.sl RTy.int false (stCs cs Z0)) Z9) (.acons Z10 (D.acons Z10 (D.acons (D.arr RTy.bool (4 : Nat) (bif Z1 then busy else List.set busy (0 : Nat) false)) Z7)))))]; let Z12 : RO_ := some ((X.ret, [(4, D.bool false)]), Z11); let Z13 : D RC := D.arr RTy.task (4 : Nat) ts; bif decide ((↑i : Int) < (9 : Int)) then bif decide (ts = ts) && decide ((0 : Int) ≤ (0 : Int) ∧ (0 : Int) ≤ (3 : Int) ∧ List.length ts = (4 : Nat) ∧ OkStep cs Z0 now sure) then bif !Z1 then bif b == (0 : Int) then bif Z3 then bif Z4 == (1 : Int) then bif Z5 then bif Z6 == (172 : Int) then some ((X.ret, [(4, D.bool true)]), Z11) else Z12 else none else Z12 else none else bif Z3 then bif Z4 == (2 : Int) then bif Z5 then bif Z6 == (0 : Int) then bif decide ((0 : Int) ≤ (1 : Int) ∧ (1 : Int) < Z4) then bif List.getD Z2 (1 : Nat) (0 : Int) == t then some ((X.ret, [(4, D.bool true)]), Z11) else Z12 else none else Z12 else none else Z12 else none else some ((X.normal, [(0, D.int .i64 b), (5, D.ptr 0 []), (6, D.int .i64 t), (8, D.int .i64 (IntKind.wrap .i64 ((↑i : Int) + (1 : Int))))]), Z11) else none else some ((X.exit (0 : Nat), [(4, D.top)]), [Z8, some (Obj.var 47 (.acons (D.acons (D.sl RTy.int false cs) Z9) (.acons Z13 (D.acons Z13 (D.acons (D.arr RTy.bool (4 : Nat) busy) Z7)))))])) := by kernel_rfl
def spL_fin (b : Int) (t : Int) (i : Nat) (w : Int) (m : Int) (has : List Int) (tc : Bool) (told : List Int) (now : List Sector) (sure : List Sector) (cs : List Int) (ts : List Task) (busy : List Bool) : RT RC := .leaf .ret [(4, .bool true)] (spL_o b t i w m has tc told now sure (spEnd (9 - i) cs ts busy).1 (spEnd (9 - i) cs ts busy).2.1 (spEnd (9 - i) cs ts busy).2.2)
def spL_Inv (b : Int) (t : Int) (i : Nat) (w : Int) (m : Int) (has : List Int) (tc : Bool) (told : List Int) (now : List Sector) (sure : List Sector) (cs : List Int) (ts : List Task) (busy : List Bool) : Prop := i ≤ 9 ∧ ts.length = 4 ∧ spRun now sure b t (9 - i) cs ts = true
def spL_S : LoopR RC spL_St where
  k := 2
  canon q := spL_c q.b q.t q.i q.w q.m q.has q.tc q.told q.now q.sure q.cs q.ts q.busy
  objs q := spL_o q.b q.t q.i q.w q.m q.has q.tc q.told q.now q.sure q.cs q.ts q.busy
  fin q := spL_fin q.b q.t q.i q.w q.m q.has q.tc q.told q.now q.sure q.cs q.ts q.busy
  Inv q := spL_Inv q.b q.t q.i q.w q.m q.has q.tc q.told q.now q.sure q.cs q.ts q.busy
  μ q := 20 - q.i
theorem spL_round (b : Int) (t : Int) (i : Nat) (w : Int) (m : Int) (has : List Int) (tc : Bool) (told : List Int) (now : List Sector) (sure : List Sector) (cs : List Int) (ts : List Task) (busy : List Bool) (hI : spL_Inv b t i w m has tc told now sure cs ts busy) : Leaf (spL_r b t i w m has tc told now sure cs ts busy) (LedR spL_S ⟨b, t, i, w, m, has, tc, told, now, sure, cs, ts, busy⟩) := by
  (rw [spL_eq]; conv => zeta)
  unfold spL_Inv at hI
  obtain ⟨h1, h2, h3⟩ := hI
  have hi : i < 9 := by
    by_cases e : i < 9
    · exact e
    · rw [show 9 - i = 0 by omega] at h3; cases h3
  rw [show 9 - i = (9 - (i + 1)) + 1 by omega, spRun, Bool.and_eq_true] at h3
  obtain ⟨h3, h4⟩ := h3
  have hok := of_decide_eq_true h3
  have d1 : decide ((i : Int) < 9) = true := decide_eq_true (by omega)
  have d2 : decide ((0 : Int) ≤ 0 ∧ (0 : Int) ≤ 3 ∧ List.length ts = 4 ∧ OkStep cs (tkC ts 0) now sure) = true := decide_eq_true ⟨by decide, by decide, h2, hok⟩
  have v1 : IntKind.i64.wrap ((i : Int) + 1) = ((i + 1 : Nat) : Int) := by rw [wrap_id (by omega) (by omega)]; simp
  have hE : spEnd (9 - i) cs ts busy = bif (stE cs (tkC ts 0)).is then spEnd (9 - (i + 1)) (stCs cs (tkC ts 0)) (ts.set 0 (stT cs (tkC ts 0))) busy else (stCs cs (tkC ts 0), ts.set 0 (stT cs (tkC ts 0)), busy.set 0 false) := by
    rw [show 9 - i = (9 - (i + 1)) + 1 by omega, spEnd]
  have hfin : ∀ q, spEnd (9 - i) cs ts busy = q → spL_fin b t i w m has tc told now sure cs ts busy = .leaf .ret [(4, .bool true)] (spL_o b t i w m has tc told now sure q.1 q.2.1 q.2.2) := fun q hq => by unfold spL_fin; rw [hq]
  rw [d1, d2, v1]
  simp only [decide_true, Bool.and_self, cond_true]
  cases hi2 : (stE cs (tkC ts 0)).is with
  | true =>
    simp only [hi2, cond_true, Bool.not_true, cond_false] at h4 hE ⊢
    have hfin := hfin _ hE
    exact leafR_go (S := spL_S) (s := ⟨b, t, i, w, m, has, tc, told, now, sure, cs, ts, busy⟩) ⟨b, t, i + 1, w, m, has, tc, told, now, sure, stCs cs (tkC ts 0), ts.set 0 (stT cs (tkC ts 0)), busy⟩ ⟨hi, by show (ts.set 0 _).length = 4; rw [List.length_set]; exact h2, h4⟩ (by simp only [spL_S]; omega) (by show (spL_fin b t (i + 1) w m has tc told now sure (stCs cs (tkC ts 0)) (ts.set 0 (stT cs (tkC ts 0))) busy).val = (spL_fin b t i w m has tc told now sure cs ts busy).val; rw [hfin]; rfl) rfl rfl
  | false =>
    simp only [hi2, cond_true, Bool.not_false, cond_false] at h4 hE ⊢
    have hfin := hfin _ hE
    have hgot := of_decide_eq_true h4
    have hret := leafR_ret (S := spL_S) (s := ⟨b, t, i, w, m, has, tc, told, now, sure, cs, ts, busy⟩) (env := [(4, .bool true)]) (spL_o b t i w m has tc told now sure (stCs cs (tkC ts 0)) (ts.set 0 (stT cs (tkC ts 0))) (busy.set 0 false)) (by show (spL_fin b t i w m has tc told now sure cs ts busy).val = _; rw [hfin]; rfl) rfl
    by_cases hb : b = 0
    · rw [ibeqT hb] at hgot ⊢
      simp only [cond_true] at hgot ⊢
      rw [hgot]
      exact hret
    · rw [ibeqF hb] at hgot ⊢
      simp only [cond_false] at hgot ⊢
      have g1 : (([0, t].getD 1 0 : Int) == t) = true := ibeqT rfl
      have g2 : (([0, t].getD 0 0 : Int) == 0) = true := rfl
      have g3 : ((([0, t] : List Int).length : Int) == 2) = true := rfl
      have g4 : decide ((0 : Int) ≤ 0 ∧ (0 : Int) < (([0, t] : List Int).length : Int)) = true := rfl
      have g5 : decide ((0 : Int) ≤ 1 ∧ (1 : Int) < (([0, t] : List Int).length : Int)) = true := rfl
      have g6 : lenOK ([0, t] : List Int).length = true := rfl
      rw [hgot, g1, g2, g3, g4, g5, g6]
      exact hret
def spL_d (env : Env RC) (os : List (Obj RC)) : Option (Bool × spL_St) := match env, os with
  | [(0, .int .i64 b), (5, .ptr 0 []), (6, .int .i64 t), (8, .int .i64 x0)], [.var 31 (.acons (.ptr 1 []) (.acons (.int .i64 w) (.acons (.int .i64 m) (.acons (.arr .int 4 has) (.acons (.sl .int tc told) .anil))))), .var 47 (.acons (.acons (.sl .int false cs) (.acons (.acons (.sl .sector false now) (.acons (.sl .sector false sure) .anil)) .anil)) (.acons (.arr .task 4 ts) (.acons (.arr .task 4 x1) (.acons (.arr .bool 4 busy) .anil))))] => staticD (true) (decide (x0 = 0) && decide (x1 = (ts)) && (decide (ts.length = 4) && spRun now sure b t 9 cs ts), ⟨b, t, 0, w, m, has, tc, told, now, sure, cs, ts, busy⟩)
  | _, _ => none
noncomputable def uh_3 := uh_2.addLoop 5 10 (sumR s17 [.slot 5 0, .path 0 [0]] [0, 5, 6, 8] spL_S spL_d)
theorem uh_3_laws : FLaws Tryz.prog s17 uh_3 := by
  refine uh_2_laws.addRoundsR s17_laws (by kernel_rfl) spL_S 60 [0, 5, 6, 8] [4] [.slot 5 0, .path 0 [0]] [0, 5, 6, 8] spL_d (fun q hI => ?_) ?_
  · obtain ⟨b, t, i, w, m, has, tc, told, now, sure, cs, ts, busy⟩ := q
    refine ⟨?_, ?_, spL_round b t i w m has tc told now sure cs ts busy hI⟩
    · simp_all [RefsOK, spL_S, spL_c, spL_o, spL_Inv, D.refs, Obj.refs, rEnc]
    · simp_all [spL_S, spL_fin, spL_o, spL_Inv, RT.refsOK, RefsOK, D.refs, Obj.refs, rEnc]
  · intro env os b q hd_ hb
    unfold spL_d at hd_
    split at hd_
    · obtain ⟨hs, hd_⟩ := staticD_some hd_
      cases hd_
      simp only [Bool.and_eq_true, decide_eq_true_eq] at hb
      obtain ⟨⟨e0, e1⟩, e2, e3⟩ := hb
      subst e0
      subst e1
      exact ⟨⟨Nat.zero_le _, e2, e3⟩, rfl, rfl⟩
    · cases hd_
noncomputable def space17_e (b : Int) (x : Int) := evF s17 uh_3 1000 5 [.int .i64 b, .int .i64 x]
set_option maxHeartbeats 4000000 in
theorem space17_eq (b : Int) (x : Int) : space17_e b x = (let Z0 : RA RTy.task := rDflt RTy.task; let Z1 : List Task := [Task.mk (0 : Int) [Frame.mk (68 : Int) (0 : Int) (regs ((2 : Int) + x % (7 : Int)) (512 : Int))] [] false, Z0, Z0, Z0]; let Z2 : Int := Int.tmod (IntKind.wrap .i64 (Int.tmod b (3 : Int) + (3 : Int))) (3 : Int); let Z3 : Int := IntKind.wrap .i64 ((1048576 : Int) - Z2); let Z4 : Int := IntKind.wrap .i64 (Z3 - (1 : Int)); let Z5 : Int := (-1 : Int); bif decide (Z1 = Z1) && (decide (List.length Z1 = (4 : Nat)) && spRun emptyDisk emptyDisk Z2 Z3 (9 : Nat) [Z4, Z3, (0 : Int), (0 : Int), Z4, (0 : Int), (0 : Int), (0 : Int), (0 : Int), (0 : Int), (0 : Int), (0 : Int), (0 : Int), (0 : Int), (0 : Int), (0 : Int), (0 : Int), (0 : Int), (0 : Int), (0 : Int), (0 : Int), (0 : Int), (0 : Int), (0 : Int), (0 : Int), (0 : Int), (0 : Int), (0 : Int), (0 : Int), (0 : Int), (0 : Int), (0 : Int), (0 : Int), (0 : Int), (0 : Int), (0 : Int), (0 : Int), (0 : Int), (0 : Int), (0 : Int), (0 : Int), (0 : Int), (0 : Int), (0 : Int), (0 : Int), (0 : Int), (0 : Int), (0 : Int), (0 : Int), (0 : Int), (0 : Int), (0 : Int), (0 : Int), (0 : Int), (0 : Int), (0 : Int), (0 : Int), (0 : Int), (0 : Int), (0 : Int), (0 : Int), (0 : Int), (0 : Int), (0 : Int), (0 : Int), (0 : Int), (0 : Int), (0 : Int), (0 : Int), (0 : Int), (0 : Int), (0 : Int), (0 : Int), (0 : Int), (0 : Int), (0 : Int), (0 : Int), (0 : Int), (0 : Int), (0 : Int), (0 : Int), (0 : Int), (0 : Int), (0 : Int), (0 : Int), (0 : Int), (0 : Int), (0 : Int), (0 : Int), (0 : Int), (0 : Int), (0 : Int), (0 : Int), (0 : Int), (0 : Int), (0 : Int), (0 : Int), (0 : Int), (0 : Int), (0 : Int), (0 : Int), (0 : Int), (0 : Int), (0 : Int), (0 : Int), (0 : Int), (0 : Int), (0 : Int), (0 : Int), (0 : Int), (0 : Int), (0 : Int), (0 : Int), (0 : Int), (0 : Int), (0 : Int), (0 : Int), (0 : Int), (0 : Int), (0 : Int), (0 : Int), (0 : Int), (0 : Int), (0 : Int), (0 : Int), (0 : Int), (0 : Int), (0 : Int), (0 : Int), (0 : Int), (0 : Int), (0 : Int), (0 : Int), (0 : Int), (0 : Int), (0 : Int), (0 : Int), (0 : Int), (0 : Int), (0 : Int), (0 : Int), (0 : Int), (0 : Int), (0 : Int), (0 : Int), (0 : Int), (0 : Int), (0 : Int), (0 : Int), (0 : Int), (0 : Int), (0 : Int), (0 : Int), (0 : Int), (0 : Int), (0 : Int), (0 : Int), (0 : Int), (0 : Int), (0 : Int), (0 : Int), (0 : Int), (0 : Int), (0 : Int), (0 : Int), (0 : Int), (0 : Int), (0 : Int), (0 : Int), (0 : Int), (0 : Int), (0 : Int), (0 : Int), (0 : Int), (0 : Int), (0 : Int), (0 : Int), (0 : Int), (0 : Int), (0 : Int), (0 : Int), (0 : Int), (0 : Int), (0 : Int), (0 : Int), (0 : Int), (0 : Int), (0 : Int), (0 : Int), (0 : Int), (0 : Int), (0 : Int), (0 : Int), (0 : Int), (0 : Int), (0 : Int), (0 : Int), (0 : Int), (0 : Int), (0 : Int), (0 : Int), (0 : Int), (0 : Int), (0 : Int), (0 : Int), (0 : Int), (0 : Int), (0 : Int), (0 : Int), (0 : Int), (0 : Int), (0 : Int), (0 : Int), (0 : Int), (0 : Int), (0 : Int), (0 : Int), (0 : Int), (0 : Int), (0 : Int), (0 : Int), (0 : Int), (0 : Int), (0 : Int), (0 : Int), (0 : Int), (0 : Int), (0 : Int), (0 : Int), (0 : Int), (0 : Int), (0 : Int), (0 : Int), (0 : Int), (0 : Int), (0 : Int), (0 : Int), (0 : Int), (0 : Int), (0 : Int), (0 : Int), (0 : Int), (0 : Int), (0 : Int), (0 : Int), (0 : Int), (0 : Int), (0 : Int), (0 : Int), (0 : Int), (0 : Int), (0 : Int), (0 : Int), (0 : Int), (0 : Int), (0 : Int), (0 : Int), (0 : Int), (0 : Int), (0 : Int), (0 : Int), (0 : Int), (0 : Int), (0 : Int), (0 : Int), (0 : Int), (0 : Int), (0 : Int), (0 : Int), (0 : Int), (0 : Int), (0 : Int), (0 : Int), (0 : Int), (0 : Int), (0 : Int), (0 : Int), (0 : Int), (0 : Int), (0 : Int), (0 : Int), (0 : Int), (0 : Int), (0 : Int), (0 : Int), (0 : Int), (0 : Int), (0 : Int), (0 : Int), (0 : Int), (0 : Int), (0 : Int), Z5, (0 : Int), (0 : Int), Z5, (0 : Int), (0 : Int), Z5, (0 : Int), (0 : Int), Z5, (0 : Int), (0 : Int), Z5, (0 : Int), (0 : Int), Z5, (0 : Int), (0 : Int), Z5, (0 : Int), (0 : Int), Z5, (0 : Int), (0 : Int), Z5, (0 : Int), (0 : Int), Z5, (0 : Int), (0 : Int), Z5, (0 : Int), (0 : Int), Z5, (0 : Int), (0 : Int), Z5, (0 : Int), (0 : Int), Z5, (0 : Int), (0 : Int), Z5, (0 : Int), (0 : Int), Z5, (0 : Int), (0 : Int), Z5, (0 : Int), (0 : Int), Z5, (0 : Int), (0 : Int), Z5, (0 : Int), (0 : Int), Z5, (0 : Int), (0 : Int), Z5, (0 : Int), (0 : Int), Z5, (0 : Int), (0 : Int), Z5, (0 : Int), (0 : Int), Z5, (0 : Int), (0 : Int), Z5, (0 : Int), (0 : Int), Z5, (0 : Int), (0 : Int), Z5, (0 : Int), (0 : Int), Z5, (0 : Int), (0 : Int), Z5, (0 : Int), (0 : Int), Z5, (0 : Int), (0 : Int), Z5, (0 : Int), (0 : Int), Z5, (0 : Int), (0 : Int), Z5, (0 : Int), (0 : Int), Z5, (0 : Int), (0 : Int), Z5, (0 : Int), (0 : Int), Z5, (0 : Int), (0 : Int), Z5, (0 : Int), (0 : Int), Z5, (0 : Int), (0 : Int), Z5, (0 : Int), (0 : Int), Z5, (0 : Int), (0 : Int), Z5, (0 : Int), (0 : Int), Z5, (0 : Int), (0 : Int), Z5, (0 : Int), (0 : Int), Z5, (0 : Int), (0 : Int), Z5, (0 : Int), (0 : Int), Z5, (0 : Int), (0 : Int), Z5, (0 : Int), (0 : Int), Z5, (0 : Int), (0 : Int), Z5, (0 : Int), (0 : Int), Z5, (0 : Int), (0 : Int), Z5, (0 : Int), (0 : Int), Z5, (0 : Int), (0 : Int), Z5, (0 : Int), (0 : Int), Z5, (0 : Int), (0 : Int), Z5, (0 : Int), (0 : Int), Z5, (0 : Int), (0 : Int), Z5, (0 : Int), (0 : Int), Z5, (0 : Int), (0 : Int), Z5, (0 : Int), (0 : Int), Z5, (0 : Int), (0 : Int), Z5, (0 : Int), (0 : Int), Z5, (0 : Int), (0 : Int), Z5, (0 : Int), (0 : Int), Z5, (0 : Int), (0 : Int), Z5, (0 : Int), (0 : Int), Z5, (0 : Int), (0 : Int), Z5, (0 : Int), (0 : Int), Z5, (0 : Int), (0 : Int), Z5, (0 : Int), (0 : Int), Z5, (0 : Int), (0 : Int), Z5, (0 : Int), (0 : Int), Z5, (0 : Int), (0 : Int), Z5, (0 : Int), (0 : Int), Z5, (0 : Int), (0 : Int), Z5, (0 : Int), (0 : Int), Z5, (0 : Int), (0 : Int), Z5, (0 : Int), (0 : Int), Z5, (0 : Int), (0 : Int), Z5, (0 : Int), (0 : Int), Z5, (0 : Int), (0 : Int), Z5, (0 : Int), (0 : Int), Z5, (0 : Int), (0 : Int), Z5, (0 : Int), (0 : Int), Z5, (0 : Int), (0 : Int), Z5, (0 : Int), (0 : Int), Z5, (0 : Int), (0 : Int), Z5, (0 : Int), (0 : Int), Z5, (0 : Int), (0 : Int), Z5, (0 : Int), (0 : Int), Z5, (0 : Int), (0 : Int), Z5, (0 : Int), (0 : Int), Z5, (0 : Int), (0 : Int), Z5, (0 : Int), (0 : Int), Z5, (0 : Int), (0 : Int), Z5, (0 : Int), (0 : Int), Z5, (0 : Int), (0 : Int), Z5, (0 : Int), (0 : Int), Z5, (0 : Int), (0 : Int), Z5, (0 : Int), (0 : Int), Z5, (0 : Int), (0 : Int), Z5, (0 : Int), (0 : Int), Z5, (0 : Int), (0 : Int), Z5, (0 : Int), (0 : Int), Z5, (0 : Int), (0 : Int), Z5, (0 : Int), (0 : Int), Z5, (0 : Int), (0 : Int), Z5, (0 : Int), (0 : Int), Z5, (0 : Int), (0 : Int), Z5, (0 : Int), (0 : Int), Z5, (0 : Int), (0 : Int), Z5, (0 : Int), (0 : Int), Z5, (0 : Int), (0 : Int), Z5, (0 : Int), (0 : Int), Z5, (0 : Int), (0 : Int), Z5, (0 : Int), (0 : Int), Z5, (0 : Int), (0 : Int), Z5, (0 : Int), (0 : Int), Z5, (0 : Int), (0 : Int), Z5, (0 : Int), (0 : Int), Z5, (0 : Int), (0 : Int), Z5, (0 : Int), (0 : Int), Z5, (0 : Int), (0 : Int), Z5, (0 : Int), (0 : Int), Z5, (0 : Int), (0 : Int), Z5, (0 : Int), (0 : Int), Z5, (0 : Int), (0 : Int), Z5, (0 : Int), (0 : Int), Z5, (0 : Int), (0 : Int), Z5, (0 : Int), (0 : Int), Z5, (0 : Int), (0 : Int), Z5, (0 : Int), (0 : Int), Z5, (0 : Int), (0 : Int), Z5, (0 : Int), (0 : Int), Z5, (0 : Int), (0 : Int), Z5, (0 : Int), (0 : Int), Z5, (0 : Int), (0 : Int), Z5, (0 : Int), (0 : Int), Z5, (0 : Int), (0 : Int), Z5, (0 : Int), (0 : Int), Z5, (0 : Int), (0 : Int), Z5, (0 : Int), (0 : Int), Z5, (0 : Int), (0 : Int), Z5, (0 : Int), (0 : Int), Z5, (0 : Int), (0 : Int), Z5, (0 : Int), (0 : Int), Z5, (0 : Int), (0 : Int), Z5, (0 : Int), (0 : Int), Z5, (0 : Int), (0 : Int), Z5, (0 : Int), (0 : Int), Z5, (0 : Int), (0 : Int), Z5, (0 : Int), (0 : Int), Z5, (0 : Int), (0 : Int), Z5, (0 : Int), (0 : Int), Z5, (0 : Int), (0 : Int), Z5, (0 : Int), (0 : Int), Z5, (0 : Int), (0 : Int), Z5, (0 : Int), (0 : Int), Z5, (0 : Int), (0 : Int), Z5, (0 : Int), (0 : Int), Z5, (0 : Int)] Z1) then some (D.bool true) else none) := by kernel_rfl
theorem space17_ok (b : Int) (x : Int) (h : (true) = true) : space17_e b x = some (.bool true) := by
  (rw [space17_eq]; conv => zeta)
  have hw : 0 ≤ x % 7 ∧ x % 7 < 7 := ⟨Int.emod_nonneg _ (by decide), Int.emod_lt_of_pos _ (by decide)⟩
  have h1 : -3 < Int.tmod b 3 := Int.lt_tmod_of_pos _ (by decide)
  have h2 : Int.tmod b 3 < 3 := Int.tmod_lt_of_pos _ (by decide)
  have hN : Int.tmod (IntKind.i64.wrap (Int.tmod b 3 + 3)) 3 = (Int.tmod b 3 + 3) % 3 := by
    rw [wrap_id (by omega) (by omega), Int.tmod_eq_emod_of_nonneg (by omega)]
  rw [hN]
  have hq0 : 0 ≤ (Int.tmod b 3 + 3) % 3 := Int.emod_nonneg _ (by decide)
  have hq3 : (Int.tmod b 3 + 3) % 3 < 3 := Int.emod_lt_of_pos _ (by decide)
  generalize (Int.tmod b 3 + 3) % 3 = q at *
  rw [show IntKind.i64.wrap (1048576 - q) = 1048576 - q from wrap_id (by omega) (by omega), show IntKind.i64.wrap (1048576 - q - 1) = 1048576 - q - 1 from wrap_id (by omega) (by omega)]
  have key := sp_all (b := q) (w := 2 + x % 7) ⟨hq0, by omega⟩ ⟨by omega, by omega⟩
  generalize 2 + x % 7 = w at *
  refine cond_of ?_ rfl
  rw [Bool.and_eq_true, Bool.and_eq_true]
  refine ⟨decide_eq_true rfl, decide_eq_true rfl, ?_⟩
  refine (congrArg (fun L => spRun emptyDisk emptyDisk q (1048576 - q) 9 L _) ?_).trans key
  kernel_rfl
open Go.ChangeShapes Go.WideShapes Go.RowKit
section
variable {C : Cdc}
def good (gA : (t : C.Ty) → C.A t → Prop) : D C → Prop
  | .int k n => k.min ≤ n ∧ n ≤ k.max
  | .str s => s.length ≤ maxLen
  | .acons d ds => good gA d ∧ good gA ds
  | .arr t n l => l.length = n ∧ ∀ x ∈ l, gA t x
  | .sl t _ l => l.length ≤ maxLen ∧ ∀ x ∈ l, gA t x
  | _ => True
def plainT (T : Tab C) : Nat → TypeId → Bool
  | 0, _ => false
  | k + 1, t => match T.ty t with
    | .bool | .int _ | .str => true
    | .struct _ fs => fs.all (plainT T k)
    | .arr _ e _ => plainT T k e
    | .sl e _ => plainT T k e
    | _ => false
structure Dec (T : Tab C) (gA : (t : C.Ty) → C.A t → Prop) : Prop where
  dec : ∀ t d, fit T d (.inl (T.ety t)) = true → d.refs = [] → good gA d → (∃ k u, T.ty u = T.ty (T.ety t) ∧ plainT T k u = true) → ∃ x, T.dec t d = some x ∧ gA t x
variable {P : Program} {T : Tab C} {gA : (t : C.Ty) → C.A t → Prop}
def X0 (W : World) : Cx := ⟨W, fun _ => none, fun _ _ => False⟩
theorem X0_free (W : World) (b o : Nat) : (X0 W).free b o := ⟨fun h => h, fun ⟨_, _, h, _⟩ => by simp [X0] at h⟩
theorem arr_R {X : Cx} (t : C.Ty) (sz : Nat) : ∀ (n : Nat) (cs : List Value), cs.length = n * sz → (∀ i, i < n → ∃ x : C.A t, R T X false (T.enc t x) ((cs.drop (i * sz)).take sz) ∧ gA t x) →
    ∃ l : List (C.A t), R T X false (.arr t n l) cs ∧ l.length = n ∧ ∀ x ∈ l, gA t x
  | 0, cs, hl, _ => by
    obtain rfl : cs = [] := by simpa using hl
    exact ⟨[], .arr0 _, rfl, by simp⟩
  | n + 1, cs, hl, h => by
    obtain ⟨x, hx, gx⟩ := h 0 (by omega)
    obtain ⟨l, hr, hn, gl⟩ := arr_R t sz n (cs.drop sz) (by rw [List.length_drop, hl, Nat.succ_mul]; omega) fun i hi => by
      obtain ⟨y, hy, gy⟩ := h (i + 1) (by omega)
      refine ⟨y, ?_, gy⟩
      rw [List.drop_drop]
      rw [show sz + i * sz = (i + 1) * sz by rw [Nat.succ_mul]; omega]
      exact hy
    refine ⟨x :: l, ?_, by simp [hn], by simpa using ⟨gx, gl⟩⟩
    have := R.arrS hx hr
    simpa using this
theorem sl_R {W : World} (t : C.Ty) (b sz : Nat) : ∀ (n off : Nat), (∀ i, i < n → ∃ (x : C.A t) (ci : List Value), R T (X0 W) false (T.enc t x) ci ∧ ci.length = sz ∧ (∀ j, j < sz → W.cell? ⟨b, off + i * sz + j, none⟩ = ci[j]?) ∧ gA t x) →
    ∃ (l : List (C.A t)) (cs : List Value), R T (X0 W) false (.arr t n l) cs ∧ l.length = n ∧ (X0 W).at b off cs ∧ ∀ x ∈ l, gA t x
  | 0, off, _ => ⟨[], [], .arr0 _, rfl, fun j v h => by simp at h, by simp⟩
  | n + 1, off, h => by
    obtain ⟨x, ci, hx, hlen, hc, gx⟩ := h 0 (by omega)
    obtain ⟨l, cs, hr, hn, hat, gl⟩ := sl_R t b sz n (off + sz) fun i hi => by
      obtain ⟨y, c2, hy, h2, h3, gy⟩ := h (i + 1) (by omega)
      refine ⟨y, c2, hy, h2, fun j hj => ?_, gy⟩
      have := h3 j hj
      rwa [show off + (i + 1) * sz + j = off + sz + i * sz + j by rw [Nat.succ_mul]; omega] at this
    refine ⟨x :: l, ci ++ cs, .arrS hx hr, by simp [hn], fun j v hj => ⟨?_, X0_free _ _ _⟩, by simpa using ⟨gx, gl⟩⟩
    by_cases hlt : j < ci.length
    · rw [List.getElem?_append_left hlt] at hj
      have := hc j (by omega)
      simp only [Nat.zero_mul, Nat.add_zero] at this
      exact this.trans hj
    · rw [List.getElem?_append_right (by omega)] at hj
      have := (hat _ _ hj).1
      rwa [show off + sz + (j - ci.length) = off + j by omega] at this
theorem st_R {X : Cx} : ∀ (fs : List TypeId) (cs : List Value), (∀ i f, fs[i]? = some f → ∃ d, R T X false d ((cs.drop (sumSz T (fs.take i))).take (T.size f)) ∧ fit T d (.inl f) = true ∧ good gA d ∧ d.refs = []) →
    ∃ d, R T X false d (cs.take (sumSz T fs)) ∧ fit T d (.inr fs) = true ∧ good gA d ∧ d.refs = [] ∧ d.isRow = true ∧ (∀ t a, T.ty t = .struct a fs → fit T d (.inl t) = true)
  | [], cs, _ => ⟨.anil, by simpa [sumSz] using R.anil, rfl, trivial, rfl, rfl, fun t a ht => by simp [fit, ht]⟩
  | f :: fs, cs, h => by
    obtain ⟨d, hd, fd, gd, rd⟩ := h 0 f rfl
    obtain ⟨ds, hr, fr, gr, rr, _, _⟩ := st_R fs (cs.drop (T.size f)) fun i g hg => by
      obtain ⟨e, he, h2⟩ := h (i + 1) g (by simpa using hg)
      refine ⟨e, ?_, h2⟩
      simpa [sumSz, List.drop_drop] using he
    refine ⟨.acons d ds, ?_, by simp [fit, fd, fr], ⟨gd, gr⟩, by simp [D.refs, rd, rr], rfl, fun t a ht => by simp [fit, ht, fd, fr]⟩
    have := R.acons hd hr
    simpa [sumSz, List.take_add] using this
theorem cellsOf_info {t : TypeId} {i : TypeInfo} (h : P.info? t = some i) : P.cellsOf t = i.size := by
  simp [Program.cellsOf, h]
theorem trod_R (K : PLaws P T) (hd : Dec T gA) {H : Type} {enc : TypeId × Value → H} {W : World} : ∀ (k : Nat) (t : TypeId), plainT T k t = true → ∀ (fuel : Nat) (cs : List Value) (x : DataW H × List MemPlace), DataW.trod enc P W 0 (fun _ => true) true fuel t cs = some x →
    ∃ d, R T (X0 W) false d cs ∧ fit T d (.inl t) = true ∧ good gA d ∧ d.refs = [] := by
  intro k
  induction k with
  | zero => intro t h; simp [plainT] at h
  | succ k ih =>
    intro t hp fuel cs x h
    unfold plainT at hp
    split at hp
    · rename_i ht
      obtain ⟨b, rfl, _⟩ := DataW.trod_bool (K.uBool t ht) h
      exact ⟨.bool b, .bool b, by simp [fit, ht], trivial, rfl⟩
    · rename_i kd ht
      obtain ⟨n, rfl, _, hw⟩ := DataW.trod_int (K.uInt t kd ht) h
      have hw' : kd.min ≤ n ∧ n ≤ kd.max := by simpa [Lit.wf] using hw
      exact ⟨.int kd n, .int hw', by simp [fit, ht], hw', rfl⟩
    · rename_i ht
      obtain ⟨s, rfl, _, hs⟩ := DataW.trod_string (K.uStr t ht) h
      exact ⟨.str s.data.toList, .str s.data.toList, by simp [fit, ht], by simpa [good] using hs, rfl⟩
    · rename_i isA fs ht
      cases isA with
      | true =>
        obtain ⟨el, hu, hfs, hpos, inf, hi1, hi2⟩ := K.uRow t fs ht
        obtain ⟨xs, m, _, _, hlen, hxs, hel⟩ := DataW.trod_array hu h
        have hget : ∀ i f, fs[i]? = some f → f = el ∧ i < fs.length := fun i f hf => by
          have := (List.getElem?_eq_some_iff.1 hf).1
          rw [hfs, List.getElem?_replicate] at hf
          simp at hf
          exact ⟨hf.2.symm, this⟩
        have hsum : ∀ i, i ≤ fs.length → sumSz T (fs.take i) = i * T.size el := by
          intro i hi
          rw [hfs, List.take_replicate, Nat.min_eq_left hi]
          clear hi
          induction i with
          | zero => simp [sumSz]
          | succ i ih => simp only [List.replicate_succ, sumSz, ih]; rw [Nat.succ_mul]; omega
        obtain ⟨d, hr, _, gd, rd, _, hfit⟩ := st_R (T := T) (X := X0 W) (gA := gA) fs cs fun i f hf => by
          obtain ⟨rfl, hi⟩ := hget i f hf
          have := hel i hi
          rw [cellsOf_info hi1, hi2] at this
          have hx : xs[i]? = some xs[i] := by simp [hxs, hi]
          rw [hx] at this
          obtain ⟨d, h1, h2, h3, h4⟩ := ih f (List.all_eq_true.1 hp _ (List.mem_of_getElem? hf)) m _ _ this
          refine ⟨d, ?_, h2, h3, h4⟩
          rw [hsum i (by omega)]; exact h1
        obtain ⟨inf, hi1, hi2⟩ := K.info t d (hfit t _ ht)
        rw [cellsOf_info hi1, hi2, K.base.szStruct t _ fs ht] at hlen
        rw [← hlen, List.take_length] at hr
        exact ⟨d, hr, hfit t _ ht, gd, rd⟩
      | false =>
        obtain ⟨fields, hu, hfs, hoff, _⟩ := K.uStruct t fs ht
        obtain ⟨xs, n, _, _, hlen, hxs, hel⟩ := DataW.trod_struct hu h
        obtain ⟨d, hr, _, gd, rd, _, hfit⟩ := st_R (T := T) (X := X0 W) (gA := gA) fs cs fun i f hf => by
          rw [← hfs, List.getElem?_map] at hf
          cases hfi : fields.toList[i]? with
          | none => simp [hfi] at hf
          | some fld =>
            simp only [hfi, Option.map_some, Option.some.injEq] at hf
            have hfa : fields[i]? = some fld := by rw [← Array.getElem?_toList]; exact hfi
            have := hel i fld hfa
            have hx : ∃ y, xs[i]? = some y := by
              have : i < fields.size := (Array.getElem?_eq_some_iff.1 hfa).1
              exact ⟨xs[i], by simp [hxs, this]⟩
            obtain ⟨y, hy⟩ := hx
            rw [hy] at this
            subst hf
            have hmem : fld.type ∈ fs := by rw [← hfs]; exact List.mem_map.2 ⟨fld, by exact List.mem_of_getElem? hfi, rfl⟩
            obtain ⟨d, h1, h2, h3, h4⟩ := ih fld.type (List.all_eq_true.1 hp _ hmem) n _ _ this
            obtain ⟨inf, hi1, hi2, _⟩ := K.uField t fs fld.type ht hmem
            refine ⟨d, ?_, h2, h3, h4⟩
            rw [hoff i fld hfa, cellsOf_info hi1, hi2] at h1
            exact h1
        obtain ⟨inf, hi1, hi2⟩ := K.info t d (hfit t _ ht)
        rw [cellsOf_info hi1, hi2, K.base.szStruct t _ fs ht] at hlen
        rw [← hlen, List.take_length] at hr
        exact ⟨d, hr, hfit t _ ht, gd, rd⟩
    · rename_i n e ct ht
      obtain ⟨hu, _⟩ := K.uArr t n e ct ht
      obtain ⟨xs, m, _, _, hlen, hxs, hel⟩ := DataW.trod_array hu h
      obtain ⟨inf, z, hi1, hi2, _⟩ := K.uElem t e ct (.inl ⟨n, ht⟩)
      obtain ⟨it, hj1, hj2⟩ := K.info t (.arr ct n []) (by simp [fit, ht])
      obtain ⟨hs1, hs2, hs3⟩ := K.base.szArr t n e ct ht
      rw [cellsOf_info hj1, hj2, hs1] at hlen
      obtain ⟨l, hr, hn, gl⟩ := arr_R (T := T) (X := X0 W) (gA := gA) ct (T.size e) n cs hlen fun i hi => by
        have := hel i hi
        rw [cellsOf_info hi1, hi2] at this
        have hx : xs[i]? = some xs[i] := by simp [hxs, hi]
        rw [hx] at this
        obtain ⟨d, h1, h2, h3, h4⟩ := ih e hp m _ _ this
        obtain ⟨x, h5, h6⟩ := hd.dec ct d (by rw [← fit_congr hs2]; exact h2) h4 h3 ⟨k, e, hs2, hp⟩
        exact ⟨x, K.base.decR _ _ _ _ _ h5 h1, h6⟩
      exact ⟨.arr ct n l, hr, by simp [fit, ht], ⟨hn, gl⟩, rfl⟩
    · rename_i e ct ht
      have hu := K.uSl t e ct ht
      obtain ⟨inf, z, hi1, hi2, _, _, hpos, _⟩ := K.uElem t e ct (.inr ht)
      obtain ⟨hs1, hs2, hs3⟩ := K.base.szSl t e ct ht
      rcases DataW.trod_slice hu h with ⟨rfl, _⟩ | ⟨a, len, cap, elems, rest, m, _, rfl, _, _, hlc, hcm, hel, he, hrest, _⟩
      · exact ⟨.sl ct false [], .sl0 _ _ _, by simp [fit, ht], by simp [good], rfl⟩
      · by_cases hc0 : cap = 0
        · subst hc0
          obtain rfl : len = 0 := by omega
          exact ⟨.sl ct false [], .sl0 _ _ _, by simp [fit, ht], by simp [good], rfl⟩
        · have hspot : a.spot = none := by
            have key : ∀ i y, i = 0 → (W.cells? 0 (a.add (i * P.cellsOf e)) (P.cellsOf e)).bind (DataW.trod enc P W 0 (fun _ => true) true m e) = some y → a.spot = none := by
              intro i y hi0 hy
              subst hi0
              rw [cellsOf_info hi1, hi2] at hy
              cases hcs : W.cells? 0 (a.add (0 * T.size e)) (T.size e) with
              | none => rw [hcs] at hy; cases hy
              | some ci =>
                obtain ⟨_, h2, h3⟩ := World.cells?_some hcs
                have h4 := h3 0 hpos
                have h5 : ci[0]? = some ci[0] := by simp
                rw [h5] at h4
                have := World.cell?_spot h4
                simpa [Addr.add] using this
            by_cases hl0 : 0 < len
            · have := he 0 hl0
              have hx : elems[0]? = some elems[0] := by simp
              exact key 0 _ rfl (this.trans hx)
            · have hr2 := hrest rfl
              have := hr2.2 0 (by omega)
              have h0 : 0 < rest.length := by omega
              have hx : rest[0]? = some rest[0] := by simp
              exact key _ _ (by omega) (this.trans hx)
          obtain ⟨b, off, sp⟩ := a
          simp only at hspot
          subst hspot
          obtain ⟨l, cs, hr, hn, hat, gl⟩ := sl_R (T := T) (W := W) (gA := gA) ct b (T.size e) len off fun i hi => by
            have := he i hi
            have hx : elems[i]? = some elems[i] := by simp [hel, hi]
            rw [hx, cellsOf_info hi1, hi2] at this
            cases hcs : W.cells? 0 ((⟨b, off, none⟩ : Addr).add (i * T.size e)) (T.size e) with
            | none => simp [hcs] at this
            | some ci =>
              simp only [hcs, Option.bind_some] at this
              obtain ⟨_, h2, h3⟩ := World.cells?_some hcs
              obtain ⟨d, k1, k2, k3, k4⟩ := ih e hp m _ _ this
              obtain ⟨x, k5, k6⟩ := hd.dec ct d (by rw [← fit_congr hs2]; exact k2) k4 k3 ⟨k, e, hs2, hp⟩
              refine ⟨x, ci, K.base.decR _ _ _ _ _ k5 k1, h2, fun j hj => ?_, k6⟩
              have := h3 j hj
              rwa [add_plain, add_plain] at this
          subst hn
          exact ⟨.sl ct false l, .sl hat hr hlc (by simp), by simp [fit, ht], ⟨by omega, gl⟩, rfl⟩
    · cases hp
theorem okWide_row (K : PLaws P T) {W : World} {r : Reach} {base : Nat} {t : TypeId} {v : Value} {d : D C} (hv : Value.okWide P W r base t v) (hp : ∃ k, plainT T k t = true) (hf : fit T d (.inl t) = true) (hr : R T (X0 W) false d v.cells.toList) (hrf : d.refs = []) : RV T (X0 W) d v := by
  obtain ⟨k, hp⟩ := hp
  cases k with
  | zero => simp [plainT] at hp
  | succ k =>
    unfold plainT at hp
    split at hp
    · rename_i ht
      obtain ⟨b, rfl⟩ := okWide_bool (K.uBool t ht) hv
      refine .inr ⟨?_, by simpa [Value.cells] using hr⟩
      cases d <;> simp [fit, ht] at hf <;> rfl
    · rename_i kd ht
      obtain ⟨b, rfl⟩ := okWide_int (K.uInt t kd ht) hv
      refine .inr ⟨?_, by simpa [Value.cells] using hr⟩
      cases d <;> simp [fit, ht] at hf <;> rfl
    · rename_i ht
      obtain ⟨b, rfl⟩ := okWide_string (K.uStr t ht) hv
      refine .inr ⟨?_, by simpa [Value.cells] using hr⟩
      cases d <;> simp [fit, ht] at hf <;> rfl
    · rename_i isA fs ht
      have : ∃ cs, v = .agg cs := by
        cases isA with
        | false =>
          obtain ⟨fields, hu, _⟩ := K.uStruct t fs ht
          obtain ⟨cs, rfl, _⟩ := okWide_struct hu hv
          exact ⟨cs, rfl⟩
        | true =>
          obtain ⟨el, hu, _⟩ := K.uRow t fs ht
          simp only [Value.okWide, hu] at hv
          obtain ⟨cs, rfl, _⟩ := hv
          exact ⟨cs, rfl⟩
      obtain ⟨cs, rfl⟩ := this
      refine .inl ⟨?_, cs.toList, by simpa [Value.cells] using hr, rfl⟩
      cases d <;> simp [fit, ht] at hf <;> rfl
    · rename_i n e ct ht
      obtain ⟨hu, _⟩ := K.uArr t n e ct ht
      have : ∃ cs, v = .agg cs := by
        simp only [Value.okWide, hu] at hv
        obtain ⟨cs, rfl, _⟩ := hv
        exact ⟨cs, rfl⟩
      obtain ⟨cs, rfl⟩ := this
      refine .inl ⟨?_, cs.toList, by simpa [Value.cells] using hr, rfl⟩
      cases d <;> simp [fit, ht] at hf <;> rfl
    · rename_i e ct ht
      obtain ⟨a, len, cap, rfl⟩ := okWide_slice (K.uSl t e ct ht) hv
      refine .inr ⟨?_, by simpa [Value.cells] using hr⟩
      cases d <;> simp [fit, ht] at hf <;> rfl
    · cases hp
inductive Fits (T : Tab C) (gA : (t : C.Ty) → C.A t → Prop) : List TypeId → List (D C) → Prop
  | nil : Fits T gA [] []
  | cons {t : TypeId} {ts : List TypeId} {d : D C} {ds : List (D C)} (hf : fit T d (.inl t) = true) (hg : good gA d) (hr : d.refs = []) (h : Fits T gA ts ds) : Fits T gA (t :: ts) (d :: ds)
theorem Fits.refs {ts : List TypeId} {ds : List (D C)} (h : Fits T gA ts ds) : ∀ a ∈ ds, D.refs a = [] := by
  induction h with
  | nil => simp
  | cons _ _ hr _ ih => simpa using ⟨hr, ih⟩
theorem trodAll_R (K : PLaws P T) (hd : Dec T gA) {H : Type} {enc : TypeId × Value → H} {W : World} {r : Reach} {base : Nat} : ∀ (ts : List TypeId) (vs : List Value) (ds : List (DataW H)) (ps : List MemPlace), (∀ t ∈ ts, ∃ k, plainT T k t = true) →
    (∀ (j : Nat) t v, ts[j]? = some t → vs[j]? = some v → Value.okWide P W r base t v) → DataW.TrodAll enc P W 0 (fun _ => true) true ts vs ds ps → ∃ al, Fits T gA ts al ∧ RVs T (X0 W) al vs
  | [], vs, ds, ps, _, _, h => by
    obtain ⟨rfl, rfl, rfl⟩ := trodAll_nil h
    exact ⟨[], .nil, .nil⟩
  | t :: ts, vs, ds, ps, hp, hv, h => by
    obtain ⟨v, vs1, d, ds1, p, q, rfl, rfl, rfl, ⟨fuel, h1⟩, h2⟩ := trodAll_cons h
    obtain ⟨al, f1, r1⟩ := trodAll_R K hd ts vs1 ds1 q (fun t ht => hp t (by simp [ht])) (fun j t v a b => hv (j + 1) t v (by simpa using a) (by simpa using b)) h2
    obtain ⟨k, hk⟩ := hp t (by simp)
    obtain ⟨a, k1, k2, k3, k4⟩ := trod_R K hd k t hk fuel _ _ h1
    exact ⟨a :: al, .cons k2 k3 k4 f1, .cons (okWide_row K (hv 0 t v rfl rfl) ⟨k, hk⟩ k2 k1 k4) r1⟩
theorem stays (hl : laidOutB P = true) {H : Type} {enc : TypeId × Value → H} {W W' : World} {sp : Nat → Bool} : ∀ (ts : List TypeId) (vs : List Value) (ds : List (DataW H)) (ps : List MemPlace), (∀ t ∈ ts, P.readableRec t = true ∧ t < P.types.size) →
    DataW.TrodAll enc P W 0 (fun _ => true) true ts vs ds ps → (∀ p ∈ ps, W.sameAt W' p) → (∀ p ∈ ps, sp p.block = true) → DataW.TrodAll enc P W' 0 sp true ts vs ds ps
  | [], vs, ds, ps, _, h, _, _ => by
    obtain ⟨rfl, rfl, rfl⟩ := trodAll_nil h
    exact trodAll_mk0
  | t :: ts, vs, ds, ps, ht, h, h3, h4 => by
    obtain ⟨v, vs1, d, ds1, p, q, rfl, rfl, rfl, h1, h2⟩ := trodAll_cons h
    exact trodAll_cons_mk (WideElems.Trod_stays hl (ht t (by simp)).1 (ht t (by simp)).2 h1 (fun x hx => h3 x (by simp [hx])) (fun x hx => h4 x (by simp [hx])))
      (stays hl ts vs1 ds1 q (fun t h => ht t (by simp [h])) h2 (fun x hx => h3 x (by simp [hx])) (fun x hx => h4 x (by simp [hx])))
theorem post_same_old {H : Type} {enc : TypeId × Value → H} {f : Func} {s : ChangeSpec} {apart fresh handsOn again : Bool} {W W' : World} {args : Array Value} {v : Value} {ds gs : List (DataW H)} {before pa pv : List MemPlace}
    (hW : DataW.Whole enc P f.params.toList s.vars apart W args.toList ds gs before)
    (hres : ∀ (b : Nat) (sp : Nat → Bool) (hd : Bool), DataW.TrodAll enc P W' b sp hd f.resultTypes.toList (v.resultList f.resultTypes.size) (s.fn H (ds ++ gs)).results [])
    (hargs : ∀ sp : Nat → Bool, (∀ p ∈ before, sp p.block = true) → DataW.TrodAll enc P W' 0 sp true f.params.toList args.toList (s.fn H (ds ++ gs)).args pa)
    (hvars : ∀ sp : Nat → Bool, (∀ p ∈ before, sp p.block = true) → DataW.TrodVars enc P W' sp s.vars (s.fn H (ds ++ gs)).vars pv)
    (hps : before = pa ++ pv) (hk : W.keptBut W' (· ∈ before)) (hfz : ∀ a : Addr, a.block < W.heap.size → W'.frozen? a = W.frozen? a)
    (hok : ∀ (j : Nat) (t : TypeId) (r : Value), f.resultTypes[j]? = some t → (v.resultList f.resultTypes.size)[j]? = some r → Value.okWide P W' .any 0 t r) :
    s.post enc P f apart fresh handsOn again W args v W' := by
  have hold : ∀ p ∈ before, (fun b => decide (b < W.heap.size)) p.block = true := fun p hp => by simpa using hW.lt p hp
  refine ⟨ds, gs, before, [], pa, pv, hW, hres _ _ _, hargs _ hold, hvars _ hold, World.keptBut_mono (fun p hp => ⟨hp, ?_⟩) hk, fun _ => ?_⟩
  · rw [hps, List.mem_append] at hp
    exact Or.inr hp
  · have hlt := hW.lt
    obtain ⟨_, _, _, _, _, hz, hn⟩ := hW
    refine ⟨hok, _, _, ([] ++ pa) ++ pv, ⟨[] ++ pa, pv, trodAll_append (hargs _ (fun _ _ => rfl)) (hres _ _ _), hvars _ (fun _ _ => rfl), rfl, ?_, ?_⟩, ?_⟩
    · intro b off hp
      have hb : MemPlace.cell b off ∈ before := by rw [hps]; simpa using hp
      rw [hfz _ (by simpa [MemPlace.block] using hlt _ hb)]
      exact hz b off hb
    · intro ha
      have := hn ha
      rw [hps] at this
      simpa using this
    · intro p hp _
      rw [hps]
      simpa using hp
theorem contract_of (K : PLaws P T) {Φ : Fns C} (F : FLaws P T Φ) (hd : Dec T gA) (hl : laidOutB P = true) {f : FuncId} {fn : Func} {s : ChangeSpec} {tb : TypeId} {m : Nat}
    (hres : fn.resultTypes = #[tb]) (hb : P.underlying tb = some .bool) (hvars : s.vars = [])
    (hts : fn.params.toList.all (fun t => plainT T m t && P.readableRec t && Nat.blt t P.types.size) = true)
    (hspec : ∀ (H : Type) (ds : List (DataW H)), ds.length = fn.params.toList.length → s.fn H ds = { results := [.lit (.bool true)], args := ds })
    (hev : ∀ ds : List (D C), Fits T gA fn.params.toList ds → ∃ n, evF T Φ n f ds = some (.bool true))
    (H : Type) (enc : TypeId × Value → H) (W : World) (base : Nat) (args : Array Value) (ds gs : List (DataW H)) (before : List MemPlace)
    (hval : ∀ (j : Nat) t v, fn.params[j]? = some t → args[j]? = some v → Value.okWide P W .any base t v)
    (hW : DataW.Whole enc P fn.params.toList s.vars false W args.toList ds gs before) :
    Calls P f args W fun e W' => ∃ v, e = .returned v ∧ s.post enc P fn false true false false W args v W' := by
  have hts' : ∀ t ∈ fn.params.toList, plainT T m t = true ∧ P.readableRec t = true ∧ t < P.types.size := by
    intro t ht
    have := List.all_eq_true.1 hts t ht
    simp only [Bool.and_eq_true] at this
    exact ⟨this.1.1, this.1.2, by simpa [Nat.blt_eq] using this.2⟩
  have hW' := hW
  obtain ⟨p, q, hA, hV, rfl, hfz, hnd⟩ := hW
  rw [hvars] at hV
  obtain ⟨rfl, rfl⟩ := trodVars_none hV
  obtain ⟨al, hf, hr⟩ := trodAll_R (gA := gA) K hd (r := .any) (base := base) _ _ _ _ (fun t ht => ⟨m, (hts' t ht).1⟩) (fun j t v a b => hval j t v (by rw [← Array.getElem?_toList]; exact a) (by rw [← Array.getElem?_toList]; exact b)) hA
  obtain ⟨n, hn⟩ := hev al hf
  have hc := (evF_calls K F hn hf.refs W (fun _ _ => False) (fun _ _ h => h.elim) (vs := args.toList) hr).2
  have ea : (⟨args.toList⟩ : Array Value) = args := by simp
  rw [ea] at hc
  refine hc.mono fun e W' hp => ?_
  obtain ⟨v, ρ, rfl, rv, a1, a2, a3, a4, a5, a6⟩ := hp
  obtain rfl := rv.bool
  have hlen : ds.length = fn.params.toList.length := by
    have : ∀ (ts : List TypeId) (vs : List Value) (ds : List (DataW H)) (ps : List MemPlace), DataW.TrodAll enc P W 0 (fun _ => true) true ts vs ds ps → ds.length = ts.length := by
      intro ts
      induction ts with
      | nil => intro vs ds ps h; obtain ⟨rfl, rfl, rfl⟩ := trodAll_nil h; rfl
      | cons t ts ih =>
        intro vs ds ps h
        obtain ⟨v, vs1, d, ds1, p, q, rfl, rfl, rfl, h1, h2⟩ := trodAll_cons h
        simp [ih _ _ _ h2]
    exact this _ _ _ _ hA
  have hs := hspec H ds hlen
  have hbel : Below W.heap.size W W' := ⟨a3, a4, a5, a1, a2⟩
  have hlt : ∀ x ∈ p, x.block < W.heap.size := fun x hx => by simpa using hW'.lt x (by simpa using hx)
  refine ⟨_, rfl, post_same_old (pa := p) (pv := []) hW' ?_ ?_ ?_ (by simp) (hbel.frame _) a6 ?_⟩
  · intro b sp hd
    simp only [List.append_nil]
    rw [hs, hres]
    exact trodAll_cons_mk (p := []) (p' := []) (shut_bool hb _) trodAll_mk0
  · intro sp hsp
    simp only [List.append_nil] at hsp ⊢
    rw [hs]
    exact stays hl _ _ _ _ (fun t ht => (hts' t ht).2) hA (fun x hx => hbel.same (hlt x hx)) hsp
  · intro sp hsp
    simp only [List.append_nil]
    rw [hs, hvars]
    rfl
  · exact ok_one hres rfl (okWide_bool_mk hb _)
end
def i64 (n : Int) : Prop := -9223372036854775808 ≤ n ∧ n ≤ 9223372036854775807
def inK (k : IntKind) (n : Int) : Prop := k.min ≤ n ∧ n ≤ k.max
theorem i64_of {n : Int} (h : IntKind.i64.min ≤ n ∧ n ≤ IntKind.i64.max) : i64 n := by
  simpa [i64, IntKind.min, IntKind.max, IntKind.signed, IntKind.bits] using h
section
variable {C : Cdc} {T : Tab C} {d : D C} {u : TypeId}
theorem fit_int {k : IntKind} (hu : T.ty u = .int k) (hf : fit T d (.inl u) = true) : ∃ n, d = .int k n := by
  cases d <;> simp [fit, hu] at hf
  subst hf; exact ⟨_, rfl⟩
theorem fit_bool (hu : T.ty u = .bool) (hf : fit T d (.inl u) = true) : ∃ n, d = .bool n := by
  cases d <;> simp [fit, hu] at hf
  exact ⟨_, rfl⟩
theorem fit_str (hu : T.ty u = .str) (hf : fit T d (.inl u) = true) : ∃ n, d = .str n := by
  cases d <;> simp [fit, hu] at hf
  exact ⟨_, rfl⟩
theorem fit_sl {e : TypeId} {t : C.Ty} (hu : T.ty u = .sl e t) (hf : fit T d (.inl u) = true) (hr : d.refs = []) : ∃ c l, d = .sl t c l := by
  cases d <;> simp [fit, hu] at hf
  · subst hf; exact ⟨_, _, rfl⟩
  · simp [D.refs] at hr
theorem fit_arr {e : TypeId} {t : C.Ty} {n : Nat} (hu : T.ty u = .arr n e t) (hf : fit T d (.inl u) = true) : ∃ l, d = .arr t n l := by
  cases d <;> simp [fit, hu] at hf
  obtain ⟨h1, h2⟩ := hf
  subst h1; subst h2; exact ⟨_, rfl⟩
theorem fit_st {a : Bool} {f : TypeId} {fs : List TypeId} (hu : T.ty u = .struct a (f :: fs)) (hf : fit T d (.inl u) = true) : ∃ x y, d = .acons x y ∧ fit T x (.inl f) = true ∧ fit T y (.inr fs) = true := by
  cases d <;> simp [fit, hu] at hf
  exact ⟨_, _, rfl, hf.1, hf.2⟩
theorem fit_more {f : TypeId} {fs : List TypeId} (hf : fit T d (.inr (f :: fs)) = true) : ∃ a b, d = .acons a b ∧ fit T a (.inl f) = true ∧ fit T b (.inr fs) = true := by
  cases d <;> simp [fit] at hf
  exact ⟨_, _, rfl, hf.1, hf.2⟩
theorem fit_end (hf : fit T d (.inr []) = true) : d = .anil := by
  cases d <;> simp [fit] at hf
  rfl
end
open Go.Proofs Go.ChangeShapes Go.WideShapes Go.ChangeAt Go.RowKit
def goodPick (x : Pick) : Prop := i64 (x.client) ∧ i64 (x.do_)
def goodSector (x : Sector) : Prop := i64 (x.n) ∧ (x.b).length ≤ maxLen
def goodFrame (x : Frame) : Prop := inK .i8 (x.prog) ∧ i64 (x.at') ∧ ((x.r).length = 96 ∧ ∀ y ∈ (x.r), i64 (y))
def goodTask (x : Task) : Prop := i64 (x.client) ∧ ((x.stack).length ≤ maxLen ∧ ∀ y ∈ (x.stack), goodFrame (y)) ∧ ((x.got).length ≤ maxLen ∧ ∀ y ∈ (x.got), i64 (y)) ∧ True
def rGood : (t : RTy) → RA t → Prop
  | .bool => fun (x : Bool) => True
  | .frame => fun (x : Frame) => goodFrame (x)
  | .int => fun (x : Int) => i64 (x)
  | .pick => fun (x : Pick) => goodPick (x)
  | .sector => fun (x : Sector) => goodSector (x)
  | .task => fun (x : Task) => goodTask (x)
theorem ty34 : s17.ty 34 = .struct false [3, 3] := by kernel_rfl
theorem ty3 : s17.ty 3 = .int .i64 := by kernel_rfl
theorem asPick {d : D RC} (hf : fit s17 d (.inl 34) = true) (hg : good rGood d) (hr : d.refs = []) : ∃ x : Pick, d = ePick x ∧ goodPick x := by
  obtain ⟨d0, r0, rfl, f0, hf⟩ := fit_st ty34 hf
  obtain ⟨d1, r1, rfl, f1, hf⟩ := fit_more hf
  obtain rfl := fit_end hf
  simp only [D.refs, List.append_eq_nil_iff] at hr
  obtain ⟨g0, g1, _⟩ := hg
  obtain ⟨q0, q1, _⟩ := hr
  obtain ⟨n0, rfl⟩ := fit_int ty3 f0
  obtain ⟨n1, rfl⟩ := fit_int ty3 f1
  exact ⟨⟨n0, n1⟩, rfl, i64_of g0, i64_of g1⟩
theorem dPick_e (x : Pick) (hx : goodPick x) : dPick (ePick x) = some x := by
  simp only [goodPick] at hx
  simp [dPick, ePick, D.asList, asArrN, hx]
theorem ty116 : s17.ty 116 = .struct false [3, 9] := by kernel_rfl
theorem ty9 : s17.ty 9 = .str := by kernel_rfl
theorem asSector {d : D RC} (hf : fit s17 d (.inl 116) = true) (hg : good rGood d) (hr : d.refs = []) : ∃ x : Sector, d = eSector x ∧ goodSector x := by
  obtain ⟨d0, r0, rfl, f0, hf⟩ := fit_st ty116 hf
  obtain ⟨d1, r1, rfl, f1, hf⟩ := fit_more hf
  obtain rfl := fit_end hf
  simp only [D.refs, List.append_eq_nil_iff] at hr
  obtain ⟨g0, g1, _⟩ := hg
  obtain ⟨q0, q1, _⟩ := hr
  obtain ⟨n0, rfl⟩ := fit_int ty3 f0
  obtain ⟨n1, rfl⟩ := fit_str ty9 f1
  exact ⟨⟨n0, n1⟩, rfl, i64_of g0, g1⟩
theorem dSector_e (x : Sector) (hx : goodSector x) : dSector (eSector x) = some x := by
  simp only [goodSector] at hx
  simp [dSector, eSector, D.asList, asArrN, hx]
theorem ty60 : s17.ty 60 = .struct false [52, 3, 58] := by kernel_rfl
theorem ty52 : s17.ty 52 = .int .i8 := by kernel_rfl
theorem ty58 : s17.ty 58 = .arr 96 3 .int := by kernel_rfl
theorem asFrame {d : D RC} (hf : fit s17 d (.inl 60) = true) (hg : good rGood d) (hr : d.refs = []) : ∃ x : Frame, d = eFrame x ∧ goodFrame x := by
  obtain ⟨d0, r0, rfl, f0, hf⟩ := fit_st ty60 hf
  obtain ⟨d1, r1, rfl, f1, hf⟩ := fit_more hf
  obtain ⟨d2, r2, rfl, f2, hf⟩ := fit_more hf
  obtain rfl := fit_end hf
  simp only [D.refs, List.append_eq_nil_iff] at hr
  obtain ⟨g0, g1, g2, _⟩ := hg
  obtain ⟨q0, q1, q2, _⟩ := hr
  obtain ⟨n0, rfl⟩ := fit_int ty52 f0
  obtain ⟨n1, rfl⟩ := fit_int ty3 f1
  obtain ⟨n2, rfl⟩ := fit_arr ty58 f2
  exact ⟨⟨n0, n1, n2⟩, rfl, g0, i64_of g1, g2⟩
theorem dFrame_e (x : Frame) (hx : goodFrame x) : dFrame (eFrame x) = some x := by
  simp only [goodFrame] at hx
  simp [dFrame, eFrame, D.asList, asArrN, hx]
theorem ty43 : s17.ty 43 = .struct false [3, 41, 29, 4] := by kernel_rfl
theorem ty41 : s17.ty 41 = .sl 60 .frame := by kernel_rfl
theorem ty29 : s17.ty 29 = .sl 3 .int := by kernel_rfl
theorem ty4 : s17.ty 4 = .bool := by kernel_rfl
theorem asTask {d : D RC} (hf : fit s17 d (.inl 43) = true) (hg : good rGood d) (hr : d.refs = []) : ∃ (x : Task) (c0 c1 : Bool), d = eTaskC x c0 c1 ∧ goodTask x := by
  obtain ⟨d0, r0, rfl, f0, hf⟩ := fit_st ty43 hf
  obtain ⟨d1, r1, rfl, f1, hf⟩ := fit_more hf
  obtain ⟨d2, r2, rfl, f2, hf⟩ := fit_more hf
  obtain ⟨d3, r3, rfl, f3, hf⟩ := fit_more hf
  obtain rfl := fit_end hf
  simp only [D.refs, List.append_eq_nil_iff] at hr
  obtain ⟨g0, g1, g2, g3, _⟩ := hg
  obtain ⟨q0, q1, q2, q3, _⟩ := hr
  obtain ⟨n0, rfl⟩ := fit_int ty3 f0
  obtain ⟨k1, n1, rfl⟩ := fit_sl ty41 f1 q1
  obtain ⟨k2, n2, rfl⟩ := fit_sl ty29 f2 q2
  obtain ⟨n3, rfl⟩ := fit_bool ty4 f3
  exact ⟨⟨n0, n1, n2, n3⟩, k1, k2, rfl, i64_of g0, g1, g2, trivial⟩
theorem dTask_e (x : Task) (c0 c1 : Bool) (hx : goodTask x) : dTask (eTaskC x c0 c1) = some x := by
  simp only [goodTask] at hx
  simp [dTask, eTaskC, D.asList, asArrN, hx]
theorem decs : Dec s17 rGood where
  dec t d hf hr hg _ := by
    cases t with
    | bool =>
      obtain ⟨n, rfl⟩ := fit_bool ty4 hf
      exact ⟨n, rfl, trivial⟩
    | frame =>
      obtain ⟨x, rfl, hx⟩ := asFrame hf hg hr
      exact ⟨x, dFrame_e x hx, hx⟩
    | int =>
      obtain ⟨n, rfl⟩ := fit_int ty3 hf
      exact ⟨n, by simp [s17, mkTab, rCod, rDec, dIntK], i64_of hg⟩
    | pick =>
      obtain ⟨x, rfl, hx⟩ := asPick hf hg hr
      exact ⟨x, dPick_e x hx, hx⟩
    | sector =>
      obtain ⟨x, rfl, hx⟩ := asSector hf hg hr
      exact ⟨x, dSector_e x hx, hx⟩
    | task =>
      obtain ⟨x, c0, c1, rfl, hx⟩ := asTask hf hg hr
      exact ⟨x, dTask_e x c0 c1 hx, hx⟩
theorem own : ownKnob Tryz.prog.godebug = none := by kernel_rfl
theorem laidOut : laidOutB Tryz.prog = true := by kernel_rfl
end Go.Ev

namespace Go.Proofs.YtnockfncodafeaaGreat
open Go.ChangeShapes Go.WideShapes Go.ChangeAt Go.RowKit Go.Ev
set_option linter.unusedVariables false
set_option maxRecDepth 100000
namespace ringSpace
theorem ev (ds : List (D RC)) (h : Fits s17 rGood Tryz.f5.params.toList ds) : ∃ n, evF s17 uh_3 n 5 ds = some (.bool true) := by
  rw [Tryz.params5] at h
  cases h with
  | cons hf0 hg0 hr0 h =>
  cases h with
  | cons hf1 hg1 hr1 h =>
  cases h with
  | nil =>
    obtain ⟨n, rfl⟩ := fit_int (show s17.ty 3 = .int .i64 by kernel_rfl) hf0
    obtain ⟨x, rfl⟩ := fit_int (show s17.ty 3 = .int .i64 by kernel_rfl) hf1
    have key := space17_ok n x rfl
    unfold space17_e at key
    exact ⟨1000, key⟩
theorem lifted (os : Os) (started : os.Started) (H : Type) (enc : TypeId × Value → H) :
    ReturnsInHanded {} Tryz.checked os 5 .any (Rows.ringSpaceSpec.pre6 enc Tryz.prog Tryz.f5 Rows.ringSpaceRow.domain false) (Rows.ringSpaceSpec.post enc Tryz.prog Tryz.f5 false true false false) := by
  refine returnsInHanded_of_change (C := Tryz.checked) own started (by kernel_rfl) Tryz.func5
    (ChangeSpec.witness6 (enc := enc) (C := Tryz.checked) false ⟨#[], #[.int .i64 0, .int .i64 0], []⟩ 8 (by kernel_rfl) (by kernel_rfl) (by kernel_rfl) (by kernel_rfl)) ?_
  intro W base args ds gs before hval hW _ _
  refine contract_of (gA := rGood) (m := 8) s17_laws uh_3_laws decs laidOut (tb := 4) (by kernel_rfl) Tryz.underlying4 rfl (by kernel_rfl) ?_ ev H enc W base args ds gs before hval hW
  intro H ds h
  rw [Tryz.params5] at h
  match ds, h with
  | [d0, d1], _ => rfl
theorem over : Rows.ringSpaceRow.holds Tryz.pinned (OpenSpec.ofChange Rows.ringSpaceSpec) :=
  OpenClaim.holds_of_wide 5 Tryz.f5 rfl rfl rfl rfl rfl rfl rfl ⟨rfl, rfl, rfl, rfl, rfl⟩ rfl rfl rfl rfl rfl (by kernel_rfl) Tryz.func5 (by kernel_rfl)
    (of_decide_eq_true (by kernel_rfl)) (by unfold Func.isWrapper; first | (rw [if_pos (by decide +kernel)]; kernel_rfl) | (rw [if_neg (by decide +kernel)]; exact ⟨rfl, rfl⟩))
    (fun os started H enc _ => lifted os started H enc)
theorem proved : Rows.RingSpaceSaid := over
end ringSpace
#print axioms ringSpace.proved
end Go.Proofs.YtnockfncodafeaaGreat
