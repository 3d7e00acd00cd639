/-
  A part of the proof of a statement of this seat: the model is run over values by content, proved sound; what the functions come to. No condition beyond the given statements. (text 4)
-/
import Derived.Test.YtnockfncodafeaaGreatP2
namespace Go.Ev
open Go.Proofs
set_option maxRecDepth 100000
set_option linter.unusedVariables false
set_option linter.unusedSimpArgs false
def goes_s (c : Int) (st : List Frame) (got : List Int) (over : Bool) (own : Bool) : Option (Bool × D RC) := some (okG c st got && !over, .tup (.acons (.acons (.int .i64 c) (.acons (.sl (C := RC) .frame false (goR st got).st) (.acons (.sl (C := RC) .int false (goR st got).got) (.acons (.bool (goR st got).over) .anil)))) (.acons (.acons (.int .i8 (goR st got).kind) (.acons (.int .i64 (goR st got).a) (.acons (.int .i64 (goR st got).b) (.acons (.int .i64 (goR st got).v) (.acons (.int .i64 0) (.acons (.str []) (.acons (.sl (C := RC) .int true []) .anil))))))) (.acons (.bool (goR st got).is) .anil))))
def goes_sp : List (D RC) → Option (Bool × D RC)
  | [.acons (.int .i64 c) (.acons (.sl .frame false st) (.acons (.sl .int false got) (.acons (.bool over) .anil))), .bool own] => goes_s c st got over own
  | _ => none
noncomputable def goes_e (c : Int) (st : List Frame) (got : List Int) (over : Bool) (own : Bool) := evF s17 ub_1 200 22 [.acons (.int .i64 c) (.acons (.sl (C := RC) .frame false st) (.acons (.sl (C := RC) .int false got) (.acons (.bool over) .anil))), .bool own]
theorem goesT0 (c : Int) (r : List Int) : goes_e c [⟨68, 0, r⟩] [] false true = (let Z0 : List Frame := [Frame.mk (68 : Int) (0 : Int) r]; let Z1 : D RC := D.acons (D.bool false) .anil; let Z2 : D RC := D.acons (D.sl RTy.int false []) Z1; let Z3 : D RC := D.int .i64 0; let Z4 : D RC := D.acons (D.int IntKind.i8 (0 : Int)) (.acons (D.int .i64 1) (.acons Z3 (D.acons Z3 (D.acons Z3 (D.acons (D.str []) (.acons (D.sl RTy.int true []) .anil)))))); let Z5 : DO_ := some (D.tup (D.acons (D.acons (D.int .i64 c) (.acons (D.sl RTy.frame false Z0) Z2)) (.acons Z4 Z1))); let Z6 : Nat := Int.toNat (IntKind.wrap .i64 ((↑Z0.length : Int) - (1 : Int))); let Z7 : Frame := List.getD Z0 Z6 (Frame.mk (0 : Int) (0 : Int) (List.replicate (96 : Nat) (0 : Int))); bif decide (c < (0 : Int)) then Z5 else bif decide ((4 : Int) ≤ c) then Z5 else some (D.tup (D.acons (D.acons (D.int .i64 c) (.acons (D.sl RTy.frame false ([] ++ List.drop (0 : Nat) (List.take Z6 Z0) ++ [Frame.mk (Frame.prog Z7) (1 : Int) (Frame.r Z7)])) Z2)) (.acons Z4 (D.acons (D.bool true) .anil))))) := by kernel_rfl
theorem goesF0 (c : Int) (r : List Int) : goes_e c [⟨68, 0, r⟩] [] false false = (let Z0 : List Frame := [Frame.mk (68 : Int) (0 : Int) r]; let Z1 : D RC := D.acons (D.bool false) .anil; let Z2 : D RC := D.acons (D.sl RTy.int false []) Z1; let Z3 : D RC := D.int .i64 0; let Z4 : D RC := D.acons (D.int IntKind.i8 (0 : Int)) (.acons (D.int .i64 1) (.acons Z3 (D.acons Z3 (D.acons Z3 (D.acons (D.str []) (.acons (D.sl RTy.int true []) .anil)))))); let Z5 : DO_ := some (D.tup (D.acons (D.acons (D.int .i64 c) (.acons (D.sl RTy.frame false Z0) Z2)) (.acons Z4 Z1))); let Z6 : Nat := Int.toNat (IntKind.wrap .i64 ((↑Z0.length : Int) - (1 : Int))); let Z7 : Frame := List.getD Z0 Z6 (Frame.mk (0 : Int) (0 : Int) (List.replicate (96 : Nat) (0 : Int))); bif decide (c < (0 : Int)) then Z5 else bif decide ((4 : Int) ≤ c) then Z5 else some (D.tup (D.acons (D.acons (D.int .i64 c) (.acons (D.sl RTy.frame false ([] ++ List.drop (0 : Nat) (List.take Z6 Z0) ++ [Frame.mk (Frame.prog Z7) (1 : Int) (Frame.r Z7)])) Z2)) (.acons Z4 (D.acons (D.bool true) .anil))))) := by kernel_rfl
theorem goesT1 (c x : Int) (r : List Int) : goes_e c [⟨68, 1, r⟩] [x] false true = (let Z0 : List Frame := [Frame.mk (68 : Int) (1 : Int) r]; let Z1 : D RC := D.acons (D.bool false) .anil; let Z2 : D RC := D.acons (D.sl RTy.int false [x]) Z1; let Z3 : D RC := D.int .i64 0; let Z4 : D RC := D.acons (D.int IntKind.i8 (0 : Int)) (.acons Z3 (D.acons Z3 (D.acons Z3 (D.acons Z3 (D.acons (D.str []) (.acons (D.sl RTy.int true []) .anil)))))); let Z5 : DO_ := some (D.tup (D.acons (D.acons (D.int .i64 c) (.acons (D.sl RTy.frame false Z0) Z2)) (.acons Z4 Z1))); let Z6 : Nat := Int.toNat (IntKind.wrap .i64 ((↑Z0.length : Int) - (1 : Int))); let Z7 : Frame := List.getD Z0 Z6 (Frame.mk (0 : Int) (0 : Int) (List.replicate (96 : Nat) (0 : Int))); bif decide (c < (0 : Int)) then Z5 else bif decide ((4 : Int) ≤ c) then Z5 else some (D.tup (D.acons (D.acons (D.int .i64 c) (.acons (D.sl RTy.frame false ([] ++ List.drop (0 : Nat) (List.take Z6 Z0) ++ [Frame.mk (Frame.prog Z7) (2 : Int) (List.set (Frame.r Z7) (2 : Nat) x)])) Z2)) (.acons Z4 (D.acons (D.bool true) .anil))))) := by kernel_rfl
theorem goesF1 (c x : Int) (r : List Int) : goes_e c [⟨68, 1, r⟩] [x] false false = (let Z0 : List Frame := [Frame.mk (68 : Int) (1 : Int) r]; let Z1 : D RC := D.acons (D.bool false) .anil; let Z2 : D RC := D.acons (D.sl RTy.int false [x]) Z1; let Z3 : D RC := D.int .i64 0; let Z4 : D RC := D.acons (D.int IntKind.i8 (0 : Int)) (.acons Z3 (D.acons Z3 (D.acons Z3 (D.acons Z3 (D.acons (D.str []) (.acons (D.sl RTy.int true []) .anil)))))); let Z5 : DO_ := some (D.tup (D.acons (D.acons (D.int .i64 c) (.acons (D.sl RTy.frame false Z0) Z2)) (.acons Z4 Z1))); let Z6 : Nat := Int.toNat (IntKind.wrap .i64 ((↑Z0.length : Int) - (1 : Int))); let Z7 : Frame := List.getD Z0 Z6 (Frame.mk (0 : Int) (0 : Int) (List.replicate (96 : Nat) (0 : Int))); bif decide (c < (0 : Int)) then Z5 else bif decide ((4 : Int) ≤ c) then Z5 else some (D.tup (D.acons (D.acons (D.int .i64 c) (.acons (D.sl RTy.frame false ([] ++ List.drop (0 : Nat) (List.take Z6 Z0) ++ [Frame.mk (Frame.prog Z7) (2 : Int) (List.set (Frame.r Z7) (2 : Nat) x)])) Z2)) (.acons Z4 (D.acons (D.bool true) .anil))))) := by kernel_rfl
theorem goesT2 (c x : Int) (r : List Int) : goes_e c [⟨68, 2, r⟩] [x] false true = (let Z0 : List Frame := [Frame.mk (68 : Int) (2 : Int) r]; let Z1 : Int := IntKind.wrap .i64 ((↑Z0.length : Int) - (1 : Int)); let Z2 : Nat := Int.toNat Z1; let Z3 : Frame := List.getD Z0 Z2 (Frame.mk (0 : Int) (0 : Int) (List.replicate (96 : Nat) (0 : Int))); let Z4 : List Int := Frame.r Z3; let Z5 : Int := List.getD Z4 (2 : Nat) (0 : Int); let Z6 : Bool := decide (c < (0 : Int)); let Z7 : D RC := D.int .i64 c; let Z8 : D RC := .anil; let Z9 : D RC := D.acons (D.bool false) Z8; let Z10 : D RC := D.acons (D.sl RTy.int false [x]) Z9; let Z11 : D RC := D.acons Z7 (D.acons (D.sl RTy.frame false Z0) Z10); let Z12 : D RC := D.int IntKind.i8 (7 : Int); let Z13 : D RC := D.int .i64 0; let Z14 : DO_ := some (D.tup (D.acons Z11 (D.acons (D.acons Z12 (D.acons Z13 (D.acons Z13 (D.acons Z13 (D.acons Z13 (D.acons (D.str []) (.acons (D.sl RTy.int true [(170 : Int)]) Z8))))))) Z9))); let Z15 : Bool := decide ((4 : Int) ≤ c); let Z16 : List Frame := [] ++ List.drop (0 : Nat) (List.take Z2 Z0); let Z17 : D RC := D.sl RTy.frame false (List.drop (0 : Nat) (List.take Z2 (Z16 ++ [Frame.mk (Frame.prog Z3) (Frame.at' Z3) Z4]))); let Z18 : D RC := D.acons (D.bool (Z1 == (0 : Int))) Z8; let Z19 : D RC := D.int IntKind.i8 (0 : Int); let Z20 : D RC := D.acons Z13 (D.acons Z13 (D.acons Z13 (D.acons (D.str []) (.acons (D.sl RTy.int true []) Z8)))); let Z21 : D RC := D.acons (D.acons Z19 (D.acons Z13 Z20)) Z9; let Z22 : DO_ := some (D.tup (D.acons Z11 (D.acons (D.acons Z12 (D.acons Z13 (D.acons Z13 (D.acons Z13 (D.acons Z13 (D.acons (D.str []) (.acons (D.sl RTy.int true [(172 : Int)]) Z8))))))) Z9))); let Z23 : D RC := D.acons Z19 (D.acons (D.int .i64 4) Z20); let Z24 : DO_ := some (D.tup (D.acons Z11 (D.acons Z23 Z9))); bif decide (IntKind.wrap .i64 (x + List.getD Z4 (0 : Nat) (0 : Int)) < Z5) then bif Z6 then Z14 else bif Z15 then Z14 else some (D.tup (D.acons (D.acons Z7 (D.acons Z17 (D.acons (D.sl RTy.int false ([] ++ [(170 : Int)])) Z18))) Z21)) else bif decide ((1048575 : Int) < Z5) then bif Z6 then Z22 else bif Z15 then Z22 else some (D.tup (D.acons (D.acons Z7 (D.acons Z17 (D.acons (D.sl RTy.int false ([] ++ [(172 : Int)])) Z18))) Z21)) else bif Z6 then Z24 else bif Z15 then Z24 else some (D.tup (D.acons (D.acons Z7 (D.acons (D.sl RTy.frame false (Z16 ++ [Frame.mk (Frame.prog Z3) (3 : Int) Z4])) Z10)) (.acons Z23 (D.acons (D.bool true) Z8))))) := by kernel_rfl
theorem goesF2 (c x : Int) (r : List Int) : goes_e c [⟨68, 2, r⟩] [x] false false = (let Z0 : List Frame := [Frame.mk (68 : Int) (2 : Int) r]; let Z1 : Int := IntKind.wrap .i64 ((↑Z0.length : Int) - (1 : Int)); let Z2 : Nat := Int.toNat Z1; let Z3 : Frame := List.getD Z0 Z2 (Frame.mk (0 : Int) (0 : Int) (List.replicate (96 : Nat) (0 : Int))); let Z4 : List Int := Frame.r Z3; let Z5 : Int := List.getD Z4 (2 : Nat) (0 : Int); let Z6 : Bool := decide (c < (0 : Int)); let Z7 : D RC := D.int .i64 c; let Z8 : D RC := .anil; let Z9 : D RC := D.acons (D.bool false) Z8; let Z10 : D RC := D.acons (D.sl RTy.int false [x]) Z9; let Z11 : D RC := D.acons Z7 (D.acons (D.sl RTy.frame false Z0) Z10); let Z12 : D RC := D.int IntKind.i8 (7 : Int); let Z13 : D RC := D.int .i64 0; let Z14 : DO_ := some (D.tup (D.acons Z11 (D.acons (D.acons Z12 (D.acons Z13 (D.acons Z13 (D.acons Z13 (D.acons Z13 (D.acons (D.str []) (.acons (D.sl RTy.int true [(170 : Int)]) Z8))))))) Z9))); let Z15 : Bool := decide ((4 : Int) ≤ c); let Z16 : List Frame := [] ++ List.drop (0 : Nat) (List.take Z2 Z0); let Z17 : D RC := D.sl RTy.frame false (List.drop (0 : Nat) (List.take Z2 (Z16 ++ [Frame.mk (Frame.prog Z3) (Frame.at' Z3) Z4]))); let Z18 : D RC := D.acons (D.bool (Z1 == (0 : Int))) Z8; let Z19 : D RC := D.int IntKind.i8 (0 : Int); let Z20 : D RC := D.acons Z13 (D.acons Z13 (D.acons Z13 (D.acons (D.str []) (.acons (D.sl RTy.int true []) Z8)))); let Z21 : D RC := D.acons (D.acons Z19 (D.acons Z13 Z20)) Z9; let Z22 : DO_ := some (D.tup (D.acons Z11 (D.acons (D.acons Z12 (D.acons Z13 (D.acons Z13 (D.acons Z13 (D.acons Z13 (D.acons (D.str []) (.acons (D.sl RTy.int true [(172 : Int)]) Z8))))))) Z9))); let Z23 : D RC := D.acons Z19 (D.acons (D.int .i64 4) Z20); let Z24 : DO_ := some (D.tup (D.acons Z11 (D.acons Z23 Z9))); bif decide (IntKind.wrap .i64 (x + List.getD Z4 (0 : Nat) (0 : Int)) < Z5) then bif Z6 then Z14 else bif Z15 then Z14 else some (D.tup (D.acons (D.acons Z7 (D.acons Z17 (D.acons (D.sl RTy.int false ([] ++ [(170 : Int)])) Z18))) Z21)) else bif decide ((1048575 : Int) < Z5) then bif Z6 then Z22 else bif Z15 then Z22 else some (D.tup (D.acons (D.acons Z7 (D.acons Z17 (D.acons (D.sl RTy.int false ([] ++ [(172 : Int)])) Z18))) Z21)) else bif Z6 then Z24 else bif Z15 then Z24 else some (D.tup (D.acons (D.acons Z7 (D.acons (D.sl RTy.frame false (Z16 ++ [Frame.mk (Frame.prog Z3) (3 : Int) Z4])) Z10)) (.acons Z23 (D.acons (D.bool true) Z8))))) := by kernel_rfl
theorem goesT3 (c x : Int) (r : List Int) : goes_e c [⟨68, 3, r⟩] [x] false true = (let Z0 : List Frame := [Frame.mk (68 : Int) (3 : Int) r]; let Z1 : Int := IntKind.wrap .i64 ((↑Z0.length : Int) - (1 : Int)); let Z2 : Nat := Int.toNat Z1; let Z3 : Frame := List.getD Z0 Z2 (Frame.mk (0 : Int) (0 : Int) (List.replicate (96 : Nat) (0 : Int))); let Z4 : List Int := Frame.r Z3; let Z5 : Int := List.getD Z4 (2 : Nat) (0 : Int); let Z6 : Bool := decide (c < (0 : Int)); let Z7 : D RC := D.int .i64 c; let Z8 : D RC := .anil; let Z9 : D RC := D.acons (D.bool false) Z8; let Z10 : D RC := D.acons (D.sl RTy.int false [x]) Z9; let Z11 : D RC := D.acons Z7 (D.acons (D.sl RTy.frame false Z0) Z10); let Z12 : D RC := D.int .i64 0; let Z13 : DO_ := some (D.tup (D.acons Z11 (D.acons (D.acons (D.int IntKind.i8 (7 : Int)) (.acons Z12 (D.acons Z12 (D.acons Z12 (D.acons Z12 (D.acons (D.str []) (.acons (D.sl RTy.int true [(171 : Int)]) Z8))))))) Z9))); let Z14 : List Frame := [] ++ List.drop (0 : Nat) (List.take Z2 Z0); let Z15 : D RC := D.acons (D.bool (Z1 == (0 : Int))) Z8; let Z16 : D RC := D.int IntKind.i8 (0 : Int); let Z17 : D RC := D.acons Z12 (D.acons Z12 (D.acons Z12 (D.acons (D.str []) (.acons (D.sl RTy.int true []) Z8)))); let Z18 : D RC := D.acons (D.acons Z16 (D.acons Z12 Z17)) Z9; let Z19 : Int := lRing Z5 (List.getD Z4 (0 : Nat) (0 : Int)); let Z20 : D RC := D.acons Z16 (D.acons (D.int .i64 Z19) Z17); let Z21 : DO_ := some (D.tup (D.acons Z11 (D.acons Z20 Z9))); let Z22 : Bool := mayAct (0 : Int) Z19 (0 : Int) (0 : Int) (0 : Int) [] []; let Z23 : List Frame := Z14 ++ [Frame.mk (Frame.prog Z3) (4 : Int) Z4]; bif decide (x < IntKind.wrap .i64 (Z5 - (32 : Int))) then bif Z6 then Z13 else bif decide ((4 : Int) ≤ c) then Z13 else some (D.tup (D.acons (D.acons Z7 (D.acons (D.sl RTy.frame false (List.drop (0 : Nat) (List.take Z2 (Z14 ++ [Frame.mk (Frame.prog Z3) (Frame.at' Z3) Z4])))) (.acons (D.sl RTy.int false ([] ++ [(171 : Int)])) Z15))) Z18)) else bif Z6 then Z21 else bif decide ((4 : Int) ≤ c) then Z21 else bif !Z22 then Z21 else bif Z22 then some (D.tup (D.acons (D.acons Z7 (D.acons (D.sl RTy.frame false Z23) Z10)) (.acons Z20 (D.acons (D.bool true) Z8)))) else some (D.tup (D.acons (D.acons Z7 (D.acons (D.sl RTy.frame false (List.drop (0 : Nat) (List.take Z2 Z23))) (.acons (D.sl RTy.int false ([] ++ [])) Z15))) Z18))) := by kernel_rfl
theorem goesF3 (c x : Int) (r : List Int) : goes_e c [⟨68, 3, r⟩] [x] false false = (let Z0 : List Frame := [Frame.mk (68 : Int) (3 : Int) r]; let Z1 : Int := IntKind.wrap .i64 ((↑Z0.length : Int) - (1 : Int)); let Z2 : Nat := Int.toNat Z1; let Z3 : Frame := List.getD Z0 Z2 (Frame.mk (0 : Int) (0 : Int) (List.replicate (96 : Nat) (0 : Int))); let Z4 : List Int := Frame.r Z3; let Z5 : Int := List.getD Z4 (2 : Nat) (0 : Int); let Z6 : Bool := decide (c < (0 : Int)); let Z7 : D RC := D.int .i64 c; let Z8 : D RC := .anil; let Z9 : D RC := D.acons (D.bool false) Z8; let Z10 : D RC := D.acons (D.sl RTy.int false [x]) Z9; let Z11 : D RC := D.acons Z7 (D.acons (D.sl RTy.frame false Z0) Z10); let Z12 : D RC := D.int .i64 0; let Z13 : DO_ := some (D.tup (D.acons Z11 (D.acons (D.acons (D.int IntKind.i8 (7 : Int)) (.acons Z12 (D.acons Z12 (D.acons Z12 (D.acons Z12 (D.acons (D.str []) (.acons (D.sl RTy.int true [(171 : Int)]) Z8))))))) Z9))); let Z14 : List Frame := [] ++ List.drop (0 : Nat) (List.take Z2 Z0); let Z15 : D RC := D.acons (D.bool (Z1 == (0 : Int))) Z8; let Z16 : D RC := D.int IntKind.i8 (0 : Int); let Z17 : D RC := D.acons Z12 (D.acons Z12 (D.acons Z12 (D.acons (D.str []) (.acons (D.sl RTy.int true []) Z8)))); let Z18 : D RC := D.acons (D.acons Z16 (D.acons Z12 Z17)) Z9; let Z19 : Int := lRing Z5 (List.getD Z4 (0 : Nat) (0 : Int)); let Z20 : D RC := D.acons Z16 (D.acons (D.int .i64 Z19) Z17); let Z21 : DO_ := some (D.tup (D.acons Z11 (D.acons Z20 Z9))); let Z22 : Bool := mayAct (0 : Int) Z19 (0 : Int) (0 : Int) (0 : Int) [] []; let Z23 : List Frame := Z14 ++ [Frame.mk (Frame.prog Z3) (4 : Int) Z4]; bif decide (x < IntKind.wrap .i64 (Z5 - (32 : Int))) then bif Z6 then Z13 else bif decide ((4 : Int) ≤ c) then Z13 else some (D.tup (D.acons (D.acons Z7 (D.acons (D.sl RTy.frame false (List.drop (0 : Nat) (List.take Z2 (Z14 ++ [Frame.mk (Frame.prog Z3) (Frame.at' Z3) Z4])))) (.acons (D.sl RTy.int false ([] ++ [(171 : Int)])) Z15))) Z18)) else bif Z6 then Z21 else bif decide ((4 : Int) ≤ c) then Z21 else bif !Z22 then Z21 else bif Z22 then some (D.tup (D.acons (D.acons Z7 (D.acons (D.sl RTy.frame false Z23) Z10)) (.acons Z20 (D.acons (D.bool true) Z8)))) else some (D.tup (D.acons (D.acons Z7 (D.acons (D.sl RTy.frame false (List.drop (0 : Nat) (List.take Z2 Z23))) (.acons (D.sl RTy.int false ([] ++ [])) Z15))) Z18))) := by kernel_rfl
theorem goesT4 (c x : Int) (r : List Int) : goes_e c [⟨68, 4, r⟩] [x] false true = (let Z0 : List Frame := [Frame.mk (68 : Int) (4 : Int) r]; let Z1 : Int := IntKind.wrap .i64 ((↑Z0.length : Int) - (1 : Int)); let Z2 : Nat := Int.toNat Z1; let Z3 : Frame := List.getD Z0 Z2 (Frame.mk (0 : Int) (0 : Int) (List.replicate (96 : Nat) (0 : Int))); let Z4 : List Int := Frame.r Z3; let Z5 : Int := List.getD Z4 (2 : Nat) (0 : Int); let Z6 : Bool := decide (c < (0 : Int)); let Z7 : D RC := D.int .i64 c; let Z8 : D RC := D.acons (D.bool false) .anil; let Z9 : D RC := D.acons (D.sl RTy.int false [x]) Z8; let Z10 : D RC := D.acons Z7 (D.acons (D.sl RTy.frame false Z0) Z9); let Z11 : D RC := D.int IntKind.i8 (2 : Int); let Z12 : D RC := D.int .i64 1; let Z13 : Int := IntKind.wrap .i64 (Z5 + (1 : Int)); let Z14 : D RC := D.int .i64 0; let Z15 : D RC := D.acons Z14 (D.acons (D.str []) (.acons (D.sl RTy.int true []) .anil)); let Z16 : D RC := D.acons Z11 (D.acons Z12 (D.acons (D.int .i64 Z5) (.acons (D.int .i64 Z13) Z15))); let Z17 : DO_ := some (D.tup (D.acons Z10 (D.acons Z16 Z8))); let Z18 : Bool := decide ((4 : Int) ≤ c); let Z19 : Bool := mayAct (2 : Int) (1 : Int) Z5 Z13 (0 : Int) [] []; let Z20 : List Frame := [] ++ List.drop (0 : Nat) (List.take Z2 Z0); let Z21 : Int := Frame.prog Z3; let Z22 : List Int := List.set Z4 (3 : Nat) x; let Z23 : List Frame := Z20 ++ [Frame.mk Z21 (5 : Int) Z22]; let Z24 : D RC := D.acons (D.bool true) .anil; let Z25 : D RC := D.acons (D.sl RTy.int false ([] ++ [])) (.acons (D.bool (Z1 == (0 : Int))) .anil); let Z26 : D RC := D.int IntKind.i8 (0 : Int); let Z27 : D RC := D.acons Z14 (D.acons Z14 Z15); let Z28 : D RC := D.acons (D.acons Z26 (D.acons Z14 Z27)) Z8; let Z29 : D RC := D.acons Z26 (D.acons Z12 Z27); let Z30 : DO_ := some (D.tup (D.acons Z10 (D.acons Z29 Z8))); let Z31 : Int := lRing Z5 (List.getD Z4 (0 : Nat) (0 : Int)); let Z32 : Int := wordN Z5 (List.getD Z4 (1 : Nat) (0 : Int)); let Z33 : D RC := D.acons Z11 (D.acons (D.int .i64 Z31) (.acons (D.int .i64 x) (.acons (D.int .i64 Z32) Z15))); let Z34 : DO_ := some (D.tup (D.acons Z10 (D.acons Z33 Z8))); let Z35 : Bool := mayAct (2 : Int) Z31 x Z32 (0 : Int) [] []; let Z36 : List Frame := Z20 ++ [Frame.mk Z21 (6 : Int) Z22]; bif plc x == Z5 then bif Z6 then Z17 else bif Z18 then Z17 else bif !Z19 then Z17 else bif Z19 then some (D.tup (D.acons (D.acons Z7 (D.acons (D.sl RTy.frame false Z23) Z9)) (.acons Z16 Z24))) else some (D.tup (D.acons (D.acons Z7 (D.acons (D.sl RTy.frame false (List.drop (0 : Nat) (List.take Z2 Z23))) Z25)) Z28)) else bif decide (Z5 < plc x) then bif Z6 then Z30 else bif Z18 then Z30 else some (D.tup (D.acons (D.acons Z7 (D.acons (D.sl RTy.frame false (Z20 ++ [Frame.mk Z21 (1 : Int) Z22])) Z9)) (.acons Z29 Z24))) else bif Z6 then Z34 else bif Z18 then Z34 else bif !Z35 then Z34 else bif Z35 then some (D.tup (D.acons (D.acons Z7 (D.acons (D.sl RTy.frame false Z36) Z9)) (.acons Z33 Z24))) else some (D.tup (D.acons (D.acons Z7 (D.acons (D.sl RTy.frame false (List.drop (0 : Nat) (List.take Z2 Z36))) Z25)) Z28))) := by kernel_rfl
theorem goesF4 (c x : Int) (r : List Int) : goes_e c [⟨68, 4, r⟩] [x] false false = (let Z0 : List Frame := [Frame.mk (68 : Int) (4 : Int) r]; let Z1 : Int := IntKind.wrap .i64 ((↑Z0.length : Int) - (1 : Int)); let Z2 : Nat := Int.toNat Z1; let Z3 : Frame := List.getD Z0 Z2 (Frame.mk (0 : Int) (0 : Int) (List.replicate (96 : Nat) (0 : Int))); let Z4 : List Int := List.set (Frame.r Z3) (3 : Nat) x; let Z5 : Int := List.getD Z4 (2 : Nat) (0 : Int); let Z6 : Bool := decide (c < (0 : Int)); let Z7 : D RC := D.int .i64 c; let Z8 : D RC := D.acons (D.bool false) .anil; let Z9 : D RC := D.acons (D.sl RTy.int false [x]) Z8; let Z10 : D RC := D.acons Z7 (D.acons (D.sl RTy.frame false Z0) Z9); let Z11 : D RC := D.int IntKind.i8 (2 : Int); let Z12 : D RC := D.int .i64 1; let Z13 : Int := IntKind.wrap .i64 (Z5 + (1 : Int)); let Z14 : D RC := D.int .i64 0; let Z15 : D RC := D.acons Z14 (D.acons (D.str []) (.acons (D.sl RTy.int true []) .anil)); let Z16 : D RC := D.acons Z11 (D.acons Z12 (D.acons (D.int .i64 Z5) (.acons (D.int .i64 Z13) Z15))); let Z17 : DO_ := some (D.tup (D.acons Z10 (D.acons Z16 Z8))); let Z18 : Bool := decide ((4 : Int) ≤ c); let Z19 : Bool := mayAct (2 : Int) (1 : Int) Z5 Z13 (0 : Int) [] []; let Z20 : List Frame := [] ++ List.drop (0 : Nat) (List.take Z2 Z0); let Z21 : Int := Frame.prog Z3; let Z22 : List Frame := Z20 ++ [Frame.mk Z21 (5 : Int) Z4]; let Z23 : D RC := D.acons (D.bool true) .anil; let Z24 : D RC := D.acons (D.sl RTy.int false ([] ++ [])) (.acons (D.bool (Z1 == (0 : Int))) .anil); let Z25 : D RC := D.int IntKind.i8 (0 : Int); let Z26 : D RC := D.acons Z14 (D.acons Z14 Z15); let Z27 : D RC := D.acons (D.acons Z25 (D.acons Z14 Z26)) Z8; let Z28 : D RC := D.acons Z25 (D.acons Z12 Z26); let Z29 : DO_ := some (D.tup (D.acons Z10 (D.acons Z28 Z8))); let Z30 : Int := lRing Z5 (List.getD Z4 (0 : Nat) (0 : Int)); let Z31 : Int := wordN Z5 (List.getD Z4 (1 : Nat) (0 : Int)); let Z32 : D RC := D.acons Z11 (D.acons (D.int .i64 Z30) (.acons (D.int .i64 x) (.acons (D.int .i64 Z31) Z15))); let Z33 : DO_ := some (D.tup (D.acons Z10 (D.acons Z32 Z8))); let Z34 : Bool := mayAct (2 : Int) Z30 x Z31 (0 : Int) [] []; let Z35 : List Frame := Z20 ++ [Frame.mk Z21 (6 : Int) Z4]; bif plc x == Z5 then bif Z6 then Z17 else bif Z18 then Z17 else bif !Z19 then Z17 else bif Z19 then some (D.tup (D.acons (D.acons Z7 (D.acons (D.sl RTy.frame false Z22) Z9)) (.acons Z16 Z23))) else some (D.tup (D.acons (D.acons Z7 (D.acons (D.sl RTy.frame false (List.drop (0 : Nat) (List.take Z2 Z22))) Z24)) Z27)) else bif decide (Z5 < plc x) then bif Z6 then Z29 else bif Z18 then Z29 else some (D.tup (D.acons (D.acons Z7 (D.acons (D.sl RTy.frame false (Z20 ++ [Frame.mk Z21 (1 : Int) Z4])) Z9)) (.acons Z28 Z23))) else bif Z6 then Z33 else bif Z18 then Z33 else bif !Z34 then Z33 else bif Z34 then some (D.tup (D.acons (D.acons Z7 (D.acons (D.sl RTy.frame false Z35) Z9)) (.acons Z32 Z23))) else some (D.tup (D.acons (D.acons Z7 (D.acons (D.sl RTy.frame false (List.drop (0 : Nat) (List.take Z2 Z35))) Z24)) Z27))) := by kernel_rfl
theorem goesT5 (c x : Int) (r : List Int) : goes_e c [⟨68, 5, r⟩] [x] false true = (let Z0 : List Frame := [Frame.mk (68 : Int) (5 : Int) r]; let Z1 : D RC := D.acons (D.bool false) .anil; let Z2 : D RC := D.acons (D.sl RTy.int false [x]) Z1; let Z3 : D RC := D.int .i64 0; let Z4 : D RC := D.acons (D.int IntKind.i8 (0 : Int)) (.acons (D.int .i64 1) (.acons Z3 (D.acons Z3 (D.acons Z3 (D.acons (D.str []) (.acons (D.sl RTy.int true []) .anil)))))); let Z5 : DO_ := some (D.tup (D.acons (D.acons (D.int .i64 c) (.acons (D.sl RTy.frame false Z0) Z2)) (.acons Z4 Z1))); let Z6 : Nat := Int.toNat (IntKind.wrap .i64 ((↑Z0.length : Int) - (1 : Int))); let Z7 : Frame := List.getD Z0 Z6 (Frame.mk (0 : Int) (0 : Int) (List.replicate (96 : Nat) (0 : Int))); bif decide (c < (0 : Int)) then Z5 else bif decide ((4 : Int) ≤ c) then Z5 else some (D.tup (D.acons (D.acons (D.int .i64 c) (.acons (D.sl RTy.frame false ([] ++ List.drop (0 : Nat) (List.take Z6 Z0) ++ [Frame.mk (Frame.prog Z7) (1 : Int) (Frame.r Z7)])) Z2)) (.acons Z4 (D.acons (D.bool true) .anil))))) := by kernel_rfl
theorem goesF5 (c x : Int) (r : List Int) : goes_e c [⟨68, 5, r⟩] [x] false false = (let Z0 : List Frame := [Frame.mk (68 : Int) (5 : Int) r]; let Z1 : D RC := D.acons (D.bool false) .anil; let Z2 : D RC := D.acons (D.sl RTy.int false [x]) Z1; let Z3 : D RC := D.int .i64 0; let Z4 : D RC := D.acons (D.int IntKind.i8 (0 : Int)) (.acons (D.int .i64 1) (.acons Z3 (D.acons Z3 (D.acons Z3 (D.acons (D.str []) (.acons (D.sl RTy.int true []) .anil)))))); let Z5 : DO_ := some (D.tup (D.acons (D.acons (D.int .i64 c) (.acons (D.sl RTy.frame false Z0) Z2)) (.acons Z4 Z1))); let Z6 : Nat := Int.toNat (IntKind.wrap .i64 ((↑Z0.length : Int) - (1 : Int))); let Z7 : Frame := List.getD Z0 Z6 (Frame.mk (0 : Int) (0 : Int) (List.replicate (96 : Nat) (0 : Int))); bif decide (c < (0 : Int)) then Z5 else bif decide ((4 : Int) ≤ c) then Z5 else some (D.tup (D.acons (D.acons (D.int .i64 c) (.acons (D.sl RTy.frame false ([] ++ List.drop (0 : Nat) (List.take Z6 Z0) ++ [Frame.mk (Frame.prog Z7) (1 : Int) (Frame.r Z7)])) Z2)) (.acons Z4 (D.acons (D.bool true) .anil))))) := by kernel_rfl
theorem goesT6 (c x : Int) (r : List Int) : goes_e c [⟨68, 6, r⟩] [x] false true = (let Z0 : Bool := decide (c < (0 : Int)); let Z1 : D RC := D.int .i64 c; let Z2 : List Frame := [Frame.mk (68 : Int) (6 : Int) r]; let Z3 : D RC := D.acons (D.bool false) .anil; let Z4 : D RC := D.acons (D.sl RTy.int false [x]) Z3; let Z5 : D RC := D.acons Z1 (D.acons (D.sl RTy.frame false Z2) Z4); let Z6 : D RC := D.int IntKind.i8 (0 : Int); let Z7 : D RC := D.int .i64 1; let Z8 : D RC := D.int .i64 0; let Z9 : D RC := D.acons Z8 (D.acons (D.str []) (.acons (D.sl RTy.int true []) .anil)); let Z10 : D RC := D.acons Z8 (D.acons Z8 Z9); let Z11 : D RC := D.acons Z6 (D.acons Z7 Z10); let Z12 : DO_ := some (D.tup (D.acons Z5 (D.acons Z11 Z3))); let Z13 : Int := IntKind.wrap .i64 ((↑Z2.length : Int) - (1 : Int)); let Z14 : Nat := Int.toNat Z13; let Z15 : List Frame := [] ++ List.drop (0 : Nat) (List.take Z14 Z2); let Z16 : Frame := List.getD Z2 Z14 (Frame.mk (0 : Int) (0 : Int) (List.replicate (96 : Nat) (0 : Int))); let Z17 : D RC := D.acons (D.bool true) .anil; let Z18 : Int := List.getD (Frame.r Z16) (2 : Nat) (0 : Int); let Z19 : Int := IntKind.wrap .i64 (Z18 + (1 : Int)); let Z20 : D RC := D.acons (D.int IntKind.i8 (2 : Int)) (.acons Z7 (D.acons (D.int .i64 Z18) (.acons (D.int .i64 Z19) Z9))); let Z21 : DO_ := some (D.tup (D.acons Z5 (D.acons Z20 Z3))); let Z22 : Bool := mayAct (2 : Int) (1 : Int) Z18 Z19 (0 : Int) [] []; let Z23 : List Frame := Z15 ++ [Frame.mk (Frame.prog Z16) (7 : Int) (Frame.r Z16)]; bif x == (0 : Int) then bif Z0 then Z12 else bif decide ((4 : Int) ≤ c) then Z12 else some (D.tup (D.acons (D.acons Z1 (D.acons (D.sl RTy.frame false (Z15 ++ [Frame.mk (Frame.prog Z16) (1 : Int) (Frame.r Z16)])) Z4)) (.acons Z11 Z17))) else bif Z0 then Z21 else bif decide ((4 : Int) ≤ c) then Z21 else bif !Z22 then Z21 else bif Z22 then some (D.tup (D.acons (D.acons Z1 (D.acons (D.sl RTy.frame false Z23) Z4)) (.acons Z20 Z17))) else some (D.tup (D.acons (D.acons Z1 (D.acons (D.sl RTy.frame false (List.drop (0 : Nat) (List.take Z14 Z23))) (.acons (D.sl RTy.int false ([] ++ [])) (.acons (D.bool (Z13 == (0 : Int))) .anil)))) (.acons (D.acons Z6 (D.acons Z8 Z10)) Z3)))) := by kernel_rfl
theorem goesF6 (c x : Int) (r : List Int) : goes_e c [⟨68, 6, r⟩] [x] false false = (let Z0 : Bool := decide (c < (0 : Int)); let Z1 : D RC := D.int .i64 c; let Z2 : List Frame := [Frame.mk (68 : Int) (6 : Int) r]; let Z3 : D RC := D.acons (D.bool false) .anil; let Z4 : D RC := D.acons (D.sl RTy.int false [x]) Z3; let Z5 : D RC := D.acons Z1 (D.acons (D.sl RTy.frame false Z2) Z4); let Z6 : D RC := D.int IntKind.i8 (0 : Int); let Z7 : D RC := D.int .i64 1; let Z8 : D RC := D.int .i64 0; let Z9 : D RC := D.acons Z8 (D.acons (D.str []) (.acons (D.sl RTy.int true []) .anil)); let Z10 : D RC := D.acons Z8 (D.acons Z8 Z9); let Z11 : D RC := D.acons Z6 (D.acons Z7 Z10); let Z12 : DO_ := some (D.tup (D.acons Z5 (D.acons Z11 Z3))); let Z13 : Int := IntKind.wrap .i64 ((↑Z2.length : Int) - (1 : Int)); let Z14 : Nat := Int.toNat Z13; let Z15 : List Frame := [] ++ List.drop (0 : Nat) (List.take Z14 Z2); let Z16 : Frame := List.getD Z2 Z14 (Frame.mk (0 : Int) (0 : Int) (List.replicate (96 : Nat) (0 : Int))); let Z17 : D RC := D.acons (D.bool true) .anil; let Z18 : Int := List.getD (Frame.r Z16) (2 : Nat) (0 : Int); let Z19 : Int := IntKind.wrap .i64 (Z18 + (1 : Int)); let Z20 : D RC := D.acons (D.int IntKind.i8 (2 : Int)) (.acons Z7 (D.acons (D.int .i64 Z18) (.acons (D.int .i64 Z19) Z9))); let Z21 : DO_ := some (D.tup (D.acons Z5 (D.acons Z20 Z3))); let Z22 : Bool := mayAct (2 : Int) (1 : Int) Z18 Z19 (0 : Int) [] []; let Z23 : List Frame := Z15 ++ [Frame.mk (Frame.prog Z16) (7 : Int) (Frame.r Z16)]; bif x == (0 : Int) then bif Z0 then Z12 else bif decide ((4 : Int) ≤ c) then Z12 else some (D.tup (D.acons (D.acons Z1 (D.acons (D.sl RTy.frame false (Z15 ++ [Frame.mk (Frame.prog Z16) (1 : Int) (Frame.r Z16)])) Z4)) (.acons Z11 Z17))) else bif Z0 then Z21 else bif decide ((4 : Int) ≤ c) then Z21 else bif !Z22 then Z21 else bif Z22 then some (D.tup (D.acons (D.acons Z1 (D.acons (D.sl RTy.frame false Z23) Z4)) (.acons Z20 Z17))) else some (D.tup (D.acons (D.acons Z1 (D.acons (D.sl RTy.frame false (List.drop (0 : Nat) (List.take Z14 Z23))) (.acons (D.sl RTy.int false ([] ++ [])) (.acons (D.bool (Z13 == (0 : Int))) .anil)))) (.acons (D.acons Z6 (D.acons Z8 Z10)) Z3)))) := by kernel_rfl
theorem goesT7 (c x : Int) (r : List Int) : goes_e c [⟨68, 7, r⟩] [x] false true = (let Z0 : List Frame := [Frame.mk (68 : Int) (7 : Int) r]; let Z1 : D RC := D.acons (D.bool false) .anil; let Z2 : D RC := D.int .i64 0; let Z3 : Int := IntKind.wrap .i64 ((↑Z0.length : Int) - (1 : Int)); let Z4 : Nat := Int.toNat Z3; let Z5 : Frame := List.getD Z0 Z4 (Frame.mk (0 : Int) (0 : Int) (List.replicate (96 : Nat) (0 : Int))); let Z6 : List Int := [(0 : Int), List.getD (Frame.r Z5) (2 : Nat) (0 : Int)]; let Z7 : DO_ := some (D.tup (D.acons (D.acons (D.int .i64 c) (.acons (D.sl RTy.frame false Z0) (.acons (D.sl RTy.int false [x]) Z1))) (.acons (D.acons (D.int IntKind.i8 (7 : Int)) (.acons Z2 (D.acons Z2 (D.acons Z2 (D.acons Z2 (D.acons (D.str []) (.acons (D.sl RTy.int true Z6) .anil))))))) Z1))); bif decide (c < (0 : Int)) then Z7 else bif decide ((4 : Int) ≤ c) then Z7 else some (D.tup (D.acons (D.acons (D.int .i64 c) (.acons (D.sl RTy.frame false (List.drop (0 : Nat) (List.take Z4 ([] ++ List.drop (0 : Nat) (List.take Z4 Z0) ++ [Frame.mk (Frame.prog Z5) (Frame.at' Z5) (Frame.r Z5)])))) (.acons (D.sl RTy.int false ([] ++ Z6)) (.acons (D.bool (Z3 == (0 : Int))) .anil)))) (.acons (D.acons (D.int IntKind.i8 (0 : Int)) (.acons Z2 (D.acons Z2 (D.acons Z2 (D.acons Z2 (D.acons (D.str []) (.acons (D.sl RTy.int true []) .anil))))))) Z1)))) := by kernel_rfl
theorem goesF7 (c x : Int) (r : List Int) : goes_e c [⟨68, 7, r⟩] [x] false false = (let Z0 : List Frame := [Frame.mk (68 : Int) (7 : Int) r]; let Z1 : D RC := D.acons (D.bool false) .anil; let Z2 : D RC := D.int .i64 0; let Z3 : Int := IntKind.wrap .i64 ((↑Z0.length : Int) - (1 : Int)); let Z4 : Nat := Int.toNat Z3; let Z5 : Frame := List.getD Z0 Z4 (Frame.mk (0 : Int) (0 : Int) (List.replicate (96 : Nat) (0 : Int))); let Z6 : List Int := [(0 : Int), List.getD (Frame.r Z5) (2 : Nat) (0 : Int)]; let Z7 : DO_ := some (D.tup (D.acons (D.acons (D.int .i64 c) (.acons (D.sl RTy.frame false Z0) (.acons (D.sl RTy.int false [x]) Z1))) (.acons (D.acons (D.int IntKind.i8 (7 : Int)) (.acons Z2 (D.acons Z2 (D.acons Z2 (D.acons Z2 (D.acons (D.str []) (.acons (D.sl RTy.int true Z6) .anil))))))) Z1))); bif decide (c < (0 : Int)) then Z7 else bif decide ((4 : Int) ≤ c) then Z7 else some (D.tup (D.acons (D.acons (D.int .i64 c) (.acons (D.sl RTy.frame false (List.drop (0 : Nat) (List.take Z4 ([] ++ List.drop (0 : Nat) (List.take Z4 Z0) ++ [Frame.mk (Frame.prog Z5) (Frame.at' Z5) (Frame.r Z5)])))) (.acons (D.sl RTy.int false ([] ++ Z6)) (.acons (D.bool (Z3 == (0 : Int))) .anil)))) (.acons (D.acons (D.int IntKind.i8 (0 : Int)) (.acons Z2 (D.acons Z2 (D.acons Z2 (D.acons Z2 (D.acons (D.str []) (.acons (D.sl RTy.int true []) .anil))))))) Z1)))) := by kernel_rfl
theorem goes_ok (c : Int) (st : List Frame) (got : List Int) (over : Bool) (own : Bool) (h : (okG c st got && !over) = true) : goes_e c st got over own = some (.tup (.acons (.acons (.int .i64 c) (.acons (.sl (C := RC) .frame false (goR st got).st) (.acons (.sl (C := RC) .int false (goR st got).got) (.acons (.bool (goR st got).over) .anil)))) (.acons (.acons (.int .i8 (goR st got).kind) (.acons (.int .i64 (goR st got).a) (.acons (.int .i64 (goR st got).b) (.acons (.int .i64 (goR st got).v) (.acons (.int .i64 0) (.acons (.str []) (.acons (.sl (C := RC) .int true []) .anil))))))) (.acons (.bool (goR st got).is) .anil)))) := by
  simp only [Bool.and_eq_true, Bool.not_eq_true'] at h
  obtain ⟨h, rfl⟩ := h
  obtain ⟨k, r, rfl, hc1, hc2, hr, hk⟩ := okG_inv h
  have c1 : decide (c < 0) = false := by simp; omega
  have c2 : decide (4 ≤ c) = false := by simp; omega
  have n0 : (3 : Nat) ≠ 0 := by decide
  have n1 : (3 : Nat) ≠ 1 := by decide
  have n2 : (3 : Nat) ≠ 2 := by decide
  rcases hk with ⟨rfl, rfl⟩ | ⟨x, rfl, hk⟩
  · cases own
    · (rw [goesF0]; conv => zeta)
      simp only [c1, c2, cond_false, st1, st2, st3, List.drop_zero, List.nil_append]
      rfl
    · (rw [goesT0]; conv => zeta)
      simp only [c1, c2, cond_false, st1, st2, st3, List.drop_zero, List.nil_append]
      rfl
  show goes_e c [⟨68, k, r⟩] [x] false own = some (.tup (.acons (.acons (.int .i64 c) (.acons (.sl (C := RC) .frame false (goF k r [x] x).st) (.acons (.sl (C := RC) .int false (goF k r [x] x).got) (.acons (.bool (goF k r [x] x).over) .anil)))) (.acons (.acons (.int .i8 (goF k r [x] x).kind) (.acons (.int .i64 (goF k r [x] x).a) (.acons (.int .i64 (goF k r [x] x).b) (.acons (.int .i64 (goF k r [x] x).v) (.acons (.int .i64 0) (.acons (.str []) (.acons (.sl (C := RC) .int true []) .anil))))))) (.acons (.bool (goF k r [x] x).is) .anil))))
  obtain ⟨k1, k7, x0, x1, w0, w1, t0, t1⟩ := hk
  have hrg := lRing_in t0 ⟨w0, w1⟩
  have hwd := wordN_in (r.getD 2 0) (r.getD 1 0)
  have v1 : IntKind.i64.wrap (x + r.getD 0 0) = x + r.getD 0 0 := wrap_id (by omega) (by omega)
  have v2 : IntKind.i64.wrap (r.getD 2 0 - 32) = r.getD 2 0 - 32 := wrap_id (by omega) (by omega)
  have v3 : IntKind.i64.wrap (r.getD 2 0 + 1) = r.getD 2 0 + 1 := wrap_id (by omega) (by omega)
  have m0 : mayAct 0 (lRing (r.getD 2 0) (r.getD 0 0)) 0 0 0 [] [] = true := decide_eq_true (by unfold MayAct; simp only [List.length_nil, true_and, and_true, true_or, or_true]; omega)
  have m1 : mayAct 2 1 (r.getD 2 0) (r.getD 2 0 + 1) 0 [] [] = true := decide_eq_true (by unfold MayAct; simp only [List.length_nil, true_and, and_true, true_or, or_true]; omega)
  have m2 : mayAct 2 (lRing (r.getD 2 0) (r.getD 0 0)) x (wordN (r.getD 2 0) (r.getD 1 0)) 0 [] [] = true := decide_eq_true (by unfold MayAct; simp only [List.length_nil, true_and, and_true, true_or, or_true]; omega)
  have hks : k = 1 ∨ k = 2 ∨ k = 3 ∨ k = 4 ∨ k = 5 ∨ k = 6 ∨ k = 7 := by omega
  rcases hks with rfl | rfl | rfl | rfl | rfl | rfl | rfl
  · cases own
    · (rw [goesF1]; conv => zeta)
      simp only [c1, c2, cond_false, cond_true, st1, st2, st3, List.drop_zero, List.nil_append, getD_set_ne' n0, getD_set_ne' n1, getD_set_ne' n2, v1, v2, v3, m0, m1, m2, Bool.not_true]
      rfl
    · (rw [goesT1]; conv => zeta)
      simp only [c1, c2, cond_false, cond_true, st1, st2, st3, List.drop_zero, List.nil_append, getD_set_ne' n0, getD_set_ne' n1, getD_set_ne' n2, v1, v2, v3, m0, m1, m2, Bool.not_true]
      rfl
  · cases own
    · (rw [goesF2]; conv => zeta)
      simp only [c1, c2, cond_false, cond_true, st1, st2, st3, List.drop_zero, List.nil_append, getD_set_ne' n0, getD_set_ne' n1, getD_set_ne' n2, v1, v2, v3, m0, m1, m2, Bool.not_true]
      rw [goF2]
      refine cond2 (fun h0 => ?_) fun h0 => ?_
      · have h0 := of_decide_eq_true h0
        rw [if_pos (show x + r.getD 0 0 < r.getD 2 0 from h0)]; rfl
      have h0 := of_decide_eq_false h0
      rw [if_neg (show ¬ (x + r.getD 0 0 < r.getD 2 0) from h0)]
      refine cond2 (fun h1 => ?_) fun h1 => ?_
      · have h1 := of_decide_eq_true h1
        rw [if_pos (show 1048575 < r.getD 2 0 from h1)]; rfl
      have h1 := of_decide_eq_false h1
      rw [if_neg (show ¬ (1048575 < r.getD 2 0) from h1)]
      rfl
    · (rw [goesT2]; conv => zeta)
      simp only [c1, c2, cond_false, cond_true, st1, st2, st3, List.drop_zero, List.nil_append, getD_set_ne' n0, getD_set_ne' n1, getD_set_ne' n2, v1, v2, v3, m0, m1, m2, Bool.not_true]
      rw [goF2]
      refine cond2 (fun h0 => ?_) fun h0 => ?_
      · have h0 := of_decide_eq_true h0
        rw [if_pos (show x + r.getD 0 0 < r.getD 2 0 from h0)]; rfl
      have h0 := of_decide_eq_false h0
      rw [if_neg (show ¬ (x + r.getD 0 0 < r.getD 2 0) from h0)]
      refine cond2 (fun h1 => ?_) fun h1 => ?_
      · have h1 := of_decide_eq_true h1
        rw [if_pos (show 1048575 < r.getD 2 0 from h1)]; rfl
      have h1 := of_decide_eq_false h1
      rw [if_neg (show ¬ (1048575 < r.getD 2 0) from h1)]
      rfl
  · cases own
    · (rw [goesF3]; conv => zeta)
      simp only [c1, c2, cond_false, cond_true, st1, st2, st3, List.drop_zero, List.nil_append, getD_set_ne' n0, getD_set_ne' n1, getD_set_ne' n2, v1, v2, v3, m0, m1, m2, Bool.not_true]
      rw [goF3]
      refine cond2 (fun h0 => ?_) fun h0 => ?_
      · have h0 := of_decide_eq_true h0
        rw [if_pos (show x < r.getD 2 0 - 32 from h0)]; rfl
      have h0 := of_decide_eq_false h0
      rw [if_neg (show ¬ (x < r.getD 2 0 - 32) from h0)]
      rfl
    · (rw [goesT3]; conv => zeta)
      simp only [c1, c2, cond_false, cond_true, st1, st2, st3, List.drop_zero, List.nil_append, getD_set_ne' n0, getD_set_ne' n1, getD_set_ne' n2, v1, v2, v3, m0, m1, m2, Bool.not_true]
      rw [goF3]
      refine cond2 (fun h0 => ?_) fun h0 => ?_
      · have h0 := of_decide_eq_true h0
        rw [if_pos (show x < r.getD 2 0 - 32 from h0)]; rfl
      have h0 := of_decide_eq_false h0
      rw [if_neg (show ¬ (x < r.getD 2 0 - 32) from h0)]
      rfl
  · cases own
    · (rw [goesF4]; conv => zeta)
      simp only [c1, c2, cond_false, cond_true, st1, st2, st3, List.drop_zero, List.nil_append, getD_set_ne' n0, getD_set_ne' n1, getD_set_ne' n2, v1, v2, v3, m0, m1, m2, Bool.not_true]
      rw [goF4]
      refine cond2 (fun h0 => ?_) fun h0 => ?_
      · have h0 := eq_of_beq h0
        rw [if_pos (show plc x = r.getD 2 0 from h0)]; rfl
      have h0 := ne_of_beq_false h0
      rw [if_neg (show ¬ (plc x = r.getD 2 0) from h0)]
      refine cond2 (fun h1 => ?_) fun h1 => ?_
      · have h1 := of_decide_eq_true h1
        rw [if_pos (show r.getD 2 0 < plc x from h1)]; rfl
      have h1 := of_decide_eq_false h1
      rw [if_neg (show ¬ (r.getD 2 0 < plc x) from h1)]
      rfl
    · (rw [goesT4]; conv => zeta)
      simp only [c1, c2, cond_false, cond_true, st1, st2, st3, List.drop_zero, List.nil_append, getD_set_ne' n0, getD_set_ne' n1, getD_set_ne' n2, v1, v2, v3, m0, m1, m2, Bool.not_true]
      rw [goF4]
      refine cond2 (fun h0 => ?_) fun h0 => ?_
      · have h0 := eq_of_beq h0
        rw [if_pos (show plc x = r.getD 2 0 from h0)]; rfl
      have h0 := ne_of_beq_false h0
      rw [if_neg (show ¬ (plc x = r.getD 2 0) from h0)]
      refine cond2 (fun h1 => ?_) fun h1 => ?_
      · have h1 := of_decide_eq_true h1
        rw [if_pos (show r.getD 2 0 < plc x from h1)]; rfl
      have h1 := of_decide_eq_false h1
      rw [if_neg (show ¬ (r.getD 2 0 < plc x) from h1)]
      rfl
  · cases own
    · (rw [goesF5]; conv => zeta)
      simp only [c1, c2, cond_false, cond_true, st1, st2, st3, List.drop_zero, List.nil_append, getD_set_ne' n0, getD_set_ne' n1, getD_set_ne' n2, v1, v2, v3, m0, m1, m2, Bool.not_true]
      rfl
    · (rw [goesT5]; conv => zeta)
      simp only [c1, c2, cond_false, cond_true, st1, st2, st3, List.drop_zero, List.nil_append, getD_set_ne' n0, getD_set_ne' n1, getD_set_ne' n2, v1, v2, v3, m0, m1, m2, Bool.not_true]
      rfl
  · cases own
    · (rw [goesF6]; conv => zeta)
      simp only [c1, c2, cond_false, cond_true, st1, st2, st3, List.drop_zero, List.nil_append, getD_set_ne' n0, getD_set_ne' n1, getD_set_ne' n2, v1, v2, v3, m0, m1, m2, Bool.not_true]
      rw [goF6]
      refine cond2 (fun h0 => ?_) fun h0 => ?_
      · have h0 := eq_of_beq h0
        rw [if_pos (show x = 0 from h0)]; rfl
      have h0 := ne_of_beq_false h0
      rw [if_neg (show ¬ (x = 0) from h0)]
      rfl
    · (rw [goesT6]; conv => zeta)
      simp only [c1, c2, cond_false, cond_true, st1, st2, st3, List.drop_zero, List.nil_append, getD_set_ne' n0, getD_set_ne' n1, getD_set_ne' n2, v1, v2, v3, m0, m1, m2, Bool.not_true]
      rw [goF6]
      refine cond2 (fun h0 => ?_) fun h0 => ?_
      · have h0 := eq_of_beq h0
        rw [if_pos (show x = 0 from h0)]; rfl
      have h0 := ne_of_beq_false h0
      rw [if_neg (show ¬ (x = 0) from h0)]
      rfl
  · cases own
    · (rw [goesF7]; conv => zeta)
      simp only [c1, c2, cond_false, cond_true, st1, st2, st3, List.drop_zero, List.nil_append, getD_set_ne' n0, getD_set_ne' n1, getD_set_ne' n2, v1, v2, v3, m0, m1, m2, Bool.not_true]
      rfl
    · (rw [goesT7]; conv => zeta)
      simp only [c1, c2, cond_false, cond_true, st1, st2, st3, List.drop_zero, List.nil_append, getD_set_ne' n0, getD_set_ne' n1, getD_set_ne' n2, v1, v2, v3, m0, m1, m2, Bool.not_true]
      rfl
noncomputable def uc_1 := ub_1.addSpec 22 goes_sp
theorem uc_1_laws : FLaws Tryz.prog s17 uc_1 := ub_1_laws.addEv s17_laws fun args d h => by
  unfold goes_sp at h
  split at h
  · unfold goes_s at h
    have h1 := congrArg Prod.fst (Option.some.inj h)
    obtain rfl : _ = d := congrArg Prod.snd (Option.some.inj h)
    exact ⟨by simp [D.refs], 200, goes_ok _ _ _ _ _ h1⟩
  · cases h
open Go.Proofs
structure rowRl_St where
  c : Bool
  l : List Sector
  i : Nat
def rowRl_c (c : Bool) (l : List Sector) (i : Nat) : Env RC := [(0, .sl (C := RC) .sector c l), (2, .bool false), (3, .int .i64 (i : Int))]
def rowRl_o (c : Bool) (l : List Sector) (i : Nat) : List (Obj RC) := []
noncomputable def rowRl_r (c : Bool) (l : List Sector) (i : Nat) := rndO s17 uc_1 99 4 40 0 [0, 2, 3] [2] [] (rowRl_c c l i) (rowRl_o c l i)
theorem rowRl_eq (c : Bool) (l : List Sector) (i : Nat) : rowRl_r c l i = (let Z0 : Int := (↑i : Int); let Z1 : Bool := decide ((0 : Int) ≤ Z0 ∧ Z0 < (↑l.length : Int)); let Z2 : Sector := List.getD l Z0.toNat (Sector.mk (0 : Int) []); let Z3 : Int := Sector.n Z2; let Z4 : RO_ := some ((X.ret, [(2, D.bool false)]), []); let Z5 : Nat := List.length (Sector.b Z2); let Z6 : RO_ := some ((X.normal, [(0, D.sl RTy.sector c l), (2, D.bool false), (3, D.int .i64 (IntKind.wrap .i64 (Z0 + (1 : Int))))]), []); bif lenOK l.length then bif decide (Z0 < (↑l.length : Int)) then bif Z1 then bif decide (Z3 < (0 : Int)) then Z4 else bif Z1 then bif decide ((1048575 : Int) < Z3) then Z4 else bif Z1 then bif lenOK Z5 then bif decide ((640 : Int) < (↑Z5 : Int)) then Z4 else bif Z1 then bif Z3 == (0 : Int) then bif Z1 then bif !Sector.b Z2 == Array.toList #[] then Z4 else Z6 else none else Z6 else none else none else none else none else none else some ((X.exit (0 : Nat), [(2, D.bool false)]), []) else none) := by kernel_rfl
def rowRl_fin (c : Bool) (l : List Sector) (i : Nat) : RT RC := .br (l.drop i |>.all maySec) (.leaf (.exit 0) [(2, .bool false)] []) (.leaf .ret [(2, .bool false)] [])
def rowRl_Inv (c : Bool) (l : List Sector) (i : Nat) : Prop := i ≤ l.length ∧ goodL l = true
def rowRl_S : LoopR RC rowRl_St where
  k := 0
  canon q := rowRl_c q.c q.l q.i
  objs q := rowRl_o q.c q.l q.i
  fin q := rowRl_fin q.c q.l q.i
  Inv q := rowRl_Inv q.c q.l q.i
  μ q := q.l.length - q.i
theorem rowRl_round (c : Bool) (l : List Sector) (i : Nat) (hI : rowRl_Inv c l i) : Leaf (rowRl_r c l i) (LedR rowRl_S ⟨c, l, i⟩) := by
  (rw [rowRl_eq]; conv => zeta)
  unfold rowRl_Inv at hI
  obtain ⟨h1, hg⟩ := hI
  have h2 := (goodL_iff.1 hg).1
  have hlk0 : lenOK l.length = true := lenOK_of h2
  by_cases hlt : i < l.length
  · have w_succ : IntKind.i64.wrap ((i : Int) + 1) = ((i + 1 : Nat) : Int) := by rw [wrap_id (by omega) (by omega)]; simp
    have d_lt : decide ((i : Int) < l.length) = true := by simp; omega
    have d_in : decide (0 ≤ (i : Int) ∧ (i : Int) < l.length) = true := by simp; omega
    have t_nat : ((i : Int)).toNat = i := by simp
    simp only [w_succ, d_lt, d_in, t_nat, cond_true]
    have hlk := goodL_at hg i hlt (⟨0, []⟩ : Sector)
    have hst := all_drop_step l maySec i hlt (⟨0, []⟩ : Sector)
    generalize l.getD i (⟨0, []⟩ : Sector) = x at hst hlk ⊢
    simp only [hlk0, hlk, cond_true]
    have hgo : maySec x = true → Leaf (some ((X.normal, rowRl_c c l (i + 1)), [])) (LedR rowRl_S ⟨c, l, i⟩) := fun e =>
      leafR_go ⟨c, l, i + 1⟩ ⟨hlt, hg⟩ (by simp only [rowRl_S]; omega) (by simp [rowRl_S, rowRl_fin, hst, e]) rfl rfl
    have hno : maySec x = false → Leaf (some ((X.ret, [(2, D.bool false)]), [])) (LedR rowRl_S ⟨c, l, i⟩) := fun e => leafR_ret [] (by simp [rowRl_S, rowRl_fin, hst, e, RT.val]) rfl
    have hm : maySec x = (decide (0 ≤ x.n) && decide (x.n ≤ 1048575) && decide (x.b.length ≤ 640) && (decide (0 < x.n) || x.b == [])) := rfl
    rw [hm] at hgo hno
    repeat' (refine leaf_cond.2 ⟨fun hc_ => ?_, fun hc_ => ?_⟩)
    all_goals first | exact hno (by clear hgo hno hst hm; simp_all <;> omega) | exact hgo (by clear hgo hno hst hm; simp_all <;> omega)
  · have hi : i = l.length := by omega
    have c1 : decide ((i : Int) < l.length) = false := by simp; omega
    rw [hlk0, c1]
    exact leafR_exit [] (by simp [rowRl_S, rowRl_fin, hi, RT.val]) rfl
def rowRl_d (env : Env RC) (os : List (Obj RC)) : Option (Bool × rowRl_St) := match env, os with
  | [(0, .sl .sector c l), (2, .bool false), (3, .int .i64 x0)], [] => staticD (true) (decide (x0 = 0) && goodL l, ⟨c, l, 0⟩)
  | _, _ => none
noncomputable def ud_1 := uc_1.addLoop 99 4 (sumR s17 [] [0, 2, 3] rowRl_S rowRl_d)
theorem ud_1_laws : FLaws Tryz.prog s17 ud_1 := by
  refine uc_1_laws.addRoundsR s17_laws (by kernel_rfl) rowRl_S 40 [0, 2, 3] [2] [] [0, 2, 3] rowRl_d (fun q hI => ?_) ?_
  · obtain ⟨c, l, i⟩ := q
    refine ⟨?_, ?_, rowRl_round c l i hI⟩
    · simp_all [RefsOK, rowRl_S, rowRl_c, rowRl_o, rowRl_Inv, D.refs, Obj.refs, rEnc]
    · simp_all [rowRl_S, rowRl_fin, rowRl_o, rowRl_Inv, RT.refsOK, RefsOK, D.refs, Obj.refs, rEnc]
  · intro env os b q hd_ hb
    unfold rowRl_d at hd_
    split at hd_
    · obtain ⟨hs, hd_⟩ := staticD_some hd_
      cases hd_
      simp only [Bool.and_eq_true, decide_eq_true_eq] at hb
      obtain ⟨rfl, hl⟩ := hb
      exact ⟨⟨Nat.zero_le _, hl⟩, rfl, rfl⟩
    · cases hd_
def rowRf_s (c : Bool) (l : List Sector) : Option (Bool × D RC) := some (goodL l, .bool (rowOK l))
def rowRf_sp : List (D RC) → Option (Bool × D RC)
  | [.sl .sector c l] => rowRf_s c l
  | _ => none
noncomputable def rowRf_e (c : Bool) (l : List Sector) := evF s17 ud_1 40 99 [.sl (C := RC) .sector c l]
theorem rowRf_eq (c : Bool) (l : List Sector) : rowRf_e c l = (bif lenOK l.length then bif (↑l.length : Int) != (33 : Int) then some (D.bool false) else bif goodL l then bif List.all (List.drop (0 : Nat) l) maySec then some (D.bool true) else some (D.bool false) else none else none) := by kernel_rfl
theorem rowRf_ok (c : Bool) (l : List Sector) (h : (goodL l) = true) : rowRf_e c l = some (.bool (rowOK l)) := by
  rw [rowRf_eq]
  have hl := (goodL_iff.1 h).1
  have lk := lenOK_of hl
  simp only [h, lk, rowOK, cond_true, List.drop_zero]
  by_cases e : l.length = 33
  · have e2 : ((l.length : Int) != 33) = false := by simp [e]
    cases hm : l.all maySec <;> simp [e, hm]
  · have e2 : ((l.length : Int) != 33) = true := by simp [bne]; omega
    simp [e, e2]
noncomputable def ud_2 := ud_1.addSpec 99 rowRf_sp
theorem ud_2_laws : FLaws Tryz.prog s17 ud_2 := ud_1_laws.addEv s17_laws fun args d h => by
  unfold rowRf_sp at h
  split at h
  · unfold rowRf_s at h
    have h1 := congrArg Prod.fst (Option.some.inj h)
    obtain rfl : _ = d := congrArg Prod.snd (Option.some.inj h)
    exact ⟨by simp [D.refs], 40, rowRf_ok _ _ h1⟩
  · cases h
structure chkRl_St where
  c : Bool
  now : List Sector
  d : Bool
  sure : List Sector
  i : Nat
def chkRl_c (c : Bool) (now : List Sector) (d : Bool) (sure : List Sector) (i : Nat) : Env RC := [(1, .ptr 0 []), (2, .int .i64 0), (3, .int .i64 (i : Int))]
def chkRl_o (c : Bool) (now : List Sector) (d : Bool) (sure : List Sector) (i : Nat) : List (Obj RC) := [.var 38 (.acons (.sl (C := RC) .sector c now) (.acons (.sl (C := RC) .sector d sure) .anil))]
noncomputable def chkRl_r (c : Bool) (now : List Sector) (d : Bool) (sure : List Sector) (i : Nat) := rndO s17 ud_2 69 4 40 1 [1, 2, 3] [2] [.slot 1 0] (chkRl_c c now d sure i) (chkRl_o c now d sure i)
theorem chkRl_eq (c : Bool) (now : List Sector) (d : Bool) (sure : List Sector) (i : Nat) : chkRl_r c now d sure i = (let Z0 : Int := (↑i : Int); let Z1 : List (Option (Obj RC)) := [some (Obj.var 38 (.acons (D.sl RTy.sector c now) (.acons (D.sl RTy.sector d sure) .anil)))]; let Z2 : Nat × D RC := (2, D.int .i64 0); bif lenOK now.length then bif decide (Z0 < (↑now.length : Int)) then bif decide ((0 : Int) ≤ Z0 ∧ Z0 < (↑sure.length : Int)) then bif decide ((0 : Int) ≤ Z0 ∧ Z0 < (↑now.length : Int)) then bif decide (Sector.n (List.getD now Z0.toNat (Sector.mk (0 : Int) [])) < Sector.n (List.getD sure Z0.toNat (Sector.mk (0 : Int) []))) then some ((X.ret, [(2, D.int .i64 2)]), Z1) else some ((X.normal, [(1, D.ptr 0 []), Z2, (3, D.int .i64 (IntKind.wrap .i64 (Z0 + (1 : Int))))]), Z1) else none else none else some ((X.exit (0 : Nat), [Z2]), Z1) else none) := by kernel_rfl
def chkRl_fin (c : Bool) (now : List Sector) (d : Bool) (sure : List Sector) (i : Nat) : RT RC := .br (lowAt now sure i) (.leaf (.exit 0) [(2, .int .i64 0)] (chkRl_o c now d sure i)) (.leaf .ret [(2, .int .i64 2)] (chkRl_o c now d sure i))
def chkRl_Inv (c : Bool) (now : List Sector) (d : Bool) (sure : List Sector) (i : Nat) : Prop := i ≤ now.length ∧ now.length ≤ 9223372036854775807 ∧ now.length = sure.length
def chkRl_S : LoopR RC chkRl_St where
  k := 1
  canon q := chkRl_c q.c q.now q.d q.sure q.i
  objs q := chkRl_o q.c q.now q.d q.sure q.i
  fin q := chkRl_fin q.c q.now q.d q.sure q.i
  Inv q := chkRl_Inv q.c q.now q.d q.sure q.i
  μ q := q.now.length - q.i
theorem chkRl_round (c : Bool) (now : List Sector) (d : Bool) (sure : List Sector) (i : Nat) (hI : chkRl_Inv c now d sure i) : Leaf (chkRl_r c now d sure i) (LedR chkRl_S ⟨c, now, d, sure, i⟩) := by
  (rw [chkRl_eq]; conv => zeta)
  unfold chkRl_Inv at hI
  obtain ⟨h1, h2, h3⟩ := hI
  have hlk0 : lenOK now.length = true := lenOK_of h2
  by_cases hlt : i < now.length
  · have w_succ : IntKind.i64.wrap ((i : Int) + 1) = ((i + 1 : Nat) : Int) := by rw [wrap_id (by omega) (by omega)]; simp
    have d_lt : decide ((i : Int) < now.length) = true := by simp; omega
    have d_in : decide (0 ≤ (i : Int) ∧ (i : Int) < now.length) = true := by simp; omega
    have t_nat : ((i : Int)).toNat = i := by simp
    simp only [w_succ, d_lt, d_in, t_nat, cond_true]
    have hlt2 : i < sure.length := by omega
    have d_in2 : decide (0 ≤ (i : Int) ∧ (i : Int) < sure.length) = true := by simp; omega
    simp only [d_in2, hlk0, cond_true]
    have hst := lowAt_step (now := now) (sure := sure) i hlt (by omega) (⟨0, []⟩ : Sector)
    generalize now.getD i (⟨0, []⟩ : Sector) = x at hst ⊢
    generalize sure.getD i (⟨0, []⟩ : Sector) = y at hst ⊢
    cases a1 : decide (y.n ≤ x.n)
    · have a2 : decide (x.n < y.n) = true := by simp at a1 ⊢; exact a1
      simp only [a2, cond_true]
      exact leafR_ret (chkRl_o c now d sure i) (by simp [chkRl_S, chkRl_fin, hst, a1, RT.val]) rfl
    · have a2 : decide (x.n < y.n) = false := by simp at a1 ⊢; exact a1
      simp only [a2, cond_false]
      exact leafR_go ⟨c, now, d, sure, i + 1⟩ ⟨hlt, h2, h3⟩ (by simp only [chkRl_S]; omega) (by simp [chkRl_S, chkRl_fin, hst, a1]; rfl) rfl rfl
  · have hi : i = now.length := by omega
    have c1 : decide ((i : Int) < now.length) = false := by simp; omega
    rw [hlk0, c1]
    exact leafR_exit (chkRl_o c now d sure i) (by simp [chkRl_S, chkRl_fin, hi, lowAt_end, RT.val]) rfl
def chkRl_d (env : Env RC) (os : List (Obj RC)) : Option (Bool × chkRl_St) := match env, os with
  | [(1, .ptr 0 []), (2, .int .i64 0), (3, .int .i64 x0)], [.var 38 (.acons (.sl .sector c now) (.acons (.sl .sector d sure) .anil))] => staticD (true) (decide (x0 = 0) && decide (now.length ≤ 9223372036854775807 ∧ now.length = sure.length), ⟨c, now, d, sure, 0⟩)
  | _, _ => none
noncomputable def ud_3 := ud_2.addLoop 69 4 (sumR s17 [.slot 1 0] [1, 2, 3] chkRl_S chkRl_d)
theorem ud_3_laws : FLaws Tryz.prog s17 ud_3 := by
  refine ud_2_laws.addRoundsR s17_laws (by kernel_rfl) chkRl_S 40 [1, 2, 3] [2] [.slot 1 0] [1, 2, 3] chkRl_d (fun q hI => ?_) ?_
  · obtain ⟨c, now, d, sure, i⟩ := q
    refine ⟨?_, ?_, chkRl_round c now d sure i hI⟩
    · simp_all [RefsOK, chkRl_S, chkRl_c, chkRl_o, chkRl_Inv, D.refs, Obj.refs, rEnc]
    · simp_all [chkRl_S, chkRl_fin, chkRl_o, chkRl_Inv, RT.refsOK, RefsOK, D.refs, Obj.refs, rEnc]
  · intro env os b q hd_ hb
    unfold chkRl_d at hd_
    split at hd_
    · obtain ⟨hs, hd_⟩ := staticD_some hd_
      cases hd_
      simp only [Bool.and_eq_true, decide_eq_true_eq] at hb
      obtain ⟨rfl, hl⟩ := hb
      exact ⟨⟨Nat.zero_le _, hl⟩, rfl, rfl⟩
    · cases hd_
def checkR_s (c : Bool) (now : List Sector) (d : Bool) (sure : List Sector) : Option (Bool × D RC) := some (goodL now && goodL sure, .int .i64 (bif diskOK now sure then 0 else 2))
def checkR_sp : List (D RC) → Option (Bool × D RC)
  | [.acons (.sl .sector c now) (.acons (.sl .sector d sure) .anil)] => checkR_s c now d sure
  | _ => none
noncomputable def checkR_e (c : Bool) (now : List Sector) (d : Bool) (sure : List Sector) := evF s17 ud_3 40 69 [.acons (.sl (C := RC) .sector c now) (.acons (.sl (C := RC) .sector d sure) .anil)]
theorem checkR_eq (c : Bool) (now : List Sector) (d : Bool) (sure : List Sector) : checkR_e c now d sure = (let Z0 : DO_ := some (D.int .i64 2); bif goodL now then bif !rowOK now then Z0 else bif goodL sure then bif !rowOK sure then Z0 else bif decide (List.length now ≤ (9223372036854775807 : Nat) ∧ List.length now = List.length sure) then bif lowAt now sure (0 : Nat) then some (D.int .i64 0) else Z0 else none else none else none) := by kernel_rfl
theorem checkR_ok (c : Bool) (now : List Sector) (d : Bool) (sure : List Sector) (h : (goodL now && goodL sure) = true) : checkR_e c now d sure = some (.int .i64 (bif diskOK now sure then 0 else 2)) := by
  (rw [checkR_eq]; conv => zeta)
  rw [Bool.and_eq_true] at h
  obtain ⟨hg, hgs⟩ := h
  have hl := (goodL_iff.1 hg).1
  simp only [hg, hgs, cond_true, diskOK]
  cases h1 : rowOK now
  · rfl
  cases h2 : rowOK sure
  · rfl
  have l1 := rowOK_len h1
  have l2 := rowOK_len h2
  have e : decide (now.length ≤ 9223372036854775807 ∧ now.length = sure.length) = true := by simp; omega
  cases h3 : lowAt now sure 0 <;> simp [e]
noncomputable def ud_4 := ud_3.addSpec 69 checkR_sp
theorem ud_4_laws : FLaws Tryz.prog s17 ud_4 := ud_3_laws.addEv s17_laws fun args d h => by
  unfold checkR_sp at h
  split at h
  · unfold checkR_s at h
    have h1 := congrArg Prod.fst (Option.some.inj h)
    obtain rfl : _ = d := congrArg Prod.snd (Option.some.inj h)
    exact ⟨by simp [D.refs], 40, checkR_ok _ _ _ _ h1⟩
  · cases h
def putR3_s (c : Bool) (now : List Sector) (d : Bool) (sure : List Sector) (k : Int) (n : Int) (b : List UInt8) : Option (Bool × D RC) := some (goodL now && goodL sure && lenOK b.length, .tup (.acons (.acons (.sl (C := RC) .sector (!okPut now sure k n b) (pNow now sure k n b)) (.acons (.sl (C := RC) .sector (!okPut now sure k n b) (pSure now sure k n b)) .anil)) (.acons (.int .i64 (bif okPut now sure k n b then 0 else 2)) .anil)))
def putR3_sp : List (D RC) → Option (Bool × D RC)
  | [.acons (.sl .sector c now) (.acons (.sl .sector d sure) .anil), .int .i64 k, .int .i64 n, .str b] => putR3_s c now d sure k n b
  | _ => none
noncomputable def putR3_e (c : Bool) (now : List Sector) (d : Bool) (sure : List Sector) (k : Int) (n : Int) (b : List UInt8) := evF s17 ud_4 40 44 [.acons (.sl (C := RC) .sector c now) (.acons (.sl (C := RC) .sector d sure) .anil), .int .i64 k, .int .i64 n, .str b]
theorem putR3_eq (c : Bool) (now : List Sector) (d : Bool) (sure : List Sector) (k : Int) (n : Int) (b : List UInt8) : putR3_e c now d sure k n b = (let Z0 : D RC := D.sl RTy.sector true []; let Z1 : DO_ := some (D.tup (D.acons (D.acons Z0 (D.acons Z0 .anil)) (.acons (D.int .i64 2) .anil))); let Z2 : Nat := (0 : Nat) + List.length now; let Z3 : Nat := (0 : Nat) + List.length sure; let Z4 : List Sector := List.replicate (0 : Nat) (Sector.mk (0 : Int) []); let Z5 : Nat := List.length (Z4 ++ now); let Z6 : Bool := Nat.beq Z2 Z5; let Z7 : Bool := Z6 && decide ((0 : Int) ≤ k ∧ k < (↑Z5 : Int)); let Z8 : List Sector := List.set (Z4 ++ now) k.toNat (Sector.mk n b); let Z9 : Bool := Nat.beq Z3 (Z4 ++ sure).length; let Z10 : D RC := D.acons (D.sl RTy.sector false (Z4 ++ sure)) .anil; let Z11 : D RC := D.acons (D.int .i64 0) .anil; let Z12 : DO_ := none; bif goodL now && goodL sure then bif (bif diskOK now sure then (0 : Int) else (2 : Int)) != (0 : Int) then Z1 else bif decide (k < (0 : Int)) then Z1 else bif decide ((33 : Int) ≤ k) then Z1 else bif decide (n < (1 : Int)) then Z1 else bif decide ((1048575 : Int) < n) then Z1 else bif b == Array.toList #[] then Z1 else bif lenOK b.length then bif decide ((640 : Int) < (↑b.length : Int)) then Z1 else bif sizeOK Z2 (24 : Nat) then bif sizeOK Z3 (24 : Nat) then bif Z7 then bif Z6 then bif Z6 then bif decide (Sector.n (List.getD (Z4 ++ now) k.toNat (Sector.mk (0 : Int) [])) < n) then bif Z7 then bif Z6 then bif Nat.beq Z2 Z8.length then bif Z9 then some (D.tup (D.acons (D.acons (D.sl RTy.sector false Z8) Z10) Z11)) else Z12 else Z12 else Z12 else Z12 else bif Z6 then bif Z9 then some (D.tup (D.acons (D.acons (D.sl RTy.sector false (Z4 ++ now)) Z10) Z11)) else Z12 else Z12 else Z12 else Z12 else Z12 else Z12 else Z12 else Z12 else Z12) := by kernel_rfl
theorem putR3_ok (c : Bool) (now : List Sector) (d : Bool) (sure : List Sector) (k : Int) (n : Int) (b : List UInt8) (h : (goodL now && goodL sure && lenOK b.length) = true) : putR3_e c now d sure k n b = some (.tup (.acons (.acons (.sl (C := RC) .sector (!okPut now sure k n b) (pNow now sure k n b)) (.acons (.sl (C := RC) .sector (!okPut now sure k n b) (pSure now sure k n b)) .anil)) (.acons (.int .i64 (bif okPut now sure k n b then 0 else 2)) .anil))) := by
  (rw [putR3_eq]; conv => zeta)
  simp only [Bool.and_eq_true] at h
  obtain ⟨⟨hg, hgs⟩, hb⟩ := h
  have hgg : (goodL now && goodL sure) = true := by rw [hg, hgs]; rfl
  have no : okPut now sure k n b = false → some (D.tup (.acons (.acons (.sl (C := RC) .sector true []) (.acons (.sl (C := RC) .sector true []) .anil)) (.acons (.int .i64 2) .anil))) = some (.tup (.acons (.acons (.sl (C := RC) .sector (!okPut now sure k n b) (pNow now sure k n b)) (.acons (.sl (C := RC) .sector (!okPut now sure k n b) (pSure now sure k n b)) .anil)) (.acons (.int .i64 (bif okPut now sure k n b then 0 else 2)) .anil))) := fun e => by simp only [e, pNow, pSure]; rfl
  refine cond_of hgg ?_
  cases hd : diskOK now sure
  · exact cond_of rfl (no (okPut_not fun f => by rw [hd] at f; cases f.1))
  obtain ⟨l1, l2⟩ := diskOK_len hd
  refine cond_no rfl (cond_two (fun e => no (okPut_not fun f => by simp only [decide_eq_true_eq] at e; omega)) fun e1 => ?_)
  refine (cond_two (fun e => no (okPut_not fun f => by simp only [decide_eq_true_eq] at e; omega)) fun e2 => ?_)
  refine (cond_two (fun e => no (okPut_not fun f => by simp only [decide_eq_true_eq] at e; omega)) fun e3 => ?_)
  have mf : maySec ⟨n, b⟩ = true → n ≤ 1048575 ∧ b.length ≤ 640 := fun e => by simp only [maySec, Bool.and_eq_true, decide_eq_true_eq] at e; exact ⟨e.1.1.2, e.1.2⟩
  refine (cond_two (fun e => no (okPut_not fun f => by have := mf f.2.2.2.2.2; simp only [decide_eq_true_eq] at e; omega)) fun e4 => ?_)
  refine (cond_two (fun e => no (okPut_not fun f => f.2.2.2.2.1 (by simpa using e))) fun e5 => ?_)
  refine cond_of hb ?_
  refine (cond_two (fun e => no (okPut_not fun f => by have := mf f.2.2.2.2.2; simp only [decide_eq_true_eq] at e; omega)) fun e6 => ?_)
  simp only [decide_eq_false_iff_not] at e1 e2 e3 e4 e6
  have ok : okPut now sure k n b = true := by
    have d1 : 0 < n := by omega
    simp only [okPut, hd, maySec, Bool.true_and, Bool.and_eq_true, decide_eq_true_eq, d1, decide_true, Bool.true_or]
    exact ⟨⟨⟨⟨by omega, by omega⟩, by omega⟩, by simpa using e5⟩, ⟨⟨by omega, by omega⟩, by omega⟩, trivial⟩
  rw [ok]
  have r0 : ∀ l : List Sector, List.replicate 0 (⟨0, []⟩ : Sector) ++ l = l := fun l => rfl
  have eb : ∀ n : Nat, n.beq n = true := fun n => by simp
  have s1 : sizeOK now.length 24 = true := by simp [sizeOK]; omega
  have s2 : sizeOK sure.length 24 = true := by simp [sizeOK]; omega
  have dk : decide (0 ≤ k ∧ k < (now.length : Int)) = true := by simp; omega
  simp only [pNow, pSure, ok, cond_true, Bool.not_true, r0, Nat.zero_add, List.length_set, eb, s1, s2, dk, Bool.and_self]
  refine cond_two (fun e => ?_) fun e => ?_ <;> simp only [decide_eq_true_eq, decide_eq_false_iff_not] at e
  · have pn : putNow now k.toNat n b = now.set k.toNat ⟨n, b⟩ := if_pos e
    rw [pn]
  · have pn : putNow now k.toNat n b = now := if_neg e
    rw [pn]
noncomputable def ud_5 := ud_4.addSpec 44 putR3_sp
theorem ud_5_laws : FLaws Tryz.prog s17 ud_5 := ud_4_laws.addEv s17_laws fun args d h => by
  unfold putR3_sp at h
  split at h
  · unfold putR3_s at h
    have h1 := congrArg Prod.fst (Option.some.inj h)
    obtain rfl : _ = d := congrArg Prod.snd (Option.some.inj h)
    exact ⟨by simp [D.refs], 40, putR3_ok _ _ _ _ _ _ _ h1⟩
  · cases h
open Go.Proofs
structure ints11l_St where
  c : Bool
  l : List Int
  d : Bool
  m : List Int
  i : Nat
def ints11l_c (c : Bool) (l : List Int) (d : Bool) (m : List Int) (i : Nat) : Env RC := [(0, .sl (C := RC) .int c l), (1, .sl (C := RC) .int d m), (4, .bool false), (5, .int .i64 (i : Int))]
def ints11l_o (c : Bool) (l : List Int) (d : Bool) (m : List Int) (i : Nat) : List (Obj RC) := []
noncomputable def ints11l_r (c : Bool) (l : List Int) (d : Bool) (m : List Int) (i : Nat) := rndO s17 ud_5 24 4 40 0 [0, 1, 4, 5] [4] [] (ints11l_c c l d m i) (ints11l_o c l d m i)
theorem ints11l_eq (c : Bool) (l : List Int) (d : Bool) (m : List Int) (i : Nat) : ints11l_r c l d m i = (let Z0 : Int := (↑i : Int); bif lenOK l.length then bif decide (Z0 < (↑l.length : Int)) then bif decide ((0 : Int) ≤ Z0 ∧ Z0 < (↑l.length : Int)) then bif decide ((0 : Int) ≤ Z0 ∧ Z0 < (↑m.length : Int)) then bif List.getD l Z0.toNat (0 : Int) != List.getD m Z0.toNat (0 : Int) then some ((X.ret, [(4, D.bool false)]), []) else some ((X.normal, [(0, D.sl RTy.int c l), (1, D.sl RTy.int d m), (4, D.bool false), (5, D.int .i64 (IntKind.wrap .i64 (Z0 + (1 : Int))))]), []) else none else none else some ((X.exit (0 : Nat), [(4, D.bool false)]), []) else none) := by kernel_rfl
def ints11l_fin (c : Bool) (l : List Int) (d : Bool) (m : List Int) (i : Nat) : RT RC := .br (decide (l.drop i = m.drop i)) (.leaf (.exit 0) [(4, .bool false)] []) (.leaf .ret [(4, .bool false)] [])
def ints11l_Inv (c : Bool) (l : List Int) (d : Bool) (m : List Int) (i : Nat) : Prop := i ≤ l.length ∧ l.length ≤ 9223372036854775807 ∧ l.length = m.length
def ints11l_S : LoopR RC ints11l_St where
  k := 0
  canon q := ints11l_c q.c q.l q.d q.m q.i
  objs q := ints11l_o q.c q.l q.d q.m q.i
  fin q := ints11l_fin q.c q.l q.d q.m q.i
  Inv q := ints11l_Inv q.c q.l q.d q.m q.i
  μ q := q.l.length - q.i
theorem ints11l_round (c : Bool) (l : List Int) (d : Bool) (m : List Int) (i : Nat) (hI : ints11l_Inv c l d m i) : Leaf (ints11l_r c l d m i) (LedR ints11l_S ⟨c, l, d, m, i⟩) := by
  (rw [ints11l_eq]; conv => zeta)
  unfold ints11l_Inv at hI
  obtain ⟨h1, h2, h3⟩ := hI
  have hlk := lenOK_of h2
  rw [hlk]
  simp only [cond_true]
  by_cases hlt : i < l.length
  · have w_succ : IntKind.i64.wrap ((i : Int) + 1) = ((i + 1 : Nat) : Int) := by rw [wrap_id (by omega) (by omega)]; simp
    have d_lt : decide ((i : Int) < l.length) = true := by simp; omega
    have d_in : decide (0 ≤ (i : Int) ∧ (i : Int) < l.length) = true := by simp; omega
    have t_nat : ((i : Int)).toNat = i := by simp
    simp only [w_succ, d_lt, d_in, t_nat, cond_true]
    have hlt' : i < m.length := by omega
    have d_in' : decide (0 ≤ (i : Int) ∧ (i : Int) < m.length) = true := by simp; omega
    have hst := drops_step l m i (0 : Int) hlt h3
    simp only [d_in', cond_true]
    generalize l.getD i (0 : Int) = x at hst ⊢
    generalize m.getD i (0 : Int) = y at hst ⊢
    by_cases hxy : x = y
    · simp only [ibneF hxy, cond_false]
      exact leafR_go ⟨c, l, d, m, i + 1⟩ ⟨hlt, h2, h3⟩ (by simp only [ints11l_S]; omega) (by simp only [ints11l_S, ints11l_fin, hst, hxy, decide_true, Bool.true_and]) rfl rfl
    · simp only [ibneT hxy, cond_true]
      exact leafR_ret [] (by simp [ints11l_S, ints11l_fin, hst, hxy, RT.val]) rfl
  · have hi : i = l.length := by omega
    have c1 : decide ((i : Int) < l.length) = false := by simp; omega
    simp only [c1, cond_false]
    exact leafR_exit [] (by simp only [ints11l_S, ints11l_fin, drops_end l m i (by omega) (by omega), RT.val, cond_true]) rfl
def ints11l_d (env : Env RC) (os : List (Obj RC)) : Option (Bool × ints11l_St) := match env, os with
  | [(0, .sl .int c l), (1, .sl .int d m), (4, .bool false), (5, .int .i64 x0)], [] => staticD (true) (decide (x0 = 0) && decide (l.length ≤ 9223372036854775807 ∧ l.length = m.length), ⟨c, l, d, m, 0⟩)
  | _, _ => none
noncomputable def ue_1 := ud_5.addLoop 24 4 (sumR s17 [] [0, 1, 4, 5] ints11l_S ints11l_d)
theorem ue_1_laws : FLaws Tryz.prog s17 ue_1 := by
  refine ud_5_laws.addRoundsR s17_laws (by kernel_rfl) ints11l_S 40 [0, 1, 4, 5] [4] [] [0, 1, 4, 5] ints11l_d (fun q hI => ?_) ?_
  · obtain ⟨c, l, d, m, i⟩ := q
    refine ⟨?_, ?_, ints11l_round c l d m i hI⟩
    · simp_all [RefsOK, ints11l_S, ints11l_c, ints11l_o, ints11l_Inv, D.refs, Obj.refs, rEnc]
    · simp_all [ints11l_S, ints11l_fin, ints11l_o, ints11l_Inv, RT.refsOK, RefsOK, D.refs, Obj.refs, rEnc]
  · intro env os b q hd_ hb
    unfold ints11l_d at hd_
    split at hd_
    · obtain ⟨hs, hd_⟩ := staticD_some hd_
      cases hd_
      simp only [Bool.and_eq_true, decide_eq_true_eq] at hb
      obtain ⟨⟨rfl, rfl⟩, hl⟩ := hb
      exact ⟨⟨Nat.zero_le _, hl.1, hl.2⟩, rfl, rfl⟩
    · cases hd_
def ints11_s (c : Bool) (l : List Int) (d : Bool) (m : List Int) : Option (Bool × D RC) := some (lenOK l.length && lenOK m.length, .bool (decide (l = m)))
def ints11_sp : List (D RC) → Option (Bool × D RC)
  | [.sl .int c l, .sl .int d m] => ints11_s c l d m
  | _ => none
noncomputable def ints11_e (c : Bool) (l : List Int) (d : Bool) (m : List Int) := evF s17 ue_1 40 24 [.sl (C := RC) .int c l, .sl (C := RC) .int d m]
theorem ints11_eq (c : Bool) (l : List Int) (d : Bool) (m : List Int) : ints11_e c l d m = (let Z0 : Nat := List.length l; let Z1 : Nat := List.length m; bif lenOK Z0 then bif lenOK Z1 then bif (↑Z0 : Int) != (↑Z1 : Int) then some (D.bool false) else bif decide (Z0 ≤ (9223372036854775807 : Nat) ∧ Z0 = Z1) then bif decide (List.drop (0 : Nat) l = List.drop (0 : Nat) m) then some (D.bool true) else some (D.bool false) else none else none else none) := by kernel_rfl
theorem ints11_ok (c : Bool) (l : List Int) (d : Bool) (m : List Int) (h : (lenOK l.length && lenOK m.length) = true) : ints11_e c l d m = some (.bool (decide (l = m))) := by
  (rw [ints11_eq]; conv => zeta)
  simp only [Bool.and_eq_true] at h
  have h1 : l.length ≤ 9223372036854775807 := lenOK_le h.1
  simp only [h.1, h.2, cond_true]
  by_cases hl : l.length = m.length
  · have e1 : ((l.length : Int) != (m.length : Int)) = false := by simp [hl]
    have e2 : (l.length ≤ 9223372036854775807 ∧ l.length = m.length) := ⟨h1, hl⟩
    rw [e1, decide_eq_true e2]
    simp only [cond_true, cond_false, List.drop_zero]
    cases decide (l = m) <;> rfl
  · have e1 : ((l.length : Int) != (m.length : Int)) = true := by simp; omega
    have : ¬ l = m := fun e => hl (by rw [e])
    simp [e1, this]
noncomputable def ue_2 := ue_1.addSpec 24 ints11_sp
theorem ue_2_laws : FLaws Tryz.prog s17 ue_2 := ue_1_laws.addEv s17_laws fun args d h => by
  unfold ints11_sp at h
  split at h
  · unfold ints11_s at h
    have h1 := congrArg Prod.fst (Option.some.inj h)
    obtain rfl : _ = d := congrArg Prod.snd (Option.some.inj h)
    exact ⟨by simp [D.refs], 40, ints11_ok _ _ _ _ h1⟩
  · cases h
structure chk09l_St where
  c : Bool
  l : List Int
  a : Bool
  now : List Sector
  b : Bool
  sure : List Sector
  i : Nat
def chk09l_c (c : Bool) (l : List Int) (a : Bool) (now : List Sector) (b : Bool) (sure : List Sector) (i : Nat) : Env RC := [(1, .ptr 0 []), (2, .int .i64 0), (3, .int .i64 (i : Int))]
def chk09l_o (c : Bool) (l : List Int) (a : Bool) (now : List Sector) (b : Bool) (sure : List Sector) (i : Nat) : List (Obj RC) := [.var 40 (.acons (.sl (C := RC) .int c l) (.acons (.acons (.sl (C := RC) .sector a now) (.acons (.sl (C := RC) .sector b sure) .anil)) .anil))]
noncomputable def chk09l_r (c : Bool) (l : List Int) (a : Bool) (now : List Sector) (b : Bool) (sure : List Sector) (i : Nat) := rndO s17 ue_2 67 4 40 1 [1, 2, 3] [2] [.slot 1 0] (chk09l_c c l a now b sure i) (chk09l_o c l a now b sure i)
theorem chk09l_eq (c : Bool) (l : List Int) (a : Bool) (now : List Sector) (b : Bool) (sure : List Sector) (i : Nat) : chk09l_r c l a now b sure i = (let Z0 : Int := (↑i : Int); let Z1 : Int := List.getD l Z0.toNat (0 : Int); let Z2 : List (Option (Obj RC)) := [some (Obj.var 40 (.acons (D.sl RTy.int c l) (.acons (D.acons (D.sl RTy.sector a now) (.acons (D.sl RTy.sector b sure) .anil)) .anil)))]; let Z3 : Nat × D RC := (2, D.int .i64 0); bif lenOK l.length then bif decide (Z0 < (↑l.length : Int)) then bif decide ((0 : Int) ≤ Z0 ∧ Z0 < (↑l.length : Int)) then bif decide ((-1152921504606846976 : Int) ≤ Z1) then bif !decide (Z1 ≤ (1152921504606846976 : Int)) then some ((X.ret, [(2, D.int .i64 2)]), Z2) else some ((X.normal, [(1, D.ptr 0 []), Z3, (3, D.int .i64 (IntKind.wrap .i64 (Z0 + (1 : Int))))]), Z2) else some ((X.ret, [(2, D.int .i64 2)]), Z2) else none else some ((X.exit (0 : Nat), [Z3]), Z2) else none) := by kernel_rfl
def chk09l_fin (c : Bool) (l : List Int) (a : Bool) (now : List Sector) (b : Bool) (sure : List Sector) (i : Nat) : RT RC := .br ((l.drop i).all fitsC) (.leaf (.exit 0) [(2, .int .i64 0)] (chk09l_o c l a now b sure i)) (.leaf .ret [(2, .int .i64 2)] (chk09l_o c l a now b sure i))
def chk09l_Inv (c : Bool) (l : List Int) (a : Bool) (now : List Sector) (b : Bool) (sure : List Sector) (i : Nat) : Prop := i ≤ l.length ∧ l.length ≤ 1024
def chk09l_S : LoopR RC chk09l_St where
  k := 1
  canon q := chk09l_c q.c q.l q.a q.now q.b q.sure q.i
  objs q := chk09l_o q.c q.l q.a q.now q.b q.sure q.i
  fin q := chk09l_fin q.c q.l q.a q.now q.b q.sure q.i
  Inv q := chk09l_Inv q.c q.l q.a q.now q.b q.sure q.i
  μ q := q.l.length - q.i
theorem chk09l_round (c : Bool) (l : List Int) (a : Bool) (now : List Sector) (b : Bool) (sure : List Sector) (i : Nat) (hI : chk09l_Inv c l a now b sure i) : Leaf (chk09l_r c l a now b sure i) (LedR chk09l_S ⟨c, l, a, now, b, sure, i⟩) := by
  (rw [chk09l_eq]; conv => zeta)
  unfold chk09l_Inv at hI
  obtain ⟨h1, h2⟩ := hI
  have hlk := lenOK_of (n := l.length) (by omega)
  by_cases hlt : i < l.length
  · have w_succ : IntKind.i64.wrap ((i : Int) + 1) = ((i + 1 : Nat) : Int) := by rw [wrap_id (by omega) (by omega)]; simp
    have d_lt : decide ((i : Int) < l.length) = true := by simp; omega
    have d_in : decide (0 ≤ (i : Int) ∧ (i : Int) < l.length) = true := by simp; omega
    have t_nat : ((i : Int)).toNat = i := by simp
    simp only [w_succ, d_lt, d_in, t_nat, cond_true]
    have hst := all_drop_step l fitsC i hlt (0 : Int)
    generalize l.getD i (0 : Int) = x at hst ⊢
    simp only [hlk, cond_true]
    have hgo : fitsC x = true → Leaf (some ((X.normal, chk09l_c c l a now b sure (i + 1)), (chk09l_o c l a now b sure (i + 1)).map some)) (LedR chk09l_S ⟨c, l, a, now, b, sure, i⟩) := fun e =>
      leafR_go ⟨c, l, a, now, b, sure, i + 1⟩ ⟨hlt, h2⟩ (by simp only [chk09l_S]; omega) (by simp [chk09l_S, chk09l_fin, hst, e]; rfl) rfl rfl
    have hno : fitsC x = false → Leaf (some ((X.ret, [(2, D.int .i64 2)]), (chk09l_o c l a now b sure i).map some)) (LedR chk09l_S ⟨c, l, a, now, b, sure, i⟩) := fun e => leafR_ret (chk09l_o c l a now b sure i) (by simp [chk09l_S, chk09l_fin, hst, e, RT.val]) rfl
    have hm : fitsC x = (decide (-1152921504606846976 ≤ x) && decide (x ≤ 1152921504606846976)) := rfl
    rw [hm] at hgo hno
    repeat' (refine leaf_cond.2 ⟨fun hc_ => ?_, fun hc_ => ?_⟩)
    all_goals first | exact hno (by clear hgo hno hst hm; simp_all <;> omega) | exact hgo (by clear hgo hno hst hm; simp_all <;> omega)
  · have hi : i = l.length := by omega
    have c1 : decide ((i : Int) < l.length) = false := by simp; omega
    rw [hlk, c1]
    exact leafR_exit (chk09l_o c l a now b sure i) (by simp [chk09l_S, chk09l_fin, hi, RT.val]) rfl
def chk09l_d (env : Env RC) (os : List (Obj RC)) : Option (Bool × chk09l_St) := match env, os with
  | [(1, .ptr 0 []), (2, .int .i64 0), (3, .int .i64 x0)], [.var 40 (.acons (.sl .int c l) (.acons (.acons (.sl .sector a now) (.acons (.sl .sector b sure) .anil)) .anil))] => staticD (true) (decide (x0 = 0) && decide (l.length ≤ 1024), ⟨c, l, a, now, b, sure, 0⟩)
  | _, _ => none
noncomputable def ue_3 := ue_2.addLoop 67 4 (sumR s17 [.slot 1 0] [1, 2, 3] chk09l_S chk09l_d)
theorem ue_3_laws : FLaws Tryz.prog s17 ue_3 := by
  refine ue_2_laws.addRoundsR s17_laws (by kernel_rfl) chk09l_S 40 [1, 2, 3] [2] [.slot 1 0] [1, 2, 3] chk09l_d (fun q hI => ?_) ?_
  · obtain ⟨c, l, a, now, b, sure, i⟩ := q
    refine ⟨?_, ?_, chk09l_round c l a now b sure i hI⟩
    · simp_all [RefsOK, chk09l_S, chk09l_c, chk09l_o, chk09l_Inv, D.refs, Obj.refs, rEnc]
    · simp_all [chk09l_S, chk09l_fin, chk09l_o, chk09l_Inv, RT.refsOK, RefsOK, D.refs, Obj.refs, rEnc]
  · intro env os b q hd_ hb
    unfold chk09l_d at hd_
    split at hd_
    · obtain ⟨hs, hd_⟩ := staticD_some hd_
      cases hd_
      simp only [Bool.and_eq_true, decide_eq_true_eq] at hb
      obtain ⟨rfl, hl⟩ := hb
      exact ⟨⟨Nat.zero_le _, hl⟩, rfl, rfl⟩
    · cases hd_
def chk09_s (c : Bool) (l : List Int) (a : Bool) (now : List Sector) (b : Bool) (sure : List Sector) : Option (Bool × D RC) := some (lenOK l.length && (goodL now && goodL sure), .int .i64 (bif cellsOK l && diskOK now sure then 0 else 2))
def chk09_sp : List (D RC) → Option (Bool × D RC)
  | [.acons (.sl .int c l) (.acons (.acons (.sl .sector a now) (.acons (.sl .sector b sure) .anil)) .anil)] => chk09_s c l a now b sure
  | _ => none
noncomputable def chk09_e (c : Bool) (l : List Int) (a : Bool) (now : List Sector) (b : Bool) (sure : List Sector) := evF s17 ue_3 40 67 [.acons (.sl (C := RC) .int c l) (.acons (.acons (.sl (C := RC) .sector a now) (.acons (.sl (C := RC) .sector b sure) .anil)) .anil)]
theorem chk09_eq (c : Bool) (l : List Int) (a : Bool) (now : List Sector) (b : Bool) (sure : List Sector) : chk09_e c l a now b sure = (let Z0 : Nat := List.length l; let Z1 : DO_ := some (D.int .i64 2); bif lenOK Z0 then bif decide ((1024 : Int) < (↑Z0 : Int)) then Z1 else bif decide (Z0 ≤ (1024 : Nat)) then bif List.all (List.drop (0 : Nat) l) fitsC then bif goodL now && goodL sure then some (D.int .i64 (bif diskOK now sure then (0 : Int) else (2 : Int))) else none else Z1 else none else none) := by kernel_rfl
theorem chk09_ok (c : Bool) (l : List Int) (a : Bool) (now : List Sector) (b : Bool) (sure : List Sector) (h : (lenOK l.length && (goodL now && goodL sure)) = true) : chk09_e c l a now b sure = some (.int .i64 (bif cellsOK l && diskOK now sure then 0 else 2)) := by
  (rw [chk09_eq]; conv => zeta)
  rw [Bool.and_eq_true] at h
  obtain ⟨h1, h2⟩ := h
  simp only [h1, h2, cond_true, List.drop_zero, cellsOK]
  by_cases hl : l.length ≤ 1024
  · have e1 : decide ((1024 : Int) < l.length) = false := by simp; omega
    simp only [e1, decide_eq_true hl, cond_false, cond_true, Bool.true_and]
    cases l.all fitsC <;> rfl
  · have e1 : decide ((1024 : Int) < l.length) = true := by simp; omega
    simp only [e1, decide_eq_false hl, cond_true, Bool.false_and, cond_false]
noncomputable def ue_4 := ue_3.addSpec 67 chk09_sp
theorem ue_4_laws : FLaws Tryz.prog s17 ue_4 := ue_3_laws.addEv s17_laws fun args d h => by
  unfold chk09_sp at h
  split at h
  · unfold chk09_s at h
    have h1 := congrArg Prod.fst (Option.some.inj h)
    obtain rfl : _ = d := congrArg Prod.snd (Option.some.inj h)
    exact ⟨by simp [D.refs], 40, chk09_ok _ _ _ _ _ _ h1⟩
  · cases h
def new03_s  : Option (Bool × D RC) := some (true, .acons (.sl (C := RC) .sector false emptyDisk) (.acons (.sl (C := RC) .sector false emptyDisk) .anil))
def new03_sp : List (D RC) → Option (Bool × D RC)
  | [] => new03_s 
  | _ => none
noncomputable def new03_e  := evF s17 ue_4 40 19 []
theorem new03_ok  (h : (true) = true) : new03_e  = some (.acons (.sl (C := RC) .sector false emptyDisk) (.acons (.sl (C := RC) .sector false emptyDisk) .anil)) := by
  kernel_rfl
noncomputable def ue_5 := ue_4.addSpec 19 new03_sp
theorem ue_5_laws : FLaws Tryz.prog s17 ue_5 := ue_4_laws.addEv s17_laws fun args d h => by
  unfold new03_sp at h
  split at h
  · unfold new03_s at h
    have h1 := congrArg Prod.fst (Option.some.inj h)
    obtain rfl : _ = d := congrArg Prod.snd (Option.some.inj h)
    exact ⟨by simp [D.refs], 40, new03_ok  h1⟩
  · cases h
def do09_s (c : Bool) (l : List Int) (a : Bool) (now : List Sector) (b : Bool) (sure : List Sector) (k : Int) (ad : Int) (bb : Int) (v : Int) (ca : Bool) : Option (Bool × D RC) := some (decide (OkDo l k ad bb v) && (cellsOK l && (diskOK now sure && (goodL now && goodL sure))), .tup (.acons (.acons (.sl (C := RC) .int false (doC l k ad bb v)) (.acons (.acons (.sl (C := RC) .sector a now) (.acons (.sl (C := RC) .sector b sure) .anil)) .anil)) (.acons (.int .i64 (doG l k ad bb)) (.acons (.int .i64 0) .anil))))
def do09_sp : List (D RC) → Option (Bool × D RC)
  | [.acons (.sl .int c l) (.acons (.acons (.sl .sector a now) (.acons (.sl .sector b sure) .anil)) .anil), .acons (.int .i8 k) (.acons (.int .i64 ad) (.acons (.int .i64 bb) (.acons (.int .i64 v) (.acons (.int .i64 0) (.acons (.str []) (.acons (.sl .int ca []) .anil))))))] => do09_s c l a now b sure k ad bb v ca
  | _ => none
noncomputable def do09_e (c : Bool) (l : List Int) (a : Bool) (now : List Sector) (b : Bool) (sure : List Sector) (k : Int) (ad : Int) (bb : Int) (v : Int) (ca : Bool) := evF s17 ue_5 80 25 [.acons (.sl (C := RC) .int c l) (.acons (.acons (.sl (C := RC) .sector a now) (.acons (.sl (C := RC) .sector b sure) .anil)) .anil), .acons (.int .i8 k) (.acons (.int .i64 ad) (.acons (.int .i64 bb) (.acons (.int .i64 v) (.acons (.int .i64 0) (.acons (.str []) (.acons (.sl (C := RC) .int ca []) .anil))))))]
theorem do09_eq0 (c : Bool) (l : List Int) (a : Bool) (now : List Sector) (b : Bool) (sure : List Sector) (ad : Int) (ca : Bool) : do09_e c l a now b sure 0 ad 0 0 ca = (let Z0 : Nat := List.length l; let Z1 : D RC := D.sl RTy.sector true []; let Z2 : D RC := .anil; let Z3 : D RC := D.int .i64 0; let Z4 : DO_ := some (D.tup (D.acons (D.acons (D.sl RTy.int true []) (.acons (D.acons Z1 (D.acons Z1 Z2)) Z2)) (.acons Z3 (D.acons (D.int .i64 2) Z2)))); let Z5 : List Int := List.replicate (0 : Nat) (0 : Int) ++ l; bif lenOK Z0 && (goodL now && goodL sure) then bif (bif cellsOK l && diskOK now sure then (0 : Int) else (2 : Int)) != (0 : Int) then Z4 else bif decide (ad < (0 : Int)) then Z4 else bif lenOK Z0 then bif decide ((↑Z0 : Int) ≤ ad) then Z4 else bif sizeOK ((0 : Nat) + Z0) (8 : Nat) then bif Nat.beq ((0 : Nat) + Z0) Z5.length then bif decide ((0 : Int) ≤ ad ∧ ad < (↑Z5.length : Int)) then some (D.tup (D.acons (D.acons (D.sl RTy.int false Z5) (.acons (D.acons (D.sl RTy.sector a now) (.acons (D.sl RTy.sector b sure) Z2)) Z2)) (.acons (D.int .i64 (List.getD Z5 ad.toNat (0 : Int))) (.acons Z3 Z2)))) else none else none else none else none else none) := by kernel_rfl
theorem do09_eq2 (c : Bool) (l : List Int) (a : Bool) (now : List Sector) (b : Bool) (sure : List Sector) (ad bb v : Int) (ca : Bool) : do09_e c l a now b sure 2 ad bb v ca = (let Z0 : Nat := List.length l; let Z1 : D RC := D.sl RTy.sector true []; let Z2 : D RC := .anil; let Z3 : D RC := D.int .i64 0; let Z4 : DO_ := some (D.tup (D.acons (D.acons (D.sl RTy.int true []) (.acons (D.acons Z1 (D.acons Z1 Z2)) Z2)) (.acons Z3 (D.acons (D.int .i64 2) Z2)))); let Z5 : Int := (-1152921504606846976 : Int); let Z6 : Nat := (0 : Nat) + Z0; let Z7 : List Int := List.replicate (0 : Nat) (0 : Int) ++ l; let Z8 : Bool := Nat.beq Z6 Z7.length; let Z9 : Bool := Z8 && decide ((0 : Int) ≤ ad ∧ ad < (↑Z7.length : Int)); let Z10 : D RC := D.acons (D.acons (D.sl RTy.sector a now) (.acons (D.sl RTy.sector b sure) Z2)) Z2; let Z11 : List Int := List.set Z7 ad.toNat v; bif lenOK Z0 && (goodL now && goodL sure) then bif (bif cellsOK l && diskOK now sure then (0 : Int) else (2 : Int)) != (0 : Int) then Z4 else bif decide (ad < (0 : Int)) then Z4 else bif lenOK Z0 then bif decide ((↑Z0 : Int) ≤ ad) then Z4 else bif decide (Z5 ≤ bb) then bif !decide (bb ≤ (1152921504606846976 : Int)) then Z4 else bif decide (Z5 ≤ v) then bif !decide (v ≤ (1152921504606846976 : Int)) then Z4 else bif sizeOK Z6 (8 : Nat) then bif Z9 then bif Z8 then bif List.getD Z7 ad.toNat (0 : Int) != bb then bif Z8 then some (D.tup (D.acons (D.acons (D.sl RTy.int false Z7) Z10) (.acons Z3 (D.acons Z3 Z2)))) else none else bif Z9 then bif Z8 then bif Nat.beq Z6 Z11.length then some (D.tup (D.acons (D.acons (D.sl RTy.int false Z11) Z10) (.acons (D.int .i64 1) (.acons Z3 Z2)))) else none else none else none else none else none else none else Z4 else Z4 else none else none) := by kernel_rfl
theorem do09_ok (c : Bool) (l : List Int) (a : Bool) (now : List Sector) (b : Bool) (sure : List Sector) (k : Int) (ad : Int) (bb : Int) (v : Int) (ca : Bool) (h : (decide (OkDo l k ad bb v) && (cellsOK l && (diskOK now sure && (goodL now && goodL sure)))) = true) : do09_e c l a now b sure k ad bb v ca = some (.tup (.acons (.acons (.sl (C := RC) .int false (doC l k ad bb v)) (.acons (.acons (.sl (C := RC) .sector a now) (.acons (.sl (C := RC) .sector b sure) .anil)) .anil)) (.acons (.int .i64 (doG l k ad bb)) (.acons (.int .i64 0) .anil)))) := by
  simp only [Bool.and_eq_true, decide_eq_true_eq] at h
  obtain ⟨ho, hc, hd, hg1, hg2⟩ := h
  obtain ⟨hk, a0, a1, b0, b1, v0, v1⟩ := ho
  have hlen : l.length ≤ 1024 := by
    simp only [cellsOK, Bool.and_eq_true, decide_eq_true_eq] at hc; exact hc.1
  have e1 : lenOK l.length = true := lenOK_of (by omega)
  have e4 : decide (ad < 0) = false := by simp; omega
  have e5 : decide ((l.length : Int) ≤ ad) = false := by simp; omega
  have e6 : decide (0 ≤ ad ∧ ad < (l.length : Int)) = true := by simp; omega
  have e7 : sizeOK (0 + l.length) 8 = true := sizeT (by omega)
  have e8 : Nat.beq (0 + l.length) l.length = true := nbeqT (by omega)
  have e9 : decide (-1152921504606846976 ≤ bb) = true := by simp; omega
  have f0 : decide (bb ≤ 1152921504606846976) = true := by simp; omega
  have f1 : decide (-1152921504606846976 ≤ v) = true := by simp; omega
  have f2 : decide (v ≤ 1152921504606846976) = true := by simp; omega
  rcases hk with ⟨rfl, rfl, rfl⟩ | rfl
  · (rw [do09_eq0]; conv => zeta)
    simp only [List.replicate_zero, List.nil_append, e1, hg1, hg2, hc, hd, Bool.and_self, cond_true, cond_false, bne_self_eq_false, e4, e5, e6, e7, e8]
    rfl
  · (rw [do09_eq2]; conv => zeta)
    simp only [List.replicate_zero, List.nil_append, List.length_set, e1, hg1, hg2, hc, hd, Bool.and_self, cond_true, cond_false, bne_self_eq_false, e4, e5, e6, e7, e8, e9, f0, f1, f2, Bool.not_true]
    by_cases hb : l.getD ad.toNat 0 = bb
    · rw [ibneF hb]
      simp only [cond_false, doC, doG, hb, and_self, if_true]
      rfl
    · rw [ibneT hb]
      simp only [cond_true, doC, doG, hb, and_false, if_false]
      rfl
noncomputable def ue_6 := ue_5.addSpec 25 do09_sp
theorem ue_6_laws : FLaws Tryz.prog s17 ue_6 := ue_5_laws.addEv s17_laws fun args d h => by
  unfold do09_sp at h
  split at h
  · unfold do09_s at h
    have h1 := congrArg Prod.fst (Option.some.inj h)
    obtain rfl : _ = d := congrArg Prod.snd (Option.some.inj h)
    exact ⟨by simp [D.refs], 80, do09_ok _ _ _ _ _ _ _ _ _ _ _ h1⟩
  · cases h
open Go.Proofs
def regs (w d : Int) : List Int := w :: d :: List.replicate 94 0
def sameA_s (k : Int) (a : Int) (b : Int) (v : Int) (g : Int) (ca : Bool) (k2 : Int) (a2 : Int) (b2 : Int) (v2 : Int) (g2 : Int) (cb : Bool) : Option (Bool × D RC) := some (true, .bool (decide (k = k2 ∧ a = a2 ∧ b = b2 ∧ v = v2 ∧ g = g2)))
def sameA_sp : List (D RC) → Option (Bool × D RC)
  | [.acons (.int .i8 k) (.acons (.int .i64 a) (.acons (.int .i64 b) (.acons (.int .i64 v) (.acons (.int .i64 g) (.acons (.str []) (.acons (.sl .int ca []) .anil)))))), .acons (.int .i8 k2) (.acons (.int .i64 a2) (.acons (.int .i64 b2) (.acons (.int .i64 v2) (.acons (.int .i64 g2) (.acons (.str []) (.acons (.sl .int cb []) .anil))))))] => sameA_s k a b v g ca k2 a2 b2 v2 g2 cb
  | _ => none
noncomputable def sameA_e (k : Int) (a : Int) (b : Int) (v : Int) (g : Int) (ca : Bool) (k2 : Int) (a2 : Int) (b2 : Int) (v2 : Int) (g2 : Int) (cb : Bool) := evF s17 ue_6 40 23 [.acons (.int .i8 k) (.acons (.int .i64 a) (.acons (.int .i64 b) (.acons (.int .i64 v) (.acons (.int .i64 g) (.acons (.str []) (.acons (.sl (C := RC) .int ca []) .anil)))))), .acons (.int .i8 k2) (.acons (.int .i64 a2) (.acons (.int .i64 b2) (.acons (.int .i64 v2) (.acons (.int .i64 g2) (.acons (.str []) (.acons (.sl (C := RC) .int cb []) .anil))))))]
theorem sameA_eq (k : Int) (a : Int) (b : Int) (v : Int) (g : Int) (ca : Bool) (k2 : Int) (a2 : Int) (b2 : Int) (v2 : Int) (g2 : Int) (cb : Bool) : sameA_e k a b v g ca k2 a2 b2 v2 g2 cb = (let Z0 : DO_ := some (D.bool false); bif k == k2 then bif a == a2 then bif b == b2 then bif v == v2 then bif g == g2 then some (D.bool true) else Z0 else Z0 else Z0 else Z0 else Z0) := by kernel_rfl
theorem sameA_ok (k : Int) (a : Int) (b : Int) (v : Int) (g : Int) (ca : Bool) (k2 : Int) (a2 : Int) (b2 : Int) (v2 : Int) (g2 : Int) (cb : Bool) (h : (true) = true) : sameA_e k a b v g ca k2 a2 b2 v2 g2 cb = some (.bool (decide (k = k2 ∧ a = a2 ∧ b = b2 ∧ v = v2 ∧ g = g2))) := by
  (rw [sameA_eq]; conv => zeta)
  repeat' (refine cond2 (fun hc => ?_) fun hc => ?_)
  all_goals simp only [beq_iff_eq, beq_eq_false_iff_ne, ne_eq] at *
  all_goals first | exact congrArg (fun b => some (D.bool b)) (decide_eq_true (by omega)).symm | exact congrArg (fun b => some (D.bool b)) (decide_eq_false (by omega)).symm
noncomputable def uf_1 := ue_6.addSpec 23 sameA_sp
theorem uf_1_laws : FLaws Tryz.prog s17 uf_1 := ue_6_laws.addEv s17_laws fun args d h => by
  unfold sameA_sp at h
  split at h
  · unfold sameA_s at h
    have h1 := congrArg Prod.fst (Option.some.inj h)
    obtain rfl : _ = d := congrArg Prod.snd (Option.some.inj h)
    exact ⟨by simp [D.refs], 40, sameA_ok _ _ _ _ _ _ _ _ _ _ _ _ h1⟩
  · cases h
def give_s (c : Int) (f : Bool) (st : List Frame) (e : Bool) (got : List Int) (over : Bool) (x : Int) : Option (Bool × D RC) := some (decide (0 ≤ c ∧ c ≤ 3 ∧ got.length ≤ 96 ∧ 1 ≤ st.length ∧ st.length ≤ 6) && !over, .tup (.acons (.acons (.int .i64 c) (.acons (.sl (C := RC) .frame f st) (.acons (.sl (C := RC) .int true [x]) (.acons (.bool over) .anil)))) (.acons (.int .i64 0) .anil)))
def give_sp : List (D RC) → Option (Bool × D RC)
  | [.acons (.int .i64 c) (.acons (.sl .frame f st) (.acons (.sl .int e got) (.acons (.bool over) .anil))), .int .i64 x] => give_s c f st e got over x
  | _ => none
noncomputable def give_e (c : Int) (f : Bool) (st : List Frame) (e : Bool) (got : List Int) (over : Bool) (x : Int) := evF s17 uf_1 40 26 [.acons (.int .i64 c) (.acons (.sl (C := RC) .frame f st) (.acons (.sl (C := RC) .int e got) (.acons (.bool over) .anil))), .int .i64 x]
theorem give_eq (c : Int) (f : Bool) (st : List Frame) (e : Bool) (got : List Int) (over : Bool) (x : Int) : give_e c f st e got over x = (let Z0 : D RC := D.int .i64 0; let Z1 : DO_ := some (D.tup (D.acons (D.acons Z0 (D.acons (D.sl RTy.frame true []) (.acons (D.sl RTy.int true []) (.acons (D.bool false) .anil)))) (.acons (D.int .i64 2) .anil))); let Z2 : Bool := lenOK st.length; let Z3 : Int := (↑st.length : Int); let Z4 : DO_ := bif over then Z1 else some (D.tup (D.acons (D.acons (D.int .i64 c) (.acons (D.sl RTy.frame f st) (.acons (D.sl RTy.int true [x]) (.acons (D.bool over) .anil)))) (.acons Z0 .anil))); bif decide (c < (0 : Int)) then Z1 else bif decide ((4 : Int) ≤ c) then Z1 else bif lenOK got.length then bif decide ((96 : Int) < (↑got.length : Int)) then Z1 else bif over then bif Z2 then bif !Z3 == (0 : Int) then Z1 else Z4 else none else bif Z2 then bif decide ((1 : Int) ≤ Z3) then bif Z2 then bif !decide (Z3 ≤ (6 : Int)) then Z1 else Z4 else none else Z1 else none else none) := by kernel_rfl
theorem give_ok (c : Int) (f : Bool) (st : List Frame) (e : Bool) (got : List Int) (over : Bool) (x : Int) (h : (decide (0 ≤ c ∧ c ≤ 3 ∧ got.length ≤ 96 ∧ 1 ≤ st.length ∧ st.length ≤ 6) && !over) = true) : give_e c f st e got over x = some (.tup (.acons (.acons (.int .i64 c) (.acons (.sl (C := RC) .frame f st) (.acons (.sl (C := RC) .int true [x]) (.acons (.bool over) .anil)))) (.acons (.int .i64 0) .anil))) := by
  (rw [give_eq]; conv => zeta)
  simp only [Bool.and_eq_true, decide_eq_true_eq, Bool.not_eq_true'] at h
  obtain ⟨⟨h1, h2, h3, h4, h5⟩, rfl⟩ := h
  have c1 : decide (c < 0) = false := by simp; omega
  have c2 : decide (4 ≤ c) = false := by simp; omega
  have c3 : decide ((96 : Int) < got.length) = false := by simp; omega
  have c4 : lenOK got.length = true := lenOK_of (by omega)
  have c5 : lenOK st.length = true := lenOK_of (by omega)
  have c6 : decide ((1 : Int) ≤ st.length) = true := by simp; omega
  have c7 : decide ((st.length : Int) ≤ 6) = true := by simp; omega
  simp only [c1, c2, c3, c4, c5, c6, c7, cond_true, cond_false, Bool.not_true]
noncomputable def uf_2 := uf_1.addSpec 26 give_sp
theorem uf_2_laws : FLaws Tryz.prog s17 uf_2 := uf_1_laws.addEv s17_laws fun args d h => by
  unfold give_sp at h
  split at h
  · unfold give_s at h
    have h1 := congrArg Prod.fst (Option.some.inj h)
    obtain rfl : _ = d := congrArg Prod.snd (Option.some.inj h)
    exact ⟨by simp [D.refs], 40, give_ok _ _ _ _ _ _ _ h1⟩
  · cases h
def new10_s (c : Int) (ca : Bool) (w : Int) (d : Int) : Option (Bool × D RC) := some (decide (0 ≤ c ∧ c ≤ 3), .tup (.acons (.acons (.int .i64 c) (.acons (.sl (C := RC) .frame true [⟨68, 0, regs w d⟩]) (.acons (.sl (C := RC) .int true []) (.acons (.bool false) .anil)))) (.acons (.int .i64 0) .anil)))
def new10_sp : List (D RC) → Option (Bool × D RC)
  | [.int .i64 c, .int .i8 68, .sl .int ca [w, d]] => new10_s c ca w d
  | _ => none
noncomputable def new10_e (c : Int) (ca : Bool) (w : Int) (d : Int) := evF s17 uf_2 60 21 [.int .i64 c, .int .i8 68, .sl (C := RC) .int ca [w, d]]
theorem new10_eq (c : Int) (ca : Bool) (w : Int) (d : Int) : new10_e c ca w d = (let Z0 : D RC := D.int .i64 0; let Z1 : D RC := D.acons (D.sl RTy.int true []) (.acons (D.bool false) .anil); let Z2 : DO_ := some (D.tup (D.acons (D.acons Z0 (D.acons (D.sl RTy.frame true []) Z1)) (.acons (D.int .i64 2) .anil))); bif decide (c < (0 : Int)) then Z2 else bif decide ((4 : Int) ≤ c) then Z2 else some (D.tup (D.acons (D.acons (D.int .i64 c) (.acons (D.sl RTy.frame true [Frame.mk (68 : Int) (0 : Int) [w, d, (0 : Int), (0 : Int), (0 : Int), (0 : Int), (0 : Int), (0 : Int), (0 : Int), (0 : Int), (0 : Int), (0 : Int), (0 : Int), (0 : Int), (0 : Int), (0 : Int), (0 : Int), (0 : Int), (0 : Int), (0 : Int), (0 : Int), (0 : Int), (0 : Int), (0 : Int), (0 : Int), (0 : Int), (0 : Int), (0 : Int), (0 : Int), (0 : Int), (0 : Int), (0 : Int), (0 : Int), (0 : Int), (0 : Int), (0 : Int), (0 : Int), (0 : Int), (0 : Int), (0 : Int), (0 : Int), (0 : Int), (0 : Int), (0 : Int), (0 : Int), (0 : Int), (0 : Int), (0 : Int), (0 : Int), (0 : Int), (0 : Int), (0 : Int), (0 : Int), (0 : Int), (0 : Int), (0 : Int), (0 : Int), (0 : Int), (0 : Int), (0 : Int), (0 : Int), (0 : Int), (0 : Int), (0 : Int), (0 : Int), (0 : Int), (0 : Int), (0 : Int), (0 : Int), (0 : Int), (0 : Int), (0 : Int), (0 : Int), (0 : Int), (0 : Int), (0 : Int), (0 : Int), (0 : Int), (0 : Int), (0 : Int), (0 : Int), (0 : Int), (0 : Int), (0 : Int), (0 : Int), (0 : Int), (0 : Int), (0 : Int), (0 : Int), (0 : Int), (0 : Int), (0 : Int), (0 : Int), (0 : Int), (0 : Int), (0 : Int)]]) Z1)) (.acons Z0 .anil)))) := by kernel_rfl
theorem new10_ok (c : Int) (ca : Bool) (w : Int) (d : Int) (h : (decide (0 ≤ c ∧ c ≤ 3)) = true) : new10_e c ca w d = some (.tup (.acons (.acons (.int .i64 c) (.acons (.sl (C := RC) .frame true [⟨68, 0, regs w d⟩]) (.acons (.sl (C := RC) .int true []) (.acons (.bool false) .anil)))) (.acons (.int .i64 0) .anil))) := by
  (rw [new10_eq]; conv => zeta)
  rw [decide_eq_true_eq] at h
  have c1 : decide (c < 0) = false := by simp; omega
  have c2 : decide (4 ≤ c) = false := by simp; omega
  simp only [c1, c2, cond_false]
  rfl
noncomputable def uf_3 := uf_2.addSpec 21 new10_sp
theorem uf_3_laws : FLaws Tryz.prog s17 uf_3 := uf_2_laws.addEv s17_laws fun args d h => by
  unfold new10_sp at h
  split at h
  · unfold new10_s at h
    have h1 := congrArg Prod.fst (Option.some.inj h)
    obtain rfl : _ = d := congrArg Prod.snd (Option.some.inj h)
    exact ⟨by simp [D.refs], 60, new10_ok _ _ _ _ h1⟩
  · cases h
def tkC (ts : List Task) (c : Int) : Task := ts.getD c.toNat ⟨0, [], [], false⟩
def stG (t : Task) : GoR := goR t.stack t.got
def stX (cs : List Int) (t : Task) : Int := doG cs (stG t).kind (stG t).a (stG t).b
def stCs (cs : List Int) (t : Task) : List Int := doC cs (stG t).kind (stG t).a (stG t).b (stG t).v
def stE (cs : List Int) (t : Task) : GoR := goR (stG t).st [stX cs t]
def stT (cs : List Int) (t : Task) : Task := ⟨t.client, (stG t).st, [stX cs t], (stG t).over⟩
def OkStep (cs : List Int) (t : Task) (now sure : List Sector) : Prop :=
  okG t.client t.stack t.got = true ∧ t.over = false ∧ (stG t).is = true ∧ OkDo cs (stG t).kind (stG t).a (stG t).b (stG t).v ∧ cellsOK cs = true ∧ diskOK now sure = true ∧ goodL now = true ∧ goodL sure = true ∧ okG t.client (stG t).st [stX cs t] = true
instance instOkStep (cs : List Int) (t : Task) (now sure : List Sector) : Decidable (OkStep cs t now sure) := by unfold OkStep; infer_instance
theorem goF_cases (k : Int) (r got : List Int) (x : Int) : (∃ r' n cell, goF k r got x = gLoad r' got n cell) ∨ (∃ r' n cell b v, goF k r got x = gCas r' got n cell b v) ∨ ∃ l, l.length ≤ 2 ∧ goF k r got x = gEnd l := by
  unfold goF
  split
  · exact .inl ⟨_, _, _, rfl⟩
  split
  · exact .inl ⟨_, _, _, rfl⟩
  split
  · split
    · exact .inr (.inr ⟨_, by simp, rfl⟩)
    split
    · exact .inr (.inr ⟨_, by simp, rfl⟩)
    · exact .inl ⟨_, _, _, rfl⟩
  split
  · split
    · exact .inr (.inr ⟨_, by simp, rfl⟩)
    · exact .inl ⟨_, _, _, rfl⟩
  split
  · split
    · exact .inr (.inl ⟨_, _, _, _, _, rfl⟩)
    split
    · exact .inl ⟨_, _, _, rfl⟩
    · exact .inr (.inl ⟨_, _, _, _, _, rfl⟩)
  split
  · split
    · exact .inl ⟨_, _, _, rfl⟩
    · exact .inr (.inl ⟨_, _, _, _, _, rfl⟩)
  · exact .inr (.inr ⟨_, by simp, rfl⟩)
theorem okG_len {c : Int} {st : List Frame} {got : List Int} (h : okG c st got = true) : 0 ≤ c ∧ c ≤ 3 ∧ got.length ≤ 1 := by
  obtain ⟨k, r, rfl, h1, h2, h3, h4⟩ := okG_inv h
  rcases h4 with ⟨_, rfl⟩ | ⟨x, rfl, _⟩
  · exact ⟨h1, h2, by simp⟩
  · exact ⟨h1, h2, by simp⟩
theorem goR_is {c : Int} {st : List Frame} {got : List Int} (h : okG c st got = true) (hi : (goR st got).is = true) : (goR st got).over = false ∧ (goR st got).st.length = 1 ∧ (goR st got).got = got := by
  obtain ⟨k, r, rfl, h1, h2, h3, h4⟩ := okG_inv h
  simp only [goR] at hi ⊢
  rcases goF_cases k r got (got.headD 0) with ⟨r', n, cell, e⟩ | ⟨r', n, cell, b, v, e⟩ | ⟨l, hl, e⟩
  · rw [e]; exact ⟨rfl, rfl, rfl⟩
  · rw [e]; exact ⟨rfl, rfl, rfl⟩
  · rw [e] at hi; cases hi
theorem goR_end {c : Int} {st : List Frame} {got : List Int} (h : okG c st got = true) (hi : (goR st got).is = false) : (goR st got).st = [] ∧ (goR st got).got.length ≤ 2 := by
  obtain ⟨k, r, rfl, h1, h2, h3, h4⟩ := okG_inv h
  simp only [goR] at hi ⊢
  rcases goF_cases k r got (got.headD 0) with ⟨r', n, cell, e⟩ | ⟨r', n, cell, b, v, e⟩ | ⟨l, hl, e⟩
  · rw [e] at hi; cases hi
  · rw [e] at hi; cases hi
  · rw [e]; exact ⟨rfl, hl⟩
section
variable {C : Cdc} {P : Program} {T : Tab C} {Φ : Fns C}
open Pg (Ex)
noncomputable def cdec (P : Prop) : Bool := @decide P (Classical.propDecidable P)
theorem cdec_iff {P : Prop} : cdec P = true ↔ P := by
  unfold cdec
  exact @decide_eq_true_iff P (Classical.propDecidable P)
theorem cdec_true {P : Prop} (h : P) : cdec P = true := cdec_iff.2 h
structure FunR (C : Cdc) (σ : Type) where
  k : Nat
  args : σ → List (D C)
  objs : σ → List (Obj C)
  fin : σ → RT C
  Inv : σ → Prop
def fnO (T : Tab C) (Φ : Fns C) (g n k : Nat) (args : List (D C)) (os : List (Obj C)) : Option (D C × List (Option (Obj C))) :=
  (enterD T Φ (evC T Φ n) g args).run (0, 0) (hpOf 0 os) k [] fun d h _ _ => some (d, getsL 0 k h)
def LedF {σ : Type} (S : FunR C σ) (s : σ) (r : D C × List (Option (Obj C))) : Prop := ∃ os, (S.fin s).val = some ((.ret, [(0, r.1)]), os) ∧ r.2 = os.map some
def resF {σ : Type} (S : FunR C σ) (d : Env C → List (Obj C) → Option (Bool × σ)) (env : Env C) (os : List (Obj C)) : RT C := match d env os with
  | some (b, q) => .br b (S.fin q) .fail
  | none => .fail
def sumF (T : Tab C) (fs : List Fnd) (n : Nat) {σ : Type} (S : FunR C σ) (d : Env C → List (Obj C) → Option (Bool × σ)) (args : List (D C)) : Pg C (D C) :=
  bif Nat.beq args.length n then .bind (sumO T fs (List.range n) (resF S d) (eargs 0 args)) fun r => .ret (eget r.2 0) else .fail
theorem EnvOK.args (K : PLaws P T) {X : Cx} {nx : Nat} {lim : Lim} {args : List (D C)} {vs : List Value} (h : RVs T X args vs) (hr : ∀ a ∈ args, ∀ id ∈ D.refs a, old nx lim id) : EnvOK T X nx lim (eargs 0 args) (⟨vs⟩ : Array Value) := by
  intro t
  rw [eargs_get]
  simp only [Nat.zero_le, if_true, Nat.sub_zero]
  refine ⟨?_, ?_⟩
  · have := h.get t
    have e : (⟨vs⟩ : Array Value).getD t undef = vs.getD t undef := by simp [Array.getD_eq_getD_getElem?]
    rw [e]; exact this
  · by_cases ht : t < args.length
    · exact hr _ (by simp [List.getD_eq_getElem?_getD, ht])
    · have : args.getD t .top = .top := by
        simp only [List.getD_eq_getElem?_getD]
        rw [List.getElem?_eq_none (by omega)]; rfl
      rw [this]; simp [D.refs]
theorem RVs.of_get {X : Cx} : ∀ (args : List (D C)) (vs : List Value), args.length = vs.length → (∀ i, i < args.length → RV T X (args.getD i .top) (vs.getD i undef)) → RVs T X args vs
  | [], [], _, _ => .nil
  | [], _ :: _, h, _ => by simp at h
  | _ :: _, [], h, _ => by simp at h
  | d :: ds, v :: vs, h, hg => .cons (by simpa using hg 0 (by simp)) (RVs.of_get ds vs (by simpa using h) fun i hi => by simpa using hg (i + 1) (by simpa using hi))
theorem RVs.of_env {X : Cx} {nx : Nat} {lim : Lim} {args : List (D C)} {vs : List Value} (hl : args.length = vs.length) (h : EnvOK T X nx lim (eargs 0 args) (⟨vs⟩ : Array Value)) : RVs T X args vs := by
  refine RVs.of_get args vs hl fun i hi => ?_
  have := (h i).1
  rw [eargs_get] at this
  simpa [Array.getD_eq_getD_getElem?] using this
theorem eargs_mem : ∀ (l : List (D C)) (n i : Nat) (h : i < l.length), (n + i, l[i]) ∈ eargs n l
  | [], _, _, h => by simp at h
  | d :: l, n, 0, _ => by simp [eargs]
  | d :: l, n, i + 1, h => by
    have := eargs_mem l (n + 1) i (by simpa using h)
    simp only [eargs, List.mem_cons]
    right
    rw [show n + (i + 1) = n + 1 + i by omega]
    simpa using this
theorem keep_objs (K : PLaws P T) {X X1 : Cx} {h' : Heap C} {k nx' : Nat} (g1 : G T X1 h' nx' (lim0 nx')) (s1 : Step X k (lim0 nx') X1) (hle : k ≤ nx') {os : List (Obj C)} {d : D C} {v : Value} (q : RefsOK k [(0, d)] os)
    (hget : ∀ j, j < k → h'.get j = os[j]?) (rd : RO T X1 nx' (lim0 nx') d v) : ∃ X2, X2.w = X1.w ∧ G T X2 (hpOf 0 os) k (lim0 k) ∧ Step X k (lim0 k) X2 ∧ RO T X2 k (lim0 k) d v := by
  obtain ⟨q1, q2, q3⟩ := q
  obtain ⟨X2, w2, g2, s2, hρ⟩ := G.drop K.base g1 (h' := hpOf 0 os) (fun id => by
    rw [hpOf_get0]
    by_cases hid : id < k
    · exact .inl (hget id hid).symm
    · exact .inr (List.getElem?_eq_none (by omega)))
  have hnone : ∀ id, ¬ id < k → X2.ρ id = none := fun id hid => by
    cases hq : X2.ρ id with
    | none => rfl
    | some l =>
      have := g2.dom id l hq
      rw [hpOf_get0, List.getElem?_eq_none (by omega)] at this
      cases this
  have s3 := s1.trans s2 hle
  refine ⟨X2, w2, g2.relim2 (hpOf_nums q1 q3) (Nat.le_refl _) (Nat.zero_le _) (fun _ h => h), ⟨s3.O, s3.os, s3.tape, s3.output, s3.size, fun id ho => ?_, s3.mine, s3.cell, s3.block, s3.frz⟩, ?_⟩
  · by_cases hid : id < k
    · exact s3.ρ id ⟨.inl hid, fun h => h⟩
    · rw [hnone id hid]; cases X.ρ id <;> simp [Compat]
  · have hrt : ∀ r ∈ d.refs, r < k := q2 (0, d) (by simp)
    exact ⟨rd.1.mono T K.base.encRefs s2.keeps fun r hh => s2.ρ r ⟨.inl (by have := hrt r hh; omega), fun h => h⟩, fun r hh => ⟨.inl (hrt r hh), fun h => h⟩⟩
theorem call_obj (K : PLaws P T) (F : FLaws P T Φ) {g : Nat} {fs : List Fnd} {m n : Nat} {σ : Type} {S : FunR C σ}
    (hr : ∀ q, S.Inv q → RefsOK S.k (eargs 0 (S.args q)) (S.objs q) ∧ (S.fin q).refsOK S.k ∧ (S.args q).length = m ∧ Leaf (fnO T Φ g n S.k (S.args q) (S.objs q)) (LedF S q))
    (d : Env C → List (Obj C) → Option (Bool × σ)) (hd : ∀ env os b q, d env os = some (b, q) → b = true → S.Inv q ∧ eargs 0 (S.args q) = env ∧ S.objs q = os) : CallLaw P T g (sumF T fs m S d) := by
  intro args vs X h nx lim e dd h' nx' tr gg hargs hrefs hlim hx
  unfold sumF at hx
  cases hm : Nat.beq args.length m with
  | false => rw [hm] at hx; exact (Ex.fail hx).elim
  | true =>
  rw [hm] at hx
  simp only [cond_true] at hx
  have hm := Nat.eq_of_beq_eq_true hm
  obtain ⟨⟨x, env'⟩, h9, n9, t8, t9, hx0, hret, _⟩ := Ex.bind hx
  obtain ⟨hdd, e1h, e1n, _⟩ := Ex.ret hret
  subst e1h
  subst e1n
  have he := EnvOK.args K hargs hrefs
  unfold sumO at hx0
  obtain ⟨X1, h1, nx1, env1, ids, tr1, w1, g1, s1, hn1, e1, hx1⟩ := findP_ok K hlim fs X h nx _ _ [] gg he hx0
  cases hnd : nodupB ids with
  | false => rw [hnd] at hx1; exact (Ex.fail hx1).elim
  | true =>
  rw [hnd] at hx1
  simp only [cond_true] at hx1
  have hnodup := nodupB_spec hnd
  obtain ⟨os, tr2, hlen, hos, hx2⟩ := rdAll_ok ids _ _ hx1
  cases hin : inB ids ((List.range m).flatMap fun t => (eget env1 t).refs) && inB ids (os.flatMap Obj.refs) with
  | false => rw [hin] at hx2; exact (Ex.fail hx2).elim
  | true =>
  rw [hin] at hx2
  simp only [cond_true] at hx2
  simp only [Bool.and_eq_true] at hin
  have hin1 := inB_spec hin.1
  have hin2 := inB_spec hin.2
  obtain ⟨xx, ee, os', hq, hx3⟩ := RT.pg_ok _ _ hx2
  unfold resF at hq
  split at hq
  · rename_i b q hdq
    cases b with
    | false => simp [RT.val] at hq
    | true =>
    simp only [RT.val, cond_true] at hq
    obtain ⟨hI, hcan, hobjs⟩ := hd _ _ _ _ hdq rfl
    obtain ⟨hr1, hr2, hlenA, r, hr3, hr4⟩ := hr q hI
    obtain ⟨h2, tr3, hl2, hw1, hw2, hx4⟩ := wrAll_ok ids _ h1 _ hnodup hx3
    obtain ⟨hxx, eh, en, _⟩ := Ex.ret hx4
    obtain ⟨rfl, rfl⟩ := Prod.mk.inj hxx
    subst eh
    subst en
    let f : Nat → Nat := fun j => ids.getD j 0
    have hfj : ∀ j, j < ids.length → ids[j]? = some (f j) := fun j hj => by simp [f, hj]
    have hk0 : ids.length = S.k := by rw [← hr1.1, hobjs]; simp [hlen]
    have hff : ∀ r, r ∈ ids → f (idx ids r) = r := fun r hr => by
      have := idx_spec ids r hr
      simp only [f, List.getD_eq_getElem?_getD, this, Option.getD_some]
    have hlenO : (S.objs q).length = ids.length := by rw [hr1.1, hk0]
    have part : Part h1 (S.objs q) f := by
      refine ⟨fun j o ho => ?_, fun i j hi hj hij => ?_, fun o ho r hr => by rw [hr1.1]; exact hr1.2.2 o ho r hr⟩
      · rw [hobjs, List.getElem?_map] at ho
        cases hoj : os[j]? with
        | none => simp [hoj] at ho
        | some o0 =>
          simp only [hoj, Option.map_some, Option.some.injEq] at ho
          have hj : j < ids.length := by rw [← hlen]; exact (List.getElem?_eq_some_iff.1 hoj).1
          rw [hos j (f j) o0 (hfj j hj) hoj, ← ho, Obj.ren_ren]
          intro id hid
          exact hff id (hin2 id (List.mem_flatMap.2 ⟨o0, List.mem_of_getElem? hoj, hid⟩))
      · rw [hlenO] at hi hj
        have := (List.getElem?_inj hi hnodup (j := j)).1 (by rw [hfj i hi, hfj j hj]; simp only [f] at hij ⊢; rw [hij])
        exact this
    have g2 := Part.ctx K.base g1 part (S.objs q).length
    have e2 : EnvOK T (X1.part (S.objs q).length f) (S.objs q).length (lim0 (S.objs q).length) (eargs 0 (S.args q)) (⟨vs⟩ : Array Value) := by
      refine EnvOK.part K.base e1 part.inj (fun p hp => ?_) (fun p hp r hr => by rw [hr1.1]; exact hr1.2.1 p hp r hr)
      rw [hcan] at hp
      simp only [List.mem_map] at hp
      obtain ⟨t, ht, rfl⟩ := hp
      simp only
      rw [D.ren_ren]
      intro id hid
      exact hff id (hin1 id (List.mem_flatMap.2 ⟨t, ht, hid⟩))
    rw [hr1.1] at g2 e2
    obtain ⟨d0, hh, nn, tt, hex, hsome⟩ := Pg.run_some hr3
    simp only [Option.some.injEq] at hsome
    subst hsome
    obtain ⟨os2, hv2, hg2⟩ := hr4
    rw [hq] at hv2
    simp only [Option.some.injEq, Prod.mk.injEq] at hv2
    obtain ⟨⟨rfl, rfl⟩, rfl⟩ := hv2
    have hgets := getsL_get S.k 0 hh _ hg2
    simp only [Nat.zero_add] at hgets
    obtain ⟨x5, env5, os5, hv5, hok5⟩ := RT.refsOK_val hr2
    rw [hq] at hv5
    simp only [Option.some.injEq, Prod.mk.injEq] at hv5
    obtain ⟨⟨rfl, rfl⟩, rfl⟩ := hv5
    have hle : S.k ≤ nn := hex.le
    have g0 : G T (X1.part S.k f) (hpOf 0 (S.objs q)) S.k (lim0 nn) := g2.relim2 (hpOf_nums hr1.1 hr1.2.2) (Nat.le_refl _) (Nat.zero_le _) (fun _ h => h)
    have hvs : RVs T (X1.part S.k f) (S.args q) vs := RVs.of_env (by rw [hlenA, ← hm]; exact RVs.length T hargs) e2
    have hrefs0 : ∀ a ∈ S.args q, ∀ id ∈ D.refs a, old S.k (lim0 nn) id := fun a ha id hid => ⟨.inl (by
      obtain ⟨i, hi, hia⟩ := List.getElem_of_mem ha
      refine hr1.2.1 (0 + i, a) ?_ id hid
      rw [← hia]; exact eargs_mem _ _ _ hi), fun h => h⟩
    obtain ⟨c1, c2⟩ := enter_ok K F n g (S.args q) vs (X1.part S.k f) (hpOf 0 (S.objs q)) S.k (lim0 nn) (0, 0) d0 hh nn tt g0 hvs hrefs0 (Nat.le_refl _) hex
    have hw : (X1.part S.k f).w = X.w := w1
    rw [hw] at c1 c2
    refine ⟨c1, c2.mono fun en w9 hp => ?_⟩
    obtain ⟨v, X2, rfl, hX2, g3, s3, ro3⟩ := hp
    obtain ⟨X3, w3, g4, s4, ro4⟩ := keep_objs K g3 s3 hle hok5 hgets ro3
    have hlen' : os'.length = (S.objs q).length := by rw [hok5.1, hr1.1]
    have hrefs' : ∀ o ∈ os', ∀ r ∈ Obj.refs o, r < (S.objs q).length := fun o ho r hr => by rw [hr1.1]; exact hok5.2.2 o ho r hr
    obtain ⟨X4, w4, g5, s5, hρ, hB2⟩ := Part.back K.base g1 part hlen' hrefs' (X1 := X3) (lim1 := lim0 S.k) (h' := h') (by rw [hr1.1]; exact g4) (by rw [hr1.1]; exact s4) (fun j o hj => by
        have hlt : j < ids.length := by rw [← hlenO, ← hlen']; exact (List.getElem?_eq_some_iff.1 hj).1
        exact hw1 j (f j) _ (hfj j hlt) (by rw [List.getElem?_map, hj]; rfl)) (fun id hid => by
        refine hw2 id fun hm => ?_
        obtain ⟨j, hj, hjj⟩ := List.getElem_of_mem hm
        refine hid j (by rw [hlenO]; exact hj) ?_
        simp [f, hj, hjj])
    have hold : ∀ j, j < S.k → old nx' lim (f j) := fun j hj => by
      have hj' : j < (S.objs q).length := by rw [hr1.1]; exact hj
      exact (g1.nums _ _ (part.at' j (S.objs q)[j] (by simp [hj']))).1
    have e4 : EnvOK T X3 S.k (lim0 S.k) [(0, d0)] (#[v] : Array Value) := fun t => by
      rw [eget_cons]
      by_cases ht : t = 0
      · subst ht; simpa using ro4
      · simp only [ht, if_false, eget]; exact RO.mk (RV.top _ _ _) rfl
    have e5 := EnvOK.back (nx := nx') (lim := lim) (f := f) K.base e4 (fun p hp r hr => hok5.2.1 p hp r hr) (fun j hj => hρ j (by rw [hr1.1]; exact hj)) hB2 hold
    have ro5 := e5 0
    refine ⟨v, X4, rfl, by rw [w4, w3, hX2], g5, s1.trans s5 hn1, ?_⟩
    rw [hdd]
    exact ro5
  · simp [RT.val] at hq
theorem FLaws.addFun (K : PLaws P T) (F : FLaws P T Φ) {g : Nat} {σ : Type} (S : FunR C σ) (n m : Nat) (fs : List Fnd) (d : Env C → List (Obj C) → Option (Bool × σ))
    (hr : ∀ q, S.Inv q → RefsOK S.k (eargs 0 (S.args q)) (S.objs q) ∧ (S.fin q).refsOK S.k ∧ (S.args q).length = m ∧ Leaf (fnO T Φ g n S.k (S.args q) (S.objs q)) (LedF S q))
    (hd : ∀ env os b q, d env os = some (b, q) → b = true → S.Inv q ∧ eargs 0 (S.args q) = env ∧ S.objs q = os) : FLaws P T (Φ.addObj g (sumF T fs m S d)) := F.addObj (call_obj K F hr d hd)
theorem leafF {σ : Type} {S : FunR C σ} {s : σ} {d : D C} {os : List (Option (Obj C))} (os' : List (Obj C)) (h1 : (S.fin s).val = some ((.ret, [(0, d)]), os')) (h2 : os = os'.map some) : Leaf (some (d, os)) (LedF S s) :=
  leaf_some.2 ⟨os', h1, h2⟩
end
open Go.Proofs
structure step17_St where
  c : Int
  now : List Sector
  sure : List Sector
  cs : List Int
  ts : List Task
  busy : List Bool
def step17_a (c : Int) (now : List Sector) (sure : List Sector) (cs : List Int) (ts : List Task) (busy : List Bool) : List (D RC) := [.ptr 0 [], .int .i64 c]
def step17_o (c : Int) (now : List Sector) (sure : List Sector) (cs : List Int) (ts : List Task) (busy : List Bool) : List (Obj RC) := [.var 47 (.acons (.acons (.sl (C := RC) .int false cs) (.acons (.acons (.sl (C := RC) .sector false now) (.acons (.sl (C := RC) .sector false sure) .anil)) .anil)) (.acons (.arr (C := RC) .task 4 ts) (.acons (.arr (C := RC) .task 4 (ts)) (.acons (.arr (C := RC) .bool 4 busy) .anil))))]
noncomputable def step17_r (c : Int) (now : List Sector) (sure : List Sector) (cs : List Int) (ts : List Task) (busy : List Bool) := fnO s17 uf_3 16 60 1 (step17_a c now sure cs ts busy) (step17_o c now sure cs ts busy)
theorem step17_eq (c : Int) (now : List Sector) (sure : List Sector) (cs : List Int) (ts : List Task) (busy : List Bool) : step17_r c now sure cs ts busy = (let Z0 : Bool := decide ((0 : Int) ≤ c ∧ c < (4 : Int)); let Z1 : Nat := Int.toNat c; let Z2 : Task := Task.mk (0 : Int) [] [] false; let Z3 : Task := List.getD ts Z1 Z2; let Z4 : Int := Task.client Z3; let Z5 : Bool := okG Z4 (Task.stack Z3) (Task.got Z3) && !Task.over Z3; let Z6 : GoR := goR (Task.stack Z3) (Task.got Z3); let Z7 : Bool := GoR.is Z6; let Z8 : D RC := D.sl RTy.int true []; let Z9 : D RC := D.bool false; let Z10 : D RC := .anil; let Z11 : D RC := D.tup (D.acons Z8 (D.acons Z9 (D.acons Z9 Z10))); let Z12 : D RC := D.acons (D.acons (D.sl RTy.sector false now) (.acons (D.sl RTy.sector false sure) Z10)) Z10; let Z13 : D RC := D.acons (D.sl RTy.int false cs) Z12; let Z14 : D RC := D.arr RTy.task (4 : Nat) ts; let Z15 : D RC := D.acons (D.arr RTy.bool (4 : Nat) busy) Z10; let Z16 : Option (D RC × List (Option (Obj RC))) := some (Z11, [some (Obj.var 47 (.acons Z13 (D.acons Z14 (D.acons Z14 Z15))))]); let Z17 : Int := GoR.kind Z6; let Z18 : Int := GoR.a Z6; let Z19 : Int := GoR.b Z6; let Z20 : Nat := List.length (GoR.st Z6); let Z21 : Bool := (↑Z20 : Int) == (0 : Int); let Z22 : Nat := List.length (GoR.got Z6); let Z23 : D RC := D.bool true; let Z24 : D RC := D.acons (D.arr RTy.bool (4 : Nat) (List.set busy Z1 false)) Z10; let Z25 : List (Option (Obj RC)) := [some (Obj.var 47 (.acons Z13 (D.acons Z14 (D.acons Z14 Z24))))]; let Z26 : Option (D RC × List (Option (Obj RC))) := none; let Z27 : D RC := D.acons Z23 (D.acons Z9 Z10); let Z28 : Bool := decide ((0 : Int) ≤ Z4 ∧ Z4 ≤ (3 : Int) ∧ Z22 ≤ (96 : Nat) ∧ (1 : Nat) ≤ Z20 ∧ Z20 ≤ (6 : Nat)) && !GoR.over Z6; let Z29 : List Task := List.set ts Z1 (Task.mk Z4 (GoR.st Z6) [doG cs Z17 Z18 Z19] (GoR.over Z6)); let Z30 : Task := List.getD Z29 Z1 Z2; let Z31 : Bool := okG (Task.client Z30) (Task.stack Z30) (Task.got Z30) && !Task.over Z30; let Z32 : GoR := goR (Task.stack Z30) (Task.got Z30); let Z33 : Bool := GoR.is Z32; let Z34 : D RC := D.acons (D.sl RTy.int false (doC cs Z17 Z18 Z19 (GoR.v Z6))) Z12; let Z35 : D RC := D.arr RTy.task (4 : Nat) Z29; let Z36 : List (Option (Obj RC)) := [some (Obj.var 47 (.acons Z34 (D.acons Z35 (D.acons Z35 Z15))))]; let Z37 : Nat := List.length (GoR.st Z32); let Z38 : Bool := (↑Z37 : Int) == (0 : Int); let Z39 : List Int := GoR.got Z32; let Z40 : List (Option (Obj RC)) := [some (Obj.var 47 (.acons Z34 (D.acons Z35 (D.acons Z35 Z24))))]; let Z41 : Option (D RC × List (Option (Obj RC))) := bif Z33 then some (D.tup (D.acons Z8 (D.acons Z9 (D.acons Z23 Z10))), Z36) else bif Z0 then bif lenOK Z37 then bif Z38 then bif lenOK Z37 then bif Z38 then bif lenOK Z39.length && lenOK Z39.length then some (D.tup (D.acons (D.sl RTy.int false Z39) (.acons Z23 (D.acons (D.bool (decide (Z39 = Z39))) Z10))), Z40) else Z26 else some (D.tup (D.acons (D.sl RTy.int false Z39) Z27), Z40) else Z26 else some (D.tup (D.acons (D.sl RTy.int false Z39) Z27), Z40) else Z26 else Z26; let Z42 : Option (D RC × List (Option (Obj RC))) := bif !Z7 then bif Z0 then bif lenOK Z20 then bif Z21 then bif lenOK Z20 then bif Z21 then bif lenOK Z22 && lenOK Z22 then some (D.tup (D.acons Z8 (D.acons Z23 (D.acons (D.bool (decide (GoR.got Z6 = GoR.got Z6))) Z10))), Z25) else Z26 else some (D.tup (D.acons Z8 Z27), Z25) else Z26 else some (D.tup (D.acons Z8 Z27), Z25) else Z26 else Z26 else bif decide (OkDo cs Z17 Z18 Z19 (GoR.v Z6)) && (cellsOK cs && (diskOK now sure && (goodL now && goodL sure))) then bif Z28 then bif Z0 then bif Z28 then bif Z0 then bif Z0 then bif Z31 then bif Z0 then bif Z31 then bif !Z33 == Z33 then some (Z11, Z36) else bif Z33 then bif !decide (GoR.kind Z32 = GoR.kind Z32 ∧ GoR.a Z32 = GoR.a Z32 ∧ GoR.b Z32 = GoR.b Z32 ∧ GoR.v Z32 = GoR.v Z32 ∧ (0 : Int) = (0 : Int)) then some (Z11, Z36) else Z41 else Z41 else Z26 else Z26 else Z26 else Z26 else Z26 else Z26 else Z26 else Z26 else Z26; bif Z0 then bif Z5 then bif Z0 then bif Z5 then bif !Z7 == Z7 then Z16 else bif Z7 then bif !decide (Z17 = Z17 ∧ Z18 = Z18 ∧ Z19 = Z19 ∧ GoR.v Z6 = GoR.v Z6 ∧ (0 : Int) = (0 : Int)) then Z16 else Z42 else Z42 else Z26 else Z26 else Z26 else Z26) := by kernel_rfl
def step17_fin (c : Int) (now : List Sector) (sure : List Sector) (cs : List Int) (ts : List Task) (busy : List Bool) : RT RC := .leaf .ret [(0, .tup (.acons (.sl (C := RC) .int (stE cs (tkC ts c)).is (bif (stE cs (tkC ts c)).is then [] else (stE cs (tkC ts c)).got)) (.acons (.bool (!(stE cs (tkC ts c)).is)) (.acons (.bool true) .anil))))] (step17_o c now sure (stCs cs (tkC ts c)) (ts.set c.toNat (stT cs (tkC ts c))) (bif (stE cs (tkC ts c)).is then busy else busy.set c.toNat false))
def step17_Inv (c : Int) (now : List Sector) (sure : List Sector) (cs : List Int) (ts : List Task) (busy : List Bool) : Prop := 0 ≤ c ∧ c ≤ 3 ∧ ts.length = 4 ∧ OkStep cs (tkC ts c) now sure
def step17_S : FunR RC step17_St where
  k := 1
  args q := step17_a q.c q.now q.sure q.cs q.ts q.busy
  objs q := step17_o q.c q.now q.sure q.cs q.ts q.busy
  fin q := step17_fin q.c q.now q.sure q.cs q.ts q.busy
  Inv q := step17_Inv q.c q.now q.sure q.cs q.ts q.busy
theorem step17_ok (c : Int) (now : List Sector) (sure : List Sector) (cs : List Int) (ts : List Task) (busy : List Bool) (hI : step17_Inv c now sure cs ts busy) : Leaf (step17_r c now sure cs ts busy) (LedF step17_S ⟨c, now, sure, cs, ts, busy⟩) := by
  (rw [step17_eq]; conv => zeta)
  unfold step17_Inv at hI
  obtain ⟨h1, h2, h3, h4⟩ := hI
  have hc : decide ((0 : Int) ≤ c ∧ c < 4) = true := by simp; omega
  have hset : ∀ T' d : Task, (ts.set c.toNat T').getD c.toNat d = T' := fun T' d => by
    rw [List.getD_eq_getElem?_getD, List.getElem?_set_self (by omega)]; rfl
  have hfin : ∀ t, tkC ts c = t → step17_fin c now sure cs ts busy = .leaf .ret [(0, .tup (.acons (.sl (C := RC) .int (stE cs t).is (bif (stE cs t).is then [] else (stE cs t).got)) (.acons (.bool (!(stE cs t).is)) (.acons (.bool true) .anil))))] (step17_o c now sure (stCs cs t) (ts.set c.toNat (stT cs t)) (bif (stE cs t).is then busy else busy.set c.toNat false)) := fun t ht => by
    unfold step17_fin; rw [ht]
  simp only [hset]
  have ht : tkC ts c = ts.getD c.toNat ⟨0, [], [], false⟩ := rfl
  generalize ts.getD c.toNat ⟨0, [], [], false⟩ = t at ht ⊢
  have hfin := hfin t ht
  rw [ht] at h4
  obtain ⟨k1, k2, k3, k4, k5, k6, k7, k8, k9⟩ := h4
  have kl := okG_len k1
  have ki := goR_is k1 k3
  simp only [stG] at k3 k4 k9
  have e1 : decide (0 ≤ t.client ∧ t.client ≤ 3 ∧ (goR t.stack t.got).got.length ≤ 96 ∧ 1 ≤ (goR t.stack t.got).st.length ∧ (goR t.stack t.got).st.length ≤ 6) = true := by
    rw [ki.2.1, ki.2.2]; simp; omega
  have e2 : decide (OkDo cs (goR t.stack t.got).kind (goR t.stack t.got).a (goR t.stack t.got).b (goR t.stack t.got).v) = true := decide_eq_true k4
  simp only [stX, stG] at k9
  simp only [hc, k1, k2, k3, e1, e2, k5, k6, k7, k8, k9, ki.1, Bool.not_false, Bool.not_true, Bool.and_self, cond_true, cond_false, decide_true, and_self]
  have q1 : ∀ b : Bool, (!(b == b)) = false := fun b => by cases b <;> rfl
  simp only [q1, cond_false]
  have hE : stE cs t = goR (goR t.stack t.got).st [doG cs (goR t.stack t.got).kind (goR t.stack t.got).a (goR t.stack t.got).b] := rfl
  rw [← hE]
  have hobj : ∀ b : List Bool, [some (Obj.var (C := RC) 47 (.acons (.acons (.sl (C := RC) .int false (doC cs (goR t.stack t.got).kind (goR t.stack t.got).a (goR t.stack t.got).b (goR t.stack t.got).v)) (.acons (.acons (.sl (C := RC) .sector false now) (.acons (.sl (C := RC) .sector false sure) .anil)) .anil)) (.acons (.arr (C := RC) .task 4 (ts.set c.toNat ⟨t.client, (goR t.stack t.got).st, [doG cs (goR t.stack t.got).kind (goR t.stack t.got).a (goR t.stack t.got).b], false⟩)) (.acons (.arr (C := RC) .task 4 (ts.set c.toNat ⟨t.client, (goR t.stack t.got).st, [doG cs (goR t.stack t.got).kind (goR t.stack t.got).a (goR t.stack t.got).b], false⟩)) (.acons (.arr (C := RC) .bool 4 b) .anil)))))] = (step17_o c now sure (stCs cs t) (ts.set c.toNat (stT cs t)) b).map some := fun b => by
    simp only [step17_o, stCs, stT, stX, stG, ki.1, List.map_cons, List.map_nil]
  cases hi : (stE cs t).is with
  | true =>
    simp only [cond_true]
    refine leafF (step17_o c now sure (stCs cs t) (ts.set c.toNat (stT cs t)) busy) ?_ (hobj _)
    show (step17_fin c now sure cs ts busy).val = _
    rw [hfin]
    simp only [RT.val, hi, cond_true, Bool.not_true]
  | false =>
    have k9e : (goR (goR t.stack t.got).st [doG cs (goR t.stack t.got).kind (goR t.stack t.got).a (goR t.stack t.got).b]).st = [] ∧ (goR (goR t.stack t.got).st [doG cs (goR t.stack t.got).kind (goR t.stack t.got).a (goR t.stack t.got).b]).got.length ≤ 2 := goR_end k9 hi
    rw [← hE] at k9e
    have l1 : lenOK (stE cs t).got.length = true := lenOK_of (by omega)
    have l2 : lenOK ([] : List Frame).length = true := rfl
    have l3 : (((([] : List Frame).length : Nat) : Int) == 0) = true := rfl
    rw [k9e.1]
    simp only [l1, l2, l3, cond_true, cond_false]
    refine leafF (step17_o c now sure (stCs cs t) (ts.set c.toNat (stT cs t)) (busy.set c.toNat false)) ?_ (hobj _)
    show (step17_fin c now sure cs ts busy).val = _
    rw [hfin]
    simp only [RT.val, hi, cond_false, Bool.not_false]
def step17_d (env : Env RC) (os : List (Obj RC)) : Option (Bool × step17_St) := match env, os with
  | [(0, .ptr 0 []), (1, .int .i64 c)], [.var 47 (.acons (.acons (.sl .int false cs) (.acons (.acons (.sl .sector false now) (.acons (.sl .sector false sure) .anil)) .anil)) (.acons (.arr .task 4 ts) (.acons (.arr .task 4 x0) (.acons (.arr .bool 4 busy) .anil))))] => staticD (true) (decide (x0 = ts) && decide (0 ≤ c ∧ c ≤ 3 ∧ ts.length = 4 ∧ OkStep cs (tkC ts c) now sure), ⟨c, now, sure, cs, ts, busy⟩)
  | _, _ => none
noncomputable def ug_1 := uf_3.addObj 16 (sumF s17 [.slot 0 0] 2 step17_S step17_d)
theorem ug_1_laws : FLaws Tryz.prog s17 ug_1 := by
  refine uf_3_laws.addFun s17_laws step17_S 60 2 [.slot 0 0] step17_d (fun q hI => ?_) ?_
  · obtain ⟨c, now, sure, cs, ts, busy⟩ := q
    refine ⟨?_, ?_, rfl, step17_ok c now sure cs ts busy hI⟩
    · simp [RefsOK, step17_S, step17_a, step17_o, eargs, D.refs, Obj.refs]
    · simp [step17_S, step17_fin, step17_o, RT.refsOK, RefsOK, D.refs, Obj.refs]
  · intro env os b q hd_ hb
    unfold step17_d at hd_
    split at hd_
    · obtain ⟨hs, hd_⟩ := staticD_some hd_
      cases hd_
      simp only [Bool.and_eq_true, decide_eq_true_eq] at hb
      obtain ⟨e1, e2⟩ := hb
      subst e1
      exact ⟨e2, rfl, rfl⟩
    · cases hd_
def regs' (w d : Int) : List Int := w :: d :: List.replicate 94 0
def hnd (c n : Int) : Int := (n % 1000 + 1) * 256 + c
structure GS where
  cs : List Int
  ts : List Task
  busy : List Bool
  n : Int
  has : List Int
  told : List Int
def isBusy (s : GS) (c : Int) : Bool := s.busy.getD c.toNat false
def beginG (w : Int) (s : GS) (c h : Int) : GS :=
  { s with ts := s.ts.set c.toNat ⟨c, [⟨68, 0, regs' w h⟩], [], false⟩, busy := s.busy.set c.toNat true }
def beginP (w : Int) (s : GS) (c : Int) : GS :=
  if isBusy s c then s else beginG w { s with n := s.n + 1, has := s.has.set c.toNat (hnd c (s.n + 1)) } c (hnd c (s.n + 1))
def stepS (s : GS) (c : Int) : GS :=
  { s with cs := stCs s.cs (tkC s.ts c), ts := s.ts.set c.toNat (stT s.cs (tkC s.ts c)), busy := bif (stE s.cs (tkC s.ts c)).is then s.busy else s.busy.set c.toNat false }
def newTold (s : GS) (c : Int) : List Int :=
  if (stE s.cs (tkC s.ts c)).is = false ∧ (stE s.cs (tkC s.ts c)).got.length = 2 ∧ (stE s.cs (tkC s.ts c)).got.getD 0 0 = 0 then [(stE s.cs (tkC s.ts c)).got.getD 1 0] else []
def stepP (s : GS) (c : Int) : GS := if isBusy s c then { stepS s c with told := s.told ++ newTold s c } else s
def frontG (s : GS) : Int := s.cs.getD 0 0
def doneP (w : Int) (s : GS) : GS :=
  if plc (s.cs.getD (lRing (frontG s + 1) w).toNat 0) = frontG s + 1 then { s with cs := s.cs.set 0 (frontG s + 1) } else s
def ckptP (s : GS) : GS := { s with cs := s.cs.set 4 (frontG s) }
def pickG (w : Int) (s : GS) (x dd : Int) : GS :=
  if dd = 0 then beginP w s (x % 4) else if dd = 1 then stepP s (x % 4) else if dd = 2 then doneP w s else if dd = 3 then ckptP s else s
def OkPick (w : Int) (s : GS) (now sure : List Sector) (c : Int) : Prop :=
  2 ≤ w ∧ w ≤ 8 ∧ s.ts.length = 4 ∧ s.busy.length = 4 ∧ s.has.length = 4 ∧ 0 ≤ s.n ∧ s.n ≤ 1000000 ∧ s.cs.length = 771 ∧ 0 ≤ frontG s ∧ frontG s ≤ 1000000000 ∧ s.told.length ≤ 1000000 ∧ (isBusy s c = true → OkStep s.cs (tkC s.ts c) now sure)
theorem mod4 (x : Int) : Int.tmod (IntKind.i64.wrap (Int.tmod x 4 + 4)) 4 = x % 4 := by
  have h1 : -4 < Int.tmod x 4 := Int.lt_tmod_of_pos _ (by decide)
  have h2 : Int.tmod x 4 < 4 := Int.tmod_lt_of_pos _ (by decide)
  rw [wrap_id (by omega) (by omega), Int.tmod_eq_emod_of_nonneg (by omega)]
  have h3 : x = 4 * (x.tdiv 4) + x.tmod 4 := (Int.mul_tdiv_add_tmod x 4).symm
  omega
open Go.Proofs
structure pick17_St where
  x : Int
  dd : Int
  w : Int
  now : List Sector
  sure : List Sector
  cs : List Int
  ts : List Task
  busy : List Bool
  m : Int
  has : List Int
  told : List Int
def pick17_a (x : Int) (dd : Int) (w : Int) (now : List Sector) (sure : List Sector) (cs : List Int) (ts : List Task) (busy : List Bool) (m : Int) (has : List Int) (told : List Int) : List (D RC) := [.ptr 0 [], .acons (.int .i64 x) (.acons (.int .i64 dd) .anil)]
def pick17_o (x : Int) (dd : Int) (w : Int) (now : List Sector) (sure : List Sector) (cs : List Int) (ts : List Task) (busy : List Bool) (m : Int) (has : List Int) (told : List Int) : List (Obj RC) := [.var 31 (.acons (.ptr 1 []) (.acons (.int .i64 w) (.acons (.int .i64 m) (.acons (.arr (C := RC) .int 4 has) (.acons (.vs 2 (told.length)) .anil))))), .var 47 (.acons (.acons (.sl (C := RC) .int false cs) (.acons (.acons (.sl (C := RC) .sector false now) (.acons (.sl (C := RC) .sector false sure) .anil)) .anil)) (.acons (.arr (C := RC) .task 4 ts) (.acons (.arr (C := RC) .task 4 (ts)) (.acons (.arr (C := RC) .bool 4 busy) .anil)))), .vec .int true told]
noncomputable def pick17_r (x : Int) (dd : Int) (w : Int) (now : List Sector) (sure : List Sector) (cs : List Int) (ts : List Task) (busy : List Bool) (m : Int) (has : List Int) (told : List Int) := fnO s17 ug_1 10 60 3 (pick17_a x dd w now sure cs ts busy m has told) (pick17_o x dd w now sure cs ts busy m has told)
theorem pick17_eq (x : Int) (dd : Int) (w : Int) (now : List Sector) (sure : List Sector) (cs : List Int) (ts : List Task) (busy : List Bool) (m : Int) (has : List Int) (told : List Int) : pick17_r x dd w now sure cs ts busy m has told = (let Z0 : Int := Int.tmod (IntKind.wrap .i64 (Int.tmod x (4 : Int) + (4 : Int))) (4 : Int); let Z1 : Bool := decide ((0 : Int) ≤ Z0 ∧ Z0 < (4 : Int)); let Z2 : Nat := Int.toNat Z0; let Z3 : Bool := List.getD busy Z2 false; let Z4 : D RC := D.bool true; let Z5 : D RC := D.ptr 1 []; let Z6 : D RC := D.int .i64 w; let Z7 : Int := IntKind.wrap .i64 (m + 1); let Z8 : List Int := List.set has Z2 (IntKind.wrap .i64 (IntKind.wrap .i64 (IntKind.wrap .i64 (Int.tmod Z7 (1000 : Int) + (1 : Int)) * (256 : Int)) + Z0)); let Z9 : Nat := List.length told; let Z10 : D RC := .anil; let Z11 : D RC := D.acons (D.vs 2 Z9) Z10; let Z12 : Option (Obj RC) := some (Obj.var 31 (.acons Z5 (D.acons Z6 (D.acons (D.int .i64 Z7) (.acons (D.arr RTy.int (4 : Nat) Z8) Z11))))); let Z13 : D RC := D.acons (D.acons (D.sl RTy.sector false now) (.acons (D.sl RTy.sector false sure) Z10)) Z10; let Z14 : D RC := D.acons (D.sl RTy.int false cs) Z13; let Z15 : D RC := D.arr RTy.task (4 : Nat) ts; let Z16 : D RC := D.acons Z15 (D.acons Z15 (D.acons (D.arr RTy.bool (4 : Nat) busy) Z10)); let Z17 : List (Option (Obj RC)) := [some (Obj.vec RTy.int true told)]; let Z18 : List (Option (Obj RC)) := some (Obj.var 47 (.acons Z14 Z16)) :: Z17; let Z19 : D RC := D.arr RTy.task (4 : Nat) (List.set ts Z2 (Task.mk Z0 [Frame.mk (68 : Int) (0 : Int) (regs w (List.getD Z8 Z2 (0 : Int)))] [] false)); let Z20 : Option (D RC × List (Option (Obj RC))) := none; let Z21 : D RC := D.arr RTy.int (4 : Nat) has; let Z22 : Option (Obj RC) := some (Obj.var 31 (.acons Z5 (D.acons Z6 (D.acons (D.int .i64 m) (.acons Z21 Z11))))); let Z23 : Option (D RC × List (Option (Obj RC))) := some (Z4, Z22 :: Z18); let Z24 : Task := tkC ts Z0; let Z25 : Bool := GoR.is (stE cs Z24); let Z26 : List Int := bif Z25 then [] else GoR.got (stE cs Z24); let Z27 : Int := (↑Z26.length : Int); let Z28 : List Int := [List.getD Z26 (1 : Nat) (0 : Int)]; let Z29 : D RC := D.arr RTy.task (4 : Nat) (List.set ts Z2 (stT cs Z24)); let Z30 : Option (Obj RC) := some (Obj.var 47 (.acons (D.acons (D.sl RTy.int false (stCs cs Z24)) Z13) (.acons Z29 (D.acons Z29 (D.acons (D.arr RTy.bool (4 : Nat) (bif Z25 then busy else List.set busy Z2 false)) Z10))))); let Z31 : Int := (↑cs.length : Int); let Z32 : Int := IntKind.wrap .i64 (List.getD cs (0 : Nat) (0 : Int) + (1 : Int)); let Z33 : Nat := (0 : Nat) + List.length cs; let Z34 : List Int := List.replicate (0 : Nat) (0 : Int) ++ cs; let Z35 : Bool := Nat.beq Z33 Z34.length; let Z36 : Int := (↑Z34.length : Int); let Z37 : Bool := Z35 && decide ((0 : Int) ≤ (0 : Int) ∧ (0 : Int) < Z36); let Z38 : List Int := List.set Z34 (4 : Nat) (List.getD Z34 (0 : Nat) (0 : Int)); bif dd == (0 : Int) then bif Z1 then bif !Z3 then bif Z1 then bif Z1 then bif decide ((0 : Int) ≤ Z0 ∧ Z0 ≤ (3 : Int)) then bif Z1 then bif Z3 then some (Z4, Z12 :: Z18) else bif Z1 then bif Z1 then bif Z1 then some (Z4, Z12 :: some (Obj.var 47 (.acons Z14 (D.acons Z19 (D.acons Z19 (D.acons (D.arr RTy.bool (4 : Nat) (List.set busy Z2 true)) Z10))))) :: Z17) else Z20 else Z20 else Z20 else Z20 else Z20 else Z20 else Z20 else Z23 else Z20 else bif dd == (1 : Int) then bif Z1 then bif !Z3 then Z23 else bif decide (ts = ts) && decide ((0 : Int) ≤ Z0 ∧ Z0 ≤ (3 : Int) ∧ List.length ts = (4 : Nat) ∧ OkStep cs Z24 now sure) then bif !Z25 then bif lenOK Z26.length then bif Z27 == (2 : Int) then bif decide ((0 : Int) ≤ (0 : Int) ∧ (0 : Int) < Z27) then bif List.getD Z26 (0 : Nat) (0 : Int) == (0 : Int) then bif decide ((0 : Int) ≤ (1 : Int) ∧ (1 : Int) < Z27) then bif Nat.beq Z9 Z9 && sizeOK (Z9 + List.length Z28) (8 : Nat) then some (Z4, [some (Obj.var 31 (.acons Z5 (D.acons Z6 (D.acons (D.int .i64 m) (.acons Z21 (D.acons (D.vs 2 (Z9 + List.length Z28)) Z10)))))), Z30, some (Obj.vec RTy.int true (told ++ Z28))]) else Z20 else Z20 else some (Z4, Z22 :: Z30 :: Z17) else Z20 else some (Z4, Z22 :: Z30 :: Z17) else Z20 else some (Z4, Z22 :: Z30 :: Z17) else Z20 else Z20 else bif dd == (2 : Int) then bif decide ((0 : Int) ≤ (0 : Int) ∧ (0 : Int) < Z31) then bif decide ((0 : Int) ≤ lRing Z32 w ∧ lRing Z32 w < Z31) then bif plc (List.getD cs (lRing Z32 w).toNat (0 : Int)) == Z32 then bif sizeOK Z33 (8 : Nat) then bif Z37 then bif Z35 then bif Nat.beq Z33 (List.set Z34 (0 : Nat) Z32).length then some (Z4, Z22 :: some (Obj.var 47 (.acons (D.acons (D.sl RTy.int false (List.set Z34 (0 : Nat) Z32)) Z13) Z16)) :: Z17) else Z20 else Z20 else Z20 else Z20 else Z23 else Z20 else Z20 else bif dd == (3 : Int) then bif sizeOK Z33 (8 : Nat) then bif Z37 then bif Z35 then bif Z35 && decide ((0 : Int) ≤ (4 : Int) ∧ (4 : Int) < Z36) then bif Z35 then bif Nat.beq Z33 Z38.length then some (Z4, Z22 :: some (Obj.var 47 (.acons (D.acons (D.sl RTy.int false Z38) Z13) Z16)) :: Z17) else Z20 else Z20 else Z20 else Z20 else Z20 else Z20 else Z23) := by kernel_rfl
noncomputable def pick17_fin (x : Int) (dd : Int) (w : Int) (now : List Sector) (sure : List Sector) (cs : List Int) (ts : List Task) (busy : List Bool) (m : Int) (has : List Int) (told : List Int) : RT RC := .leaf .ret [(0, .bool true)] (pick17_o x dd w now sure (pickG w ⟨cs, ts, busy, m, has, told⟩ x dd).cs (pickG w ⟨cs, ts, busy, m, has, told⟩ x dd).ts (pickG w ⟨cs, ts, busy, m, has, told⟩ x dd).busy (pickG w ⟨cs, ts, busy, m, has, told⟩ x dd).n (pickG w ⟨cs, ts, busy, m, has, told⟩ x dd).has (pickG w ⟨cs, ts, busy, m, has, told⟩ x dd).told)
def pick17_Inv (x : Int) (dd : Int) (w : Int) (now : List Sector) (sure : List Sector) (cs : List Int) (ts : List Task) (busy : List Bool) (m : Int) (has : List Int) (told : List Int) : Prop := OkPick w ⟨cs, ts, busy, m, has, told⟩ now sure (x % 4)
noncomputable def pick17_S : FunR RC pick17_St where
  k := 3
  args q := pick17_a q.x q.dd q.w q.now q.sure q.cs q.ts q.busy q.m q.has q.told
  objs q := pick17_o q.x q.dd q.w q.now q.sure q.cs q.ts q.busy q.m q.has q.told
  fin q := pick17_fin q.x q.dd q.w q.now q.sure q.cs q.ts q.busy q.m q.has q.told
  Inv q := pick17_Inv q.x q.dd q.w q.now q.sure q.cs q.ts q.busy q.m q.has q.told
theorem pick17_leaf {x dd w : Int} {now sure : List Sector} {cs : List Int} {ts : List Task} {busy : List Bool} {m : Int} {has told : List Int} {os : List (Option (Obj RC))} (H : GS) (hG : pickG w ⟨cs, ts, busy, m, has, told⟩ x dd = H)
    (hos : os = (pick17_o x dd w now sure H.cs H.ts H.busy H.n H.has H.told).map some) : Leaf (some (D.bool true, os)) (LedF pick17_S ⟨x, dd, w, now, sure, cs, ts, busy, m, has, told⟩) :=
  leafF _ (by show (pick17_fin x dd w now sure cs ts busy m has told).val = _; unfold pick17_fin; rw [hG]; rfl) hos
theorem pick17_ok (x : Int) (dd : Int) (w : Int) (now : List Sector) (sure : List Sector) (cs : List Int) (ts : List Task) (busy : List Bool) (m : Int) (has : List Int) (told : List Int) (hI : pick17_Inv x dd w now sure cs ts busy m has told) : Leaf (pick17_r x dd w now sure cs ts busy m has told) (LedF pick17_S ⟨x, dd, w, now, sure, cs, ts, busy, m, has, told⟩) := by
  (rw [pick17_eq]; conv => zeta)
  unfold pick17_Inv at hI
  obtain ⟨w0, w1, lt, lb, lh, m0, m1, lc, f0, f1, tl, hst⟩ := hI
  simp only [frontG, isBusy] at lt lb lh m0 m1 lc f0 f1 tl hst
  have hc1 : 0 ≤ x % 4 := Int.emod_nonneg _ (by decide)
  have hc2 : x % 4 < 4 := Int.emod_lt_of_pos _ (by decide)
  simp only [mod4]
  have v1 : IntKind.i64.wrap (m + 1) = m + 1 := wrap_id (by omega) (by omega)
  have v2 : IntKind.i64.wrap (IntKind.i64.wrap (IntKind.i64.wrap (Int.tmod (m + 1) 1000 + 1) * 256) + x % 4) = hnd (x % 4) (m + 1) := by
    have : 0 ≤ (m + 1) % 1000 ∧ (m + 1) % 1000 < 1000 := ⟨Int.emod_nonneg _ (by decide), Int.emod_lt_of_pos _ (by decide)⟩
    rw [Int.tmod_eq_emod_of_nonneg (by omega), wrap_id (n := (m + 1) % 1000 + 1) (by omega) (by omega), wrap_id (n := ((m + 1) % 1000 + 1) * 256) (by omega) (by omega), wrap_id (by omega) (by omega)]; rfl
  have v3 : IntKind.i64.wrap (cs.getD 0 0 + 1) = cs.getD 0 0 + 1 := wrap_id (by omega) (by omega)
  have c1 : decide ((0 : Int) ≤ x % 4 ∧ x % 4 < 4) = true := by simp; omega
  have c2 : decide ((0 : Int) ≤ x % 4 ∧ x % 4 ≤ 3) = true := by simp; omega
  have hset : ∀ y z : Int, (has.set (x % 4).toNat y).getD (x % 4).toNat z = y := fun y z => by
    rw [List.getD_eq_getElem?_getD, List.getElem?_set_self (by omega)]; rfl
  simp only [v1, v2, v3, c1, hset, cond_true]
  by_cases d0 : dd = 0
  · subst d0
    simp only [beq_self_eq_true, cond_true]
    cases hb : busy.getD (x % 4).toNat false with
    | true =>
      simp only [Bool.not_true, cond_false]
      exact pick17_leaf ⟨cs, ts, busy, m, has, told⟩ (by show beginP _ _ _ = _; unfold beginP isBusy; rw [if_pos hb]) rfl
    | false =>
      simp only [Bool.not_false, cond_true, cond_false, c2]
      exact pick17_leaf (beginG w ⟨cs, ts, busy, m + 1, has.set (x % 4).toNat (hnd (x % 4) (m + 1)), told⟩ (x % 4) (hnd (x % 4) (m + 1))) (by show beginP _ _ _ = _; unfold beginP isBusy; rw [if_neg (ne_true_of_eq_false hb)]) rfl
  rw [ibeqF d0]
  simp only [cond_false]
  by_cases d1 : dd = 1
  · subst d1
    simp only [beq_self_eq_true, cond_true]
    cases hb : busy.getD (x % 4).toNat false with
    | false =>
      simp only [Bool.not_false, cond_true]
      exact pick17_leaf ⟨cs, ts, busy, m, has, told⟩ (by show stepP _ _ = _; unfold stepP isBusy; rw [if_neg (ne_true_of_eq_false hb)]) rfl
    | true =>
      have ho := hst hb
      have e1 : decide ((0 : Int) ≤ x % 4 ∧ x % 4 ≤ 3 ∧ ts.length = 4 ∧ OkStep cs (tkC ts (x % 4)) now sure) = true := decide_eq_true ⟨by omega, by omega, lt, ho⟩
      have e2 : decide (ts = ts) = true := by simp
      simp only [Bool.not_true, cond_false, e1, e2, Bool.and_self, cond_true]
      have hP : stepP ⟨cs, ts, busy, m, has, told⟩ (x % 4) = ⟨stCs cs (tkC ts (x % 4)), ts.set (x % 4).toNat (stT cs (tkC ts (x % 4))), bif (stE cs (tkC ts (x % 4))).is then busy else busy.set (x % 4).toNat false, m, has, told ++ newTold ⟨cs, ts, busy, m, has, told⟩ (x % 4)⟩ := by
        unfold stepP isBusy; rw [if_pos hb]; rfl
      have hN : newTold ⟨cs, ts, busy, m, has, told⟩ (x % 4) = if (stE cs (tkC ts (x % 4))).is = false ∧ (stE cs (tkC ts (x % 4))).got.length = 2 ∧ (stE cs (tkC ts (x % 4))).got.getD 0 0 = 0 then [(stE cs (tkC ts (x % 4))).got.getD 1 0] else [] := rfl
      have hend : (stE cs (tkC ts (x % 4))).is = false → (stE cs (tkC ts (x % 4))).got.length ≤ 2 := fun hi => (goR_end ho.2.2.2.2.2.2.2.2 hi).2
      generalize stE cs (tkC ts (x % 4)) = E at *
      have hfin : ∀ l, newTold ⟨cs, ts, busy, m, has, told⟩ (x % 4) = l → Leaf (some (D.bool true, (pick17_o x 1 w now sure (stCs cs (tkC ts (x % 4))) (ts.set (x % 4).toNat (stT cs (tkC ts (x % 4)))) (bif E.is then busy else busy.set (x % 4).toNat false) m has (told ++ l)).map some)) (LedF pick17_S ⟨x, 1, w, now, sure, cs, ts, busy, m, has, told⟩) := fun l hl => by
        rw [hl] at hP
        exact pick17_leaf _ hP rfl
      have hnil : newTold ⟨cs, ts, busy, m, has, told⟩ (x % 4) = [] → Leaf (some (D.bool true, (pick17_o x 1 w now sure (stCs cs (tkC ts (x % 4))) (ts.set (x % 4).toNat (stT cs (tkC ts (x % 4)))) (bif E.is then busy else busy.set (x % 4).toNat false) m has told).map some)) (LedF pick17_S ⟨x, 1, w, now, sure, cs, ts, busy, m, has, told⟩) := fun hl => by
        have := hfin [] hl
        rwa [List.append_nil] at this
      cases hi : E.is with
      | true =>
        simp only [hi, Bool.not_true, cond_false, cond_true] at hnil ⊢
        exact hnil (by rw [hN, if_neg (fun q => by rw [hi] at q; cases q.1)])
      | false =>
        have hl := hend hi
        have l1 : lenOK E.got.length = true := lenOK_of (by omega)
        simp only [hi, Bool.not_false, cond_false, cond_true, l1] at hnil hfin ⊢
        by_cases h2 : E.got.length = 2
        · have b1 : ((E.got.length : Int) == 2) = true := ibeqT (by omega)
          have b2 : decide ((0 : Int) ≤ 0 ∧ (0 : Int) < (E.got.length : Int)) = true := by simp; omega
          have b3 : decide ((0 : Int) ≤ 1 ∧ (1 : Int) < (E.got.length : Int)) = true := by simp; omega
          simp only [b1, b2, b3, cond_true]
          by_cases h3 : E.got.getD 0 0 = 0
          · have b4 : (Nat.beq told.length told.length && sizeOK (told.length + [E.got.getD 1 0].length) 8) = true := by
              rw [nbeqT rfl, sizeT (by simp; omega)]; rfl
            rw [ibeqT h3]
            simp only [b4, cond_true]
            have := hfin [E.got.getD 1 0] (by rw [hN, if_pos ⟨hi, h2, h3⟩])
            simp only [pick17_o, List.length_append] at this
            exact this
          · rw [ibeqF h3]
            simp only [cond_false]
            exact hnil (by rw [hN, if_neg (fun q => h3 q.2.2)])
        · have b1 : ((E.got.length : Int) == 2) = false := ibeqF (by omega)
          simp only [b1, cond_false]
          exact hnil (by rw [hN, if_neg (fun q => h2 q.2.1)])
  rw [ibeqF d1]
  simp only [cond_false]
  have hrg := lRing_in (p := cs.getD 0 0 + 1) (by omega) ⟨w0, w1⟩
  have e1 : decide ((0 : Int) ≤ 0 ∧ (0 : Int) < (cs.length : Int)) = true := by simp; omega
  have e2 : decide ((0 : Int) ≤ lRing (cs.getD 0 0 + 1) w ∧ lRing (cs.getD 0 0 + 1) w < (cs.length : Int)) = true := decide_eq_true ⟨by omega, by omega⟩
  have e3 : sizeOK (0 + cs.length) 8 = true := sizeT (by omega)
  have e4 : Nat.beq (0 + cs.length) cs.length = true := nbeqT (by omega)
  have e5 : decide ((0 : Int) ≤ 4 ∧ (4 : Int) < (cs.length : Int)) = true := by simp; omega
  by_cases d2 : dd = 2
  · subst d2
    simp only [beq_self_eq_true, cond_true, List.replicate_zero, List.nil_append, List.length_set, e1, e2, e3, e4, Bool.and_self]
    by_cases h : plc (cs.getD (lRing (cs.getD 0 0 + 1) w).toNat 0) = cs.getD 0 0 + 1
    · rw [ibeqT h]
      simp only [cond_true]
      exact pick17_leaf ⟨cs.set 0 (cs.getD 0 0 + 1), ts, busy, m, has, told⟩ (by show doneP _ _ = _; unfold doneP frontG; rw [if_pos h]) rfl
    · rw [ibeqF h]
      simp only [cond_false]
      exact pick17_leaf ⟨cs, ts, busy, m, has, told⟩ (by show doneP _ _ = _; unfold doneP frontG; rw [if_neg h]) rfl
  rw [ibeqF d2]
  simp only [cond_false]
  by_cases d3 : dd = 3
  · subst d3
    simp only [beq_self_eq_true, cond_true, List.replicate_zero, List.nil_append, List.length_set, e1, e3, e4, e5, Bool.and_self]
    exact pick17_leaf ⟨cs.set 4 (cs.getD 0 0), ts, busy, m, has, told⟩ rfl rfl
  rw [ibeqF d3]
  simp only [cond_false]
  exact pick17_leaf ⟨cs, ts, busy, m, has, told⟩ (by unfold pickG; rw [if_neg d0, if_neg d1, if_neg d2, if_neg d3]) rfl
noncomputable def pick17_d (env : Env RC) (os : List (Obj RC)) : Option (Bool × pick17_St) := match env, os with
  | [(0, .ptr 0 []), (1, .acons (.int .i64 x) (.acons (.int .i64 dd) .anil))], [.var 31 (.acons (.ptr 1 []) (.acons (.int .i64 w) (.acons (.int .i64 m) (.acons (.arr .int 4 has) (.acons (.vs 2 x0) .anil))))), .var 47 (.acons (.acons (.sl .int false cs) (.acons (.acons (.sl .sector false now) (.acons (.sl .sector false sure) .anil)) .anil)) (.acons (.arr .task 4 ts) (.acons (.arr .task 4 x1) (.acons (.arr .bool 4 busy) .anil)))), .vec .int true told] => staticD (true) (decide (x0 = told.length) && decide (x1 = ts) && cdec (OkPick w ⟨cs, ts, busy, m, has, told⟩ now sure (x % 4)), ⟨x, dd, w, now, sure, cs, ts, busy, m, has, told⟩)
  | _, _ => none
noncomputable def uh_1 := ug_1.addObj 10 (sumF s17 [.slot 0 0, .path 0 [0], .path 0 [4]] 2 pick17_S pick17_d)
theorem uh_1_laws : FLaws Tryz.prog s17 uh_1 := by
  refine ug_1_laws.addFun s17_laws pick17_S 60 2 [.slot 0 0, .path 0 [0], .path 0 [4]] pick17_d (fun q hI => ?_) ?_
  · obtain ⟨x, dd, w, now, sure, cs, ts, busy, m, has, told⟩ := q
    refine ⟨?_, ?_, rfl, pick17_ok x dd w now sure cs ts busy m has told hI⟩
    · simp [RefsOK, pick17_S, pick17_a, pick17_o, eargs, D.refs, Obj.refs]
    · simp [pick17_S, pick17_fin, pick17_o, RT.refsOK, RefsOK, D.refs, Obj.refs]
  · intro env os b q hd_ hb
    unfold pick17_d at hd_
    split at hd_
    · obtain ⟨hs, hd_⟩ := staticD_some hd_
      cases hd_
      simp only [Bool.and_eq_true, decide_eq_true_eq] at hb
      obtain ⟨⟨e1, e2⟩, e3⟩ := hb
      subst e1
      subst e2
      exact ⟨cdec_iff.1 e3, rfl, rfl⟩
    · cases hd_
def wd (p : Int) (hs : List Int) : Int := if p ≤ 0 then 0 else p * 1048576 + hs.getD (p - 1).toNat 0
structure RW (w : Int) (cs hs : List Int) : Prop where
  w0 : 2 ≤ w
  w1 : w ≤ 8
  lc : cs.length = 771
  fit : ∀ i, -1152921504606846976 ≤ cs.getD i 0 ∧ cs.getD i 0 ≤ 1152921504606846976
  q0 : 0 ≤ cs.getD 4 0
  qf : cs.getD 4 0 ≤ cs.getD 0 0
  fT : cs.getD 0 0 ≤ hs.length
  Tf : (hs.length : Int) ≤ cs.getD 0 0 + w
  Tt : (hs.length : Int) ≤ cs.getD 1 0
  tT : cs.getD 1 0 ≤ hs.length + 1
  t1 : 1 ≤ cs.getD 1 0
  hv : ∀ d ∈ hs, 256 ≤ d ∧ d ≤ 262143
  Tk : (hs.length : Int) ≤ 100000
  TL : (hs.length : Int) - 32 ≤ cs.getD 4 0
  ring : ∀ p : Int, hs.length - w < p → p ≤ hs.length → cs.getD (13 + p % w).toNat 0 = wd p hs
theorem getD_at {l : List Int} {i : Nat} {d : Int} (h : i < l.length) : l.getD i d = l[i] := by
  rw [List.getD_eq_getElem?_getD, List.getElem?_eq_getElem h]; rfl
theorem getD_app {l m : List Int} {i : Nat} {d : Int} (h : i < l.length) : (l ++ m).getD i d = l.getD i d := by
  rw [List.getD_eq_getElem?_getD, List.getD_eq_getElem?_getD, List.getElem?_append_left h]
theorem getD_end {l : List Int} {x d : Int} : (l ++ [x]).getD l.length d = x := by
  rw [List.getD_eq_getElem?_getD]; simp
theorem getD_set_eq {l : List Int} {i : Nat} {x d : Int} (h : i < l.length) : (l.set i x).getD i d = x := by
  rw [List.getD_eq_getElem?_getD, List.getElem?_set_self h]; rfl
theorem getD_set (l : List Int) (i j : Nat) (x d : Int) (h : i < l.length) : (l.set i x).getD j d = if i = j then x else l.getD j d := by
  by_cases e : i = j
  · subst e; rw [if_pos rfl]; exact getD_set_eq h
  · rw [if_neg e]; exact getD_set_ne' e
theorem wd_in {p : Int} {hs : List Int} (hv : ∀ d ∈ hs, 256 ≤ d ∧ d ≤ 262143) (h1 : 1 ≤ p) (h2 : p ≤ hs.length) (h3 : (hs.length : Int) ≤ 100000) :
    wd p hs = p * 1048576 + hs.getD (p - 1).toNat 0 ∧ 256 ≤ hs.getD (p - 1).toNat 0 ∧ hs.getD (p - 1).toNat 0 ≤ 262143 := by
  have hlt : (p - 1).toNat < hs.length := by omega
  have e : hs.getD (p - 1).toNat 0 = hs[(p - 1).toNat] := getD_at hlt
  refine ⟨by rw [wd, if_neg (by omega)], ?_⟩
  rw [e]
  exact hv _ (List.getElem_mem hlt)
theorem plc_word {p d : Int} (h1 : 0 ≤ p) (h2 : p ≤ 1048575) (h3 : 0 ≤ d) (h4 : d ≤ 262143) : plc (p * 1048576 + d) = p ∧ bare (p * 1048576 + d) = d := by
  unfold plc bare
  rw [inWord_in (by omega)]
  omega
theorem plc_wd {p : Int} {hs : List Int} (hv : ∀ d ∈ hs, 256 ≤ d ∧ d ≤ 262143) (h2 : p ≤ hs.length) (h3 : (hs.length : Int) ≤ 100000) (h1 : 0 ≤ p) : plc (wd p hs) = p ∧ 0 ≤ wd p hs ∧ wd p hs ≤ 1099510841343 := by
  by_cases h : 1 ≤ p
  · obtain ⟨e, a, b⟩ := wd_in hv h h2 h3
    rw [e]
    exact ⟨(plc_word (by omega) (by omega) (by omega) (by omega)).1, by omega, by omega⟩
  · have : p = 0 := by omega
    subst this
    rw [wd, if_pos (by decide)]
    exact ⟨by decide, by decide, by decide⟩
theorem wd_neg {p : Int} {hs : List Int} (h : p ≤ 0) : wd p hs = 0 := by rw [wd, if_pos h]
theorem same_cell {w T p : Int} (hw : 0 < w) : T - w < T - (T - p) % w ∧ T - (T - p) % w ≤ T ∧ (T - (T - p) % w) % w = p % w := by
  have h1 : 0 ≤ (T - p) % w := Int.emod_nonneg _ (by omega)
  have h2 : (T - p) % w < w := Int.emod_lt_of_pos _ hw
  refine ⟨by omega, by omega, ?_⟩
  have e : T - (T - p) % w = p + w * ((T - p) / w) := by
    have := Int.mul_ediv_add_emod (T - p) w
    omega
  rw [e, Int.add_mul_emod_self_left]
theorem RW.read {w : Int} {cs hs : List Int} (h : RW w cs hs) (p : Int) : ∃ p', hs.length - w < p' ∧ p' ≤ hs.length ∧ p' % w = p % w ∧ cs.getD (13 + p % w).toNat 0 = wd p' hs := by
  have hw := h.w0
  obtain ⟨a, b, c⟩ := same_cell (w := w) (T := hs.length) (p := p) (by omega)
  exact ⟨_, a, b, c, by rw [← c]; exact h.ring _ a b⟩
theorem RW.read_le {w : Int} {cs hs : List Int} (h : RW w cs hs) (p : Int) : 0 ≤ cs.getD (13 + p % w).toNat 0 ∧ cs.getD (13 + p % w).toNat 0 ≤ 1099510841343 ∧ plc (cs.getD (13 + p % w).toNat 0) ≤ hs.length := by
  obtain ⟨p', a, b, c, e⟩ := h.read p
  rw [e]
  by_cases h0 : 0 ≤ p'
  · obtain ⟨x, y, z⟩ := plc_wd h.hv b h.Tk h0
    exact ⟨y, z, by rw [x]; exact b⟩
  · rw [wd_neg (by omega)]
    refine ⟨by decide, by decide, ?_⟩
    have : plc 0 = 0 := by decide
    omega
theorem RW.cell {w : Int} {cs hs : List Int} (h : RW w cs hs) (p : Int) : (13 + p % w).toNat < 21 ∧ 13 ≤ (13 + p % w).toNat ∧ ((13 + p % w).toNat : Int) = 13 + p % w := by
  have hw := h.w0
  have hw1 := h.w1
  have := mod_range (p := p) (w := w) (by omega)
  omega
theorem cell_inj {w T p p' : Int} (hw : 2 ≤ w) (h1 : T - w < p) (h2 : p ≤ T) (h3 : T - w < p') (h4 : p' ≤ T) (he : p % w = p' % w) : p = p' := by
  have h5 : (p - p') % w = 0 := Int.emod_eq_emod_iff_emod_sub_eq_zero.1 he
  have h6 : w ∣ (p - p') := Int.dvd_of_emod_eq_zero h5
  obtain ⟨k, hk⟩ := h6
  have : k = 0 := by
    rcases Int.lt_trichotomy k 0 with h | h | h
    · have : w * k ≤ w * (-1) := Int.mul_le_mul_of_nonneg_left (by omega) (by omega)
      omega
    · exact h
    · have : w * 1 ≤ w * k := Int.mul_le_mul_of_nonneg_left (by omega) (by omega)
      omega
  subst this
  omega
theorem RW.installed {w : Int} {cs hs : List Int} (h : RW w cs hs) {p : Int} (h1 : 1 ≤ p) (h2 : p ≤ hs.length) (h3 : cs.getD 0 0 < p) : cs.getD (13 + p % w).toNat 0 = p * 1048576 + hs.getD (p - 1).toNat 0 ∧ plc (cs.getD (13 + p % w).toNat 0) = p ∧ bare (cs.getD (13 + p % w).toNat 0) = hs.getD (p - 1).toNat 0 := by
  have hTf := h.Tf
  have hTk := h.Tk
  have e := h.ring p (by omega) h2
  obtain ⟨e2, a, b⟩ := wd_in h.hv h1 h2 hTk
  rw [e, e2]
  have := plc_word (p := p) (d := hs.getD (p - 1).toNat 0) (by omega) (by omega) (by omega) (by omega)
  exact ⟨rfl, this.1, this.2⟩
theorem RW.tail {w : Int} {cs hs : List Int} (h : RW w cs hs) {t0 : Int} (h1 : cs.getD 1 0 = t0) (h2 : t0 ≤ hs.length) : RW w (cs.set 1 (t0 + 1)) hs := by
  have hl := h.lc
  have g : ∀ j, (cs.set 1 (t0 + 1)).getD j 0 = if 1 = j then t0 + 1 else cs.getD j 0 := fun j => getD_set cs 1 j _ _ (by omega)
  have hTk := h.Tk
  have ht1 := h.t1
  have hTt := h.Tt
  refine ⟨h.w0, h.w1, by simpa using hl, fun i => ?_, by rw [g]; exact h.q0, by rw [g, g]; exact h.qf, by rw [g]; exact h.fT, by rw [g]; exact h.Tf, by rw [g, if_pos rfl]; omega, by rw [g, if_pos rfl]; omega, by rw [g, if_pos rfl]; omega, h.hv, h.Tk, by rw [g]; exact h.TL, fun p a b => ?_⟩
  · rw [g]
    split
    · omega
    · exact h.fit i
  · have hc := h.cell p
    rw [g, if_neg (by omega)]
    exact h.ring p a b
theorem RW.give {w : Int} {cs hs : List Int} (h : RW w cs hs) {t0 d : Int} (h1 : 1 ≤ t0) (h2 : t0 ≤ cs.getD 1 0) (h3 : t0 ≤ cs.getD 0 0 + w) (h4 : plc (cs.getD (13 + t0 % w).toNat 0) < t0) (hd : 256 ≤ d ∧ d ≤ 262143) (hk : (hs.length : Int) < 100000) (hL : t0 - 32 ≤ cs.getD 4 0) :
    t0 = hs.length + 1 ∧ RW w (cs.set (13 + t0 % w).toNat (t0 * 1048576 + d)) (hs ++ [d]) := by
  have hl := h.lc
  have hw := h.w0
  have htT := h.tT
  have hTf := h.Tf
  have hTt := h.Tt
  have hc := h.cell t0
  have ht0 : t0 = hs.length + 1 := by
    by_cases hle : t0 ≤ hs.length
    · exfalso
      by_cases hf : hs.length - w < t0
      · have e := h.ring t0 hf hle
        rw [e, (plc_wd h.hv hle h.Tk (by omega)).1] at h4
        omega
      · obtain ⟨p', a, b, c, e⟩ := h.read t0
        have : 0 ≤ p' := by omega
        rw [e, (plc_wd h.hv b h.Tk this).1] at h4
        omega
    · omega
  have g : ∀ j, (cs.set (13 + t0 % w).toNat (t0 * 1048576 + d)).getD j 0 = if (13 + t0 % w).toNat = j then t0 * 1048576 + d else cs.getD j 0 := fun j => getD_set cs _ j _ _ (by omega)
  have hlen : ((hs ++ [d]).length : Int) = hs.length + 1 := by simp
  refine ⟨ht0, h.w0, h.w1, by simpa using hl, fun i => ?_, ?_, ?_, ?_, ?_, ?_, ?_, ?_, ?_, ?_, ?_, fun p a b => ?_⟩
  · rw [g]
    split
    · omega
    · exact h.fit i
  · rw [g, if_neg (by omega)]; exact h.q0
  · rw [g, g, if_neg (by omega), if_neg (by omega)]; exact h.qf
  · rw [g, if_neg (by omega), hlen]; have := h.fT; omega
  · rw [g, if_neg (by omega), hlen]; omega
  · rw [g, if_neg (by omega), hlen]; omega
  · rw [g, if_neg (by omega), hlen]; omega
  · rw [g, if_neg (by omega)]; exact h.t1
  · intro x hx
    simp only [List.mem_append, List.mem_singleton] at hx
    rcases hx with hx | rfl
    · exact h.hv x hx
    · exact hd
  · rw [hlen]; omega
  · rw [g, if_neg (by omega), hlen]; omega
  · rw [hlen] at a b
    have hcp := h.cell p
    rw [g]
    by_cases e : p = hs.length + 1
    · have e2 : p = t0 := by omega
      subst e2
      rw [if_pos rfl, wd, if_neg (by omega)]
      have : (p - 1).toNat = hs.length := by omega
      rw [this, getD_end]
    · have hne : ¬ (13 + t0 % w).toNat = (13 + p % w).toNat := fun q => by
        have q2 : t0 % w = p % w := by omega
        have := cell_inj (w := w) (T := hs.length + 1) hw (by omega) (by omega) (p := t0) (p' := p) (by omega) (by omega) q2
        omega
      rw [if_neg hne, h.ring p (by omega) (by omega)]
      unfold wd
      by_cases hp : p ≤ 0
      · rw [if_pos hp, if_pos hp]
      · rw [if_neg hp, if_neg hp]
        have : (p - 1).toNat < hs.length := by omega
        rw [getD_app this]
theorem RW.set_low {w : Int} {cs hs : List Int} (h : RW w cs hs) {i : Nat} {v : Int} (hi : i = 0 ∨ i = 4) (hv : -1152921504606846976 ≤ v ∧ v ≤ 1152921504606846976)
    (hq : 0 ≤ (cs.set i v).getD 4 0 ∧ (cs.set i v).getD 4 0 ≤ (cs.set i v).getD 0 0 ∧ (cs.set i v).getD 0 0 ≤ hs.length ∧ (hs.length : Int) ≤ (cs.set i v).getD 0 0 + w) (hL : cs.getD 4 0 ≤ (cs.set i v).getD 4 0) : RW w (cs.set i v) hs := by
  have hl := h.lc
  have g : ∀ j, (cs.set i v).getD j 0 = if i = j then v else cs.getD j 0 := fun j => getD_set cs i j _ _ (by omega)
  refine ⟨h.w0, h.w1, by simpa using hl, fun j => ?_, hq.1, hq.2.1, hq.2.2.1, hq.2.2.2, ?_, ?_, ?_, h.hv, h.Tk, Int.le_trans h.TL hL, fun p a b => ?_⟩
  · rw [g]
    split
    · exact hv
    · exact h.fit j
  · rw [g, if_neg (by omega)]; exact h.Tt
  · rw [g, if_neg (by omega)]; exact h.tT
  · rw [g, if_neg (by omega)]; exact h.t1
  · have hc := h.cell p
    rw [g, if_neg (by omega)]
    exact h.ring p a b
theorem lRing_eq' {p w : Int} (h0 : 0 ≤ p) (h1 : 2 ≤ w) (h2 : w ≤ 8) : lRing p w = 13 + p % w := by rw [lRing, if_pos ⟨h0, h1, h2⟩]
theorem RW.done {w : Int} {cs hs : List Int} (h : RW w cs hs) (hp : plc (cs.getD (lRing (cs.getD 0 0 + 1) w).toNat 0) = cs.getD 0 0 + 1) : RW w (cs.set 0 (cs.getD 0 0 + 1)) hs := by
  have hl := h.lc
  have hq0 := h.q0
  have hqf := h.qf
  have hfT := h.fT
  have hTk := h.Tk
  have hTf := h.Tf
  have g0 : (cs.set 0 (cs.getD 0 0 + 1)).getD 0 0 = cs.getD 0 0 + 1 := getD_set_eq (by omega)
  have g4 : (cs.set 0 (cs.getD 0 0 + 1)).getD 4 0 = cs.getD 4 0 := getD_set_ne' (by decide)
  rw [lRing_eq' (by omega) h.w0 h.w1] at hp
  have := (h.read_le (cs.getD 0 0 + 1)).2.2
  rw [hp] at this
  exact h.set_low (.inl rfl) (by omega) (by rw [g0, g4]; omega) (by rw [g4]; omega)
theorem RW.ckpt {w : Int} {cs hs : List Int} (h : RW w cs hs) : RW w (cs.set 4 (cs.getD 0 0)) hs := by
  have hl := h.lc
  have hq0 := h.q0
  have hqf := h.qf
  have hfT := h.fT
  have hTf := h.Tf
  have hTk := h.Tk
  have g4 : (cs.set 4 (cs.getD 0 0)).getD 4 0 = cs.getD 0 0 := getD_set_eq (by omega)
  have g0 : (cs.set 4 (cs.getD 0 0)).getD 0 0 = cs.getD 0 0 := getD_set_ne' (by decide)
  exact h.set_low (.inr rfl) (by omega) (by rw [g0, g4]; omega) (by rw [g4]; omega)
theorem RW.cellsOK {w : Int} {cs hs : List Int} (h : RW w cs hs) : cellsOK cs = true := by
  simp only [Go.Ev.cellsOK, Bool.and_eq_true, decide_eq_true_eq]
  refine ⟨by rw [h.lc]; decide, List.all_eq_true.2 fun x hx => ?_⟩
  obtain ⟨i, hi, rfl⟩ := List.getElem_of_mem hx
  have := h.fit i
  have e : cs.getD i 0 = cs[i] := by simp [hi]
  rw [e] at this
  simp only [fitsC, Bool.and_eq_true, decide_eq_true_eq]
  exact this
def CI (w f t q : Int) (hs : List Int) (d k : Int) (r got : List Int) : Prop :=
  r.length = 96 ∧ r.getD 0 0 = w ∧ r.getD 1 0 = d ∧ 0 ≤ r.getD 2 0 ∧ r.getD 2 0 ≤ t ∧ (goF k r got (got.headD 0)).is = true ∧
  (k = 0 ∧ got = [] ∧ d ∉ hs ∨ ∃ x, got = [x] ∧ 0 ≤ x ∧
    (k = 1 ∧ 1 ≤ x ∧ x ≤ t ∧ d ∉ hs ∨
     k = 2 ∧ 1 ≤ r.getD 2 0 ∧ x ≤ f ∧ d ∉ hs ∨
     k = 3 ∧ 1 ≤ r.getD 2 0 ∧ r.getD 2 0 ≤ f + w ∧ x ≤ q ∧ d ∉ hs ∨
     k = 4 ∧ 1 ≤ r.getD 2 0 ∧ r.getD 2 0 ≤ f + w ∧ r.getD 2 0 - 32 ≤ q ∧ x ≤ 1099510841343 ∧ plc x ≤ hs.length ∧ d ∉ hs ∨
     k = 5 ∧ x ≤ 1 ∧ d ∉ hs ∨
     k = 6 ∧ 1 ≤ r.getD 2 0 ∧ (x = 0 ∧ d ∉ hs ∨ x = 1 ∧ r.getD 2 0 ≤ hs.length ∧ hs.getD (r.getD 2 0 - 1).toNat 0 = d)))
theorem CI.mono {w f t q : Int} {hs : List Int} {d k : Int} {r got : List Int} (h : CI w f t q hs d k r got) {f' t' q' : Int} {ext : List Int} (hf : f ≤ f') (ht : t ≤ t') (hq : q ≤ q') (he : d ∉ ext) : CI w f' t' q' (hs ++ ext) d k r got := by
  obtain ⟨a1, a2, a3, a4, a5, a6, h⟩ := h
  have hlen : (hs.length : Int) ≤ ((hs ++ ext).length : Int) := by rw [List.length_append]; omega
  have hmem : d ∉ hs → d ∉ hs ++ ext := fun h1 h2 => by
    rcases List.mem_append.1 h2 with h2 | h2
    · exact h1 h2
    · exact he h2
  refine ⟨a1, a2, a3, a4, by omega, a6, ?_⟩
  rcases h with ⟨b1, b2, b3⟩ | ⟨x, b1, b2, b3⟩
  · exact .inl ⟨b1, b2, hmem b3⟩
  refine .inr ⟨x, b1, b2, ?_⟩
  rcases b3 with ⟨c1, c2, c3, c4⟩ | ⟨c1, c2, c3, c4⟩ | ⟨c1, c2, c3, c4, c5⟩ | ⟨c1, c2, c3, c4, c5, c6, c7⟩ | ⟨c1, c2, c3⟩ | ⟨c1, c2, c3⟩
  · exact .inl ⟨c1, c2, by omega, hmem c4⟩
  · exact .inr (.inl ⟨c1, c2, by omega, hmem c4⟩)
  · exact .inr (.inr (.inl ⟨c1, c2, by omega, by omega, hmem c5⟩))
  · exact .inr (.inr (.inr (.inl ⟨c1, c2, by omega, by omega, c5, by omega, hmem c7⟩)))
  · exact .inr (.inr (.inr (.inr (.inl ⟨c1, c2, hmem c3⟩))))
  · refine .inr (.inr (.inr (.inr (.inr ⟨c1, c2, ?_⟩))))
    rcases c3 with ⟨c3, c4⟩ | ⟨c3, c4, c5⟩
    · exact .inl ⟨c3, hmem c4⟩
    · exact .inr ⟨c3, by omega, by rw [getD_app (by omega)]; exact c5⟩
def mkT (c k : Int) (r got : List Int) : Task := ⟨c, [⟨68, k, r⟩], got, false⟩
theorem stG_mk (c k : Int) (r got : List Int) : stG (mkT c k r got) = goF k r got (got.headD 0) := rfl
structure StepR (cs : List Int) (t : Task) (cs' : List Int) (t' : Task) (E : GoR) : Prop where
  hcs : stCs cs t = cs'
  ht : stT cs t = t'
  hE : stE cs t = E
theorem step_load {cs : List Int} {c k : Int} {r got r' : List Int} {n cell : Int} (h : goF k r got (got.headD 0) = gLoad r' got n cell) :
    StepR cs (mkT c k r got) cs (mkT c n r' [cs.getD cell.toNat 0]) (goF n r' [cs.getD cell.toNat 0] (cs.getD cell.toNat 0)) := by
  refine ⟨?_, ?_, ?_⟩
  · unfold stCs; rw [stG_mk, h]; rfl
  · unfold stT stX; rw [stG_mk, h]; rfl
  · unfold stE stX; rw [stG_mk, h]; rfl
theorem step_cas {cs : List Int} {c k : Int} {r got r' : List Int} {n cell b v : Int} (h : goF k r got (got.headD 0) = gCas r' got n cell b v) :
    StepR cs (mkT c k r got) (if cs.getD cell.toNat 0 = b then cs.set cell.toNat v else cs) (mkT c n r' [if cs.getD cell.toNat 0 = b then 1 else 0]) (goF n r' [if cs.getD cell.toNat 0 = b then 1 else 0] (if cs.getD cell.toNat 0 = b then 1 else 0)) := by
  refine ⟨?_, ?_, ?_⟩
  · unfold stCs; rw [stG_mk, h]
    show doC cs 2 cell b v = _
    unfold doC
    by_cases hb : cs.getD cell.toNat 0 = b
    · rw [if_pos ⟨rfl, hb⟩, if_pos hb]
    · rw [if_neg (fun q => hb q.2), if_neg hb]
  · unfold stT stX; rw [stG_mk, h]; rfl
  · unfold stE stX; rw [stG_mk, h]; rfl
theorem goF_is2 {r got : List Int} {x : Int} (h : (goF 2 r got x).is = true) : r.getD 2 0 ≤ x + r.getD 0 0 ∧ r.getD 2 0 ≤ 1048575 ∧ goF 2 r got x = gLoad r got 3 4 := by
  rw [goF2] at h ⊢
  by_cases h1 : x + r.getD 0 0 < r.getD 2 0
  · rw [if_pos h1] at h; cases h
  rw [if_neg h1] at h ⊢
  by_cases h2 : 1048575 < r.getD 2 0
  · rw [if_pos h2] at h; cases h
  rw [if_neg h2]
  exact ⟨by omega, by omega, rfl⟩
theorem goF_is3 {r got : List Int} {x : Int} (h : (goF 3 r got x).is = true) : r.getD 2 0 - 32 ≤ x ∧ goF 3 r got x = gLoad r got 4 (lRing (r.getD 2 0) (r.getD 0 0)) := by
  rw [goF3] at h ⊢
  by_cases h1 : x < r.getD 2 0 - 32
  · rw [if_pos h1] at h; cases h
  rw [if_neg h1]
  exact ⟨by omega, rfl⟩
def Came (w : Int) (cs hs : List Int) (d c : Int) (t' : Task) (E : GoR) : Prop :=
  ∃ k r x, t' = mkT c k r [x] ∧ E = goF k r [x] x ∧ okG c [⟨68, k, r⟩] [x] = true ∧
    (E.is = true ∧ CI w (cs.getD 0 0) (cs.getD 1 0) (cs.getD 4 0) hs d k r [x] ∨
     E.is = false ∧ E.got.length = 1 ∨
     E.is = false ∧ ∃ p : Int, E.got = [0, p] ∧ 1 ≤ p ∧ p ≤ hs.length ∧ hs.getD (p - 1).toNat 0 = d)
theorem okG_mk {c k x : Int} {r : List Int} (h1 : 0 ≤ c) (h2 : c ≤ 3) (hr : r.length = 96) (h : OkF k r x) : okG c [⟨68, k, r⟩] [x] = true := by
  show (decide (0 ≤ c ∧ c ≤ 3 ∧ (68 : Int) = 68 ∧ r.length = 96) && okFr k r [x]) = true
  rw [Bool.and_eq_true]
  exact ⟨decide_eq_true ⟨h1, h2, rfl, hr⟩, decide_eq_true h⟩
theorem okG_mk0 {c : Int} {r : List Int} (h1 : 0 ≤ c) (h2 : c ≤ 3) (hr : r.length = 96) : okG c [⟨68, 0, r⟩] [] = true := by
  show (decide (0 ≤ c ∧ c ≤ 3 ∧ (68 : Int) = 68 ∧ r.length = 96) && okFr 0 r []) = true
  rw [Bool.and_eq_true]
  exact ⟨decide_eq_true ⟨h1, h2, rfl, hr⟩, rfl⟩
theorem okDo_load {w : Int} {cs hs : List Int} (h : RW w cs hs) {cell : Int} (h0 : 0 ≤ cell) (h1 : cell < 771) : OkDo cs 0 cell 0 0 :=
  ⟨.inl ⟨rfl, rfl, rfl⟩, h0, by rw [h.lc]; exact h1, by decide, by decide, by decide, by decide⟩
theorem okDo_cas {w : Int} {cs hs : List Int} (h : RW w cs hs) {cell b v : Int} (h0 : 0 ≤ cell) (h1 : cell < 771) (hb : -1152921504606846976 ≤ b ∧ b ≤ 1152921504606846976) (hv : -1152921504606846976 ≤ v ∧ v ≤ 1152921504606846976) : OkDo cs 2 cell b v :=
  ⟨.inr rfl, h0, by rw [h.lc]; exact h1, hb.1, hb.2, hv.1, hv.2⟩
theorem goF2_end {r got : List Int} {x : Int} (h : (goF 2 r got x).is = false) : (goF 2 r got x).got.length = 1 := by
  rw [goF2] at h ⊢
  by_cases h1 : x + r.getD 0 0 < r.getD 2 0
  · rw [if_pos h1]; rfl
  rw [if_neg h1] at h ⊢
  by_cases h2 : 1048575 < r.getD 2 0
  · rw [if_pos h2]; rfl
  rw [if_neg h2] at h
  cases h
theorem goF3_end {r got : List Int} {x : Int} (h : (goF 3 r got x).is = false) : (goF 3 r got x).got.length = 1 := by
  rw [goF3] at h ⊢
  by_cases h1 : x < r.getD 2 0 - 32
  · rw [if_pos h1]; rfl
  rw [if_neg h1] at h
  cases h
theorem goF4_is (r got : List Int) (x : Int) : (goF 4 r got x).is = true := by
  rw [goF4]
  split
  · rfl
  split <;> rfl
theorem RW.step {w : Int} {cs hs : List Int} (h : RW w cs hs) {c d k : Int} {r got : List Int} (hc0 : 0 ≤ c) (hc3 : c ≤ 3) (hd : 256 ≤ d ∧ d ≤ 262143) (hk : (hs.length : Int) < 100000)
    (hi : CI w (cs.getD 0 0) (cs.getD 1 0) (cs.getD 4 0) hs d k r got) :
    ∃ ext, (ext = [] ∨ ext = [d] ∧ d ∉ hs) ∧ ∃ cs' t' E, StepR cs (mkT c k r got) cs' t' E ∧ RW w cs' (hs ++ ext) ∧ cs'.getD 0 0 = cs.getD 0 0 ∧ cs'.getD 4 0 = cs.getD 4 0 ∧ cs.getD 1 0 ≤ cs'.getD 1 0 ∧
      okG c [⟨68, k, r⟩] got = true ∧ OkDo cs (goF k r got (got.headD 0)).kind (goF k r got (got.headD 0)).a (goF k r got (got.headD 0)).b (goF k r got (got.headD 0)).v ∧ Came w cs' (hs ++ ext) d c t' E := by
  obtain ⟨a1, a2, a3, a4, a5, a6, hi⟩ := hi
  have hw0 := h.w0
  have hw1 := h.w1
  have hTt := h.Tt
  have htT := h.tT
  have hfT := h.fT
  have hqf := h.qf
  have hq0 := h.q0
  have ht1 := h.t1
  have hTf := h.Tf
  have hlc := h.lc
  have ok : ∀ (k' x' : Int) (r' : List Int), r'.length = 96 → r'.getD 0 0 = w → 0 ≤ r'.getD 2 0 → r'.getD 2 0 ≤ 200000 → 1 ≤ k' → k' ≤ 7 → 0 ≤ x' → x' ≤ 1152921504606846976 → okG c [⟨68, k', r'⟩] [x'] = true :=
    fun k' x' r' e1 e2 e3 e4 e5 e6 e7 e8 => okG_mk hc0 hc3 e1 ⟨e5, e6, e7, e8, by omega, by omega, e3, by omega⟩
  have s2l : ∀ y : Int, (r.set 2 y).length = 96 := fun y => by rw [List.length_set]; exact a1
  have s20 : ∀ y : Int, (r.set 2 y).getD 0 0 = w := fun y => by rw [getD_set_ne' (by decide)]; exact a2
  have s21 : ∀ y : Int, (r.set 2 y).getD 1 0 = d := fun y => by rw [getD_set_ne' (by decide)]; exact a3
  have s22 : ∀ y : Int, (r.set 2 y).getD 2 0 = y := fun y => getD_set_eq (by omega)
  have s3l : ∀ y : Int, (r.set 3 y).length = 96 := fun y => by rw [List.length_set]; exact a1
  have s30 : ∀ y : Int, (r.set 3 y).getD 0 0 = w := fun y => by rw [getD_set_ne' (by decide)]; exact a2
  have s31 : ∀ y : Int, (r.set 3 y).getD 1 0 = d := fun y => by rw [getD_set_ne' (by decide)]; exact a3
  have s32 : ∀ y : Int, (r.set 3 y).getD 2 0 = r.getD 2 0 := fun y => getD_set_ne' (by decide)
  have hs1 : (cs.set (Int.toNat 1) (r.getD 2 0 + 1)).getD 1 0 = r.getD 2 0 + 1 := getD_set_eq (i := 1) (by omega)
  -- a load of TAIL
  have hload1 : ∀ (r' : List Int), r'.length = 96 → r'.getD 0 0 = w → r'.getD 1 0 = d → r'.getD 2 0 = r.getD 2 0 → d ∉ hs → Came w cs hs d c (mkT c 1 r' [cs.getD 1 0]) (goF 1 r' [cs.getD 1 0] (cs.getD 1 0)) :=
    fun r' e1 e2 e3 e4 e5 => ⟨1, r', cs.getD 1 0, rfl, rfl, ok 1 _ r' e1 e2 (by omega) (by omega) (by decide) (by decide) (by omega) (by omega),
      .inl ⟨rfl, e1, e2, e3, by omega, by omega, rfl, .inr ⟨_, rfl, by omega, .inl ⟨rfl, by omega, by omega, e5⟩⟩⟩⟩
  rcases hi with ⟨rfl, rfl, b3⟩ | ⟨x, rfl, x0, hi⟩
  · refine ⟨[], .inl rfl, ?_⟩
    rw [List.append_nil]
    exact ⟨_, _, _, step_load (r' := r) (n := 1) (cell := 1) rfl, h, rfl, rfl, Int.le_refl _, okG_mk0 hc0 hc3 a1, okDo_load (cell := 1) h (by decide) (by decide), hload1 r a1 a2 a3 rfl b3⟩
  rcases hi with ⟨rfl, c2, c3, c4⟩ | ⟨rfl, c2, c3, c4⟩ | ⟨rfl, c2, c3, c4, c5⟩ | ⟨rfl, c2, c3, c4, c5, c6, c7⟩ | ⟨rfl, c2, c3⟩ | ⟨rfl, c2, c3⟩
  · -- 1
    refine ⟨[], .inl rfl, ?_⟩
    rw [List.append_nil]
    refine ⟨_, _, _, step_load (r' := r.set 2 x) (n := 2) (cell := 0) rfl, h, rfl, rfl, Int.le_refl _, ok 1 x r a1 a2 a4 (by omega) (by decide) (by decide) x0 (by omega), okDo_load (cell := 0) h (by decide) (by decide), ?_⟩
    refine ⟨2, r.set 2 x, cs.getD 0 0, rfl, rfl, ok 2 _ _ (s2l x) (s20 x) (by rw [s22]; omega) (by rw [s22]; omega) (by decide) (by decide) (by omega) (by omega), ?_⟩
    cases hE : (goF 2 (r.set 2 x) [cs.getD 0 0] (cs.getD 0 0)).is with
    | true => exact .inl ⟨hE, s2l x, s20 x, s21 x, by rw [s22]; omega, by rw [s22]; omega, hE, .inr ⟨_, rfl, by omega, .inr (.inl ⟨rfl, by rw [s22]; omega, Int.le_refl _, c4⟩)⟩⟩
    | false => exact .inr (.inl ⟨hE, goF2_end hE⟩)
  · -- 2
    obtain ⟨e1, e2, e3⟩ := goF_is2 a6
    refine ⟨[], .inl rfl, ?_⟩
    rw [List.append_nil]
    refine ⟨_, _, _, step_load (r' := r) (n := 3) (cell := 4) e3, h, rfl, rfl, Int.le_refl _, ok 2 x r a1 a2 a4 (by omega) (by decide) (by decide) x0 (by omega), ?_, ?_⟩
    · show OkDo cs (goF 2 r [x] x).kind (goF 2 r [x] x).a (goF 2 r [x] x).b (goF 2 r [x] x).v
      rw [show goF 2 r [x] x = gLoad r [x] 3 4 from e3]
      exact okDo_load (cell := 4) h (by decide) (by decide)
    refine ⟨3, r, cs.getD 4 0, rfl, rfl, ok 3 _ _ a1 a2 a4 (by omega) (by decide) (by decide) hq0 (by omega), ?_⟩
    have e1 : r.getD 2 0 ≤ x + r.getD 0 0 := e1
    cases hE : (goF 3 r [cs.getD 4 0] (cs.getD 4 0)).is with
    | true => exact .inl ⟨hE, a1, a2, a3, a4, a5, hE, .inr ⟨_, rfl, hq0, .inr (.inr (.inl ⟨rfl, c2, by omega, Int.le_refl _, c4⟩))⟩⟩
    | false => exact .inr (.inl ⟨hE, goF3_end hE⟩)
  · -- 3
    obtain ⟨e1, e3⟩ := goF_is3 a6
    have e1 : r.getD 2 0 - 32 ≤ x := e1
    rw [a2, lRing_eq' a4 hw0 hw1] at e3
    have hrd := h.read_le (r.getD 2 0)
    have hcl := h.cell (r.getD 2 0)
    refine ⟨[], .inl rfl, ?_⟩
    rw [List.append_nil]
    refine ⟨_, _, _, step_load (r' := r) (n := 4) (cell := 13 + r.getD 2 0 % w) e3, h, rfl, rfl, Int.le_refl _, ok 3 x r a1 a2 a4 (by omega) (by decide) (by decide) x0 (by omega), ?_, ?_⟩
    · rw [e3]
      exact okDo_load (cell := 13 + r.getD 2 0 % w) h (by omega) (by omega)
    refine ⟨4, r, _, rfl, rfl, ok 4 _ _ a1 a2 a4 (by omega) (by decide) (by decide) hrd.1 (by omega), .inl ⟨goF4_is _ _ _, a1, a2, a3, a4, a5, goF4_is _ _ _, .inr ⟨_, rfl, hrd.1, .inr (.inr (.inr (.inl ⟨rfl, c2, c3, by omega, hrd.2.1, hrd.2.2, c5⟩)))⟩⟩⟩
  · -- 4
    have hok := ok 4 x r a1 a2 a4 (by omega) (by decide) (by decide) x0 (by omega)
    have hg := goF4 r [x] x
    by_cases p1 : plc x = r.getD 2 0
    · rw [if_pos p1] at hg
      have hstep := step_cas (cs := cs) (c := c) (k := 4) (r := r) (got := [x]) hg
      refine ⟨[], .inl rfl, ?_⟩
      rw [List.append_nil]
      have hx' : ∀ b : Prop, [Decidable b] → 0 ≤ (if b then (1 : Int) else 0) ∧ (if b then (1 : Int) else 0) ≤ 1 := fun b _ => by split <;> decide
      refine ⟨_, _, _, hstep, ?_, ?_, ?_, ?_, hok, ?_, ?_⟩
      · split
        · rename_i e; exact h.tail e (by omega)
        · exact h
      · split
        · exact getD_set_ne' (by decide)
        · rfl
      · split
        · exact getD_set_ne' (by decide)
        · rfl
      · split
        · rename_i e
          rw [hs1]
          have e : cs.getD 1 0 = r.getD 2 0 := e
          omega
        · exact Int.le_refl _
      · show OkDo cs (goF 4 r [x] x).kind (goF 4 r [x] x).a (goF 4 r [x] x).b (goF 4 r [x] x).v
        rw [hg]
        exact okDo_cas (cell := 1) (b := r.getD 2 0) (v := r.getD 2 0 + 1) h (by decide) (by decide) ⟨by omega, by omega⟩ ⟨by omega, by omega⟩
      · have ht' : r.getD 2 0 ≤ (if cs.getD (Int.toNat 1) 0 = r.getD 2 0 then cs.set (Int.toNat 1) (r.getD 2 0 + 1) else cs).getD 1 0 := by
          split
          · rw [hs1]; omega
          · exact a5
        have hb := hx' (cs.getD (Int.toNat 1) 0 = r.getD 2 0)
        exact ⟨5, r.set 3 x, _, rfl, rfl, ok 5 _ _ (s3l x) (s30 x) (by rw [s32]; exact a4) (by rw [s32]; omega) (by decide) (by decide) hb.1 (by omega), .inl ⟨rfl, s3l x, s30 x, s31 x, by rw [s32]; exact a4, by rw [s32]; exact ht', rfl, .inr ⟨_, rfl, hb.1, .inr (.inr (.inr (.inr (.inl ⟨rfl, hb.2, c7⟩))))⟩⟩⟩
    rw [if_neg p1] at hg
    by_cases p2 : r.getD 2 0 < plc x
    · rw [if_pos p2] at hg
      refine ⟨[], .inl rfl, ?_⟩
      rw [List.append_nil]
      refine ⟨_, _, _, step_load (r' := r.set 3 x) (n := 1) (cell := 1) hg, h, rfl, rfl, Int.le_refl _, hok, ?_, hload1 _ (s3l x) (s30 x) (s31 x) (s32 x) c7⟩
      show OkDo cs (goF 4 r [x] x).kind (goF 4 r [x] x).a (goF 4 r [x] x).b (goF 4 r [x] x).v
      rw [hg]
      exact okDo_load (cell := 1) h (by decide) (by decide)
    rw [if_neg p2] at hg
    have hwd : wordN (r.getD 2 0) d = r.getD 2 0 * 1048576 + d := by
      rw [wordN, if_pos]; exact ⟨by omega, by omega, .inl hd⟩
    rw [a2, a3, hwd, lRing_eq' a4 hw0 hw1] at hg
    have hcl := h.cell (r.getD 2 0)
    have hstep := step_cas (cs := cs) (c := c) (k := 4) (r := r) (got := [x]) hg
    have hdo : OkDo cs (goF 4 r [x] ([x].headD 0)).kind (goF 4 r [x] ([x].headD 0)).a (goF 4 r [x] ([x].headD 0)).b (goF 4 r [x] ([x].headD 0)).v := by
      show OkDo cs (goF 4 r [x] x).kind (goF 4 r [x] x).a (goF 4 r [x] x).b (goF 4 r [x] x).v
      rw [hg]
      exact okDo_cas (cell := 13 + r.getD 2 0 % w) (b := x) (v := r.getD 2 0 * 1048576 + d) h (by omega) (by omega) ⟨by omega, by omega⟩ ⟨by omega, by omega⟩
    by_cases hx : cs.getD (13 + r.getD 2 0 % w).toNat 0 = x
    · simp only [if_pos hx] at hstep
      obtain ⟨g1, g2⟩ := h.give (d := d) c2 a5 c3 (by rw [hx]; omega) hd hk c4
      refine ⟨[d], .inr ⟨rfl, c7⟩, _, _, _, hstep, g2, getD_set_ne' (by omega), getD_set_ne' (by omega), ?_, hok, hdo, ?_⟩
      · rw [getD_set_ne' (by omega)]; exact Int.le_refl _
      · have h1 : (cs.set (13 + r.getD 2 0 % w).toNat (r.getD 2 0 * 1048576 + d)).getD 1 0 = cs.getD 1 0 := getD_set_ne' (by omega)
        have hl : ((hs ++ [d]).length : Int) = hs.length + 1 := by simp
        exact ⟨6, r.set 3 x, 1, rfl, rfl, ok 6 _ _ (s3l x) (s30 x) (by rw [s32]; exact a4) (by rw [s32]; omega) (by decide) (by decide) (by decide) (by decide), .inl ⟨rfl, s3l x, s30 x, s31 x, by rw [s32]; exact a4, by rw [s32, h1]; exact a5, rfl,
          .inr ⟨_, rfl, by decide, .inr (.inr (.inr (.inr (.inr ⟨rfl, by rw [s32]; exact c2, .inr ⟨rfl, by rw [s32, hl]; omega, by rw [s32, show (r.getD 2 0 - 1).toNat = hs.length by omega]; exact getD_end⟩⟩))))⟩⟩⟩
    · simp only [if_neg hx] at hstep
      refine ⟨[], .inl rfl, ?_⟩
      rw [List.append_nil]
      exact ⟨_, _, _, hstep, h, rfl, rfl, Int.le_refl _, hok, hdo, 6, r.set 3 x, 0, rfl, rfl, ok 6 _ _ (s3l x) (s30 x) (by rw [s32]; exact a4) (by rw [s32]; omega) (by decide) (by decide) (by decide) (by decide), .inl ⟨rfl, s3l x, s30 x, s31 x, by rw [s32]; exact a4, by rw [s32]; exact a5, rfl,
          .inr ⟨_, rfl, by decide, .inr (.inr (.inr (.inr (.inr ⟨rfl, by rw [s32]; exact c2, .inl ⟨rfl, c7⟩⟩))))⟩⟩⟩
  · -- 5
    refine ⟨[], .inl rfl, ?_⟩
    rw [List.append_nil]
    exact ⟨_, _, _, step_load (r' := r) (n := 1) (cell := 1) rfl, h, rfl, rfl, Int.le_refl _, ok 5 x r a1 a2 a4 (by omega) (by decide) (by decide) x0 (by omega), okDo_load (cell := 1) h (by decide) (by decide), hload1 r a1 a2 a3 rfl c3⟩
  · -- 6
    rcases c3 with ⟨rfl, c4⟩ | ⟨rfl, c4, c5⟩
    · refine ⟨[], .inl rfl, ?_⟩
      rw [List.append_nil]
      exact ⟨_, _, _, step_load (r' := r) (n := 1) (cell := 1) rfl, h, rfl, rfl, Int.le_refl _, ok 6 0 r a1 a2 a4 (by omega) (by decide) (by decide) (by decide) (by decide), okDo_load (cell := 1) h (by decide) (by decide), hload1 r a1 a2 a3 rfl c4⟩
    · have hg : goF 6 r [1] 1 = gCas r [1] 7 1 (r.getD 2 0) (r.getD 2 0 + 1) := rfl
      have hstep := step_cas (cs := cs) (c := c) (k := 6) (r := r) (got := [1]) hg
      refine ⟨[], .inl rfl, ?_⟩
      rw [List.append_nil]
      have hx' : ∀ b : Prop, [Decidable b] → 0 ≤ (if b then (1 : Int) else 0) ∧ (if b then (1 : Int) else 0) ≤ 1 := fun b _ => by split <;> decide
      have hb := hx' (cs.getD (Int.toNat 1) 0 = r.getD 2 0)
      refine ⟨_, _, _, hstep, ?_, ?_, ?_, ?_, ok 6 1 r a1 a2 a4 (by omega) (by decide) (by decide) (by decide) (by decide), okDo_cas (cell := 1) (b := r.getD 2 0) (v := r.getD 2 0 + 1) h (by decide) (by decide) ⟨by omega, by omega⟩ ⟨by omega, by omega⟩, ?_⟩
      · split
        · rename_i e; exact h.tail e (by omega)
        · exact h
      · split
        · exact getD_set_ne' (by decide)
        · rfl
      · split
        · exact getD_set_ne' (by decide)
        · rfl
      · split
        · rename_i e
          rw [hs1]
          have e : cs.getD 1 0 = r.getD 2 0 := e
          omega
        · exact Int.le_refl _
      · exact ⟨7, r, _, rfl, rfl, ok 7 _ _ a1 a2 a4 (by omega) (by decide) (by decide) hb.1 (by omega), .inr (.inr ⟨rfl, r.getD 2 0, rfl, c2, c4, c5⟩)⟩
theorem hnd_in {c m : Int} (h0 : 0 ≤ c) (h3 : c ≤ 3) (m1 : 1 ≤ m) (m9 : m ≤ 900) : hnd c m = (m + 1) * 256 + c ∧ 256 ≤ hnd c m ∧ hnd c m ≤ 262143 := by
  have : m % 1000 = m := Int.emod_eq_of_lt (by omega) (by omega)
  unfold hnd
  rw [this]
  omega
theorem hnd_inj {c m c' m' : Int} (h0 : 0 ≤ c) (h3 : c ≤ 3) (m1 : 1 ≤ m) (m9 : m ≤ 900) (h0' : 0 ≤ c') (h3' : c' ≤ 3) (m1' : 1 ≤ m') (m9' : m' ≤ 900) (h : hnd c m = hnd c' m') : c = c' ∧ m = m' := by
  rw [(hnd_in h0 h3 m1 m9).1, (hnd_in h0' h3' m1' m9').1] at h
  omega
structure RI (w : Int) (s : GS) (hs : List Int) (kk : Int) : Prop where
  rw : RW w s.cs hs
  lt : s.ts.length = 4
  lb : s.busy.length = 4
  lh : s.has.length = 4
  n0 : 0 ≤ s.n
  nk : s.n ≤ kk
  hk : (hs.length : Int) ≤ kk
  tk : (s.told.length : Int) ≤ kk
  hn : ∀ d ∈ hs, ∃ m c, 1 ≤ m ∧ m ≤ s.n ∧ 0 ≤ c ∧ c ≤ 3 ∧ d = hnd c m
  cl : ∀ c, 0 ≤ c → c ≤ 3 → isBusy s c = true → ∃ k r got m, tkC s.ts c = mkT c k r got ∧ 1 ≤ m ∧ m ≤ s.n ∧ s.has.getD c.toNat 0 = hnd c m ∧ CI w (s.cs.getD 0 0) (s.cs.getD 1 0) (s.cs.getD 4 0) hs (s.has.getD c.toNat 0) k r got
  told1 : ∀ p ∈ s.told, 1 ≤ p ∧ p ≤ hs.length
  toldN : s.told.Nodup
  toldB : ∀ p ∈ s.told, ∀ c, 0 ≤ c → c ≤ 3 → isBusy s c = true → hs.getD (p - 1).toNat 0 ≠ s.has.getD c.toNat 0
theorem RI.more {w : Int} {s : GS} {hs : List Int} {kk kk' : Int} (h : RI w s hs kk) (hk : kk ≤ kk') : RI w s hs kk' :=
  ⟨h.rw, h.lt, h.lb, h.lh, h.n0, by have := h.nk; omega, by have := h.hk; omega, by have := h.tk; omega, h.hn, h.cl, h.told1, h.toldN, h.toldB⟩
theorem RI.cells {w : Int} {s : GS} {hs : List Int} {kk : Int} (h : RI w s hs kk) {cs' : List Int} (hrw : RW w cs' hs) (hf : s.cs.getD 0 0 ≤ cs'.getD 0 0) (ht : s.cs.getD 1 0 ≤ cs'.getD 1 0) (hq : s.cs.getD 4 0 ≤ cs'.getD 4 0) : RI w { s with cs := cs' } hs kk := by
  refine ⟨hrw, h.lt, h.lb, h.lh, h.n0, h.nk, h.hk, h.tk, h.hn, fun c c0 c3 hb => ?_, h.told1, h.toldN, h.toldB⟩
  obtain ⟨k, r, got, m, e1, e2, e3, e4, e5⟩ := h.cl c c0 c3 hb
  refine ⟨k, r, got, m, e1, e2, e3, e4, ?_⟩
  have := e5.mono (ext := []) hf ht hq (by simp)
  rwa [List.append_nil] at this
theorem tkC_set {ts : List Task} {c c' : Int} {t : Task} (hl : ts.length = 4) (c0 : 0 ≤ c) (c3 : c ≤ 3) (d0 : 0 ≤ c') : tkC (ts.set c.toNat t) c' = if c = c' then t else tkC ts c' := by
  unfold tkC
  by_cases e : c = c'
  · subst e
    rw [if_pos rfl, List.getD_eq_getElem?_getD, List.getElem?_set_self (by omega)]; rfl
  · rw [if_neg e, List.getD_eq_getElem?_getD, List.getD_eq_getElem?_getD, List.getElem?_set_ne (by omega)]
theorem busy_set {bs : List Bool} {c c' : Int} {b : Bool} (hl : bs.length = 4) (c0 : 0 ≤ c) (c3 : c ≤ 3) (d0 : 0 ≤ c') : (bs.set c.toNat b).getD c'.toNat false = if c = c' then b else bs.getD c'.toNat false := by
  by_cases e : c = c'
  · subst e
    rw [if_pos rfl, List.getD_eq_getElem?_getD, List.getElem?_set_self (by omega)]; rfl
  · rw [if_neg e, List.getD_eq_getElem?_getD, List.getD_eq_getElem?_getD, List.getElem?_set_ne (by omega)]
theorem has_set {hs : List Int} {c c' : Int} {b : Int} (hl : hs.length = 4) (c0 : 0 ≤ c) (c3 : c ≤ 3) (d0 : 0 ≤ c') : (hs.set c.toNat b).getD c'.toNat 0 = if c = c' then b else hs.getD c'.toNat 0 := by
  rw [getD_set _ _ _ _ _ (by omega)]
  by_cases e : c = c'
  · subst e; rw [if_pos rfl, if_pos rfl]
  · rw [if_neg (by omega), if_neg e]
theorem RI.begin {w : Int} {s : GS} {hs : List Int} {kk : Int} (h : RI w s hs kk) (hkk : kk < 900) {c : Int} (c0 : 0 ≤ c) (c3 : c ≤ 3) (hb : isBusy s c = false) :
    RI w (beginG w { s with n := s.n + 1, has := s.has.set c.toNat (hnd c (s.n + 1)) } c (hnd c (s.n + 1))) hs (kk + 1) := by
  have hn0 := h.n0
  have hnk := h.nk
  have hnew : hnd c (s.n + 1) ∉ hs := fun hm => by
    obtain ⟨m, c', m1, m2, d0, d3, e⟩ := h.hn _ hm
    have := hnd_inj c0 c3 (by omega) (by omega) d0 d3 m1 (by omega) e
    omega
  refine ⟨h.rw, by simp [beginG, h.lt], by simp [beginG, h.lb], by simp [beginG, h.lh], by show 0 ≤ s.n + 1; omega, by show s.n + 1 ≤ kk + 1; omega, by have := h.hk; omega, by have := h.tk; show (s.told.length : Int) ≤ kk + 1; omega, fun d hd => ?_, fun c' d0 d3 hb' => ?_, h.told1, h.toldN, fun p hp c' d0 d3 hb' => ?_⟩
  · obtain ⟨m, c', m1, m2, e⟩ := h.hn d hd
    exact ⟨m, c', m1, by show m ≤ s.n + 1; omega, e⟩
  · have e1 : tkC (s.ts.set c.toNat ⟨c, [⟨68, 0, regs' w (hnd c (s.n + 1))⟩], [], false⟩) c' = _ := tkC_set h.lt c0 c3 d0
    have e2 : (s.busy.set c.toNat true).getD c'.toNat false = _ := busy_set h.lb c0 c3 d0
    have e3 : (s.has.set c.toNat (hnd c (s.n + 1))).getD c'.toNat 0 = _ := has_set h.lh c0 c3 d0
    show ∃ k r got m, tkC (s.ts.set c.toNat ⟨c, [⟨68, 0, regs' w (hnd c (s.n + 1))⟩], [], false⟩) c' = mkT c' k r got ∧ 1 ≤ m ∧ m ≤ s.n + 1 ∧ (s.has.set c.toNat (hnd c (s.n + 1))).getD c'.toNat 0 = hnd c' m ∧ CI w (s.cs.getD 0 0) (s.cs.getD 1 0) (s.cs.getD 4 0) hs ((s.has.set c.toNat (hnd c (s.n + 1))).getD c'.toNat 0) k r got
    rw [e1, e3]
    by_cases e : c = c'
    · subst e
      rw [if_pos rfl, if_pos rfl]
      exact ⟨0, regs' w (hnd c (s.n + 1)), [], s.n + 1, rfl, by omega, Int.le_refl _, rfl, rfl, rfl, rfl, Int.le_refl _, by have := h.rw.t1; show (0 : Int) ≤ _; omega, rfl, .inl ⟨rfl, rfl, hnew⟩⟩
    · rw [if_neg e, if_neg e]
      have hb2 : isBusy s c' = true := by
        have : (s.busy.set c.toNat true).getD c'.toNat false = true := hb'
        rw [e2, if_neg e] at this
        exact this
      obtain ⟨k, r, got, m, q1, q2, q3, q4, q5⟩ := h.cl c' d0 d3 hb2
      exact ⟨k, r, got, m, q1, q2, by omega, q4, q5⟩
  · have e2 : (s.busy.set c.toNat true).getD c'.toNat false = _ := busy_set h.lb c0 c3 d0
    have e3 : (s.has.set c.toNat (hnd c (s.n + 1))).getD c'.toNat 0 = _ := has_set h.lh c0 c3 d0
    show hs.getD (p - 1).toNat 0 ≠ (s.has.set c.toNat (hnd c (s.n + 1))).getD c'.toNat 0
    rw [e3]
    by_cases e : c = c'
    · rw [if_pos e]
      intro q
      obtain ⟨p1, p2⟩ := h.told1 p hp
      have hlt : (p - 1).toNat < hs.length := by omega
      rw [getD_at hlt] at q
      exact hnew (q ▸ List.getElem_mem hlt)
    · rw [if_neg e]
      have : (s.busy.set c.toNat true).getD c'.toNat false = true := hb'
      rw [e2, if_neg e] at this
      exact h.toldB p hp c' d0 d3 this
structure PickR (w : Int) (s s' : GS) (hs hs' : List Int) (c : Int) : Prop where
  fr : s'.cs.getD 0 0 ≤ hs.length
  ext : hs' = hs ∨ ∃ d, hs' = hs ++ [d]
  told : s'.told = s.told ∨ ∃ p : Int, s'.told = s.told ++ [p] ∧ 1 ≤ p ∧ p ≤ hs'.length ∧ hs'.getD (p - 1).toNat 0 = s'.has.getD c.toNat 0
theorem RI.stepOK {w : Int} {s : GS} {hs : List Int} {kk : Int} (h : RI w s hs kk) (hkk : kk < 900) {now sure : List Sector} (hd : diskOK now sure = true) (hg1 : goodL now = true) (hg2 : goodL sure = true) {c : Int} (c0 : 0 ≤ c) (c3 : c ≤ 3) (hb : isBusy s c = true) : OkStep s.cs (tkC s.ts c) now sure := by
  obtain ⟨k, r, got, m, q1, q2, q3, q4, q5⟩ := h.cl c c0 c3 hb
  have hv := hnd_in (c := c) (m := m) c0 c3 q2 (by have := h.nk; omega)
  rw [← q4] at hv
  obtain ⟨ext, _, cs', t', E, e1, e2, e3, e4, e5, e6, e7, k', r', x', e8, e9, e10, _⟩ := h.rw.step c0 c3 hv.2 (by have := h.hk; omega) q5
  rw [q1]
  refine ⟨e6, rfl, q5.2.2.2.2.2.1, e7, h.rw.cellsOK, hd, hg1, hg2, ?_⟩
  have ht := e1.ht
  rw [e8] at ht
  have h1 : (stG (mkT c k r got)).st = [⟨68, k', r'⟩] := congrArg Task.stack ht
  have h2 : [stX s.cs (mkT c k r got)] = [x'] := congrArg Task.got ht
  rw [h1, h2]
  exact e10
theorem RI.step {w : Int} {s : GS} {hs : List Int} {kk : Int} (h : RI w s hs kk) (hkk : kk < 900) {c : Int} (c0 : 0 ≤ c) (c3 : c ≤ 3) (hb : isBusy s c = true) :
    ∃ hs', RI w (stepP s c) hs' (kk + 1) ∧ PickR w s (stepP s c) hs hs' c := by
  obtain ⟨k, r, got, m, q1, q2, q3, q4, q5⟩ := h.cl c c0 c3 hb
  have hnk := h.nk
  have hv := hnd_in (c := c) (m := m) c0 c3 q2 (by omega)
  rw [← q4] at hv
  obtain ⟨ext, hext, cs', t', E, e1, e2, e3, e4, e5, e6, e7, k', r', x', e8, e9, e10, hcame⟩ := h.rw.step c0 c3 hv.2 (by have := h.hk; omega) q5
  have hP : stepP s c = { s with cs := cs', ts := s.ts.set c.toNat t', busy := bif E.is then s.busy else s.busy.set c.toNat false, told := s.told ++ newTold s c } := by
    unfold stepP
    rw [if_pos hb]
    unfold stepS
    rw [q1, e1.hcs, e1.ht, e1.hE]
  have hN : newTold s c = if E.is = false ∧ E.got.length = 2 ∧ E.got.getD 0 0 = 0 then [E.got.getD 1 0] else [] := by
    unfold newTold; rw [q1, e1.hE]
  have hlen : (hs.length : Int) ≤ ((hs ++ ext).length : Int) := by rw [List.length_append]; omega
  have hlen2 : ((hs ++ ext).length : Int) ≤ hs.length + 1 := by
    rcases hext with rfl | ⟨rfl, _⟩
    · rw [List.append_nil]; omega
    · rw [List.length_append]; simp
  -- the others
  have hoth : ∀ c', 0 ≤ c' → c' ≤ 3 → c ≠ c' → isBusy s c' = true → ∃ k r got m, tkC (s.ts.set c.toNat t') c' = mkT c' k r got ∧ 1 ≤ m ∧ m ≤ s.n ∧ s.has.getD c'.toNat 0 = hnd c' m ∧ CI w (cs'.getD 0 0) (cs'.getD 1 0) (cs'.getD 4 0) (hs ++ ext) (s.has.getD c'.toNat 0) k r got := by
    intro c' d0 d3 hne hb'
    obtain ⟨k2, r2, got2, m2, p1, p2, p3, p4, p5⟩ := h.cl c' d0 d3 hb'
    refine ⟨k2, r2, got2, m2, by rw [tkC_set h.lt c0 c3 d0, if_neg hne]; exact p1, p2, p3, p4, p5.mono (by omega) e5 (by omega) ?_⟩
    rcases hext with rfl | ⟨rfl, _⟩
    · simp
    · intro hm
      rw [List.mem_singleton, q4, p4] at hm
      exact hne (hnd_inj d0 d3 p2 (by omega) c0 c3 q2 (by omega) hm).1.symm
  have hhn : ∀ d ∈ hs ++ ext, ∃ m c, 1 ≤ m ∧ m ≤ s.n ∧ 0 ≤ c ∧ c ≤ 3 ∧ d = hnd c m := by
    intro d hd
    rcases List.mem_append.1 hd with hd | hd
    · exact h.hn d hd
    · rcases hext with rfl | ⟨rfl, _⟩
      · simp at hd
      · rw [List.mem_singleton] at hd
        subst hd
        exact ⟨m, c, q2, q3, c0, c3, q4⟩
  have happ : ∀ p ∈ s.told, (hs ++ ext).getD (p - 1).toNat 0 = hs.getD (p - 1).toNat 0 := fun p hp => getD_app (by have := h.told1 p hp; omega)
  have hbt : ∀ (bs : List Bool) (c' : Int), 0 ≤ c' → (bif E.is then s.busy else s.busy.set c.toNat false).getD c'.toNat false = true → s.busy.getD c'.toNat false = true ∧ (c = c' → E.is = true) := by
    intro _ c' d0 hq
    cases hE : E.is with
    | true => rw [hE] at hq; exact ⟨hq, fun _ => rfl⟩
    | false =>
      rw [hE] at hq
      simp only [cond_false] at hq
      rw [busy_set h.lb c0 c3 d0] at hq
      by_cases e : c = c'
      · rw [if_pos e] at hq; cases hq
      · rw [if_neg e] at hq; exact ⟨hq, fun q => (e q).elim⟩
  have base : ∀ told' : List Int, ((told' = s.told ∧ (E.is = true → CI w (cs'.getD 0 0) (cs'.getD 1 0) (cs'.getD 4 0) (hs ++ ext) (s.has.getD c.toNat 0) k' r' [x'])) ∨ (E.is = false ∧ ∃ p : Int, told' = s.told ++ [p] ∧ 1 ≤ p ∧ p ≤ (hs ++ ext).length ∧ (hs ++ ext).getD (p - 1).toNat 0 = s.has.getD c.toNat 0)) →
      RI w { s with cs := cs', ts := s.ts.set c.toNat t', busy := bif E.is then s.busy else s.busy.set c.toNat false, told := told' } (hs ++ ext) (kk + 1) := by
    intro told' ht
    refine ⟨e2, by simp [h.lt], ?_, h.lh, h.n0, by show s.n ≤ kk + 1; omega, by have := h.hk; omega, ?_, hhn, fun c' d0 d3 hb' => ?_, ?_, ?_, ?_⟩
    · show (bif E.is then s.busy else s.busy.set c.toNat false).length = 4
      cases E.is <;> simp [h.lb]
    · show (told'.length : Int) ≤ kk + 1
      have := h.tk
      rcases ht with ⟨rfl, _⟩ | ⟨_, p, rfl, _⟩
      · omega
      · rw [List.length_append]; simp; omega
    · obtain ⟨hb1, hb2⟩ := hbt [] c' d0 hb'
      by_cases e : c = c'
      · subst e
        have hi := hb2 rfl
        rcases ht with ⟨_, hci⟩ | ⟨hf, _⟩
        · refine ⟨k', r', [x'], m, ?_, q2, q3, q4, hci hi⟩
          show tkC (s.ts.set c.toNat t') c = _
          rw [tkC_set h.lt c0 c3 c0, if_pos rfl, e8]
        · rw [hi] at hf; cases hf
      · exact hoth c' d0 d3 e hb1
    · intro p hp
      rcases ht with ⟨rfl, _⟩ | ⟨_, p', rfl, p1, p2, _⟩
      · have := h.told1 p hp; omega
      · rcases List.mem_append.1 hp with hp | hp
        · have := h.told1 p hp; omega
        · rw [List.mem_singleton] at hp; subst hp; exact ⟨p1, p2⟩
    · show told'.Nodup
      rcases ht with ⟨rfl, _⟩ | ⟨_, p', rfl, p1, p2, p3⟩
      · exact h.toldN
      · refine List.nodup_append.2 ⟨h.toldN, by simp, ?_⟩
        intro a ha b hb2 hab
        rw [List.mem_singleton] at hb2
        subst hab
        subst hb2
        have := h.toldB a ha c c0 c3 hb
        rw [happ a ha] at p3
        exact this p3
    · intro p hp c' d0 d3 hb'
      obtain ⟨hb1, hb2⟩ := hbt [] c' d0 hb'
      have hold : ∀ p ∈ s.told, (hs ++ ext).getD (p - 1).toNat 0 ≠ s.has.getD c'.toNat 0 := fun p hp => by
        rw [happ p hp]; exact h.toldB p hp c' d0 d3 hb1
      rcases ht with ⟨rfl, _⟩ | ⟨hf, p', rfl, p1, p2, p3⟩
      · exact hold p hp
      · rcases List.mem_append.1 hp with hp | hp
        · exact hold p hp
        · rw [List.mem_singleton] at hp
          subst hp
          show (hs ++ ext).getD (p - 1).toNat 0 ≠ s.has.getD c'.toNat 0
          rw [p3]
          intro q
          have hne : c ≠ c' := fun e => by rw [hb2 e] at hf; cases hf
          obtain ⟨_, _, _, m2, _, p2', p3', p4', _⟩ := h.cl c' d0 d3 hb1
          rw [q4, p4'] at q
          exact hne (hnd_inj c0 c3 q2 (by omega) d0 d3 p2' (by omega) q).1
  have hx : hs ++ ext = hs ∨ ∃ d, hs ++ ext = hs ++ [d] := by
    rcases hext with rfl | ⟨rfl, _⟩
    · exact .inl (by simp)
    · exact .inr ⟨_, rfl⟩
  have hfr : cs'.getD 0 0 ≤ hs.length := by rw [e3]; exact h.rw.fT
  refine ⟨hs ++ ext, ?_⟩
  rw [hP]
  rcases hcame with ⟨hi, hci⟩ | ⟨hi, h1⟩ | ⟨hi, p, h1, h2, h3, h4⟩
  · have hn : newTold s c = [] := by rw [hN, if_neg (fun q => by rw [hi] at q; cases q.1)]
    rw [hn, List.append_nil]
    exact ⟨base s.told (.inl ⟨rfl, fun _ => hci⟩), hfr, hx, .inl rfl⟩
  · have hn : newTold s c = [] := by rw [hN, if_neg (fun q => by have := q.2.1; omega)]
    rw [hn, List.append_nil]
    exact ⟨base s.told (.inl ⟨rfl, fun q => by rw [hi] at q; cases q⟩), hfr, hx, .inl rfl⟩
  · have hn : newTold s c = [p] := by
      rw [hN, if_pos ⟨hi, by rw [h1]; rfl, by rw [h1]; rfl⟩, h1]; rfl
    rw [hn]
    exact ⟨base (s.told ++ [p]) (.inr ⟨hi, p, rfl, h2, h3, h4⟩), hfr, hx, .inr ⟨p, rfl, h2, h3, h4⟩⟩
theorem RI.pick {w : Int} {s : GS} {hs : List Int} {kk : Int} (h : RI w s hs kk) (hkk : kk < 900) (x dd : Int) : ∃ hs', RI w (pickG w s x dd) hs' (kk + 1) ∧ PickR w s (pickG w s x dd) hs hs' (x % 4) := by
  have c0 : 0 ≤ x % 4 := Int.emod_nonneg _ (by decide)
  have c3 : x % 4 ≤ 3 := by have := Int.emod_lt_of_pos x (by decide : (0 : Int) < 4); omega
  have same : PickR w s s hs hs (x % 4) := ⟨h.rw.fT, .inl rfl, .inl rfl⟩
  unfold pickG
  split
  · unfold beginP
    cases hb : isBusy s (x % 4) with
    | true => rw [if_pos rfl]; exact ⟨hs, h.more (by omega), same⟩
    | false => rw [if_neg (by simp)]; exact ⟨hs, h.begin hkk c0 c3 hb, h.rw.fT, .inl rfl, .inl rfl⟩
  split
  · cases hb : isBusy s (x % 4) with
    | true => exact h.step hkk c0 c3 hb
    | false =>
      have : stepP s (x % 4) = s := by unfold stepP; rw [if_neg (by rw [hb]; simp)]
      rw [this]; exact ⟨hs, h.more (by omega), same⟩
  have hl := h.rw.lc
  split
  · unfold doneP
    split
    · rename_i hp
      have g0 : (s.cs.set 0 (frontG s + 1)).getD 0 0 = frontG s + 1 := getD_set_eq (by omega)
      have hfr := (h.rw.done hp).fT
      refine ⟨hs, (h.cells (h.rw.done hp) (by rw [show s.cs.getD 0 0 = frontG s from rfl, g0]; omega) (by rw [getD_set_ne' (by decide)]; exact Int.le_refl _) (by rw [getD_set_ne' (by decide)]; exact Int.le_refl _)).more (by omega), hfr, .inl rfl, .inl rfl⟩
    · exact ⟨hs, h.more (by omega), same⟩
  split
  · have g4 : (s.cs.set 4 (s.cs.getD 0 0)).getD 4 0 = s.cs.getD 0 0 := getD_set_eq (by omega)
    refine ⟨hs, (h.cells h.rw.ckpt (by rw [getD_set_ne' (by decide)]; exact Int.le_refl _) (by rw [getD_set_ne' (by decide)]; exact Int.le_refl _) (by rw [g4]; exact h.rw.qf)).more (by omega), h.rw.ckpt.fT, .inl rfl, .inl rfl⟩
  · exact ⟨hs, h.more (by omega), same⟩
theorem RI.ok {w : Int} {s : GS} {hs : List Int} {kk : Int} (h : RI w s hs kk) (hkk : kk < 900) {now sure : List Sector} (hd : diskOK now sure = true) (hg1 : goodL now = true) (hg2 : goodL sure = true) (x : Int) : OkPick w s now sure (x % 4) := by
  have c0 : 0 ≤ x % 4 := Int.emod_nonneg _ (by decide)
  have c3 : x % 4 ≤ 3 := by have := Int.emod_lt_of_pos x (by decide : (0 : Int) < 4); omega
  have h1 := h.nk
  have h2 := h.tk
  have h3 := h.rw.q0
  have h4 := h.rw.qf
  have h5 := h.rw.fT
  have h6 := h.rw.Tk
  exact ⟨h.rw.w0, h.rw.w1, h.lt, h.lb, h.lh, h.n0, by omega, h.rw.lc, by show 0 ≤ s.cs.getD 0 0; omega, by show s.cs.getD 0 0 ≤ _; omega, by omega, fun hb => h.stepOK hkk hd hg1 hg2 c0 c3 hb⟩
def atRing (w : Int) (cs : List Int) (p : Int) : Int := cs.getD (lRing p w).toNat 0
def topR (w : Int) (cs : List Int) : Nat → Int → Int
  | 0, top => top
  | n + 1, top => if top < cs.getD 0 0 + w ∧ plc (atRing w cs (top + 1)) = top + 1 then topR w cs n (top + 1) else top
def topG (w : Int) (cs : List Int) : Int := topR w cs 9 (cs.getD 0 0)
def gm (hs : List Int) (n : Nat) : List (Int × Int) := (List.range n).map fun (i : Nat) => (((i : Nat) : Int) + 1, hs.getD i 0)
def seeG (w : Int) (cs : List Int) (gl : List (Int × Int)) : List (Int × Int) := if (gl.length : Int) < topG w cs then gl ++ [(topG w cs, bare (atRing w cs (topG w cs)))] else gl
theorem RW.at_next {w : Int} {cs hs : List Int} (h : RW w cs hs) {top : Int} (h0 : cs.getD 0 0 ≤ top) (h1 : top ≤ hs.length) : (top < cs.getD 0 0 + w ∧ plc (atRing w cs (top + 1)) = top + 1) ↔ top < hs.length := by
  have hf := h.qf
  have hq := h.q0
  have hTf := h.Tf
  have e : atRing w cs (top + 1) = cs.getD (13 + (top + 1) % w).toNat 0 := by rw [atRing, lRing_eq' (by omega) h.w0 h.w1]
  rw [e]
  constructor
  · rintro ⟨_, a⟩
    have := (h.read_le (top + 1)).2.2
    omega
  · intro hlt
    exact ⟨by omega, (h.installed (p := top + 1) (by omega) (by omega) (by omega)).2.1⟩
theorem RW.topR {w : Int} {cs hs : List Int} (h : RW w cs hs) : ∀ (n : Nat) (top : Int), cs.getD 0 0 ≤ top → top ≤ hs.length → (hs.length : Int) - top ≤ n → topR w cs n top = hs.length
  | 0, top, h0, h1, h2 => by rw [Go.Ev.topR]; omega
  | n + 1, top, h0, h1, h2 => by
    rw [Go.Ev.topR]
    by_cases e : top < hs.length
    · rw [if_pos ((h.at_next h0 h1).2 e)]
      exact h.topR n (top + 1) (by omega) (by omega) (by omega)
    · rw [if_neg (fun q => e ((h.at_next h0 h1).1 q))]
      omega
theorem RW.topG {w : Int} {cs hs : List Int} (h : RW w cs hs) : topG w cs = hs.length := by
  have := h.Tf
  have := h.w1
  have := h.fT
  exact h.topR 9 _ (Int.le_refl _) h.fT (by omega)
theorem RW.bareAt {w : Int} {cs hs : List Int} (h : RW w cs hs) {p : Int} (h0 : cs.getD 0 0 < p) (h1 : p ≤ hs.length) : bare (atRing w cs p) = hs.getD (p - 1).toNat 0 := by
  have hf := h.qf
  have hq := h.q0
  rw [atRing, lRing_eq' (by omega) h.w0 h.w1]
  exact (h.installed (by omega) h1 h0).2.2
theorem gm_len (hs : List Int) (n : Nat) : (gm hs n).length = n := by simp [gm]
theorem gm_succ (hs : List Int) (n : Nat) : gm hs (n + 1) = gm hs n ++ [((n : Int) + 1, hs.getD n 0)] := by
  simp [gm, List.range_succ]
def ieq (a b : Int) : Bool := a == b
theorem mget_gm (hs : List Int) : ∀ (n : Nat) (p : Int), mget ieq p (gm hs n) = if 1 ≤ p ∧ p ≤ n then some (hs.getD (p - 1).toNat 0) else none := by
  have happ : ∀ (l m : List (Int × Int)) (p : Int), mget ieq p (l ++ m) = match mget ieq p l with | some x => some x | none => mget ieq p m := by
    intro l m p
    induction l with
    | nil => rfl
    | cons a l ih =>
      obtain ⟨a, b⟩ := a
      simp only [List.cons_append, mget]
      cases ieq p a with
      | true => rfl
      | false => simpa using ih
  intro n
  induction n with
  | zero => intro p; rw [if_neg (by omega)]; rfl
  | succ n ih =>
    intro p
    rw [gm_succ, happ, ih]
    by_cases h : 1 ≤ p ∧ p ≤ n
    · rw [if_pos h, if_pos (by omega)]
    · rw [if_neg h]
      simp only [mget, ieq]
      by_cases e : p = n + 1
      · rw [if_pos (by omega), ibeqT e]
        have : (p - 1).toNat = n := by omega
        rw [this]; rfl
      · rw [if_neg (by omega), ibeqF e]; rfl
theorem mput_end {β : Type} : ∀ (l : List (Int × β)) (p : Int) (v : β), mget ieq p l = none → mput ieq p v l = l ++ [(p, v)]
  | [], _, _, _ => rfl
  | (a, b) :: l, p, v, h => by
    simp only [mget] at h
    cases e : ieq p a with
    | true => rw [e] at h; cases h
    | false =>
      rw [e] at h
      simp only [mput, e, cond_false, List.cons_append]
      rw [mput_end l p v h]
theorem mget_none {β : Type} : ∀ (l : List (Int × β)) (p : Int), (∀ x ∈ l, x.1 ≠ p) → mget ieq p l = none
  | [], _, _ => rfl
  | (a, b) :: l, p, h => by
    have h1 : ieq p a = false := ibeqF fun e => h (a, b) (by simp) e.symm
    simp only [mget, h1, cond_false]
    exact mget_none l p fun x hx => h x (by simp [hx])
theorem mput_same : ∀ (l : List (Int × Int)) (p v : Int), mget ieq p l = some v → mput ieq p v l = l
  | [], _, _, h => by cases h
  | (a, b) :: l, p, v, h => by
    simp only [mget] at h
    cases e : ieq p a with
    | true =>
      rw [e] at h
      simp only [cond_true, Option.some.injEq] at h
      have : p = a := by simpa [ieq] using e
      subst this
      simp only [mput, e, cond_true, h]
    | false =>
      rw [e] at h
      simp only [mput, e, cond_false]
      rw [mput_same l p v h]
structure SeenI (w : Int) (cs hs : List Int) (gl : List (Int × Int)) (top : Int) : Prop where
  rw : RW w cs hs
  hgl : gl = gm hs gl.length
  g1 : (hs.length : Int) - 1 ≤ gl.length
  g2 : gl.length ≤ hs.length
  f : cs.getD 0 0 ≤ top
  t : top ≤ hs.length
  tg : top ≤ gl.length
theorem SeenI.next {w : Int} {cs hs : List Int} {gl : List (Int × Int)} {top : Int} (h : SeenI w cs hs gl top) (hlt : top < hs.length) :
    (mget ieq (top + 1) gl = none ∨ mget ieq (top + 1) gl = some (bare (atRing w cs (top + 1)))) ∧ SeenI w cs hs (mput ieq (top + 1) (bare (atRing w cs (top + 1))) gl) (top + 1) ∧ seeG w cs (mput ieq (top + 1) (bare (atRing w cs (top + 1))) gl) = seeG w cs gl := by
  have hf := h.rw.qf
  have hq := h.rw.q0
  have h1 := h.f
  have h2 := h.g1
  have h3 := h.tg
  have hb := h.rw.bareAt (p := top + 1) (by omega) (by omega)
  have hT := h.rw.topG
  have hm := mget_gm hs gl.length (top + 1)
  rw [← h.hgl] at hm
  rw [show top + 1 - 1 = top by omega] at hb hm
  by_cases e : top + 1 ≤ gl.length
  · rw [if_pos (by omega)] at hm
    refine ⟨.inr (by rw [hm, hb]), ?_⟩
    rw [mput_same _ _ _ (by rw [hm, hb])]
    exact ⟨⟨h.rw, h.hgl, h.g1, h.g2, by omega, by omega, e⟩, rfl⟩
  · rw [if_neg (by omega)] at hm
    refine ⟨.inl hm, ?_⟩
    rw [mput_end _ _ _ hm]
    have hl : (gl ++ [(top + 1, bare (atRing w cs (top + 1)))]).length = gl.length + 1 := by simp
    have e2 : top = gl.length := by omega
    refine ⟨⟨h.rw, ?_, by rw [hl]; omega, by rw [hl]; omega, by omega, by omega, by rw [hl]; omega⟩, ?_⟩
    · rw [hl, gm_succ, ← h.hgl, hb, e2]; simp
    · unfold seeG
      rw [hT, hl, if_neg (by omega), if_pos (by omega)]
      have : top + 1 = hs.length := by omega
      rw [this]
theorem SeenI.end {w : Int} {cs hs : List Int} {gl : List (Int × Int)} {top : Int} (h : SeenI w cs hs gl top) (hlt : ¬ top < hs.length) : top = topG w cs ∧ seeG w cs gl = gl := by
  have h1 := h.t
  have h2 := h.tg
  have hT := h.rw.topG
  refine ⟨by omega, ?_⟩
  unfold seeG
  rw [hT, if_neg (by omega)]
open Go.Proofs
def newR12_s  : Option (Bool × D RC) := some (true, .sl (C := RC) .int false newCells)
def newR12_sp : List (D RC) → Option (Bool × D RC)
  | [] => newR12_s 
  | _ => none
noncomputable def newR12_e  := evF s17 uh_1 1000 18 []
theorem newR12_ok  (h : (true) = true) : newR12_e  = some (.sl (C := RC) .int false newCells) := by
  kernel_rfl
noncomputable def ui_1 := uh_1.addSpec 18 newR12_sp
theorem ui_1_laws : FLaws Tryz.prog s17 ui_1 := uh_1_laws.addEv s17_laws fun args d h => by
  unfold newR12_sp at h
  split at h
  · unfold newR12_s at h
    have h1 := congrArg Prod.fst (Option.some.inj h)
    obtain rfl : _ = d := congrArg Prod.snd (Option.some.inj h)
    exact ⟨by simp [D.refs], 1000, newR12_ok  h1⟩
  · cases h
def glLen (l : List (Int × Bool)) : Nat := l.length
theorem keyEq_int17 : (keyEq s17 RTy.int : Int → Int → Bool) = ieq := by funext a b; rfl
structure topL_St where
  w : Int
  now : List Sector
  sure : List Sector
  cs : List Int
  ts : List Task
  busy : List Bool
  m : Int
  has : List Int
  told : List Int
  gl : List (Int × Int)
  top : Int
def topL_c (w : Int) (now : List Sector) (sure : List Sector) (cs : List Int) (ts : List Task) (busy : List Bool) (m : Int) (has : List Int) (told : List Int) (gl : List (Int × Int)) (top : Int) : Env RC := [(5, .ptr 0 []), (6, .mp 4), (12, .ptr 3 []), (13, .int .i64 (cs.getD 0 0)), (15, .int .i64 top)]
def topL_o (w : Int) (now : List Sector) (sure : List Sector) (cs : List Int) (ts : List Task) (busy : List Bool) (m : Int) (has : List Int) (told : List Int) (gl : List (Int × Int)) (top : Int) : List (Obj RC) := [.var 31 (.acons (.ptr 1 []) (.acons (.int .i64 w) (.acons (.int .i64 m) (.acons (.arr (C := RC) .int 4 has) (.acons (.vs 2 (told.length)) .anil))))), .var 47 (.acons (.acons (.sl (C := RC) .int false cs) (.acons (.acons (.sl (C := RC) .sector false now) (.acons (.sl (C := RC) .sector false sure) .anil)) .anil)) (.acons (.arr (C := RC) .task 4 ts) (.acons (.arr (C := RC) .task 4 ((ts))) (.acons (.arr (C := RC) .bool 4 busy) .anil)))), .vec .int true told, .var 40 (.acons (.sl (C := RC) .int false ((cs))) (.acons (.acons (.sl (C := RC) .sector false ((now))) (.acons (.sl (C := RC) .sector false ((sure))) .anil)) .anil)), .map .int .int gl]
noncomputable def topL_r (w : Int) (now : List Sector) (sure : List Sector) (cs : List Int) (ts : List Task) (busy : List Bool) (m : Int) (has : List Int) (told : List Int) (gl : List (Int × Int)) (top : Int) := rndO s17 ui_1 3 16 60 5 [5, 6, 12, 13, 15] [15] [.slot 5 0, .path 0 [0], .path 0 [4], .slot 12 0, .slot 6 0] (topL_c w now sure cs ts busy m has told gl top) (topL_o w now sure cs ts busy m has told gl top)
theorem topL_eq (w : Int) (now : List Sector) (sure : List Sector) (cs : List Int) (ts : List Task) (busy : List Bool) (m : Int) (has : List Int) (told : List Int) (gl : List (Int × Int)) (top : Int) : topL_r w now sure cs ts busy m has told gl top = (let Z0 : Int := List.getD cs (0 : Nat) (0 : Int); let Z1 : Int := IntKind.wrap .i64 (top + (1 : Int)); let Z2 : Int := lRing Z1 w; let Z3 : Bool := decide ((0 : Int) ≤ Z2 ∧ Z2 < (↑cs.length : Int)); let Z4 : Int := List.getD cs Z2.toNat (0 : Int); let Z5 : Int := Option.getD (mget (keyEq s17 RTy.int) Z1 gl) (0 : Int); let Z6 : List (Nat × D RC) := [(15, D.int .i64 Z1)]; let Z7 : Option (Obj RC) := some (Obj.var 31 (.acons (D.ptr 1 []) (.acons (D.int .i64 w) (.acons (D.int .i64 m) (.acons (D.arr RTy.int (4 : Nat) has) (.acons (D.vs 2 told.length) .anil)))))); let Z8 : D RC := D.acons (D.sl RTy.int false cs) (.acons (D.acons (D.sl RTy.sector false now) (.acons (D.sl RTy.sector false sure) .anil)) .anil); let Z9 : D RC := D.arr RTy.task (4 : Nat) ts; let Z10 : Option (Obj RC) := some (Obj.var 47 (.acons Z8 (D.acons Z9 (D.acons Z9 (D.acons (D.arr RTy.bool (4 : Nat) busy) .anil))))); let Z11 : List (Option (Obj RC)) := [Z7, Z10, some (Obj.vec RTy.int true told), some (Obj.var 40 Z8), some (Obj.map RTy.int RTy.int gl)]; let Z12 : RO_ := some ((X.normal, (5, D.ptr 0 []) :: (6, D.mp (4 : Nat)) :: (12, D.ptr 3 []) :: (13, D.int .i64 Z0) :: Z6), [Z7, Z10, some (Obj.vec RTy.int true told), some (Obj.var 40 Z8), some (Obj.map RTy.int RTy.int (mput (keyEq s17 RTy.int) Z1 (bare Z4) gl))]); let Z13 : RO_ := some ((X.exit (2 : Nat), [(15, D.int .i64 top)]), Z11); bif decide (top < IntKind.wrap .i64 (Z0 + w)) then bif Z3 then bif plc Z4 == Z1 then bif Z3 then bif Z5 != (0 : Int) then bif Z5 != bare Z4 then some ((X.ret, Z6), Z11) else Z12 else Z12 else none else Z13 else none else Z13) := by kernel_rfl
noncomputable def topL_fin (w : Int) (now : List Sector) (sure : List Sector) (cs : List Int) (ts : List Task) (busy : List Bool) (m : Int) (has : List Int) (told : List Int) (gl : List (Int × Int)) (top : Int) : RT RC := .leaf (.exit 2) [(15, .int .i64 (topG w cs))] (topL_o w now sure cs ts busy m has told (seeG w cs gl) top)
def topL_Inv (w : Int) (now : List Sector) (sure : List Sector) (cs : List Int) (ts : List Task) (busy : List Bool) (m : Int) (has : List Int) (told : List Int) (gl : List (Int × Int)) (top : Int) : Prop := ∃ hs, SeenI w cs hs gl top
noncomputable def topL_S : LoopR RC topL_St where
  k := 5
  canon q := topL_c q.w q.now q.sure q.cs q.ts q.busy q.m q.has q.told q.gl q.top
  objs q := topL_o q.w q.now q.sure q.cs q.ts q.busy q.m q.has q.told q.gl q.top
  fin q := topL_fin q.w q.now q.sure q.cs q.ts q.busy q.m q.has q.told q.gl q.top
  Inv q := topL_Inv q.w q.now q.sure q.cs q.ts q.busy q.m q.has q.told q.gl q.top
  μ q := (topG q.w q.cs - q.top).toNat
theorem topL_round (w : Int) (now : List Sector) (sure : List Sector) (cs : List Int) (ts : List Task) (busy : List Bool) (m : Int) (has : List Int) (told : List Int) (gl : List (Int × Int)) (top : Int) (hI : topL_Inv w now sure cs ts busy m has told gl top) : Leaf (topL_r w now sure cs ts busy m has told gl top) (LedR topL_S ⟨w, now, sure, cs, ts, busy, m, has, told, gl, top⟩) := by
  (rw [topL_eq]; conv => zeta)
  unfold topL_Inv at hI
  obtain ⟨hs, hI⟩ := hI
  have hT := hI.rw.topG
  have h1 := hI.f
  have h2 := hI.t
  have h3 := hI.rw.q0
  have h4 := hI.rw.qf
  have h5 := hI.rw.Tk
  have h6 := hI.rw.w0
  have h7 := hI.rw.w1
  have hl := hI.rw.lc
  have v1 : IntKind.i64.wrap (top + 1) = top + 1 := wrap_id (by omega) (by omega)
  have v2 : IntKind.i64.wrap (cs.getD 0 0 + w) = cs.getD 0 0 + w := wrap_id (by omega) (by omega)
  have hr := lRing_in (p := top + 1) (by omega) ⟨h6, h7⟩
  have c1 : decide ((0 : Int) ≤ lRing (top + 1) w ∧ lRing (top + 1) w < (cs.length : Int)) = true := decide_eq_true ⟨by omega, by omega⟩
  simp only [v1, v2, c1, keyEq_int17, cond_true]
  have hat : cs.getD (lRing (top + 1) w).toNat 0 = atRing w cs (top + 1) := rfl
  rw [hat]
  by_cases hlt : top < hs.length
  · obtain ⟨p1, p2⟩ := (hI.rw.at_next hI.f hI.t).2 hlt
    obtain ⟨n1, n2, n3⟩ := hI.next hlt
    rw [decide_eq_true p1, ibeqT p2]
    simp only [cond_true]
    have hgo := leafR_go (S := topL_S) (s := ⟨w, now, sure, cs, ts, busy, m, has, told, gl, top⟩) ⟨w, now, sure, cs, ts, busy, m, has, told, mput ieq (top + 1) (bare (atRing w cs (top + 1))) gl, top + 1⟩ ⟨hs, n2⟩ (by show (topG w cs - (top + 1)).toNat < (topG w cs - top).toNat; omega) (by show (topL_fin w now sure cs ts busy m has told (mput ieq (top + 1) (bare (atRing w cs (top + 1))) gl) (top + 1)).val = (topL_fin w now sure cs ts busy m has told gl top).val; unfold topL_fin; rw [n3]; rfl) rfl rfl
    rcases n1 with e | e
    · rw [e]; exact hgo
    · rw [e]
      have b1 : (bare (atRing w cs (top + 1)) != bare (atRing w cs (top + 1))) = false := ibneF rfl
      simp only [Option.getD_some, b1, cond_false]
      cases (bare (atRing w cs (top + 1)) != 0) <;> exact hgo
  · obtain ⟨e1, e2⟩ := hI.end hlt
    have hexit := leafR_exit (S := topL_S) (s := ⟨w, now, sure, cs, ts, busy, m, has, told, gl, top⟩) (i := 2) (env := [(15, .int .i64 top)]) (topL_o w now sure cs ts busy m has told gl top) (by show (topL_fin w now sure cs ts busy m has told gl top).val = _; unfold topL_fin; rw [e2, ← e1]; rfl) rfl
    have hn := fun q => hlt ((hI.rw.at_next hI.f hI.t).1 q)
    by_cases a : top < cs.getD 0 0 + w
    · rw [decide_eq_true a, ibeqF (fun q => hn ⟨a, q⟩)]
      exact hexit
    · rw [decide_eq_false a]
      exact hexit
noncomputable def topL_d (env : Env RC) (os : List (Obj RC)) : Option (Bool × topL_St) := match env, os with
  | [(5, .ptr 0 []), (6, .mp 4), (12, .ptr 3 []), (13, .int .i64 x0), (15, .int .i64 top)], [.var 31 (.acons (.ptr 1 []) (.acons (.int .i64 w) (.acons (.int .i64 m) (.acons (.arr .int 4 has) (.acons (.vs 2 x1) .anil))))), .var 47 (.acons (.acons (.sl .int false cs) (.acons (.acons (.sl .sector false now) (.acons (.sl .sector false sure) .anil)) .anil)) (.acons (.arr .task 4 ts) (.acons (.arr .task 4 x2) (.acons (.arr .bool 4 busy) .anil)))), .vec .int true told, .var 40 (.acons (.sl .int false x3) (.acons (.acons (.sl .sector false x4) (.acons (.sl .sector false x5) .anil)) .anil)), .map .int .int gl] => staticD (true) (decide (x0 = cs.getD 0 0) && decide (x1 = told.length) && decide (x2 = (ts)) && decide (x3 = (cs)) && decide (x4 = (now)) && decide (x5 = (sure)) && cdec (∃ hs, SeenI w cs hs gl top), ⟨w, now, sure, cs, ts, busy, m, has, told, gl, top⟩)
  | _, _ => none
noncomputable def ui_2 := ui_1.addLoop 3 16 (sumR s17 [.slot 5 0, .path 0 [0], .path 0 [4], .slot 12 0, .slot 6 0] [5, 6, 12, 13, 15] topL_S topL_d)
theorem ui_2_laws : FLaws Tryz.prog s17 ui_2 := by
  refine ui_1_laws.addRoundsR s17_laws (by kernel_rfl) topL_S 60 [5, 6, 12, 13, 15] [15] [.slot 5 0, .path 0 [0], .path 0 [4], .slot 12 0, .slot 6 0] [5, 6, 12, 13, 15] topL_d (fun q hI => ?_) ?_
  · obtain ⟨w, now, sure, cs, ts, busy, m, has, told, gl, top⟩ := q
    refine ⟨?_, ?_, topL_round w now sure cs ts busy m has told gl top hI⟩
    · simp_all [RefsOK, topL_S, topL_c, topL_o, topL_Inv, D.refs, Obj.refs, rEnc]
    · simp_all [topL_S, topL_fin, topL_o, topL_Inv, RT.refsOK, RefsOK, D.refs, Obj.refs, rEnc]
  · intro env os b q hd_ hb
    unfold topL_d at hd_
    split at hd_
    · obtain ⟨hs, hd_⟩ := staticD_some hd_
      cases hd_
      simp only [Bool.and_eq_true, decide_eq_true_eq] at hb
      obtain ⟨⟨⟨⟨⟨⟨e0, e1⟩, e2⟩, e3⟩, e4⟩, e5⟩, e6⟩ := hb
      subst e2
      subst e3
      subst e4
      subst e5
      subst e0
      subst e1
      exact ⟨cdec_iff.1 e6, rfl, rfl⟩
    · cases hd_
structure lowL_St where
  w : Int
  now : List Sector
  sure : List Sector
  cs : List Int
  ts : List Task
  busy : List Bool
  m : Int
  has : List Int
  told : List Int
  top : Int
  i : Nat
def lowL_c (w : Int) (now : List Sector) (sure : List Sector) (cs : List Int) (ts : List Task) (busy : List Bool) (m : Int) (has : List Int) (told : List Int) (top : Int) (i : Nat) : Env RC := [(5, .ptr 0 []), (12, .ptr 3 []), (15, .int .i64 top), (17, .int .i64 (i : Int))]
def lowL_o (w : Int) (now : List Sector) (sure : List Sector) (cs : List Int) (ts : List Task) (busy : List Bool) (m : Int) (has : List Int) (told : List Int) (top : Int) (i : Nat) : List (Obj RC) := [.var 31 (.acons (.ptr 1 []) (.acons (.int .i64 w) (.acons (.int .i64 m) (.acons (.arr (C := RC) .int 4 has) (.acons (.vs 2 (told.length)) .anil))))), .var 47 (.acons (.acons (.sl (C := RC) .int false cs) (.acons (.acons (.sl (C := RC) .sector false now) (.acons (.sl (C := RC) .sector false sure) .anil)) .anil)) (.acons (.arr (C := RC) .task 4 ts) (.acons (.arr (C := RC) .task 4 ((ts))) (.acons (.arr (C := RC) .bool 4 busy) .anil)))), .vec .int true told, .var 40 (.acons (.sl (C := RC) .int false ((cs))) (.acons (.acons (.sl (C := RC) .sector false ((now))) (.acons (.sl (C := RC) .sector false ((sure))) .anil)) .anil))]
noncomputable def lowL_r (w : Int) (now : List Sector) (sure : List Sector) (cs : List Int) (ts : List Task) (busy : List Bool) (m : Int) (has : List Int) (told : List Int) (top : Int) (i : Nat) := rndO s17 ui_2 3 26 60 4 [5, 12, 15, 17] [] [.slot 5 0, .path 0 [0], .path 0 [4], .slot 12 0] (lowL_c w now sure cs ts busy m has told top i) (lowL_o w now sure cs ts busy m has told top i)
theorem lowL_eq (w : Int) (now : List Sector) (sure : List Sector) (cs : List Int) (ts : List Task) (busy : List Bool) (m : Int) (has : List Int) (told : List Int) (top : Int) (i : Nat) : lowL_r w now sure cs ts busy m has told top i = (let Z0 : Int := (↑i : Int); let Z1 : Int := lRing Z0 w; let Z2 : D RC := D.acons (D.sl RTy.int false cs) (.acons (D.acons (D.sl RTy.sector false now) (.acons (D.sl RTy.sector false sure) .anil)) .anil); let Z3 : D RC := D.arr RTy.task (4 : Nat) ts; let Z4 : List (Option (Obj RC)) := [some (Obj.var 31 (.acons (D.ptr 1 []) (.acons (D.int .i64 w) (.acons (D.int .i64 m) (.acons (D.arr RTy.int (4 : Nat) has) (.acons (D.vs 2 told.length) .anil)))))), some (Obj.var 47 (.acons Z2 (D.acons Z3 (D.acons Z3 (D.acons (D.arr RTy.bool (4 : Nat) busy) .anil))))), some (Obj.vec RTy.int true told), some (Obj.var 40 Z2)]; bif decide (Z0 < w) then bif decide ((0 : Int) ≤ Z1 ∧ Z1 < (↑cs.length : Int)) then bif decide (top < plc (List.getD cs Z1.toNat (0 : Int))) then some ((X.ret, []), Z4) else some ((X.normal, [(5, D.ptr 0 []), (12, D.ptr 3 []), (15, D.int .i64 top), (17, D.int .i64 (IntKind.wrap .i64 (Z0 + (1 : Int))))]), Z4) else none else some ((X.exit (4 : Nat), []), Z4)) := by kernel_rfl
noncomputable def lowL_fin (w : Int) (now : List Sector) (sure : List Sector) (cs : List Int) (ts : List Task) (busy : List Bool) (m : Int) (has : List Int) (told : List Int) (top : Int) (i : Nat) : RT RC := .leaf (.exit 4) [] (lowL_o w now sure cs ts busy m has told top i)
def lowL_Inv (w : Int) (now : List Sector) (sure : List Sector) (cs : List Int) (ts : List Task) (busy : List Bool) (m : Int) (has : List Int) (told : List Int) (top : Int) (i : Nat) : Prop := ∃ hs, RW w cs hs ∧ top = hs.length ∧ i ≤ w
noncomputable def lowL_S : LoopR RC lowL_St where
  k := 4
  canon q := lowL_c q.w q.now q.sure q.cs q.ts q.busy q.m q.has q.told q.top q.i
  objs q := lowL_o q.w q.now q.sure q.cs q.ts q.busy q.m q.has q.told q.top q.i
  fin q := lowL_fin q.w q.now q.sure q.cs q.ts q.busy q.m q.has q.told q.top q.i
  Inv q := lowL_Inv q.w q.now q.sure q.cs q.ts q.busy q.m q.has q.told q.top q.i
  μ q := (q.w - q.i).toNat
theorem lowL_round (w : Int) (now : List Sector) (sure : List Sector) (cs : List Int) (ts : List Task) (busy : List Bool) (m : Int) (has : List Int) (told : List Int) (top : Int) (i : Nat) (hI : lowL_Inv w now sure cs ts busy m has told top i) : Leaf (lowL_r w now sure cs ts busy m has told top i) (LedR lowL_S ⟨w, now, sure, cs, ts, busy, m, has, told, top, i⟩) := by
  (rw [lowL_eq]; conv => zeta)
  unfold lowL_Inv at hI
  obtain ⟨hs, hR, rfl, hi⟩ := hI
  have h6 := hR.w0
  have h7 := hR.w1
  have hl := hR.lc
  by_cases hlt : (i : Int) < w
  · have hr := lRing_in (p := (i : Int)) (by omega) ⟨h6, h7⟩
    have c1 : decide ((0 : Int) ≤ lRing (i : Int) w ∧ lRing (i : Int) w < (cs.length : Int)) = true := decide_eq_true ⟨by omega, by omega⟩
    have v1 : IntKind.i64.wrap ((i : Int) + 1) = ((i + 1 : Nat) : Int) := by rw [wrap_id (by omega) (by omega)]; simp
    have hle := (hR.read_le (i : Int)).2.2
    rw [← lRing_eq' (by omega) h6 h7] at hle
    rw [decide_eq_true hlt, c1, decide_eq_false (show ¬ ((hs.length : Int) < plc (cs.getD (lRing (i : Int) w).toNat 0)) by omega), v1]
    simp only [cond_true, cond_false]
    exact leafR_go ⟨w, now, sure, cs, ts, busy, m, has, told, hs.length, i + 1⟩ ⟨hs, hR, rfl, by show ((i + 1 : Nat) : Int) ≤ w; omega⟩ (by show (w - ((i + 1 : Nat) : Int)).toNat < (w - (i : Int)).toNat; omega) rfl rfl rfl
  · rw [decide_eq_false hlt]
    exact leafR_exit (lowL_o w now sure cs ts busy m has told hs.length i) rfl rfl
noncomputable def lowL_d (env : Env RC) (os : List (Obj RC)) : Option (Bool × lowL_St) := match env, os with
  | [(5, .ptr 0 []), (12, .ptr 3 []), (15, .int .i64 top), (17, .int .i64 x0)], [.var 31 (.acons (.ptr 1 []) (.acons (.int .i64 w) (.acons (.int .i64 m) (.acons (.arr .int 4 has) (.acons (.vs 2 x1) .anil))))), .var 47 (.acons (.acons (.sl .int false cs) (.acons (.acons (.sl .sector false now) (.acons (.sl .sector false sure) .anil)) .anil)) (.acons (.arr .task 4 ts) (.acons (.arr .task 4 x2) (.acons (.arr .bool 4 busy) .anil)))), .vec .int true told, .var 40 (.acons (.sl .int false x3) (.acons (.acons (.sl .sector false x4) (.acons (.sl .sector false x5) .anil)) .anil))] => staticD (true) (decide (x0 = 0) && decide (x1 = told.length) && decide (x2 = (ts)) && decide (x3 = (cs)) && decide (x4 = (now)) && decide (x5 = (sure)) && cdec (∃ hs, RW w cs hs ∧ top = hs.length), ⟨w, now, sure, cs, ts, busy, m, has, told, top, 0⟩)
  | _, _ => none
noncomputable def ui_3 := ui_2.addLoop 3 26 (sumR s17 [.slot 5 0, .path 0 [0], .path 0 [4], .slot 12 0] [5, 12, 15, 17] lowL_S lowL_d)
theorem ui_3_laws : FLaws Tryz.prog s17 ui_3 := by
  refine ui_2_laws.addRoundsR s17_laws (by kernel_rfl) lowL_S 60 [5, 12, 15, 17] [] [.slot 5 0, .path 0 [0], .path 0 [4], .slot 12 0] [5, 12, 15, 17] lowL_d (fun q hI => ?_) ?_
  · obtain ⟨w, now, sure, cs, ts, busy, m, has, told, top, i⟩ := q
    refine ⟨?_, ?_, lowL_round w now sure cs ts busy m has told top i hI⟩
    · simp_all [RefsOK, lowL_S, lowL_c, lowL_o, lowL_Inv, D.refs, Obj.refs, rEnc]
    · simp_all [lowL_S, lowL_fin, lowL_o, lowL_Inv, RT.refsOK, RefsOK, D.refs, Obj.refs, rEnc]
  · intro env os b q hd_ hb
    unfold lowL_d at hd_
    split at hd_
    · obtain ⟨hs, hd_⟩ := staticD_some hd_
      cases hd_
      simp only [Bool.and_eq_true, decide_eq_true_eq] at hb
      obtain ⟨⟨⟨⟨⟨⟨e0, e1⟩, e2⟩, e3⟩, e4⟩, e5⟩, e7⟩ := hb
      obtain ⟨hs, hR, e6⟩ := cdec_iff.1 e7
      subst e2
      subst e3
      subst e4
      subst e5
      subst e0
      subst e1
      exact ⟨⟨hs, hR, e6, Int.le_trans (show ((0 : Nat) : Int) ≤ 2 by decide) hR.w0⟩, rfl, rfl⟩
    · cases hd_
structure seenL_St where
  told : List Int
  own : Bool
  gl : List (Int × Bool)
  i : Nat
def seenL_c (told : List Int) (own : Bool) (gl : List (Int × Bool)) (i : Nat) : Env RC := [(19, .mp 1), (204, .vs 0 (told.length)), (205, .int .i64 (told.length)), (206, .int .i64 (i : Int))]
def seenL_o (told : List Int) (own : Bool) (gl : List (Int × Bool)) (i : Nat) : List (Obj RC) := [.vec .int own told, .map .int .bool gl]
noncomputable def seenL_r (told : List Int) (own : Bool) (gl : List (Int × Bool)) (i : Nat) := rndO s17 ui_3 3 37 60 2 [19, 204, 205, 206] [] [.slot 204 0, .slot 19 0] (seenL_c told own gl i) (seenL_o told own gl i)
theorem seenL_eq (told : List Int) (own : Bool) (gl : List (Int × Bool)) (i : Nat) : seenL_r told own gl i = (let Z0 : Int := (↑i : Int); let Z1 : Nat := List.length told; let Z2 : Int := List.getD told Z0.toNat (0 : Int); let Z3 : List (Option (Obj RC)) := [some (Obj.vec RTy.int own told), some (Obj.map RTy.int RTy.bool gl)]; bif decide (Z0 < (↑Z1 : Int)) then bif Nat.beq Z1 Z1 && decide ((0 : Int) ≤ Z0 ∧ Z0 < (↑Z1 : Int)) then bif Nat.beq Z1 Z1 then bif Option.getD (mget (keyEq s17 RTy.int) Z2 gl) false then some ((X.ret, []), Z3) else some ((X.normal, [(19, D.mp (1 : Nat)), (204, D.vs 0 Z1), (205, D.int .i64 (↑Z1 : Int)), (206, D.int .i64 (IntKind.wrap .i64 (Z0 + (1 : Int))))]), [some (Obj.vec RTy.int own told), some (Obj.map RTy.int RTy.bool (mput (keyEq s17 RTy.int) Z2 true gl))]) else none else none else some ((X.exit (6 : Nat), []), Z3)) := by kernel_rfl
noncomputable def seenL_fin (told : List Int) (own : Bool) (gl : List (Int × Bool)) (i : Nat) : RT RC := .leaf (.exit 6) [] (seenL_o told own (told.map fun p => (p, true)) i)
def seenL_Inv (told : List Int) (own : Bool) (gl : List (Int × Bool)) (i : Nat) : Prop := told.Nodup ∧ i ≤ told.length ∧ told.length ≤ 1000 ∧ gl = (told.take i).map fun p => (p, true)
noncomputable def seenL_S : LoopR RC seenL_St where
  k := 2
  canon q := seenL_c q.told q.own q.gl q.i
  objs q := seenL_o q.told q.own q.gl q.i
  fin q := seenL_fin q.told q.own q.gl q.i
  Inv q := seenL_Inv q.told q.own q.gl q.i
  μ q := q.told.length - q.i
theorem seenL_round (told : List Int) (own : Bool) (gl : List (Int × Bool)) (i : Nat) (hI : seenL_Inv told own gl i) : Leaf (seenL_r told own gl i) (LedR seenL_S ⟨told, own, gl, i⟩) := by
  (rw [seenL_eq]; conv => zeta)
  unfold seenL_Inv at hI
  obtain ⟨hN, h1, h2, rfl⟩ := hI
  have bb : Nat.beq told.length told.length = true := nbeqT rfl
  simp only [bb, Bool.true_and, cond_true, keyEq_int17]
  by_cases hlt : i < told.length
  · have w_succ : IntKind.i64.wrap ((i : Int) + 1) = ((i + 1 : Nat) : Int) := by rw [wrap_id (by omega) (by omega)]; simp
    have d_lt : decide ((i : Int) < told.length) = true := by simp; omega
    have d_in : decide (0 ≤ (i : Int) ∧ (i : Int) < told.length) = true := by simp; omega
    have t_nat : ((i : Int)).toNat = i := by simp
    simp only [w_succ, d_lt, d_in, t_nat, cond_true]
    have e : told.getD i 0 = told[i] := getD_at hlt
    have ht : told.take (i + 1) = told.take i ++ [told[i]] := List.take_succ_eq_append_getElem hlt
    have hnm : mget ieq (told.getD i 0) ((told.take i).map fun p => (p, true)) = none := mget_none _ _ fun y hy => by
      simp only [List.mem_map] at hy
      obtain ⟨z, hz, rfl⟩ := hy
      show z ≠ told.getD i 0
      rw [e]
      intro q
      subst q
      obtain ⟨j, hj, hji⟩ := List.getElem_of_mem hz
      rw [List.length_take] at hj
      rw [List.getElem_take] at hji
      have := (List.getElem_inj hN).1 hji
      omega
    rw [hnm, mput_end _ _ _ hnm]
    have hgl : (told.take i).map (fun p => (p, true)) ++ [(told.getD i 0, true)] = (told.take (i + 1)).map (fun p => (p, true)) := by rw [ht, e, List.map_append]; rfl
    rw [hgl]
    exact leafR_go ⟨told, own, (told.take (i + 1)).map (fun p => (p, true)), i + 1⟩ ⟨hN, hlt, h2, rfl⟩ (by simp only [seenL_S]; omega) rfl rfl rfl
  · have hi : i = told.length := by omega
    have c1 : decide ((i : Int) < told.length) = false := by simp; omega
    rw [c1]
    exact leafR_exit (seenL_o told own ((told.take i).map fun p => (p, true)) i) (by show (seenL_fin told own ((told.take i).map fun p => (p, true)) i).val = _; unfold seenL_fin; rw [hi, List.take_length]; rfl) rfl
noncomputable def seenL_d (env : Env RC) (os : List (Obj RC)) : Option (Bool × seenL_St) := match env, os with
  | [(19, .mp 1), (204, .vs 0 x0), (205, .int .i64 x1), (206, .int .i64 x2)], [.vec .int own told, .map .int .bool gl] => staticD (true) (decide (x0 = told.length) && decide (x1 = told.length) && decide (x2 = 0) && decide (told.Nodup ∧ told.length ≤ 1000 ∧ glLen gl = 0), ⟨told, own, gl, 0⟩)
  | _, _ => none
noncomputable def ui_4 := ui_3.addLoop 3 37 (sumR s17 [.slot 204 0, .slot 19 0] [19, 204, 205, 206] seenL_S seenL_d)
theorem ui_4_laws : FLaws Tryz.prog s17 ui_4 := by
  refine ui_3_laws.addRoundsR s17_laws (by kernel_rfl) seenL_S 60 [19, 204, 205, 206] [] [.slot 204 0, .slot 19 0] [19, 204, 205, 206] seenL_d (fun q hI => ?_) ?_
  · obtain ⟨told, own, gl, i⟩ := q
    refine ⟨?_, ?_, seenL_round told own gl i hI⟩
    · simp_all [RefsOK, seenL_S, seenL_c, seenL_o, seenL_Inv, D.refs, Obj.refs, rEnc]
    · simp_all [seenL_S, seenL_fin, seenL_o, seenL_Inv, RT.refsOK, RefsOK, D.refs, Obj.refs, rEnc]
  · intro env os b q hd_ hb
    unfold seenL_d at hd_
    split at hd_
    · obtain ⟨hs, hd_⟩ := staticD_some hd_
      cases hd_
      simp only [Bool.and_eq_true, decide_eq_true_eq] at hb
      obtain ⟨⟨⟨e0, e1⟩, e2⟩, e3, e4, e5⟩ := hb
      subst e0
      subst e1
      subst e2
      have e5 := List.eq_nil_of_length_eq_zero e5
      subst e5
      exact ⟨⟨e3, Nat.zero_le _, e4, by simp⟩, rfl, rfl⟩
    · cases hd_
def stH (w : Int) (q : GS × List (Int × Int)) (x : Pick) : GS × List (Int × Int) := (pickG w q.1 x.client x.do_, seeG w (pickG w q.1 x.client x.do_).cs q.2)
def runH (w : Int) (l : List Pick) (q : GS × List (Int × Int)) : GS × List (Int × Int) := l.foldl (stH w) q
structure HI (w : Int) (s : GS) (hs : List Int) (gl : List (Int × Int)) (last : Int) (kk : Int) : Prop where
  ri : RI w s hs kk
  hgl : gl = gm hs hs.length
  last : last = hs.length
theorem HI.seen {w : Int} {s : GS} {hs : List Int} {gl : List (Int × Int)} {last kk : Int} (h : HI w s hs gl last kk) (hkk : kk < 900) (x dd : Int) : ∃ hs', RI w (pickG w s x dd) hs' (kk + 1) ∧ PickR w s (pickG w s x dd) hs hs' (x % 4) ∧
    SeenI w (pickG w s x dd).cs hs' gl ((pickG w s x dd).cs.getD 0 0) ∧ seeG w (pickG w s x dd).cs gl = gm hs' hs'.length := by
  obtain ⟨hs', hR, hP⟩ := h.ri.pick hkk x dd
  refine ⟨hs', hR, hP, ?_⟩
  have hl : gl.length = hs.length := by rw [h.hgl, gm_len]
  have hT := hR.rw.topG
  have hgl : gl = gm hs' gl.length := by
    rw [hl]
    conv => lhs; rw [h.hgl]
    rcases hP.ext with e | ⟨d, e⟩
    · rw [e]
    · rw [e]
      unfold gm
      refine List.map_congr_left fun i hi => ?_
      rw [getD_app (List.mem_range.1 hi)]
  have hlen : hs'.length = hs.length ∨ hs'.length = hs.length + 1 := by
    rcases hP.ext with e | ⟨d, e⟩
    · exact .inl (by rw [e])
    · exact .inr (by rw [e]; simp)
  have hS : SeenI w (pickG w s x dd).cs hs' gl ((pickG w s x dd).cs.getD 0 0) := ⟨hR.rw, hgl, by omega, by omega, Int.le_refl _, hR.rw.fT, by rw [hl]; exact hP.fr⟩
  refine ⟨hS, ?_⟩
  unfold seeG
  rw [hT]
  rcases hlen with e | e
  · rw [if_neg (by omega), e, ← hl]; exact hgl
  · rw [if_pos (by omega), hR.rw.bareAt (by have := hP.fr; omega) (Int.le_refl _), e, gm_succ, ← hl, ← hgl]
    have : ((gl.length : Int) + 1 - 1).toNat = gl.length := by omega
    simp [this]
theorem HI.next {w : Int} {s : GS} {hs hs' : List Int} {gl : List (Int × Int)} {last kk : Int} (h : HI w s hs gl last kk) {x dd : Int} (hR : RI w (pickG w s x dd) hs' (kk + 1)) (hsee : seeG w (pickG w s x dd).cs gl = gm hs' hs'.length) :
    HI w (pickG w s x dd) hs' (seeG w (pickG w s x dd).cs gl) (topG w (pickG w s x dd).cs) (kk + 1) := ⟨hR, hsee, hR.rw.topG⟩
theorem runH_step (w : Int) (l : List Pick) (i : Nat) (h : i < l.length) (q : GS × List (Int × Int)) (d : Pick) : runH w (l.drop i) q = runH w (l.drop (i + 1)) (stH w q (l.getD i d)) := by
  have e : l.getD i d = l[i] := by simp [h]
  unfold runH
  rw [List.drop_eq_getElem_cons h, List.foldl_cons, e]
theorem runH_told {w : Int} : ∀ (l : List Pick) (q : GS × List (Int × Int)) (kk : Int), kk + l.length ≤ 900 → (∃ hs, RI w q.1 hs kk) → ∃ hs, RI w (runH w l q).1 hs (kk + l.length)
  | [], q, kk, _, h => by simpa [runH] using h
  | x :: l, q, kk, hk, ⟨hs, h⟩ => by
    simp only [List.length_cons] at hk
    obtain ⟨hs', h1, _⟩ := h.pick (by omega) x.client x.do_
    obtain ⟨hs2, h2⟩ := runH_told l (stH w q x) (kk + 1) (by omega) ⟨hs', h1⟩
    refine ⟨hs2, ?_⟩
    have : kk + ((x :: l).length : Int) = kk + 1 + l.length := by simp only [List.length_cons]; omega
    rw [this]
    exact h2
end Go.Ev
