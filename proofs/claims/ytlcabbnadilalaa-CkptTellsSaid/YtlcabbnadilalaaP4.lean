/-
  CkptTells returns true for any disk, number and state, and they read behind the call as before. No condition beyond the given statement. (text 5 of 7)
-/
import Derived.Test.YtlcabbnadilalaaP3
namespace Go.Ev
open Go.Proofs
set_option maxRecDepth 100000
set_option linter.unusedVariables false
set_option linter.unusedSimpArgs false
structure rsQ_St where
  c : Bool
  b : List UInt8
  bad : Bool
  pl : Int
  its : List Item
  l0 : List Line
  l1 : List Line
  l2 : List Line
  c0 : Int
  c1 : Int
  c2 : Int
  q : Nat
def rsQ_c (c : Bool) (b : List UInt8) (bad : Bool) (pl : Int) (its : List Item) (l0 : List Line) (l1 : List Line) (l2 : List Line) (c0 : Int) (c1 : Int) (c2 : Int) (q : Nat) : Env RC := [(4, .ptr 0 []), (5, .ptr 1 []), (39, .int .i64 (q : Int))]
def rsQ_o (c : Bool) (b : List UInt8) (bad : Bool) (pl : Int) (its : List Item) (l0 : List Line) (l1 : List Line) (l2 : List Line) (c0 : Int) (c1 : Int) (c2 : Int) (q : Nat) : List (Obj RC) := [.var 85 (.acons (.sl (C := RC) .u8 c b) (.acons (.bool bad) .anil)), .var 30 (.acons (.int .i64 pl) (.acons (.vs 2 (its.length)) (.acons (.acons (.vs 3 (l0.length)) (.acons (.vs 4 (l1.length)) (.acons (.vs 5 (l2.length)) .anil))) (.acons (.arr (C := RC) .int 3 [c0, c1, c2]) .anil)))), .vec (C := RC) .item true its, .vec (C := RC) .line true l0, .vec (C := RC) .line true l1, .vec (C := RC) .line true l2]
noncomputable def rsQ_r (c : Bool) (b : List UInt8) (bad : Bool) (pl : Int) (its : List Item) (l0 : List Line) (l1 : List Line) (l2 : List Line) (c0 : Int) (c1 : Int) (c2 : Int) (q : Nat) := rndO s07 um_2 32 11 60 6 [4, 5, 39] [] [.slot 4 0, .slot 5 0, .path 1 [1], .path 1 [2, 0], .path 1 [2, 1], .path 1 [2, 2]] (rsQ_c c b bad pl its l0 l1 l2 c0 c1 c2 q) (rsQ_o c b bad pl its l0 l1 l2 c0 c1 c2 q)
theorem rsQ_eq0 (c : Bool) (b : List UInt8) (bad : Bool) (pl : Int) (its : List Item) (l0 l1 l2 : List Line) (c0 c1 c2 : Int) : rsQ_r c b bad pl its l0 l1 l2 c0 c1 c2 0 = (let Z0 : Int × Int := getP b (0 : Int) (3 : Int); let Z1 : Nat := List.length its; let Z2 : Nat := List.length l0; let Z3 : Nat := List.length l1; let Z4 : Nat := List.length l2; let Z5 : Bool := decide (Z1 = Z1) && decide (Z2 = Z2) && decide (Z3 = Z3) && decide (Z4 = Z4); let Z6 : Bool := Z5 && decide ((0 : Int) ≤ (0 : Int) ∧ (0 : Int) ≤ (255 : Int) ∧ (0 : Nat) ≤ (1000000 : Nat) ∧ (Z2 ≤ (1000 : Nat) ∧ Z3 ≤ (1000 : Nat) ∧ Z4 ≤ (1000 : Nat)) ∧ ((0 : Int) ≤ (0 : Int) ∧ (0 : Int) ≤ (2 : Int)) ∧ (0 : Int) ≤ (0 : Int) ∧ (0 : Int) ≤ (16777215 : Int)); let Z7 : X × Env RC := (X.normal, [(4, D.ptr 0 []), (5, D.ptr 1 []), (39, D.int .i64 1)]); let Z8 : Rd × List Line := gLines rdP false (0 : Nat) (0 : Int) (Rd.mk true [] true); let Z9 : D RC := .anil; let Z10 : Option (Obj RC) := some (Obj.var 85 (.acons (D.sl RTy.u8 true Z8.1.b) (.acons (D.bool true) Z9))); let Z11 : D RC := D.int .i64 pl; let Z12 : D RC := D.vs 2 Z1; let Z13 : List Line := addL (0 : Int) (0 : Int) l0 Z8.2; let Z14 : List Line := addL (0 : Int) (1 : Int) l1 Z8.2; let Z15 : List Line := addL (0 : Int) (2 : Int) l2 Z8.2; let Z16 : D RC := D.acons (D.vs 3 Z13.length) (.acons (D.vs 4 Z14.length) (.acons (D.vs 5 Z15.length) Z9)); let Z17 : Option (Obj RC) := some (Obj.vec RTy.item true its); let Z18 : List (Option (Obj RC)) := [Z17, some (Obj.vec RTy.line true Z13), some (Obj.vec RTy.line true Z14), some (Obj.vec RTy.line true Z15)]; let Z19 : List UInt8 := List.drop (3 : Nat) b; let Z20 : D RC := D.acons (D.arr RTy.int (3 : Nat) [Prod.fst Z0, c1, c2]) Z9; let Z21 : List UInt8 := List.drop (1 : Nat) Z19; let Z22 : Int := Prod.fst (getP Z19 (0 : Int) (1 : Int)); let Z23 : Nat := Int.toNat Z22 - 0; let Z24 : Rd × List Line := gLines rdP false Z23 (0 : Int) (Rd.mk true [] true); let Z25 : Rd := Prod.fst Z24; let Z26 : List Line := addL (0 : Int) (0 : Int) l0 Z24.2; let Z27 : List Line := addL (0 : Int) (1 : Int) l1 Z24.2; let Z28 : List Line := addL (0 : Int) (2 : Int) l2 Z24.2; let Z29 : List UInt8 := List.drop (3 : Nat) Z21; let Z30 : Int := Prod.fst (getP Z21 (0 : Int) (3 : Int)); let Z31 : Bool := Z5 && decide ((0 : Int) ≤ Z22 ∧ Z22 ≤ (255 : Int) ∧ List.length Z29 ≤ (1000000 : Nat) ∧ (Z2 ≤ (1000 : Nat) ∧ Z3 ≤ (1000 : Nat) ∧ Z4 ≤ (1000 : Nat)) ∧ ((0 : Int) ≤ (0 : Int) ∧ (0 : Int) ≤ (2 : Int)) ∧ (0 : Int) ≤ Z30 ∧ Z30 ≤ (16777215 : Int)); let Z32 : Int := Z30 + (0 : Int); let Z33 : Rd × List Line := gLines rdP false Z23 Z32 (Rd.mk c Z29 true); let Z34 : Rd := Prod.fst Z33; let Z35 : List Line := addL (0 : Int) (0 : Int) l0 Z33.2; let Z36 : List Line := addL (0 : Int) (1 : Int) l1 Z33.2; let Z37 : List Line := addL (0 : Int) (2 : Int) l2 Z33.2; let Z38 : Rd × List Line := gLines rdP false Z23 Z32 (Rd.mk c Z29 (Z30 != (0 : Int))); let Z39 : Rd := Prod.fst Z38; let Z40 : List Line := addL (0 : Int) (0 : Int) l0 Z38.2; let Z41 : List Line := addL (0 : Int) (1 : Int) l1 Z38.2; let Z42 : List Line := addL (0 : Int) (2 : Int) l2 Z38.2; let Z43 : Rd × List Line := gLines rdP false Z23 Z32 (Rd.mk c Z29 false); let Z44 : Rd := Prod.fst Z43; let Z45 : List Line := addL (0 : Int) (0 : Int) l0 Z43.2; let Z46 : List Line := addL (0 : Int) (1 : Int) l1 Z43.2; let Z47 : List Line := addL (0 : Int) (2 : Int) l2 Z43.2; bif decide (List.length b ≤ (1000000000000 : Nat)) then bif Prod.snd Z0 != (0 : Int) then bif Z6 then some (Z7, Z10 :: some (Obj.var 30 (.acons Z11 (D.acons Z12 (D.acons Z16 (D.acons (D.arr RTy.int (3 : Nat) [(0 : Int), c1, c2]) Z9))))) :: Z18) else none else bif decide ((0 : Int) ≤ (3 : Int) ∧ (3 : Int) ≤ (↑b.length : Int)) then bif decide (List.length Z19 ≤ (1000000000000 : Nat)) then bif Prod.snd (getP Z19 (0 : Int) (1 : Int)) != (0 : Int) then bif Z6 then some (Z7, Z10 :: some (Obj.var 30 (.acons Z11 (D.acons Z12 (D.acons Z16 Z20)))) :: Z18) else none else bif decide ((0 : Int) ≤ (1 : Int) ∧ (1 : Int) ≤ (↑Z19.length : Int)) then bif decide (List.length Z21 ≤ (1000000000000 : Nat)) then bif Prod.snd (getP Z21 (0 : Int) (3 : Int)) != (0 : Int) then bif Z5 && decide ((0 : Int) ≤ Z22 ∧ Z22 ≤ (255 : Int) ∧ (0 : Nat) ≤ (1000000 : Nat) ∧ (Z2 ≤ (1000 : Nat) ∧ Z3 ≤ (1000 : Nat) ∧ Z4 ≤ (1000 : Nat)) ∧ ((0 : Int) ≤ (0 : Int) ∧ (0 : Int) ≤ (2 : Int)) ∧ (0 : Int) ≤ (0 : Int) ∧ (0 : Int) ≤ (16777215 : Int)) then some (Z7, [some (Obj.var 85 (.acons (D.sl RTy.u8 Z25.c Z25.b) (.acons (D.bool Z25.bad) Z9))), some (Obj.var 30 (.acons Z11 (D.acons Z12 (D.acons (D.acons (D.vs 3 Z26.length) (.acons (D.vs 4 Z27.length) (.acons (D.vs 5 Z28.length) Z9))) Z20)))), Z17, some (Obj.vec RTy.line true Z26), some (Obj.vec RTy.line true Z27), some (Obj.vec RTy.line true Z28)]) else none else bif decide ((0 : Int) ≤ (3 : Int) ∧ (3 : Int) ≤ (↑Z21.length : Int)) then bif bad then bif Z31 then some (Z7, [some (Obj.var 85 (.acons (D.sl RTy.u8 Z34.c Z34.b) (.acons (D.bool Z34.bad) Z9))), some (Obj.var 30 (.acons Z11 (D.acons Z12 (D.acons (D.acons (D.vs 3 Z35.length) (.acons (D.vs 4 Z36.length) (.acons (D.vs 5 Z37.length) Z9))) Z20)))), Z17, some (Obj.vec RTy.line true Z35), some (Obj.vec RTy.line true Z36), some (Obj.vec RTy.line true Z37)]) else none else bif Z22 == (0 : Int) then bif Z31 then some (Z7, [some (Obj.var 85 (.acons (D.sl RTy.u8 Z39.c Z39.b) (.acons (D.bool Z39.bad) Z9))), some (Obj.var 30 (.acons Z11 (D.acons Z12 (D.acons (D.acons (D.vs 3 Z40.length) (.acons (D.vs 4 Z41.length) (.acons (D.vs 5 Z42.length) Z9))) Z20)))), Z17, some (Obj.vec RTy.line true Z40), some (Obj.vec RTy.line true Z41), some (Obj.vec RTy.line true Z42)]) else none else bif Z31 then some (Z7, [some (Obj.var 85 (.acons (D.sl RTy.u8 Z44.c Z44.b) (.acons (D.bool Z44.bad) Z9))), some (Obj.var 30 (.acons Z11 (D.acons Z12 (D.acons (D.acons (D.vs 3 Z45.length) (.acons (D.vs 4 Z46.length) (.acons (D.vs 5 Z47.length) Z9))) Z20)))), Z17, some (Obj.vec RTy.line true Z45), some (Obj.vec RTy.line true Z46), some (Obj.vec RTy.line true Z47)]) else none else none else none else none else none else none else none) := by kernel_rfl
theorem rsQ_eq1 (c : Bool) (b : List UInt8) (bad : Bool) (pl : Int) (its : List Item) (l0 l1 l2 : List Line) (c0 c1 c2 : Int) : rsQ_r c b bad pl its l0 l1 l2 c0 c1 c2 1 = (let Z0 : Int × Int := getP b (0 : Int) (3 : Int); let Z1 : Nat := List.length its; let Z2 : Nat := List.length l0; let Z3 : Nat := List.length l1; let Z4 : Nat := List.length l2; let Z5 : Bool := decide (Z1 = Z1) && decide (Z2 = Z2) && decide (Z3 = Z3) && decide (Z4 = Z4); let Z6 : Bool := Z5 && decide ((0 : Int) ≤ (0 : Int) ∧ (0 : Int) ≤ (255 : Int) ∧ (0 : Nat) ≤ (1000000 : Nat) ∧ (Z2 ≤ (1000 : Nat) ∧ Z3 ≤ (1000 : Nat) ∧ Z4 ≤ (1000 : Nat)) ∧ ((0 : Int) ≤ (1 : Int) ∧ (1 : Int) ≤ (2 : Int)) ∧ (0 : Int) ≤ (0 : Int) ∧ (0 : Int) ≤ (16777215 : Int)); let Z7 : X × Env RC := (X.normal, [(4, D.ptr 0 []), (5, D.ptr 1 []), (39, D.int .i64 2)]); let Z8 : Rd × List Line := gLines rdP false (0 : Nat) (0 : Int) (Rd.mk true [] true); let Z9 : D RC := .anil; let Z10 : Option (Obj RC) := some (Obj.var 85 (.acons (D.sl RTy.u8 true Z8.1.b) (.acons (D.bool true) Z9))); let Z11 : D RC := D.int .i64 pl; let Z12 : D RC := D.vs 2 Z1; let Z13 : List Line := addL (1 : Int) (0 : Int) l0 Z8.2; let Z14 : List Line := addL (1 : Int) (1 : Int) l1 Z8.2; let Z15 : List Line := addL (1 : Int) (2 : Int) l2 Z8.2; let Z16 : D RC := D.acons (D.vs 3 Z13.length) (.acons (D.vs 4 Z14.length) (.acons (D.vs 5 Z15.length) Z9)); let Z17 : Option (Obj RC) := some (Obj.vec RTy.item true its); let Z18 : List (Option (Obj RC)) := [Z17, some (Obj.vec RTy.line true Z13), some (Obj.vec RTy.line true Z14), some (Obj.vec RTy.line true Z15)]; let Z19 : List UInt8 := List.drop (3 : Nat) b; let Z20 : D RC := D.acons (D.arr RTy.int (3 : Nat) [c0, Prod.fst Z0, c2]) Z9; let Z21 : List UInt8 := List.drop (1 : Nat) Z19; let Z22 : Int := Prod.fst (getP Z19 (0 : Int) (1 : Int)); let Z23 : Nat := Int.toNat Z22 - 0; let Z24 : Rd × List Line := gLines rdP false Z23 (0 : Int) (Rd.mk true [] true); let Z25 : Rd := Prod.fst Z24; let Z26 : List Line := addL (1 : Int) (0 : Int) l0 Z24.2; let Z27 : List Line := addL (1 : Int) (1 : Int) l1 Z24.2; let Z28 : List Line := addL (1 : Int) (2 : Int) l2 Z24.2; let Z29 : List UInt8 := List.drop (3 : Nat) Z21; let Z30 : Int := Prod.fst (getP Z21 (0 : Int) (3 : Int)); let Z31 : Bool := Z5 && decide ((0 : Int) ≤ Z22 ∧ Z22 ≤ (255 : Int) ∧ List.length Z29 ≤ (1000000 : Nat) ∧ (Z2 ≤ (1000 : Nat) ∧ Z3 ≤ (1000 : Nat) ∧ Z4 ≤ (1000 : Nat)) ∧ ((0 : Int) ≤ (1 : Int) ∧ (1 : Int) ≤ (2 : Int)) ∧ (0 : Int) ≤ Z30 ∧ Z30 ≤ (16777215 : Int)); let Z32 : Int := Z30 + (0 : Int); let Z33 : Rd × List Line := gLines rdP false Z23 Z32 (Rd.mk c Z29 true); let Z34 : Rd := Prod.fst Z33; let Z35 : List Line := addL (1 : Int) (0 : Int) l0 Z33.2; let Z36 : List Line := addL (1 : Int) (1 : Int) l1 Z33.2; let Z37 : List Line := addL (1 : Int) (2 : Int) l2 Z33.2; let Z38 : Rd × List Line := gLines rdP false Z23 Z32 (Rd.mk c Z29 (Z30 != (0 : Int))); let Z39 : Rd := Prod.fst Z38; let Z40 : List Line := addL (1 : Int) (0 : Int) l0 Z38.2; let Z41 : List Line := addL (1 : Int) (1 : Int) l1 Z38.2; let Z42 : List Line := addL (1 : Int) (2 : Int) l2 Z38.2; let Z43 : Rd × List Line := gLines rdP false Z23 Z32 (Rd.mk c Z29 false); let Z44 : Rd := Prod.fst Z43; let Z45 : List Line := addL (1 : Int) (0 : Int) l0 Z43.2; let Z46 : List Line := addL (1 : Int) (1 : Int) l1 Z43.2; let Z47 : List Line := addL (1 : Int) (2 : Int) l2 Z43.2; bif decide (List.length b ≤ (1000000000000 : Nat)) then bif Prod.snd Z0 != (0 : Int) then bif Z6 then some (Z7, Z10 :: some (Obj.var 30 (.acons Z11 (D.acons Z12 (D.acons Z16 (D.acons (D.arr RTy.int (3 : Nat) [c0, (0 : Int), c2]) Z9))))) :: Z18) else none else bif decide ((0 : Int) ≤ (3 : Int) ∧ (3 : Int) ≤ (↑b.length : Int)) then bif decide (List.length Z19 ≤ (1000000000000 : Nat)) then bif Prod.snd (getP Z19 (0 : Int) (1 : Int)) != (0 : Int) then bif Z6 then some (Z7, Z10 :: some (Obj.var 30 (.acons Z11 (D.acons Z12 (D.acons Z16 Z20)))) :: Z18) else none else bif decide ((0 : Int) ≤ (1 : Int) ∧ (1 : Int) ≤ (↑Z19.length : Int)) then bif decide (List.length Z21 ≤ (1000000000000 : Nat)) then bif Prod.snd (getP Z21 (0 : Int) (3 : Int)) != (0 : Int) then bif Z5 && decide ((0 : Int) ≤ Z22 ∧ Z22 ≤ (255 : Int) ∧ (0 : Nat) ≤ (1000000 : Nat) ∧ (Z2 ≤ (1000 : Nat) ∧ Z3 ≤ (1000 : Nat) ∧ Z4 ≤ (1000 : Nat)) ∧ ((0 : Int) ≤ (1 : Int) ∧ (1 : Int) ≤ (2 : Int)) ∧ (0 : Int) ≤ (0 : Int) ∧ (0 : Int) ≤ (16777215 : Int)) then some (Z7, [some (Obj.var 85 (.acons (D.sl RTy.u8 Z25.c Z25.b) (.acons (D.bool Z25.bad) Z9))), some (Obj.var 30 (.acons Z11 (D.acons Z12 (D.acons (D.acons (D.vs 3 Z26.length) (.acons (D.vs 4 Z27.length) (.acons (D.vs 5 Z28.length) Z9))) Z20)))), Z17, some (Obj.vec RTy.line true Z26), some (Obj.vec RTy.line true Z27), some (Obj.vec RTy.line true Z28)]) else none else bif decide ((0 : Int) ≤ (3 : Int) ∧ (3 : Int) ≤ (↑Z21.length : Int)) then bif bad then bif Z31 then some (Z7, [some (Obj.var 85 (.acons (D.sl RTy.u8 Z34.c Z34.b) (.acons (D.bool Z34.bad) Z9))), some (Obj.var 30 (.acons Z11 (D.acons Z12 (D.acons (D.acons (D.vs 3 Z35.length) (.acons (D.vs 4 Z36.length) (.acons (D.vs 5 Z37.length) Z9))) Z20)))), Z17, some (Obj.vec RTy.line true Z35), some (Obj.vec RTy.line true Z36), some (Obj.vec RTy.line true Z37)]) else none else bif Z22 == (0 : Int) then bif Z31 then some (Z7, [some (Obj.var 85 (.acons (D.sl RTy.u8 Z39.c Z39.b) (.acons (D.bool Z39.bad) Z9))), some (Obj.var 30 (.acons Z11 (D.acons Z12 (D.acons (D.acons (D.vs 3 Z40.length) (.acons (D.vs 4 Z41.length) (.acons (D.vs 5 Z42.length) Z9))) Z20)))), Z17, some (Obj.vec RTy.line true Z40), some (Obj.vec RTy.line true Z41), some (Obj.vec RTy.line true Z42)]) else none else bif Z31 then some (Z7, [some (Obj.var 85 (.acons (D.sl RTy.u8 Z44.c Z44.b) (.acons (D.bool Z44.bad) Z9))), some (Obj.var 30 (.acons Z11 (D.acons Z12 (D.acons (D.acons (D.vs 3 Z45.length) (.acons (D.vs 4 Z46.length) (.acons (D.vs 5 Z47.length) Z9))) Z20)))), Z17, some (Obj.vec RTy.line true Z45), some (Obj.vec RTy.line true Z46), some (Obj.vec RTy.line true Z47)]) else none else none else none else none else none else none else none) := by kernel_rfl
theorem rsQ_eq2 (c : Bool) (b : List UInt8) (bad : Bool) (pl : Int) (its : List Item) (l0 l1 l2 : List Line) (c0 c1 c2 : Int) : rsQ_r c b bad pl its l0 l1 l2 c0 c1 c2 2 = (let Z0 : Int × Int := getP b (0 : Int) (3 : Int); let Z1 : Nat := List.length its; let Z2 : Nat := List.length l0; let Z3 : Nat := List.length l1; let Z4 : Nat := List.length l2; let Z5 : Bool := decide (Z1 = Z1) && decide (Z2 = Z2) && decide (Z3 = Z3) && decide (Z4 = Z4); let Z6 : Bool := Z5 && decide ((0 : Int) ≤ (0 : Int) ∧ (0 : Int) ≤ (255 : Int) ∧ (0 : Nat) ≤ (1000000 : Nat) ∧ (Z2 ≤ (1000 : Nat) ∧ Z3 ≤ (1000 : Nat) ∧ Z4 ≤ (1000 : Nat)) ∧ ((0 : Int) ≤ (2 : Int) ∧ (2 : Int) ≤ (2 : Int)) ∧ (0 : Int) ≤ (0 : Int) ∧ (0 : Int) ≤ (16777215 : Int)); let Z7 : X × Env RC := (X.normal, [(4, D.ptr 0 []), (5, D.ptr 1 []), (39, D.int .i64 3)]); let Z8 : Rd × List Line := gLines rdP false (0 : Nat) (0 : Int) (Rd.mk true [] true); let Z9 : D RC := .anil; let Z10 : Option (Obj RC) := some (Obj.var 85 (.acons (D.sl RTy.u8 true Z8.1.b) (.acons (D.bool true) Z9))); let Z11 : D RC := D.int .i64 pl; let Z12 : D RC := D.vs 2 Z1; let Z13 : List Line := addL (2 : Int) (0 : Int) l0 Z8.2; let Z14 : List Line := addL (2 : Int) (1 : Int) l1 Z8.2; let Z15 : List Line := addL (2 : Int) (2 : Int) l2 Z8.2; let Z16 : D RC := D.acons (D.vs 3 Z13.length) (.acons (D.vs 4 Z14.length) (.acons (D.vs 5 Z15.length) Z9)); let Z17 : Option (Obj RC) := some (Obj.vec RTy.item true its); let Z18 : List (Option (Obj RC)) := [Z17, some (Obj.vec RTy.line true Z13), some (Obj.vec RTy.line true Z14), some (Obj.vec RTy.line true Z15)]; let Z19 : List UInt8 := List.drop (3 : Nat) b; let Z20 : D RC := D.acons (D.arr RTy.int (3 : Nat) [c0, c1, Prod.fst Z0]) Z9; let Z21 : List UInt8 := List.drop (1 : Nat) Z19; let Z22 : Int := Prod.fst (getP Z19 (0 : Int) (1 : Int)); let Z23 : Nat := Int.toNat Z22 - 0; let Z24 : Rd × List Line := gLines rdP false Z23 (0 : Int) (Rd.mk true [] true); let Z25 : Rd := Prod.fst Z24; let Z26 : List Line := addL (2 : Int) (0 : Int) l0 Z24.2; let Z27 : List Line := addL (2 : Int) (1 : Int) l1 Z24.2; let Z28 : List Line := addL (2 : Int) (2 : Int) l2 Z24.2; let Z29 : List UInt8 := List.drop (3 : Nat) Z21; let Z30 : Int := Prod.fst (getP Z21 (0 : Int) (3 : Int)); let Z31 : Bool := Z5 && decide ((0 : Int) ≤ Z22 ∧ Z22 ≤ (255 : Int) ∧ List.length Z29 ≤ (1000000 : Nat) ∧ (Z2 ≤ (1000 : Nat) ∧ Z3 ≤ (1000 : Nat) ∧ Z4 ≤ (1000 : Nat)) ∧ ((0 : Int) ≤ (2 : Int) ∧ (2 : Int) ≤ (2 : Int)) ∧ (0 : Int) ≤ Z30 ∧ Z30 ≤ (16777215 : Int)); let Z32 : Int := Z30 + (0 : Int); let Z33 : Rd × List Line := gLines rdP false Z23 Z32 (Rd.mk c Z29 true); let Z34 : Rd := Prod.fst Z33; let Z35 : List Line := addL (2 : Int) (0 : Int) l0 Z33.2; let Z36 : List Line := addL (2 : Int) (1 : Int) l1 Z33.2; let Z37 : List Line := addL (2 : Int) (2 : Int) l2 Z33.2; let Z38 : Rd × List Line := gLines rdP false Z23 Z32 (Rd.mk c Z29 (Z30 != (0 : Int))); let Z39 : Rd := Prod.fst Z38; let Z40 : List Line := addL (2 : Int) (0 : Int) l0 Z38.2; let Z41 : List Line := addL (2 : Int) (1 : Int) l1 Z38.2; let Z42 : List Line := addL (2 : Int) (2 : Int) l2 Z38.2; let Z43 : Rd × List Line := gLines rdP false Z23 Z32 (Rd.mk c Z29 false); let Z44 : Rd := Prod.fst Z43; let Z45 : List Line := addL (2 : Int) (0 : Int) l0 Z43.2; let Z46 : List Line := addL (2 : Int) (1 : Int) l1 Z43.2; let Z47 : List Line := addL (2 : Int) (2 : Int) l2 Z43.2; bif decide (List.length b ≤ (1000000000000 : Nat)) then bif Prod.snd Z0 != (0 : Int) then bif Z6 then some (Z7, Z10 :: some (Obj.var 30 (.acons Z11 (D.acons Z12 (D.acons Z16 (D.acons (D.arr RTy.int (3 : Nat) [c0, c1, (0 : Int)]) Z9))))) :: Z18) else none else bif decide ((0 : Int) ≤ (3 : Int) ∧ (3 : Int) ≤ (↑b.length : Int)) then bif decide (List.length Z19 ≤ (1000000000000 : Nat)) then bif Prod.snd (getP Z19 (0 : Int) (1 : Int)) != (0 : Int) then bif Z6 then some (Z7, Z10 :: some (Obj.var 30 (.acons Z11 (D.acons Z12 (D.acons Z16 Z20)))) :: Z18) else none else bif decide ((0 : Int) ≤ (1 : Int) ∧ (1 : Int) ≤ (↑Z19.length : Int)) then bif decide (List.length Z21 ≤ (1000000000000 : Nat)) then bif Prod.snd (getP Z21 (0 : Int) (3 : Int)) != (0 : Int) then bif Z5 && decide ((0 : Int) ≤ Z22 ∧ Z22 ≤ (255 : Int) ∧ (0 : Nat) ≤ (1000000 : Nat) ∧ (Z2 ≤ (1000 : Nat) ∧ Z3 ≤ (1000 : Nat) ∧ Z4 ≤ (1000 : Nat)) ∧ ((0 : Int) ≤ (2 : Int) ∧ (2 : Int) ≤ (2 : Int)) ∧ (0 : Int) ≤ (0 : Int) ∧ (0 : Int) ≤ (16777215 : Int)) then some (Z7, [some (Obj.var 85 (.acons (D.sl RTy.u8 Z25.c Z25.b) (.acons (D.bool Z25.bad) Z9))), some (Obj.var 30 (.acons Z11 (D.acons Z12 (D.acons (D.acons (D.vs 3 Z26.length) (.acons (D.vs 4 Z27.length) (.acons (D.vs 5 Z28.length) Z9))) Z20)))), Z17, some (Obj.vec RTy.line true Z26), some (Obj.vec RTy.line true Z27), some (Obj.vec RTy.line true Z28)]) else none else bif decide ((0 : Int) ≤ (3 : Int) ∧ (3 : Int) ≤ (↑Z21.length : Int)) then bif bad then bif Z31 then some (Z7, [some (Obj.var 85 (.acons (D.sl RTy.u8 Z34.c Z34.b) (.acons (D.bool Z34.bad) Z9))), some (Obj.var 30 (.acons Z11 (D.acons Z12 (D.acons (D.acons (D.vs 3 Z35.length) (.acons (D.vs 4 Z36.length) (.acons (D.vs 5 Z37.length) Z9))) Z20)))), Z17, some (Obj.vec RTy.line true Z35), some (Obj.vec RTy.line true Z36), some (Obj.vec RTy.line true Z37)]) else none else bif Z22 == (0 : Int) then bif Z31 then some (Z7, [some (Obj.var 85 (.acons (D.sl RTy.u8 Z39.c Z39.b) (.acons (D.bool Z39.bad) Z9))), some (Obj.var 30 (.acons Z11 (D.acons Z12 (D.acons (D.acons (D.vs 3 Z40.length) (.acons (D.vs 4 Z41.length) (.acons (D.vs 5 Z42.length) Z9))) Z20)))), Z17, some (Obj.vec RTy.line true Z40), some (Obj.vec RTy.line true Z41), some (Obj.vec RTy.line true Z42)]) else none else bif Z31 then some (Z7, [some (Obj.var 85 (.acons (D.sl RTy.u8 Z44.c Z44.b) (.acons (D.bool Z44.bad) Z9))), some (Obj.var 30 (.acons Z11 (D.acons Z12 (D.acons (D.acons (D.vs 3 Z45.length) (.acons (D.vs 4 Z46.length) (.acons (D.vs 5 Z47.length) Z9))) Z20)))), Z17, some (Obj.vec RTy.line true Z45), some (Obj.vec RTy.line true Z46), some (Obj.vec RTy.line true Z47)]) else none else none else none else none else none else none else none) := by kernel_rfl
theorem rsQ_eq3 (c : Bool) (b : List UInt8) (bad : Bool) (pl : Int) (its : List Item) (l0 l1 l2 : List Line) (c0 c1 c2 : Int) : rsQ_r c b bad pl its l0 l1 l2 c0 c1 c2 3 = (some ((X.exit (2 : Nat), []), [some (Obj.var 85 (.acons (D.sl RTy.u8 c b) (.acons (D.bool bad) .anil))), some (Obj.var 30 (.acons (D.int .i64 pl) (.acons (D.vs 2 its.length) (.acons (D.acons (D.vs 3 l0.length) (.acons (D.vs 4 l1.length) (.acons (D.vs 5 l2.length) .anil))) (.acons (D.arr RTy.int (3 : Nat) [c0, c1, c2]) .anil))))), some (Obj.vec RTy.item true its), some (Obj.vec RTy.line true l0), some (Obj.vec RTy.line true l1), some (Obj.vec RTy.line true l2)])) := by kernel_rfl
def rsQ_fin (c : Bool) (b : List UInt8) (bad : Bool) (pl : Int) (its : List Item) (l0 : List Line) (l1 : List Line) (l2 : List Line) (c0 : Int) (c1 : Int) (c2 : Int) (q : Nat) : RT RC := .leaf (.exit 2) [] [.var 85 (.acons (.sl (C := RC) .u8 (runQ rdP false markP q ⟨⟨c, b, bad⟩, l0, l1, l2, c0, c1, c2⟩).r.c (runQ rdP false markP q ⟨⟨c, b, bad⟩, l0, l1, l2, c0, c1, c2⟩).r.b) (.acons (.bool (runQ rdP false markP q ⟨⟨c, b, bad⟩, l0, l1, l2, c0, c1, c2⟩).r.bad) .anil)), .var 30 (.acons (.int .i64 pl) (.acons (.vs 2 its.length) (.acons (.acons (.vs 3 (runQ rdP false markP q ⟨⟨c, b, bad⟩, l0, l1, l2, c0, c1, c2⟩).l0.length) (.acons (.vs 4 (runQ rdP false markP q ⟨⟨c, b, bad⟩, l0, l1, l2, c0, c1, c2⟩).l1.length) (.acons (.vs 5 (runQ rdP false markP q ⟨⟨c, b, bad⟩, l0, l1, l2, c0, c1, c2⟩).l2.length) .anil))) (.acons (.arr (C := RC) .int 3 [(runQ rdP false markP q ⟨⟨c, b, bad⟩, l0, l1, l2, c0, c1, c2⟩).c0, (runQ rdP false markP q ⟨⟨c, b, bad⟩, l0, l1, l2, c0, c1, c2⟩).c1, (runQ rdP false markP q ⟨⟨c, b, bad⟩, l0, l1, l2, c0, c1, c2⟩).c2]) .anil)))), .vec (C := RC) .item true its, .vec (C := RC) .line true (runQ rdP false markP q ⟨⟨c, b, bad⟩, l0, l1, l2, c0, c1, c2⟩).l0, .vec (C := RC) .line true (runQ rdP false markP q ⟨⟨c, b, bad⟩, l0, l1, l2, c0, c1, c2⟩).l1, .vec (C := RC) .line true (runQ rdP false markP q ⟨⟨c, b, bad⟩, l0, l1, l2, c0, c1, c2⟩).l2]
def rsQ_Inv (c : Bool) (b : List UInt8) (bad : Bool) (pl : Int) (its : List Item) (l0 : List Line) (l1 : List Line) (l2 : List Line) (c0 : Int) (c1 : Int) (c2 : Int) (q : Nat) : Prop := q ≤ 3 ∧ b.length ≤ 1000000 ∧ l0.length ≤ 255 * q ∧ l1.length ≤ 255 * q ∧ l2.length ≤ 255 * q
def rsQ_S : LoopR RC rsQ_St where
  k := 6
  canon q := rsQ_c q.c q.b q.bad q.pl q.its q.l0 q.l1 q.l2 q.c0 q.c1 q.c2 q.q
  objs q := rsQ_o q.c q.b q.bad q.pl q.its q.l0 q.l1 q.l2 q.c0 q.c1 q.c2 q.q
  fin q := rsQ_fin q.c q.b q.bad q.pl q.its q.l0 q.l1 q.l2 q.c0 q.c1 q.c2 q.q
  Inv q := rsQ_Inv q.c q.b q.bad q.pl q.its q.l0 q.l1 q.l2 q.c0 q.c1 q.c2 q.q
  μ q := 3 - q.q
theorem rsQ_round (c : Bool) (b : List UInt8) (bad : Bool) (pl : Int) (its : List Item) (l0 : List Line) (l1 : List Line) (l2 : List Line) (c0 : Int) (c1 : Int) (c2 : Int) (q : Nat) (hI : rsQ_Inv c b bad pl its l0 l1 l2 c0 c1 c2 q) : Leaf (rsQ_r c b bad pl its l0 l1 l2 c0 c1 c2 q) (LedR rsQ_S ⟨c, b, bad, pl, its, l0, l1, l2, c0, c1, c2, q⟩) := by
  unfold rsQ_Inv at hI
  obtain ⟨h1, h2, h3, h4, h5⟩ := hI
  have t1 : Int.toNat 1 = 1 := rfl
  have t3 : Int.toNat 3 = 3 := rfl
  have z1 : rget 1 ⟨true, [], true⟩ = (0, ⟨true, [], true⟩) := rfl
  have z3 : rget 3 ⟨true, [], true⟩ = (0, ⟨true, [], true⟩) := rfl
  have k01 : ¬ (0 : Int) = 1 := by omega
  have k02 : ¬ (0 : Int) = 2 := by omega
  have k10 : ¬ (1 : Int) = 0 := by omega
  have k12 : ¬ (1 : Int) = 2 := by omega
  have k20 : ¬ (2 : Int) = 0 := by omega
  have k21 : ¬ (2 : Int) = 1 := by omega
  have e0 : decide (b.length ≤ 1000000000000) = true := decide_eq_true (by omega)
  have pb := gPart_blen ⟨c, b, bad⟩
  have pn := gPart_len ⟨c, b, bad⟩
  by_cases x3 : q = 3
  · subst x3
    rw [rsQ_eq3]
    exact leafR_exit (rsQ_o c b bad pl its l0 l1 l2 c0 c1 c2 3) rfl rfl
  by_cases x0 : q = 0
  · subst x0
    have hgo : ∀ (r' : Rd) (cut : Int) (L : List Line), gPart rdP false markP ⟨c, b, bad⟩ = (r', cut, L) → Leaf (some ((X.normal, [(4, .ptr 0 []), (5, .ptr 1 []), (39, .int .i64 1)]), [some (.var 85 (.acons (.sl (C := RC) .u8 r'.c r'.b) (.acons (.bool r'.bad) .anil))), some (.var 30 (.acons (.int .i64 pl) (.acons (.vs 2 its.length) (.acons (.acons (.vs 3 (l0 ++ L).length) (.acons (.vs 4 l1.length) (.acons (.vs 5 l2.length) .anil))) (.acons (.arr (C := RC) .int 3 [cut, c1, c2]) .anil))))), some (.vec (C := RC) .item true its), some (.vec (C := RC) .line true (l0 ++ L)), some (.vec (C := RC) .line true l1), some (.vec (C := RC) .line true l2)])) (LedR rsQ_S ⟨c, b, bad, pl, its, l0, l1, l2, c0, c1, c2, 0⟩) := by
      intro r' cut L hP
      rw [hP] at pb pn
      simp only at pb pn
      have hrun : runQ rdP false markP 1 ⟨⟨r'.c, r'.b, r'.bad⟩, l0 ++ L, l1, l2, cut, c1, c2⟩ = runQ rdP false markP 0 ⟨⟨c, b, bad⟩, l0, l1, l2, c0, c1, c2⟩ := by
        simp only [runQ, part0, hP]
      refine leafR_go ⟨r'.c, r'.b, r'.bad, pl, its, l0 ++ L, l1, l2, cut, c1, c2, 1⟩ ?_ (by simp only [rsQ_S]; omega) ?_ rfl rfl
      · refine ⟨by simp, ?_, ?_, ?_, ?_⟩ <;> simp <;> omega
      · simp only [rsQ_S, rsQ_fin, hrun]
    (rw [rsQ_eq0]; conv => zeta)
    simp only [e0, cond_true, getP_snd1, getP_snd3, t1, t3]
    by_cases q0 : b.length < 3
    · have r0 : rget 3 ⟨c, b, bad⟩ = _ := rget_no q0
      simp only [q0, decide_true, cond_true]
      simp (disch := omega) only [decide_eq_true, Bool.and_self, cond_true, addL, if_true, if_false, k01, k02, k10, k12, k20, k21]
      exact hgo ⟨true, [], true⟩ 0 [] (gPart_of r0 z1 z3)
    have r0 : rget 3 ⟨c, b, bad⟩ = _ := rget_ok (show 3 ≤ b.length by omega)
    have d0 : decide ((0 : Int) ≤ 3 ∧ (3 : Int) ≤ b.length) = true := by simp only [decide_eq_true_eq]; omega
    have e1 : decide ((b.drop 3).length ≤ 1000000000000) = true := decide_eq_true (by simp; omega)
    simp only [q0, decide_false, cond_false, d0, cond_true, e1, getP_fst3 q0]
    by_cases q1 : (b.drop 3).length < 1
    · have r1 : rget 1 ⟨c, b.drop 3, bad⟩ = _ := rget_no q1
      simp only [q1, decide_true, cond_true]
      simp (disch := omega) only [decide_eq_true, Bool.and_self, cond_true, addL, if_true, if_false, k01, k02, k10, k12, k20, k21]
      exact hgo ⟨true, [], true⟩ _ [] (gPart_of r0 r1 z3)
    have r1 : rget 1 ⟨c, b.drop 3, bad⟩ = _ := rget_ok (show 1 ≤ (b.drop 3).length by omega)
    have d1 : decide ((0 : Int) ≤ 1 ∧ (1 : Int) ≤ (b.drop 3).length) = true := by simp only [decide_eq_true_eq]; omega
    have e2 : decide (((b.drop 3).drop 1).length ≤ 1000000000000) = true := decide_eq_true (by simp; omega)
    simp only [q1, decide_false, cond_false, d1, cond_true, e2, getP_fst1 q1]
    have n1 := leVal_le (b.drop 3) 1
    have f1 := leVal_le ((b.drop 3).drop 1) 3
    have bl : (((b.drop 3).drop 1).drop 3).length ≤ 1000000 := by simp; omega
    simp only [Nat.reducePow] at n1 f1
    by_cases q2 : ((b.drop 3).drop 1).length < 3
    · have r2 : rget 3 ⟨c, (b.drop 3).drop 1, bad⟩ = _ := rget_no q2
      simp only [q2, decide_true, cond_true]
      have bz : ([] : List UInt8).length ≤ 1000000 := by simp
      simp (disch := (first | omega | (simp; omega))) only [decide_eq_true, Bool.and_self, cond_true, addL, if_true, if_false, k01, k02, k10, k12, k20, k21, Nat.sub_zero, Int.add_zero]
      refine hgo _ _ _ ?_
      rw [gPart_of r0 r1 r2]
      have : ((leVal ((b.drop 3).take 1) : Int) == 0 && (0 : Int) != 0) = false := by simp
      rw [this]; rfl
    have r2 : rget 3 ⟨c, (b.drop 3).drop 1, bad⟩ = _ := rget_ok (show 3 ≤ ((b.drop 3).drop 1).length by omega)
    have d2 : decide ((0 : Int) ≤ 3 ∧ (3 : Int) ≤ ((b.drop 3).drop 1).length) = true := by simp only [decide_eq_true_eq]; omega
    simp only [q2, decide_false, cond_false, d2, cond_true, getP_fst3 q2]
    have hP := gPart_of r0 r1 r2
    cases bad
    · simp only [cond_false]
      cases hz : ((leVal ((b.drop 3).take 1) : Int) == 0)
      · simp only [cond_false]
        simp (disch := omega) only [decide_eq_true, Bool.and_self, cond_true, addL, if_true, if_false, k01, k02, k10, k12, k20, k21, Nat.sub_zero, Int.add_zero]
        refine hgo _ _ _ ?_
        rw [hP, hz]; rfl
      · simp only [cond_true]
        simp (disch := omega) only [decide_eq_true, Bool.and_self, cond_true, addL, if_true, if_false, k01, k02, k10, k12, k20, k21, Nat.sub_zero, Int.add_zero]
        refine hgo _ _ _ ?_
        rw [hP, hz]
        cases hf : ((leVal (((b.drop 3).drop 1).take 3) : Int) != 0) <;> rfl
    · simp only [cond_true]
      simp (disch := omega) only [decide_eq_true, Bool.and_self, cond_true, addL, if_true, if_false, k01, k02, k10, k12, k20, k21, Nat.sub_zero, Int.add_zero]
      refine hgo _ _ _ ?_
      rw [hP]
      cases ((leVal ((b.drop 3).take 1) : Int) == 0 && (leVal (((b.drop 3).drop 1).take 3) : Int) != 0) <;> rfl
  by_cases x1 : q = 1
  · subst x1
    have hgo : ∀ (r' : Rd) (cut : Int) (L : List Line), gPart rdP false markP ⟨c, b, bad⟩ = (r', cut, L) → Leaf (some ((X.normal, [(4, .ptr 0 []), (5, .ptr 1 []), (39, .int .i64 2)]), [some (.var 85 (.acons (.sl (C := RC) .u8 r'.c r'.b) (.acons (.bool r'.bad) .anil))), some (.var 30 (.acons (.int .i64 pl) (.acons (.vs 2 its.length) (.acons (.acons (.vs 3 l0.length) (.acons (.vs 4 (l1 ++ L).length) (.acons (.vs 5 l2.length) .anil))) (.acons (.arr (C := RC) .int 3 [c0, cut, c2]) .anil))))), some (.vec (C := RC) .item true its), some (.vec (C := RC) .line true l0), some (.vec (C := RC) .line true (l1 ++ L)), some (.vec (C := RC) .line true l2)])) (LedR rsQ_S ⟨c, b, bad, pl, its, l0, l1, l2, c0, c1, c2, 1⟩) := by
      intro r' cut L hP
      rw [hP] at pb pn
      simp only at pb pn
      have hrun : runQ rdP false markP 2 ⟨⟨r'.c, r'.b, r'.bad⟩, l0, l1 ++ L, l2, c0, cut, c2⟩ = runQ rdP false markP 1 ⟨⟨c, b, bad⟩, l0, l1, l2, c0, c1, c2⟩ := by
        simp only [runQ, part1, hP]
      refine leafR_go ⟨r'.c, r'.b, r'.bad, pl, its, l0, l1 ++ L, l2, c0, cut, c2, 2⟩ ?_ (by simp only [rsQ_S]; omega) ?_ rfl rfl
      · refine ⟨by simp, ?_, ?_, ?_, ?_⟩ <;> simp <;> omega
      · simp only [rsQ_S, rsQ_fin, hrun]
    (rw [rsQ_eq1]; conv => zeta)
    simp only [e0, cond_true, getP_snd1, getP_snd3, t1, t3]
    by_cases q0 : b.length < 3
    · have r0 : rget 3 ⟨c, b, bad⟩ = _ := rget_no q0
      simp only [q0, decide_true, cond_true]
      simp (disch := omega) only [decide_eq_true, Bool.and_self, cond_true, addL, if_true, if_false, k01, k02, k10, k12, k20, k21]
      exact hgo ⟨true, [], true⟩ 0 [] (gPart_of r0 z1 z3)
    have r0 : rget 3 ⟨c, b, bad⟩ = _ := rget_ok (show 3 ≤ b.length by omega)
    have d0 : decide ((0 : Int) ≤ 3 ∧ (3 : Int) ≤ b.length) = true := by simp only [decide_eq_true_eq]; omega
    have e1 : decide ((b.drop 3).length ≤ 1000000000000) = true := decide_eq_true (by simp; omega)
    simp only [q0, decide_false, cond_false, d0, cond_true, e1, getP_fst3 q0]
    by_cases q1 : (b.drop 3).length < 1
    · have r1 : rget 1 ⟨c, b.drop 3, bad⟩ = _ := rget_no q1
      simp only [q1, decide_true, cond_true]
      simp (disch := omega) only [decide_eq_true, Bool.and_self, cond_true, addL, if_true, if_false, k01, k02, k10, k12, k20, k21]
      exact hgo ⟨true, [], true⟩ _ [] (gPart_of r0 r1 z3)
    have r1 : rget 1 ⟨c, b.drop 3, bad⟩ = _ := rget_ok (show 1 ≤ (b.drop 3).length by omega)
    have d1 : decide ((0 : Int) ≤ 1 ∧ (1 : Int) ≤ (b.drop 3).length) = true := by simp only [decide_eq_true_eq]; omega
    have e2 : decide (((b.drop 3).drop 1).length ≤ 1000000000000) = true := decide_eq_true (by simp; omega)
    simp only [q1, decide_false, cond_false, d1, cond_true, e2, getP_fst1 q1]
    have n1 := leVal_le (b.drop 3) 1
    have f1 := leVal_le ((b.drop 3).drop 1) 3
    have bl : (((b.drop 3).drop 1).drop 3).length ≤ 1000000 := by simp; omega
    simp only [Nat.reducePow] at n1 f1
    by_cases q2 : ((b.drop 3).drop 1).length < 3
    · have r2 : rget 3 ⟨c, (b.drop 3).drop 1, bad⟩ = _ := rget_no q2
      simp only [q2, decide_true, cond_true]
      have bz : ([] : List UInt8).length ≤ 1000000 := by simp
      simp (disch := (first | omega | (simp; omega))) only [decide_eq_true, Bool.and_self, cond_true, addL, if_true, if_false, k01, k02, k10, k12, k20, k21, Nat.sub_zero, Int.add_zero]
      refine hgo _ _ _ ?_
      rw [gPart_of r0 r1 r2]
      have : ((leVal ((b.drop 3).take 1) : Int) == 0 && (0 : Int) != 0) = false := by simp
      rw [this]; rfl
    have r2 : rget 3 ⟨c, (b.drop 3).drop 1, bad⟩ = _ := rget_ok (show 3 ≤ ((b.drop 3).drop 1).length by omega)
    have d2 : decide ((0 : Int) ≤ 3 ∧ (3 : Int) ≤ ((b.drop 3).drop 1).length) = true := by simp only [decide_eq_true_eq]; omega
    simp only [q2, decide_false, cond_false, d2, cond_true, getP_fst3 q2]
    have hP := gPart_of r0 r1 r2
    cases bad
    · simp only [cond_false]
      cases hz : ((leVal ((b.drop 3).take 1) : Int) == 0)
      · simp only [cond_false]
        simp (disch := omega) only [decide_eq_true, Bool.and_self, cond_true, addL, if_true, if_false, k01, k02, k10, k12, k20, k21, Nat.sub_zero, Int.add_zero]
        refine hgo _ _ _ ?_
        rw [hP, hz]; rfl
      · simp only [cond_true]
        simp (disch := omega) only [decide_eq_true, Bool.and_self, cond_true, addL, if_true, if_false, k01, k02, k10, k12, k20, k21, Nat.sub_zero, Int.add_zero]
        refine hgo _ _ _ ?_
        rw [hP, hz]
        cases hf : ((leVal (((b.drop 3).drop 1).take 3) : Int) != 0) <;> rfl
    · simp only [cond_true]
      simp (disch := omega) only [decide_eq_true, Bool.and_self, cond_true, addL, if_true, if_false, k01, k02, k10, k12, k20, k21, Nat.sub_zero, Int.add_zero]
      refine hgo _ _ _ ?_
      rw [hP]
      cases ((leVal ((b.drop 3).take 1) : Int) == 0 && (leVal (((b.drop 3).drop 1).take 3) : Int) != 0) <;> rfl
  by_cases x2 : q = 2
  · subst x2
    have hgo : ∀ (r' : Rd) (cut : Int) (L : List Line), gPart rdP false markP ⟨c, b, bad⟩ = (r', cut, L) → Leaf (some ((X.normal, [(4, .ptr 0 []), (5, .ptr 1 []), (39, .int .i64 3)]), [some (.var 85 (.acons (.sl (C := RC) .u8 r'.c r'.b) (.acons (.bool r'.bad) .anil))), some (.var 30 (.acons (.int .i64 pl) (.acons (.vs 2 its.length) (.acons (.acons (.vs 3 l0.length) (.acons (.vs 4 l1.length) (.acons (.vs 5 (l2 ++ L).length) .anil))) (.acons (.arr (C := RC) .int 3 [c0, c1, cut]) .anil))))), some (.vec (C := RC) .item true its), some (.vec (C := RC) .line true l0), some (.vec (C := RC) .line true l1), some (.vec (C := RC) .line true (l2 ++ L))])) (LedR rsQ_S ⟨c, b, bad, pl, its, l0, l1, l2, c0, c1, c2, 2⟩) := by
      intro r' cut L hP
      rw [hP] at pb pn
      simp only at pb pn
      have hrun : runQ rdP false markP 3 ⟨⟨r'.c, r'.b, r'.bad⟩, l0, l1, l2 ++ L, c0, c1, cut⟩ = runQ rdP false markP 2 ⟨⟨c, b, bad⟩, l0, l1, l2, c0, c1, c2⟩ := by
        simp only [runQ, part2, hP]
      refine leafR_go ⟨r'.c, r'.b, r'.bad, pl, its, l0, l1, l2 ++ L, c0, c1, cut, 3⟩ ?_ (by simp only [rsQ_S]; omega) ?_ rfl rfl
      · refine ⟨by simp, ?_, ?_, ?_, ?_⟩ <;> simp <;> omega
      · simp only [rsQ_S, rsQ_fin, hrun]
    (rw [rsQ_eq2]; conv => zeta)
    simp only [e0, cond_true, getP_snd1, getP_snd3, t1, t3]
    by_cases q0 : b.length < 3
    · have r0 : rget 3 ⟨c, b, bad⟩ = _ := rget_no q0
      simp only [q0, decide_true, cond_true]
      simp (disch := omega) only [decide_eq_true, Bool.and_self, cond_true, addL, if_true, if_false, k01, k02, k10, k12, k20, k21]
      exact hgo ⟨true, [], true⟩ 0 [] (gPart_of r0 z1 z3)
    have r0 : rget 3 ⟨c, b, bad⟩ = _ := rget_ok (show 3 ≤ b.length by omega)
    have d0 : decide ((0 : Int) ≤ 3 ∧ (3 : Int) ≤ b.length) = true := by simp only [decide_eq_true_eq]; omega
    have e1 : decide ((b.drop 3).length ≤ 1000000000000) = true := decide_eq_true (by simp; omega)
    simp only [q0, decide_false, cond_false, d0, cond_true, e1, getP_fst3 q0]
    by_cases q1 : (b.drop 3).length < 1
    · have r1 : rget 1 ⟨c, b.drop 3, bad⟩ = _ := rget_no q1
      simp only [q1, decide_true, cond_true]
      simp (disch := omega) only [decide_eq_true, Bool.and_self, cond_true, addL, if_true, if_false, k01, k02, k10, k12, k20, k21]
      exact hgo ⟨true, [], true⟩ _ [] (gPart_of r0 r1 z3)
    have r1 : rget 1 ⟨c, b.drop 3, bad⟩ = _ := rget_ok (show 1 ≤ (b.drop 3).length by omega)
    have d1 : decide ((0 : Int) ≤ 1 ∧ (1 : Int) ≤ (b.drop 3).length) = true := by simp only [decide_eq_true_eq]; omega
    have e2 : decide (((b.drop 3).drop 1).length ≤ 1000000000000) = true := decide_eq_true (by simp; omega)
    simp only [q1, decide_false, cond_false, d1, cond_true, e2, getP_fst1 q1]
    have n1 := leVal_le (b.drop 3) 1
    have f1 := leVal_le ((b.drop 3).drop 1) 3
    have bl : (((b.drop 3).drop 1).drop 3).length ≤ 1000000 := by simp; omega
    simp only [Nat.reducePow] at n1 f1
    by_cases q2 : ((b.drop 3).drop 1).length < 3
    · have r2 : rget 3 ⟨c, (b.drop 3).drop 1, bad⟩ = _ := rget_no q2
      simp only [q2, decide_true, cond_true]
      have bz : ([] : List UInt8).length ≤ 1000000 := by simp
      simp (disch := (first | omega | (simp; omega))) only [decide_eq_true, Bool.and_self, cond_true, addL, if_true, if_false, k01, k02, k10, k12, k20, k21, Nat.sub_zero, Int.add_zero]
      refine hgo _ _ _ ?_
      rw [gPart_of r0 r1 r2]
      have : ((leVal ((b.drop 3).take 1) : Int) == 0 && (0 : Int) != 0) = false := by simp
      rw [this]; rfl
    have r2 : rget 3 ⟨c, (b.drop 3).drop 1, bad⟩ = _ := rget_ok (show 3 ≤ ((b.drop 3).drop 1).length by omega)
    have d2 : decide ((0 : Int) ≤ 3 ∧ (3 : Int) ≤ ((b.drop 3).drop 1).length) = true := by simp only [decide_eq_true_eq]; omega
    simp only [q2, decide_false, cond_false, d2, cond_true, getP_fst3 q2]
    have hP := gPart_of r0 r1 r2
    cases bad
    · simp only [cond_false]
      cases hz : ((leVal ((b.drop 3).take 1) : Int) == 0)
      · simp only [cond_false]
        simp (disch := omega) only [decide_eq_true, Bool.and_self, cond_true, addL, if_true, if_false, k01, k02, k10, k12, k20, k21, Nat.sub_zero, Int.add_zero]
        refine hgo _ _ _ ?_
        rw [hP, hz]; rfl
      · simp only [cond_true]
        simp (disch := omega) only [decide_eq_true, Bool.and_self, cond_true, addL, if_true, if_false, k01, k02, k10, k12, k20, k21, Nat.sub_zero, Int.add_zero]
        refine hgo _ _ _ ?_
        rw [hP, hz]
        cases hf : ((leVal (((b.drop 3).drop 1).take 3) : Int) != 0) <;> rfl
    · simp only [cond_true]
      simp (disch := omega) only [decide_eq_true, Bool.and_self, cond_true, addL, if_true, if_false, k01, k02, k10, k12, k20, k21, Nat.sub_zero, Int.add_zero]
      refine hgo _ _ _ ?_
      rw [hP]
      cases ((leVal ((b.drop 3).take 1) : Int) == 0 && (leVal (((b.drop 3).drop 1).take 3) : Int) != 0) <;> rfl
  omega
def rsQ_d (env : Env RC) (os : List (Obj RC)) : Option (Bool × rsQ_St) := match env, os with
  | [(4, .ptr 0 []), (5, .ptr 1 []), (39, .int .i64 x0)], [.var 85 (.acons (.sl .u8 c b) (.acons (.bool bad) .anil)), .var 30 (.acons (.int .i64 pl) (.acons (.vs 2 x1) (.acons (.acons (.vs 3 x2) (.acons (.vs 4 x3) (.acons (.vs 5 x4) .anil))) (.acons (.arr .int 3 [c0, c1, c2]) .anil)))), .vec .item true its, .vec .line true l0, .vec .line true l1, .vec .line true l2] => staticD (true) (decide (x0 = 0) && decide (x1 = its.length) && decide (x2 = l0.length) && decide (x3 = l1.length) && decide (x4 = l2.length) && decide (b.length ≤ 1000000 ∧ l0.length = 0 ∧ l1.length = 0 ∧ l2.length = 0), ⟨c, b, bad, pl, its, l0, l1, l2, c0, c1, c2, 0⟩)
  | _, _ => none
noncomputable def un_1 := um_2.addLoop 32 11 (sumR s07 [.slot 4 0, .slot 5 0, .path 1 [1], .path 1 [2, 0], .path 1 [2, 1], .path 1 [2, 2]] [4, 5, 39] rsQ_S rsQ_d)
theorem un_1_laws : FLaws Try.prog s07 un_1 := by
  refine um_2_laws.addRoundsR s07_laws (by kernel_rfl) rsQ_S 60 [4, 5, 39] [] [.slot 4 0, .slot 5 0, .path 1 [1], .path 1 [2, 0], .path 1 [2, 1], .path 1 [2, 2]] [4, 5, 39] rsQ_d (fun q hI => ?_) ?_
  · obtain ⟨c, b, bad, pl, its, l0, l1, l2, c0, c1, c2, q⟩ := q
    refine ⟨?_, ?_, rsQ_round c b bad pl its l0 l1 l2 c0 c1 c2 q hI⟩
    · simp_all [RefsOK, rsQ_S, rsQ_c, rsQ_o, rsQ_Inv, D.refs, Obj.refs, rEnc]
    · simp_all [rsQ_S, rsQ_fin, rsQ_o, rsQ_Inv, RT.refsOK, RefsOK, D.refs, Obj.refs, rEnc]
  · intro env os b q hd_ hb
    unfold rsQ_d at hd_
    split at hd_
    · obtain ⟨hs, hd_⟩ := staticD_some hd_
      cases hd_
      simp only [Bool.and_eq_true, decide_eq_true_eq] at hb
      obtain ⟨⟨⟨⟨⟨rfl, rfl⟩, rfl⟩, rfl⟩, rfl⟩, hq⟩ := hb
      exact ⟨⟨by simp, hq.1, by simp [hq.2.1], by simp [hq.2.2.1], by simp [hq.2.2.2]⟩, rfl, rfl⟩
    · cases hd_
def stG (o : Option St) : St := o.getD ⟨0, [], [], [], [], 0, 0, 0⟩
theorem runQ0_bounds (r : Rd) : (runQ rdP false markP 0 ⟨r, [], [], [], 0, 0, 0⟩).l0.length ≤ 255 ∧ (runQ rdP false markP 0 ⟨r, [], [], [], 0, 0, 0⟩).l1.length ≤ 255 ∧ (runQ rdP false markP 0 ⟨r, [], [], [], 0, 0, 0⟩).l2.length ≤ 255 ∧ (runQ rdP false markP 0 ⟨r, [], [], [], 0, 0, 0⟩).r.b.length ≤ r.b.length := by
  simp only [runQ, part0, part1, part2, List.nil_append]
  exact ⟨gPart_len _, gPart_len _, gPart_len _, Nat.le_trans (gPart_blen _) (Nat.le_trans (gPart_blen _) (gPart_blen _))⟩
theorem gState_of {r r1 r2 : Rd} {p n : Int} (h1 : rget 3 r = (p, r1)) (h2 : rget 1 r1 = (n, r2)) :
    gState rdP false markP r = ((runQ rdP false markP 0 ⟨(gItems rdP false n.toNat r2).1, [], [], [], 0, 0, 0⟩).r, ⟨p, (gItems rdP false n.toNat r2).2, (runQ rdP false markP 0 ⟨(gItems rdP false n.toNat r2).1, [], [], [], 0, 0, 0⟩).l0, (runQ rdP false markP 0 ⟨(gItems rdP false n.toNat r2).1, [], [], [], 0, 0, 0⟩).l1, (runQ rdP false markP 0 ⟨(gItems rdP false n.toNat r2).1, [], [], [], 0, 0, 0⟩).l2, (runQ rdP false markP 0 ⟨(gItems rdP false n.toNat r2).1, [], [], [], 0, 0, 0⟩).c0, (runQ rdP false markP 0 ⟨(gItems rdP false n.toNat r2).1, [], [], [], 0, 0, 0⟩).c1, (runQ rdP false markP 0 ⟨(gItems rdP false n.toNat r2).1, [], [], [], 0, 0, 0⟩).c2⟩) := by
  have e1 : rdP.get 3 r = (p, r1) := h1
  have e2 : rdP.get 1 r1 = (n, r2) := h2
  simp only [gState, e1, e2, runQ, part0, part1, part2, List.nil_append]
open Go.Proofs
def readSP_s (c : Bool) (b : List UInt8) : Option (Bool × D RC) := some (decide (b.length ≤ 1000000), .tup (.acons (.acons (.int .i64 (stG (readS b)).place) (.acons (.sl (C := RC) .item (readS b).isNone (stG (readS b)).items) (.acons (.acons (.sl (C := RC) .line (readS b).isNone (stG (readS b)).l0) (.acons (.sl (C := RC) .line (readS b).isNone (stG (readS b)).l1) (.acons (.sl (C := RC) .line (readS b).isNone (stG (readS b)).l2) .anil))) (.acons (.arr (C := RC) .int 3 [(stG (readS b)).c0, (stG (readS b)).c1, (stG (readS b)).c2]) .anil)))) (.acons (.int .i64 (bif (readS b).isNone then 50 else 0)) .anil)))
def readSP_sp : List (D RC) → Option (Bool × D RC)
  | [.sl .u8 c b] => readSP_s c b
  | _ => none
noncomputable def readSP_e (c : Bool) (b : List UInt8) := evF s07 un_1 60 32 [.sl (C := RC) .u8 c b]
theorem readSP_eq (c : Bool) (b : List UInt8) : readSP_e c b = (let Z0 : Int × Int := getP b (0 : Int) (3 : Int); let Z1 : D RC := D.int .i64 0; let Z2 : D RC := D.sl RTy.line true []; let Z3 : D RC := .anil; let Z4 : DO_ := some (D.tup (D.acons (D.acons Z1 (D.acons (D.sl RTy.item true []) (.acons (D.acons Z2 (D.acons Z2 (D.acons Z2 Z3))) (.acons (D.arr RTy.int (3 : Nat) (List.replicate (3 : Nat) (0 : Int))) Z3)))) (.acons (D.int .i64 50) Z3))); let Z5 : List UInt8 := List.drop (3 : Nat) b; let Z6 : Int × Int := getP Z5 (0 : Int) (1 : Int); let Z7 : Int := Prod.fst Z6; let Z8 : Rd × List Item := gItems rdP false (Int.toNat Z7 - 0) (Rd.mk c (List.drop (1 : Nat) Z5) false); let Z9 : List Item := [] ++ Prod.snd Z8; let Z10 : Nat := List.length Z9; let Z11 : QS Rd := runQ rdP false markP (0 : Nat) (QS.mk (Rd.mk Z8.1.c Z8.1.b Z8.1.bad) [] [] [] (0 : Int) (0 : Int) (0 : Int)); let Z12 : Nat := List.length Z11.r.b; let Z13 : Nat := List.length Z11.l0; let Z14 : Nat := List.length Z11.l1; let Z15 : Nat := List.length Z11.l2; let Z16 : DO_ := none; bif decide (List.length b ≤ (1000000000000 : Nat)) then bif Prod.snd Z0 != (0 : Int) then Z4 else bif decide ((0 : Int) ≤ (3 : Int) ∧ (3 : Int) ≤ (↑b.length : Int)) then bif decide (List.length Z5 ≤ (1000000000000 : Nat)) then bif Prod.snd Z6 != (0 : Int) then Z4 else bif decide ((0 : Int) ≤ (1 : Int) ∧ (1 : Int) ≤ (↑Z5.length : Int)) then bif decide ((0 : Int) ≤ Z7 ∧ Z7 ≤ (255 : Int) ∧ List.length (List.drop (1 : Nat) Z5) ≤ (1000000 : Nat) ∧ (0 : Nat) = (0 : Nat)) then bif decide (Z10 = Z10) && true && true && true && decide (List.length Z8.1.b ≤ (1000000 : Nat) ∧ (0 : Nat) = (0 : Nat) ∧ (0 : Nat) = (0 : Nat) ∧ (0 : Nat) = (0 : Nat)) then bif !Rd.bad Z11.r then bif lenOK Z12 then bif !(↑Z12 : Int) == (0 : Int) then Z4 else bif Nat.beq Z10 Z10 then bif Nat.beq Z13 Z13 then bif Nat.beq Z14 Z14 then bif Nat.beq Z15 Z15 then bif decide (Z10 ≤ (9223372036854775807 : Nat) ∧ Z13 ≤ (9223372036854775807 : Nat) ∧ Z14 ≤ (9223372036854775807 : Nat) ∧ Z15 ≤ (9223372036854775807 : Nat)) then bif !standsOK (St.mk Z0.1 Z9 Z11.l0 Z11.l1 Z11.l2 Z11.c0 Z11.c1 Z11.c2) then Z4 else some (D.tup (D.acons (D.acons (D.int .i64 Z0.1) (.acons (D.sl RTy.item false Z9) (.acons (D.acons (D.sl RTy.line false Z11.l0) (.acons (D.sl RTy.line false Z11.l1) (.acons (D.sl RTy.line false Z11.l2) Z3))) (.acons (D.arr RTy.int (3 : Nat) [QS.c0 Z11, QS.c1 Z11, QS.c2 Z11]) Z3)))) (.acons Z1 Z3))) else Z16 else Z16 else Z16 else Z16 else Z16 else Z16 else Z4 else Z16 else Z16 else Z16 else Z16 else Z16 else Z16) := by kernel_rfl
theorem readSP_ok (c : Bool) (b : List UInt8) (h : (decide (b.length ≤ 1000000)) = true) : readSP_e c b = some (.tup (.acons (.acons (.int .i64 (stG (readS b)).place) (.acons (.sl (C := RC) .item (readS b).isNone (stG (readS b)).items) (.acons (.acons (.sl (C := RC) .line (readS b).isNone (stG (readS b)).l0) (.acons (.sl (C := RC) .line (readS b).isNone (stG (readS b)).l1) (.acons (.sl (C := RC) .line (readS b).isNone (stG (readS b)).l2) .anil))) (.acons (.arr (C := RC) .int 3 [(stG (readS b)).c0, (stG (readS b)).c1, (stG (readS b)).c2]) .anil)))) (.acons (.int .i64 (bif (readS b).isNone then 50 else 0)) .anil))) := by
  (rw [readSP_eq]; conv => zeta)
  have hl := of_decide_eq_true h
  have e0 : decide (b.length ≤ 1000000000000) = true := decide_eq_true (by omega)
  have t1 : Int.toNat 1 = 1 := rfl
  have t3 : Int.toNat 3 = 3 := rfl
  have eb : ∀ n : Nat, n.beq n = true := fun n => by simp
  have no : readS b = none → some (D.tup (D.acons (D.acons (D.int IntKind.i64 0) (D.acons (D.sl (C := RC) RTy.item true []) (D.acons (D.acons (D.sl (C := RC) RTy.line true []) (D.acons (D.sl (C := RC) RTy.line true []) (D.acons (D.sl (C := RC) RTy.line true []) D.anil))) (D.acons (D.arr (C := RC) RTy.int 3 (List.replicate 3 0)) D.anil)))) (D.acons (D.int IntKind.i64 50) D.anil))) = some (.tup (.acons (.acons (.int .i64 (stG (readS b)).place) (.acons (.sl (C := RC) .item (readS b).isNone (stG (readS b)).items) (.acons (.acons (.sl (C := RC) .line (readS b).isNone (stG (readS b)).l0) (.acons (.sl (C := RC) .line (readS b).isNone (stG (readS b)).l1) (.acons (.sl (C := RC) .line (readS b).isNone (stG (readS b)).l2) .anil))) (.acons (.arr (C := RC) .int 3 [(stG (readS b)).c0, (stG (readS b)).c1, (stG (readS b)).c2]) .anil)))) (.acons (.int .i64 (bif (readS b).isNone then 50 else 0)) .anil))) := fun e => by rw [e]; rfl
  simp only [e0, cond_true, getP_snd1, getP_snd3, t1, t3]
  by_cases q0 : b.length < 3
  · simp only [q0, decide_true, cond_true]
    exact no (by have : ¬ 3 ≤ b.length := by omega
                 simp [readS, sget, this])
  have r0 : rget 3 ⟨c, b, false⟩ = _ := rget_ok (show 3 ≤ b.length by omega)
  have d0 : decide ((0 : Int) ≤ 3 ∧ (3 : Int) ≤ b.length) = true := by simp only [decide_eq_true_eq]; omega
  have e1 : decide ((b.drop 3).length ≤ 1000000000000) = true := decide_eq_true (by simp; omega)
  simp only [q0, decide_false, cond_false, d0, cond_true, e1, getP_fst3 q0]
  by_cases q1 : (b.drop 3).length < 1
  · simp only [q1, decide_true, cond_true]
    exact no (by have h3 : 3 ≤ b.length := by omega
                 have : ¬ 1 ≤ (b.drop 3).length := by omega
                 simp only [readS, sget, h3, if_true, Option.bind_some, this, if_false, Option.bind_none])
  have r1 : rget 1 ⟨c, b.drop 3, false⟩ = _ := rget_ok (show 1 ≤ (b.drop 3).length by omega)
  have d1 : decide ((0 : Int) ≤ 1 ∧ (1 : Int) ≤ (b.drop 3).length) = true := by simp only [decide_eq_true_eq]; omega
  simp only [q1, decide_false, cond_false, d1, cond_true, getP_fst1 q1]
  have rK := gState_read rdP_ok false markP (fun _ => rfl) ⟨c, b, false⟩ rfl
  rw [gState_of r0 r1] at rK
  change readS b = _ at rK
  have n1 := leVal_le (b.drop 3) 1
  simp only [Nat.reducePow] at n1
  have bl : ((b.drop 3).drop 1).length ≤ 1000000 := by simp; omega
  generalize leVal ((b.drop 3).take 1) = n at n1 rK ⊢
  have ck : decide ((0 : Int) ≤ n ∧ (n : Int) ≤ 255 ∧ ((b.drop 3).drop 1).length ≤ 1000000 ∧ True) = true := decide_eq_true ⟨by omega, by omega, bl, trivial⟩
  have tn : (n : Int).toNat - 0 = n := by omega
  have tn' : (n : Int).toNat = n := by omega
  simp only [ck, tn, tn', cond_true, List.nil_append] at rK ⊢
  have gb := gItems_blen n ⟨c, (b.drop 3).drop 1, false⟩
  have gl := gItems_len rdP false n ⟨c, (b.drop 3).drop 1, false⟩
  generalize gItems rdP false n ⟨c, (b.drop 3).drop 1, false⟩ = IT at gb gl rK ⊢
  obtain ⟨⟨c', b', bad'⟩, its⟩ := IT
  simp only at gb gl rK ⊢
  have qb := runQ0_bounds ⟨c', b', bad'⟩
  generalize runQ rdP false markP 0 ⟨⟨c', b', bad'⟩, [], [], [], 0, 0, 0⟩ = Q at qb rK ⊢
  obtain ⟨⟨qc, qq, qbad⟩, a0, a1, a2, x0, x1, x2⟩ := Q
  simp only [rdP] at qb rK ⊢
  obtain ⟨b0, b1, b2, b3⟩ := qb
  have k1 : lenOK qq.length = true := lenOK_of (by omega)
  have m1 : decide (b'.length ≤ 1000000 ∧ True ∧ True ∧ True) = true := decide_eq_true ⟨by omega, trivial, trivial, trivial⟩
  have m2 : decide (its.length ≤ 9223372036854775807 ∧ a0.length ≤ 9223372036854775807 ∧ a1.length ≤ 9223372036854775807 ∧ a2.length ≤ 9223372036854775807) = true := by simp only [decide_eq_true_eq]; omega
  simp only [k1, m1, m2, eb, decide_true, Bool.and_self, Bool.and_true, Bool.true_and, cond_true]
  cases qbad
  · simp only [Bool.not_false, cond_true]
    by_cases hz : qq = []
    · subst hz
      cases hs : standsOK ⟨(leVal (b.take 3) : Int), its, a0, a1, a2, x0, x1, x2⟩
      · rw [hs] at rK
        exact no (by rw [rK]; simp)
      · rw [hs] at rK
        have : readS b = some ⟨(leVal (b.take 3) : Int), its, a0, a1, a2, x0, x1, x2⟩ := by rw [rK]; simp
        rw [this]
        rfl
    · have hz' : ((qq.length : Int) == 0) = false := by
        simp only [beq_eq_false_iff_ne]; cases qq with
        | nil => exact (hz rfl).elim
        | cons _ _ => simp; omega
      simp only [hz', Bool.not_false, cond_true]
      exact no (by rw [rK]; simp [hz])
  · simp only [Bool.not_true, cond_false]
    exact no (by rw [rK]; simp)
noncomputable def uo_1 := un_1.addSpec 32 readSP_sp
theorem uo_1_laws : FLaws Try.prog s07 uo_1 := un_1_laws.addEv s07_laws fun args d h => by
  unfold readSP_sp at h
  split at h
  · unfold readSP_s at h
    have h1 := congrArg Prod.fst (Option.some.inj h)
    obtain rfl : _ = d := congrArg Prod.snd (Option.some.inj h)
    exact ⟨by simp [D.refs], 60, readSP_ok _ _ h1⟩
  · cases h
theorem nget_ok {b : List UInt8} {w p : Nat} {s : Bool} (h : p + w ≤ b.length) : nget b w ⟨p, s⟩ = ((leVal ((b.drop p).take w) : Int), ⟨p + w, s⟩) := by simp [nget, h]
theorem nget_no {b : List UInt8} {w p : Nat} {s : Bool} (h : b.length < p + w) : nget b w ⟨p, s⟩ = (0, ⟨p, true⟩) := by simp [nget, Nat.not_le.2 h]
theorem getI_snd1 {b : List UInt8} {p : Int} (h : 0 ≤ p) : ((getP b p 1).2 != 0) = decide ((b.length : Int) < p + 1) := by
  by_cases h1 : (b.length : Int) < p + 1
  · have : ¬ (p + 1 ≤ (b.length : Int)) := by omega
    simp only [getP, h1]; simp [this]
  · have : (p + 1 ≤ (b.length : Int)) := by omega
    simp only [getP, h1]; simp [this, h]
theorem getI_snd3 {b : List UInt8} {p : Int} (h : 0 ≤ p) : ((getP b p 3).2 != 0) = decide ((b.length : Int) < p + 3) := by
  by_cases h1 : (b.length : Int) < p + 3
  · have : ¬ (p + 3 ≤ (b.length : Int)) := by omega
    simp only [getP, h1]; simp [this]
  · have : (p + 3 ≤ (b.length : Int)) := by omega
    simp only [getP, h1]; simp [this, h]
theorem getI_fst1 {b : List UInt8} {p : Int} (h : 0 ≤ p) (h1 : ¬ (b.length : Int) < p + 1) : (getP b p 1).1 = (leVal ((b.drop p.toNat).take 1) : Int) := by
  have : (p + 1 ≤ (b.length : Int)) := by omega
  simp only [getP]; simp [this, h]
theorem getI_fst3 {b : List UInt8} {p : Int} (h : 0 ≤ p) (h1 : ¬ (b.length : Int) < p + 3) : (getP b p 3).1 = (leVal ((b.drop p.toNat).take 3) : Int) := by
  have : (p + 3 ≤ (b.length : Int)) := by omega
  simp only [getP]; simp [this, h]
theorem gItemsN_succ (b : List UInt8) (k : Nat) (p : Nat) : gItems (rdN b) true (k + 1) ⟨p, false⟩ = ((gItems (rdN b) true k (nget b 1 (nget b 3 (nget b 1 ⟨p, false⟩).2).2).2).1, ⟨(nget b 1 ⟨p, false⟩).1, (nget b 3 (nget b 1 ⟨p, false⟩).2).1, (nget b 1 (nget b 3 (nget b 1 ⟨p, false⟩).2).2).1⟩ :: (gItems (rdN b) true k (nget b 1 (nget b 3 (nget b 1 ⟨p, false⟩).2).2).2).2) := rfl
theorem gItemsN_stop (b : List UInt8) (k : Nat) (p : Nat) : gItems (rdN b) true k ⟨p, true⟩ = (⟨p, true⟩, []) := by cases k <;> rfl
theorem gLinesN_succ (b : List UInt8) (k : Nat) (o : Int) (p : Nat) : gLines (rdN b) true (k + 1) o ⟨p, false⟩ = ((gLines (rdN b) true k (o + 1) (nget b 1 (nget b 1 (nget b 3 ⟨p, false⟩).2).2).2).1, ⟨o, (nget b 3 ⟨p, false⟩).1, (nget b 1 (nget b 3 ⟨p, false⟩).2).1 % 16, (nget b 1 (nget b 3 ⟨p, false⟩).2).1 / 16, (nget b 1 (nget b 1 (nget b 3 ⟨p, false⟩).2).2).1⟩ :: (gLines (rdN b) true k (o + 1) (nget b 1 (nget b 1 (nget b 3 ⟨p, false⟩).2).2).2).2) := rfl
theorem gLinesN_stop (b : List UInt8) (k : Nat) (o : Int) (p : Nat) : gLines (rdN b) true k o ⟨p, true⟩ = (⟨p, true⟩, []) := by cases k <;> rfl
open Go.Proofs
structure riItems_St where
  c : Bool
  b : List UInt8
  pos : Int
  short : Bool
  pl : Int
  its : List Item
  c0 : Int
  c1 : Int
  c2 : Int
  n : Int
  i : Nat
def riItems_c (c : Bool) (b : List UInt8) (pos : Int) (short : Bool) (pl : Int) (its : List Item) (c0 : Int) (c1 : Int) (c2 : Int) (n : Int) (i : Nat) : Env RC := [(4, .ptr 0 []), (5, .ptr 1 []), (6, .int .i64 n), (7, .int .i64 (i : Int))]
def riItems_o (c : Bool) (b : List UInt8) (pos : Int) (short : Bool) (pl : Int) (its : List Item) (c0 : Int) (c1 : Int) (c2 : Int) (n : Int) (i : Nat) : List (Obj RC) := [.var 101 (.acons (.sl (C := RC) .u8 c b) (.acons (.int .i64 pos) (.acons (.bool short) .anil))), .var 30 (.acons (.int .i64 pl) (.acons (.vs 2 (its.length)) (.acons (.acons (.sl (C := RC) .line true []) (.acons (.sl (C := RC) .line true []) (.acons (.sl (C := RC) .line true []) .anil))) (.acons (.arr (C := RC) .int 3 [c0, c1, c2]) .anil)))), .vec (C := RC) .item true its]
noncomputable def riItems_r (c : Bool) (b : List UInt8) (pos : Int) (short : Bool) (pl : Int) (its : List Item) (c0 : Int) (c1 : Int) (c2 : Int) (n : Int) (i : Nat) := rndO s07 uo_1 44 6 60 3 [4, 5, 6, 7] [] [.slot 4 0, .slot 5 0, .path 1 [1]] (riItems_c c b pos short pl its c0 c1 c2 n i) (riItems_o c b pos short pl its c0 c1 c2 n i)
theorem riItems_eq (c : Bool) (b : List UInt8) (pos : Int) (short : Bool) (pl : Int) (its : List Item) (c0 : Int) (c1 : Int) (c2 : Int) (n : Int) (i : Nat) : riItems_r c b pos short pl its c0 c1 c2 n i = (let Z0 : Bool := decide (List.length b ≤ (1000000000000 : Nat)); let Z1 : Bool := Prod.snd (getP b pos (1 : Int)) != (0 : Int); let Z2 : Nat := List.length its; let Z3 : Bool := Nat.beq Z2 Z2; let Z4 : X × Env RC := (X.normal, [(4, D.ptr 0 []), (5, D.ptr 1 []), (6, D.int .i64 n), (7, D.int .i64 (IntKind.wrap .i64 ((↑i : Int) + (1 : Int))))]); let Z5 : D RC := D.sl RTy.u8 c b; let Z6 : D RC := D.int .i64 pos; let Z7 : D RC := D.acons (D.bool true) .anil; let Z8 : D RC := D.int .i64 pl; let Z9 : D RC := D.sl RTy.line true []; let Z10 : D RC := D.acons (D.acons Z9 (D.acons Z9 (D.acons Z9 .anil))) (.acons (D.arr RTy.int (3 : Nat) [c0, c1, c2]) .anil); let Z11 : Int := Prod.fst (getP b pos (1 : Int)); let Z12 : List Item := [Item.mk (0 : Int) (0 : Int) Z11]; let Z13 : Int := IntKind.wrap .i64 (pos + 1); let Z14 : Option (Obj RC) := some (Obj.var 101 (.acons Z5 (D.acons (D.int .i64 Z13) Z7))); let Z15 : Int := IntKind.wrap .i64 (pos + 3); let Z16 : Int := Prod.fst (getP b pos (3 : Int)); let Z17 : List Item := [Item.mk (0 : Int) Z16 (0 : Int)]; let Z18 : List Item := [Item.mk (0 : Int) Z16 (getP b Z15 (1 : Int)).1]; let Z19 : List Item := [Item.mk Z11 (0 : Int) (0 : Int)]; let Z20 : List Item := [Item.mk Z11 (0 : Int) (getP b Z13 (1 : Int)).1]; let Z21 : Int := IntKind.wrap .i64 (Z13 + (3 : Int)); let Z22 : Int := Prod.fst (getP b Z13 (3 : Int)); let Z23 : Nat := Z2 + List.length [Item.mk Z11 Z22 (0 : Int)]; let Z24 : List Item := [Item.mk Z11 Z22 (getP b Z21 (1 : Int)).1]; let Z25 : D RC := D.acons (D.bool short) .anil; let Z26 : RO_ := some ((X.exit (0 : Nat), []), [some (Obj.var 101 (.acons Z5 (D.acons Z6 Z25))), some (Obj.var 30 (.acons Z8 (D.acons (D.vs 2 Z2) Z10))), some (Obj.vec RTy.item true its)]); bif decide ((↑i : Int) < n) then bif !short then bif Z0 then bif Z1 then bif Z0 then bif Prod.snd (getP b pos (3 : Int)) != (0 : Int) then bif Z0 then bif Z1 then bif Z3 && sizeOK (Z2 + (1 : Nat)) (24 : Nat) then some (Z4, [some (Obj.var 101 (.acons Z5 (D.acons Z6 Z7))), some (Obj.var 30 (.acons Z8 (D.acons (D.vs 2 (Z2 + (1 : Nat))) Z10))), some (Obj.vec RTy.item true (its ++ [Item.mk (0 : Int) (0 : Int) (0 : Int)]))]) else none else bif Z3 && sizeOK (Z2 + List.length Z12) (24 : Nat) then some (Z4, [Z14, some (Obj.var 30 (.acons Z8 (D.acons (D.vs 2 (Z2 + List.length Z12)) Z10))), some (Obj.vec RTy.item true (its ++ Z12))]) else none else none else bif Z0 then bif Prod.snd (getP b Z15 (1 : Int)) != (0 : Int) then bif Z3 && sizeOK (Z2 + List.length Z17) (24 : Nat) then some (Z4, [some (Obj.var 101 (.acons Z5 (D.acons (D.int .i64 Z15) Z7))), some (Obj.var 30 (.acons Z8 (D.acons (D.vs 2 (Z2 + List.length Z17)) Z10))), some (Obj.vec RTy.item true (its ++ Z17))]) else none else bif Z3 && sizeOK (Z2 + List.length Z18) (24 : Nat) then some (Z4, [some (Obj.var 101 (.acons Z5 (D.acons (D.int .i64 (IntKind.wrap .i64 (Z15 + (1 : Int)))) Z7))), some (Obj.var 30 (.acons Z8 (D.acons (D.vs 2 (Z2 + List.length Z18)) Z10))), some (Obj.vec RTy.item true (its ++ Z18))]) else none else none else none else bif Z0 then bif Prod.snd (getP b Z13 (3 : Int)) != (0 : Int) then bif Z0 then bif Prod.snd (getP b Z13 (1 : Int)) != (0 : Int) then bif Z3 && sizeOK (Z2 + List.length Z19) (24 : Nat) then some (Z4, [Z14, some (Obj.var 30 (.acons Z8 (D.acons (D.vs 2 (Z2 + List.length Z19)) Z10))), some (Obj.vec RTy.item true (its ++ Z19))]) else none else bif Z3 && sizeOK (Z2 + List.length Z20) (24 : Nat) then some (Z4, [some (Obj.var 101 (.acons Z5 (D.acons (D.int .i64 (IntKind.wrap .i64 (Z13 + (1 : Int)))) Z7))), some (Obj.var 30 (.acons Z8 (D.acons (D.vs 2 (Z2 + List.length Z20)) Z10))), some (Obj.vec RTy.item true (its ++ Z20))]) else none else none else bif Z0 then bif Prod.snd (getP b Z21 (1 : Int)) != (0 : Int) then bif Z3 && sizeOK Z23 (24 : Nat) then some (Z4, [some (Obj.var 101 (.acons Z5 (D.acons (D.int .i64 Z21) Z7))), some (Obj.var 30 (.acons Z8 (D.acons (D.vs 2 Z23) Z10))), some (Obj.vec RTy.item true (its ++ [Item.mk Z11 Z22 (0 : Int)]))]) else none else bif Z3 && sizeOK (Z2 + List.length Z24) (24 : Nat) then some (Z4, [some (Obj.var 101 (.acons Z5 (D.acons (D.int .i64 (IntKind.wrap .i64 (Z21 + (1 : Int)))) Z25))), some (Obj.var 30 (.acons Z8 (D.acons (D.vs 2 (Z2 + List.length Z24)) Z10))), some (Obj.vec RTy.item true (its ++ Z24))]) else none else none else none else none else Z26 else Z26) := by kernel_rfl
def riItems_fin (c : Bool) (b : List UInt8) (pos : Int) (short : Bool) (pl : Int) (its : List Item) (c0 : Int) (c1 : Int) (c2 : Int) (n : Int) (i : Nat) : RT RC := .leaf (.exit 0) [] [.var 101 (.acons (.sl (C := RC) .u8 c b) (.acons (.int .i64 (gItems (rdN b) true (n.toNat - i) ⟨pos.toNat, short⟩).1.pos) (.acons (.bool (gItems (rdN b) true (n.toNat - i) ⟨pos.toNat, short⟩).1.short) .anil))), .var 30 (.acons (.int .i64 pl) (.acons (.vs 2 (its ++ (gItems (rdN b) true (n.toNat - i) ⟨pos.toNat, short⟩).2).length) (.acons (.acons (.sl (C := RC) .line true []) (.acons (.sl (C := RC) .line true []) (.acons (.sl (C := RC) .line true []) .anil))) (.acons (.arr (C := RC) .int 3 [c0, c1, c2]) .anil)))), .vec (C := RC) .item true (its ++ (gItems (rdN b) true (n.toNat - i) ⟨pos.toNat, short⟩).2)]
def riItems_Inv (c : Bool) (b : List UInt8) (pos : Int) (short : Bool) (pl : Int) (its : List Item) (c0 : Int) (c1 : Int) (c2 : Int) (n : Int) (i : Nat) : Prop := (i : Int) ≤ n ∧ n ≤ 255 ∧ b.length ≤ 1000000 ∧ (0 ≤ pos ∧ pos ≤ b.length) ∧ its.length ≤ i
def riItems_S : LoopR RC riItems_St where
  k := 3
  canon q := riItems_c q.c q.b q.pos q.short q.pl q.its q.c0 q.c1 q.c2 q.n q.i
  objs q := riItems_o q.c q.b q.pos q.short q.pl q.its q.c0 q.c1 q.c2 q.n q.i
  fin q := riItems_fin q.c q.b q.pos q.short q.pl q.its q.c0 q.c1 q.c2 q.n q.i
  Inv q := riItems_Inv q.c q.b q.pos q.short q.pl q.its q.c0 q.c1 q.c2 q.n q.i
  μ q := q.n.toNat - q.i
theorem riItems_round (c : Bool) (b : List UInt8) (pos : Int) (short : Bool) (pl : Int) (its : List Item) (c0 : Int) (c1 : Int) (c2 : Int) (n : Int) (i : Nat) (hI : riItems_Inv c b pos short pl its c0 c1 c2 n i) : Leaf (riItems_r c b pos short pl its c0 c1 c2 n i) (LedR riItems_S ⟨c, b, pos, short, pl, its, c0, c1, c2, n, i⟩) := by
  (rw [riItems_eq]; conv => zeta)
  unfold riItems_Inv at hI
  obtain ⟨h1, h2, h3, h4, h5⟩ := hI
  have eb : ∀ n : Nat, n.beq n = true := fun n => by simp
  have pp : ((pos.toNat : Nat) : Int) = pos := by omega
  by_cases hlt : (i : Int) < n
  · have w_succ : IntKind.i64.wrap ((i : Int) + 1) = ((i + 1 : Nat) : Int) := by rw [wrap_id (by omega) (by omega)]; simp
    have hn : n.toNat - i = (n.toNat - (i + 1)) + 1 := by omega
    have s1 : sizeOK (its.length + 1) 24 = true := sizeT (by omega)
    have e0 : decide (b.length ≤ 1000000000000) = true := decide_eq_true (by omega)
    have wv : ∀ x : Int, 0 ≤ x → x ≤ 20000000 → IntKind.i64.wrap x = x := fun x _ _ => wrap_id (by omega) (by omega)
    have tn1 : (pos + 1).toNat = pos.toNat + 1 := by omega
    have tn3 : (pos + 3).toNat = pos.toNat + 3 := by omega
    have tn4 : (pos + 4).toNat = pos.toNat + 4 := by omega
    have tn2 : (pos + 2).toNat = pos.toNat + 2 := by omega
    have tn5 : (pos + 5).toNat = pos.toNat + 5 := by omega
    have a13 : pos + 1 + 3 = pos + 4 := by omega
    have a31 : pos + 3 + 1 = pos + 4 := by omega
    have a41 : pos + 4 + 1 = pos + 5 := by omega
    have a11 : pos + 1 + 1 = pos + 2 := by omega
    cases short
    · simp only [hlt, decide_true, cond_true, cond_false, Bool.not_true, Bool.not_false, e0, w_succ, List.length_cons, List.length_nil, Nat.zero_add, s1, eb, Bool.and_self]
      simp (disch := omega) only [wv, a13, a31, a41, a11, getI_snd1, getI_snd3]
      by_cases q0_0f : (b.length : Int) < pos + 1
      · have rq0_0f : nget b 1 ⟨pos.toNat, false⟩ = _ := nget_no (by omega)
        simp only [q0_0f, decide_true, cond_true]
        have q1_0t : (b.length : Int) < pos + 3 := by omega
        have rq1_0t : nget b 3 ⟨pos.toNat, true⟩ = _ := nget_no (by omega)
        simp only [q1_0t, decide_true, cond_true]
        have q2_0t : (b.length : Int) < pos + 1 := by omega
        have rq2_0t : nget b 1 ⟨pos.toNat, true⟩ = _ := nget_no (by omega)
        refine leafR_go ⟨c, b, pos, true, pl, its ++ [⟨0, 0, 0⟩], c0, c1, c2, n, i + 1⟩ (by refine ⟨hlt, h2, h3, ?_, ?_⟩ <;> simp <;> omega) (by simp only [riItems_S]; omega) ?_ (by simp [riItems_S, riItems_c]) (by simp [riItems_S, riItems_o])
        simp only [riItems_S, riItems_fin, hn, gItemsN_succ, rq0_0f, rq1_0t, rq2_0t, List.append_assoc, List.cons_append, List.nil_append]
      · have rq0_0f : nget b 1 ⟨pos.toNat, false⟩ = _ := nget_ok (by omega)
        have gq0_0f := getI_fst1 (show 0 ≤ pos by omega) (show ¬ (b.length : Int) < pos + 1 by omega)
        simp only [q0_0f, decide_false, cond_false, gq0_0f]
        by_cases q1_1f : (b.length : Int) < pos + 4
        · have rq1_1f : nget b 3 ⟨pos.toNat + 1, false⟩ = _ := nget_no (by omega)
          simp only [q1_1f, decide_true, cond_true]
          by_cases q2_1t : (b.length : Int) < pos + 2
          · have rq2_1t : nget b 1 ⟨pos.toNat + 1, true⟩ = _ := nget_no (by omega)
            simp only [q2_1t, decide_true, cond_true]
            refine leafR_go ⟨c, b, pos + 1, true, pl, its ++ [⟨(leVal ((b.drop (pos.toNat)).take 1) : Int), 0, 0⟩], c0, c1, c2, n, i + 1⟩ (by refine ⟨hlt, h2, h3, ?_, ?_⟩ <;> simp <;> omega) (by simp only [riItems_S]; omega) ?_ (by simp [riItems_S, riItems_c]) (by simp [riItems_S, riItems_o])
            simp only [riItems_S, riItems_fin, hn, gItemsN_succ, rq0_0f, rq1_1f, rq2_1t, tn1, List.append_assoc, List.cons_append, List.nil_append]
          · have rq2_1t : nget b 1 ⟨pos.toNat + 1, true⟩ = _ := nget_ok (by omega)
            rw [show pos.toNat + 1 + 1 = pos.toNat + 2 by omega] at rq2_1t
            have gq2_1t := getI_fst1 (show 0 ≤ pos + 1 by omega) (show ¬ (b.length : Int) < pos + 1 + 1 by omega)
            rw [tn1] at gq2_1t
            simp only [q2_1t, decide_false, cond_false, gq2_1t]
            refine leafR_go ⟨c, b, pos + 2, true, pl, its ++ [⟨(leVal ((b.drop (pos.toNat)).take 1) : Int), 0, (leVal ((b.drop (pos.toNat + 1)).take 1) : Int)⟩], c0, c1, c2, n, i + 1⟩ (by refine ⟨hlt, h2, h3, ?_, ?_⟩ <;> simp <;> omega) (by simp only [riItems_S]; omega) ?_ (by simp [riItems_S, riItems_c]) (by simp [riItems_S, riItems_o])
            simp only [riItems_S, riItems_fin, hn, gItemsN_succ, rq0_0f, rq1_1f, rq2_1t, tn2, List.append_assoc, List.cons_append, List.nil_append]
        · have rq1_1f : nget b 3 ⟨pos.toNat + 1, false⟩ = _ := nget_ok (by omega)
          rw [show pos.toNat + 1 + 3 = pos.toNat + 4 by omega] at rq1_1f
          have gq1_1f := getI_fst3 (show 0 ≤ pos + 1 by omega) (show ¬ (b.length : Int) < pos + 1 + 3 by omega)
          rw [tn1] at gq1_1f
          simp only [q1_1f, decide_false, cond_false, gq1_1f]
          by_cases q2_4f : (b.length : Int) < pos + 5
          · have rq2_4f : nget b 1 ⟨pos.toNat + 4, false⟩ = _ := nget_no (by omega)
            simp only [q2_4f, decide_true, cond_true]
            refine leafR_go ⟨c, b, pos + 4, true, pl, its ++ [⟨(leVal ((b.drop (pos.toNat)).take 1) : Int), (leVal ((b.drop (pos.toNat + 1)).take 3) : Int), 0⟩], c0, c1, c2, n, i + 1⟩ (by refine ⟨hlt, h2, h3, ?_, ?_⟩ <;> simp <;> omega) (by simp only [riItems_S]; omega) ?_ (by simp [riItems_S, riItems_c]) (by simp [riItems_S, riItems_o])
            simp only [riItems_S, riItems_fin, hn, gItemsN_succ, rq0_0f, rq1_1f, rq2_4f, tn4, List.append_assoc, List.cons_append, List.nil_append]
          · have rq2_4f : nget b 1 ⟨pos.toNat + 4, false⟩ = _ := nget_ok (by omega)
            rw [show pos.toNat + 4 + 1 = pos.toNat + 5 by omega] at rq2_4f
            have gq2_4f := getI_fst1 (show 0 ≤ pos + 4 by omega) (show ¬ (b.length : Int) < pos + 4 + 1 by omega)
            rw [tn4] at gq2_4f
            simp only [q2_4f, decide_false, cond_false, gq2_4f]
            refine leafR_go ⟨c, b, pos + 5, false, pl, its ++ [⟨(leVal ((b.drop (pos.toNat)).take 1) : Int), (leVal ((b.drop (pos.toNat + 1)).take 3) : Int), (leVal ((b.drop (pos.toNat + 4)).take 1) : Int)⟩], c0, c1, c2, n, i + 1⟩ (by refine ⟨hlt, h2, h3, ?_, ?_⟩ <;> simp <;> omega) (by simp only [riItems_S]; omega) ?_ (by simp [riItems_S, riItems_c]) (by simp [riItems_S, riItems_o])
            simp only [riItems_S, riItems_fin, hn, gItemsN_succ, rq0_0f, rq1_1f, rq2_4f, tn5, List.append_assoc, List.cons_append, List.nil_append]
    · simp only [hlt, decide_true, cond_true, cond_false, Bool.not_true]
      exact leafR_exit (riItems_o c b pos true pl its c0 c1 c2 n i) (by simp only [riItems_S, riItems_fin, riItems_o, gItemsN_stop, RT.val, List.append_nil, pp]) rfl
  · have hi : n.toNat - i = 0 := by omega
    simp only [hlt, decide_false, cond_false]
    exact leafR_exit (riItems_o c b pos short pl its c0 c1 c2 n i) (by simp only [riItems_S, riItems_fin, riItems_o, hi, gItems, RT.val, List.append_nil, pp]) rfl
def riItems_d (env : Env RC) (os : List (Obj RC)) : Option (Bool × riItems_St) := match env, os with
  | [(4, .ptr 0 []), (5, .ptr 1 []), (6, .int .i64 n), (7, .int .i64 x0)], [.var 101 (.acons (.sl .u8 c b) (.acons (.int .i64 pos) (.acons (.bool short) .anil))), .var 30 (.acons (.int .i64 pl) (.acons (.vs 2 x1) (.acons (.acons (.sl .line true []) (.acons (.sl .line true []) (.acons (.sl .line true []) .anil))) (.acons (.arr .int 3 [c0, c1, c2]) .anil)))), .vec .item true its] => staticD (true) (decide (x0 = 0) && decide (x1 = its.length) && decide (0 ≤ n ∧ n ≤ 255 ∧ b.length ≤ 1000000 ∧ (0 ≤ pos ∧ pos ≤ b.length) ∧ its.length = 0), ⟨c, b, pos, short, pl, its, c0, c1, c2, n, 0⟩)
  | _, _ => none
noncomputable def up_1 := uo_1.addLoop 44 6 (sumR s07 [.slot 4 0, .slot 5 0, .path 1 [1]] [4, 5, 6, 7] riItems_S riItems_d)
theorem up_1_laws : FLaws Try.prog s07 up_1 := by
  refine uo_1_laws.addRoundsR s07_laws (by kernel_rfl) riItems_S 60 [4, 5, 6, 7] [] [.slot 4 0, .slot 5 0, .path 1 [1]] [4, 5, 6, 7] riItems_d (fun q hI => ?_) ?_
  · obtain ⟨c, b, pos, short, pl, its, c0, c1, c2, n, i⟩ := q
    refine ⟨?_, ?_, riItems_round c b pos short pl its c0 c1 c2 n i hI⟩
    · simp_all [RefsOK, riItems_S, riItems_c, riItems_o, riItems_Inv, D.refs, Obj.refs, rEnc]
    · simp_all [riItems_S, riItems_fin, riItems_o, riItems_Inv, RT.refsOK, RefsOK, D.refs, Obj.refs, rEnc]
  · intro env os b q hd_ hb
    unfold riItems_d at hd_
    split at hd_
    · obtain ⟨hs, hd_⟩ := staticD_some hd_
      cases hd_
      simp only [Bool.and_eq_true, decide_eq_true_eq] at hb
      obtain ⟨⟨rfl, rfl⟩, h⟩ := hb
      exact ⟨⟨by simpa using h.1, h.2.1, h.2.2.1, h.2.2.2.1, by simp [h.2.2.2.2]⟩, rfl, rfl⟩
    · cases hd_
theorem rget_lt1 (b : List UInt8) : leVal (b.take 1) < 256 := by simpa using leVal_le b 1
theorem tdiv16 (m : Nat) (hm : m < 1000000) : (m : Int).tmod 16 = (m : Int) % 16 ∧ IntKind.i64.wrap ((m : Int).tdiv 16) = (m : Int) / 16 := by
  refine ⟨Int.tmod_eq_emod_of_nonneg (by omega), ?_⟩
  rw [Int.tdiv_eq_ediv_of_nonneg (by omega)]
  exact wrap_id (by omega) (by omega)
open Go.Proofs
structure riLines_St where
  c : Bool
  b : List UInt8
  pos : Int
  short : Bool
  pl : Int
  its : List Item
  l0 : List Line
  l1 : List Line
  l2 : List Line
  c0 : Int
  c1 : Int
  c2 : Int
  q : Int
  first : Int
  n : Int
  i : Nat
def riLines_c (c : Bool) (b : List UInt8) (pos : Int) (short : Bool) (pl : Int) (its : List Item) (l0 : List Line) (l1 : List Line) (l2 : List Line) (c0 : Int) (c1 : Int) (c2 : Int) (q : Int) (first : Int) (n : Int) (i : Nat) : Env RC := [(4, .ptr 0 []), (5, .ptr 1 []), (11, .int .i64 q), (12, .int .i64 first), (6, .int .i64 n), (13, .int .i64 (i : Int))]
def riLines_o (c : Bool) (b : List UInt8) (pos : Int) (short : Bool) (pl : Int) (its : List Item) (l0 : List Line) (l1 : List Line) (l2 : List Line) (c0 : Int) (c1 : Int) (c2 : Int) (q : Int) (first : Int) (n : Int) (i : Nat) : List (Obj RC) := [.var 101 (.acons (.sl (C := RC) .u8 c b) (.acons (.int .i64 pos) (.acons (.bool short) .anil))), .var 30 (.acons (.int .i64 pl) (.acons (.vs 2 (its.length)) (.acons (.acons (.vs 3 (l0.length)) (.acons (.vs 4 (l1.length)) (.acons (.vs 5 (l2.length)) .anil))) (.acons (.arr (C := RC) .int 3 [c0, c1, c2]) .anil)))), .vec (C := RC) .item true its, .vec (C := RC) .line true l0, .vec (C := RC) .line true l1, .vec (C := RC) .line true l2]
noncomputable def riLines_r (c : Bool) (b : List UInt8) (pos : Int) (short : Bool) (pl : Int) (its : List Item) (l0 : List Line) (l1 : List Line) (l2 : List Line) (c0 : Int) (c1 : Int) (c2 : Int) (q : Int) (first : Int) (n : Int) (i : Nat) := rndO s07 up_1 44 19 60 6 [4, 5, 11, 12, 6, 13] [] [.slot 4 0, .slot 5 0, .path 1 [1], .path 1 [2, 0], .path 1 [2, 1], .path 1 [2, 2]] (riLines_c c b pos short pl its l0 l1 l2 c0 c1 c2 q first n i) (riLines_o c b pos short pl its l0 l1 l2 c0 c1 c2 q first n i)
theorem riLines_eq0 (c : Bool) (b : List UInt8) (pos : Int) (short : Bool) (pl : Int) (its : List Item) (l0 l1 l2 : List Line) (c0 c1 c2 : Int) (first n : Int) (i : Nat) : riLines_r c b pos short pl its l0 l1 l2 c0 c1 c2 0 first n i = (let Z0 : Int := (↑i : Int); let Z1 : Bool := decide (List.length b ≤ (1000000000000 : Nat)); let Z2 : Bool := Prod.snd (getP b pos (1 : Int)) != (0 : Int); let Z3 : Nat := List.length l0; let Z4 : Bool := Nat.beq Z3 Z3; let Z5 : Int := IntKind.wrap .i64 (first + Z0); let Z6 : List Line := [Line.mk Z5 (0 : Int) (0 : Int) (0 : Int) (0 : Int)]; let Z7 : X × Env RC := (X.normal, [(4, D.ptr 0 []), (5, D.ptr 1 []), (11, D.int .i64 0), (12, D.int .i64 first), (6, D.int .i64 n), (13, D.int .i64 (IntKind.wrap .i64 (Z0 + (1 : Int))))]); let Z8 : D RC := D.sl RTy.u8 c b; let Z9 : D RC := D.int .i64 pos; let Z10 : D RC := D.acons (D.bool true) .anil; let Z11 : D RC := D.int .i64 pl; let Z12 : D RC := D.vs 2 its.length; let Z13 : D RC := D.acons (D.vs 4 l1.length) (.acons (D.vs 5 l2.length) .anil); let Z14 : D RC := D.acons (D.arr RTy.int (3 : Nat) [c0, c1, c2]) .anil; let Z15 : Option (Obj RC) := some (Obj.vec RTy.item true its); let Z16 : List (Option (Obj RC)) := [some (Obj.vec RTy.line true l1), some (Obj.vec RTy.line true l2)]; let Z17 : Int := Prod.fst (getP b pos (1 : Int)); let Z18 : List Line := [Line.mk Z5 (0 : Int) (0 : Int) (0 : Int) Z17]; let Z19 : Int := IntKind.wrap .i64 (pos + 1); let Z20 : Option (Obj RC) := some (Obj.var 101 (.acons Z8 (D.acons (D.int .i64 Z19) Z10))); let Z21 : Int := Int.tmod Z17 (16 : Int); let Z22 : Int := IntKind.wrap .i64 (Int.tdiv Z17 (16 : Int)); let Z23 : List Line := [Line.mk Z5 (0 : Int) Z21 Z22 (0 : Int)]; let Z24 : List Line := [Line.mk Z5 (0 : Int) Z21 Z22 (getP b Z19 (1 : Int)).1]; let Z25 : Int := IntKind.wrap .i64 (pos + 3); let Z26 : Bool := Prod.snd (getP b Z25 (1 : Int)) != (0 : Int); let Z27 : Int := Prod.fst (getP b pos (3 : Int)); let Z28 : List Line := [Line.mk Z5 Z27 (0 : Int) (0 : Int) (0 : Int)]; let Z29 : Int := Prod.fst (getP b Z25 (1 : Int)); let Z30 : List Line := [Line.mk Z5 Z27 (0 : Int) (0 : Int) Z29]; let Z31 : Int := IntKind.wrap .i64 (Z25 + (1 : Int)); let Z32 : Option (Obj RC) := some (Obj.var 101 (.acons Z8 (D.acons (D.int .i64 Z31) Z10))); let Z33 : Int := Int.tmod Z29 (16 : Int); let Z34 : Int := IntKind.wrap .i64 (Int.tdiv Z29 (16 : Int)); let Z35 : List Line := [Line.mk Z5 Z27 Z33 Z34 (0 : Int)]; let Z36 : List Line := [Line.mk Z5 Z27 Z33 Z34 (getP b Z31 (1 : Int)).1]; let Z37 : D RC := D.acons (D.bool short) .anil; let Z38 : RO_ := some ((X.exit (4 : Nat), []), some (Obj.var 101 (.acons Z8 (D.acons Z9 Z37))) :: some (Obj.var 30 (.acons Z11 (D.acons Z12 (D.acons (D.acons (D.vs 3 Z3) Z13) Z14)))) :: Z15 :: some (Obj.vec RTy.line true l0) :: Z16); bif decide (Z0 < n) then bif !short then bif Z1 then bif Prod.snd (getP b pos (3 : Int)) != (0 : Int) then bif Z1 then bif Z2 then bif Z1 then bif Z2 then bif Z4 && sizeOK (Z3 + List.length Z6) (40 : Nat) then some (Z7, some (Obj.var 101 (.acons Z8 (D.acons Z9 Z10))) :: some (Obj.var 30 (.acons Z11 (D.acons Z12 (D.acons (D.acons (D.vs 3 (Z3 + List.length Z6)) Z13) Z14)))) :: Z15 :: some (Obj.vec RTy.line true (l0 ++ Z6)) :: Z16) else none else bif Z4 && sizeOK (Z3 + List.length Z18) (40 : Nat) then some (Z7, Z20 :: some (Obj.var 30 (.acons Z11 (D.acons Z12 (D.acons (D.acons (D.vs 3 (Z3 + List.length Z18)) Z13) Z14)))) :: Z15 :: some (Obj.vec RTy.line true (l0 ++ Z18)) :: Z16) else none else none else bif Z1 then bif Prod.snd (getP b Z19 (1 : Int)) != (0 : Int) then bif Z4 && sizeOK (Z3 + List.length Z23) (40 : Nat) then some (Z7, Z20 :: some (Obj.var 30 (.acons Z11 (D.acons Z12 (D.acons (D.acons (D.vs 3 (Z3 + List.length Z23)) Z13) Z14)))) :: Z15 :: some (Obj.vec RTy.line true (l0 ++ Z23)) :: Z16) else none else bif Z4 && sizeOK (Z3 + List.length Z24) (40 : Nat) then some (Z7, some (Obj.var 101 (.acons Z8 (D.acons (D.int .i64 (IntKind.wrap .i64 (Z19 + (1 : Int)))) Z10))) :: some (Obj.var 30 (.acons Z11 (D.acons Z12 (D.acons (D.acons (D.vs 3 (Z3 + List.length Z24)) Z13) Z14)))) :: Z15 :: some (Obj.vec RTy.line true (l0 ++ Z24)) :: Z16) else none else none else none else bif Z1 then bif Z26 then bif Z1 then bif Z26 then bif Z4 && sizeOK (Z3 + List.length Z28) (40 : Nat) then some (Z7, some (Obj.var 101 (.acons Z8 (D.acons (D.int .i64 Z25) Z10))) :: some (Obj.var 30 (.acons Z11 (D.acons Z12 (D.acons (D.acons (D.vs 3 (Z3 + List.length Z28)) Z13) Z14)))) :: Z15 :: some (Obj.vec RTy.line true (l0 ++ Z28)) :: Z16) else none else bif Z4 && sizeOK (Z3 + List.length Z30) (40 : Nat) then some (Z7, Z32 :: some (Obj.var 30 (.acons Z11 (D.acons Z12 (D.acons (D.acons (D.vs 3 (Z3 + List.length Z30)) Z13) Z14)))) :: Z15 :: some (Obj.vec RTy.line true (l0 ++ Z30)) :: Z16) else none else none else bif Z1 then bif Prod.snd (getP b Z31 (1 : Int)) != (0 : Int) then bif Z4 && sizeOK (Z3 + List.length Z35) (40 : Nat) then some (Z7, Z32 :: some (Obj.var 30 (.acons Z11 (D.acons Z12 (D.acons (D.acons (D.vs 3 (Z3 + List.length Z35)) Z13) Z14)))) :: Z15 :: some (Obj.vec RTy.line true (l0 ++ Z35)) :: Z16) else none else bif Z4 && sizeOK (Z3 + List.length Z36) (40 : Nat) then some (Z7, some (Obj.var 101 (.acons Z8 (D.acons (D.int .i64 (IntKind.wrap .i64 (Z31 + (1 : Int)))) Z37))) :: some (Obj.var 30 (.acons Z11 (D.acons Z12 (D.acons (D.acons (D.vs 3 (Z3 + List.length Z36)) Z13) Z14)))) :: Z15 :: some (Obj.vec RTy.line true (l0 ++ Z36)) :: Z16) else none else none else none else none else Z38 else Z38) := by kernel_rfl
theorem riLines_eq1 (c : Bool) (b : List UInt8) (pos : Int) (short : Bool) (pl : Int) (its : List Item) (l0 l1 l2 : List Line) (c0 c1 c2 : Int) (first n : Int) (i : Nat) : riLines_r c b pos short pl its l0 l1 l2 c0 c1 c2 1 first n i = (let Z0 : Int := (↑i : Int); let Z1 : Bool := decide (List.length b ≤ (1000000000000 : Nat)); let Z2 : Bool := Prod.snd (getP b pos (1 : Int)) != (0 : Int); let Z3 : Nat := List.length l1; let Z4 : Bool := Nat.beq Z3 Z3; let Z5 : Int := IntKind.wrap .i64 (first + Z0); let Z6 : List Line := [Line.mk Z5 (0 : Int) (0 : Int) (0 : Int) (0 : Int)]; let Z7 : X × Env RC := (X.normal, [(4, D.ptr 0 []), (5, D.ptr 1 []), (11, D.int .i64 1), (12, D.int .i64 first), (6, D.int .i64 n), (13, D.int .i64 (IntKind.wrap .i64 (Z0 + (1 : Int))))]); let Z8 : D RC := D.sl RTy.u8 c b; let Z9 : D RC := D.int .i64 pos; let Z10 : D RC := D.acons (D.bool true) .anil; let Z11 : D RC := D.int .i64 pl; let Z12 : D RC := D.vs 2 its.length; let Z13 : D RC := D.vs 3 l0.length; let Z14 : D RC := D.acons (D.vs 5 l2.length) .anil; let Z15 : D RC := D.acons (D.arr RTy.int (3 : Nat) [c0, c1, c2]) .anil; let Z16 : Option (Obj RC) := some (Obj.vec RTy.item true its); let Z17 : Option (Obj RC) := some (Obj.vec RTy.line true l0); let Z18 : List (Option (Obj RC)) := [some (Obj.vec RTy.line true l2)]; let Z19 : Int := Prod.fst (getP b pos (1 : Int)); let Z20 : List Line := [Line.mk Z5 (0 : Int) (0 : Int) (0 : Int) Z19]; let Z21 : Int := IntKind.wrap .i64 (pos + 1); let Z22 : Option (Obj RC) := some (Obj.var 101 (.acons Z8 (D.acons (D.int .i64 Z21) Z10))); let Z23 : Int := Int.tmod Z19 (16 : Int); let Z24 : Int := IntKind.wrap .i64 (Int.tdiv Z19 (16 : Int)); let Z25 : List Line := [Line.mk Z5 (0 : Int) Z23 Z24 (0 : Int)]; let Z26 : List Line := [Line.mk Z5 (0 : Int) Z23 Z24 (getP b Z21 (1 : Int)).1]; let Z27 : Int := IntKind.wrap .i64 (pos + 3); let Z28 : Bool := Prod.snd (getP b Z27 (1 : Int)) != (0 : Int); let Z29 : Int := Prod.fst (getP b pos (3 : Int)); let Z30 : List Line := [Line.mk Z5 Z29 (0 : Int) (0 : Int) (0 : Int)]; let Z31 : Int := Prod.fst (getP b Z27 (1 : Int)); let Z32 : List Line := [Line.mk Z5 Z29 (0 : Int) (0 : Int) Z31]; let Z33 : Int := IntKind.wrap .i64 (Z27 + (1 : Int)); let Z34 : Option (Obj RC) := some (Obj.var 101 (.acons Z8 (D.acons (D.int .i64 Z33) Z10))); let Z35 : Int := Int.tmod Z31 (16 : Int); let Z36 : Int := IntKind.wrap .i64 (Int.tdiv Z31 (16 : Int)); let Z37 : List Line := [Line.mk Z5 Z29 Z35 Z36 (0 : Int)]; let Z38 : List Line := [Line.mk Z5 Z29 Z35 Z36 (getP b Z33 (1 : Int)).1]; let Z39 : D RC := D.acons (D.bool short) .anil; let Z40 : RO_ := some ((X.exit (4 : Nat), []), some (Obj.var 101 (.acons Z8 (D.acons Z9 Z39))) :: some (Obj.var 30 (.acons Z11 (D.acons Z12 (D.acons (D.acons Z13 (D.acons (D.vs 4 Z3) Z14)) Z15)))) :: Z16 :: Z17 :: some (Obj.vec RTy.line true l1) :: Z18); bif decide (Z0 < n) then bif !short then bif Z1 then bif Prod.snd (getP b pos (3 : Int)) != (0 : Int) then bif Z1 then bif Z2 then bif Z1 then bif Z2 then bif Z4 && sizeOK (Z3 + List.length Z6) (40 : Nat) then some (Z7, some (Obj.var 101 (.acons Z8 (D.acons Z9 Z10))) :: some (Obj.var 30 (.acons Z11 (D.acons Z12 (D.acons (D.acons Z13 (D.acons (D.vs 4 (Z3 + List.length Z6)) Z14)) Z15)))) :: Z16 :: Z17 :: some (Obj.vec RTy.line true (l1 ++ Z6)) :: Z18) else none else bif Z4 && sizeOK (Z3 + List.length Z20) (40 : Nat) then some (Z7, Z22 :: some (Obj.var 30 (.acons Z11 (D.acons Z12 (D.acons (D.acons Z13 (D.acons (D.vs 4 (Z3 + List.length Z20)) Z14)) Z15)))) :: Z16 :: Z17 :: some (Obj.vec RTy.line true (l1 ++ Z20)) :: Z18) else none else none else bif Z1 then bif Prod.snd (getP b Z21 (1 : Int)) != (0 : Int) then bif Z4 && sizeOK (Z3 + List.length Z25) (40 : Nat) then some (Z7, Z22 :: some (Obj.var 30 (.acons Z11 (D.acons Z12 (D.acons (D.acons Z13 (D.acons (D.vs 4 (Z3 + List.length Z25)) Z14)) Z15)))) :: Z16 :: Z17 :: some (Obj.vec RTy.line true (l1 ++ Z25)) :: Z18) else none else bif Z4 && sizeOK (Z3 + List.length Z26) (40 : Nat) then some (Z7, some (Obj.var 101 (.acons Z8 (D.acons (D.int .i64 (IntKind.wrap .i64 (Z21 + (1 : Int)))) Z10))) :: some (Obj.var 30 (.acons Z11 (D.acons Z12 (D.acons (D.acons Z13 (D.acons (D.vs 4 (Z3 + List.length Z26)) Z14)) Z15)))) :: Z16 :: Z17 :: some (Obj.vec RTy.line true (l1 ++ Z26)) :: Z18) else none else none else none else bif Z1 then bif Z28 then bif Z1 then bif Z28 then bif Z4 && sizeOK (Z3 + List.length Z30) (40 : Nat) then some (Z7, some (Obj.var 101 (.acons Z8 (D.acons (D.int .i64 Z27) Z10))) :: some (Obj.var 30 (.acons Z11 (D.acons Z12 (D.acons (D.acons Z13 (D.acons (D.vs 4 (Z3 + List.length Z30)) Z14)) Z15)))) :: Z16 :: Z17 :: some (Obj.vec RTy.line true (l1 ++ Z30)) :: Z18) else none else bif Z4 && sizeOK (Z3 + List.length Z32) (40 : Nat) then some (Z7, Z34 :: some (Obj.var 30 (.acons Z11 (D.acons Z12 (D.acons (D.acons Z13 (D.acons (D.vs 4 (Z3 + List.length Z32)) Z14)) Z15)))) :: Z16 :: Z17 :: some (Obj.vec RTy.line true (l1 ++ Z32)) :: Z18) else none else none else bif Z1 then bif Prod.snd (getP b Z33 (1 : Int)) != (0 : Int) then bif Z4 && sizeOK (Z3 + List.length Z37) (40 : Nat) then some (Z7, Z34 :: some (Obj.var 30 (.acons Z11 (D.acons Z12 (D.acons (D.acons Z13 (D.acons (D.vs 4 (Z3 + List.length Z37)) Z14)) Z15)))) :: Z16 :: Z17 :: some (Obj.vec RTy.line true (l1 ++ Z37)) :: Z18) else none else bif Z4 && sizeOK (Z3 + List.length Z38) (40 : Nat) then some (Z7, some (Obj.var 101 (.acons Z8 (D.acons (D.int .i64 (IntKind.wrap .i64 (Z33 + (1 : Int)))) Z39))) :: some (Obj.var 30 (.acons Z11 (D.acons Z12 (D.acons (D.acons Z13 (D.acons (D.vs 4 (Z3 + List.length Z38)) Z14)) Z15)))) :: Z16 :: Z17 :: some (Obj.vec RTy.line true (l1 ++ Z38)) :: Z18) else none else none else none else none else Z40 else Z40) := by kernel_rfl
theorem riLines_eq2 (c : Bool) (b : List UInt8) (pos : Int) (short : Bool) (pl : Int) (its : List Item) (l0 l1 l2 : List Line) (c0 c1 c2 : Int) (first n : Int) (i : Nat) : riLines_r c b pos short pl its l0 l1 l2 c0 c1 c2 2 first n i = (let Z0 : Int := (↑i : Int); let Z1 : Bool := decide (List.length b ≤ (1000000000000 : Nat)); let Z2 : Bool := Prod.snd (getP b pos (1 : Int)) != (0 : Int); let Z3 : Nat := List.length l2; let Z4 : Bool := Nat.beq Z3 Z3; let Z5 : Int := IntKind.wrap .i64 (first + Z0); let Z6 : List Line := [Line.mk Z5 (0 : Int) (0 : Int) (0 : Int) (0 : Int)]; let Z7 : X × Env RC := (X.normal, [(4, D.ptr 0 []), (5, D.ptr 1 []), (11, D.int .i64 2), (12, D.int .i64 first), (6, D.int .i64 n), (13, D.int .i64 (IntKind.wrap .i64 (Z0 + (1 : Int))))]); let Z8 : D RC := D.sl RTy.u8 c b; let Z9 : D RC := D.int .i64 pos; let Z10 : D RC := .anil; let Z11 : D RC := D.acons (D.bool true) Z10; let Z12 : D RC := D.int .i64 pl; let Z13 : D RC := D.vs 2 its.length; let Z14 : D RC := D.vs 3 l0.length; let Z15 : D RC := D.vs 4 l1.length; let Z16 : D RC := D.acons (D.arr RTy.int (3 : Nat) [c0, c1, c2]) Z10; let Z17 : Option (Obj RC) := some (Obj.vec RTy.item true its); let Z18 : Option (Obj RC) := some (Obj.vec RTy.line true l0); let Z19 : Option (Obj RC) := some (Obj.vec RTy.line true l1); let Z20 : Int := Prod.fst (getP b pos (1 : Int)); let Z21 : List Line := [Line.mk Z5 (0 : Int) (0 : Int) (0 : Int) Z20]; let Z22 : Int := IntKind.wrap .i64 (pos + 1); let Z23 : Option (Obj RC) := some (Obj.var 101 (.acons Z8 (D.acons (D.int .i64 Z22) Z11))); let Z24 : Int := Int.tmod Z20 (16 : Int); let Z25 : Int := IntKind.wrap .i64 (Int.tdiv Z20 (16 : Int)); let Z26 : List Line := [Line.mk Z5 (0 : Int) Z24 Z25 (0 : Int)]; let Z27 : List Line := [Line.mk Z5 (0 : Int) Z24 Z25 (getP b Z22 (1 : Int)).1]; let Z28 : Int := IntKind.wrap .i64 (pos + 3); let Z29 : Bool := Prod.snd (getP b Z28 (1 : Int)) != (0 : Int); let Z30 : Int := Prod.fst (getP b pos (3 : Int)); let Z31 : List Line := [Line.mk Z5 Z30 (0 : Int) (0 : Int) (0 : Int)]; let Z32 : Int := Prod.fst (getP b Z28 (1 : Int)); let Z33 : List Line := [Line.mk Z5 Z30 (0 : Int) (0 : Int) Z32]; let Z34 : Int := IntKind.wrap .i64 (Z28 + (1 : Int)); let Z35 : Option (Obj RC) := some (Obj.var 101 (.acons Z8 (D.acons (D.int .i64 Z34) Z11))); let Z36 : Int := Int.tmod Z32 (16 : Int); let Z37 : Int := IntKind.wrap .i64 (Int.tdiv Z32 (16 : Int)); let Z38 : List Line := [Line.mk Z5 Z30 Z36 Z37 (0 : Int)]; let Z39 : List Line := [Line.mk Z5 Z30 Z36 Z37 (getP b Z34 (1 : Int)).1]; let Z40 : D RC := D.acons (D.bool short) Z10; let Z41 : RO_ := some ((X.exit (4 : Nat), []), [some (Obj.var 101 (.acons Z8 (D.acons Z9 Z40))), some (Obj.var 30 (.acons Z12 (D.acons Z13 (D.acons (D.acons Z14 (D.acons Z15 (D.acons (D.vs 5 Z3) Z10))) Z16)))), Z17, Z18, Z19, some (Obj.vec RTy.line true l2)]); bif decide (Z0 < n) then bif !short then bif Z1 then bif Prod.snd (getP b pos (3 : Int)) != (0 : Int) then bif Z1 then bif Z2 then bif Z1 then bif Z2 then bif Z4 && sizeOK (Z3 + List.length Z6) (40 : Nat) then some (Z7, [some (Obj.var 101 (.acons Z8 (D.acons Z9 Z11))), some (Obj.var 30 (.acons Z12 (D.acons Z13 (D.acons (D.acons Z14 (D.acons Z15 (D.acons (D.vs 5 (Z3 + List.length Z6)) Z10))) Z16)))), Z17, Z18, Z19, some (Obj.vec RTy.line true (l2 ++ Z6))]) else none else bif Z4 && sizeOK (Z3 + List.length Z21) (40 : Nat) then some (Z7, [Z23, some (Obj.var 30 (.acons Z12 (D.acons Z13 (D.acons (D.acons Z14 (D.acons Z15 (D.acons (D.vs 5 (Z3 + List.length Z21)) Z10))) Z16)))), Z17, Z18, Z19, some (Obj.vec RTy.line true (l2 ++ Z21))]) else none else none else bif Z1 then bif Prod.snd (getP b Z22 (1 : Int)) != (0 : Int) then bif Z4 && sizeOK (Z3 + List.length Z26) (40 : Nat) then some (Z7, [Z23, some (Obj.var 30 (.acons Z12 (D.acons Z13 (D.acons (D.acons Z14 (D.acons Z15 (D.acons (D.vs 5 (Z3 + List.length Z26)) Z10))) Z16)))), Z17, Z18, Z19, some (Obj.vec RTy.line true (l2 ++ Z26))]) else none else bif Z4 && sizeOK (Z3 + List.length Z27) (40 : Nat) then some (Z7, [some (Obj.var 101 (.acons Z8 (D.acons (D.int .i64 (IntKind.wrap .i64 (Z22 + (1 : Int)))) Z11))), some (Obj.var 30 (.acons Z12 (D.acons Z13 (D.acons (D.acons Z14 (D.acons Z15 (D.acons (D.vs 5 (Z3 + List.length Z27)) Z10))) Z16)))), Z17, Z18, Z19, some (Obj.vec RTy.line true (l2 ++ Z27))]) else none else none else none else bif Z1 then bif Z29 then bif Z1 then bif Z29 then bif Z4 && sizeOK (Z3 + List.length Z31) (40 : Nat) then some (Z7, [some (Obj.var 101 (.acons Z8 (D.acons (D.int .i64 Z28) Z11))), some (Obj.var 30 (.acons Z12 (D.acons Z13 (D.acons (D.acons Z14 (D.acons Z15 (D.acons (D.vs 5 (Z3 + List.length Z31)) Z10))) Z16)))), Z17, Z18, Z19, some (Obj.vec RTy.line true (l2 ++ Z31))]) else none else bif Z4 && sizeOK (Z3 + List.length Z33) (40 : Nat) then some (Z7, [Z35, some (Obj.var 30 (.acons Z12 (D.acons Z13 (D.acons (D.acons Z14 (D.acons Z15 (D.acons (D.vs 5 (Z3 + List.length Z33)) Z10))) Z16)))), Z17, Z18, Z19, some (Obj.vec RTy.line true (l2 ++ Z33))]) else none else none else bif Z1 then bif Prod.snd (getP b Z34 (1 : Int)) != (0 : Int) then bif Z4 && sizeOK (Z3 + List.length Z38) (40 : Nat) then some (Z7, [Z35, some (Obj.var 30 (.acons Z12 (D.acons Z13 (D.acons (D.acons Z14 (D.acons Z15 (D.acons (D.vs 5 (Z3 + List.length Z38)) Z10))) Z16)))), Z17, Z18, Z19, some (Obj.vec RTy.line true (l2 ++ Z38))]) else none else bif Z4 && sizeOK (Z3 + List.length Z39) (40 : Nat) then some (Z7, [some (Obj.var 101 (.acons Z8 (D.acons (D.int .i64 (IntKind.wrap .i64 (Z34 + (1 : Int)))) Z40))), some (Obj.var 30 (.acons Z12 (D.acons Z13 (D.acons (D.acons Z14 (D.acons Z15 (D.acons (D.vs 5 (Z3 + List.length Z39)) Z10))) Z16)))), Z17, Z18, Z19, some (Obj.vec RTy.line true (l2 ++ Z39))]) else none else none else none else none else Z41 else Z41) := by kernel_rfl
def riLines_fin (c : Bool) (b : List UInt8) (pos : Int) (short : Bool) (pl : Int) (its : List Item) (l0 : List Line) (l1 : List Line) (l2 : List Line) (c0 : Int) (c1 : Int) (c2 : Int) (q : Int) (first : Int) (n : Int) (i : Nat) : RT RC := .leaf (.exit 4) [] [.var 101 (.acons (.sl (C := RC) .u8 c b) (.acons (.int .i64 (gLines (rdN b) true (n.toNat - i) (first + i) ⟨pos.toNat, short⟩).1.pos) (.acons (.bool (gLines (rdN b) true (n.toNat - i) (first + i) ⟨pos.toNat, short⟩).1.short) .anil))), .var 30 (.acons (.int .i64 pl) (.acons (.vs 2 its.length) (.acons (.acons (.vs 3 (addL q 0 l0 (gLines (rdN b) true (n.toNat - i) (first + i) ⟨pos.toNat, short⟩).2).length) (.acons (.vs 4 (addL q 1 l1 (gLines (rdN b) true (n.toNat - i) (first + i) ⟨pos.toNat, short⟩).2).length) (.acons (.vs 5 (addL q 2 l2 (gLines (rdN b) true (n.toNat - i) (first + i) ⟨pos.toNat, short⟩).2).length) .anil))) (.acons (.arr (C := RC) .int 3 [c0, c1, c2]) .anil)))), .vec (C := RC) .item true its, .vec (C := RC) .line true (addL q 0 l0 (gLines (rdN b) true (n.toNat - i) (first + i) ⟨pos.toNat, short⟩).2), .vec (C := RC) .line true (addL q 1 l1 (gLines (rdN b) true (n.toNat - i) (first + i) ⟨pos.toNat, short⟩).2), .vec (C := RC) .line true (addL q 2 l2 (gLines (rdN b) true (n.toNat - i) (first + i) ⟨pos.toNat, short⟩).2)]
def riLines_Inv (c : Bool) (b : List UInt8) (pos : Int) (short : Bool) (pl : Int) (its : List Item) (l0 : List Line) (l1 : List Line) (l2 : List Line) (c0 : Int) (c1 : Int) (c2 : Int) (q : Int) (first : Int) (n : Int) (i : Nat) : Prop := (i : Int) ≤ n ∧ n ≤ 255 ∧ b.length ≤ 1000000 ∧ (0 ≤ pos ∧ pos ≤ b.length) ∧ l0.length ≤ 1000 + i ∧ l1.length ≤ 1000 + i ∧ l2.length ≤ 1000 + i ∧ (0 ≤ q ∧ q ≤ 2) ∧ (0 ≤ first ∧ first ≤ 16777215)
def riLines_S : LoopR RC riLines_St where
  k := 6
  canon q := riLines_c q.c q.b q.pos q.short q.pl q.its q.l0 q.l1 q.l2 q.c0 q.c1 q.c2 q.q q.first q.n q.i
  objs q := riLines_o q.c q.b q.pos q.short q.pl q.its q.l0 q.l1 q.l2 q.c0 q.c1 q.c2 q.q q.first q.n q.i
  fin q := riLines_fin q.c q.b q.pos q.short q.pl q.its q.l0 q.l1 q.l2 q.c0 q.c1 q.c2 q.q q.first q.n q.i
  Inv q := riLines_Inv q.c q.b q.pos q.short q.pl q.its q.l0 q.l1 q.l2 q.c0 q.c1 q.c2 q.q q.first q.n q.i
  μ q := q.n.toNat - q.i
theorem riLines_round (c : Bool) (b : List UInt8) (pos : Int) (short : Bool) (pl : Int) (its : List Item) (l0 : List Line) (l1 : List Line) (l2 : List Line) (c0 : Int) (c1 : Int) (c2 : Int) (q : Int) (first : Int) (n : Int) (i : Nat) (hI : riLines_Inv c b pos short pl its l0 l1 l2 c0 c1 c2 q first n i) : Leaf (riLines_r c b pos short pl its l0 l1 l2 c0 c1 c2 q first n i) (LedR riLines_S ⟨c, b, pos, short, pl, its, l0, l1, l2, c0, c1, c2, q, first, n, i⟩) := by
  unfold riLines_Inv at hI
  obtain ⟨h1, h2, h3, h4, h5, h6, h7, h8, h9⟩ := hI
  have eb : ∀ n : Nat, n.beq n = true := fun n => by simp
  have pp : ((pos.toNat : Nat) : Int) = pos := by omega
  by_cases hlt : (i : Int) < n
  · have w_succ : IntKind.i64.wrap ((i : Int) + 1) = ((i + 1 : Nat) : Int) := by rw [wrap_id (by omega) (by omega)]; simp
    have wio : IntKind.i64.wrap (first + (i : Int)) = first + (i : Int) := wrap_id (by omega) (by omega)
    have hn : n.toNat - i = (n.toNat - (i + 1)) + 1 := by omega
    have hio : first + ((i + 1 : Nat) : Int) = first + (i : Int) + 1 := by omega
    have m0 : (0 : Int) % 16 = 0 ∧ (0 : Int) / 16 = 0 := ⟨rfl, rfl⟩
    have s0 : sizeOK (l0.length + 1) 40 = true := sizeT (by omega)
    have s1 : sizeOK (l1.length + 1) 40 = true := sizeT (by omega)
    have s2 : sizeOK (l2.length + 1) 40 = true := sizeT (by omega)
    have k01 : ¬ (0 : Int) = 1 := by omega
    have k02 : ¬ (0 : Int) = 2 := by omega
    have k10 : ¬ (1 : Int) = 0 := by omega
    have k12 : ¬ (1 : Int) = 2 := by omega
    have k20 : ¬ (2 : Int) = 0 := by omega
    have k21 : ¬ (2 : Int) = 1 := by omega
    have e0 : decide (b.length ≤ 1000000000000) = true := decide_eq_true (by omega)
    have wv : ∀ x : Int, 0 ≤ x → x ≤ 20000000 → IntKind.i64.wrap x = x := fun x _ _ => wrap_id (by omega) (by omega)
    have tn1 : (pos + 1).toNat = pos.toNat + 1 := by omega
    have tn3 : (pos + 3).toNat = pos.toNat + 3 := by omega
    have tn4 : (pos + 4).toNat = pos.toNat + 4 := by omega
    have tn2 : (pos + 2).toNat = pos.toNat + 2 := by omega
    have tn5 : (pos + 5).toNat = pos.toNat + 5 := by omega
    have a13 : pos + 1 + 3 = pos + 4 := by omega
    have a31 : pos + 3 + 1 = pos + 4 := by omega
    have a41 : pos + 4 + 1 = pos + 5 := by omega
    have a11 : pos + 1 + 1 = pos + 2 := by omega
    cases short
    · obtain e_q | e_q | e_q : q = 0 ∨ q = 1 ∨ q = 2 := by omega
      · subst e_q
        (rw [riLines_eq0]; conv => zeta)
        simp only [hlt, decide_true, cond_true, cond_false, Bool.not_true, Bool.not_false, e0, w_succ, wio, List.length_cons, List.length_nil, Nat.zero_add, s0, s1, s2, eb, Bool.and_self]
        simp (disch := omega) only [wv, a13, a31, a41, a11, getI_snd1, getI_snd3]
        by_cases q0_0f : (b.length : Int) < pos + 3
        · have rq0_0f : nget b 3 ⟨pos.toNat, false⟩ = _ := nget_no (by omega)
          simp only [q0_0f, decide_true, cond_true]
          by_cases q1_0t : (b.length : Int) < pos + 1
          · have rq1_0t : nget b 1 ⟨pos.toNat, true⟩ = _ := nget_no (by omega)
            simp only [q1_0t, decide_true, cond_true]
            have q2_0t : (b.length : Int) < pos + 1 := by omega
            have rq2_0t : nget b 1 ⟨pos.toNat, true⟩ = _ := nget_no (by omega)
            refine leafR_go ⟨c, b, pos, true, pl, its, l0 ++ [⟨first + i, 0, 0, 0, 0⟩], l1, l2, c0, c1, c2, 0, first, n, i + 1⟩ (by refine ⟨hlt, h2, h3, ?_, ?_, ?_, ?_, ?_, h9⟩ <;> simp <;> omega) (by simp only [riLines_S]; omega) ?_ (by simp [riLines_S, riLines_c]) (by simp [riLines_S, riLines_o])
            simp only [riLines_S, riLines_fin, hn, gLinesN_succ, rq0_0f, rq1_0t, rq2_0t, addL, hio, m0, if_true, if_false, k01, k02, k10, k12, k20, k21, List.append_assoc, List.cons_append, List.nil_append]
          · have rq1_0t : nget b 1 ⟨pos.toNat, true⟩ = _ := nget_ok (by omega)
            have gq1_0t := getI_fst1 (show 0 ≤ pos by omega) (show ¬ (b.length : Int) < pos + 1 by omega)
            simp only [q1_0t, decide_false, cond_false, gq1_0t]
            by_cases q2_1t : (b.length : Int) < pos + 2
            · have rq2_1t : nget b 1 ⟨pos.toNat + 1, true⟩ = _ := nget_no (by omega)
              simp only [q2_1t, decide_true, cond_true]
              have x16 : (0 : Int) ≤ (leVal ((b.drop (pos.toNat)).take 1) : Int) := Int.natCast_nonneg _
              have xlt := rget_lt1 (b.drop (pos.toNat))
              have f16 := tdiv16 (leVal ((b.drop (pos.toNat)).take 1)) (by omega)
              simp only [f16.1, f16.2]
              refine leafR_go ⟨c, b, pos + 1, true, pl, its, l0 ++ [⟨first + i, 0, (leVal ((b.drop (pos.toNat)).take 1) : Int) % 16, (leVal ((b.drop (pos.toNat)).take 1) : Int) / 16, 0⟩], l1, l2, c0, c1, c2, 0, first, n, i + 1⟩ (by refine ⟨hlt, h2, h3, ?_, ?_, ?_, ?_, ?_, h9⟩ <;> simp <;> omega) (by simp only [riLines_S]; omega) ?_ (by simp [riLines_S, riLines_c]) (by simp [riLines_S, riLines_o])
              simp only [riLines_S, riLines_fin, hn, gLinesN_succ, rq0_0f, rq1_0t, rq2_1t, tn1, addL, hio, m0, if_true, if_false, k01, k02, k10, k12, k20, k21, List.append_assoc, List.cons_append, List.nil_append]
            · have rq2_1t : nget b 1 ⟨pos.toNat + 1, true⟩ = _ := nget_ok (by omega)
              rw [show pos.toNat + 1 + 1 = pos.toNat + 2 by omega] at rq2_1t
              have gq2_1t := getI_fst1 (show 0 ≤ pos + 1 by omega) (show ¬ (b.length : Int) < pos + 1 + 1 by omega)
              rw [tn1] at gq2_1t
              simp only [q2_1t, decide_false, cond_false, gq2_1t]
              have x16 : (0 : Int) ≤ (leVal ((b.drop (pos.toNat)).take 1) : Int) := Int.natCast_nonneg _
              have xlt := rget_lt1 (b.drop (pos.toNat))
              have f16 := tdiv16 (leVal ((b.drop (pos.toNat)).take 1)) (by omega)
              simp only [f16.1, f16.2]
              refine leafR_go ⟨c, b, pos + 2, true, pl, its, l0 ++ [⟨first + i, 0, (leVal ((b.drop (pos.toNat)).take 1) : Int) % 16, (leVal ((b.drop (pos.toNat)).take 1) : Int) / 16, (leVal ((b.drop (pos.toNat + 1)).take 1) : Int)⟩], l1, l2, c0, c1, c2, 0, first, n, i + 1⟩ (by refine ⟨hlt, h2, h3, ?_, ?_, ?_, ?_, ?_, h9⟩ <;> simp <;> omega) (by simp only [riLines_S]; omega) ?_ (by simp [riLines_S, riLines_c]) (by simp [riLines_S, riLines_o])
              simp only [riLines_S, riLines_fin, hn, gLinesN_succ, rq0_0f, rq1_0t, rq2_1t, tn2, addL, hio, m0, if_true, if_false, k01, k02, k10, k12, k20, k21, List.append_assoc, List.cons_append, List.nil_append]
        · have rq0_0f : nget b 3 ⟨pos.toNat, false⟩ = _ := nget_ok (by omega)
          have gq0_0f := getI_fst3 (show 0 ≤ pos by omega) (show ¬ (b.length : Int) < pos + 3 by omega)
          simp only [q0_0f, decide_false, cond_false, gq0_0f]
          by_cases q1_3f : (b.length : Int) < pos + 4
          · have rq1_3f : nget b 1 ⟨pos.toNat + 3, false⟩ = _ := nget_no (by omega)
            simp only [q1_3f, decide_true, cond_true]
            have q2_3t : (b.length : Int) < pos + 4 := by omega
            have rq2_3t : nget b 1 ⟨pos.toNat + 3, true⟩ = _ := nget_no (by omega)
            refine leafR_go ⟨c, b, pos + 3, true, pl, its, l0 ++ [⟨first + i, (leVal ((b.drop (pos.toNat)).take 3) : Int), 0, 0, 0⟩], l1, l2, c0, c1, c2, 0, first, n, i + 1⟩ (by refine ⟨hlt, h2, h3, ?_, ?_, ?_, ?_, ?_, h9⟩ <;> simp <;> omega) (by simp only [riLines_S]; omega) ?_ (by simp [riLines_S, riLines_c]) (by simp [riLines_S, riLines_o])
            simp only [riLines_S, riLines_fin, hn, gLinesN_succ, rq0_0f, rq1_3f, rq2_3t, tn3, addL, hio, m0, if_true, if_false, k01, k02, k10, k12, k20, k21, List.append_assoc, List.cons_append, List.nil_append]
          · have rq1_3f : nget b 1 ⟨pos.toNat + 3, false⟩ = _ := nget_ok (by omega)
            rw [show pos.toNat + 3 + 1 = pos.toNat + 4 by omega] at rq1_3f
            have gq1_3f := getI_fst1 (show 0 ≤ pos + 3 by omega) (show ¬ (b.length : Int) < pos + 3 + 1 by omega)
            rw [tn3] at gq1_3f
            simp only [q1_3f, decide_false, cond_false, gq1_3f]
            by_cases q2_4f : (b.length : Int) < pos + 5
            · have rq2_4f : nget b 1 ⟨pos.toNat + 4, false⟩ = _ := nget_no (by omega)
              simp only [q2_4f, decide_true, cond_true]
              have x16 : (0 : Int) ≤ (leVal ((b.drop (pos.toNat + 3)).take 1) : Int) := Int.natCast_nonneg _
              have xlt := rget_lt1 (b.drop (pos.toNat + 3))
              have f16 := tdiv16 (leVal ((b.drop (pos.toNat + 3)).take 1)) (by omega)
              simp only [f16.1, f16.2]
              refine leafR_go ⟨c, b, pos + 4, true, pl, its, l0 ++ [⟨first + i, (leVal ((b.drop (pos.toNat)).take 3) : Int), (leVal ((b.drop (pos.toNat + 3)).take 1) : Int) % 16, (leVal ((b.drop (pos.toNat + 3)).take 1) : Int) / 16, 0⟩], l1, l2, c0, c1, c2, 0, first, n, i + 1⟩ (by refine ⟨hlt, h2, h3, ?_, ?_, ?_, ?_, ?_, h9⟩ <;> simp <;> omega) (by simp only [riLines_S]; omega) ?_ (by simp [riLines_S, riLines_c]) (by simp [riLines_S, riLines_o])
              simp only [riLines_S, riLines_fin, hn, gLinesN_succ, rq0_0f, rq1_3f, rq2_4f, tn4, addL, hio, m0, if_true, if_false, k01, k02, k10, k12, k20, k21, List.append_assoc, List.cons_append, List.nil_append]
            · have rq2_4f : nget b 1 ⟨pos.toNat + 4, false⟩ = _ := nget_ok (by omega)
              rw [show pos.toNat + 4 + 1 = pos.toNat + 5 by omega] at rq2_4f
              have gq2_4f := getI_fst1 (show 0 ≤ pos + 4 by omega) (show ¬ (b.length : Int) < pos + 4 + 1 by omega)
              rw [tn4] at gq2_4f
              simp only [q2_4f, decide_false, cond_false, gq2_4f]
              have x16 : (0 : Int) ≤ (leVal ((b.drop (pos.toNat + 3)).take 1) : Int) := Int.natCast_nonneg _
              have xlt := rget_lt1 (b.drop (pos.toNat + 3))
              have f16 := tdiv16 (leVal ((b.drop (pos.toNat + 3)).take 1)) (by omega)
              simp only [f16.1, f16.2]
              refine leafR_go ⟨c, b, pos + 5, false, pl, its, l0 ++ [⟨first + i, (leVal ((b.drop (pos.toNat)).take 3) : Int), (leVal ((b.drop (pos.toNat + 3)).take 1) : Int) % 16, (leVal ((b.drop (pos.toNat + 3)).take 1) : Int) / 16, (leVal ((b.drop (pos.toNat + 4)).take 1) : Int)⟩], l1, l2, c0, c1, c2, 0, first, n, i + 1⟩ (by refine ⟨hlt, h2, h3, ?_, ?_, ?_, ?_, ?_, h9⟩ <;> simp <;> omega) (by simp only [riLines_S]; omega) ?_ (by simp [riLines_S, riLines_c]) (by simp [riLines_S, riLines_o])
              simp only [riLines_S, riLines_fin, hn, gLinesN_succ, rq0_0f, rq1_3f, rq2_4f, tn5, addL, hio, m0, if_true, if_false, k01, k02, k10, k12, k20, k21, List.append_assoc, List.cons_append, List.nil_append]
      · subst e_q
        (rw [riLines_eq1]; conv => zeta)
        simp only [hlt, decide_true, cond_true, cond_false, Bool.not_true, Bool.not_false, e0, w_succ, wio, List.length_cons, List.length_nil, Nat.zero_add, s0, s1, s2, eb, Bool.and_self]
        simp (disch := omega) only [wv, a13, a31, a41, a11, getI_snd1, getI_snd3]
        by_cases q0_0f : (b.length : Int) < pos + 3
        · have rq0_0f : nget b 3 ⟨pos.toNat, false⟩ = _ := nget_no (by omega)
          simp only [q0_0f, decide_true, cond_true]
          by_cases q1_0t : (b.length : Int) < pos + 1
          · have rq1_0t : nget b 1 ⟨pos.toNat, true⟩ = _ := nget_no (by omega)
            simp only [q1_0t, decide_true, cond_true]
            have q2_0t : (b.length : Int) < pos + 1 := by omega
            have rq2_0t : nget b 1 ⟨pos.toNat, true⟩ = _ := nget_no (by omega)
            refine leafR_go ⟨c, b, pos, true, pl, its, l0, l1 ++ [⟨first + i, 0, 0, 0, 0⟩], l2, c0, c1, c2, 1, first, n, i + 1⟩ (by refine ⟨hlt, h2, h3, ?_, ?_, ?_, ?_, ?_, h9⟩ <;> simp <;> omega) (by simp only [riLines_S]; omega) ?_ (by simp [riLines_S, riLines_c]) (by simp [riLines_S, riLines_o])
            simp only [riLines_S, riLines_fin, hn, gLinesN_succ, rq0_0f, rq1_0t, rq2_0t, addL, hio, m0, if_true, if_false, k01, k02, k10, k12, k20, k21, List.append_assoc, List.cons_append, List.nil_append]
          · have rq1_0t : nget b 1 ⟨pos.toNat, true⟩ = _ := nget_ok (by omega)
            have gq1_0t := getI_fst1 (show 0 ≤ pos by omega) (show ¬ (b.length : Int) < pos + 1 by omega)
            simp only [q1_0t, decide_false, cond_false, gq1_0t]
            by_cases q2_1t : (b.length : Int) < pos + 2
            · have rq2_1t : nget b 1 ⟨pos.toNat + 1, true⟩ = _ := nget_no (by omega)
              simp only [q2_1t, decide_true, cond_true]
              have x16 : (0 : Int) ≤ (leVal ((b.drop (pos.toNat)).take 1) : Int) := Int.natCast_nonneg _
              have xlt := rget_lt1 (b.drop (pos.toNat))
              have f16 := tdiv16 (leVal ((b.drop (pos.toNat)).take 1)) (by omega)
              simp only [f16.1, f16.2]
              refine leafR_go ⟨c, b, pos + 1, true, pl, its, l0, l1 ++ [⟨first + i, 0, (leVal ((b.drop (pos.toNat)).take 1) : Int) % 16, (leVal ((b.drop (pos.toNat)).take 1) : Int) / 16, 0⟩], l2, c0, c1, c2, 1, first, n, i + 1⟩ (by refine ⟨hlt, h2, h3, ?_, ?_, ?_, ?_, ?_, h9⟩ <;> simp <;> omega) (by simp only [riLines_S]; omega) ?_ (by simp [riLines_S, riLines_c]) (by simp [riLines_S, riLines_o])
              simp only [riLines_S, riLines_fin, hn, gLinesN_succ, rq0_0f, rq1_0t, rq2_1t, tn1, addL, hio, m0, if_true, if_false, k01, k02, k10, k12, k20, k21, List.append_assoc, List.cons_append, List.nil_append]
            · have rq2_1t : nget b 1 ⟨pos.toNat + 1, true⟩ = _ := nget_ok (by omega)
              rw [show pos.toNat + 1 + 1 = pos.toNat + 2 by omega] at rq2_1t
              have gq2_1t := getI_fst1 (show 0 ≤ pos + 1 by omega) (show ¬ (b.length : Int) < pos + 1 + 1 by omega)
              rw [tn1] at gq2_1t
              simp only [q2_1t, decide_false, cond_false, gq2_1t]
              have x16 : (0 : Int) ≤ (leVal ((b.drop (pos.toNat)).take 1) : Int) := Int.natCast_nonneg _
              have xlt := rget_lt1 (b.drop (pos.toNat))
              have f16 := tdiv16 (leVal ((b.drop (pos.toNat)).take 1)) (by omega)
              simp only [f16.1, f16.2]
              refine leafR_go ⟨c, b, pos + 2, true, pl, its, l0, l1 ++ [⟨first + i, 0, (leVal ((b.drop (pos.toNat)).take 1) : Int) % 16, (leVal ((b.drop (pos.toNat)).take 1) : Int) / 16, (leVal ((b.drop (pos.toNat + 1)).take 1) : Int)⟩], l2, c0, c1, c2, 1, first, n, i + 1⟩ (by refine ⟨hlt, h2, h3, ?_, ?_, ?_, ?_, ?_, h9⟩ <;> simp <;> omega) (by simp only [riLines_S]; omega) ?_ (by simp [riLines_S, riLines_c]) (by simp [riLines_S, riLines_o])
              simp only [riLines_S, riLines_fin, hn, gLinesN_succ, rq0_0f, rq1_0t, rq2_1t, tn2, addL, hio, m0, if_true, if_false, k01, k02, k10, k12, k20, k21, List.append_assoc, List.cons_append, List.nil_append]
        · have rq0_0f : nget b 3 ⟨pos.toNat, false⟩ = _ := nget_ok (by omega)
          have gq0_0f := getI_fst3 (show 0 ≤ pos by omega) (show ¬ (b.length : Int) < pos + 3 by omega)
          simp only [q0_0f, decide_false, cond_false, gq0_0f]
          by_cases q1_3f : (b.length : Int) < pos + 4
          · have rq1_3f : nget b 1 ⟨pos.toNat + 3, false⟩ = _ := nget_no (by omega)
            simp only [q1_3f, decide_true, cond_true]
            have q2_3t : (b.length : Int) < pos + 4 := by omega
            have rq2_3t : nget b 1 ⟨pos.toNat + 3, true⟩ = _ := nget_no (by omega)
            refine leafR_go ⟨c, b, pos + 3, true, pl, its, l0, l1 ++ [⟨first + i, (leVal ((b.drop (pos.toNat)).take 3) : Int), 0, 0, 0⟩], l2, c0, c1, c2, 1, first, n, i + 1⟩ (by refine ⟨hlt, h2, h3, ?_, ?_, ?_, ?_, ?_, h9⟩ <;> simp <;> omega) (by simp only [riLines_S]; omega) ?_ (by simp [riLines_S, riLines_c]) (by simp [riLines_S, riLines_o])
            simp only [riLines_S, riLines_fin, hn, gLinesN_succ, rq0_0f, rq1_3f, rq2_3t, tn3, addL, hio, m0, if_true, if_false, k01, k02, k10, k12, k20, k21, List.append_assoc, List.cons_append, List.nil_append]
          · have rq1_3f : nget b 1 ⟨pos.toNat + 3, false⟩ = _ := nget_ok (by omega)
            rw [show pos.toNat + 3 + 1 = pos.toNat + 4 by omega] at rq1_3f
            have gq1_3f := getI_fst1 (show 0 ≤ pos + 3 by omega) (show ¬ (b.length : Int) < pos + 3 + 1 by omega)
            rw [tn3] at gq1_3f
            simp only [q1_3f, decide_false, cond_false, gq1_3f]
            by_cases q2_4f : (b.length : Int) < pos + 5
            · have rq2_4f : nget b 1 ⟨pos.toNat + 4, false⟩ = _ := nget_no (by omega)
              simp only [q2_4f, decide_true, cond_true]
              have x16 : (0 : Int) ≤ (leVal ((b.drop (pos.toNat + 3)).take 1) : Int) := Int.natCast_nonneg _
              have xlt := rget_lt1 (b.drop (pos.toNat + 3))
              have f16 := tdiv16 (leVal ((b.drop (pos.toNat + 3)).take 1)) (by omega)
              simp only [f16.1, f16.2]
              refine leafR_go ⟨c, b, pos + 4, true, pl, its, l0, l1 ++ [⟨first + i, (leVal ((b.drop (pos.toNat)).take 3) : Int), (leVal ((b.drop (pos.toNat + 3)).take 1) : Int) % 16, (leVal ((b.drop (pos.toNat + 3)).take 1) : Int) / 16, 0⟩], l2, c0, c1, c2, 1, first, n, i + 1⟩ (by refine ⟨hlt, h2, h3, ?_, ?_, ?_, ?_, ?_, h9⟩ <;> simp <;> omega) (by simp only [riLines_S]; omega) ?_ (by simp [riLines_S, riLines_c]) (by simp [riLines_S, riLines_o])
              simp only [riLines_S, riLines_fin, hn, gLinesN_succ, rq0_0f, rq1_3f, rq2_4f, tn4, addL, hio, m0, if_true, if_false, k01, k02, k10, k12, k20, k21, List.append_assoc, List.cons_append, List.nil_append]
            · have rq2_4f : nget b 1 ⟨pos.toNat + 4, false⟩ = _ := nget_ok (by omega)
              rw [show pos.toNat + 4 + 1 = pos.toNat + 5 by omega] at rq2_4f
              have gq2_4f := getI_fst1 (show 0 ≤ pos + 4 by omega) (show ¬ (b.length : Int) < pos + 4 + 1 by omega)
              rw [tn4] at gq2_4f
              simp only [q2_4f, decide_false, cond_false, gq2_4f]
              have x16 : (0 : Int) ≤ (leVal ((b.drop (pos.toNat + 3)).take 1) : Int) := Int.natCast_nonneg _
              have xlt := rget_lt1 (b.drop (pos.toNat + 3))
              have f16 := tdiv16 (leVal ((b.drop (pos.toNat + 3)).take 1)) (by omega)
              simp only [f16.1, f16.2]
              refine leafR_go ⟨c, b, pos + 5, false, pl, its, l0, l1 ++ [⟨first + i, (leVal ((b.drop (pos.toNat)).take 3) : Int), (leVal ((b.drop (pos.toNat + 3)).take 1) : Int) % 16, (leVal ((b.drop (pos.toNat + 3)).take 1) : Int) / 16, (leVal ((b.drop (pos.toNat + 4)).take 1) : Int)⟩], l2, c0, c1, c2, 1, first, n, i + 1⟩ (by refine ⟨hlt, h2, h3, ?_, ?_, ?_, ?_, ?_, h9⟩ <;> simp <;> omega) (by simp only [riLines_S]; omega) ?_ (by simp [riLines_S, riLines_c]) (by simp [riLines_S, riLines_o])
              simp only [riLines_S, riLines_fin, hn, gLinesN_succ, rq0_0f, rq1_3f, rq2_4f, tn5, addL, hio, m0, if_true, if_false, k01, k02, k10, k12, k20, k21, List.append_assoc, List.cons_append, List.nil_append]
      · subst e_q
        (rw [riLines_eq2]; conv => zeta)
        simp only [hlt, decide_true, cond_true, cond_false, Bool.not_true, Bool.not_false, e0, w_succ, wio, List.length_cons, List.length_nil, Nat.zero_add, s0, s1, s2, eb, Bool.and_self]
        simp (disch := omega) only [wv, a13, a31, a41, a11, getI_snd1, getI_snd3]
        by_cases q0_0f : (b.length : Int) < pos + 3
        · have rq0_0f : nget b 3 ⟨pos.toNat, false⟩ = _ := nget_no (by omega)
          simp only [q0_0f, decide_true, cond_true]
          by_cases q1_0t : (b.length : Int) < pos + 1
          · have rq1_0t : nget b 1 ⟨pos.toNat, true⟩ = _ := nget_no (by omega)
            simp only [q1_0t, decide_true, cond_true]
            have q2_0t : (b.length : Int) < pos + 1 := by omega
            have rq2_0t : nget b 1 ⟨pos.toNat, true⟩ = _ := nget_no (by omega)
            refine leafR_go ⟨c, b, pos, true, pl, its, l0, l1, l2 ++ [⟨first + i, 0, 0, 0, 0⟩], c0, c1, c2, 2, first, n, i + 1⟩ (by refine ⟨hlt, h2, h3, ?_, ?_, ?_, ?_, ?_, h9⟩ <;> simp <;> omega) (by simp only [riLines_S]; omega) ?_ (by simp [riLines_S, riLines_c]) (by simp [riLines_S, riLines_o])
            simp only [riLines_S, riLines_fin, hn, gLinesN_succ, rq0_0f, rq1_0t, rq2_0t, addL, hio, m0, if_true, if_false, k01, k02, k10, k12, k20, k21, List.append_assoc, List.cons_append, List.nil_append]
          · have rq1_0t : nget b 1 ⟨pos.toNat, true⟩ = _ := nget_ok (by omega)
            have gq1_0t := getI_fst1 (show 0 ≤ pos by omega) (show ¬ (b.length : Int) < pos + 1 by omega)
            simp only [q1_0t, decide_false, cond_false, gq1_0t]
            by_cases q2_1t : (b.length : Int) < pos + 2
            · have rq2_1t : nget b 1 ⟨pos.toNat + 1, true⟩ = _ := nget_no (by omega)
              simp only [q2_1t, decide_true, cond_true]
              have x16 : (0 : Int) ≤ (leVal ((b.drop (pos.toNat)).take 1) : Int) := Int.natCast_nonneg _
              have xlt := rget_lt1 (b.drop (pos.toNat))
              have f16 := tdiv16 (leVal ((b.drop (pos.toNat)).take 1)) (by omega)
              simp only [f16.1, f16.2]
              refine leafR_go ⟨c, b, pos + 1, true, pl, its, l0, l1, l2 ++ [⟨first + i, 0, (leVal ((b.drop (pos.toNat)).take 1) : Int) % 16, (leVal ((b.drop (pos.toNat)).take 1) : Int) / 16, 0⟩], c0, c1, c2, 2, first, n, i + 1⟩ (by refine ⟨hlt, h2, h3, ?_, ?_, ?_, ?_, ?_, h9⟩ <;> simp <;> omega) (by simp only [riLines_S]; omega) ?_ (by simp [riLines_S, riLines_c]) (by simp [riLines_S, riLines_o])
              simp only [riLines_S, riLines_fin, hn, gLinesN_succ, rq0_0f, rq1_0t, rq2_1t, tn1, addL, hio, m0, if_true, if_false, k01, k02, k10, k12, k20, k21, List.append_assoc, List.cons_append, List.nil_append]
            · have rq2_1t : nget b 1 ⟨pos.toNat + 1, true⟩ = _ := nget_ok (by omega)
              rw [show pos.toNat + 1 + 1 = pos.toNat + 2 by omega] at rq2_1t
              have gq2_1t := getI_fst1 (show 0 ≤ pos + 1 by omega) (show ¬ (b.length : Int) < pos + 1 + 1 by omega)
              rw [tn1] at gq2_1t
              simp only [q2_1t, decide_false, cond_false, gq2_1t]
              have x16 : (0 : Int) ≤ (leVal ((b.drop (pos.toNat)).take 1) : Int) := Int.natCast_nonneg _
              have xlt := rget_lt1 (b.drop (pos.toNat))
              have f16 := tdiv16 (leVal ((b.drop (pos.toNat)).take 1)) (by omega)
              simp only [f16.1, f16.2]
              refine leafR_go ⟨c, b, pos + 2, true, pl, its, l0, l1, l2 ++ [⟨first + i, 0, (leVal ((b.drop (pos.toNat)).take 1) : Int) % 16, (leVal ((b.drop (pos.toNat)).take 1) : Int) / 16, (leVal ((b.drop (pos.toNat + 1)).take 1) : Int)⟩], c0, c1, c2, 2, first, n, i + 1⟩ (by refine ⟨hlt, h2, h3, ?_, ?_, ?_, ?_, ?_, h9⟩ <;> simp <;> omega) (by simp only [riLines_S]; omega) ?_ (by simp [riLines_S, riLines_c]) (by simp [riLines_S, riLines_o])
              simp only [riLines_S, riLines_fin, hn, gLinesN_succ, rq0_0f, rq1_0t, rq2_1t, tn2, addL, hio, m0, if_true, if_false, k01, k02, k10, k12, k20, k21, List.append_assoc, List.cons_append, List.nil_append]
        · have rq0_0f : nget b 3 ⟨pos.toNat, false⟩ = _ := nget_ok (by omega)
          have gq0_0f := getI_fst3 (show 0 ≤ pos by omega) (show ¬ (b.length : Int) < pos + 3 by omega)
          simp only [q0_0f, decide_false, cond_false, gq0_0f]
          by_cases q1_3f : (b.length : Int) < pos + 4
          · have rq1_3f : nget b 1 ⟨pos.toNat + 3, false⟩ = _ := nget_no (by omega)
            simp only [q1_3f, decide_true, cond_true]
            have q2_3t : (b.length : Int) < pos + 4 := by omega
            have rq2_3t : nget b 1 ⟨pos.toNat + 3, true⟩ = _ := nget_no (by omega)
            refine leafR_go ⟨c, b, pos + 3, true, pl, its, l0, l1, l2 ++ [⟨first + i, (leVal ((b.drop (pos.toNat)).take 3) : Int), 0, 0, 0⟩], c0, c1, c2, 2, first, n, i + 1⟩ (by refine ⟨hlt, h2, h3, ?_, ?_, ?_, ?_, ?_, h9⟩ <;> simp <;> omega) (by simp only [riLines_S]; omega) ?_ (by simp [riLines_S, riLines_c]) (by simp [riLines_S, riLines_o])
            simp only [riLines_S, riLines_fin, hn, gLinesN_succ, rq0_0f, rq1_3f, rq2_3t, tn3, addL, hio, m0, if_true, if_false, k01, k02, k10, k12, k20, k21, List.append_assoc, List.cons_append, List.nil_append]
          · have rq1_3f : nget b 1 ⟨pos.toNat + 3, false⟩ = _ := nget_ok (by omega)
            rw [show pos.toNat + 3 + 1 = pos.toNat + 4 by omega] at rq1_3f
            have gq1_3f := getI_fst1 (show 0 ≤ pos + 3 by omega) (show ¬ (b.length : Int) < pos + 3 + 1 by omega)
            rw [tn3] at gq1_3f
            simp only [q1_3f, decide_false, cond_false, gq1_3f]
            by_cases q2_4f : (b.length : Int) < pos + 5
            · have rq2_4f : nget b 1 ⟨pos.toNat + 4, false⟩ = _ := nget_no (by omega)
              simp only [q2_4f, decide_true, cond_true]
              have x16 : (0 : Int) ≤ (leVal ((b.drop (pos.toNat + 3)).take 1) : Int) := Int.natCast_nonneg _
              have xlt := rget_lt1 (b.drop (pos.toNat + 3))
              have f16 := tdiv16 (leVal ((b.drop (pos.toNat + 3)).take 1)) (by omega)
              simp only [f16.1, f16.2]
              refine leafR_go ⟨c, b, pos + 4, true, pl, its, l0, l1, l2 ++ [⟨first + i, (leVal ((b.drop (pos.toNat)).take 3) : Int), (leVal ((b.drop (pos.toNat + 3)).take 1) : Int) % 16, (leVal ((b.drop (pos.toNat + 3)).take 1) : Int) / 16, 0⟩], c0, c1, c2, 2, first, n, i + 1⟩ (by refine ⟨hlt, h2, h3, ?_, ?_, ?_, ?_, ?_, h9⟩ <;> simp <;> omega) (by simp only [riLines_S]; omega) ?_ (by simp [riLines_S, riLines_c]) (by simp [riLines_S, riLines_o])
              simp only [riLines_S, riLines_fin, hn, gLinesN_succ, rq0_0f, rq1_3f, rq2_4f, tn4, addL, hio, m0, if_true, if_false, k01, k02, k10, k12, k20, k21, List.append_assoc, List.cons_append, List.nil_append]
            · have rq2_4f : nget b 1 ⟨pos.toNat + 4, false⟩ = _ := nget_ok (by omega)
              rw [show pos.toNat + 4 + 1 = pos.toNat + 5 by omega] at rq2_4f
              have gq2_4f := getI_fst1 (show 0 ≤ pos + 4 by omega) (show ¬ (b.length : Int) < pos + 4 + 1 by omega)
              rw [tn4] at gq2_4f
              simp only [q2_4f, decide_false, cond_false, gq2_4f]
              have x16 : (0 : Int) ≤ (leVal ((b.drop (pos.toNat + 3)).take 1) : Int) := Int.natCast_nonneg _
              have xlt := rget_lt1 (b.drop (pos.toNat + 3))
              have f16 := tdiv16 (leVal ((b.drop (pos.toNat + 3)).take 1)) (by omega)
              simp only [f16.1, f16.2]
              refine leafR_go ⟨c, b, pos + 5, false, pl, its, l0, l1, l2 ++ [⟨first + i, (leVal ((b.drop (pos.toNat)).take 3) : Int), (leVal ((b.drop (pos.toNat + 3)).take 1) : Int) % 16, (leVal ((b.drop (pos.toNat + 3)).take 1) : Int) / 16, (leVal ((b.drop (pos.toNat + 4)).take 1) : Int)⟩], c0, c1, c2, 2, first, n, i + 1⟩ (by refine ⟨hlt, h2, h3, ?_, ?_, ?_, ?_, ?_, h9⟩ <;> simp <;> omega) (by simp only [riLines_S]; omega) ?_ (by simp [riLines_S, riLines_c]) (by simp [riLines_S, riLines_o])
              simp only [riLines_S, riLines_fin, hn, gLinesN_succ, rq0_0f, rq1_3f, rq2_4f, tn5, addL, hio, m0, if_true, if_false, k01, k02, k10, k12, k20, k21, List.append_assoc, List.cons_append, List.nil_append]
    · obtain e_q | e_q | e_q : q = 0 ∨ q = 1 ∨ q = 2 := by omega
      all_goals
        subst e_q
        first | (rw [riLines_eq0]; conv => zeta) | (rw [riLines_eq1]; conv => zeta) | (rw [riLines_eq2]; conv => zeta)
        simp only [hlt, decide_true, cond_true, cond_false, Bool.not_true]
        exact leafR_exit (riLines_o c b pos true pl its l0 l1 l2 c0 c1 c2 0 first n i) (by simp [riLines_S, riLines_fin, riLines_o, gLinesN_stop, addL, RT.val, pp]) rfl
  · have hi : n.toNat - i = 0 := by omega
    obtain e_q | e_q | e_q : q = 0 ∨ q = 1 ∨ q = 2 := by omega
    all_goals
      subst e_q
      first | (rw [riLines_eq0]; conv => zeta) | (rw [riLines_eq1]; conv => zeta) | (rw [riLines_eq2]; conv => zeta)
      simp only [hlt, decide_false, cond_false]
      exact leafR_exit (riLines_o c b pos short pl its l0 l1 l2 c0 c1 c2 0 first n i) (by simp [riLines_S, riLines_fin, riLines_o, hi, gLines, addL, RT.val, pp]) rfl
def riLines_d (env : Env RC) (os : List (Obj RC)) : Option (Bool × riLines_St) := match env, os with
  | [(4, .ptr 0 []), (5, .ptr 1 []), (11, .int .i64 q), (12, .int .i64 first), (6, .int .i64 n), (13, .int .i64 x0)], [.var 101 (.acons (.sl .u8 c b) (.acons (.int .i64 pos) (.acons (.bool short) .anil))), .var 30 (.acons (.int .i64 pl) (.acons (.vs 2 x1) (.acons (.acons (.vs 3 x2) (.acons (.vs 4 x3) (.acons (.vs 5 x4) .anil))) (.acons (.arr .int 3 [c0, c1, c2]) .anil)))), .vec .item true its, .vec .line true l0, .vec .line true l1, .vec .line true l2] => staticD (true) (decide (x0 = 0) && decide (x1 = its.length) && decide (x2 = l0.length) && decide (x3 = l1.length) && decide (x4 = l2.length) && decide (0 ≤ n ∧ n ≤ 255 ∧ b.length ≤ 1000000 ∧ (0 ≤ pos ∧ pos ≤ b.length) ∧ (l0.length ≤ 1000 ∧ l1.length ≤ 1000 ∧ l2.length ≤ 1000) ∧ (0 ≤ q ∧ q ≤ 2) ∧ (0 ≤ first ∧ first ≤ 16777215)), ⟨c, b, pos, short, pl, its, l0, l1, l2, c0, c1, c2, q, first, n, 0⟩)
  | _, _ => none
noncomputable def uq_1 := up_1.addLoop 44 19 (sumR s07 [.slot 4 0, .slot 5 0, .path 1 [1], .path 1 [2, 0], .path 1 [2, 1], .path 1 [2, 2]] [4, 5, 11, 12, 6, 13] riLines_S riLines_d)
theorem uq_1_laws : FLaws Try.prog s07 uq_1 := by
  refine up_1_laws.addRoundsR s07_laws (by kernel_rfl) riLines_S 60 [4, 5, 11, 12, 6, 13] [] [.slot 4 0, .slot 5 0, .path 1 [1], .path 1 [2, 0], .path 1 [2, 1], .path 1 [2, 2]] [4, 5, 11, 12, 6, 13] riLines_d (fun q hI => ?_) ?_
  · obtain ⟨c, b, pos, short, pl, its, l0, l1, l2, c0, c1, c2, q, first, n, i⟩ := q
    refine ⟨?_, ?_, riLines_round c b pos short pl its l0 l1 l2 c0 c1 c2 q first n i hI⟩
    · simp_all [RefsOK, riLines_S, riLines_c, riLines_o, riLines_Inv, D.refs, Obj.refs, rEnc]
    · simp_all [riLines_S, riLines_fin, riLines_o, riLines_Inv, RT.refsOK, RefsOK, D.refs, Obj.refs, rEnc]
  · intro env os b q hd_ hb
    unfold riLines_d at hd_
    split at hd_
    · obtain ⟨hs, hd_⟩ := staticD_some hd_
      cases hd_
      simp only [Bool.and_eq_true, decide_eq_true_eq] at hb
      obtain ⟨⟨⟨⟨⟨rfl, rfl⟩, rfl⟩, rfl⟩, rfl⟩, hq⟩ := hb
      exact ⟨⟨by simpa using hq.1, hq.2.1, hq.2.2.1, hq.2.2.2.1, by simpa using hq.2.2.2.2.1.1, by simpa using hq.2.2.2.2.1.2.1, by simpa using hq.2.2.2.2.1.2.2, hq.2.2.2.2.2.1, hq.2.2.2.2.2.2⟩, rfl, rfl⟩
    · cases hd_
def partN (b : List UInt8) (s : Rn) : Bool × Rn × Int × List Line :=
  let c := nget b 3 s
  let n := nget b 1 c.2
  let f := nget b 3 n.2
  let q := gLines (rdN b) true n.1.toNat f.1 f.2
  (n.1 == 0 && f.1 != 0, q.1, c.1, q.2)
def stepN0 (b : List UInt8) (s : QS Rn) : Bool × QS Rn := ((partN b s.r).1, { s with r := (partN b s.r).2.1, l0 := s.l0 ++ (partN b s.r).2.2.2, c0 := (partN b s.r).2.2.1 })
def stepN1 (b : List UInt8) (s : QS Rn) : Bool × QS Rn := ((partN b s.r).1, { s with r := (partN b s.r).2.1, l1 := s.l1 ++ (partN b s.r).2.2.2, c1 := (partN b s.r).2.2.1 })
def stepN2 (b : List UInt8) (s : QS Rn) : Bool × QS Rn := ((partN b s.r).1, { s with r := (partN b s.r).2.1, l2 := s.l2 ++ (partN b s.r).2.2.2, c2 := (partN b s.r).2.2.1 })
def runN (b : List UInt8) : Nat → QS Rn → Bool × QS Rn
  | 0, s => bif (stepN0 b s).1 then stepN0 b s else bif (stepN1 b (stepN0 b s).2).1 then stepN1 b (stepN0 b s).2 else stepN2 b (stepN1 b (stepN0 b s).2).2
  | 1, s => bif (stepN1 b s).1 then stepN1 b s else stepN2 b (stepN1 b s).2
  | 2, s => stepN2 b s
  | _, s => (false, s)
theorem partN_of {b : List UInt8} {s s1 s2 s3 : Rn} {c n f : Int} (h1 : nget b 3 s = (c, s1)) (h2 : nget b 1 s1 = (n, s2)) (h3 : nget b 3 s2 = (f, s3)) :
    partN b s = (n == 0 && f != 0, (gLines (rdN b) true n.toNat f s3).1, c, (gLines (rdN b) true n.toNat f s3).2) := by
  simp only [partN, h1, h2, h3]
theorem nget_pos {b : List UInt8} {w : Nat} {s : Rn} (h : s.pos ≤ b.length) : (nget b w s).2.pos ≤ b.length := by
  unfold nget; split
  · assumption
  · exact h
theorem gLinesN_pos {b : List UInt8} : ∀ (n : Nat) (o : Int) (s : Rn), s.pos ≤ b.length → (gLines (rdN b) true n o s).1.pos ≤ b.length
  | 0, _, _, h => h
  | n + 1, o, ⟨p, true⟩, h => by rw [gLinesN_stop]; exact h
  | n + 1, o, ⟨p, false⟩, h => by rw [gLinesN_succ]; exact gLinesN_pos n _ _ (nget_pos (nget_pos (nget_pos h)))
theorem gItemsN_pos {b : List UInt8} : ∀ (n : Nat) (s : Rn), s.pos ≤ b.length → (gItems (rdN b) true n s).1.pos ≤ b.length
  | 0, _, h => h
  | n + 1, ⟨p, true⟩, h => by rw [gItemsN_stop]; exact h
  | n + 1, ⟨p, false⟩, h => by rw [gItemsN_succ]; exact gItemsN_pos n _ (nget_pos (nget_pos (nget_pos h)))
theorem nget1_le (b : List UInt8) (s : Rn) : 0 ≤ (nget b 1 s).1 ∧ (nget b 1 s).1 ≤ 255 := by
  unfold nget; split
  · have := rget_lt1 (b.drop s.pos); simp only; omega
  · simp
theorem partN_pos {b : List UInt8} {s : Rn} (h : s.pos ≤ b.length) : (partN b s).2.1.pos ≤ b.length := gLinesN_pos _ _ _ (nget_pos (nget_pos (nget_pos h)))
theorem partN_len (b : List UInt8) (s : Rn) : (partN b s).2.2.2.length ≤ 255 := by
  unfold partN
  refine Nat.le_trans (gLines_len _ _ _ _ _) ?_
  have := nget1_le b (nget b 3 s).2
  omega
def markN (s : Rn) : Rn := ⟨s.pos, true⟩
theorem partN_part {b : List UInt8} {s : Rn} (h : (partN b s).1 = false) : gPart (rdN b) true markN s = (partN b s).2 := by
  have h' : ((nget b 1 (nget b 3 s).2).1 == 0 && (nget b 3 (nget b 1 (nget b 3 s).2).2).1 != 0) = false := h
  simp only [gPart, partN]
  have e : ∀ w s, (rdN b).get w s = nget b w s := fun _ _ => rfl
  simp only [e, h', cond_false]
theorem partN_mark {b : List UInt8} {s : Rn} (h : (partN b s).1 = true) : (rdN b).bad (gPart (rdN b) true markN s).1 = true := by
  have h' : ((nget b 1 (nget b 3 s).2).1 == 0 && (nget b 3 (nget b 1 (nget b 3 s).2).2).1 != 0) = true := h
  have e : ∀ w s, (rdN b).get w s = nget b w s := fun _ _ => rfl
  simp only [gPart, e, h', cond_true]
  exact gLines_stay (rdN_ok b) true _ _ _ rfl
theorem runN_run {b : List UInt8} {s : QS Rn} : ((runN b 0 s).1 = false → runQ (rdN b) true markN 0 s = (runN b 0 s).2) ∧ ((runN b 0 s).1 = true → (rdN b).bad (runQ (rdN b) true markN 0 s).r = true) := by
  have st := fun x => gPart_stay (rdN_ok b) true markN (fun _ => rfl) x
  simp only [runN, runQ, part0, part1, part2, stepN0, stepN1, stepN2]
  cases h0 : (partN b s.r).1 with
  | true =>
    simp only [cond_true]
    exact ⟨fun h => (by cases h), fun _ => st _ (st _ (partN_mark h0))⟩
  | false =>
    simp only [cond_false, partN_part h0]
    cases h1 : (partN b (partN b s.r).2.1).1 with
    | true =>
      simp only [cond_true]
      exact ⟨fun h => (by cases h), fun _ => st _ (partN_mark h1)⟩
    | false =>
      simp only [cond_false, partN_part h1]
      cases h2 : (partN b (partN b (partN b s.r).2.1).2.1).1 with
      | true => exact ⟨fun h => (by cases h), fun _ => partN_mark h2⟩
      | false => exact ⟨fun _ => by simp only [partN_part h2], fun h => (by cases h)⟩
open Go.Proofs
structure riQ_St where
  c : Bool
  b : List UInt8
  pos : Int
  short : Bool
  pl : Int
  its : List Item
  l0 : List Line
  l1 : List Line
  l2 : List Line
  c0 : Int
  c1 : Int
  c2 : Int
  zs : List Int
  q : Nat
def riQ_c (c : Bool) (b : List UInt8) (pos : Int) (short : Bool) (pl : Int) (its : List Item) (l0 : List Line) (l1 : List Line) (l2 : List Line) (c0 : Int) (c1 : Int) (c2 : Int) (zs : List Int) (q : Nat) : Env RC := [(4, .ptr 0 []), (5, .ptr 1 []), (11, .int .i64 (q : Int)), (2, .ptr 6 []), (3, .int .i64 (0))]
def riQ_o (c : Bool) (b : List UInt8) (pos : Int) (short : Bool) (pl : Int) (its : List Item) (l0 : List Line) (l1 : List Line) (l2 : List Line) (c0 : Int) (c1 : Int) (c2 : Int) (zs : List Int) (q : Nat) : List (Obj RC) := [.var 101 (.acons (.sl (C := RC) .u8 c b) (.acons (.int .i64 pos) (.acons (.bool short) .anil))), .var 30 (.acons (.int .i64 pl) (.acons (.vs 2 (its.length)) (.acons (.acons (.vs 3 (l0.length)) (.acons (.vs 4 (l1.length)) (.acons (.vs 5 (l2.length)) .anil))) (.acons (.arr (C := RC) .int 3 [c0, c1, c2]) .anil)))), .vec (C := RC) .item true its, .vec (C := RC) .line true l0, .vec (C := RC) .line true l1, .vec (C := RC) .line true l2, .var 30 (.acons (.int .i64 (0)) (.acons (.sl (C := RC) .item true []) (.acons (.acons (.sl (C := RC) .line true []) (.acons (.sl (C := RC) .line true []) (.acons (.sl (C := RC) .line true []) .anil))) (.acons (.arr (C := RC) .int 3 zs) .anil))))]
noncomputable def riQ_r (c : Bool) (b : List UInt8) (pos : Int) (short : Bool) (pl : Int) (its : List Item) (l0 : List Line) (l1 : List Line) (l2 : List Line) (c0 : Int) (c1 : Int) (c2 : Int) (zs : List Int) (q : Nat) := rndO s07 uq_1 44 13 60 7 [4, 5, 11, 2, 3] [3] [.slot 4 0, .slot 5 0, .path 1 [1], .path 1 [2, 0], .path 1 [2, 1], .path 1 [2, 2], .slot 2 0] (riQ_c c b pos short pl its l0 l1 l2 c0 c1 c2 zs q) (riQ_o c b pos short pl its l0 l1 l2 c0 c1 c2 zs q)
set_option maxHeartbeats 4000000 in
theorem riQ_eq0 (c : Bool) (b : List UInt8) (pos : Int) (short : Bool) (pl : Int) (its : List Item) (l0 l1 l2 : List Line) (c0 c1 c2 : Int) (zs : List Int) : riQ_r c b pos short pl its l0 l1 l2 c0 c1 c2 zs 0 = (let Z0 : Nat := List.length b; let Z1 : Bool := decide (Z0 ≤ (1000000000000 : Nat)); let Z2 : Bool := Prod.snd (getP b pos (3 : Int)) != (0 : Int); let Z3 : Nat := List.length its; let Z4 : Nat := List.length l0; let Z5 : Nat := List.length l1; let Z6 : Nat := List.length l2; let Z7 : Bool := decide (Z3 = Z3) && decide (Z4 = Z4) && decide (Z5 = Z5) && decide (Z6 = Z6); let Z8 : Int := (↑Z0 : Int); let Z9 : D RC := D.int .i64 0; let Z10 : X × Env RC := (X.normal, [(4, D.ptr 0 []), (5, D.ptr 1 []), (11, D.int .i64 1), (2, D.ptr 6 []), (3, Z9)]); let Z11 : D RC := D.sl RTy.u8 c b; let Z12 : Rdr Rn := rdN b; let Z13 : Rn × List Line := gLines Z12 true (0 : Nat) (0 : Int) (Rn.mk pos.toNat true); let Z14 : D RC := .anil; let Z15 : D RC := D.int .i64 pl; let Z16 : D RC := D.vs 2 Z3; let Z17 : List Line := addL (0 : Int) (0 : Int) l0 Z13.2; let Z18 : List Line := addL (0 : Int) (1 : Int) l1 Z13.2; let Z19 : List Line := addL (0 : Int) (2 : Int) l2 Z13.2; let Z20 : D RC := D.acons (D.arr RTy.int (3 : Nat) [(0 : Int), c1, c2]) Z14; let Z21 : Option (Obj RC) := some (Obj.vec RTy.item true its); let Z22 : D RC := D.sl RTy.line true []; let Z23 : D RC := D.acons Z22 (D.acons Z22 (D.acons Z22 Z14)); let Z24 : List (Option (Obj RC)) := [some (Obj.var 30 (.acons Z9 (D.acons (D.sl RTy.item true []) (.acons Z23 (D.acons (D.arr RTy.int (3 : Nat) zs) Z14)))))]; let Z25 : Int := IntKind.wrap .i64 (pos + 3); let Z26 : Int := Prod.fst (getP b pos (3 : Int)); let Z27 : X × Env RC := (X.ret, [(3, D.int .i64 50)]); let Z28 : Rn := Rn.mk Z25.toNat true; let Z29 : Rn × List Line := gLines Z12 true (0 : Nat) (Z26 + (0 : Int)) Z28; let Z30 : Option (Obj RC) := some (Obj.var 101 (.acons Z11 (D.acons (D.int .i64 (↑Z29.1.pos : Int)) (.acons (D.bool Z29.1.short) Z14)))); let Z31 : List Line := addL (0 : Int) (0 : Int) l0 Z29.2; let Z32 : List Line := addL (0 : Int) (1 : Int) l1 Z29.2; let Z33 : List Line := addL (0 : Int) (2 : Int) l2 Z29.2; let Z34 : Option (Obj RC) := some (Obj.var 30 (.acons Z15 (D.acons Z16 (D.acons (D.acons (D.vs 3 Z31.length) (.acons (D.vs 4 Z32.length) (.acons (D.vs 5 Z33.length) Z14))) Z20)))); let Z35 : List (Option (Obj RC)) := [some (Obj.var 30 (.acons Z9 (D.acons (D.sl RTy.item true []) (.acons Z23 (D.acons (D.arr RTy.int (3 : Nat) (List.replicate (3 : Nat) (0 : Int))) Z14)))))]; let Z36 : Int := IntKind.wrap .i64 (pos + 1); let Z37 : Int := Prod.fst (getP b pos (1 : Int)); let Z38 : Nat := Int.toNat Z37 - 0; let Z39 : Rn × List Line := gLines Z12 true Z38 (0 : Int) (Rn.mk Z36.toNat true); let Z40 : List Line := addL (0 : Int) (0 : Int) l0 Z39.2; let Z41 : List Line := addL (0 : Int) (1 : Int) l1 Z39.2; let Z42 : List Line := addL (0 : Int) (2 : Int) l2 Z39.2; let Z43 : RO_ := some (Z10, some (Obj.var 101 (.acons Z11 (D.acons (D.int .i64 (↑Z39.1.pos : Int)) (.acons (D.bool Z39.1.short) Z14)))) :: some (Obj.var 30 (.acons Z15 (D.acons Z16 (D.acons (D.acons (D.vs 3 Z40.length) (.acons (D.vs 4 Z41.length) (.acons (D.vs 5 Z42.length) Z14))) Z20)))) :: Z21 :: some (Obj.vec RTy.line true Z40) :: some (Obj.vec RTy.line true Z41) :: some (Obj.vec RTy.line true Z42) :: Z24); let Z44 : Int := IntKind.wrap .i64 (Z36 + (3 : Int)); let Z45 : Int := Prod.fst (getP b Z36 (3 : Int)); let Z46 : Rn × List Line := gLines Z12 true Z38 (Z45 + (0 : Int)) (Rn.mk Z44.toNat true); let Z47 : Option (Obj RC) := some (Obj.var 101 (.acons Z11 (D.acons (D.int .i64 (↑Z46.1.pos : Int)) (.acons (D.bool Z46.1.short) Z14)))); let Z48 : List Line := addL (0 : Int) (0 : Int) l0 Z46.2; let Z49 : List Line := addL (0 : Int) (1 : Int) l1 Z46.2; let Z50 : List Line := addL (0 : Int) (2 : Int) l2 Z46.2; let Z51 : Option (Obj RC) := some (Obj.var 30 (.acons Z15 (D.acons Z16 (D.acons (D.acons (D.vs 3 Z48.length) (.acons (D.vs 4 Z49.length) (.acons (D.vs 5 Z50.length) Z14))) Z20)))); let Z52 : RO_ := some (Z10, Z47 :: Z51 :: Z21 :: some (Obj.vec RTy.line true Z48) :: some (Obj.vec RTy.line true Z49) :: some (Obj.vec RTy.line true Z50) :: Z24); let Z53 : Rn × List Line := gLines Z12 true (0 : Nat) (0 : Int) Z28; let Z54 : List Line := addL (0 : Int) (0 : Int) l0 Z53.2; let Z55 : List Line := addL (0 : Int) (1 : Int) l1 Z53.2; let Z56 : List Line := addL (0 : Int) (2 : Int) l2 Z53.2; let Z57 : D RC := D.acons (D.arr RTy.int (3 : Nat) [Z26, c1, c2]) Z14; let Z58 : Int := IntKind.wrap .i64 (Z25 + (3 : Int)); let Z59 : Int := Prod.fst (getP b Z25 (3 : Int)); let Z60 : Rn × List Line := gLines Z12 true (0 : Nat) (Z59 + (0 : Int)) (Rn.mk Z58.toNat true); let Z61 : Option (Obj RC) := some (Obj.var 101 (.acons Z11 (D.acons (D.int .i64 (↑Z60.1.pos : Int)) (.acons (D.bool Z60.1.short) Z14)))); let Z62 : List Line := addL (0 : Int) (0 : Int) l0 Z60.2; let Z63 : List Line := addL (0 : Int) (1 : Int) l1 Z60.2; let Z64 : List Line := addL (0 : Int) (2 : Int) l2 Z60.2; let Z65 : Option (Obj RC) := some (Obj.var 30 (.acons Z15 (D.acons Z16 (D.acons (D.acons (D.vs 3 Z62.length) (.acons (D.vs 4 Z63.length) (.acons (D.vs 5 Z64.length) Z14))) Z57)))); let Z66 : Int := IntKind.wrap .i64 (Z25 + (1 : Int)); let Z67 : Int := Prod.fst (getP b Z25 (1 : Int)); let Z68 : Nat := Int.toNat Z67 - 0; let Z69 : Rn × List Line := gLines Z12 true Z68 (0 : Int) (Rn.mk Z66.toNat true); let Z70 : List Line := addL (0 : Int) (0 : Int) l0 Z69.2; let Z71 : List Line := addL (0 : Int) (1 : Int) l1 Z69.2; let Z72 : List Line := addL (0 : Int) (2 : Int) l2 Z69.2; let Z73 : RO_ := some (Z10, some (Obj.var 101 (.acons Z11 (D.acons (D.int .i64 (↑Z69.1.pos : Int)) (.acons (D.bool Z69.1.short) Z14)))) :: some (Obj.var 30 (.acons Z15 (D.acons Z16 (D.acons (D.acons (D.vs 3 Z70.length) (.acons (D.vs 4 Z71.length) (.acons (D.vs 5 Z72.length) Z14))) Z57)))) :: Z21 :: some (Obj.vec RTy.line true Z70) :: some (Obj.vec RTy.line true Z71) :: some (Obj.vec RTy.line true Z72) :: Z24); let Z74 : Int := IntKind.wrap .i64 (Z66 + (3 : Int)); let Z75 : Int := Prod.fst (getP b Z66 (3 : Int)); let Z76 : Rn × List Line := gLines Z12 true Z68 (Z75 + (0 : Int)) (Rn.mk Z74.toNat short); let Z77 : Option (Obj RC) := some (Obj.var 101 (.acons Z11 (D.acons (D.int .i64 (↑Z76.1.pos : Int)) (.acons (D.bool Z76.1.short) Z14)))); let Z78 : List Line := addL (0 : Int) (0 : Int) l0 Z76.2; let Z79 : List Line := addL (0 : Int) (1 : Int) l1 Z76.2; let Z80 : List Line := addL (0 : Int) (2 : Int) l2 Z76.2; let Z81 : Option (Obj RC) := some (Obj.var 30 (.acons Z15 (D.acons Z16 (D.acons (D.acons (D.vs 3 Z78.length) (.acons (D.vs 4 Z79.length) (.acons (D.vs 5 Z80.length) Z14))) Z57)))); let Z82 : RO_ := some (Z10, Z77 :: Z81 :: Z21 :: some (Obj.vec RTy.line true Z78) :: some (Obj.vec RTy.line true Z79) :: some (Obj.vec RTy.line true Z80) :: Z24); bif Z1 then bif Z2 then bif Z1 then bif Prod.snd (getP b pos (1 : Int)) != (0 : Int) then bif Z1 then bif Z2 then bif Z7 && decide ((0 : Int) ≤ (0 : Int) ∧ (0 : Int) ≤ (255 : Int) ∧ Z0 ≤ (1000000 : Nat) ∧ ((0 : Int) ≤ pos ∧ pos ≤ Z8) ∧ (Z4 ≤ (1000 : Nat) ∧ Z5 ≤ (1000 : Nat) ∧ Z6 ≤ (1000 : Nat)) ∧ ((0 : Int) ≤ (0 : Int) ∧ (0 : Int) ≤ (2 : Int)) ∧ (0 : Int) ≤ (0 : Int) ∧ (0 : Int) ≤ (16777215 : Int)) then some (Z10, some (Obj.var 101 (.acons Z11 (D.acons (D.int .i64 (↑Z13.1.pos : Int)) (.acons (D.bool Z13.1.short) Z14)))) :: some (Obj.var 30 (.acons Z15 (D.acons Z16 (D.acons (D.acons (D.vs 3 Z17.length) (.acons (D.vs 4 Z18.length) (.acons (D.vs 5 Z19.length) Z14))) Z20)))) :: Z21 :: some (Obj.vec RTy.line true Z17) :: some (Obj.vec RTy.line true Z18) :: some (Obj.vec RTy.line true Z19) :: Z24) else none else bif Z7 && decide ((0 : Int) ≤ (0 : Int) ∧ (0 : Int) ≤ (255 : Int) ∧ Z0 ≤ (1000000 : Nat) ∧ ((0 : Int) ≤ Z25 ∧ Z25 ≤ Z8) ∧ (Z4 ≤ (1000 : Nat) ∧ Z5 ≤ (1000 : Nat) ∧ Z6 ≤ (1000 : Nat)) ∧ ((0 : Int) ≤ (0 : Int) ∧ (0 : Int) ≤ (2 : Int)) ∧ (0 : Int) ≤ Z26 ∧ Z26 ≤ (16777215 : Int)) then bif Z26 != (0 : Int) then some (Z27, Z30 :: Z34 :: Z21 :: some (Obj.vec RTy.line true Z31) :: some (Obj.vec RTy.line true Z32) :: some (Obj.vec RTy.line true Z33) :: Z35) else some (Z10, Z30 :: Z34 :: Z21 :: some (Obj.vec RTy.line true Z31) :: some (Obj.vec RTy.line true Z32) :: some (Obj.vec RTy.line true Z33) :: Z24) else none else none else bif Z1 then bif Prod.snd (getP b Z36 (3 : Int)) != (0 : Int) then bif Z7 && decide ((0 : Int) ≤ Z37 ∧ Z37 ≤ (255 : Int) ∧ Z0 ≤ (1000000 : Nat) ∧ ((0 : Int) ≤ Z36 ∧ Z36 ≤ Z8) ∧ (Z4 ≤ (1000 : Nat) ∧ Z5 ≤ (1000 : Nat) ∧ Z6 ≤ (1000 : Nat)) ∧ ((0 : Int) ≤ (0 : Int) ∧ (0 : Int) ≤ (2 : Int)) ∧ (0 : Int) ≤ (0 : Int) ∧ (0 : Int) ≤ (16777215 : Int)) then bif Z37 == (0 : Int) then Z43 else Z43 else none else bif Z7 && decide ((0 : Int) ≤ Z37 ∧ Z37 ≤ (255 : Int) ∧ Z0 ≤ (1000000 : Nat) ∧ ((0 : Int) ≤ Z44 ∧ Z44 ≤ Z8) ∧ (Z4 ≤ (1000 : Nat) ∧ Z5 ≤ (1000 : Nat) ∧ Z6 ≤ (1000 : Nat)) ∧ ((0 : Int) ≤ (0 : Int) ∧ (0 : Int) ≤ (2 : Int)) ∧ (0 : Int) ≤ Z45 ∧ Z45 ≤ (16777215 : Int)) then bif Z37 == (0 : Int) then bif Z45 != (0 : Int) then some (Z27, Z47 :: Z51 :: Z21 :: some (Obj.vec RTy.line true Z48) :: some (Obj.vec RTy.line true Z49) :: some (Obj.vec RTy.line true Z50) :: Z35) else Z52 else Z52 else none else none else none else bif Z1 then bif Prod.snd (getP b Z25 (1 : Int)) != (0 : Int) then bif Z1 then bif Prod.snd (getP b Z25 (3 : Int)) != (0 : Int) then bif Z7 && decide ((0 : Int) ≤ (0 : Int) ∧ (0 : Int) ≤ (255 : Int) ∧ Z0 ≤ (1000000 : Nat) ∧ ((0 : Int) ≤ Z25 ∧ Z25 ≤ Z8) ∧ (Z4 ≤ (1000 : Nat) ∧ Z5 ≤ (1000 : Nat) ∧ Z6 ≤ (1000 : Nat)) ∧ ((0 : Int) ≤ (0 : Int) ∧ (0 : Int) ≤ (2 : Int)) ∧ (0 : Int) ≤ (0 : Int) ∧ (0 : Int) ≤ (16777215 : Int)) then some (Z10, some (Obj.var 101 (.acons Z11 (D.acons (D.int .i64 (↑Z53.1.pos : Int)) (.acons (D.bool Z53.1.short) Z14)))) :: some (Obj.var 30 (.acons Z15 (D.acons Z16 (D.acons (D.acons (D.vs 3 Z54.length) (.acons (D.vs 4 Z55.length) (.acons (D.vs 5 Z56.length) Z14))) Z57)))) :: Z21 :: some (Obj.vec RTy.line true Z54) :: some (Obj.vec RTy.line true Z55) :: some (Obj.vec RTy.line true Z56) :: Z24) else none else bif Z7 && decide ((0 : Int) ≤ (0 : Int) ∧ (0 : Int) ≤ (255 : Int) ∧ Z0 ≤ (1000000 : Nat) ∧ ((0 : Int) ≤ Z58 ∧ Z58 ≤ Z8) ∧ (Z4 ≤ (1000 : Nat) ∧ Z5 ≤ (1000 : Nat) ∧ Z6 ≤ (1000 : Nat)) ∧ ((0 : Int) ≤ (0 : Int) ∧ (0 : Int) ≤ (2 : Int)) ∧ (0 : Int) ≤ Z59 ∧ Z59 ≤ (16777215 : Int)) then bif Z59 != (0 : Int) then some (Z27, Z61 :: Z65 :: Z21 :: some (Obj.vec RTy.line true Z62) :: some (Obj.vec RTy.line true Z63) :: some (Obj.vec RTy.line true Z64) :: Z35) else some (Z10, Z61 :: Z65 :: Z21 :: some (Obj.vec RTy.line true Z62) :: some (Obj.vec RTy.line true Z63) :: some (Obj.vec RTy.line true Z64) :: Z24) else none else none else bif Z1 then bif Prod.snd (getP b Z66 (3 : Int)) != (0 : Int) then bif Z7 && decide ((0 : Int) ≤ Z67 ∧ Z67 ≤ (255 : Int) ∧ Z0 ≤ (1000000 : Nat) ∧ ((0 : Int) ≤ Z66 ∧ Z66 ≤ Z8) ∧ (Z4 ≤ (1000 : Nat) ∧ Z5 ≤ (1000 : Nat) ∧ Z6 ≤ (1000 : Nat)) ∧ ((0 : Int) ≤ (0 : Int) ∧ (0 : Int) ≤ (2 : Int)) ∧ (0 : Int) ≤ (0 : Int) ∧ (0 : Int) ≤ (16777215 : Int)) then bif Z67 == (0 : Int) then Z73 else Z73 else none else bif Z7 && decide ((0 : Int) ≤ Z67 ∧ Z67 ≤ (255 : Int) ∧ Z0 ≤ (1000000 : Nat) ∧ ((0 : Int) ≤ Z74 ∧ Z74 ≤ Z8) ∧ (Z4 ≤ (1000 : Nat) ∧ Z5 ≤ (1000 : Nat) ∧ Z6 ≤ (1000 : Nat)) ∧ ((0 : Int) ≤ (0 : Int) ∧ (0 : Int) ≤ (2 : Int)) ∧ (0 : Int) ≤ Z75 ∧ Z75 ≤ (16777215 : Int)) then bif Z67 == (0 : Int) then bif Z75 != (0 : Int) then some (Z27, Z77 :: Z81 :: Z21 :: some (Obj.vec RTy.line true Z78) :: some (Obj.vec RTy.line true Z79) :: some (Obj.vec RTy.line true Z80) :: Z35) else Z82 else Z82 else none else none else none else none) := by kernel_rfl
set_option maxHeartbeats 4000000 in
theorem riQ_eq1 (c : Bool) (b : List UInt8) (pos : Int) (short : Bool) (pl : Int) (its : List Item) (l0 l1 l2 : List Line) (c0 c1 c2 : Int) (zs : List Int) : riQ_r c b pos short pl its l0 l1 l2 c0 c1 c2 zs 1 = (let Z0 : Nat := List.length b; let Z1 : Bool := decide (Z0 ≤ (1000000000000 : Nat)); let Z2 : Bool := Prod.snd (getP b pos (3 : Int)) != (0 : Int); let Z3 : Nat := List.length its; let Z4 : Nat := List.length l0; let Z5 : Nat := List.length l1; let Z6 : Nat := List.length l2; let Z7 : Bool := decide (Z3 = Z3) && decide (Z4 = Z4) && decide (Z5 = Z5) && decide (Z6 = Z6); let Z8 : Int := (↑Z0 : Int); let Z9 : D RC := D.int .i64 0; let Z10 : X × Env RC := (X.normal, [(4, D.ptr 0 []), (5, D.ptr 1 []), (11, D.int .i64 2), (2, D.ptr 6 []), (3, Z9)]); let Z11 : D RC := D.sl RTy.u8 c b; let Z12 : Rdr Rn := rdN b; let Z13 : Rn × List Line := gLines Z12 true (0 : Nat) (0 : Int) (Rn.mk pos.toNat true); let Z14 : D RC := .anil; let Z15 : D RC := D.int .i64 pl; let Z16 : D RC := D.vs 2 Z3; let Z17 : List Line := addL (1 : Int) (0 : Int) l0 Z13.2; let Z18 : List Line := addL (1 : Int) (1 : Int) l1 Z13.2; let Z19 : List Line := addL (1 : Int) (2 : Int) l2 Z13.2; let Z20 : D RC := D.acons (D.arr RTy.int (3 : Nat) [c0, (0 : Int), c2]) Z14; let Z21 : Option (Obj RC) := some (Obj.vec RTy.item true its); let Z22 : D RC := D.sl RTy.line true []; let Z23 : D RC := D.acons Z22 (D.acons Z22 (D.acons Z22 Z14)); let Z24 : List (Option (Obj RC)) := [some (Obj.var 30 (.acons Z9 (D.acons (D.sl RTy.item true []) (.acons Z23 (D.acons (D.arr RTy.int (3 : Nat) zs) Z14)))))]; let Z25 : Int := IntKind.wrap .i64 (pos + 3); let Z26 : Int := Prod.fst (getP b pos (3 : Int)); let Z27 : X × Env RC := (X.ret, [(3, D.int .i64 50)]); let Z28 : Rn := Rn.mk Z25.toNat true; let Z29 : Rn × List Line := gLines Z12 true (0 : Nat) (Z26 + (0 : Int)) Z28; let Z30 : Option (Obj RC) := some (Obj.var 101 (.acons Z11 (D.acons (D.int .i64 (↑Z29.1.pos : Int)) (.acons (D.bool Z29.1.short) Z14)))); let Z31 : List Line := addL (1 : Int) (0 : Int) l0 Z29.2; let Z32 : List Line := addL (1 : Int) (1 : Int) l1 Z29.2; let Z33 : List Line := addL (1 : Int) (2 : Int) l2 Z29.2; let Z34 : Option (Obj RC) := some (Obj.var 30 (.acons Z15 (D.acons Z16 (D.acons (D.acons (D.vs 3 Z31.length) (.acons (D.vs 4 Z32.length) (.acons (D.vs 5 Z33.length) Z14))) Z20)))); let Z35 : List (Option (Obj RC)) := [some (Obj.var 30 (.acons Z9 (D.acons (D.sl RTy.item true []) (.acons Z23 (D.acons (D.arr RTy.int (3 : Nat) (List.replicate (3 : Nat) (0 : Int))) Z14)))))]; let Z36 : Int := IntKind.wrap .i64 (pos + 1); let Z37 : Int := Prod.fst (getP b pos (1 : Int)); let Z38 : Nat := Int.toNat Z37 - 0; let Z39 : Rn × List Line := gLines Z12 true Z38 (0 : Int) (Rn.mk Z36.toNat true); let Z40 : List Line := addL (1 : Int) (0 : Int) l0 Z39.2; let Z41 : List Line := addL (1 : Int) (1 : Int) l1 Z39.2; let Z42 : List Line := addL (1 : Int) (2 : Int) l2 Z39.2; let Z43 : RO_ := some (Z10, some (Obj.var 101 (.acons Z11 (D.acons (D.int .i64 (↑Z39.1.pos : Int)) (.acons (D.bool Z39.1.short) Z14)))) :: some (Obj.var 30 (.acons Z15 (D.acons Z16 (D.acons (D.acons (D.vs 3 Z40.length) (.acons (D.vs 4 Z41.length) (.acons (D.vs 5 Z42.length) Z14))) Z20)))) :: Z21 :: some (Obj.vec RTy.line true Z40) :: some (Obj.vec RTy.line true Z41) :: some (Obj.vec RTy.line true Z42) :: Z24); let Z44 : Int := IntKind.wrap .i64 (Z36 + (3 : Int)); let Z45 : Int := Prod.fst (getP b Z36 (3 : Int)); let Z46 : Rn × List Line := gLines Z12 true Z38 (Z45 + (0 : Int)) (Rn.mk Z44.toNat true); let Z47 : Option (Obj RC) := some (Obj.var 101 (.acons Z11 (D.acons (D.int .i64 (↑Z46.1.pos : Int)) (.acons (D.bool Z46.1.short) Z14)))); let Z48 : List Line := addL (1 : Int) (0 : Int) l0 Z46.2; let Z49 : List Line := addL (1 : Int) (1 : Int) l1 Z46.2; let Z50 : List Line := addL (1 : Int) (2 : Int) l2 Z46.2; let Z51 : Option (Obj RC) := some (Obj.var 30 (.acons Z15 (D.acons Z16 (D.acons (D.acons (D.vs 3 Z48.length) (.acons (D.vs 4 Z49.length) (.acons (D.vs 5 Z50.length) Z14))) Z20)))); let Z52 : RO_ := some (Z10, Z47 :: Z51 :: Z21 :: some (Obj.vec RTy.line true Z48) :: some (Obj.vec RTy.line true Z49) :: some (Obj.vec RTy.line true Z50) :: Z24); let Z53 : Rn × List Line := gLines Z12 true (0 : Nat) (0 : Int) Z28; let Z54 : List Line := addL (1 : Int) (0 : Int) l0 Z53.2; let Z55 : List Line := addL (1 : Int) (1 : Int) l1 Z53.2; let Z56 : List Line := addL (1 : Int) (2 : Int) l2 Z53.2; let Z57 : D RC := D.acons (D.arr RTy.int (3 : Nat) [c0, Z26, c2]) Z14; let Z58 : Int := IntKind.wrap .i64 (Z25 + (3 : Int)); let Z59 : Int := Prod.fst (getP b Z25 (3 : Int)); let Z60 : Rn × List Line := gLines Z12 true (0 : Nat) (Z59 + (0 : Int)) (Rn.mk Z58.toNat true); let Z61 : Option (Obj RC) := some (Obj.var 101 (.acons Z11 (D.acons (D.int .i64 (↑Z60.1.pos : Int)) (.acons (D.bool Z60.1.short) Z14)))); let Z62 : List Line := addL (1 : Int) (0 : Int) l0 Z60.2; let Z63 : List Line := addL (1 : Int) (1 : Int) l1 Z60.2; let Z64 : List Line := addL (1 : Int) (2 : Int) l2 Z60.2; let Z65 : Option (Obj RC) := some (Obj.var 30 (.acons Z15 (D.acons Z16 (D.acons (D.acons (D.vs 3 Z62.length) (.acons (D.vs 4 Z63.length) (.acons (D.vs 5 Z64.length) Z14))) Z57)))); let Z66 : Int := IntKind.wrap .i64 (Z25 + (1 : Int)); let Z67 : Int := Prod.fst (getP b Z25 (1 : Int)); let Z68 : Nat := Int.toNat Z67 - 0; let Z69 : Rn × List Line := gLines Z12 true Z68 (0 : Int) (Rn.mk Z66.toNat true); let Z70 : List Line := addL (1 : Int) (0 : Int) l0 Z69.2; let Z71 : List Line := addL (1 : Int) (1 : Int) l1 Z69.2; let Z72 : List Line := addL (1 : Int) (2 : Int) l2 Z69.2; let Z73 : RO_ := some (Z10, some (Obj.var 101 (.acons Z11 (D.acons (D.int .i64 (↑Z69.1.pos : Int)) (.acons (D.bool Z69.1.short) Z14)))) :: some (Obj.var 30 (.acons Z15 (D.acons Z16 (D.acons (D.acons (D.vs 3 Z70.length) (.acons (D.vs 4 Z71.length) (.acons (D.vs 5 Z72.length) Z14))) Z57)))) :: Z21 :: some (Obj.vec RTy.line true Z70) :: some (Obj.vec RTy.line true Z71) :: some (Obj.vec RTy.line true Z72) :: Z24); let Z74 : Int := IntKind.wrap .i64 (Z66 + (3 : Int)); let Z75 : Int := Prod.fst (getP b Z66 (3 : Int)); let Z76 : Rn × List Line := gLines Z12 true Z68 (Z75 + (0 : Int)) (Rn.mk Z74.toNat short); let Z77 : Option (Obj RC) := some (Obj.var 101 (.acons Z11 (D.acons (D.int .i64 (↑Z76.1.pos : Int)) (.acons (D.bool Z76.1.short) Z14)))); let Z78 : List Line := addL (1 : Int) (0 : Int) l0 Z76.2; let Z79 : List Line := addL (1 : Int) (1 : Int) l1 Z76.2; let Z80 : List Line := addL (1 : Int) (2 : Int) l2 Z76.2; let Z81 : Option (Obj RC) := some (Obj.var 30 (.acons Z15 (D.acons Z16 (D.acons (D.acons (D.vs 3 Z78.length) (.acons (D.vs 4 Z79.length) (.acons (D.vs 5 Z80.length) Z14))) Z57)))); let Z82 : RO_ := some (Z10, Z77 :: Z81 :: Z21 :: some (Obj.vec RTy.line true Z78) :: some (Obj.vec RTy.line true Z79) :: some (Obj.vec RTy.line true Z80) :: Z24); bif Z1 then bif Z2 then bif Z1 then bif Prod.snd (getP b pos (1 : Int)) != (0 : Int) then bif Z1 then bif Z2 then bif Z7 && decide ((0 : Int) ≤ (0 : Int) ∧ (0 : Int) ≤ (255 : Int) ∧ Z0 ≤ (1000000 : Nat) ∧ ((0 : Int) ≤ pos ∧ pos ≤ Z8) ∧ (Z4 ≤ (1000 : Nat) ∧ Z5 ≤ (1000 : Nat) ∧ Z6 ≤ (1000 : Nat)) ∧ ((0 : Int) ≤ (1 : Int) ∧ (1 : Int) ≤ (2 : Int)) ∧ (0 : Int) ≤ (0 : Int) ∧ (0 : Int) ≤ (16777215 : Int)) then some (Z10, some (Obj.var 101 (.acons Z11 (D.acons (D.int .i64 (↑Z13.1.pos : Int)) (.acons (D.bool Z13.1.short) Z14)))) :: some (Obj.var 30 (.acons Z15 (D.acons Z16 (D.acons (D.acons (D.vs 3 Z17.length) (.acons (D.vs 4 Z18.length) (.acons (D.vs 5 Z19.length) Z14))) Z20)))) :: Z21 :: some (Obj.vec RTy.line true Z17) :: some (Obj.vec RTy.line true Z18) :: some (Obj.vec RTy.line true Z19) :: Z24) else none else bif Z7 && decide ((0 : Int) ≤ (0 : Int) ∧ (0 : Int) ≤ (255 : Int) ∧ Z0 ≤ (1000000 : Nat) ∧ ((0 : Int) ≤ Z25 ∧ Z25 ≤ Z8) ∧ (Z4 ≤ (1000 : Nat) ∧ Z5 ≤ (1000 : Nat) ∧ Z6 ≤ (1000 : Nat)) ∧ ((0 : Int) ≤ (1 : Int) ∧ (1 : Int) ≤ (2 : Int)) ∧ (0 : Int) ≤ Z26 ∧ Z26 ≤ (16777215 : Int)) then bif Z26 != (0 : Int) then some (Z27, Z30 :: Z34 :: Z21 :: some (Obj.vec RTy.line true Z31) :: some (Obj.vec RTy.line true Z32) :: some (Obj.vec RTy.line true Z33) :: Z35) else some (Z10, Z30 :: Z34 :: Z21 :: some (Obj.vec RTy.line true Z31) :: some (Obj.vec RTy.line true Z32) :: some (Obj.vec RTy.line true Z33) :: Z24) else none else none else bif Z1 then bif Prod.snd (getP b Z36 (3 : Int)) != (0 : Int) then bif Z7 && decide ((0 : Int) ≤ Z37 ∧ Z37 ≤ (255 : Int) ∧ Z0 ≤ (1000000 : Nat) ∧ ((0 : Int) ≤ Z36 ∧ Z36 ≤ Z8) ∧ (Z4 ≤ (1000 : Nat) ∧ Z5 ≤ (1000 : Nat) ∧ Z6 ≤ (1000 : Nat)) ∧ ((0 : Int) ≤ (1 : Int) ∧ (1 : Int) ≤ (2 : Int)) ∧ (0 : Int) ≤ (0 : Int) ∧ (0 : Int) ≤ (16777215 : Int)) then bif Z37 == (0 : Int) then Z43 else Z43 else none else bif Z7 && decide ((0 : Int) ≤ Z37 ∧ Z37 ≤ (255 : Int) ∧ Z0 ≤ (1000000 : Nat) ∧ ((0 : Int) ≤ Z44 ∧ Z44 ≤ Z8) ∧ (Z4 ≤ (1000 : Nat) ∧ Z5 ≤ (1000 : Nat) ∧ Z6 ≤ (1000 : Nat)) ∧ ((0 : Int) ≤ (1 : Int) ∧ (1 : Int) ≤ (2 : Int)) ∧ (0 : Int) ≤ Z45 ∧ Z45 ≤ (16777215 : Int)) then bif Z37 == (0 : Int) then bif Z45 != (0 : Int) then some (Z27, Z47 :: Z51 :: Z21 :: some (Obj.vec RTy.line true Z48) :: some (Obj.vec RTy.line true Z49) :: some (Obj.vec RTy.line true Z50) :: Z35) else Z52 else Z52 else none else none else none else bif Z1 then bif Prod.snd (getP b Z25 (1 : Int)) != (0 : Int) then bif Z1 then bif Prod.snd (getP b Z25 (3 : Int)) != (0 : Int) then bif Z7 && decide ((0 : Int) ≤ (0 : Int) ∧ (0 : Int) ≤ (255 : Int) ∧ Z0 ≤ (1000000 : Nat) ∧ ((0 : Int) ≤ Z25 ∧ Z25 ≤ Z8) ∧ (Z4 ≤ (1000 : Nat) ∧ Z5 ≤ (1000 : Nat) ∧ Z6 ≤ (1000 : Nat)) ∧ ((0 : Int) ≤ (1 : Int) ∧ (1 : Int) ≤ (2 : Int)) ∧ (0 : Int) ≤ (0 : Int) ∧ (0 : Int) ≤ (16777215 : Int)) then some (Z10, some (Obj.var 101 (.acons Z11 (D.acons (D.int .i64 (↑Z53.1.pos : Int)) (.acons (D.bool Z53.1.short) Z14)))) :: some (Obj.var 30 (.acons Z15 (D.acons Z16 (D.acons (D.acons (D.vs 3 Z54.length) (.acons (D.vs 4 Z55.length) (.acons (D.vs 5 Z56.length) Z14))) Z57)))) :: Z21 :: some (Obj.vec RTy.line true Z54) :: some (Obj.vec RTy.line true Z55) :: some (Obj.vec RTy.line true Z56) :: Z24) else none else bif Z7 && decide ((0 : Int) ≤ (0 : Int) ∧ (0 : Int) ≤ (255 : Int) ∧ Z0 ≤ (1000000 : Nat) ∧ ((0 : Int) ≤ Z58 ∧ Z58 ≤ Z8) ∧ (Z4 ≤ (1000 : Nat) ∧ Z5 ≤ (1000 : Nat) ∧ Z6 ≤ (1000 : Nat)) ∧ ((0 : Int) ≤ (1 : Int) ∧ (1 : Int) ≤ (2 : Int)) ∧ (0 : Int) ≤ Z59 ∧ Z59 ≤ (16777215 : Int)) then bif Z59 != (0 : Int) then some (Z27, Z61 :: Z65 :: Z21 :: some (Obj.vec RTy.line true Z62) :: some (Obj.vec RTy.line true Z63) :: some (Obj.vec RTy.line true Z64) :: Z35) else some (Z10, Z61 :: Z65 :: Z21 :: some (Obj.vec RTy.line true Z62) :: some (Obj.vec RTy.line true Z63) :: some (Obj.vec RTy.line true Z64) :: Z24) else none else none else bif Z1 then bif Prod.snd (getP b Z66 (3 : Int)) != (0 : Int) then bif Z7 && decide ((0 : Int) ≤ Z67 ∧ Z67 ≤ (255 : Int) ∧ Z0 ≤ (1000000 : Nat) ∧ ((0 : Int) ≤ Z66 ∧ Z66 ≤ Z8) ∧ (Z4 ≤ (1000 : Nat) ∧ Z5 ≤ (1000 : Nat) ∧ Z6 ≤ (1000 : Nat)) ∧ ((0 : Int) ≤ (1 : Int) ∧ (1 : Int) ≤ (2 : Int)) ∧ (0 : Int) ≤ (0 : Int) ∧ (0 : Int) ≤ (16777215 : Int)) then bif Z67 == (0 : Int) then Z73 else Z73 else none else bif Z7 && decide ((0 : Int) ≤ Z67 ∧ Z67 ≤ (255 : Int) ∧ Z0 ≤ (1000000 : Nat) ∧ ((0 : Int) ≤ Z74 ∧ Z74 ≤ Z8) ∧ (Z4 ≤ (1000 : Nat) ∧ Z5 ≤ (1000 : Nat) ∧ Z6 ≤ (1000 : Nat)) ∧ ((0 : Int) ≤ (1 : Int) ∧ (1 : Int) ≤ (2 : Int)) ∧ (0 : Int) ≤ Z75 ∧ Z75 ≤ (16777215 : Int)) then bif Z67 == (0 : Int) then bif Z75 != (0 : Int) then some (Z27, Z77 :: Z81 :: Z21 :: some (Obj.vec RTy.line true Z78) :: some (Obj.vec RTy.line true Z79) :: some (Obj.vec RTy.line true Z80) :: Z35) else Z82 else Z82 else none else none else none else none) := by kernel_rfl
set_option maxHeartbeats 4000000 in
theorem riQ_eq2 (c : Bool) (b : List UInt8) (pos : Int) (short : Bool) (pl : Int) (its : List Item) (l0 l1 l2 : List Line) (c0 c1 c2 : Int) (zs : List Int) : riQ_r c b pos short pl its l0 l1 l2 c0 c1 c2 zs 2 = (let Z0 : Nat := List.length b; let Z1 : Bool := decide (Z0 ≤ (1000000000000 : Nat)); let Z2 : Bool := Prod.snd (getP b pos (3 : Int)) != (0 : Int); let Z3 : Nat := List.length its; let Z4 : Nat := List.length l0; let Z5 : Nat := List.length l1; let Z6 : Nat := List.length l2; let Z7 : Bool := decide (Z3 = Z3) && decide (Z4 = Z4) && decide (Z5 = Z5) && decide (Z6 = Z6); let Z8 : Int := (↑Z0 : Int); let Z9 : D RC := D.int .i64 0; let Z10 : X × Env RC := (X.normal, [(4, D.ptr 0 []), (5, D.ptr 1 []), (11, D.int .i64 3), (2, D.ptr 6 []), (3, Z9)]); let Z11 : D RC := D.sl RTy.u8 c b; let Z12 : Rdr Rn := rdN b; let Z13 : Rn × List Line := gLines Z12 true (0 : Nat) (0 : Int) (Rn.mk pos.toNat true); let Z14 : D RC := .anil; let Z15 : D RC := D.int .i64 pl; let Z16 : D RC := D.vs 2 Z3; let Z17 : List Line := addL (2 : Int) (0 : Int) l0 Z13.2; let Z18 : List Line := addL (2 : Int) (1 : Int) l1 Z13.2; let Z19 : List Line := addL (2 : Int) (2 : Int) l2 Z13.2; let Z20 : D RC := D.acons (D.arr RTy.int (3 : Nat) [c0, c1, (0 : Int)]) Z14; let Z21 : Option (Obj RC) := some (Obj.vec RTy.item true its); let Z22 : D RC := D.sl RTy.line true []; let Z23 : D RC := D.acons Z22 (D.acons Z22 (D.acons Z22 Z14)); let Z24 : List (Option (Obj RC)) := [some (Obj.var 30 (.acons Z9 (D.acons (D.sl RTy.item true []) (.acons Z23 (D.acons (D.arr RTy.int (3 : Nat) zs) Z14)))))]; let Z25 : Int := IntKind.wrap .i64 (pos + 3); let Z26 : Int := Prod.fst (getP b pos (3 : Int)); let Z27 : X × Env RC := (X.ret, [(3, D.int .i64 50)]); let Z28 : Rn := Rn.mk Z25.toNat true; let Z29 : Rn × List Line := gLines Z12 true (0 : Nat) (Z26 + (0 : Int)) Z28; let Z30 : Option (Obj RC) := some (Obj.var 101 (.acons Z11 (D.acons (D.int .i64 (↑Z29.1.pos : Int)) (.acons (D.bool Z29.1.short) Z14)))); let Z31 : List Line := addL (2 : Int) (0 : Int) l0 Z29.2; let Z32 : List Line := addL (2 : Int) (1 : Int) l1 Z29.2; let Z33 : List Line := addL (2 : Int) (2 : Int) l2 Z29.2; let Z34 : Option (Obj RC) := some (Obj.var 30 (.acons Z15 (D.acons Z16 (D.acons (D.acons (D.vs 3 Z31.length) (.acons (D.vs 4 Z32.length) (.acons (D.vs 5 Z33.length) Z14))) Z20)))); let Z35 : List (Option (Obj RC)) := [some (Obj.var 30 (.acons Z9 (D.acons (D.sl RTy.item true []) (.acons Z23 (D.acons (D.arr RTy.int (3 : Nat) (List.replicate (3 : Nat) (0 : Int))) Z14)))))]; let Z36 : Int := IntKind.wrap .i64 (pos + 1); let Z37 : Int := Prod.fst (getP b pos (1 : Int)); let Z38 : Nat := Int.toNat Z37 - 0; let Z39 : Rn × List Line := gLines Z12 true Z38 (0 : Int) (Rn.mk Z36.toNat true); let Z40 : List Line := addL (2 : Int) (0 : Int) l0 Z39.2; let Z41 : List Line := addL (2 : Int) (1 : Int) l1 Z39.2; let Z42 : List Line := addL (2 : Int) (2 : Int) l2 Z39.2; let Z43 : RO_ := some (Z10, some (Obj.var 101 (.acons Z11 (D.acons (D.int .i64 (↑Z39.1.pos : Int)) (.acons (D.bool Z39.1.short) Z14)))) :: some (Obj.var 30 (.acons Z15 (D.acons Z16 (D.acons (D.acons (D.vs 3 Z40.length) (.acons (D.vs 4 Z41.length) (.acons (D.vs 5 Z42.length) Z14))) Z20)))) :: Z21 :: some (Obj.vec RTy.line true Z40) :: some (Obj.vec RTy.line true Z41) :: some (Obj.vec RTy.line true Z42) :: Z24); let Z44 : Int := IntKind.wrap .i64 (Z36 + (3 : Int)); let Z45 : Int := Prod.fst (getP b Z36 (3 : Int)); let Z46 : Rn × List Line := gLines Z12 true Z38 (Z45 + (0 : Int)) (Rn.mk Z44.toNat true); let Z47 : Option (Obj RC) := some (Obj.var 101 (.acons Z11 (D.acons (D.int .i64 (↑Z46.1.pos : Int)) (.acons (D.bool Z46.1.short) Z14)))); let Z48 : List Line := addL (2 : Int) (0 : Int) l0 Z46.2; let Z49 : List Line := addL (2 : Int) (1 : Int) l1 Z46.2; let Z50 : List Line := addL (2 : Int) (2 : Int) l2 Z46.2; let Z51 : Option (Obj RC) := some (Obj.var 30 (.acons Z15 (D.acons Z16 (D.acons (D.acons (D.vs 3 Z48.length) (.acons (D.vs 4 Z49.length) (.acons (D.vs 5 Z50.length) Z14))) Z20)))); let Z52 : RO_ := some (Z10, Z47 :: Z51 :: Z21 :: some (Obj.vec RTy.line true Z48) :: some (Obj.vec RTy.line true Z49) :: some (Obj.vec RTy.line true Z50) :: Z24); let Z53 : Rn × List Line := gLines Z12 true (0 : Nat) (0 : Int) Z28; let Z54 : List Line := addL (2 : Int) (0 : Int) l0 Z53.2; let Z55 : List Line := addL (2 : Int) (1 : Int) l1 Z53.2; let Z56 : List Line := addL (2 : Int) (2 : Int) l2 Z53.2; let Z57 : D RC := D.acons (D.arr RTy.int (3 : Nat) [c0, c1, Z26]) Z14; let Z58 : Int := IntKind.wrap .i64 (Z25 + (3 : Int)); let Z59 : Int := Prod.fst (getP b Z25 (3 : Int)); let Z60 : Rn × List Line := gLines Z12 true (0 : Nat) (Z59 + (0 : Int)) (Rn.mk Z58.toNat true); let Z61 : Option (Obj RC) := some (Obj.var 101 (.acons Z11 (D.acons (D.int .i64 (↑Z60.1.pos : Int)) (.acons (D.bool Z60.1.short) Z14)))); let Z62 : List Line := addL (2 : Int) (0 : Int) l0 Z60.2; let Z63 : List Line := addL (2 : Int) (1 : Int) l1 Z60.2; let Z64 : List Line := addL (2 : Int) (2 : Int) l2 Z60.2; let Z65 : Option (Obj RC) := some (Obj.var 30 (.acons Z15 (D.acons Z16 (D.acons (D.acons (D.vs 3 Z62.length) (.acons (D.vs 4 Z63.length) (.acons (D.vs 5 Z64.length) Z14))) Z57)))); let Z66 : Int := IntKind.wrap .i64 (Z25 + (1 : Int)); let Z67 : Int := Prod.fst (getP b Z25 (1 : Int)); let Z68 : Nat := Int.toNat Z67 - 0; let Z69 : Rn × List Line := gLines Z12 true Z68 (0 : Int) (Rn.mk Z66.toNat true); let Z70 : List Line := addL (2 : Int) (0 : Int) l0 Z69.2; let Z71 : List Line := addL (2 : Int) (1 : Int) l1 Z69.2; let Z72 : List Line := addL (2 : Int) (2 : Int) l2 Z69.2; let Z73 : RO_ := some (Z10, some (Obj.var 101 (.acons Z11 (D.acons (D.int .i64 (↑Z69.1.pos : Int)) (.acons (D.bool Z69.1.short) Z14)))) :: some (Obj.var 30 (.acons Z15 (D.acons Z16 (D.acons (D.acons (D.vs 3 Z70.length) (.acons (D.vs 4 Z71.length) (.acons (D.vs 5 Z72.length) Z14))) Z57)))) :: Z21 :: some (Obj.vec RTy.line true Z70) :: some (Obj.vec RTy.line true Z71) :: some (Obj.vec RTy.line true Z72) :: Z24); let Z74 : Int := IntKind.wrap .i64 (Z66 + (3 : Int)); let Z75 : Int := Prod.fst (getP b Z66 (3 : Int)); let Z76 : Rn × List Line := gLines Z12 true Z68 (Z75 + (0 : Int)) (Rn.mk Z74.toNat short); let Z77 : Option (Obj RC) := some (Obj.var 101 (.acons Z11 (D.acons (D.int .i64 (↑Z76.1.pos : Int)) (.acons (D.bool Z76.1.short) Z14)))); let Z78 : List Line := addL (2 : Int) (0 : Int) l0 Z76.2; let Z79 : List Line := addL (2 : Int) (1 : Int) l1 Z76.2; let Z80 : List Line := addL (2 : Int) (2 : Int) l2 Z76.2; let Z81 : Option (Obj RC) := some (Obj.var 30 (.acons Z15 (D.acons Z16 (D.acons (D.acons (D.vs 3 Z78.length) (.acons (D.vs 4 Z79.length) (.acons (D.vs 5 Z80.length) Z14))) Z57)))); let Z82 : RO_ := some (Z10, Z77 :: Z81 :: Z21 :: some (Obj.vec RTy.line true Z78) :: some (Obj.vec RTy.line true Z79) :: some (Obj.vec RTy.line true Z80) :: Z24); bif Z1 then bif Z2 then bif Z1 then bif Prod.snd (getP b pos (1 : Int)) != (0 : Int) then bif Z1 then bif Z2 then bif Z7 && decide ((0 : Int) ≤ (0 : Int) ∧ (0 : Int) ≤ (255 : Int) ∧ Z0 ≤ (1000000 : Nat) ∧ ((0 : Int) ≤ pos ∧ pos ≤ Z8) ∧ (Z4 ≤ (1000 : Nat) ∧ Z5 ≤ (1000 : Nat) ∧ Z6 ≤ (1000 : Nat)) ∧ ((0 : Int) ≤ (2 : Int) ∧ (2 : Int) ≤ (2 : Int)) ∧ (0 : Int) ≤ (0 : Int) ∧ (0 : Int) ≤ (16777215 : Int)) then some (Z10, some (Obj.var 101 (.acons Z11 (D.acons (D.int .i64 (↑Z13.1.pos : Int)) (.acons (D.bool Z13.1.short) Z14)))) :: some (Obj.var 30 (.acons Z15 (D.acons Z16 (D.acons (D.acons (D.vs 3 Z17.length) (.acons (D.vs 4 Z18.length) (.acons (D.vs 5 Z19.length) Z14))) Z20)))) :: Z21 :: some (Obj.vec RTy.line true Z17) :: some (Obj.vec RTy.line true Z18) :: some (Obj.vec RTy.line true Z19) :: Z24) else none else bif Z7 && decide ((0 : Int) ≤ (0 : Int) ∧ (0 : Int) ≤ (255 : Int) ∧ Z0 ≤ (1000000 : Nat) ∧ ((0 : Int) ≤ Z25 ∧ Z25 ≤ Z8) ∧ (Z4 ≤ (1000 : Nat) ∧ Z5 ≤ (1000 : Nat) ∧ Z6 ≤ (1000 : Nat)) ∧ ((0 : Int) ≤ (2 : Int) ∧ (2 : Int) ≤ (2 : Int)) ∧ (0 : Int) ≤ Z26 ∧ Z26 ≤ (16777215 : Int)) then bif Z26 != (0 : Int) then some (Z27, Z30 :: Z34 :: Z21 :: some (Obj.vec RTy.line true Z31) :: some (Obj.vec RTy.line true Z32) :: some (Obj.vec RTy.line true Z33) :: Z35) else some (Z10, Z30 :: Z34 :: Z21 :: some (Obj.vec RTy.line true Z31) :: some (Obj.vec RTy.line true Z32) :: some (Obj.vec RTy.line true Z33) :: Z24) else none else none else bif Z1 then bif Prod.snd (getP b Z36 (3 : Int)) != (0 : Int) then bif Z7 && decide ((0 : Int) ≤ Z37 ∧ Z37 ≤ (255 : Int) ∧ Z0 ≤ (1000000 : Nat) ∧ ((0 : Int) ≤ Z36 ∧ Z36 ≤ Z8) ∧ (Z4 ≤ (1000 : Nat) ∧ Z5 ≤ (1000 : Nat) ∧ Z6 ≤ (1000 : Nat)) ∧ ((0 : Int) ≤ (2 : Int) ∧ (2 : Int) ≤ (2 : Int)) ∧ (0 : Int) ≤ (0 : Int) ∧ (0 : Int) ≤ (16777215 : Int)) then bif Z37 == (0 : Int) then Z43 else Z43 else none else bif Z7 && decide ((0 : Int) ≤ Z37 ∧ Z37 ≤ (255 : Int) ∧ Z0 ≤ (1000000 : Nat) ∧ ((0 : Int) ≤ Z44 ∧ Z44 ≤ Z8) ∧ (Z4 ≤ (1000 : Nat) ∧ Z5 ≤ (1000 : Nat) ∧ Z6 ≤ (1000 : Nat)) ∧ ((0 : Int) ≤ (2 : Int) ∧ (2 : Int) ≤ (2 : Int)) ∧ (0 : Int) ≤ Z45 ∧ Z45 ≤ (16777215 : Int)) then bif Z37 == (0 : Int) then bif Z45 != (0 : Int) then some (Z27, Z47 :: Z51 :: Z21 :: some (Obj.vec RTy.line true Z48) :: some (Obj.vec RTy.line true Z49) :: some (Obj.vec RTy.line true Z50) :: Z35) else Z52 else Z52 else none else none else none else bif Z1 then bif Prod.snd (getP b Z25 (1 : Int)) != (0 : Int) then bif Z1 then bif Prod.snd (getP b Z25 (3 : Int)) != (0 : Int) then bif Z7 && decide ((0 : Int) ≤ (0 : Int) ∧ (0 : Int) ≤ (255 : Int) ∧ Z0 ≤ (1000000 : Nat) ∧ ((0 : Int) ≤ Z25 ∧ Z25 ≤ Z8) ∧ (Z4 ≤ (1000 : Nat) ∧ Z5 ≤ (1000 : Nat) ∧ Z6 ≤ (1000 : Nat)) ∧ ((0 : Int) ≤ (2 : Int) ∧ (2 : Int) ≤ (2 : Int)) ∧ (0 : Int) ≤ (0 : Int) ∧ (0 : Int) ≤ (16777215 : Int)) then some (Z10, some (Obj.var 101 (.acons Z11 (D.acons (D.int .i64 (↑Z53.1.pos : Int)) (.acons (D.bool Z53.1.short) Z14)))) :: some (Obj.var 30 (.acons Z15 (D.acons Z16 (D.acons (D.acons (D.vs 3 Z54.length) (.acons (D.vs 4 Z55.length) (.acons (D.vs 5 Z56.length) Z14))) Z57)))) :: Z21 :: some (Obj.vec RTy.line true Z54) :: some (Obj.vec RTy.line true Z55) :: some (Obj.vec RTy.line true Z56) :: Z24) else none else bif Z7 && decide ((0 : Int) ≤ (0 : Int) ∧ (0 : Int) ≤ (255 : Int) ∧ Z0 ≤ (1000000 : Nat) ∧ ((0 : Int) ≤ Z58 ∧ Z58 ≤ Z8) ∧ (Z4 ≤ (1000 : Nat) ∧ Z5 ≤ (1000 : Nat) ∧ Z6 ≤ (1000 : Nat)) ∧ ((0 : Int) ≤ (2 : Int) ∧ (2 : Int) ≤ (2 : Int)) ∧ (0 : Int) ≤ Z59 ∧ Z59 ≤ (16777215 : Int)) then bif Z59 != (0 : Int) then some (Z27, Z61 :: Z65 :: Z21 :: some (Obj.vec RTy.line true Z62) :: some (Obj.vec RTy.line true Z63) :: some (Obj.vec RTy.line true Z64) :: Z35) else some (Z10, Z61 :: Z65 :: Z21 :: some (Obj.vec RTy.line true Z62) :: some (Obj.vec RTy.line true Z63) :: some (Obj.vec RTy.line true Z64) :: Z24) else none else none else bif Z1 then bif Prod.snd (getP b Z66 (3 : Int)) != (0 : Int) then bif Z7 && decide ((0 : Int) ≤ Z67 ∧ Z67 ≤ (255 : Int) ∧ Z0 ≤ (1000000 : Nat) ∧ ((0 : Int) ≤ Z66 ∧ Z66 ≤ Z8) ∧ (Z4 ≤ (1000 : Nat) ∧ Z5 ≤ (1000 : Nat) ∧ Z6 ≤ (1000 : Nat)) ∧ ((0 : Int) ≤ (2 : Int) ∧ (2 : Int) ≤ (2 : Int)) ∧ (0 : Int) ≤ (0 : Int) ∧ (0 : Int) ≤ (16777215 : Int)) then bif Z67 == (0 : Int) then Z73 else Z73 else none else bif Z7 && decide ((0 : Int) ≤ Z67 ∧ Z67 ≤ (255 : Int) ∧ Z0 ≤ (1000000 : Nat) ∧ ((0 : Int) ≤ Z74 ∧ Z74 ≤ Z8) ∧ (Z4 ≤ (1000 : Nat) ∧ Z5 ≤ (1000 : Nat) ∧ Z6 ≤ (1000 : Nat)) ∧ ((0 : Int) ≤ (2 : Int) ∧ (2 : Int) ≤ (2 : Int)) ∧ (0 : Int) ≤ Z75 ∧ Z75 ≤ (16777215 : Int)) then bif Z67 == (0 : Int) then bif Z75 != (0 : Int) then some (Z27, Z77 :: Z81 :: Z21 :: some (Obj.vec RTy.line true Z78) :: some (Obj.vec RTy.line true Z79) :: some (Obj.vec RTy.line true Z80) :: Z35) else Z82 else Z82 else none else none else none else none) := by kernel_rfl
theorem riQ_eq3 (c : Bool) (b : List UInt8) (pos : Int) (short : Bool) (pl : Int) (its : List Item) (l0 l1 l2 : List Line) (c0 c1 c2 : Int) (zs : List Int) : riQ_r c b pos short pl its l0 l1 l2 c0 c1 c2 zs 3 = (let Z0 : D RC := D.int .i64 0; let Z1 : D RC := .anil; let Z2 : D RC := D.sl RTy.line true []; some ((X.exit (2 : Nat), [(3, Z0)]), [some (Obj.var 101 (.acons (D.sl RTy.u8 c b) (.acons (D.int .i64 pos) (.acons (D.bool short) Z1)))), some (Obj.var 30 (.acons (D.int .i64 pl) (.acons (D.vs 2 its.length) (.acons (D.acons (D.vs 3 l0.length) (.acons (D.vs 4 l1.length) (.acons (D.vs 5 l2.length) Z1))) (.acons (D.arr RTy.int (3 : Nat) [c0, c1, c2]) Z1))))), some (Obj.vec RTy.item true its), some (Obj.vec RTy.line true l0), some (Obj.vec RTy.line true l1), some (Obj.vec RTy.line true l2), some (Obj.var 30 (.acons Z0 (D.acons (D.sl RTy.item true []) (.acons (D.acons Z2 (D.acons Z2 (D.acons Z2 Z1))) (.acons (D.arr RTy.int (3 : Nat) zs) Z1)))))])) := by kernel_rfl
def riQ_fin (c : Bool) (b : List UInt8) (pos : Int) (short : Bool) (pl : Int) (its : List Item) (l0 : List Line) (l1 : List Line) (l2 : List Line) (c0 : Int) (c1 : Int) (c2 : Int) (zs : List Int) (q : Nat) : RT RC := .br (runN b q ⟨⟨pos.toNat, short⟩, l0, l1, l2, c0, c1, c2⟩).1 (.leaf .ret [(3, .int .i64 50)] [.var 101 (.acons (.sl (C := RC) .u8 c b) (.acons (.int .i64 (runN b q ⟨⟨pos.toNat, short⟩, l0, l1, l2, c0, c1, c2⟩).2.r.pos) (.acons (.bool (runN b q ⟨⟨pos.toNat, short⟩, l0, l1, l2, c0, c1, c2⟩).2.r.short) .anil))), .var 30 (.acons (.int .i64 pl) (.acons (.vs 2 its.length) (.acons (.acons (.vs 3 (runN b q ⟨⟨pos.toNat, short⟩, l0, l1, l2, c0, c1, c2⟩).2.l0.length) (.acons (.vs 4 (runN b q ⟨⟨pos.toNat, short⟩, l0, l1, l2, c0, c1, c2⟩).2.l1.length) (.acons (.vs 5 (runN b q ⟨⟨pos.toNat, short⟩, l0, l1, l2, c0, c1, c2⟩).2.l2.length) .anil))) (.acons (.arr (C := RC) .int 3 [(runN b q ⟨⟨pos.toNat, short⟩, l0, l1, l2, c0, c1, c2⟩).2.c0, (runN b q ⟨⟨pos.toNat, short⟩, l0, l1, l2, c0, c1, c2⟩).2.c1, (runN b q ⟨⟨pos.toNat, short⟩, l0, l1, l2, c0, c1, c2⟩).2.c2]) .anil)))), .vec (C := RC) .item true its, .vec (C := RC) .line true (runN b q ⟨⟨pos.toNat, short⟩, l0, l1, l2, c0, c1, c2⟩).2.l0, .vec (C := RC) .line true (runN b q ⟨⟨pos.toNat, short⟩, l0, l1, l2, c0, c1, c2⟩).2.l1, .vec (C := RC) .line true (runN b q ⟨⟨pos.toNat, short⟩, l0, l1, l2, c0, c1, c2⟩).2.l2, .var 30 (.acons (.int .i64 0) (.acons (.sl (C := RC) .item true []) (.acons (.acons (.sl (C := RC) .line true []) (.acons (.sl (C := RC) .line true []) (.acons (.sl (C := RC) .line true []) .anil))) (.acons (.arr (C := RC) .int 3 zs) .anil))))]) (.leaf (.exit 2) [(3, .int .i64 0)] [.var 101 (.acons (.sl (C := RC) .u8 c b) (.acons (.int .i64 (runN b q ⟨⟨pos.toNat, short⟩, l0, l1, l2, c0, c1, c2⟩).2.r.pos) (.acons (.bool (runN b q ⟨⟨pos.toNat, short⟩, l0, l1, l2, c0, c1, c2⟩).2.r.short) .anil))), .var 30 (.acons (.int .i64 pl) (.acons (.vs 2 its.length) (.acons (.acons (.vs 3 (runN b q ⟨⟨pos.toNat, short⟩, l0, l1, l2, c0, c1, c2⟩).2.l0.length) (.acons (.vs 4 (runN b q ⟨⟨pos.toNat, short⟩, l0, l1, l2, c0, c1, c2⟩).2.l1.length) (.acons (.vs 5 (runN b q ⟨⟨pos.toNat, short⟩, l0, l1, l2, c0, c1, c2⟩).2.l2.length) .anil))) (.acons (.arr (C := RC) .int 3 [(runN b q ⟨⟨pos.toNat, short⟩, l0, l1, l2, c0, c1, c2⟩).2.c0, (runN b q ⟨⟨pos.toNat, short⟩, l0, l1, l2, c0, c1, c2⟩).2.c1, (runN b q ⟨⟨pos.toNat, short⟩, l0, l1, l2, c0, c1, c2⟩).2.c2]) .anil)))), .vec (C := RC) .item true its, .vec (C := RC) .line true (runN b q ⟨⟨pos.toNat, short⟩, l0, l1, l2, c0, c1, c2⟩).2.l0, .vec (C := RC) .line true (runN b q ⟨⟨pos.toNat, short⟩, l0, l1, l2, c0, c1, c2⟩).2.l1, .vec (C := RC) .line true (runN b q ⟨⟨pos.toNat, short⟩, l0, l1, l2, c0, c1, c2⟩).2.l2, .var 30 (.acons (.int .i64 0) (.acons (.sl (C := RC) .item true []) (.acons (.acons (.sl (C := RC) .line true []) (.acons (.sl (C := RC) .line true []) (.acons (.sl (C := RC) .line true []) .anil))) (.acons (.arr (C := RC) .int 3 zs) .anil))))])
def riQ_Inv (c : Bool) (b : List UInt8) (pos : Int) (short : Bool) (pl : Int) (its : List Item) (l0 : List Line) (l1 : List Line) (l2 : List Line) (c0 : Int) (c1 : Int) (c2 : Int) (zs : List Int) (q : Nat) : Prop := q ≤ 3 ∧ b.length ≤ 1000000 ∧ (0 ≤ pos ∧ pos ≤ b.length) ∧ l0.length ≤ 255 * q ∧ l1.length ≤ 255 * q ∧ l2.length ≤ 255 * q ∧ zs = [0, 0, 0]
def riQ_S : LoopR RC riQ_St where
  k := 7
  canon q := riQ_c q.c q.b q.pos q.short q.pl q.its q.l0 q.l1 q.l2 q.c0 q.c1 q.c2 q.zs q.q
  objs q := riQ_o q.c q.b q.pos q.short q.pl q.its q.l0 q.l1 q.l2 q.c0 q.c1 q.c2 q.zs q.q
  fin q := riQ_fin q.c q.b q.pos q.short q.pl q.its q.l0 q.l1 q.l2 q.c0 q.c1 q.c2 q.zs q.q
  Inv q := riQ_Inv q.c q.b q.pos q.short q.pl q.its q.l0 q.l1 q.l2 q.c0 q.c1 q.c2 q.zs q.q
  μ q := 3 - q.q
theorem riQ_go0 (c : Bool) (b : List UInt8) (pos : Int) (short : Bool) (pl : Int) (its : List Item) (l0 l1 l2 : List Line) (c0 c1 c2 : Int) (h2 : b.length ≤ 1000000) (h3 : 0 ≤ pos ∧ pos ≤ b.length) (h4 : l0.length ≤ 255 * 0) (h5 : l1.length ≤ 255 * 0) (h6 : l2.length ≤ 255 * 0) : Leaf (riQ_r c b pos short pl its l0 l1 l2 c0 c1 c2 [0, 0, 0] 0) (LedR riQ_S ⟨c, b, pos, short, pl, its, l0, l1, l2, c0, c1, c2, [0, 0, 0], 0⟩) := by
    have pp : ((pos.toNat : Nat) : Int) = pos := by omega
    have k01 : ¬ (0 : Int) = 1 := by omega
    have k02 : ¬ (0 : Int) = 2 := by omega
    have k10 : ¬ (1 : Int) = 0 := by omega
    have k12 : ¬ (1 : Int) = 2 := by omega
    have k20 : ¬ (2 : Int) = 0 := by omega
    have k21 : ¬ (2 : Int) = 1 := by omega
    have e0 : decide (b.length ≤ 1000000000000) = true := decide_eq_true (by omega)
    have wv : ∀ x : Int, 0 ≤ x → x ≤ 20000000 → IntKind.i64.wrap x = x := fun x _ _ => wrap_id (by omega) (by omega)
    have tn1 : (pos + 1).toNat = pos.toNat + 1 := by omega
    have tn3 : (pos + 3).toNat = pos.toNat + 3 := by omega
    have tn4 : (pos + 4).toNat = pos.toNat + 4 := by omega
    have tn2 : (pos + 2).toNat = pos.toNat + 2 := by omega
    have tn5 : (pos + 5).toNat = pos.toNat + 5 := by omega
    have a13 : pos + 1 + 3 = pos + 4 := by omega
    have a31 : pos + 3 + 1 = pos + 4 := by omega
    have a41 : pos + 4 + 1 = pos + 5 := by omega
    have a11 : pos + 1 + 1 = pos + 2 := by omega
    have tn7 : (pos + 7).toNat = pos.toNat + 7 := by omega
    have tn6 : (pos + 6).toNat = pos.toNat + 6 := by omega
    have a43 : pos + 4 + 3 = pos + 7 := by omega
    have a33 : pos + 3 + 3 = pos + 6 := by omega
    have pb := partN_pos (b := b) (s := ⟨pos.toNat, short⟩) (by simp only; omega)
    have pn := partN_len b ⟨pos.toNat, short⟩
    have hgo : ∀ (r' : Rn) (cut : Int) (L : List Line), partN b ⟨pos.toNat, short⟩ = (false, r', cut, L) → Leaf (some ((X.normal, [(4, .ptr 0 []), (5, .ptr 1 []), (11, .int .i64 1), (2, .ptr 6 []), (3, .int .i64 0)]), [some (.var 101 (.acons (.sl (C := RC) .u8 c b) (.acons (.int .i64 r'.pos) (.acons (.bool r'.short) .anil)))), some (.var 30 (.acons (.int .i64 pl) (.acons (.vs 2 its.length) (.acons (.acons (.vs 3 (l0 ++ L).length) (.acons (.vs 4 l1.length) (.acons (.vs 5 l2.length) .anil))) (.acons (.arr (C := RC) .int 3 [cut, c1, c2]) .anil))))), some (.vec (C := RC) .item true its), some (.vec (C := RC) .line true (l0 ++ L)), some (.vec (C := RC) .line true l1), some (.vec (C := RC) .line true l2), some (.var 30 (.acons (.int .i64 0) (.acons (.sl (C := RC) .item true []) (.acons (.acons (.sl (C := RC) .line true []) (.acons (.sl (C := RC) .line true []) (.acons (.sl (C := RC) .line true []) .anil))) (.acons (.arr (C := RC) .int 3 [0, 0, 0]) .anil)))))])) (LedR riQ_S ⟨c, b, pos, short, pl, its, l0, l1, l2, c0, c1, c2, [0, 0, 0], 0⟩) := by
      intro r' cut L hP
      rw [hP] at pb pn
      simp only at pb pn
      have hrun : runN b 1 ⟨⟨r'.pos, r'.short⟩, l0 ++ L, l1, l2, cut, c1, c2⟩ = runN b 0 ⟨⟨pos.toNat, short⟩, l0, l1, l2, c0, c1, c2⟩ := by
        simp only [runN, stepN0, hP, cond_false]
      refine leafR_go ⟨c, b, r'.pos, r'.short, pl, its, l0 ++ L, l1, l2, cut, c1, c2, [0, 0, 0], 1⟩ ?_ (by simp only [riQ_S]; omega) ?_ rfl rfl
      · refine ⟨by simp, h2, ?_, ?_, ?_, ?_, rfl⟩ <;> simp <;> omega
      · simp only [riQ_S, riQ_fin, Int.toNat_natCast, hrun]
    have hret : ∀ (r' : Rn) (cut : Int) (L : List Line), partN b ⟨pos.toNat, short⟩ = (true, r', cut, L) → Leaf (some ((X.ret, [(3, .int .i64 50)]), [some (.var 101 (.acons (.sl (C := RC) .u8 c b) (.acons (.int .i64 r'.pos) (.acons (.bool r'.short) .anil)))), some (.var 30 (.acons (.int .i64 pl) (.acons (.vs 2 its.length) (.acons (.acons (.vs 3 (l0 ++ L).length) (.acons (.vs 4 l1.length) (.acons (.vs 5 l2.length) .anil))) (.acons (.arr (C := RC) .int 3 [cut, c1, c2]) .anil))))), some (.vec (C := RC) .item true its), some (.vec (C := RC) .line true (l0 ++ L)), some (.vec (C := RC) .line true l1), some (.vec (C := RC) .line true l2), some (.var 30 (.acons (.int .i64 0) (.acons (.sl (C := RC) .item true []) (.acons (.acons (.sl (C := RC) .line true []) (.acons (.sl (C := RC) .line true []) (.acons (.sl (C := RC) .line true []) .anil))) (.acons (.arr (C := RC) .int 3 [0, 0, 0]) .anil)))))])) (LedR riQ_S ⟨c, b, pos, short, pl, its, l0, l1, l2, c0, c1, c2, [0, 0, 0], 0⟩) := by
      intro r' cut L hP
      have hrun : runN b 0 ⟨⟨pos.toNat, short⟩, l0, l1, l2, c0, c1, c2⟩ = (true, ⟨⟨r'.pos, r'.short⟩, l0 ++ L, l1, l2, cut, c1, c2⟩) := by
        simp only [runN, stepN0, hP, cond_true]
      exact leafR_ret (riQ_o c b r'.pos r'.short pl its (l0 ++ L) l1 l2 cut c1 c2 [0, 0, 0] 0) (by simp only [riQ_S, riQ_fin, hrun, RT.val, cond_true, riQ_o]) rfl
    (rw [riQ_eq0]; conv => zeta)
    simp only [e0, cond_true]
    simp (disch := omega) only [wv, a13, a31, a41, a11, a43, a33, getI_snd1, getI_snd3]
    by_cases q0_0f : (b.length : Int) < pos + 3
    · have rq0_0f : nget b 3 ⟨pos.toNat, short⟩ = _ := nget_no (by omega)
      simp only [q0_0f, decide_true, cond_true]
      by_cases q1_0t : (b.length : Int) < pos + 1
      · have rq1_0t : nget b 1 ⟨pos.toNat, true⟩ = _ := nget_no (by omega)
        simp only [q1_0t, decide_true, cond_true]
        have q2_0t : (b.length : Int) < pos + 3 := by omega
        have rq2_0t : nget b 3 ⟨pos.toNat, true⟩ = _ := nget_no (by omega)
        have hP := partN_of rq0_0f rq1_0t rq2_0t
        simp (disch := omega) only [decide_eq_true, Bool.and_self, cond_true, addL, if_true, if_false, k01, k02, k10, k12, k20, k21, Nat.sub_zero, Int.add_zero]
        exact hgo _ _ _ (by rw [hP]; rfl)
      · have rq1_0t : nget b 1 ⟨pos.toNat, true⟩ = _ := nget_ok (by omega)
        have gq1_0t := getI_fst1 (show 0 ≤ pos by omega) (show ¬ (b.length : Int) < pos + 1 by omega)
        simp only [q1_0t, decide_false, cond_false, gq1_0t]
        by_cases q2_1t : (b.length : Int) < pos + 4
        · have rq2_1t : nget b 3 ⟨pos.toNat + 1, true⟩ = _ := nget_no (by omega)
          simp only [q2_1t, decide_true, cond_true]
          have hP := partN_of rq0_0f rq1_0t rq2_1t
          have lv1 := leVal_le (b.drop (pos.toNat)) 1
          simp only [Nat.reducePow] at lv1
          simp (disch := omega) only [decide_eq_true, Bool.and_self, cond_true, addL, if_true, if_false, k01, k02, k10, k12, k20, k21, Nat.sub_zero, Int.add_zero, tn1]
          cases hz : ((leVal ((b.drop (pos.toNat)).take 1) : Int) == 0)
          · simp only [cond_false]
            exact hgo _ _ _ (by rw [hP, hz]; rfl)
          · simp only [cond_true]
            exact hgo _ _ _ (by rw [hP, hz]; rfl)
        · have rq2_1t : nget b 3 ⟨pos.toNat + 1, true⟩ = _ := nget_ok (by omega)
          rw [show pos.toNat + 1 + 3 = pos.toNat + 4 by omega] at rq2_1t
          have gq2_1t := getI_fst3 (show 0 ≤ pos + 1 by omega) (show ¬ (b.length : Int) < pos + 1 + 3 by omega)
          rw [tn1] at gq2_1t
          simp only [q2_1t, decide_false, cond_false, gq2_1t]
          have hP := partN_of rq0_0f rq1_0t rq2_1t
          have lv1 := leVal_le (b.drop (pos.toNat)) 1
          simp only [Nat.reducePow] at lv1
          have lv3 := leVal_le (b.drop (pos.toNat + 1)) 3
          simp only [Nat.reducePow] at lv3
          simp (disch := omega) only [decide_eq_true, Bool.and_self, cond_true, addL, if_true, if_false, k01, k02, k10, k12, k20, k21, Nat.sub_zero, Int.add_zero, tn4]
          cases hz : ((leVal ((b.drop (pos.toNat)).take 1) : Int) == 0)
          · simp only [cond_false]
            exact hgo _ _ _ (by rw [hP, hz]; rfl)
          · simp only [cond_true]
            cases hf : ((leVal ((b.drop (pos.toNat + 1)).take 3) : Int) != 0)
            · simp only [cond_false]
              exact hgo _ _ _ (by rw [hP, hz, hf]; rfl)
            · simp only [cond_true]
              exact hret _ _ _ (by rw [hP, hz, hf]; rfl)
    · have rq0_0f : nget b 3 ⟨pos.toNat, short⟩ = _ := nget_ok (by omega)
      have gq0_0f := getI_fst3 (show 0 ≤ pos by omega) (show ¬ (b.length : Int) < pos + 3 by omega)
      simp only [q0_0f, decide_false, cond_false, gq0_0f]
      by_cases q1_3f : (b.length : Int) < pos + 4
      · have rq1_3f : nget b 1 ⟨pos.toNat + 3, short⟩ = _ := nget_no (by omega)
        simp only [q1_3f, decide_true, cond_true]
        have q2_3t : (b.length : Int) < pos + 6 := by omega
        have rq2_3t : nget b 3 ⟨pos.toNat + 3, true⟩ = _ := nget_no (by omega)
        simp only [q2_3t, decide_true, cond_true]
        have hP := partN_of rq0_0f rq1_3f rq2_3t
        simp (disch := omega) only [decide_eq_true, Bool.and_self, cond_true, addL, if_true, if_false, k01, k02, k10, k12, k20, k21, Nat.sub_zero, Int.add_zero, tn3]
        exact hgo _ _ _ (by rw [hP]; rfl)
      · have rq1_3f : nget b 1 ⟨pos.toNat + 3, short⟩ = _ := nget_ok (by omega)
        rw [show pos.toNat + 3 + 1 = pos.toNat + 4 by omega] at rq1_3f
        have gq1_3f := getI_fst1 (show 0 ≤ pos + 3 by omega) (show ¬ (b.length : Int) < pos + 3 + 1 by omega)
        rw [tn3] at gq1_3f
        simp only [q1_3f, decide_false, cond_false, gq1_3f]
        by_cases q2_4f : (b.length : Int) < pos + 7
        · have rq2_4f : nget b 3 ⟨pos.toNat + 4, short⟩ = _ := nget_no (by omega)
          simp only [q2_4f, decide_true, cond_true]
          have hP := partN_of rq0_0f rq1_3f rq2_4f
          have lv1 := leVal_le (b.drop (pos.toNat + 3)) 1
          simp only [Nat.reducePow] at lv1
          simp (disch := omega) only [decide_eq_true, Bool.and_self, cond_true, addL, if_true, if_false, k01, k02, k10, k12, k20, k21, Nat.sub_zero, Int.add_zero, tn4]
          cases hz : ((leVal ((b.drop (pos.toNat + 3)).take 1) : Int) == 0)
          · simp only [cond_false]
            exact hgo _ _ _ (by rw [hP, hz]; rfl)
          · simp only [cond_true]
            exact hgo _ _ _ (by rw [hP, hz]; rfl)
        · have rq2_4f : nget b 3 ⟨pos.toNat + 4, short⟩ = _ := nget_ok (by omega)
          rw [show pos.toNat + 4 + 3 = pos.toNat + 7 by omega] at rq2_4f
          have gq2_4f := getI_fst3 (show 0 ≤ pos + 4 by omega) (show ¬ (b.length : Int) < pos + 4 + 3 by omega)
          rw [tn4] at gq2_4f
          simp only [q2_4f, decide_false, cond_false, gq2_4f]
          have hP := partN_of rq0_0f rq1_3f rq2_4f
          have lv1 := leVal_le (b.drop (pos.toNat + 3)) 1
          simp only [Nat.reducePow] at lv1
          have lv3 := leVal_le (b.drop (pos.toNat + 4)) 3
          simp only [Nat.reducePow] at lv3
          simp (disch := omega) only [decide_eq_true, Bool.and_self, cond_true, addL, if_true, if_false, k01, k02, k10, k12, k20, k21, Nat.sub_zero, Int.add_zero, tn7]
          cases hz : ((leVal ((b.drop (pos.toNat + 3)).take 1) : Int) == 0)
          · simp only [cond_false]
            exact hgo _ _ _ (by rw [hP, hz]; rfl)
          · simp only [cond_true]
            cases hf : ((leVal ((b.drop (pos.toNat + 4)).take 3) : Int) != 0)
            · simp only [cond_false]
              exact hgo _ _ _ (by rw [hP, hz, hf]; rfl)
            · simp only [cond_true]
              exact hret _ _ _ (by rw [hP, hz, hf]; rfl)
theorem riQ_go1 (c : Bool) (b : List UInt8) (pos : Int) (short : Bool) (pl : Int) (its : List Item) (l0 l1 l2 : List Line) (c0 c1 c2 : Int) (h2 : b.length ≤ 1000000) (h3 : 0 ≤ pos ∧ pos ≤ b.length) (h4 : l0.length ≤ 255 * 1) (h5 : l1.length ≤ 255 * 1) (h6 : l2.length ≤ 255 * 1) : Leaf (riQ_r c b pos short pl its l0 l1 l2 c0 c1 c2 [0, 0, 0] 1) (LedR riQ_S ⟨c, b, pos, short, pl, its, l0, l1, l2, c0, c1, c2, [0, 0, 0], 1⟩) := by
    have pp : ((pos.toNat : Nat) : Int) = pos := by omega
    have k01 : ¬ (0 : Int) = 1 := by omega
    have k02 : ¬ (0 : Int) = 2 := by omega
    have k10 : ¬ (1 : Int) = 0 := by omega
    have k12 : ¬ (1 : Int) = 2 := by omega
    have k20 : ¬ (2 : Int) = 0 := by omega
    have k21 : ¬ (2 : Int) = 1 := by omega
    have e0 : decide (b.length ≤ 1000000000000) = true := decide_eq_true (by omega)
    have wv : ∀ x : Int, 0 ≤ x → x ≤ 20000000 → IntKind.i64.wrap x = x := fun x _ _ => wrap_id (by omega) (by omega)
    have tn1 : (pos + 1).toNat = pos.toNat + 1 := by omega
    have tn3 : (pos + 3).toNat = pos.toNat + 3 := by omega
    have tn4 : (pos + 4).toNat = pos.toNat + 4 := by omega
    have tn2 : (pos + 2).toNat = pos.toNat + 2 := by omega
    have tn5 : (pos + 5).toNat = pos.toNat + 5 := by omega
    have a13 : pos + 1 + 3 = pos + 4 := by omega
    have a31 : pos + 3 + 1 = pos + 4 := by omega
    have a41 : pos + 4 + 1 = pos + 5 := by omega
    have a11 : pos + 1 + 1 = pos + 2 := by omega
    have tn7 : (pos + 7).toNat = pos.toNat + 7 := by omega
    have tn6 : (pos + 6).toNat = pos.toNat + 6 := by omega
    have a43 : pos + 4 + 3 = pos + 7 := by omega
    have a33 : pos + 3 + 3 = pos + 6 := by omega
    have pb := partN_pos (b := b) (s := ⟨pos.toNat, short⟩) (by simp only; omega)
    have pn := partN_len b ⟨pos.toNat, short⟩
    have hgo : ∀ (r' : Rn) (cut : Int) (L : List Line), partN b ⟨pos.toNat, short⟩ = (false, r', cut, L) → Leaf (some ((X.normal, [(4, .ptr 0 []), (5, .ptr 1 []), (11, .int .i64 2), (2, .ptr 6 []), (3, .int .i64 0)]), [some (.var 101 (.acons (.sl (C := RC) .u8 c b) (.acons (.int .i64 r'.pos) (.acons (.bool r'.short) .anil)))), some (.var 30 (.acons (.int .i64 pl) (.acons (.vs 2 its.length) (.acons (.acons (.vs 3 l0.length) (.acons (.vs 4 (l1 ++ L).length) (.acons (.vs 5 l2.length) .anil))) (.acons (.arr (C := RC) .int 3 [c0, cut, c2]) .anil))))), some (.vec (C := RC) .item true its), some (.vec (C := RC) .line true l0), some (.vec (C := RC) .line true (l1 ++ L)), some (.vec (C := RC) .line true l2), some (.var 30 (.acons (.int .i64 0) (.acons (.sl (C := RC) .item true []) (.acons (.acons (.sl (C := RC) .line true []) (.acons (.sl (C := RC) .line true []) (.acons (.sl (C := RC) .line true []) .anil))) (.acons (.arr (C := RC) .int 3 [0, 0, 0]) .anil)))))])) (LedR riQ_S ⟨c, b, pos, short, pl, its, l0, l1, l2, c0, c1, c2, [0, 0, 0], 1⟩) := by
      intro r' cut L hP
      rw [hP] at pb pn
      simp only at pb pn
      have hrun : runN b 2 ⟨⟨r'.pos, r'.short⟩, l0, l1 ++ L, l2, c0, cut, c2⟩ = runN b 1 ⟨⟨pos.toNat, short⟩, l0, l1, l2, c0, c1, c2⟩ := by
        simp only [runN, stepN1, hP, cond_false]
      refine leafR_go ⟨c, b, r'.pos, r'.short, pl, its, l0, l1 ++ L, l2, c0, cut, c2, [0, 0, 0], 2⟩ ?_ (by simp only [riQ_S]; omega) ?_ rfl rfl
      · refine ⟨by simp, h2, ?_, ?_, ?_, ?_, rfl⟩ <;> simp <;> omega
      · simp only [riQ_S, riQ_fin, Int.toNat_natCast, hrun]
    have hret : ∀ (r' : Rn) (cut : Int) (L : List Line), partN b ⟨pos.toNat, short⟩ = (true, r', cut, L) → Leaf (some ((X.ret, [(3, .int .i64 50)]), [some (.var 101 (.acons (.sl (C := RC) .u8 c b) (.acons (.int .i64 r'.pos) (.acons (.bool r'.short) .anil)))), some (.var 30 (.acons (.int .i64 pl) (.acons (.vs 2 its.length) (.acons (.acons (.vs 3 l0.length) (.acons (.vs 4 (l1 ++ L).length) (.acons (.vs 5 l2.length) .anil))) (.acons (.arr (C := RC) .int 3 [c0, cut, c2]) .anil))))), some (.vec (C := RC) .item true its), some (.vec (C := RC) .line true l0), some (.vec (C := RC) .line true (l1 ++ L)), some (.vec (C := RC) .line true l2), some (.var 30 (.acons (.int .i64 0) (.acons (.sl (C := RC) .item true []) (.acons (.acons (.sl (C := RC) .line true []) (.acons (.sl (C := RC) .line true []) (.acons (.sl (C := RC) .line true []) .anil))) (.acons (.arr (C := RC) .int 3 [0, 0, 0]) .anil)))))])) (LedR riQ_S ⟨c, b, pos, short, pl, its, l0, l1, l2, c0, c1, c2, [0, 0, 0], 1⟩) := by
      intro r' cut L hP
      have hrun : runN b 1 ⟨⟨pos.toNat, short⟩, l0, l1, l2, c0, c1, c2⟩ = (true, ⟨⟨r'.pos, r'.short⟩, l0, l1 ++ L, l2, c0, cut, c2⟩) := by
        simp only [runN, stepN1, hP, cond_true]
      exact leafR_ret (riQ_o c b r'.pos r'.short pl its l0 (l1 ++ L) l2 c0 cut c2 [0, 0, 0] 0) (by simp only [riQ_S, riQ_fin, hrun, RT.val, cond_true, riQ_o]) rfl
    (rw [riQ_eq1]; conv => zeta)
    simp only [e0, cond_true]
    simp (disch := omega) only [wv, a13, a31, a41, a11, a43, a33, getI_snd1, getI_snd3]
    by_cases q0_0f : (b.length : Int) < pos + 3
    · have rq0_0f : nget b 3 ⟨pos.toNat, short⟩ = _ := nget_no (by omega)
      simp only [q0_0f, decide_true, cond_true]
      by_cases q1_0t : (b.length : Int) < pos + 1
      · have rq1_0t : nget b 1 ⟨pos.toNat, true⟩ = _ := nget_no (by omega)
        simp only [q1_0t, decide_true, cond_true]
        have q2_0t : (b.length : Int) < pos + 3 := by omega
        have rq2_0t : nget b 3 ⟨pos.toNat, true⟩ = _ := nget_no (by omega)
        have hP := partN_of rq0_0f rq1_0t rq2_0t
        simp (disch := omega) only [decide_eq_true, Bool.and_self, cond_true, addL, if_true, if_false, k01, k02, k10, k12, k20, k21, Nat.sub_zero, Int.add_zero]
        exact hgo _ _ _ (by rw [hP]; rfl)
      · have rq1_0t : nget b 1 ⟨pos.toNat, true⟩ = _ := nget_ok (by omega)
        have gq1_0t := getI_fst1 (show 0 ≤ pos by omega) (show ¬ (b.length : Int) < pos + 1 by omega)
        simp only [q1_0t, decide_false, cond_false, gq1_0t]
        by_cases q2_1t : (b.length : Int) < pos + 4
        · have rq2_1t : nget b 3 ⟨pos.toNat + 1, true⟩ = _ := nget_no (by omega)
          simp only [q2_1t, decide_true, cond_true]
          have hP := partN_of rq0_0f rq1_0t rq2_1t
          have lv1 := leVal_le (b.drop (pos.toNat)) 1
          simp only [Nat.reducePow] at lv1
          simp (disch := omega) only [decide_eq_true, Bool.and_self, cond_true, addL, if_true, if_false, k01, k02, k10, k12, k20, k21, Nat.sub_zero, Int.add_zero, tn1]
          cases hz : ((leVal ((b.drop (pos.toNat)).take 1) : Int) == 0)
          · simp only [cond_false]
            exact hgo _ _ _ (by rw [hP, hz]; rfl)
          · simp only [cond_true]
            exact hgo _ _ _ (by rw [hP, hz]; rfl)
        · have rq2_1t : nget b 3 ⟨pos.toNat + 1, true⟩ = _ := nget_ok (by omega)
          rw [show pos.toNat + 1 + 3 = pos.toNat + 4 by omega] at rq2_1t
          have gq2_1t := getI_fst3 (show 0 ≤ pos + 1 by omega) (show ¬ (b.length : Int) < pos + 1 + 3 by omega)
          rw [tn1] at gq2_1t
          simp only [q2_1t, decide_false, cond_false, gq2_1t]
          have hP := partN_of rq0_0f rq1_0t rq2_1t
          have lv1 := leVal_le (b.drop (pos.toNat)) 1
          simp only [Nat.reducePow] at lv1
          have lv3 := leVal_le (b.drop (pos.toNat + 1)) 3
          simp only [Nat.reducePow] at lv3
          simp (disch := omega) only [decide_eq_true, Bool.and_self, cond_true, addL, if_true, if_false, k01, k02, k10, k12, k20, k21, Nat.sub_zero, Int.add_zero, tn4]
          cases hz : ((leVal ((b.drop (pos.toNat)).take 1) : Int) == 0)
          · simp only [cond_false]
            exact hgo _ _ _ (by rw [hP, hz]; rfl)
          · simp only [cond_true]
            cases hf : ((leVal ((b.drop (pos.toNat + 1)).take 3) : Int) != 0)
            · simp only [cond_false]
              exact hgo _ _ _ (by rw [hP, hz, hf]; rfl)
            · simp only [cond_true]
              exact hret _ _ _ (by rw [hP, hz, hf]; rfl)
    · have rq0_0f : nget b 3 ⟨pos.toNat, short⟩ = _ := nget_ok (by omega)
      have gq0_0f := getI_fst3 (show 0 ≤ pos by omega) (show ¬ (b.length : Int) < pos + 3 by omega)
      simp only [q0_0f, decide_false, cond_false, gq0_0f]
      by_cases q1_3f : (b.length : Int) < pos + 4
      · have rq1_3f : nget b 1 ⟨pos.toNat + 3, short⟩ = _ := nget_no (by omega)
        simp only [q1_3f, decide_true, cond_true]
        have q2_3t : (b.length : Int) < pos + 6 := by omega
        have rq2_3t : nget b 3 ⟨pos.toNat + 3, true⟩ = _ := nget_no (by omega)
        simp only [q2_3t, decide_true, cond_true]
        have hP := partN_of rq0_0f rq1_3f rq2_3t
        simp (disch := omega) only [decide_eq_true, Bool.and_self, cond_true, addL, if_true, if_false, k01, k02, k10, k12, k20, k21, Nat.sub_zero, Int.add_zero, tn3]
        exact hgo _ _ _ (by rw [hP]; rfl)
      · have rq1_3f : nget b 1 ⟨pos.toNat + 3, short⟩ = _ := nget_ok (by omega)
        rw [show pos.toNat + 3 + 1 = pos.toNat + 4 by omega] at rq1_3f
        have gq1_3f := getI_fst1 (show 0 ≤ pos + 3 by omega) (show ¬ (b.length : Int) < pos + 3 + 1 by omega)
        rw [tn3] at gq1_3f
        simp only [q1_3f, decide_false, cond_false, gq1_3f]
        by_cases q2_4f : (b.length : Int) < pos + 7
        · have rq2_4f : nget b 3 ⟨pos.toNat + 4, short⟩ = _ := nget_no (by omega)
          simp only [q2_4f, decide_true, cond_true]
          have hP := partN_of rq0_0f rq1_3f rq2_4f
          have lv1 := leVal_le (b.drop (pos.toNat + 3)) 1
          simp only [Nat.reducePow] at lv1
          simp (disch := omega) only [decide_eq_true, Bool.and_self, cond_true, addL, if_true, if_false, k01, k02, k10, k12, k20, k21, Nat.sub_zero, Int.add_zero, tn4]
          cases hz : ((leVal ((b.drop (pos.toNat + 3)).take 1) : Int) == 0)
          · simp only [cond_false]
            exact hgo _ _ _ (by rw [hP, hz]; rfl)
          · simp only [cond_true]
            exact hgo _ _ _ (by rw [hP, hz]; rfl)
        · have rq2_4f : nget b 3 ⟨pos.toNat + 4, short⟩ = _ := nget_ok (by omega)
          rw [show pos.toNat + 4 + 3 = pos.toNat + 7 by omega] at rq2_4f
          have gq2_4f := getI_fst3 (show 0 ≤ pos + 4 by omega) (show ¬ (b.length : Int) < pos + 4 + 3 by omega)
          rw [tn4] at gq2_4f
          simp only [q2_4f, decide_false, cond_false, gq2_4f]
          have hP := partN_of rq0_0f rq1_3f rq2_4f
          have lv1 := leVal_le (b.drop (pos.toNat + 3)) 1
          simp only [Nat.reducePow] at lv1
          have lv3 := leVal_le (b.drop (pos.toNat + 4)) 3
          simp only [Nat.reducePow] at lv3
          simp (disch := omega) only [decide_eq_true, Bool.and_self, cond_true, addL, if_true, if_false, k01, k02, k10, k12, k20, k21, Nat.sub_zero, Int.add_zero, tn7]
          cases hz : ((leVal ((b.drop (pos.toNat + 3)).take 1) : Int) == 0)
          · simp only [cond_false]
            exact hgo _ _ _ (by rw [hP, hz]; rfl)
          · simp only [cond_true]
            cases hf : ((leVal ((b.drop (pos.toNat + 4)).take 3) : Int) != 0)
            · simp only [cond_false]
              exact hgo _ _ _ (by rw [hP, hz, hf]; rfl)
            · simp only [cond_true]
              exact hret _ _ _ (by rw [hP, hz, hf]; rfl)
theorem riQ_go2 (c : Bool) (b : List UInt8) (pos : Int) (short : Bool) (pl : Int) (its : List Item) (l0 l1 l2 : List Line) (c0 c1 c2 : Int) (h2 : b.length ≤ 1000000) (h3 : 0 ≤ pos ∧ pos ≤ b.length) (h4 : l0.length ≤ 255 * 2) (h5 : l1.length ≤ 255 * 2) (h6 : l2.length ≤ 255 * 2) : Leaf (riQ_r c b pos short pl its l0 l1 l2 c0 c1 c2 [0, 0, 0] 2) (LedR riQ_S ⟨c, b, pos, short, pl, its, l0, l1, l2, c0, c1, c2, [0, 0, 0], 2⟩) := by
    have pp : ((pos.toNat : Nat) : Int) = pos := by omega
    have k01 : ¬ (0 : Int) = 1 := by omega
    have k02 : ¬ (0 : Int) = 2 := by omega
    have k10 : ¬ (1 : Int) = 0 := by omega
    have k12 : ¬ (1 : Int) = 2 := by omega
    have k20 : ¬ (2 : Int) = 0 := by omega
    have k21 : ¬ (2 : Int) = 1 := by omega
    have e0 : decide (b.length ≤ 1000000000000) = true := decide_eq_true (by omega)
    have wv : ∀ x : Int, 0 ≤ x → x ≤ 20000000 → IntKind.i64.wrap x = x := fun x _ _ => wrap_id (by omega) (by omega)
    have tn1 : (pos + 1).toNat = pos.toNat + 1 := by omega
    have tn3 : (pos + 3).toNat = pos.toNat + 3 := by omega
    have tn4 : (pos + 4).toNat = pos.toNat + 4 := by omega
    have tn2 : (pos + 2).toNat = pos.toNat + 2 := by omega
    have tn5 : (pos + 5).toNat = pos.toNat + 5 := by omega
    have a13 : pos + 1 + 3 = pos + 4 := by omega
    have a31 : pos + 3 + 1 = pos + 4 := by omega
    have a41 : pos + 4 + 1 = pos + 5 := by omega
    have a11 : pos + 1 + 1 = pos + 2 := by omega
    have tn7 : (pos + 7).toNat = pos.toNat + 7 := by omega
    have tn6 : (pos + 6).toNat = pos.toNat + 6 := by omega
    have a43 : pos + 4 + 3 = pos + 7 := by omega
    have a33 : pos + 3 + 3 = pos + 6 := by omega
    have pb := partN_pos (b := b) (s := ⟨pos.toNat, short⟩) (by simp only; omega)
    have pn := partN_len b ⟨pos.toNat, short⟩
    have hgo : ∀ (r' : Rn) (cut : Int) (L : List Line), partN b ⟨pos.toNat, short⟩ = (false, r', cut, L) → Leaf (some ((X.normal, [(4, .ptr 0 []), (5, .ptr 1 []), (11, .int .i64 3), (2, .ptr 6 []), (3, .int .i64 0)]), [some (.var 101 (.acons (.sl (C := RC) .u8 c b) (.acons (.int .i64 r'.pos) (.acons (.bool r'.short) .anil)))), some (.var 30 (.acons (.int .i64 pl) (.acons (.vs 2 its.length) (.acons (.acons (.vs 3 l0.length) (.acons (.vs 4 l1.length) (.acons (.vs 5 (l2 ++ L).length) .anil))) (.acons (.arr (C := RC) .int 3 [c0, c1, cut]) .anil))))), some (.vec (C := RC) .item true its), some (.vec (C := RC) .line true l0), some (.vec (C := RC) .line true l1), some (.vec (C := RC) .line true (l2 ++ L)), some (.var 30 (.acons (.int .i64 0) (.acons (.sl (C := RC) .item true []) (.acons (.acons (.sl (C := RC) .line true []) (.acons (.sl (C := RC) .line true []) (.acons (.sl (C := RC) .line true []) .anil))) (.acons (.arr (C := RC) .int 3 [0, 0, 0]) .anil)))))])) (LedR riQ_S ⟨c, b, pos, short, pl, its, l0, l1, l2, c0, c1, c2, [0, 0, 0], 2⟩) := by
      intro r' cut L hP
      rw [hP] at pb pn
      simp only at pb pn
      have hrun : runN b 3 ⟨⟨r'.pos, r'.short⟩, l0, l1, l2 ++ L, c0, c1, cut⟩ = runN b 2 ⟨⟨pos.toNat, short⟩, l0, l1, l2, c0, c1, c2⟩ := by
        simp only [runN, stepN2, hP, cond_false]
      refine leafR_go ⟨c, b, r'.pos, r'.short, pl, its, l0, l1, l2 ++ L, c0, c1, cut, [0, 0, 0], 3⟩ ?_ (by simp only [riQ_S]; omega) ?_ rfl rfl
      · refine ⟨by simp, h2, ?_, ?_, ?_, ?_, rfl⟩ <;> simp <;> omega
      · simp only [riQ_S, riQ_fin, Int.toNat_natCast, hrun]
    have hret : ∀ (r' : Rn) (cut : Int) (L : List Line), partN b ⟨pos.toNat, short⟩ = (true, r', cut, L) → Leaf (some ((X.ret, [(3, .int .i64 50)]), [some (.var 101 (.acons (.sl (C := RC) .u8 c b) (.acons (.int .i64 r'.pos) (.acons (.bool r'.short) .anil)))), some (.var 30 (.acons (.int .i64 pl) (.acons (.vs 2 its.length) (.acons (.acons (.vs 3 l0.length) (.acons (.vs 4 l1.length) (.acons (.vs 5 (l2 ++ L).length) .anil))) (.acons (.arr (C := RC) .int 3 [c0, c1, cut]) .anil))))), some (.vec (C := RC) .item true its), some (.vec (C := RC) .line true l0), some (.vec (C := RC) .line true l1), some (.vec (C := RC) .line true (l2 ++ L)), some (.var 30 (.acons (.int .i64 0) (.acons (.sl (C := RC) .item true []) (.acons (.acons (.sl (C := RC) .line true []) (.acons (.sl (C := RC) .line true []) (.acons (.sl (C := RC) .line true []) .anil))) (.acons (.arr (C := RC) .int 3 [0, 0, 0]) .anil)))))])) (LedR riQ_S ⟨c, b, pos, short, pl, its, l0, l1, l2, c0, c1, c2, [0, 0, 0], 2⟩) := by
      intro r' cut L hP
      have hrun : runN b 2 ⟨⟨pos.toNat, short⟩, l0, l1, l2, c0, c1, c2⟩ = (true, ⟨⟨r'.pos, r'.short⟩, l0, l1, l2 ++ L, c0, c1, cut⟩) := by
        simp only [runN, stepN2, hP, cond_true]
      exact leafR_ret (riQ_o c b r'.pos r'.short pl its l0 l1 (l2 ++ L) c0 c1 cut [0, 0, 0] 0) (by simp only [riQ_S, riQ_fin, hrun, RT.val, cond_true, riQ_o]) rfl
    (rw [riQ_eq2]; conv => zeta)
    simp only [e0, cond_true]
    simp (disch := omega) only [wv, a13, a31, a41, a11, a43, a33, getI_snd1, getI_snd3]
    by_cases q0_0f : (b.length : Int) < pos + 3
    · have rq0_0f : nget b 3 ⟨pos.toNat, short⟩ = _ := nget_no (by omega)
      simp only [q0_0f, decide_true, cond_true]
      by_cases q1_0t : (b.length : Int) < pos + 1
      · have rq1_0t : nget b 1 ⟨pos.toNat, true⟩ = _ := nget_no (by omega)
        simp only [q1_0t, decide_true, cond_true]
        have q2_0t : (b.length : Int) < pos + 3 := by omega
        have rq2_0t : nget b 3 ⟨pos.toNat, true⟩ = _ := nget_no (by omega)
        have hP := partN_of rq0_0f rq1_0t rq2_0t
        simp (disch := omega) only [decide_eq_true, Bool.and_self, cond_true, addL, if_true, if_false, k01, k02, k10, k12, k20, k21, Nat.sub_zero, Int.add_zero]
        exact hgo _ _ _ (by rw [hP]; rfl)
      · have rq1_0t : nget b 1 ⟨pos.toNat, true⟩ = _ := nget_ok (by omega)
        have gq1_0t := getI_fst1 (show 0 ≤ pos by omega) (show ¬ (b.length : Int) < pos + 1 by omega)
        simp only [q1_0t, decide_false, cond_false, gq1_0t]
        by_cases q2_1t : (b.length : Int) < pos + 4
        · have rq2_1t : nget b 3 ⟨pos.toNat + 1, true⟩ = _ := nget_no (by omega)
          simp only [q2_1t, decide_true, cond_true]
          have hP := partN_of rq0_0f rq1_0t rq2_1t
          have lv1 := leVal_le (b.drop (pos.toNat)) 1
          simp only [Nat.reducePow] at lv1
          simp (disch := omega) only [decide_eq_true, Bool.and_self, cond_true, addL, if_true, if_false, k01, k02, k10, k12, k20, k21, Nat.sub_zero, Int.add_zero, tn1]
          cases hz : ((leVal ((b.drop (pos.toNat)).take 1) : Int) == 0)
          · simp only [cond_false]
            exact hgo _ _ _ (by rw [hP, hz]; rfl)
          · simp only [cond_true]
            exact hgo _ _ _ (by rw [hP, hz]; rfl)
        · have rq2_1t : nget b 3 ⟨pos.toNat + 1, true⟩ = _ := nget_ok (by omega)
          rw [show pos.toNat + 1 + 3 = pos.toNat + 4 by omega] at rq2_1t
          have gq2_1t := getI_fst3 (show 0 ≤ pos + 1 by omega) (show ¬ (b.length : Int) < pos + 1 + 3 by omega)
          rw [tn1] at gq2_1t
          simp only [q2_1t, decide_false, cond_false, gq2_1t]
          have hP := partN_of rq0_0f rq1_0t rq2_1t
          have lv1 := leVal_le (b.drop (pos.toNat)) 1
          simp only [Nat.reducePow] at lv1
          have lv3 := leVal_le (b.drop (pos.toNat + 1)) 3
          simp only [Nat.reducePow] at lv3
          simp (disch := omega) only [decide_eq_true, Bool.and_self, cond_true, addL, if_true, if_false, k01, k02, k10, k12, k20, k21, Nat.sub_zero, Int.add_zero, tn4]
          cases hz : ((leVal ((b.drop (pos.toNat)).take 1) : Int) == 0)
          · simp only [cond_false]
            exact hgo _ _ _ (by rw [hP, hz]; rfl)
          · simp only [cond_true]
            cases hf : ((leVal ((b.drop (pos.toNat + 1)).take 3) : Int) != 0)
            · simp only [cond_false]
              exact hgo _ _ _ (by rw [hP, hz, hf]; rfl)
            · simp only [cond_true]
              exact hret _ _ _ (by rw [hP, hz, hf]; rfl)
    · have rq0_0f : nget b 3 ⟨pos.toNat, short⟩ = _ := nget_ok (by omega)
      have gq0_0f := getI_fst3 (show 0 ≤ pos by omega) (show ¬ (b.length : Int) < pos + 3 by omega)
      simp only [q0_0f, decide_false, cond_false, gq0_0f]
      by_cases q1_3f : (b.length : Int) < pos + 4
      · have rq1_3f : nget b 1 ⟨pos.toNat + 3, short⟩ = _ := nget_no (by omega)
        simp only [q1_3f, decide_true, cond_true]
        have q2_3t : (b.length : Int) < pos + 6 := by omega
        have rq2_3t : nget b 3 ⟨pos.toNat + 3, true⟩ = _ := nget_no (by omega)
        simp only [q2_3t, decide_true, cond_true]
        have hP := partN_of rq0_0f rq1_3f rq2_3t
        simp (disch := omega) only [decide_eq_true, Bool.and_self, cond_true, addL, if_true, if_false, k01, k02, k10, k12, k20, k21, Nat.sub_zero, Int.add_zero, tn3]
        exact hgo _ _ _ (by rw [hP]; rfl)
      · have rq1_3f : nget b 1 ⟨pos.toNat + 3, short⟩ = _ := nget_ok (by omega)
        rw [show pos.toNat + 3 + 1 = pos.toNat + 4 by omega] at rq1_3f
        have gq1_3f := getI_fst1 (show 0 ≤ pos + 3 by omega) (show ¬ (b.length : Int) < pos + 3 + 1 by omega)
        rw [tn3] at gq1_3f
        simp only [q1_3f, decide_false, cond_false, gq1_3f]
        by_cases q2_4f : (b.length : Int) < pos + 7
        · have rq2_4f : nget b 3 ⟨pos.toNat + 4, short⟩ = _ := nget_no (by omega)
          simp only [q2_4f, decide_true, cond_true]
          have hP := partN_of rq0_0f rq1_3f rq2_4f
          have lv1 := leVal_le (b.drop (pos.toNat + 3)) 1
          simp only [Nat.reducePow] at lv1
          simp (disch := omega) only [decide_eq_true, Bool.and_self, cond_true, addL, if_true, if_false, k01, k02, k10, k12, k20, k21, Nat.sub_zero, Int.add_zero, tn4]
          cases hz : ((leVal ((b.drop (pos.toNat + 3)).take 1) : Int) == 0)
          · simp only [cond_false]
            exact hgo _ _ _ (by rw [hP, hz]; rfl)
          · simp only [cond_true]
            exact hgo _ _ _ (by rw [hP, hz]; rfl)
        · have rq2_4f : nget b 3 ⟨pos.toNat + 4, short⟩ = _ := nget_ok (by omega)
          rw [show pos.toNat + 4 + 3 = pos.toNat + 7 by omega] at rq2_4f
          have gq2_4f := getI_fst3 (show 0 ≤ pos + 4 by omega) (show ¬ (b.length : Int) < pos + 4 + 3 by omega)
          rw [tn4] at gq2_4f
          simp only [q2_4f, decide_false, cond_false, gq2_4f]
          have hP := partN_of rq0_0f rq1_3f rq2_4f
          have lv1 := leVal_le (b.drop (pos.toNat + 3)) 1
          simp only [Nat.reducePow] at lv1
          have lv3 := leVal_le (b.drop (pos.toNat + 4)) 3
          simp only [Nat.reducePow] at lv3
          simp (disch := omega) only [decide_eq_true, Bool.and_self, cond_true, addL, if_true, if_false, k01, k02, k10, k12, k20, k21, Nat.sub_zero, Int.add_zero, tn7]
          cases hz : ((leVal ((b.drop (pos.toNat + 3)).take 1) : Int) == 0)
          · simp only [cond_false]
            exact hgo _ _ _ (by rw [hP, hz]; rfl)
          · simp only [cond_true]
            cases hf : ((leVal ((b.drop (pos.toNat + 4)).take 3) : Int) != 0)
            · simp only [cond_false]
              exact hgo _ _ _ (by rw [hP, hz, hf]; rfl)
            · simp only [cond_true]
              exact hret _ _ _ (by rw [hP, hz, hf]; rfl)
theorem riQ_round (c : Bool) (b : List UInt8) (pos : Int) (short : Bool) (pl : Int) (its : List Item) (l0 : List Line) (l1 : List Line) (l2 : List Line) (c0 : Int) (c1 : Int) (c2 : Int) (zs : List Int) (q : Nat) (hI : riQ_Inv c b pos short pl its l0 l1 l2 c0 c1 c2 zs q) : Leaf (riQ_r c b pos short pl its l0 l1 l2 c0 c1 c2 zs q) (LedR riQ_S ⟨c, b, pos, short, pl, its, l0, l1, l2, c0, c1, c2, zs, q⟩) := by
  unfold riQ_Inv at hI
  obtain ⟨h1, h2, h3, h4, h5, h6, h7⟩ := hI
  subst h7
  have pp : ((pos.toNat : Nat) : Int) = pos := by omega
  by_cases x3 : q = 3
  · subst x3
    (rw [riQ_eq3]; conv => zeta)
    exact leafR_exit (riQ_o c b pos short pl its l0 l1 l2 c0 c1 c2 [0, 0, 0] 3) (by simp only [riQ_S, riQ_fin, riQ_o, runN, RT.val, cond_false, pp]) rfl
  by_cases x0 : q = 0
  · subst x0; exact riQ_go0 c b pos short pl its l0 l1 l2 c0 c1 c2 h2 h3 h4 h5 h6
  by_cases x1 : q = 1
  · subst x1; exact riQ_go1 c b pos short pl its l0 l1 l2 c0 c1 c2 h2 h3 h4 h5 h6
  by_cases x2 : q = 2
  · subst x2; exact riQ_go2 c b pos short pl its l0 l1 l2 c0 c1 c2 h2 h3 h4 h5 h6
  omega
def riQ_d (env : Env RC) (os : List (Obj RC)) : Option (Bool × riQ_St) := match env, os with
  | [(4, .ptr 0 []), (5, .ptr 1 []), (11, .int .i64 x0), (2, .ptr 6 []), (3, .int .i64 x1)], [.var 101 (.acons (.sl .u8 c b) (.acons (.int .i64 pos) (.acons (.bool short) .anil))), .var 30 (.acons (.int .i64 pl) (.acons (.vs 2 x2) (.acons (.acons (.vs 3 x3) (.acons (.vs 4 x4) (.acons (.vs 5 x5) .anil))) (.acons (.arr .int 3 [c0, c1, c2]) .anil)))), .vec .item true its, .vec .line true l0, .vec .line true l1, .vec .line true l2, .var 30 (.acons (.int .i64 x6) (.acons (.sl .item true []) (.acons (.acons (.sl .line true []) (.acons (.sl .line true []) (.acons (.sl .line true []) .anil))) (.acons (.arr .int 3 zs) .anil))))] => staticD (true) (decide (x0 = 0) && decide (x1 = 0) && decide (x2 = its.length) && decide (x3 = l0.length) && decide (x4 = l1.length) && decide (x5 = l2.length) && decide (x6 = 0) && decide (b.length ≤ 1000000 ∧ (0 ≤ pos ∧ pos ≤ b.length) ∧ l0.length = 0 ∧ l1.length = 0 ∧ l2.length = 0 ∧ zs = [0, 0, 0]), ⟨c, b, pos, short, pl, its, l0, l1, l2, c0, c1, c2, zs, 0⟩)
  | _, _ => none
noncomputable def ur_1 := uq_1.addLoop 44 13 (sumR s07 [.slot 4 0, .slot 5 0, .path 1 [1], .path 1 [2, 0], .path 1 [2, 1], .path 1 [2, 2], .slot 2 0] [4, 5, 11, 2, 3] riQ_S riQ_d)
theorem ur_1_laws : FLaws Try.prog s07 ur_1 := by
  refine uq_1_laws.addRoundsR s07_laws (by kernel_rfl) riQ_S 60 [4, 5, 11, 2, 3] [3] [.slot 4 0, .slot 5 0, .path 1 [1], .path 1 [2, 0], .path 1 [2, 1], .path 1 [2, 2], .slot 2 0] [4, 5, 11, 2, 3] riQ_d (fun q hI => ?_) ?_
  · obtain ⟨c, b, pos, short, pl, its, l0, l1, l2, c0, c1, c2, zs, q⟩ := q
    refine ⟨?_, ?_, riQ_round c b pos short pl its l0 l1 l2 c0 c1 c2 zs q hI⟩
    · simp_all [RefsOK, riQ_S, riQ_c, riQ_o, riQ_Inv, D.refs, Obj.refs, rEnc]
    · simp_all [riQ_S, riQ_fin, riQ_o, riQ_Inv, RT.refsOK, RefsOK, D.refs, Obj.refs, rEnc]
  · intro env os b q hd_ hb
    unfold riQ_d at hd_
    split at hd_
    · obtain ⟨hs, hd_⟩ := staticD_some hd_
      cases hd_
      simp only [Bool.and_eq_true, decide_eq_true_eq] at hb
      obtain ⟨⟨⟨⟨⟨⟨⟨rfl, rfl⟩, rfl⟩, rfl⟩, rfl⟩, rfl⟩, rfl⟩, hq⟩ := hb
      exact ⟨⟨by simp, hq.1, hq.2.1, by simp [hq.2.2.1], by simp [hq.2.2.2.1], by simp [hq.2.2.2.2.1], hq.2.2.2.2.2⟩, rfl, rfl⟩
    · cases hd_
theorem gState_ofN {b : List UInt8} {r r1 r2 : Rn} {p n : Int} (h1 : nget b 3 r = (p, r1)) (h2 : nget b 1 r1 = (n, r2)) :
    gState (rdN b) true markN r = ((runQ (rdN b) true markN 0 ⟨(gItems (rdN b) true n.toNat r2).1, [], [], [], 0, 0, 0⟩).r, ⟨p, (gItems (rdN b) true n.toNat r2).2, (runQ (rdN b) true markN 0 ⟨(gItems (rdN b) true n.toNat r2).1, [], [], [], 0, 0, 0⟩).l0, (runQ (rdN b) true markN 0 ⟨(gItems (rdN b) true n.toNat r2).1, [], [], [], 0, 0, 0⟩).l1, (runQ (rdN b) true markN 0 ⟨(gItems (rdN b) true n.toNat r2).1, [], [], [], 0, 0, 0⟩).l2, (runQ (rdN b) true markN 0 ⟨(gItems (rdN b) true n.toNat r2).1, [], [], [], 0, 0, 0⟩).c0, (runQ (rdN b) true markN 0 ⟨(gItems (rdN b) true n.toNat r2).1, [], [], [], 0, 0, 0⟩).c1, (runQ (rdN b) true markN 0 ⟨(gItems (rdN b) true n.toNat r2).1, [], [], [], 0, 0, 0⟩).c2⟩) := by
  have e1 : (rdN b).get 3 r = (p, r1) := h1
  have e2 : (rdN b).get 1 r1 = (n, r2) := h2
  simp only [gState, e1, e2, runQ, part0, part1, part2, List.nil_append]
theorem runN0_bounds {b : List UInt8} (r : Rn) (h : r.pos ≤ b.length) : (runN b 0 ⟨r, [], [], [], 0, 0, 0⟩).2.l0.length ≤ 255 ∧ (runN b 0 ⟨r, [], [], [], 0, 0, 0⟩).2.l1.length ≤ 255 ∧ (runN b 0 ⟨r, [], [], [], 0, 0, 0⟩).2.l2.length ≤ 255 ∧ (runN b 0 ⟨r, [], [], [], 0, 0, 0⟩).2.r.pos ≤ b.length := by
  have p0 := partN_pos h
  have p1 := partN_pos p0
  have p2 := partN_pos p1
  have z : ([] : List Line).length ≤ 255 := by simp
  simp only [runN, stepN0, stepN1, stepN2, List.nil_append]
  cases (partN b r).1 with
  | true => exact ⟨partN_len _ _, z, z, p0⟩
  | false =>
    simp only [cond_false]
    cases (partN b (partN b r).2.1).1 with
    | true => exact ⟨partN_len _ _, partN_len _ _, z, p1⟩
    | false => exact ⟨partN_len _ _, partN_len _ _, partN_len _ _, p2⟩
end Go.Ev
