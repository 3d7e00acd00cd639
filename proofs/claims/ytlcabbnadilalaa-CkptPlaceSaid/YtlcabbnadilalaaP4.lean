/-
  CkptPlace returns true for any number and any state, and they read behind the call as before. (text 5 of 6)
-/
import Derived.Test.YtlcabbnadilalaaP3
namespace Go.Ev
open Go.Proofs
set_option maxRecDepth 100000
set_option linter.unusedVariables false
set_option linter.unusedSimpArgs false
structure rsQ_St where
  c : Bool
  b : List UInt8
  bad : Bool
  pl : Int
  its : List Item
  l0 : List Line
  l1 : List Line
  l2 : List Line
  c0 : Int
  c1 : Int
  c2 : Int
  q : Nat
def rsQ_c (c : Bool) (b : List UInt8) (bad : Bool) (pl : Int) (its : List Item) (l0 : List Line) (l1 : List Line) (l2 : List Line) (c0 : Int) (c1 : Int) (c2 : Int) (q : Nat) : Env RC := [(4, .ptr 0 []), (5, .ptr 1 []), (39, .int .i64 (q : Int))]
def rsQ_o (c : Bool) (b : List UInt8) (bad : Bool) (pl : Int) (its : List Item) (l0 : List Line) (l1 : List Line) (l2 : List Line) (c0 : Int) (c1 : Int) (c2 : Int) (q : Nat) : List (Obj RC) := [.var 85 (.acons (.sl (C := RC) .u8 c b) (.acons (.bool bad) .anil)), .var 30 (.acons (.int .i64 pl) (.acons (.vs 2 (its.length)) (.acons (.acons (.vs 3 (l0.length)) (.acons (.vs 4 (l1.length)) (.acons (.vs 5 (l2.length)) .anil))) (.acons (.arr (C := RC) .int 3 [c0, c1, c2]) .anil)))), .vec (C := RC) .item true its, .vec (C := RC) .line true l0, .vec (C := RC) .line true l1, .vec (C := RC) .line true l2]
noncomputable def rsQ_r (c : Bool) (b : List UInt8) (bad : Bool) (pl : Int) (its : List Item) (l0 : List Line) (l1 : List Line) (l2 : List Line) (c0 : Int) (c1 : Int) (c2 : Int) (q : Nat) := rndO s07 um_2 32 11 60 6 [4, 5, 39] [] [.slot 4 0, .slot 5 0, .path 1 [1], .path 1 [2, 0], .path 1 [2, 1], .path 1 [2, 2]] (rsQ_c c b bad pl its l0 l1 l2 c0 c1 c2 q) (rsQ_o c b bad pl its l0 l1 l2 c0 c1 c2 q)
set_option maxHeartbeats 4000000 in
theorem rsQ_eq0 (c : Bool) (b : List UInt8) (bad : Bool) (pl : Int) (its : List Item) (l0 l1 l2 : List Line) (c0 c1 c2 : Int) : rsQ_r c b bad pl its l0 l1 l2 c0 c1 c2 0 = (bif decide (List.length b ≤ (1000000000000 : Nat)) then bif Prod.snd (getP b (0 : Int) (3 : Int)) != (0 : Int) then bif decide (List.length its = List.length its) && decide (List.length l0 = List.length l0) && decide (List.length l1 = List.length l1) && decide (List.length l2 = List.length l2) && decide ((0 : Int) ≤ (0 : Int) ∧ (0 : Int) ≤ (255 : Int) ∧ (0 : Nat) ≤ (1000000 : Nat) ∧ (List.length l0 ≤ (1000 : Nat) ∧ List.length l1 ≤ (1000 : Nat) ∧ List.length l2 ≤ (1000 : Nat)) ∧ ((0 : Int) ≤ (0 : Int) ∧ (0 : Int) ≤ (2 : Int)) ∧ (0 : Int) ≤ (0 : Int) ∧ (0 : Int) ≤ (16777215 : Int)) then some ((X.normal, [((4 : Nat), D.ptr (0 : Nat) []), ((5 : Nat), D.ptr (1 : Nat) []), ((39 : Nat), D.int .i64 (1 : Int))]), [some (Obj.var (85 : Nat) (.acons (D.sl RTy.u8 true (gLines rdP false (0 : Nat) (0 : Int) (Rd.mk true [] true)).1.b) (.acons (D.bool true) .anil))), some (Obj.var (30 : Nat) (.acons (D.int .i64 pl) (.acons (D.vs (2 : Nat) its.length) (.acons (D.acons (D.vs (3 : Nat) (addL (0 : Int) (0 : Int) l0 (gLines rdP false (0 : Nat) (0 : Int) (Rd.mk true [] true)).2).length) (.acons (D.vs (4 : Nat) (addL (0 : Int) (1 : Int) l1 (gLines rdP false (0 : Nat) (0 : Int) (Rd.mk true [] true)).2).length) (.acons (D.vs (5 : Nat) (addL (0 : Int) (2 : Int) l2 (gLines rdP false (0 : Nat) (0 : Int) (Rd.mk true [] true)).2).length) .anil))) (.acons (D.arr RTy.int (3 : Nat) [(0 : Int), c1, c2]) .anil))))), some (Obj.vec RTy.item true its), some (Obj.vec RTy.line true (addL (0 : Int) (0 : Int) l0 (gLines rdP false (0 : Nat) (0 : Int) (Rd.mk true [] true)).2)), some (Obj.vec RTy.line true (addL (0 : Int) (1 : Int) l1 (gLines rdP false (0 : Nat) (0 : Int) (Rd.mk true [] true)).2)), some (Obj.vec RTy.line true (addL (0 : Int) (2 : Int) l2 (gLines rdP false (0 : Nat) (0 : Int) (Rd.mk true [] true)).2))]) else none else bif decide ((0 : Int) ≤ (3 : Int) ∧ (3 : Int) ≤ (↑b.length : Int)) then bif decide (List.length (List.drop (3 : Nat) b) ≤ (1000000000000 : Nat)) then bif Prod.snd (getP (List.drop (3 : Nat) b) (0 : Int) (1 : Int)) != (0 : Int) then bif decide (List.length its = List.length its) && decide (List.length l0 = List.length l0) && decide (List.length l1 = List.length l1) && decide (List.length l2 = List.length l2) && decide ((0 : Int) ≤ (0 : Int) ∧ (0 : Int) ≤ (255 : Int) ∧ (0 : Nat) ≤ (1000000 : Nat) ∧ (List.length l0 ≤ (1000 : Nat) ∧ List.length l1 ≤ (1000 : Nat) ∧ List.length l2 ≤ (1000 : Nat)) ∧ ((0 : Int) ≤ (0 : Int) ∧ (0 : Int) ≤ (2 : Int)) ∧ (0 : Int) ≤ (0 : Int) ∧ (0 : Int) ≤ (16777215 : Int)) then some ((X.normal, [((4 : Nat), D.ptr (0 : Nat) []), ((5 : Nat), D.ptr (1 : Nat) []), ((39 : Nat), D.int .i64 (1 : Int))]), [some (Obj.var (85 : Nat) (.acons (D.sl RTy.u8 true (gLines rdP false (0 : Nat) (0 : Int) (Rd.mk true [] true)).1.b) (.acons (D.bool true) .anil))), some (Obj.var (30 : Nat) (.acons (D.int .i64 pl) (.acons (D.vs (2 : Nat) its.length) (.acons (D.acons (D.vs (3 : Nat) (addL (0 : Int) (0 : Int) l0 (gLines rdP false (0 : Nat) (0 : Int) (Rd.mk true [] true)).2).length) (.acons (D.vs (4 : Nat) (addL (0 : Int) (1 : Int) l1 (gLines rdP false (0 : Nat) (0 : Int) (Rd.mk true [] true)).2).length) (.acons (D.vs (5 : Nat) (addL (0 : Int) (2 : Int) l2 (gLines rdP false (0 : Nat) (0 : Int) (Rd.mk true [] true)).2).length) .anil))) (.acons (D.arr RTy.int (3 : Nat) [Prod.fst (getP b (0 : Int) (3 : Int)), c1, c2]) .anil))))), some (Obj.vec RTy.item true its), some (Obj.vec RTy.line true (addL (0 : Int) (0 : Int) l0 (gLines rdP false (0 : Nat) (0 : Int) (Rd.mk true [] true)).2)), some (Obj.vec RTy.line true (addL (0 : Int) (1 : Int) l1 (gLines rdP false (0 : Nat) (0 : Int) (Rd.mk true [] true)).2)), some (Obj.vec RTy.line true (addL (0 : Int) (2 : Int) l2 (gLines rdP false (0 : Nat) (0 : Int) (Rd.mk true [] true)).2))]) else none else bif decide ((0 : Int) ≤ (1 : Int) ∧ (1 : Int) ≤ (↑(List.drop (3 : Nat) b).length : Int)) then bif decide (List.length (List.drop (1 : Nat) (List.drop (3 : Nat) b)) ≤ (1000000000000 : Nat)) then bif Prod.snd (getP (List.drop (1 : Nat) (List.drop (3 : Nat) b)) (0 : Int) (3 : Int)) != (0 : Int) then bif decide (List.length its = List.length its) && decide (List.length l0 = List.length l0) && decide (List.length l1 = List.length l1) && decide (List.length l2 = List.length l2) && decide ((0 : Int) ≤ Prod.fst (getP (List.drop (3 : Nat) b) (0 : Int) (1 : Int)) ∧ Prod.fst (getP (List.drop (3 : Nat) b) (0 : Int) (1 : Int)) ≤ (255 : Int) ∧ (0 : Nat) ≤ (1000000 : Nat) ∧ (List.length l0 ≤ (1000 : Nat) ∧ List.length l1 ≤ (1000 : Nat) ∧ List.length l2 ≤ (1000 : Nat)) ∧ ((0 : Int) ≤ (0 : Int) ∧ (0 : Int) ≤ (2 : Int)) ∧ (0 : Int) ≤ (0 : Int) ∧ (0 : Int) ≤ (16777215 : Int)) then some ((X.normal, [((4 : Nat), D.ptr (0 : Nat) []), ((5 : Nat), D.ptr (1 : Nat) []), ((39 : Nat), D.int .i64 (1 : Int))]), [some (Obj.var (85 : Nat) (.acons (D.sl RTy.u8 (gLines rdP false (Int.toNat (getP (List.drop (3 : Nat) b) (0 : Int) (1 : Int)).1 - (0 : Nat)) (0 : Int) (Rd.mk true [] true)).1.c (gLines rdP false (Int.toNat (getP (List.drop (3 : Nat) b) (0 : Int) (1 : Int)).1 - (0 : Nat)) (0 : Int) (Rd.mk true [] true)).1.b) (.acons (D.bool (gLines rdP false (Int.toNat (getP (List.drop (3 : Nat) b) (0 : Int) (1 : Int)).1 - (0 : Nat)) (0 : Int) (Rd.mk true [] true)).1.bad) .anil))), some (Obj.var (30 : Nat) (.acons (D.int .i64 pl) (.acons (D.vs (2 : Nat) its.length) (.acons (D.acons (D.vs (3 : Nat) (addL (0 : Int) (0 : Int) l0 (gLines rdP false (Int.toNat (getP (List.drop (3 : Nat) b) (0 : Int) (1 : Int)).1 - (0 : Nat)) (0 : Int) (Rd.mk true [] true)).2).length) (.acons (D.vs (4 : Nat) (addL (0 : Int) (1 : Int) l1 (gLines rdP false (Int.toNat (getP (List.drop (3 : Nat) b) (0 : Int) (1 : Int)).1 - (0 : Nat)) (0 : Int) (Rd.mk true [] true)).2).length) (.acons (D.vs (5 : Nat) (addL (0 : Int) (2 : Int) l2 (gLines rdP false (Int.toNat (getP (List.drop (3 : Nat) b) (0 : Int) (1 : Int)).1 - (0 : Nat)) (0 : Int) (Rd.mk true [] true)).2).length) .anil))) (.acons (D.arr RTy.int (3 : Nat) [Prod.fst (getP b (0 : Int) (3 : Int)), c1, c2]) .anil))))), some (Obj.vec RTy.item true its), some (Obj.vec RTy.line true (addL (0 : Int) (0 : Int) l0 (gLines rdP false (Int.toNat (getP (List.drop (3 : Nat) b) (0 : Int) (1 : Int)).1 - (0 : Nat)) (0 : Int) (Rd.mk true [] true)).2)), some (Obj.vec RTy.line true (addL (0 : Int) (1 : Int) l1 (gLines rdP false (Int.toNat (getP (List.drop (3 : Nat) b) (0 : Int) (1 : Int)).1 - (0 : Nat)) (0 : Int) (Rd.mk true [] true)).2)), some (Obj.vec RTy.line true (addL (0 : Int) (2 : Int) l2 (gLines rdP false (Int.toNat (getP (List.drop (3 : Nat) b) (0 : Int) (1 : Int)).1 - (0 : Nat)) (0 : Int) (Rd.mk true [] true)).2))]) else none else bif decide ((0 : Int) ≤ (3 : Int) ∧ (3 : Int) ≤ (↑(List.drop (1 : Nat) (List.drop (3 : Nat) b)).length : Int)) then bif bad then bif decide (List.length its = List.length its) && decide (List.length l0 = List.length l0) && decide (List.length l1 = List.length l1) && decide (List.length l2 = List.length l2) && decide ((0 : Int) ≤ Prod.fst (getP (List.drop (3 : Nat) b) (0 : Int) (1 : Int)) ∧ Prod.fst (getP (List.drop (3 : Nat) b) (0 : Int) (1 : Int)) ≤ (255 : Int) ∧ List.length (List.drop (3 : Nat) (List.drop (1 : Nat) (List.drop (3 : Nat) b))) ≤ (1000000 : Nat) ∧ (List.length l0 ≤ (1000 : Nat) ∧ List.length l1 ≤ (1000 : Nat) ∧ List.length l2 ≤ (1000 : Nat)) ∧ ((0 : Int) ≤ (0 : Int) ∧ (0 : Int) ≤ (2 : Int)) ∧ (0 : Int) ≤ Prod.fst (getP (List.drop (1 : Nat) (List.drop (3 : Nat) b)) (0 : Int) (3 : Int)) ∧ Prod.fst (getP (List.drop (1 : Nat) (List.drop (3 : Nat) b)) (0 : Int) (3 : Int)) ≤ (16777215 : Int)) then some ((X.normal, [((4 : Nat), D.ptr (0 : Nat) []), ((5 : Nat), D.ptr (1 : Nat) []), ((39 : Nat), D.int .i64 (1 : Int))]), [some (Obj.var (85 : Nat) (.acons (D.sl RTy.u8 (gLines rdP false (Int.toNat (getP (List.drop (3 : Nat) b) (0 : Int) (1 : Int)).1 - (0 : Nat)) (Prod.fst (getP (List.drop (1 : Nat) (List.drop (3 : Nat) b)) (0 : Int) (3 : Int)) + (0 : Int)) (Rd.mk c (List.drop (3 : Nat) (List.drop (1 : Nat) (List.drop (3 : Nat) b))) true)).1.c (gLines rdP false (Int.toNat (getP (List.drop (3 : Nat) b) (0 : Int) (1 : Int)).1 - (0 : Nat)) (Prod.fst (getP (List.drop (1 : Nat) (List.drop (3 : Nat) b)) (0 : Int) (3 : Int)) + (0 : Int)) (Rd.mk c (List.drop (3 : Nat) (List.drop (1 : Nat) (List.drop (3 : Nat) b))) true)).1.b) (.acons (D.bool (gLines rdP false (Int.toNat (getP (List.drop (3 : Nat) b) (0 : Int) (1 : Int)).1 - (0 : Nat)) (Prod.fst (getP (List.drop (1 : Nat) (List.drop (3 : Nat) b)) (0 : Int) (3 : Int)) + (0 : Int)) (Rd.mk c (List.drop (3 : Nat) (List.drop (1 : Nat) (List.drop (3 : Nat) b))) true)).1.bad) .anil))), some (Obj.var (30 : Nat) (.acons (D.int .i64 pl) (.acons (D.vs (2 : Nat) its.length) (.acons (D.acons (D.vs (3 : Nat) (addL (0 : Int) (0 : Int) l0 (gLines rdP false (Int.toNat (getP (List.drop (3 : Nat) b) (0 : Int) (1 : Int)).1 - (0 : Nat)) (Prod.fst (getP (List.drop (1 : Nat) (List.drop (3 : Nat) b)) (0 : Int) (3 : Int)) + (0 : Int)) (Rd.mk c (List.drop (3 : Nat) (List.drop (1 : Nat) (List.drop (3 : Nat) b))) true)).2).length) (.acons (D.vs (4 : Nat) (addL (0 : Int) (1 : Int) l1 (gLines rdP false (Int.toNat (getP (List.drop (3 : Nat) b) (0 : Int) (1 : Int)).1 - (0 : Nat)) (Prod.fst (getP (List.drop (1 : Nat) (List.drop (3 : Nat) b)) (0 : Int) (3 : Int)) + (0 : Int)) (Rd.mk c (List.drop (3 : Nat) (List.drop (1 : Nat) (List.drop (3 : Nat) b))) true)).2).length) (.acons (D.vs (5 : Nat) (addL (0 : Int) (2 : Int) l2 (gLines rdP false (Int.toNat (getP (List.drop (3 : Nat) b) (0 : Int) (1 : Int)).1 - (0 : Nat)) (Prod.fst (getP (List.drop (1 : Nat) (List.drop (3 : Nat) b)) (0 : Int) (3 : Int)) + (0 : Int)) (Rd.mk c (List.drop (3 : Nat) (List.drop (1 : Nat) (List.drop (3 : Nat) b))) true)).2).length) .anil))) (.acons (D.arr RTy.int (3 : Nat) [Prod.fst (getP b (0 : Int) (3 : Int)), c1, c2]) .anil))))), some (Obj.vec RTy.item true its), some (Obj.vec RTy.line true (addL (0 : Int) (0 : Int) l0 (gLines rdP false (Int.toNat (getP (List.drop (3 : Nat) b) (0 : Int) (1 : Int)).1 - (0 : Nat)) (Prod.fst (getP (List.drop (1 : Nat) (List.drop (3 : Nat) b)) (0 : Int) (3 : Int)) + (0 : Int)) (Rd.mk c (List.drop (3 : Nat) (List.drop (1 : Nat) (List.drop (3 : Nat) b))) true)).2)), some (Obj.vec RTy.line true (addL (0 : Int) (1 : Int) l1 (gLines rdP false (Int.toNat (getP (List.drop (3 : Nat) b) (0 : Int) (1 : Int)).1 - (0 : Nat)) (Prod.fst (getP (List.drop (1 : Nat) (List.drop (3 : Nat) b)) (0 : Int) (3 : Int)) + (0 : Int)) (Rd.mk c (List.drop (3 : Nat) (List.drop (1 : Nat) (List.drop (3 : Nat) b))) true)).2)), some (Obj.vec RTy.line true (addL (0 : Int) (2 : Int) l2 (gLines rdP false (Int.toNat (getP (List.drop (3 : Nat) b) (0 : Int) (1 : Int)).1 - (0 : Nat)) (Prod.fst (getP (List.drop (1 : Nat) (List.drop (3 : Nat) b)) (0 : Int) (3 : Int)) + (0 : Int)) (Rd.mk c (List.drop (3 : Nat) (List.drop (1 : Nat) (List.drop (3 : Nat) b))) true)).2))]) else none else bif Prod.fst (getP (List.drop (3 : Nat) b) (0 : Int) (1 : Int)) == (0 : Int) then bif decide (List.length its = List.length its) && decide (List.length l0 = List.length l0) && decide (List.length l1 = List.length l1) && decide (List.length l2 = List.length l2) && decide ((0 : Int) ≤ Prod.fst (getP (List.drop (3 : Nat) b) (0 : Int) (1 : Int)) ∧ Prod.fst (getP (List.drop (3 : Nat) b) (0 : Int) (1 : Int)) ≤ (255 : Int) ∧ List.length (List.drop (3 : Nat) (List.drop (1 : Nat) (List.drop (3 : Nat) b))) ≤ (1000000 : Nat) ∧ (List.length l0 ≤ (1000 : Nat) ∧ List.length l1 ≤ (1000 : Nat) ∧ List.length l2 ≤ (1000 : Nat)) ∧ ((0 : Int) ≤ (0 : Int) ∧ (0 : Int) ≤ (2 : Int)) ∧ (0 : Int) ≤ Prod.fst (getP (List.drop (1 : Nat) (List.drop (3 : Nat) b)) (0 : Int) (3 : Int)) ∧ Prod.fst (getP (List.drop (1 : Nat) (List.drop (3 : Nat) b)) (0 : Int) (3 : Int)) ≤ (16777215 : Int)) then some ((X.normal, [((4 : Nat), D.ptr (0 : Nat) []), ((5 : Nat), D.ptr (1 : Nat) []), ((39 : Nat), D.int .i64 (1 : Int))]), [some (Obj.var (85 : Nat) (.acons (D.sl RTy.u8 (gLines rdP false (Int.toNat (getP (List.drop (3 : Nat) b) (0 : Int) (1 : Int)).1 - (0 : Nat)) (Prod.fst (getP (List.drop (1 : Nat) (List.drop (3 : Nat) b)) (0 : Int) (3 : Int)) + (0 : Int)) (Rd.mk c (List.drop (3 : Nat) (List.drop (1 : Nat) (List.drop (3 : Nat) b))) (Prod.fst (getP (List.drop (1 : Nat) (List.drop (3 : Nat) b)) (0 : Int) (3 : Int)) != (0 : Int)))).1.c (gLines rdP false (Int.toNat (getP (List.drop (3 : Nat) b) (0 : Int) (1 : Int)).1 - (0 : Nat)) (Prod.fst (getP (List.drop (1 : Nat) (List.drop (3 : Nat) b)) (0 : Int) (3 : Int)) + (0 : Int)) (Rd.mk c (List.drop (3 : Nat) (List.drop (1 : Nat) (List.drop (3 : Nat) b))) (Prod.fst (getP (List.drop (1 : Nat) (List.drop (3 : Nat) b)) (0 : Int) (3 : Int)) != (0 : Int)))).1.b) (.acons (D.bool (gLines rdP false (Int.toNat (getP (List.drop (3 : Nat) b) (0 : Int) (1 : Int)).1 - (0 : Nat)) (Prod.fst (getP (List.drop (1 : Nat) (List.drop (3 : Nat) b)) (0 : Int) (3 : Int)) + (0 : Int)) (Rd.mk c (List.drop (3 : Nat) (List.drop (1 : Nat) (List.drop (3 : Nat) b))) (Prod.fst (getP (List.drop (1 : Nat) (List.drop (3 : Nat) b)) (0 : Int) (3 : Int)) != (0 : Int)))).1.bad) .anil))), some (Obj.var (30 : Nat) (.acons (D.int .i64 pl) (.acons (D.vs (2 : Nat) its.length) (.acons (D.acons (D.vs (3 : Nat) (addL (0 : Int) (0 : Int) l0 (gLines rdP false (Int.toNat (getP (List.drop (3 : Nat) b) (0 : Int) (1 : Int)).1 - (0 : Nat)) (Prod.fst (getP (List.drop (1 : Nat) (List.drop (3 : Nat) b)) (0 : Int) (3 : Int)) + (0 : Int)) (Rd.mk c (List.drop (3 : Nat) (List.drop (1 : Nat) (List.drop (3 : Nat) b))) (Prod.fst (getP (List.drop (1 : Nat) (List.drop (3 : Nat) b)) (0 : Int) (3 : Int)) != (0 : Int)))).2).length) (.acons (D.vs (4 : Nat) (addL (0 : Int) (1 : Int) l1 (gLines rdP false (Int.toNat (getP (List.drop (3 : Nat) b) (0 : Int) (1 : Int)).1 - (0 : Nat)) (Prod.fst (getP (List.drop (1 : Nat) (List.drop (3 : Nat) b)) (0 : Int) (3 : Int)) + (0 : Int)) (Rd.mk c (List.drop (3 : Nat) (List.drop (1 : Nat) (List.drop (3 : Nat) b))) (Prod.fst (getP (List.drop (1 : Nat) (List.drop (3 : Nat) b)) (0 : Int) (3 : Int)) != (0 : Int)))).2).length) (.acons (D.vs (5 : Nat) (addL (0 : Int) (2 : Int) l2 (gLines rdP false (Int.toNat (getP (List.drop (3 : Nat) b) (0 : Int) (1 : Int)).1 - (0 : Nat)) (Prod.fst (getP (List.drop (1 : Nat) (List.drop (3 : Nat) b)) (0 : Int) (3 : Int)) + (0 : Int)) (Rd.mk c (List.drop (3 : Nat) (List.drop (1 : Nat) (List.drop (3 : Nat) b))) (Prod.fst (getP (List.drop (1 : Nat) (List.drop (3 : Nat) b)) (0 : Int) (3 : Int)) != (0 : Int)))).2).length) .anil))) (.acons (D.arr RTy.int (3 : Nat) [Prod.fst (getP b (0 : Int) (3 : Int)), c1, c2]) .anil))))), some (Obj.vec RTy.item true its), some (Obj.vec RTy.line true (addL (0 : Int) (0 : Int) l0 (gLines rdP false (Int.toNat (getP (List.drop (3 : Nat) b) (0 : Int) (1 : Int)).1 - (0 : Nat)) (Prod.fst (getP (List.drop (1 : Nat) (List.drop (3 : Nat) b)) (0 : Int) (3 : Int)) + (0 : Int)) (Rd.mk c (List.drop (3 : Nat) (List.drop (1 : Nat) (List.drop (3 : Nat) b))) (Prod.fst (getP (List.drop (1 : Nat) (List.drop (3 : Nat) b)) (0 : Int) (3 : Int)) != (0 : Int)))).2)), some (Obj.vec RTy.line true (addL (0 : Int) (1 : Int) l1 (gLines rdP false (Int.toNat (getP (List.drop (3 : Nat) b) (0 : Int) (1 : Int)).1 - (0 : Nat)) (Prod.fst (getP (List.drop (1 : Nat) (List.drop (3 : Nat) b)) (0 : Int) (3 : Int)) + (0 : Int)) (Rd.mk c (List.drop (3 : Nat) (List.drop (1 : Nat) (List.drop (3 : Nat) b))) (Prod.fst (getP (List.drop (1 : Nat) (List.drop (3 : Nat) b)) (0 : Int) (3 : Int)) != (0 : Int)))).2)), some (Obj.vec RTy.line true (addL (0 : Int) (2 : Int) l2 (gLines rdP false (Int.toNat (getP (List.drop (3 : Nat) b) (0 : Int) (1 : Int)).1 - (0 : Nat)) (Prod.fst (getP (List.drop (1 : Nat) (List.drop (3 : Nat) b)) (0 : Int) (3 : Int)) + (0 : Int)) (Rd.mk c (List.drop (3 : Nat) (List.drop (1 : Nat) (List.drop (3 : Nat) b))) (Prod.fst (getP (List.drop (1 : Nat) (List.drop (3 : Nat) b)) (0 : Int) (3 : Int)) != (0 : Int)))).2))]) else none else bif decide (List.length its = List.length its) && decide (List.length l0 = List.length l0) && decide (List.length l1 = List.length l1) && decide (List.length l2 = List.length l2) && decide ((0 : Int) ≤ Prod.fst (getP (List.drop (3 : Nat) b) (0 : Int) (1 : Int)) ∧ Prod.fst (getP (List.drop (3 : Nat) b) (0 : Int) (1 : Int)) ≤ (255 : Int) ∧ List.length (List.drop (3 : Nat) (List.drop (1 : Nat) (List.drop (3 : Nat) b))) ≤ (1000000 : Nat) ∧ (List.length l0 ≤ (1000 : Nat) ∧ List.length l1 ≤ (1000 : Nat) ∧ List.length l2 ≤ (1000 : Nat)) ∧ ((0 : Int) ≤ (0 : Int) ∧ (0 : Int) ≤ (2 : Int)) ∧ (0 : Int) ≤ Prod.fst (getP (List.drop (1 : Nat) (List.drop (3 : Nat) b)) (0 : Int) (3 : Int)) ∧ Prod.fst (getP (List.drop (1 : Nat) (List.drop (3 : Nat) b)) (0 : Int) (3 : Int)) ≤ (16777215 : Int)) then some ((X.normal, [((4 : Nat), D.ptr (0 : Nat) []), ((5 : Nat), D.ptr (1 : Nat) []), ((39 : Nat), D.int .i64 (1 : Int))]), [some (Obj.var (85 : Nat) (.acons (D.sl RTy.u8 (gLines rdP false (Int.toNat (getP (List.drop (3 : Nat) b) (0 : Int) (1 : Int)).1 - (0 : Nat)) (Prod.fst (getP (List.drop (1 : Nat) (List.drop (3 : Nat) b)) (0 : Int) (3 : Int)) + (0 : Int)) (Rd.mk c (List.drop (3 : Nat) (List.drop (1 : Nat) (List.drop (3 : Nat) b))) false)).1.c (gLines rdP false (Int.toNat (getP (List.drop (3 : Nat) b) (0 : Int) (1 : Int)).1 - (0 : Nat)) (Prod.fst (getP (List.drop (1 : Nat) (List.drop (3 : Nat) b)) (0 : Int) (3 : Int)) + (0 : Int)) (Rd.mk c (List.drop (3 : Nat) (List.drop (1 : Nat) (List.drop (3 : Nat) b))) false)).1.b) (.acons (D.bool (gLines rdP false (Int.toNat (getP (List.drop (3 : Nat) b) (0 : Int) (1 : Int)).1 - (0 : Nat)) (Prod.fst (getP (List.drop (1 : Nat) (List.drop (3 : Nat) b)) (0 : Int) (3 : Int)) + (0 : Int)) (Rd.mk c (List.drop (3 : Nat) (List.drop (1 : Nat) (List.drop (3 : Nat) b))) false)).1.bad) .anil))), some (Obj.var (30 : Nat) (.acons (D.int .i64 pl) (.acons (D.vs (2 : Nat) its.length) (.acons (D.acons (D.vs (3 : Nat) (addL (0 : Int) (0 : Int) l0 (gLines rdP false (Int.toNat (getP (List.drop (3 : Nat) b) (0 : Int) (1 : Int)).1 - (0 : Nat)) (Prod.fst (getP (List.drop (1 : Nat) (List.drop (3 : Nat) b)) (0 : Int) (3 : Int)) + (0 : Int)) (Rd.mk c (List.drop (3 : Nat) (List.drop (1 : Nat) (List.drop (3 : Nat) b))) false)).2).length) (.acons (D.vs (4 : Nat) (addL (0 : Int) (1 : Int) l1 (gLines rdP false (Int.toNat (getP (List.drop (3 : Nat) b) (0 : Int) (1 : Int)).1 - (0 : Nat)) (Prod.fst (getP (List.drop (1 : Nat) (List.drop (3 : Nat) b)) (0 : Int) (3 : Int)) + (0 : Int)) (Rd.mk c (List.drop (3 : Nat) (List.drop (1 : Nat) (List.drop (3 : Nat) b))) false)).2).length) (.acons (D.vs (5 : Nat) (addL (0 : Int) (2 : Int) l2 (gLines rdP false (Int.toNat (getP (List.drop (3 : Nat) b) (0 : Int) (1 : Int)).1 - (0 : Nat)) (Prod.fst (getP (List.drop (1 : Nat) (List.drop (3 : Nat) b)) (0 : Int) (3 : Int)) + (0 : Int)) (Rd.mk c (List.drop (3 : Nat) (List.drop (1 : Nat) (List.drop (3 : Nat) b))) false)).2).length) .anil))) (.acons (D.arr RTy.int (3 : Nat) [Prod.fst (getP b (0 : Int) (3 : Int)), c1, c2]) .anil))))), some (Obj.vec RTy.item true its), some (Obj.vec RTy.line true (addL (0 : Int) (0 : Int) l0 (gLines rdP false (Int.toNat (getP (List.drop (3 : Nat) b) (0 : Int) (1 : Int)).1 - (0 : Nat)) (Prod.fst (getP (List.drop (1 : Nat) (List.drop (3 : Nat) b)) (0 : Int) (3 : Int)) + (0 : Int)) (Rd.mk c (List.drop (3 : Nat) (List.drop (1 : Nat) (List.drop (3 : Nat) b))) false)).2)), some (Obj.vec RTy.line true (addL (0 : Int) (1 : Int) l1 (gLines rdP false (Int.toNat (getP (List.drop (3 : Nat) b) (0 : Int) (1 : Int)).1 - (0 : Nat)) (Prod.fst (getP (List.drop (1 : Nat) (List.drop (3 : Nat) b)) (0 : Int) (3 : Int)) + (0 : Int)) (Rd.mk c (List.drop (3 : Nat) (List.drop (1 : Nat) (List.drop (3 : Nat) b))) false)).2)), some (Obj.vec RTy.line true (addL (0 : Int) (2 : Int) l2 (gLines rdP false (Int.toNat (getP (List.drop (3 : Nat) b) (0 : Int) (1 : Int)).1 - (0 : Nat)) (Prod.fst (getP (List.drop (1 : Nat) (List.drop (3 : Nat) b)) (0 : Int) (3 : Int)) + (0 : Int)) (Rd.mk c (List.drop (3 : Nat) (List.drop (1 : Nat) (List.drop (3 : Nat) b))) false)).2))]) else none else none else none else none else none else none else none) := by kernel_rfl
set_option maxHeartbeats 4000000 in
theorem rsQ_eq1 (c : Bool) (b : List UInt8) (bad : Bool) (pl : Int) (its : List Item) (l0 l1 l2 : List Line) (c0 c1 c2 : Int) : rsQ_r c b bad pl its l0 l1 l2 c0 c1 c2 1 = (bif decide (List.length b ≤ (1000000000000 : Nat)) then bif Prod.snd (getP b (0 : Int) (3 : Int)) != (0 : Int) then bif decide (List.length its = List.length its) && decide (List.length l0 = List.length l0) && decide (List.length l1 = List.length l1) && decide (List.length l2 = List.length l2) && decide ((0 : Int) ≤ (0 : Int) ∧ (0 : Int) ≤ (255 : Int) ∧ (0 : Nat) ≤ (1000000 : Nat) ∧ (List.length l0 ≤ (1000 : Nat) ∧ List.length l1 ≤ (1000 : Nat) ∧ List.length l2 ≤ (1000 : Nat)) ∧ ((0 : Int) ≤ (1 : Int) ∧ (1 : Int) ≤ (2 : Int)) ∧ (0 : Int) ≤ (0 : Int) ∧ (0 : Int) ≤ (16777215 : Int)) then some ((X.normal, [((4 : Nat), D.ptr (0 : Nat) []), ((5 : Nat), D.ptr (1 : Nat) []), ((39 : Nat), D.int .i64 (2 : Int))]), [some (Obj.var (85 : Nat) (.acons (D.sl RTy.u8 true (gLines rdP false (0 : Nat) (0 : Int) (Rd.mk true [] true)).1.b) (.acons (D.bool true) .anil))), some (Obj.var (30 : Nat) (.acons (D.int .i64 pl) (.acons (D.vs (2 : Nat) its.length) (.acons (D.acons (D.vs (3 : Nat) (addL (1 : Int) (0 : Int) l0 (gLines rdP false (0 : Nat) (0 : Int) (Rd.mk true [] true)).2).length) (.acons (D.vs (4 : Nat) (addL (1 : Int) (1 : Int) l1 (gLines rdP false (0 : Nat) (0 : Int) (Rd.mk true [] true)).2).length) (.acons (D.vs (5 : Nat) (addL (1 : Int) (2 : Int) l2 (gLines rdP false (0 : Nat) (0 : Int) (Rd.mk true [] true)).2).length) .anil))) (.acons (D.arr RTy.int (3 : Nat) [c0, (0 : Int), c2]) .anil))))), some (Obj.vec RTy.item true its), some (Obj.vec RTy.line true (addL (1 : Int) (0 : Int) l0 (gLines rdP false (0 : Nat) (0 : Int) (Rd.mk true [] true)).2)), some (Obj.vec RTy.line true (addL (1 : Int) (1 : Int) l1 (gLines rdP false (0 : Nat) (0 : Int) (Rd.mk true [] true)).2)), some (Obj.vec RTy.line true (addL (1 : Int) (2 : Int) l2 (gLines rdP false (0 : Nat) (0 : Int) (Rd.mk true [] true)).2))]) else none else bif decide ((0 : Int) ≤ (3 : Int) ∧ (3 : Int) ≤ (↑b.length : Int)) then bif decide (List.length (List.drop (3 : Nat) b) ≤ (1000000000000 : Nat)) then bif Prod.snd (getP (List.drop (3 : Nat) b) (0 : Int) (1 : Int)) != (0 : Int) then bif decide (List.length its = List.length its) && decide (List.length l0 = List.length l0) && decide (List.length l1 = List.length l1) && decide (List.length l2 = List.length l2) && decide ((0 : Int) ≤ (0 : Int) ∧ (0 : Int) ≤ (255 : Int) ∧ (0 : Nat) ≤ (1000000 : Nat) ∧ (List.length l0 ≤ (1000 : Nat) ∧ List.length l1 ≤ (1000 : Nat) ∧ List.length l2 ≤ (1000 : Nat)) ∧ ((0 : Int) ≤ (1 : Int) ∧ (1 : Int) ≤ (2 : Int)) ∧ (0 : Int) ≤ (0 : Int) ∧ (0 : Int) ≤ (16777215 : Int)) then some ((X.normal, [((4 : Nat), D.ptr (0 : Nat) []), ((5 : Nat), D.ptr (1 : Nat) []), ((39 : Nat), D.int .i64 (2 : Int))]), [some (Obj.var (85 : Nat) (.acons (D.sl RTy.u8 true (gLines rdP false (0 : Nat) (0 : Int) (Rd.mk true [] true)).1.b) (.acons (D.bool true) .anil))), some (Obj.var (30 : Nat) (.acons (D.int .i64 pl) (.acons (D.vs (2 : Nat) its.length) (.acons (D.acons (D.vs (3 : Nat) (addL (1 : Int) (0 : Int) l0 (gLines rdP false (0 : Nat) (0 : Int) (Rd.mk true [] true)).2).length) (.acons (D.vs (4 : Nat) (addL (1 : Int) (1 : Int) l1 (gLines rdP false (0 : Nat) (0 : Int) (Rd.mk true [] true)).2).length) (.acons (D.vs (5 : Nat) (addL (1 : Int) (2 : Int) l2 (gLines rdP false (0 : Nat) (0 : Int) (Rd.mk true [] true)).2).length) .anil))) (.acons (D.arr RTy.int (3 : Nat) [c0, Prod.fst (getP b (0 : Int) (3 : Int)), c2]) .anil))))), some (Obj.vec RTy.item true its), some (Obj.vec RTy.line true (addL (1 : Int) (0 : Int) l0 (gLines rdP false (0 : Nat) (0 : Int) (Rd.mk true [] true)).2)), some (Obj.vec RTy.line true (addL (1 : Int) (1 : Int) l1 (gLines rdP false (0 : Nat) (0 : Int) (Rd.mk true [] true)).2)), some (Obj.vec RTy.line true (addL (1 : Int) (2 : Int) l2 (gLines rdP false (0 : Nat) (0 : Int) (Rd.mk true [] true)).2))]) else none else bif decide ((0 : Int) ≤ (1 : Int) ∧ (1 : Int) ≤ (↑(List.drop (3 : Nat) b).length : Int)) then bif decide (List.length (List.drop (1 : Nat) (List.drop (3 : Nat) b)) ≤ (1000000000000 : Nat)) then bif Prod.snd (getP (List.drop (1 : Nat) (List.drop (3 : Nat) b)) (0 : Int) (3 : Int)) != (0 : Int) then bif decide (List.length its = List.length its) && decide (List.length l0 = List.length l0) && decide (List.length l1 = List.length l1) && decide (List.length l2 = List.length l2) && decide ((0 : Int) ≤ Prod.fst (getP (List.drop (3 : Nat) b) (0 : Int) (1 : Int)) ∧ Prod.fst (getP (List.drop (3 : Nat) b) (0 : Int) (1 : Int)) ≤ (255 : Int) ∧ (0 : Nat) ≤ (1000000 : Nat) ∧ (List.length l0 ≤ (1000 : Nat) ∧ List.length l1 ≤ (1000 : Nat) ∧ List.length l2 ≤ (1000 : Nat)) ∧ ((0 : Int) ≤ (1 : Int) ∧ (1 : Int) ≤ (2 : Int)) ∧ (0 : Int) ≤ (0 : Int) ∧ (0 : Int) ≤ (16777215 : Int)) then some ((X.normal, [((4 : Nat), D.ptr (0 : Nat) []), ((5 : Nat), D.ptr (1 : Nat) []), ((39 : Nat), D.int .i64 (2 : Int))]), [some (Obj.var (85 : Nat) (.acons (D.sl RTy.u8 (gLines rdP false (Int.toNat (getP (List.drop (3 : Nat) b) (0 : Int) (1 : Int)).1 - (0 : Nat)) (0 : Int) (Rd.mk true [] true)).1.c (gLines rdP false (Int.toNat (getP (List.drop (3 : Nat) b) (0 : Int) (1 : Int)).1 - (0 : Nat)) (0 : Int) (Rd.mk true [] true)).1.b) (.acons (D.bool (gLines rdP false (Int.toNat (getP (List.drop (3 : Nat) b) (0 : Int) (1 : Int)).1 - (0 : Nat)) (0 : Int) (Rd.mk true [] true)).1.bad) .anil))), some (Obj.var (30 : Nat) (.acons (D.int .i64 pl) (.acons (D.vs (2 : Nat) its.length) (.acons (D.acons (D.vs (3 : Nat) (addL (1 : Int) (0 : Int) l0 (gLines rdP false (Int.toNat (getP (List.drop (3 : Nat) b) (0 : Int) (1 : Int)).1 - (0 : Nat)) (0 : Int) (Rd.mk true [] true)).2).length) (.acons (D.vs (4 : Nat) (addL (1 : Int) (1 : Int) l1 (gLines rdP false (Int.toNat (getP (List.drop (3 : Nat) b) (0 : Int) (1 : Int)).1 - (0 : Nat)) (0 : Int) (Rd.mk true [] true)).2).length) (.acons (D.vs (5 : Nat) (addL (1 : Int) (2 : Int) l2 (gLines rdP false (Int.toNat (getP (List.drop (3 : Nat) b) (0 : Int) (1 : Int)).1 - (0 : Nat)) (0 : Int) (Rd.mk true [] true)).2).length) .anil))) (.acons (D.arr RTy.int (3 : Nat) [c0, Prod.fst (getP b (0 : Int) (3 : Int)), c2]) .anil))))), some (Obj.vec RTy.item true its), some (Obj.vec RTy.line true (addL (1 : Int) (0 : Int) l0 (gLines rdP false (Int.toNat (getP (List.drop (3 : Nat) b) (0 : Int) (1 : Int)).1 - (0 : Nat)) (0 : Int) (Rd.mk true [] true)).2)), some (Obj.vec RTy.line true (addL (1 : Int) (1 : Int) l1 (gLines rdP false (Int.toNat (getP (List.drop (3 : Nat) b) (0 : Int) (1 : Int)).1 - (0 : Nat)) (0 : Int) (Rd.mk true [] true)).2)), some (Obj.vec RTy.line true (addL (1 : Int) (2 : Int) l2 (gLines rdP false (Int.toNat (getP (List.drop (3 : Nat) b) (0 : Int) (1 : Int)).1 - (0 : Nat)) (0 : Int) (Rd.mk true [] true)).2))]) else none else bif decide ((0 : Int) ≤ (3 : Int) ∧ (3 : Int) ≤ (↑(List.drop (1 : Nat) (List.drop (3 : Nat) b)).length : Int)) then bif bad then bif decide (List.length its = List.length its) && decide (List.length l0 = List.length l0) && decide (List.length l1 = List.length l1) && decide (List.length l2 = List.length l2) && decide ((0 : Int) ≤ Prod.fst (getP (List.drop (3 : Nat) b) (0 : Int) (1 : Int)) ∧ Prod.fst (getP (List.drop (3 : Nat) b) (0 : Int) (1 : Int)) ≤ (255 : Int) ∧ List.length (List.drop (3 : Nat) (List.drop (1 : Nat) (List.drop (3 : Nat) b))) ≤ (1000000 : Nat) ∧ (List.length l0 ≤ (1000 : Nat) ∧ List.length l1 ≤ (1000 : Nat) ∧ List.length l2 ≤ (1000 : Nat)) ∧ ((0 : Int) ≤ (1 : Int) ∧ (1 : Int) ≤ (2 : Int)) ∧ (0 : Int) ≤ Prod.fst (getP (List.drop (1 : Nat) (List.drop (3 : Nat) b)) (0 : Int) (3 : Int)) ∧ Prod.fst (getP (List.drop (1 : Nat) (List.drop (3 : Nat) b)) (0 : Int) (3 : Int)) ≤ (16777215 : Int)) then some ((X.normal, [((4 : Nat), D.ptr (0 : Nat) []), ((5 : Nat), D.ptr (1 : Nat) []), ((39 : Nat), D.int .i64 (2 : Int))]), [some (Obj.var (85 : Nat) (.acons (D.sl RTy.u8 (gLines rdP false (Int.toNat (getP (List.drop (3 : Nat) b) (0 : Int) (1 : Int)).1 - (0 : Nat)) (Prod.fst (getP (List.drop (1 : Nat) (List.drop (3 : Nat) b)) (0 : Int) (3 : Int)) + (0 : Int)) (Rd.mk c (List.drop (3 : Nat) (List.drop (1 : Nat) (List.drop (3 : Nat) b))) true)).1.c (gLines rdP false (Int.toNat (getP (List.drop (3 : Nat) b) (0 : Int) (1 : Int)).1 - (0 : Nat)) (Prod.fst (getP (List.drop (1 : Nat) (List.drop (3 : Nat) b)) (0 : Int) (3 : Int)) + (0 : Int)) (Rd.mk c (List.drop (3 : Nat) (List.drop (1 : Nat) (List.drop (3 : Nat) b))) true)).1.b) (.acons (D.bool (gLines rdP false (Int.toNat (getP (List.drop (3 : Nat) b) (0 : Int) (1 : Int)).1 - (0 : Nat)) (Prod.fst (getP (List.drop (1 : Nat) (List.drop (3 : Nat) b)) (0 : Int) (3 : Int)) + (0 : Int)) (Rd.mk c (List.drop (3 : Nat) (List.drop (1 : Nat) (List.drop (3 : Nat) b))) true)).1.bad) .anil))), some (Obj.var (30 : Nat) (.acons (D.int .i64 pl) (.acons (D.vs (2 : Nat) its.length) (.acons (D.acons (D.vs (3 : Nat) (addL (1 : Int) (0 : Int) l0 (gLines rdP false (Int.toNat (getP (List.drop (3 : Nat) b) (0 : Int) (1 : Int)).1 - (0 : Nat)) (Prod.fst (getP (List.drop (1 : Nat) (List.drop (3 : Nat) b)) (0 : Int) (3 : Int)) + (0 : Int)) (Rd.mk c (List.drop (3 : Nat) (List.drop (1 : Nat) (List.drop (3 : Nat) b))) true)).2).length) (.acons (D.vs (4 : Nat) (addL (1 : Int) (1 : Int) l1 (gLines rdP false (Int.toNat (getP (List.drop (3 : Nat) b) (0 : Int) (1 : Int)).1 - (0 : Nat)) (Prod.fst (getP (List.drop (1 : Nat) (List.drop (3 : Nat) b)) (0 : Int) (3 : Int)) + (0 : Int)) (Rd.mk c (List.drop (3 : Nat) (List.drop (1 : Nat) (List.drop (3 : Nat) b))) true)).2).length) (.acons (D.vs (5 : Nat) (addL (1 : Int) (2 : Int) l2 (gLines rdP false (Int.toNat (getP (List.drop (3 : Nat) b) (0 : Int) (1 : Int)).1 - (0 : Nat)) (Prod.fst (getP (List.drop (1 : Nat) (List.drop (3 : Nat) b)) (0 : Int) (3 : Int)) + (0 : Int)) (Rd.mk c (List.drop (3 : Nat) (List.drop (1 : Nat) (List.drop (3 : Nat) b))) true)).2).length) .anil))) (.acons (D.arr RTy.int (3 : Nat) [c0, Prod.fst (getP b (0 : Int) (3 : Int)), c2]) .anil))))), some (Obj.vec RTy.item true its), some (Obj.vec RTy.line true (addL (1 : Int) (0 : Int) l0 (gLines rdP false (Int.toNat (getP (List.drop (3 : Nat) b) (0 : Int) (1 : Int)).1 - (0 : Nat)) (Prod.fst (getP (List.drop (1 : Nat) (List.drop (3 : Nat) b)) (0 : Int) (3 : Int)) + (0 : Int)) (Rd.mk c (List.drop (3 : Nat) (List.drop (1 : Nat) (List.drop (3 : Nat) b))) true)).2)), some (Obj.vec RTy.line true (addL (1 : Int) (1 : Int) l1 (gLines rdP false (Int.toNat (getP (List.drop (3 : Nat) b) (0 : Int) (1 : Int)).1 - (0 : Nat)) (Prod.fst (getP (List.drop (1 : Nat) (List.drop (3 : Nat) b)) (0 : Int) (3 : Int)) + (0 : Int)) (Rd.mk c (List.drop (3 : Nat) (List.drop (1 : Nat) (List.drop (3 : Nat) b))) true)).2)), some (Obj.vec RTy.line true (addL (1 : Int) (2 : Int) l2 (gLines rdP false (Int.toNat (getP (List.drop (3 : Nat) b) (0 : Int) (1 : Int)).1 - (0 : Nat)) (Prod.fst (getP (List.drop (1 : Nat) (List.drop (3 : Nat) b)) (0 : Int) (3 : Int)) + (0 : Int)) (Rd.mk c (List.drop (3 : Nat) (List.drop (1 : Nat) (List.drop (3 : Nat) b))) true)).2))]) else none else bif Prod.fst (getP (List.drop (3 : Nat) b) (0 : Int) (1 : Int)) == (0 : Int) then bif decide (List.length its = List.length its) && decide (List.length l0 = List.length l0) && decide (List.length l1 = List.length l1) && decide (List.length l2 = List.length l2) && decide ((0 : Int) ≤ Prod.fst (getP (List.drop (3 : Nat) b) (0 : Int) (1 : Int)) ∧ Prod.fst (getP (List.drop (3 : Nat) b) (0 : Int) (1 : Int)) ≤ (255 : Int) ∧ List.length (List.drop (3 : Nat) (List.drop (1 : Nat) (List.drop (3 : Nat) b))) ≤ (1000000 : Nat) ∧ (List.length l0 ≤ (1000 : Nat) ∧ List.length l1 ≤ (1000 : Nat) ∧ List.length l2 ≤ (1000 : Nat)) ∧ ((0 : Int) ≤ (1 : Int) ∧ (1 : Int) ≤ (2 : Int)) ∧ (0 : Int) ≤ Prod.fst (getP (List.drop (1 : Nat) (List.drop (3 : Nat) b)) (0 : Int) (3 : Int)) ∧ Prod.fst (getP (List.drop (1 : Nat) (List.drop (3 : Nat) b)) (0 : Int) (3 : Int)) ≤ (16777215 : Int)) then some ((X.normal, [((4 : Nat), D.ptr (0 : Nat) []), ((5 : Nat), D.ptr (1 : Nat) []), ((39 : Nat), D.int .i64 (2 : Int))]), [some (Obj.var (85 : Nat) (.acons (D.sl RTy.u8 (gLines rdP false (Int.toNat (getP (List.drop (3 : Nat) b) (0 : Int) (1 : Int)).1 - (0 : Nat)) (Prod.fst (getP (List.drop (1 : Nat) (List.drop (3 : Nat) b)) (0 : Int) (3 : Int)) + (0 : Int)) (Rd.mk c (List.drop (3 : Nat) (List.drop (1 : Nat) (List.drop (3 : Nat) b))) (Prod.fst (getP (List.drop (1 : Nat) (List.drop (3 : Nat) b)) (0 : Int) (3 : Int)) != (0 : Int)))).1.c (gLines rdP false (Int.toNat (getP (List.drop (3 : Nat) b) (0 : Int) (1 : Int)).1 - (0 : Nat)) (Prod.fst (getP (List.drop (1 : Nat) (List.drop (3 : Nat) b)) (0 : Int) (3 : Int)) + (0 : Int)) (Rd.mk c (List.drop (3 : Nat) (List.drop (1 : Nat) (List.drop (3 : Nat) b))) (Prod.fst (getP (List.drop (1 : Nat) (List.drop (3 : Nat) b)) (0 : Int) (3 : Int)) != (0 : Int)))).1.b) (.acons (D.bool (gLines rdP false (Int.toNat (getP (List.drop (3 : Nat) b) (0 : Int) (1 : Int)).1 - (0 : Nat)) (Prod.fst (getP (List.drop (1 : Nat) (List.drop (3 : Nat) b)) (0 : Int) (3 : Int)) + (0 : Int)) (Rd.mk c (List.drop (3 : Nat) (List.drop (1 : Nat) (List.drop (3 : Nat) b))) (Prod.fst (getP (List.drop (1 : Nat) (List.drop (3 : Nat) b)) (0 : Int) (3 : Int)) != (0 : Int)))).1.bad) .anil))), some (Obj.var (30 : Nat) (.acons (D.int .i64 pl) (.acons (D.vs (2 : Nat) its.length) (.acons (D.acons (D.vs (3 : Nat) (addL (1 : Int) (0 : Int) l0 (gLines rdP false (Int.toNat (getP (List.drop (3 : Nat) b) (0 : Int) (1 : Int)).1 - (0 : Nat)) (Prod.fst (getP (List.drop (1 : Nat) (List.drop (3 : Nat) b)) (0 : Int) (3 : Int)) + (0 : Int)) (Rd.mk c (List.drop (3 : Nat) (List.drop (1 : Nat) (List.drop (3 : Nat) b))) (Prod.fst (getP (List.drop (1 : Nat) (List.drop (3 : Nat) b)) (0 : Int) (3 : Int)) != (0 : Int)))).2).length) (.acons (D.vs (4 : Nat) (addL (1 : Int) (1 : Int) l1 (gLines rdP false (Int.toNat (getP (List.drop (3 : Nat) b) (0 : Int) (1 : Int)).1 - (0 : Nat)) (Prod.fst (getP (List.drop (1 : Nat) (List.drop (3 : Nat) b)) (0 : Int) (3 : Int)) + (0 : Int)) (Rd.mk c (List.drop (3 : Nat) (List.drop (1 : Nat) (List.drop (3 : Nat) b))) (Prod.fst (getP (List.drop (1 : Nat) (List.drop (3 : Nat) b)) (0 : Int) (3 : Int)) != (0 : Int)))).2).length) (.acons (D.vs (5 : Nat) (addL (1 : Int) (2 : Int) l2 (gLines rdP false (Int.toNat (getP (List.drop (3 : Nat) b) (0 : Int) (1 : Int)).1 - (0 : Nat)) (Prod.fst (getP (List.drop (1 : Nat) (List.drop (3 : Nat) b)) (0 : Int) (3 : Int)) + (0 : Int)) (Rd.mk c (List.drop (3 : Nat) (List.drop (1 : Nat) (List.drop (3 : Nat) b))) (Prod.fst (getP (List.drop (1 : Nat) (List.drop (3 : Nat) b)) (0 : Int) (3 : Int)) != (0 : Int)))).2).length) .anil))) (.acons (D.arr RTy.int (3 : Nat) [c0, Prod.fst (getP b (0 : Int) (3 : Int)), c2]) .anil))))), some (Obj.vec RTy.item true its), some (Obj.vec RTy.line true (addL (1 : Int) (0 : Int) l0 (gLines rdP false (Int.toNat (getP (List.drop (3 : Nat) b) (0 : Int) (1 : Int)).1 - (0 : Nat)) (Prod.fst (getP (List.drop (1 : Nat) (List.drop (3 : Nat) b)) (0 : Int) (3 : Int)) + (0 : Int)) (Rd.mk c (List.drop (3 : Nat) (List.drop (1 : Nat) (List.drop (3 : Nat) b))) (Prod.fst (getP (List.drop (1 : Nat) (List.drop (3 : Nat) b)) (0 : Int) (3 : Int)) != (0 : Int)))).2)), some (Obj.vec RTy.line true (addL (1 : Int) (1 : Int) l1 (gLines rdP false (Int.toNat (getP (List.drop (3 : Nat) b) (0 : Int) (1 : Int)).1 - (0 : Nat)) (Prod.fst (getP (List.drop (1 : Nat) (List.drop (3 : Nat) b)) (0 : Int) (3 : Int)) + (0 : Int)) (Rd.mk c (List.drop (3 : Nat) (List.drop (1 : Nat) (List.drop (3 : Nat) b))) (Prod.fst (getP (List.drop (1 : Nat) (List.drop (3 : Nat) b)) (0 : Int) (3 : Int)) != (0 : Int)))).2)), some (Obj.vec RTy.line true (addL (1 : Int) (2 : Int) l2 (gLines rdP false (Int.toNat (getP (List.drop (3 : Nat) b) (0 : Int) (1 : Int)).1 - (0 : Nat)) (Prod.fst (getP (List.drop (1 : Nat) (List.drop (3 : Nat) b)) (0 : Int) (3 : Int)) + (0 : Int)) (Rd.mk c (List.drop (3 : Nat) (List.drop (1 : Nat) (List.drop (3 : Nat) b))) (Prod.fst (getP (List.drop (1 : Nat) (List.drop (3 : Nat) b)) (0 : Int) (3 : Int)) != (0 : Int)))).2))]) else none else bif decide (List.length its = List.length its) && decide (List.length l0 = List.length l0) && decide (List.length l1 = List.length l1) && decide (List.length l2 = List.length l2) && decide ((0 : Int) ≤ Prod.fst (getP (List.drop (3 : Nat) b) (0 : Int) (1 : Int)) ∧ Prod.fst (getP (List.drop (3 : Nat) b) (0 : Int) (1 : Int)) ≤ (255 : Int) ∧ List.length (List.drop (3 : Nat) (List.drop (1 : Nat) (List.drop (3 : Nat) b))) ≤ (1000000 : Nat) ∧ (List.length l0 ≤ (1000 : Nat) ∧ List.length l1 ≤ (1000 : Nat) ∧ List.length l2 ≤ (1000 : Nat)) ∧ ((0 : Int) ≤ (1 : Int) ∧ (1 : Int) ≤ (2 : Int)) ∧ (0 : Int) ≤ Prod.fst (getP (List.drop (1 : Nat) (List.drop (3 : Nat) b)) (0 : Int) (3 : Int)) ∧ Prod.fst (getP (List.drop (1 : Nat) (List.drop (3 : Nat) b)) (0 : Int) (3 : Int)) ≤ (16777215 : Int)) then some ((X.normal, [((4 : Nat), D.ptr (0 : Nat) []), ((5 : Nat), D.ptr (1 : Nat) []), ((39 : Nat), D.int .i64 (2 : Int))]), [some (Obj.var (85 : Nat) (.acons (D.sl RTy.u8 (gLines rdP false (Int.toNat (getP (List.drop (3 : Nat) b) (0 : Int) (1 : Int)).1 - (0 : Nat)) (Prod.fst (getP (List.drop (1 : Nat) (List.drop (3 : Nat) b)) (0 : Int) (3 : Int)) + (0 : Int)) (Rd.mk c (List.drop (3 : Nat) (List.drop (1 : Nat) (List.drop (3 : Nat) b))) false)).1.c (gLines rdP false (Int.toNat (getP (List.drop (3 : Nat) b) (0 : Int) (1 : Int)).1 - (0 : Nat)) (Prod.fst (getP (List.drop (1 : Nat) (List.drop (3 : Nat) b)) (0 : Int) (3 : Int)) + (0 : Int)) (Rd.mk c (List.drop (3 : Nat) (List.drop (1 : Nat) (List.drop (3 : Nat) b))) false)).1.b) (.acons (D.bool (gLines rdP false (Int.toNat (getP (List.drop (3 : Nat) b) (0 : Int) (1 : Int)).1 - (0 : Nat)) (Prod.fst (getP (List.drop (1 : Nat) (List.drop (3 : Nat) b)) (0 : Int) (3 : Int)) + (0 : Int)) (Rd.mk c (List.drop (3 : Nat) (List.drop (1 : Nat) (List.drop (3 : Nat) b))) false)).1.bad) .anil))), some (Obj.var (30 : Nat) (.acons (D.int .i64 pl) (.acons (D.vs (2 : Nat) its.length) (.acons (D.acons (D.vs (3 : Nat) (addL (1 : Int) (0 : Int) l0 (gLines rdP false (Int.toNat (getP (List.drop (3 : Nat) b) (0 : Int) (1 : Int)).1 - (0 : Nat)) (Prod.fst (getP (List.drop (1 : Nat) (List.drop (3 : Nat) b)) (0 : Int) (3 : Int)) + (0 : Int)) (Rd.mk c (List.drop (3 : Nat) (List.drop (1 : Nat) (List.drop (3 : Nat) b))) false)).2).length) (.acons (D.vs (4 : Nat) (addL (1 : Int) (1 : Int) l1 (gLines rdP false (Int.toNat (getP (List.drop (3 : Nat) b) (0 : Int) (1 : Int)).1 - (0 : Nat)) (Prod.fst (getP (List.drop (1 : Nat) (List.drop (3 : Nat) b)) (0 : Int) (3 : Int)) + (0 : Int)) (Rd.mk c (List.drop (3 : Nat) (List.drop (1 : Nat) (List.drop (3 : Nat) b))) false)).2).length) (.acons (D.vs (5 : Nat) (addL (1 : Int) (2 : Int) l2 (gLines rdP false (Int.toNat (getP (List.drop (3 : Nat) b) (0 : Int) (1 : Int)).1 - (0 : Nat)) (Prod.fst (getP (List.drop (1 : Nat) (List.drop (3 : Nat) b)) (0 : Int) (3 : Int)) + (0 : Int)) (Rd.mk c (List.drop (3 : Nat) (List.drop (1 : Nat) (List.drop (3 : Nat) b))) false)).2).length) .anil))) (.acons (D.arr RTy.int (3 : Nat) [c0, Prod.fst (getP b (0 : Int) (3 : Int)), c2]) .anil))))), some (Obj.vec RTy.item true its), some (Obj.vec RTy.line true (addL (1 : Int) (0 : Int) l0 (gLines rdP false (Int.toNat (getP (List.drop (3 : Nat) b) (0 : Int) (1 : Int)).1 - (0 : Nat)) (Prod.fst (getP (List.drop (1 : Nat) (List.drop (3 : Nat) b)) (0 : Int) (3 : Int)) + (0 : Int)) (Rd.mk c (List.drop (3 : Nat) (List.drop (1 : Nat) (List.drop (3 : Nat) b))) false)).2)), some (Obj.vec RTy.line true (addL (1 : Int) (1 : Int) l1 (gLines rdP false (Int.toNat (getP (List.drop (3 : Nat) b) (0 : Int) (1 : Int)).1 - (0 : Nat)) (Prod.fst (getP (List.drop (1 : Nat) (List.drop (3 : Nat) b)) (0 : Int) (3 : Int)) + (0 : Int)) (Rd.mk c (List.drop (3 : Nat) (List.drop (1 : Nat) (List.drop (3 : Nat) b))) false)).2)), some (Obj.vec RTy.line true (addL (1 : Int) (2 : Int) l2 (gLines rdP false (Int.toNat (getP (List.drop (3 : Nat) b) (0 : Int) (1 : Int)).1 - (0 : Nat)) (Prod.fst (getP (List.drop (1 : Nat) (List.drop (3 : Nat) b)) (0 : Int) (3 : Int)) + (0 : Int)) (Rd.mk c (List.drop (3 : Nat) (List.drop (1 : Nat) (List.drop (3 : Nat) b))) false)).2))]) else none else none else none else none else none else none else none) := by kernel_rfl
set_option maxHeartbeats 4000000 in
theorem rsQ_eq2 (c : Bool) (b : List UInt8) (bad : Bool) (pl : Int) (its : List Item) (l0 l1 l2 : List Line) (c0 c1 c2 : Int) : rsQ_r c b bad pl its l0 l1 l2 c0 c1 c2 2 = (bif decide (List.length b ≤ (1000000000000 : Nat)) then bif Prod.snd (getP b (0 : Int) (3 : Int)) != (0 : Int) then bif decide (List.length its = List.length its) && decide (List.length l0 = List.length l0) && decide (List.length l1 = List.length l1) && decide (List.length l2 = List.length l2) && decide ((0 : Int) ≤ (0 : Int) ∧ (0 : Int) ≤ (255 : Int) ∧ (0 : Nat) ≤ (1000000 : Nat) ∧ (List.length l0 ≤ (1000 : Nat) ∧ List.length l1 ≤ (1000 : Nat) ∧ List.length l2 ≤ (1000 : Nat)) ∧ ((0 : Int) ≤ (2 : Int) ∧ (2 : Int) ≤ (2 : Int)) ∧ (0 : Int) ≤ (0 : Int) ∧ (0 : Int) ≤ (16777215 : Int)) then some ((X.normal, [((4 : Nat), D.ptr (0 : Nat) []), ((5 : Nat), D.ptr (1 : Nat) []), ((39 : Nat), D.int .i64 (3 : Int))]), [some (Obj.var (85 : Nat) (.acons (D.sl RTy.u8 true (gLines rdP false (0 : Nat) (0 : Int) (Rd.mk true [] true)).1.b) (.acons (D.bool true) .anil))), some (Obj.var (30 : Nat) (.acons (D.int .i64 pl) (.acons (D.vs (2 : Nat) its.length) (.acons (D.acons (D.vs (3 : Nat) (addL (2 : Int) (0 : Int) l0 (gLines rdP false (0 : Nat) (0 : Int) (Rd.mk true [] true)).2).length) (.acons (D.vs (4 : Nat) (addL (2 : Int) (1 : Int) l1 (gLines rdP false (0 : Nat) (0 : Int) (Rd.mk true [] true)).2).length) (.acons (D.vs (5 : Nat) (addL (2 : Int) (2 : Int) l2 (gLines rdP false (0 : Nat) (0 : Int) (Rd.mk true [] true)).2).length) .anil))) (.acons (D.arr RTy.int (3 : Nat) [c0, c1, (0 : Int)]) .anil))))), some (Obj.vec RTy.item true its), some (Obj.vec RTy.line true (addL (2 : Int) (0 : Int) l0 (gLines rdP false (0 : Nat) (0 : Int) (Rd.mk true [] true)).2)), some (Obj.vec RTy.line true (addL (2 : Int) (1 : Int) l1 (gLines rdP false (0 : Nat) (0 : Int) (Rd.mk true [] true)).2)), some (Obj.vec RTy.line true (addL (2 : Int) (2 : Int) l2 (gLines rdP false (0 : Nat) (0 : Int) (Rd.mk true [] true)).2))]) else none else bif decide ((0 : Int) ≤ (3 : Int) ∧ (3 : Int) ≤ (↑b.length : Int)) then bif decide (List.length (List.drop (3 : Nat) b) ≤ (1000000000000 : Nat)) then bif Prod.snd (getP (List.drop (3 : Nat) b) (0 : Int) (1 : Int)) != (0 : Int) then bif decide (List.length its = List.length its) && decide (List.length l0 = List.length l0) && decide (List.length l1 = List.length l1) && decide (List.length l2 = List.length l2) && decide ((0 : Int) ≤ (0 : Int) ∧ (0 : Int) ≤ (255 : Int) ∧ (0 : Nat) ≤ (1000000 : Nat) ∧ (List.length l0 ≤ (1000 : Nat) ∧ List.length l1 ≤ (1000 : Nat) ∧ List.length l2 ≤ (1000 : Nat)) ∧ ((0 : Int) ≤ (2 : Int) ∧ (2 : Int) ≤ (2 : Int)) ∧ (0 : Int) ≤ (0 : Int) ∧ (0 : Int) ≤ (16777215 : Int)) then some ((X.normal, [((4 : Nat), D.ptr (0 : Nat) []), ((5 : Nat), D.ptr (1 : Nat) []), ((39 : Nat), D.int .i64 (3 : Int))]), [some (Obj.var (85 : Nat) (.acons (D.sl RTy.u8 true (gLines rdP false (0 : Nat) (0 : Int) (Rd.mk true [] true)).1.b) (.acons (D.bool true) .anil))), some (Obj.var (30 : Nat) (.acons (D.int .i64 pl) (.acons (D.vs (2 : Nat) its.length) (.acons (D.acons (D.vs (3 : Nat) (addL (2 : Int) (0 : Int) l0 (gLines rdP false (0 : Nat) (0 : Int) (Rd.mk true [] true)).2).length) (.acons (D.vs (4 : Nat) (addL (2 : Int) (1 : Int) l1 (gLines rdP false (0 : Nat) (0 : Int) (Rd.mk true [] true)).2).length) (.acons (D.vs (5 : Nat) (addL (2 : Int) (2 : Int) l2 (gLines rdP false (0 : Nat) (0 : Int) (Rd.mk true [] true)).2).length) .anil))) (.acons (D.arr RTy.int (3 : Nat) [c0, c1, Prod.fst (getP b (0 : Int) (3 : Int))]) .anil))))), some (Obj.vec RTy.item true its), some (Obj.vec RTy.line true (addL (2 : Int) (0 : Int) l0 (gLines rdP false (0 : Nat) (0 : Int) (Rd.mk true [] true)).2)), some (Obj.vec RTy.line true (addL (2 : Int) (1 : Int) l1 (gLines rdP false (0 : Nat) (0 : Int) (Rd.mk true [] true)).2)), some (Obj.vec RTy.line true (addL (2 : Int) (2 : Int) l2 (gLines rdP false (0 : Nat) (0 : Int) (Rd.mk true [] true)).2))]) else none else bif decide ((0 : Int) ≤ (1 : Int) ∧ (1 : Int) ≤ (↑(List.drop (3 : Nat) b).length : Int)) then bif decide (List.length (List.drop (1 : Nat) (List.drop (3 : Nat) b)) ≤ (1000000000000 : Nat)) then bif Prod.snd (getP (List.drop (1 : Nat) (List.drop (3 : Nat) b)) (0 : Int) (3 : Int)) != (0 : Int) then bif decide (List.length its = List.length its) && decide (List.length l0 = List.length l0) && decide (List.length l1 = List.length l1) && decide (List.length l2 = List.length l2) && decide ((0 : Int) ≤ Prod.fst (getP (List.drop (3 : Nat) b) (0 : Int) (1 : Int)) ∧ Prod.fst (getP (List.drop (3 : Nat) b) (0 : Int) (1 : Int)) ≤ (255 : Int) ∧ (0 : Nat) ≤ (1000000 : Nat) ∧ (List.length l0 ≤ (1000 : Nat) ∧ List.length l1 ≤ (1000 : Nat) ∧ List.length l2 ≤ (1000 : Nat)) ∧ ((0 : Int) ≤ (2 : Int) ∧ (2 : Int) ≤ (2 : Int)) ∧ (0 : Int) ≤ (0 : Int) ∧ (0 : Int) ≤ (16777215 : Int)) then some ((X.normal, [((4 : Nat), D.ptr (0 : Nat) []), ((5 : Nat), D.ptr (1 : Nat) []), ((39 : Nat), D.int .i64 (3 : Int))]), [some (Obj.var (85 : Nat) (.acons (D.sl RTy.u8 (gLines rdP false (Int.toNat (getP (List.drop (3 : Nat) b) (0 : Int) (1 : Int)).1 - (0 : Nat)) (0 : Int) (Rd.mk true [] true)).1.c (gLines rdP false (Int.toNat (getP (List.drop (3 : Nat) b) (0 : Int) (1 : Int)).1 - (0 : Nat)) (0 : Int) (Rd.mk true [] true)).1.b) (.acons (D.bool (gLines rdP false (Int.toNat (getP (List.drop (3 : Nat) b) (0 : Int) (1 : Int)).1 - (0 : Nat)) (0 : Int) (Rd.mk true [] true)).1.bad) .anil))), some (Obj.var (30 : Nat) (.acons (D.int .i64 pl) (.acons (D.vs (2 : Nat) its.length) (.acons (D.acons (D.vs (3 : Nat) (addL (2 : Int) (0 : Int) l0 (gLines rdP false (Int.toNat (getP (List.drop (3 : Nat) b) (0 : Int) (1 : Int)).1 - (0 : Nat)) (0 : Int) (Rd.mk true [] true)).2).length) (.acons (D.vs (4 : Nat) (addL (2 : Int) (1 : Int) l1 (gLines rdP false (Int.toNat (getP (List.drop (3 : Nat) b) (0 : Int) (1 : Int)).1 - (0 : Nat)) (0 : Int) (Rd.mk true [] true)).2).length) (.acons (D.vs (5 : Nat) (addL (2 : Int) (2 : Int) l2 (gLines rdP false (Int.toNat (getP (List.drop (3 : Nat) b) (0 : Int) (1 : Int)).1 - (0 : Nat)) (0 : Int) (Rd.mk true [] true)).2).length) .anil))) (.acons (D.arr RTy.int (3 : Nat) [c0, c1, Prod.fst (getP b (0 : Int) (3 : Int))]) .anil))))), some (Obj.vec RTy.item true its), some (Obj.vec RTy.line true (addL (2 : Int) (0 : Int) l0 (gLines rdP false (Int.toNat (getP (List.drop (3 : Nat) b) (0 : Int) (1 : Int)).1 - (0 : Nat)) (0 : Int) (Rd.mk true [] true)).2)), some (Obj.vec RTy.line true (addL (2 : Int) (1 : Int) l1 (gLines rdP false (Int.toNat (getP (List.drop (3 : Nat) b) (0 : Int) (1 : Int)).1 - (0 : Nat)) (0 : Int) (Rd.mk true [] true)).2)), some (Obj.vec RTy.line true (addL (2 : Int) (2 : Int) l2 (gLines rdP false (Int.toNat (getP (List.drop (3 : Nat) b) (0 : Int) (1 : Int)).1 - (0 : Nat)) (0 : Int) (Rd.mk true [] true)).2))]) else none else bif decide ((0 : Int) ≤ (3 : Int) ∧ (3 : Int) ≤ (↑(List.drop (1 : Nat) (List.drop (3 : Nat) b)).length : Int)) then bif bad then bif decide (List.length its = List.length its) && decide (List.length l0 = List.length l0) && decide (List.length l1 = List.length l1) && decide (List.length l2 = List.length l2) && decide ((0 : Int) ≤ Prod.fst (getP (List.drop (3 : Nat) b) (0 : Int) (1 : Int)) ∧ Prod.fst (getP (List.drop (3 : Nat) b) (0 : Int) (1 : Int)) ≤ (255 : Int) ∧ List.length (List.drop (3 : Nat) (List.drop (1 : Nat) (List.drop (3 : Nat) b))) ≤ (1000000 : Nat) ∧ (List.length l0 ≤ (1000 : Nat) ∧ List.length l1 ≤ (1000 : Nat) ∧ List.length l2 ≤ (1000 : Nat)) ∧ ((0 : Int) ≤ (2 : Int) ∧ (2 : Int) ≤ (2 : Int)) ∧ (0 : Int) ≤ Prod.fst (getP (List.drop (1 : Nat) (List.drop (3 : Nat) b)) (0 : Int) (3 : Int)) ∧ Prod.fst (getP (List.drop (1 : Nat) (List.drop (3 : Nat) b)) (0 : Int) (3 : Int)) ≤ (16777215 : Int)) then some ((X.normal, [((4 : Nat), D.ptr (0 : Nat) []), ((5 : Nat), D.ptr (1 : Nat) []), ((39 : Nat), D.int .i64 (3 : Int))]), [some (Obj.var (85 : Nat) (.acons (D.sl RTy.u8 (gLines rdP false (Int.toNat (getP (List.drop (3 : Nat) b) (0 : Int) (1 : Int)).1 - (0 : Nat)) (Prod.fst (getP (List.drop (1 : Nat) (List.drop (3 : Nat) b)) (0 : Int) (3 : Int)) + (0 : Int)) (Rd.mk c (List.drop (3 : Nat) (List.drop (1 : Nat) (List.drop (3 : Nat) b))) true)).1.c (gLines rdP false (Int.toNat (getP (List.drop (3 : Nat) b) (0 : Int) (1 : Int)).1 - (0 : Nat)) (Prod.fst (getP (List.drop (1 : Nat) (List.drop (3 : Nat) b)) (0 : Int) (3 : Int)) + (0 : Int)) (Rd.mk c (List.drop (3 : Nat) (List.drop (1 : Nat) (List.drop (3 : Nat) b))) true)).1.b) (.acons (D.bool (gLines rdP false (Int.toNat (getP (List.drop (3 : Nat) b) (0 : Int) (1 : Int)).1 - (0 : Nat)) (Prod.fst (getP (List.drop (1 : Nat) (List.drop (3 : Nat) b)) (0 : Int) (3 : Int)) + (0 : Int)) (Rd.mk c (List.drop (3 : Nat) (List.drop (1 : Nat) (List.drop (3 : Nat) b))) true)).1.bad) .anil))), some (Obj.var (30 : Nat) (.acons (D.int .i64 pl) (.acons (D.vs (2 : Nat) its.length) (.acons (D.acons (D.vs (3 : Nat) (addL (2 : Int) (0 : Int) l0 (gLines rdP false (Int.toNat (getP (List.drop (3 : Nat) b) (0 : Int) (1 : Int)).1 - (0 : Nat)) (Prod.fst (getP (List.drop (1 : Nat) (List.drop (3 : Nat) b)) (0 : Int) (3 : Int)) + (0 : Int)) (Rd.mk c (List.drop (3 : Nat) (List.drop (1 : Nat) (List.drop (3 : Nat) b))) true)).2).length) (.acons (D.vs (4 : Nat) (addL (2 : Int) (1 : Int) l1 (gLines rdP false (Int.toNat (getP (List.drop (3 : Nat) b) (0 : Int) (1 : Int)).1 - (0 : Nat)) (Prod.fst (getP (List.drop (1 : Nat) (List.drop (3 : Nat) b)) (0 : Int) (3 : Int)) + (0 : Int)) (Rd.mk c (List.drop (3 : Nat) (List.drop (1 : Nat) (List.drop (3 : Nat) b))) true)).2).length) (.acons (D.vs (5 : Nat) (addL (2 : Int) (2 : Int) l2 (gLines rdP false (Int.toNat (getP (List.drop (3 : Nat) b) (0 : Int) (1 : Int)).1 - (0 : Nat)) (Prod.fst (getP (List.drop (1 : Nat) (List.drop (3 : Nat) b)) (0 : Int) (3 : Int)) + (0 : Int)) (Rd.mk c (List.drop (3 : Nat) (List.drop (1 : Nat) (List.drop (3 : Nat) b))) true)).2).length) .anil))) (.acons (D.arr RTy.int (3 : Nat) [c0, c1, Prod.fst (getP b (0 : Int) (3 : Int))]) .anil))))), some (Obj.vec RTy.item true its), some (Obj.vec RTy.line true (addL (2 : Int) (0 : Int) l0 (gLines rdP false (Int.toNat (getP (List.drop (3 : Nat) b) (0 : Int) (1 : Int)).1 - (0 : Nat)) (Prod.fst (getP (List.drop (1 : Nat) (List.drop (3 : Nat) b)) (0 : Int) (3 : Int)) + (0 : Int)) (Rd.mk c (List.drop (3 : Nat) (List.drop (1 : Nat) (List.drop (3 : Nat) b))) true)).2)), some (Obj.vec RTy.line true (addL (2 : Int) (1 : Int) l1 (gLines rdP false (Int.toNat (getP (List.drop (3 : Nat) b) (0 : Int) (1 : Int)).1 - (0 : Nat)) (Prod.fst (getP (List.drop (1 : Nat) (List.drop (3 : Nat) b)) (0 : Int) (3 : Int)) + (0 : Int)) (Rd.mk c (List.drop (3 : Nat) (List.drop (1 : Nat) (List.drop (3 : Nat) b))) true)).2)), some (Obj.vec RTy.line true (addL (2 : Int) (2 : Int) l2 (gLines rdP false (Int.toNat (getP (List.drop (3 : Nat) b) (0 : Int) (1 : Int)).1 - (0 : Nat)) (Prod.fst (getP (List.drop (1 : Nat) (List.drop (3 : Nat) b)) (0 : Int) (3 : Int)) + (0 : Int)) (Rd.mk c (List.drop (3 : Nat) (List.drop (1 : Nat) (List.drop (3 : Nat) b))) true)).2))]) else none else bif Prod.fst (getP (List.drop (3 : Nat) b) (0 : Int) (1 : Int)) == (0 : Int) then bif decide (List.length its = List.length its) && decide (List.length l0 = List.length l0) && decide (List.length l1 = List.length l1) && decide (List.length l2 = List.length l2) && decide ((0 : Int) ≤ Prod.fst (getP (List.drop (3 : Nat) b) (0 : Int) (1 : Int)) ∧ Prod.fst (getP (List.drop (3 : Nat) b) (0 : Int) (1 : Int)) ≤ (255 : Int) ∧ List.length (List.drop (3 : Nat) (List.drop (1 : Nat) (List.drop (3 : Nat) b))) ≤ (1000000 : Nat) ∧ (List.length l0 ≤ (1000 : Nat) ∧ List.length l1 ≤ (1000 : Nat) ∧ List.length l2 ≤ (1000 : Nat)) ∧ ((0 : Int) ≤ (2 : Int) ∧ (2 : Int) ≤ (2 : Int)) ∧ (0 : Int) ≤ Prod.fst (getP (List.drop (1 : Nat) (List.drop (3 : Nat) b)) (0 : Int) (3 : Int)) ∧ Prod.fst (getP (List.drop (1 : Nat) (List.drop (3 : Nat) b)) (0 : Int) (3 : Int)) ≤ (16777215 : Int)) then some ((X.normal, [((4 : Nat), D.ptr (0 : Nat) []), ((5 : Nat), D.ptr (1 : Nat) []), ((39 : Nat), D.int .i64 (3 : Int))]), [some (Obj.var (85 : Nat) (.acons (D.sl RTy.u8 (gLines rdP false (Int.toNat (getP (List.drop (3 : Nat) b) (0 : Int) (1 : Int)).1 - (0 : Nat)) (Prod.fst (getP (List.drop (1 : Nat) (List.drop (3 : Nat) b)) (0 : Int) (3 : Int)) + (0 : Int)) (Rd.mk c (List.drop (3 : Nat) (List.drop (1 : Nat) (List.drop (3 : Nat) b))) (Prod.fst (getP (List.drop (1 : Nat) (List.drop (3 : Nat) b)) (0 : Int) (3 : Int)) != (0 : Int)))).1.c (gLines rdP false (Int.toNat (getP (List.drop (3 : Nat) b) (0 : Int) (1 : Int)).1 - (0 : Nat)) (Prod.fst (getP (List.drop (1 : Nat) (List.drop (3 : Nat) b)) (0 : Int) (3 : Int)) + (0 : Int)) (Rd.mk c (List.drop (3 : Nat) (List.drop (1 : Nat) (List.drop (3 : Nat) b))) (Prod.fst (getP (List.drop (1 : Nat) (List.drop (3 : Nat) b)) (0 : Int) (3 : Int)) != (0 : Int)))).1.b) (.acons (D.bool (gLines rdP false (Int.toNat (getP (List.drop (3 : Nat) b) (0 : Int) (1 : Int)).1 - (0 : Nat)) (Prod.fst (getP (List.drop (1 : Nat) (List.drop (3 : Nat) b)) (0 : Int) (3 : Int)) + (0 : Int)) (Rd.mk c (List.drop (3 : Nat) (List.drop (1 : Nat) (List.drop (3 : Nat) b))) (Prod.fst (getP (List.drop (1 : Nat) (List.drop (3 : Nat) b)) (0 : Int) (3 : Int)) != (0 : Int)))).1.bad) .anil))), some (Obj.var (30 : Nat) (.acons (D.int .i64 pl) (.acons (D.vs (2 : Nat) its.length) (.acons (D.acons (D.vs (3 : Nat) (addL (2 : Int) (0 : Int) l0 (gLines rdP false (Int.toNat (getP (List.drop (3 : Nat) b) (0 : Int) (1 : Int)).1 - (0 : Nat)) (Prod.fst (getP (List.drop (1 : Nat) (List.drop (3 : Nat) b)) (0 : Int) (3 : Int)) + (0 : Int)) (Rd.mk c (List.drop (3 : Nat) (List.drop (1 : Nat) (List.drop (3 : Nat) b))) (Prod.fst (getP (List.drop (1 : Nat) (List.drop (3 : Nat) b)) (0 : Int) (3 : Int)) != (0 : Int)))).2).length) (.acons (D.vs (4 : Nat) (addL (2 : Int) (1 : Int) l1 (gLines rdP false (Int.toNat (getP (List.drop (3 : Nat) b) (0 : Int) (1 : Int)).1 - (0 : Nat)) (Prod.fst (getP (List.drop (1 : Nat) (List.drop (3 : Nat) b)) (0 : Int) (3 : Int)) + (0 : Int)) (Rd.mk c (List.drop (3 : Nat) (List.drop (1 : Nat) (List.drop (3 : Nat) b))) (Prod.fst (getP (List.drop (1 : Nat) (List.drop (3 : Nat) b)) (0 : Int) (3 : Int)) != (0 : Int)))).2).length) (.acons (D.vs (5 : Nat) (addL (2 : Int) (2 : Int) l2 (gLines rdP false (Int.toNat (getP (List.drop (3 : Nat) b) (0 : Int) (1 : Int)).1 - (0 : Nat)) (Prod.fst (getP (List.drop (1 : Nat) (List.drop (3 : Nat) b)) (0 : Int) (3 : Int)) + (0 : Int)) (Rd.mk c (List.drop (3 : Nat) (List.drop (1 : Nat) (List.drop (3 : Nat) b))) (Prod.fst (getP (List.drop (1 : Nat) (List.drop (3 : Nat) b)) (0 : Int) (3 : Int)) != (0 : Int)))).2).length) .anil))) (.acons (D.arr RTy.int (3 : Nat) [c0, c1, Prod.fst (getP b (0 : Int) (3 : Int))]) .anil))))), some (Obj.vec RTy.item true its), some (Obj.vec RTy.line true (addL (2 : Int) (0 : Int) l0 (gLines rdP false (Int.toNat (getP (List.drop (3 : Nat) b) (0 : Int) (1 : Int)).1 - (0 : Nat)) (Prod.fst (getP (List.drop (1 : Nat) (List.drop (3 : Nat) b)) (0 : Int) (3 : Int)) + (0 : Int)) (Rd.mk c (List.drop (3 : Nat) (List.drop (1 : Nat) (List.drop (3 : Nat) b))) (Prod.fst (getP (List.drop (1 : Nat) (List.drop (3 : Nat) b)) (0 : Int) (3 : Int)) != (0 : Int)))).2)), some (Obj.vec RTy.line true (addL (2 : Int) (1 : Int) l1 (gLines rdP false (Int.toNat (getP (List.drop (3 : Nat) b) (0 : Int) (1 : Int)).1 - (0 : Nat)) (Prod.fst (getP (List.drop (1 : Nat) (List.drop (3 : Nat) b)) (0 : Int) (3 : Int)) + (0 : Int)) (Rd.mk c (List.drop (3 : Nat) (List.drop (1 : Nat) (List.drop (3 : Nat) b))) (Prod.fst (getP (List.drop (1 : Nat) (List.drop (3 : Nat) b)) (0 : Int) (3 : Int)) != (0 : Int)))).2)), some (Obj.vec RTy.line true (addL (2 : Int) (2 : Int) l2 (gLines rdP false (Int.toNat (getP (List.drop (3 : Nat) b) (0 : Int) (1 : Int)).1 - (0 : Nat)) (Prod.fst (getP (List.drop (1 : Nat) (List.drop (3 : Nat) b)) (0 : Int) (3 : Int)) + (0 : Int)) (Rd.mk c (List.drop (3 : Nat) (List.drop (1 : Nat) (List.drop (3 : Nat) b))) (Prod.fst (getP (List.drop (1 : Nat) (List.drop (3 : Nat) b)) (0 : Int) (3 : Int)) != (0 : Int)))).2))]) else none else bif decide (List.length its = List.length its) && decide (List.length l0 = List.length l0) && decide (List.length l1 = List.length l1) && decide (List.length l2 = List.length l2) && decide ((0 : Int) ≤ Prod.fst (getP (List.drop (3 : Nat) b) (0 : Int) (1 : Int)) ∧ Prod.fst (getP (List.drop (3 : Nat) b) (0 : Int) (1 : Int)) ≤ (255 : Int) ∧ List.length (List.drop (3 : Nat) (List.drop (1 : Nat) (List.drop (3 : Nat) b))) ≤ (1000000 : Nat) ∧ (List.length l0 ≤ (1000 : Nat) ∧ List.length l1 ≤ (1000 : Nat) ∧ List.length l2 ≤ (1000 : Nat)) ∧ ((0 : Int) ≤ (2 : Int) ∧ (2 : Int) ≤ (2 : Int)) ∧ (0 : Int) ≤ Prod.fst (getP (List.drop (1 : Nat) (List.drop (3 : Nat) b)) (0 : Int) (3 : Int)) ∧ Prod.fst (getP (List.drop (1 : Nat) (List.drop (3 : Nat) b)) (0 : Int) (3 : Int)) ≤ (16777215 : Int)) then some ((X.normal, [((4 : Nat), D.ptr (0 : Nat) []), ((5 : Nat), D.ptr (1 : Nat) []), ((39 : Nat), D.int .i64 (3 : Int))]), [some (Obj.var (85 : Nat) (.acons (D.sl RTy.u8 (gLines rdP false (Int.toNat (getP (List.drop (3 : Nat) b) (0 : Int) (1 : Int)).1 - (0 : Nat)) (Prod.fst (getP (List.drop (1 : Nat) (List.drop (3 : Nat) b)) (0 : Int) (3 : Int)) + (0 : Int)) (Rd.mk c (List.drop (3 : Nat) (List.drop (1 : Nat) (List.drop (3 : Nat) b))) false)).1.c (gLines rdP false (Int.toNat (getP (List.drop (3 : Nat) b) (0 : Int) (1 : Int)).1 - (0 : Nat)) (Prod.fst (getP (List.drop (1 : Nat) (List.drop (3 : Nat) b)) (0 : Int) (3 : Int)) + (0 : Int)) (Rd.mk c (List.drop (3 : Nat) (List.drop (1 : Nat) (List.drop (3 : Nat) b))) false)).1.b) (.acons (D.bool (gLines rdP false (Int.toNat (getP (List.drop (3 : Nat) b) (0 : Int) (1 : Int)).1 - (0 : Nat)) (Prod.fst (getP (List.drop (1 : Nat) (List.drop (3 : Nat) b)) (0 : Int) (3 : Int)) + (0 : Int)) (Rd.mk c (List.drop (3 : Nat) (List.drop (1 : Nat) (List.drop (3 : Nat) b))) false)).1.bad) .anil))), some (Obj.var (30 : Nat) (.acons (D.int .i64 pl) (.acons (D.vs (2 : Nat) its.length) (.acons (D.acons (D.vs (3 : Nat) (addL (2 : Int) (0 : Int) l0 (gLines rdP false (Int.toNat (getP (List.drop (3 : Nat) b) (0 : Int) (1 : Int)).1 - (0 : Nat)) (Prod.fst (getP (List.drop (1 : Nat) (List.drop (3 : Nat) b)) (0 : Int) (3 : Int)) + (0 : Int)) (Rd.mk c (List.drop (3 : Nat) (List.drop (1 : Nat) (List.drop (3 : Nat) b))) false)).2).length) (.acons (D.vs (4 : Nat) (addL (2 : Int) (1 : Int) l1 (gLines rdP false (Int.toNat (getP (List.drop (3 : Nat) b) (0 : Int) (1 : Int)).1 - (0 : Nat)) (Prod.fst (getP (List.drop (1 : Nat) (List.drop (3 : Nat) b)) (0 : Int) (3 : Int)) + (0 : Int)) (Rd.mk c (List.drop (3 : Nat) (List.drop (1 : Nat) (List.drop (3 : Nat) b))) false)).2).length) (.acons (D.vs (5 : Nat) (addL (2 : Int) (2 : Int) l2 (gLines rdP false (Int.toNat (getP (List.drop (3 : Nat) b) (0 : Int) (1 : Int)).1 - (0 : Nat)) (Prod.fst (getP (List.drop (1 : Nat) (List.drop (3 : Nat) b)) (0 : Int) (3 : Int)) + (0 : Int)) (Rd.mk c (List.drop (3 : Nat) (List.drop (1 : Nat) (List.drop (3 : Nat) b))) false)).2).length) .anil))) (.acons (D.arr RTy.int (3 : Nat) [c0, c1, Prod.fst (getP b (0 : Int) (3 : Int))]) .anil))))), some (Obj.vec RTy.item true its), some (Obj.vec RTy.line true (addL (2 : Int) (0 : Int) l0 (gLines rdP false (Int.toNat (getP (List.drop (3 : Nat) b) (0 : Int) (1 : Int)).1 - (0 : Nat)) (Prod.fst (getP (List.drop (1 : Nat) (List.drop (3 : Nat) b)) (0 : Int) (3 : Int)) + (0 : Int)) (Rd.mk c (List.drop (3 : Nat) (List.drop (1 : Nat) (List.drop (3 : Nat) b))) false)).2)), some (Obj.vec RTy.line true (addL (2 : Int) (1 : Int) l1 (gLines rdP false (Int.toNat (getP (List.drop (3 : Nat) b) (0 : Int) (1 : Int)).1 - (0 : Nat)) (Prod.fst (getP (List.drop (1 : Nat) (List.drop (3 : Nat) b)) (0 : Int) (3 : Int)) + (0 : Int)) (Rd.mk c (List.drop (3 : Nat) (List.drop (1 : Nat) (List.drop (3 : Nat) b))) false)).2)), some (Obj.vec RTy.line true (addL (2 : Int) (2 : Int) l2 (gLines rdP false (Int.toNat (getP (List.drop (3 : Nat) b) (0 : Int) (1 : Int)).1 - (0 : Nat)) (Prod.fst (getP (List.drop (1 : Nat) (List.drop (3 : Nat) b)) (0 : Int) (3 : Int)) + (0 : Int)) (Rd.mk c (List.drop (3 : Nat) (List.drop (1 : Nat) (List.drop (3 : Nat) b))) false)).2))]) else none else none else none else none else none else none else none) := by kernel_rfl
theorem rsQ_eq3 (c : Bool) (b : List UInt8) (bad : Bool) (pl : Int) (its : List Item) (l0 l1 l2 : List Line) (c0 c1 c2 : Int) : rsQ_r c b bad pl its l0 l1 l2 c0 c1 c2 3 = (some ((X.exit (2 : Nat), []), [some (Obj.var (85 : Nat) (.acons (D.sl RTy.u8 c b) (.acons (D.bool bad) .anil))), some (Obj.var (30 : Nat) (.acons (D.int .i64 pl) (.acons (D.vs (2 : Nat) its.length) (.acons (D.acons (D.vs (3 : Nat) l0.length) (.acons (D.vs (4 : Nat) l1.length) (.acons (D.vs (5 : Nat) l2.length) .anil))) (.acons (D.arr RTy.int (3 : Nat) [c0, c1, c2]) .anil))))), some (Obj.vec RTy.item true its), some (Obj.vec RTy.line true l0), some (Obj.vec RTy.line true l1), some (Obj.vec RTy.line true l2)])) := by kernel_rfl
def rsQ_fin (c : Bool) (b : List UInt8) (bad : Bool) (pl : Int) (its : List Item) (l0 : List Line) (l1 : List Line) (l2 : List Line) (c0 : Int) (c1 : Int) (c2 : Int) (q : Nat) : RT RC := .leaf (.exit 2) [] [.var 85 (.acons (.sl (C := RC) .u8 (runQ rdP false markP q ⟨⟨c, b, bad⟩, l0, l1, l2, c0, c1, c2⟩).r.c (runQ rdP false markP q ⟨⟨c, b, bad⟩, l0, l1, l2, c0, c1, c2⟩).r.b) (.acons (.bool (runQ rdP false markP q ⟨⟨c, b, bad⟩, l0, l1, l2, c0, c1, c2⟩).r.bad) .anil)), .var 30 (.acons (.int .i64 pl) (.acons (.vs 2 its.length) (.acons (.acons (.vs 3 (runQ rdP false markP q ⟨⟨c, b, bad⟩, l0, l1, l2, c0, c1, c2⟩).l0.length) (.acons (.vs 4 (runQ rdP false markP q ⟨⟨c, b, bad⟩, l0, l1, l2, c0, c1, c2⟩).l1.length) (.acons (.vs 5 (runQ rdP false markP q ⟨⟨c, b, bad⟩, l0, l1, l2, c0, c1, c2⟩).l2.length) .anil))) (.acons (.arr (C := RC) .int 3 [(runQ rdP false markP q ⟨⟨c, b, bad⟩, l0, l1, l2, c0, c1, c2⟩).c0, (runQ rdP false markP q ⟨⟨c, b, bad⟩, l0, l1, l2, c0, c1, c2⟩).c1, (runQ rdP false markP q ⟨⟨c, b, bad⟩, l0, l1, l2, c0, c1, c2⟩).c2]) .anil)))), .vec (C := RC) .item true its, .vec (C := RC) .line true (runQ rdP false markP q ⟨⟨c, b, bad⟩, l0, l1, l2, c0, c1, c2⟩).l0, .vec (C := RC) .line true (runQ rdP false markP q ⟨⟨c, b, bad⟩, l0, l1, l2, c0, c1, c2⟩).l1, .vec (C := RC) .line true (runQ rdP false markP q ⟨⟨c, b, bad⟩, l0, l1, l2, c0, c1, c2⟩).l2]
def rsQ_Inv (c : Bool) (b : List UInt8) (bad : Bool) (pl : Int) (its : List Item) (l0 : List Line) (l1 : List Line) (l2 : List Line) (c0 : Int) (c1 : Int) (c2 : Int) (q : Nat) : Prop := q ≤ 3 ∧ b.length ≤ 1000000 ∧ l0.length ≤ 255 * q ∧ l1.length ≤ 255 * q ∧ l2.length ≤ 255 * q
def rsQ_S : LoopR RC rsQ_St where
  k := 6
  canon q := rsQ_c q.c q.b q.bad q.pl q.its q.l0 q.l1 q.l2 q.c0 q.c1 q.c2 q.q
  objs q := rsQ_o q.c q.b q.bad q.pl q.its q.l0 q.l1 q.l2 q.c0 q.c1 q.c2 q.q
  fin q := rsQ_fin q.c q.b q.bad q.pl q.its q.l0 q.l1 q.l2 q.c0 q.c1 q.c2 q.q
  Inv q := rsQ_Inv q.c q.b q.bad q.pl q.its q.l0 q.l1 q.l2 q.c0 q.c1 q.c2 q.q
  μ q := 3 - q.q
theorem rsQ_round (c : Bool) (b : List UInt8) (bad : Bool) (pl : Int) (its : List Item) (l0 : List Line) (l1 : List Line) (l2 : List Line) (c0 : Int) (c1 : Int) (c2 : Int) (q : Nat) (hI : rsQ_Inv c b bad pl its l0 l1 l2 c0 c1 c2 q) : Leaf (rsQ_r c b bad pl its l0 l1 l2 c0 c1 c2 q) (LedR rsQ_S ⟨c, b, bad, pl, its, l0, l1, l2, c0, c1, c2, q⟩) := by
  unfold rsQ_Inv at hI
  obtain ⟨h1, h2, h3, h4, h5⟩ := hI
  have t1 : Int.toNat 1 = 1 := rfl
  have t3 : Int.toNat 3 = 3 := rfl
  have z1 : rget 1 ⟨true, [], true⟩ = (0, ⟨true, [], true⟩) := rfl
  have z3 : rget 3 ⟨true, [], true⟩ = (0, ⟨true, [], true⟩) := rfl
  have k01 : ¬ (0 : Int) = 1 := by omega
  have k02 : ¬ (0 : Int) = 2 := by omega
  have k10 : ¬ (1 : Int) = 0 := by omega
  have k12 : ¬ (1 : Int) = 2 := by omega
  have k20 : ¬ (2 : Int) = 0 := by omega
  have k21 : ¬ (2 : Int) = 1 := by omega
  have e0 : decide (b.length ≤ 1000000000000) = true := decide_eq_true (by omega)
  have pb := gPart_blen ⟨c, b, bad⟩
  have pn := gPart_len ⟨c, b, bad⟩
  by_cases x3 : q = 3
  · subst x3
    rw [rsQ_eq3]
    exact leafR_exit (rsQ_o c b bad pl its l0 l1 l2 c0 c1 c2 3) rfl rfl
  by_cases x0 : q = 0
  · subst x0
    have hgo : ∀ (r' : Rd) (cut : Int) (L : List Line), gPart rdP false markP ⟨c, b, bad⟩ = (r', cut, L) → Leaf (some ((X.normal, [(4, .ptr 0 []), (5, .ptr 1 []), (39, .int .i64 1)]), [some (.var 85 (.acons (.sl (C := RC) .u8 r'.c r'.b) (.acons (.bool r'.bad) .anil))), some (.var 30 (.acons (.int .i64 pl) (.acons (.vs 2 its.length) (.acons (.acons (.vs 3 (l0 ++ L).length) (.acons (.vs 4 l1.length) (.acons (.vs 5 l2.length) .anil))) (.acons (.arr (C := RC) .int 3 [cut, c1, c2]) .anil))))), some (.vec (C := RC) .item true its), some (.vec (C := RC) .line true (l0 ++ L)), some (.vec (C := RC) .line true l1), some (.vec (C := RC) .line true l2)])) (LedR rsQ_S ⟨c, b, bad, pl, its, l0, l1, l2, c0, c1, c2, 0⟩) := by
      intro r' cut L hP
      rw [hP] at pb pn
      simp only at pb pn
      have hrun : runQ rdP false markP 1 ⟨⟨r'.c, r'.b, r'.bad⟩, l0 ++ L, l1, l2, cut, c1, c2⟩ = runQ rdP false markP 0 ⟨⟨c, b, bad⟩, l0, l1, l2, c0, c1, c2⟩ := by
        simp only [runQ, part0, hP]
      refine leafR_go ⟨r'.c, r'.b, r'.bad, pl, its, l0 ++ L, l1, l2, cut, c1, c2, 1⟩ ?_ (by simp only [rsQ_S]; omega) ?_ rfl rfl
      · refine ⟨by simp, ?_, ?_, ?_, ?_⟩ <;> simp <;> omega
      · simp only [rsQ_S, rsQ_fin, hrun]
    rw [rsQ_eq0]
    simp only [e0, cond_true, getP_snd1, getP_snd3, t1, t3]
    by_cases q0 : b.length < 3
    · have r0 : rget 3 ⟨c, b, bad⟩ = _ := rget_no q0
      simp only [q0, decide_true, cond_true]
      simp (disch := omega) only [decide_eq_true, Bool.and_self, cond_true, addL, if_true, if_false, k01, k02, k10, k12, k20, k21]
      exact hgo ⟨true, [], true⟩ 0 [] (gPart_of r0 z1 z3)
    have r0 : rget 3 ⟨c, b, bad⟩ = _ := rget_ok (show 3 ≤ b.length by omega)
    have d0 : decide ((0 : Int) ≤ 3 ∧ (3 : Int) ≤ b.length) = true := by simp only [decide_eq_true_eq]; omega
    have e1 : decide ((b.drop 3).length ≤ 1000000000000) = true := decide_eq_true (by simp; omega)
    simp only [q0, decide_false, cond_false, d0, cond_true, e1, getP_fst3 q0]
    by_cases q1 : (b.drop 3).length < 1
    · have r1 : rget 1 ⟨c, b.drop 3, bad⟩ = _ := rget_no q1
      simp only [q1, decide_true, cond_true]
      simp (disch := omega) only [decide_eq_true, Bool.and_self, cond_true, addL, if_true, if_false, k01, k02, k10, k12, k20, k21]
      exact hgo ⟨true, [], true⟩ _ [] (gPart_of r0 r1 z3)
    have r1 : rget 1 ⟨c, b.drop 3, bad⟩ = _ := rget_ok (show 1 ≤ (b.drop 3).length by omega)
    have d1 : decide ((0 : Int) ≤ 1 ∧ (1 : Int) ≤ (b.drop 3).length) = true := by simp only [decide_eq_true_eq]; omega
    have e2 : decide (((b.drop 3).drop 1).length ≤ 1000000000000) = true := decide_eq_true (by simp; omega)
    simp only [q1, decide_false, cond_false, d1, cond_true, e2, getP_fst1 q1]
    have n1 := leVal_le (b.drop 3) 1
    have f1 := leVal_le ((b.drop 3).drop 1) 3
    have bl : (((b.drop 3).drop 1).drop 3).length ≤ 1000000 := by simp; omega
    simp only [Nat.reducePow] at n1 f1
    by_cases q2 : ((b.drop 3).drop 1).length < 3
    · have r2 : rget 3 ⟨c, (b.drop 3).drop 1, bad⟩ = _ := rget_no q2
      simp only [q2, decide_true, cond_true]
      have bz : ([] : List UInt8).length ≤ 1000000 := by simp
      simp (disch := (first | omega | (simp; omega))) only [decide_eq_true, Bool.and_self, cond_true, addL, if_true, if_false, k01, k02, k10, k12, k20, k21, Nat.sub_zero, Int.add_zero]
      refine hgo _ _ _ ?_
      rw [gPart_of r0 r1 r2]
      have : ((leVal ((b.drop 3).take 1) : Int) == 0 && (0 : Int) != 0) = false := by simp
      rw [this]; rfl
    have r2 : rget 3 ⟨c, (b.drop 3).drop 1, bad⟩ = _ := rget_ok (show 3 ≤ ((b.drop 3).drop 1).length by omega)
    have d2 : decide ((0 : Int) ≤ 3 ∧ (3 : Int) ≤ ((b.drop 3).drop 1).length) = true := by simp only [decide_eq_true_eq]; omega
    simp only [q2, decide_false, cond_false, d2, cond_true, getP_fst3 q2]
    have hP := gPart_of r0 r1 r2
    cases bad
    · simp only [cond_false]
      cases hz : ((leVal ((b.drop 3).take 1) : Int) == 0)
      · simp only [cond_false]
        simp (disch := omega) only [decide_eq_true, Bool.and_self, cond_true, addL, if_true, if_false, k01, k02, k10, k12, k20, k21, Nat.sub_zero, Int.add_zero]
        refine hgo _ _ _ ?_
        rw [hP, hz]; rfl
      · simp only [cond_true]
        simp (disch := omega) only [decide_eq_true, Bool.and_self, cond_true, addL, if_true, if_false, k01, k02, k10, k12, k20, k21, Nat.sub_zero, Int.add_zero]
        refine hgo _ _ _ ?_
        rw [hP, hz]
        cases hf : ((leVal (((b.drop 3).drop 1).take 3) : Int) != 0) <;> rfl
    · simp only [cond_true]
      simp (disch := omega) only [decide_eq_true, Bool.and_self, cond_true, addL, if_true, if_false, k01, k02, k10, k12, k20, k21, Nat.sub_zero, Int.add_zero]
      refine hgo _ _ _ ?_
      rw [hP]
      cases ((leVal ((b.drop 3).take 1) : Int) == 0 && (leVal (((b.drop 3).drop 1).take 3) : Int) != 0) <;> rfl
  by_cases x1 : q = 1
  · subst x1
    have hgo : ∀ (r' : Rd) (cut : Int) (L : List Line), gPart rdP false markP ⟨c, b, bad⟩ = (r', cut, L) → Leaf (some ((X.normal, [(4, .ptr 0 []), (5, .ptr 1 []), (39, .int .i64 2)]), [some (.var 85 (.acons (.sl (C := RC) .u8 r'.c r'.b) (.acons (.bool r'.bad) .anil))), some (.var 30 (.acons (.int .i64 pl) (.acons (.vs 2 its.length) (.acons (.acons (.vs 3 l0.length) (.acons (.vs 4 (l1 ++ L).length) (.acons (.vs 5 l2.length) .anil))) (.acons (.arr (C := RC) .int 3 [c0, cut, c2]) .anil))))), some (.vec (C := RC) .item true its), some (.vec (C := RC) .line true l0), some (.vec (C := RC) .line true (l1 ++ L)), some (.vec (C := RC) .line true l2)])) (LedR rsQ_S ⟨c, b, bad, pl, its, l0, l1, l2, c0, c1, c2, 1⟩) := by
      intro r' cut L hP
      rw [hP] at pb pn
      simp only at pb pn
      have hrun : runQ rdP false markP 2 ⟨⟨r'.c, r'.b, r'.bad⟩, l0, l1 ++ L, l2, c0, cut, c2⟩ = runQ rdP false markP 1 ⟨⟨c, b, bad⟩, l0, l1, l2, c0, c1, c2⟩ := by
        simp only [runQ, part1, hP]
      refine leafR_go ⟨r'.c, r'.b, r'.bad, pl, its, l0, l1 ++ L, l2, c0, cut, c2, 2⟩ ?_ (by simp only [rsQ_S]; omega) ?_ rfl rfl
      · refine ⟨by simp, ?_, ?_, ?_, ?_⟩ <;> simp <;> omega
      · simp only [rsQ_S, rsQ_fin, hrun]
    rw [rsQ_eq1]
    simp only [e0, cond_true, getP_snd1, getP_snd3, t1, t3]
    by_cases q0 : b.length < 3
    · have r0 : rget 3 ⟨c, b, bad⟩ = _ := rget_no q0
      simp only [q0, decide_true, cond_true]
      simp (disch := omega) only [decide_eq_true, Bool.and_self, cond_true, addL, if_true, if_false, k01, k02, k10, k12, k20, k21]
      exact hgo ⟨true, [], true⟩ 0 [] (gPart_of r0 z1 z3)
    have r0 : rget 3 ⟨c, b, bad⟩ = _ := rget_ok (show 3 ≤ b.length by omega)
    have d0 : decide ((0 : Int) ≤ 3 ∧ (3 : Int) ≤ b.length) = true := by simp only [decide_eq_true_eq]; omega
    have e1 : decide ((b.drop 3).length ≤ 1000000000000) = true := decide_eq_true (by simp; omega)
    simp only [q0, decide_false, cond_false, d0, cond_true, e1, getP_fst3 q0]
    by_cases q1 : (b.drop 3).length < 1
    · have r1 : rget 1 ⟨c, b.drop 3, bad⟩ = _ := rget_no q1
      simp only [q1, decide_true, cond_true]
      simp (disch := omega) only [decide_eq_true, Bool.and_self, cond_true, addL, if_true, if_false, k01, k02, k10, k12, k20, k21]
      exact hgo ⟨true, [], true⟩ _ [] (gPart_of r0 r1 z3)
    have r1 : rget 1 ⟨c, b.drop 3, bad⟩ = _ := rget_ok (show 1 ≤ (b.drop 3).length by omega)
    have d1 : decide ((0 : Int) ≤ 1 ∧ (1 : Int) ≤ (b.drop 3).length) = true := by simp only [decide_eq_true_eq]; omega
    have e2 : decide (((b.drop 3).drop 1).length ≤ 1000000000000) = true := decide_eq_true (by simp; omega)
    simp only [q1, decide_false, cond_false, d1, cond_true, e2, getP_fst1 q1]
    have n1 := leVal_le (b.drop 3) 1
    have f1 := leVal_le ((b.drop 3).drop 1) 3
    have bl : (((b.drop 3).drop 1).drop 3).length ≤ 1000000 := by simp; omega
    simp only [Nat.reducePow] at n1 f1
    by_cases q2 : ((b.drop 3).drop 1).length < 3
    · have r2 : rget 3 ⟨c, (b.drop 3).drop 1, bad⟩ = _ := rget_no q2
      simp only [q2, decide_true, cond_true]
      have bz : ([] : List UInt8).length ≤ 1000000 := by simp
      simp (disch := (first | omega | (simp; omega))) only [decide_eq_true, Bool.and_self, cond_true, addL, if_true, if_false, k01, k02, k10, k12, k20, k21, Nat.sub_zero, Int.add_zero]
      refine hgo _ _ _ ?_
      rw [gPart_of r0 r1 r2]
      have : ((leVal ((b.drop 3).take 1) : Int) == 0 && (0 : Int) != 0) = false := by simp
      rw [this]; rfl
    have r2 : rget 3 ⟨c, (b.drop 3).drop 1, bad⟩ = _ := rget_ok (show 3 ≤ ((b.drop 3).drop 1).length by omega)
    have d2 : decide ((0 : Int) ≤ 3 ∧ (3 : Int) ≤ ((b.drop 3).drop 1).length) = true := by simp only [decide_eq_true_eq]; omega
    simp only [q2, decide_false, cond_false, d2, cond_true, getP_fst3 q2]
    have hP := gPart_of r0 r1 r2
    cases bad
    · simp only [cond_false]
      cases hz : ((leVal ((b.drop 3).take 1) : Int) == 0)
      · simp only [cond_false]
        simp (disch := omega) only [decide_eq_true, Bool.and_self, cond_true, addL, if_true, if_false, k01, k02, k10, k12, k20, k21, Nat.sub_zero, Int.add_zero]
        refine hgo _ _ _ ?_
        rw [hP, hz]; rfl
      · simp only [cond_true]
        simp (disch := omega) only [decide_eq_true, Bool.and_self, cond_true, addL, if_true, if_false, k01, k02, k10, k12, k20, k21, Nat.sub_zero, Int.add_zero]
        refine hgo _ _ _ ?_
        rw [hP, hz]
        cases hf : ((leVal (((b.drop 3).drop 1).take 3) : Int) != 0) <;> rfl
    · simp only [cond_true]
      simp (disch := omega) only [decide_eq_true, Bool.and_self, cond_true, addL, if_true, if_false, k01, k02, k10, k12, k20, k21, Nat.sub_zero, Int.add_zero]
      refine hgo _ _ _ ?_
      rw [hP]
      cases ((leVal ((b.drop 3).take 1) : Int) == 0 && (leVal (((b.drop 3).drop 1).take 3) : Int) != 0) <;> rfl
  by_cases x2 : q = 2
  · subst x2
    have hgo : ∀ (r' : Rd) (cut : Int) (L : List Line), gPart rdP false markP ⟨c, b, bad⟩ = (r', cut, L) → Leaf (some ((X.normal, [(4, .ptr 0 []), (5, .ptr 1 []), (39, .int .i64 3)]), [some (.var 85 (.acons (.sl (C := RC) .u8 r'.c r'.b) (.acons (.bool r'.bad) .anil))), some (.var 30 (.acons (.int .i64 pl) (.acons (.vs 2 its.length) (.acons (.acons (.vs 3 l0.length) (.acons (.vs 4 l1.length) (.acons (.vs 5 (l2 ++ L).length) .anil))) (.acons (.arr (C := RC) .int 3 [c0, c1, cut]) .anil))))), some (.vec (C := RC) .item true its), some (.vec (C := RC) .line true l0), some (.vec (C := RC) .line true l1), some (.vec (C := RC) .line true (l2 ++ L))])) (LedR rsQ_S ⟨c, b, bad, pl, its, l0, l1, l2, c0, c1, c2, 2⟩) := by
      intro r' cut L hP
      rw [hP] at pb pn
      simp only at pb pn
      have hrun : runQ rdP false markP 3 ⟨⟨r'.c, r'.b, r'.bad⟩, l0, l1, l2 ++ L, c0, c1, cut⟩ = runQ rdP false markP 2 ⟨⟨c, b, bad⟩, l0, l1, l2, c0, c1, c2⟩ := by
        simp only [runQ, part2, hP]
      refine leafR_go ⟨r'.c, r'.b, r'.bad, pl, its, l0, l1, l2 ++ L, c0, c1, cut, 3⟩ ?_ (by simp only [rsQ_S]; omega) ?_ rfl rfl
      · refine ⟨by simp, ?_, ?_, ?_, ?_⟩ <;> simp <;> omega
      · simp only [rsQ_S, rsQ_fin, hrun]
    rw [rsQ_eq2]
    simp only [e0, cond_true, getP_snd1, getP_snd3, t1, t3]
    by_cases q0 : b.length < 3
    · have r0 : rget 3 ⟨c, b, bad⟩ = _ := rget_no q0
      simp only [q0, decide_true, cond_true]
      simp (disch := omega) only [decide_eq_true, Bool.and_self, cond_true, addL, if_true, if_false, k01, k02, k10, k12, k20, k21]
      exact hgo ⟨true, [], true⟩ 0 [] (gPart_of r0 z1 z3)
    have r0 : rget 3 ⟨c, b, bad⟩ = _ := rget_ok (show 3 ≤ b.length by omega)
    have d0 : decide ((0 : Int) ≤ 3 ∧ (3 : Int) ≤ b.length) = true := by simp only [decide_eq_true_eq]; omega
    have e1 : decide ((b.drop 3).length ≤ 1000000000000) = true := decide_eq_true (by simp; omega)
    simp only [q0, decide_false, cond_false, d0, cond_true, e1, getP_fst3 q0]
    by_cases q1 : (b.drop 3).length < 1
    · have r1 : rget 1 ⟨c, b.drop 3, bad⟩ = _ := rget_no q1
      simp only [q1, decide_true, cond_true]
      simp (disch := omega) only [decide_eq_true, Bool.and_self, cond_true, addL, if_true, if_false, k01, k02, k10, k12, k20, k21]
      exact hgo ⟨true, [], true⟩ _ [] (gPart_of r0 r1 z3)
    have r1 : rget 1 ⟨c, b.drop 3, bad⟩ = _ := rget_ok (show 1 ≤ (b.drop 3).length by omega)
    have d1 : decide ((0 : Int) ≤ 1 ∧ (1 : Int) ≤ (b.drop 3).length) = true := by simp only [decide_eq_true_eq]; omega
    have e2 : decide (((b.drop 3).drop 1).length ≤ 1000000000000) = true := decide_eq_true (by simp; omega)
    simp only [q1, decide_false, cond_false, d1, cond_true, e2, getP_fst1 q1]
    have n1 := leVal_le (b.drop 3) 1
    have f1 := leVal_le ((b.drop 3).drop 1) 3
    have bl : (((b.drop 3).drop 1).drop 3).length ≤ 1000000 := by simp; omega
    simp only [Nat.reducePow] at n1 f1
    by_cases q2 : ((b.drop 3).drop 1).length < 3
    · have r2 : rget 3 ⟨c, (b.drop 3).drop 1, bad⟩ = _ := rget_no q2
      simp only [q2, decide_true, cond_true]
      have bz : ([] : List UInt8).length ≤ 1000000 := by simp
      simp (disch := (first | omega | (simp; omega))) only [decide_eq_true, Bool.and_self, cond_true, addL, if_true, if_false, k01, k02, k10, k12, k20, k21, Nat.sub_zero, Int.add_zero]
      refine hgo _ _ _ ?_
      rw [gPart_of r0 r1 r2]
      have : ((leVal ((b.drop 3).take 1) : Int) == 0 && (0 : Int) != 0) = false := by simp
      rw [this]; rfl
    have r2 : rget 3 ⟨c, (b.drop 3).drop 1, bad⟩ = _ := rget_ok (show 3 ≤ ((b.drop 3).drop 1).length by omega)
    have d2 : decide ((0 : Int) ≤ 3 ∧ (3 : Int) ≤ ((b.drop 3).drop 1).length) = true := by simp only [decide_eq_true_eq]; omega
    simp only [q2, decide_false, cond_false, d2, cond_true, getP_fst3 q2]
    have hP := gPart_of r0 r1 r2
    cases bad
    · simp only [cond_false]
      cases hz : ((leVal ((b.drop 3).take 1) : Int) == 0)
      · simp only [cond_false]
        simp (disch := omega) only [decide_eq_true, Bool.and_self, cond_true, addL, if_true, if_false, k01, k02, k10, k12, k20, k21, Nat.sub_zero, Int.add_zero]
        refine hgo _ _ _ ?_
        rw [hP, hz]; rfl
      · simp only [cond_true]
        simp (disch := omega) only [decide_eq_true, Bool.and_self, cond_true, addL, if_true, if_false, k01, k02, k10, k12, k20, k21, Nat.sub_zero, Int.add_zero]
        refine hgo _ _ _ ?_
        rw [hP, hz]
        cases hf : ((leVal (((b.drop 3).drop 1).take 3) : Int) != 0) <;> rfl
    · simp only [cond_true]
      simp (disch := omega) only [decide_eq_true, Bool.and_self, cond_true, addL, if_true, if_false, k01, k02, k10, k12, k20, k21, Nat.sub_zero, Int.add_zero]
      refine hgo _ _ _ ?_
      rw [hP]
      cases ((leVal ((b.drop 3).take 1) : Int) == 0 && (leVal (((b.drop 3).drop 1).take 3) : Int) != 0) <;> rfl
  omega
def rsQ_d (env : Env RC) (os : List (Obj RC)) : Option (Bool × rsQ_St) := match env, os with
  | [(4, .ptr 0 []), (5, .ptr 1 []), (39, .int .i64 x0)], [.var 85 (.acons (.sl .u8 c b) (.acons (.bool bad) .anil)), .var 30 (.acons (.int .i64 pl) (.acons (.vs 2 x1) (.acons (.acons (.vs 3 x2) (.acons (.vs 4 x3) (.acons (.vs 5 x4) .anil))) (.acons (.arr .int 3 [c0, c1, c2]) .anil)))), .vec .item true its, .vec .line true l0, .vec .line true l1, .vec .line true l2] => staticD (true) (decide (x0 = 0) && decide (x1 = its.length) && decide (x2 = l0.length) && decide (x3 = l1.length) && decide (x4 = l2.length) && decide (b.length ≤ 1000000 ∧ l0.length = 0 ∧ l1.length = 0 ∧ l2.length = 0), ⟨c, b, bad, pl, its, l0, l1, l2, c0, c1, c2, 0⟩)
  | _, _ => none
noncomputable def un_1 := um_2.addLoop 32 11 (sumR s07 [.slot 4 0, .slot 5 0, .path 1 [1], .path 1 [2, 0], .path 1 [2, 1], .path 1 [2, 2]] [4, 5, 39] rsQ_S rsQ_d)
theorem un_1_laws : FLaws Try.prog s07 un_1 := by
  refine um_2_laws.addRoundsR s07_laws (by kernel_rfl) rsQ_S 60 [4, 5, 39] [] [.slot 4 0, .slot 5 0, .path 1 [1], .path 1 [2, 0], .path 1 [2, 1], .path 1 [2, 2]] [4, 5, 39] rsQ_d (fun q hI => ?_) ?_
  · obtain ⟨c, b, bad, pl, its, l0, l1, l2, c0, c1, c2, q⟩ := q
    refine ⟨?_, ?_, rsQ_round c b bad pl its l0 l1 l2 c0 c1 c2 q hI⟩
    · simp_all [RefsOK, rsQ_S, rsQ_c, rsQ_o, rsQ_Inv, D.refs, Obj.refs, rEnc]
    · simp_all [rsQ_S, rsQ_fin, rsQ_o, rsQ_Inv, RT.refsOK, RefsOK, D.refs, Obj.refs, rEnc]
  · intro env os b q hd_ hb
    unfold rsQ_d at hd_
    split at hd_
    · obtain ⟨hs, hd_⟩ := staticD_some hd_
      cases hd_
      simp only [Bool.and_eq_true, decide_eq_true_eq] at hb
      obtain ⟨⟨⟨⟨⟨rfl, rfl⟩, rfl⟩, rfl⟩, rfl⟩, hq⟩ := hb
      exact ⟨⟨by simp, hq.1, by simp [hq.2.1], by simp [hq.2.2.1], by simp [hq.2.2.2]⟩, rfl, rfl⟩
    · cases hd_
def stG (o : Option St) : St := o.getD ⟨0, [], [], [], [], 0, 0, 0⟩
theorem runQ0_bounds (r : Rd) : (runQ rdP false markP 0 ⟨r, [], [], [], 0, 0, 0⟩).l0.length ≤ 255 ∧ (runQ rdP false markP 0 ⟨r, [], [], [], 0, 0, 0⟩).l1.length ≤ 255 ∧ (runQ rdP false markP 0 ⟨r, [], [], [], 0, 0, 0⟩).l2.length ≤ 255 ∧ (runQ rdP false markP 0 ⟨r, [], [], [], 0, 0, 0⟩).r.b.length ≤ r.b.length := by
  simp only [runQ, part0, part1, part2, List.nil_append]
  exact ⟨gPart_len _, gPart_len _, gPart_len _, Nat.le_trans (gPart_blen _) (Nat.le_trans (gPart_blen _) (gPart_blen _))⟩
theorem gState_of {r r1 r2 : Rd} {p n : Int} (h1 : rget 3 r = (p, r1)) (h2 : rget 1 r1 = (n, r2)) :
    gState rdP false markP r = ((runQ rdP false markP 0 ⟨(gItems rdP false n.toNat r2).1, [], [], [], 0, 0, 0⟩).r, ⟨p, (gItems rdP false n.toNat r2).2, (runQ rdP false markP 0 ⟨(gItems rdP false n.toNat r2).1, [], [], [], 0, 0, 0⟩).l0, (runQ rdP false markP 0 ⟨(gItems rdP false n.toNat r2).1, [], [], [], 0, 0, 0⟩).l1, (runQ rdP false markP 0 ⟨(gItems rdP false n.toNat r2).1, [], [], [], 0, 0, 0⟩).l2, (runQ rdP false markP 0 ⟨(gItems rdP false n.toNat r2).1, [], [], [], 0, 0, 0⟩).c0, (runQ rdP false markP 0 ⟨(gItems rdP false n.toNat r2).1, [], [], [], 0, 0, 0⟩).c1, (runQ rdP false markP 0 ⟨(gItems rdP false n.toNat r2).1, [], [], [], 0, 0, 0⟩).c2⟩) := by
  have e1 : rdP.get 3 r = (p, r1) := h1
  have e2 : rdP.get 1 r1 = (n, r2) := h2
  simp only [gState, e1, e2, runQ, part0, part1, part2, List.nil_append]
open Go.Proofs
def readSP_s (c : Bool) (b : List UInt8) : Option (Bool × D RC) := some (decide (b.length ≤ 1000000), .tup (.acons (.acons (.int .i64 (stG (readS b)).place) (.acons (.sl (C := RC) .item (readS b).isNone (stG (readS b)).items) (.acons (.acons (.sl (C := RC) .line (readS b).isNone (stG (readS b)).l0) (.acons (.sl (C := RC) .line (readS b).isNone (stG (readS b)).l1) (.acons (.sl (C := RC) .line (readS b).isNone (stG (readS b)).l2) .anil))) (.acons (.arr (C := RC) .int 3 [(stG (readS b)).c0, (stG (readS b)).c1, (stG (readS b)).c2]) .anil)))) (.acons (.int .i64 (bif (readS b).isNone then 50 else 0)) .anil)))
def readSP_sp : List (D RC) → Option (Bool × D RC)
  | [.sl .u8 c b] => readSP_s c b
  | _ => none
noncomputable def readSP_e (c : Bool) (b : List UInt8) := evF s07 un_1 60 32 [.sl (C := RC) .u8 c b]
set_option maxHeartbeats 4000000 in
theorem readSP_eq (c : Bool) (b : List UInt8) : readSP_e c b = (bif decide (List.length b ≤ (1000000000000 : Nat)) then bif Prod.snd (getP b (0 : Int) (3 : Int)) != (0 : Int) then some (D.tup (D.acons (D.acons (D.int .i64 (0 : Int)) (.acons (D.sl RTy.item true []) (.acons (D.acons (D.sl RTy.line true []) (.acons (D.sl RTy.line true []) (.acons (D.sl RTy.line true []) .anil))) (.acons (D.arr RTy.int (3 : Nat) (List.replicate (3 : Nat) (0 : Int))) .anil)))) (.acons (D.int .i64 (50 : Int)) .anil))) else bif decide ((0 : Int) ≤ (3 : Int) ∧ (3 : Int) ≤ (↑b.length : Int)) then bif decide (List.length (List.drop (3 : Nat) b) ≤ (1000000000000 : Nat)) then bif Prod.snd (getP (List.drop (3 : Nat) b) (0 : Int) (1 : Int)) != (0 : Int) then some (D.tup (D.acons (D.acons (D.int .i64 (0 : Int)) (.acons (D.sl RTy.item true []) (.acons (D.acons (D.sl RTy.line true []) (.acons (D.sl RTy.line true []) (.acons (D.sl RTy.line true []) .anil))) (.acons (D.arr RTy.int (3 : Nat) (List.replicate (3 : Nat) (0 : Int))) .anil)))) (.acons (D.int .i64 (50 : Int)) .anil))) else bif decide ((0 : Int) ≤ (1 : Int) ∧ (1 : Int) ≤ (↑(List.drop (3 : Nat) b).length : Int)) then bif decide ((0 : Int) ≤ Prod.fst (getP (List.drop (3 : Nat) b) (0 : Int) (1 : Int)) ∧ Prod.fst (getP (List.drop (3 : Nat) b) (0 : Int) (1 : Int)) ≤ (255 : Int) ∧ List.length (List.drop (1 : Nat) (List.drop (3 : Nat) b)) ≤ (1000000 : Nat) ∧ (0 : Nat) = (0 : Nat)) then bif decide (List.length ([] ++ Prod.snd (gItems rdP false (Int.toNat (getP (List.drop (3 : Nat) b) (0 : Int) (1 : Int)).1 - (0 : Nat)) (Rd.mk c (List.drop (1 : Nat) (List.drop (3 : Nat) b)) false))) = List.length ([] ++ Prod.snd (gItems rdP false (Int.toNat (getP (List.drop (3 : Nat) b) (0 : Int) (1 : Int)).1 - (0 : Nat)) (Rd.mk c (List.drop (1 : Nat) (List.drop (3 : Nat) b)) false)))) && true && true && true && decide (List.length (gItems rdP false (Int.toNat (getP (List.drop (3 : Nat) b) (0 : Int) (1 : Int)).1 - (0 : Nat)) (Rd.mk c (List.drop (1 : Nat) (List.drop (3 : Nat) b)) false)).1.b ≤ (1000000 : Nat) ∧ (0 : Nat) = (0 : Nat) ∧ (0 : Nat) = (0 : Nat) ∧ (0 : Nat) = (0 : Nat)) then bif !Rd.bad (runQ rdP false markP (0 : Nat) (QS.mk (Rd.mk (gItems rdP false (Int.toNat (getP (List.drop (3 : Nat) b) (0 : Int) (1 : Int)).1 - (0 : Nat)) (Rd.mk c (List.drop (1 : Nat) (List.drop (3 : Nat) b)) false)).1.c (gItems rdP false (Int.toNat (getP (List.drop (3 : Nat) b) (0 : Int) (1 : Int)).1 - (0 : Nat)) (Rd.mk c (List.drop (1 : Nat) (List.drop (3 : Nat) b)) false)).1.b (gItems rdP false (Int.toNat (getP (List.drop (3 : Nat) b) (0 : Int) (1 : Int)).1 - (0 : Nat)) (Rd.mk c (List.drop (1 : Nat) (List.drop (3 : Nat) b)) false)).1.bad) [] [] [] (0 : Int) (0 : Int) (0 : Int))).r then bif lenOK (runQ rdP false markP (0 : Nat) (QS.mk (Rd.mk (gItems rdP false (Int.toNat (getP (List.drop (3 : Nat) b) (0 : Int) (1 : Int)).1 - (0 : Nat)) (Rd.mk c (List.drop (1 : Nat) (List.drop (3 : Nat) b)) false)).1.c (gItems rdP false (Int.toNat (getP (List.drop (3 : Nat) b) (0 : Int) (1 : Int)).1 - (0 : Nat)) (Rd.mk c (List.drop (1 : Nat) (List.drop (3 : Nat) b)) false)).1.b (gItems rdP false (Int.toNat (getP (List.drop (3 : Nat) b) (0 : Int) (1 : Int)).1 - (0 : Nat)) (Rd.mk c (List.drop (1 : Nat) (List.drop (3 : Nat) b)) false)).1.bad) [] [] [] (0 : Int) (0 : Int) (0 : Int))).r.b.length then bif !(↑(runQ rdP false markP (0 : Nat) (QS.mk (Rd.mk (gItems rdP false (Int.toNat (getP (List.drop (3 : Nat) b) (0 : Int) (1 : Int)).1 - (0 : Nat)) (Rd.mk c (List.drop (1 : Nat) (List.drop (3 : Nat) b)) false)).1.c (gItems rdP false (Int.toNat (getP (List.drop (3 : Nat) b) (0 : Int) (1 : Int)).1 - (0 : Nat)) (Rd.mk c (List.drop (1 : Nat) (List.drop (3 : Nat) b)) false)).1.b (gItems rdP false (Int.toNat (getP (List.drop (3 : Nat) b) (0 : Int) (1 : Int)).1 - (0 : Nat)) (Rd.mk c (List.drop (1 : Nat) (List.drop (3 : Nat) b)) false)).1.bad) [] [] [] (0 : Int) (0 : Int) (0 : Int))).r.b.length : Int) == (0 : Int) then some (D.tup (D.acons (D.acons (D.int .i64 (0 : Int)) (.acons (D.sl RTy.item true []) (.acons (D.acons (D.sl RTy.line true []) (.acons (D.sl RTy.line true []) (.acons (D.sl RTy.line true []) .anil))) (.acons (D.arr RTy.int (3 : Nat) (List.replicate (3 : Nat) (0 : Int))) .anil)))) (.acons (D.int .i64 (50 : Int)) .anil))) else bif Nat.beq ([] ++ Prod.snd (gItems rdP false (Int.toNat (getP (List.drop (3 : Nat) b) (0 : Int) (1 : Int)).1 - (0 : Nat)) (Rd.mk c (List.drop (1 : Nat) (List.drop (3 : Nat) b)) false))).length ([] ++ Prod.snd (gItems rdP false (Int.toNat (getP (List.drop (3 : Nat) b) (0 : Int) (1 : Int)).1 - (0 : Nat)) (Rd.mk c (List.drop (1 : Nat) (List.drop (3 : Nat) b)) false))).length then bif Nat.beq (runQ rdP false markP (0 : Nat) (QS.mk (Rd.mk (gItems rdP false (Int.toNat (getP (List.drop (3 : Nat) b) (0 : Int) (1 : Int)).1 - (0 : Nat)) (Rd.mk c (List.drop (1 : Nat) (List.drop (3 : Nat) b)) false)).1.c (gItems rdP false (Int.toNat (getP (List.drop (3 : Nat) b) (0 : Int) (1 : Int)).1 - (0 : Nat)) (Rd.mk c (List.drop (1 : Nat) (List.drop (3 : Nat) b)) false)).1.b (gItems rdP false (Int.toNat (getP (List.drop (3 : Nat) b) (0 : Int) (1 : Int)).1 - (0 : Nat)) (Rd.mk c (List.drop (1 : Nat) (List.drop (3 : Nat) b)) false)).1.bad) [] [] [] (0 : Int) (0 : Int) (0 : Int))).l0.length (runQ rdP false markP (0 : Nat) (QS.mk (Rd.mk (gItems rdP false (Int.toNat (getP (List.drop (3 : Nat) b) (0 : Int) (1 : Int)).1 - (0 : Nat)) (Rd.mk c (List.drop (1 : Nat) (List.drop (3 : Nat) b)) false)).1.c (gItems rdP false (Int.toNat (getP (List.drop (3 : Nat) b) (0 : Int) (1 : Int)).1 - (0 : Nat)) (Rd.mk c (List.drop (1 : Nat) (List.drop (3 : Nat) b)) false)).1.b (gItems rdP false (Int.toNat (getP (List.drop (3 : Nat) b) (0 : Int) (1 : Int)).1 - (0 : Nat)) (Rd.mk c (List.drop (1 : Nat) (List.drop (3 : Nat) b)) false)).1.bad) [] [] [] (0 : Int) (0 : Int) (0 : Int))).l0.length then bif Nat.beq (runQ rdP false markP (0 : Nat) (QS.mk (Rd.mk (gItems rdP false (Int.toNat (getP (List.drop (3 : Nat) b) (0 : Int) (1 : Int)).1 - (0 : Nat)) (Rd.mk c (List.drop (1 : Nat) (List.drop (3 : Nat) b)) false)).1.c (gItems rdP false (Int.toNat (getP (List.drop (3 : Nat) b) (0 : Int) (1 : Int)).1 - (0 : Nat)) (Rd.mk c (List.drop (1 : Nat) (List.drop (3 : Nat) b)) false)).1.b (gItems rdP false (Int.toNat (getP (List.drop (3 : Nat) b) (0 : Int) (1 : Int)).1 - (0 : Nat)) (Rd.mk c (List.drop (1 : Nat) (List.drop (3 : Nat) b)) false)).1.bad) [] [] [] (0 : Int) (0 : Int) (0 : Int))).l1.length (runQ rdP false markP (0 : Nat) (QS.mk (Rd.mk (gItems rdP false (Int.toNat (getP (List.drop (3 : Nat) b) (0 : Int) (1 : Int)).1 - (0 : Nat)) (Rd.mk c (List.drop (1 : Nat) (List.drop (3 : Nat) b)) false)).1.c (gItems rdP false (Int.toNat (getP (List.drop (3 : Nat) b) (0 : Int) (1 : Int)).1 - (0 : Nat)) (Rd.mk c (List.drop (1 : Nat) (List.drop (3 : Nat) b)) false)).1.b (gItems rdP false (Int.toNat (getP (List.drop (3 : Nat) b) (0 : Int) (1 : Int)).1 - (0 : Nat)) (Rd.mk c (List.drop (1 : Nat) (List.drop (3 : Nat) b)) false)).1.bad) [] [] [] (0 : Int) (0 : Int) (0 : Int))).l1.length then bif Nat.beq (runQ rdP false markP (0 : Nat) (QS.mk (Rd.mk (gItems rdP false (Int.toNat (getP (List.drop (3 : Nat) b) (0 : Int) (1 : Int)).1 - (0 : Nat)) (Rd.mk c (List.drop (1 : Nat) (List.drop (3 : Nat) b)) false)).1.c (gItems rdP false (Int.toNat (getP (List.drop (3 : Nat) b) (0 : Int) (1 : Int)).1 - (0 : Nat)) (Rd.mk c (List.drop (1 : Nat) (List.drop (3 : Nat) b)) false)).1.b (gItems rdP false (Int.toNat (getP (List.drop (3 : Nat) b) (0 : Int) (1 : Int)).1 - (0 : Nat)) (Rd.mk c (List.drop (1 : Nat) (List.drop (3 : Nat) b)) false)).1.bad) [] [] [] (0 : Int) (0 : Int) (0 : Int))).l2.length (runQ rdP false markP (0 : Nat) (QS.mk (Rd.mk (gItems rdP false (Int.toNat (getP (List.drop (3 : Nat) b) (0 : Int) (1 : Int)).1 - (0 : Nat)) (Rd.mk c (List.drop (1 : Nat) (List.drop (3 : Nat) b)) false)).1.c (gItems rdP false (Int.toNat (getP (List.drop (3 : Nat) b) (0 : Int) (1 : Int)).1 - (0 : Nat)) (Rd.mk c (List.drop (1 : Nat) (List.drop (3 : Nat) b)) false)).1.b (gItems rdP false (Int.toNat (getP (List.drop (3 : Nat) b) (0 : Int) (1 : Int)).1 - (0 : Nat)) (Rd.mk c (List.drop (1 : Nat) (List.drop (3 : Nat) b)) false)).1.bad) [] [] [] (0 : Int) (0 : Int) (0 : Int))).l2.length then bif decide (List.length ([] ++ Prod.snd (gItems rdP false (Int.toNat (getP (List.drop (3 : Nat) b) (0 : Int) (1 : Int)).1 - (0 : Nat)) (Rd.mk c (List.drop (1 : Nat) (List.drop (3 : Nat) b)) false))) ≤ (9223372036854775807 : Nat) ∧ List.length (runQ rdP false markP (0 : Nat) (QS.mk (Rd.mk (gItems rdP false (Int.toNat (getP (List.drop (3 : Nat) b) (0 : Int) (1 : Int)).1 - (0 : Nat)) (Rd.mk c (List.drop (1 : Nat) (List.drop (3 : Nat) b)) false)).1.c (gItems rdP false (Int.toNat (getP (List.drop (3 : Nat) b) (0 : Int) (1 : Int)).1 - (0 : Nat)) (Rd.mk c (List.drop (1 : Nat) (List.drop (3 : Nat) b)) false)).1.b (gItems rdP false (Int.toNat (getP (List.drop (3 : Nat) b) (0 : Int) (1 : Int)).1 - (0 : Nat)) (Rd.mk c (List.drop (1 : Nat) (List.drop (3 : Nat) b)) false)).1.bad) [] [] [] (0 : Int) (0 : Int) (0 : Int))).l0 ≤ (9223372036854775807 : Nat) ∧ List.length (runQ rdP false markP (0 : Nat) (QS.mk (Rd.mk (gItems rdP false (Int.toNat (getP (List.drop (3 : Nat) b) (0 : Int) (1 : Int)).1 - (0 : Nat)) (Rd.mk c (List.drop (1 : Nat) (List.drop (3 : Nat) b)) false)).1.c (gItems rdP false (Int.toNat (getP (List.drop (3 : Nat) b) (0 : Int) (1 : Int)).1 - (0 : Nat)) (Rd.mk c (List.drop (1 : Nat) (List.drop (3 : Nat) b)) false)).1.b (gItems rdP false (Int.toNat (getP (List.drop (3 : Nat) b) (0 : Int) (1 : Int)).1 - (0 : Nat)) (Rd.mk c (List.drop (1 : Nat) (List.drop (3 : Nat) b)) false)).1.bad) [] [] [] (0 : Int) (0 : Int) (0 : Int))).l1 ≤ (9223372036854775807 : Nat) ∧ List.length (runQ rdP false markP (0 : Nat) (QS.mk (Rd.mk (gItems rdP false (Int.toNat (getP (List.drop (3 : Nat) b) (0 : Int) (1 : Int)).1 - (0 : Nat)) (Rd.mk c (List.drop (1 : Nat) (List.drop (3 : Nat) b)) false)).1.c (gItems rdP false (Int.toNat (getP (List.drop (3 : Nat) b) (0 : Int) (1 : Int)).1 - (0 : Nat)) (Rd.mk c (List.drop (1 : Nat) (List.drop (3 : Nat) b)) false)).1.b (gItems rdP false (Int.toNat (getP (List.drop (3 : Nat) b) (0 : Int) (1 : Int)).1 - (0 : Nat)) (Rd.mk c (List.drop (1 : Nat) (List.drop (3 : Nat) b)) false)).1.bad) [] [] [] (0 : Int) (0 : Int) (0 : Int))).l2 ≤ (9223372036854775807 : Nat)) then bif !standsOK (St.mk (getP b (0 : Int) (3 : Int)).1 ([] ++ Prod.snd (gItems rdP false (Int.toNat (getP (List.drop (3 : Nat) b) (0 : Int) (1 : Int)).1 - (0 : Nat)) (Rd.mk c (List.drop (1 : Nat) (List.drop (3 : Nat) b)) false))) (runQ rdP false markP (0 : Nat) (QS.mk (Rd.mk (gItems rdP false (Int.toNat (getP (List.drop (3 : Nat) b) (0 : Int) (1 : Int)).1 - (0 : Nat)) (Rd.mk c (List.drop (1 : Nat) (List.drop (3 : Nat) b)) false)).1.c (gItems rdP false (Int.toNat (getP (List.drop (3 : Nat) b) (0 : Int) (1 : Int)).1 - (0 : Nat)) (Rd.mk c (List.drop (1 : Nat) (List.drop (3 : Nat) b)) false)).1.b (gItems rdP false (Int.toNat (getP (List.drop (3 : Nat) b) (0 : Int) (1 : Int)).1 - (0 : Nat)) (Rd.mk c (List.drop (1 : Nat) (List.drop (3 : Nat) b)) false)).1.bad) [] [] [] (0 : Int) (0 : Int) (0 : Int))).l0 (runQ rdP false markP (0 : Nat) (QS.mk (Rd.mk (gItems rdP false (Int.toNat (getP (List.drop (3 : Nat) b) (0 : Int) (1 : Int)).1 - (0 : Nat)) (Rd.mk c (List.drop (1 : Nat) (List.drop (3 : Nat) b)) false)).1.c (gItems rdP false (Int.toNat (getP (List.drop (3 : Nat) b) (0 : Int) (1 : Int)).1 - (0 : Nat)) (Rd.mk c (List.drop (1 : Nat) (List.drop (3 : Nat) b)) false)).1.b (gItems rdP false (Int.toNat (getP (List.drop (3 : Nat) b) (0 : Int) (1 : Int)).1 - (0 : Nat)) (Rd.mk c (List.drop (1 : Nat) (List.drop (3 : Nat) b)) false)).1.bad) [] [] [] (0 : Int) (0 : Int) (0 : Int))).l1 (runQ rdP false markP (0 : Nat) (QS.mk (Rd.mk (gItems rdP false (Int.toNat (getP (List.drop (3 : Nat) b) (0 : Int) (1 : Int)).1 - (0 : Nat)) (Rd.mk c (List.drop (1 : Nat) (List.drop (3 : Nat) b)) false)).1.c (gItems rdP false (Int.toNat (getP (List.drop (3 : Nat) b) (0 : Int) (1 : Int)).1 - (0 : Nat)) (Rd.mk c (List.drop (1 : Nat) (List.drop (3 : Nat) b)) false)).1.b (gItems rdP false (Int.toNat (getP (List.drop (3 : Nat) b) (0 : Int) (1 : Int)).1 - (0 : Nat)) (Rd.mk c (List.drop (1 : Nat) (List.drop (3 : Nat) b)) false)).1.bad) [] [] [] (0 : Int) (0 : Int) (0 : Int))).l2 (runQ rdP false markP (0 : Nat) (QS.mk (Rd.mk (gItems rdP false (Int.toNat (getP (List.drop (3 : Nat) b) (0 : Int) (1 : Int)).1 - (0 : Nat)) (Rd.mk c (List.drop (1 : Nat) (List.drop (3 : Nat) b)) false)).1.c (gItems rdP false (Int.toNat (getP (List.drop (3 : Nat) b) (0 : Int) (1 : Int)).1 - (0 : Nat)) (Rd.mk c (List.drop (1 : Nat) (List.drop (3 : Nat) b)) false)).1.b (gItems rdP false (Int.toNat (getP (List.drop (3 : Nat) b) (0 : Int) (1 : Int)).1 - (0 : Nat)) (Rd.mk c (List.drop (1 : Nat) (List.drop (3 : Nat) b)) false)).1.bad) [] [] [] (0 : Int) (0 : Int) (0 : Int))).c0 (runQ rdP false markP (0 : Nat) (QS.mk (Rd.mk (gItems rdP false (Int.toNat (getP (List.drop (3 : Nat) b) (0 : Int) (1 : Int)).1 - (0 : Nat)) (Rd.mk c (List.drop (1 : Nat) (List.drop (3 : Nat) b)) false)).1.c (gItems rdP false (Int.toNat (getP (List.drop (3 : Nat) b) (0 : Int) (1 : Int)).1 - (0 : Nat)) (Rd.mk c (List.drop (1 : Nat) (List.drop (3 : Nat) b)) false)).1.b (gItems rdP false (Int.toNat (getP (List.drop (3 : Nat) b) (0 : Int) (1 : Int)).1 - (0 : Nat)) (Rd.mk c (List.drop (1 : Nat) (List.drop (3 : Nat) b)) false)).1.bad) [] [] [] (0 : Int) (0 : Int) (0 : Int))).c1 (runQ rdP false markP (0 : Nat) (QS.mk (Rd.mk (gItems rdP false (Int.toNat (getP (List.drop (3 : Nat) b) (0 : Int) (1 : Int)).1 - (0 : Nat)) (Rd.mk c (List.drop (1 : Nat) (List.drop (3 : Nat) b)) false)).1.c (gItems rdP false (Int.toNat (getP (List.drop (3 : Nat) b) (0 : Int) (1 : Int)).1 - (0 : Nat)) (Rd.mk c (List.drop (1 : Nat) (List.drop (3 : Nat) b)) false)).1.b (gItems rdP false (Int.toNat (getP (List.drop (3 : Nat) b) (0 : Int) (1 : Int)).1 - (0 : Nat)) (Rd.mk c (List.drop (1 : Nat) (List.drop (3 : Nat) b)) false)).1.bad) [] [] [] (0 : Int) (0 : Int) (0 : Int))).c2) then some (D.tup (D.acons (D.acons (D.int .i64 (0 : Int)) (.acons (D.sl RTy.item true []) (.acons (D.acons (D.sl RTy.line true []) (.acons (D.sl RTy.line true []) (.acons (D.sl RTy.line true []) .anil))) (.acons (D.arr RTy.int (3 : Nat) (List.replicate (3 : Nat) (0 : Int))) .anil)))) (.acons (D.int .i64 (50 : Int)) .anil))) else some (D.tup (D.acons (D.acons (D.int .i64 (getP b (0 : Int) (3 : Int)).1) (.acons (D.sl RTy.item false ([] ++ Prod.snd (gItems rdP false (Int.toNat (getP (List.drop (3 : Nat) b) (0 : Int) (1 : Int)).1 - (0 : Nat)) (Rd.mk c (List.drop (1 : Nat) (List.drop (3 : Nat) b)) false)))) (.acons (D.acons (D.sl RTy.line false (runQ rdP false markP (0 : Nat) (QS.mk (Rd.mk (gItems rdP false (Int.toNat (getP (List.drop (3 : Nat) b) (0 : Int) (1 : Int)).1 - (0 : Nat)) (Rd.mk c (List.drop (1 : Nat) (List.drop (3 : Nat) b)) false)).1.c (gItems rdP false (Int.toNat (getP (List.drop (3 : Nat) b) (0 : Int) (1 : Int)).1 - (0 : Nat)) (Rd.mk c (List.drop (1 : Nat) (List.drop (3 : Nat) b)) false)).1.b (gItems rdP false (Int.toNat (getP (List.drop (3 : Nat) b) (0 : Int) (1 : Int)).1 - (0 : Nat)) (Rd.mk c (List.drop (1 : Nat) (List.drop (3 : Nat) b)) false)).1.bad) [] [] [] (0 : Int) (0 : Int) (0 : Int))).l0) (.acons (D.sl RTy.line false (runQ rdP false markP (0 : Nat) (QS.mk (Rd.mk (gItems rdP false (Int.toNat (getP (List.drop (3 : Nat) b) (0 : Int) (1 : Int)).1 - (0 : Nat)) (Rd.mk c (List.drop (1 : Nat) (List.drop (3 : Nat) b)) false)).1.c (gItems rdP false (Int.toNat (getP (List.drop (3 : Nat) b) (0 : Int) (1 : Int)).1 - (0 : Nat)) (Rd.mk c (List.drop (1 : Nat) (List.drop (3 : Nat) b)) false)).1.b (gItems rdP false (Int.toNat (getP (List.drop (3 : Nat) b) (0 : Int) (1 : Int)).1 - (0 : Nat)) (Rd.mk c (List.drop (1 : Nat) (List.drop (3 : Nat) b)) false)).1.bad) [] [] [] (0 : Int) (0 : Int) (0 : Int))).l1) (.acons (D.sl RTy.line false (runQ rdP false markP (0 : Nat) (QS.mk (Rd.mk (gItems rdP false (Int.toNat (getP (List.drop (3 : Nat) b) (0 : Int) (1 : Int)).1 - (0 : Nat)) (Rd.mk c (List.drop (1 : Nat) (List.drop (3 : Nat) b)) false)).1.c (gItems rdP false (Int.toNat (getP (List.drop (3 : Nat) b) (0 : Int) (1 : Int)).1 - (0 : Nat)) (Rd.mk c (List.drop (1 : Nat) (List.drop (3 : Nat) b)) false)).1.b (gItems rdP false (Int.toNat (getP (List.drop (3 : Nat) b) (0 : Int) (1 : Int)).1 - (0 : Nat)) (Rd.mk c (List.drop (1 : Nat) (List.drop (3 : Nat) b)) false)).1.bad) [] [] [] (0 : Int) (0 : Int) (0 : Int))).l2) .anil))) (.acons (D.arr RTy.int (3 : Nat) [QS.c0 (runQ rdP false markP (0 : Nat) (QS.mk (Rd.mk (gItems rdP false (Int.toNat (getP (List.drop (3 : Nat) b) (0 : Int) (1 : Int)).1 - (0 : Nat)) (Rd.mk c (List.drop (1 : Nat) (List.drop (3 : Nat) b)) false)).1.c (gItems rdP false (Int.toNat (getP (List.drop (3 : Nat) b) (0 : Int) (1 : Int)).1 - (0 : Nat)) (Rd.mk c (List.drop (1 : Nat) (List.drop (3 : Nat) b)) false)).1.b (gItems rdP false (Int.toNat (getP (List.drop (3 : Nat) b) (0 : Int) (1 : Int)).1 - (0 : Nat)) (Rd.mk c (List.drop (1 : Nat) (List.drop (3 : Nat) b)) false)).1.bad) [] [] [] (0 : Int) (0 : Int) (0 : Int))), QS.c1 (runQ rdP false markP (0 : Nat) (QS.mk (Rd.mk (gItems rdP false (Int.toNat (getP (List.drop (3 : Nat) b) (0 : Int) (1 : Int)).1 - (0 : Nat)) (Rd.mk c (List.drop (1 : Nat) (List.drop (3 : Nat) b)) false)).1.c (gItems rdP false (Int.toNat (getP (List.drop (3 : Nat) b) (0 : Int) (1 : Int)).1 - (0 : Nat)) (Rd.mk c (List.drop (1 : Nat) (List.drop (3 : Nat) b)) false)).1.b (gItems rdP false (Int.toNat (getP (List.drop (3 : Nat) b) (0 : Int) (1 : Int)).1 - (0 : Nat)) (Rd.mk c (List.drop (1 : Nat) (List.drop (3 : Nat) b)) false)).1.bad) [] [] [] (0 : Int) (0 : Int) (0 : Int))), QS.c2 (runQ rdP false markP (0 : Nat) (QS.mk (Rd.mk (gItems rdP false (Int.toNat (getP (List.drop (3 : Nat) b) (0 : Int) (1 : Int)).1 - (0 : Nat)) (Rd.mk c (List.drop (1 : Nat) (List.drop (3 : Nat) b)) false)).1.c (gItems rdP false (Int.toNat (getP (List.drop (3 : Nat) b) (0 : Int) (1 : Int)).1 - (0 : Nat)) (Rd.mk c (List.drop (1 : Nat) (List.drop (3 : Nat) b)) false)).1.b (gItems rdP false (Int.toNat (getP (List.drop (3 : Nat) b) (0 : Int) (1 : Int)).1 - (0 : Nat)) (Rd.mk c (List.drop (1 : Nat) (List.drop (3 : Nat) b)) false)).1.bad) [] [] [] (0 : Int) (0 : Int) (0 : Int)))]) .anil)))) (.acons (D.int .i64 (0 : Int)) .anil))) else none else none else none else none else none else none else some (D.tup (D.acons (D.acons (D.int .i64 (0 : Int)) (.acons (D.sl RTy.item true []) (.acons (D.acons (D.sl RTy.line true []) (.acons (D.sl RTy.line true []) (.acons (D.sl RTy.line true []) .anil))) (.acons (D.arr RTy.int (3 : Nat) (List.replicate (3 : Nat) (0 : Int))) .anil)))) (.acons (D.int .i64 (50 : Int)) .anil))) else none else none else none else none else none else none) := by kernel_rfl
theorem readSP_ok (c : Bool) (b : List UInt8) (h : (decide (b.length ≤ 1000000)) = true) : readSP_e c b = some (.tup (.acons (.acons (.int .i64 (stG (readS b)).place) (.acons (.sl (C := RC) .item (readS b).isNone (stG (readS b)).items) (.acons (.acons (.sl (C := RC) .line (readS b).isNone (stG (readS b)).l0) (.acons (.sl (C := RC) .line (readS b).isNone (stG (readS b)).l1) (.acons (.sl (C := RC) .line (readS b).isNone (stG (readS b)).l2) .anil))) (.acons (.arr (C := RC) .int 3 [(stG (readS b)).c0, (stG (readS b)).c1, (stG (readS b)).c2]) .anil)))) (.acons (.int .i64 (bif (readS b).isNone then 50 else 0)) .anil))) := by
  rw [readSP_eq]
  have hl := of_decide_eq_true h
  have e0 : decide (b.length ≤ 1000000000000) = true := decide_eq_true (by omega)
  have t1 : Int.toNat 1 = 1 := rfl
  have t3 : Int.toNat 3 = 3 := rfl
  have eb : ∀ n : Nat, n.beq n = true := fun n => by simp
  have no : readS b = none → some (D.tup (D.acons (D.acons (D.int IntKind.i64 0) (D.acons (D.sl (C := RC) RTy.item true []) (D.acons (D.acons (D.sl (C := RC) RTy.line true []) (D.acons (D.sl (C := RC) RTy.line true []) (D.acons (D.sl (C := RC) RTy.line true []) D.anil))) (D.acons (D.arr (C := RC) RTy.int 3 (List.replicate 3 0)) D.anil)))) (D.acons (D.int IntKind.i64 50) D.anil))) = some (.tup (.acons (.acons (.int .i64 (stG (readS b)).place) (.acons (.sl (C := RC) .item (readS b).isNone (stG (readS b)).items) (.acons (.acons (.sl (C := RC) .line (readS b).isNone (stG (readS b)).l0) (.acons (.sl (C := RC) .line (readS b).isNone (stG (readS b)).l1) (.acons (.sl (C := RC) .line (readS b).isNone (stG (readS b)).l2) .anil))) (.acons (.arr (C := RC) .int 3 [(stG (readS b)).c0, (stG (readS b)).c1, (stG (readS b)).c2]) .anil)))) (.acons (.int .i64 (bif (readS b).isNone then 50 else 0)) .anil))) := fun e => by rw [e]; rfl
  simp only [e0, cond_true, getP_snd1, getP_snd3, t1, t3]
  by_cases q0 : b.length < 3
  · simp only [q0, decide_true, cond_true]
    exact no (by have : ¬ 3 ≤ b.length := by omega
                 simp [readS, sget, this])
  have r0 : rget 3 ⟨c, b, false⟩ = _ := rget_ok (show 3 ≤ b.length by omega)
  have d0 : decide ((0 : Int) ≤ 3 ∧ (3 : Int) ≤ b.length) = true := by simp only [decide_eq_true_eq]; omega
  have e1 : decide ((b.drop 3).length ≤ 1000000000000) = true := decide_eq_true (by simp; omega)
  simp only [q0, decide_false, cond_false, d0, cond_true, e1, getP_fst3 q0]
  by_cases q1 : (b.drop 3).length < 1
  · simp only [q1, decide_true, cond_true]
    exact no (by have h3 : 3 ≤ b.length := by omega
                 have : ¬ 1 ≤ (b.drop 3).length := by omega
                 simp only [readS, sget, h3, if_true, Option.bind_some, this, if_false, Option.bind_none])
  have r1 : rget 1 ⟨c, b.drop 3, false⟩ = _ := rget_ok (show 1 ≤ (b.drop 3).length by omega)
  have d1 : decide ((0 : Int) ≤ 1 ∧ (1 : Int) ≤ (b.drop 3).length) = true := by simp only [decide_eq_true_eq]; omega
  simp only [q1, decide_false, cond_false, d1, cond_true, getP_fst1 q1]
  have rK := gState_read rdP_ok false markP (fun _ => rfl) ⟨c, b, false⟩ rfl
  rw [gState_of r0 r1] at rK
  change readS b = _ at rK
  have n1 := leVal_le (b.drop 3) 1
  simp only [Nat.reducePow] at n1
  have bl : ((b.drop 3).drop 1).length ≤ 1000000 := by simp; omega
  generalize leVal ((b.drop 3).take 1) = n at n1 rK ⊢
  have ck : decide ((0 : Int) ≤ n ∧ (n : Int) ≤ 255 ∧ ((b.drop 3).drop 1).length ≤ 1000000 ∧ True) = true := decide_eq_true ⟨by omega, by omega, bl, trivial⟩
  have tn : (n : Int).toNat - 0 = n := by omega
  have tn' : (n : Int).toNat = n := by omega
  simp only [ck, tn, tn', cond_true, List.nil_append] at rK ⊢
  have gb := gItems_blen n ⟨c, (b.drop 3).drop 1, false⟩
  have gl := gItems_len rdP false n ⟨c, (b.drop 3).drop 1, false⟩
  generalize gItems rdP false n ⟨c, (b.drop 3).drop 1, false⟩ = IT at gb gl rK ⊢
  obtain ⟨⟨c', b', bad'⟩, its⟩ := IT
  simp only at gb gl rK ⊢
  have qb := runQ0_bounds ⟨c', b', bad'⟩
  generalize runQ rdP false markP 0 ⟨⟨c', b', bad'⟩, [], [], [], 0, 0, 0⟩ = Q at qb rK ⊢
  obtain ⟨⟨qc, qq, qbad⟩, a0, a1, a2, x0, x1, x2⟩ := Q
  simp only [rdP] at qb rK ⊢
  obtain ⟨b0, b1, b2, b3⟩ := qb
  have k1 : lenOK qq.length = true := lenOK_of (by omega)
  have m1 : decide (b'.length ≤ 1000000 ∧ True ∧ True ∧ True) = true := decide_eq_true ⟨by omega, trivial, trivial, trivial⟩
  have m2 : decide (its.length ≤ 9223372036854775807 ∧ a0.length ≤ 9223372036854775807 ∧ a1.length ≤ 9223372036854775807 ∧ a2.length ≤ 9223372036854775807) = true := by simp only [decide_eq_true_eq]; omega
  simp only [k1, m1, m2, eb, decide_true, Bool.and_self, Bool.and_true, Bool.true_and, cond_true]
  cases qbad
  · simp only [Bool.not_false, cond_true]
    by_cases hz : qq = []
    · subst hz
      cases hs : standsOK ⟨(leVal (b.take 3) : Int), its, a0, a1, a2, x0, x1, x2⟩
      · rw [hs] at rK
        exact no (by rw [rK]; simp)
      · rw [hs] at rK
        have : readS b = some ⟨(leVal (b.take 3) : Int), its, a0, a1, a2, x0, x1, x2⟩ := by rw [rK]; simp
        rw [this]
        rfl
    · have hz' : ((qq.length : Int) == 0) = false := by
        simp only [beq_eq_false_iff_ne]; cases qq with
        | nil => exact (hz rfl).elim
        | cons _ _ => simp; omega
      simp only [hz', Bool.not_false, cond_true]
      exact no (by rw [rK]; simp [hz])
  · simp only [Bool.not_true, cond_false]
    exact no (by rw [rK]; simp)
noncomputable def uo_1 := un_1.addSpec 32 readSP_sp
theorem uo_1_laws : FLaws Try.prog s07 uo_1 := un_1_laws.addEv s07_laws fun args d h => by
  unfold readSP_sp at h
  split at h
  · unfold readSP_s at h
    have h1 := congrArg Prod.fst (Option.some.inj h)
    obtain rfl : _ = d := congrArg Prod.snd (Option.some.inj h)
    exact ⟨by simp [D.refs], 60, readSP_ok _ _ h1⟩
  · cases h
theorem u32_nat (n : Int) : (BitVec.ofInt IntKind.u32.bits n).toNat = (n % 4294967296).toNat := by
  rw [BitVec.toNat_ofInt]
  simp only [IntKind.bits]
  congr 1
theorem u32_wrap (n : Int) : IntKind.u32.wrap n = n % 4294967296 := by
  simp [IntKind.wrap, IntKind.bits, IntKind.signed]
def xor32 (a b : Int) : Int := bits .u32 (fun _ u v => u ^^^ v) a b
theorem xor32_range (a b : Int) : 0 ≤ xor32 a b ∧ xor32 a b < 4294967296 := by
  unfold xor32 bits
  rw [u32_wrap]; omega
def crcS (n : Int) : Int := if n % 2 = 1 then xor32 (n / 2) 3988292384 else n / 2
theorem crcS_range {n : Int} (h : 0 ≤ n ∧ n < 4294967296) : 0 ≤ crcS n ∧ crcS n < 4294967296 := by
  unfold crcS
  split
  · exact xor32_range _ _
  · omega
theorem and1 {n : Int} (h : 0 ≤ n ∧ n < 4294967296) : bits .u32 (fun _ u v => u &&& v) n 1 = n % 2 := by
  unfold bits
  rw [BitVec.toNat_and, u32_nat, u32_nat]
  have e : ((1 : Int) % 4294967296).toNat = 2 ^ 1 - 1 := by decide
  rw [e, Nat.and_two_pow_sub_one_eq_mod, u32_wrap]
  omega
theorem xor32_zero {n : Int} (h : 0 ≤ n ∧ n < 4294967296) : xor32 n 0 = n := by
  unfold xor32 bits
  rw [BitVec.toNat_xor, u32_nat, u32_nat]
  have e : ((0 : Int) % 4294967296).toNat = 0 := by decide
  rw [e, Nat.xor_zero, u32_wrap]
  omega
theorem half {n : Int} (h : 0 ≤ n) : n.fdiv 2 = n / 2 := Int.fdiv_eq_ediv_of_nonneg _ (by omega)
def iterS : Nat → Int → Int
  | 0, n => n
  | k + 1, n => iterS k (crcS n)
def crc8 (n : Int) : Int := iterS 8 n
def crcOn (n : Int) (l : List UInt8) : Int := l.foldl (fun n c => crc8 (xor32 n (c.toNat : Int))) n
theorem crcOn_cons (n : Int) (c : UInt8) (l : List UInt8) : crcOn n (c :: l) = crcOn (crc8 (xor32 n (c.toNat : Int))) l := by
  simp only [crcOn, List.foldl_cons]
theorem crcOn_nil (n : Int) : crcOn n [] = n := by simp only [crcOn, List.foldl_nil]
def crcOf (l : List UInt8) : Int := xor32 4294967295 (crcOn 4294967295 l)
def sealL (b : List UInt8) : List UInt8 := b ++ leB (crcOf b) 4
theorem sealL_len (b : List UInt8) : (sealL b).length = b.length + 4 := by simp [sealL, leB_length]
def openL (b : List UInt8) : Option (List UInt8) := if 4 ≤ b.length ∧ sealL (b.take (b.length - 4)) = b then some (b.take (b.length - 4)) else none
theorem openL_len {b x : List UInt8} (h : openL b = some x) : b.length = x.length + 4 := by
  unfold openL at h
  split at h
  · rename_i q; cases h; simp; omega
  · cases h
theorem openL_test (b : List UInt8) (h : 4 ≤ b.length) : (sealL (b.take (b.length - 4))).drop (b.length - 4) = b.drop (b.length - 4) ↔ sealL (b.take (b.length - 4)) = b := by
  have e : ((b.take (b.length - 4))).length = b.length - 4 := by simp
  have e2 : (sealL (b.take (b.length - 4))).drop (b.length - 4) = leB (crcOf (b.take (b.length - 4))) 4 := by
    unfold sealL
    rw [List.drop_left' e]
  rw [e2]
  constructor
  · intro q
    unfold sealL
    rw [q, List.take_append_drop]
  · intro q
    have := congrArg (List.drop (b.length - 4)) q
    rw [← e2]; exact this
def okF (n : Int) (load : List UInt8) : Bool := decide (1 ≤ n) && decide (n ≤ 1048575) && decide (load.length ≤ 600)
def frameB (n : Int) (load : List UInt8) : List UInt8 := sealL (leB n 6 ++ leB load.length 2 ++ load)
def readF (b : List UInt8) : Option (Int × List UInt8) := match openL b with
  | none => none
  | some x => if 8 ≤ x.length ∧ leVal ((x.drop 6).take 2) + 8 = x.length ∧ x.length ≤ 608 ∧ 1 ≤ leVal (x.take 6) ∧ leVal (x.take 6) ≤ 1048575 then some ((leVal (x.take 6) : Int), x.drop 8) else none
theorem frameB_len (n : Int) (load : List UInt8) : (frameB n load).length = load.length + 12 := by
  simp [frameB, sealL_len, leB_length]; omega
theorem readF_ok {b : List UInt8} {n : Int} {load : List UInt8} (h : readF b = some (n, load)) : okF n load = true ∧ frameB n load = b := by
  unfold readF at h
  cases hx : openL b with
  | none => simp [hx] at h
  | some x =>
    simp only [hx] at h
    split at h
    · rename_i q
      obtain ⟨q1, q2, q3, q4, q5⟩ := q
      simp only [Option.some.injEq, Prod.mk.injEq] at h
      obtain ⟨rfl, rfl⟩ := h
      refine ⟨by simp only [okF, Bool.and_eq_true, decide_eq_true_eq, List.length_drop]; omega, ?_⟩
      have e6 : leB (leVal (x.take 6) : Int) 6 = x.take 6 := by
        have := leB_leVal (x.take 6)
        rw [List.length_take, Nat.min_eq_left (by omega)] at this; exact this
      have e2 : leB ((x.drop 8).length : Int) 2 = (x.drop 6).take 2 := by
        have := leB_leVal ((x.drop 6).take 2)
        rw [List.length_take, List.length_drop, Nat.min_eq_left (by omega)] at this
        rw [List.length_drop, show x.length - 8 = leVal ((x.drop 6).take 2) by omega]; exact this
      unfold frameB
      rw [e6, e2, List.append_assoc, show x.drop 8 = (x.drop 6).drop 2 by rw [List.drop_drop], List.take_append_drop, List.take_append_drop]
      unfold openL at hx
      split at hx
      · rename_i q; cases hx; exact q.2
      · cases hx
    · cases h
noncomputable def rng (n : Int) : Bool := @decide (0 ≤ n ∧ n < 4294967296) (Classical.propDecidable _)
theorem rng_iff {n : Int} : rng n = true ↔ 0 ≤ n ∧ n < 4294967296 := by unfold rng; exact @decide_eq_true_iff _ (Classical.propDecidable _)
theorem rng_x (a b : Int) : rng (xor32 a b) = true := rng_iff.2 (xor32_range a b)
theorem rng_s {n : Int} (h : rng n = true) : rng (crcS n) = true := rng_iff.2 (crcS_range (rng_iff.1 h))
theorem u8_u32 (c : UInt8) : IntKind.u32.wrap (c.toNat : Int) = (c.toNat : Int) := by
  have := c.toNat_lt
  rw [u32_wrap]; omega
theorem crcOn_step (b : List UInt8) (i : Nat) (n : Int) (h : i < b.length) (d : UInt8) : crcOn n (b.drop i) = crcOn (crc8 (xor32 n ((b.getD i d).toNat : Int))) (b.drop (i + 1)) := by
  have e : b.getD i d = b[i] := by simp [h]
  have e2 : b.drop i = b[i] :: b.drop (i + 1) := List.drop_eq_getElem_cons h
  rw [e2, e]
  exact crcOn_cons _ _ _
theorem byteOf_wrap (n : Int) : UInt8.ofNat (IntKind.u8.wrap n).toNat = byteOf n := rfl
theorem cond_of {α : Type} {c : Bool} {x y z : α} (h : c = true) (h2 : x = z) : cond c x y = z := by rw [h]; exact h2
theorem cond_no {α : Type} {c : Bool} {x y z : α} (h : c = false) (h2 : y = z) : cond c x y = z := by rw [h]; exact h2
theorem cond_two {α : Type} {c : Bool} {x y z : α} (h1 : c = true → x = z) (h2 : c = false → y = z) : cond c x y = z := by cases c; exact h2 rfl; exact h1 rfl
open Go.Proofs
noncomputable def stepP_s (n : Int) : Option (Bool × D RC) := some (rng n, .int .u32 (crcS n))
noncomputable def stepP_sp : List (D RC) → Option (Bool × D RC)
  | [.int .u32 n] => stepP_s n
  | _ => none
noncomputable def stepP_e (n : Int) := evF s07 uo_1 40 83 [.int .u32 n]
theorem stepP_eq (n : Int) : stepP_e n = (some (D.int IntKind.u32 (bits IntKind.u32 (fun (x : Nat) (u v : BitVec x) => u ^^^ v) (Int.fdiv n (2 : Int)) (IntKind.wrap IntKind.u32 (bits IntKind.u32 (fun (x : Nat) (u v : BitVec x) => u &&& v) n (1 : Int) * (3988292384 : Int)))))) := by kernel_rfl
theorem stepP_ok (n : Int) (h : (rng n) = true) : stepP_e n = some (.int .u32 (crcS n)) := by
  rw [stepP_eq]
  have hr := rng_iff.1 h
  rw [and1 hr, half hr.1]
  congr 2
  unfold crcS
  split
  · rename_i e
    rw [e, u32_wrap]; rfl
  · rename_i e
    have e0 : n % 2 = 0 := by omega
    rw [e0, u32_wrap]
    exact xor32_zero (by omega)
noncomputable def ut_1 := uo_1.addSpec 83 stepP_sp
theorem ut_1_laws : FLaws Try.prog s07 ut_1 := uo_1_laws.addEv s07_laws fun args d h => by
  unfold stepP_sp at h
  split at h
  · unfold stepP_s at h
    have h1 := congrArg Prod.fst (Option.some.inj h)
    obtain rfl : _ = d := congrArg Prod.snd (Option.some.inj h)
    exact ⟨by simp [D.refs], 40, stepP_ok _ h1⟩
  · cases h
structure on8P_St where
  n : Int
  i : Nat
def on8P_c (n : Int) (i : Nat) : Env RC := [(0, .int .u32 n), (17, .int .i64 (i : Int))]
def on8P_o (n : Int) (i : Nat) : List (Obj RC) := []
noncomputable def on8P_r (n : Int) (i : Nat) := rndO s07 ut_1 81 6 60 0 [0, 17] [0] [] (on8P_c n i) (on8P_o n i)
theorem on8P_eq (n : Int) (i : Nat) : on8P_r n i = (bif decide ((↑i : Int) < (8 : Int)) then bif rng n then some ((X.normal, [((0 : Nat), D.int IntKind.u32 (crcS n)), ((17 : Nat), D.int .i64 (IntKind.wrap .i64 ((↑i : Int) + (1 : Int))))]), []) else none else some ((X.exit (2 : Nat), [((0 : Nat), D.int IntKind.u32 n)]), [])) := by kernel_rfl
noncomputable def on8P_fin (n : Int) (i : Nat) : RT RC := .leaf (.exit 2) [(0, .int .u32 (iterS (8 - i) n))] []
def on8P_Inv (n : Int) (i : Nat) : Prop := i ≤ 8 ∧ rng n = true
noncomputable def on8P_S : LoopR RC on8P_St where
  k := 0
  canon q := on8P_c q.n q.i
  objs q := on8P_o q.n q.i
  fin q := on8P_fin q.n q.i
  Inv q := on8P_Inv q.n q.i
  μ q := 8 - q.i
theorem on8P_round (n : Int) (i : Nat) (hI : on8P_Inv n i) : Leaf (on8P_r n i) (LedR on8P_S ⟨n, i⟩) := by
  rw [on8P_eq]
  unfold on8P_Inv at hI
  obtain ⟨h1, h2⟩ := hI
  by_cases hlt : i < 8
  · have c1 : decide ((i : Int) < 8) = true := by simp; omega
    have w_succ : IntKind.i64.wrap ((i : Int) + 1) = ((i + 1 : Nat) : Int) := by rw [wrap_id (by omega) (by omega)]; simp
    rw [c1, h2, w_succ]
    refine leafR_go ⟨crcS n, i + 1⟩ ⟨hlt, rng_s h2⟩ (by simp only [on8P_S]; omega) ?_ rfl rfl
    simp only [on8P_S, on8P_fin, show 8 - i = (8 - (i + 1)) + 1 by omega, iterS]
  · have hi : i = 8 := by omega
    have c1 : decide ((i : Int) < 8) = false := by simp; omega
    rw [c1]
    exact leafR_exit [] (by simp only [on8P_S, on8P_fin, hi, Nat.sub_self, iterS, RT.val]) rfl
noncomputable def on8P_d (env : Env RC) (os : List (Obj RC)) : Option (Bool × on8P_St) := match env, os with
  | [(0, .int .u32 n), (17, .int .i64 x0)], [] => staticD (true) (decide (x0 = 0) && rng n, ⟨n, 0⟩)
  | _, _ => none
noncomputable def ut_2 := ut_1.addLoop 81 6 (sumR s07 [] [0, 17] on8P_S on8P_d)
theorem ut_2_laws : FLaws Try.prog s07 ut_2 := by
  refine ut_1_laws.addRoundsR s07_laws (by kernel_rfl) on8P_S 60 [0, 17] [0] [] [0, 17] on8P_d (fun q hI => ?_) ?_
  · obtain ⟨n, i⟩ := q
    refine ⟨?_, ?_, on8P_round n i hI⟩
    · simp_all [RefsOK, on8P_S, on8P_c, on8P_o, on8P_Inv, D.refs, Obj.refs, rEnc]
    · simp_all [on8P_S, on8P_fin, on8P_o, on8P_Inv, RT.refsOK, RefsOK, D.refs, Obj.refs, rEnc]
  · intro env os b q hd_ hb
    unfold on8P_d at hd_
    split at hd_
    · obtain ⟨hs, hd_⟩ := staticD_some hd_
      cases hd_
      simp only [Bool.and_eq_true, decide_eq_true_eq] at hb
      obtain ⟨rfl, h⟩ := hb
      exact ⟨⟨Nat.zero_le _, h⟩, rfl, rfl⟩
    · cases hd_
structure onPl_St where
  n : Int
  c : Bool
  b : List UInt8
  i : Nat
def onPl_c (n : Int) (c : Bool) (b : List UInt8) (i : Nat) : Env RC := [(0, .int .u32 n), (7, .sl (C := RC) .u8 c b), (8, .int .i64 (b.length)), (9, .int .i64 (i : Int))]
def onPl_o (n : Int) (c : Bool) (b : List UInt8) (i : Nat) : List (Obj RC) := []
noncomputable def onPl_r (n : Int) (c : Bool) (b : List UInt8) (i : Nat) := rndO s07 ut_2 81 2 60 0 [0, 7, 8, 9] [0] [] (onPl_c n c b i) (onPl_o n c b i)
theorem onPl_eq (n : Int) (c : Bool) (b : List UInt8) (i : Nat) : onPl_r n c b i = (bif decide ((↑i : Int) < (↑b.length : Int)) then bif decide ((0 : Int) ≤ (↑i : Int) ∧ (↑i : Int) < (↑b.length : Int)) then bif rng (bits IntKind.u32 (fun (x : Nat) (u v : BitVec x) => u ^^^ v) n (IntKind.wrap IntKind.u32 (↑(UInt8.toNat (List.getD b (↑i : Int).toNat (UInt8.ofBitVec (BitVec.ofNat (8 : Nat) (nat_lit 0))))) : Int))) then some ((X.normal, [((0 : Nat), D.int IntKind.u32 (iterS (8 : Nat) (bits IntKind.u32 (fun (x : Nat) (u v : BitVec x) => u ^^^ v) n (IntKind.wrap IntKind.u32 (↑(UInt8.toNat (List.getD b (↑i : Int).toNat (UInt8.ofBitVec (BitVec.ofNat (8 : Nat) (nat_lit 0))))) : Int))))), ((7 : Nat), D.sl RTy.u8 c b), ((8 : Nat), D.int .i64 (↑b.length : Int)), ((9 : Nat), D.int .i64 (IntKind.wrap .i64 ((↑i : Int) + (1 : Int))))]), []) else none else none else some ((X.exit (0 : Nat), [((0 : Nat), D.int IntKind.u32 n)]), [])) := by kernel_rfl
noncomputable def onPl_fin (n : Int) (c : Bool) (b : List UInt8) (i : Nat) : RT RC := .leaf (.exit 0) [(0, .int .u32 (crcOn n (b.drop i)))] []
def onPl_Inv (n : Int) (c : Bool) (b : List UInt8) (i : Nat) : Prop := i ≤ b.length ∧ b.length ≤ 1000000
noncomputable def onPl_S : LoopR RC onPl_St where
  k := 0
  canon q := onPl_c q.n q.c q.b q.i
  objs q := onPl_o q.n q.c q.b q.i
  fin q := onPl_fin q.n q.c q.b q.i
  Inv q := onPl_Inv q.n q.c q.b q.i
  μ q := q.b.length - q.i
theorem onPl_round (n : Int) (c : Bool) (b : List UInt8) (i : Nat) (hI : onPl_Inv n c b i) : Leaf (onPl_r n c b i) (LedR onPl_S ⟨n, c, b, i⟩) := by
  rw [onPl_eq]
  unfold onPl_Inv at hI
  obtain ⟨h1, h2⟩ := hI
  by_cases hlt : i < b.length
  · have w_succ : IntKind.i64.wrap ((i : Int) + 1) = ((i + 1 : Nat) : Int) := by rw [wrap_id (by omega) (by omega)]; simp
    have d_lt : decide ((i : Int) < b.length) = true := by simp; omega
    have d_in : decide (0 ≤ (i : Int) ∧ (i : Int) < b.length) = true := by simp; omega
    have t_nat : ((i : Int)).toNat = i := by simp
    simp only [w_succ, d_lt, d_in, t_nat, cond_true]
    have hx : ∀ x : Int, rng (bits .u32 (fun _ u v => u ^^^ v) n x) = true := fun x => rng_x n x
    simp only [u8_u32, hx, cond_true]
    refine leafR_go ⟨crc8 (xor32 n ((b.getD i 0).toNat : Int)), c, b, i + 1⟩ ⟨hlt, h2⟩ (by simp only [onPl_S]; omega) ?_ rfl rfl
    simp only [onPl_S, onPl_fin, crcOn_step b i n hlt 0]
  · have hi : i = b.length := by omega
    have c1 : decide ((i : Int) < b.length) = false := by simp; omega
    rw [c1]
    exact leafR_exit [] (by simp only [onPl_S, onPl_fin, hi, List.drop_length, crcOn_nil, RT.val]) rfl
noncomputable def onPl_d (env : Env RC) (os : List (Obj RC)) : Option (Bool × onPl_St) := match env, os with
  | [(0, .int .u32 n), (7, .sl .u8 c b), (8, .int .i64 x0), (9, .int .i64 x1)], [] => staticD (true) (decide (x0 = b.length) && decide (x1 = 0) && decide (b.length ≤ 1000000), ⟨n, c, b, 0⟩)
  | _, _ => none
noncomputable def ut_3 := ut_2.addLoop 81 2 (sumR s07 [] [0, 7, 8, 9] onPl_S onPl_d)
theorem ut_3_laws : FLaws Try.prog s07 ut_3 := by
  refine ut_2_laws.addRoundsR s07_laws (by kernel_rfl) onPl_S 60 [0, 7, 8, 9] [0] [] [0, 7, 8, 9] onPl_d (fun q hI => ?_) ?_
  · obtain ⟨n, c, b, i⟩ := q
    refine ⟨?_, ?_, onPl_round n c b i hI⟩
    · simp_all [RefsOK, onPl_S, onPl_c, onPl_o, onPl_Inv, D.refs, Obj.refs, rEnc]
    · simp_all [onPl_S, onPl_fin, onPl_o, onPl_Inv, RT.refsOK, RefsOK, D.refs, Obj.refs, rEnc]
  · intro env os b q hd_ hb
    unfold onPl_d at hd_
    split at hd_
    · obtain ⟨hs, hd_⟩ := staticD_some hd_
      cases hd_
      simp only [Bool.and_eq_true, decide_eq_true_eq] at hb
      obtain ⟨⟨rfl, rfl⟩, h⟩ := hb
      exact ⟨⟨Nat.zero_le _, h⟩, rfl, rfl⟩
    · cases hd_
def onP_s (n : Int) (c : Bool) (b : List UInt8) : Option (Bool × D RC) := some (decide (b.length ≤ 1000000), .int .u32 (crcOn n b))
def onP_sp : List (D RC) → Option (Bool × D RC)
  | [.int .u32 n, .sl .u8 c b] => onP_s n c b
  | _ => none
noncomputable def onP_e (n : Int) (c : Bool) (b : List UInt8) := evF s07 ut_3 60 81 [.int .u32 n, .sl (C := RC) .u8 c b]
theorem onP_eq (n : Int) (c : Bool) (b : List UInt8) : onP_e n c b = (bif lenOK b.length then bif decide ((↑b.length : Int) = (↑b.length : Int)) && true && decide (List.length b ≤ (1000000 : Nat)) then some (D.int IntKind.u32 (crcOn n (List.drop (0 : Nat) b))) else none else none) := by kernel_rfl
theorem onP_ok (n : Int) (c : Bool) (b : List UInt8) (h : (decide (b.length ≤ 1000000)) = true) : onP_e n c b = some (.int .u32 (crcOn n b)) := by
  rw [onP_eq]
  have hl := of_decide_eq_true h
  rw [lenOK_of (by omega), h]
  simp
noncomputable def ut_4 := ut_3.addSpec 81 onP_sp
theorem ut_4_laws : FLaws Try.prog s07 ut_4 := ut_3_laws.addEv s07_laws fun args d h => by
  unfold onP_sp at h
  split at h
  · unfold onP_s at h
    have h1 := congrArg Prod.fst (Option.some.inj h)
    obtain rfl : _ = d := congrArg Prod.snd (Option.some.inj h)
    exact ⟨by simp [D.refs], 60, onP_ok _ _ _ h1⟩
  · cases h
def sumP_s (c : Bool) (b : List UInt8) : Option (Bool × D RC) := some (decide (b.length ≤ 1000000), .int .u32 (crcOf b))
def sumP_sp : List (D RC) → Option (Bool × D RC)
  | [.sl .u8 c b] => sumP_s c b
  | _ => none
noncomputable def sumP_e (c : Bool) (b : List UInt8) := evF s07 ut_4 60 75 [.sl (C := RC) .u8 c b]
theorem sumP_eq (c : Bool) (b : List UInt8) : sumP_e c b = (bif decide (List.length b ≤ (1000000 : Nat)) then some (D.int IntKind.u32 (bits IntKind.u32 (fun (x : Nat) (u v : BitVec x) => u ^^^ v) (4294967295 : Int) (crcOn (4294967295 : Int) b))) else none) := by kernel_rfl
theorem sumP_ok (c : Bool) (b : List UInt8) (h : (decide (b.length ≤ 1000000)) = true) : sumP_e c b = some (.int .u32 (crcOf b)) := by
  rw [sumP_eq]
  rw [h]; rfl
noncomputable def ut_5 := ut_4.addSpec 75 sumP_sp
theorem ut_5_laws : FLaws Try.prog s07 ut_5 := ut_4_laws.addEv s07_laws fun args d h => by
  unfold sumP_sp at h
  split at h
  · unfold sumP_s at h
    have h1 := congrArg Prod.fst (Option.some.inj h)
    obtain rfl : _ = d := congrArg Prod.snd (Option.some.inj h)
    exact ⟨by simp [D.refs], 60, sumP_ok _ _ h1⟩
  · cases h
def sealP_s (c : Bool) (b : List UInt8) : Option (Bool × D RC) := some (decide (b.length ≤ 1000000), .sl (C := RC) .u8 false (sealL b))
def sealP_sp : List (D RC) → Option (Bool × D RC)
  | [.sl .u8 c b] => sealP_s c b
  | _ => none
noncomputable def sealP_e (c : Bool) (b : List UInt8) := evF s07 ut_5 60 56 [.sl (C := RC) .u8 c b]
theorem sealP_eq (c : Bool) (b : List UInt8) : sealP_e c b = (bif lenOK b.length then bif lenOK b.length then bif decide ((0 : Int) ≤ (↑b.length : Int) ∧ (↑b.length : Int) ≤ IntKind.wrap .i64 ((↑b.length : Int) + (4 : Int))) && sizeOK (IntKind.wrap .i64 ((↑b.length : Int) + (4 : Int))).toNat (1 : Nat) then bif Nat.beq (↑b.length : Int).toNat (List.replicate (↑b.length : Int).toNat (UInt8.ofBitVec (BitVec.ofNat (8 : Nat) (nat_lit 0)))).length && lenOK (↑b.length : Int).toNat then bif decide (List.length b ≤ (1000000 : Nat)) then bif Nat.beq (↑b.length : Int).toNat (List.take (List.replicate (↑b.length : Int).toNat (UInt8.ofBitVec (BitVec.ofNat (8 : Nat) (nat_lit 0)))).length b ++ List.drop b.length (List.replicate (↑b.length : Int).toNat (UInt8.ofBitVec (BitVec.ofNat (8 : Nat) (nat_lit 0))))).length && sizeOK (Int.toNat (↑b.length : Int) + List.length [UInt8.ofNat (IntKind.wrap IntKind.u8 (crcOf b)).toNat]) (1 : Nat) then bif Nat.beq (List.length (List.take (List.replicate (↑b.length : Int).toNat (UInt8.ofBitVec (BitVec.ofNat (8 : Nat) (nat_lit 0)))).length b ++ List.drop b.length (List.replicate (↑b.length : Int).toNat (UInt8.ofBitVec (BitVec.ofNat (8 : Nat) (nat_lit 0))))) + List.length [UInt8.ofNat (IntKind.wrap IntKind.u8 (crcOf b)).toNat]) (List.take (List.replicate (↑b.length : Int).toNat (UInt8.ofBitVec (BitVec.ofNat (8 : Nat) (nat_lit 0)))).length b ++ List.drop b.length (List.replicate (↑b.length : Int).toNat (UInt8.ofBitVec (BitVec.ofNat (8 : Nat) (nat_lit 0)))) ++ [UInt8.ofNat (IntKind.wrap IntKind.u8 (crcOf b)).toNat]).length && sizeOK (List.length (List.take (List.replicate (↑b.length : Int).toNat (UInt8.ofBitVec (BitVec.ofNat (8 : Nat) (nat_lit 0)))).length b ++ List.drop b.length (List.replicate (↑b.length : Int).toNat (UInt8.ofBitVec (BitVec.ofNat (8 : Nat) (nat_lit 0))))) + List.length [UInt8.ofNat (IntKind.wrap IntKind.u8 (crcOf b)).toNat] + List.length [UInt8.ofNat (IntKind.wrap IntKind.u8 (Int.fdiv (crcOf b) (256 : Int))).toNat]) (1 : Nat) then bif Nat.beq (List.length (List.take (List.replicate (↑b.length : Int).toNat (UInt8.ofBitVec (BitVec.ofNat (8 : Nat) (nat_lit 0)))).length b ++ List.drop b.length (List.replicate (↑b.length : Int).toNat (UInt8.ofBitVec (BitVec.ofNat (8 : Nat) (nat_lit 0)))) ++ [UInt8.ofNat (IntKind.wrap IntKind.u8 (crcOf b)).toNat]) + List.length [UInt8.ofNat (IntKind.wrap IntKind.u8 (Int.fdiv (crcOf b) (256 : Int))).toNat]) (List.take (List.replicate (↑b.length : Int).toNat (UInt8.ofBitVec (BitVec.ofNat (8 : Nat) (nat_lit 0)))).length b ++ List.drop b.length (List.replicate (↑b.length : Int).toNat (UInt8.ofBitVec (BitVec.ofNat (8 : Nat) (nat_lit 0)))) ++ [UInt8.ofNat (IntKind.wrap IntKind.u8 (crcOf b)).toNat] ++ [UInt8.ofNat (IntKind.wrap IntKind.u8 (Int.fdiv (crcOf b) (256 : Int))).toNat]).length && sizeOK (List.length (List.take (List.replicate (↑b.length : Int).toNat (UInt8.ofBitVec (BitVec.ofNat (8 : Nat) (nat_lit 0)))).length b ++ List.drop b.length (List.replicate (↑b.length : Int).toNat (UInt8.ofBitVec (BitVec.ofNat (8 : Nat) (nat_lit 0)))) ++ [UInt8.ofNat (IntKind.wrap IntKind.u8 (crcOf b)).toNat]) + List.length [UInt8.ofNat (IntKind.wrap IntKind.u8 (Int.fdiv (crcOf b) (256 : Int))).toNat] + List.length [UInt8.ofNat (IntKind.wrap IntKind.u8 (Int.fdiv (Int.fdiv (crcOf b) (256 : Int)) (256 : Int))).toNat]) (1 : Nat) then bif Nat.beq (List.length (List.take (List.replicate (↑b.length : Int).toNat (UInt8.ofBitVec (BitVec.ofNat (8 : Nat) (nat_lit 0)))).length b ++ List.drop b.length (List.replicate (↑b.length : Int).toNat (UInt8.ofBitVec (BitVec.ofNat (8 : Nat) (nat_lit 0)))) ++ [UInt8.ofNat (IntKind.wrap IntKind.u8 (crcOf b)).toNat] ++ [UInt8.ofNat (IntKind.wrap IntKind.u8 (Int.fdiv (crcOf b) (256 : Int))).toNat]) + List.length [UInt8.ofNat (IntKind.wrap IntKind.u8 (Int.fdiv (Int.fdiv (crcOf b) (256 : Int)) (256 : Int))).toNat]) (List.take (List.replicate (↑b.length : Int).toNat (UInt8.ofBitVec (BitVec.ofNat (8 : Nat) (nat_lit 0)))).length b ++ List.drop b.length (List.replicate (↑b.length : Int).toNat (UInt8.ofBitVec (BitVec.ofNat (8 : Nat) (nat_lit 0)))) ++ [UInt8.ofNat (IntKind.wrap IntKind.u8 (crcOf b)).toNat] ++ [UInt8.ofNat (IntKind.wrap IntKind.u8 (Int.fdiv (crcOf b) (256 : Int))).toNat] ++ [UInt8.ofNat (IntKind.wrap IntKind.u8 (Int.fdiv (Int.fdiv (crcOf b) (256 : Int)) (256 : Int))).toNat]).length && sizeOK (List.length (List.take (List.replicate (↑b.length : Int).toNat (UInt8.ofBitVec (BitVec.ofNat (8 : Nat) (nat_lit 0)))).length b ++ List.drop b.length (List.replicate (↑b.length : Int).toNat (UInt8.ofBitVec (BitVec.ofNat (8 : Nat) (nat_lit 0)))) ++ [UInt8.ofNat (IntKind.wrap IntKind.u8 (crcOf b)).toNat] ++ [UInt8.ofNat (IntKind.wrap IntKind.u8 (Int.fdiv (crcOf b) (256 : Int))).toNat]) + List.length [UInt8.ofNat (IntKind.wrap IntKind.u8 (Int.fdiv (Int.fdiv (crcOf b) (256 : Int)) (256 : Int))).toNat] + List.length [UInt8.ofNat (IntKind.wrap IntKind.u8 (Int.fdiv (Int.fdiv (Int.fdiv (crcOf b) (256 : Int)) (256 : Int)) (256 : Int))).toNat]) (1 : Nat) then bif Nat.beq (List.length (List.take (List.replicate (↑b.length : Int).toNat (UInt8.ofBitVec (BitVec.ofNat (8 : Nat) (nat_lit 0)))).length b ++ List.drop b.length (List.replicate (↑b.length : Int).toNat (UInt8.ofBitVec (BitVec.ofNat (8 : Nat) (nat_lit 0)))) ++ [UInt8.ofNat (IntKind.wrap IntKind.u8 (crcOf b)).toNat] ++ [UInt8.ofNat (IntKind.wrap IntKind.u8 (Int.fdiv (crcOf b) (256 : Int))).toNat] ++ [UInt8.ofNat (IntKind.wrap IntKind.u8 (Int.fdiv (Int.fdiv (crcOf b) (256 : Int)) (256 : Int))).toNat]) + List.length [UInt8.ofNat (IntKind.wrap IntKind.u8 (Int.fdiv (Int.fdiv (Int.fdiv (crcOf b) (256 : Int)) (256 : Int)) (256 : Int))).toNat]) (List.take (List.replicate (↑b.length : Int).toNat (UInt8.ofBitVec (BitVec.ofNat (8 : Nat) (nat_lit 0)))).length b ++ List.drop b.length (List.replicate (↑b.length : Int).toNat (UInt8.ofBitVec (BitVec.ofNat (8 : Nat) (nat_lit 0)))) ++ [UInt8.ofNat (IntKind.wrap IntKind.u8 (crcOf b)).toNat] ++ [UInt8.ofNat (IntKind.wrap IntKind.u8 (Int.fdiv (crcOf b) (256 : Int))).toNat] ++ [UInt8.ofNat (IntKind.wrap IntKind.u8 (Int.fdiv (Int.fdiv (crcOf b) (256 : Int)) (256 : Int))).toNat] ++ [UInt8.ofNat (IntKind.wrap IntKind.u8 (Int.fdiv (Int.fdiv (Int.fdiv (crcOf b) (256 : Int)) (256 : Int)) (256 : Int))).toNat]).length then some (D.sl RTy.u8 false (List.take (List.replicate (↑b.length : Int).toNat (UInt8.ofBitVec (BitVec.ofNat (8 : Nat) (nat_lit 0)))).length b ++ List.drop b.length (List.replicate (↑b.length : Int).toNat (UInt8.ofBitVec (BitVec.ofNat (8 : Nat) (nat_lit 0)))) ++ [UInt8.ofNat (IntKind.wrap IntKind.u8 (crcOf b)).toNat] ++ [UInt8.ofNat (IntKind.wrap IntKind.u8 (Int.fdiv (crcOf b) (256 : Int))).toNat] ++ [UInt8.ofNat (IntKind.wrap IntKind.u8 (Int.fdiv (Int.fdiv (crcOf b) (256 : Int)) (256 : Int))).toNat] ++ [UInt8.ofNat (IntKind.wrap IntKind.u8 (Int.fdiv (Int.fdiv (Int.fdiv (crcOf b) (256 : Int)) (256 : Int)) (256 : Int))).toNat])) else none else none else none else none else none else none else none else none else none else none) := by kernel_rfl
theorem sealP_ok (c : Bool) (b : List UInt8) (h : (decide (b.length ≤ 1000000)) = true) : sealP_e c b = some (.sl (C := RC) .u8 false (sealL b)) := by
  rw [sealP_eq]
  have hl := of_decide_eq_true h
  have t1 : ((b.length : Int)).toNat = b.length := by simp
  have t2 : b.take (List.replicate b.length (⟨0#8⟩ : UInt8)).length = b := by simp
  have t3 : (List.replicate b.length (⟨0#8⟩ : UInt8)).drop b.length = [] := by simp
  have w4 : IntKind.i64.wrap ((b.length : Int) + 4) = (b.length : Int) + 4 := wrap_id (by omega) (by omega)
  have t4 : ((b.length : Int) + 4).toNat = b.length + 4 := by omega
  simp only [t1, t2, t3, t4, w4, List.append_nil, byteOf_wrap, List.append_assoc, List.cons_append, List.nil_append, List.length_cons, List.length_nil, List.length_append, List.length_replicate, List.take_length, Nat.zero_add, Nat.reduceAdd, Nat.add_assoc]
  have eb : ∀ n : Nat, n.beq n = true := fun n => by simp
  have es : ∀ k : Nat, k ≤ 10 → sizeOK (b.length + k) 1 = true := fun k hk => sizeT (by omega)
  simp only [eb, es, Nat.reduceLeDiff, Bool.and_self, Bool.true_and, cond_true]
  repeat (refine cond_of (by first | assumption | exact lenOK_of (by omega) | exact sizeT (by omega) | (simp; done) | (simp; omega) | (simp [sizeOK]; omega)) ?_)
  rfl
noncomputable def ut_6 := ut_5.addSpec 56 sealP_sp
theorem ut_6_laws : FLaws Try.prog s07 ut_6 := ut_5_laws.addEv s07_laws fun args d h => by
  unfold sealP_sp at h
  split at h
  · unfold sealP_s at h
    have h1 := congrArg Prod.fst (Option.some.inj h)
    obtain rfl : _ = d := congrArg Prod.snd (Option.some.inj h)
    exact ⟨by simp [D.refs], 60, sealP_ok _ _ h1⟩
  · cases h
def openP_s (c : Bool) (b : List UInt8) : Option (Bool × D RC) := some (decide (b.length ≤ 1000000), .tup (.acons (.sl (C := RC) .u8 (openL b).isNone ((openL b).getD [])) (.acons (.int .i64 (bif (openL b).isNone then 50 else 0)) .anil)))
def openP_sp : List (D RC) → Option (Bool × D RC)
  | [.sl .u8 c b] => openP_s c b
  | _ => none
noncomputable def openP_e (c : Bool) (b : List UInt8) := evF s07 ut_6 60 65 [.sl (C := RC) .u8 c b]
theorem openP_eq (c : Bool) (b : List UInt8) : openP_e c b = (bif lenOK b.length then bif decide (IntKind.wrap .i64 ((↑b.length : Int) - (4 : Int)) < (0 : Int)) then some (D.tup (D.acons (D.sl RTy.u8 true []) (.acons (D.int .i64 (50 : Int)) .anil))) else bif decide ((0 : Int) ≤ (0 : Int) ∧ (0 : Int) ≤ IntKind.wrap .i64 ((↑b.length : Int) - (4 : Int)) ∧ IntKind.wrap .i64 ((↑b.length : Int) - (4 : Int)) ≤ (↑b.length : Int) ∧ IntKind.wrap .i64 ((↑b.length : Int) - (4 : Int)) = IntKind.wrap .i64 ((↑b.length : Int) - (4 : Int))) then bif decide (List.length (List.drop (0 : Nat) (List.take (IntKind.wrap .i64 ((↑b.length : Int) - (4 : Int))).toNat b)) ≤ (1000000 : Nat)) then bif decide ((0 : Int) ≤ IntKind.wrap .i64 ((↑b.length : Int) - (4 : Int)) ∧ IntKind.wrap .i64 ((↑b.length : Int) - (4 : Int)) ≤ (↑(sealL (List.drop (0 : Nat) (List.take (IntKind.wrap .i64 ((↑b.length : Int) - (4 : Int))).toNat b))).length : Int)) then bif decide ((0 : Int) ≤ IntKind.wrap .i64 ((↑b.length : Int) - (4 : Int)) ∧ IntKind.wrap .i64 ((↑b.length : Int) - (4 : Int)) ≤ (↑b.length : Int)) then bif !(fun (l : List (RA RTy.u8)) => l) (List.drop (IntKind.wrap .i64 ((↑b.length : Int) - (4 : Int))).toNat (sealL (List.drop (0 : Nat) (List.take (IntKind.wrap .i64 ((↑b.length : Int) - (4 : Int))).toNat b)))) == (fun (l : List (RA RTy.u8)) => l) (List.drop (IntKind.wrap .i64 ((↑b.length : Int) - (4 : Int))).toNat b) then some (D.tup (D.acons (D.sl RTy.u8 true []) (.acons (D.int .i64 (50 : Int)) .anil))) else bif decide ((0 : Int) ≤ IntKind.wrap .i64 ((↑b.length : Int) - (4 : Int)) ∧ IntKind.wrap .i64 ((↑b.length : Int) - (4 : Int)) ≤ IntKind.wrap .i64 ((↑b.length : Int) - (4 : Int))) && sizeOK (IntKind.wrap .i64 ((↑b.length : Int) - (4 : Int))).toNat (1 : Nat) then bif Nat.beq (IntKind.wrap .i64 ((↑b.length : Int) - (4 : Int))).toNat (List.replicate (IntKind.wrap .i64 ((↑b.length : Int) - (4 : Int))).toNat (UInt8.ofBitVec (BitVec.ofNat (8 : Nat) (nat_lit 0)))).length && lenOK (IntKind.wrap .i64 ((↑b.length : Int) - (4 : Int))).toNat then bif Nat.beq (IntKind.wrap .i64 ((↑b.length : Int) - (4 : Int))).toNat (List.take (List.replicate (IntKind.wrap .i64 ((↑b.length : Int) - (4 : Int))).toNat (UInt8.ofBitVec (BitVec.ofNat (8 : Nat) (nat_lit 0)))).length b ++ List.drop b.length (List.replicate (IntKind.wrap .i64 ((↑b.length : Int) - (4 : Int))).toNat (UInt8.ofBitVec (BitVec.ofNat (8 : Nat) (nat_lit 0))))).length then some (D.tup (D.acons (D.sl RTy.u8 false (List.take (List.replicate (IntKind.wrap .i64 ((↑b.length : Int) - (4 : Int))).toNat (UInt8.ofBitVec (BitVec.ofNat (8 : Nat) (nat_lit 0)))).length b ++ List.drop b.length (List.replicate (IntKind.wrap .i64 ((↑b.length : Int) - (4 : Int))).toNat (UInt8.ofBitVec (BitVec.ofNat (8 : Nat) (nat_lit 0)))))) (.acons (D.int .i64 (0 : Int)) .anil))) else none else none else none else none else none else none else none else none) := by kernel_rfl
theorem openP_ok (c : Bool) (b : List UInt8) (h : (decide (b.length ≤ 1000000)) = true) : openP_e c b = some (.tup (.acons (.sl (C := RC) .u8 (openL b).isNone ((openL b).getD [])) (.acons (.int .i64 (bif (openL b).isNone then 50 else 0)) .anil))) := by
  rw [openP_eq]
  have hl := of_decide_eq_true h
  have wm : IntKind.i64.wrap ((b.length : Int) - 4) = (b.length : Int) - 4 := wrap_id (by omega) (by omega)
  have tm : ((b.length : Int) - 4).toNat = b.length - 4 := by omega
  have ts : (b.take (b.length - 4)).length = b.length - 4 := by simp
  simp only [wm, tm, List.drop_zero]
  refine cond_of (lenOK_of (by omega)) ?_
  refine cond_two (fun h0 => ?_) fun h0 => ?_ <;> simp only [decide_eq_true_eq, decide_eq_false_iff_not] at h0
  · have e : openL b = none := by unfold openL; rw [if_neg (by omega)]
    rw [e]; rfl
  iterate 2 refine cond_of (by first | exact lenOK_of (by simp; omega) | exact lenOK_of (by omega) | (simp [sizeOK]; done) | (simp [sizeOK]; omega) | omega) ?_
  refine cond_of (by simp [sealL_len, ts]; omega) ?_
  iterate 1 refine cond_of (by first | exact lenOK_of (by simp; omega) | exact lenOK_of (by omega) | (simp [sizeOK]; done) | (simp [sizeOK]; omega) | omega) ?_
  have ht := openL_test b (by omega)
  by_cases hq : sealL (b.take (b.length - 4)) = b
  · have e : openL b = some (b.take (b.length - 4)) := by unfold openL; rw [if_pos ⟨by omega, hq⟩]
    rw [ht.2 hq, e]
    have tr : b.take (List.replicate (b.length - 4) (⟨0#8⟩ : UInt8)).length = b.take (b.length - 4) := by rw [List.length_replicate]
    have td : (List.replicate (b.length - 4) (⟨0#8⟩ : UInt8)).drop b.length = [] := by simp
    simp only [beq_self_eq_true, Bool.not_true, cond_false, tr, td, List.append_nil, List.length_replicate, ts]
    have lk : lenOK (b.length - 4) = true := lenOK_of (by omega)
    have eb : ∀ n : Nat, n.beq n = true := fun n => by simp
    simp only [lk, eb, Bool.and_self, cond_true]
    repeat (refine cond_of (by first | assumption | exact lenOK_of (by omega) | exact sizeT (by omega) | (simp; done) | (simp; omega) | (simp [sizeOK]; omega)) ?_)
    rfl
  · have e : openL b = none := by unfold openL; rw [if_neg (fun q => hq q.2)]
    rw [e, show ((sealL (b.take (b.length - 4))).drop (b.length - 4) == b.drop (b.length - 4)) = false by simpa using fun q => hq (ht.1 q)]
    rfl
noncomputable def ut_7 := ut_6.addSpec 65 openP_sp
theorem ut_7_laws : FLaws Try.prog s07 ut_7 := ut_6_laws.addEv s07_laws fun args d h => by
  unfold openP_sp at h
  split at h
  · unfold openP_s at h
    have h1 := congrArg Prod.fst (Option.some.inj h)
    obtain rfl : _ = d := congrArg Prod.snd (Option.some.inj h)
    exact ⟨by simp [D.refs], 60, openP_ok _ _ h1⟩
  · cases h
def maySec (s : Sector) : Bool := decide (0 ≤ s.n) && decide (s.n ≤ 1048575) && decide (s.b.length ≤ 640) && (decide (0 < s.n) || s.b == [])
def rowOK (l : List Sector) : Bool := decide (l.length = 33) && l.all maySec
def lowAt (now sure : List Sector) (i : Nat) : Bool := ((now.zip sure).drop i).all fun p => decide (p.2.n ≤ p.1.n)
def diskOK (now sure : List Sector) : Bool := rowOK now && rowOK sure && lowAt now sure 0
theorem diskOK_len {now sure : List Sector} (h : diskOK now sure = true) : now.length = 33 ∧ sure.length = 33 := by
  simp only [diskOK, rowOK, Bool.and_eq_true, decide_eq_true_eq] at h; exact ⟨h.1.1.1, h.1.2.1⟩
def sec0 : Sector := ⟨0, []⟩
theorem all_drop_step {α : Type} (l : List α) (p : α → Bool) (i : Nat) (h : i < l.length) (d : α) : (l.drop i).all p = (p (l.getD i d) && (l.drop (i + 1)).all p) := by
  have e : l.getD i d = l[i] := by simp [h]
  rw [List.drop_eq_getElem_cons h, e, List.all_cons]
theorem lowAt_step {now sure : List Sector} (i : Nat) (h1 : i < now.length) (h2 : i < sure.length) (d : Sector) : lowAt now sure i = (decide ((sure.getD i d).n ≤ (now.getD i d).n) && lowAt now sure (i + 1)) := by
  unfold lowAt
  rw [all_drop_step _ _ i (by simp; omega) (d, d)]
  have e : (now.zip sure).getD i (d, d) = (now.getD i d, sure.getD i d) := by
    have hz : i < (now.zip sure).length := by simp; omega
    simp [List.getD_eq_getElem?_getD, List.getElem?_eq_getElem hz, h1, h2]
  rw [e]
theorem lowAt_end {now sure : List Sector} (i : Nat) (h : now.length ≤ i) : lowAt now sure i = true := by
  unfold lowAt
  rw [List.drop_eq_nil_of_le (by simp; omega)]; rfl
def badAt (l : List Sector) (i : Nat) : Nat := i + (l.drop i).findIdx fun s => !maySec s
def okPut (now sure : List Sector) (k n : Int) (b : List UInt8) : Bool := diskOK now sure && (decide (0 ≤ k) && decide (k < 33) && decide (1 ≤ n) && !(b == []) && maySec ⟨n, b⟩)
def putNow (now : List Sector) (k : Nat) (n : Int) (b : List UInt8) : List Sector := if (now.getD k sec0).n < n then now.set k ⟨n, b⟩ else now
theorem set_eq {α : Type} (l : List α) (k : Nat) (x : α) (h : k < l.length) : l.take k ++ [x] ++ l.drop (k + 1) = l.set k x := by
  rw [List.set_eq_take_append_cons_drop, if_pos h]; simp
theorem rowOK_len {l : List Sector} (h : rowOK l = true) : l.length = 33 := by simp only [rowOK, Bool.and_eq_true, decide_eq_true_eq] at h; exact h.1
theorem badAt_ge (l : List Sector) (i : Nat) : i ≤ badAt l i := Nat.le_add_right _ _
theorem badAt_step (l : List Sector) (i : Nat) (h : i < l.length) (d : Sector) : badAt l i = if maySec (l.getD i d) = true then badAt l (i + 1) else i := by
  have e : l.getD i d = l[i] := by simp [h]
  unfold badAt
  rw [List.drop_eq_getElem_cons h, e, List.findIdx_cons]
  cases maySec l[i] <;> simp; omega
def pNow (now sure : List Sector) (k n : Int) (b : List UInt8) : List Sector := bif okPut now sure k n b then putNow now k.toNat n b else []
def pSure (now sure : List Sector) (k n : Int) (b : List UInt8) : List Sector := bif okPut now sure k n b then sure else []
def okGet (now sure : List Sector) (k : Int) : Bool := diskOK now sure && (decide (0 ≤ k) && decide (k < 33))
def getS (now sure : List Sector) (k : Int) : Sector := bif okGet now sure k then now.getD k.toNat sec0 else sec0
def goodL (l : List Sector) : Bool := decide (l.length ≤ 9223372036854775807) && l.all fun s => lenOK s.b.length
theorem goodL_iff {l : List Sector} : goodL l = true ↔ l.length ≤ 9223372036854775807 ∧ ∀ s ∈ l, lenOK s.b.length = true := by simp [goodL]
theorem goodL_at {l : List Sector} (h : goodL l = true) (i : Nat) (hi : i < l.length) (d : Sector) : lenOK (l.getD i d).b.length = true := by
  have e : l.getD i d = l[i] := by simp [hi]
  rw [e]; exact (goodL_iff.1 h).2 _ (List.getElem_mem hi)
theorem okPut_facts {now sure : List Sector} {k n : Int} {b : List UInt8} (h : okPut now sure k n b = true) : diskOK now sure = true ∧ 0 ≤ k ∧ k < 33 ∧ 1 ≤ n ∧ b ≠ [] ∧ maySec ⟨n, b⟩ = true := by
  simp only [okPut, Bool.and_eq_true, decide_eq_true_eq] at h
  obtain ⟨h1, ⟨⟨⟨h2, h3⟩, h4⟩, h5⟩, h6⟩ := h
  exact ⟨h1, h2, h3, h4, by simpa using h5, h6⟩
theorem okPut_not {now sure : List Sector} {k n : Int} {b : List UInt8} (h : ¬ (diskOK now sure = true ∧ 0 ≤ k ∧ k < 33 ∧ 1 ≤ n ∧ b ≠ [] ∧ maySec ⟨n, b⟩ = true)) : okPut now sure k n b = false := by
  cases e : okPut now sure k n b
  · rfl
  · exact absurd (okPut_facts e) h
open Go.Proofs
def mayF_s (n : Int) (b : List UInt8) : Option (Bool × D RC) := some (lenOK b.length, .bool (maySec ⟨n, b⟩))
def mayF_sp : List (D RC) → Option (Bool × D RC)
  | [.acons (.int .i64 n) (.acons (.str b) .anil)] => mayF_s n b
  | _ => none
noncomputable def mayF_e (n : Int) (b : List UInt8) := evF s07 ut_7 40 46 [.acons (.int .i64 n) (.acons (.str b) .anil)]
theorem mayF_eq (n : Int) (b : List UInt8) : mayF_e n b = (bif decide ((0 : Int) ≤ n) then bif decide (n ≤ (1048575 : Int)) then bif lenOK b.length then bif decide ((↑b.length : Int) ≤ (640 : Int)) then bif decide ((0 : Int) < n) then some (D.bool true) else some (D.bool (b == Array.toList #[])) else some (D.bool false) else none else some (D.bool false) else some (D.bool false)) := by kernel_rfl
theorem mayF_ok (n : Int) (b : List UInt8) (h : (lenOK b.length) = true) : mayF_e n b = some (.bool (maySec ⟨n, b⟩)) := by
  rw [mayF_eq]
  have hb : decide (((b.length : Nat) : Int) ≤ 640) = decide (b.length ≤ 640) := by rw [decide_eq_decide]; omega
  simp only [maySec, h, hb, cond_true]
  cases decide (0 ≤ n) <;> cases decide (n ≤ 1048575) <;> cases decide (b.length ≤ 640) <;> cases decide (0 < n) <;> cases b <;> rfl
noncomputable def uu_1 := ut_7.addSpec 46 mayF_sp
theorem uu_1_laws : FLaws Try.prog s07 uu_1 := ut_7_laws.addEv s07_laws fun args d h => by
  unfold mayF_sp at h
  split at h
  · unfold mayF_s at h
    have h1 := congrArg Prod.fst (Option.some.inj h)
    obtain rfl : _ = d := congrArg Prod.snd (Option.some.inj h)
    exact ⟨by simp [D.refs], 40, mayF_ok _ _ h1⟩
  · cases h
structure idxS_St where
  c : Bool
  l : List Sector
  i : Nat
def idxS_c (c : Bool) (l : List Sector) (i : Nat) : Env RC := [(0, .sl (C := RC) .sector c l), (1, .fn 64 (.acons (.ptr 0 []) .anil)), (4, .int .i64 0), (7, .int .i64 (l.length)), (8, .int .i64 (i : Int))]
def idxS_o (c : Bool) (l : List Sector) (i : Nat) : List (Obj RC) := [.var 80 (.fn 46 .anil)]
noncomputable def idxS_r (c : Bool) (l : List Sector) (i : Nat) := rndO s07 uu_1 78 2 40 1 [0, 1, 4, 7, 8] [4] [.slot 1 0] (idxS_c c l i) (idxS_o c l i)
theorem idxS_eq (c : Bool) (l : List Sector) (i : Nat) : idxS_r c l i = (bif decide ((↑i : Int) < (↑l.length : Int)) then bif decide ((0 : Int) ≤ (↑i : Int) ∧ (↑i : Int) < (↑l.length : Int)) then bif lenOK (Sector.b (List.getD l (↑i : Int).toNat (Sector.mk (0 : Int) []))).length then bif !maySec (Sector.mk (Sector.n (List.getD l (↑i : Int).toNat (Sector.mk (0 : Int) []))) (Sector.b (List.getD l (↑i : Int).toNat (Sector.mk (0 : Int) [])))) then some ((X.ret, [((4 : Nat), D.int .i64 (↑i : Int))]), [some (Obj.var (80 : Nat) (D.fn (46 : Nat) .anil))]) else some ((X.normal, [((0 : Nat), D.sl RTy.sector c l), ((1 : Nat), D.fn (64 : Nat) (.acons (D.ptr (0 : Nat) []) .anil)), ((4 : Nat), D.int .i64 (0 : Int)), ((7 : Nat), D.int .i64 (↑l.length : Int)), ((8 : Nat), D.int .i64 (IntKind.wrap .i64 ((↑i : Int) + (1 : Int))))]), [some (Obj.var (80 : Nat) (D.fn (46 : Nat) .anil))]) else none else none else some ((X.exit (0 : Nat), [((4 : Nat), D.int .i64 (0 : Int))]), [some (Obj.var (80 : Nat) (D.fn (46 : Nat) .anil))])) := by kernel_rfl
def idxS_fin (c : Bool) (l : List Sector) (i : Nat) : RT RC := .br (l.drop i |>.all maySec) (.leaf (.exit 0) [(4, .int .i64 0)] (idxS_o c l i)) (.leaf .ret [(4, .int .i64 (badAt l i))] (idxS_o c l i))
def idxS_Inv (c : Bool) (l : List Sector) (i : Nat) : Prop := i ≤ l.length ∧ goodL l = true
def idxS_S : LoopR RC idxS_St where
  k := 1
  canon q := idxS_c q.c q.l q.i
  objs q := idxS_o q.c q.l q.i
  fin q := idxS_fin q.c q.l q.i
  Inv q := idxS_Inv q.c q.l q.i
  μ q := q.l.length - q.i
theorem idxS_round (c : Bool) (l : List Sector) (i : Nat) (hI : idxS_Inv c l i) : Leaf (idxS_r c l i) (LedR idxS_S ⟨c, l, i⟩) := by
  rw [idxS_eq]
  unfold idxS_Inv at hI
  obtain ⟨h1, hg⟩ := hI
  have h2 := (goodL_iff.1 hg).1
  by_cases hlt : i < l.length
  · have w_succ : IntKind.i64.wrap ((i : Int) + 1) = ((i + 1 : Nat) : Int) := by rw [wrap_id (by omega) (by omega)]; simp
    have d_lt : decide ((i : Int) < l.length) = true := by simp; omega
    have d_in : decide (0 ≤ (i : Int) ∧ (i : Int) < l.length) = true := by simp; omega
    have t_nat : ((i : Int)).toNat = i := by simp
    have w_pred : IntKind.i64.wrap ((i : Int) - 1) = (i : Int) - 1 := wrap_id (by omega) (by omega)
    have t_natp : ((i : Int) - 1).toNat = i - 1 := by omega
    simp only [w_succ, d_lt, d_in, t_nat, w_pred, t_natp, cond_true]
    have hlk := goodL_at hg i hlt (⟨0, []⟩ : Sector)
    have hst := all_drop_step l maySec i hlt (⟨0, []⟩ : Sector)
    have hb := badAt_step l i hlt (⟨0, []⟩ : Sector)
    generalize l.getD i (⟨0, []⟩ : Sector) = x at hst hb hlk ⊢
    simp only [hlk, cond_true]
    cases a1 : maySec x
    · exact leafR_ret (idxS_o c l i) (by simp [idxS_S, idxS_fin, hst, hb, a1, RT.val]) rfl
    · exact leafR_go ⟨c, l, i + 1⟩ ⟨hlt, hg⟩ (by simp only [idxS_S]; omega) (by simp [idxS_S, idxS_fin, hst, hb, a1]; rfl) rfl rfl
  · have hi : i = l.length := by omega
    have c1 : decide ((i : Int) < l.length) = false := by simp; omega
    rw [c1]
    exact leafR_exit (idxS_o c l i) (by simp [idxS_S, idxS_fin, hi, RT.val]) rfl
def idxS_d (env : Env RC) (os : List (Obj RC)) : Option (Bool × idxS_St) := match env, os with
  | [(0, .sl .sector c l), (1, .fn 64 (.acons (.ptr 0 []) .anil)), (4, .int .i64 0), (7, .int .i64 x0), (8, .int .i64 x1)], [.var 80 (.fn 46 .anil)] => staticD (true) (decide (x0 = l.length) && decide (x1 = 0) && goodL l, ⟨c, l, 0⟩)
  | _, _ => none
noncomputable def uu_2 := uu_1.addLoop 78 2 (sumR s07 [.slot 1 0] [0, 1, 4, 7, 8] idxS_S idxS_d)
theorem uu_2_laws : FLaws Try.prog s07 uu_2 := by
  refine uu_1_laws.addRoundsR s07_laws (by kernel_rfl) idxS_S 40 [0, 1, 4, 7, 8] [4] [.slot 1 0] [0, 1, 4, 7, 8] idxS_d (fun q hI => ?_) ?_
  · obtain ⟨c, l, i⟩ := q
    refine ⟨?_, ?_, idxS_round c l i hI⟩
    · simp_all [RefsOK, idxS_S, idxS_c, idxS_o, idxS_Inv, D.refs, Obj.refs, rEnc]
    · simp_all [idxS_S, idxS_fin, idxS_o, idxS_Inv, RT.refsOK, RefsOK, D.refs, Obj.refs, rEnc]
  · intro env os b q hd_ hb
    unfold idxS_d at hd_
    split at hd_
    · obtain ⟨hs, hd_⟩ := staticD_some hd_
      cases hd_
      simp only [Bool.and_eq_true, decide_eq_true_eq] at hb
      obtain ⟨⟨rfl, rfl⟩, hl⟩ := hb
      exact ⟨⟨Nat.zero_le _, hl⟩, rfl, rfl⟩
    · cases hd_
def allF_s (c : Bool) (l : List Sector) : Option (Bool × D RC) := some (goodL l, .bool (rowOK l))
def allF_sp : List (D RC) → Option (Bool × D RC)
  | [.sl .sector c l, .int .i64 33, .fn 46 .anil] => allF_s c l
  | _ => none
noncomputable def allF_e (c : Bool) (l : List Sector) := evF s07 uu_2 40 45 [.sl (C := RC) .sector c l, .int .i64 33, .fn 46 .anil]
theorem allF_eq (c : Bool) (l : List Sector) : allF_e c l = (bif lenOK l.length then bif (↑l.length : Int) == (33 : Int) then bif lenOK l.length then bif decide ((↑l.length : Int) = (↑l.length : Int)) && true && goodL l then bif List.all (List.drop (0 : Nat) l) maySec then some (D.bool true) else some (D.bool !decide ((0 : Int) ≤ (↑(badAt l (0 : Nat)) : Int))) else none else none else some (D.bool false) else none) := by kernel_rfl
theorem allF_ok (c : Bool) (l : List Sector) (h : (goodL l) = true) : allF_e c l = some (.bool (rowOK l)) := by
  rw [allF_eq]
  have hl := (goodL_iff.1 h).1
  have lk := lenOK_of hl
  have hb := badAt_ge l 0
  simp only [h, lk, rowOK, cond_true, List.drop_zero]
  by_cases e : l.length = 33
  · have e2 : ((l.length : Int) == 33) = true := by simp [e]
    cases hm : l.all maySec <;> simp [e, hm] <;> omega
  · have e2 : ((l.length : Int) == 33) = false := by simp; omega
    simp [e, e2]
noncomputable def uu_3 := uu_2.addSpec 45 allF_sp
theorem uu_3_laws : FLaws Try.prog s07 uu_3 := uu_2_laws.addEv s07_laws fun args d h => by
  unfold allF_sp at h
  split at h
  · unfold allF_s at h
    have h1 := congrArg Prod.fst (Option.some.inj h)
    obtain rfl : _ = d := congrArg Prod.snd (Option.some.inj h)
    exact ⟨by simp [D.refs], 40, allF_ok _ _ h1⟩
  · cases h
structure chkD_St where
  c : Bool
  now : List Sector
  r : D RC
  d : Bool
  sure : List Sector
  i : Nat
def chkD_c (c : Bool) (now : List Sector) (r : D RC) (d : Bool) (sure : List Sector) (i : Nat) : Env RC := [(1, .ptr 0 []), (2, .int .i64 0), (16, .sl (C := RC) .sector c now), (17, .int .i64 (now.length)), (18, .int .i64 (i : Int))]
def chkD_o (c : Bool) (now : List Sector) (r : D RC) (d : Bool) (sure : List Sector) (i : Nat) : List (Obj RC) := [.var 24 (.acons r (.acons (.sl (C := RC) .sector d sure) .anil))]
noncomputable def chkD_r (c : Bool) (now : List Sector) (r : D RC) (d : Bool) (sure : List Sector) (i : Nat) := rndO s07 uu_3 28 4 40 1 [1, 2, 16, 17, 18] [2] [.slot 1 0] (chkD_c c now r d sure i) (chkD_o c now r d sure i)
theorem chkD_eq (c : Bool) (now : List Sector) (r : D RC) (d : Bool) (sure : List Sector) (i : Nat) : chkD_r c now r d sure i = (bif decide ((↑i : Int) < (↑now.length : Int)) then bif decide ((0 : Int) ≤ (↑i : Int) ∧ (↑i : Int) < (↑now.length : Int)) then bif decide ((0 : Int) ≤ (↑i : Int) ∧ (↑i : Int) < (↑sure.length : Int)) then bif decide (Sector.n (List.getD now (↑i : Int).toNat (Sector.mk (0 : Int) [])) < Sector.n (List.getD sure (↑i : Int).toNat (Sector.mk (0 : Int) []))) then some ((X.ret, [((2 : Nat), D.int .i64 (2 : Int))]), [some (Obj.var (24 : Nat) (.acons r (D.acons (D.sl RTy.sector d sure) .anil)))]) else some ((X.normal, [((1 : Nat), D.ptr (0 : Nat) []), ((2 : Nat), D.int .i64 (0 : Int)), ((16 : Nat), D.sl RTy.sector c now), ((17 : Nat), D.int .i64 (↑now.length : Int)), ((18 : Nat), D.int .i64 (IntKind.wrap .i64 ((↑i : Int) + (1 : Int))))]), [some (Obj.var (24 : Nat) (.acons r (D.acons (D.sl RTy.sector d sure) .anil)))]) else none else none else some ((X.exit (0 : Nat), [((2 : Nat), D.int .i64 (0 : Int))]), [some (Obj.var (24 : Nat) (.acons r (D.acons (D.sl RTy.sector d sure) .anil)))])) := by kernel_rfl
def chkD_fin (c : Bool) (now : List Sector) (r : D RC) (d : Bool) (sure : List Sector) (i : Nat) : RT RC := .br (lowAt now sure i) (.leaf (.exit 0) [(2, .int .i64 0)] (chkD_o c now r d sure i)) (.leaf .ret [(2, .int .i64 2)] (chkD_o c now r d sure i))
def chkD_Inv (c : Bool) (now : List Sector) (r : D RC) (d : Bool) (sure : List Sector) (i : Nat) : Prop := r.refs = [] ∧ i ≤ now.length ∧ now.length ≤ 9223372036854775807 ∧ now.length = sure.length
def chkD_S : LoopR RC chkD_St where
  k := 1
  canon q := chkD_c q.c q.now q.r q.d q.sure q.i
  objs q := chkD_o q.c q.now q.r q.d q.sure q.i
  fin q := chkD_fin q.c q.now q.r q.d q.sure q.i
  Inv q := chkD_Inv q.c q.now q.r q.d q.sure q.i
  μ q := q.now.length - q.i
theorem chkD_round (c : Bool) (now : List Sector) (r : D RC) (d : Bool) (sure : List Sector) (i : Nat) (hI : chkD_Inv c now r d sure i) : Leaf (chkD_r c now r d sure i) (LedR chkD_S ⟨c, now, r, d, sure, i⟩) := by
  rw [chkD_eq]
  unfold chkD_Inv at hI
  obtain ⟨h0, h1, h2, h3⟩ := hI
  by_cases hlt : i < now.length
  · have w_succ : IntKind.i64.wrap ((i : Int) + 1) = ((i + 1 : Nat) : Int) := by rw [wrap_id (by omega) (by omega)]; simp
    have d_lt : decide ((i : Int) < now.length) = true := by simp; omega
    have d_in : decide (0 ≤ (i : Int) ∧ (i : Int) < now.length) = true := by simp; omega
    have t_nat : ((i : Int)).toNat = i := by simp
    have w_pred : IntKind.i64.wrap ((i : Int) - 1) = (i : Int) - 1 := wrap_id (by omega) (by omega)
    have t_natp : ((i : Int) - 1).toNat = i - 1 := by omega
    simp only [w_succ, d_lt, d_in, t_nat, w_pred, t_natp, cond_true]
    have hlt2 : i < sure.length := by omega
    have d_in2 : decide (0 ≤ (i : Int) ∧ (i : Int) < sure.length) = true := by simp; omega
    simp only [d_in2, cond_true]
    have hst := lowAt_step (now := now) (sure := sure) i hlt (by omega) (⟨0, []⟩ : Sector)
    generalize now.getD i (⟨0, []⟩ : Sector) = x at hst ⊢
    generalize sure.getD i (⟨0, []⟩ : Sector) = y at hst ⊢
    cases a1 : decide (y.n ≤ x.n)
    · have a2 : decide (x.n < y.n) = true := by simp at a1 ⊢; exact a1
      simp only [a2, cond_true]
      exact leafR_ret (chkD_o c now r d sure i) (by simp [chkD_S, chkD_fin, hst, a1, RT.val]) rfl
    · have a2 : decide (x.n < y.n) = false := by simp at a1 ⊢; exact a1
      simp only [a2, cond_false]
      exact leafR_go ⟨c, now, r, d, sure, i + 1⟩ ⟨h0, hlt, h2, h3⟩ (by simp only [chkD_S]; omega) (by simp [chkD_S, chkD_fin, hst, a1]; rfl) rfl rfl
  · have hi : i = now.length := by omega
    have c1 : decide ((i : Int) < now.length) = false := by simp; omega
    rw [c1]
    exact leafR_exit (chkD_o c now r d sure i) (by simp [chkD_S, chkD_fin, hi, lowAt_end, RT.val]) rfl
def chkD_d (env : Env RC) (os : List (Obj RC)) : Option (Bool × chkD_St) := match env, os with
  | [(1, .ptr 0 []), (2, .int .i64 0), (16, .sl .sector c now), (17, .int .i64 x0), (18, .int .i64 x1)], [.var 24 (.acons r (.acons (.sl .sector d sure) .anil))] => staticD (r.refs.isEmpty) (decide (x0 = now.length) && decide (x1 = 0) && decide (now.length ≤ 9223372036854775807 ∧ now.length = sure.length), ⟨c, now, r, d, sure, 0⟩)
  | _, _ => none
noncomputable def uu_4 := uu_3.addLoop 28 4 (sumR s07 [.slot 1 0] [1, 2, 16, 17, 18] chkD_S chkD_d)
theorem uu_4_laws : FLaws Try.prog s07 uu_4 := by
  refine uu_3_laws.addRoundsR s07_laws (by kernel_rfl) chkD_S 40 [1, 2, 16, 17, 18] [2] [.slot 1 0] [1, 2, 16, 17, 18] chkD_d (fun q hI => ?_) ?_
  · obtain ⟨c, now, r, d, sure, i⟩ := q
    refine ⟨?_, ?_, chkD_round c now r d sure i hI⟩
    · simp_all [RefsOK, chkD_S, chkD_c, chkD_o, chkD_Inv, D.refs, Obj.refs, rEnc]
    · simp_all [chkD_S, chkD_fin, chkD_o, chkD_Inv, RT.refsOK, RefsOK, D.refs, Obj.refs, rEnc]
  · intro env os b q hd_ hb
    unfold chkD_d at hd_
    split at hd_
    · obtain ⟨hs, hd_⟩ := staticD_some hd_
      cases hd_
      simp only [Bool.and_eq_true, decide_eq_true_eq] at hb
      obtain ⟨⟨rfl, rfl⟩, hl⟩ := hb
      exact ⟨⟨List.isEmpty_iff.1 hs, Nat.zero_le _, hl⟩, rfl, rfl⟩
    · cases hd_
def checkD_s (c : Bool) (now : List Sector) (d : Bool) (sure : List Sector) : Option (Bool × D RC) := some (goodL now && goodL sure, .int .i64 (bif diskOK now sure then 0 else 2))
def checkD_sp : List (D RC) → Option (Bool × D RC)
  | [.acons (.sl .sector c now) (.acons (.sl .sector d sure) .anil)] => checkD_s c now d sure
  | _ => none
noncomputable def checkD_e (c : Bool) (now : List Sector) (d : Bool) (sure : List Sector) := evF s07 uu_4 40 28 [.acons (.sl (C := RC) .sector c now) (.acons (.sl (C := RC) .sector d sure) .anil)]
theorem checkD_eq (c : Bool) (now : List Sector) (d : Bool) (sure : List Sector) : checkD_e c now d sure = (bif goodL now then bif !rowOK now then some (D.int .i64 (2 : Int)) else bif goodL sure then bif !rowOK sure then some (D.int .i64 (2 : Int)) else bif lenOK now.length then bif decide ((↑now.length : Int) = (↑now.length : Int)) && true && decide (List.length now ≤ (9223372036854775807 : Nat) ∧ List.length now = List.length sure) then bif lowAt now sure (0 : Nat) then some (D.int .i64 (0 : Int)) else some (D.int .i64 (2 : Int)) else none else none else none else none) := by kernel_rfl
theorem checkD_ok (c : Bool) (now : List Sector) (d : Bool) (sure : List Sector) (h : (goodL now && goodL sure) = true) : checkD_e c now d sure = some (.int .i64 (bif diskOK now sure then 0 else 2)) := by
  rw [checkD_eq]
  rw [Bool.and_eq_true] at h
  obtain ⟨hg, hgs⟩ := h
  have hl := (goodL_iff.1 hg).1
  have hs := (goodL_iff.1 hgs).1
  have lk := lenOK_of hl
  simp only [hg, hgs, lk, Bool.and_self, cond_true, diskOK]
  cases h1 : rowOK now
  · rfl
  cases h2 : rowOK sure
  · rfl
  have l1 := rowOK_len h1
  have l2 := rowOK_len h2
  have e : decide (now.length ≤ 9223372036854775807 ∧ now.length = sure.length) = true := by simp; omega
  cases h3 : lowAt now sure 0 <;> simp [e]
noncomputable def uu_5 := uu_4.addSpec 28 checkD_sp
theorem uu_5_laws : FLaws Try.prog s07 uu_5 := uu_4_laws.addEv s07_laws fun args d h => by
  unfold checkD_sp at h
  split at h
  · unfold checkD_s at h
    have h1 := congrArg Prod.fst (Option.some.inj h)
    obtain rfl : _ = d := congrArg Prod.snd (Option.some.inj h)
    exact ⟨by simp [D.refs], 40, checkD_ok _ _ _ _ h1⟩
  · cases h
def cloneS_s (c : Bool) (l : List Sector) : Option (Bool × D RC) := some (decide (0 < l.length ∧ l.length ≤ 1000000), .sl (C := RC) .sector false l)
def cloneS_sp : List (D RC) → Option (Bool × D RC)
  | [.sl .sector c l] => cloneS_s c l
  | _ => none
noncomputable def cloneS_e (c : Bool) (l : List Sector) := evF s07 uu_5 40 47 [.sl (C := RC) .sector c l]
theorem cloneS_eq (c : Bool) (l : List Sector) : cloneS_e c l = (bif List.isEmpty l then none else bif sizeOK ((0 : Nat) + List.length l) (24 : Nat) then bif Nat.beq ((0 : Nat) + List.length l) (List.replicate (0 : Nat) (Sector.mk (0 : Int) []) ++ l).length then some (D.sl RTy.sector false (List.replicate (0 : Nat) (Sector.mk (0 : Int) []) ++ l)) else none else none) := by kernel_rfl
theorem cloneS_ok (c : Bool) (l : List Sector) (h : (decide (0 < l.length ∧ l.length ≤ 1000000)) = true) : cloneS_e c l = some (.sl (C := RC) .sector false l) := by
  rw [cloneS_eq]
  obtain ⟨h1, h2⟩ := of_decide_eq_true h
  have e0 : l.isEmpty = false := by cases l <;> simp_all
  have e1 : sizeOK l.length 24 = true := by simp [sizeOK]; omega
  have eb : ∀ n : Nat, n.beq n = true := fun n => by simp
  simp only [e0, e1, cond_false, cond_true, List.replicate, List.nil_append, Nat.zero_add, eb]
noncomputable def uu_6 := uu_5.addSpec 47 cloneS_sp
theorem uu_6_laws : FLaws Try.prog s07 uu_6 := uu_5_laws.addEv s07_laws fun args d h => by
  unfold cloneS_sp at h
  split at h
  · unfold cloneS_s at h
    have h1 := congrArg Prod.fst (Option.some.inj h)
    obtain rfl : _ = d := congrArg Prod.snd (Option.some.inj h)
    exact ⟨by simp [D.refs], 40, cloneS_ok _ _ h1⟩
  · cases h
def withF_s (c : Bool) (l : List Sector) (k : Int) (n : Int) (b : List UInt8) : Option (Bool × D RC) := some (decide (0 ≤ k ∧ k < l.length ∧ l.length ≤ 1000000), .sl (C := RC) .sector false (l.set k.toNat ⟨n, b⟩))
def withF_sp : List (D RC) → Option (Bool × D RC)
  | [.sl .sector c l, .int .i64 k, .acons (.int .i64 n) (.acons (.str b) .anil)] => withF_s c l k n b
  | _ => none
noncomputable def withF_e (c : Bool) (l : List Sector) (k : Int) (n : Int) (b : List UInt8) := evF s07 uu_6 40 48 [.sl (C := RC) .sector c l, .int .i64 k, .acons (.int .i64 n) (.acons (.str b) .anil)]
theorem withF_eq (c : Bool) (l : List Sector) (k : Int) (n : Int) (b : List UInt8) : withF_e c l k n b = (bif decide ((0 : Int) ≤ (0 : Int) ∧ (0 : Int) ≤ k ∧ k ≤ (↑l.length : Int) ∧ k = k) then bif sizeOK (List.length (List.drop (0 : Nat) (List.take k.toNat l)) + List.length [Sector.mk n b]) (24 : Nat) then bif decide ((0 : Int) ≤ IntKind.wrap .i64 (k + (1 : Int)) ∧ IntKind.wrap .i64 (k + (1 : Int)) ≤ (↑l.length : Int)) then bif Nat.beq (List.length (List.drop (0 : Nat) (List.take k.toNat l)) + List.length [Sector.mk n b]) (List.drop (0 : Nat) (List.take k.toNat l) ++ [Sector.mk n b]).length && sizeOK (List.length (List.drop (0 : Nat) (List.take k.toNat l)) + List.length [Sector.mk n b] + List.length (List.drop (IntKind.wrap .i64 (k + (1 : Int))).toNat l)) (24 : Nat) then bif Nat.beq (List.length (List.drop (0 : Nat) (List.take k.toNat l) ++ [Sector.mk n b]) + List.length (List.drop (IntKind.wrap .i64 (k + (1 : Int))).toNat l)) (List.drop (0 : Nat) (List.take k.toNat l) ++ [Sector.mk n b] ++ List.drop (IntKind.wrap .i64 (k + (1 : Int))).toNat l).length then some (D.sl RTy.sector false (List.drop (0 : Nat) (List.take k.toNat l) ++ [Sector.mk n b] ++ List.drop (IntKind.wrap .i64 (k + (1 : Int))).toNat l)) else none else none else none else none else none) := by kernel_rfl
theorem withF_ok (c : Bool) (l : List Sector) (k : Int) (n : Int) (b : List UInt8) (h : (decide (0 ≤ k ∧ k < l.length ∧ l.length ≤ 1000000)) = true) : withF_e c l k n b = some (.sl (C := RC) .sector false (l.set k.toNat ⟨n, b⟩)) := by
  rw [withF_eq]
  obtain ⟨h0, h1, h2⟩ := of_decide_eq_true h
  have w1 : IntKind.i64.wrap (k + 1) = k + 1 := wrap_id (by omega) (by omega)
  have t1 : (k + 1).toNat = k.toNat + 1 := by omega
  have hk : k.toNat < l.length := by omega
  have e0 := set_eq l k.toNat (⟨n, b⟩ : Sector) hk
  have m1 : min k.toNat l.length = k.toNat := by omega
  simp only [w1, t1, List.drop_zero, List.length_take, List.length_cons, List.length_nil, List.length_append, List.length_drop, m1, Nat.zero_add]
  repeat (refine cond_of (by first | assumption | exact lenOK_of (by omega) | exact sizeT (by omega) | (simp; done) | (simp; omega) | (simp [sizeOK]; omega)) ?_)
  rw [e0]
noncomputable def uu_7 := uu_6.addSpec 48 withF_sp
theorem uu_7_laws : FLaws Try.prog s07 uu_7 := uu_6_laws.addEv s07_laws fun args d h => by
  unfold withF_sp at h
  split at h
  · unfold withF_s at h
    have h1 := congrArg Prod.fst (Option.some.inj h)
    obtain rfl : _ = d := congrArg Prod.snd (Option.some.inj h)
    exact ⟨by simp [D.refs], 40, withF_ok _ _ _ _ _ h1⟩
  · cases h
def putD_s (c : Bool) (now : List Sector) (d : Bool) (sure : List Sector) (k : Int) (n : Int) (b : List UInt8) : Option (Bool × D RC) := some (goodL now && goodL sure && lenOK b.length, .tup (.acons (.acons (.sl (C := RC) .sector (!okPut now sure k n b) (pNow now sure k n b)) (.acons (.sl (C := RC) .sector (!okPut now sure k n b) (pSure now sure k n b)) .anil)) (.acons (.int .i64 (bif okPut now sure k n b then 0 else 2)) .anil)))
def putD_sp : List (D RC) → Option (Bool × D RC)
  | [.acons (.sl .sector c now) (.acons (.sl .sector d sure) .anil), .int .i64 k, .int .i64 n, .str b] => putD_s c now d sure k n b
  | _ => none
noncomputable def putD_e (c : Bool) (now : List Sector) (d : Bool) (sure : List Sector) (k : Int) (n : Int) (b : List UInt8) := evF s07 uu_7 40 29 [.acons (.sl (C := RC) .sector c now) (.acons (.sl (C := RC) .sector d sure) .anil), .int .i64 k, .int .i64 n, .str b]
theorem putD_eq (c : Bool) (now : List Sector) (d : Bool) (sure : List Sector) (k : Int) (n : Int) (b : List UInt8) : putD_e c now d sure k n b = (bif goodL now && goodL sure then bif (bif diskOK now sure then (0 : Int) else (2 : Int)) != (0 : Int) then some (D.tup (D.acons (D.acons (D.sl RTy.sector true []) (.acons (D.sl RTy.sector true []) .anil)) (.acons (D.int .i64 (2 : Int)) .anil))) else bif decide (k < (0 : Int)) then some (D.tup (D.acons (D.acons (D.sl RTy.sector true []) (.acons (D.sl RTy.sector true []) .anil)) (.acons (D.int .i64 (2 : Int)) .anil))) else bif decide ((33 : Int) ≤ k) then some (D.tup (D.acons (D.acons (D.sl RTy.sector true []) (.acons (D.sl RTy.sector true []) .anil)) (.acons (D.int .i64 (2 : Int)) .anil))) else bif decide (n < (1 : Int)) then some (D.tup (D.acons (D.acons (D.sl RTy.sector true []) (.acons (D.sl RTy.sector true []) .anil)) (.acons (D.int .i64 (2 : Int)) .anil))) else bif b == Array.toList #[] then some (D.tup (D.acons (D.acons (D.sl RTy.sector true []) (.acons (D.sl RTy.sector true []) .anil)) (.acons (D.int .i64 (2 : Int)) .anil))) else bif lenOK b.length then bif !maySec (Sector.mk n b) then some (D.tup (D.acons (D.acons (D.sl RTy.sector true []) (.acons (D.sl RTy.sector true []) .anil)) (.acons (D.int .i64 (2 : Int)) .anil))) else bif decide ((0 : Nat) < List.length now ∧ List.length now ≤ (1000000 : Nat)) then bif decide ((0 : Nat) < List.length sure ∧ List.length sure ≤ (1000000 : Nat)) then bif decide ((0 : Int) ≤ k ∧ k < (↑now.length : Int)) then bif decide (Sector.n (List.getD now k.toNat (Sector.mk (0 : Int) [])) < n) then bif decide ((0 : Int) ≤ k ∧ k < (↑now.length : Int) ∧ List.length now ≤ (1000000 : Nat)) then some (D.tup (D.acons (D.acons (D.sl RTy.sector false (List.set now k.toNat (Sector.mk n b))) (.acons (D.sl RTy.sector false sure) .anil)) (.acons (D.int .i64 (0 : Int)) .anil))) else none else some (D.tup (D.acons (D.acons (D.sl RTy.sector false now) (.acons (D.sl RTy.sector false sure) .anil)) (.acons (D.int .i64 (0 : Int)) .anil))) else none else none else none else none else none) := by kernel_rfl
theorem putD_ok (c : Bool) (now : List Sector) (d : Bool) (sure : List Sector) (k : Int) (n : Int) (b : List UInt8) (h : (goodL now && goodL sure && lenOK b.length) = true) : putD_e c now d sure k n b = some (.tup (.acons (.acons (.sl (C := RC) .sector (!okPut now sure k n b) (pNow now sure k n b)) (.acons (.sl (C := RC) .sector (!okPut now sure k n b) (pSure now sure k n b)) .anil)) (.acons (.int .i64 (bif okPut now sure k n b then 0 else 2)) .anil))) := by
  rw [putD_eq]
  simp only [Bool.and_eq_true] at h
  obtain ⟨⟨hg, hgs⟩, hb⟩ := h
  have hgg : (goodL now && goodL sure) = true := by rw [hg, hgs]; rfl
  have no : okPut now sure k n b = false → some (D.tup (.acons (.acons (.sl (C := RC) .sector true []) (.acons (.sl (C := RC) .sector true []) .anil)) (.acons (.int .i64 2) .anil))) = some (.tup (.acons (.acons (.sl (C := RC) .sector (!okPut now sure k n b) (pNow now sure k n b)) (.acons (.sl (C := RC) .sector (!okPut now sure k n b) (pSure now sure k n b)) .anil)) (.acons (.int .i64 (bif okPut now sure k n b then 0 else 2)) .anil))) := fun e => by simp only [e, pNow, pSure]; rfl
  refine cond_of hgg ?_
  cases hd : diskOK now sure
  · exact cond_of rfl (no (okPut_not fun f => by rw [hd] at f; cases f.1))
  obtain ⟨l1, l2⟩ := diskOK_len hd
  refine cond_no rfl (cond_two (fun e => no (okPut_not fun f => by simp only [decide_eq_true_eq] at e; omega)) fun e1 => ?_)
  refine (cond_two (fun e => no (okPut_not fun f => by simp only [decide_eq_true_eq] at e; omega)) fun e2 => ?_)
  refine (cond_two (fun e => no (okPut_not fun f => by simp only [decide_eq_true_eq] at e; omega)) fun e3 => ?_)
  refine (cond_two (fun e => no (okPut_not fun f => f.2.2.2.2.1 (by simpa using e))) fun e4 => ?_)
  refine cond_of hb ?_
  refine (cond_two (fun e => no (okPut_not fun f => by rw [f.2.2.2.2.2] at e; cases e)) fun e5 => ?_)
  simp only [decide_eq_false_iff_not] at e1 e2 e3
  have ok : okPut now sure k n b = true := by
    simp only [okPut, hd, Bool.true_and, Bool.and_eq_true, decide_eq_true_eq]
    exact ⟨⟨⟨⟨by omega, by omega⟩, by omega⟩, by simpa using e4⟩, by simpa using e5⟩
  rw [ok]
  simp only [pNow, pSure, ok, cond_true, Bool.not_true]
  repeat (refine cond_of (by first | assumption | exact lenOK_of (by omega) | exact sizeT (by omega) | (simp; done) | (simp; omega) | (simp [sizeOK]; omega)) ?_)
  refine cond_two (fun e => ?_) fun e => ?_ <;> simp only [decide_eq_true_eq, decide_eq_false_iff_not] at e
  · have pn : putNow now k.toNat n b = now.set k.toNat ⟨n, b⟩ := if_pos e
    rw [pn]
    repeat (refine cond_of (by first | assumption | exact lenOK_of (by omega) | exact sizeT (by omega) | (simp; done) | (simp; omega) | (simp [sizeOK]; omega)) ?_)
    rfl
  · have pn : putNow now k.toNat n b = now := if_neg e
    rw [pn]
noncomputable def uu_8 := uu_7.addSpec 29 putD_sp
theorem uu_8_laws : FLaws Try.prog s07 uu_8 := uu_7_laws.addEv s07_laws fun args d h => by
  unfold putD_sp at h
  split at h
  · unfold putD_s at h
    have h1 := congrArg Prod.fst (Option.some.inj h)
    obtain rfl : _ = d := congrArg Prod.snd (Option.some.inj h)
    exact ⟨by simp [D.refs], 40, putD_ok _ _ _ _ _ _ _ h1⟩
  · cases h
def getD_s (c : Bool) (now : List Sector) (d : Bool) (sure : List Sector) (k : Int) : Option (Bool × D RC) := some (goodL now && goodL sure, .tup (.acons (.acons (.int .i64 (getS now sure k).n) (.acons (.str (getS now sure k).b) .anil)) (.acons (.int .i64 (bif okGet now sure k then 0 else 2)) .anil)))
def getD_sp : List (D RC) → Option (Bool × D RC)
  | [.acons (.sl .sector c now) (.acons (.sl .sector d sure) .anil), .int .i64 k] => getD_s c now d sure k
  | _ => none
noncomputable def getD_e (c : Bool) (now : List Sector) (d : Bool) (sure : List Sector) (k : Int) := evF s07 uu_8 40 30 [.acons (.sl (C := RC) .sector c now) (.acons (.sl (C := RC) .sector d sure) .anil), .int .i64 k]
theorem getD_eq (c : Bool) (now : List Sector) (d : Bool) (sure : List Sector) (k : Int) : getD_e c now d sure k = (bif goodL now && goodL sure then bif (bif diskOK now sure then (0 : Int) else (2 : Int)) != (0 : Int) then some (D.tup (D.acons (D.acons (D.int .i64 (0 : Int)) (.acons (D.str []) .anil)) (.acons (D.int .i64 (2 : Int)) .anil))) else bif decide (k < (0 : Int)) then some (D.tup (D.acons (D.acons (D.int .i64 (0 : Int)) (.acons (D.str []) .anil)) (.acons (D.int .i64 (2 : Int)) .anil))) else bif decide ((33 : Int) ≤ k) then some (D.tup (D.acons (D.acons (D.int .i64 (0 : Int)) (.acons (D.str []) .anil)) (.acons (D.int .i64 (2 : Int)) .anil))) else bif decide ((0 : Int) ≤ k ∧ k < (↑now.length : Int)) then some (D.tup (D.acons (D.acons (D.int .i64 (Sector.n (List.getD now k.toNat (Sector.mk (0 : Int) [])))) (.acons (D.str (Sector.b (List.getD now k.toNat (Sector.mk (0 : Int) [])))) .anil)) (.acons (D.int .i64 (0 : Int)) .anil))) else none else none) := by kernel_rfl
theorem getD_ok (c : Bool) (now : List Sector) (d : Bool) (sure : List Sector) (k : Int) (h : (goodL now && goodL sure) = true) : getD_e c now d sure k = some (.tup (.acons (.acons (.int .i64 (getS now sure k).n) (.acons (.str (getS now sure k).b) .anil)) (.acons (.int .i64 (bif okGet now sure k then 0 else 2)) .anil))) := by
  rw [getD_eq]
  have hgg := h
  rw [Bool.and_eq_true] at h
  obtain ⟨hg, hgs⟩ := h
  have no : okGet now sure k = false → some (D.tup (.acons (.acons (.int .i64 0) (.acons (.str []) .anil)) (.acons (.int .i64 2) .anil))) = some (.tup (.acons (.acons (.int .i64 (getS now sure k).n) (.acons (.str (getS now sure k).b) .anil)) (.acons (.int .i64 (bif okGet now sure k then 0 else 2)) .anil)) : D RC) := fun e => by simp only [getS, e]; rfl
  refine cond_of hgg ?_
  cases hd : diskOK now sure
  · exact cond_of rfl (no (by simp [okGet, hd]))
  obtain ⟨l1, l2⟩ := diskOK_len hd
  refine cond_no rfl (cond_two (fun e => no (by simp only [decide_eq_true_eq] at e; simp [okGet]; omega)) fun e1 => ?_)
  refine (cond_two (fun e => no (by simp only [decide_eq_true_eq] at e; simp [okGet]; omega)) fun e2 => ?_)
  simp only [decide_eq_false_iff_not] at e1 e2
  have ok : okGet now sure k = true := by simp [okGet, hd]; omega
  rw [ok]
  simp only [getS, ok, cond_true, sec0]
  repeat (refine cond_of (by first | assumption | exact lenOK_of (by omega) | exact sizeT (by omega) | (simp; done) | (simp; omega) | (simp [sizeOK]; omega)) ?_)
  rfl
noncomputable def uu_9 := uu_8.addSpec 30 getD_sp
theorem uu_9_laws : FLaws Try.prog s07 uu_9 := uu_8_laws.addEv s07_laws fun args d h => by
  unfold getD_sp at h
  split at h
  · unfold getD_s at h
    have h1 := congrArg Prod.fst (Option.some.inj h)
    obtain rfl : _ = d := congrArg Prod.snd (Option.some.inj h)
    exact ⟨by simp [D.refs], 40, getD_ok _ _ _ _ _ h1⟩
  · cases h
theorem partBytes_len (c : Int) (l : List Line) : (partBytes c l).length = 7 + 5 * l.length := by
  simp only [partBytes, List.length_append, leB_length, flatMap_len l lBytes 5 lBytes_len]
theorem stBytes_len {s : St} (h : standsOK s = true) : (stBytes s).length ≤ 385 := by
  obtain ⟨p, it, l0, l1, l2, c0, c1, c2⟩ := s
  obtain ⟨hp, hn, hi, h0, h1, h2⟩ := stands_facts h
  simp only [stBytes, List.length_append, leB_length, flatMap_len it iBytes 5 iBytes_len, partBytes_len]
  omega
def frN (b : List UInt8) : Int := ((readF b).getD (0, [])).1
def frL (b : List UInt8) : List UInt8 := ((readF b).getD (0, [])).2
theorem getP_in {b : List UInt8} {a w : Int} (h1 : 1 ≤ w) (h2 : w ≤ 6) (h3 : 0 ≤ a) (h4 : a + w ≤ b.length) : getP b a w = ((leVal ((b.drop a.toNat).take w.toNat) : Int), 0) := by simp [getP, h1, h2, h3, h4]
theorem getP_out {b : List UInt8} {a w : Int} (h1 : 1 ≤ w) (h2 : w ≤ 6) (h4 : b.length < a + w) : getP b a w = (0, 50) := by
  have : ¬ a + w ≤ (b.length : Int) := by omega
  simp [getP, h1, h2, this]
theorem okF_not {n : Int} {l : List UInt8} (h : ¬ (1 ≤ n ∧ n ≤ 1048575 ∧ l.length ≤ 600)) : okF n l = false := by
  cases e : okF n l
  · rfl
  · simp only [okF, Bool.and_eq_true, decide_eq_true_eq] at e; exact absurd ⟨e.1.1, e.1.2, e.2⟩ h
def ofF (s : Sector) : Option (List UInt8) := (readF s.b).bind fun p => if p.1 = s.n then some p.2 else none
def ckAt (s : Sector) : Option St := (ofF s).bind fun l => (readS l).bind fun st => if st.place ≤ s.n then some st else none
def errC (now sure : List Sector) : Int := bif okGet now sure 32 then (bif (getS now sure 32).n == 0 then 60 else bif (ckAt (getS now sure 32)).isNone then 50 else 0) else 2
def stOf (now sure : List Sector) : Option St := bif okGet now sure 32 then (bif (getS now sure 32).n == 0 then none else ckAt (getS now sure 32)) else none
def numC (now sure : List Sector) : Int := bif (stOf now sure).isNone then 0 else (getS now sure 32).n
def okCk (n : Int) (s : St) : Bool := decide (1 ≤ n) && decide (n ≤ 1048575) && decide (s.place ≤ n) && standsOK s
def ckB (n : Int) (s : St) : List UInt8 := bif okCk n s then frameB n (stBytes s) else []
theorem okCk_F {n : Int} {s : St} (h : okCk n s = true) : okF n (stBytes s) = true := by
  simp only [okCk, Bool.and_eq_true, decide_eq_true_eq] at h
  have := stBytes_len h.2
  simp only [okF, Bool.and_eq_true, decide_eq_true_eq]; omega
theorem ckB_len {n : Int} {s : St} : (ckB n s).length ≤ 397 := by
  unfold ckB
  cases h : okCk n s
  · simp
  · simp only [okCk, Bool.and_eq_true, decide_eq_true_eq] at h
    have := stBytes_len h.2
    simp only [cond_true, frameB_len]; omega
theorem ckB_ne {n : Int} {s : St} (h : okCk n s = true) : ckB n s ≠ [] := by
  intro e
  have := congrArg List.length e
  simp [ckB, h, frameB_len] at this
theorem getS_len (now sure : List Sector) (k : Int) : (getS now sure k).b.length ≤ 640 := by
  unfold getS
  cases h : okGet now sure k
  · simp [sec0]
  · have l := h
    simp only [okGet, Bool.and_eq_true, decide_eq_true_eq, diskOK, rowOK] at l
    have hm : k.toNat < now.length := by omega
    have e : now.getD k.toNat sec0 = now[k.toNat] := by simp [hm]
    have m := List.all_eq_true.1 l.1.1.1.2 _ (List.getElem_mem hm)
    simp only [maySec, Bool.and_eq_true, decide_eq_true_eq] at m
    rw [cond_true, e]; exact m.1.2
theorem okCk_not {n : Int} {s : St} (h : ¬ (1 ≤ n ∧ n ≤ 1048575 ∧ s.place ≤ n ∧ standsOK s = true)) : okCk n s = false := by
  cases e : okCk n s
  · rfl
  · simp only [okCk, Bool.and_eq_true, decide_eq_true_eq] at e; exact absurd ⟨e.1.1.1, e.1.1.2, e.1.2, e.2⟩ h
theorem ofF_len (s : Sector) : ((ofF s).getD []).length ≤ s.b.length := by
  unfold ofF
  cases h : readF s.b with
  | none => simp
  | some p =>
    obtain ⟨n, l⟩ := p
    have h2 := congrArg List.length (readF_ok h).2
    rw [frameB_len] at h2
    by_cases e : n = s.n
    · simp [e]; omega
    · simp [e]
open Go.Proofs
def frSize_s (n : Int) : Option (Bool × D RC) := some (decide (n ≤ 1000000), .int .i64 (bif decide (n < 0) || decide (600 < n) then 0 else n + 12))
def frSize_sp : List (D RC) → Option (Bool × D RC)
  | [.int .i64 n] => frSize_s n
  | _ => none
noncomputable def frSize_e (n : Int) := evF s07 uu_9 40 55 [.int .i64 n]
theorem frSize_eq (n : Int) : frSize_e n = (bif decide (n < (0 : Int)) then some (D.int .i64 (0 : Int)) else bif decide ((600 : Int) < n) then some (D.int .i64 (0 : Int)) else some (D.int .i64 (IntKind.wrap .i64 (IntKind.wrap .i64 ((8 : Int) + n) + (4 : Int))))) := by kernel_rfl
theorem frSize_ok (n : Int) (h : (decide (n ≤ 1000000)) = true) : frSize_e n = some (.int .i64 (bif decide (n < 0) || decide (600 < n) then 0 else n + 12)) := by
  rw [frSize_eq]
  have hl := of_decide_eq_true h
  by_cases h0 : n < 0
  · simp [h0]
  by_cases h6 : 600 < n
  · simp [h0, h6]
  have w1 : IntKind.i64.wrap (8 + n) = 8 + n := wrap_id (by omega) (by omega)
  have w2 : IntKind.i64.wrap (8 + n + 4) = 8 + n + 4 := wrap_id (by omega) (by omega)
  simp [h0, h6, w1, w2]
  omega
noncomputable def uv_1 := uu_9.addSpec 55 frSize_sp
theorem uv_1_laws : FLaws Try.prog s07 uv_1 := uu_9_laws.addEv s07_laws fun args d h => by
  unfold frSize_sp at h
  split at h
  · unfold frSize_s at h
    have h1 := congrArg Prod.fst (Option.some.inj h)
    obtain rfl : _ = d := congrArg Prod.snd (Option.some.inj h)
    exact ⟨by simp [D.refs], 40, frSize_ok _ h1⟩
  · cases h
def frBytes_s (n : Int) (b : List UInt8) : Option (Bool × D RC) := some (decide (b.length ≤ 1000000), .tup (.acons (.str (bif okF n b then frameB n b else [])) (.acons (.int .i64 (bif okF n b then 0 else 2)) .anil)))
def frBytes_sp : List (D RC) → Option (Bool × D RC)
  | [.int .i64 n, .str b] => frBytes_s n b
  | _ => none
noncomputable def frBytes_e (n : Int) (b : List UInt8) := evF s07 uv_1 60 39 [.int .i64 n, .str b]
theorem frBytes_eq (n : Int) (b : List UInt8) : frBytes_e n b = (bif (bif fitsB n (6 : Nat) then (0 : Int) else (2 : Int)) != (0 : Int) then some (D.tup (D.acons (D.str (Array.toList #[])) (.acons (D.int .i64 (2 : Int)) .anil))) else bif decide (n < (1 : Int)) then some (D.tup (D.acons (D.str (Array.toList #[])) (.acons (D.int .i64 (2 : Int)) .anil))) else bif decide ((1048575 : Int) < n) then some (D.tup (D.acons (D.str (Array.toList #[])) (.acons (D.int .i64 (2 : Int)) .anil))) else bif lenOK b.length then bif decide ((↑b.length : Int) ≤ (1000000 : Int)) then bif (bif decide ((↑b.length : Int) < (0 : Int)) || decide ((600 : Int) < (↑b.length : Int)) then (0 : Int) else (↑b.length : Int) + (12 : Int)) == (0 : Int) then some (D.tup (D.acons (D.str (Array.toList #[])) (.acons (D.int .i64 (2 : Int)) .anil))) else bif lenOK b.length then bif sizeOK b.length (1 : Nat) then bif sizeOK ((0 : Nat) + List.length (putL [] n (6 : Nat))) (1 : Nat) then bif Nat.beq ((0 : Nat) + List.length (putL [] n (6 : Nat))) ([] ++ putL [] n (6 : Nat)).length && sizeOK ((0 : Nat) + List.length (putL [] n (6 : Nat)) + List.length (putL [] (↑b.length : Int) (2 : Nat))) (1 : Nat) then bif Nat.beq (List.length ([] ++ putL [] n (6 : Nat)) + List.length (putL [] (↑b.length : Int) (2 : Nat))) ([] ++ putL [] n (6 : Nat) ++ putL [] (↑b.length : Int) (2 : Nat)).length && sizeOK (List.length ([] ++ putL [] n (6 : Nat)) + List.length (putL [] (↑b.length : Int) (2 : Nat)) + List.length b) (1 : Nat) then bif Nat.beq (List.length ([] ++ putL [] n (6 : Nat) ++ putL [] (↑b.length : Int) (2 : Nat)) + List.length b) ([] ++ putL [] n (6 : Nat) ++ putL [] (↑b.length : Int) (2 : Nat) ++ b).length then bif decide (List.length ([] ++ putL [] n (6 : Nat) ++ putL [] (↑b.length : Int) (2 : Nat) ++ b) ≤ (1000000 : Nat)) then some (D.tup (D.acons (D.str (sealL ([] ++ putL [] n (6 : Nat) ++ putL [] (↑b.length : Int) (2 : Nat) ++ b))) (.acons (D.int .i64 (0 : Int)) .anil))) else none else none else none else none else none else none else none else none else none) := by kernel_rfl
theorem frBytes_ok (n : Int) (b : List UInt8) (h : (decide (b.length ≤ 1000000)) = true) : frBytes_e n b = some (.tup (.acons (.str (bif okF n b then frameB n b else [])) (.acons (.int .i64 (bif okF n b then 0 else 2)) .anil))) := by
  rw [frBytes_eq]
  have hl := of_decide_eq_true h
  have lb : lenOK b.length = true := lenOK_of (by omega)
  have ld : decide ((b.length : Int) ≤ 1000000) = true := by simp; omega
  have no : okF n b = false → some (D.tup (.acons (.str []) (.acons (.int .i64 2) .anil))) = some (.tup (.acons (.str (bif okF n b then frameB n b else [])) (.acons (.int .i64 (bif okF n b then 0 else 2)) .anil)) : D RC) := fun e => by rw [e]; rfl
  refine cond_two (fun e => no (okF_not fun f => by rw [show fitsB n 6 = true by rw [fitsB_iff]; omega] at e; cases e)) fun e0 => ?_
  refine cond_two (fun e => no (okF_not fun f => by simp only [decide_eq_true_eq] at e; omega)) fun e1 => ?_
  refine cond_two (fun e => no (okF_not fun f => by simp only [decide_eq_true_eq] at e; omega)) fun e2 => ?_
  refine cond_of lb (cond_of ld ?_)
  simp only [decide_eq_false_iff_not] at e1 e2
  by_cases h6 : 600 < (b.length : Int)
  · refine cond_of ?_ (no (okF_not fun f => by omega))
    simp [h6]
  refine cond_no ?_ ?_
  · have : ¬ (b.length : Int) < 0 := by omega
    simp [this, h6]; omega
  have ok : okF n b = true := by simp only [okF, Bool.and_eq_true, decide_eq_true_eq]; omega
  have f6 : fitsB n 6 = true := by rw [fitsB_iff]; omega
  have f2 : fitsB (b.length : Int) 2 = true := by rw [fitsB_iff]; omega
  have p6 : putL [] n 6 = leB n 6 := (putL_fits f6).trans (List.nil_append _)
  have p2 : putL [] (b.length : Int) 2 = leB b.length 2 := (putL_fits f2).trans (List.nil_append _)
  simp only [p6, p2, List.nil_append, leB_length, List.length_append, Nat.zero_add]
  have hb6 : b.length ≤ 600 := by omega
  have es : ∀ k : Nat, k ≤ 700 → sizeOK k 1 = true := fun k hk => sizeT (by omega)
  have eb : ∀ n : Nat, n.beq n = true := fun n => by simp
  have ed : decide (6 + 2 + b.length ≤ 1000000) = true := by simp; omega
  simp (disch := omega) only [es, eb, lb, ed, Bool.and_self, cond_true]
  rw [ok]
  rfl
noncomputable def uv_2 := uv_1.addSpec 39 frBytes_sp
theorem uv_2_laws : FLaws Try.prog s07 uv_2 := uv_1_laws.addEv s07_laws fun args d h => by
  unfold frBytes_sp at h
  split at h
  · unfold frBytes_s at h
    have h1 := congrArg Prod.fst (Option.some.inj h)
    obtain rfl : _ = d := congrArg Prod.snd (Option.some.inj h)
    exact ⟨by simp [D.refs], 60, frBytes_ok _ _ h1⟩
  · cases h
def frRead_s (b : List UInt8) : Option (Bool × D RC) := some (decide (b.length ≤ 1000000), .tup (.acons (.int .i64 (frN b)) (.acons (.str (frL b)) (.acons (.int .i64 (bif (readF b).isNone then 50 else 0)) .anil))))
def frRead_sp : List (D RC) → Option (Bool × D RC)
  | [.str b] => frRead_s b
  | _ => none
noncomputable def frRead_e (b : List UInt8) := evF s07 uv_2 60 49 [.str b]
theorem frRead_eq (b : List UInt8) : frRead_e b = (bif sizeOK b.length (1 : Nat) then bif decide (List.length ((fun (l : List UInt8) => l) b) ≤ (1000000 : Nat)) then bif decide (List.length (Option.getD (openL ((fun (l : List UInt8) => l) b)) []) ≤ (1000000000000 : Nat)) then bif decide (List.length (Option.getD (openL ((fun (l : List UInt8) => l) b)) []) ≤ (1000000000000 : Nat)) then bif (bif Option.isNone (openL ((fun (l : List UInt8) => l) b)) then (50 : Int) else (0 : Int)) != (0 : Int) then some (D.tup (D.acons (D.int .i64 (0 : Int)) (.acons (D.str (Array.toList #[])) (.acons (D.int .i64 (50 : Int)) .anil)))) else bif Prod.snd (getP (Option.getD (openL ((fun (l : List UInt8) => l) b)) []) (6 : Int) (2 : Int)) != (0 : Int) then some (D.tup (D.acons (D.int .i64 (0 : Int)) (.acons (D.str (Array.toList #[])) (.acons (D.int .i64 (50 : Int)) .anil)))) else bif lenOK (Option.getD (openL ((fun (l : List UInt8) => l) b)) []).length then bif bif Prod.fst (getP (Option.getD (openL ((fun (l : List UInt8) => l) b)) []) (6 : Int) (2 : Int)) != IntKind.wrap .i64 (IntKind.wrap .i64 ((↑(Option.getD (openL ((fun (l : List UInt8) => l) b)) []).length : Int) - (6 : Int)) - (2 : Int)) then true else bif decide ((600 : Int) < Prod.fst (getP (Option.getD (openL ((fun (l : List UInt8) => l) b)) []) (6 : Int) (2 : Int))) then true else bif decide (Prod.fst (getP (Option.getD (openL ((fun (l : List UInt8) => l) b)) []) (0 : Int) (6 : Int)) < (1 : Int)) then true else decide ((1048575 : Int) < Prod.fst (getP (Option.getD (openL ((fun (l : List UInt8) => l) b)) []) (0 : Int) (6 : Int))) then some (D.tup (D.acons (D.int .i64 (0 : Int)) (.acons (D.str (Array.toList #[])) (.acons (D.int .i64 (50 : Int)) .anil)))) else bif lenOK (Option.getD (openL ((fun (l : List UInt8) => l) b)) []).length then bif lenOK (Option.getD (openL ((fun (l : List UInt8) => l) b)) []).length then bif decide ((0 : Int) ≤ (8 : Int) ∧ (8 : Int) ≤ (↑(Option.getD (openL ((fun (l : List UInt8) => l) b)) []).length : Int) ∧ (↑(Option.getD (openL ((fun (l : List UInt8) => l) b)) []).length : Int) ≤ (↑(Option.getD (openL ((fun (l : List UInt8) => l) b)) []).length : Int) ∧ (↑(Option.getD (openL ((fun (l : List UInt8) => l) b)) []).length : Int) = (↑(Option.getD (openL ((fun (l : List UInt8) => l) b)) []).length : Int)) then some (D.tup (D.acons (D.int .i64 (getP (Option.getD (openL ((fun (l : List UInt8) => l) b)) []) (0 : Int) (6 : Int)).1) (.acons (D.str (List.drop (8 : Nat) (List.take (↑(Option.getD (openL ((fun (l : List UInt8) => l) b)) []).length : Int).toNat (Option.getD (openL ((fun (l : List UInt8) => l) b)) [])))) (.acons (D.int .i64 (0 : Int)) .anil)))) else none else none else none else none else none else none else none else none) := by kernel_rfl
theorem frRead_ok (b : List UInt8) (h : (decide (b.length ≤ 1000000)) = true) : frRead_e b = some (.tup (.acons (.int .i64 (frN b)) (.acons (.str (frL b)) (.acons (.int .i64 (bif (readF b).isNone then 50 else 0)) .anil)))) := by
  rw [frRead_eq]
  have hl := of_decide_eq_true h
  have hs : sizeOK b.length 1 = true := sizeT (by omega)
  cases hq : openL b with
  | none =>
    have hr : readF b = none := by simp [readF, hq]
    simp [hs, hl, hq, hr, frN, frL]
  | some x =>
    have hx := openL_len hq
    have lk : lenOK x.length = true := lenOK_of (by omega)
    have d1 : x.length ≤ 1000000000000 := by omega
    have hr : readF b = if 8 ≤ x.length ∧ leVal ((x.drop 6).take 2) + 8 = x.length ∧ x.length ≤ 608 ∧ 1 ≤ leVal (x.take 6) ∧ leVal (x.take 6) ≤ 1048575 then some ((leVal (x.take 6) : Int), x.drop 8) else none := by simp only [readF, hq]
    by_cases h8 : x.length < 8
    · have g2 : getP x 6 2 = (0, 50) := getP_out (by omega) (by omega) (by omega)
      have hr' : readF b = none := by rw [hr, if_neg (by omega)]
      simp [hs, hl, hq, hr', g2, d1, frN, frL]
    · have g2 : getP x 6 2 = ((leVal ((x.drop 6).take 2) : Int), 0) := getP_in (by omega) (by omega) (by omega) (by omega)
      have g6 : getP x 0 6 = ((leVal (x.take 6) : Int), 0) := getP_in (by omega) (by omega) (by omega) (by omega)
      have w1 : IntKind.i64.wrap ((x.length : Int) - 6) = x.length - 6 := wrap_id (by omega) (by omega)
      have w2 : IntKind.i64.wrap ((x.length : Int) - 6 - 2) = x.length - 6 - 2 := wrap_id (by omega) (by omega)
      have dd : (0 : Int) ≤ 8 ∧ 8 ≤ (x.length : Int) ∧ (x.length : Int) ≤ x.length ∧ (x.length : Int) = x.length := by omega
      generalize leVal ((x.drop 6).take 2) = v2 at hr g2
      generalize leVal (x.take 6) = v6 at hr g6
      by_cases C : 8 ≤ x.length ∧ v2 + 8 = x.length ∧ x.length ≤ 608 ∧ 1 ≤ v6 ∧ v6 ≤ 1048575
      · rw [if_pos C] at hr
        have c1 : ((v2 : Int) != (x.length : Int) - 6 - 2) = false := by simp [bne]; omega
        have c2 : ¬ 600 < (v2 : Int) := by omega
        have c3 : ¬ (v6 : Int) < 1 := by omega
        have c4 : ¬ 1048575 < (v6 : Int) := by omega
        have dx : (8 : Int) ≤ x.length := by omega
        simp [hs, hl, hq, hr, g2, g6, d1, frN, frL, lk, w1, w2, c1, c2, c3, c4, dx]
      · rw [if_neg C] at hr
        have c5 : (bif ((v2 : Int) != (x.length : Int) - 6 - 2) then true else bif decide (600 < (v2 : Int)) then true else bif decide ((v6 : Int) < 1) then true else decide (1048575 < (v6 : Int))) = true := by
          cases c1 : ((v2 : Int) != (x.length : Int) - 6 - 2)
          · simp [bne] at c1
            by_cases c2 : 600 < (v2 : Int)
            · simp [c2]
            by_cases c3 : (v6 : Int) < 1
            · simp [c3]
            by_cases c4 : 1048575 < (v6 : Int)
            · simp [c4]
            · exact absurd ⟨by omega, by omega, by omega, by omega, by omega⟩ C
          · rfl
        simp only [hs, hl, hq, hr, g2, g6, d1, frN, frL, lk, w1, w2, c5, Option.getD_some, Option.getD_none, Option.isNone_some, Option.isNone_none, cond_true, cond_false, decide_true]
        rfl
noncomputable def uv_3 := uv_2.addSpec 49 frRead_sp
theorem uv_3_laws : FLaws Try.prog s07 uv_3 := uv_2_laws.addEv s07_laws fun args d h => by
  unfold frRead_sp at h
  split at h
  · unfold frRead_s at h
    have h1 := congrArg Prod.fst (Option.some.inj h)
    obtain rfl : _ = d := congrArg Prod.snd (Option.some.inj h)
    exact ⟨by simp [D.refs], 60, frRead_ok _ h1⟩
  · cases h
def frOf_s (n : Int) (b : List UInt8) : Option (Bool × D RC) := some (decide (b.length ≤ 1000000), .tup (.acons (.str ((ofF ⟨n, b⟩).getD [])) (.acons (.bool (ofF ⟨n, b⟩).isSome) .anil)))
def frOf_sp : List (D RC) → Option (Bool × D RC)
  | [.acons (.int .i64 n) (.acons (.str b) .anil)] => frOf_s n b
  | _ => none
noncomputable def frOf_e (n : Int) (b : List UInt8) := evF s07 uv_3 40 31 [.acons (.int .i64 n) (.acons (.str b) .anil)]
theorem frOf_eq (n : Int) (b : List UInt8) : frOf_e n b = (bif decide (List.length b ≤ (1000000 : Nat)) then bif (bif Option.isNone (readF b) then (50 : Int) else (0 : Int)) != (0 : Int) then some (D.tup (D.acons (D.str (Array.toList #[])) (.acons (D.bool false) .anil))) else bif frN b != n then some (D.tup (D.acons (D.str (Array.toList #[])) (.acons (D.bool false) .anil))) else some (D.tup (D.acons (D.str (frL b)) (.acons (D.bool true) .anil))) else none) := by kernel_rfl
theorem frOf_ok (n : Int) (b : List UInt8) (h : (decide (b.length ≤ 1000000)) = true) : frOf_e n b = some (.tup (.acons (.str ((ofF ⟨n, b⟩).getD [])) (.acons (.bool (ofF ⟨n, b⟩).isSome) .anil))) := by
  rw [frOf_eq]
  rw [h]
  simp only [frN, frL, ofF, cond_true]
  cases hr : readF b with
  | none => rfl
  | some p =>
    obtain ⟨m, l⟩ := p
    by_cases e : m = n
    · subst e; simp [bne]
    · have e2 : (m != n) = true := by simpa [bne] using e
      simp [e, e2]
noncomputable def uv_4 := uv_3.addSpec 31 frOf_sp
theorem uv_4_laws : FLaws Try.prog s07 uv_4 := uv_3_laws.addEv s07_laws fun args d h => by
  unfold frOf_sp at h
  split at h
  · unfold frOf_s at h
    have h1 := congrArg Prod.fst (Option.some.inj h)
    obtain rfl : _ = d := congrArg Prod.snd (Option.some.inj h)
    exact ⟨by simp [D.refs], 40, frOf_ok _ _ h1⟩
  · cases h
open Go.Proofs
def ckLoad_s (n : Int) (p : Int) (ci : Bool) (items : List Item) (k0 : Bool) (k1 : Bool) (k2 : Bool) (l0 : List Line) (l1 : List Line) (l2 : List Line) (c0 : Int) (c1 : Int) (c2 : Int) : Option (Bool × D RC) := some (decide (items.length ≤ 9223372036854775807 ∧ l0.length ≤ 9223372036854775807 ∧ l1.length ≤ 9223372036854775807 ∧ l2.length ≤ 9223372036854775807), .tup (.acons (.str (ckB n ⟨p, items, l0, l1, l2, c0, c1, c2⟩)) (.acons (.int .i64 (bif okCk n ⟨p, items, l0, l1, l2, c0, c1, c2⟩ then 0 else 2)) .anil)))
def ckLoad_sp : List (D RC) → Option (Bool × D RC)
  | [.int .i64 n, .acons (.int .i64 p) (.acons (.sl .item ci items) (.acons (.acons (.sl .line k0 l0) (.acons (.sl .line k1 l1) (.acons (.sl .line k2 l2) .anil))) (.acons (.arr .int 3 [c0, c1, c2]) .anil)))] => ckLoad_s n p ci items k0 k1 k2 l0 l1 l2 c0 c1 c2
  | _ => none
noncomputable def ckLoad_e (n : Int) (p : Int) (ci : Bool) (items : List Item) (k0 : Bool) (k1 : Bool) (k2 : Bool) (l0 : List Line) (l1 : List Line) (l2 : List Line) (c0 : Int) (c1 : Int) (c2 : Int) := evF s07 uv_4 40 20 [.int .i64 n, .acons (.int .i64 p) (.acons (.sl (C := RC) .item ci items) (.acons (.acons (.sl (C := RC) .line k0 l0) (.acons (.sl (C := RC) .line k1 l1) (.acons (.sl (C := RC) .line k2 l2) .anil))) (.acons (.arr (C := RC) .int 3 [c0, c1, c2]) .anil)))]
theorem ckLoad_eq (n : Int) (p : Int) (ci : Bool) (items : List Item) (k0 : Bool) (k1 : Bool) (k2 : Bool) (l0 : List Line) (l1 : List Line) (l2 : List Line) (c0 : Int) (c1 : Int) (c2 : Int) : ckLoad_e n p ci items k0 k1 k2 l0 l1 l2 c0 c1 c2 = (bif decide (List.length items ≤ (9223372036854775807 : Nat) ∧ List.length l0 ≤ (9223372036854775807 : Nat) ∧ List.length l1 ≤ (9223372036854775807 : Nat) ∧ List.length l2 ≤ (9223372036854775807 : Nat)) then bif decide (n < (1 : Int)) then some (D.tup (D.acons (D.str (Array.toList #[])) (.acons (D.int .i64 (2 : Int)) .anil))) else bif decide ((1048575 : Int) < n) then some (D.tup (D.acons (D.str (Array.toList #[])) (.acons (D.int .i64 (2 : Int)) .anil))) else bif bif decide (n < p) then true else (bif standsOK (St.mk p items l0 l1 l2 c0 c1 c2) then (0 : Int) else (2 : Int)) != (0 : Int) then some (D.tup (D.acons (D.str (Array.toList #[])) (.acons (D.int .i64 (2 : Int)) .anil))) else bif decide (List.length ((fun (l : List (RA RTy.u8)) => l) (bif standsOK (St.mk p items l0 l1 l2 c0 c1 c2) then stBytes (St.mk p items l0 l1 l2 c0 c1 c2) else [])) ≤ (1000000 : Nat)) then some (D.tup (D.acons (D.str (bif okF n ((fun (l : List (RA RTy.u8)) => l) (bif standsOK (St.mk p items l0 l1 l2 c0 c1 c2) then stBytes (St.mk p items l0 l1 l2 c0 c1 c2) else [])) then frameB n ((fun (l : List (RA RTy.u8)) => l) (bif standsOK (St.mk p items l0 l1 l2 c0 c1 c2) then stBytes (St.mk p items l0 l1 l2 c0 c1 c2) else [])) else [])) (.acons (D.int .i64 (bif okF n ((fun (l : List (RA RTy.u8)) => l) (bif standsOK (St.mk p items l0 l1 l2 c0 c1 c2) then stBytes (St.mk p items l0 l1 l2 c0 c1 c2) else [])) then (0 : Int) else (2 : Int))) .anil))) else none else none) := by kernel_rfl
theorem ckLoad_ok (n : Int) (p : Int) (ci : Bool) (items : List Item) (k0 : Bool) (k1 : Bool) (k2 : Bool) (l0 : List Line) (l1 : List Line) (l2 : List Line) (c0 : Int) (c1 : Int) (c2 : Int) (h : (decide (items.length ≤ 9223372036854775807 ∧ l0.length ≤ 9223372036854775807 ∧ l1.length ≤ 9223372036854775807 ∧ l2.length ≤ 9223372036854775807)) = true) : ckLoad_e n p ci items k0 k1 k2 l0 l1 l2 c0 c1 c2 = some (.tup (.acons (.str (ckB n ⟨p, items, l0, l1, l2, c0, c1, c2⟩)) (.acons (.int .i64 (bif okCk n ⟨p, items, l0, l1, l2, c0, c1, c2⟩ then 0 else 2)) .anil))) := by
  rw [ckLoad_eq]
  generalize hs : (⟨p, items, l0, l1, l2, c0, c1, c2⟩ : St) = s
  have hp : s.place = p := by rw [← hs]
  have no : okCk n s = false → some (D.tup (.acons (.str []) (.acons (.int .i64 2) .anil))) = some (.tup (.acons (.str (ckB n s)) (.acons (.int .i64 (bif okCk n s then 0 else 2)) .anil)) : D RC) := fun e => by simp only [ckB, e]; rfl
  refine cond_of h ?_
  have no2 : ∀ m : Int, okCk n s = false → some (D.tup (.acons (.str []) (.acons (.int .i64 2) .anil))) = some (.tup (.acons (.str (ckB n s)) (.acons (.int .i64 (bif okCk n s then 0 else 2)) .anil)) : D RC) := fun _ => no
  refine cond_two (fun e => no (okCk_not fun f => by simp only [decide_eq_true_eq] at e; omega)) fun e1 => ?_
  refine cond_two (fun e => no (okCk_not fun f => by simp only [decide_eq_true_eq] at e; omega)) fun e2 => ?_
  cases hst : standsOK s
  · exact cond_of (by cases decide (n < p) <;> rfl) (no (okCk_not fun f => by rw [hst] at f; cases f.2.2.2))
  by_cases hnp : n < p
  · exact cond_of (by rw [decide_eq_true hnp]; rfl) (no (okCk_not fun f => by omega))
  refine cond_no (by rw [decide_eq_false hnp]; rfl) ?_
  simp only [decide_eq_false_iff_not] at e1 e2
  have ok : okCk n s = true := by simp only [okCk, Bool.and_eq_true, decide_eq_true_eq]; exact ⟨⟨⟨by omega, by omega⟩, by omega⟩, hst⟩
  have oF := okCk_F ok
  have hl := stBytes_len hst
  simp only [cond_true]
  refine cond_of (by simp; omega) ?_
  rw [oF]
  simp only [ckB, ok, cond_true]
noncomputable def uw_1 := uv_4.addSpec 20 ckLoad_sp
theorem uw_1_laws : FLaws Try.prog s07 uw_1 := uv_4_laws.addEv s07_laws fun args d h => by
  unfold ckLoad_sp at h
  split at h
  · unfold ckLoad_s at h
    have h1 := congrArg Prod.fst (Option.some.inj h)
    obtain rfl : _ = d := congrArg Prod.snd (Option.some.inj h)
    exact ⟨by simp [D.refs], 40, ckLoad_ok _ _ _ _ _ _ _ _ _ _ _ _ _ h1⟩
  · cases h
def ckRead_s (c : Bool) (now : List Sector) (d : Bool) (sure : List Sector) : Option (Bool × D RC) := some (goodL now && goodL sure, .tup (.acons (.int .i64 (numC now sure)) (.acons (.acons (.int .i64 (stG (stOf now sure)).place) (.acons (.sl (C := RC) .item (stOf now sure).isNone (stG (stOf now sure)).items) (.acons (.acons (.sl (C := RC) .line (stOf now sure).isNone (stG (stOf now sure)).l0) (.acons (.sl (C := RC) .line (stOf now sure).isNone (stG (stOf now sure)).l1) (.acons (.sl (C := RC) .line (stOf now sure).isNone (stG (stOf now sure)).l2) .anil))) (.acons (.arr (C := RC) .int 3 [(stG (stOf now sure)).c0, (stG (stOf now sure)).c1, (stG (stOf now sure)).c2]) .anil)))) (.acons (.int .i64 (errC now sure)) .anil))))
def ckRead_sp : List (D RC) → Option (Bool × D RC)
  | [.acons (.sl .sector c now) (.acons (.sl .sector d sure) .anil)] => ckRead_s c now d sure
  | _ => none
noncomputable def ckRead_e (c : Bool) (now : List Sector) (d : Bool) (sure : List Sector) := evF s07 uw_1 40 13 [.acons (.sl (C := RC) .sector c now) (.acons (.sl (C := RC) .sector d sure) .anil)]
theorem ckRead_eq (c : Bool) (now : List Sector) (d : Bool) (sure : List Sector) : ckRead_e c now d sure = (bif goodL now && goodL sure then bif (bif okGet now sure (32 : Int) then (0 : Int) else (2 : Int)) != (0 : Int) then some (D.tup (D.acons (D.int .i64 (0 : Int)) (.acons (D.acons (D.int .i64 (0 : Int)) (.acons (D.sl RTy.item true []) (.acons (D.acons (D.sl RTy.line true []) (.acons (D.sl RTy.line true []) (.acons (D.sl RTy.line true []) .anil))) (.acons (D.arr RTy.int (3 : Nat) (List.replicate (3 : Nat) (0 : Int))) .anil)))) (.acons (D.int .i64 (bif okGet now sure (32 : Int) then (0 : Int) else (2 : Int))) .anil)))) else bif Sector.n (getS now sure (32 : Int)) == (0 : Int) then some (D.tup (D.acons (D.int .i64 (0 : Int)) (.acons (D.acons (D.int .i64 (0 : Int)) (.acons (D.sl RTy.item true []) (.acons (D.acons (D.sl RTy.line true []) (.acons (D.sl RTy.line true []) (.acons (D.sl RTy.line true []) .anil))) (.acons (D.arr RTy.int (3 : Nat) (List.replicate (3 : Nat) (0 : Int))) .anil)))) (.acons (D.int .i64 (60 : Int)) .anil)))) else bif decide (List.length (Sector.b (getS now sure (32 : Int))) ≤ (1000000 : Nat)) then bif sizeOK (Option.getD (ofF (Sector.mk (Sector.n (getS now sure (32 : Int))) (Sector.b (getS now sure (32 : Int))))) []).length (1 : Nat) then bif decide (List.length ((fun (l : List UInt8) => l) (Option.getD (ofF (Sector.mk (Sector.n (getS now sure (32 : Int))) (Sector.b (getS now sure (32 : Int))))) [])) ≤ (1000000 : Nat)) then bif !Option.isSome (ofF (Sector.mk (Sector.n (getS now sure (32 : Int))) (Sector.b (getS now sure (32 : Int))))) then some (D.tup (D.acons (D.int .i64 (0 : Int)) (.acons (D.acons (D.int .i64 (0 : Int)) (.acons (D.sl RTy.item true []) (.acons (D.acons (D.sl RTy.line true []) (.acons (D.sl RTy.line true []) (.acons (D.sl RTy.line true []) .anil))) (.acons (D.arr RTy.int (3 : Nat) (List.replicate (3 : Nat) (0 : Int))) .anil)))) (.acons (D.int .i64 (50 : Int)) .anil)))) else bif (bif Option.isNone (readS ((fun (l : List UInt8) => l) (Option.getD (ofF (Sector.mk (Sector.n (getS now sure (32 : Int))) (Sector.b (getS now sure (32 : Int))))) []))) then (50 : Int) else (0 : Int)) != (0 : Int) then some (D.tup (D.acons (D.int .i64 (0 : Int)) (.acons (D.acons (D.int .i64 (0 : Int)) (.acons (D.sl RTy.item true []) (.acons (D.acons (D.sl RTy.line true []) (.acons (D.sl RTy.line true []) (.acons (D.sl RTy.line true []) .anil))) (.acons (D.arr RTy.int (3 : Nat) (List.replicate (3 : Nat) (0 : Int))) .anil)))) (.acons (D.int .i64 (50 : Int)) .anil)))) else bif decide (Sector.n (getS now sure (32 : Int)) < St.place (stG (readS ((fun (l : List UInt8) => l) (Option.getD (ofF (Sector.mk (Sector.n (getS now sure (32 : Int))) (Sector.b (getS now sure (32 : Int))))) []))))) then some (D.tup (D.acons (D.int .i64 (0 : Int)) (.acons (D.acons (D.int .i64 (0 : Int)) (.acons (D.sl RTy.item true []) (.acons (D.acons (D.sl RTy.line true []) (.acons (D.sl RTy.line true []) (.acons (D.sl RTy.line true []) .anil))) (.acons (D.arr RTy.int (3 : Nat) (List.replicate (3 : Nat) (0 : Int))) .anil)))) (.acons (D.int .i64 (50 : Int)) .anil)))) else some (D.tup (D.acons (D.int .i64 (Sector.n (getS now sure (32 : Int)))) (.acons (D.acons (D.int .i64 (stG (readS ((fun (l : List UInt8) => l) (Option.getD (ofF (Sector.mk (Sector.n (getS now sure (32 : Int))) (Sector.b (getS now sure (32 : Int))))) [])))).place) (.acons (D.sl RTy.item (readS ((fun (l : List UInt8) => l) (Option.getD (ofF (Sector.mk (Sector.n (getS now sure (32 : Int))) (Sector.b (getS now sure (32 : Int))))) []))).isNone (stG (readS ((fun (l : List UInt8) => l) (Option.getD (ofF (Sector.mk (Sector.n (getS now sure (32 : Int))) (Sector.b (getS now sure (32 : Int))))) [])))).items) (.acons (D.acons (D.sl RTy.line (readS ((fun (l : List UInt8) => l) (Option.getD (ofF (Sector.mk (Sector.n (getS now sure (32 : Int))) (Sector.b (getS now sure (32 : Int))))) []))).isNone (stG (readS ((fun (l : List UInt8) => l) (Option.getD (ofF (Sector.mk (Sector.n (getS now sure (32 : Int))) (Sector.b (getS now sure (32 : Int))))) [])))).l0) (.acons (D.sl RTy.line (readS ((fun (l : List UInt8) => l) (Option.getD (ofF (Sector.mk (Sector.n (getS now sure (32 : Int))) (Sector.b (getS now sure (32 : Int))))) []))).isNone (stG (readS ((fun (l : List UInt8) => l) (Option.getD (ofF (Sector.mk (Sector.n (getS now sure (32 : Int))) (Sector.b (getS now sure (32 : Int))))) [])))).l1) (.acons (D.sl RTy.line (readS ((fun (l : List UInt8) => l) (Option.getD (ofF (Sector.mk (Sector.n (getS now sure (32 : Int))) (Sector.b (getS now sure (32 : Int))))) []))).isNone (stG (readS ((fun (l : List UInt8) => l) (Option.getD (ofF (Sector.mk (Sector.n (getS now sure (32 : Int))) (Sector.b (getS now sure (32 : Int))))) [])))).l2) .anil))) (.acons (D.arr RTy.int (3 : Nat) [St.c0 (stG (readS ((fun (l : List UInt8) => l) (Option.getD (ofF (Sector.mk (Sector.n (getS now sure (32 : Int))) (Sector.b (getS now sure (32 : Int))))) [])))), St.c1 (stG (readS ((fun (l : List UInt8) => l) (Option.getD (ofF (Sector.mk (Sector.n (getS now sure (32 : Int))) (Sector.b (getS now sure (32 : Int))))) [])))), St.c2 (stG (readS ((fun (l : List UInt8) => l) (Option.getD (ofF (Sector.mk (Sector.n (getS now sure (32 : Int))) (Sector.b (getS now sure (32 : Int))))) []))))]) .anil)))) (.acons (D.int .i64 (0 : Int)) .anil)))) else none else none else none else none) := by kernel_rfl
theorem ckRead_ok (c : Bool) (now : List Sector) (d : Bool) (sure : List Sector) (h : (goodL now && goodL sure) = true) : ckRead_e c now d sure = some (.tup (.acons (.int .i64 (numC now sure)) (.acons (.acons (.int .i64 (stG (stOf now sure)).place) (.acons (.sl (C := RC) .item (stOf now sure).isNone (stG (stOf now sure)).items) (.acons (.acons (.sl (C := RC) .line (stOf now sure).isNone (stG (stOf now sure)).l0) (.acons (.sl (C := RC) .line (stOf now sure).isNone (stG (stOf now sure)).l1) (.acons (.sl (C := RC) .line (stOf now sure).isNone (stG (stOf now sure)).l2) .anil))) (.acons (.arr (C := RC) .int 3 [(stG (stOf now sure)).c0, (stG (stOf now sure)).c1, (stG (stOf now sure)).c2]) .anil)))) (.acons (.int .i64 (errC now sure)) .anil)))) := by
  rw [ckRead_eq]
  refine cond_of h ?_
  have no : ∀ e : Int, stOf now sure = none → errC now sure = e → some (D.tup (.acons (.int .i64 0) (.acons (.acons (.int .i64 0) (.acons (.sl (C := RC) .item true []) (.acons (.acons (.sl (C := RC) .line true []) (.acons (.sl (C := RC) .line true []) (.acons (.sl (C := RC) .line true []) .anil))) (.acons (.arr (C := RC) .int 3 (List.replicate 3 0)) .anil)))) (.acons (.int .i64 e) .anil)))) = some (.tup (.acons (.int .i64 (numC now sure)) (.acons (.acons (.int .i64 (stG (stOf now sure)).place) (.acons (.sl (C := RC) .item (stOf now sure).isNone (stG (stOf now sure)).items) (.acons (.acons (.sl (C := RC) .line (stOf now sure).isNone (stG (stOf now sure)).l0) (.acons (.sl (C := RC) .line (stOf now sure).isNone (stG (stOf now sure)).l1) (.acons (.sl (C := RC) .line (stOf now sure).isNone (stG (stOf now sure)).l2) .anil))) (.acons (.arr (C := RC) .int 3 [(stG (stOf now sure)).c0, (stG (stOf now sure)).c1, (stG (stOf now sure)).c2]) .anil)))) (.acons (.int .i64 (errC now sure)) .anil)))) := fun e h1 h2 => by simp only [numC, h1, h2]; rfl
  cases hk : okGet now sure 32
  · exact cond_of rfl (no 2 (by simp [stOf, hk]) (by simp [errC, hk]))
  refine cond_no rfl ?_
  have hn := getS_len now sure 32
  generalize hs : getS now sure 32 = s at hn ⊢
  obtain ⟨n, b⟩ := s
  have hf := ofF_len ⟨n, b⟩
  dsimp only at hn hf ⊢
  refine cond_two (fun e => no 60 (by simp [stOf, hk, hs, e]) (by simp [errC, hk, hs, e])) fun e0 => ?_
  refine cond_of (by simp; omega) (cond_of (sizeT (by omega)) (cond_of (by simp; omega) ?_))
  cases ho : ofF ⟨n, b⟩ with
  | none => exact cond_of rfl (no 50 (by simp [stOf, hk, hs, e0, ckAt, ho]) (by simp [errC, hk, hs, e0, ckAt, ho]))
  | some l =>
    refine cond_no rfl ?_
    simp only [Option.getD_some]
    have hc : readS l = none ∨ ∃ st, readS l = some st := by cases readS l <;> simp
    rcases hc with hr | ⟨st, hr⟩
    · exact cond_of (by rw [hr]; rfl) (no 50 (by simp [stOf, hk, hs, e0, ckAt, ho, hr]) (by simp [errC, hk, hs, e0, ckAt, ho, hr]))
    · refine cond_no (by rw [hr]; rfl) ?_
      by_cases hp : st.place ≤ n
      · refine cond_no (by simp [hr, stG]; omega) ?_
        have e1 : stOf now sure = some st := by simp [stOf, hk, hs, e0, ckAt, ho, hr, hp]
        have e2 : errC now sure = 0 := by simp [errC, hk, hs, e0, ckAt, ho, hr, hp]
        have e3 : numC now sure = n := by simp [numC, e1, hs]
        simp only [e1, e2, e3, hr]
      · exact cond_of (by simp [hr, stG]; omega) (no 50 (by simp [stOf, hk, hs, e0, ckAt, ho, hr, hp]) (by simp [errC, hk, hs, e0, ckAt, ho, hr, hp]))
noncomputable def uw_2 := uw_1.addSpec 13 ckRead_sp
theorem uw_2_laws : FLaws Try.prog s07 uw_2 := uw_1_laws.addEv s07_laws fun args d h => by
  unfold ckRead_sp at h
  split at h
  · unfold ckRead_s at h
    have h1 := congrArg Prod.fst (Option.some.inj h)
    obtain rfl : _ = d := congrArg Prod.snd (Option.some.inj h)
    exact ⟨by simp [D.refs], 40, ckRead_ok _ _ _ _ h1⟩
  · cases h
def ckPut_s (c : Bool) (now : List Sector) (d : Bool) (sure : List Sector) (n : Int) (p : Int) (ci : Bool) (items : List Item) (k0 : Bool) (k1 : Bool) (k2 : Bool) (l0 : List Line) (l1 : List Line) (l2 : List Line) (c0 : Int) (c1 : Int) (c2 : Int) : Option (Bool × D RC) := some (goodL now && goodL sure && decide (items.length ≤ 9223372036854775807 ∧ l0.length ≤ 9223372036854775807 ∧ l1.length ≤ 9223372036854775807 ∧ l2.length ≤ 9223372036854775807), .tup (.acons (.acons (.sl (C := RC) .sector (!okPut now sure 32 n (ckB n ⟨p, items, l0, l1, l2, c0, c1, c2⟩)) (pNow now sure 32 n (ckB n ⟨p, items, l0, l1, l2, c0, c1, c2⟩))) (.acons (.sl (C := RC) .sector (!okPut now sure 32 n (ckB n ⟨p, items, l0, l1, l2, c0, c1, c2⟩)) (pSure now sure 32 n (ckB n ⟨p, items, l0, l1, l2, c0, c1, c2⟩))) .anil)) (.acons (.int .i64 (bif okPut now sure 32 n (ckB n ⟨p, items, l0, l1, l2, c0, c1, c2⟩) then 0 else 2)) .anil)))
def ckPut_sp : List (D RC) → Option (Bool × D RC)
  | [.acons (.sl .sector c now) (.acons (.sl .sector d sure) .anil), .int .i64 n, .acons (.int .i64 p) (.acons (.sl .item ci items) (.acons (.acons (.sl .line k0 l0) (.acons (.sl .line k1 l1) (.acons (.sl .line k2 l2) .anil))) (.acons (.arr .int 3 [c0, c1, c2]) .anil)))] => ckPut_s c now d sure n p ci items k0 k1 k2 l0 l1 l2 c0 c1 c2
  | _ => none
noncomputable def ckPut_e (c : Bool) (now : List Sector) (d : Bool) (sure : List Sector) (n : Int) (p : Int) (ci : Bool) (items : List Item) (k0 : Bool) (k1 : Bool) (k2 : Bool) (l0 : List Line) (l1 : List Line) (l2 : List Line) (c0 : Int) (c1 : Int) (c2 : Int) := evF s07 uw_2 40 12 [.acons (.sl (C := RC) .sector c now) (.acons (.sl (C := RC) .sector d sure) .anil), .int .i64 n, .acons (.int .i64 p) (.acons (.sl (C := RC) .item ci items) (.acons (.acons (.sl (C := RC) .line k0 l0) (.acons (.sl (C := RC) .line k1 l1) (.acons (.sl (C := RC) .line k2 l2) .anil))) (.acons (.arr (C := RC) .int 3 [c0, c1, c2]) .anil)))]
theorem ckPut_eq (c : Bool) (now : List Sector) (d : Bool) (sure : List Sector) (n : Int) (p : Int) (ci : Bool) (items : List Item) (k0 : Bool) (k1 : Bool) (k2 : Bool) (l0 : List Line) (l1 : List Line) (l2 : List Line) (c0 : Int) (c1 : Int) (c2 : Int) : ckPut_e c now d sure n p ci items k0 k1 k2 l0 l1 l2 c0 c1 c2 = (bif decide (List.length items ≤ (9223372036854775807 : Nat) ∧ List.length l0 ≤ (9223372036854775807 : Nat) ∧ List.length l1 ≤ (9223372036854775807 : Nat) ∧ List.length l2 ≤ (9223372036854775807 : Nat)) then bif goodL now && goodL sure then bif (bif diskOK now sure then (0 : Int) else (2 : Int)) != (0 : Int) then bif (bif diskOK now sure then (0 : Int) else (2 : Int)) != (0 : Int) then some (D.tup (D.acons (D.acons (D.sl RTy.sector true []) (.acons (D.sl RTy.sector true []) .anil)) (.acons (D.int .i64 (bif diskOK now sure then (0 : Int) else (2 : Int))) .anil))) else bif goodL now && goodL sure && lenOK (ckB n (St.mk p items l0 l1 l2 c0 c1 c2)).length then some (D.tup (D.acons (D.acons (D.sl RTy.sector (!okPut now sure (32 : Int) n (ckB n (St.mk p items l0 l1 l2 c0 c1 c2))) (pNow now sure (32 : Int) n (ckB n (St.mk p items l0 l1 l2 c0 c1 c2)))) (.acons (D.sl RTy.sector (!okPut now sure (32 : Int) n (ckB n (St.mk p items l0 l1 l2 c0 c1 c2))) (pSure now sure (32 : Int) n (ckB n (St.mk p items l0 l1 l2 c0 c1 c2)))) .anil)) (.acons (D.int .i64 (bif okPut now sure (32 : Int) n (ckB n (St.mk p items l0 l1 l2 c0 c1 c2)) then (0 : Int) else (2 : Int))) .anil))) else none else bif (bif okCk n (St.mk p items l0 l1 l2 c0 c1 c2) then (0 : Int) else (2 : Int)) != (0 : Int) then bif (bif okCk n (St.mk p items l0 l1 l2 c0 c1 c2) then (0 : Int) else (2 : Int)) != (0 : Int) then some (D.tup (D.acons (D.acons (D.sl RTy.sector true []) (.acons (D.sl RTy.sector true []) .anil)) (.acons (D.int .i64 (bif okCk n (St.mk p items l0 l1 l2 c0 c1 c2) then (0 : Int) else (2 : Int))) .anil))) else bif goodL now && goodL sure && lenOK (ckB n (St.mk p items l0 l1 l2 c0 c1 c2)).length then some (D.tup (D.acons (D.acons (D.sl RTy.sector (!okPut now sure (32 : Int) n (ckB n (St.mk p items l0 l1 l2 c0 c1 c2))) (pNow now sure (32 : Int) n (ckB n (St.mk p items l0 l1 l2 c0 c1 c2)))) (.acons (D.sl RTy.sector (!okPut now sure (32 : Int) n (ckB n (St.mk p items l0 l1 l2 c0 c1 c2))) (pSure now sure (32 : Int) n (ckB n (St.mk p items l0 l1 l2 c0 c1 c2)))) .anil)) (.acons (D.int .i64 (bif okPut now sure (32 : Int) n (ckB n (St.mk p items l0 l1 l2 c0 c1 c2)) then (0 : Int) else (2 : Int))) .anil))) else none else bif goodL now && goodL sure && lenOK (ckB n (St.mk p items l0 l1 l2 c0 c1 c2)).length then some (D.tup (D.acons (D.acons (D.sl RTy.sector (!okPut now sure (32 : Int) n (ckB n (St.mk p items l0 l1 l2 c0 c1 c2))) (pNow now sure (32 : Int) n (ckB n (St.mk p items l0 l1 l2 c0 c1 c2)))) (.acons (D.sl RTy.sector (!okPut now sure (32 : Int) n (ckB n (St.mk p items l0 l1 l2 c0 c1 c2))) (pSure now sure (32 : Int) n (ckB n (St.mk p items l0 l1 l2 c0 c1 c2)))) .anil)) (.acons (D.int .i64 (bif okPut now sure (32 : Int) n (ckB n (St.mk p items l0 l1 l2 c0 c1 c2)) then (0 : Int) else (2 : Int))) .anil))) else none else none else none) := by kernel_rfl
theorem ckPut_ok (c : Bool) (now : List Sector) (d : Bool) (sure : List Sector) (n : Int) (p : Int) (ci : Bool) (items : List Item) (k0 : Bool) (k1 : Bool) (k2 : Bool) (l0 : List Line) (l1 : List Line) (l2 : List Line) (c0 : Int) (c1 : Int) (c2 : Int) (h : (goodL now && goodL sure && decide (items.length ≤ 9223372036854775807 ∧ l0.length ≤ 9223372036854775807 ∧ l1.length ≤ 9223372036854775807 ∧ l2.length ≤ 9223372036854775807)) = true) : ckPut_e c now d sure n p ci items k0 k1 k2 l0 l1 l2 c0 c1 c2 = some (.tup (.acons (.acons (.sl (C := RC) .sector (!okPut now sure 32 n (ckB n ⟨p, items, l0, l1, l2, c0, c1, c2⟩)) (pNow now sure 32 n (ckB n ⟨p, items, l0, l1, l2, c0, c1, c2⟩))) (.acons (.sl (C := RC) .sector (!okPut now sure 32 n (ckB n ⟨p, items, l0, l1, l2, c0, c1, c2⟩)) (pSure now sure 32 n (ckB n ⟨p, items, l0, l1, l2, c0, c1, c2⟩))) .anil)) (.acons (.int .i64 (bif okPut now sure 32 n (ckB n ⟨p, items, l0, l1, l2, c0, c1, c2⟩) then 0 else 2)) .anil))) := by
  rw [ckPut_eq]
  generalize hs : (⟨p, items, l0, l1, l2, c0, c1, c2⟩ : St) = s
  rw [Bool.and_eq_true, Bool.and_eq_true] at h
  obtain ⟨⟨hg, hgs⟩, hl⟩ := h
  refine cond_of hl ?_
  have no : okPut now sure 32 n (ckB n s) = false → some (D.tup (.acons (.acons (.sl (C := RC) .sector true []) (.acons (.sl (C := RC) .sector true []) .anil)) (.acons (.int .i64 2) .anil))) = some (.tup (.acons (.acons (.sl (C := RC) .sector (!okPut now sure 32 n (ckB n s)) (pNow now sure 32 n (ckB n s))) (.acons (.sl (C := RC) .sector (!okPut now sure 32 n (ckB n s)) (pSure now sure 32 n (ckB n s))) .anil)) (.acons (.int .i64 (bif okPut now sure 32 n (ckB n s) then 0 else 2)) .anil))) := fun e => by simp only [e, pNow, pSure]; rfl
  have hlb : lenOK (ckB n s).length = true := lenOK_of (by have := @ckB_len n s; omega)
  have hall : (goodL now && goodL sure && lenOK (ckB n s).length) = true := by rw [hg, hgs, hlb]; rfl
  refine cond_of (by rw [hg, hgs]; rfl) ?_
  cases hd : diskOK now sure
  · exact cond_of rfl (cond_of rfl (no (okPut_not fun f => by rw [hd] at f; cases f.1)))
  refine cond_no rfl ?_
  cases hk : okCk n s
  · exact cond_of rfl (cond_of rfl (no (okPut_not fun f => f.2.2.2.2.1 (by simp [ckB, hk]))))
  · exact cond_no rfl (cond_of hall rfl)
noncomputable def uw_3 := uw_2.addSpec 12 ckPut_sp
theorem uw_3_laws : FLaws Try.prog s07 uw_3 := uw_2_laws.addEv s07_laws fun args d h => by
  unfold ckPut_sp at h
  split at h
  · unfold ckPut_s at h
    have h1 := congrArg Prod.fst (Option.some.inj h)
    obtain rfl : _ = d := congrArg Prod.snd (Option.some.inj h)
    exact ⟨by simp [D.refs], 40, ckPut_ok _ _ _ _ _ _ _ _ _ _ _ _ _ _ _ _ _ h1⟩
  · cases h
open Go.Proofs
def wakes07_s  : Option (Bool × D RC) := some (true, .bool true)
def wakes07_sp : List (D RC) → Option (Bool × D RC)
  | [] => wakes07_s 
  | _ => none
noncomputable def wakes07_e  := evF s07 uw_3 1000 11 []
theorem wakes07_ok  (h : (true) = true) : wakes07_e  = some (.bool true) := by
  kernel_rfl
noncomputable def ux_1 := uw_3.addSpec 11 wakes07_sp
theorem ux_1_laws : FLaws Try.prog s07 ux_1 := uw_3_laws.addEv s07_laws fun args d h => by
  unfold wakes07_sp at h
  split at h
  · unfold wakes07_s at h
    have h1 := congrArg Prod.fst (Option.some.inj h)
    obtain rfl : _ = d := congrArg Prod.snd (Option.some.inj h)
    exact ⟨by simp [D.refs], 1000, wakes07_ok  h1⟩
  · cases h
open Go.Proofs
noncomputable def ckptPlace_e (n : Int) (p : Int) (ci : Bool) (items : List Item) (k0 : Bool) (k1 : Bool) (k2 : Bool) (l0 : List Line) (l1 : List Line) (l2 : List Line) (c0 : Int) (c1 : Int) (c2 : Int) := evF s07 ux_1 60 6 [.int .i64 n, .acons (.int .i64 p) (.acons (.sl (C := RC) .item ci items) (.acons (.acons (.sl (C := RC) .line k0 l0) (.acons (.sl (C := RC) .line k1 l1) (.acons (.sl (C := RC) .line k2 l2) .anil))) (.acons (.arr (C := RC) .int 3 [c0, c1, c2]) .anil)))]
theorem ckptPlace_eq (n : Int) (p : Int) (ci : Bool) (items : List Item) (k0 : Bool) (k1 : Bool) (k2 : Bool) (l0 : List Line) (l1 : List Line) (l2 : List Line) (c0 : Int) (c1 : Int) (c2 : Int) : ckptPlace_e n p ci items k0 k1 k2 l0 l1 l2 c0 c1 c2 = (bif lenOK items.length then bif decide ((60 : Int) < (↑items.length : Int)) then some (D.bool true) else bif lenOK l0.length then bif decide ((40 : Int) < (↑l0.length : Int)) then some (D.bool true) else bif lenOK l1.length then bif decide ((40 : Int) < (↑l1.length : Int)) then some (D.bool true) else bif lenOK l2.length then bif decide ((40 : Int) < (↑l2.length : Int)) then some (D.bool true) else bif decide (List.length items ≤ (9223372036854775807 : Nat) ∧ List.length l0 ≤ (9223372036854775807 : Nat) ∧ List.length l1 ≤ (9223372036854775807 : Nat) ∧ List.length l2 ≤ (9223372036854775807 : Nat)) then bif !standsOK (St.mk p items l0 l1 l2 c0 c1 c2) then some (D.bool true) else bif decide (List.length items ≤ (9223372036854775807 : Nat) ∧ List.length l0 ≤ (9223372036854775807 : Nat) ∧ List.length l1 ≤ (9223372036854775807 : Nat) ∧ List.length l2 ≤ (9223372036854775807 : Nat)) then bif decide (n < (1 : Int)) then bif (bif okCk n (St.mk p items l0 l1 l2 c0 c1 c2) then (0 : Int) else (2 : Int)) == (2 : Int) then bif ckB n (St.mk p items l0 l1 l2 c0 c1 c2) == Array.toList #[] then some (D.bool true) else some (D.bool false) else some (D.bool false) else bif decide ((1048575 : Int) < n) then bif (bif okCk n (St.mk p items l0 l1 l2 c0 c1 c2) then (0 : Int) else (2 : Int)) == (2 : Int) then bif ckB n (St.mk p items l0 l1 l2 c0 c1 c2) == Array.toList #[] then some (D.bool true) else some (D.bool false) else some (D.bool false) else bif decide (n < p) then bif (bif okCk n (St.mk p items l0 l1 l2 c0 c1 c2) then (0 : Int) else (2 : Int)) == (2 : Int) then bif ckB n (St.mk p items l0 l1 l2 c0 c1 c2) == Array.toList #[] then some (D.bool true) else some (D.bool false) else some (D.bool false) else bif (bif okCk n (St.mk p items l0 l1 l2 c0 c1 c2) then (0 : Int) else (2 : Int)) == (0 : Int) then bif lenOK (ckB n (St.mk p items l0 l1 l2 c0 c1 c2)).length then bif decide ((0 : Int) < (↑(ckB n (St.mk p items l0 l1 l2 c0 c1 c2)).length : Int)) then bif lenOK (ckB n (St.mk p items l0 l1 l2 c0 c1 c2)).length then bif decide ((↑(ckB n (St.mk p items l0 l1 l2 c0 c1 c2)).length : Int) ≤ (640 : Int)) then some (D.bool true) else some (D.bool false) else none else some (D.bool false) else none else some (D.bool false) else none else none else none else none else none else none) := by kernel_rfl
theorem ckptPlace_ok (n : Int) (p : Int) (ci : Bool) (items : List Item) (k0 : Bool) (k1 : Bool) (k2 : Bool) (l0 : List Line) (l1 : List Line) (l2 : List Line) (c0 : Int) (c1 : Int) (c2 : Int) (h : (lenOK items.length && lenOK l0.length && lenOK l1.length && lenOK l2.length) = true) : ckptPlace_e n p ci items k0 k1 k2 l0 l1 l2 c0 c1 c2 = some (.bool true) := by
  rw [ckptPlace_eq]
  simp only [Bool.and_eq_true] at h
  obtain ⟨⟨⟨a1, a2⟩, a3⟩, a4⟩ := h
  have hd : decide (items.length ≤ 9223372036854775807 ∧ l0.length ≤ 9223372036854775807 ∧ l1.length ≤ 9223372036854775807 ∧ l2.length ≤ 9223372036854775807) = true := decide_eq_true ⟨lenOK_le a1, lenOK_le a2, lenOK_le a3, lenOK_le a4⟩
  generalize hs : (⟨p, items, l0, l1, l2, c0, c1, c2⟩ : St) = s
  have hp : s.place = p := by rw [← hs]
  refine cond_of a1 (cond_two (fun _ => rfl) fun _ => cond_of a2 (cond_two (fun _ => rfl) fun _ => cond_of a3 (cond_two (fun _ => rfl) fun _ => cond_of a4 (cond_two (fun _ => rfl) fun _ => cond_of hd ?_))))
  cases hst : standsOK s
  · rfl
  refine cond_no rfl (cond_of hd ?_)
  have no : okCk n s = false → (bif (bif okCk n s then (0 : Int) else 2) == 2 then bif ckB n s == [] then some (D.bool (C := RC) true) else some (D.bool false) else some (D.bool false)) = some (D.bool true) := fun e => by simp only [ckB, e]; rfl
  refine cond_two (fun e => no (okCk_not fun f => by simp only [decide_eq_true_eq] at e; omega)) fun e1 => ?_
  refine cond_two (fun e => no (okCk_not fun f => by simp only [decide_eq_true_eq] at e; omega)) fun e2 => ?_
  refine cond_two (fun e => no (okCk_not fun f => by simp only [decide_eq_true_eq] at e; omega)) fun e3 => ?_
  simp only [decide_eq_false_iff_not] at e1 e2 e3
  have ok : okCk n s = true := by simp only [okCk, Bool.and_eq_true, decide_eq_true_eq]; exact ⟨⟨⟨by omega, by omega⟩, by omega⟩, hst⟩
  have hl := @ckB_len n s
  have hn : (ckB n s).length ≠ 0 := fun e => ckB_ne ok (List.eq_nil_of_length_eq_zero e)
  rw [ok]
  exact cond_of rfl (cond_of (lenOK_of (by omega)) (cond_of (by simp; omega) (cond_of (lenOK_of (by omega)) (cond_of (by simp; omega) rfl))))
end Go.Ev
