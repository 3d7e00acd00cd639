/-
  RecordBack returns true for all records, states and bytes, and all read behind the call as before. No condition beyond the given statement. (text 5 of 6)
-/
import Derived.Test.YtnphmfcnnpoinaaP3
namespace Go.Ev
open Go.Proofs
set_option maxRecDepth 100000
set_option linter.unusedVariables false
set_option linter.unusedSimpArgs false
/-! ### loop rsQ: flume/record.ReadState, region 11 -/
structure rsQ_St where
  c : Bool
  b : List UInt8
  bad : Bool
  pl : Int
  its : List Item
  l0 : List Line
  l1 : List Line
  l2 : List Line
  c0 : Int
  c1 : Int
  c2 : Int
  q : Nat
def rsQ_c (c : Bool) (b : List UInt8) (bad : Bool) (pl : Int) (its : List Item) (l0 : List Line) (l1 : List Line) (l2 : List Line) (c0 : Int) (c1 : Int) (c2 : Int) (q : Nat) : Env RC := [(4, .ptr 0 []), (5, .ptr 1 []), (39, .int .i64 (q : Int))]
def rsQ_o (c : Bool) (b : List UInt8) (bad : Bool) (pl : Int) (its : List Item) (l0 : List Line) (l1 : List Line) (l2 : List Line) (c0 : Int) (c1 : Int) (c2 : Int) (q : Nat) : List (Obj RC) := [.var 74 (.acons (.sl (C := RC) .u8 c b) (.acons (.bool bad) .anil)), .var 33 (.acons (.int .i64 pl) (.acons (.vs 2 (its.length)) (.acons (.acons (.vs 3 (l0.length)) (.acons (.vs 4 (l1.length)) (.acons (.vs 5 (l2.length)) .anil))) (.acons (.arr (C := RC) .int 3 [c0, c1, c2]) .anil)))), .vec (C := RC) .item true its, .vec (C := RC) .line true l0, .vec (C := RC) .line true l1, .vec (C := RC) .line true l2]
noncomputable def rsQ_r (c : Bool) (b : List UInt8) (bad : Bool) (pl : Int) (its : List Item) (l0 : List Line) (l1 : List Line) (l2 : List Line) (c0 : Int) (c1 : Int) (c2 : Int) (q : Nat) := rndO s05 um_2 19 11 60 6 [4, 5, 39] [] [.slot 4 0, .slot 5 0, .path 1 [1], .path 1 [2, 0], .path 1 [2, 1], .path 1 [2, 2]] (rsQ_c c b bad pl its l0 l1 l2 c0 c1 c2 q) (rsQ_o c b bad pl its l0 l1 l2 c0 c1 c2 q)
theorem rsQ_eq0 (c : Bool) (b : List UInt8) (bad : Bool) (pl : Int) (its : List Item) (l0 l1 l2 : List Line) (c0 c1 c2 : Int) : rsQ_r c b bad pl its l0 l1 l2 c0 c1 c2 0 = (bif decide (List.length b ≤ (1000000000000 : Nat)) then bif Prod.snd (getP b (0 : Int) (3 : Int)) != (0 : Int) then bif decide (List.length its = List.length its) && decide (List.length l0 = List.length l0) && decide (List.length l1 = List.length l1) && decide (List.length l2 = List.length l2) && decide ((0 : Int) ≤ (0 : Int) ∧ (0 : Int) ≤ (255 : Int) ∧ (0 : Nat) ≤ (1000000 : Nat) ∧ (List.length l0 ≤ (1000 : Nat) ∧ List.length l1 ≤ (1000 : Nat) ∧ List.length l2 ≤ (1000 : Nat)) ∧ ((0 : Int) ≤ (0 : Int) ∧ (0 : Int) ≤ (2 : Int)) ∧ (0 : Int) ≤ (0 : Int) ∧ (0 : Int) ≤ (16777215 : Int)) then some ((X.normal, [((4 : Nat), D.ptr (0 : Nat) []), ((5 : Nat), D.ptr (1 : Nat) []), ((39 : Nat), D.int IntKind.i64 (1 : Int))]), [some (Obj.var (74 : Nat) (D.acons (D.sl RTy.u8 true (Rd.b (Prod.fst (gLines rdP false (0 : Nat) (0 : Int) (Rd.mk true [] true))))) (D.acons (D.bool true) D.anil))), some (Obj.var (33 : Nat) (D.acons (D.int IntKind.i64 pl) (D.acons (D.vs (2 : Nat) (List.length its)) (D.acons (D.acons (D.vs (3 : Nat) (List.length (addL (0 : Int) (0 : Int) l0 (Prod.snd (gLines rdP false (0 : Nat) (0 : Int) (Rd.mk true [] true)))))) (D.acons (D.vs (4 : Nat) (List.length (addL (0 : Int) (1 : Int) l1 (Prod.snd (gLines rdP false (0 : Nat) (0 : Int) (Rd.mk true [] true)))))) (D.acons (D.vs (5 : Nat) (List.length (addL (0 : Int) (2 : Int) l2 (Prod.snd (gLines rdP false (0 : Nat) (0 : Int) (Rd.mk true [] true)))))) D.anil))) (D.acons (D.arr RTy.int (3 : Nat) [(0 : Int), c1, c2]) D.anil))))), some (Obj.vec RTy.item true its), some (Obj.vec RTy.line true (addL (0 : Int) (0 : Int) l0 (Prod.snd (gLines rdP false (0 : Nat) (0 : Int) (Rd.mk true [] true))))), some (Obj.vec RTy.line true (addL (0 : Int) (1 : Int) l1 (Prod.snd (gLines rdP false (0 : Nat) (0 : Int) (Rd.mk true [] true))))), some (Obj.vec RTy.line true (addL (0 : Int) (2 : Int) l2 (Prod.snd (gLines rdP false (0 : Nat) (0 : Int) (Rd.mk true [] true)))))]) else none else bif decide ((0 : Int) ≤ (3 : Int) ∧ (3 : Int) ≤ (↑(List.length b) : Int)) then bif decide (List.length (List.drop (3 : Nat) b) ≤ (1000000000000 : Nat)) then bif Prod.snd (getP (List.drop (3 : Nat) b) (0 : Int) (1 : Int)) != (0 : Int) then bif decide (List.length its = List.length its) && decide (List.length l0 = List.length l0) && decide (List.length l1 = List.length l1) && decide (List.length l2 = List.length l2) && decide ((0 : Int) ≤ (0 : Int) ∧ (0 : Int) ≤ (255 : Int) ∧ (0 : Nat) ≤ (1000000 : Nat) ∧ (List.length l0 ≤ (1000 : Nat) ∧ List.length l1 ≤ (1000 : Nat) ∧ List.length l2 ≤ (1000 : Nat)) ∧ ((0 : Int) ≤ (0 : Int) ∧ (0 : Int) ≤ (2 : Int)) ∧ (0 : Int) ≤ (0 : Int) ∧ (0 : Int) ≤ (16777215 : Int)) then some ((X.normal, [((4 : Nat), D.ptr (0 : Nat) []), ((5 : Nat), D.ptr (1 : Nat) []), ((39 : Nat), D.int IntKind.i64 (1 : Int))]), [some (Obj.var (74 : Nat) (D.acons (D.sl RTy.u8 true (Rd.b (Prod.fst (gLines rdP false (0 : Nat) (0 : Int) (Rd.mk true [] true))))) (D.acons (D.bool true) D.anil))), some (Obj.var (33 : Nat) (D.acons (D.int IntKind.i64 pl) (D.acons (D.vs (2 : Nat) (List.length its)) (D.acons (D.acons (D.vs (3 : Nat) (List.length (addL (0 : Int) (0 : Int) l0 (Prod.snd (gLines rdP false (0 : Nat) (0 : Int) (Rd.mk true [] true)))))) (D.acons (D.vs (4 : Nat) (List.length (addL (0 : Int) (1 : Int) l1 (Prod.snd (gLines rdP false (0 : Nat) (0 : Int) (Rd.mk true [] true)))))) (D.acons (D.vs (5 : Nat) (List.length (addL (0 : Int) (2 : Int) l2 (Prod.snd (gLines rdP false (0 : Nat) (0 : Int) (Rd.mk true [] true)))))) D.anil))) (D.acons (D.arr RTy.int (3 : Nat) [Prod.fst (getP b (0 : Int) (3 : Int)), c1, c2]) D.anil))))), some (Obj.vec RTy.item true its), some (Obj.vec RTy.line true (addL (0 : Int) (0 : Int) l0 (Prod.snd (gLines rdP false (0 : Nat) (0 : Int) (Rd.mk true [] true))))), some (Obj.vec RTy.line true (addL (0 : Int) (1 : Int) l1 (Prod.snd (gLines rdP false (0 : Nat) (0 : Int) (Rd.mk true [] true))))), some (Obj.vec RTy.line true (addL (0 : Int) (2 : Int) l2 (Prod.snd (gLines rdP false (0 : Nat) (0 : Int) (Rd.mk true [] true)))))]) else none else bif decide ((0 : Int) ≤ (1 : Int) ∧ (1 : Int) ≤ (↑(List.length (List.drop (3 : Nat) b)) : Int)) then bif decide (List.length (List.drop (1 : Nat) (List.drop (3 : Nat) b)) ≤ (1000000000000 : Nat)) then bif Prod.snd (getP (List.drop (1 : Nat) (List.drop (3 : Nat) b)) (0 : Int) (3 : Int)) != (0 : Int) then bif decide (List.length its = List.length its) && decide (List.length l0 = List.length l0) && decide (List.length l1 = List.length l1) && decide (List.length l2 = List.length l2) && decide ((0 : Int) ≤ Prod.fst (getP (List.drop (3 : Nat) b) (0 : Int) (1 : Int)) ∧ Prod.fst (getP (List.drop (3 : Nat) b) (0 : Int) (1 : Int)) ≤ (255 : Int) ∧ (0 : Nat) ≤ (1000000 : Nat) ∧ (List.length l0 ≤ (1000 : Nat) ∧ List.length l1 ≤ (1000 : Nat) ∧ List.length l2 ≤ (1000 : Nat)) ∧ ((0 : Int) ≤ (0 : Int) ∧ (0 : Int) ≤ (2 : Int)) ∧ (0 : Int) ≤ (0 : Int) ∧ (0 : Int) ≤ (16777215 : Int)) then some ((X.normal, [((4 : Nat), D.ptr (0 : Nat) []), ((5 : Nat), D.ptr (1 : Nat) []), ((39 : Nat), D.int IntKind.i64 (1 : Int))]), [some (Obj.var (74 : Nat) (D.acons (D.sl RTy.u8 (Rd.c (Prod.fst (gLines rdP false (Int.toNat (Prod.fst (getP (List.drop (3 : Nat) b) (0 : Int) (1 : Int))) - (0 : Nat)) (0 : Int) (Rd.mk true [] true)))) (Rd.b (Prod.fst (gLines rdP false (Int.toNat (Prod.fst (getP (List.drop (3 : Nat) b) (0 : Int) (1 : Int))) - (0 : Nat)) (0 : Int) (Rd.mk true [] true))))) (D.acons (D.bool (Rd.bad (Prod.fst (gLines rdP false (Int.toNat (Prod.fst (getP (List.drop (3 : Nat) b) (0 : Int) (1 : Int))) - (0 : Nat)) (0 : Int) (Rd.mk true [] true))))) D.anil))), some (Obj.var (33 : Nat) (D.acons (D.int IntKind.i64 pl) (D.acons (D.vs (2 : Nat) (List.length its)) (D.acons (D.acons (D.vs (3 : Nat) (List.length (addL (0 : Int) (0 : Int) l0 (Prod.snd (gLines rdP false (Int.toNat (Prod.fst (getP (List.drop (3 : Nat) b) (0 : Int) (1 : Int))) - (0 : Nat)) (0 : Int) (Rd.mk true [] true)))))) (D.acons (D.vs (4 : Nat) (List.length (addL (0 : Int) (1 : Int) l1 (Prod.snd (gLines rdP false (Int.toNat (Prod.fst (getP (List.drop (3 : Nat) b) (0 : Int) (1 : Int))) - (0 : Nat)) (0 : Int) (Rd.mk true [] true)))))) (D.acons (D.vs (5 : Nat) (List.length (addL (0 : Int) (2 : Int) l2 (Prod.snd (gLines rdP false (Int.toNat (Prod.fst (getP (List.drop (3 : Nat) b) (0 : Int) (1 : Int))) - (0 : Nat)) (0 : Int) (Rd.mk true [] true)))))) D.anil))) (D.acons (D.arr RTy.int (3 : Nat) [Prod.fst (getP b (0 : Int) (3 : Int)), c1, c2]) D.anil))))), some (Obj.vec RTy.item true its), some (Obj.vec RTy.line true (addL (0 : Int) (0 : Int) l0 (Prod.snd (gLines rdP false (Int.toNat (Prod.fst (getP (List.drop (3 : Nat) b) (0 : Int) (1 : Int))) - (0 : Nat)) (0 : Int) (Rd.mk true [] true))))), some (Obj.vec RTy.line true (addL (0 : Int) (1 : Int) l1 (Prod.snd (gLines rdP false (Int.toNat (Prod.fst (getP (List.drop (3 : Nat) b) (0 : Int) (1 : Int))) - (0 : Nat)) (0 : Int) (Rd.mk true [] true))))), some (Obj.vec RTy.line true (addL (0 : Int) (2 : Int) l2 (Prod.snd (gLines rdP false (Int.toNat (Prod.fst (getP (List.drop (3 : Nat) b) (0 : Int) (1 : Int))) - (0 : Nat)) (0 : Int) (Rd.mk true [] true)))))]) else none else bif decide ((0 : Int) ≤ (3 : Int) ∧ (3 : Int) ≤ (↑(List.length (List.drop (1 : Nat) (List.drop (3 : Nat) b))) : Int)) then bif bad then bif decide (List.length its = List.length its) && decide (List.length l0 = List.length l0) && decide (List.length l1 = List.length l1) && decide (List.length l2 = List.length l2) && decide ((0 : Int) ≤ Prod.fst (getP (List.drop (3 : Nat) b) (0 : Int) (1 : Int)) ∧ Prod.fst (getP (List.drop (3 : Nat) b) (0 : Int) (1 : Int)) ≤ (255 : Int) ∧ List.length (List.drop (3 : Nat) (List.drop (1 : Nat) (List.drop (3 : Nat) b))) ≤ (1000000 : Nat) ∧ (List.length l0 ≤ (1000 : Nat) ∧ List.length l1 ≤ (1000 : Nat) ∧ List.length l2 ≤ (1000 : Nat)) ∧ ((0 : Int) ≤ (0 : Int) ∧ (0 : Int) ≤ (2 : Int)) ∧ (0 : Int) ≤ Prod.fst (getP (List.drop (1 : Nat) (List.drop (3 : Nat) b)) (0 : Int) (3 : Int)) ∧ Prod.fst (getP (List.drop (1 : Nat) (List.drop (3 : Nat) b)) (0 : Int) (3 : Int)) ≤ (16777215 : Int)) then some ((X.normal, [((4 : Nat), D.ptr (0 : Nat) []), ((5 : Nat), D.ptr (1 : Nat) []), ((39 : Nat), D.int IntKind.i64 (1 : Int))]), [some (Obj.var (74 : Nat) (D.acons (D.sl RTy.u8 (Rd.c (Prod.fst (gLines rdP false (Int.toNat (Prod.fst (getP (List.drop (3 : Nat) b) (0 : Int) (1 : Int))) - (0 : Nat)) (Prod.fst (getP (List.drop (1 : Nat) (List.drop (3 : Nat) b)) (0 : Int) (3 : Int)) + (0 : Int)) (Rd.mk c (List.drop (3 : Nat) (List.drop (1 : Nat) (List.drop (3 : Nat) b))) true)))) (Rd.b (Prod.fst (gLines rdP false (Int.toNat (Prod.fst (getP (List.drop (3 : Nat) b) (0 : Int) (1 : Int))) - (0 : Nat)) (Prod.fst (getP (List.drop (1 : Nat) (List.drop (3 : Nat) b)) (0 : Int) (3 : Int)) + (0 : Int)) (Rd.mk c (List.drop (3 : Nat) (List.drop (1 : Nat) (List.drop (3 : Nat) b))) true))))) (D.acons (D.bool (Rd.bad (Prod.fst (gLines rdP false (Int.toNat (Prod.fst (getP (List.drop (3 : Nat) b) (0 : Int) (1 : Int))) - (0 : Nat)) (Prod.fst (getP (List.drop (1 : Nat) (List.drop (3 : Nat) b)) (0 : Int) (3 : Int)) + (0 : Int)) (Rd.mk c (List.drop (3 : Nat) (List.drop (1 : Nat) (List.drop (3 : Nat) b))) true))))) D.anil))), some (Obj.var (33 : Nat) (D.acons (D.int IntKind.i64 pl) (D.acons (D.vs (2 : Nat) (List.length its)) (D.acons (D.acons (D.vs (3 : Nat) (List.length (addL (0 : Int) (0 : Int) l0 (Prod.snd (gLines rdP false (Int.toNat (Prod.fst (getP (List.drop (3 : Nat) b) (0 : Int) (1 : Int))) - (0 : Nat)) (Prod.fst (getP (List.drop (1 : Nat) (List.drop (3 : Nat) b)) (0 : Int) (3 : Int)) + (0 : Int)) (Rd.mk c (List.drop (3 : Nat) (List.drop (1 : Nat) (List.drop (3 : Nat) b))) true)))))) (D.acons (D.vs (4 : Nat) (List.length (addL (0 : Int) (1 : Int) l1 (Prod.snd (gLines rdP false (Int.toNat (Prod.fst (getP (List.drop (3 : Nat) b) (0 : Int) (1 : Int))) - (0 : Nat)) (Prod.fst (getP (List.drop (1 : Nat) (List.drop (3 : Nat) b)) (0 : Int) (3 : Int)) + (0 : Int)) (Rd.mk c (List.drop (3 : Nat) (List.drop (1 : Nat) (List.drop (3 : Nat) b))) true)))))) (D.acons (D.vs (5 : Nat) (List.length (addL (0 : Int) (2 : Int) l2 (Prod.snd (gLines rdP false (Int.toNat (Prod.fst (getP (List.drop (3 : Nat) b) (0 : Int) (1 : Int))) - (0 : Nat)) (Prod.fst (getP (List.drop (1 : Nat) (List.drop (3 : Nat) b)) (0 : Int) (3 : Int)) + (0 : Int)) (Rd.mk c (List.drop (3 : Nat) (List.drop (1 : Nat) (List.drop (3 : Nat) b))) true)))))) D.anil))) (D.acons (D.arr RTy.int (3 : Nat) [Prod.fst (getP b (0 : Int) (3 : Int)), c1, c2]) D.anil))))), some (Obj.vec RTy.item true its), some (Obj.vec RTy.line true (addL (0 : Int) (0 : Int) l0 (Prod.snd (gLines rdP false (Int.toNat (Prod.fst (getP (List.drop (3 : Nat) b) (0 : Int) (1 : Int))) - (0 : Nat)) (Prod.fst (getP (List.drop (1 : Nat) (List.drop (3 : Nat) b)) (0 : Int) (3 : Int)) + (0 : Int)) (Rd.mk c (List.drop (3 : Nat) (List.drop (1 : Nat) (List.drop (3 : Nat) b))) true))))), some (Obj.vec RTy.line true (addL (0 : Int) (1 : Int) l1 (Prod.snd (gLines rdP false (Int.toNat (Prod.fst (getP (List.drop (3 : Nat) b) (0 : Int) (1 : Int))) - (0 : Nat)) (Prod.fst (getP (List.drop (1 : Nat) (List.drop (3 : Nat) b)) (0 : Int) (3 : Int)) + (0 : Int)) (Rd.mk c (List.drop (3 : Nat) (List.drop (1 : Nat) (List.drop (3 : Nat) b))) true))))), some (Obj.vec RTy.line true (addL (0 : Int) (2 : Int) l2 (Prod.snd (gLines rdP false (Int.toNat (Prod.fst (getP (List.drop (3 : Nat) b) (0 : Int) (1 : Int))) - (0 : Nat)) (Prod.fst (getP (List.drop (1 : Nat) (List.drop (3 : Nat) b)) (0 : Int) (3 : Int)) + (0 : Int)) (Rd.mk c (List.drop (3 : Nat) (List.drop (1 : Nat) (List.drop (3 : Nat) b))) true)))))]) else none else bif Prod.fst (getP (List.drop (3 : Nat) b) (0 : Int) (1 : Int)) == (0 : Int) then bif decide (List.length its = List.length its) && decide (List.length l0 = List.length l0) && decide (List.length l1 = List.length l1) && decide (List.length l2 = List.length l2) && decide ((0 : Int) ≤ Prod.fst (getP (List.drop (3 : Nat) b) (0 : Int) (1 : Int)) ∧ Prod.fst (getP (List.drop (3 : Nat) b) (0 : Int) (1 : Int)) ≤ (255 : Int) ∧ List.length (List.drop (3 : Nat) (List.drop (1 : Nat) (List.drop (3 : Nat) b))) ≤ (1000000 : Nat) ∧ (List.length l0 ≤ (1000 : Nat) ∧ List.length l1 ≤ (1000 : Nat) ∧ List.length l2 ≤ (1000 : Nat)) ∧ ((0 : Int) ≤ (0 : Int) ∧ (0 : Int) ≤ (2 : Int)) ∧ (0 : Int) ≤ Prod.fst (getP (List.drop (1 : Nat) (List.drop (3 : Nat) b)) (0 : Int) (3 : Int)) ∧ Prod.fst (getP (List.drop (1 : Nat) (List.drop (3 : Nat) b)) (0 : Int) (3 : Int)) ≤ (16777215 : Int)) then some ((X.normal, [((4 : Nat), D.ptr (0 : Nat) []), ((5 : Nat), D.ptr (1 : Nat) []), ((39 : Nat), D.int IntKind.i64 (1 : Int))]), [some (Obj.var (74 : Nat) (D.acons (D.sl RTy.u8 (Rd.c (Prod.fst (gLines rdP false (Int.toNat (Prod.fst (getP (List.drop (3 : Nat) b) (0 : Int) (1 : Int))) - (0 : Nat)) (Prod.fst (getP (List.drop (1 : Nat) (List.drop (3 : Nat) b)) (0 : Int) (3 : Int)) + (0 : Int)) (Rd.mk c (List.drop (3 : Nat) (List.drop (1 : Nat) (List.drop (3 : Nat) b))) (Prod.fst (getP (List.drop (1 : Nat) (List.drop (3 : Nat) b)) (0 : Int) (3 : Int)) != (0 : Int)))))) (Rd.b (Prod.fst (gLines rdP false (Int.toNat (Prod.fst (getP (List.drop (3 : Nat) b) (0 : Int) (1 : Int))) - (0 : Nat)) (Prod.fst (getP (List.drop (1 : Nat) (List.drop (3 : Nat) b)) (0 : Int) (3 : Int)) + (0 : Int)) (Rd.mk c (List.drop (3 : Nat) (List.drop (1 : Nat) (List.drop (3 : Nat) b))) (Prod.fst (getP (List.drop (1 : Nat) (List.drop (3 : Nat) b)) (0 : Int) (3 : Int)) != (0 : Int))))))) (D.acons (D.bool (Rd.bad (Prod.fst (gLines rdP false (Int.toNat (Prod.fst (getP (List.drop (3 : Nat) b) (0 : Int) (1 : Int))) - (0 : Nat)) (Prod.fst (getP (List.drop (1 : Nat) (List.drop (3 : Nat) b)) (0 : Int) (3 : Int)) + (0 : Int)) (Rd.mk c (List.drop (3 : Nat) (List.drop (1 : Nat) (List.drop (3 : Nat) b))) (Prod.fst (getP (List.drop (1 : Nat) (List.drop (3 : Nat) b)) (0 : Int) (3 : Int)) != (0 : Int))))))) D.anil))), some (Obj.var (33 : Nat) (D.acons (D.int IntKind.i64 pl) (D.acons (D.vs (2 : Nat) (List.length its)) (D.acons (D.acons (D.vs (3 : Nat) (List.length (addL (0 : Int) (0 : Int) l0 (Prod.snd (gLines rdP false (Int.toNat (Prod.fst (getP (List.drop (3 : Nat) b) (0 : Int) (1 : Int))) - (0 : Nat)) (Prod.fst (getP (List.drop (1 : Nat) (List.drop (3 : Nat) b)) (0 : Int) (3 : Int)) + (0 : Int)) (Rd.mk c (List.drop (3 : Nat) (List.drop (1 : Nat) (List.drop (3 : Nat) b))) (Prod.fst (getP (List.drop (1 : Nat) (List.drop (3 : Nat) b)) (0 : Int) (3 : Int)) != (0 : Int)))))))) (D.acons (D.vs (4 : Nat) (List.length (addL (0 : Int) (1 : Int) l1 (Prod.snd (gLines rdP false (Int.toNat (Prod.fst (getP (List.drop (3 : Nat) b) (0 : Int) (1 : Int))) - (0 : Nat)) (Prod.fst (getP (List.drop (1 : Nat) (List.drop (3 : Nat) b)) (0 : Int) (3 : Int)) + (0 : Int)) (Rd.mk c (List.drop (3 : Nat) (List.drop (1 : Nat) (List.drop (3 : Nat) b))) (Prod.fst (getP (List.drop (1 : Nat) (List.drop (3 : Nat) b)) (0 : Int) (3 : Int)) != (0 : Int)))))))) (D.acons (D.vs (5 : Nat) (List.length (addL (0 : Int) (2 : Int) l2 (Prod.snd (gLines rdP false (Int.toNat (Prod.fst (getP (List.drop (3 : Nat) b) (0 : Int) (1 : Int))) - (0 : Nat)) (Prod.fst (getP (List.drop (1 : Nat) (List.drop (3 : Nat) b)) (0 : Int) (3 : Int)) + (0 : Int)) (Rd.mk c (List.drop (3 : Nat) (List.drop (1 : Nat) (List.drop (3 : Nat) b))) (Prod.fst (getP (List.drop (1 : Nat) (List.drop (3 : Nat) b)) (0 : Int) (3 : Int)) != (0 : Int)))))))) D.anil))) (D.acons (D.arr RTy.int (3 : Nat) [Prod.fst (getP b (0 : Int) (3 : Int)), c1, c2]) D.anil))))), some (Obj.vec RTy.item true its), some (Obj.vec RTy.line true (addL (0 : Int) (0 : Int) l0 (Prod.snd (gLines rdP false (Int.toNat (Prod.fst (getP (List.drop (3 : Nat) b) (0 : Int) (1 : Int))) - (0 : Nat)) (Prod.fst (getP (List.drop (1 : Nat) (List.drop (3 : Nat) b)) (0 : Int) (3 : Int)) + (0 : Int)) (Rd.mk c (List.drop (3 : Nat) (List.drop (1 : Nat) (List.drop (3 : Nat) b))) (Prod.fst (getP (List.drop (1 : Nat) (List.drop (3 : Nat) b)) (0 : Int) (3 : Int)) != (0 : Int))))))), some (Obj.vec RTy.line true (addL (0 : Int) (1 : Int) l1 (Prod.snd (gLines rdP false (Int.toNat (Prod.fst (getP (List.drop (3 : Nat) b) (0 : Int) (1 : Int))) - (0 : Nat)) (Prod.fst (getP (List.drop (1 : Nat) (List.drop (3 : Nat) b)) (0 : Int) (3 : Int)) + (0 : Int)) (Rd.mk c (List.drop (3 : Nat) (List.drop (1 : Nat) (List.drop (3 : Nat) b))) (Prod.fst (getP (List.drop (1 : Nat) (List.drop (3 : Nat) b)) (0 : Int) (3 : Int)) != (0 : Int))))))), some (Obj.vec RTy.line true (addL (0 : Int) (2 : Int) l2 (Prod.snd (gLines rdP false (Int.toNat (Prod.fst (getP (List.drop (3 : Nat) b) (0 : Int) (1 : Int))) - (0 : Nat)) (Prod.fst (getP (List.drop (1 : Nat) (List.drop (3 : Nat) b)) (0 : Int) (3 : Int)) + (0 : Int)) (Rd.mk c (List.drop (3 : Nat) (List.drop (1 : Nat) (List.drop (3 : Nat) b))) (Prod.fst (getP (List.drop (1 : Nat) (List.drop (3 : Nat) b)) (0 : Int) (3 : Int)) != (0 : Int)))))))]) else none else bif decide (List.length its = List.length its) && decide (List.length l0 = List.length l0) && decide (List.length l1 = List.length l1) && decide (List.length l2 = List.length l2) && decide ((0 : Int) ≤ Prod.fst (getP (List.drop (3 : Nat) b) (0 : Int) (1 : Int)) ∧ Prod.fst (getP (List.drop (3 : Nat) b) (0 : Int) (1 : Int)) ≤ (255 : Int) ∧ List.length (List.drop (3 : Nat) (List.drop (1 : Nat) (List.drop (3 : Nat) b))) ≤ (1000000 : Nat) ∧ (List.length l0 ≤ (1000 : Nat) ∧ List.length l1 ≤ (1000 : Nat) ∧ List.length l2 ≤ (1000 : Nat)) ∧ ((0 : Int) ≤ (0 : Int) ∧ (0 : Int) ≤ (2 : Int)) ∧ (0 : Int) ≤ Prod.fst (getP (List.drop (1 : Nat) (List.drop (3 : Nat) b)) (0 : Int) (3 : Int)) ∧ Prod.fst (getP (List.drop (1 : Nat) (List.drop (3 : Nat) b)) (0 : Int) (3 : Int)) ≤ (16777215 : Int)) then some ((X.normal, [((4 : Nat), D.ptr (0 : Nat) []), ((5 : Nat), D.ptr (1 : Nat) []), ((39 : Nat), D.int IntKind.i64 (1 : Int))]), [some (Obj.var (74 : Nat) (D.acons (D.sl RTy.u8 (Rd.c (Prod.fst (gLines rdP false (Int.toNat (Prod.fst (getP (List.drop (3 : Nat) b) (0 : Int) (1 : Int))) - (0 : Nat)) (Prod.fst (getP (List.drop (1 : Nat) (List.drop (3 : Nat) b)) (0 : Int) (3 : Int)) + (0 : Int)) (Rd.mk c (List.drop (3 : Nat) (List.drop (1 : Nat) (List.drop (3 : Nat) b))) false)))) (Rd.b (Prod.fst (gLines rdP false (Int.toNat (Prod.fst (getP (List.drop (3 : Nat) b) (0 : Int) (1 : Int))) - (0 : Nat)) (Prod.fst (getP (List.drop (1 : Nat) (List.drop (3 : Nat) b)) (0 : Int) (3 : Int)) + (0 : Int)) (Rd.mk c (List.drop (3 : Nat) (List.drop (1 : Nat) (List.drop (3 : Nat) b))) false))))) (D.acons (D.bool (Rd.bad (Prod.fst (gLines rdP false (Int.toNat (Prod.fst (getP (List.drop (3 : Nat) b) (0 : Int) (1 : Int))) - (0 : Nat)) (Prod.fst (getP (List.drop (1 : Nat) (List.drop (3 : Nat) b)) (0 : Int) (3 : Int)) + (0 : Int)) (Rd.mk c (List.drop (3 : Nat) (List.drop (1 : Nat) (List.drop (3 : Nat) b))) false))))) D.anil))), some (Obj.var (33 : Nat) (D.acons (D.int IntKind.i64 pl) (D.acons (D.vs (2 : Nat) (List.length its)) (D.acons (D.acons (D.vs (3 : Nat) (List.length (addL (0 : Int) (0 : Int) l0 (Prod.snd (gLines rdP false (Int.toNat (Prod.fst (getP (List.drop (3 : Nat) b) (0 : Int) (1 : Int))) - (0 : Nat)) (Prod.fst (getP (List.drop (1 : Nat) (List.drop (3 : Nat) b)) (0 : Int) (3 : Int)) + (0 : Int)) (Rd.mk c (List.drop (3 : Nat) (List.drop (1 : Nat) (List.drop (3 : Nat) b))) false)))))) (D.acons (D.vs (4 : Nat) (List.length (addL (0 : Int) (1 : Int) l1 (Prod.snd (gLines rdP false (Int.toNat (Prod.fst (getP (List.drop (3 : Nat) b) (0 : Int) (1 : Int))) - (0 : Nat)) (Prod.fst (getP (List.drop (1 : Nat) (List.drop (3 : Nat) b)) (0 : Int) (3 : Int)) + (0 : Int)) (Rd.mk c (List.drop (3 : Nat) (List.drop (1 : Nat) (List.drop (3 : Nat) b))) false)))))) (D.acons (D.vs (5 : Nat) (List.length (addL (0 : Int) (2 : Int) l2 (Prod.snd (gLines rdP false (Int.toNat (Prod.fst (getP (List.drop (3 : Nat) b) (0 : Int) (1 : Int))) - (0 : Nat)) (Prod.fst (getP (List.drop (1 : Nat) (List.drop (3 : Nat) b)) (0 : Int) (3 : Int)) + (0 : Int)) (Rd.mk c (List.drop (3 : Nat) (List.drop (1 : Nat) (List.drop (3 : Nat) b))) false)))))) D.anil))) (D.acons (D.arr RTy.int (3 : Nat) [Prod.fst (getP b (0 : Int) (3 : Int)), c1, c2]) D.anil))))), some (Obj.vec RTy.item true its), some (Obj.vec RTy.line true (addL (0 : Int) (0 : Int) l0 (Prod.snd (gLines rdP false (Int.toNat (Prod.fst (getP (List.drop (3 : Nat) b) (0 : Int) (1 : Int))) - (0 : Nat)) (Prod.fst (getP (List.drop (1 : Nat) (List.drop (3 : Nat) b)) (0 : Int) (3 : Int)) + (0 : Int)) (Rd.mk c (List.drop (3 : Nat) (List.drop (1 : Nat) (List.drop (3 : Nat) b))) false))))), some (Obj.vec RTy.line true (addL (0 : Int) (1 : Int) l1 (Prod.snd (gLines rdP false (Int.toNat (Prod.fst (getP (List.drop (3 : Nat) b) (0 : Int) (1 : Int))) - (0 : Nat)) (Prod.fst (getP (List.drop (1 : Nat) (List.drop (3 : Nat) b)) (0 : Int) (3 : Int)) + (0 : Int)) (Rd.mk c (List.drop (3 : Nat) (List.drop (1 : Nat) (List.drop (3 : Nat) b))) false))))), some (Obj.vec RTy.line true (addL (0 : Int) (2 : Int) l2 (Prod.snd (gLines rdP false (Int.toNat (Prod.fst (getP (List.drop (3 : Nat) b) (0 : Int) (1 : Int))) - (0 : Nat)) (Prod.fst (getP (List.drop (1 : Nat) (List.drop (3 : Nat) b)) (0 : Int) (3 : Int)) + (0 : Int)) (Rd.mk c (List.drop (3 : Nat) (List.drop (1 : Nat) (List.drop (3 : Nat) b))) false)))))]) else none else none else none else none else none else none else none) := by kernel_rfl
theorem rsQ_eq1 (c : Bool) (b : List UInt8) (bad : Bool) (pl : Int) (its : List Item) (l0 l1 l2 : List Line) (c0 c1 c2 : Int) : rsQ_r c b bad pl its l0 l1 l2 c0 c1 c2 1 = (bif decide (List.length b ≤ (1000000000000 : Nat)) then bif Prod.snd (getP b (0 : Int) (3 : Int)) != (0 : Int) then bif decide (List.length its = List.length its) && decide (List.length l0 = List.length l0) && decide (List.length l1 = List.length l1) && decide (List.length l2 = List.length l2) && decide ((0 : Int) ≤ (0 : Int) ∧ (0 : Int) ≤ (255 : Int) ∧ (0 : Nat) ≤ (1000000 : Nat) ∧ (List.length l0 ≤ (1000 : Nat) ∧ List.length l1 ≤ (1000 : Nat) ∧ List.length l2 ≤ (1000 : Nat)) ∧ ((0 : Int) ≤ (1 : Int) ∧ (1 : Int) ≤ (2 : Int)) ∧ (0 : Int) ≤ (0 : Int) ∧ (0 : Int) ≤ (16777215 : Int)) then some ((X.normal, [((4 : Nat), D.ptr (0 : Nat) []), ((5 : Nat), D.ptr (1 : Nat) []), ((39 : Nat), D.int IntKind.i64 (2 : Int))]), [some (Obj.var (74 : Nat) (D.acons (D.sl RTy.u8 true (Rd.b (Prod.fst (gLines rdP false (0 : Nat) (0 : Int) (Rd.mk true [] true))))) (D.acons (D.bool true) D.anil))), some (Obj.var (33 : Nat) (D.acons (D.int IntKind.i64 pl) (D.acons (D.vs (2 : Nat) (List.length its)) (D.acons (D.acons (D.vs (3 : Nat) (List.length (addL (1 : Int) (0 : Int) l0 (Prod.snd (gLines rdP false (0 : Nat) (0 : Int) (Rd.mk true [] true)))))) (D.acons (D.vs (4 : Nat) (List.length (addL (1 : Int) (1 : Int) l1 (Prod.snd (gLines rdP false (0 : Nat) (0 : Int) (Rd.mk true [] true)))))) (D.acons (D.vs (5 : Nat) (List.length (addL (1 : Int) (2 : Int) l2 (Prod.snd (gLines rdP false (0 : Nat) (0 : Int) (Rd.mk true [] true)))))) D.anil))) (D.acons (D.arr RTy.int (3 : Nat) [c0, (0 : Int), c2]) D.anil))))), some (Obj.vec RTy.item true its), some (Obj.vec RTy.line true (addL (1 : Int) (0 : Int) l0 (Prod.snd (gLines rdP false (0 : Nat) (0 : Int) (Rd.mk true [] true))))), some (Obj.vec RTy.line true (addL (1 : Int) (1 : Int) l1 (Prod.snd (gLines rdP false (0 : Nat) (0 : Int) (Rd.mk true [] true))))), some (Obj.vec RTy.line true (addL (1 : Int) (2 : Int) l2 (Prod.snd (gLines rdP false (0 : Nat) (0 : Int) (Rd.mk true [] true)))))]) else none else bif decide ((0 : Int) ≤ (3 : Int) ∧ (3 : Int) ≤ (↑(List.length b) : Int)) then bif decide (List.length (List.drop (3 : Nat) b) ≤ (1000000000000 : Nat)) then bif Prod.snd (getP (List.drop (3 : Nat) b) (0 : Int) (1 : Int)) != (0 : Int) then bif decide (List.length its = List.length its) && decide (List.length l0 = List.length l0) && decide (List.length l1 = List.length l1) && decide (List.length l2 = List.length l2) && decide ((0 : Int) ≤ (0 : Int) ∧ (0 : Int) ≤ (255 : Int) ∧ (0 : Nat) ≤ (1000000 : Nat) ∧ (List.length l0 ≤ (1000 : Nat) ∧ List.length l1 ≤ (1000 : Nat) ∧ List.length l2 ≤ (1000 : Nat)) ∧ ((0 : Int) ≤ (1 : Int) ∧ (1 : Int) ≤ (2 : Int)) ∧ (0 : Int) ≤ (0 : Int) ∧ (0 : Int) ≤ (16777215 : Int)) then some ((X.normal, [((4 : Nat), D.ptr (0 : Nat) []), ((5 : Nat), D.ptr (1 : Nat) []), ((39 : Nat), D.int IntKind.i64 (2 : Int))]), [some (Obj.var (74 : Nat) (D.acons (D.sl RTy.u8 true (Rd.b (Prod.fst (gLines rdP false (0 : Nat) (0 : Int) (Rd.mk true [] true))))) (D.acons (D.bool true) D.anil))), some (Obj.var (33 : Nat) (D.acons (D.int IntKind.i64 pl) (D.acons (D.vs (2 : Nat) (List.length its)) (D.acons (D.acons (D.vs (3 : Nat) (List.length (addL (1 : Int) (0 : Int) l0 (Prod.snd (gLines rdP false (0 : Nat) (0 : Int) (Rd.mk true [] true)))))) (D.acons (D.vs (4 : Nat) (List.length (addL (1 : Int) (1 : Int) l1 (Prod.snd (gLines rdP false (0 : Nat) (0 : Int) (Rd.mk true [] true)))))) (D.acons (D.vs (5 : Nat) (List.length (addL (1 : Int) (2 : Int) l2 (Prod.snd (gLines rdP false (0 : Nat) (0 : Int) (Rd.mk true [] true)))))) D.anil))) (D.acons (D.arr RTy.int (3 : Nat) [c0, Prod.fst (getP b (0 : Int) (3 : Int)), c2]) D.anil))))), some (Obj.vec RTy.item true its), some (Obj.vec RTy.line true (addL (1 : Int) (0 : Int) l0 (Prod.snd (gLines rdP false (0 : Nat) (0 : Int) (Rd.mk true [] true))))), some (Obj.vec RTy.line true (addL (1 : Int) (1 : Int) l1 (Prod.snd (gLines rdP false (0 : Nat) (0 : Int) (Rd.mk true [] true))))), some (Obj.vec RTy.line true (addL (1 : Int) (2 : Int) l2 (Prod.snd (gLines rdP false (0 : Nat) (0 : Int) (Rd.mk true [] true)))))]) else none else bif decide ((0 : Int) ≤ (1 : Int) ∧ (1 : Int) ≤ (↑(List.length (List.drop (3 : Nat) b)) : Int)) then bif decide (List.length (List.drop (1 : Nat) (List.drop (3 : Nat) b)) ≤ (1000000000000 : Nat)) then bif Prod.snd (getP (List.drop (1 : Nat) (List.drop (3 : Nat) b)) (0 : Int) (3 : Int)) != (0 : Int) then bif decide (List.length its = List.length its) && decide (List.length l0 = List.length l0) && decide (List.length l1 = List.length l1) && decide (List.length l2 = List.length l2) && decide ((0 : Int) ≤ Prod.fst (getP (List.drop (3 : Nat) b) (0 : Int) (1 : Int)) ∧ Prod.fst (getP (List.drop (3 : Nat) b) (0 : Int) (1 : Int)) ≤ (255 : Int) ∧ (0 : Nat) ≤ (1000000 : Nat) ∧ (List.length l0 ≤ (1000 : Nat) ∧ List.length l1 ≤ (1000 : Nat) ∧ List.length l2 ≤ (1000 : Nat)) ∧ ((0 : Int) ≤ (1 : Int) ∧ (1 : Int) ≤ (2 : Int)) ∧ (0 : Int) ≤ (0 : Int) ∧ (0 : Int) ≤ (16777215 : Int)) then some ((X.normal, [((4 : Nat), D.ptr (0 : Nat) []), ((5 : Nat), D.ptr (1 : Nat) []), ((39 : Nat), D.int IntKind.i64 (2 : Int))]), [some (Obj.var (74 : Nat) (D.acons (D.sl RTy.u8 (Rd.c (Prod.fst (gLines rdP false (Int.toNat (Prod.fst (getP (List.drop (3 : Nat) b) (0 : Int) (1 : Int))) - (0 : Nat)) (0 : Int) (Rd.mk true [] true)))) (Rd.b (Prod.fst (gLines rdP false (Int.toNat (Prod.fst (getP (List.drop (3 : Nat) b) (0 : Int) (1 : Int))) - (0 : Nat)) (0 : Int) (Rd.mk true [] true))))) (D.acons (D.bool (Rd.bad (Prod.fst (gLines rdP false (Int.toNat (Prod.fst (getP (List.drop (3 : Nat) b) (0 : Int) (1 : Int))) - (0 : Nat)) (0 : Int) (Rd.mk true [] true))))) D.anil))), some (Obj.var (33 : Nat) (D.acons (D.int IntKind.i64 pl) (D.acons (D.vs (2 : Nat) (List.length its)) (D.acons (D.acons (D.vs (3 : Nat) (List.length (addL (1 : Int) (0 : Int) l0 (Prod.snd (gLines rdP false (Int.toNat (Prod.fst (getP (List.drop (3 : Nat) b) (0 : Int) (1 : Int))) - (0 : Nat)) (0 : Int) (Rd.mk true [] true)))))) (D.acons (D.vs (4 : Nat) (List.length (addL (1 : Int) (1 : Int) l1 (Prod.snd (gLines rdP false (Int.toNat (Prod.fst (getP (List.drop (3 : Nat) b) (0 : Int) (1 : Int))) - (0 : Nat)) (0 : Int) (Rd.mk true [] true)))))) (D.acons (D.vs (5 : Nat) (List.length (addL (1 : Int) (2 : Int) l2 (Prod.snd (gLines rdP false (Int.toNat (Prod.fst (getP (List.drop (3 : Nat) b) (0 : Int) (1 : Int))) - (0 : Nat)) (0 : Int) (Rd.mk true [] true)))))) D.anil))) (D.acons (D.arr RTy.int (3 : Nat) [c0, Prod.fst (getP b (0 : Int) (3 : Int)), c2]) D.anil))))), some (Obj.vec RTy.item true its), some (Obj.vec RTy.line true (addL (1 : Int) (0 : Int) l0 (Prod.snd (gLines rdP false (Int.toNat (Prod.fst (getP (List.drop (3 : Nat) b) (0 : Int) (1 : Int))) - (0 : Nat)) (0 : Int) (Rd.mk true [] true))))), some (Obj.vec RTy.line true (addL (1 : Int) (1 : Int) l1 (Prod.snd (gLines rdP false (Int.toNat (Prod.fst (getP (List.drop (3 : Nat) b) (0 : Int) (1 : Int))) - (0 : Nat)) (0 : Int) (Rd.mk true [] true))))), some (Obj.vec RTy.line true (addL (1 : Int) (2 : Int) l2 (Prod.snd (gLines rdP false (Int.toNat (Prod.fst (getP (List.drop (3 : Nat) b) (0 : Int) (1 : Int))) - (0 : Nat)) (0 : Int) (Rd.mk true [] true)))))]) else none else bif decide ((0 : Int) ≤ (3 : Int) ∧ (3 : Int) ≤ (↑(List.length (List.drop (1 : Nat) (List.drop (3 : Nat) b))) : Int)) then bif bad then bif decide (List.length its = List.length its) && decide (List.length l0 = List.length l0) && decide (List.length l1 = List.length l1) && decide (List.length l2 = List.length l2) && decide ((0 : Int) ≤ Prod.fst (getP (List.drop (3 : Nat) b) (0 : Int) (1 : Int)) ∧ Prod.fst (getP (List.drop (3 : Nat) b) (0 : Int) (1 : Int)) ≤ (255 : Int) ∧ List.length (List.drop (3 : Nat) (List.drop (1 : Nat) (List.drop (3 : Nat) b))) ≤ (1000000 : Nat) ∧ (List.length l0 ≤ (1000 : Nat) ∧ List.length l1 ≤ (1000 : Nat) ∧ List.length l2 ≤ (1000 : Nat)) ∧ ((0 : Int) ≤ (1 : Int) ∧ (1 : Int) ≤ (2 : Int)) ∧ (0 : Int) ≤ Prod.fst (getP (List.drop (1 : Nat) (List.drop (3 : Nat) b)) (0 : Int) (3 : Int)) ∧ Prod.fst (getP (List.drop (1 : Nat) (List.drop (3 : Nat) b)) (0 : Int) (3 : Int)) ≤ (16777215 : Int)) then some ((X.normal, [((4 : Nat), D.ptr (0 : Nat) []), ((5 : Nat), D.ptr (1 : Nat) []), ((39 : Nat), D.int IntKind.i64 (2 : Int))]), [some (Obj.var (74 : Nat) (D.acons (D.sl RTy.u8 (Rd.c (Prod.fst (gLines rdP false (Int.toNat (Prod.fst (getP (List.drop (3 : Nat) b) (0 : Int) (1 : Int))) - (0 : Nat)) (Prod.fst (getP (List.drop (1 : Nat) (List.drop (3 : Nat) b)) (0 : Int) (3 : Int)) + (0 : Int)) (Rd.mk c (List.drop (3 : Nat) (List.drop (1 : Nat) (List.drop (3 : Nat) b))) true)))) (Rd.b (Prod.fst (gLines rdP false (Int.toNat (Prod.fst (getP (List.drop (3 : Nat) b) (0 : Int) (1 : Int))) - (0 : Nat)) (Prod.fst (getP (List.drop (1 : Nat) (List.drop (3 : Nat) b)) (0 : Int) (3 : Int)) + (0 : Int)) (Rd.mk c (List.drop (3 : Nat) (List.drop (1 : Nat) (List.drop (3 : Nat) b))) true))))) (D.acons (D.bool (Rd.bad (Prod.fst (gLines rdP false (Int.toNat (Prod.fst (getP (List.drop (3 : Nat) b) (0 : Int) (1 : Int))) - (0 : Nat)) (Prod.fst (getP (List.drop (1 : Nat) (List.drop (3 : Nat) b)) (0 : Int) (3 : Int)) + (0 : Int)) (Rd.mk c (List.drop (3 : Nat) (List.drop (1 : Nat) (List.drop (3 : Nat) b))) true))))) D.anil))), some (Obj.var (33 : Nat) (D.acons (D.int IntKind.i64 pl) (D.acons (D.vs (2 : Nat) (List.length its)) (D.acons (D.acons (D.vs (3 : Nat) (List.length (addL (1 : Int) (0 : Int) l0 (Prod.snd (gLines rdP false (Int.toNat (Prod.fst (getP (List.drop (3 : Nat) b) (0 : Int) (1 : Int))) - (0 : Nat)) (Prod.fst (getP (List.drop (1 : Nat) (List.drop (3 : Nat) b)) (0 : Int) (3 : Int)) + (0 : Int)) (Rd.mk c (List.drop (3 : Nat) (List.drop (1 : Nat) (List.drop (3 : Nat) b))) true)))))) (D.acons (D.vs (4 : Nat) (List.length (addL (1 : Int) (1 : Int) l1 (Prod.snd (gLines rdP false (Int.toNat (Prod.fst (getP (List.drop (3 : Nat) b) (0 : Int) (1 : Int))) - (0 : Nat)) (Prod.fst (getP (List.drop (1 : Nat) (List.drop (3 : Nat) b)) (0 : Int) (3 : Int)) + (0 : Int)) (Rd.mk c (List.drop (3 : Nat) (List.drop (1 : Nat) (List.drop (3 : Nat) b))) true)))))) (D.acons (D.vs (5 : Nat) (List.length (addL (1 : Int) (2 : Int) l2 (Prod.snd (gLines rdP false (Int.toNat (Prod.fst (getP (List.drop (3 : Nat) b) (0 : Int) (1 : Int))) - (0 : Nat)) (Prod.fst (getP (List.drop (1 : Nat) (List.drop (3 : Nat) b)) (0 : Int) (3 : Int)) + (0 : Int)) (Rd.mk c (List.drop (3 : Nat) (List.drop (1 : Nat) (List.drop (3 : Nat) b))) true)))))) D.anil))) (D.acons (D.arr RTy.int (3 : Nat) [c0, Prod.fst (getP b (0 : Int) (3 : Int)), c2]) D.anil))))), some (Obj.vec RTy.item true its), some (Obj.vec RTy.line true (addL (1 : Int) (0 : Int) l0 (Prod.snd (gLines rdP false (Int.toNat (Prod.fst (getP (List.drop (3 : Nat) b) (0 : Int) (1 : Int))) - (0 : Nat)) (Prod.fst (getP (List.drop (1 : Nat) (List.drop (3 : Nat) b)) (0 : Int) (3 : Int)) + (0 : Int)) (Rd.mk c (List.drop (3 : Nat) (List.drop (1 : Nat) (List.drop (3 : Nat) b))) true))))), some (Obj.vec RTy.line true (addL (1 : Int) (1 : Int) l1 (Prod.snd (gLines rdP false (Int.toNat (Prod.fst (getP (List.drop (3 : Nat) b) (0 : Int) (1 : Int))) - (0 : Nat)) (Prod.fst (getP (List.drop (1 : Nat) (List.drop (3 : Nat) b)) (0 : Int) (3 : Int)) + (0 : Int)) (Rd.mk c (List.drop (3 : Nat) (List.drop (1 : Nat) (List.drop (3 : Nat) b))) true))))), some (Obj.vec RTy.line true (addL (1 : Int) (2 : Int) l2 (Prod.snd (gLines rdP false (Int.toNat (Prod.fst (getP (List.drop (3 : Nat) b) (0 : Int) (1 : Int))) - (0 : Nat)) (Prod.fst (getP (List.drop (1 : Nat) (List.drop (3 : Nat) b)) (0 : Int) (3 : Int)) + (0 : Int)) (Rd.mk c (List.drop (3 : Nat) (List.drop (1 : Nat) (List.drop (3 : Nat) b))) true)))))]) else none else bif Prod.fst (getP (List.drop (3 : Nat) b) (0 : Int) (1 : Int)) == (0 : Int) then bif decide (List.length its = List.length its) && decide (List.length l0 = List.length l0) && decide (List.length l1 = List.length l1) && decide (List.length l2 = List.length l2) && decide ((0 : Int) ≤ Prod.fst (getP (List.drop (3 : Nat) b) (0 : Int) (1 : Int)) ∧ Prod.fst (getP (List.drop (3 : Nat) b) (0 : Int) (1 : Int)) ≤ (255 : Int) ∧ List.length (List.drop (3 : Nat) (List.drop (1 : Nat) (List.drop (3 : Nat) b))) ≤ (1000000 : Nat) ∧ (List.length l0 ≤ (1000 : Nat) ∧ List.length l1 ≤ (1000 : Nat) ∧ List.length l2 ≤ (1000 : Nat)) ∧ ((0 : Int) ≤ (1 : Int) ∧ (1 : Int) ≤ (2 : Int)) ∧ (0 : Int) ≤ Prod.fst (getP (List.drop (1 : Nat) (List.drop (3 : Nat) b)) (0 : Int) (3 : Int)) ∧ Prod.fst (getP (List.drop (1 : Nat) (List.drop (3 : Nat) b)) (0 : Int) (3 : Int)) ≤ (16777215 : Int)) then some ((X.normal, [((4 : Nat), D.ptr (0 : Nat) []), ((5 : Nat), D.ptr (1 : Nat) []), ((39 : Nat), D.int IntKind.i64 (2 : Int))]), [some (Obj.var (74 : Nat) (D.acons (D.sl RTy.u8 (Rd.c (Prod.fst (gLines rdP false (Int.toNat (Prod.fst (getP (List.drop (3 : Nat) b) (0 : Int) (1 : Int))) - (0 : Nat)) (Prod.fst (getP (List.drop (1 : Nat) (List.drop (3 : Nat) b)) (0 : Int) (3 : Int)) + (0 : Int)) (Rd.mk c (List.drop (3 : Nat) (List.drop (1 : Nat) (List.drop (3 : Nat) b))) (Prod.fst (getP (List.drop (1 : Nat) (List.drop (3 : Nat) b)) (0 : Int) (3 : Int)) != (0 : Int)))))) (Rd.b (Prod.fst (gLines rdP false (Int.toNat (Prod.fst (getP (List.drop (3 : Nat) b) (0 : Int) (1 : Int))) - (0 : Nat)) (Prod.fst (getP (List.drop (1 : Nat) (List.drop (3 : Nat) b)) (0 : Int) (3 : Int)) + (0 : Int)) (Rd.mk c (List.drop (3 : Nat) (List.drop (1 : Nat) (List.drop (3 : Nat) b))) (Prod.fst (getP (List.drop (1 : Nat) (List.drop (3 : Nat) b)) (0 : Int) (3 : Int)) != (0 : Int))))))) (D.acons (D.bool (Rd.bad (Prod.fst (gLines rdP false (Int.toNat (Prod.fst (getP (List.drop (3 : Nat) b) (0 : Int) (1 : Int))) - (0 : Nat)) (Prod.fst (getP (List.drop (1 : Nat) (List.drop (3 : Nat) b)) (0 : Int) (3 : Int)) + (0 : Int)) (Rd.mk c (List.drop (3 : Nat) (List.drop (1 : Nat) (List.drop (3 : Nat) b))) (Prod.fst (getP (List.drop (1 : Nat) (List.drop (3 : Nat) b)) (0 : Int) (3 : Int)) != (0 : Int))))))) D.anil))), some (Obj.var (33 : Nat) (D.acons (D.int IntKind.i64 pl) (D.acons (D.vs (2 : Nat) (List.length its)) (D.acons (D.acons (D.vs (3 : Nat) (List.length (addL (1 : Int) (0 : Int) l0 (Prod.snd (gLines rdP false (Int.toNat (Prod.fst (getP (List.drop (3 : Nat) b) (0 : Int) (1 : Int))) - (0 : Nat)) (Prod.fst (getP (List.drop (1 : Nat) (List.drop (3 : Nat) b)) (0 : Int) (3 : Int)) + (0 : Int)) (Rd.mk c (List.drop (3 : Nat) (List.drop (1 : Nat) (List.drop (3 : Nat) b))) (Prod.fst (getP (List.drop (1 : Nat) (List.drop (3 : Nat) b)) (0 : Int) (3 : Int)) != (0 : Int)))))))) (D.acons (D.vs (4 : Nat) (List.length (addL (1 : Int) (1 : Int) l1 (Prod.snd (gLines rdP false (Int.toNat (Prod.fst (getP (List.drop (3 : Nat) b) (0 : Int) (1 : Int))) - (0 : Nat)) (Prod.fst (getP (List.drop (1 : Nat) (List.drop (3 : Nat) b)) (0 : Int) (3 : Int)) + (0 : Int)) (Rd.mk c (List.drop (3 : Nat) (List.drop (1 : Nat) (List.drop (3 : Nat) b))) (Prod.fst (getP (List.drop (1 : Nat) (List.drop (3 : Nat) b)) (0 : Int) (3 : Int)) != (0 : Int)))))))) (D.acons (D.vs (5 : Nat) (List.length (addL (1 : Int) (2 : Int) l2 (Prod.snd (gLines rdP false (Int.toNat (Prod.fst (getP (List.drop (3 : Nat) b) (0 : Int) (1 : Int))) - (0 : Nat)) (Prod.fst (getP (List.drop (1 : Nat) (List.drop (3 : Nat) b)) (0 : Int) (3 : Int)) + (0 : Int)) (Rd.mk c (List.drop (3 : Nat) (List.drop (1 : Nat) (List.drop (3 : Nat) b))) (Prod.fst (getP (List.drop (1 : Nat) (List.drop (3 : Nat) b)) (0 : Int) (3 : Int)) != (0 : Int)))))))) D.anil))) (D.acons (D.arr RTy.int (3 : Nat) [c0, Prod.fst (getP b (0 : Int) (3 : Int)), c2]) D.anil))))), some (Obj.vec RTy.item true its), some (Obj.vec RTy.line true (addL (1 : Int) (0 : Int) l0 (Prod.snd (gLines rdP false (Int.toNat (Prod.fst (getP (List.drop (3 : Nat) b) (0 : Int) (1 : Int))) - (0 : Nat)) (Prod.fst (getP (List.drop (1 : Nat) (List.drop (3 : Nat) b)) (0 : Int) (3 : Int)) + (0 : Int)) (Rd.mk c (List.drop (3 : Nat) (List.drop (1 : Nat) (List.drop (3 : Nat) b))) (Prod.fst (getP (List.drop (1 : Nat) (List.drop (3 : Nat) b)) (0 : Int) (3 : Int)) != (0 : Int))))))), some (Obj.vec RTy.line true (addL (1 : Int) (1 : Int) l1 (Prod.snd (gLines rdP false (Int.toNat (Prod.fst (getP (List.drop (3 : Nat) b) (0 : Int) (1 : Int))) - (0 : Nat)) (Prod.fst (getP (List.drop (1 : Nat) (List.drop (3 : Nat) b)) (0 : Int) (3 : Int)) + (0 : Int)) (Rd.mk c (List.drop (3 : Nat) (List.drop (1 : Nat) (List.drop (3 : Nat) b))) (Prod.fst (getP (List.drop (1 : Nat) (List.drop (3 : Nat) b)) (0 : Int) (3 : Int)) != (0 : Int))))))), some (Obj.vec RTy.line true (addL (1 : Int) (2 : Int) l2 (Prod.snd (gLines rdP false (Int.toNat (Prod.fst (getP (List.drop (3 : Nat) b) (0 : Int) (1 : Int))) - (0 : Nat)) (Prod.fst (getP (List.drop (1 : Nat) (List.drop (3 : Nat) b)) (0 : Int) (3 : Int)) + (0 : Int)) (Rd.mk c (List.drop (3 : Nat) (List.drop (1 : Nat) (List.drop (3 : Nat) b))) (Prod.fst (getP (List.drop (1 : Nat) (List.drop (3 : Nat) b)) (0 : Int) (3 : Int)) != (0 : Int)))))))]) else none else bif decide (List.length its = List.length its) && decide (List.length l0 = List.length l0) && decide (List.length l1 = List.length l1) && decide (List.length l2 = List.length l2) && decide ((0 : Int) ≤ Prod.fst (getP (List.drop (3 : Nat) b) (0 : Int) (1 : Int)) ∧ Prod.fst (getP (List.drop (3 : Nat) b) (0 : Int) (1 : Int)) ≤ (255 : Int) ∧ List.length (List.drop (3 : Nat) (List.drop (1 : Nat) (List.drop (3 : Nat) b))) ≤ (1000000 : Nat) ∧ (List.length l0 ≤ (1000 : Nat) ∧ List.length l1 ≤ (1000 : Nat) ∧ List.length l2 ≤ (1000 : Nat)) ∧ ((0 : Int) ≤ (1 : Int) ∧ (1 : Int) ≤ (2 : Int)) ∧ (0 : Int) ≤ Prod.fst (getP (List.drop (1 : Nat) (List.drop (3 : Nat) b)) (0 : Int) (3 : Int)) ∧ Prod.fst (getP (List.drop (1 : Nat) (List.drop (3 : Nat) b)) (0 : Int) (3 : Int)) ≤ (16777215 : Int)) then some ((X.normal, [((4 : Nat), D.ptr (0 : Nat) []), ((5 : Nat), D.ptr (1 : Nat) []), ((39 : Nat), D.int IntKind.i64 (2 : Int))]), [some (Obj.var (74 : Nat) (D.acons (D.sl RTy.u8 (Rd.c (Prod.fst (gLines rdP false (Int.toNat (Prod.fst (getP (List.drop (3 : Nat) b) (0 : Int) (1 : Int))) - (0 : Nat)) (Prod.fst (getP (List.drop (1 : Nat) (List.drop (3 : Nat) b)) (0 : Int) (3 : Int)) + (0 : Int)) (Rd.mk c (List.drop (3 : Nat) (List.drop (1 : Nat) (List.drop (3 : Nat) b))) false)))) (Rd.b (Prod.fst (gLines rdP false (Int.toNat (Prod.fst (getP (List.drop (3 : Nat) b) (0 : Int) (1 : Int))) - (0 : Nat)) (Prod.fst (getP (List.drop (1 : Nat) (List.drop (3 : Nat) b)) (0 : Int) (3 : Int)) + (0 : Int)) (Rd.mk c (List.drop (3 : Nat) (List.drop (1 : Nat) (List.drop (3 : Nat) b))) false))))) (D.acons (D.bool (Rd.bad (Prod.fst (gLines rdP false (Int.toNat (Prod.fst (getP (List.drop (3 : Nat) b) (0 : Int) (1 : Int))) - (0 : Nat)) (Prod.fst (getP (List.drop (1 : Nat) (List.drop (3 : Nat) b)) (0 : Int) (3 : Int)) + (0 : Int)) (Rd.mk c (List.drop (3 : Nat) (List.drop (1 : Nat) (List.drop (3 : Nat) b))) false))))) D.anil))), some (Obj.var (33 : Nat) (D.acons (D.int IntKind.i64 pl) (D.acons (D.vs (2 : Nat) (List.length its)) (D.acons (D.acons (D.vs (3 : Nat) (List.length (addL (1 : Int) (0 : Int) l0 (Prod.snd (gLines rdP false (Int.toNat (Prod.fst (getP (List.drop (3 : Nat) b) (0 : Int) (1 : Int))) - (0 : Nat)) (Prod.fst (getP (List.drop (1 : Nat) (List.drop (3 : Nat) b)) (0 : Int) (3 : Int)) + (0 : Int)) (Rd.mk c (List.drop (3 : Nat) (List.drop (1 : Nat) (List.drop (3 : Nat) b))) false)))))) (D.acons (D.vs (4 : Nat) (List.length (addL (1 : Int) (1 : Int) l1 (Prod.snd (gLines rdP false (Int.toNat (Prod.fst (getP (List.drop (3 : Nat) b) (0 : Int) (1 : Int))) - (0 : Nat)) (Prod.fst (getP (List.drop (1 : Nat) (List.drop (3 : Nat) b)) (0 : Int) (3 : Int)) + (0 : Int)) (Rd.mk c (List.drop (3 : Nat) (List.drop (1 : Nat) (List.drop (3 : Nat) b))) false)))))) (D.acons (D.vs (5 : Nat) (List.length (addL (1 : Int) (2 : Int) l2 (Prod.snd (gLines rdP false (Int.toNat (Prod.fst (getP (List.drop (3 : Nat) b) (0 : Int) (1 : Int))) - (0 : Nat)) (Prod.fst (getP (List.drop (1 : Nat) (List.drop (3 : Nat) b)) (0 : Int) (3 : Int)) + (0 : Int)) (Rd.mk c (List.drop (3 : Nat) (List.drop (1 : Nat) (List.drop (3 : Nat) b))) false)))))) D.anil))) (D.acons (D.arr RTy.int (3 : Nat) [c0, Prod.fst (getP b (0 : Int) (3 : Int)), c2]) D.anil))))), some (Obj.vec RTy.item true its), some (Obj.vec RTy.line true (addL (1 : Int) (0 : Int) l0 (Prod.snd (gLines rdP false (Int.toNat (Prod.fst (getP (List.drop (3 : Nat) b) (0 : Int) (1 : Int))) - (0 : Nat)) (Prod.fst (getP (List.drop (1 : Nat) (List.drop (3 : Nat) b)) (0 : Int) (3 : Int)) + (0 : Int)) (Rd.mk c (List.drop (3 : Nat) (List.drop (1 : Nat) (List.drop (3 : Nat) b))) false))))), some (Obj.vec RTy.line true (addL (1 : Int) (1 : Int) l1 (Prod.snd (gLines rdP false (Int.toNat (Prod.fst (getP (List.drop (3 : Nat) b) (0 : Int) (1 : Int))) - (0 : Nat)) (Prod.fst (getP (List.drop (1 : Nat) (List.drop (3 : Nat) b)) (0 : Int) (3 : Int)) + (0 : Int)) (Rd.mk c (List.drop (3 : Nat) (List.drop (1 : Nat) (List.drop (3 : Nat) b))) false))))), some (Obj.vec RTy.line true (addL (1 : Int) (2 : Int) l2 (Prod.snd (gLines rdP false (Int.toNat (Prod.fst (getP (List.drop (3 : Nat) b) (0 : Int) (1 : Int))) - (0 : Nat)) (Prod.fst (getP (List.drop (1 : Nat) (List.drop (3 : Nat) b)) (0 : Int) (3 : Int)) + (0 : Int)) (Rd.mk c (List.drop (3 : Nat) (List.drop (1 : Nat) (List.drop (3 : Nat) b))) false)))))]) else none else none else none else none else none else none else none) := by kernel_rfl
theorem rsQ_eq2 (c : Bool) (b : List UInt8) (bad : Bool) (pl : Int) (its : List Item) (l0 l1 l2 : List Line) (c0 c1 c2 : Int) : rsQ_r c b bad pl its l0 l1 l2 c0 c1 c2 2 = (bif decide (List.length b ≤ (1000000000000 : Nat)) then bif Prod.snd (getP b (0 : Int) (3 : Int)) != (0 : Int) then bif decide (List.length its = List.length its) && decide (List.length l0 = List.length l0) && decide (List.length l1 = List.length l1) && decide (List.length l2 = List.length l2) && decide ((0 : Int) ≤ (0 : Int) ∧ (0 : Int) ≤ (255 : Int) ∧ (0 : Nat) ≤ (1000000 : Nat) ∧ (List.length l0 ≤ (1000 : Nat) ∧ List.length l1 ≤ (1000 : Nat) ∧ List.length l2 ≤ (1000 : Nat)) ∧ ((0 : Int) ≤ (2 : Int) ∧ (2 : Int) ≤ (2 : Int)) ∧ (0 : Int) ≤ (0 : Int) ∧ (0 : Int) ≤ (16777215 : Int)) then some ((X.normal, [((4 : Nat), D.ptr (0 : Nat) []), ((5 : Nat), D.ptr (1 : Nat) []), ((39 : Nat), D.int IntKind.i64 (3 : Int))]), [some (Obj.var (74 : Nat) (D.acons (D.sl RTy.u8 true (Rd.b (Prod.fst (gLines rdP false (0 : Nat) (0 : Int) (Rd.mk true [] true))))) (D.acons (D.bool true) D.anil))), some (Obj.var (33 : Nat) (D.acons (D.int IntKind.i64 pl) (D.acons (D.vs (2 : Nat) (List.length its)) (D.acons (D.acons (D.vs (3 : Nat) (List.length (addL (2 : Int) (0 : Int) l0 (Prod.snd (gLines rdP false (0 : Nat) (0 : Int) (Rd.mk true [] true)))))) (D.acons (D.vs (4 : Nat) (List.length (addL (2 : Int) (1 : Int) l1 (Prod.snd (gLines rdP false (0 : Nat) (0 : Int) (Rd.mk true [] true)))))) (D.acons (D.vs (5 : Nat) (List.length (addL (2 : Int) (2 : Int) l2 (Prod.snd (gLines rdP false (0 : Nat) (0 : Int) (Rd.mk true [] true)))))) D.anil))) (D.acons (D.arr RTy.int (3 : Nat) [c0, c1, (0 : Int)]) D.anil))))), some (Obj.vec RTy.item true its), some (Obj.vec RTy.line true (addL (2 : Int) (0 : Int) l0 (Prod.snd (gLines rdP false (0 : Nat) (0 : Int) (Rd.mk true [] true))))), some (Obj.vec RTy.line true (addL (2 : Int) (1 : Int) l1 (Prod.snd (gLines rdP false (0 : Nat) (0 : Int) (Rd.mk true [] true))))), some (Obj.vec RTy.line true (addL (2 : Int) (2 : Int) l2 (Prod.snd (gLines rdP false (0 : Nat) (0 : Int) (Rd.mk true [] true)))))]) else none else bif decide ((0 : Int) ≤ (3 : Int) ∧ (3 : Int) ≤ (↑(List.length b) : Int)) then bif decide (List.length (List.drop (3 : Nat) b) ≤ (1000000000000 : Nat)) then bif Prod.snd (getP (List.drop (3 : Nat) b) (0 : Int) (1 : Int)) != (0 : Int) then bif decide (List.length its = List.length its) && decide (List.length l0 = List.length l0) && decide (List.length l1 = List.length l1) && decide (List.length l2 = List.length l2) && decide ((0 : Int) ≤ (0 : Int) ∧ (0 : Int) ≤ (255 : Int) ∧ (0 : Nat) ≤ (1000000 : Nat) ∧ (List.length l0 ≤ (1000 : Nat) ∧ List.length l1 ≤ (1000 : Nat) ∧ List.length l2 ≤ (1000 : Nat)) ∧ ((0 : Int) ≤ (2 : Int) ∧ (2 : Int) ≤ (2 : Int)) ∧ (0 : Int) ≤ (0 : Int) ∧ (0 : Int) ≤ (16777215 : Int)) then some ((X.normal, [((4 : Nat), D.ptr (0 : Nat) []), ((5 : Nat), D.ptr (1 : Nat) []), ((39 : Nat), D.int IntKind.i64 (3 : Int))]), [some (Obj.var (74 : Nat) (D.acons (D.sl RTy.u8 true (Rd.b (Prod.fst (gLines rdP false (0 : Nat) (0 : Int) (Rd.mk true [] true))))) (D.acons (D.bool true) D.anil))), some (Obj.var (33 : Nat) (D.acons (D.int IntKind.i64 pl) (D.acons (D.vs (2 : Nat) (List.length its)) (D.acons (D.acons (D.vs (3 : Nat) (List.length (addL (2 : Int) (0 : Int) l0 (Prod.snd (gLines rdP false (0 : Nat) (0 : Int) (Rd.mk true [] true)))))) (D.acons (D.vs (4 : Nat) (List.length (addL (2 : Int) (1 : Int) l1 (Prod.snd (gLines rdP false (0 : Nat) (0 : Int) (Rd.mk true [] true)))))) (D.acons (D.vs (5 : Nat) (List.length (addL (2 : Int) (2 : Int) l2 (Prod.snd (gLines rdP false (0 : Nat) (0 : Int) (Rd.mk true [] true)))))) D.anil))) (D.acons (D.arr RTy.int (3 : Nat) [c0, c1, Prod.fst (getP b (0 : Int) (3 : Int))]) D.anil))))), some (Obj.vec RTy.item true its), some (Obj.vec RTy.line true (addL (2 : Int) (0 : Int) l0 (Prod.snd (gLines rdP false (0 : Nat) (0 : Int) (Rd.mk true [] true))))), some (Obj.vec RTy.line true (addL (2 : Int) (1 : Int) l1 (Prod.snd (gLines rdP false (0 : Nat) (0 : Int) (Rd.mk true [] true))))), some (Obj.vec RTy.line true (addL (2 : Int) (2 : Int) l2 (Prod.snd (gLines rdP false (0 : Nat) (0 : Int) (Rd.mk true [] true)))))]) else none else bif decide ((0 : Int) ≤ (1 : Int) ∧ (1 : Int) ≤ (↑(List.length (List.drop (3 : Nat) b)) : Int)) then bif decide (List.length (List.drop (1 : Nat) (List.drop (3 : Nat) b)) ≤ (1000000000000 : Nat)) then bif Prod.snd (getP (List.drop (1 : Nat) (List.drop (3 : Nat) b)) (0 : Int) (3 : Int)) != (0 : Int) then bif decide (List.length its = List.length its) && decide (List.length l0 = List.length l0) && decide (List.length l1 = List.length l1) && decide (List.length l2 = List.length l2) && decide ((0 : Int) ≤ Prod.fst (getP (List.drop (3 : Nat) b) (0 : Int) (1 : Int)) ∧ Prod.fst (getP (List.drop (3 : Nat) b) (0 : Int) (1 : Int)) ≤ (255 : Int) ∧ (0 : Nat) ≤ (1000000 : Nat) ∧ (List.length l0 ≤ (1000 : Nat) ∧ List.length l1 ≤ (1000 : Nat) ∧ List.length l2 ≤ (1000 : Nat)) ∧ ((0 : Int) ≤ (2 : Int) ∧ (2 : Int) ≤ (2 : Int)) ∧ (0 : Int) ≤ (0 : Int) ∧ (0 : Int) ≤ (16777215 : Int)) then some ((X.normal, [((4 : Nat), D.ptr (0 : Nat) []), ((5 : Nat), D.ptr (1 : Nat) []), ((39 : Nat), D.int IntKind.i64 (3 : Int))]), [some (Obj.var (74 : Nat) (D.acons (D.sl RTy.u8 (Rd.c (Prod.fst (gLines rdP false (Int.toNat (Prod.fst (getP (List.drop (3 : Nat) b) (0 : Int) (1 : Int))) - (0 : Nat)) (0 : Int) (Rd.mk true [] true)))) (Rd.b (Prod.fst (gLines rdP false (Int.toNat (Prod.fst (getP (List.drop (3 : Nat) b) (0 : Int) (1 : Int))) - (0 : Nat)) (0 : Int) (Rd.mk true [] true))))) (D.acons (D.bool (Rd.bad (Prod.fst (gLines rdP false (Int.toNat (Prod.fst (getP (List.drop (3 : Nat) b) (0 : Int) (1 : Int))) - (0 : Nat)) (0 : Int) (Rd.mk true [] true))))) D.anil))), some (Obj.var (33 : Nat) (D.acons (D.int IntKind.i64 pl) (D.acons (D.vs (2 : Nat) (List.length its)) (D.acons (D.acons (D.vs (3 : Nat) (List.length (addL (2 : Int) (0 : Int) l0 (Prod.snd (gLines rdP false (Int.toNat (Prod.fst (getP (List.drop (3 : Nat) b) (0 : Int) (1 : Int))) - (0 : Nat)) (0 : Int) (Rd.mk true [] true)))))) (D.acons (D.vs (4 : Nat) (List.length (addL (2 : Int) (1 : Int) l1 (Prod.snd (gLines rdP false (Int.toNat (Prod.fst (getP (List.drop (3 : Nat) b) (0 : Int) (1 : Int))) - (0 : Nat)) (0 : Int) (Rd.mk true [] true)))))) (D.acons (D.vs (5 : Nat) (List.length (addL (2 : Int) (2 : Int) l2 (Prod.snd (gLines rdP false (Int.toNat (Prod.fst (getP (List.drop (3 : Nat) b) (0 : Int) (1 : Int))) - (0 : Nat)) (0 : Int) (Rd.mk true [] true)))))) D.anil))) (D.acons (D.arr RTy.int (3 : Nat) [c0, c1, Prod.fst (getP b (0 : Int) (3 : Int))]) D.anil))))), some (Obj.vec RTy.item true its), some (Obj.vec RTy.line true (addL (2 : Int) (0 : Int) l0 (Prod.snd (gLines rdP false (Int.toNat (Prod.fst (getP (List.drop (3 : Nat) b) (0 : Int) (1 : Int))) - (0 : Nat)) (0 : Int) (Rd.mk true [] true))))), some (Obj.vec RTy.line true (addL (2 : Int) (1 : Int) l1 (Prod.snd (gLines rdP false (Int.toNat (Prod.fst (getP (List.drop (3 : Nat) b) (0 : Int) (1 : Int))) - (0 : Nat)) (0 : Int) (Rd.mk true [] true))))), some (Obj.vec RTy.line true (addL (2 : Int) (2 : Int) l2 (Prod.snd (gLines rdP false (Int.toNat (Prod.fst (getP (List.drop (3 : Nat) b) (0 : Int) (1 : Int))) - (0 : Nat)) (0 : Int) (Rd.mk true [] true)))))]) else none else bif decide ((0 : Int) ≤ (3 : Int) ∧ (3 : Int) ≤ (↑(List.length (List.drop (1 : Nat) (List.drop (3 : Nat) b))) : Int)) then bif bad then bif decide (List.length its = List.length its) && decide (List.length l0 = List.length l0) && decide (List.length l1 = List.length l1) && decide (List.length l2 = List.length l2) && decide ((0 : Int) ≤ Prod.fst (getP (List.drop (3 : Nat) b) (0 : Int) (1 : Int)) ∧ Prod.fst (getP (List.drop (3 : Nat) b) (0 : Int) (1 : Int)) ≤ (255 : Int) ∧ List.length (List.drop (3 : Nat) (List.drop (1 : Nat) (List.drop (3 : Nat) b))) ≤ (1000000 : Nat) ∧ (List.length l0 ≤ (1000 : Nat) ∧ List.length l1 ≤ (1000 : Nat) ∧ List.length l2 ≤ (1000 : Nat)) ∧ ((0 : Int) ≤ (2 : Int) ∧ (2 : Int) ≤ (2 : Int)) ∧ (0 : Int) ≤ Prod.fst (getP (List.drop (1 : Nat) (List.drop (3 : Nat) b)) (0 : Int) (3 : Int)) ∧ Prod.fst (getP (List.drop (1 : Nat) (List.drop (3 : Nat) b)) (0 : Int) (3 : Int)) ≤ (16777215 : Int)) then some ((X.normal, [((4 : Nat), D.ptr (0 : Nat) []), ((5 : Nat), D.ptr (1 : Nat) []), ((39 : Nat), D.int IntKind.i64 (3 : Int))]), [some (Obj.var (74 : Nat) (D.acons (D.sl RTy.u8 (Rd.c (Prod.fst (gLines rdP false (Int.toNat (Prod.fst (getP (List.drop (3 : Nat) b) (0 : Int) (1 : Int))) - (0 : Nat)) (Prod.fst (getP (List.drop (1 : Nat) (List.drop (3 : Nat) b)) (0 : Int) (3 : Int)) + (0 : Int)) (Rd.mk c (List.drop (3 : Nat) (List.drop (1 : Nat) (List.drop (3 : Nat) b))) true)))) (Rd.b (Prod.fst (gLines rdP false (Int.toNat (Prod.fst (getP (List.drop (3 : Nat) b) (0 : Int) (1 : Int))) - (0 : Nat)) (Prod.fst (getP (List.drop (1 : Nat) (List.drop (3 : Nat) b)) (0 : Int) (3 : Int)) + (0 : Int)) (Rd.mk c (List.drop (3 : Nat) (List.drop (1 : Nat) (List.drop (3 : Nat) b))) true))))) (D.acons (D.bool (Rd.bad (Prod.fst (gLines rdP false (Int.toNat (Prod.fst (getP (List.drop (3 : Nat) b) (0 : Int) (1 : Int))) - (0 : Nat)) (Prod.fst (getP (List.drop (1 : Nat) (List.drop (3 : Nat) b)) (0 : Int) (3 : Int)) + (0 : Int)) (Rd.mk c (List.drop (3 : Nat) (List.drop (1 : Nat) (List.drop (3 : Nat) b))) true))))) D.anil))), some (Obj.var (33 : Nat) (D.acons (D.int IntKind.i64 pl) (D.acons (D.vs (2 : Nat) (List.length its)) (D.acons (D.acons (D.vs (3 : Nat) (List.length (addL (2 : Int) (0 : Int) l0 (Prod.snd (gLines rdP false (Int.toNat (Prod.fst (getP (List.drop (3 : Nat) b) (0 : Int) (1 : Int))) - (0 : Nat)) (Prod.fst (getP (List.drop (1 : Nat) (List.drop (3 : Nat) b)) (0 : Int) (3 : Int)) + (0 : Int)) (Rd.mk c (List.drop (3 : Nat) (List.drop (1 : Nat) (List.drop (3 : Nat) b))) true)))))) (D.acons (D.vs (4 : Nat) (List.length (addL (2 : Int) (1 : Int) l1 (Prod.snd (gLines rdP false (Int.toNat (Prod.fst (getP (List.drop (3 : Nat) b) (0 : Int) (1 : Int))) - (0 : Nat)) (Prod.fst (getP (List.drop (1 : Nat) (List.drop (3 : Nat) b)) (0 : Int) (3 : Int)) + (0 : Int)) (Rd.mk c (List.drop (3 : Nat) (List.drop (1 : Nat) (List.drop (3 : Nat) b))) true)))))) (D.acons (D.vs (5 : Nat) (List.length (addL (2 : Int) (2 : Int) l2 (Prod.snd (gLines rdP false (Int.toNat (Prod.fst (getP (List.drop (3 : Nat) b) (0 : Int) (1 : Int))) - (0 : Nat)) (Prod.fst (getP (List.drop (1 : Nat) (List.drop (3 : Nat) b)) (0 : Int) (3 : Int)) + (0 : Int)) (Rd.mk c (List.drop (3 : Nat) (List.drop (1 : Nat) (List.drop (3 : Nat) b))) true)))))) D.anil))) (D.acons (D.arr RTy.int (3 : Nat) [c0, c1, Prod.fst (getP b (0 : Int) (3 : Int))]) D.anil))))), some (Obj.vec RTy.item true its), some (Obj.vec RTy.line true (addL (2 : Int) (0 : Int) l0 (Prod.snd (gLines rdP false (Int.toNat (Prod.fst (getP (List.drop (3 : Nat) b) (0 : Int) (1 : Int))) - (0 : Nat)) (Prod.fst (getP (List.drop (1 : Nat) (List.drop (3 : Nat) b)) (0 : Int) (3 : Int)) + (0 : Int)) (Rd.mk c (List.drop (3 : Nat) (List.drop (1 : Nat) (List.drop (3 : Nat) b))) true))))), some (Obj.vec RTy.line true (addL (2 : Int) (1 : Int) l1 (Prod.snd (gLines rdP false (Int.toNat (Prod.fst (getP (List.drop (3 : Nat) b) (0 : Int) (1 : Int))) - (0 : Nat)) (Prod.fst (getP (List.drop (1 : Nat) (List.drop (3 : Nat) b)) (0 : Int) (3 : Int)) + (0 : Int)) (Rd.mk c (List.drop (3 : Nat) (List.drop (1 : Nat) (List.drop (3 : Nat) b))) true))))), some (Obj.vec RTy.line true (addL (2 : Int) (2 : Int) l2 (Prod.snd (gLines rdP false (Int.toNat (Prod.fst (getP (List.drop (3 : Nat) b) (0 : Int) (1 : Int))) - (0 : Nat)) (Prod.fst (getP (List.drop (1 : Nat) (List.drop (3 : Nat) b)) (0 : Int) (3 : Int)) + (0 : Int)) (Rd.mk c (List.drop (3 : Nat) (List.drop (1 : Nat) (List.drop (3 : Nat) b))) true)))))]) else none else bif Prod.fst (getP (List.drop (3 : Nat) b) (0 : Int) (1 : Int)) == (0 : Int) then bif decide (List.length its = List.length its) && decide (List.length l0 = List.length l0) && decide (List.length l1 = List.length l1) && decide (List.length l2 = List.length l2) && decide ((0 : Int) ≤ Prod.fst (getP (List.drop (3 : Nat) b) (0 : Int) (1 : Int)) ∧ Prod.fst (getP (List.drop (3 : Nat) b) (0 : Int) (1 : Int)) ≤ (255 : Int) ∧ List.length (List.drop (3 : Nat) (List.drop (1 : Nat) (List.drop (3 : Nat) b))) ≤ (1000000 : Nat) ∧ (List.length l0 ≤ (1000 : Nat) ∧ List.length l1 ≤ (1000 : Nat) ∧ List.length l2 ≤ (1000 : Nat)) ∧ ((0 : Int) ≤ (2 : Int) ∧ (2 : Int) ≤ (2 : Int)) ∧ (0 : Int) ≤ Prod.fst (getP (List.drop (1 : Nat) (List.drop (3 : Nat) b)) (0 : Int) (3 : Int)) ∧ Prod.fst (getP (List.drop (1 : Nat) (List.drop (3 : Nat) b)) (0 : Int) (3 : Int)) ≤ (16777215 : Int)) then some ((X.normal, [((4 : Nat), D.ptr (0 : Nat) []), ((5 : Nat), D.ptr (1 : Nat) []), ((39 : Nat), D.int IntKind.i64 (3 : Int))]), [some (Obj.var (74 : Nat) (D.acons (D.sl RTy.u8 (Rd.c (Prod.fst (gLines rdP false (Int.toNat (Prod.fst (getP (List.drop (3 : Nat) b) (0 : Int) (1 : Int))) - (0 : Nat)) (Prod.fst (getP (List.drop (1 : Nat) (List.drop (3 : Nat) b)) (0 : Int) (3 : Int)) + (0 : Int)) (Rd.mk c (List.drop (3 : Nat) (List.drop (1 : Nat) (List.drop (3 : Nat) b))) (Prod.fst (getP (List.drop (1 : Nat) (List.drop (3 : Nat) b)) (0 : Int) (3 : Int)) != (0 : Int)))))) (Rd.b (Prod.fst (gLines rdP false (Int.toNat (Prod.fst (getP (List.drop (3 : Nat) b) (0 : Int) (1 : Int))) - (0 : Nat)) (Prod.fst (getP (List.drop (1 : Nat) (List.drop (3 : Nat) b)) (0 : Int) (3 : Int)) + (0 : Int)) (Rd.mk c (List.drop (3 : Nat) (List.drop (1 : Nat) (List.drop (3 : Nat) b))) (Prod.fst (getP (List.drop (1 : Nat) (List.drop (3 : Nat) b)) (0 : Int) (3 : Int)) != (0 : Int))))))) (D.acons (D.bool (Rd.bad (Prod.fst (gLines rdP false (Int.toNat (Prod.fst (getP (List.drop (3 : Nat) b) (0 : Int) (1 : Int))) - (0 : Nat)) (Prod.fst (getP (List.drop (1 : Nat) (List.drop (3 : Nat) b)) (0 : Int) (3 : Int)) + (0 : Int)) (Rd.mk c (List.drop (3 : Nat) (List.drop (1 : Nat) (List.drop (3 : Nat) b))) (Prod.fst (getP (List.drop (1 : Nat) (List.drop (3 : Nat) b)) (0 : Int) (3 : Int)) != (0 : Int))))))) D.anil))), some (Obj.var (33 : Nat) (D.acons (D.int IntKind.i64 pl) (D.acons (D.vs (2 : Nat) (List.length its)) (D.acons (D.acons (D.vs (3 : Nat) (List.length (addL (2 : Int) (0 : Int) l0 (Prod.snd (gLines rdP false (Int.toNat (Prod.fst (getP (List.drop (3 : Nat) b) (0 : Int) (1 : Int))) - (0 : Nat)) (Prod.fst (getP (List.drop (1 : Nat) (List.drop (3 : Nat) b)) (0 : Int) (3 : Int)) + (0 : Int)) (Rd.mk c (List.drop (3 : Nat) (List.drop (1 : Nat) (List.drop (3 : Nat) b))) (Prod.fst (getP (List.drop (1 : Nat) (List.drop (3 : Nat) b)) (0 : Int) (3 : Int)) != (0 : Int)))))))) (D.acons (D.vs (4 : Nat) (List.length (addL (2 : Int) (1 : Int) l1 (Prod.snd (gLines rdP false (Int.toNat (Prod.fst (getP (List.drop (3 : Nat) b) (0 : Int) (1 : Int))) - (0 : Nat)) (Prod.fst (getP (List.drop (1 : Nat) (List.drop (3 : Nat) b)) (0 : Int) (3 : Int)) + (0 : Int)) (Rd.mk c (List.drop (3 : Nat) (List.drop (1 : Nat) (List.drop (3 : Nat) b))) (Prod.fst (getP (List.drop (1 : Nat) (List.drop (3 : Nat) b)) (0 : Int) (3 : Int)) != (0 : Int)))))))) (D.acons (D.vs (5 : Nat) (List.length (addL (2 : Int) (2 : Int) l2 (Prod.snd (gLines rdP false (Int.toNat (Prod.fst (getP (List.drop (3 : Nat) b) (0 : Int) (1 : Int))) - (0 : Nat)) (Prod.fst (getP (List.drop (1 : Nat) (List.drop (3 : Nat) b)) (0 : Int) (3 : Int)) + (0 : Int)) (Rd.mk c (List.drop (3 : Nat) (List.drop (1 : Nat) (List.drop (3 : Nat) b))) (Prod.fst (getP (List.drop (1 : Nat) (List.drop (3 : Nat) b)) (0 : Int) (3 : Int)) != (0 : Int)))))))) D.anil))) (D.acons (D.arr RTy.int (3 : Nat) [c0, c1, Prod.fst (getP b (0 : Int) (3 : Int))]) D.anil))))), some (Obj.vec RTy.item true its), some (Obj.vec RTy.line true (addL (2 : Int) (0 : Int) l0 (Prod.snd (gLines rdP false (Int.toNat (Prod.fst (getP (List.drop (3 : Nat) b) (0 : Int) (1 : Int))) - (0 : Nat)) (Prod.fst (getP (List.drop (1 : Nat) (List.drop (3 : Nat) b)) (0 : Int) (3 : Int)) + (0 : Int)) (Rd.mk c (List.drop (3 : Nat) (List.drop (1 : Nat) (List.drop (3 : Nat) b))) (Prod.fst (getP (List.drop (1 : Nat) (List.drop (3 : Nat) b)) (0 : Int) (3 : Int)) != (0 : Int))))))), some (Obj.vec RTy.line true (addL (2 : Int) (1 : Int) l1 (Prod.snd (gLines rdP false (Int.toNat (Prod.fst (getP (List.drop (3 : Nat) b) (0 : Int) (1 : Int))) - (0 : Nat)) (Prod.fst (getP (List.drop (1 : Nat) (List.drop (3 : Nat) b)) (0 : Int) (3 : Int)) + (0 : Int)) (Rd.mk c (List.drop (3 : Nat) (List.drop (1 : Nat) (List.drop (3 : Nat) b))) (Prod.fst (getP (List.drop (1 : Nat) (List.drop (3 : Nat) b)) (0 : Int) (3 : Int)) != (0 : Int))))))), some (Obj.vec RTy.line true (addL (2 : Int) (2 : Int) l2 (Prod.snd (gLines rdP false (Int.toNat (Prod.fst (getP (List.drop (3 : Nat) b) (0 : Int) (1 : Int))) - (0 : Nat)) (Prod.fst (getP (List.drop (1 : Nat) (List.drop (3 : Nat) b)) (0 : Int) (3 : Int)) + (0 : Int)) (Rd.mk c (List.drop (3 : Nat) (List.drop (1 : Nat) (List.drop (3 : Nat) b))) (Prod.fst (getP (List.drop (1 : Nat) (List.drop (3 : Nat) b)) (0 : Int) (3 : Int)) != (0 : Int)))))))]) else none else bif decide (List.length its = List.length its) && decide (List.length l0 = List.length l0) && decide (List.length l1 = List.length l1) && decide (List.length l2 = List.length l2) && decide ((0 : Int) ≤ Prod.fst (getP (List.drop (3 : Nat) b) (0 : Int) (1 : Int)) ∧ Prod.fst (getP (List.drop (3 : Nat) b) (0 : Int) (1 : Int)) ≤ (255 : Int) ∧ List.length (List.drop (3 : Nat) (List.drop (1 : Nat) (List.drop (3 : Nat) b))) ≤ (1000000 : Nat) ∧ (List.length l0 ≤ (1000 : Nat) ∧ List.length l1 ≤ (1000 : Nat) ∧ List.length l2 ≤ (1000 : Nat)) ∧ ((0 : Int) ≤ (2 : Int) ∧ (2 : Int) ≤ (2 : Int)) ∧ (0 : Int) ≤ Prod.fst (getP (List.drop (1 : Nat) (List.drop (3 : Nat) b)) (0 : Int) (3 : Int)) ∧ Prod.fst (getP (List.drop (1 : Nat) (List.drop (3 : Nat) b)) (0 : Int) (3 : Int)) ≤ (16777215 : Int)) then some ((X.normal, [((4 : Nat), D.ptr (0 : Nat) []), ((5 : Nat), D.ptr (1 : Nat) []), ((39 : Nat), D.int IntKind.i64 (3 : Int))]), [some (Obj.var (74 : Nat) (D.acons (D.sl RTy.u8 (Rd.c (Prod.fst (gLines rdP false (Int.toNat (Prod.fst (getP (List.drop (3 : Nat) b) (0 : Int) (1 : Int))) - (0 : Nat)) (Prod.fst (getP (List.drop (1 : Nat) (List.drop (3 : Nat) b)) (0 : Int) (3 : Int)) + (0 : Int)) (Rd.mk c (List.drop (3 : Nat) (List.drop (1 : Nat) (List.drop (3 : Nat) b))) false)))) (Rd.b (Prod.fst (gLines rdP false (Int.toNat (Prod.fst (getP (List.drop (3 : Nat) b) (0 : Int) (1 : Int))) - (0 : Nat)) (Prod.fst (getP (List.drop (1 : Nat) (List.drop (3 : Nat) b)) (0 : Int) (3 : Int)) + (0 : Int)) (Rd.mk c (List.drop (3 : Nat) (List.drop (1 : Nat) (List.drop (3 : Nat) b))) false))))) (D.acons (D.bool (Rd.bad (Prod.fst (gLines rdP false (Int.toNat (Prod.fst (getP (List.drop (3 : Nat) b) (0 : Int) (1 : Int))) - (0 : Nat)) (Prod.fst (getP (List.drop (1 : Nat) (List.drop (3 : Nat) b)) (0 : Int) (3 : Int)) + (0 : Int)) (Rd.mk c (List.drop (3 : Nat) (List.drop (1 : Nat) (List.drop (3 : Nat) b))) false))))) D.anil))), some (Obj.var (33 : Nat) (D.acons (D.int IntKind.i64 pl) (D.acons (D.vs (2 : Nat) (List.length its)) (D.acons (D.acons (D.vs (3 : Nat) (List.length (addL (2 : Int) (0 : Int) l0 (Prod.snd (gLines rdP false (Int.toNat (Prod.fst (getP (List.drop (3 : Nat) b) (0 : Int) (1 : Int))) - (0 : Nat)) (Prod.fst (getP (List.drop (1 : Nat) (List.drop (3 : Nat) b)) (0 : Int) (3 : Int)) + (0 : Int)) (Rd.mk c (List.drop (3 : Nat) (List.drop (1 : Nat) (List.drop (3 : Nat) b))) false)))))) (D.acons (D.vs (4 : Nat) (List.length (addL (2 : Int) (1 : Int) l1 (Prod.snd (gLines rdP false (Int.toNat (Prod.fst (getP (List.drop (3 : Nat) b) (0 : Int) (1 : Int))) - (0 : Nat)) (Prod.fst (getP (List.drop (1 : Nat) (List.drop (3 : Nat) b)) (0 : Int) (3 : Int)) + (0 : Int)) (Rd.mk c (List.drop (3 : Nat) (List.drop (1 : Nat) (List.drop (3 : Nat) b))) false)))))) (D.acons (D.vs (5 : Nat) (List.length (addL (2 : Int) (2 : Int) l2 (Prod.snd (gLines rdP false (Int.toNat (Prod.fst (getP (List.drop (3 : Nat) b) (0 : Int) (1 : Int))) - (0 : Nat)) (Prod.fst (getP (List.drop (1 : Nat) (List.drop (3 : Nat) b)) (0 : Int) (3 : Int)) + (0 : Int)) (Rd.mk c (List.drop (3 : Nat) (List.drop (1 : Nat) (List.drop (3 : Nat) b))) false)))))) D.anil))) (D.acons (D.arr RTy.int (3 : Nat) [c0, c1, Prod.fst (getP b (0 : Int) (3 : Int))]) D.anil))))), some (Obj.vec RTy.item true its), some (Obj.vec RTy.line true (addL (2 : Int) (0 : Int) l0 (Prod.snd (gLines rdP false (Int.toNat (Prod.fst (getP (List.drop (3 : Nat) b) (0 : Int) (1 : Int))) - (0 : Nat)) (Prod.fst (getP (List.drop (1 : Nat) (List.drop (3 : Nat) b)) (0 : Int) (3 : Int)) + (0 : Int)) (Rd.mk c (List.drop (3 : Nat) (List.drop (1 : Nat) (List.drop (3 : Nat) b))) false))))), some (Obj.vec RTy.line true (addL (2 : Int) (1 : Int) l1 (Prod.snd (gLines rdP false (Int.toNat (Prod.fst (getP (List.drop (3 : Nat) b) (0 : Int) (1 : Int))) - (0 : Nat)) (Prod.fst (getP (List.drop (1 : Nat) (List.drop (3 : Nat) b)) (0 : Int) (3 : Int)) + (0 : Int)) (Rd.mk c (List.drop (3 : Nat) (List.drop (1 : Nat) (List.drop (3 : Nat) b))) false))))), some (Obj.vec RTy.line true (addL (2 : Int) (2 : Int) l2 (Prod.snd (gLines rdP false (Int.toNat (Prod.fst (getP (List.drop (3 : Nat) b) (0 : Int) (1 : Int))) - (0 : Nat)) (Prod.fst (getP (List.drop (1 : Nat) (List.drop (3 : Nat) b)) (0 : Int) (3 : Int)) + (0 : Int)) (Rd.mk c (List.drop (3 : Nat) (List.drop (1 : Nat) (List.drop (3 : Nat) b))) false)))))]) else none else none else none else none else none else none else none) := by kernel_rfl
theorem rsQ_eq3 (c : Bool) (b : List UInt8) (bad : Bool) (pl : Int) (its : List Item) (l0 l1 l2 : List Line) (c0 c1 c2 : Int) : rsQ_r c b bad pl its l0 l1 l2 c0 c1 c2 3 = (some ((X.exit (2 : Nat), []), [some (Obj.var (74 : Nat) (D.acons (D.sl RTy.u8 c b) (D.acons (D.bool bad) D.anil))), some (Obj.var (33 : Nat) (D.acons (D.int IntKind.i64 pl) (D.acons (D.vs (2 : Nat) (List.length its)) (D.acons (D.acons (D.vs (3 : Nat) (List.length l0)) (D.acons (D.vs (4 : Nat) (List.length l1)) (D.acons (D.vs (5 : Nat) (List.length l2)) D.anil))) (D.acons (D.arr RTy.int (3 : Nat) [c0, c1, c2]) D.anil))))), some (Obj.vec RTy.item true its), some (Obj.vec RTy.line true l0), some (Obj.vec RTy.line true l1), some (Obj.vec RTy.line true l2)])) := by kernel_rfl
def rsQ_fin (c : Bool) (b : List UInt8) (bad : Bool) (pl : Int) (its : List Item) (l0 : List Line) (l1 : List Line) (l2 : List Line) (c0 : Int) (c1 : Int) (c2 : Int) (q : Nat) : RT RC := .leaf (.exit 2) [] [.var 74 (.acons (.sl (C := RC) .u8 (runQ rdP false markP q ⟨⟨c, b, bad⟩, l0, l1, l2, c0, c1, c2⟩).r.c (runQ rdP false markP q ⟨⟨c, b, bad⟩, l0, l1, l2, c0, c1, c2⟩).r.b) (.acons (.bool (runQ rdP false markP q ⟨⟨c, b, bad⟩, l0, l1, l2, c0, c1, c2⟩).r.bad) .anil)), .var 33 (.acons (.int .i64 pl) (.acons (.vs 2 its.length) (.acons (.acons (.vs 3 (runQ rdP false markP q ⟨⟨c, b, bad⟩, l0, l1, l2, c0, c1, c2⟩).l0.length) (.acons (.vs 4 (runQ rdP false markP q ⟨⟨c, b, bad⟩, l0, l1, l2, c0, c1, c2⟩).l1.length) (.acons (.vs 5 (runQ rdP false markP q ⟨⟨c, b, bad⟩, l0, l1, l2, c0, c1, c2⟩).l2.length) .anil))) (.acons (.arr (C := RC) .int 3 [(runQ rdP false markP q ⟨⟨c, b, bad⟩, l0, l1, l2, c0, c1, c2⟩).c0, (runQ rdP false markP q ⟨⟨c, b, bad⟩, l0, l1, l2, c0, c1, c2⟩).c1, (runQ rdP false markP q ⟨⟨c, b, bad⟩, l0, l1, l2, c0, c1, c2⟩).c2]) .anil)))), .vec (C := RC) .item true its, .vec (C := RC) .line true (runQ rdP false markP q ⟨⟨c, b, bad⟩, l0, l1, l2, c0, c1, c2⟩).l0, .vec (C := RC) .line true (runQ rdP false markP q ⟨⟨c, b, bad⟩, l0, l1, l2, c0, c1, c2⟩).l1, .vec (C := RC) .line true (runQ rdP false markP q ⟨⟨c, b, bad⟩, l0, l1, l2, c0, c1, c2⟩).l2]
def rsQ_Inv (c : Bool) (b : List UInt8) (bad : Bool) (pl : Int) (its : List Item) (l0 : List Line) (l1 : List Line) (l2 : List Line) (c0 : Int) (c1 : Int) (c2 : Int) (q : Nat) : Prop := q ≤ 3 ∧ b.length ≤ 1000000 ∧ l0.length ≤ 255 * q ∧ l1.length ≤ 255 * q ∧ l2.length ≤ 255 * q
def rsQ_S : LoopR RC rsQ_St where
  k := 6
  canon q := rsQ_c q.c q.b q.bad q.pl q.its q.l0 q.l1 q.l2 q.c0 q.c1 q.c2 q.q
  objs q := rsQ_o q.c q.b q.bad q.pl q.its q.l0 q.l1 q.l2 q.c0 q.c1 q.c2 q.q
  fin q := rsQ_fin q.c q.b q.bad q.pl q.its q.l0 q.l1 q.l2 q.c0 q.c1 q.c2 q.q
  Inv q := rsQ_Inv q.c q.b q.bad q.pl q.its q.l0 q.l1 q.l2 q.c0 q.c1 q.c2 q.q
  μ q := 3 - q.q
theorem rsQ_round (c : Bool) (b : List UInt8) (bad : Bool) (pl : Int) (its : List Item) (l0 : List Line) (l1 : List Line) (l2 : List Line) (c0 : Int) (c1 : Int) (c2 : Int) (q : Nat) (hI : rsQ_Inv c b bad pl its l0 l1 l2 c0 c1 c2 q) : Leaf (rsQ_r c b bad pl its l0 l1 l2 c0 c1 c2 q) (LedR rsQ_S ⟨c, b, bad, pl, its, l0, l1, l2, c0, c1, c2, q⟩) := by
  unfold rsQ_Inv at hI
  obtain ⟨h1, h2, h3, h4, h5⟩ := hI
  have t1 : Int.toNat 1 = 1 := rfl
  have t3 : Int.toNat 3 = 3 := rfl
  have z1 : rget 1 ⟨true, [], true⟩ = (0, ⟨true, [], true⟩) := rfl
  have z3 : rget 3 ⟨true, [], true⟩ = (0, ⟨true, [], true⟩) := rfl
  have k01 : ¬ (0 : Int) = 1 := by omega
  have k02 : ¬ (0 : Int) = 2 := by omega
  have k10 : ¬ (1 : Int) = 0 := by omega
  have k12 : ¬ (1 : Int) = 2 := by omega
  have k20 : ¬ (2 : Int) = 0 := by omega
  have k21 : ¬ (2 : Int) = 1 := by omega
  have e0 : decide (b.length ≤ 1000000000000) = true := decide_eq_true (by omega)
  have pb := gPart_blen ⟨c, b, bad⟩
  have pn := gPart_len ⟨c, b, bad⟩
  by_cases x3 : q = 3
  · subst x3
    rw [rsQ_eq3]
    exact leafR_exit (rsQ_o c b bad pl its l0 l1 l2 c0 c1 c2 3) rfl rfl
  by_cases x0 : q = 0
  · subst x0
    have hgo : ∀ (r' : Rd) (cut : Int) (L : List Line), gPart rdP false markP ⟨c, b, bad⟩ = (r', cut, L) → Leaf (some ((X.normal, [(4, .ptr 0 []), (5, .ptr 1 []), (39, .int .i64 1)]), [some (.var 74 (.acons (.sl (C := RC) .u8 r'.c r'.b) (.acons (.bool r'.bad) .anil))), some (.var 33 (.acons (.int .i64 pl) (.acons (.vs 2 its.length) (.acons (.acons (.vs 3 (l0 ++ L).length) (.acons (.vs 4 l1.length) (.acons (.vs 5 l2.length) .anil))) (.acons (.arr (C := RC) .int 3 [cut, c1, c2]) .anil))))), some (.vec (C := RC) .item true its), some (.vec (C := RC) .line true (l0 ++ L)), some (.vec (C := RC) .line true l1), some (.vec (C := RC) .line true l2)])) (LedR rsQ_S ⟨c, b, bad, pl, its, l0, l1, l2, c0, c1, c2, 0⟩) := by
      intro r' cut L hP
      rw [hP] at pb pn
      simp only at pb pn
      have hrun : runQ rdP false markP 1 ⟨⟨r'.c, r'.b, r'.bad⟩, l0 ++ L, l1, l2, cut, c1, c2⟩ = runQ rdP false markP 0 ⟨⟨c, b, bad⟩, l0, l1, l2, c0, c1, c2⟩ := by
        simp only [runQ, part0, hP]
      refine leafR_go ⟨r'.c, r'.b, r'.bad, pl, its, l0 ++ L, l1, l2, cut, c1, c2, 1⟩ ?_ (by simp only [rsQ_S]; omega) ?_ rfl rfl
      · refine ⟨by simp, ?_, ?_, ?_, ?_⟩ <;> simp <;> omega
      · simp only [rsQ_S, rsQ_fin, hrun]
    rw [rsQ_eq0]
    simp only [e0, cond_true, getP_snd1, getP_snd3, t1, t3]
    by_cases q0 : b.length < 3
    · have r0 : rget 3 ⟨c, b, bad⟩ = _ := rget_no q0
      simp only [q0, decide_true, cond_true]
      simp (disch := omega) only [decide_eq_true, Bool.and_self, cond_true, addL, if_true, if_false, k01, k02, k10, k12, k20, k21]
      exact hgo ⟨true, [], true⟩ 0 [] (gPart_of r0 z1 z3)
    have r0 : rget 3 ⟨c, b, bad⟩ = _ := rget_ok (show 3 ≤ b.length by omega)
    have d0 : decide ((0 : Int) ≤ 3 ∧ (3 : Int) ≤ b.length) = true := by simp only [decide_eq_true_eq]; omega
    have e1 : decide ((b.drop 3).length ≤ 1000000000000) = true := decide_eq_true (by simp; omega)
    simp only [q0, decide_false, cond_false, d0, cond_true, e1, getP_fst3 q0]
    by_cases q1 : (b.drop 3).length < 1
    · have r1 : rget 1 ⟨c, b.drop 3, bad⟩ = _ := rget_no q1
      simp only [q1, decide_true, cond_true]
      simp (disch := omega) only [decide_eq_true, Bool.and_self, cond_true, addL, if_true, if_false, k01, k02, k10, k12, k20, k21]
      exact hgo ⟨true, [], true⟩ _ [] (gPart_of r0 r1 z3)
    have r1 : rget 1 ⟨c, b.drop 3, bad⟩ = _ := rget_ok (show 1 ≤ (b.drop 3).length by omega)
    have d1 : decide ((0 : Int) ≤ 1 ∧ (1 : Int) ≤ (b.drop 3).length) = true := by simp only [decide_eq_true_eq]; omega
    have e2 : decide (((b.drop 3).drop 1).length ≤ 1000000000000) = true := decide_eq_true (by simp; omega)
    simp only [q1, decide_false, cond_false, d1, cond_true, e2, getP_fst1 q1]
    have n1 := leVal_le (b.drop 3) 1
    have f1 := leVal_le ((b.drop 3).drop 1) 3
    have bl : (((b.drop 3).drop 1).drop 3).length ≤ 1000000 := by simp; omega
    simp only [Nat.reducePow] at n1 f1
    by_cases q2 : ((b.drop 3).drop 1).length < 3
    · have r2 : rget 3 ⟨c, (b.drop 3).drop 1, bad⟩ = _ := rget_no q2
      simp only [q2, decide_true, cond_true]
      have bz : ([] : List UInt8).length ≤ 1000000 := by simp
      simp (disch := (first | omega | (simp; omega))) only [decide_eq_true, Bool.and_self, cond_true, addL, if_true, if_false, k01, k02, k10, k12, k20, k21, Nat.sub_zero, Int.add_zero]
      refine hgo _ _ _ ?_
      rw [gPart_of r0 r1 r2]
      have : ((leVal ((b.drop 3).take 1) : Int) == 0 && (0 : Int) != 0) = false := by simp
      rw [this]; rfl
    have r2 : rget 3 ⟨c, (b.drop 3).drop 1, bad⟩ = _ := rget_ok (show 3 ≤ ((b.drop 3).drop 1).length by omega)
    have d2 : decide ((0 : Int) ≤ 3 ∧ (3 : Int) ≤ ((b.drop 3).drop 1).length) = true := by simp only [decide_eq_true_eq]; omega
    simp only [q2, decide_false, cond_false, d2, cond_true, getP_fst3 q2]
    have hP := gPart_of r0 r1 r2
    cases bad
    · simp only [cond_false]
      cases hz : ((leVal ((b.drop 3).take 1) : Int) == 0)
      · simp only [cond_false]
        simp (disch := omega) only [decide_eq_true, Bool.and_self, cond_true, addL, if_true, if_false, k01, k02, k10, k12, k20, k21, Nat.sub_zero, Int.add_zero]
        refine hgo _ _ _ ?_
        rw [hP, hz]; rfl
      · simp only [cond_true]
        simp (disch := omega) only [decide_eq_true, Bool.and_self, cond_true, addL, if_true, if_false, k01, k02, k10, k12, k20, k21, Nat.sub_zero, Int.add_zero]
        refine hgo _ _ _ ?_
        rw [hP, hz]
        cases hf : ((leVal (((b.drop 3).drop 1).take 3) : Int) != 0) <;> rfl
    · simp only [cond_true]
      simp (disch := omega) only [decide_eq_true, Bool.and_self, cond_true, addL, if_true, if_false, k01, k02, k10, k12, k20, k21, Nat.sub_zero, Int.add_zero]
      refine hgo _ _ _ ?_
      rw [hP]
      cases ((leVal ((b.drop 3).take 1) : Int) == 0 && (leVal (((b.drop 3).drop 1).take 3) : Int) != 0) <;> rfl
  by_cases x1 : q = 1
  · subst x1
    have hgo : ∀ (r' : Rd) (cut : Int) (L : List Line), gPart rdP false markP ⟨c, b, bad⟩ = (r', cut, L) → Leaf (some ((X.normal, [(4, .ptr 0 []), (5, .ptr 1 []), (39, .int .i64 2)]), [some (.var 74 (.acons (.sl (C := RC) .u8 r'.c r'.b) (.acons (.bool r'.bad) .anil))), some (.var 33 (.acons (.int .i64 pl) (.acons (.vs 2 its.length) (.acons (.acons (.vs 3 l0.length) (.acons (.vs 4 (l1 ++ L).length) (.acons (.vs 5 l2.length) .anil))) (.acons (.arr (C := RC) .int 3 [c0, cut, c2]) .anil))))), some (.vec (C := RC) .item true its), some (.vec (C := RC) .line true l0), some (.vec (C := RC) .line true (l1 ++ L)), some (.vec (C := RC) .line true l2)])) (LedR rsQ_S ⟨c, b, bad, pl, its, l0, l1, l2, c0, c1, c2, 1⟩) := by
      intro r' cut L hP
      rw [hP] at pb pn
      simp only at pb pn
      have hrun : runQ rdP false markP 2 ⟨⟨r'.c, r'.b, r'.bad⟩, l0, l1 ++ L, l2, c0, cut, c2⟩ = runQ rdP false markP 1 ⟨⟨c, b, bad⟩, l0, l1, l2, c0, c1, c2⟩ := by
        simp only [runQ, part1, hP]
      refine leafR_go ⟨r'.c, r'.b, r'.bad, pl, its, l0, l1 ++ L, l2, c0, cut, c2, 2⟩ ?_ (by simp only [rsQ_S]; omega) ?_ rfl rfl
      · refine ⟨by simp, ?_, ?_, ?_, ?_⟩ <;> simp <;> omega
      · simp only [rsQ_S, rsQ_fin, hrun]
    rw [rsQ_eq1]
    simp only [e0, cond_true, getP_snd1, getP_snd3, t1, t3]
    by_cases q0 : b.length < 3
    · have r0 : rget 3 ⟨c, b, bad⟩ = _ := rget_no q0
      simp only [q0, decide_true, cond_true]
      simp (disch := omega) only [decide_eq_true, Bool.and_self, cond_true, addL, if_true, if_false, k01, k02, k10, k12, k20, k21]
      exact hgo ⟨true, [], true⟩ 0 [] (gPart_of r0 z1 z3)
    have r0 : rget 3 ⟨c, b, bad⟩ = _ := rget_ok (show 3 ≤ b.length by omega)
    have d0 : decide ((0 : Int) ≤ 3 ∧ (3 : Int) ≤ b.length) = true := by simp only [decide_eq_true_eq]; omega
    have e1 : decide ((b.drop 3).length ≤ 1000000000000) = true := decide_eq_true (by simp; omega)
    simp only [q0, decide_false, cond_false, d0, cond_true, e1, getP_fst3 q0]
    by_cases q1 : (b.drop 3).length < 1
    · have r1 : rget 1 ⟨c, b.drop 3, bad⟩ = _ := rget_no q1
      simp only [q1, decide_true, cond_true]
      simp (disch := omega) only [decide_eq_true, Bool.and_self, cond_true, addL, if_true, if_false, k01, k02, k10, k12, k20, k21]
      exact hgo ⟨true, [], true⟩ _ [] (gPart_of r0 r1 z3)
    have r1 : rget 1 ⟨c, b.drop 3, bad⟩ = _ := rget_ok (show 1 ≤ (b.drop 3).length by omega)
    have d1 : decide ((0 : Int) ≤ 1 ∧ (1 : Int) ≤ (b.drop 3).length) = true := by simp only [decide_eq_true_eq]; omega
    have e2 : decide (((b.drop 3).drop 1).length ≤ 1000000000000) = true := decide_eq_true (by simp; omega)
    simp only [q1, decide_false, cond_false, d1, cond_true, e2, getP_fst1 q1]
    have n1 := leVal_le (b.drop 3) 1
    have f1 := leVal_le ((b.drop 3).drop 1) 3
    have bl : (((b.drop 3).drop 1).drop 3).length ≤ 1000000 := by simp; omega
    simp only [Nat.reducePow] at n1 f1
    by_cases q2 : ((b.drop 3).drop 1).length < 3
    · have r2 : rget 3 ⟨c, (b.drop 3).drop 1, bad⟩ = _ := rget_no q2
      simp only [q2, decide_true, cond_true]
      have bz : ([] : List UInt8).length ≤ 1000000 := by simp
      simp (disch := (first | omega | (simp; omega))) only [decide_eq_true, Bool.and_self, cond_true, addL, if_true, if_false, k01, k02, k10, k12, k20, k21, Nat.sub_zero, Int.add_zero]
      refine hgo _ _ _ ?_
      rw [gPart_of r0 r1 r2]
      have : ((leVal ((b.drop 3).take 1) : Int) == 0 && (0 : Int) != 0) = false := by simp
      rw [this]; rfl
    have r2 : rget 3 ⟨c, (b.drop 3).drop 1, bad⟩ = _ := rget_ok (show 3 ≤ ((b.drop 3).drop 1).length by omega)
    have d2 : decide ((0 : Int) ≤ 3 ∧ (3 : Int) ≤ ((b.drop 3).drop 1).length) = true := by simp only [decide_eq_true_eq]; omega
    simp only [q2, decide_false, cond_false, d2, cond_true, getP_fst3 q2]
    have hP := gPart_of r0 r1 r2
    cases bad
    · simp only [cond_false]
      cases hz : ((leVal ((b.drop 3).take 1) : Int) == 0)
      · simp only [cond_false]
        simp (disch := omega) only [decide_eq_true, Bool.and_self, cond_true, addL, if_true, if_false, k01, k02, k10, k12, k20, k21, Nat.sub_zero, Int.add_zero]
        refine hgo _ _ _ ?_
        rw [hP, hz]; rfl
      · simp only [cond_true]
        simp (disch := omega) only [decide_eq_true, Bool.and_self, cond_true, addL, if_true, if_false, k01, k02, k10, k12, k20, k21, Nat.sub_zero, Int.add_zero]
        refine hgo _ _ _ ?_
        rw [hP, hz]
        cases hf : ((leVal (((b.drop 3).drop 1).take 3) : Int) != 0) <;> rfl
    · simp only [cond_true]
      simp (disch := omega) only [decide_eq_true, Bool.and_self, cond_true, addL, if_true, if_false, k01, k02, k10, k12, k20, k21, Nat.sub_zero, Int.add_zero]
      refine hgo _ _ _ ?_
      rw [hP]
      cases ((leVal ((b.drop 3).take 1) : Int) == 0 && (leVal (((b.drop 3).drop 1).take 3) : Int) != 0) <;> rfl
  by_cases x2 : q = 2
  · subst x2
    have hgo : ∀ (r' : Rd) (cut : Int) (L : List Line), gPart rdP false markP ⟨c, b, bad⟩ = (r', cut, L) → Leaf (some ((X.normal, [(4, .ptr 0 []), (5, .ptr 1 []), (39, .int .i64 3)]), [some (.var 74 (.acons (.sl (C := RC) .u8 r'.c r'.b) (.acons (.bool r'.bad) .anil))), some (.var 33 (.acons (.int .i64 pl) (.acons (.vs 2 its.length) (.acons (.acons (.vs 3 l0.length) (.acons (.vs 4 l1.length) (.acons (.vs 5 (l2 ++ L).length) .anil))) (.acons (.arr (C := RC) .int 3 [c0, c1, cut]) .anil))))), some (.vec (C := RC) .item true its), some (.vec (C := RC) .line true l0), some (.vec (C := RC) .line true l1), some (.vec (C := RC) .line true (l2 ++ L))])) (LedR rsQ_S ⟨c, b, bad, pl, its, l0, l1, l2, c0, c1, c2, 2⟩) := by
      intro r' cut L hP
      rw [hP] at pb pn
      simp only at pb pn
      have hrun : runQ rdP false markP 3 ⟨⟨r'.c, r'.b, r'.bad⟩, l0, l1, l2 ++ L, c0, c1, cut⟩ = runQ rdP false markP 2 ⟨⟨c, b, bad⟩, l0, l1, l2, c0, c1, c2⟩ := by
        simp only [runQ, part2, hP]
      refine leafR_go ⟨r'.c, r'.b, r'.bad, pl, its, l0, l1, l2 ++ L, c0, c1, cut, 3⟩ ?_ (by simp only [rsQ_S]; omega) ?_ rfl rfl
      · refine ⟨by simp, ?_, ?_, ?_, ?_⟩ <;> simp <;> omega
      · simp only [rsQ_S, rsQ_fin, hrun]
    rw [rsQ_eq2]
    simp only [e0, cond_true, getP_snd1, getP_snd3, t1, t3]
    by_cases q0 : b.length < 3
    · have r0 : rget 3 ⟨c, b, bad⟩ = _ := rget_no q0
      simp only [q0, decide_true, cond_true]
      simp (disch := omega) only [decide_eq_true, Bool.and_self, cond_true, addL, if_true, if_false, k01, k02, k10, k12, k20, k21]
      exact hgo ⟨true, [], true⟩ 0 [] (gPart_of r0 z1 z3)
    have r0 : rget 3 ⟨c, b, bad⟩ = _ := rget_ok (show 3 ≤ b.length by omega)
    have d0 : decide ((0 : Int) ≤ 3 ∧ (3 : Int) ≤ b.length) = true := by simp only [decide_eq_true_eq]; omega
    have e1 : decide ((b.drop 3).length ≤ 1000000000000) = true := decide_eq_true (by simp; omega)
    simp only [q0, decide_false, cond_false, d0, cond_true, e1, getP_fst3 q0]
    by_cases q1 : (b.drop 3).length < 1
    · have r1 : rget 1 ⟨c, b.drop 3, bad⟩ = _ := rget_no q1
      simp only [q1, decide_true, cond_true]
      simp (disch := omega) only [decide_eq_true, Bool.and_self, cond_true, addL, if_true, if_false, k01, k02, k10, k12, k20, k21]
      exact hgo ⟨true, [], true⟩ _ [] (gPart_of r0 r1 z3)
    have r1 : rget 1 ⟨c, b.drop 3, bad⟩ = _ := rget_ok (show 1 ≤ (b.drop 3).length by omega)
    have d1 : decide ((0 : Int) ≤ 1 ∧ (1 : Int) ≤ (b.drop 3).length) = true := by simp only [decide_eq_true_eq]; omega
    have e2 : decide (((b.drop 3).drop 1).length ≤ 1000000000000) = true := decide_eq_true (by simp; omega)
    simp only [q1, decide_false, cond_false, d1, cond_true, e2, getP_fst1 q1]
    have n1 := leVal_le (b.drop 3) 1
    have f1 := leVal_le ((b.drop 3).drop 1) 3
    have bl : (((b.drop 3).drop 1).drop 3).length ≤ 1000000 := by simp; omega
    simp only [Nat.reducePow] at n1 f1
    by_cases q2 : ((b.drop 3).drop 1).length < 3
    · have r2 : rget 3 ⟨c, (b.drop 3).drop 1, bad⟩ = _ := rget_no q2
      simp only [q2, decide_true, cond_true]
      have bz : ([] : List UInt8).length ≤ 1000000 := by simp
      simp (disch := (first | omega | (simp; omega))) only [decide_eq_true, Bool.and_self, cond_true, addL, if_true, if_false, k01, k02, k10, k12, k20, k21, Nat.sub_zero, Int.add_zero]
      refine hgo _ _ _ ?_
      rw [gPart_of r0 r1 r2]
      have : ((leVal ((b.drop 3).take 1) : Int) == 0 && (0 : Int) != 0) = false := by simp
      rw [this]; rfl
    have r2 : rget 3 ⟨c, (b.drop 3).drop 1, bad⟩ = _ := rget_ok (show 3 ≤ ((b.drop 3).drop 1).length by omega)
    have d2 : decide ((0 : Int) ≤ 3 ∧ (3 : Int) ≤ ((b.drop 3).drop 1).length) = true := by simp only [decide_eq_true_eq]; omega
    simp only [q2, decide_false, cond_false, d2, cond_true, getP_fst3 q2]
    have hP := gPart_of r0 r1 r2
    cases bad
    · simp only [cond_false]
      cases hz : ((leVal ((b.drop 3).take 1) : Int) == 0)
      · simp only [cond_false]
        simp (disch := omega) only [decide_eq_true, Bool.and_self, cond_true, addL, if_true, if_false, k01, k02, k10, k12, k20, k21, Nat.sub_zero, Int.add_zero]
        refine hgo _ _ _ ?_
        rw [hP, hz]; rfl
      · simp only [cond_true]
        simp (disch := omega) only [decide_eq_true, Bool.and_self, cond_true, addL, if_true, if_false, k01, k02, k10, k12, k20, k21, Nat.sub_zero, Int.add_zero]
        refine hgo _ _ _ ?_
        rw [hP, hz]
        cases hf : ((leVal (((b.drop 3).drop 1).take 3) : Int) != 0) <;> rfl
    · simp only [cond_true]
      simp (disch := omega) only [decide_eq_true, Bool.and_self, cond_true, addL, if_true, if_false, k01, k02, k10, k12, k20, k21, Nat.sub_zero, Int.add_zero]
      refine hgo _ _ _ ?_
      rw [hP]
      cases ((leVal ((b.drop 3).take 1) : Int) == 0 && (leVal (((b.drop 3).drop 1).take 3) : Int) != 0) <;> rfl
  omega
def rsQ_d (env : Env RC) (os : List (Obj RC)) : Option (Bool × rsQ_St) := match env, os with
  | [(4, .ptr 0 []), (5, .ptr 1 []), (39, .int .i64 x0)], [.var 74 (.acons (.sl .u8 c b) (.acons (.bool bad) .anil)), .var 33 (.acons (.int .i64 pl) (.acons (.vs 2 x1) (.acons (.acons (.vs 3 x2) (.acons (.vs 4 x3) (.acons (.vs 5 x4) .anil))) (.acons (.arr .int 3 [c0, c1, c2]) .anil)))), .vec .item true its, .vec .line true l0, .vec .line true l1, .vec .line true l2] => staticD (true) (decide (x0 = 0) && decide (x1 = its.length) && decide (x2 = l0.length) && decide (x3 = l1.length) && decide (x4 = l2.length) && decide (b.length ≤ 1000000 ∧ l0.length = 0 ∧ l1.length = 0 ∧ l2.length = 0), ⟨c, b, bad, pl, its, l0, l1, l2, c0, c1, c2, 0⟩)
  | _, _ => none
noncomputable def un_1 := um_2.addLoop 19 11 (sumR s05 [.slot 4 0, .slot 5 0, .path 1 [1], .path 1 [2, 0], .path 1 [2, 1], .path 1 [2, 2]] [4, 5, 39] rsQ_S rsQ_d)
theorem un_1_laws : FLaws Try.prog s05 un_1 := by
  refine um_2_laws.addRoundsR s05_laws (by kernel_rfl) rsQ_S 60 [4, 5, 39] [] [.slot 4 0, .slot 5 0, .path 1 [1], .path 1 [2, 0], .path 1 [2, 1], .path 1 [2, 2]] [4, 5, 39] rsQ_d (fun q hI => ?_) ?_
  · obtain ⟨c, b, bad, pl, its, l0, l1, l2, c0, c1, c2, q⟩ := q
    refine ⟨?_, ?_, rsQ_round c b bad pl its l0 l1 l2 c0 c1 c2 q hI⟩
    · simp_all [RefsOK, rsQ_S, rsQ_c, rsQ_o, rsQ_Inv, D.refs, Obj.refs, rEnc]
    · simp_all [rsQ_S, rsQ_fin, rsQ_o, rsQ_Inv, RT.refsOK, RefsOK, D.refs, Obj.refs, rEnc]
  · intro env os b q hd_ hb
    unfold rsQ_d at hd_
    split at hd_
    · obtain ⟨hs, hd_⟩ := staticD_some hd_
      cases hd_
      simp only [Bool.and_eq_true, decide_eq_true_eq] at hb
      obtain ⟨⟨⟨⟨⟨rfl, rfl⟩, rfl⟩, rfl⟩, rfl⟩, hq⟩ := hb
      exact ⟨⟨by simp, hq.1, by simp [hq.2.1], by simp [hq.2.2.1], by simp [hq.2.2.2]⟩, rfl, rfl⟩
    · cases hd_
end Go.Ev


/-
  Reading a state: what comes.
-/
namespace Go.Ev
set_option linter.unusedVariables false
set_option linter.unusedSimpArgs false
def stG (o : Option St) : St := o.getD ⟨0, [], [], [], [], 0, 0, 0⟩
theorem runQ0_bounds (r : Rd) : (runQ rdP false markP 0 ⟨r, [], [], [], 0, 0, 0⟩).l0.length ≤ 255 ∧ (runQ rdP false markP 0 ⟨r, [], [], [], 0, 0, 0⟩).l1.length ≤ 255 ∧ (runQ rdP false markP 0 ⟨r, [], [], [], 0, 0, 0⟩).l2.length ≤ 255 ∧ (runQ rdP false markP 0 ⟨r, [], [], [], 0, 0, 0⟩).r.b.length ≤ r.b.length := by
  simp only [runQ, part0, part1, part2, List.nil_append]
  exact ⟨gPart_len _, gPart_len _, gPart_len _, Nat.le_trans (gPart_blen _) (Nat.le_trans (gPart_blen _) (gPart_blen _))⟩
theorem gState_of {r r1 r2 : Rd} {p n : Int} (h1 : rget 3 r = (p, r1)) (h2 : rget 1 r1 = (n, r2)) :
    gState rdP false markP r = ((runQ rdP false markP 0 ⟨(gItems rdP false n.toNat r2).1, [], [], [], 0, 0, 0⟩).r, ⟨p, (gItems rdP false n.toNat r2).2, (runQ rdP false markP 0 ⟨(gItems rdP false n.toNat r2).1, [], [], [], 0, 0, 0⟩).l0, (runQ rdP false markP 0 ⟨(gItems rdP false n.toNat r2).1, [], [], [], 0, 0, 0⟩).l1, (runQ rdP false markP 0 ⟨(gItems rdP false n.toNat r2).1, [], [], [], 0, 0, 0⟩).l2, (runQ rdP false markP 0 ⟨(gItems rdP false n.toNat r2).1, [], [], [], 0, 0, 0⟩).c0, (runQ rdP false markP 0 ⟨(gItems rdP false n.toNat r2).1, [], [], [], 0, 0, 0⟩).c1, (runQ rdP false markP 0 ⟨(gItems rdP false n.toNat r2).1, [], [], [], 0, 0, 0⟩).c2⟩) := by
  have e1 : rdP.get 3 r = (p, r1) := h1
  have e2 : rdP.get 1 r1 = (n, r2) := h2
  simp only [gState, e1, e2, runQ, part0, part1, part2, List.nil_append]
end Go.Ev

namespace Go.Ev
open Go.Proofs
set_option maxRecDepth 100000
set_option linter.unusedVariables false
set_option linter.unusedSimpArgs false
/-! ### function readSP: flume/record.ReadState -/
def readSP_s (c : Bool) (b : List UInt8) : Option (Bool × D RC) := some (decide (b.length ≤ 1000000), .tup (.acons (.acons (.int .i64 (stG (readS b)).place) (.acons (.sl (C := RC) .item (readS b).isNone (stG (readS b)).items) (.acons (.acons (.sl (C := RC) .line (readS b).isNone (stG (readS b)).l0) (.acons (.sl (C := RC) .line (readS b).isNone (stG (readS b)).l1) (.acons (.sl (C := RC) .line (readS b).isNone (stG (readS b)).l2) .anil))) (.acons (.arr (C := RC) .int 3 [(stG (readS b)).c0, (stG (readS b)).c1, (stG (readS b)).c2]) .anil)))) (.acons (.int .i64 (bif (readS b).isNone then 50 else 0)) .anil)))
def readSP_sp : List (D RC) → Option (Bool × D RC)
  | [.sl .u8 c b] => readSP_s c b
  | _ => none
noncomputable def readSP_e (c : Bool) (b : List UInt8) := evF s05 un_1 60 19 [.sl (C := RC) .u8 c b]
theorem readSP_eq (c : Bool) (b : List UInt8) : readSP_e c b = (bif decide (List.length b ≤ (1000000000000 : Nat)) then bif Prod.snd (getP b (0 : Int) (3 : Int)) != (0 : Int) then some (D.tup (D.acons (D.acons (D.int IntKind.i64 (0 : Int)) (D.acons (D.sl RTy.item true []) (D.acons (D.acons (D.sl RTy.line true []) (D.acons (D.sl RTy.line true []) (D.acons (D.sl RTy.line true []) D.anil))) (D.acons (D.arr RTy.int (3 : Nat) (List.replicate (3 : Nat) (0 : Int))) D.anil)))) (D.acons (D.int IntKind.i64 (50 : Int)) D.anil))) else bif decide ((0 : Int) ≤ (3 : Int) ∧ (3 : Int) ≤ (↑(List.length b) : Int)) then bif decide (List.length (List.drop (3 : Nat) b) ≤ (1000000000000 : Nat)) then bif Prod.snd (getP (List.drop (3 : Nat) b) (0 : Int) (1 : Int)) != (0 : Int) then some (D.tup (D.acons (D.acons (D.int IntKind.i64 (0 : Int)) (D.acons (D.sl RTy.item true []) (D.acons (D.acons (D.sl RTy.line true []) (D.acons (D.sl RTy.line true []) (D.acons (D.sl RTy.line true []) D.anil))) (D.acons (D.arr RTy.int (3 : Nat) (List.replicate (3 : Nat) (0 : Int))) D.anil)))) (D.acons (D.int IntKind.i64 (50 : Int)) D.anil))) else bif decide ((0 : Int) ≤ (1 : Int) ∧ (1 : Int) ≤ (↑(List.length (List.drop (3 : Nat) b)) : Int)) then bif decide ((0 : Int) ≤ Prod.fst (getP (List.drop (3 : Nat) b) (0 : Int) (1 : Int)) ∧ Prod.fst (getP (List.drop (3 : Nat) b) (0 : Int) (1 : Int)) ≤ (255 : Int) ∧ List.length (List.drop (1 : Nat) (List.drop (3 : Nat) b)) ≤ (1000000 : Nat) ∧ (0 : Nat) = (0 : Nat)) then bif decide (List.length ([] ++ Prod.snd (gItems rdP false (Int.toNat (Prod.fst (getP (List.drop (3 : Nat) b) (0 : Int) (1 : Int))) - (0 : Nat)) (Rd.mk c (List.drop (1 : Nat) (List.drop (3 : Nat) b)) false))) = List.length ([] ++ Prod.snd (gItems rdP false (Int.toNat (Prod.fst (getP (List.drop (3 : Nat) b) (0 : Int) (1 : Int))) - (0 : Nat)) (Rd.mk c (List.drop (1 : Nat) (List.drop (3 : Nat) b)) false)))) && true && true && true && decide (List.length (Rd.b (Prod.fst (gItems rdP false (Int.toNat (Prod.fst (getP (List.drop (3 : Nat) b) (0 : Int) (1 : Int))) - (0 : Nat)) (Rd.mk c (List.drop (1 : Nat) (List.drop (3 : Nat) b)) false)))) ≤ (1000000 : Nat) ∧ (0 : Nat) = (0 : Nat) ∧ (0 : Nat) = (0 : Nat) ∧ (0 : Nat) = (0 : Nat)) then bif !Rd.bad (QS.r (runQ rdP false markP (0 : Nat) (QS.mk (Rd.mk (Rd.c (Prod.fst (gItems rdP false (Int.toNat (Prod.fst (getP (List.drop (3 : Nat) b) (0 : Int) (1 : Int))) - (0 : Nat)) (Rd.mk c (List.drop (1 : Nat) (List.drop (3 : Nat) b)) false)))) (Rd.b (Prod.fst (gItems rdP false (Int.toNat (Prod.fst (getP (List.drop (3 : Nat) b) (0 : Int) (1 : Int))) - (0 : Nat)) (Rd.mk c (List.drop (1 : Nat) (List.drop (3 : Nat) b)) false)))) (Rd.bad (Prod.fst (gItems rdP false (Int.toNat (Prod.fst (getP (List.drop (3 : Nat) b) (0 : Int) (1 : Int))) - (0 : Nat)) (Rd.mk c (List.drop (1 : Nat) (List.drop (3 : Nat) b)) false))))) [] [] [] (0 : Int) (0 : Int) (0 : Int)))) then bif lenOK (List.length (Rd.b (QS.r (runQ rdP false markP (0 : Nat) (QS.mk (Rd.mk (Rd.c (Prod.fst (gItems rdP false (Int.toNat (Prod.fst (getP (List.drop (3 : Nat) b) (0 : Int) (1 : Int))) - (0 : Nat)) (Rd.mk c (List.drop (1 : Nat) (List.drop (3 : Nat) b)) false)))) (Rd.b (Prod.fst (gItems rdP false (Int.toNat (Prod.fst (getP (List.drop (3 : Nat) b) (0 : Int) (1 : Int))) - (0 : Nat)) (Rd.mk c (List.drop (1 : Nat) (List.drop (3 : Nat) b)) false)))) (Rd.bad (Prod.fst (gItems rdP false (Int.toNat (Prod.fst (getP (List.drop (3 : Nat) b) (0 : Int) (1 : Int))) - (0 : Nat)) (Rd.mk c (List.drop (1 : Nat) (List.drop (3 : Nat) b)) false))))) [] [] [] (0 : Int) (0 : Int) (0 : Int)))))) then bif !(↑(List.length (Rd.b (QS.r (runQ rdP false markP (0 : Nat) (QS.mk (Rd.mk (Rd.c (Prod.fst (gItems rdP false (Int.toNat (Prod.fst (getP (List.drop (3 : Nat) b) (0 : Int) (1 : Int))) - (0 : Nat)) (Rd.mk c (List.drop (1 : Nat) (List.drop (3 : Nat) b)) false)))) (Rd.b (Prod.fst (gItems rdP false (Int.toNat (Prod.fst (getP (List.drop (3 : Nat) b) (0 : Int) (1 : Int))) - (0 : Nat)) (Rd.mk c (List.drop (1 : Nat) (List.drop (3 : Nat) b)) false)))) (Rd.bad (Prod.fst (gItems rdP false (Int.toNat (Prod.fst (getP (List.drop (3 : Nat) b) (0 : Int) (1 : Int))) - (0 : Nat)) (Rd.mk c (List.drop (1 : Nat) (List.drop (3 : Nat) b)) false))))) [] [] [] (0 : Int) (0 : Int) (0 : Int)))))) : Int) == (0 : Int) then some (D.tup (D.acons (D.acons (D.int IntKind.i64 (0 : Int)) (D.acons (D.sl RTy.item true []) (D.acons (D.acons (D.sl RTy.line true []) (D.acons (D.sl RTy.line true []) (D.acons (D.sl RTy.line true []) D.anil))) (D.acons (D.arr RTy.int (3 : Nat) (List.replicate (3 : Nat) (0 : Int))) D.anil)))) (D.acons (D.int IntKind.i64 (50 : Int)) D.anil))) else bif Nat.beq (List.length ([] ++ Prod.snd (gItems rdP false (Int.toNat (Prod.fst (getP (List.drop (3 : Nat) b) (0 : Int) (1 : Int))) - (0 : Nat)) (Rd.mk c (List.drop (1 : Nat) (List.drop (3 : Nat) b)) false)))) (List.length ([] ++ Prod.snd (gItems rdP false (Int.toNat (Prod.fst (getP (List.drop (3 : Nat) b) (0 : Int) (1 : Int))) - (0 : Nat)) (Rd.mk c (List.drop (1 : Nat) (List.drop (3 : Nat) b)) false)))) then bif Nat.beq (List.length (QS.l0 (runQ rdP false markP (0 : Nat) (QS.mk (Rd.mk (Rd.c (Prod.fst (gItems rdP false (Int.toNat (Prod.fst (getP (List.drop (3 : Nat) b) (0 : Int) (1 : Int))) - (0 : Nat)) (Rd.mk c (List.drop (1 : Nat) (List.drop (3 : Nat) b)) false)))) (Rd.b (Prod.fst (gItems rdP false (Int.toNat (Prod.fst (getP (List.drop (3 : Nat) b) (0 : Int) (1 : Int))) - (0 : Nat)) (Rd.mk c (List.drop (1 : Nat) (List.drop (3 : Nat) b)) false)))) (Rd.bad (Prod.fst (gItems rdP false (Int.toNat (Prod.fst (getP (List.drop (3 : Nat) b) (0 : Int) (1 : Int))) - (0 : Nat)) (Rd.mk c (List.drop (1 : Nat) (List.drop (3 : Nat) b)) false))))) [] [] [] (0 : Int) (0 : Int) (0 : Int))))) (List.length (QS.l0 (runQ rdP false markP (0 : Nat) (QS.mk (Rd.mk (Rd.c (Prod.fst (gItems rdP false (Int.toNat (Prod.fst (getP (List.drop (3 : Nat) b) (0 : Int) (1 : Int))) - (0 : Nat)) (Rd.mk c (List.drop (1 : Nat) (List.drop (3 : Nat) b)) false)))) (Rd.b (Prod.fst (gItems rdP false (Int.toNat (Prod.fst (getP (List.drop (3 : Nat) b) (0 : Int) (1 : Int))) - (0 : Nat)) (Rd.mk c (List.drop (1 : Nat) (List.drop (3 : Nat) b)) false)))) (Rd.bad (Prod.fst (gItems rdP false (Int.toNat (Prod.fst (getP (List.drop (3 : Nat) b) (0 : Int) (1 : Int))) - (0 : Nat)) (Rd.mk c (List.drop (1 : Nat) (List.drop (3 : Nat) b)) false))))) [] [] [] (0 : Int) (0 : Int) (0 : Int))))) then bif Nat.beq (List.length (QS.l1 (runQ rdP false markP (0 : Nat) (QS.mk (Rd.mk (Rd.c (Prod.fst (gItems rdP false (Int.toNat (Prod.fst (getP (List.drop (3 : Nat) b) (0 : Int) (1 : Int))) - (0 : Nat)) (Rd.mk c (List.drop (1 : Nat) (List.drop (3 : Nat) b)) false)))) (Rd.b (Prod.fst (gItems rdP false (Int.toNat (Prod.fst (getP (List.drop (3 : Nat) b) (0 : Int) (1 : Int))) - (0 : Nat)) (Rd.mk c (List.drop (1 : Nat) (List.drop (3 : Nat) b)) false)))) (Rd.bad (Prod.fst (gItems rdP false (Int.toNat (Prod.fst (getP (List.drop (3 : Nat) b) (0 : Int) (1 : Int))) - (0 : Nat)) (Rd.mk c (List.drop (1 : Nat) (List.drop (3 : Nat) b)) false))))) [] [] [] (0 : Int) (0 : Int) (0 : Int))))) (List.length (QS.l1 (runQ rdP false markP (0 : Nat) (QS.mk (Rd.mk (Rd.c (Prod.fst (gItems rdP false (Int.toNat (Prod.fst (getP (List.drop (3 : Nat) b) (0 : Int) (1 : Int))) - (0 : Nat)) (Rd.mk c (List.drop (1 : Nat) (List.drop (3 : Nat) b)) false)))) (Rd.b (Prod.fst (gItems rdP false (Int.toNat (Prod.fst (getP (List.drop (3 : Nat) b) (0 : Int) (1 : Int))) - (0 : Nat)) (Rd.mk c (List.drop (1 : Nat) (List.drop (3 : Nat) b)) false)))) (Rd.bad (Prod.fst (gItems rdP false (Int.toNat (Prod.fst (getP (List.drop (3 : Nat) b) (0 : Int) (1 : Int))) - (0 : Nat)) (Rd.mk c (List.drop (1 : Nat) (List.drop (3 : Nat) b)) false))))) [] [] [] (0 : Int) (0 : Int) (0 : Int))))) then bif Nat.beq (List.length (QS.l2 (runQ rdP false markP (0 : Nat) (QS.mk (Rd.mk (Rd.c (Prod.fst (gItems rdP false (Int.toNat (Prod.fst (getP (List.drop (3 : Nat) b) (0 : Int) (1 : Int))) - (0 : Nat)) (Rd.mk c (List.drop (1 : Nat) (List.drop (3 : Nat) b)) false)))) (Rd.b (Prod.fst (gItems rdP false (Int.toNat (Prod.fst (getP (List.drop (3 : Nat) b) (0 : Int) (1 : Int))) - (0 : Nat)) (Rd.mk c (List.drop (1 : Nat) (List.drop (3 : Nat) b)) false)))) (Rd.bad (Prod.fst (gItems rdP false (Int.toNat (Prod.fst (getP (List.drop (3 : Nat) b) (0 : Int) (1 : Int))) - (0 : Nat)) (Rd.mk c (List.drop (1 : Nat) (List.drop (3 : Nat) b)) false))))) [] [] [] (0 : Int) (0 : Int) (0 : Int))))) (List.length (QS.l2 (runQ rdP false markP (0 : Nat) (QS.mk (Rd.mk (Rd.c (Prod.fst (gItems rdP false (Int.toNat (Prod.fst (getP (List.drop (3 : Nat) b) (0 : Int) (1 : Int))) - (0 : Nat)) (Rd.mk c (List.drop (1 : Nat) (List.drop (3 : Nat) b)) false)))) (Rd.b (Prod.fst (gItems rdP false (Int.toNat (Prod.fst (getP (List.drop (3 : Nat) b) (0 : Int) (1 : Int))) - (0 : Nat)) (Rd.mk c (List.drop (1 : Nat) (List.drop (3 : Nat) b)) false)))) (Rd.bad (Prod.fst (gItems rdP false (Int.toNat (Prod.fst (getP (List.drop (3 : Nat) b) (0 : Int) (1 : Int))) - (0 : Nat)) (Rd.mk c (List.drop (1 : Nat) (List.drop (3 : Nat) b)) false))))) [] [] [] (0 : Int) (0 : Int) (0 : Int))))) then bif decide (List.length ([] ++ Prod.snd (gItems rdP false (Int.toNat (Prod.fst (getP (List.drop (3 : Nat) b) (0 : Int) (1 : Int))) - (0 : Nat)) (Rd.mk c (List.drop (1 : Nat) (List.drop (3 : Nat) b)) false))) ≤ (9223372036854775807 : Nat) ∧ List.length (QS.l0 (runQ rdP false markP (0 : Nat) (QS.mk (Rd.mk (Rd.c (Prod.fst (gItems rdP false (Int.toNat (Prod.fst (getP (List.drop (3 : Nat) b) (0 : Int) (1 : Int))) - (0 : Nat)) (Rd.mk c (List.drop (1 : Nat) (List.drop (3 : Nat) b)) false)))) (Rd.b (Prod.fst (gItems rdP false (Int.toNat (Prod.fst (getP (List.drop (3 : Nat) b) (0 : Int) (1 : Int))) - (0 : Nat)) (Rd.mk c (List.drop (1 : Nat) (List.drop (3 : Nat) b)) false)))) (Rd.bad (Prod.fst (gItems rdP false (Int.toNat (Prod.fst (getP (List.drop (3 : Nat) b) (0 : Int) (1 : Int))) - (0 : Nat)) (Rd.mk c (List.drop (1 : Nat) (List.drop (3 : Nat) b)) false))))) [] [] [] (0 : Int) (0 : Int) (0 : Int)))) ≤ (9223372036854775807 : Nat) ∧ List.length (QS.l1 (runQ rdP false markP (0 : Nat) (QS.mk (Rd.mk (Rd.c (Prod.fst (gItems rdP false (Int.toNat (Prod.fst (getP (List.drop (3 : Nat) b) (0 : Int) (1 : Int))) - (0 : Nat)) (Rd.mk c (List.drop (1 : Nat) (List.drop (3 : Nat) b)) false)))) (Rd.b (Prod.fst (gItems rdP false (Int.toNat (Prod.fst (getP (List.drop (3 : Nat) b) (0 : Int) (1 : Int))) - (0 : Nat)) (Rd.mk c (List.drop (1 : Nat) (List.drop (3 : Nat) b)) false)))) (Rd.bad (Prod.fst (gItems rdP false (Int.toNat (Prod.fst (getP (List.drop (3 : Nat) b) (0 : Int) (1 : Int))) - (0 : Nat)) (Rd.mk c (List.drop (1 : Nat) (List.drop (3 : Nat) b)) false))))) [] [] [] (0 : Int) (0 : Int) (0 : Int)))) ≤ (9223372036854775807 : Nat) ∧ List.length (QS.l2 (runQ rdP false markP (0 : Nat) (QS.mk (Rd.mk (Rd.c (Prod.fst (gItems rdP false (Int.toNat (Prod.fst (getP (List.drop (3 : Nat) b) (0 : Int) (1 : Int))) - (0 : Nat)) (Rd.mk c (List.drop (1 : Nat) (List.drop (3 : Nat) b)) false)))) (Rd.b (Prod.fst (gItems rdP false (Int.toNat (Prod.fst (getP (List.drop (3 : Nat) b) (0 : Int) (1 : Int))) - (0 : Nat)) (Rd.mk c (List.drop (1 : Nat) (List.drop (3 : Nat) b)) false)))) (Rd.bad (Prod.fst (gItems rdP false (Int.toNat (Prod.fst (getP (List.drop (3 : Nat) b) (0 : Int) (1 : Int))) - (0 : Nat)) (Rd.mk c (List.drop (1 : Nat) (List.drop (3 : Nat) b)) false))))) [] [] [] (0 : Int) (0 : Int) (0 : Int)))) ≤ (9223372036854775807 : Nat)) then bif !standsOK (St.mk (Prod.fst (getP b (0 : Int) (3 : Int))) ([] ++ Prod.snd (gItems rdP false (Int.toNat (Prod.fst (getP (List.drop (3 : Nat) b) (0 : Int) (1 : Int))) - (0 : Nat)) (Rd.mk c (List.drop (1 : Nat) (List.drop (3 : Nat) b)) false))) (QS.l0 (runQ rdP false markP (0 : Nat) (QS.mk (Rd.mk (Rd.c (Prod.fst (gItems rdP false (Int.toNat (Prod.fst (getP (List.drop (3 : Nat) b) (0 : Int) (1 : Int))) - (0 : Nat)) (Rd.mk c (List.drop (1 : Nat) (List.drop (3 : Nat) b)) false)))) (Rd.b (Prod.fst (gItems rdP false (Int.toNat (Prod.fst (getP (List.drop (3 : Nat) b) (0 : Int) (1 : Int))) - (0 : Nat)) (Rd.mk c (List.drop (1 : Nat) (List.drop (3 : Nat) b)) false)))) (Rd.bad (Prod.fst (gItems rdP false (Int.toNat (Prod.fst (getP (List.drop (3 : Nat) b) (0 : Int) (1 : Int))) - (0 : Nat)) (Rd.mk c (List.drop (1 : Nat) (List.drop (3 : Nat) b)) false))))) [] [] [] (0 : Int) (0 : Int) (0 : Int)))) (QS.l1 (runQ rdP false markP (0 : Nat) (QS.mk (Rd.mk (Rd.c (Prod.fst (gItems rdP false (Int.toNat (Prod.fst (getP (List.drop (3 : Nat) b) (0 : Int) (1 : Int))) - (0 : Nat)) (Rd.mk c (List.drop (1 : Nat) (List.drop (3 : Nat) b)) false)))) (Rd.b (Prod.fst (gItems rdP false (Int.toNat (Prod.fst (getP (List.drop (3 : Nat) b) (0 : Int) (1 : Int))) - (0 : Nat)) (Rd.mk c (List.drop (1 : Nat) (List.drop (3 : Nat) b)) false)))) (Rd.bad (Prod.fst (gItems rdP false (Int.toNat (Prod.fst (getP (List.drop (3 : Nat) b) (0 : Int) (1 : Int))) - (0 : Nat)) (Rd.mk c (List.drop (1 : Nat) (List.drop (3 : Nat) b)) false))))) [] [] [] (0 : Int) (0 : Int) (0 : Int)))) (QS.l2 (runQ rdP false markP (0 : Nat) (QS.mk (Rd.mk (Rd.c (Prod.fst (gItems rdP false (Int.toNat (Prod.fst (getP (List.drop (3 : Nat) b) (0 : Int) (1 : Int))) - (0 : Nat)) (Rd.mk c (List.drop (1 : Nat) (List.drop (3 : Nat) b)) false)))) (Rd.b (Prod.fst (gItems rdP false (Int.toNat (Prod.fst (getP (List.drop (3 : Nat) b) (0 : Int) (1 : Int))) - (0 : Nat)) (Rd.mk c (List.drop (1 : Nat) (List.drop (3 : Nat) b)) false)))) (Rd.bad (Prod.fst (gItems rdP false (Int.toNat (Prod.fst (getP (List.drop (3 : Nat) b) (0 : Int) (1 : Int))) - (0 : Nat)) (Rd.mk c (List.drop (1 : Nat) (List.drop (3 : Nat) b)) false))))) [] [] [] (0 : Int) (0 : Int) (0 : Int)))) (QS.c0 (runQ rdP false markP (0 : Nat) (QS.mk (Rd.mk (Rd.c (Prod.fst (gItems rdP false (Int.toNat (Prod.fst (getP (List.drop (3 : Nat) b) (0 : Int) (1 : Int))) - (0 : Nat)) (Rd.mk c (List.drop (1 : Nat) (List.drop (3 : Nat) b)) false)))) (Rd.b (Prod.fst (gItems rdP false (Int.toNat (Prod.fst (getP (List.drop (3 : Nat) b) (0 : Int) (1 : Int))) - (0 : Nat)) (Rd.mk c (List.drop (1 : Nat) (List.drop (3 : Nat) b)) false)))) (Rd.bad (Prod.fst (gItems rdP false (Int.toNat (Prod.fst (getP (List.drop (3 : Nat) b) (0 : Int) (1 : Int))) - (0 : Nat)) (Rd.mk c (List.drop (1 : Nat) (List.drop (3 : Nat) b)) false))))) [] [] [] (0 : Int) (0 : Int) (0 : Int)))) (QS.c1 (runQ rdP false markP (0 : Nat) (QS.mk (Rd.mk (Rd.c (Prod.fst (gItems rdP false (Int.toNat (Prod.fst (getP (List.drop (3 : Nat) b) (0 : Int) (1 : Int))) - (0 : Nat)) (Rd.mk c (List.drop (1 : Nat) (List.drop (3 : Nat) b)) false)))) (Rd.b (Prod.fst (gItems rdP false (Int.toNat (Prod.fst (getP (List.drop (3 : Nat) b) (0 : Int) (1 : Int))) - (0 : Nat)) (Rd.mk c (List.drop (1 : Nat) (List.drop (3 : Nat) b)) false)))) (Rd.bad (Prod.fst (gItems rdP false (Int.toNat (Prod.fst (getP (List.drop (3 : Nat) b) (0 : Int) (1 : Int))) - (0 : Nat)) (Rd.mk c (List.drop (1 : Nat) (List.drop (3 : Nat) b)) false))))) [] [] [] (0 : Int) (0 : Int) (0 : Int)))) (QS.c2 (runQ rdP false markP (0 : Nat) (QS.mk (Rd.mk (Rd.c (Prod.fst (gItems rdP false (Int.toNat (Prod.fst (getP (List.drop (3 : Nat) b) (0 : Int) (1 : Int))) - (0 : Nat)) (Rd.mk c (List.drop (1 : Nat) (List.drop (3 : Nat) b)) false)))) (Rd.b (Prod.fst (gItems rdP false (Int.toNat (Prod.fst (getP (List.drop (3 : Nat) b) (0 : Int) (1 : Int))) - (0 : Nat)) (Rd.mk c (List.drop (1 : Nat) (List.drop (3 : Nat) b)) false)))) (Rd.bad (Prod.fst (gItems rdP false (Int.toNat (Prod.fst (getP (List.drop (3 : Nat) b) (0 : Int) (1 : Int))) - (0 : Nat)) (Rd.mk c (List.drop (1 : Nat) (List.drop (3 : Nat) b)) false))))) [] [] [] (0 : Int) (0 : Int) (0 : Int))))) then some (D.tup (D.acons (D.acons (D.int IntKind.i64 (0 : Int)) (D.acons (D.sl RTy.item true []) (D.acons (D.acons (D.sl RTy.line true []) (D.acons (D.sl RTy.line true []) (D.acons (D.sl RTy.line true []) D.anil))) (D.acons (D.arr RTy.int (3 : Nat) (List.replicate (3 : Nat) (0 : Int))) D.anil)))) (D.acons (D.int IntKind.i64 (50 : Int)) D.anil))) else some (D.tup (D.acons (D.acons (D.int IntKind.i64 (Prod.fst (getP b (0 : Int) (3 : Int)))) (D.acons (D.sl RTy.item false ([] ++ Prod.snd (gItems rdP false (Int.toNat (Prod.fst (getP (List.drop (3 : Nat) b) (0 : Int) (1 : Int))) - (0 : Nat)) (Rd.mk c (List.drop (1 : Nat) (List.drop (3 : Nat) b)) false)))) (D.acons (D.acons (D.sl RTy.line false (QS.l0 (runQ rdP false markP (0 : Nat) (QS.mk (Rd.mk (Rd.c (Prod.fst (gItems rdP false (Int.toNat (Prod.fst (getP (List.drop (3 : Nat) b) (0 : Int) (1 : Int))) - (0 : Nat)) (Rd.mk c (List.drop (1 : Nat) (List.drop (3 : Nat) b)) false)))) (Rd.b (Prod.fst (gItems rdP false (Int.toNat (Prod.fst (getP (List.drop (3 : Nat) b) (0 : Int) (1 : Int))) - (0 : Nat)) (Rd.mk c (List.drop (1 : Nat) (List.drop (3 : Nat) b)) false)))) (Rd.bad (Prod.fst (gItems rdP false (Int.toNat (Prod.fst (getP (List.drop (3 : Nat) b) (0 : Int) (1 : Int))) - (0 : Nat)) (Rd.mk c (List.drop (1 : Nat) (List.drop (3 : Nat) b)) false))))) [] [] [] (0 : Int) (0 : Int) (0 : Int))))) (D.acons (D.sl RTy.line false (QS.l1 (runQ rdP false markP (0 : Nat) (QS.mk (Rd.mk (Rd.c (Prod.fst (gItems rdP false (Int.toNat (Prod.fst (getP (List.drop (3 : Nat) b) (0 : Int) (1 : Int))) - (0 : Nat)) (Rd.mk c (List.drop (1 : Nat) (List.drop (3 : Nat) b)) false)))) (Rd.b (Prod.fst (gItems rdP false (Int.toNat (Prod.fst (getP (List.drop (3 : Nat) b) (0 : Int) (1 : Int))) - (0 : Nat)) (Rd.mk c (List.drop (1 : Nat) (List.drop (3 : Nat) b)) false)))) (Rd.bad (Prod.fst (gItems rdP false (Int.toNat (Prod.fst (getP (List.drop (3 : Nat) b) (0 : Int) (1 : Int))) - (0 : Nat)) (Rd.mk c (List.drop (1 : Nat) (List.drop (3 : Nat) b)) false))))) [] [] [] (0 : Int) (0 : Int) (0 : Int))))) (D.acons (D.sl RTy.line false (QS.l2 (runQ rdP false markP (0 : Nat) (QS.mk (Rd.mk (Rd.c (Prod.fst (gItems rdP false (Int.toNat (Prod.fst (getP (List.drop (3 : Nat) b) (0 : Int) (1 : Int))) - (0 : Nat)) (Rd.mk c (List.drop (1 : Nat) (List.drop (3 : Nat) b)) false)))) (Rd.b (Prod.fst (gItems rdP false (Int.toNat (Prod.fst (getP (List.drop (3 : Nat) b) (0 : Int) (1 : Int))) - (0 : Nat)) (Rd.mk c (List.drop (1 : Nat) (List.drop (3 : Nat) b)) false)))) (Rd.bad (Prod.fst (gItems rdP false (Int.toNat (Prod.fst (getP (List.drop (3 : Nat) b) (0 : Int) (1 : Int))) - (0 : Nat)) (Rd.mk c (List.drop (1 : Nat) (List.drop (3 : Nat) b)) false))))) [] [] [] (0 : Int) (0 : Int) (0 : Int))))) D.anil))) (D.acons (D.arr RTy.int (3 : Nat) [QS.c0 (runQ rdP false markP (0 : Nat) (QS.mk (Rd.mk (Rd.c (Prod.fst (gItems rdP false (Int.toNat (Prod.fst (getP (List.drop (3 : Nat) b) (0 : Int) (1 : Int))) - (0 : Nat)) (Rd.mk c (List.drop (1 : Nat) (List.drop (3 : Nat) b)) false)))) (Rd.b (Prod.fst (gItems rdP false (Int.toNat (Prod.fst (getP (List.drop (3 : Nat) b) (0 : Int) (1 : Int))) - (0 : Nat)) (Rd.mk c (List.drop (1 : Nat) (List.drop (3 : Nat) b)) false)))) (Rd.bad (Prod.fst (gItems rdP false (Int.toNat (Prod.fst (getP (List.drop (3 : Nat) b) (0 : Int) (1 : Int))) - (0 : Nat)) (Rd.mk c (List.drop (1 : Nat) (List.drop (3 : Nat) b)) false))))) [] [] [] (0 : Int) (0 : Int) (0 : Int))), QS.c1 (runQ rdP false markP (0 : Nat) (QS.mk (Rd.mk (Rd.c (Prod.fst (gItems rdP false (Int.toNat (Prod.fst (getP (List.drop (3 : Nat) b) (0 : Int) (1 : Int))) - (0 : Nat)) (Rd.mk c (List.drop (1 : Nat) (List.drop (3 : Nat) b)) false)))) (Rd.b (Prod.fst (gItems rdP false (Int.toNat (Prod.fst (getP (List.drop (3 : Nat) b) (0 : Int) (1 : Int))) - (0 : Nat)) (Rd.mk c (List.drop (1 : Nat) (List.drop (3 : Nat) b)) false)))) (Rd.bad (Prod.fst (gItems rdP false (Int.toNat (Prod.fst (getP (List.drop (3 : Nat) b) (0 : Int) (1 : Int))) - (0 : Nat)) (Rd.mk c (List.drop (1 : Nat) (List.drop (3 : Nat) b)) false))))) [] [] [] (0 : Int) (0 : Int) (0 : Int))), QS.c2 (runQ rdP false markP (0 : Nat) (QS.mk (Rd.mk (Rd.c (Prod.fst (gItems rdP false (Int.toNat (Prod.fst (getP (List.drop (3 : Nat) b) (0 : Int) (1 : Int))) - (0 : Nat)) (Rd.mk c (List.drop (1 : Nat) (List.drop (3 : Nat) b)) false)))) (Rd.b (Prod.fst (gItems rdP false (Int.toNat (Prod.fst (getP (List.drop (3 : Nat) b) (0 : Int) (1 : Int))) - (0 : Nat)) (Rd.mk c (List.drop (1 : Nat) (List.drop (3 : Nat) b)) false)))) (Rd.bad (Prod.fst (gItems rdP false (Int.toNat (Prod.fst (getP (List.drop (3 : Nat) b) (0 : Int) (1 : Int))) - (0 : Nat)) (Rd.mk c (List.drop (1 : Nat) (List.drop (3 : Nat) b)) false))))) [] [] [] (0 : Int) (0 : Int) (0 : Int)))]) D.anil)))) (D.acons (D.int IntKind.i64 (0 : Int)) D.anil))) else none else none else none else none else none else none else some (D.tup (D.acons (D.acons (D.int IntKind.i64 (0 : Int)) (D.acons (D.sl RTy.item true []) (D.acons (D.acons (D.sl RTy.line true []) (D.acons (D.sl RTy.line true []) (D.acons (D.sl RTy.line true []) D.anil))) (D.acons (D.arr RTy.int (3 : Nat) (List.replicate (3 : Nat) (0 : Int))) D.anil)))) (D.acons (D.int IntKind.i64 (50 : Int)) D.anil))) else none else none else none else none else none else none) := by kernel_rfl
theorem readSP_ok (c : Bool) (b : List UInt8) (h : (decide (b.length ≤ 1000000)) = true) : readSP_e c b = some (.tup (.acons (.acons (.int .i64 (stG (readS b)).place) (.acons (.sl (C := RC) .item (readS b).isNone (stG (readS b)).items) (.acons (.acons (.sl (C := RC) .line (readS b).isNone (stG (readS b)).l0) (.acons (.sl (C := RC) .line (readS b).isNone (stG (readS b)).l1) (.acons (.sl (C := RC) .line (readS b).isNone (stG (readS b)).l2) .anil))) (.acons (.arr (C := RC) .int 3 [(stG (readS b)).c0, (stG (readS b)).c1, (stG (readS b)).c2]) .anil)))) (.acons (.int .i64 (bif (readS b).isNone then 50 else 0)) .anil))) := by
  rw [readSP_eq]
  have hl := of_decide_eq_true h
  have e0 : decide (b.length ≤ 1000000000000) = true := decide_eq_true (by omega)
  have t1 : Int.toNat 1 = 1 := rfl
  have t3 : Int.toNat 3 = 3 := rfl
  have eb : ∀ n : Nat, n.beq n = true := fun n => by simp
  have no : readS b = none → some (D.tup (D.acons (D.acons (D.int IntKind.i64 0) (D.acons (D.sl (C := RC) RTy.item true []) (D.acons (D.acons (D.sl (C := RC) RTy.line true []) (D.acons (D.sl (C := RC) RTy.line true []) (D.acons (D.sl (C := RC) RTy.line true []) D.anil))) (D.acons (D.arr (C := RC) RTy.int 3 (List.replicate 3 0)) D.anil)))) (D.acons (D.int IntKind.i64 50) D.anil))) = some (.tup (.acons (.acons (.int .i64 (stG (readS b)).place) (.acons (.sl (C := RC) .item (readS b).isNone (stG (readS b)).items) (.acons (.acons (.sl (C := RC) .line (readS b).isNone (stG (readS b)).l0) (.acons (.sl (C := RC) .line (readS b).isNone (stG (readS b)).l1) (.acons (.sl (C := RC) .line (readS b).isNone (stG (readS b)).l2) .anil))) (.acons (.arr (C := RC) .int 3 [(stG (readS b)).c0, (stG (readS b)).c1, (stG (readS b)).c2]) .anil)))) (.acons (.int .i64 (bif (readS b).isNone then 50 else 0)) .anil))) := fun e => by rw [e]; rfl
  simp only [e0, cond_true, getP_snd1, getP_snd3, t1, t3]
  by_cases q0 : b.length < 3
  · simp only [q0, decide_true, cond_true]
    exact no (by have : ¬ 3 ≤ b.length := by omega
                 simp [readS, sget, this])
  have r0 : rget 3 ⟨c, b, false⟩ = _ := rget_ok (show 3 ≤ b.length by omega)
  have d0 : decide ((0 : Int) ≤ 3 ∧ (3 : Int) ≤ b.length) = true := by simp only [decide_eq_true_eq]; omega
  have e1 : decide ((b.drop 3).length ≤ 1000000000000) = true := decide_eq_true (by simp; omega)
  simp only [q0, decide_false, cond_false, d0, cond_true, e1, getP_fst3 q0]
  by_cases q1 : (b.drop 3).length < 1
  · simp only [q1, decide_true, cond_true]
    exact no (by have h3 : 3 ≤ b.length := by omega
                 have : ¬ 1 ≤ (b.drop 3).length := by omega
                 simp only [readS, sget, h3, if_true, Option.bind_some, this, if_false, Option.bind_none])
  have r1 : rget 1 ⟨c, b.drop 3, false⟩ = _ := rget_ok (show 1 ≤ (b.drop 3).length by omega)
  have d1 : decide ((0 : Int) ≤ 1 ∧ (1 : Int) ≤ (b.drop 3).length) = true := by simp only [decide_eq_true_eq]; omega
  simp only [q1, decide_false, cond_false, d1, cond_true, getP_fst1 q1]
  have rK := gState_read rdP_ok false markP (fun _ => rfl) ⟨c, b, false⟩ rfl
  rw [gState_of r0 r1] at rK
  change readS b = _ at rK
  have n1 := leVal_le (b.drop 3) 1
  simp only [Nat.reducePow] at n1
  have bl : ((b.drop 3).drop 1).length ≤ 1000000 := by simp; omega
  generalize leVal ((b.drop 3).take 1) = n at n1 rK ⊢
  have ck : decide ((0 : Int) ≤ n ∧ (n : Int) ≤ 255 ∧ ((b.drop 3).drop 1).length ≤ 1000000 ∧ True) = true := decide_eq_true ⟨by omega, by omega, bl, trivial⟩
  have tn : (n : Int).toNat - 0 = n := by omega
  have tn' : (n : Int).toNat = n := by omega
  simp only [ck, tn, tn', cond_true, List.nil_append] at rK ⊢
  have gb := gItems_blen n ⟨c, (b.drop 3).drop 1, false⟩
  have gl := gItems_len rdP false n ⟨c, (b.drop 3).drop 1, false⟩
  generalize gItems rdP false n ⟨c, (b.drop 3).drop 1, false⟩ = IT at gb gl rK ⊢
  obtain ⟨⟨c', b', bad'⟩, its⟩ := IT
  simp only at gb gl rK ⊢
  have qb := runQ0_bounds ⟨c', b', bad'⟩
  generalize runQ rdP false markP 0 ⟨⟨c', b', bad'⟩, [], [], [], 0, 0, 0⟩ = Q at qb rK ⊢
  obtain ⟨⟨qc, qq, qbad⟩, a0, a1, a2, x0, x1, x2⟩ := Q
  simp only [rdP] at qb rK ⊢
  obtain ⟨b0, b1, b2, b3⟩ := qb
  have k1 : lenOK qq.length = true := lenOK_of (by omega)
  have m1 : decide (b'.length ≤ 1000000 ∧ True ∧ True ∧ True) = true := decide_eq_true ⟨by omega, trivial, trivial, trivial⟩
  have m2 : decide (its.length ≤ 9223372036854775807 ∧ a0.length ≤ 9223372036854775807 ∧ a1.length ≤ 9223372036854775807 ∧ a2.length ≤ 9223372036854775807) = true := by simp only [decide_eq_true_eq]; omega
  simp only [k1, m1, m2, eb, decide_true, Bool.and_self, Bool.and_true, Bool.true_and, cond_true]
  cases qbad
  · simp only [Bool.not_false, cond_true]
    by_cases hz : qq = []
    · subst hz
      cases hs : standsOK ⟨(leVal (b.take 3) : Int), its, a0, a1, a2, x0, x1, x2⟩
      · rw [hs] at rK
        exact no (by rw [rK]; simp)
      · rw [hs] at rK
        have : readS b = some ⟨(leVal (b.take 3) : Int), its, a0, a1, a2, x0, x1, x2⟩ := by rw [rK]; simp
        rw [this]
        rfl
    · have hz' : ((qq.length : Int) == 0) = false := by
        simp only [beq_eq_false_iff_ne]; cases qq with
        | nil => exact (hz rfl).elim
        | cons _ _ => simp; omega
      simp only [hz', Bool.not_false, cond_true]
      exact no (by rw [rK]; simp [hz])
  · simp only [Bool.not_true, cond_false]
    exact no (by rw [rK]; simp)
noncomputable def uo_1 := un_1.addSpec 19 readSP_sp
theorem uo_1_laws : FLaws Try.prog s05 uo_1 := un_1_laws.addEv s05_laws fun args d h => by
  unfold readSP_sp at h
  split at h
  · unfold readSP_s at h
    have h1 := congrArg Prod.fst (Option.some.inj h)
    obtain rfl : _ = d := congrArg Prod.snd (Option.some.inj h)
    exact ⟨by simp [D.refs], 60, readSP_ok _ _ h1⟩
  · cases h
end Go.Ev


/-
  Reading a state as the reference does.
-/
namespace Go.Ev
set_option linter.unusedVariables false
set_option linter.unusedSimpArgs false
theorem nget_ok {b : List UInt8} {w p : Nat} {s : Bool} (h : p + w ≤ b.length) : nget b w ⟨p, s⟩ = ((leVal ((b.drop p).take w) : Int), ⟨p + w, s⟩) := by simp [nget, h]
theorem nget_no {b : List UInt8} {w p : Nat} {s : Bool} (h : b.length < p + w) : nget b w ⟨p, s⟩ = (0, ⟨p, true⟩) := by simp [nget, Nat.not_le.2 h]
theorem getI_snd1 {b : List UInt8} {p : Int} (h : 0 ≤ p) : ((getP b p 1).2 != 0) = decide ((b.length : Int) < p + 1) := by
  by_cases h1 : (b.length : Int) < p + 1
  · have : ¬ (p + 1 ≤ (b.length : Int)) := by omega
    simp only [getP, h1]; simp [this]
  · have : (p + 1 ≤ (b.length : Int)) := by omega
    simp only [getP, h1]; simp [this, h]
theorem getI_snd3 {b : List UInt8} {p : Int} (h : 0 ≤ p) : ((getP b p 3).2 != 0) = decide ((b.length : Int) < p + 3) := by
  by_cases h1 : (b.length : Int) < p + 3
  · have : ¬ (p + 3 ≤ (b.length : Int)) := by omega
    simp only [getP, h1]; simp [this]
  · have : (p + 3 ≤ (b.length : Int)) := by omega
    simp only [getP, h1]; simp [this, h]
theorem getI_fst1 {b : List UInt8} {p : Int} (h : 0 ≤ p) (h1 : ¬ (b.length : Int) < p + 1) : (getP b p 1).1 = (leVal ((b.drop p.toNat).take 1) : Int) := by
  have : (p + 1 ≤ (b.length : Int)) := by omega
  simp only [getP]; simp [this, h]
theorem getI_fst3 {b : List UInt8} {p : Int} (h : 0 ≤ p) (h1 : ¬ (b.length : Int) < p + 3) : (getP b p 3).1 = (leVal ((b.drop p.toNat).take 3) : Int) := by
  have : (p + 3 ≤ (b.length : Int)) := by omega
  simp only [getP]; simp [this, h]
theorem gItemsN_succ (b : List UInt8) (k : Nat) (p : Nat) : gItems (rdN b) true (k + 1) ⟨p, false⟩ = ((gItems (rdN b) true k (nget b 1 (nget b 3 (nget b 1 ⟨p, false⟩).2).2).2).1, ⟨(nget b 1 ⟨p, false⟩).1, (nget b 3 (nget b 1 ⟨p, false⟩).2).1, (nget b 1 (nget b 3 (nget b 1 ⟨p, false⟩).2).2).1⟩ :: (gItems (rdN b) true k (nget b 1 (nget b 3 (nget b 1 ⟨p, false⟩).2).2).2).2) := rfl
theorem gItemsN_stop (b : List UInt8) (k : Nat) (p : Nat) : gItems (rdN b) true k ⟨p, true⟩ = (⟨p, true⟩, []) := by cases k <;> rfl
theorem gLinesN_succ (b : List UInt8) (k : Nat) (o : Int) (p : Nat) : gLines (rdN b) true (k + 1) o ⟨p, false⟩ = ((gLines (rdN b) true k (o + 1) (nget b 1 (nget b 1 (nget b 3 ⟨p, false⟩).2).2).2).1, ⟨o, (nget b 3 ⟨p, false⟩).1, (nget b 1 (nget b 3 ⟨p, false⟩).2).1 % 16, (nget b 1 (nget b 3 ⟨p, false⟩).2).1 / 16, (nget b 1 (nget b 1 (nget b 3 ⟨p, false⟩).2).2).1⟩ :: (gLines (rdN b) true k (o + 1) (nget b 1 (nget b 1 (nget b 3 ⟨p, false⟩).2).2).2).2) := rfl
theorem gLinesN_stop (b : List UInt8) (k : Nat) (o : Int) (p : Nat) : gLines (rdN b) true k o ⟨p, true⟩ = (⟨p, true⟩, []) := by cases k <;> rfl
end Go.Ev

/-
  Reading lines as the reference does: quotients.
-/
namespace Go.Ev
set_option linter.unusedVariables false
set_option linter.unusedSimpArgs false
theorem rget_lt1 (b : List UInt8) : leVal (b.take 1) < 256 := by simpa using leVal_le b 1
theorem tdiv16 (m : Nat) (hm : m < 1000000) : (m : Int).tmod 16 = (m : Int) % 16 ∧ IntKind.i64.wrap ((m : Int).tdiv 16) = (m : Int) / 16 := by
  refine ⟨Int.tmod_eq_emod_of_nonneg (by omega), ?_⟩
  rw [Int.tdiv_eq_ediv_of_nonneg (by omega)]
  exact wrap_id (by omega) (by omega)
end Go.Ev

/-
  Reading partitions as the reference does.
-/
namespace Go.Ev
set_option linter.unusedVariables false
set_option linter.unusedSimpArgs false
def partN (b : List UInt8) (s : Rn) : Bool × Rn × Int × List Line :=
  let c := nget b 3 s
  let n := nget b 1 c.2
  let f := nget b 3 n.2
  let q := gLines (rdN b) true n.1.toNat f.1 f.2
  (n.1 == 0 && f.1 != 0, q.1, c.1, q.2)
def stepN0 (b : List UInt8) (s : QS Rn) : Bool × QS Rn := ((partN b s.r).1, { s with r := (partN b s.r).2.1, l0 := s.l0 ++ (partN b s.r).2.2.2, c0 := (partN b s.r).2.2.1 })
def stepN1 (b : List UInt8) (s : QS Rn) : Bool × QS Rn := ((partN b s.r).1, { s with r := (partN b s.r).2.1, l1 := s.l1 ++ (partN b s.r).2.2.2, c1 := (partN b s.r).2.2.1 })
def stepN2 (b : List UInt8) (s : QS Rn) : Bool × QS Rn := ((partN b s.r).1, { s with r := (partN b s.r).2.1, l2 := s.l2 ++ (partN b s.r).2.2.2, c2 := (partN b s.r).2.2.1 })
def runN (b : List UInt8) : Nat → QS Rn → Bool × QS Rn
  | 0, s => bif (stepN0 b s).1 then stepN0 b s else bif (stepN1 b (stepN0 b s).2).1 then stepN1 b (stepN0 b s).2 else stepN2 b (stepN1 b (stepN0 b s).2).2
  | 1, s => bif (stepN1 b s).1 then stepN1 b s else stepN2 b (stepN1 b s).2
  | 2, s => stepN2 b s
  | _, s => (false, s)
theorem partN_of {b : List UInt8} {s s1 s2 s3 : Rn} {c n f : Int} (h1 : nget b 3 s = (c, s1)) (h2 : nget b 1 s1 = (n, s2)) (h3 : nget b 3 s2 = (f, s3)) :
    partN b s = (n == 0 && f != 0, (gLines (rdN b) true n.toNat f s3).1, c, (gLines (rdN b) true n.toNat f s3).2) := by
  simp only [partN, h1, h2, h3]
theorem nget_pos {b : List UInt8} {w : Nat} {s : Rn} (h : s.pos ≤ b.length) : (nget b w s).2.pos ≤ b.length := by
  unfold nget; split
  · assumption
  · exact h
theorem gLinesN_pos {b : List UInt8} : ∀ (n : Nat) (o : Int) (s : Rn), s.pos ≤ b.length → (gLines (rdN b) true n o s).1.pos ≤ b.length
  | 0, _, _, h => h
  | n + 1, o, ⟨p, true⟩, h => by rw [gLinesN_stop]; exact h
  | n + 1, o, ⟨p, false⟩, h => by rw [gLinesN_succ]; exact gLinesN_pos n _ _ (nget_pos (nget_pos (nget_pos h)))
theorem gItemsN_pos {b : List UInt8} : ∀ (n : Nat) (s : Rn), s.pos ≤ b.length → (gItems (rdN b) true n s).1.pos ≤ b.length
  | 0, _, h => h
  | n + 1, ⟨p, true⟩, h => by rw [gItemsN_stop]; exact h
  | n + 1, ⟨p, false⟩, h => by rw [gItemsN_succ]; exact gItemsN_pos n _ (nget_pos (nget_pos (nget_pos h)))
theorem nget1_le (b : List UInt8) (s : Rn) : 0 ≤ (nget b 1 s).1 ∧ (nget b 1 s).1 ≤ 255 := by
  unfold nget; split
  · have := rget_lt1 (b.drop s.pos); simp only; omega
  · simp
theorem partN_pos {b : List UInt8} {s : Rn} (h : s.pos ≤ b.length) : (partN b s).2.1.pos ≤ b.length := gLinesN_pos _ _ _ (nget_pos (nget_pos (nget_pos h)))
theorem partN_len (b : List UInt8) (s : Rn) : (partN b s).2.2.2.length ≤ 255 := by
  unfold partN
  refine Nat.le_trans (gLines_len _ _ _ _ _) ?_
  have := nget1_le b (nget b 3 s).2
  omega
/-- as the generic reader has it: the partition's numbers that may not be end the reading -/
def markN (s : Rn) : Rn := ⟨s.pos, true⟩
theorem partN_part {b : List UInt8} {s : Rn} (h : (partN b s).1 = false) : gPart (rdN b) true markN s = (partN b s).2 := by
  have h' : ((nget b 1 (nget b 3 s).2).1 == 0 && (nget b 3 (nget b 1 (nget b 3 s).2).2).1 != 0) = false := h
  simp only [gPart, partN]
  have e : ∀ w s, (rdN b).get w s = nget b w s := fun _ _ => rfl
  simp only [e, h', cond_false]
theorem partN_mark {b : List UInt8} {s : Rn} (h : (partN b s).1 = true) : (rdN b).bad (gPart (rdN b) true markN s).1 = true := by
  have h' : ((nget b 1 (nget b 3 s).2).1 == 0 && (nget b 3 (nget b 1 (nget b 3 s).2).2).1 != 0) = true := h
  have e : ∀ w s, (rdN b).get w s = nget b w s := fun _ _ => rfl
  simp only [gPart, e, h', cond_true]
  exact gLines_stay (rdN_ok b) true _ _ _ rfl
theorem runN_run {b : List UInt8} {s : QS Rn} : ((runN b 0 s).1 = false → runQ (rdN b) true markN 0 s = (runN b 0 s).2) ∧ ((runN b 0 s).1 = true → (rdN b).bad (runQ (rdN b) true markN 0 s).r = true) := by
  have st := fun x => gPart_stay (rdN_ok b) true markN (fun _ => rfl) x
  simp only [runN, runQ, part0, part1, part2, stepN0, stepN1, stepN2]
  cases h0 : (partN b s.r).1 with
  | true =>
    simp only [cond_true]
    exact ⟨fun h => (by cases h), fun _ => st _ (st _ (partN_mark h0))⟩
  | false =>
    simp only [cond_false, partN_part h0]
    cases h1 : (partN b (partN b s.r).2.1).1 with
    | true =>
      simp only [cond_true]
      exact ⟨fun h => (by cases h), fun _ => st _ (partN_mark h1)⟩
    | false =>
      simp only [cond_false, partN_part h1]
      cases h2 : (partN b (partN b (partN b s.r).2.1).2.1).1 with
      | true => exact ⟨fun h => (by cases h), fun _ => partN_mark h2⟩
      | false => exact ⟨fun _ => by simp only [partN_part h2], fun h => (by cases h)⟩
end Go.Ev

/-
  Reading a state as the reference does: what comes.
-/
namespace Go.Ev
set_option linter.unusedVariables false
set_option linter.unusedSimpArgs false
theorem gState_ofN {b : List UInt8} {r r1 r2 : Rn} {p n : Int} (h1 : nget b 3 r = (p, r1)) (h2 : nget b 1 r1 = (n, r2)) :
    gState (rdN b) true markN r = ((runQ (rdN b) true markN 0 ⟨(gItems (rdN b) true n.toNat r2).1, [], [], [], 0, 0, 0⟩).r, ⟨p, (gItems (rdN b) true n.toNat r2).2, (runQ (rdN b) true markN 0 ⟨(gItems (rdN b) true n.toNat r2).1, [], [], [], 0, 0, 0⟩).l0, (runQ (rdN b) true markN 0 ⟨(gItems (rdN b) true n.toNat r2).1, [], [], [], 0, 0, 0⟩).l1, (runQ (rdN b) true markN 0 ⟨(gItems (rdN b) true n.toNat r2).1, [], [], [], 0, 0, 0⟩).l2, (runQ (rdN b) true markN 0 ⟨(gItems (rdN b) true n.toNat r2).1, [], [], [], 0, 0, 0⟩).c0, (runQ (rdN b) true markN 0 ⟨(gItems (rdN b) true n.toNat r2).1, [], [], [], 0, 0, 0⟩).c1, (runQ (rdN b) true markN 0 ⟨(gItems (rdN b) true n.toNat r2).1, [], [], [], 0, 0, 0⟩).c2⟩) := by
  have e1 : (rdN b).get 3 r = (p, r1) := h1
  have e2 : (rdN b).get 1 r1 = (n, r2) := h2
  simp only [gState, e1, e2, runQ, part0, part1, part2, List.nil_append]
theorem runN0_bounds {b : List UInt8} (r : Rn) (h : r.pos ≤ b.length) : (runN b 0 ⟨r, [], [], [], 0, 0, 0⟩).2.l0.length ≤ 255 ∧ (runN b 0 ⟨r, [], [], [], 0, 0, 0⟩).2.l1.length ≤ 255 ∧ (runN b 0 ⟨r, [], [], [], 0, 0, 0⟩).2.l2.length ≤ 255 ∧ (runN b 0 ⟨r, [], [], [], 0, 0, 0⟩).2.r.pos ≤ b.length := by
  have p0 := partN_pos h
  have p1 := partN_pos p0
  have p2 := partN_pos p1
  have z : ([] : List Line).length ≤ 255 := by simp
  simp only [runN, stepN0, stepN1, stepN2, List.nil_append]
  cases (partN b r).1 with
  | true => exact ⟨partN_len _ _, z, z, p0⟩
  | false =>
    simp only [cond_false]
    cases (partN b (partN b r).2.1).1 with
    | true => exact ⟨partN_len _ _, partN_len _ _, z, p1⟩
    | false => exact ⟨partN_len _ _, partN_len _ _, partN_len _ _, p2⟩
end Go.Ev

/-
  What is read may be.
-/
namespace Go.Ev
set_option linter.unusedVariables false
set_option linter.unusedSimpArgs false
theorem readR_may {b : List UInt8} {r : Rec} (h : readR b = some r) : mayB r = true := by
  unfold readR at h
  split at h
  · rename_i q; cases h; exact q.2.2.2
  · cases h
theorem recG_len (b : List UInt8) : (recG (readR b)).writes.length ≤ 4 := by
  cases hr : readR b with
  | none => simp [recG]
  | some r => have := readR_may hr; obtain ⟨p, y, l⟩ := r; exact (may_facts this).2.1
theorem readS_stands {b : List UInt8} {s : St} (h : readS b = some s) : standsOK s = true := by
  rw [readS_eq] at h
  split at h
  · split at h
    · rename_i q; cases h; exact q.2
    · cases h
  · cases h
theorem stG_len (b : List UInt8) : (stG (readS b)).items.length ≤ 24 ∧ (stG (readS b)).l0.length ≤ 16 ∧ (stG (readS b)).l1.length ≤ 16 ∧ (stG (readS b)).l2.length ≤ 16 := by
  cases hr : readS b with
  | none => simp [stG]
  | some s =>
    have := readS_stands hr
    obtain ⟨p, it, l0, l1, l2, c0, c1, c2⟩ := s
    obtain ⟨_, h1, _, h2, h3, h4⟩ := stands_facts this
    exact ⟨h1, h2.2.1, h3.2.1, h4.2.1⟩
end Go.Ev

/-
  A byte more is no record, and no state.
-/
namespace Go.Ev
set_option linter.unusedVariables false
set_option linter.unusedSimpArgs false
/-- what reads bytes reads them with others behind as well -/
def Mono {α : Type} (f : List UInt8 → Option (α × List UInt8)) : Prop := ∀ b x q, f b = some q → f (b ++ x) = some (q.1, q.2 ++ x)
theorem mono_bind {α β : Type} {f : List UInt8 → Option (α × List UInt8)} {g : α → List UInt8 → Option (β × List UInt8)} (hf : Mono f) (hg : ∀ a, Mono (g a)) : Mono fun b => (f b).bind fun q => g q.1 q.2 := by
  intro b x q h
  cases hb : f b with
  | none => simp only [hb] at h; cases h
  | some p =>
    simp only [hb, Option.bind_some] at h
    simp only [hf b x p hb, Option.bind_some]
    exact hg _ _ _ _ h
theorem mono_some {α : Type} (a : α) : Mono fun b => some (a, b) := by
  intro b x q h; cases h; rfl
theorem mono_sget (w : Nat) : Mono (sget w) := by
  intro b x q h
  unfold sget at h ⊢
  split at h
  · rename_i hw
    cases h
    rw [if_pos (by simp; omega), List.take_append_of_le_length hw, List.drop_append_of_le_length hw]
  · cases h
theorem mono_sItems : ∀ n, Mono (sItems n)
  | 0 => mono_some []
  | n + 1 => mono_bind (g := fun k b => (sget 3 b).bind fun p => (sget 1 p.2).bind fun v => (sItems n v.2).bind fun q => some ((⟨k, p.1, v.1⟩ : Item) :: q.1, q.2)) (mono_sget 1) fun k =>
      mono_bind (g := fun p b => (sget 1 b).bind fun v => (sItems n v.2).bind fun q => some ((⟨k, p, v.1⟩ : Item) :: q.1, q.2)) (mono_sget 3) fun p =>
      mono_bind (g := fun v b => (sItems n b).bind fun q => some ((⟨k, p, v⟩ : Item) :: q.1, q.2)) (mono_sget 1) fun v =>
      mono_bind (g := fun l b => some ((⟨k, p, v⟩ : Item) :: l, b)) (mono_sItems n) fun l => mono_some _
theorem mono_sLines : ∀ n o, Mono (sLines n o)
  | 0, _ => mono_some []
  | n + 1, o => mono_bind (g := fun p b => (sget 1 b).bind fun x => (sget 1 x.2).bind fun v => (sLines n (o + 1) v.2).bind fun q => some ((⟨o, p, x.1 % 16, x.1 / 16, v.1⟩ : Line) :: q.1, q.2)) (mono_sget 3) fun p =>
      mono_bind (g := fun x b => (sget 1 b).bind fun v => (sLines n (o + 1) v.2).bind fun q => some ((⟨o, p, x % 16, x / 16, v.1⟩ : Line) :: q.1, q.2)) (mono_sget 1) fun x =>
      mono_bind (g := fun v b => (sLines n (o + 1) b).bind fun q => some ((⟨o, p, x % 16, x / 16, v⟩ : Line) :: q.1, q.2)) (mono_sget 1) fun v =>
      mono_bind (g := fun l b => some ((⟨o, p, x % 16, x / 16, v⟩ : Line) :: l, b)) (mono_sLines n (o + 1)) fun l => mono_some _
theorem mono_if {α : Type} (p : Prop) [Decidable p] {f : List UInt8 → Option (α × List UInt8)} (hf : Mono f) : Mono fun b => if p then none else f b := by
  intro b x q h
  by_cases hp : p
  · simp only [if_pos hp] at h; cases h
  · simp only [if_neg hp] at h ⊢; exact hf b x q h
theorem mono_sPart : Mono sPart :=
  mono_bind (g := fun c b => (sget 1 b).bind fun n => (sget 3 n.2).bind fun f => if n.1 = 0 ∧ f.1 ≠ 0 then none else (sLines n.1.toNat f.1 f.2).bind fun q => some ((c, q.1), q.2)) (mono_sget 3) fun c =>
    mono_bind (g := fun n b => (sget 3 b).bind fun f => if n = 0 ∧ f.1 ≠ 0 then none else (sLines n.toNat f.1 f.2).bind fun q => some ((c, q.1), q.2)) (mono_sget 1) fun n =>
    mono_bind (g := fun f b => if n = 0 ∧ f ≠ 0 then none else (sLines n.toNat f b).bind fun q => some ((c, q.1), q.2)) (mono_sget 3) fun f =>
    mono_if _ (mono_bind (g := fun l b => some ((c, l), b)) (mono_sLines n.toNat f) fun l => mono_some _)
theorem mono_sState : Mono sState :=
  mono_bind (g := fun p b => (sget 1 b).bind fun n => (sItems n.1.toNat n.2).bind fun it => (sPart it.2).bind fun x => (sPart x.2).bind fun y => (sPart y.2).bind fun z => some ((⟨p, it.1, x.1.2, y.1.2, z.1.2, x.1.1, y.1.1, z.1.1⟩ : St), z.2)) (mono_sget 3) fun p =>
    mono_bind (g := fun n b => (sItems n.toNat b).bind fun it => (sPart it.2).bind fun x => (sPart x.2).bind fun y => (sPart y.2).bind fun z => some ((⟨p, it.1, x.1.2, y.1.2, z.1.2, x.1.1, y.1.1, z.1.1⟩ : St), z.2)) (mono_sget 1) fun n =>
    mono_bind (g := fun it b => (sPart b).bind fun x => (sPart x.2).bind fun y => (sPart y.2).bind fun z => some ((⟨p, it, x.1.2, y.1.2, z.1.2, x.1.1, y.1.1, z.1.1⟩ : St), z.2)) (mono_sItems n.toNat) fun it =>
    mono_bind (g := fun x b => (sPart b).bind fun y => (sPart y.2).bind fun z => some ((⟨p, it, x.2, y.1.2, z.1.2, x.1, y.1.1, z.1.1⟩ : St), z.2)) mono_sPart fun x =>
    mono_bind (g := fun y b => (sPart b).bind fun z => some ((⟨p, it, x.2, y.2, z.1.2, x.1, y.1, z.1.1⟩ : St), z.2)) mono_sPart fun y =>
    mono_bind (g := fun z b => some ((⟨p, it, x.2, y.2, z.2, x.1, y.1, z.1⟩ : St), b)) mono_sPart fun z => mono_some _
theorem readS_more {b : List UInt8} {s : St} (h : readS b = some s) (x : UInt8) : readS (b ++ [x]) = none := by
  rw [readS_eq] at h ⊢
  cases hq : sState b with
  | none => simp only [hq] at h; cases h
  | some q =>
    simp only [hq] at h
    rw [mono_sState b [x] q hq]
    simp
theorem readR_more {b : List UInt8} {r : Rec} (h : readR b = some r) (x : UInt8) : readR (b ++ [x]) = none := by
  unfold readR at h ⊢
  split at h
  · rename_i hc
    obtain ⟨h1, _, h3, _⟩ := hc
    rw [if_neg]
    intro hd
    have h4 := hd.2.2.1
    have e : (b ++ [x]).getD 4 0 = b.getD 4 0 := by
      simp [List.getElem?_append_left (show 4 < b.length by omega)]
    rw [e] at h4
    simp only [List.length_append, List.length_singleton] at h4
    omega
  · cases h
theorem recG_isNone (o : Option Rec) : (bif o.isNone then (50 : Int) else 0) = if o = none then 50 else 0 := by cases o <;> rfl
end Go.Ev

namespace Go.Ev
open Go.Proofs
set_option maxRecDepth 100000
set_option linter.unusedVariables false
set_option linter.unusedSimpArgs false
/-! ### function long: flume/flumelaw05.RecordLong -/
def long_s (c : Bool) (b : List UInt8) (x : Int) : Option (Bool × D RC) := some (lenOK b.length, .bool true)
def long_sp : List (D RC) → Option (Bool × D RC)
  | [.sl .u8 c b, .int .u8 x] => long_s c b x
  | _ => none
noncomputable def long_e (c : Bool) (b : List UInt8) (x : Int) := evF s05 uo_1 60 7 [.sl (C := RC) .u8 c b, .int .u8 x]
theorem long_eq (c : Bool) (b : List UInt8) (x : Int) : long_e c b x = (bif lenOK (List.length b) then bif decide ((2000 : Int) < (↑(List.length b) : Int)) then some (D.bool true) else bif sizeOK ((0 : Nat) + List.length b) (1 : Nat) then bif Nat.beq ((0 : Nat) + List.length b) (List.length (List.replicate (0 : Nat) (UInt8.ofBitVec (BitVec.ofNat (8 : Nat) (nat_lit 0))) ++ b)) && sizeOK ((0 : Nat) + List.length b + List.length [UInt8.ofNat (Int.toNat x)]) (1 : Nat) then bif decide (List.length b ≤ (1000000 : Nat)) then bif Nat.beq (List.length (List.replicate (0 : Nat) (UInt8.ofBitVec (BitVec.ofNat (8 : Nat) (nat_lit 0))) ++ b) + List.length [UInt8.ofNat (Int.toNat x)]) (List.length (List.replicate (0 : Nat) (UInt8.ofBitVec (BitVec.ofNat (8 : Nat) (nat_lit 0))) ++ b ++ [UInt8.ofNat (Int.toNat x)])) then bif decide (List.length (List.replicate (0 : Nat) (UInt8.ofBitVec (BitVec.ofNat (8 : Nat) (nat_lit 0))) ++ b ++ [UInt8.ofNat (Int.toNat x)]) ≤ (1000000 : Nat)) then bif (bif Option.isNone (readR b) then (50 : Int) else (0 : Int)) == (0 : Int) then bif (bif Option.isNone (readR (List.replicate (0 : Nat) (UInt8.ofBitVec (BitVec.ofNat (8 : Nat) (nat_lit 0))) ++ b ++ [UInt8.ofNat (Int.toNat x)])) then (50 : Int) else (0 : Int)) == (0 : Int) then some (D.bool false) else bif decide (List.length b ≤ (1000000 : Nat)) then bif Nat.beq (List.length (List.replicate (0 : Nat) (UInt8.ofBitVec (BitVec.ofNat (8 : Nat) (nat_lit 0))) ++ b) + List.length [UInt8.ofNat (Int.toNat x)]) (List.length (List.replicate (0 : Nat) (UInt8.ofBitVec (BitVec.ofNat (8 : Nat) (nat_lit 0))) ++ b ++ [UInt8.ofNat (Int.toNat x)])) then bif decide (List.length (List.replicate (0 : Nat) (UInt8.ofBitVec (BitVec.ofNat (8 : Nat) (nat_lit 0))) ++ b ++ [UInt8.ofNat (Int.toNat x)]) ≤ (1000000 : Nat)) then bif (bif Option.isNone (readS b) then (50 : Int) else (0 : Int)) != (0 : Int) then some (D.bool true) else bif (bif Option.isNone (readS (List.replicate (0 : Nat) (UInt8.ofBitVec (BitVec.ofNat (8 : Nat) (nat_lit 0))) ++ b ++ [UInt8.ofNat (Int.toNat x)])) then (50 : Int) else (0 : Int)) != (0 : Int) then some (D.bool true) else some (D.bool false) else none else none else none else bif decide (List.length b ≤ (1000000 : Nat)) then bif Nat.beq (List.length (List.replicate (0 : Nat) (UInt8.ofBitVec (BitVec.ofNat (8 : Nat) (nat_lit 0))) ++ b) + List.length [UInt8.ofNat (Int.toNat x)]) (List.length (List.replicate (0 : Nat) (UInt8.ofBitVec (BitVec.ofNat (8 : Nat) (nat_lit 0))) ++ b ++ [UInt8.ofNat (Int.toNat x)])) then bif decide (List.length (List.replicate (0 : Nat) (UInt8.ofBitVec (BitVec.ofNat (8 : Nat) (nat_lit 0))) ++ b ++ [UInt8.ofNat (Int.toNat x)]) ≤ (1000000 : Nat)) then bif (bif Option.isNone (readS b) then (50 : Int) else (0 : Int)) != (0 : Int) then some (D.bool true) else bif (bif Option.isNone (readS (List.replicate (0 : Nat) (UInt8.ofBitVec (BitVec.ofNat (8 : Nat) (nat_lit 0))) ++ b ++ [UInt8.ofNat (Int.toNat x)])) then (50 : Int) else (0 : Int)) != (0 : Int) then some (D.bool true) else some (D.bool false) else none else none else none else none else none else none else none else none else none) := by kernel_rfl
theorem long_ok (c : Bool) (b : List UInt8) (x : Int) (h : (lenOK b.length) = true) : long_e c b x = some (.bool true) := by
  rw [long_eq]
  simp only [h, cond_true]
  refine cond_both (fun _ => rfl) fun hb => ?_
  have hl : b.length ≤ 2000 := by simp only [decide_eq_false_iff_not] at hb; omega
  have e5 : ∀ y : UInt8, (List.replicate 0 (⟨0#8⟩ : UInt8) ++ b ++ [y]) = b ++ [y] := fun y => by simp
  have e6 : (List.replicate 0 (⟨0#8⟩ : UInt8) ++ b) = b := by simp
  simp only [e5, e6]
  generalize UInt8.ofNat x.toNat = y
  have e1 : sizeOK (0 + b.length) 1 = true := sizeT (by omega)
  have e2 : sizeOK (0 + b.length + [y].length) 1 = true := sizeT (by simp; omega)
  have e3 : (0 + b.length).beq b.length = true := by simp
  have e4 : (b.length + [y].length).beq (b ++ [y]).length = true := by simp
  have e7 : decide (b.length ≤ 1000000) = true := decide_eq_true (by omega)
  have e8 : decide ((b ++ [y]).length ≤ 1000000) = true := decide_eq_true (by simp; omega)
  simp only [e1, e2, e3, e4, e7, e8, cond_true, Bool.and_self]
  cases h1 : readR b with
  | none =>
    cases h2 : readS b with
    | none => rfl
    | some s => simp only [readS_more h2]; rfl
  | some r =>
    simp only [readR_more h1]
    cases h2 : readS b with
    | none => rfl
    | some s => simp only [readS_more h2]; rfl
noncomputable def uu_1 := uo_1.addSpec 7 long_sp
theorem uu_1_laws : FLaws Try.prog s05 uu_1 := uo_1_laws.addEv s05_laws fun args d h => by
  unfold long_sp at h
  split at h
  · unfold long_s at h
    have h1 := congrArg Prod.fst (Option.some.inj h)
    obtain rfl : _ = d := congrArg Prod.snd (Option.some.inj h)
    exact ⟨by simp [D.refs], 60, long_ok _ _ _ h1⟩
  · cases h
end Go.Ev


namespace Go.Ev
open Go.Proofs
set_option maxRecDepth 100000
set_option linter.unusedVariables false
set_option linter.unusedSimpArgs false
/-! ### loop sbItems: flume/record.StateBytes, region 7 -/
structure sbItems_St where
  cp : Bool
  bs : List UInt8
  c : Bool
  l : List Item
  i : Nat
def sbItems_c (cp : Bool) (bs : List UInt8) (c : Bool) (l : List Item) (i : Nat) : Env RC := [(4, .ptr 0 []), (27, .sl (C := RC) .item c l), (28, .int .i64 (l.length)), (29, .int .i64 (i : Int))]
def sbItems_o (cp : Bool) (bs : List UInt8) (c : Bool) (l : List Item) (i : Nat) : List (Obj RC) := [.var 70 (.acons (.sl (C := RC) .u8 cp bs) .anil)]
noncomputable def sbItems_r (cp : Bool) (bs : List UInt8) (c : Bool) (l : List Item) (i : Nat) := rndO s05 uu_1 24 7 40 1 [4, 27, 28, 29] [] [.slot 4 0] (sbItems_c cp bs c l i) (sbItems_o cp bs c l i)
theorem sbItems_eq (cp : Bool) (bs : List UInt8) (c : Bool) (l : List Item) (i : Nat) : sbItems_r cp bs c l i = (bif decide ((↑i : Int) < (↑(List.length l) : Int)) then bif decide ((0 : Int) ≤ (↑i : Int) ∧ (↑i : Int) < (↑(List.length l) : Int)) then bif decide (List.length bs ≤ (1000000000 : Nat)) then bif decide (List.length (putL bs (Item.key (List.getD l (Int.toNat (↑i : Int)) (Item.mk (0 : Int) (0 : Int) (0 : Int)))) (1 : Nat)) ≤ (1000000000 : Nat)) then bif decide (List.length (putL (putL bs (Item.key (List.getD l (Int.toNat (↑i : Int)) (Item.mk (0 : Int) (0 : Int) (0 : Int)))) (1 : Nat)) (Item.place (List.getD l (Int.toNat (↑i : Int)) (Item.mk (0 : Int) (0 : Int) (0 : Int)))) (3 : Nat)) ≤ (1000000000 : Nat)) then some ((X.normal, [((4 : Nat), D.ptr (0 : Nat) []), ((27 : Nat), D.sl RTy.item c l), ((28 : Nat), D.int IntKind.i64 (↑(List.length l) : Int)), ((29 : Nat), D.int IntKind.i64 (IntKind.wrap IntKind.i64 ((↑i : Int) + (1 : Int))))]), [some (Obj.var (70 : Nat) (D.acons (D.sl RTy.u8 (!fitsB (Item.value (List.getD l (Int.toNat (↑i : Int)) (Item.mk (0 : Int) (0 : Int) (0 : Int)))) (1 : Nat)) (putL (putL (putL bs (Item.key (List.getD l (Int.toNat (↑i : Int)) (Item.mk (0 : Int) (0 : Int) (0 : Int)))) (1 : Nat)) (Item.place (List.getD l (Int.toNat (↑i : Int)) (Item.mk (0 : Int) (0 : Int) (0 : Int)))) (3 : Nat)) (Item.value (List.getD l (Int.toNat (↑i : Int)) (Item.mk (0 : Int) (0 : Int) (0 : Int)))) (1 : Nat))) D.anil))]) else none else none else none else none else some ((X.exit (0 : Nat), []), [some (Obj.var (70 : Nat) (D.acons (D.sl RTy.u8 cp bs) D.anil))])) := by kernel_rfl
def sbItems_fin (cp : Bool) (bs : List UInt8) (c : Bool) (l : List Item) (i : Nat) : RT RC := .leaf (.exit 0) [] [.var 70 (.acons (.sl (C := RC) .u8 (cp && (l.drop i).isEmpty) (bs ++ (l.drop i).flatMap iBytes)) .anil)]
def sbItems_Inv (cp : Bool) (bs : List UInt8) (c : Bool) (l : List Item) (i : Nat) : Prop := i ≤ l.length ∧ l.length ≤ 1000000 ∧ bs.length ≤ 1000000 + 5 * i ∧ l.all fitI = true
def sbItems_S : LoopR RC sbItems_St where
  k := 1
  canon q := sbItems_c q.cp q.bs q.c q.l q.i
  objs q := sbItems_o q.cp q.bs q.c q.l q.i
  fin q := sbItems_fin q.cp q.bs q.c q.l q.i
  Inv q := sbItems_Inv q.cp q.bs q.c q.l q.i
  μ q := q.l.length - q.i
theorem sbItems_round (cp : Bool) (bs : List UInt8) (c : Bool) (l : List Item) (i : Nat) (hI : sbItems_Inv cp bs c l i) : Leaf (sbItems_r cp bs c l i) (LedR sbItems_S ⟨cp, bs, c, l, i⟩) := by
  rw [sbItems_eq]
  unfold sbItems_Inv at hI
  obtain ⟨h1, h2, h3, h4⟩ := hI
  by_cases hlt : i < l.length
  · have w_succ : IntKind.i64.wrap ((i : Int) + 1) = ((i + 1 : Nat) : Int) := by rw [wrap_id (by omega) (by omega)]; simp
    have d_lt : decide ((i : Int) < l.length) = true := by simp; omega
    have d_in : decide (0 ≤ (i : Int) ∧ (i : Int) < l.length) = true := by simp; omega
    have t_nat : ((i : Int)).toNat = i := by simp
    simp only [w_succ, d_lt, d_in, t_nat, cond_true]
    have hf := all_getD h4 hlt (⟨0, 0, 0⟩ : Item)
    have hd : (l.drop i).flatMap iBytes = _ := flatMap_drop_succ l i iBytes hlt (⟨0, 0, 0⟩ : Item)
    have he : (l.drop i).isEmpty = false := by simp; omega
    generalize l.getD i (⟨0, 0, 0⟩ : Item) = x at hf hd ⊢
    simp only [fitI, Bool.and_eq_true] at hf
    obtain ⟨⟨f1, f2⟩, f3⟩ := hf
    have n1 : decide (bs.length ≤ 1000000000) = true := decide_eq_true (by omega)
    have n2 : decide ((bs ++ leB x.key 1).length ≤ 1000000000) = true := decide_eq_true (by simp [leB_length]; omega)
    have n3 : decide ((bs ++ leB x.key 1 ++ leB x.place 3).length ≤ 1000000000) = true := decide_eq_true (by simp [leB_length]; omega)
    simp only [Int.toNat_one, show Int.toNat 3 = 3 from rfl, putL_fits (fits1 f1), putL_fits (fits3 f2), putL_fits (fits1 f3), fits1 f1, fits3 f2, fits1 f3, n1, n2, n3, cond_true, Bool.not_true]
    refine leafR_go ⟨false, bs ++ leB x.key 1 ++ leB x.place 3 ++ leB x.value 1, c, l, i + 1⟩ ⟨hlt, h2, by simp [leB_length]; omega, h4⟩ (by simp only [sbItems_S]; omega) ?_ rfl rfl
    simp [sbItems_S, sbItems_fin, hd, he, iBytes, RT.val]
  · have hi : i = l.length := by omega
    have c1 : decide ((i : Int) < l.length) = false := by simp; omega
    rw [c1]
    exact leafR_exit (sbItems_o cp bs c l i) (by simp [sbItems_S, sbItems_fin, sbItems_o, hi, RT.val]) rfl
def sbItems_d (env : Env RC) (os : List (Obj RC)) : Option (Bool × sbItems_St) := match env, os with
  | [(4, .ptr 0 []), (27, .sl .item c l), (28, .int .i64 x0), (29, .int .i64 x1)], [.var 70 (.acons (.sl .u8 cp bs) .anil)] => staticD (true) (decide (x0 = l.length) && decide (x1 = 0) && decide (l.length ≤ 1000000 ∧ bs.length ≤ 1000000) && l.all fitI, ⟨cp, bs, c, l, 0⟩)
  | _, _ => none
noncomputable def ud_1 := uu_1.addLoop 24 7 (sumR s05 [.slot 4 0] [4, 27, 28, 29] sbItems_S sbItems_d)
theorem ud_1_laws : FLaws Try.prog s05 ud_1 := by
  refine uu_1_laws.addRoundsR s05_laws (by kernel_rfl) sbItems_S 40 [4, 27, 28, 29] [] [.slot 4 0] [4, 27, 28, 29] sbItems_d (fun q hI => ?_) ?_
  · obtain ⟨cp, bs, c, l, i⟩ := q
    refine ⟨?_, ?_, sbItems_round cp bs c l i hI⟩
    · simp_all [RefsOK, sbItems_S, sbItems_c, sbItems_o, sbItems_Inv, D.refs, Obj.refs, rEnc]
    · simp_all [sbItems_S, sbItems_fin, sbItems_o, sbItems_Inv, RT.refsOK, RefsOK, D.refs, Obj.refs, rEnc]
  · intro env os b q hd_ hb
    unfold sbItems_d at hd_
    split at hd_
    · obtain ⟨hs, hd_⟩ := staticD_some hd_
      cases hd_
      simp only [Bool.and_eq_true, decide_eq_true_eq] at hb
      obtain ⟨⟨⟨rfl, rfl⟩, hl⟩, ha⟩ := hb
      exact ⟨⟨Nat.zero_le _, hl.1, Nat.le_trans hl.2 (Nat.le_add_right _ _), ha⟩, rfl, rfl⟩
    · cases hd_
/-! ### loop sbLines: flume/record.StateBytes, region 23 -/
structure sbLines_St where
  cp : Bool
  bs : List UInt8
  c : Bool
  l : List Line
  i : Nat
def sbLines_c (cp : Bool) (bs : List UInt8) (c : Bool) (l : List Line) (i : Nat) : Env RC := [(4, .ptr 0 []), (72, .sl (C := RC) .line c l), (73, .int .i64 (l.length)), (74, .int .i64 (i : Int))]
def sbLines_o (cp : Bool) (bs : List UInt8) (c : Bool) (l : List Line) (i : Nat) : List (Obj RC) := [.var 70 (.acons (.sl (C := RC) .u8 cp bs) .anil)]
noncomputable def sbLines_r (cp : Bool) (bs : List UInt8) (c : Bool) (l : List Line) (i : Nat) := rndO s05 ud_1 24 23 40 1 [4, 72, 73, 74] [] [.slot 4 0] (sbLines_c cp bs c l i) (sbLines_o cp bs c l i)
theorem sbLines_eq (cp : Bool) (bs : List UInt8) (c : Bool) (l : List Line) (i : Nat) : sbLines_r cp bs c l i = (bif decide ((↑i : Int) < (↑(List.length l) : Int)) then bif decide ((0 : Int) ≤ (↑i : Int) ∧ (↑i : Int) < (↑(List.length l) : Int)) then bif decide (List.length bs ≤ (1000000000 : Nat)) then bif decide (List.length (putL bs (Line.place (List.getD l (Int.toNat (↑i : Int)) (Line.mk (0 : Int) (0 : Int) (0 : Int) (0 : Int) (0 : Int)))) (3 : Nat)) ≤ (1000000000 : Nat)) then bif decide (List.length (putL (putL bs (Line.place (List.getD l (Int.toNat (↑i : Int)) (Line.mk (0 : Int) (0 : Int) (0 : Int) (0 : Int) (0 : Int)))) (3 : Nat)) (bits IntKind.i64 (fun (x : Nat) (u v : BitVec x) => u ||| v) (IntKind.wrap IntKind.i64 (Line.key (List.getD l (Int.toNat (↑i : Int)) (Line.mk (0 : Int) (0 : Int) (0 : Int) (0 : Int) (0 : Int))) * (16 : Int))) (Line.j (List.getD l (Int.toNat (↑i : Int)) (Line.mk (0 : Int) (0 : Int) (0 : Int) (0 : Int) (0 : Int))))) (1 : Nat)) ≤ (1000000000 : Nat)) then some ((X.normal, [((4 : Nat), D.ptr (0 : Nat) []), ((72 : Nat), D.sl RTy.line c l), ((73 : Nat), D.int IntKind.i64 (↑(List.length l) : Int)), ((74 : Nat), D.int IntKind.i64 (IntKind.wrap IntKind.i64 ((↑i : Int) + (1 : Int))))]), [some (Obj.var (70 : Nat) (D.acons (D.sl RTy.u8 (!fitsB (Line.value (List.getD l (Int.toNat (↑i : Int)) (Line.mk (0 : Int) (0 : Int) (0 : Int) (0 : Int) (0 : Int)))) (1 : Nat)) (putL (putL (putL bs (Line.place (List.getD l (Int.toNat (↑i : Int)) (Line.mk (0 : Int) (0 : Int) (0 : Int) (0 : Int) (0 : Int)))) (3 : Nat)) (bits IntKind.i64 (fun (x : Nat) (u v : BitVec x) => u ||| v) (IntKind.wrap IntKind.i64 (Line.key (List.getD l (Int.toNat (↑i : Int)) (Line.mk (0 : Int) (0 : Int) (0 : Int) (0 : Int) (0 : Int))) * (16 : Int))) (Line.j (List.getD l (Int.toNat (↑i : Int)) (Line.mk (0 : Int) (0 : Int) (0 : Int) (0 : Int) (0 : Int))))) (1 : Nat)) (Line.value (List.getD l (Int.toNat (↑i : Int)) (Line.mk (0 : Int) (0 : Int) (0 : Int) (0 : Int) (0 : Int)))) (1 : Nat))) D.anil))]) else none else none else none else none else some ((X.exit (4 : Nat), []), [some (Obj.var (70 : Nat) (D.acons (D.sl RTy.u8 cp bs) D.anil))])) := by kernel_rfl
def sbLines_fin (cp : Bool) (bs : List UInt8) (c : Bool) (l : List Line) (i : Nat) : RT RC := .leaf (.exit 4) [] [.var 70 (.acons (.sl (C := RC) .u8 (cp && (l.drop i).isEmpty) (bs ++ (l.drop i).flatMap lBytes)) .anil)]
def sbLines_Inv (cp : Bool) (bs : List UInt8) (c : Bool) (l : List Line) (i : Nat) : Prop := i ≤ l.length ∧ l.length ≤ 1000000 ∧ bs.length ≤ 1000000 + 5 * i ∧ l.all fitLn = true
def sbLines_S : LoopR RC sbLines_St where
  k := 1
  canon q := sbLines_c q.cp q.bs q.c q.l q.i
  objs q := sbLines_o q.cp q.bs q.c q.l q.i
  fin q := sbLines_fin q.cp q.bs q.c q.l q.i
  Inv q := sbLines_Inv q.cp q.bs q.c q.l q.i
  μ q := q.l.length - q.i
theorem sbLines_round (cp : Bool) (bs : List UInt8) (c : Bool) (l : List Line) (i : Nat) (hI : sbLines_Inv cp bs c l i) : Leaf (sbLines_r cp bs c l i) (LedR sbLines_S ⟨cp, bs, c, l, i⟩) := by
  rw [sbLines_eq]
  unfold sbLines_Inv at hI
  obtain ⟨h1, h2, h3, h4⟩ := hI
  by_cases hlt : i < l.length
  · have w_succ : IntKind.i64.wrap ((i : Int) + 1) = ((i + 1 : Nat) : Int) := by rw [wrap_id (by omega) (by omega)]; simp
    have d_lt : decide ((i : Int) < l.length) = true := by simp; omega
    have d_in : decide (0 ≤ (i : Int) ∧ (i : Int) < l.length) = true := by simp; omega
    have t_nat : ((i : Int)).toNat = i := by simp
    simp only [w_succ, d_lt, d_in, t_nat, cond_true]
    have hf := all_getD h4 hlt (⟨0, 0, 0, 0, 0⟩ : Line)
    have hd : (l.drop i).flatMap lBytes = _ := flatMap_drop_succ l i lBytes hlt (⟨0, 0, 0, 0, 0⟩ : Line)
    have he : (l.drop i).isEmpty = false := by simp; omega
    generalize l.getD i (⟨0, 0, 0, 0, 0⟩ : Line) = x at hf hd ⊢
    simp only [fitLn, Bool.and_eq_true] at hf
    obtain ⟨⟨⟨f1, f2⟩, f3⟩, f4⟩ := hf
    have f5 : withinB (x.key * 16 + x.j) 0 255 = true := by rw [withinB_iff] at f2 f3 ⊢; omega
    have n1 : decide (bs.length ≤ 1000000000) = true := decide_eq_true (by omega)
    have n2 : decide ((bs ++ leB x.place 3).length ≤ 1000000000) = true := decide_eq_true (by simp [leB_length]; omega)
    have n3 : decide ((bs ++ leB x.place 3 ++ leB (x.key * 16 + x.j) 1).length ≤ 1000000000) = true := decide_eq_true (by simp [leB_length]; omega)
    have hb : bits .i64 (fun _ u v => u ||| v) (IntKind.i64.wrap (x.key * 16)) x.j = x.key * 16 + x.j := bits_or_low f2 f3
    simp only [hb, Int.toNat_one, show Int.toNat 3 = 3 from rfl, putL_fits (fits3 f1), putL_fits (fits1 f5), putL_fits (fits1 f4), fits3 f1, fits1 f5, fits1 f4, n1, n2, n3, cond_true, Bool.not_true]
    refine leafR_go ⟨false, bs ++ leB x.place 3 ++ leB (x.key * 16 + x.j) 1 ++ leB x.value 1, c, l, i + 1⟩ ⟨hlt, h2, by simp [leB_length]; omega, h4⟩ (by simp only [sbLines_S]; omega) ?_ rfl rfl
    simp [sbLines_S, sbLines_fin, hd, he, lBytes, RT.val]
  · have hi : i = l.length := by omega
    have c1 : decide ((i : Int) < l.length) = false := by simp; omega
    rw [c1]
    exact leafR_exit (sbLines_o cp bs c l i) (by simp [sbLines_S, sbLines_fin, sbLines_o, hi, RT.val]) rfl
def sbLines_d (env : Env RC) (os : List (Obj RC)) : Option (Bool × sbLines_St) := match env, os with
  | [(4, .ptr 0 []), (72, .sl .line c l), (73, .int .i64 x0), (74, .int .i64 x1)], [.var 70 (.acons (.sl .u8 cp bs) .anil)] => staticD (true) (decide (x0 = l.length) && decide (x1 = 0) && decide (l.length ≤ 1000000 ∧ bs.length ≤ 1000000) && l.all fitLn, ⟨cp, bs, c, l, 0⟩)
  | _, _ => none
noncomputable def ud_2 := ud_1.addLoop 24 23 (sumR s05 [.slot 4 0] [4, 72, 73, 74] sbLines_S sbLines_d)
theorem ud_2_laws : FLaws Try.prog s05 ud_2 := by
  refine ud_1_laws.addRoundsR s05_laws (by kernel_rfl) sbLines_S 40 [4, 72, 73, 74] [] [.slot 4 0] [4, 72, 73, 74] sbLines_d (fun q hI => ?_) ?_
  · obtain ⟨cp, bs, c, l, i⟩ := q
    refine ⟨?_, ?_, sbLines_round cp bs c l i hI⟩
    · simp_all [RefsOK, sbLines_S, sbLines_c, sbLines_o, sbLines_Inv, D.refs, Obj.refs, rEnc]
    · simp_all [sbLines_S, sbLines_fin, sbLines_o, sbLines_Inv, RT.refsOK, RefsOK, D.refs, Obj.refs, rEnc]
  · intro env os b q hd_ hb
    unfold sbLines_d at hd_
    split at hd_
    · obtain ⟨hs, hd_⟩ := staticD_some hd_
      cases hd_
      simp only [Bool.and_eq_true, decide_eq_true_eq] at hb
      obtain ⟨⟨⟨rfl, rfl⟩, hl⟩, ha⟩ := hb
      exact ⟨⟨Nat.zero_le _, hl.1, Nat.le_trans hl.2 (Nat.le_add_right _ _), ha⟩, rfl, rfl⟩
    · cases hd_
/-! ### function stateBytes: flume/record.StateBytes -/
def stateBytes_s (p : Int) (ci : Bool) (items : List Item) (k0 : Bool) (k1 : Bool) (k2 : Bool) (l0 : List Line) (l1 : List Line) (l2 : List Line) (c0 : Int) (c1 : Int) (c2 : Int) : Option (Bool × D RC) := some (decide (items.length ≤ 9223372036854775807 ∧ l0.length ≤ 9223372036854775807 ∧ l1.length ≤ 9223372036854775807 ∧ l2.length ≤ 9223372036854775807), .tup (.acons (.sl (C := RC) .u8 (!standsOK ⟨p, items, l0, l1, l2, c0, c1, c2⟩) (bif standsOK ⟨p, items, l0, l1, l2, c0, c1, c2⟩ then stBytes ⟨p, items, l0, l1, l2, c0, c1, c2⟩ else [])) (.acons (.int .i64 (bif standsOK ⟨p, items, l0, l1, l2, c0, c1, c2⟩ then 0 else 2)) .anil)))
def stateBytes_sp : List (D RC) → Option (Bool × D RC)
  | [.acons (.int .i64 p) (.acons (.sl .item ci items) (.acons (.acons (.sl .line k0 l0) (.acons (.sl .line k1 l1) (.acons (.sl .line k2 l2) .anil))) (.acons (.arr .int 3 [c0, c1, c2]) .anil)))] => stateBytes_s p ci items k0 k1 k2 l0 l1 l2 c0 c1 c2
  | _ => none
noncomputable def stateBytes_e (p : Int) (ci : Bool) (items : List Item) (k0 : Bool) (k1 : Bool) (k2 : Bool) (l0 : List Line) (l1 : List Line) (l2 : List Line) (c0 : Int) (c1 : Int) (c2 : Int) := evF s05 ud_2 40 24 [.acons (.int .i64 p) (.acons (.sl (C := RC) .item ci items) (.acons (.acons (.sl (C := RC) .line k0 l0) (.acons (.sl (C := RC) .line k1 l1) (.acons (.sl (C := RC) .line k2 l2) .anil))) (.acons (.arr (C := RC) .int 3 [c0, c1, c2]) .anil)))]
theorem stateBytes_eq (p : Int) (ci : Bool) (items : List Item) (k0 : Bool) (k1 : Bool) (k2 : Bool) (l0 : List Line) (l1 : List Line) (l2 : List Line) (c0 : Int) (c1 : Int) (c2 : Int) : stateBytes_e p ci items k0 k1 k2 l0 l1 l2 c0 c1 c2 = (bif decide (List.length items ≤ (9223372036854775807 : Nat) ∧ List.length l0 ≤ (9223372036854775807 : Nat) ∧ List.length l1 ≤ (9223372036854775807 : Nat) ∧ List.length l2 ≤ (9223372036854775807 : Nat)) then bif !standsOK (St.mk p items l0 l1 l2 c0 c1 c2) then some (D.tup (D.acons (D.sl RTy.u8 true []) (D.acons (D.int IntKind.i64 (2 : Int)) D.anil))) else bif lenOK (List.length items) then bif decide (List.length (putL [] p (3 : Nat)) ≤ (1000000000 : Nat)) then bif lenOK (List.length items) then bif decide ((↑(List.length items) : Int) = (↑(List.length items) : Int)) && true && decide (List.length items ≤ (1000000 : Nat) ∧ List.length (putL (putL [] p (3 : Nat)) (↑(List.length items) : Int) (1 : Nat)) ≤ (1000000 : Nat)) && List.all items fitI then bif lenOK (List.length l0) then bif decide ((0 : Int) < (↑(List.length l0) : Int)) then bif decide ((0 : Int) ≤ (0 : Int) ∧ (0 : Int) < (↑(List.length l0) : Int)) then bif decide (List.length (putL (putL [] p (3 : Nat)) (↑(List.length items) : Int) (1 : Nat) ++ List.flatMap iBytes (List.drop (0 : Nat) items)) ≤ (1000000000 : Nat)) then bif lenOK (List.length l0) then bif decide (List.length (putL (putL (putL [] p (3 : Nat)) (↑(List.length items) : Int) (1 : Nat) ++ List.flatMap iBytes (List.drop (0 : Nat) items)) c0 (3 : Nat)) ≤ (1000000000 : Nat)) then bif decide (List.length (putL (putL (putL (putL [] p (3 : Nat)) (↑(List.length items) : Int) (1 : Nat) ++ List.flatMap iBytes (List.drop (0 : Nat) items)) c0 (3 : Nat)) (↑(List.length l0) : Int) (1 : Nat)) ≤ (1000000000 : Nat)) then bif lenOK (List.length l0) then bif decide ((↑(List.length l0) : Int) = (↑(List.length l0) : Int)) && true && decide (List.length l0 ≤ (1000000 : Nat) ∧ List.length (putL (putL (putL (putL (putL [] p (3 : Nat)) (↑(List.length items) : Int) (1 : Nat) ++ List.flatMap iBytes (List.drop (0 : Nat) items)) c0 (3 : Nat)) (↑(List.length l0) : Int) (1 : Nat)) (Line.offset (List.getD l0 (0 : Nat) (Line.mk (0 : Int) (0 : Int) (0 : Int) (0 : Int) (0 : Int)))) (3 : Nat)) ≤ (1000000 : Nat)) && List.all l0 fitLn then bif lenOK (List.length l1) then bif decide ((0 : Int) < (↑(List.length l1) : Int)) then bif decide ((0 : Int) ≤ (0 : Int) ∧ (0 : Int) < (↑(List.length l1) : Int)) then bif decide (List.length (putL (putL (putL (putL (putL [] p (3 : Nat)) (↑(List.length items) : Int) (1 : Nat) ++ List.flatMap iBytes (List.drop (0 : Nat) items)) c0 (3 : Nat)) (↑(List.length l0) : Int) (1 : Nat)) (Line.offset (List.getD l0 (0 : Nat) (Line.mk (0 : Int) (0 : Int) (0 : Int) (0 : Int) (0 : Int)))) (3 : Nat) ++ List.flatMap lBytes (List.drop (0 : Nat) l0)) ≤ (1000000000 : Nat)) then bif lenOK (List.length l1) then bif decide (List.length (putL (putL (putL (putL (putL (putL [] p (3 : Nat)) (↑(List.length items) : Int) (1 : Nat) ++ List.flatMap iBytes (List.drop (0 : Nat) items)) c0 (3 : Nat)) (↑(List.length l0) : Int) (1 : Nat)) (Line.offset (List.getD l0 (0 : Nat) (Line.mk (0 : Int) (0 : Int) (0 : Int) (0 : Int) (0 : Int)))) (3 : Nat) ++ List.flatMap lBytes (List.drop (0 : Nat) l0)) c1 (3 : Nat)) ≤ (1000000000 : Nat)) then bif decide (List.length (putL (putL (putL (putL (putL (putL (putL [] p (3 : Nat)) (↑(List.length items) : Int) (1 : Nat) ++ List.flatMap iBytes (List.drop (0 : Nat) items)) c0 (3 : Nat)) (↑(List.length l0) : Int) (1 : Nat)) (Line.offset (List.getD l0 (0 : Nat) (Line.mk (0 : Int) (0 : Int) (0 : Int) (0 : Int) (0 : Int)))) (3 : Nat) ++ List.flatMap lBytes (List.drop (0 : Nat) l0)) c1 (3 : Nat)) (↑(List.length l1) : Int) (1 : Nat)) ≤ (1000000000 : Nat)) then bif lenOK (List.length l1) then bif decide ((↑(List.length l1) : Int) = (↑(List.length l1) : Int)) && true && decide (List.length l1 ≤ (1000000 : Nat) ∧ List.length (putL (putL (putL (putL (putL (putL (putL (putL [] p (3 : Nat)) (↑(List.length items) : Int) (1 : Nat) ++ List.flatMap iBytes (List.drop (0 : Nat) items)) c0 (3 : Nat)) (↑(List.length l0) : Int) (1 : Nat)) (Line.offset (List.getD l0 (0 : Nat) (Line.mk (0 : Int) (0 : Int) (0 : Int) (0 : Int) (0 : Int)))) (3 : Nat) ++ List.flatMap lBytes (List.drop (0 : Nat) l0)) c1 (3 : Nat)) (↑(List.length l1) : Int) (1 : Nat)) (Line.offset (List.getD l1 (0 : Nat) (Line.mk (0 : Int) (0 : Int) (0 : Int) (0 : Int) (0 : Int)))) (3 : Nat)) ≤ (1000000 : Nat)) && List.all l1 fitLn then bif lenOK (List.length l2) then bif decide ((0 : Int) < (↑(List.length l2) : Int)) then bif decide ((0 : Int) ≤ (0 : Int) ∧ (0 : Int) < (↑(List.length l2) : Int)) then bif decide (List.length (putL (putL (putL (putL (putL (putL (putL (putL [] p (3 : Nat)) (↑(List.length items) : Int) (1 : Nat) ++ List.flatMap iBytes (List.drop (0 : Nat) items)) c0 (3 : Nat)) (↑(List.length l0) : Int) (1 : Nat)) (Line.offset (List.getD l0 (0 : Nat) (Line.mk (0 : Int) (0 : Int) (0 : Int) (0 : Int) (0 : Int)))) (3 : Nat) ++ List.flatMap lBytes (List.drop (0 : Nat) l0)) c1 (3 : Nat)) (↑(List.length l1) : Int) (1 : Nat)) (Line.offset (List.getD l1 (0 : Nat) (Line.mk (0 : Int) (0 : Int) (0 : Int) (0 : Int) (0 : Int)))) (3 : Nat) ++ List.flatMap lBytes (List.drop (0 : Nat) l1)) ≤ (1000000000 : Nat)) then bif lenOK (List.length l2) then bif decide (List.length (putL (putL (putL (putL (putL (putL (putL (putL (putL [] p (3 : Nat)) (↑(List.length items) : Int) (1 : Nat) ++ List.flatMap iBytes (List.drop (0 : Nat) items)) c0 (3 : Nat)) (↑(List.length l0) : Int) (1 : Nat)) (Line.offset (List.getD l0 (0 : Nat) (Line.mk (0 : Int) (0 : Int) (0 : Int) (0 : Int) (0 : Int)))) (3 : Nat) ++ List.flatMap lBytes (List.drop (0 : Nat) l0)) c1 (3 : Nat)) (↑(List.length l1) : Int) (1 : Nat)) (Line.offset (List.getD l1 (0 : Nat) (Line.mk (0 : Int) (0 : Int) (0 : Int) (0 : Int) (0 : Int)))) (3 : Nat) ++ List.flatMap lBytes (List.drop (0 : Nat) l1)) c2 (3 : Nat)) ≤ (1000000000 : Nat)) then bif decide (List.length (putL (putL (putL (putL (putL (putL (putL (putL (putL (putL [] p (3 : Nat)) (↑(List.length items) : Int) (1 : Nat) ++ List.flatMap iBytes (List.drop (0 : Nat) items)) c0 (3 : Nat)) (↑(List.length l0) : Int) (1 : Nat)) (Line.offset (List.getD l0 (0 : Nat) (Line.mk (0 : Int) (0 : Int) (0 : Int) (0 : Int) (0 : Int)))) (3 : Nat) ++ List.flatMap lBytes (List.drop (0 : Nat) l0)) c1 (3 : Nat)) (↑(List.length l1) : Int) (1 : Nat)) (Line.offset (List.getD l1 (0 : Nat) (Line.mk (0 : Int) (0 : Int) (0 : Int) (0 : Int) (0 : Int)))) (3 : Nat) ++ List.flatMap lBytes (List.drop (0 : Nat) l1)) c2 (3 : Nat)) (↑(List.length l2) : Int) (1 : Nat)) ≤ (1000000000 : Nat)) then bif lenOK (List.length l2) then bif decide ((↑(List.length l2) : Int) = (↑(List.length l2) : Int)) && true && decide (List.length l2 ≤ (1000000 : Nat) ∧ List.length (putL (putL (putL (putL (putL (putL (putL (putL (putL (putL (putL [] p (3 : Nat)) (↑(List.length items) : Int) (1 : Nat) ++ List.flatMap iBytes (List.drop (0 : Nat) items)) c0 (3 : Nat)) (↑(List.length l0) : Int) (1 : Nat)) (Line.offset (List.getD l0 (0 : Nat) (Line.mk (0 : Int) (0 : Int) (0 : Int) (0 : Int) (0 : Int)))) (3 : Nat) ++ List.flatMap lBytes (List.drop (0 : Nat) l0)) c1 (3 : Nat)) (↑(List.length l1) : Int) (1 : Nat)) (Line.offset (List.getD l1 (0 : Nat) (Line.mk (0 : Int) (0 : Int) (0 : Int) (0 : Int) (0 : Int)))) (3 : Nat) ++ List.flatMap lBytes (List.drop (0 : Nat) l1)) c2 (3 : Nat)) (↑(List.length l2) : Int) (1 : Nat)) (Line.offset (List.getD l2 (0 : Nat) (Line.mk (0 : Int) (0 : Int) (0 : Int) (0 : Int) (0 : Int)))) (3 : Nat)) ≤ (1000000 : Nat)) && List.all l2 fitLn then some (D.tup (D.acons (D.sl RTy.u8 (!fitsB (Line.offset (List.getD l2 (0 : Nat) (Line.mk (0 : Int) (0 : Int) (0 : Int) (0 : Int) (0 : Int)))) (3 : Nat) && List.isEmpty (List.drop (0 : Nat) l2)) (putL (putL (putL (putL (putL (putL (putL (putL (putL (putL (putL [] p (3 : Nat)) (↑(List.length items) : Int) (1 : Nat) ++ List.flatMap iBytes (List.drop (0 : Nat) items)) c0 (3 : Nat)) (↑(List.length l0) : Int) (1 : Nat)) (Line.offset (List.getD l0 (0 : Nat) (Line.mk (0 : Int) (0 : Int) (0 : Int) (0 : Int) (0 : Int)))) (3 : Nat) ++ List.flatMap lBytes (List.drop (0 : Nat) l0)) c1 (3 : Nat)) (↑(List.length l1) : Int) (1 : Nat)) (Line.offset (List.getD l1 (0 : Nat) (Line.mk (0 : Int) (0 : Int) (0 : Int) (0 : Int) (0 : Int)))) (3 : Nat) ++ List.flatMap lBytes (List.drop (0 : Nat) l1)) c2 (3 : Nat)) (↑(List.length l2) : Int) (1 : Nat)) (Line.offset (List.getD l2 (0 : Nat) (Line.mk (0 : Int) (0 : Int) (0 : Int) (0 : Int) (0 : Int)))) (3 : Nat) ++ List.flatMap lBytes (List.drop (0 : Nat) l2))) (D.acons (D.int IntKind.i64 (0 : Int)) D.anil))) else none else none else none else none else none else none else none else bif decide (List.length (putL (putL (putL (putL (putL (putL (putL (putL [] p (3 : Nat)) (↑(List.length items) : Int) (1 : Nat) ++ List.flatMap iBytes (List.drop (0 : Nat) items)) c0 (3 : Nat)) (↑(List.length l0) : Int) (1 : Nat)) (Line.offset (List.getD l0 (0 : Nat) (Line.mk (0 : Int) (0 : Int) (0 : Int) (0 : Int) (0 : Int)))) (3 : Nat) ++ List.flatMap lBytes (List.drop (0 : Nat) l0)) c1 (3 : Nat)) (↑(List.length l1) : Int) (1 : Nat)) (Line.offset (List.getD l1 (0 : Nat) (Line.mk (0 : Int) (0 : Int) (0 : Int) (0 : Int) (0 : Int)))) (3 : Nat) ++ List.flatMap lBytes (List.drop (0 : Nat) l1)) ≤ (1000000000 : Nat)) then bif lenOK (List.length l2) then bif decide (List.length (putL (putL (putL (putL (putL (putL (putL (putL (putL [] p (3 : Nat)) (↑(List.length items) : Int) (1 : Nat) ++ List.flatMap iBytes (List.drop (0 : Nat) items)) c0 (3 : Nat)) (↑(List.length l0) : Int) (1 : Nat)) (Line.offset (List.getD l0 (0 : Nat) (Line.mk (0 : Int) (0 : Int) (0 : Int) (0 : Int) (0 : Int)))) (3 : Nat) ++ List.flatMap lBytes (List.drop (0 : Nat) l0)) c1 (3 : Nat)) (↑(List.length l1) : Int) (1 : Nat)) (Line.offset (List.getD l1 (0 : Nat) (Line.mk (0 : Int) (0 : Int) (0 : Int) (0 : Int) (0 : Int)))) (3 : Nat) ++ List.flatMap lBytes (List.drop (0 : Nat) l1)) c2 (3 : Nat)) ≤ (1000000000 : Nat)) then bif decide (List.length (putL (putL (putL (putL (putL (putL (putL (putL (putL (putL [] p (3 : Nat)) (↑(List.length items) : Int) (1 : Nat) ++ List.flatMap iBytes (List.drop (0 : Nat) items)) c0 (3 : Nat)) (↑(List.length l0) : Int) (1 : Nat)) (Line.offset (List.getD l0 (0 : Nat) (Line.mk (0 : Int) (0 : Int) (0 : Int) (0 : Int) (0 : Int)))) (3 : Nat) ++ List.flatMap lBytes (List.drop (0 : Nat) l0)) c1 (3 : Nat)) (↑(List.length l1) : Int) (1 : Nat)) (Line.offset (List.getD l1 (0 : Nat) (Line.mk (0 : Int) (0 : Int) (0 : Int) (0 : Int) (0 : Int)))) (3 : Nat) ++ List.flatMap lBytes (List.drop (0 : Nat) l1)) c2 (3 : Nat)) (↑(List.length l2) : Int) (1 : Nat)) ≤ (1000000000 : Nat)) then bif lenOK (List.length l2) then bif decide ((↑(List.length l2) : Int) = (↑(List.length l2) : Int)) && true && decide (List.length l2 ≤ (1000000 : Nat) ∧ List.length (putL (putL (putL (putL (putL (putL (putL (putL (putL (putL (putL [] p (3 : Nat)) (↑(List.length items) : Int) (1 : Nat) ++ List.flatMap iBytes (List.drop (0 : Nat) items)) c0 (3 : Nat)) (↑(List.length l0) : Int) (1 : Nat)) (Line.offset (List.getD l0 (0 : Nat) (Line.mk (0 : Int) (0 : Int) (0 : Int) (0 : Int) (0 : Int)))) (3 : Nat) ++ List.flatMap lBytes (List.drop (0 : Nat) l0)) c1 (3 : Nat)) (↑(List.length l1) : Int) (1 : Nat)) (Line.offset (List.getD l1 (0 : Nat) (Line.mk (0 : Int) (0 : Int) (0 : Int) (0 : Int) (0 : Int)))) (3 : Nat) ++ List.flatMap lBytes (List.drop (0 : Nat) l1)) c2 (3 : Nat)) (↑(List.length l2) : Int) (1 : Nat)) (0 : Int) (3 : Nat)) ≤ (1000000 : Nat)) && List.all l2 fitLn then some (D.tup (D.acons (D.sl RTy.u8 (false && List.isEmpty (List.drop (0 : Nat) l2)) (putL (putL (putL (putL (putL (putL (putL (putL (putL (putL (putL [] p (3 : Nat)) (↑(List.length items) : Int) (1 : Nat) ++ List.flatMap iBytes (List.drop (0 : Nat) items)) c0 (3 : Nat)) (↑(List.length l0) : Int) (1 : Nat)) (Line.offset (List.getD l0 (0 : Nat) (Line.mk (0 : Int) (0 : Int) (0 : Int) (0 : Int) (0 : Int)))) (3 : Nat) ++ List.flatMap lBytes (List.drop (0 : Nat) l0)) c1 (3 : Nat)) (↑(List.length l1) : Int) (1 : Nat)) (Line.offset (List.getD l1 (0 : Nat) (Line.mk (0 : Int) (0 : Int) (0 : Int) (0 : Int) (0 : Int)))) (3 : Nat) ++ List.flatMap lBytes (List.drop (0 : Nat) l1)) c2 (3 : Nat)) (↑(List.length l2) : Int) (1 : Nat)) (0 : Int) (3 : Nat) ++ List.flatMap lBytes (List.drop (0 : Nat) l2))) (D.acons (D.int IntKind.i64 (0 : Int)) D.anil))) else none else none else none else none else none else none else none else none else none else none else none else none else none else none else bif decide (List.length (putL (putL (putL (putL (putL [] p (3 : Nat)) (↑(List.length items) : Int) (1 : Nat) ++ List.flatMap iBytes (List.drop (0 : Nat) items)) c0 (3 : Nat)) (↑(List.length l0) : Int) (1 : Nat)) (Line.offset (List.getD l0 (0 : Nat) (Line.mk (0 : Int) (0 : Int) (0 : Int) (0 : Int) (0 : Int)))) (3 : Nat) ++ List.flatMap lBytes (List.drop (0 : Nat) l0)) ≤ (1000000000 : Nat)) then bif lenOK (List.length l1) then bif decide (List.length (putL (putL (putL (putL (putL (putL [] p (3 : Nat)) (↑(List.length items) : Int) (1 : Nat) ++ List.flatMap iBytes (List.drop (0 : Nat) items)) c0 (3 : Nat)) (↑(List.length l0) : Int) (1 : Nat)) (Line.offset (List.getD l0 (0 : Nat) (Line.mk (0 : Int) (0 : Int) (0 : Int) (0 : Int) (0 : Int)))) (3 : Nat) ++ List.flatMap lBytes (List.drop (0 : Nat) l0)) c1 (3 : Nat)) ≤ (1000000000 : Nat)) then bif decide (List.length (putL (putL (putL (putL (putL (putL (putL [] p (3 : Nat)) (↑(List.length items) : Int) (1 : Nat) ++ List.flatMap iBytes (List.drop (0 : Nat) items)) c0 (3 : Nat)) (↑(List.length l0) : Int) (1 : Nat)) (Line.offset (List.getD l0 (0 : Nat) (Line.mk (0 : Int) (0 : Int) (0 : Int) (0 : Int) (0 : Int)))) (3 : Nat) ++ List.flatMap lBytes (List.drop (0 : Nat) l0)) c1 (3 : Nat)) (↑(List.length l1) : Int) (1 : Nat)) ≤ (1000000000 : Nat)) then bif lenOK (List.length l1) then bif decide ((↑(List.length l1) : Int) = (↑(List.length l1) : Int)) && true && decide (List.length l1 ≤ (1000000 : Nat) ∧ List.length (putL (putL (putL (putL (putL (putL (putL (putL [] p (3 : Nat)) (↑(List.length items) : Int) (1 : Nat) ++ List.flatMap iBytes (List.drop (0 : Nat) items)) c0 (3 : Nat)) (↑(List.length l0) : Int) (1 : Nat)) (Line.offset (List.getD l0 (0 : Nat) (Line.mk (0 : Int) (0 : Int) (0 : Int) (0 : Int) (0 : Int)))) (3 : Nat) ++ List.flatMap lBytes (List.drop (0 : Nat) l0)) c1 (3 : Nat)) (↑(List.length l1) : Int) (1 : Nat)) (0 : Int) (3 : Nat)) ≤ (1000000 : Nat)) && List.all l1 fitLn then bif lenOK (List.length l2) then bif decide ((0 : Int) < (↑(List.length l2) : Int)) then bif decide ((0 : Int) ≤ (0 : Int) ∧ (0 : Int) < (↑(List.length l2) : Int)) then bif decide (List.length (putL (putL (putL (putL (putL (putL (putL (putL [] p (3 : Nat)) (↑(List.length items) : Int) (1 : Nat) ++ List.flatMap iBytes (List.drop (0 : Nat) items)) c0 (3 : Nat)) (↑(List.length l0) : Int) (1 : Nat)) (Line.offset (List.getD l0 (0 : Nat) (Line.mk (0 : Int) (0 : Int) (0 : Int) (0 : Int) (0 : Int)))) (3 : Nat) ++ List.flatMap lBytes (List.drop (0 : Nat) l0)) c1 (3 : Nat)) (↑(List.length l1) : Int) (1 : Nat)) (0 : Int) (3 : Nat) ++ List.flatMap lBytes (List.drop (0 : Nat) l1)) ≤ (1000000000 : Nat)) then bif lenOK (List.length l2) then bif decide (List.length (putL (putL (putL (putL (putL (putL (putL (putL (putL [] p (3 : Nat)) (↑(List.length items) : Int) (1 : Nat) ++ List.flatMap iBytes (List.drop (0 : Nat) items)) c0 (3 : Nat)) (↑(List.length l0) : Int) (1 : Nat)) (Line.offset (List.getD l0 (0 : Nat) (Line.mk (0 : Int) (0 : Int) (0 : Int) (0 : Int) (0 : Int)))) (3 : Nat) ++ List.flatMap lBytes (List.drop (0 : Nat) l0)) c1 (3 : Nat)) (↑(List.length l1) : Int) (1 : Nat)) (0 : Int) (3 : Nat) ++ List.flatMap lBytes (List.drop (0 : Nat) l1)) c2 (3 : Nat)) ≤ (1000000000 : Nat)) then bif decide (List.length (putL (putL (putL (putL (putL (putL (putL (putL (putL (putL [] p (3 : Nat)) (↑(List.length items) : Int) (1 : Nat) ++ List.flatMap iBytes (List.drop (0 : Nat) items)) c0 (3 : Nat)) (↑(List.length l0) : Int) (1 : Nat)) (Line.offset (List.getD l0 (0 : Nat) (Line.mk (0 : Int) (0 : Int) (0 : Int) (0 : Int) (0 : Int)))) (3 : Nat) ++ List.flatMap lBytes (List.drop (0 : Nat) l0)) c1 (3 : Nat)) (↑(List.length l1) : Int) (1 : Nat)) (0 : Int) (3 : Nat) ++ List.flatMap lBytes (List.drop (0 : Nat) l1)) c2 (3 : Nat)) (↑(List.length l2) : Int) (1 : Nat)) ≤ (1000000000 : Nat)) then bif lenOK (List.length l2) then bif decide ((↑(List.length l2) : Int) = (↑(List.length l2) : Int)) && true && decide (List.length l2 ≤ (1000000 : Nat) ∧ List.length (putL (putL (putL (putL (putL (putL (putL (putL (putL (putL (putL [] p (3 : Nat)) (↑(List.length items) : Int) (1 : Nat) ++ List.flatMap iBytes (List.drop (0 : Nat) items)) c0 (3 : Nat)) (↑(List.length l0) : Int) (1 : Nat)) (Line.offset (List.getD l0 (0 : Nat) (Line.mk (0 : Int) (0 : Int) (0 : Int) (0 : Int) (0 : Int)))) (3 : Nat) ++ List.flatMap lBytes (List.drop (0 : Nat) l0)) c1 (3 : Nat)) (↑(List.length l1) : Int) (1 : Nat)) (0 : Int) (3 : Nat) ++ List.flatMap lBytes (List.drop (0 : Nat) l1)) c2 (3 : Nat)) (↑(List.length l2) : Int) (1 : Nat)) (Line.offset (List.getD l2 (0 : Nat) (Line.mk (0 : Int) (0 : Int) (0 : Int) (0 : Int) (0 : Int)))) (3 : Nat)) ≤ (1000000 : Nat)) && List.all l2 fitLn then some (D.tup (D.acons (D.sl RTy.u8 (!fitsB (Line.offset (List.getD l2 (0 : Nat) (Line.mk (0 : Int) (0 : Int) (0 : Int) (0 : Int) (0 : Int)))) (3 : Nat) && List.isEmpty (List.drop (0 : Nat) l2)) (putL (putL (putL (putL (putL (putL (putL (putL (putL (putL (putL [] p (3 : Nat)) (↑(List.length items) : Int) (1 : Nat) ++ List.flatMap iBytes (List.drop (0 : Nat) items)) c0 (3 : Nat)) (↑(List.length l0) : Int) (1 : Nat)) (Line.offset (List.getD l0 (0 : Nat) (Line.mk (0 : Int) (0 : Int) (0 : Int) (0 : Int) (0 : Int)))) (3 : Nat) ++ List.flatMap lBytes (List.drop (0 : Nat) l0)) c1 (3 : Nat)) (↑(List.length l1) : Int) (1 : Nat)) (0 : Int) (3 : Nat) ++ List.flatMap lBytes (List.drop (0 : Nat) l1)) c2 (3 : Nat)) (↑(List.length l2) : Int) (1 : Nat)) (Line.offset (List.getD l2 (0 : Nat) (Line.mk (0 : Int) (0 : Int) (0 : Int) (0 : Int) (0 : Int)))) (3 : Nat) ++ List.flatMap lBytes (List.drop (0 : Nat) l2))) (D.acons (D.int IntKind.i64 (0 : Int)) D.anil))) else none else none else none else none else none else none else none else bif decide (List.length (putL (putL (putL (putL (putL (putL (putL (putL [] p (3 : Nat)) (↑(List.length items) : Int) (1 : Nat) ++ List.flatMap iBytes (List.drop (0 : Nat) items)) c0 (3 : Nat)) (↑(List.length l0) : Int) (1 : Nat)) (Line.offset (List.getD l0 (0 : Nat) (Line.mk (0 : Int) (0 : Int) (0 : Int) (0 : Int) (0 : Int)))) (3 : Nat) ++ List.flatMap lBytes (List.drop (0 : Nat) l0)) c1 (3 : Nat)) (↑(List.length l1) : Int) (1 : Nat)) (0 : Int) (3 : Nat) ++ List.flatMap lBytes (List.drop (0 : Nat) l1)) ≤ (1000000000 : Nat)) then bif lenOK (List.length l2) then bif decide (List.length (putL (putL (putL (putL (putL (putL (putL (putL (putL [] p (3 : Nat)) (↑(List.length items) : Int) (1 : Nat) ++ List.flatMap iBytes (List.drop (0 : Nat) items)) c0 (3 : Nat)) (↑(List.length l0) : Int) (1 : Nat)) (Line.offset (List.getD l0 (0 : Nat) (Line.mk (0 : Int) (0 : Int) (0 : Int) (0 : Int) (0 : Int)))) (3 : Nat) ++ List.flatMap lBytes (List.drop (0 : Nat) l0)) c1 (3 : Nat)) (↑(List.length l1) : Int) (1 : Nat)) (0 : Int) (3 : Nat) ++ List.flatMap lBytes (List.drop (0 : Nat) l1)) c2 (3 : Nat)) ≤ (1000000000 : Nat)) then bif decide (List.length (putL (putL (putL (putL (putL (putL (putL (putL (putL (putL [] p (3 : Nat)) (↑(List.length items) : Int) (1 : Nat) ++ List.flatMap iBytes (List.drop (0 : Nat) items)) c0 (3 : Nat)) (↑(List.length l0) : Int) (1 : Nat)) (Line.offset (List.getD l0 (0 : Nat) (Line.mk (0 : Int) (0 : Int) (0 : Int) (0 : Int) (0 : Int)))) (3 : Nat) ++ List.flatMap lBytes (List.drop (0 : Nat) l0)) c1 (3 : Nat)) (↑(List.length l1) : Int) (1 : Nat)) (0 : Int) (3 : Nat) ++ List.flatMap lBytes (List.drop (0 : Nat) l1)) c2 (3 : Nat)) (↑(List.length l2) : Int) (1 : Nat)) ≤ (1000000000 : Nat)) then bif lenOK (List.length l2) then bif decide ((↑(List.length l2) : Int) = (↑(List.length l2) : Int)) && true && decide (List.length l2 ≤ (1000000 : Nat) ∧ List.length (putL (putL (putL (putL (putL (putL (putL (putL (putL (putL (putL [] p (3 : Nat)) (↑(List.length items) : Int) (1 : Nat) ++ List.flatMap iBytes (List.drop (0 : Nat) items)) c0 (3 : Nat)) (↑(List.length l0) : Int) (1 : Nat)) (Line.offset (List.getD l0 (0 : Nat) (Line.mk (0 : Int) (0 : Int) (0 : Int) (0 : Int) (0 : Int)))) (3 : Nat) ++ List.flatMap lBytes (List.drop (0 : Nat) l0)) c1 (3 : Nat)) (↑(List.length l1) : Int) (1 : Nat)) (0 : Int) (3 : Nat) ++ List.flatMap lBytes (List.drop (0 : Nat) l1)) c2 (3 : Nat)) (↑(List.length l2) : Int) (1 : Nat)) (0 : Int) (3 : Nat)) ≤ (1000000 : Nat)) && List.all l2 fitLn then some (D.tup (D.acons (D.sl RTy.u8 (false && List.isEmpty (List.drop (0 : Nat) l2)) (putL (putL (putL (putL (putL (putL (putL (putL (putL (putL (putL [] p (3 : Nat)) (↑(List.length items) : Int) (1 : Nat) ++ List.flatMap iBytes (List.drop (0 : Nat) items)) c0 (3 : Nat)) (↑(List.length l0) : Int) (1 : Nat)) (Line.offset (List.getD l0 (0 : Nat) (Line.mk (0 : Int) (0 : Int) (0 : Int) (0 : Int) (0 : Int)))) (3 : Nat) ++ List.flatMap lBytes (List.drop (0 : Nat) l0)) c1 (3 : Nat)) (↑(List.length l1) : Int) (1 : Nat)) (0 : Int) (3 : Nat) ++ List.flatMap lBytes (List.drop (0 : Nat) l1)) c2 (3 : Nat)) (↑(List.length l2) : Int) (1 : Nat)) (0 : Int) (3 : Nat) ++ List.flatMap lBytes (List.drop (0 : Nat) l2))) (D.acons (D.int IntKind.i64 (0 : Int)) D.anil))) else none else none else none else none else none else none else none else none else none else none else none else none else none else none else none else none else none else none else none else none else none else bif decide (List.length (putL (putL [] p (3 : Nat)) (↑(List.length items) : Int) (1 : Nat) ++ List.flatMap iBytes (List.drop (0 : Nat) items)) ≤ (1000000000 : Nat)) then bif lenOK (List.length l0) then bif decide (List.length (putL (putL (putL [] p (3 : Nat)) (↑(List.length items) : Int) (1 : Nat) ++ List.flatMap iBytes (List.drop (0 : Nat) items)) c0 (3 : Nat)) ≤ (1000000000 : Nat)) then bif decide (List.length (putL (putL (putL (putL [] p (3 : Nat)) (↑(List.length items) : Int) (1 : Nat) ++ List.flatMap iBytes (List.drop (0 : Nat) items)) c0 (3 : Nat)) (↑(List.length l0) : Int) (1 : Nat)) ≤ (1000000000 : Nat)) then bif lenOK (List.length l0) then bif decide ((↑(List.length l0) : Int) = (↑(List.length l0) : Int)) && true && decide (List.length l0 ≤ (1000000 : Nat) ∧ List.length (putL (putL (putL (putL (putL [] p (3 : Nat)) (↑(List.length items) : Int) (1 : Nat) ++ List.flatMap iBytes (List.drop (0 : Nat) items)) c0 (3 : Nat)) (↑(List.length l0) : Int) (1 : Nat)) (0 : Int) (3 : Nat)) ≤ (1000000 : Nat)) && List.all l0 fitLn then bif lenOK (List.length l1) then bif decide ((0 : Int) < (↑(List.length l1) : Int)) then bif decide ((0 : Int) ≤ (0 : Int) ∧ (0 : Int) < (↑(List.length l1) : Int)) then bif decide (List.length (putL (putL (putL (putL (putL [] p (3 : Nat)) (↑(List.length items) : Int) (1 : Nat) ++ List.flatMap iBytes (List.drop (0 : Nat) items)) c0 (3 : Nat)) (↑(List.length l0) : Int) (1 : Nat)) (0 : Int) (3 : Nat) ++ List.flatMap lBytes (List.drop (0 : Nat) l0)) ≤ (1000000000 : Nat)) then bif lenOK (List.length l1) then bif decide (List.length (putL (putL (putL (putL (putL (putL [] p (3 : Nat)) (↑(List.length items) : Int) (1 : Nat) ++ List.flatMap iBytes (List.drop (0 : Nat) items)) c0 (3 : Nat)) (↑(List.length l0) : Int) (1 : Nat)) (0 : Int) (3 : Nat) ++ List.flatMap lBytes (List.drop (0 : Nat) l0)) c1 (3 : Nat)) ≤ (1000000000 : Nat)) then bif decide (List.length (putL (putL (putL (putL (putL (putL (putL [] p (3 : Nat)) (↑(List.length items) : Int) (1 : Nat) ++ List.flatMap iBytes (List.drop (0 : Nat) items)) c0 (3 : Nat)) (↑(List.length l0) : Int) (1 : Nat)) (0 : Int) (3 : Nat) ++ List.flatMap lBytes (List.drop (0 : Nat) l0)) c1 (3 : Nat)) (↑(List.length l1) : Int) (1 : Nat)) ≤ (1000000000 : Nat)) then bif lenOK (List.length l1) then bif decide ((↑(List.length l1) : Int) = (↑(List.length l1) : Int)) && true && decide (List.length l1 ≤ (1000000 : Nat) ∧ List.length (putL (putL (putL (putL (putL (putL (putL (putL [] p (3 : Nat)) (↑(List.length items) : Int) (1 : Nat) ++ List.flatMap iBytes (List.drop (0 : Nat) items)) c0 (3 : Nat)) (↑(List.length l0) : Int) (1 : Nat)) (0 : Int) (3 : Nat) ++ List.flatMap lBytes (List.drop (0 : Nat) l0)) c1 (3 : Nat)) (↑(List.length l1) : Int) (1 : Nat)) (Line.offset (List.getD l1 (0 : Nat) (Line.mk (0 : Int) (0 : Int) (0 : Int) (0 : Int) (0 : Int)))) (3 : Nat)) ≤ (1000000 : Nat)) && List.all l1 fitLn then bif lenOK (List.length l2) then bif decide ((0 : Int) < (↑(List.length l2) : Int)) then bif decide ((0 : Int) ≤ (0 : Int) ∧ (0 : Int) < (↑(List.length l2) : Int)) then bif decide (List.length (putL (putL (putL (putL (putL (putL (putL (putL [] p (3 : Nat)) (↑(List.length items) : Int) (1 : Nat) ++ List.flatMap iBytes (List.drop (0 : Nat) items)) c0 (3 : Nat)) (↑(List.length l0) : Int) (1 : Nat)) (0 : Int) (3 : Nat) ++ List.flatMap lBytes (List.drop (0 : Nat) l0)) c1 (3 : Nat)) (↑(List.length l1) : Int) (1 : Nat)) (Line.offset (List.getD l1 (0 : Nat) (Line.mk (0 : Int) (0 : Int) (0 : Int) (0 : Int) (0 : Int)))) (3 : Nat) ++ List.flatMap lBytes (List.drop (0 : Nat) l1)) ≤ (1000000000 : Nat)) then bif lenOK (List.length l2) then bif decide (List.length (putL (putL (putL (putL (putL (putL (putL (putL (putL [] p (3 : Nat)) (↑(List.length items) : Int) (1 : Nat) ++ List.flatMap iBytes (List.drop (0 : Nat) items)) c0 (3 : Nat)) (↑(List.length l0) : Int) (1 : Nat)) (0 : Int) (3 : Nat) ++ List.flatMap lBytes (List.drop (0 : Nat) l0)) c1 (3 : Nat)) (↑(List.length l1) : Int) (1 : Nat)) (Line.offset (List.getD l1 (0 : Nat) (Line.mk (0 : Int) (0 : Int) (0 : Int) (0 : Int) (0 : Int)))) (3 : Nat) ++ List.flatMap lBytes (List.drop (0 : Nat) l1)) c2 (3 : Nat)) ≤ (1000000000 : Nat)) then bif decide (List.length (putL (putL (putL (putL (putL (putL (putL (putL (putL (putL [] p (3 : Nat)) (↑(List.length items) : Int) (1 : Nat) ++ List.flatMap iBytes (List.drop (0 : Nat) items)) c0 (3 : Nat)) (↑(List.length l0) : Int) (1 : Nat)) (0 : Int) (3 : Nat) ++ List.flatMap lBytes (List.drop (0 : Nat) l0)) c1 (3 : Nat)) (↑(List.length l1) : Int) (1 : Nat)) (Line.offset (List.getD l1 (0 : Nat) (Line.mk (0 : Int) (0 : Int) (0 : Int) (0 : Int) (0 : Int)))) (3 : Nat) ++ List.flatMap lBytes (List.drop (0 : Nat) l1)) c2 (3 : Nat)) (↑(List.length l2) : Int) (1 : Nat)) ≤ (1000000000 : Nat)) then bif lenOK (List.length l2) then bif decide ((↑(List.length l2) : Int) = (↑(List.length l2) : Int)) && true && decide (List.length l2 ≤ (1000000 : Nat) ∧ List.length (putL (putL (putL (putL (putL (putL (putL (putL (putL (putL (putL [] p (3 : Nat)) (↑(List.length items) : Int) (1 : Nat) ++ List.flatMap iBytes (List.drop (0 : Nat) items)) c0 (3 : Nat)) (↑(List.length l0) : Int) (1 : Nat)) (0 : Int) (3 : Nat) ++ List.flatMap lBytes (List.drop (0 : Nat) l0)) c1 (3 : Nat)) (↑(List.length l1) : Int) (1 : Nat)) (Line.offset (List.getD l1 (0 : Nat) (Line.mk (0 : Int) (0 : Int) (0 : Int) (0 : Int) (0 : Int)))) (3 : Nat) ++ List.flatMap lBytes (List.drop (0 : Nat) l1)) c2 (3 : Nat)) (↑(List.length l2) : Int) (1 : Nat)) (Line.offset (List.getD l2 (0 : Nat) (Line.mk (0 : Int) (0 : Int) (0 : Int) (0 : Int) (0 : Int)))) (3 : Nat)) ≤ (1000000 : Nat)) && List.all l2 fitLn then some (D.tup (D.acons (D.sl RTy.u8 (!fitsB (Line.offset (List.getD l2 (0 : Nat) (Line.mk (0 : Int) (0 : Int) (0 : Int) (0 : Int) (0 : Int)))) (3 : Nat) && List.isEmpty (List.drop (0 : Nat) l2)) (putL (putL (putL (putL (putL (putL (putL (putL (putL (putL (putL [] p (3 : Nat)) (↑(List.length items) : Int) (1 : Nat) ++ List.flatMap iBytes (List.drop (0 : Nat) items)) c0 (3 : Nat)) (↑(List.length l0) : Int) (1 : Nat)) (0 : Int) (3 : Nat) ++ List.flatMap lBytes (List.drop (0 : Nat) l0)) c1 (3 : Nat)) (↑(List.length l1) : Int) (1 : Nat)) (Line.offset (List.getD l1 (0 : Nat) (Line.mk (0 : Int) (0 : Int) (0 : Int) (0 : Int) (0 : Int)))) (3 : Nat) ++ List.flatMap lBytes (List.drop (0 : Nat) l1)) c2 (3 : Nat)) (↑(List.length l2) : Int) (1 : Nat)) (Line.offset (List.getD l2 (0 : Nat) (Line.mk (0 : Int) (0 : Int) (0 : Int) (0 : Int) (0 : Int)))) (3 : Nat) ++ List.flatMap lBytes (List.drop (0 : Nat) l2))) (D.acons (D.int IntKind.i64 (0 : Int)) D.anil))) else none else none else none else none else none else none else none else bif decide (List.length (putL (putL (putL (putL (putL (putL (putL (putL [] p (3 : Nat)) (↑(List.length items) : Int) (1 : Nat) ++ List.flatMap iBytes (List.drop (0 : Nat) items)) c0 (3 : Nat)) (↑(List.length l0) : Int) (1 : Nat)) (0 : Int) (3 : Nat) ++ List.flatMap lBytes (List.drop (0 : Nat) l0)) c1 (3 : Nat)) (↑(List.length l1) : Int) (1 : Nat)) (Line.offset (List.getD l1 (0 : Nat) (Line.mk (0 : Int) (0 : Int) (0 : Int) (0 : Int) (0 : Int)))) (3 : Nat) ++ List.flatMap lBytes (List.drop (0 : Nat) l1)) ≤ (1000000000 : Nat)) then bif lenOK (List.length l2) then bif decide (List.length (putL (putL (putL (putL (putL (putL (putL (putL (putL [] p (3 : Nat)) (↑(List.length items) : Int) (1 : Nat) ++ List.flatMap iBytes (List.drop (0 : Nat) items)) c0 (3 : Nat)) (↑(List.length l0) : Int) (1 : Nat)) (0 : Int) (3 : Nat) ++ List.flatMap lBytes (List.drop (0 : Nat) l0)) c1 (3 : Nat)) (↑(List.length l1) : Int) (1 : Nat)) (Line.offset (List.getD l1 (0 : Nat) (Line.mk (0 : Int) (0 : Int) (0 : Int) (0 : Int) (0 : Int)))) (3 : Nat) ++ List.flatMap lBytes (List.drop (0 : Nat) l1)) c2 (3 : Nat)) ≤ (1000000000 : Nat)) then bif decide (List.length (putL (putL (putL (putL (putL (putL (putL (putL (putL (putL [] p (3 : Nat)) (↑(List.length items) : Int) (1 : Nat) ++ List.flatMap iBytes (List.drop (0 : Nat) items)) c0 (3 : Nat)) (↑(List.length l0) : Int) (1 : Nat)) (0 : Int) (3 : Nat) ++ List.flatMap lBytes (List.drop (0 : Nat) l0)) c1 (3 : Nat)) (↑(List.length l1) : Int) (1 : Nat)) (Line.offset (List.getD l1 (0 : Nat) (Line.mk (0 : Int) (0 : Int) (0 : Int) (0 : Int) (0 : Int)))) (3 : Nat) ++ List.flatMap lBytes (List.drop (0 : Nat) l1)) c2 (3 : Nat)) (↑(List.length l2) : Int) (1 : Nat)) ≤ (1000000000 : Nat)) then bif lenOK (List.length l2) then bif decide ((↑(List.length l2) : Int) = (↑(List.length l2) : Int)) && true && decide (List.length l2 ≤ (1000000 : Nat) ∧ List.length (putL (putL (putL (putL (putL (putL (putL (putL (putL (putL (putL [] p (3 : Nat)) (↑(List.length items) : Int) (1 : Nat) ++ List.flatMap iBytes (List.drop (0 : Nat) items)) c0 (3 : Nat)) (↑(List.length l0) : Int) (1 : Nat)) (0 : Int) (3 : Nat) ++ List.flatMap lBytes (List.drop (0 : Nat) l0)) c1 (3 : Nat)) (↑(List.length l1) : Int) (1 : Nat)) (Line.offset (List.getD l1 (0 : Nat) (Line.mk (0 : Int) (0 : Int) (0 : Int) (0 : Int) (0 : Int)))) (3 : Nat) ++ List.flatMap lBytes (List.drop (0 : Nat) l1)) c2 (3 : Nat)) (↑(List.length l2) : Int) (1 : Nat)) (0 : Int) (3 : Nat)) ≤ (1000000 : Nat)) && List.all l2 fitLn then some (D.tup (D.acons (D.sl RTy.u8 (false && List.isEmpty (List.drop (0 : Nat) l2)) (putL (putL (putL (putL (putL (putL (putL (putL (putL (putL (putL [] p (3 : Nat)) (↑(List.length items) : Int) (1 : Nat) ++ List.flatMap iBytes (List.drop (0 : Nat) items)) c0 (3 : Nat)) (↑(List.length l0) : Int) (1 : Nat)) (0 : Int) (3 : Nat) ++ List.flatMap lBytes (List.drop (0 : Nat) l0)) c1 (3 : Nat)) (↑(List.length l1) : Int) (1 : Nat)) (Line.offset (List.getD l1 (0 : Nat) (Line.mk (0 : Int) (0 : Int) (0 : Int) (0 : Int) (0 : Int)))) (3 : Nat) ++ List.flatMap lBytes (List.drop (0 : Nat) l1)) c2 (3 : Nat)) (↑(List.length l2) : Int) (1 : Nat)) (0 : Int) (3 : Nat) ++ List.flatMap lBytes (List.drop (0 : Nat) l2))) (D.acons (D.int IntKind.i64 (0 : Int)) D.anil))) else none else none else none else none else none else none else none else none else none else none else none else none else none else none else bif decide (List.length (putL (putL (putL (putL (putL [] p (3 : Nat)) (↑(List.length items) : Int) (1 : Nat) ++ List.flatMap iBytes (List.drop (0 : Nat) items)) c0 (3 : Nat)) (↑(List.length l0) : Int) (1 : Nat)) (0 : Int) (3 : Nat) ++ List.flatMap lBytes (List.drop (0 : Nat) l0)) ≤ (1000000000 : Nat)) then bif lenOK (List.length l1) then bif decide (List.length (putL (putL (putL (putL (putL (putL [] p (3 : Nat)) (↑(List.length items) : Int) (1 : Nat) ++ List.flatMap iBytes (List.drop (0 : Nat) items)) c0 (3 : Nat)) (↑(List.length l0) : Int) (1 : Nat)) (0 : Int) (3 : Nat) ++ List.flatMap lBytes (List.drop (0 : Nat) l0)) c1 (3 : Nat)) ≤ (1000000000 : Nat)) then bif decide (List.length (putL (putL (putL (putL (putL (putL (putL [] p (3 : Nat)) (↑(List.length items) : Int) (1 : Nat) ++ List.flatMap iBytes (List.drop (0 : Nat) items)) c0 (3 : Nat)) (↑(List.length l0) : Int) (1 : Nat)) (0 : Int) (3 : Nat) ++ List.flatMap lBytes (List.drop (0 : Nat) l0)) c1 (3 : Nat)) (↑(List.length l1) : Int) (1 : Nat)) ≤ (1000000000 : Nat)) then bif lenOK (List.length l1) then bif decide ((↑(List.length l1) : Int) = (↑(List.length l1) : Int)) && true && decide (List.length l1 ≤ (1000000 : Nat) ∧ List.length (putL (putL (putL (putL (putL (putL (putL (putL [] p (3 : Nat)) (↑(List.length items) : Int) (1 : Nat) ++ List.flatMap iBytes (List.drop (0 : Nat) items)) c0 (3 : Nat)) (↑(List.length l0) : Int) (1 : Nat)) (0 : Int) (3 : Nat) ++ List.flatMap lBytes (List.drop (0 : Nat) l0)) c1 (3 : Nat)) (↑(List.length l1) : Int) (1 : Nat)) (0 : Int) (3 : Nat)) ≤ (1000000 : Nat)) && List.all l1 fitLn then bif lenOK (List.length l2) then bif decide ((0 : Int) < (↑(List.length l2) : Int)) then bif decide ((0 : Int) ≤ (0 : Int) ∧ (0 : Int) < (↑(List.length l2) : Int)) then bif decide (List.length (putL (putL (putL (putL (putL (putL (putL (putL [] p (3 : Nat)) (↑(List.length items) : Int) (1 : Nat) ++ List.flatMap iBytes (List.drop (0 : Nat) items)) c0 (3 : Nat)) (↑(List.length l0) : Int) (1 : Nat)) (0 : Int) (3 : Nat) ++ List.flatMap lBytes (List.drop (0 : Nat) l0)) c1 (3 : Nat)) (↑(List.length l1) : Int) (1 : Nat)) (0 : Int) (3 : Nat) ++ List.flatMap lBytes (List.drop (0 : Nat) l1)) ≤ (1000000000 : Nat)) then bif lenOK (List.length l2) then bif decide (List.length (putL (putL (putL (putL (putL (putL (putL (putL (putL [] p (3 : Nat)) (↑(List.length items) : Int) (1 : Nat) ++ List.flatMap iBytes (List.drop (0 : Nat) items)) c0 (3 : Nat)) (↑(List.length l0) : Int) (1 : Nat)) (0 : Int) (3 : Nat) ++ List.flatMap lBytes (List.drop (0 : Nat) l0)) c1 (3 : Nat)) (↑(List.length l1) : Int) (1 : Nat)) (0 : Int) (3 : Nat) ++ List.flatMap lBytes (List.drop (0 : Nat) l1)) c2 (3 : Nat)) ≤ (1000000000 : Nat)) then bif decide (List.length (putL (putL (putL (putL (putL (putL (putL (putL (putL (putL [] p (3 : Nat)) (↑(List.length items) : Int) (1 : Nat) ++ List.flatMap iBytes (List.drop (0 : Nat) items)) c0 (3 : Nat)) (↑(List.length l0) : Int) (1 : Nat)) (0 : Int) (3 : Nat) ++ List.flatMap lBytes (List.drop (0 : Nat) l0)) c1 (3 : Nat)) (↑(List.length l1) : Int) (1 : Nat)) (0 : Int) (3 : Nat) ++ List.flatMap lBytes (List.drop (0 : Nat) l1)) c2 (3 : Nat)) (↑(List.length l2) : Int) (1 : Nat)) ≤ (1000000000 : Nat)) then bif lenOK (List.length l2) then bif decide ((↑(List.length l2) : Int) = (↑(List.length l2) : Int)) && true && decide (List.length l2 ≤ (1000000 : Nat) ∧ List.length (putL (putL (putL (putL (putL (putL (putL (putL (putL (putL (putL [] p (3 : Nat)) (↑(List.length items) : Int) (1 : Nat) ++ List.flatMap iBytes (List.drop (0 : Nat) items)) c0 (3 : Nat)) (↑(List.length l0) : Int) (1 : Nat)) (0 : Int) (3 : Nat) ++ List.flatMap lBytes (List.drop (0 : Nat) l0)) c1 (3 : Nat)) (↑(List.length l1) : Int) (1 : Nat)) (0 : Int) (3 : Nat) ++ List.flatMap lBytes (List.drop (0 : Nat) l1)) c2 (3 : Nat)) (↑(List.length l2) : Int) (1 : Nat)) (Line.offset (List.getD l2 (0 : Nat) (Line.mk (0 : Int) (0 : Int) (0 : Int) (0 : Int) (0 : Int)))) (3 : Nat)) ≤ (1000000 : Nat)) && List.all l2 fitLn then some (D.tup (D.acons (D.sl RTy.u8 (!fitsB (Line.offset (List.getD l2 (0 : Nat) (Line.mk (0 : Int) (0 : Int) (0 : Int) (0 : Int) (0 : Int)))) (3 : Nat) && List.isEmpty (List.drop (0 : Nat) l2)) (putL (putL (putL (putL (putL (putL (putL (putL (putL (putL (putL [] p (3 : Nat)) (↑(List.length items) : Int) (1 : Nat) ++ List.flatMap iBytes (List.drop (0 : Nat) items)) c0 (3 : Nat)) (↑(List.length l0) : Int) (1 : Nat)) (0 : Int) (3 : Nat) ++ List.flatMap lBytes (List.drop (0 : Nat) l0)) c1 (3 : Nat)) (↑(List.length l1) : Int) (1 : Nat)) (0 : Int) (3 : Nat) ++ List.flatMap lBytes (List.drop (0 : Nat) l1)) c2 (3 : Nat)) (↑(List.length l2) : Int) (1 : Nat)) (Line.offset (List.getD l2 (0 : Nat) (Line.mk (0 : Int) (0 : Int) (0 : Int) (0 : Int) (0 : Int)))) (3 : Nat) ++ List.flatMap lBytes (List.drop (0 : Nat) l2))) (D.acons (D.int IntKind.i64 (0 : Int)) D.anil))) else none else none else none else none else none else none else none else bif decide (List.length (putL (putL (putL (putL (putL (putL (putL (putL [] p (3 : Nat)) (↑(List.length items) : Int) (1 : Nat) ++ List.flatMap iBytes (List.drop (0 : Nat) items)) c0 (3 : Nat)) (↑(List.length l0) : Int) (1 : Nat)) (0 : Int) (3 : Nat) ++ List.flatMap lBytes (List.drop (0 : Nat) l0)) c1 (3 : Nat)) (↑(List.length l1) : Int) (1 : Nat)) (0 : Int) (3 : Nat) ++ List.flatMap lBytes (List.drop (0 : Nat) l1)) ≤ (1000000000 : Nat)) then bif lenOK (List.length l2) then bif decide (List.length (putL (putL (putL (putL (putL (putL (putL (putL (putL [] p (3 : Nat)) (↑(List.length items) : Int) (1 : Nat) ++ List.flatMap iBytes (List.drop (0 : Nat) items)) c0 (3 : Nat)) (↑(List.length l0) : Int) (1 : Nat)) (0 : Int) (3 : Nat) ++ List.flatMap lBytes (List.drop (0 : Nat) l0)) c1 (3 : Nat)) (↑(List.length l1) : Int) (1 : Nat)) (0 : Int) (3 : Nat) ++ List.flatMap lBytes (List.drop (0 : Nat) l1)) c2 (3 : Nat)) ≤ (1000000000 : Nat)) then bif decide (List.length (putL (putL (putL (putL (putL (putL (putL (putL (putL (putL [] p (3 : Nat)) (↑(List.length items) : Int) (1 : Nat) ++ List.flatMap iBytes (List.drop (0 : Nat) items)) c0 (3 : Nat)) (↑(List.length l0) : Int) (1 : Nat)) (0 : Int) (3 : Nat) ++ List.flatMap lBytes (List.drop (0 : Nat) l0)) c1 (3 : Nat)) (↑(List.length l1) : Int) (1 : Nat)) (0 : Int) (3 : Nat) ++ List.flatMap lBytes (List.drop (0 : Nat) l1)) c2 (3 : Nat)) (↑(List.length l2) : Int) (1 : Nat)) ≤ (1000000000 : Nat)) then bif lenOK (List.length l2) then bif decide ((↑(List.length l2) : Int) = (↑(List.length l2) : Int)) && true && decide (List.length l2 ≤ (1000000 : Nat) ∧ List.length (putL (putL (putL (putL (putL (putL (putL (putL (putL (putL (putL [] p (3 : Nat)) (↑(List.length items) : Int) (1 : Nat) ++ List.flatMap iBytes (List.drop (0 : Nat) items)) c0 (3 : Nat)) (↑(List.length l0) : Int) (1 : Nat)) (0 : Int) (3 : Nat) ++ List.flatMap lBytes (List.drop (0 : Nat) l0)) c1 (3 : Nat)) (↑(List.length l1) : Int) (1 : Nat)) (0 : Int) (3 : Nat) ++ List.flatMap lBytes (List.drop (0 : Nat) l1)) c2 (3 : Nat)) (↑(List.length l2) : Int) (1 : Nat)) (0 : Int) (3 : Nat)) ≤ (1000000 : Nat)) && List.all l2 fitLn then some (D.tup (D.acons (D.sl RTy.u8 (false && List.isEmpty (List.drop (0 : Nat) l2)) (putL (putL (putL (putL (putL (putL (putL (putL (putL (putL (putL [] p (3 : Nat)) (↑(List.length items) : Int) (1 : Nat) ++ List.flatMap iBytes (List.drop (0 : Nat) items)) c0 (3 : Nat)) (↑(List.length l0) : Int) (1 : Nat)) (0 : Int) (3 : Nat) ++ List.flatMap lBytes (List.drop (0 : Nat) l0)) c1 (3 : Nat)) (↑(List.length l1) : Int) (1 : Nat)) (0 : Int) (3 : Nat) ++ List.flatMap lBytes (List.drop (0 : Nat) l1)) c2 (3 : Nat)) (↑(List.length l2) : Int) (1 : Nat)) (0 : Int) (3 : Nat) ++ List.flatMap lBytes (List.drop (0 : Nat) l2))) (D.acons (D.int IntKind.i64 (0 : Int)) D.anil))) else none else none else none else none else none else none else none else none else none else none else none else none else none else none else none else none else none else none else none else none else none else none else none else none else none else none) := by kernel_rfl
theorem stateBytes_ok (p : Int) (ci : Bool) (items : List Item) (k0 : Bool) (k1 : Bool) (k2 : Bool) (l0 : List Line) (l1 : List Line) (l2 : List Line) (c0 : Int) (c1 : Int) (c2 : Int) (h : (decide (items.length ≤ 9223372036854775807 ∧ l0.length ≤ 9223372036854775807 ∧ l1.length ≤ 9223372036854775807 ∧ l2.length ≤ 9223372036854775807)) = true) : stateBytes_e p ci items k0 k1 k2 l0 l1 l2 c0 c1 c2 = some (.tup (.acons (.sl (C := RC) .u8 (!standsOK ⟨p, items, l0, l1, l2, c0, c1, c2⟩) (bif standsOK ⟨p, items, l0, l1, l2, c0, c1, c2⟩ then stBytes ⟨p, items, l0, l1, l2, c0, c1, c2⟩ else [])) (.acons (.int .i64 (bif standsOK ⟨p, items, l0, l1, l2, c0, c1, c2⟩ then 0 else 2)) .anil))) := by
  rw [stateBytes_eq]
  rw [h]
  cases hm : standsOK ⟨p, items, l0, l1, l2, c0, c1, c2⟩
  · rfl
  · obtain ⟨hp, hil, hif, ⟨k0, m0, w0, o0⟩, ⟨k1, m1, w1, o1⟩, ⟨k2, m2, w2, o2⟩⟩ := stands_facts hm
    have b := lenOK_of (show items.length ≤ 9223372036854775807 by omega)
    have b0 := lenOK_of (show l0.length ≤ 9223372036854775807 by omega)
    have b1 := lenOK_of (show l1.length ≤ 9223372036854775807 by omega)
    have b2 := lenOK_of (show l2.length ≤ 9223372036854775807 by omega)
    have fp : fitsB p 3 = true := fits3 (by rw [withinB_iff]; omega)
    have fi : fitsB (items.length : Int) 1 = true := fits1 (by rw [withinB_iff]; omega)
    have fc0 : fitsB c0 3 = true := fits3 (by rw [withinB_iff]; omega)
    have fc1 : fitsB c1 3 = true := fits3 (by rw [withinB_iff]; omega)
    have fc2 : fitsB c2 3 = true := fits3 (by rw [withinB_iff]; omega)
    have fl0 : fitsB (l0.length : Int) 1 = true := fits1 (by rw [withinB_iff]; omega)
    have fl1 : fitsB (l1.length : Int) 1 = true := fits1 (by rw [withinB_iff]; omega)
    have fl2 : fitsB (l2.length : Int) 1 = true := fits1 (by rw [withinB_iff]; omega)
    have fo0 : fitsB (l0.getD 0 ⟨0, 0, 0, 0, 0⟩).offset 3 = true := fits3 (by rw [withinB_iff]; unfold firstOff at o0; omega)
    have fo1 : fitsB (l1.getD 0 ⟨0, 0, 0, 0, 0⟩).offset 3 = true := fits3 (by rw [withinB_iff]; unfold firstOff at o1; omega)
    have fo2 : fitsB (l2.getD 0 ⟨0, 0, 0, 0, 0⟩).offset 3 = true := fits3 (by rw [withinB_iff]; unfold firstOff at o2; omega)
    have f0 : fitsB 0 3 = true := rfl
    have L : ∀ b : List UInt8, b.length ≤ 100000 → decide (b.length ≤ 1000000000) = true := fun b hb => decide_eq_true (by omega)
    have L2 : ∀ (b : List UInt8) (n : Nat), n ≤ 24 → b.length ≤ 100000 → decide (n ≤ 1000000 ∧ b.length ≤ 1000000) = true := fun b n hn hb => by simp; omega
    have i0 : ∀ l : List Line, decide (0 ≤ (0 : Int) ∧ (0 : Int) < l.length) = decide (0 < (l.length : Int)) := fun l => by simp
    have sI := flatMap_len items iBytes 5 iBytes_len
    have s0 := flatMap_len l0 lBytes 5 lBytes_len
    have s1 := flatMap_len l1 lBytes 5 lBytes_len
    have s2 := flatMap_len l2 lBytes 5 lBytes_len
    simp only [b, b0, b1, b2, show Int.toNat 1 = 1 from rfl, show Int.toNat 3 = 3 from rfl, putL_fits fp, putL_fits fi, putL_fits fc0, putL_fits fc1, putL_fits fc2, putL_fits fl0, putL_fits fl1, putL_fits fl2, putL_fits fo0, putL_fits fo1, putL_fits fo2, putL_fits f0, fp, fi, fc0, fc1, fc2, fl0, fl1, fl2, fo0, fo1, fo2, f0, hif, w0, w1, w2, cond_true, cond_false, Bool.not_true, Bool.not_false, Bool.and_true, Bool.true_and, decide_true, List.drop_zero, Bool.false_and, i0]
    simp (disch := first | omega | (simp only [List.length_append, leB_length, List.length_nil, sI, s0, s1, s2]; omega)) only [L, L2, cond_true]
    have hx : ∀ l : List Line, ¬ (0 < l.length) → (l.getD 0 ⟨0, 0, 0, 0, 0⟩).offset = 0 := fun l hl => by
      have : l = [] := by cases l with
        | nil => rfl
        | cons _ _ => simp at hl
      rw [this]; rfl
    simp only [stBytes, partBytes, firstOff]
    simp only [Int.natCast_pos]
    by_cases e0 : 0 < l0.length <;> by_cases e1 : 0 < l1.length <;> by_cases e2 : 0 < l2.length <;> simp only [e0, e1, e2, decide_true, decide_false, cond_true, cond_false] <;> simp [e0, e1, e2, hx]
noncomputable def ud_3 := ud_2.addSpec 24 stateBytes_sp
theorem ud_3_laws : FLaws Try.prog s05 ud_3 := ud_2_laws.addEv s05_laws fun args d h => by
  unfold stateBytes_sp at h
  split at h
  · unfold stateBytes_s at h
    have h1 := congrArg Prod.fst (Option.some.inj h)
    obtain rfl : _ = d := congrArg Prod.snd (Option.some.inj h)
    exact ⟨by simp [D.refs], 40, stateBytes_ok _ _ _ _ _ _ _ _ _ _ _ _ h1⟩
  · cases h
end Go.Ev


namespace Go.Ev
open Go.Proofs
set_option maxRecDepth 100000
set_option linter.unusedVariables false
set_option linter.unusedSimpArgs false
/-! ## the same rows -/
/-! ### loop equalW: slices.Equal[[]flume/api.Write,flume/api.Write], region 4 -/
structure equalW_St where
  c : Bool
  l : List Write
  d : Bool
  m : List Write
  i : Nat
def equalW_c (c : Bool) (l : List Write) (d : Bool) (m : List Write) (i : Nat) : Env RC := [(0, .sl (C := RC) .write c l), (1, .sl (C := RC) .write d m), (4, .bool false), (12, .int .i64 (l.length)), (13, .int .i64 (i : Int))]
def equalW_o (c : Bool) (l : List Write) (d : Bool) (m : List Write) (i : Nat) : List (Obj RC) := []
noncomputable def equalW_r (c : Bool) (l : List Write) (d : Bool) (m : List Write) (i : Nat) := rndO s05 ud_3 50 4 40 0 [0, 1, 4, 12, 13] [4] [] (equalW_c c l d m i) (equalW_o c l d m i)
theorem equalW_eq (c : Bool) (l : List Write) (d : Bool) (m : List Write) (i : Nat) : equalW_r c l d m i = (bif decide ((↑i : Int) < (↑(List.length l) : Int)) then bif decide ((0 : Int) ≤ (↑i : Int) ∧ (↑i : Int) < (↑(List.length l) : Int)) then bif decide ((0 : Int) ≤ (↑i : Int) ∧ (↑i : Int) < (↑(List.length m) : Int)) then bif !(Write.key (List.getD l (Int.toNat (↑i : Int)) (Write.mk (0 : Int) (0 : Int))) == Write.key (List.getD m (Int.toNat (↑i : Int)) (Write.mk (0 : Int) (0 : Int))) && (Write.value (List.getD l (Int.toNat (↑i : Int)) (Write.mk (0 : Int) (0 : Int))) == Write.value (List.getD m (Int.toNat (↑i : Int)) (Write.mk (0 : Int) (0 : Int))) && true)) then some ((X.ret, [((4 : Nat), D.bool false)]), []) else some ((X.normal, [((0 : Nat), D.sl RTy.write c l), ((1 : Nat), D.sl RTy.write d m), ((4 : Nat), D.bool false), ((12 : Nat), D.int IntKind.i64 (↑(List.length l) : Int)), ((13 : Nat), D.int IntKind.i64 (IntKind.wrap IntKind.i64 ((↑i : Int) + (1 : Int))))]), []) else none else none else some ((X.exit (0 : Nat), [((4 : Nat), D.bool false)]), [])) := by kernel_rfl
def equalW_fin (c : Bool) (l : List Write) (d : Bool) (m : List Write) (i : Nat) : RT RC := .br (decide (l.drop i = m.drop i)) (.leaf (.exit 0) [(4, .bool false)] []) (.leaf .ret [(4, .bool false)] [])
def equalW_Inv (c : Bool) (l : List Write) (d : Bool) (m : List Write) (i : Nat) : Prop := i ≤ l.length ∧ l.length ≤ 9223372036854775807 ∧ l.length = m.length
def equalW_S : LoopR RC equalW_St where
  k := 0
  canon q := equalW_c q.c q.l q.d q.m q.i
  objs q := equalW_o q.c q.l q.d q.m q.i
  fin q := equalW_fin q.c q.l q.d q.m q.i
  Inv q := equalW_Inv q.c q.l q.d q.m q.i
  μ q := q.l.length - q.i
theorem equalW_round (c : Bool) (l : List Write) (d : Bool) (m : List Write) (i : Nat) (hI : equalW_Inv c l d m i) : Leaf (equalW_r c l d m i) (LedR equalW_S ⟨c, l, d, m, i⟩) := by
  rw [equalW_eq]
  unfold equalW_Inv at hI
  obtain ⟨h1, h2, h3⟩ := hI
  have hlk := lenOK_of h2
  by_cases hlt : i < l.length
  · have w_succ : IntKind.i64.wrap ((i : Int) + 1) = ((i + 1 : Nat) : Int) := by rw [wrap_id (by omega) (by omega)]; simp
    have d_lt : decide ((i : Int) < l.length) = true := by simp; omega
    have d_in : decide (0 ≤ (i : Int) ∧ (i : Int) < l.length) = true := by simp; omega
    have t_nat : ((i : Int)).toNat = i := by simp
    simp only [w_succ, d_lt, d_in, t_nat, cond_true]
    have hlt' : i < m.length := by omega
    have d_in' : decide (0 ≤ (i : Int) ∧ (i : Int) < m.length) = true := by simp; omega
    have hst := drops_step l m i (⟨0, 0⟩ : Write) hlt h3
    simp only [d_in', cond_true, eqWrite]
    generalize l.getD i (⟨0, 0⟩ : Write) = x at hst ⊢
    generalize m.getD i (⟨0, 0⟩ : Write) = y at hst ⊢
    by_cases hxy : x = y
    · simp only [hxy, decide_true, Bool.not_true, cond_false]
      exact leafR_go ⟨c, l, d, m, i + 1⟩ ⟨hlt, h2, h3⟩ (by simp only [equalW_S]; omega) (by simp only [equalW_S, equalW_fin, hst, hxy, decide_true, Bool.true_and]) rfl rfl
    · simp only [hxy, decide_false, Bool.not_false, cond_true]
      exact leafR_ret [] (by simp [equalW_S, equalW_fin, hst, hxy, RT.val]) rfl
  · have hi : i = l.length := by omega
    have c1 : decide ((i : Int) < l.length) = false := by simp; omega
    simp only [c1, cond_false]
    exact leafR_exit [] (by simp only [equalW_S, equalW_fin, drops_end l m i (by omega) (by omega), RT.val, cond_true]) rfl
def equalW_d (env : Env RC) (os : List (Obj RC)) : Option (Bool × equalW_St) := match env, os with
  | [(0, .sl .write c l), (1, .sl .write d m), (4, .bool false), (12, .int .i64 x0), (13, .int .i64 x1)], [] => staticD (true) (decide (x0 = l.length) && decide (x1 = 0) && decide (l.length ≤ 9223372036854775807 ∧ l.length = m.length), ⟨c, l, d, m, 0⟩)
  | _, _ => none
noncomputable def uh_1 := ud_3.addLoop 50 4 (sumR s05 [] [0, 1, 4, 12, 13] equalW_S equalW_d)
theorem uh_1_laws : FLaws Try.prog s05 uh_1 := by
  refine ud_3_laws.addRoundsR s05_laws (by kernel_rfl) equalW_S 40 [0, 1, 4, 12, 13] [4] [] [0, 1, 4, 12, 13] equalW_d (fun q hI => ?_) ?_
  · obtain ⟨c, l, d, m, i⟩ := q
    refine ⟨?_, ?_, equalW_round c l d m i hI⟩
    · simp_all [RefsOK, equalW_S, equalW_c, equalW_o, equalW_Inv, D.refs, Obj.refs, rEnc]
    · simp_all [equalW_S, equalW_fin, equalW_o, equalW_Inv, RT.refsOK, RefsOK, D.refs, Obj.refs, rEnc]
  · intro env os b q hd_ hb
    unfold equalW_d at hd_
    split at hd_
    · obtain ⟨hs, hd_⟩ := staticD_some hd_
      cases hd_
      simp only [Bool.and_eq_true, decide_eq_true_eq] at hb
      obtain ⟨⟨rfl, rfl⟩, hl⟩ := hb
      exact ⟨⟨Nat.zero_le _, hl.1, hl.2⟩, rfl, rfl⟩
    · cases hd_
/-! ### function equalWf: slices.Equal[[]flume/api.Write,flume/api.Write] -/
def equalWf_s (c : Bool) (l : List Write) (d : Bool) (m : List Write) : Option (Bool × D RC) := some (lenOK l.length && lenOK m.length, .bool (decide (l = m)))
def equalWf_sp : List (D RC) → Option (Bool × D RC)
  | [.sl .write c l, .sl .write d m] => equalWf_s c l d m
  | _ => none
noncomputable def equalWf_e (c : Bool) (l : List Write) (d : Bool) (m : List Write) := evF s05 uh_1 40 50 [.sl (C := RC) .write c l, .sl (C := RC) .write d m]
theorem equalWf_eq (c : Bool) (l : List Write) (d : Bool) (m : List Write) : equalWf_e c l d m = (bif lenOK (List.length l) then bif lenOK (List.length m) then bif (↑(List.length l) : Int) != (↑(List.length m) : Int) then some (D.bool false) else bif lenOK (List.length l) then bif decide ((↑(List.length l) : Int) = (↑(List.length l) : Int)) && true && decide (List.length l ≤ (9223372036854775807 : Nat) ∧ List.length l = List.length m) then bif decide (List.drop (0 : Nat) l = List.drop (0 : Nat) m) then some (D.bool true) else some (D.bool false) else none else none else none else none) := by kernel_rfl
theorem equalWf_ok (c : Bool) (l : List Write) (d : Bool) (m : List Write) (h : (lenOK l.length && lenOK m.length) = true) : equalWf_e c l d m = some (.bool (decide (l = m))) := by
  rw [equalWf_eq]
  simp only [Bool.and_eq_true] at h
  have h1 : l.length ≤ 9223372036854775807 := lenOK_le h.1
  simp only [h.1, h.2, cond_true]
  by_cases hl : l.length = m.length
  · have e1 : ((l.length : Int) != (m.length : Int)) = false := by simp [hl]
    have e2 : (l.length ≤ 9223372036854775807 ∧ l.length = m.length) := ⟨h1, hl⟩
    rw [e1, decide_eq_true e2]
    simp only [cond_true, cond_false, List.drop_zero]
    cases decide (l = m) <;> rfl
  · have e1 : ((l.length : Int) != (m.length : Int)) = true := by simp; omega
    have : ¬ l = m := fun e => hl (by rw [e])
    simp [e1, this]
noncomputable def uh_2 := uh_1.addSpec 50 equalWf_sp
theorem uh_2_laws : FLaws Try.prog s05 uh_2 := uh_1_laws.addEv s05_laws fun args d h => by
  unfold equalWf_sp at h
  split at h
  · unfold equalWf_s at h
    have h1 := congrArg Prod.fst (Option.some.inj h)
    obtain rfl : _ = d := congrArg Prod.snd (Option.some.inj h)
    exact ⟨by simp [D.refs], 40, equalWf_ok _ _ _ _ h1⟩
  · cases h
/-! ### loop equalL: slices.Equal[[]flume/api.Line,flume/api.Line], region 4 -/
structure equalL_St where
  c : Bool
  l : List Line
  d : Bool
  m : List Line
  i : Nat
def equalL_c (c : Bool) (l : List Line) (d : Bool) (m : List Line) (i : Nat) : Env RC := [(0, .sl (C := RC) .line c l), (1, .sl (C := RC) .line d m), (4, .bool false), (12, .int .i64 (l.length)), (13, .int .i64 (i : Int))]
def equalL_o (c : Bool) (l : List Line) (d : Bool) (m : List Line) (i : Nat) : List (Obj RC) := []
noncomputable def equalL_r (c : Bool) (l : List Line) (d : Bool) (m : List Line) (i : Nat) := rndO s05 uh_2 51 4 40 0 [0, 1, 4, 12, 13] [4] [] (equalL_c c l d m i) (equalL_o c l d m i)
theorem equalL_eq (c : Bool) (l : List Line) (d : Bool) (m : List Line) (i : Nat) : equalL_r c l d m i = (bif decide ((↑i : Int) < (↑(List.length l) : Int)) then bif decide ((0 : Int) ≤ (↑i : Int) ∧ (↑i : Int) < (↑(List.length l) : Int)) then bif decide ((0 : Int) ≤ (↑i : Int) ∧ (↑i : Int) < (↑(List.length m) : Int)) then bif !(Line.offset (List.getD l (Int.toNat (↑i : Int)) (Line.mk (0 : Int) (0 : Int) (0 : Int) (0 : Int) (0 : Int))) == Line.offset (List.getD m (Int.toNat (↑i : Int)) (Line.mk (0 : Int) (0 : Int) (0 : Int) (0 : Int) (0 : Int))) && (Line.place (List.getD l (Int.toNat (↑i : Int)) (Line.mk (0 : Int) (0 : Int) (0 : Int) (0 : Int) (0 : Int))) == Line.place (List.getD m (Int.toNat (↑i : Int)) (Line.mk (0 : Int) (0 : Int) (0 : Int) (0 : Int) (0 : Int))) && (Line.j (List.getD l (Int.toNat (↑i : Int)) (Line.mk (0 : Int) (0 : Int) (0 : Int) (0 : Int) (0 : Int))) == Line.j (List.getD m (Int.toNat (↑i : Int)) (Line.mk (0 : Int) (0 : Int) (0 : Int) (0 : Int) (0 : Int))) && (Line.key (List.getD l (Int.toNat (↑i : Int)) (Line.mk (0 : Int) (0 : Int) (0 : Int) (0 : Int) (0 : Int))) == Line.key (List.getD m (Int.toNat (↑i : Int)) (Line.mk (0 : Int) (0 : Int) (0 : Int) (0 : Int) (0 : Int))) && (Line.value (List.getD l (Int.toNat (↑i : Int)) (Line.mk (0 : Int) (0 : Int) (0 : Int) (0 : Int) (0 : Int))) == Line.value (List.getD m (Int.toNat (↑i : Int)) (Line.mk (0 : Int) (0 : Int) (0 : Int) (0 : Int) (0 : Int))) && true))))) then some ((X.ret, [((4 : Nat), D.bool false)]), []) else some ((X.normal, [((0 : Nat), D.sl RTy.line c l), ((1 : Nat), D.sl RTy.line d m), ((4 : Nat), D.bool false), ((12 : Nat), D.int IntKind.i64 (↑(List.length l) : Int)), ((13 : Nat), D.int IntKind.i64 (IntKind.wrap IntKind.i64 ((↑i : Int) + (1 : Int))))]), []) else none else none else some ((X.exit (0 : Nat), [((4 : Nat), D.bool false)]), [])) := by kernel_rfl
def equalL_fin (c : Bool) (l : List Line) (d : Bool) (m : List Line) (i : Nat) : RT RC := .br (decide (l.drop i = m.drop i)) (.leaf (.exit 0) [(4, .bool false)] []) (.leaf .ret [(4, .bool false)] [])
def equalL_Inv (c : Bool) (l : List Line) (d : Bool) (m : List Line) (i : Nat) : Prop := i ≤ l.length ∧ l.length ≤ 9223372036854775807 ∧ l.length = m.length
def equalL_S : LoopR RC equalL_St where
  k := 0
  canon q := equalL_c q.c q.l q.d q.m q.i
  objs q := equalL_o q.c q.l q.d q.m q.i
  fin q := equalL_fin q.c q.l q.d q.m q.i
  Inv q := equalL_Inv q.c q.l q.d q.m q.i
  μ q := q.l.length - q.i
theorem equalL_round (c : Bool) (l : List Line) (d : Bool) (m : List Line) (i : Nat) (hI : equalL_Inv c l d m i) : Leaf (equalL_r c l d m i) (LedR equalL_S ⟨c, l, d, m, i⟩) := by
  rw [equalL_eq]
  unfold equalL_Inv at hI
  obtain ⟨h1, h2, h3⟩ := hI
  have hlk := lenOK_of h2
  by_cases hlt : i < l.length
  · have w_succ : IntKind.i64.wrap ((i : Int) + 1) = ((i + 1 : Nat) : Int) := by rw [wrap_id (by omega) (by omega)]; simp
    have d_lt : decide ((i : Int) < l.length) = true := by simp; omega
    have d_in : decide (0 ≤ (i : Int) ∧ (i : Int) < l.length) = true := by simp; omega
    have t_nat : ((i : Int)).toNat = i := by simp
    simp only [w_succ, d_lt, d_in, t_nat, cond_true]
    have hlt' : i < m.length := by omega
    have d_in' : decide (0 ≤ (i : Int) ∧ (i : Int) < m.length) = true := by simp; omega
    have hst := drops_step l m i (⟨0, 0, 0, 0, 0⟩ : Line) hlt h3
    simp only [d_in', cond_true, eqLine]
    generalize l.getD i (⟨0, 0, 0, 0, 0⟩ : Line) = x at hst ⊢
    generalize m.getD i (⟨0, 0, 0, 0, 0⟩ : Line) = y at hst ⊢
    by_cases hxy : x = y
    · simp only [hxy, decide_true, Bool.not_true, cond_false]
      exact leafR_go ⟨c, l, d, m, i + 1⟩ ⟨hlt, h2, h3⟩ (by simp only [equalL_S]; omega) (by simp only [equalL_S, equalL_fin, hst, hxy, decide_true, Bool.true_and]) rfl rfl
    · simp only [hxy, decide_false, Bool.not_false, cond_true]
      exact leafR_ret [] (by simp [equalL_S, equalL_fin, hst, hxy, RT.val]) rfl
  · have hi : i = l.length := by omega
    have c1 : decide ((i : Int) < l.length) = false := by simp; omega
    simp only [c1, cond_false]
    exact leafR_exit [] (by simp only [equalL_S, equalL_fin, drops_end l m i (by omega) (by omega), RT.val, cond_true]) rfl
def equalL_d (env : Env RC) (os : List (Obj RC)) : Option (Bool × equalL_St) := match env, os with
  | [(0, .sl .line c l), (1, .sl .line d m), (4, .bool false), (12, .int .i64 x0), (13, .int .i64 x1)], [] => staticD (true) (decide (x0 = l.length) && decide (x1 = 0) && decide (l.length ≤ 9223372036854775807 ∧ l.length = m.length), ⟨c, l, d, m, 0⟩)
  | _, _ => none
noncomputable def uh_3 := uh_2.addLoop 51 4 (sumR s05 [] [0, 1, 4, 12, 13] equalL_S equalL_d)
theorem uh_3_laws : FLaws Try.prog s05 uh_3 := by
  refine uh_2_laws.addRoundsR s05_laws (by kernel_rfl) equalL_S 40 [0, 1, 4, 12, 13] [4] [] [0, 1, 4, 12, 13] equalL_d (fun q hI => ?_) ?_
  · obtain ⟨c, l, d, m, i⟩ := q
    refine ⟨?_, ?_, equalL_round c l d m i hI⟩
    · simp_all [RefsOK, equalL_S, equalL_c, equalL_o, equalL_Inv, D.refs, Obj.refs, rEnc]
    · simp_all [equalL_S, equalL_fin, equalL_o, equalL_Inv, RT.refsOK, RefsOK, D.refs, Obj.refs, rEnc]
  · intro env os b q hd_ hb
    unfold equalL_d at hd_
    split at hd_
    · obtain ⟨hs, hd_⟩ := staticD_some hd_
      cases hd_
      simp only [Bool.and_eq_true, decide_eq_true_eq] at hb
      obtain ⟨⟨rfl, rfl⟩, hl⟩ := hb
      exact ⟨⟨Nat.zero_le _, hl.1, hl.2⟩, rfl, rfl⟩
    · cases hd_
/-! ### function equalLf: slices.Equal[[]flume/api.Line,flume/api.Line] -/
def equalLf_s (c : Bool) (l : List Line) (d : Bool) (m : List Line) : Option (Bool × D RC) := some (lenOK l.length && lenOK m.length, .bool (decide (l = m)))
def equalLf_sp : List (D RC) → Option (Bool × D RC)
  | [.sl .line c l, .sl .line d m] => equalLf_s c l d m
  | _ => none
noncomputable def equalLf_e (c : Bool) (l : List Line) (d : Bool) (m : List Line) := evF s05 uh_3 40 51 [.sl (C := RC) .line c l, .sl (C := RC) .line d m]
theorem equalLf_eq (c : Bool) (l : List Line) (d : Bool) (m : List Line) : equalLf_e c l d m = (bif lenOK (List.length l) then bif lenOK (List.length m) then bif (↑(List.length l) : Int) != (↑(List.length m) : Int) then some (D.bool false) else bif lenOK (List.length l) then bif decide ((↑(List.length l) : Int) = (↑(List.length l) : Int)) && true && decide (List.length l ≤ (9223372036854775807 : Nat) ∧ List.length l = List.length m) then bif decide (List.drop (0 : Nat) l = List.drop (0 : Nat) m) then some (D.bool true) else some (D.bool false) else none else none else none else none) := by kernel_rfl
theorem equalLf_ok (c : Bool) (l : List Line) (d : Bool) (m : List Line) (h : (lenOK l.length && lenOK m.length) = true) : equalLf_e c l d m = some (.bool (decide (l = m))) := by
  rw [equalLf_eq]
  simp only [Bool.and_eq_true] at h
  have h1 : l.length ≤ 9223372036854775807 := lenOK_le h.1
  simp only [h.1, h.2, cond_true]
  by_cases hl : l.length = m.length
  · have e1 : ((l.length : Int) != (m.length : Int)) = false := by simp [hl]
    have e2 : (l.length ≤ 9223372036854775807 ∧ l.length = m.length) := ⟨h1, hl⟩
    rw [e1, decide_eq_true e2]
    simp only [cond_true, cond_false, List.drop_zero]
    cases decide (l = m) <;> rfl
  · have e1 : ((l.length : Int) != (m.length : Int)) = true := by simp; omega
    have : ¬ l = m := fun e => hl (by rw [e])
    simp [e1, this]
noncomputable def uh_4 := uh_3.addSpec 51 equalLf_sp
theorem uh_4_laws : FLaws Try.prog s05 uh_4 := uh_3_laws.addEv s05_laws fun args d h => by
  unfold equalLf_sp at h
  split at h
  · unfold equalLf_s at h
    have h1 := congrArg Prod.fst (Option.some.inj h)
    obtain rfl : _ = d := congrArg Prod.snd (Option.some.inj h)
    exact ⟨by simp [D.refs], 40, equalLf_ok _ _ _ _ h1⟩
  · cases h
/-! ### loop equalI: slices.Equal[[]flume/api.Item,flume/api.Item], region 4 -/
structure equalI_St where
  c : Bool
  l : List Item
  d : Bool
  m : List Item
  i : Nat
def equalI_c (c : Bool) (l : List Item) (d : Bool) (m : List Item) (i : Nat) : Env RC := [(0, .sl (C := RC) .item c l), (1, .sl (C := RC) .item d m), (4, .bool false), (12, .int .i64 (l.length)), (13, .int .i64 (i : Int))]
def equalI_o (c : Bool) (l : List Item) (d : Bool) (m : List Item) (i : Nat) : List (Obj RC) := []
noncomputable def equalI_r (c : Bool) (l : List Item) (d : Bool) (m : List Item) (i : Nat) := rndO s05 uh_4 52 4 40 0 [0, 1, 4, 12, 13] [4] [] (equalI_c c l d m i) (equalI_o c l d m i)
theorem equalI_eq (c : Bool) (l : List Item) (d : Bool) (m : List Item) (i : Nat) : equalI_r c l d m i = (bif decide ((↑i : Int) < (↑(List.length l) : Int)) then bif decide ((0 : Int) ≤ (↑i : Int) ∧ (↑i : Int) < (↑(List.length l) : Int)) then bif decide ((0 : Int) ≤ (↑i : Int) ∧ (↑i : Int) < (↑(List.length m) : Int)) then bif !(Item.key (List.getD l (Int.toNat (↑i : Int)) (Item.mk (0 : Int) (0 : Int) (0 : Int))) == Item.key (List.getD m (Int.toNat (↑i : Int)) (Item.mk (0 : Int) (0 : Int) (0 : Int))) && (Item.place (List.getD l (Int.toNat (↑i : Int)) (Item.mk (0 : Int) (0 : Int) (0 : Int))) == Item.place (List.getD m (Int.toNat (↑i : Int)) (Item.mk (0 : Int) (0 : Int) (0 : Int))) && (Item.value (List.getD l (Int.toNat (↑i : Int)) (Item.mk (0 : Int) (0 : Int) (0 : Int))) == Item.value (List.getD m (Int.toNat (↑i : Int)) (Item.mk (0 : Int) (0 : Int) (0 : Int))) && true))) then some ((X.ret, [((4 : Nat), D.bool false)]), []) else some ((X.normal, [((0 : Nat), D.sl RTy.item c l), ((1 : Nat), D.sl RTy.item d m), ((4 : Nat), D.bool false), ((12 : Nat), D.int IntKind.i64 (↑(List.length l) : Int)), ((13 : Nat), D.int IntKind.i64 (IntKind.wrap IntKind.i64 ((↑i : Int) + (1 : Int))))]), []) else none else none else some ((X.exit (0 : Nat), [((4 : Nat), D.bool false)]), [])) := by kernel_rfl
def equalI_fin (c : Bool) (l : List Item) (d : Bool) (m : List Item) (i : Nat) : RT RC := .br (decide (l.drop i = m.drop i)) (.leaf (.exit 0) [(4, .bool false)] []) (.leaf .ret [(4, .bool false)] [])
def equalI_Inv (c : Bool) (l : List Item) (d : Bool) (m : List Item) (i : Nat) : Prop := i ≤ l.length ∧ l.length ≤ 9223372036854775807 ∧ l.length = m.length
def equalI_S : LoopR RC equalI_St where
  k := 0
  canon q := equalI_c q.c q.l q.d q.m q.i
  objs q := equalI_o q.c q.l q.d q.m q.i
  fin q := equalI_fin q.c q.l q.d q.m q.i
  Inv q := equalI_Inv q.c q.l q.d q.m q.i
  μ q := q.l.length - q.i
theorem equalI_round (c : Bool) (l : List Item) (d : Bool) (m : List Item) (i : Nat) (hI : equalI_Inv c l d m i) : Leaf (equalI_r c l d m i) (LedR equalI_S ⟨c, l, d, m, i⟩) := by
  rw [equalI_eq]
  unfold equalI_Inv at hI
  obtain ⟨h1, h2, h3⟩ := hI
  have hlk := lenOK_of h2
  by_cases hlt : i < l.length
  · have w_succ : IntKind.i64.wrap ((i : Int) + 1) = ((i + 1 : Nat) : Int) := by rw [wrap_id (by omega) (by omega)]; simp
    have d_lt : decide ((i : Int) < l.length) = true := by simp; omega
    have d_in : decide (0 ≤ (i : Int) ∧ (i : Int) < l.length) = true := by simp; omega
    have t_nat : ((i : Int)).toNat = i := by simp
    simp only [w_succ, d_lt, d_in, t_nat, cond_true]
    have hlt' : i < m.length := by omega
    have d_in' : decide (0 ≤ (i : Int) ∧ (i : Int) < m.length) = true := by simp; omega
    have hst := drops_step l m i (⟨0, 0, 0⟩ : Item) hlt h3
    simp only [d_in', cond_true, eqItem]
    generalize l.getD i (⟨0, 0, 0⟩ : Item) = x at hst ⊢
    generalize m.getD i (⟨0, 0, 0⟩ : Item) = y at hst ⊢
    by_cases hxy : x = y
    · simp only [hxy, decide_true, Bool.not_true, cond_false]
      exact leafR_go ⟨c, l, d, m, i + 1⟩ ⟨hlt, h2, h3⟩ (by simp only [equalI_S]; omega) (by simp only [equalI_S, equalI_fin, hst, hxy, decide_true, Bool.true_and]) rfl rfl
    · simp only [hxy, decide_false, Bool.not_false, cond_true]
      exact leafR_ret [] (by simp [equalI_S, equalI_fin, hst, hxy, RT.val]) rfl
  · have hi : i = l.length := by omega
    have c1 : decide ((i : Int) < l.length) = false := by simp; omega
    simp only [c1, cond_false]
    exact leafR_exit [] (by simp only [equalI_S, equalI_fin, drops_end l m i (by omega) (by omega), RT.val, cond_true]) rfl
def equalI_d (env : Env RC) (os : List (Obj RC)) : Option (Bool × equalI_St) := match env, os with
  | [(0, .sl .item c l), (1, .sl .item d m), (4, .bool false), (12, .int .i64 x0), (13, .int .i64 x1)], [] => staticD (true) (decide (x0 = l.length) && decide (x1 = 0) && decide (l.length ≤ 9223372036854775807 ∧ l.length = m.length), ⟨c, l, d, m, 0⟩)
  | _, _ => none
noncomputable def uh_5 := uh_4.addLoop 52 4 (sumR s05 [] [0, 1, 4, 12, 13] equalI_S equalI_d)
theorem uh_5_laws : FLaws Try.prog s05 uh_5 := by
  refine uh_4_laws.addRoundsR s05_laws (by kernel_rfl) equalI_S 40 [0, 1, 4, 12, 13] [4] [] [0, 1, 4, 12, 13] equalI_d (fun q hI => ?_) ?_
  · obtain ⟨c, l, d, m, i⟩ := q
    refine ⟨?_, ?_, equalI_round c l d m i hI⟩
    · simp_all [RefsOK, equalI_S, equalI_c, equalI_o, equalI_Inv, D.refs, Obj.refs, rEnc]
    · simp_all [equalI_S, equalI_fin, equalI_o, equalI_Inv, RT.refsOK, RefsOK, D.refs, Obj.refs, rEnc]
  · intro env os b q hd_ hb
    unfold equalI_d at hd_
    split at hd_
    · obtain ⟨hs, hd_⟩ := staticD_some hd_
      cases hd_
      simp only [Bool.and_eq_true, decide_eq_true_eq] at hb
      obtain ⟨⟨rfl, rfl⟩, hl⟩ := hb
      exact ⟨⟨Nat.zero_le _, hl.1, hl.2⟩, rfl, rfl⟩
    · cases hd_
/-! ### function equalIf: slices.Equal[[]flume/api.Item,flume/api.Item] -/
def equalIf_s (c : Bool) (l : List Item) (d : Bool) (m : List Item) : Option (Bool × D RC) := some (lenOK l.length && lenOK m.length, .bool (decide (l = m)))
def equalIf_sp : List (D RC) → Option (Bool × D RC)
  | [.sl .item c l, .sl .item d m] => equalIf_s c l d m
  | _ => none
noncomputable def equalIf_e (c : Bool) (l : List Item) (d : Bool) (m : List Item) := evF s05 uh_5 40 52 [.sl (C := RC) .item c l, .sl (C := RC) .item d m]
theorem equalIf_eq (c : Bool) (l : List Item) (d : Bool) (m : List Item) : equalIf_e c l d m = (bif lenOK (List.length l) then bif lenOK (List.length m) then bif (↑(List.length l) : Int) != (↑(List.length m) : Int) then some (D.bool false) else bif lenOK (List.length l) then bif decide ((↑(List.length l) : Int) = (↑(List.length l) : Int)) && true && decide (List.length l ≤ (9223372036854775807 : Nat) ∧ List.length l = List.length m) then bif decide (List.drop (0 : Nat) l = List.drop (0 : Nat) m) then some (D.bool true) else some (D.bool false) else none else none else none else none) := by kernel_rfl
theorem equalIf_ok (c : Bool) (l : List Item) (d : Bool) (m : List Item) (h : (lenOK l.length && lenOK m.length) = true) : equalIf_e c l d m = some (.bool (decide (l = m))) := by
  rw [equalIf_eq]
  simp only [Bool.and_eq_true] at h
  have h1 : l.length ≤ 9223372036854775807 := lenOK_le h.1
  simp only [h.1, h.2, cond_true]
  by_cases hl : l.length = m.length
  · have e1 : ((l.length : Int) != (m.length : Int)) = false := by simp [hl]
    have e2 : (l.length ≤ 9223372036854775807 ∧ l.length = m.length) := ⟨h1, hl⟩
    rw [e1, decide_eq_true e2]
    simp only [cond_true, cond_false, List.drop_zero]
    cases decide (l = m) <;> rfl
  · have e1 : ((l.length : Int) != (m.length : Int)) = true := by simp; omega
    have : ¬ l = m := fun e => hl (by rw [e])
    simp [e1, this]
noncomputable def uh_6 := uh_5.addSpec 52 equalIf_sp
theorem uh_6_laws : FLaws Try.prog s05 uh_6 := uh_5_laws.addEv s05_laws fun args d h => by
  unfold equalIf_sp at h
  split at h
  · unfold equalIf_s at h
    have h1 := congrArg Prod.fst (Option.some.inj h)
    obtain rfl : _ = d := congrArg Prod.snd (Option.some.inj h)
    exact ⟨by simp [D.refs], 40, equalIf_ok _ _ _ _ h1⟩
  · cases h
/-! ### function sameP: flume/record.Same -/
def sameP_s (p : Int) (y : Bool) (c : Bool) (l : List Write) (q : Int) (z : Bool) (d : Bool) (m : List Write) : Option (Bool × D RC) := some (lenOK l.length && lenOK m.length, .bool (decide ((⟨p, y, l⟩ : Rec) = ⟨q, z, m⟩)))
def sameP_sp : List (D RC) → Option (Bool × D RC)
  | [.acons (.int .i64 p) (.acons (.bool y) (.acons (.sl .write c l) .anil)), .acons (.int .i64 q) (.acons (.bool z) (.acons (.sl .write d m) .anil))] => sameP_s p y c l q z d m
  | _ => none
noncomputable def sameP_e (p : Int) (y : Bool) (c : Bool) (l : List Write) (q : Int) (z : Bool) (d : Bool) (m : List Write) := evF s05 uh_6 40 29 [.acons (.int .i64 p) (.acons (.bool y) (.acons (.sl (C := RC) .write c l) .anil)), .acons (.int .i64 q) (.acons (.bool z) (.acons (.sl (C := RC) .write d m) .anil))]
theorem sameP_eq (p : Int) (y : Bool) (c : Bool) (l : List Write) (q : Int) (z : Bool) (d : Bool) (m : List Write) : sameP_e p y c l q z d m = (bif p == q then bif y == z then bif lenOK (List.length l) && lenOK (List.length m) then some (D.bool (decide (l = m))) else none else some (D.bool false) else some (D.bool false)) := by kernel_rfl
theorem sameP_ok (p : Int) (y : Bool) (c : Bool) (l : List Write) (q : Int) (z : Bool) (d : Bool) (m : List Write) (h : (lenOK l.length && lenOK m.length) = true) : sameP_e p y c l q z d m = some (.bool (decide ((⟨p, y, l⟩ : Rec) = ⟨q, z, m⟩))) := by
  rw [sameP_eq]
  simp only [h, cond_true]
  by_cases h1 : p = q <;> by_cases h2 : y = z <;> by_cases h3 : l = m <;> simp [h1, h2, h3, bne, beqD]
noncomputable def uh_7 := uh_6.addSpec 29 sameP_sp
theorem uh_7_laws : FLaws Try.prog s05 uh_7 := uh_6_laws.addEv s05_laws fun args d h => by
  unfold sameP_sp at h
  split at h
  · unfold sameP_s at h
    have h1 := congrArg Prod.fst (Option.some.inj h)
    obtain rfl : _ = d := congrArg Prod.snd (Option.some.inj h)
    exact ⟨by simp [D.refs], 40, sameP_ok _ _ _ _ _ _ _ _ h1⟩
  · cases h
/-! ### function sameStP: flume/record.SameState -/
def sameStP_s (p : Int) (ci : Bool) (items : List Item) (k0 : Bool) (k1 : Bool) (k2 : Bool) (l0 : List Line) (l1 : List Line) (l2 : List Line) (c0 : Int) (c1 : Int) (c2 : Int) (q : Int) (di : Bool) (jtems : List Item) (j0 : Bool) (j1 : Bool) (j2 : Bool) (m0 : List Line) (m1 : List Line) (m2 : List Line) (d0 : Int) (d1 : Int) (d2 : Int) : Option (Bool × D RC) := some (lenOK items.length && lenOK jtems.length && (lenOK l0.length && lenOK m0.length) && (lenOK l1.length && lenOK m1.length) && (lenOK l2.length && lenOK m2.length), .bool (decide ((⟨p, items, l0, l1, l2, c0, c1, c2⟩ : St) = ⟨q, jtems, m0, m1, m2, d0, d1, d2⟩)))
def sameStP_sp : List (D RC) → Option (Bool × D RC)
  | [.acons (.int .i64 p) (.acons (.sl .item ci items) (.acons (.acons (.sl .line k0 l0) (.acons (.sl .line k1 l1) (.acons (.sl .line k2 l2) .anil))) (.acons (.arr .int 3 [c0, c1, c2]) .anil))), .acons (.int .i64 q) (.acons (.sl .item di jtems) (.acons (.acons (.sl .line j0 m0) (.acons (.sl .line j1 m1) (.acons (.sl .line j2 m2) .anil))) (.acons (.arr .int 3 [d0, d1, d2]) .anil)))] => sameStP_s p ci items k0 k1 k2 l0 l1 l2 c0 c1 c2 q di jtems j0 j1 j2 m0 m1 m2 d0 d1 d2
  | _ => none
noncomputable def sameStP_e (p : Int) (ci : Bool) (items : List Item) (k0 : Bool) (k1 : Bool) (k2 : Bool) (l0 : List Line) (l1 : List Line) (l2 : List Line) (c0 : Int) (c1 : Int) (c2 : Int) (q : Int) (di : Bool) (jtems : List Item) (j0 : Bool) (j1 : Bool) (j2 : Bool) (m0 : List Line) (m1 : List Line) (m2 : List Line) (d0 : Int) (d1 : Int) (d2 : Int) := evF s05 uh_7 40 30 [.acons (.int .i64 p) (.acons (.sl (C := RC) .item ci items) (.acons (.acons (.sl (C := RC) .line k0 l0) (.acons (.sl (C := RC) .line k1 l1) (.acons (.sl (C := RC) .line k2 l2) .anil))) (.acons (.arr (C := RC) .int 3 [c0, c1, c2]) .anil))), .acons (.int .i64 q) (.acons (.sl (C := RC) .item di jtems) (.acons (.acons (.sl (C := RC) .line j0 m0) (.acons (.sl (C := RC) .line j1 m1) (.acons (.sl (C := RC) .line j2 m2) .anil))) (.acons (.arr (C := RC) .int 3 [d0, d1, d2]) .anil)))]
theorem sameStP_eq (p : Int) (ci : Bool) (items : List Item) (k0 : Bool) (k1 : Bool) (k2 : Bool) (l0 : List Line) (l1 : List Line) (l2 : List Line) (c0 : Int) (c1 : Int) (c2 : Int) (q : Int) (di : Bool) (jtems : List Item) (j0 : Bool) (j1 : Bool) (j2 : Bool) (m0 : List Line) (m1 : List Line) (m2 : List Line) (d0 : Int) (d1 : Int) (d2 : Int) : sameStP_e p ci items k0 k1 k2 l0 l1 l2 c0 c1 c2 q di jtems j0 j1 j2 m0 m1 m2 d0 d1 d2 = (bif lenOK (List.length l0) && lenOK (List.length m0) then bif !decide (l0 = m0) then some (D.bool false) else bif lenOK (List.length l1) && lenOK (List.length m1) then bif !decide (l1 = m1) then some (D.bool false) else bif lenOK (List.length l2) && lenOK (List.length m2) then bif !decide (l2 = m2) then some (D.bool false) else bif p == q then bif c0 == d0 && (c1 == d1 && (c2 == d2 && true)) then bif lenOK (List.length items) && lenOK (List.length jtems) then some (D.bool (decide (items = jtems))) else none else some (D.bool false) else some (D.bool false) else none else none else none) := by kernel_rfl
theorem sameStP_ok (p : Int) (ci : Bool) (items : List Item) (k0 : Bool) (k1 : Bool) (k2 : Bool) (l0 : List Line) (l1 : List Line) (l2 : List Line) (c0 : Int) (c1 : Int) (c2 : Int) (q : Int) (di : Bool) (jtems : List Item) (j0 : Bool) (j1 : Bool) (j2 : Bool) (m0 : List Line) (m1 : List Line) (m2 : List Line) (d0 : Int) (d1 : Int) (d2 : Int) (h : (lenOK items.length && lenOK jtems.length && (lenOK l0.length && lenOK m0.length) && (lenOK l1.length && lenOK m1.length) && (lenOK l2.length && lenOK m2.length)) = true) : sameStP_e p ci items k0 k1 k2 l0 l1 l2 c0 c1 c2 q di jtems j0 j1 j2 m0 m1 m2 d0 d1 d2 = some (.bool (decide ((⟨p, items, l0, l1, l2, c0, c1, c2⟩ : St) = ⟨q, jtems, m0, m1, m2, d0, d1, d2⟩))) := by
  rw [sameStP_eq]
  simp only [Bool.and_eq_true] at h
  obtain ⟨⟨⟨⟨a1, a2⟩, b1, b2⟩, b3, b4⟩, b5, b6⟩ := h
  simp only [a1, a2, b1, b2, b3, b4, b5, b6, Bool.and_true, cond_true]
  by_cases h1 : l0 = m0 <;> by_cases h2 : l1 = m1 <;> by_cases h3 : l2 = m2 <;> by_cases h4 : p = q <;> by_cases h5 : c0 = d0 <;> by_cases h6 : c1 = d1 <;> by_cases h7 : c2 = d2 <;> by_cases h8 : items = jtems <;> simp [h1, h2, h3, h4, h5, h6, h7, h8, bne, beqD]
noncomputable def uh_8 := uh_7.addSpec 30 sameStP_sp
theorem uh_8_laws : FLaws Try.prog s05 uh_8 := uh_7_laws.addEv s05_laws fun args d h => by
  unfold sameStP_sp at h
  split at h
  · unfold sameStP_s at h
    have h1 := congrArg Prod.fst (Option.some.inj h)
    obtain rfl : _ = d := congrArg Prod.snd (Option.some.inj h)
    exact ⟨by simp [D.refs], 40, sameStP_ok _ _ _ _ _ _ _ _ _ _ _ _ _ _ _ _ _ _ _ _ _ _ _ _ h1⟩
  · cases h
end Go.Ev

