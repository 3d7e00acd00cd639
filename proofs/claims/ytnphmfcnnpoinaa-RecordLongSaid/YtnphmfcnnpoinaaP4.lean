/-
  RecordLong returns true for any bytes and any byte more, and they read behind the call as before. No condition beyond the given statement. (text 5 of 5)
-/
import Derived.Test.YtnphmfcnnpoinaaP3
import Derived.OpenShut
import Derived.ReadAgain
import Derived.WalkKit
import Derived.ProofKit
import Derived.Test.YtnphmfcnnpoinaaRows
namespace Go.Ev
open Go.Proofs
set_option maxRecDepth 100000
set_option linter.unusedVariables false
set_option linter.unusedSimpArgs false
/-! ### loop rsQ: flume/record.ReadState, region 11 -/
structure rsQ_St where
  c : Bool
  b : List UInt8
  bad : Bool
  pl : Int
  its : List Item
  l0 : List Line
  l1 : List Line
  l2 : List Line
  c0 : Int
  c1 : Int
  c2 : Int
  q : Nat
def rsQ_c (c : Bool) (b : List UInt8) (bad : Bool) (pl : Int) (its : List Item) (l0 : List Line) (l1 : List Line) (l2 : List Line) (c0 : Int) (c1 : Int) (c2 : Int) (q : Nat) : Env RC := [(4, .ptr 0 []), (5, .ptr 1 []), (39, .int .i64 (q : Int))]
def rsQ_o (c : Bool) (b : List UInt8) (bad : Bool) (pl : Int) (its : List Item) (l0 : List Line) (l1 : List Line) (l2 : List Line) (c0 : Int) (c1 : Int) (c2 : Int) (q : Nat) : List (Obj RC) := [.var 74 (.acons (.sl (C := RC) .u8 c b) (.acons (.bool bad) .anil)), .var 33 (.acons (.int .i64 pl) (.acons (.vs 2 (its.length)) (.acons (.acons (.vs 3 (l0.length)) (.acons (.vs 4 (l1.length)) (.acons (.vs 5 (l2.length)) .anil))) (.acons (.arr (C := RC) .int 3 [c0, c1, c2]) .anil)))), .vec (C := RC) .item true its, .vec (C := RC) .line true l0, .vec (C := RC) .line true l1, .vec (C := RC) .line true l2]
noncomputable def rsQ_r (c : Bool) (b : List UInt8) (bad : Bool) (pl : Int) (its : List Item) (l0 : List Line) (l1 : List Line) (l2 : List Line) (c0 : Int) (c1 : Int) (c2 : Int) (q : Nat) := rndO s05 um_2 19 11 60 6 [4, 5, 39] [] [.slot 4 0, .slot 5 0, .path 1 [1], .path 1 [2, 0], .path 1 [2, 1], .path 1 [2, 2]] (rsQ_c c b bad pl its l0 l1 l2 c0 c1 c2 q) (rsQ_o c b bad pl its l0 l1 l2 c0 c1 c2 q)
theorem rsQ_eq0 (c : Bool) (b : List UInt8) (bad : Bool) (pl : Int) (its : List Item) (l0 l1 l2 : List Line) (c0 c1 c2 : Int) : rsQ_r c b bad pl its l0 l1 l2 c0 c1 c2 0 = (bif decide (List.length b ≤ (1000000000000 : Nat)) then bif Prod.snd (getP b (0 : Int) (3 : Int)) != (0 : Int) then bif decide (List.length its = List.length its) && decide (List.length l0 = List.length l0) && decide (List.length l1 = List.length l1) && decide (List.length l2 = List.length l2) && decide ((0 : Int) ≤ (0 : Int) ∧ (0 : Int) ≤ (255 : Int) ∧ (0 : Nat) ≤ (1000000 : Nat) ∧ (List.length l0 ≤ (1000 : Nat) ∧ List.length l1 ≤ (1000 : Nat) ∧ List.length l2 ≤ (1000 : Nat)) ∧ ((0 : Int) ≤ (0 : Int) ∧ (0 : Int) ≤ (2 : Int)) ∧ (0 : Int) ≤ (0 : Int) ∧ (0 : Int) ≤ (16777215 : Int)) then some ((X.normal, [((4 : Nat), D.ptr (0 : Nat) []), ((5 : Nat), D.ptr (1 : Nat) []), ((39 : Nat), D.int IntKind.i64 (1 : Int))]), [some (Obj.var (74 : Nat) (D.acons (D.sl RTy.u8 true (Rd.b (Prod.fst (gLines rdP false (0 : Nat) (0 : Int) (Rd.mk true [] true))))) (D.acons (D.bool true) D.anil))), some (Obj.var (33 : Nat) (D.acons (D.int IntKind.i64 pl) (D.acons (D.vs (2 : Nat) (List.length its)) (D.acons (D.acons (D.vs (3 : Nat) (List.length (addL (0 : Int) (0 : Int) l0 (Prod.snd (gLines rdP false (0 : Nat) (0 : Int) (Rd.mk true [] true)))))) (D.acons (D.vs (4 : Nat) (List.length (addL (0 : Int) (1 : Int) l1 (Prod.snd (gLines rdP false (0 : Nat) (0 : Int) (Rd.mk true [] true)))))) (D.acons (D.vs (5 : Nat) (List.length (addL (0 : Int) (2 : Int) l2 (Prod.snd (gLines rdP false (0 : Nat) (0 : Int) (Rd.mk true [] true)))))) D.anil))) (D.acons (D.arr RTy.int (3 : Nat) [(0 : Int), c1, c2]) D.anil))))), some (Obj.vec RTy.item true its), some (Obj.vec RTy.line true (addL (0 : Int) (0 : Int) l0 (Prod.snd (gLines rdP false (0 : Nat) (0 : Int) (Rd.mk true [] true))))), some (Obj.vec RTy.line true (addL (0 : Int) (1 : Int) l1 (Prod.snd (gLines rdP false (0 : Nat) (0 : Int) (Rd.mk true [] true))))), some (Obj.vec RTy.line true (addL (0 : Int) (2 : Int) l2 (Prod.snd (gLines rdP false (0 : Nat) (0 : Int) (Rd.mk true [] true)))))]) else none else bif decide ((0 : Int) ≤ (3 : Int) ∧ (3 : Int) ≤ (↑(List.length b) : Int)) then bif decide (List.length (List.drop (3 : Nat) b) ≤ (1000000000000 : Nat)) then bif Prod.snd (getP (List.drop (3 : Nat) b) (0 : Int) (1 : Int)) != (0 : Int) then bif decide (List.length its = List.length its) && decide (List.length l0 = List.length l0) && decide (List.length l1 = List.length l1) && decide (List.length l2 = List.length l2) && decide ((0 : Int) ≤ (0 : Int) ∧ (0 : Int) ≤ (255 : Int) ∧ (0 : Nat) ≤ (1000000 : Nat) ∧ (List.length l0 ≤ (1000 : Nat) ∧ List.length l1 ≤ (1000 : Nat) ∧ List.length l2 ≤ (1000 : Nat)) ∧ ((0 : Int) ≤ (0 : Int) ∧ (0 : Int) ≤ (2 : Int)) ∧ (0 : Int) ≤ (0 : Int) ∧ (0 : Int) ≤ (16777215 : Int)) then some ((X.normal, [((4 : Nat), D.ptr (0 : Nat) []), ((5 : Nat), D.ptr (1 : Nat) []), ((39 : Nat), D.int IntKind.i64 (1 : Int))]), [some (Obj.var (74 : Nat) (D.acons (D.sl RTy.u8 true (Rd.b (Prod.fst (gLines rdP false (0 : Nat) (0 : Int) (Rd.mk true [] true))))) (D.acons (D.bool true) D.anil))), some (Obj.var (33 : Nat) (D.acons (D.int IntKind.i64 pl) (D.acons (D.vs (2 : Nat) (List.length its)) (D.acons (D.acons (D.vs (3 : Nat) (List.length (addL (0 : Int) (0 : Int) l0 (Prod.snd (gLines rdP false (0 : Nat) (0 : Int) (Rd.mk true [] true)))))) (D.acons (D.vs (4 : Nat) (List.length (addL (0 : Int) (1 : Int) l1 (Prod.snd (gLines rdP false (0 : Nat) (0 : Int) (Rd.mk true [] true)))))) (D.acons (D.vs (5 : Nat) (List.length (addL (0 : Int) (2 : Int) l2 (Prod.snd (gLines rdP false (0 : Nat) (0 : Int) (Rd.mk true [] true)))))) D.anil))) (D.acons (D.arr RTy.int (3 : Nat) [Prod.fst (getP b (0 : Int) (3 : Int)), c1, c2]) D.anil))))), some (Obj.vec RTy.item true its), some (Obj.vec RTy.line true (addL (0 : Int) (0 : Int) l0 (Prod.snd (gLines rdP false (0 : Nat) (0 : Int) (Rd.mk true [] true))))), some (Obj.vec RTy.line true (addL (0 : Int) (1 : Int) l1 (Prod.snd (gLines rdP false (0 : Nat) (0 : Int) (Rd.mk true [] true))))), some (Obj.vec RTy.line true (addL (0 : Int) (2 : Int) l2 (Prod.snd (gLines rdP false (0 : Nat) (0 : Int) (Rd.mk true [] true)))))]) else none else bif decide ((0 : Int) ≤ (1 : Int) ∧ (1 : Int) ≤ (↑(List.length (List.drop (3 : Nat) b)) : Int)) then bif decide (List.length (List.drop (1 : Nat) (List.drop (3 : Nat) b)) ≤ (1000000000000 : Nat)) then bif Prod.snd (getP (List.drop (1 : Nat) (List.drop (3 : Nat) b)) (0 : Int) (3 : Int)) != (0 : Int) then bif decide (List.length its = List.length its) && decide (List.length l0 = List.length l0) && decide (List.length l1 = List.length l1) && decide (List.length l2 = List.length l2) && decide ((0 : Int) ≤ Prod.fst (getP (List.drop (3 : Nat) b) (0 : Int) (1 : Int)) ∧ Prod.fst (getP (List.drop (3 : Nat) b) (0 : Int) (1 : Int)) ≤ (255 : Int) ∧ (0 : Nat) ≤ (1000000 : Nat) ∧ (List.length l0 ≤ (1000 : Nat) ∧ List.length l1 ≤ (1000 : Nat) ∧ List.length l2 ≤ (1000 : Nat)) ∧ ((0 : Int) ≤ (0 : Int) ∧ (0 : Int) ≤ (2 : Int)) ∧ (0 : Int) ≤ (0 : Int) ∧ (0 : Int) ≤ (16777215 : Int)) then some ((X.normal, [((4 : Nat), D.ptr (0 : Nat) []), ((5 : Nat), D.ptr (1 : Nat) []), ((39 : Nat), D.int IntKind.i64 (1 : Int))]), [some (Obj.var (74 : Nat) (D.acons (D.sl RTy.u8 (Rd.c (Prod.fst (gLines rdP false (Int.toNat (Prod.fst (getP (List.drop (3 : Nat) b) (0 : Int) (1 : Int))) - (0 : Nat)) (0 : Int) (Rd.mk true [] true)))) (Rd.b (Prod.fst (gLines rdP false (Int.toNat (Prod.fst (getP (List.drop (3 : Nat) b) (0 : Int) (1 : Int))) - (0 : Nat)) (0 : Int) (Rd.mk true [] true))))) (D.acons (D.bool (Rd.bad (Prod.fst (gLines rdP false (Int.toNat (Prod.fst (getP (List.drop (3 : Nat) b) (0 : Int) (1 : Int))) - (0 : Nat)) (0 : Int) (Rd.mk true [] true))))) D.anil))), some (Obj.var (33 : Nat) (D.acons (D.int IntKind.i64 pl) (D.acons (D.vs (2 : Nat) (List.length its)) (D.acons (D.acons (D.vs (3 : Nat) (List.length (addL (0 : Int) (0 : Int) l0 (Prod.snd (gLines rdP false (Int.toNat (Prod.fst (getP (List.drop (3 : Nat) b) (0 : Int) (1 : Int))) - (0 : Nat)) (0 : Int) (Rd.mk true [] true)))))) (D.acons (D.vs (4 : Nat) (List.length (addL (0 : Int) (1 : Int) l1 (Prod.snd (gLines rdP false (Int.toNat (Prod.fst (getP (List.drop (3 : Nat) b) (0 : Int) (1 : Int))) - (0 : Nat)) (0 : Int) (Rd.mk true [] true)))))) (D.acons (D.vs (5 : Nat) (List.length (addL (0 : Int) (2 : Int) l2 (Prod.snd (gLines rdP false (Int.toNat (Prod.fst (getP (List.drop (3 : Nat) b) (0 : Int) (1 : Int))) - (0 : Nat)) (0 : Int) (Rd.mk true [] true)))))) D.anil))) (D.acons (D.arr RTy.int (3 : Nat) [Prod.fst (getP b (0 : Int) (3 : Int)), c1, c2]) D.anil))))), some (Obj.vec RTy.item true its), some (Obj.vec RTy.line true (addL (0 : Int) (0 : Int) l0 (Prod.snd (gLines rdP false (Int.toNat (Prod.fst (getP (List.drop (3 : Nat) b) (0 : Int) (1 : Int))) - (0 : Nat)) (0 : Int) (Rd.mk true [] true))))), some (Obj.vec RTy.line true (addL (0 : Int) (1 : Int) l1 (Prod.snd (gLines rdP false (Int.toNat (Prod.fst (getP (List.drop (3 : Nat) b) (0 : Int) (1 : Int))) - (0 : Nat)) (0 : Int) (Rd.mk true [] true))))), some (Obj.vec RTy.line true (addL (0 : Int) (2 : Int) l2 (Prod.snd (gLines rdP false (Int.toNat (Prod.fst (getP (List.drop (3 : Nat) b) (0 : Int) (1 : Int))) - (0 : Nat)) (0 : Int) (Rd.mk true [] true)))))]) else none else bif decide ((0 : Int) ≤ (3 : Int) ∧ (3 : Int) ≤ (↑(List.length (List.drop (1 : Nat) (List.drop (3 : Nat) b))) : Int)) then bif bad then bif decide (List.length its = List.length its) && decide (List.length l0 = List.length l0) && decide (List.length l1 = List.length l1) && decide (List.length l2 = List.length l2) && decide ((0 : Int) ≤ Prod.fst (getP (List.drop (3 : Nat) b) (0 : Int) (1 : Int)) ∧ Prod.fst (getP (List.drop (3 : Nat) b) (0 : Int) (1 : Int)) ≤ (255 : Int) ∧ List.length (List.drop (3 : Nat) (List.drop (1 : Nat) (List.drop (3 : Nat) b))) ≤ (1000000 : Nat) ∧ (List.length l0 ≤ (1000 : Nat) ∧ List.length l1 ≤ (1000 : Nat) ∧ List.length l2 ≤ (1000 : Nat)) ∧ ((0 : Int) ≤ (0 : Int) ∧ (0 : Int) ≤ (2 : Int)) ∧ (0 : Int) ≤ Prod.fst (getP (List.drop (1 : Nat) (List.drop (3 : Nat) b)) (0 : Int) (3 : Int)) ∧ Prod.fst (getP (List.drop (1 : Nat) (List.drop (3 : Nat) b)) (0 : Int) (3 : Int)) ≤ (16777215 : Int)) then some ((X.normal, [((4 : Nat), D.ptr (0 : Nat) []), ((5 : Nat), D.ptr (1 : Nat) []), ((39 : Nat), D.int IntKind.i64 (1 : Int))]), [some (Obj.var (74 : Nat) (D.acons (D.sl RTy.u8 (Rd.c (Prod.fst (gLines rdP false (Int.toNat (Prod.fst (getP (List.drop (3 : Nat) b) (0 : Int) (1 : Int))) - (0 : Nat)) (Prod.fst (getP (List.drop (1 : Nat) (List.drop (3 : Nat) b)) (0 : Int) (3 : Int)) + (0 : Int)) (Rd.mk c (List.drop (3 : Nat) (List.drop (1 : Nat) (List.drop (3 : Nat) b))) true)))) (Rd.b (Prod.fst (gLines rdP false (Int.toNat (Prod.fst (getP (List.drop (3 : Nat) b) (0 : Int) (1 : Int))) - (0 : Nat)) (Prod.fst (getP (List.drop (1 : Nat) (List.drop (3 : Nat) b)) (0 : Int) (3 : Int)) + (0 : Int)) (Rd.mk c (List.drop (3 : Nat) (List.drop (1 : Nat) (List.drop (3 : Nat) b))) true))))) (D.acons (D.bool (Rd.bad (Prod.fst (gLines rdP false (Int.toNat (Prod.fst (getP (List.drop (3 : Nat) b) (0 : Int) (1 : Int))) - (0 : Nat)) (Prod.fst (getP (List.drop (1 : Nat) (List.drop (3 : Nat) b)) (0 : Int) (3 : Int)) + (0 : Int)) (Rd.mk c (List.drop (3 : Nat) (List.drop (1 : Nat) (List.drop (3 : Nat) b))) true))))) D.anil))), some (Obj.var (33 : Nat) (D.acons (D.int IntKind.i64 pl) (D.acons (D.vs (2 : Nat) (List.length its)) (D.acons (D.acons (D.vs (3 : Nat) (List.length (addL (0 : Int) (0 : Int) l0 (Prod.snd (gLines rdP false (Int.toNat (Prod.fst (getP (List.drop (3 : Nat) b) (0 : Int) (1 : Int))) - (0 : Nat)) (Prod.fst (getP (List.drop (1 : Nat) (List.drop (3 : Nat) b)) (0 : Int) (3 : Int)) + (0 : Int)) (Rd.mk c (List.drop (3 : Nat) (List.drop (1 : Nat) (List.drop (3 : Nat) b))) true)))))) (D.acons (D.vs (4 : Nat) (List.length (addL (0 : Int) (1 : Int) l1 (Prod.snd (gLines rdP false (Int.toNat (Prod.fst (getP (List.drop (3 : Nat) b) (0 : Int) (1 : Int))) - (0 : Nat)) (Prod.fst (getP (List.drop (1 : Nat) (List.drop (3 : Nat) b)) (0 : Int) (3 : Int)) + (0 : Int)) (Rd.mk c (List.drop (3 : Nat) (List.drop (1 : Nat) (List.drop (3 : Nat) b))) true)))))) (D.acons (D.vs (5 : Nat) (List.length (addL (0 : Int) (2 : Int) l2 (Prod.snd (gLines rdP false (Int.toNat (Prod.fst (getP (List.drop (3 : Nat) b) (0 : Int) (1 : Int))) - (0 : Nat)) (Prod.fst (getP (List.drop (1 : Nat) (List.drop (3 : Nat) b)) (0 : Int) (3 : Int)) + (0 : Int)) (Rd.mk c (List.drop (3 : Nat) (List.drop (1 : Nat) (List.drop (3 : Nat) b))) true)))))) D.anil))) (D.acons (D.arr RTy.int (3 : Nat) [Prod.fst (getP b (0 : Int) (3 : Int)), c1, c2]) D.anil))))), some (Obj.vec RTy.item true its), some (Obj.vec RTy.line true (addL (0 : Int) (0 : Int) l0 (Prod.snd (gLines rdP false (Int.toNat (Prod.fst (getP (List.drop (3 : Nat) b) (0 : Int) (1 : Int))) - (0 : Nat)) (Prod.fst (getP (List.drop (1 : Nat) (List.drop (3 : Nat) b)) (0 : Int) (3 : Int)) + (0 : Int)) (Rd.mk c (List.drop (3 : Nat) (List.drop (1 : Nat) (List.drop (3 : Nat) b))) true))))), some (Obj.vec RTy.line true (addL (0 : Int) (1 : Int) l1 (Prod.snd (gLines rdP false (Int.toNat (Prod.fst (getP (List.drop (3 : Nat) b) (0 : Int) (1 : Int))) - (0 : Nat)) (Prod.fst (getP (List.drop (1 : Nat) (List.drop (3 : Nat) b)) (0 : Int) (3 : Int)) + (0 : Int)) (Rd.mk c (List.drop (3 : Nat) (List.drop (1 : Nat) (List.drop (3 : Nat) b))) true))))), some (Obj.vec RTy.line true (addL (0 : Int) (2 : Int) l2 (Prod.snd (gLines rdP false (Int.toNat (Prod.fst (getP (List.drop (3 : Nat) b) (0 : Int) (1 : Int))) - (0 : Nat)) (Prod.fst (getP (List.drop (1 : Nat) (List.drop (3 : Nat) b)) (0 : Int) (3 : Int)) + (0 : Int)) (Rd.mk c (List.drop (3 : Nat) (List.drop (1 : Nat) (List.drop (3 : Nat) b))) true)))))]) else none else bif Prod.fst (getP (List.drop (3 : Nat) b) (0 : Int) (1 : Int)) == (0 : Int) then bif decide (List.length its = List.length its) && decide (List.length l0 = List.length l0) && decide (List.length l1 = List.length l1) && decide (List.length l2 = List.length l2) && decide ((0 : Int) ≤ Prod.fst (getP (List.drop (3 : Nat) b) (0 : Int) (1 : Int)) ∧ Prod.fst (getP (List.drop (3 : Nat) b) (0 : Int) (1 : Int)) ≤ (255 : Int) ∧ List.length (List.drop (3 : Nat) (List.drop (1 : Nat) (List.drop (3 : Nat) b))) ≤ (1000000 : Nat) ∧ (List.length l0 ≤ (1000 : Nat) ∧ List.length l1 ≤ (1000 : Nat) ∧ List.length l2 ≤ (1000 : Nat)) ∧ ((0 : Int) ≤ (0 : Int) ∧ (0 : Int) ≤ (2 : Int)) ∧ (0 : Int) ≤ Prod.fst (getP (List.drop (1 : Nat) (List.drop (3 : Nat) b)) (0 : Int) (3 : Int)) ∧ Prod.fst (getP (List.drop (1 : Nat) (List.drop (3 : Nat) b)) (0 : Int) (3 : Int)) ≤ (16777215 : Int)) then some ((X.normal, [((4 : Nat), D.ptr (0 : Nat) []), ((5 : Nat), D.ptr (1 : Nat) []), ((39 : Nat), D.int IntKind.i64 (1 : Int))]), [some (Obj.var (74 : Nat) (D.acons (D.sl RTy.u8 (Rd.c (Prod.fst (gLines rdP false (Int.toNat (Prod.fst (getP (List.drop (3 : Nat) b) (0 : Int) (1 : Int))) - (0 : Nat)) (Prod.fst (getP (List.drop (1 : Nat) (List.drop (3 : Nat) b)) (0 : Int) (3 : Int)) + (0 : Int)) (Rd.mk c (List.drop (3 : Nat) (List.drop (1 : Nat) (List.drop (3 : Nat) b))) (Prod.fst (getP (List.drop (1 : Nat) (List.drop (3 : Nat) b)) (0 : Int) (3 : Int)) != (0 : Int)))))) (Rd.b (Prod.fst (gLines rdP false (Int.toNat (Prod.fst (getP (List.drop (3 : Nat) b) (0 : Int) (1 : Int))) - (0 : Nat)) (Prod.fst (getP (List.drop (1 : Nat) (List.drop (3 : Nat) b)) (0 : Int) (3 : Int)) + (0 : Int)) (Rd.mk c (List.drop (3 : Nat) (List.drop (1 : Nat) (List.drop (3 : Nat) b))) (Prod.fst (getP (List.drop (1 : Nat) (List.drop (3 : Nat) b)) (0 : Int) (3 : Int)) != (0 : Int))))))) (D.acons (D.bool (Rd.bad (Prod.fst (gLines rdP false (Int.toNat (Prod.fst (getP (List.drop (3 : Nat) b) (0 : Int) (1 : Int))) - (0 : Nat)) (Prod.fst (getP (List.drop (1 : Nat) (List.drop (3 : Nat) b)) (0 : Int) (3 : Int)) + (0 : Int)) (Rd.mk c (List.drop (3 : Nat) (List.drop (1 : Nat) (List.drop (3 : Nat) b))) (Prod.fst (getP (List.drop (1 : Nat) (List.drop (3 : Nat) b)) (0 : Int) (3 : Int)) != (0 : Int))))))) D.anil))), some (Obj.var (33 : Nat) (D.acons (D.int IntKind.i64 pl) (D.acons (D.vs (2 : Nat) (List.length its)) (D.acons (D.acons (D.vs (3 : Nat) (List.length (addL (0 : Int) (0 : Int) l0 (Prod.snd (gLines rdP false (Int.toNat (Prod.fst (getP (List.drop (3 : Nat) b) (0 : Int) (1 : Int))) - (0 : Nat)) (Prod.fst (getP (List.drop (1 : Nat) (List.drop (3 : Nat) b)) (0 : Int) (3 : Int)) + (0 : Int)) (Rd.mk c (List.drop (3 : Nat) (List.drop (1 : Nat) (List.drop (3 : Nat) b))) (Prod.fst (getP (List.drop (1 : Nat) (List.drop (3 : Nat) b)) (0 : Int) (3 : Int)) != (0 : Int)))))))) (D.acons (D.vs (4 : Nat) (List.length (addL (0 : Int) (1 : Int) l1 (Prod.snd (gLines rdP false (Int.toNat (Prod.fst (getP (List.drop (3 : Nat) b) (0 : Int) (1 : Int))) - (0 : Nat)) (Prod.fst (getP (List.drop (1 : Nat) (List.drop (3 : Nat) b)) (0 : Int) (3 : Int)) + (0 : Int)) (Rd.mk c (List.drop (3 : Nat) (List.drop (1 : Nat) (List.drop (3 : Nat) b))) (Prod.fst (getP (List.drop (1 : Nat) (List.drop (3 : Nat) b)) (0 : Int) (3 : Int)) != (0 : Int)))))))) (D.acons (D.vs (5 : Nat) (List.length (addL (0 : Int) (2 : Int) l2 (Prod.snd (gLines rdP false (Int.toNat (Prod.fst (getP (List.drop (3 : Nat) b) (0 : Int) (1 : Int))) - (0 : Nat)) (Prod.fst (getP (List.drop (1 : Nat) (List.drop (3 : Nat) b)) (0 : Int) (3 : Int)) + (0 : Int)) (Rd.mk c (List.drop (3 : Nat) (List.drop (1 : Nat) (List.drop (3 : Nat) b))) (Prod.fst (getP (List.drop (1 : Nat) (List.drop (3 : Nat) b)) (0 : Int) (3 : Int)) != (0 : Int)))))))) D.anil))) (D.acons (D.arr RTy.int (3 : Nat) [Prod.fst (getP b (0 : Int) (3 : Int)), c1, c2]) D.anil))))), some (Obj.vec RTy.item true its), some (Obj.vec RTy.line true (addL (0 : Int) (0 : Int) l0 (Prod.snd (gLines rdP false (Int.toNat (Prod.fst (getP (List.drop (3 : Nat) b) (0 : Int) (1 : Int))) - (0 : Nat)) (Prod.fst (getP (List.drop (1 : Nat) (List.drop (3 : Nat) b)) (0 : Int) (3 : Int)) + (0 : Int)) (Rd.mk c (List.drop (3 : Nat) (List.drop (1 : Nat) (List.drop (3 : Nat) b))) (Prod.fst (getP (List.drop (1 : Nat) (List.drop (3 : Nat) b)) (0 : Int) (3 : Int)) != (0 : Int))))))), some (Obj.vec RTy.line true (addL (0 : Int) (1 : Int) l1 (Prod.snd (gLines rdP false (Int.toNat (Prod.fst (getP (List.drop (3 : Nat) b) (0 : Int) (1 : Int))) - (0 : Nat)) (Prod.fst (getP (List.drop (1 : Nat) (List.drop (3 : Nat) b)) (0 : Int) (3 : Int)) + (0 : Int)) (Rd.mk c (List.drop (3 : Nat) (List.drop (1 : Nat) (List.drop (3 : Nat) b))) (Prod.fst (getP (List.drop (1 : Nat) (List.drop (3 : Nat) b)) (0 : Int) (3 : Int)) != (0 : Int))))))), some (Obj.vec RTy.line true (addL (0 : Int) (2 : Int) l2 (Prod.snd (gLines rdP false (Int.toNat (Prod.fst (getP (List.drop (3 : Nat) b) (0 : Int) (1 : Int))) - (0 : Nat)) (Prod.fst (getP (List.drop (1 : Nat) (List.drop (3 : Nat) b)) (0 : Int) (3 : Int)) + (0 : Int)) (Rd.mk c (List.drop (3 : Nat) (List.drop (1 : Nat) (List.drop (3 : Nat) b))) (Prod.fst (getP (List.drop (1 : Nat) (List.drop (3 : Nat) b)) (0 : Int) (3 : Int)) != (0 : Int)))))))]) else none else bif decide (List.length its = List.length its) && decide (List.length l0 = List.length l0) && decide (List.length l1 = List.length l1) && decide (List.length l2 = List.length l2) && decide ((0 : Int) ≤ Prod.fst (getP (List.drop (3 : Nat) b) (0 : Int) (1 : Int)) ∧ Prod.fst (getP (List.drop (3 : Nat) b) (0 : Int) (1 : Int)) ≤ (255 : Int) ∧ List.length (List.drop (3 : Nat) (List.drop (1 : Nat) (List.drop (3 : Nat) b))) ≤ (1000000 : Nat) ∧ (List.length l0 ≤ (1000 : Nat) ∧ List.length l1 ≤ (1000 : Nat) ∧ List.length l2 ≤ (1000 : Nat)) ∧ ((0 : Int) ≤ (0 : Int) ∧ (0 : Int) ≤ (2 : Int)) ∧ (0 : Int) ≤ Prod.fst (getP (List.drop (1 : Nat) (List.drop (3 : Nat) b)) (0 : Int) (3 : Int)) ∧ Prod.fst (getP (List.drop (1 : Nat) (List.drop (3 : Nat) b)) (0 : Int) (3 : Int)) ≤ (16777215 : Int)) then some ((X.normal, [((4 : Nat), D.ptr (0 : Nat) []), ((5 : Nat), D.ptr (1 : Nat) []), ((39 : Nat), D.int IntKind.i64 (1 : Int))]), [some (Obj.var (74 : Nat) (D.acons (D.sl RTy.u8 (Rd.c (Prod.fst (gLines rdP false (Int.toNat (Prod.fst (getP (List.drop (3 : Nat) b) (0 : Int) (1 : Int))) - (0 : Nat)) (Prod.fst (getP (List.drop (1 : Nat) (List.drop (3 : Nat) b)) (0 : Int) (3 : Int)) + (0 : Int)) (Rd.mk c (List.drop (3 : Nat) (List.drop (1 : Nat) (List.drop (3 : Nat) b))) false)))) (Rd.b (Prod.fst (gLines rdP false (Int.toNat (Prod.fst (getP (List.drop (3 : Nat) b) (0 : Int) (1 : Int))) - (0 : Nat)) (Prod.fst (getP (List.drop (1 : Nat) (List.drop (3 : Nat) b)) (0 : Int) (3 : Int)) + (0 : Int)) (Rd.mk c (List.drop (3 : Nat) (List.drop (1 : Nat) (List.drop (3 : Nat) b))) false))))) (D.acons (D.bool (Rd.bad (Prod.fst (gLines rdP false (Int.toNat (Prod.fst (getP (List.drop (3 : Nat) b) (0 : Int) (1 : Int))) - (0 : Nat)) (Prod.fst (getP (List.drop (1 : Nat) (List.drop (3 : Nat) b)) (0 : Int) (3 : Int)) + (0 : Int)) (Rd.mk c (List.drop (3 : Nat) (List.drop (1 : Nat) (List.drop (3 : Nat) b))) false))))) D.anil))), some (Obj.var (33 : Nat) (D.acons (D.int IntKind.i64 pl) (D.acons (D.vs (2 : Nat) (List.length its)) (D.acons (D.acons (D.vs (3 : Nat) (List.length (addL (0 : Int) (0 : Int) l0 (Prod.snd (gLines rdP false (Int.toNat (Prod.fst (getP (List.drop (3 : Nat) b) (0 : Int) (1 : Int))) - (0 : Nat)) (Prod.fst (getP (List.drop (1 : Nat) (List.drop (3 : Nat) b)) (0 : Int) (3 : Int)) + (0 : Int)) (Rd.mk c (List.drop (3 : Nat) (List.drop (1 : Nat) (List.drop (3 : Nat) b))) false)))))) (D.acons (D.vs (4 : Nat) (List.length (addL (0 : Int) (1 : Int) l1 (Prod.snd (gLines rdP false (Int.toNat (Prod.fst (getP (List.drop (3 : Nat) b) (0 : Int) (1 : Int))) - (0 : Nat)) (Prod.fst (getP (List.drop (1 : Nat) (List.drop (3 : Nat) b)) (0 : Int) (3 : Int)) + (0 : Int)) (Rd.mk c (List.drop (3 : Nat) (List.drop (1 : Nat) (List.drop (3 : Nat) b))) false)))))) (D.acons (D.vs (5 : Nat) (List.length (addL (0 : Int) (2 : Int) l2 (Prod.snd (gLines rdP false (Int.toNat (Prod.fst (getP (List.drop (3 : Nat) b) (0 : Int) (1 : Int))) - (0 : Nat)) (Prod.fst (getP (List.drop (1 : Nat) (List.drop (3 : Nat) b)) (0 : Int) (3 : Int)) + (0 : Int)) (Rd.mk c (List.drop (3 : Nat) (List.drop (1 : Nat) (List.drop (3 : Nat) b))) false)))))) D.anil))) (D.acons (D.arr RTy.int (3 : Nat) [Prod.fst (getP b (0 : Int) (3 : Int)), c1, c2]) D.anil))))), some (Obj.vec RTy.item true its), some (Obj.vec RTy.line true (addL (0 : Int) (0 : Int) l0 (Prod.snd (gLines rdP false (Int.toNat (Prod.fst (getP (List.drop (3 : Nat) b) (0 : Int) (1 : Int))) - (0 : Nat)) (Prod.fst (getP (List.drop (1 : Nat) (List.drop (3 : Nat) b)) (0 : Int) (3 : Int)) + (0 : Int)) (Rd.mk c (List.drop (3 : Nat) (List.drop (1 : Nat) (List.drop (3 : Nat) b))) false))))), some (Obj.vec RTy.line true (addL (0 : Int) (1 : Int) l1 (Prod.snd (gLines rdP false (Int.toNat (Prod.fst (getP (List.drop (3 : Nat) b) (0 : Int) (1 : Int))) - (0 : Nat)) (Prod.fst (getP (List.drop (1 : Nat) (List.drop (3 : Nat) b)) (0 : Int) (3 : Int)) + (0 : Int)) (Rd.mk c (List.drop (3 : Nat) (List.drop (1 : Nat) (List.drop (3 : Nat) b))) false))))), some (Obj.vec RTy.line true (addL (0 : Int) (2 : Int) l2 (Prod.snd (gLines rdP false (Int.toNat (Prod.fst (getP (List.drop (3 : Nat) b) (0 : Int) (1 : Int))) - (0 : Nat)) (Prod.fst (getP (List.drop (1 : Nat) (List.drop (3 : Nat) b)) (0 : Int) (3 : Int)) + (0 : Int)) (Rd.mk c (List.drop (3 : Nat) (List.drop (1 : Nat) (List.drop (3 : Nat) b))) false)))))]) else none else none else none else none else none else none else none) := by kernel_rfl
theorem rsQ_eq1 (c : Bool) (b : List UInt8) (bad : Bool) (pl : Int) (its : List Item) (l0 l1 l2 : List Line) (c0 c1 c2 : Int) : rsQ_r c b bad pl its l0 l1 l2 c0 c1 c2 1 = (bif decide (List.length b ≤ (1000000000000 : Nat)) then bif Prod.snd (getP b (0 : Int) (3 : Int)) != (0 : Int) then bif decide (List.length its = List.length its) && decide (List.length l0 = List.length l0) && decide (List.length l1 = List.length l1) && decide (List.length l2 = List.length l2) && decide ((0 : Int) ≤ (0 : Int) ∧ (0 : Int) ≤ (255 : Int) ∧ (0 : Nat) ≤ (1000000 : Nat) ∧ (List.length l0 ≤ (1000 : Nat) ∧ List.length l1 ≤ (1000 : Nat) ∧ List.length l2 ≤ (1000 : Nat)) ∧ ((0 : Int) ≤ (1 : Int) ∧ (1 : Int) ≤ (2 : Int)) ∧ (0 : Int) ≤ (0 : Int) ∧ (0 : Int) ≤ (16777215 : Int)) then some ((X.normal, [((4 : Nat), D.ptr (0 : Nat) []), ((5 : Nat), D.ptr (1 : Nat) []), ((39 : Nat), D.int IntKind.i64 (2 : Int))]), [some (Obj.var (74 : Nat) (D.acons (D.sl RTy.u8 true (Rd.b (Prod.fst (gLines rdP false (0 : Nat) (0 : Int) (Rd.mk true [] true))))) (D.acons (D.bool true) D.anil))), some (Obj.var (33 : Nat) (D.acons (D.int IntKind.i64 pl) (D.acons (D.vs (2 : Nat) (List.length its)) (D.acons (D.acons (D.vs (3 : Nat) (List.length (addL (1 : Int) (0 : Int) l0 (Prod.snd (gLines rdP false (0 : Nat) (0 : Int) (Rd.mk true [] true)))))) (D.acons (D.vs (4 : Nat) (List.length (addL (1 : Int) (1 : Int) l1 (Prod.snd (gLines rdP false (0 : Nat) (0 : Int) (Rd.mk true [] true)))))) (D.acons (D.vs (5 : Nat) (List.length (addL (1 : Int) (2 : Int) l2 (Prod.snd (gLines rdP false (0 : Nat) (0 : Int) (Rd.mk true [] true)))))) D.anil))) (D.acons (D.arr RTy.int (3 : Nat) [c0, (0 : Int), c2]) D.anil))))), some (Obj.vec RTy.item true its), some (Obj.vec RTy.line true (addL (1 : Int) (0 : Int) l0 (Prod.snd (gLines rdP false (0 : Nat) (0 : Int) (Rd.mk true [] true))))), some (Obj.vec RTy.line true (addL (1 : Int) (1 : Int) l1 (Prod.snd (gLines rdP false (0 : Nat) (0 : Int) (Rd.mk true [] true))))), some (Obj.vec RTy.line true (addL (1 : Int) (2 : Int) l2 (Prod.snd (gLines rdP false (0 : Nat) (0 : Int) (Rd.mk true [] true)))))]) else none else bif decide ((0 : Int) ≤ (3 : Int) ∧ (3 : Int) ≤ (↑(List.length b) : Int)) then bif decide (List.length (List.drop (3 : Nat) b) ≤ (1000000000000 : Nat)) then bif Prod.snd (getP (List.drop (3 : Nat) b) (0 : Int) (1 : Int)) != (0 : Int) then bif decide (List.length its = List.length its) && decide (List.length l0 = List.length l0) && decide (List.length l1 = List.length l1) && decide (List.length l2 = List.length l2) && decide ((0 : Int) ≤ (0 : Int) ∧ (0 : Int) ≤ (255 : Int) ∧ (0 : Nat) ≤ (1000000 : Nat) ∧ (List.length l0 ≤ (1000 : Nat) ∧ List.length l1 ≤ (1000 : Nat) ∧ List.length l2 ≤ (1000 : Nat)) ∧ ((0 : Int) ≤ (1 : Int) ∧ (1 : Int) ≤ (2 : Int)) ∧ (0 : Int) ≤ (0 : Int) ∧ (0 : Int) ≤ (16777215 : Int)) then some ((X.normal, [((4 : Nat), D.ptr (0 : Nat) []), ((5 : Nat), D.ptr (1 : Nat) []), ((39 : Nat), D.int IntKind.i64 (2 : Int))]), [some (Obj.var (74 : Nat) (D.acons (D.sl RTy.u8 true (Rd.b (Prod.fst (gLines rdP false (0 : Nat) (0 : Int) (Rd.mk true [] true))))) (D.acons (D.bool true) D.anil))), some (Obj.var (33 : Nat) (D.acons (D.int IntKind.i64 pl) (D.acons (D.vs (2 : Nat) (List.length its)) (D.acons (D.acons (D.vs (3 : Nat) (List.length (addL (1 : Int) (0 : Int) l0 (Prod.snd (gLines rdP false (0 : Nat) (0 : Int) (Rd.mk true [] true)))))) (D.acons (D.vs (4 : Nat) (List.length (addL (1 : Int) (1 : Int) l1 (Prod.snd (gLines rdP false (0 : Nat) (0 : Int) (Rd.mk true [] true)))))) (D.acons (D.vs (5 : Nat) (List.length (addL (1 : Int) (2 : Int) l2 (Prod.snd (gLines rdP false (0 : Nat) (0 : Int) (Rd.mk true [] true)))))) D.anil))) (D.acons (D.arr RTy.int (3 : Nat) [c0, Prod.fst (getP b (0 : Int) (3 : Int)), c2]) D.anil))))), some (Obj.vec RTy.item true its), some (Obj.vec RTy.line true (addL (1 : Int) (0 : Int) l0 (Prod.snd (gLines rdP false (0 : Nat) (0 : Int) (Rd.mk true [] true))))), some (Obj.vec RTy.line true (addL (1 : Int) (1 : Int) l1 (Prod.snd (gLines rdP false (0 : Nat) (0 : Int) (Rd.mk true [] true))))), some (Obj.vec RTy.line true (addL (1 : Int) (2 : Int) l2 (Prod.snd (gLines rdP false (0 : Nat) (0 : Int) (Rd.mk true [] true)))))]) else none else bif decide ((0 : Int) ≤ (1 : Int) ∧ (1 : Int) ≤ (↑(List.length (List.drop (3 : Nat) b)) : Int)) then bif decide (List.length (List.drop (1 : Nat) (List.drop (3 : Nat) b)) ≤ (1000000000000 : Nat)) then bif Prod.snd (getP (List.drop (1 : Nat) (List.drop (3 : Nat) b)) (0 : Int) (3 : Int)) != (0 : Int) then bif decide (List.length its = List.length its) && decide (List.length l0 = List.length l0) && decide (List.length l1 = List.length l1) && decide (List.length l2 = List.length l2) && decide ((0 : Int) ≤ Prod.fst (getP (List.drop (3 : Nat) b) (0 : Int) (1 : Int)) ∧ Prod.fst (getP (List.drop (3 : Nat) b) (0 : Int) (1 : Int)) ≤ (255 : Int) ∧ (0 : Nat) ≤ (1000000 : Nat) ∧ (List.length l0 ≤ (1000 : Nat) ∧ List.length l1 ≤ (1000 : Nat) ∧ List.length l2 ≤ (1000 : Nat)) ∧ ((0 : Int) ≤ (1 : Int) ∧ (1 : Int) ≤ (2 : Int)) ∧ (0 : Int) ≤ (0 : Int) ∧ (0 : Int) ≤ (16777215 : Int)) then some ((X.normal, [((4 : Nat), D.ptr (0 : Nat) []), ((5 : Nat), D.ptr (1 : Nat) []), ((39 : Nat), D.int IntKind.i64 (2 : Int))]), [some (Obj.var (74 : Nat) (D.acons (D.sl RTy.u8 (Rd.c (Prod.fst (gLines rdP false (Int.toNat (Prod.fst (getP (List.drop (3 : Nat) b) (0 : Int) (1 : Int))) - (0 : Nat)) (0 : Int) (Rd.mk true [] true)))) (Rd.b (Prod.fst (gLines rdP false (Int.toNat (Prod.fst (getP (List.drop (3 : Nat) b) (0 : Int) (1 : Int))) - (0 : Nat)) (0 : Int) (Rd.mk true [] true))))) (D.acons (D.bool (Rd.bad (Prod.fst (gLines rdP false (Int.toNat (Prod.fst (getP (List.drop (3 : Nat) b) (0 : Int) (1 : Int))) - (0 : Nat)) (0 : Int) (Rd.mk true [] true))))) D.anil))), some (Obj.var (33 : Nat) (D.acons (D.int IntKind.i64 pl) (D.acons (D.vs (2 : Nat) (List.length its)) (D.acons (D.acons (D.vs (3 : Nat) (List.length (addL (1 : Int) (0 : Int) l0 (Prod.snd (gLines rdP false (Int.toNat (Prod.fst (getP (List.drop (3 : Nat) b) (0 : Int) (1 : Int))) - (0 : Nat)) (0 : Int) (Rd.mk true [] true)))))) (D.acons (D.vs (4 : Nat) (List.length (addL (1 : Int) (1 : Int) l1 (Prod.snd (gLines rdP false (Int.toNat (Prod.fst (getP (List.drop (3 : Nat) b) (0 : Int) (1 : Int))) - (0 : Nat)) (0 : Int) (Rd.mk true [] true)))))) (D.acons (D.vs (5 : Nat) (List.length (addL (1 : Int) (2 : Int) l2 (Prod.snd (gLines rdP false (Int.toNat (Prod.fst (getP (List.drop (3 : Nat) b) (0 : Int) (1 : Int))) - (0 : Nat)) (0 : Int) (Rd.mk true [] true)))))) D.anil))) (D.acons (D.arr RTy.int (3 : Nat) [c0, Prod.fst (getP b (0 : Int) (3 : Int)), c2]) D.anil))))), some (Obj.vec RTy.item true its), some (Obj.vec RTy.line true (addL (1 : Int) (0 : Int) l0 (Prod.snd (gLines rdP false (Int.toNat (Prod.fst (getP (List.drop (3 : Nat) b) (0 : Int) (1 : Int))) - (0 : Nat)) (0 : Int) (Rd.mk true [] true))))), some (Obj.vec RTy.line true (addL (1 : Int) (1 : Int) l1 (Prod.snd (gLines rdP false (Int.toNat (Prod.fst (getP (List.drop (3 : Nat) b) (0 : Int) (1 : Int))) - (0 : Nat)) (0 : Int) (Rd.mk true [] true))))), some (Obj.vec RTy.line true (addL (1 : Int) (2 : Int) l2 (Prod.snd (gLines rdP false (Int.toNat (Prod.fst (getP (List.drop (3 : Nat) b) (0 : Int) (1 : Int))) - (0 : Nat)) (0 : Int) (Rd.mk true [] true)))))]) else none else bif decide ((0 : Int) ≤ (3 : Int) ∧ (3 : Int) ≤ (↑(List.length (List.drop (1 : Nat) (List.drop (3 : Nat) b))) : Int)) then bif bad then bif decide (List.length its = List.length its) && decide (List.length l0 = List.length l0) && decide (List.length l1 = List.length l1) && decide (List.length l2 = List.length l2) && decide ((0 : Int) ≤ Prod.fst (getP (List.drop (3 : Nat) b) (0 : Int) (1 : Int)) ∧ Prod.fst (getP (List.drop (3 : Nat) b) (0 : Int) (1 : Int)) ≤ (255 : Int) ∧ List.length (List.drop (3 : Nat) (List.drop (1 : Nat) (List.drop (3 : Nat) b))) ≤ (1000000 : Nat) ∧ (List.length l0 ≤ (1000 : Nat) ∧ List.length l1 ≤ (1000 : Nat) ∧ List.length l2 ≤ (1000 : Nat)) ∧ ((0 : Int) ≤ (1 : Int) ∧ (1 : Int) ≤ (2 : Int)) ∧ (0 : Int) ≤ Prod.fst (getP (List.drop (1 : Nat) (List.drop (3 : Nat) b)) (0 : Int) (3 : Int)) ∧ Prod.fst (getP (List.drop (1 : Nat) (List.drop (3 : Nat) b)) (0 : Int) (3 : Int)) ≤ (16777215 : Int)) then some ((X.normal, [((4 : Nat), D.ptr (0 : Nat) []), ((5 : Nat), D.ptr (1 : Nat) []), ((39 : Nat), D.int IntKind.i64 (2 : Int))]), [some (Obj.var (74 : Nat) (D.acons (D.sl RTy.u8 (Rd.c (Prod.fst (gLines rdP false (Int.toNat (Prod.fst (getP (List.drop (3 : Nat) b) (0 : Int) (1 : Int))) - (0 : Nat)) (Prod.fst (getP (List.drop (1 : Nat) (List.drop (3 : Nat) b)) (0 : Int) (3 : Int)) + (0 : Int)) (Rd.mk c (List.drop (3 : Nat) (List.drop (1 : Nat) (List.drop (3 : Nat) b))) true)))) (Rd.b (Prod.fst (gLines rdP false (Int.toNat (Prod.fst (getP (List.drop (3 : Nat) b) (0 : Int) (1 : Int))) - (0 : Nat)) (Prod.fst (getP (List.drop (1 : Nat) (List.drop (3 : Nat) b)) (0 : Int) (3 : Int)) + (0 : Int)) (Rd.mk c (List.drop (3 : Nat) (List.drop (1 : Nat) (List.drop (3 : Nat) b))) true))))) (D.acons (D.bool (Rd.bad (Prod.fst (gLines rdP false (Int.toNat (Prod.fst (getP (List.drop (3 : Nat) b) (0 : Int) (1 : Int))) - (0 : Nat)) (Prod.fst (getP (List.drop (1 : Nat) (List.drop (3 : Nat) b)) (0 : Int) (3 : Int)) + (0 : Int)) (Rd.mk c (List.drop (3 : Nat) (List.drop (1 : Nat) (List.drop (3 : Nat) b))) true))))) D.anil))), some (Obj.var (33 : Nat) (D.acons (D.int IntKind.i64 pl) (D.acons (D.vs (2 : Nat) (List.length its)) (D.acons (D.acons (D.vs (3 : Nat) (List.length (addL (1 : Int) (0 : Int) l0 (Prod.snd (gLines rdP false (Int.toNat (Prod.fst (getP (List.drop (3 : Nat) b) (0 : Int) (1 : Int))) - (0 : Nat)) (Prod.fst (getP (List.drop (1 : Nat) (List.drop (3 : Nat) b)) (0 : Int) (3 : Int)) + (0 : Int)) (Rd.mk c (List.drop (3 : Nat) (List.drop (1 : Nat) (List.drop (3 : Nat) b))) true)))))) (D.acons (D.vs (4 : Nat) (List.length (addL (1 : Int) (1 : Int) l1 (Prod.snd (gLines rdP false (Int.toNat (Prod.fst (getP (List.drop (3 : Nat) b) (0 : Int) (1 : Int))) - (0 : Nat)) (Prod.fst (getP (List.drop (1 : Nat) (List.drop (3 : Nat) b)) (0 : Int) (3 : Int)) + (0 : Int)) (Rd.mk c (List.drop (3 : Nat) (List.drop (1 : Nat) (List.drop (3 : Nat) b))) true)))))) (D.acons (D.vs (5 : Nat) (List.length (addL (1 : Int) (2 : Int) l2 (Prod.snd (gLines rdP false (Int.toNat (Prod.fst (getP (List.drop (3 : Nat) b) (0 : Int) (1 : Int))) - (0 : Nat)) (Prod.fst (getP (List.drop (1 : Nat) (List.drop (3 : Nat) b)) (0 : Int) (3 : Int)) + (0 : Int)) (Rd.mk c (List.drop (3 : Nat) (List.drop (1 : Nat) (List.drop (3 : Nat) b))) true)))))) D.anil))) (D.acons (D.arr RTy.int (3 : Nat) [c0, Prod.fst (getP b (0 : Int) (3 : Int)), c2]) D.anil))))), some (Obj.vec RTy.item true its), some (Obj.vec RTy.line true (addL (1 : Int) (0 : Int) l0 (Prod.snd (gLines rdP false (Int.toNat (Prod.fst (getP (List.drop (3 : Nat) b) (0 : Int) (1 : Int))) - (0 : Nat)) (Prod.fst (getP (List.drop (1 : Nat) (List.drop (3 : Nat) b)) (0 : Int) (3 : Int)) + (0 : Int)) (Rd.mk c (List.drop (3 : Nat) (List.drop (1 : Nat) (List.drop (3 : Nat) b))) true))))), some (Obj.vec RTy.line true (addL (1 : Int) (1 : Int) l1 (Prod.snd (gLines rdP false (Int.toNat (Prod.fst (getP (List.drop (3 : Nat) b) (0 : Int) (1 : Int))) - (0 : Nat)) (Prod.fst (getP (List.drop (1 : Nat) (List.drop (3 : Nat) b)) (0 : Int) (3 : Int)) + (0 : Int)) (Rd.mk c (List.drop (3 : Nat) (List.drop (1 : Nat) (List.drop (3 : Nat) b))) true))))), some (Obj.vec RTy.line true (addL (1 : Int) (2 : Int) l2 (Prod.snd (gLines rdP false (Int.toNat (Prod.fst (getP (List.drop (3 : Nat) b) (0 : Int) (1 : Int))) - (0 : Nat)) (Prod.fst (getP (List.drop (1 : Nat) (List.drop (3 : Nat) b)) (0 : Int) (3 : Int)) + (0 : Int)) (Rd.mk c (List.drop (3 : Nat) (List.drop (1 : Nat) (List.drop (3 : Nat) b))) true)))))]) else none else bif Prod.fst (getP (List.drop (3 : Nat) b) (0 : Int) (1 : Int)) == (0 : Int) then bif decide (List.length its = List.length its) && decide (List.length l0 = List.length l0) && decide (List.length l1 = List.length l1) && decide (List.length l2 = List.length l2) && decide ((0 : Int) ≤ Prod.fst (getP (List.drop (3 : Nat) b) (0 : Int) (1 : Int)) ∧ Prod.fst (getP (List.drop (3 : Nat) b) (0 : Int) (1 : Int)) ≤ (255 : Int) ∧ List.length (List.drop (3 : Nat) (List.drop (1 : Nat) (List.drop (3 : Nat) b))) ≤ (1000000 : Nat) ∧ (List.length l0 ≤ (1000 : Nat) ∧ List.length l1 ≤ (1000 : Nat) ∧ List.length l2 ≤ (1000 : Nat)) ∧ ((0 : Int) ≤ (1 : Int) ∧ (1 : Int) ≤ (2 : Int)) ∧ (0 : Int) ≤ Prod.fst (getP (List.drop (1 : Nat) (List.drop (3 : Nat) b)) (0 : Int) (3 : Int)) ∧ Prod.fst (getP (List.drop (1 : Nat) (List.drop (3 : Nat) b)) (0 : Int) (3 : Int)) ≤ (16777215 : Int)) then some ((X.normal, [((4 : Nat), D.ptr (0 : Nat) []), ((5 : Nat), D.ptr (1 : Nat) []), ((39 : Nat), D.int IntKind.i64 (2 : Int))]), [some (Obj.var (74 : Nat) (D.acons (D.sl RTy.u8 (Rd.c (Prod.fst (gLines rdP false (Int.toNat (Prod.fst (getP (List.drop (3 : Nat) b) (0 : Int) (1 : Int))) - (0 : Nat)) (Prod.fst (getP (List.drop (1 : Nat) (List.drop (3 : Nat) b)) (0 : Int) (3 : Int)) + (0 : Int)) (Rd.mk c (List.drop (3 : Nat) (List.drop (1 : Nat) (List.drop (3 : Nat) b))) (Prod.fst (getP (List.drop (1 : Nat) (List.drop (3 : Nat) b)) (0 : Int) (3 : Int)) != (0 : Int)))))) (Rd.b (Prod.fst (gLines rdP false (Int.toNat (Prod.fst (getP (List.drop (3 : Nat) b) (0 : Int) (1 : Int))) - (0 : Nat)) (Prod.fst (getP (List.drop (1 : Nat) (List.drop (3 : Nat) b)) (0 : Int) (3 : Int)) + (0 : Int)) (Rd.mk c (List.drop (3 : Nat) (List.drop (1 : Nat) (List.drop (3 : Nat) b))) (Prod.fst (getP (List.drop (1 : Nat) (List.drop (3 : Nat) b)) (0 : Int) (3 : Int)) != (0 : Int))))))) (D.acons (D.bool (Rd.bad (Prod.fst (gLines rdP false (Int.toNat (Prod.fst (getP (List.drop (3 : Nat) b) (0 : Int) (1 : Int))) - (0 : Nat)) (Prod.fst (getP (List.drop (1 : Nat) (List.drop (3 : Nat) b)) (0 : Int) (3 : Int)) + (0 : Int)) (Rd.mk c (List.drop (3 : Nat) (List.drop (1 : Nat) (List.drop (3 : Nat) b))) (Prod.fst (getP (List.drop (1 : Nat) (List.drop (3 : Nat) b)) (0 : Int) (3 : Int)) != (0 : Int))))))) D.anil))), some (Obj.var (33 : Nat) (D.acons (D.int IntKind.i64 pl) (D.acons (D.vs (2 : Nat) (List.length its)) (D.acons (D.acons (D.vs (3 : Nat) (List.length (addL (1 : Int) (0 : Int) l0 (Prod.snd (gLines rdP false (Int.toNat (Prod.fst (getP (List.drop (3 : Nat) b) (0 : Int) (1 : Int))) - (0 : Nat)) (Prod.fst (getP (List.drop (1 : Nat) (List.drop (3 : Nat) b)) (0 : Int) (3 : Int)) + (0 : Int)) (Rd.mk c (List.drop (3 : Nat) (List.drop (1 : Nat) (List.drop (3 : Nat) b))) (Prod.fst (getP (List.drop (1 : Nat) (List.drop (3 : Nat) b)) (0 : Int) (3 : Int)) != (0 : Int)))))))) (D.acons (D.vs (4 : Nat) (List.length (addL (1 : Int) (1 : Int) l1 (Prod.snd (gLines rdP false (Int.toNat (Prod.fst (getP (List.drop (3 : Nat) b) (0 : Int) (1 : Int))) - (0 : Nat)) (Prod.fst (getP (List.drop (1 : Nat) (List.drop (3 : Nat) b)) (0 : Int) (3 : Int)) + (0 : Int)) (Rd.mk c (List.drop (3 : Nat) (List.drop (1 : Nat) (List.drop (3 : Nat) b))) (Prod.fst (getP (List.drop (1 : Nat) (List.drop (3 : Nat) b)) (0 : Int) (3 : Int)) != (0 : Int)))))))) (D.acons (D.vs (5 : Nat) (List.length (addL (1 : Int) (2 : Int) l2 (Prod.snd (gLines rdP false (Int.toNat (Prod.fst (getP (List.drop (3 : Nat) b) (0 : Int) (1 : Int))) - (0 : Nat)) (Prod.fst (getP (List.drop (1 : Nat) (List.drop (3 : Nat) b)) (0 : Int) (3 : Int)) + (0 : Int)) (Rd.mk c (List.drop (3 : Nat) (List.drop (1 : Nat) (List.drop (3 : Nat) b))) (Prod.fst (getP (List.drop (1 : Nat) (List.drop (3 : Nat) b)) (0 : Int) (3 : Int)) != (0 : Int)))))))) D.anil))) (D.acons (D.arr RTy.int (3 : Nat) [c0, Prod.fst (getP b (0 : Int) (3 : Int)), c2]) D.anil))))), some (Obj.vec RTy.item true its), some (Obj.vec RTy.line true (addL (1 : Int) (0 : Int) l0 (Prod.snd (gLines rdP false (Int.toNat (Prod.fst (getP (List.drop (3 : Nat) b) (0 : Int) (1 : Int))) - (0 : Nat)) (Prod.fst (getP (List.drop (1 : Nat) (List.drop (3 : Nat) b)) (0 : Int) (3 : Int)) + (0 : Int)) (Rd.mk c (List.drop (3 : Nat) (List.drop (1 : Nat) (List.drop (3 : Nat) b))) (Prod.fst (getP (List.drop (1 : Nat) (List.drop (3 : Nat) b)) (0 : Int) (3 : Int)) != (0 : Int))))))), some (Obj.vec RTy.line true (addL (1 : Int) (1 : Int) l1 (Prod.snd (gLines rdP false (Int.toNat (Prod.fst (getP (List.drop (3 : Nat) b) (0 : Int) (1 : Int))) - (0 : Nat)) (Prod.fst (getP (List.drop (1 : Nat) (List.drop (3 : Nat) b)) (0 : Int) (3 : Int)) + (0 : Int)) (Rd.mk c (List.drop (3 : Nat) (List.drop (1 : Nat) (List.drop (3 : Nat) b))) (Prod.fst (getP (List.drop (1 : Nat) (List.drop (3 : Nat) b)) (0 : Int) (3 : Int)) != (0 : Int))))))), some (Obj.vec RTy.line true (addL (1 : Int) (2 : Int) l2 (Prod.snd (gLines rdP false (Int.toNat (Prod.fst (getP (List.drop (3 : Nat) b) (0 : Int) (1 : Int))) - (0 : Nat)) (Prod.fst (getP (List.drop (1 : Nat) (List.drop (3 : Nat) b)) (0 : Int) (3 : Int)) + (0 : Int)) (Rd.mk c (List.drop (3 : Nat) (List.drop (1 : Nat) (List.drop (3 : Nat) b))) (Prod.fst (getP (List.drop (1 : Nat) (List.drop (3 : Nat) b)) (0 : Int) (3 : Int)) != (0 : Int)))))))]) else none else bif decide (List.length its = List.length its) && decide (List.length l0 = List.length l0) && decide (List.length l1 = List.length l1) && decide (List.length l2 = List.length l2) && decide ((0 : Int) ≤ Prod.fst (getP (List.drop (3 : Nat) b) (0 : Int) (1 : Int)) ∧ Prod.fst (getP (List.drop (3 : Nat) b) (0 : Int) (1 : Int)) ≤ (255 : Int) ∧ List.length (List.drop (3 : Nat) (List.drop (1 : Nat) (List.drop (3 : Nat) b))) ≤ (1000000 : Nat) ∧ (List.length l0 ≤ (1000 : Nat) ∧ List.length l1 ≤ (1000 : Nat) ∧ List.length l2 ≤ (1000 : Nat)) ∧ ((0 : Int) ≤ (1 : Int) ∧ (1 : Int) ≤ (2 : Int)) ∧ (0 : Int) ≤ Prod.fst (getP (List.drop (1 : Nat) (List.drop (3 : Nat) b)) (0 : Int) (3 : Int)) ∧ Prod.fst (getP (List.drop (1 : Nat) (List.drop (3 : Nat) b)) (0 : Int) (3 : Int)) ≤ (16777215 : Int)) then some ((X.normal, [((4 : Nat), D.ptr (0 : Nat) []), ((5 : Nat), D.ptr (1 : Nat) []), ((39 : Nat), D.int IntKind.i64 (2 : Int))]), [some (Obj.var (74 : Nat) (D.acons (D.sl RTy.u8 (Rd.c (Prod.fst (gLines rdP false (Int.toNat (Prod.fst (getP (List.drop (3 : Nat) b) (0 : Int) (1 : Int))) - (0 : Nat)) (Prod.fst (getP (List.drop (1 : Nat) (List.drop (3 : Nat) b)) (0 : Int) (3 : Int)) + (0 : Int)) (Rd.mk c (List.drop (3 : Nat) (List.drop (1 : Nat) (List.drop (3 : Nat) b))) false)))) (Rd.b (Prod.fst (gLines rdP false (Int.toNat (Prod.fst (getP (List.drop (3 : Nat) b) (0 : Int) (1 : Int))) - (0 : Nat)) (Prod.fst (getP (List.drop (1 : Nat) (List.drop (3 : Nat) b)) (0 : Int) (3 : Int)) + (0 : Int)) (Rd.mk c (List.drop (3 : Nat) (List.drop (1 : Nat) (List.drop (3 : Nat) b))) false))))) (D.acons (D.bool (Rd.bad (Prod.fst (gLines rdP false (Int.toNat (Prod.fst (getP (List.drop (3 : Nat) b) (0 : Int) (1 : Int))) - (0 : Nat)) (Prod.fst (getP (List.drop (1 : Nat) (List.drop (3 : Nat) b)) (0 : Int) (3 : Int)) + (0 : Int)) (Rd.mk c (List.drop (3 : Nat) (List.drop (1 : Nat) (List.drop (3 : Nat) b))) false))))) D.anil))), some (Obj.var (33 : Nat) (D.acons (D.int IntKind.i64 pl) (D.acons (D.vs (2 : Nat) (List.length its)) (D.acons (D.acons (D.vs (3 : Nat) (List.length (addL (1 : Int) (0 : Int) l0 (Prod.snd (gLines rdP false (Int.toNat (Prod.fst (getP (List.drop (3 : Nat) b) (0 : Int) (1 : Int))) - (0 : Nat)) (Prod.fst (getP (List.drop (1 : Nat) (List.drop (3 : Nat) b)) (0 : Int) (3 : Int)) + (0 : Int)) (Rd.mk c (List.drop (3 : Nat) (List.drop (1 : Nat) (List.drop (3 : Nat) b))) false)))))) (D.acons (D.vs (4 : Nat) (List.length (addL (1 : Int) (1 : Int) l1 (Prod.snd (gLines rdP false (Int.toNat (Prod.fst (getP (List.drop (3 : Nat) b) (0 : Int) (1 : Int))) - (0 : Nat)) (Prod.fst (getP (List.drop (1 : Nat) (List.drop (3 : Nat) b)) (0 : Int) (3 : Int)) + (0 : Int)) (Rd.mk c (List.drop (3 : Nat) (List.drop (1 : Nat) (List.drop (3 : Nat) b))) false)))))) (D.acons (D.vs (5 : Nat) (List.length (addL (1 : Int) (2 : Int) l2 (Prod.snd (gLines rdP false (Int.toNat (Prod.fst (getP (List.drop (3 : Nat) b) (0 : Int) (1 : Int))) - (0 : Nat)) (Prod.fst (getP (List.drop (1 : Nat) (List.drop (3 : Nat) b)) (0 : Int) (3 : Int)) + (0 : Int)) (Rd.mk c (List.drop (3 : Nat) (List.drop (1 : Nat) (List.drop (3 : Nat) b))) false)))))) D.anil))) (D.acons (D.arr RTy.int (3 : Nat) [c0, Prod.fst (getP b (0 : Int) (3 : Int)), c2]) D.anil))))), some (Obj.vec RTy.item true its), some (Obj.vec RTy.line true (addL (1 : Int) (0 : Int) l0 (Prod.snd (gLines rdP false (Int.toNat (Prod.fst (getP (List.drop (3 : Nat) b) (0 : Int) (1 : Int))) - (0 : Nat)) (Prod.fst (getP (List.drop (1 : Nat) (List.drop (3 : Nat) b)) (0 : Int) (3 : Int)) + (0 : Int)) (Rd.mk c (List.drop (3 : Nat) (List.drop (1 : Nat) (List.drop (3 : Nat) b))) false))))), some (Obj.vec RTy.line true (addL (1 : Int) (1 : Int) l1 (Prod.snd (gLines rdP false (Int.toNat (Prod.fst (getP (List.drop (3 : Nat) b) (0 : Int) (1 : Int))) - (0 : Nat)) (Prod.fst (getP (List.drop (1 : Nat) (List.drop (3 : Nat) b)) (0 : Int) (3 : Int)) + (0 : Int)) (Rd.mk c (List.drop (3 : Nat) (List.drop (1 : Nat) (List.drop (3 : Nat) b))) false))))), some (Obj.vec RTy.line true (addL (1 : Int) (2 : Int) l2 (Prod.snd (gLines rdP false (Int.toNat (Prod.fst (getP (List.drop (3 : Nat) b) (0 : Int) (1 : Int))) - (0 : Nat)) (Prod.fst (getP (List.drop (1 : Nat) (List.drop (3 : Nat) b)) (0 : Int) (3 : Int)) + (0 : Int)) (Rd.mk c (List.drop (3 : Nat) (List.drop (1 : Nat) (List.drop (3 : Nat) b))) false)))))]) else none else none else none else none else none else none else none) := by kernel_rfl
theorem rsQ_eq2 (c : Bool) (b : List UInt8) (bad : Bool) (pl : Int) (its : List Item) (l0 l1 l2 : List Line) (c0 c1 c2 : Int) : rsQ_r c b bad pl its l0 l1 l2 c0 c1 c2 2 = (bif decide (List.length b ≤ (1000000000000 : Nat)) then bif Prod.snd (getP b (0 : Int) (3 : Int)) != (0 : Int) then bif decide (List.length its = List.length its) && decide (List.length l0 = List.length l0) && decide (List.length l1 = List.length l1) && decide (List.length l2 = List.length l2) && decide ((0 : Int) ≤ (0 : Int) ∧ (0 : Int) ≤ (255 : Int) ∧ (0 : Nat) ≤ (1000000 : Nat) ∧ (List.length l0 ≤ (1000 : Nat) ∧ List.length l1 ≤ (1000 : Nat) ∧ List.length l2 ≤ (1000 : Nat)) ∧ ((0 : Int) ≤ (2 : Int) ∧ (2 : Int) ≤ (2 : Int)) ∧ (0 : Int) ≤ (0 : Int) ∧ (0 : Int) ≤ (16777215 : Int)) then some ((X.normal, [((4 : Nat), D.ptr (0 : Nat) []), ((5 : Nat), D.ptr (1 : Nat) []), ((39 : Nat), D.int IntKind.i64 (3 : Int))]), [some (Obj.var (74 : Nat) (D.acons (D.sl RTy.u8 true (Rd.b (Prod.fst (gLines rdP false (0 : Nat) (0 : Int) (Rd.mk true [] true))))) (D.acons (D.bool true) D.anil))), some (Obj.var (33 : Nat) (D.acons (D.int IntKind.i64 pl) (D.acons (D.vs (2 : Nat) (List.length its)) (D.acons (D.acons (D.vs (3 : Nat) (List.length (addL (2 : Int) (0 : Int) l0 (Prod.snd (gLines rdP false (0 : Nat) (0 : Int) (Rd.mk true [] true)))))) (D.acons (D.vs (4 : Nat) (List.length (addL (2 : Int) (1 : Int) l1 (Prod.snd (gLines rdP false (0 : Nat) (0 : Int) (Rd.mk true [] true)))))) (D.acons (D.vs (5 : Nat) (List.length (addL (2 : Int) (2 : Int) l2 (Prod.snd (gLines rdP false (0 : Nat) (0 : Int) (Rd.mk true [] true)))))) D.anil))) (D.acons (D.arr RTy.int (3 : Nat) [c0, c1, (0 : Int)]) D.anil))))), some (Obj.vec RTy.item true its), some (Obj.vec RTy.line true (addL (2 : Int) (0 : Int) l0 (Prod.snd (gLines rdP false (0 : Nat) (0 : Int) (Rd.mk true [] true))))), some (Obj.vec RTy.line true (addL (2 : Int) (1 : Int) l1 (Prod.snd (gLines rdP false (0 : Nat) (0 : Int) (Rd.mk true [] true))))), some (Obj.vec RTy.line true (addL (2 : Int) (2 : Int) l2 (Prod.snd (gLines rdP false (0 : Nat) (0 : Int) (Rd.mk true [] true)))))]) else none else bif decide ((0 : Int) ≤ (3 : Int) ∧ (3 : Int) ≤ (↑(List.length b) : Int)) then bif decide (List.length (List.drop (3 : Nat) b) ≤ (1000000000000 : Nat)) then bif Prod.snd (getP (List.drop (3 : Nat) b) (0 : Int) (1 : Int)) != (0 : Int) then bif decide (List.length its = List.length its) && decide (List.length l0 = List.length l0) && decide (List.length l1 = List.length l1) && decide (List.length l2 = List.length l2) && decide ((0 : Int) ≤ (0 : Int) ∧ (0 : Int) ≤ (255 : Int) ∧ (0 : Nat) ≤ (1000000 : Nat) ∧ (List.length l0 ≤ (1000 : Nat) ∧ List.length l1 ≤ (1000 : Nat) ∧ List.length l2 ≤ (1000 : Nat)) ∧ ((0 : Int) ≤ (2 : Int) ∧ (2 : Int) ≤ (2 : Int)) ∧ (0 : Int) ≤ (0 : Int) ∧ (0 : Int) ≤ (16777215 : Int)) then some ((X.normal, [((4 : Nat), D.ptr (0 : Nat) []), ((5 : Nat), D.ptr (1 : Nat) []), ((39 : Nat), D.int IntKind.i64 (3 : Int))]), [some (Obj.var (74 : Nat) (D.acons (D.sl RTy.u8 true (Rd.b (Prod.fst (gLines rdP false (0 : Nat) (0 : Int) (Rd.mk true [] true))))) (D.acons (D.bool true) D.anil))), some (Obj.var (33 : Nat) (D.acons (D.int IntKind.i64 pl) (D.acons (D.vs (2 : Nat) (List.length its)) (D.acons (D.acons (D.vs (3 : Nat) (List.length (addL (2 : Int) (0 : Int) l0 (Prod.snd (gLines rdP false (0 : Nat) (0 : Int) (Rd.mk true [] true)))))) (D.acons (D.vs (4 : Nat) (List.length (addL (2 : Int) (1 : Int) l1 (Prod.snd (gLines rdP false (0 : Nat) (0 : Int) (Rd.mk true [] true)))))) (D.acons (D.vs (5 : Nat) (List.length (addL (2 : Int) (2 : Int) l2 (Prod.snd (gLines rdP false (0 : Nat) (0 : Int) (Rd.mk true [] true)))))) D.anil))) (D.acons (D.arr RTy.int (3 : Nat) [c0, c1, Prod.fst (getP b (0 : Int) (3 : Int))]) D.anil))))), some (Obj.vec RTy.item true its), some (Obj.vec RTy.line true (addL (2 : Int) (0 : Int) l0 (Prod.snd (gLines rdP false (0 : Nat) (0 : Int) (Rd.mk true [] true))))), some (Obj.vec RTy.line true (addL (2 : Int) (1 : Int) l1 (Prod.snd (gLines rdP false (0 : Nat) (0 : Int) (Rd.mk true [] true))))), some (Obj.vec RTy.line true (addL (2 : Int) (2 : Int) l2 (Prod.snd (gLines rdP false (0 : Nat) (0 : Int) (Rd.mk true [] true)))))]) else none else bif decide ((0 : Int) ≤ (1 : Int) ∧ (1 : Int) ≤ (↑(List.length (List.drop (3 : Nat) b)) : Int)) then bif decide (List.length (List.drop (1 : Nat) (List.drop (3 : Nat) b)) ≤ (1000000000000 : Nat)) then bif Prod.snd (getP (List.drop (1 : Nat) (List.drop (3 : Nat) b)) (0 : Int) (3 : Int)) != (0 : Int) then bif decide (List.length its = List.length its) && decide (List.length l0 = List.length l0) && decide (List.length l1 = List.length l1) && decide (List.length l2 = List.length l2) && decide ((0 : Int) ≤ Prod.fst (getP (List.drop (3 : Nat) b) (0 : Int) (1 : Int)) ∧ Prod.fst (getP (List.drop (3 : Nat) b) (0 : Int) (1 : Int)) ≤ (255 : Int) ∧ (0 : Nat) ≤ (1000000 : Nat) ∧ (List.length l0 ≤ (1000 : Nat) ∧ List.length l1 ≤ (1000 : Nat) ∧ List.length l2 ≤ (1000 : Nat)) ∧ ((0 : Int) ≤ (2 : Int) ∧ (2 : Int) ≤ (2 : Int)) ∧ (0 : Int) ≤ (0 : Int) ∧ (0 : Int) ≤ (16777215 : Int)) then some ((X.normal, [((4 : Nat), D.ptr (0 : Nat) []), ((5 : Nat), D.ptr (1 : Nat) []), ((39 : Nat), D.int IntKind.i64 (3 : Int))]), [some (Obj.var (74 : Nat) (D.acons (D.sl RTy.u8 (Rd.c (Prod.fst (gLines rdP false (Int.toNat (Prod.fst (getP (List.drop (3 : Nat) b) (0 : Int) (1 : Int))) - (0 : Nat)) (0 : Int) (Rd.mk true [] true)))) (Rd.b (Prod.fst (gLines rdP false (Int.toNat (Prod.fst (getP (List.drop (3 : Nat) b) (0 : Int) (1 : Int))) - (0 : Nat)) (0 : Int) (Rd.mk true [] true))))) (D.acons (D.bool (Rd.bad (Prod.fst (gLines rdP false (Int.toNat (Prod.fst (getP (List.drop (3 : Nat) b) (0 : Int) (1 : Int))) - (0 : Nat)) (0 : Int) (Rd.mk true [] true))))) D.anil))), some (Obj.var (33 : Nat) (D.acons (D.int IntKind.i64 pl) (D.acons (D.vs (2 : Nat) (List.length its)) (D.acons (D.acons (D.vs (3 : Nat) (List.length (addL (2 : Int) (0 : Int) l0 (Prod.snd (gLines rdP false (Int.toNat (Prod.fst (getP (List.drop (3 : Nat) b) (0 : Int) (1 : Int))) - (0 : Nat)) (0 : Int) (Rd.mk true [] true)))))) (D.acons (D.vs (4 : Nat) (List.length (addL (2 : Int) (1 : Int) l1 (Prod.snd (gLines rdP false (Int.toNat (Prod.fst (getP (List.drop (3 : Nat) b) (0 : Int) (1 : Int))) - (0 : Nat)) (0 : Int) (Rd.mk true [] true)))))) (D.acons (D.vs (5 : Nat) (List.length (addL (2 : Int) (2 : Int) l2 (Prod.snd (gLines rdP false (Int.toNat (Prod.fst (getP (List.drop (3 : Nat) b) (0 : Int) (1 : Int))) - (0 : Nat)) (0 : Int) (Rd.mk true [] true)))))) D.anil))) (D.acons (D.arr RTy.int (3 : Nat) [c0, c1, Prod.fst (getP b (0 : Int) (3 : Int))]) D.anil))))), some (Obj.vec RTy.item true its), some (Obj.vec RTy.line true (addL (2 : Int) (0 : Int) l0 (Prod.snd (gLines rdP false (Int.toNat (Prod.fst (getP (List.drop (3 : Nat) b) (0 : Int) (1 : Int))) - (0 : Nat)) (0 : Int) (Rd.mk true [] true))))), some (Obj.vec RTy.line true (addL (2 : Int) (1 : Int) l1 (Prod.snd (gLines rdP false (Int.toNat (Prod.fst (getP (List.drop (3 : Nat) b) (0 : Int) (1 : Int))) - (0 : Nat)) (0 : Int) (Rd.mk true [] true))))), some (Obj.vec RTy.line true (addL (2 : Int) (2 : Int) l2 (Prod.snd (gLines rdP false (Int.toNat (Prod.fst (getP (List.drop (3 : Nat) b) (0 : Int) (1 : Int))) - (0 : Nat)) (0 : Int) (Rd.mk true [] true)))))]) else none else bif decide ((0 : Int) ≤ (3 : Int) ∧ (3 : Int) ≤ (↑(List.length (List.drop (1 : Nat) (List.drop (3 : Nat) b))) : Int)) then bif bad then bif decide (List.length its = List.length its) && decide (List.length l0 = List.length l0) && decide (List.length l1 = List.length l1) && decide (List.length l2 = List.length l2) && decide ((0 : Int) ≤ Prod.fst (getP (List.drop (3 : Nat) b) (0 : Int) (1 : Int)) ∧ Prod.fst (getP (List.drop (3 : Nat) b) (0 : Int) (1 : Int)) ≤ (255 : Int) ∧ List.length (List.drop (3 : Nat) (List.drop (1 : Nat) (List.drop (3 : Nat) b))) ≤ (1000000 : Nat) ∧ (List.length l0 ≤ (1000 : Nat) ∧ List.length l1 ≤ (1000 : Nat) ∧ List.length l2 ≤ (1000 : Nat)) ∧ ((0 : Int) ≤ (2 : Int) ∧ (2 : Int) ≤ (2 : Int)) ∧ (0 : Int) ≤ Prod.fst (getP (List.drop (1 : Nat) (List.drop (3 : Nat) b)) (0 : Int) (3 : Int)) ∧ Prod.fst (getP (List.drop (1 : Nat) (List.drop (3 : Nat) b)) (0 : Int) (3 : Int)) ≤ (16777215 : Int)) then some ((X.normal, [((4 : Nat), D.ptr (0 : Nat) []), ((5 : Nat), D.ptr (1 : Nat) []), ((39 : Nat), D.int IntKind.i64 (3 : Int))]), [some (Obj.var (74 : Nat) (D.acons (D.sl RTy.u8 (Rd.c (Prod.fst (gLines rdP false (Int.toNat (Prod.fst (getP (List.drop (3 : Nat) b) (0 : Int) (1 : Int))) - (0 : Nat)) (Prod.fst (getP (List.drop (1 : Nat) (List.drop (3 : Nat) b)) (0 : Int) (3 : Int)) + (0 : Int)) (Rd.mk c (List.drop (3 : Nat) (List.drop (1 : Nat) (List.drop (3 : Nat) b))) true)))) (Rd.b (Prod.fst (gLines rdP false (Int.toNat (Prod.fst (getP (List.drop (3 : Nat) b) (0 : Int) (1 : Int))) - (0 : Nat)) (Prod.fst (getP (List.drop (1 : Nat) (List.drop (3 : Nat) b)) (0 : Int) (3 : Int)) + (0 : Int)) (Rd.mk c (List.drop (3 : Nat) (List.drop (1 : Nat) (List.drop (3 : Nat) b))) true))))) (D.acons (D.bool (Rd.bad (Prod.fst (gLines rdP false (Int.toNat (Prod.fst (getP (List.drop (3 : Nat) b) (0 : Int) (1 : Int))) - (0 : Nat)) (Prod.fst (getP (List.drop (1 : Nat) (List.drop (3 : Nat) b)) (0 : Int) (3 : Int)) + (0 : Int)) (Rd.mk c (List.drop (3 : Nat) (List.drop (1 : Nat) (List.drop (3 : Nat) b))) true))))) D.anil))), some (Obj.var (33 : Nat) (D.acons (D.int IntKind.i64 pl) (D.acons (D.vs (2 : Nat) (List.length its)) (D.acons (D.acons (D.vs (3 : Nat) (List.length (addL (2 : Int) (0 : Int) l0 (Prod.snd (gLines rdP false (Int.toNat (Prod.fst (getP (List.drop (3 : Nat) b) (0 : Int) (1 : Int))) - (0 : Nat)) (Prod.fst (getP (List.drop (1 : Nat) (List.drop (3 : Nat) b)) (0 : Int) (3 : Int)) + (0 : Int)) (Rd.mk c (List.drop (3 : Nat) (List.drop (1 : Nat) (List.drop (3 : Nat) b))) true)))))) (D.acons (D.vs (4 : Nat) (List.length (addL (2 : Int) (1 : Int) l1 (Prod.snd (gLines rdP false (Int.toNat (Prod.fst (getP (List.drop (3 : Nat) b) (0 : Int) (1 : Int))) - (0 : Nat)) (Prod.fst (getP (List.drop (1 : Nat) (List.drop (3 : Nat) b)) (0 : Int) (3 : Int)) + (0 : Int)) (Rd.mk c (List.drop (3 : Nat) (List.drop (1 : Nat) (List.drop (3 : Nat) b))) true)))))) (D.acons (D.vs (5 : Nat) (List.length (addL (2 : Int) (2 : Int) l2 (Prod.snd (gLines rdP false (Int.toNat (Prod.fst (getP (List.drop (3 : Nat) b) (0 : Int) (1 : Int))) - (0 : Nat)) (Prod.fst (getP (List.drop (1 : Nat) (List.drop (3 : Nat) b)) (0 : Int) (3 : Int)) + (0 : Int)) (Rd.mk c (List.drop (3 : Nat) (List.drop (1 : Nat) (List.drop (3 : Nat) b))) true)))))) D.anil))) (D.acons (D.arr RTy.int (3 : Nat) [c0, c1, Prod.fst (getP b (0 : Int) (3 : Int))]) D.anil))))), some (Obj.vec RTy.item true its), some (Obj.vec RTy.line true (addL (2 : Int) (0 : Int) l0 (Prod.snd (gLines rdP false (Int.toNat (Prod.fst (getP (List.drop (3 : Nat) b) (0 : Int) (1 : Int))) - (0 : Nat)) (Prod.fst (getP (List.drop (1 : Nat) (List.drop (3 : Nat) b)) (0 : Int) (3 : Int)) + (0 : Int)) (Rd.mk c (List.drop (3 : Nat) (List.drop (1 : Nat) (List.drop (3 : Nat) b))) true))))), some (Obj.vec RTy.line true (addL (2 : Int) (1 : Int) l1 (Prod.snd (gLines rdP false (Int.toNat (Prod.fst (getP (List.drop (3 : Nat) b) (0 : Int) (1 : Int))) - (0 : Nat)) (Prod.fst (getP (List.drop (1 : Nat) (List.drop (3 : Nat) b)) (0 : Int) (3 : Int)) + (0 : Int)) (Rd.mk c (List.drop (3 : Nat) (List.drop (1 : Nat) (List.drop (3 : Nat) b))) true))))), some (Obj.vec RTy.line true (addL (2 : Int) (2 : Int) l2 (Prod.snd (gLines rdP false (Int.toNat (Prod.fst (getP (List.drop (3 : Nat) b) (0 : Int) (1 : Int))) - (0 : Nat)) (Prod.fst (getP (List.drop (1 : Nat) (List.drop (3 : Nat) b)) (0 : Int) (3 : Int)) + (0 : Int)) (Rd.mk c (List.drop (3 : Nat) (List.drop (1 : Nat) (List.drop (3 : Nat) b))) true)))))]) else none else bif Prod.fst (getP (List.drop (3 : Nat) b) (0 : Int) (1 : Int)) == (0 : Int) then bif decide (List.length its = List.length its) && decide (List.length l0 = List.length l0) && decide (List.length l1 = List.length l1) && decide (List.length l2 = List.length l2) && decide ((0 : Int) ≤ Prod.fst (getP (List.drop (3 : Nat) b) (0 : Int) (1 : Int)) ∧ Prod.fst (getP (List.drop (3 : Nat) b) (0 : Int) (1 : Int)) ≤ (255 : Int) ∧ List.length (List.drop (3 : Nat) (List.drop (1 : Nat) (List.drop (3 : Nat) b))) ≤ (1000000 : Nat) ∧ (List.length l0 ≤ (1000 : Nat) ∧ List.length l1 ≤ (1000 : Nat) ∧ List.length l2 ≤ (1000 : Nat)) ∧ ((0 : Int) ≤ (2 : Int) ∧ (2 : Int) ≤ (2 : Int)) ∧ (0 : Int) ≤ Prod.fst (getP (List.drop (1 : Nat) (List.drop (3 : Nat) b)) (0 : Int) (3 : Int)) ∧ Prod.fst (getP (List.drop (1 : Nat) (List.drop (3 : Nat) b)) (0 : Int) (3 : Int)) ≤ (16777215 : Int)) then some ((X.normal, [((4 : Nat), D.ptr (0 : Nat) []), ((5 : Nat), D.ptr (1 : Nat) []), ((39 : Nat), D.int IntKind.i64 (3 : Int))]), [some (Obj.var (74 : Nat) (D.acons (D.sl RTy.u8 (Rd.c (Prod.fst (gLines rdP false (Int.toNat (Prod.fst (getP (List.drop (3 : Nat) b) (0 : Int) (1 : Int))) - (0 : Nat)) (Prod.fst (getP (List.drop (1 : Nat) (List.drop (3 : Nat) b)) (0 : Int) (3 : Int)) + (0 : Int)) (Rd.mk c (List.drop (3 : Nat) (List.drop (1 : Nat) (List.drop (3 : Nat) b))) (Prod.fst (getP (List.drop (1 : Nat) (List.drop (3 : Nat) b)) (0 : Int) (3 : Int)) != (0 : Int)))))) (Rd.b (Prod.fst (gLines rdP false (Int.toNat (Prod.fst (getP (List.drop (3 : Nat) b) (0 : Int) (1 : Int))) - (0 : Nat)) (Prod.fst (getP (List.drop (1 : Nat) (List.drop (3 : Nat) b)) (0 : Int) (3 : Int)) + (0 : Int)) (Rd.mk c (List.drop (3 : Nat) (List.drop (1 : Nat) (List.drop (3 : Nat) b))) (Prod.fst (getP (List.drop (1 : Nat) (List.drop (3 : Nat) b)) (0 : Int) (3 : Int)) != (0 : Int))))))) (D.acons (D.bool (Rd.bad (Prod.fst (gLines rdP false (Int.toNat (Prod.fst (getP (List.drop (3 : Nat) b) (0 : Int) (1 : Int))) - (0 : Nat)) (Prod.fst (getP (List.drop (1 : Nat) (List.drop (3 : Nat) b)) (0 : Int) (3 : Int)) + (0 : Int)) (Rd.mk c (List.drop (3 : Nat) (List.drop (1 : Nat) (List.drop (3 : Nat) b))) (Prod.fst (getP (List.drop (1 : Nat) (List.drop (3 : Nat) b)) (0 : Int) (3 : Int)) != (0 : Int))))))) D.anil))), some (Obj.var (33 : Nat) (D.acons (D.int IntKind.i64 pl) (D.acons (D.vs (2 : Nat) (List.length its)) (D.acons (D.acons (D.vs (3 : Nat) (List.length (addL (2 : Int) (0 : Int) l0 (Prod.snd (gLines rdP false (Int.toNat (Prod.fst (getP (List.drop (3 : Nat) b) (0 : Int) (1 : Int))) - (0 : Nat)) (Prod.fst (getP (List.drop (1 : Nat) (List.drop (3 : Nat) b)) (0 : Int) (3 : Int)) + (0 : Int)) (Rd.mk c (List.drop (3 : Nat) (List.drop (1 : Nat) (List.drop (3 : Nat) b))) (Prod.fst (getP (List.drop (1 : Nat) (List.drop (3 : Nat) b)) (0 : Int) (3 : Int)) != (0 : Int)))))))) (D.acons (D.vs (4 : Nat) (List.length (addL (2 : Int) (1 : Int) l1 (Prod.snd (gLines rdP false (Int.toNat (Prod.fst (getP (List.drop (3 : Nat) b) (0 : Int) (1 : Int))) - (0 : Nat)) (Prod.fst (getP (List.drop (1 : Nat) (List.drop (3 : Nat) b)) (0 : Int) (3 : Int)) + (0 : Int)) (Rd.mk c (List.drop (3 : Nat) (List.drop (1 : Nat) (List.drop (3 : Nat) b))) (Prod.fst (getP (List.drop (1 : Nat) (List.drop (3 : Nat) b)) (0 : Int) (3 : Int)) != (0 : Int)))))))) (D.acons (D.vs (5 : Nat) (List.length (addL (2 : Int) (2 : Int) l2 (Prod.snd (gLines rdP false (Int.toNat (Prod.fst (getP (List.drop (3 : Nat) b) (0 : Int) (1 : Int))) - (0 : Nat)) (Prod.fst (getP (List.drop (1 : Nat) (List.drop (3 : Nat) b)) (0 : Int) (3 : Int)) + (0 : Int)) (Rd.mk c (List.drop (3 : Nat) (List.drop (1 : Nat) (List.drop (3 : Nat) b))) (Prod.fst (getP (List.drop (1 : Nat) (List.drop (3 : Nat) b)) (0 : Int) (3 : Int)) != (0 : Int)))))))) D.anil))) (D.acons (D.arr RTy.int (3 : Nat) [c0, c1, Prod.fst (getP b (0 : Int) (3 : Int))]) D.anil))))), some (Obj.vec RTy.item true its), some (Obj.vec RTy.line true (addL (2 : Int) (0 : Int) l0 (Prod.snd (gLines rdP false (Int.toNat (Prod.fst (getP (List.drop (3 : Nat) b) (0 : Int) (1 : Int))) - (0 : Nat)) (Prod.fst (getP (List.drop (1 : Nat) (List.drop (3 : Nat) b)) (0 : Int) (3 : Int)) + (0 : Int)) (Rd.mk c (List.drop (3 : Nat) (List.drop (1 : Nat) (List.drop (3 : Nat) b))) (Prod.fst (getP (List.drop (1 : Nat) (List.drop (3 : Nat) b)) (0 : Int) (3 : Int)) != (0 : Int))))))), some (Obj.vec RTy.line true (addL (2 : Int) (1 : Int) l1 (Prod.snd (gLines rdP false (Int.toNat (Prod.fst (getP (List.drop (3 : Nat) b) (0 : Int) (1 : Int))) - (0 : Nat)) (Prod.fst (getP (List.drop (1 : Nat) (List.drop (3 : Nat) b)) (0 : Int) (3 : Int)) + (0 : Int)) (Rd.mk c (List.drop (3 : Nat) (List.drop (1 : Nat) (List.drop (3 : Nat) b))) (Prod.fst (getP (List.drop (1 : Nat) (List.drop (3 : Nat) b)) (0 : Int) (3 : Int)) != (0 : Int))))))), some (Obj.vec RTy.line true (addL (2 : Int) (2 : Int) l2 (Prod.snd (gLines rdP false (Int.toNat (Prod.fst (getP (List.drop (3 : Nat) b) (0 : Int) (1 : Int))) - (0 : Nat)) (Prod.fst (getP (List.drop (1 : Nat) (List.drop (3 : Nat) b)) (0 : Int) (3 : Int)) + (0 : Int)) (Rd.mk c (List.drop (3 : Nat) (List.drop (1 : Nat) (List.drop (3 : Nat) b))) (Prod.fst (getP (List.drop (1 : Nat) (List.drop (3 : Nat) b)) (0 : Int) (3 : Int)) != (0 : Int)))))))]) else none else bif decide (List.length its = List.length its) && decide (List.length l0 = List.length l0) && decide (List.length l1 = List.length l1) && decide (List.length l2 = List.length l2) && decide ((0 : Int) ≤ Prod.fst (getP (List.drop (3 : Nat) b) (0 : Int) (1 : Int)) ∧ Prod.fst (getP (List.drop (3 : Nat) b) (0 : Int) (1 : Int)) ≤ (255 : Int) ∧ List.length (List.drop (3 : Nat) (List.drop (1 : Nat) (List.drop (3 : Nat) b))) ≤ (1000000 : Nat) ∧ (List.length l0 ≤ (1000 : Nat) ∧ List.length l1 ≤ (1000 : Nat) ∧ List.length l2 ≤ (1000 : Nat)) ∧ ((0 : Int) ≤ (2 : Int) ∧ (2 : Int) ≤ (2 : Int)) ∧ (0 : Int) ≤ Prod.fst (getP (List.drop (1 : Nat) (List.drop (3 : Nat) b)) (0 : Int) (3 : Int)) ∧ Prod.fst (getP (List.drop (1 : Nat) (List.drop (3 : Nat) b)) (0 : Int) (3 : Int)) ≤ (16777215 : Int)) then some ((X.normal, [((4 : Nat), D.ptr (0 : Nat) []), ((5 : Nat), D.ptr (1 : Nat) []), ((39 : Nat), D.int IntKind.i64 (3 : Int))]), [some (Obj.var (74 : Nat) (D.acons (D.sl RTy.u8 (Rd.c (Prod.fst (gLines rdP false (Int.toNat (Prod.fst (getP (List.drop (3 : Nat) b) (0 : Int) (1 : Int))) - (0 : Nat)) (Prod.fst (getP (List.drop (1 : Nat) (List.drop (3 : Nat) b)) (0 : Int) (3 : Int)) + (0 : Int)) (Rd.mk c (List.drop (3 : Nat) (List.drop (1 : Nat) (List.drop (3 : Nat) b))) false)))) (Rd.b (Prod.fst (gLines rdP false (Int.toNat (Prod.fst (getP (List.drop (3 : Nat) b) (0 : Int) (1 : Int))) - (0 : Nat)) (Prod.fst (getP (List.drop (1 : Nat) (List.drop (3 : Nat) b)) (0 : Int) (3 : Int)) + (0 : Int)) (Rd.mk c (List.drop (3 : Nat) (List.drop (1 : Nat) (List.drop (3 : Nat) b))) false))))) (D.acons (D.bool (Rd.bad (Prod.fst (gLines rdP false (Int.toNat (Prod.fst (getP (List.drop (3 : Nat) b) (0 : Int) (1 : Int))) - (0 : Nat)) (Prod.fst (getP (List.drop (1 : Nat) (List.drop (3 : Nat) b)) (0 : Int) (3 : Int)) + (0 : Int)) (Rd.mk c (List.drop (3 : Nat) (List.drop (1 : Nat) (List.drop (3 : Nat) b))) false))))) D.anil))), some (Obj.var (33 : Nat) (D.acons (D.int IntKind.i64 pl) (D.acons (D.vs (2 : Nat) (List.length its)) (D.acons (D.acons (D.vs (3 : Nat) (List.length (addL (2 : Int) (0 : Int) l0 (Prod.snd (gLines rdP false (Int.toNat (Prod.fst (getP (List.drop (3 : Nat) b) (0 : Int) (1 : Int))) - (0 : Nat)) (Prod.fst (getP (List.drop (1 : Nat) (List.drop (3 : Nat) b)) (0 : Int) (3 : Int)) + (0 : Int)) (Rd.mk c (List.drop (3 : Nat) (List.drop (1 : Nat) (List.drop (3 : Nat) b))) false)))))) (D.acons (D.vs (4 : Nat) (List.length (addL (2 : Int) (1 : Int) l1 (Prod.snd (gLines rdP false (Int.toNat (Prod.fst (getP (List.drop (3 : Nat) b) (0 : Int) (1 : Int))) - (0 : Nat)) (Prod.fst (getP (List.drop (1 : Nat) (List.drop (3 : Nat) b)) (0 : Int) (3 : Int)) + (0 : Int)) (Rd.mk c (List.drop (3 : Nat) (List.drop (1 : Nat) (List.drop (3 : Nat) b))) false)))))) (D.acons (D.vs (5 : Nat) (List.length (addL (2 : Int) (2 : Int) l2 (Prod.snd (gLines rdP false (Int.toNat (Prod.fst (getP (List.drop (3 : Nat) b) (0 : Int) (1 : Int))) - (0 : Nat)) (Prod.fst (getP (List.drop (1 : Nat) (List.drop (3 : Nat) b)) (0 : Int) (3 : Int)) + (0 : Int)) (Rd.mk c (List.drop (3 : Nat) (List.drop (1 : Nat) (List.drop (3 : Nat) b))) false)))))) D.anil))) (D.acons (D.arr RTy.int (3 : Nat) [c0, c1, Prod.fst (getP b (0 : Int) (3 : Int))]) D.anil))))), some (Obj.vec RTy.item true its), some (Obj.vec RTy.line true (addL (2 : Int) (0 : Int) l0 (Prod.snd (gLines rdP false (Int.toNat (Prod.fst (getP (List.drop (3 : Nat) b) (0 : Int) (1 : Int))) - (0 : Nat)) (Prod.fst (getP (List.drop (1 : Nat) (List.drop (3 : Nat) b)) (0 : Int) (3 : Int)) + (0 : Int)) (Rd.mk c (List.drop (3 : Nat) (List.drop (1 : Nat) (List.drop (3 : Nat) b))) false))))), some (Obj.vec RTy.line true (addL (2 : Int) (1 : Int) l1 (Prod.snd (gLines rdP false (Int.toNat (Prod.fst (getP (List.drop (3 : Nat) b) (0 : Int) (1 : Int))) - (0 : Nat)) (Prod.fst (getP (List.drop (1 : Nat) (List.drop (3 : Nat) b)) (0 : Int) (3 : Int)) + (0 : Int)) (Rd.mk c (List.drop (3 : Nat) (List.drop (1 : Nat) (List.drop (3 : Nat) b))) false))))), some (Obj.vec RTy.line true (addL (2 : Int) (2 : Int) l2 (Prod.snd (gLines rdP false (Int.toNat (Prod.fst (getP (List.drop (3 : Nat) b) (0 : Int) (1 : Int))) - (0 : Nat)) (Prod.fst (getP (List.drop (1 : Nat) (List.drop (3 : Nat) b)) (0 : Int) (3 : Int)) + (0 : Int)) (Rd.mk c (List.drop (3 : Nat) (List.drop (1 : Nat) (List.drop (3 : Nat) b))) false)))))]) else none else none else none else none else none else none else none) := by kernel_rfl
theorem rsQ_eq3 (c : Bool) (b : List UInt8) (bad : Bool) (pl : Int) (its : List Item) (l0 l1 l2 : List Line) (c0 c1 c2 : Int) : rsQ_r c b bad pl its l0 l1 l2 c0 c1 c2 3 = (some ((X.exit (2 : Nat), []), [some (Obj.var (74 : Nat) (D.acons (D.sl RTy.u8 c b) (D.acons (D.bool bad) D.anil))), some (Obj.var (33 : Nat) (D.acons (D.int IntKind.i64 pl) (D.acons (D.vs (2 : Nat) (List.length its)) (D.acons (D.acons (D.vs (3 : Nat) (List.length l0)) (D.acons (D.vs (4 : Nat) (List.length l1)) (D.acons (D.vs (5 : Nat) (List.length l2)) D.anil))) (D.acons (D.arr RTy.int (3 : Nat) [c0, c1, c2]) D.anil))))), some (Obj.vec RTy.item true its), some (Obj.vec RTy.line true l0), some (Obj.vec RTy.line true l1), some (Obj.vec RTy.line true l2)])) := by kernel_rfl
def rsQ_fin (c : Bool) (b : List UInt8) (bad : Bool) (pl : Int) (its : List Item) (l0 : List Line) (l1 : List Line) (l2 : List Line) (c0 : Int) (c1 : Int) (c2 : Int) (q : Nat) : RT RC := .leaf (.exit 2) [] [.var 74 (.acons (.sl (C := RC) .u8 (runQ rdP false markP q ⟨⟨c, b, bad⟩, l0, l1, l2, c0, c1, c2⟩).r.c (runQ rdP false markP q ⟨⟨c, b, bad⟩, l0, l1, l2, c0, c1, c2⟩).r.b) (.acons (.bool (runQ rdP false markP q ⟨⟨c, b, bad⟩, l0, l1, l2, c0, c1, c2⟩).r.bad) .anil)), .var 33 (.acons (.int .i64 pl) (.acons (.vs 2 its.length) (.acons (.acons (.vs 3 (runQ rdP false markP q ⟨⟨c, b, bad⟩, l0, l1, l2, c0, c1, c2⟩).l0.length) (.acons (.vs 4 (runQ rdP false markP q ⟨⟨c, b, bad⟩, l0, l1, l2, c0, c1, c2⟩).l1.length) (.acons (.vs 5 (runQ rdP false markP q ⟨⟨c, b, bad⟩, l0, l1, l2, c0, c1, c2⟩).l2.length) .anil))) (.acons (.arr (C := RC) .int 3 [(runQ rdP false markP q ⟨⟨c, b, bad⟩, l0, l1, l2, c0, c1, c2⟩).c0, (runQ rdP false markP q ⟨⟨c, b, bad⟩, l0, l1, l2, c0, c1, c2⟩).c1, (runQ rdP false markP q ⟨⟨c, b, bad⟩, l0, l1, l2, c0, c1, c2⟩).c2]) .anil)))), .vec (C := RC) .item true its, .vec (C := RC) .line true (runQ rdP false markP q ⟨⟨c, b, bad⟩, l0, l1, l2, c0, c1, c2⟩).l0, .vec (C := RC) .line true (runQ rdP false markP q ⟨⟨c, b, bad⟩, l0, l1, l2, c0, c1, c2⟩).l1, .vec (C := RC) .line true (runQ rdP false markP q ⟨⟨c, b, bad⟩, l0, l1, l2, c0, c1, c2⟩).l2]
def rsQ_Inv (c : Bool) (b : List UInt8) (bad : Bool) (pl : Int) (its : List Item) (l0 : List Line) (l1 : List Line) (l2 : List Line) (c0 : Int) (c1 : Int) (c2 : Int) (q : Nat) : Prop := q ≤ 3 ∧ b.length ≤ 1000000 ∧ l0.length ≤ 255 * q ∧ l1.length ≤ 255 * q ∧ l2.length ≤ 255 * q
def rsQ_S : LoopR RC rsQ_St where
  k := 6
  canon q := rsQ_c q.c q.b q.bad q.pl q.its q.l0 q.l1 q.l2 q.c0 q.c1 q.c2 q.q
  objs q := rsQ_o q.c q.b q.bad q.pl q.its q.l0 q.l1 q.l2 q.c0 q.c1 q.c2 q.q
  fin q := rsQ_fin q.c q.b q.bad q.pl q.its q.l0 q.l1 q.l2 q.c0 q.c1 q.c2 q.q
  Inv q := rsQ_Inv q.c q.b q.bad q.pl q.its q.l0 q.l1 q.l2 q.c0 q.c1 q.c2 q.q
  μ q := 3 - q.q
theorem rsQ_round (c : Bool) (b : List UInt8) (bad : Bool) (pl : Int) (its : List Item) (l0 : List Line) (l1 : List Line) (l2 : List Line) (c0 : Int) (c1 : Int) (c2 : Int) (q : Nat) (hI : rsQ_Inv c b bad pl its l0 l1 l2 c0 c1 c2 q) : Leaf (rsQ_r c b bad pl its l0 l1 l2 c0 c1 c2 q) (LedR rsQ_S ⟨c, b, bad, pl, its, l0, l1, l2, c0, c1, c2, q⟩) := by
  unfold rsQ_Inv at hI
  obtain ⟨h1, h2, h3, h4, h5⟩ := hI
  have t1 : Int.toNat 1 = 1 := rfl
  have t3 : Int.toNat 3 = 3 := rfl
  have z1 : rget 1 ⟨true, [], true⟩ = (0, ⟨true, [], true⟩) := rfl
  have z3 : rget 3 ⟨true, [], true⟩ = (0, ⟨true, [], true⟩) := rfl
  have k01 : ¬ (0 : Int) = 1 := by omega
  have k02 : ¬ (0 : Int) = 2 := by omega
  have k10 : ¬ (1 : Int) = 0 := by omega
  have k12 : ¬ (1 : Int) = 2 := by omega
  have k20 : ¬ (2 : Int) = 0 := by omega
  have k21 : ¬ (2 : Int) = 1 := by omega
  have e0 : decide (b.length ≤ 1000000000000) = true := decide_eq_true (by omega)
  have pb := gPart_blen ⟨c, b, bad⟩
  have pn := gPart_len ⟨c, b, bad⟩
  by_cases x3 : q = 3
  · subst x3
    rw [rsQ_eq3]
    exact leafR_exit (rsQ_o c b bad pl its l0 l1 l2 c0 c1 c2 3) rfl rfl
  by_cases x0 : q = 0
  · subst x0
    have hgo : ∀ (r' : Rd) (cut : Int) (L : List Line), gPart rdP false markP ⟨c, b, bad⟩ = (r', cut, L) → Leaf (some ((X.normal, [(4, .ptr 0 []), (5, .ptr 1 []), (39, .int .i64 1)]), [some (.var 74 (.acons (.sl (C := RC) .u8 r'.c r'.b) (.acons (.bool r'.bad) .anil))), some (.var 33 (.acons (.int .i64 pl) (.acons (.vs 2 its.length) (.acons (.acons (.vs 3 (l0 ++ L).length) (.acons (.vs 4 l1.length) (.acons (.vs 5 l2.length) .anil))) (.acons (.arr (C := RC) .int 3 [cut, c1, c2]) .anil))))), some (.vec (C := RC) .item true its), some (.vec (C := RC) .line true (l0 ++ L)), some (.vec (C := RC) .line true l1), some (.vec (C := RC) .line true l2)])) (LedR rsQ_S ⟨c, b, bad, pl, its, l0, l1, l2, c0, c1, c2, 0⟩) := by
      intro r' cut L hP
      rw [hP] at pb pn
      simp only at pb pn
      have hrun : runQ rdP false markP 1 ⟨⟨r'.c, r'.b, r'.bad⟩, l0 ++ L, l1, l2, cut, c1, c2⟩ = runQ rdP false markP 0 ⟨⟨c, b, bad⟩, l0, l1, l2, c0, c1, c2⟩ := by
        simp only [runQ, part0, hP]
      refine leafR_go ⟨r'.c, r'.b, r'.bad, pl, its, l0 ++ L, l1, l2, cut, c1, c2, 1⟩ ?_ (by simp only [rsQ_S]; omega) ?_ rfl rfl
      · refine ⟨by simp, ?_, ?_, ?_, ?_⟩ <;> simp <;> omega
      · simp only [rsQ_S, rsQ_fin, hrun]
    rw [rsQ_eq0]
    simp only [e0, cond_true, getP_snd1, getP_snd3, t1, t3]
    by_cases q0 : b.length < 3
    · have r0 : rget 3 ⟨c, b, bad⟩ = _ := rget_no q0
      simp only [q0, decide_true, cond_true]
      simp (disch := omega) only [decide_eq_true, Bool.and_self, cond_true, addL, if_true, if_false, k01, k02, k10, k12, k20, k21]
      exact hgo ⟨true, [], true⟩ 0 [] (gPart_of r0 z1 z3)
    have r0 : rget 3 ⟨c, b, bad⟩ = _ := rget_ok (show 3 ≤ b.length by omega)
    have d0 : decide ((0 : Int) ≤ 3 ∧ (3 : Int) ≤ b.length) = true := by simp only [decide_eq_true_eq]; omega
    have e1 : decide ((b.drop 3).length ≤ 1000000000000) = true := decide_eq_true (by simp; omega)
    simp only [q0, decide_false, cond_false, d0, cond_true, e1, getP_fst3 q0]
    by_cases q1 : (b.drop 3).length < 1
    · have r1 : rget 1 ⟨c, b.drop 3, bad⟩ = _ := rget_no q1
      simp only [q1, decide_true, cond_true]
      simp (disch := omega) only [decide_eq_true, Bool.and_self, cond_true, addL, if_true, if_false, k01, k02, k10, k12, k20, k21]
      exact hgo ⟨true, [], true⟩ _ [] (gPart_of r0 r1 z3)
    have r1 : rget 1 ⟨c, b.drop 3, bad⟩ = _ := rget_ok (show 1 ≤ (b.drop 3).length by omega)
    have d1 : decide ((0 : Int) ≤ 1 ∧ (1 : Int) ≤ (b.drop 3).length) = true := by simp only [decide_eq_true_eq]; omega
    have e2 : decide (((b.drop 3).drop 1).length ≤ 1000000000000) = true := decide_eq_true (by simp; omega)
    simp only [q1, decide_false, cond_false, d1, cond_true, e2, getP_fst1 q1]
    have n1 := leVal_le (b.drop 3) 1
    have f1 := leVal_le ((b.drop 3).drop 1) 3
    have bl : (((b.drop 3).drop 1).drop 3).length ≤ 1000000 := by simp; omega
    simp only [Nat.reducePow] at n1 f1
    by_cases q2 : ((b.drop 3).drop 1).length < 3
    · have r2 : rget 3 ⟨c, (b.drop 3).drop 1, bad⟩ = _ := rget_no q2
      simp only [q2, decide_true, cond_true]
      have bz : ([] : List UInt8).length ≤ 1000000 := by simp
      simp (disch := (first | omega | (simp; omega))) only [decide_eq_true, Bool.and_self, cond_true, addL, if_true, if_false, k01, k02, k10, k12, k20, k21, Nat.sub_zero, Int.add_zero]
      refine hgo _ _ _ ?_
      rw [gPart_of r0 r1 r2]
      have : ((leVal ((b.drop 3).take 1) : Int) == 0 && (0 : Int) != 0) = false := by simp
      rw [this]; rfl
    have r2 : rget 3 ⟨c, (b.drop 3).drop 1, bad⟩ = _ := rget_ok (show 3 ≤ ((b.drop 3).drop 1).length by omega)
    have d2 : decide ((0 : Int) ≤ 3 ∧ (3 : Int) ≤ ((b.drop 3).drop 1).length) = true := by simp only [decide_eq_true_eq]; omega
    simp only [q2, decide_false, cond_false, d2, cond_true, getP_fst3 q2]
    have hP := gPart_of r0 r1 r2
    cases bad
    · simp only [cond_false]
      cases hz : ((leVal ((b.drop 3).take 1) : Int) == 0)
      · simp only [cond_false]
        simp (disch := omega) only [decide_eq_true, Bool.and_self, cond_true, addL, if_true, if_false, k01, k02, k10, k12, k20, k21, Nat.sub_zero, Int.add_zero]
        refine hgo _ _ _ ?_
        rw [hP, hz]; rfl
      · simp only [cond_true]
        simp (disch := omega) only [decide_eq_true, Bool.and_self, cond_true, addL, if_true, if_false, k01, k02, k10, k12, k20, k21, Nat.sub_zero, Int.add_zero]
        refine hgo _ _ _ ?_
        rw [hP, hz]
        cases hf : ((leVal (((b.drop 3).drop 1).take 3) : Int) != 0) <;> rfl
    · simp only [cond_true]
      simp (disch := omega) only [decide_eq_true, Bool.and_self, cond_true, addL, if_true, if_false, k01, k02, k10, k12, k20, k21, Nat.sub_zero, Int.add_zero]
      refine hgo _ _ _ ?_
      rw [hP]
      cases ((leVal ((b.drop 3).take 1) : Int) == 0 && (leVal (((b.drop 3).drop 1).take 3) : Int) != 0) <;> rfl
  by_cases x1 : q = 1
  · subst x1
    have hgo : ∀ (r' : Rd) (cut : Int) (L : List Line), gPart rdP false markP ⟨c, b, bad⟩ = (r', cut, L) → Leaf (some ((X.normal, [(4, .ptr 0 []), (5, .ptr 1 []), (39, .int .i64 2)]), [some (.var 74 (.acons (.sl (C := RC) .u8 r'.c r'.b) (.acons (.bool r'.bad) .anil))), some (.var 33 (.acons (.int .i64 pl) (.acons (.vs 2 its.length) (.acons (.acons (.vs 3 l0.length) (.acons (.vs 4 (l1 ++ L).length) (.acons (.vs 5 l2.length) .anil))) (.acons (.arr (C := RC) .int 3 [c0, cut, c2]) .anil))))), some (.vec (C := RC) .item true its), some (.vec (C := RC) .line true l0), some (.vec (C := RC) .line true (l1 ++ L)), some (.vec (C := RC) .line true l2)])) (LedR rsQ_S ⟨c, b, bad, pl, its, l0, l1, l2, c0, c1, c2, 1⟩) := by
      intro r' cut L hP
      rw [hP] at pb pn
      simp only at pb pn
      have hrun : runQ rdP false markP 2 ⟨⟨r'.c, r'.b, r'.bad⟩, l0, l1 ++ L, l2, c0, cut, c2⟩ = runQ rdP false markP 1 ⟨⟨c, b, bad⟩, l0, l1, l2, c0, c1, c2⟩ := by
        simp only [runQ, part1, hP]
      refine leafR_go ⟨r'.c, r'.b, r'.bad, pl, its, l0, l1 ++ L, l2, c0, cut, c2, 2⟩ ?_ (by simp only [rsQ_S]; omega) ?_ rfl rfl
      · refine ⟨by simp, ?_, ?_, ?_, ?_⟩ <;> simp <;> omega
      · simp only [rsQ_S, rsQ_fin, hrun]
    rw [rsQ_eq1]
    simp only [e0, cond_true, getP_snd1, getP_snd3, t1, t3]
    by_cases q0 : b.length < 3
    · have r0 : rget 3 ⟨c, b, bad⟩ = _ := rget_no q0
      simp only [q0, decide_true, cond_true]
      simp (disch := omega) only [decide_eq_true, Bool.and_self, cond_true, addL, if_true, if_false, k01, k02, k10, k12, k20, k21]
      exact hgo ⟨true, [], true⟩ 0 [] (gPart_of r0 z1 z3)
    have r0 : rget 3 ⟨c, b, bad⟩ = _ := rget_ok (show 3 ≤ b.length by omega)
    have d0 : decide ((0 : Int) ≤ 3 ∧ (3 : Int) ≤ b.length) = true := by simp only [decide_eq_true_eq]; omega
    have e1 : decide ((b.drop 3).length ≤ 1000000000000) = true := decide_eq_true (by simp; omega)
    simp only [q0, decide_false, cond_false, d0, cond_true, e1, getP_fst3 q0]
    by_cases q1 : (b.drop 3).length < 1
    · have r1 : rget 1 ⟨c, b.drop 3, bad⟩ = _ := rget_no q1
      simp only [q1, decide_true, cond_true]
      simp (disch := omega) only [decide_eq_true, Bool.and_self, cond_true, addL, if_true, if_false, k01, k02, k10, k12, k20, k21]
      exact hgo ⟨true, [], true⟩ _ [] (gPart_of r0 r1 z3)
    have r1 : rget 1 ⟨c, b.drop 3, bad⟩ = _ := rget_ok (show 1 ≤ (b.drop 3).length by omega)
    have d1 : decide ((0 : Int) ≤ 1 ∧ (1 : Int) ≤ (b.drop 3).length) = true := by simp only [decide_eq_true_eq]; omega
    have e2 : decide (((b.drop 3).drop 1).length ≤ 1000000000000) = true := decide_eq_true (by simp; omega)
    simp only [q1, decide_false, cond_false, d1, cond_true, e2, getP_fst1 q1]
    have n1 := leVal_le (b.drop 3) 1
    have f1 := leVal_le ((b.drop 3).drop 1) 3
    have bl : (((b.drop 3).drop 1).drop 3).length ≤ 1000000 := by simp; omega
    simp only [Nat.reducePow] at n1 f1
    by_cases q2 : ((b.drop 3).drop 1).length < 3
    · have r2 : rget 3 ⟨c, (b.drop 3).drop 1, bad⟩ = _ := rget_no q2
      simp only [q2, decide_true, cond_true]
      have bz : ([] : List UInt8).length ≤ 1000000 := by simp
      simp (disch := (first | omega | (simp; omega))) only [decide_eq_true, Bool.and_self, cond_true, addL, if_true, if_false, k01, k02, k10, k12, k20, k21, Nat.sub_zero, Int.add_zero]
      refine hgo _ _ _ ?_
      rw [gPart_of r0 r1 r2]
      have : ((leVal ((b.drop 3).take 1) : Int) == 0 && (0 : Int) != 0) = false := by simp
      rw [this]; rfl
    have r2 : rget 3 ⟨c, (b.drop 3).drop 1, bad⟩ = _ := rget_ok (show 3 ≤ ((b.drop 3).drop 1).length by omega)
    have d2 : decide ((0 : Int) ≤ 3 ∧ (3 : Int) ≤ ((b.drop 3).drop 1).length) = true := by simp only [decide_eq_true_eq]; omega
    simp only [q2, decide_false, cond_false, d2, cond_true, getP_fst3 q2]
    have hP := gPart_of r0 r1 r2
    cases bad
    · simp only [cond_false]
      cases hz : ((leVal ((b.drop 3).take 1) : Int) == 0)
      · simp only [cond_false]
        simp (disch := omega) only [decide_eq_true, Bool.and_self, cond_true, addL, if_true, if_false, k01, k02, k10, k12, k20, k21, Nat.sub_zero, Int.add_zero]
        refine hgo _ _ _ ?_
        rw [hP, hz]; rfl
      · simp only [cond_true]
        simp (disch := omega) only [decide_eq_true, Bool.and_self, cond_true, addL, if_true, if_false, k01, k02, k10, k12, k20, k21, Nat.sub_zero, Int.add_zero]
        refine hgo _ _ _ ?_
        rw [hP, hz]
        cases hf : ((leVal (((b.drop 3).drop 1).take 3) : Int) != 0) <;> rfl
    · simp only [cond_true]
      simp (disch := omega) only [decide_eq_true, Bool.and_self, cond_true, addL, if_true, if_false, k01, k02, k10, k12, k20, k21, Nat.sub_zero, Int.add_zero]
      refine hgo _ _ _ ?_
      rw [hP]
      cases ((leVal ((b.drop 3).take 1) : Int) == 0 && (leVal (((b.drop 3).drop 1).take 3) : Int) != 0) <;> rfl
  by_cases x2 : q = 2
  · subst x2
    have hgo : ∀ (r' : Rd) (cut : Int) (L : List Line), gPart rdP false markP ⟨c, b, bad⟩ = (r', cut, L) → Leaf (some ((X.normal, [(4, .ptr 0 []), (5, .ptr 1 []), (39, .int .i64 3)]), [some (.var 74 (.acons (.sl (C := RC) .u8 r'.c r'.b) (.acons (.bool r'.bad) .anil))), some (.var 33 (.acons (.int .i64 pl) (.acons (.vs 2 its.length) (.acons (.acons (.vs 3 l0.length) (.acons (.vs 4 l1.length) (.acons (.vs 5 (l2 ++ L).length) .anil))) (.acons (.arr (C := RC) .int 3 [c0, c1, cut]) .anil))))), some (.vec (C := RC) .item true its), some (.vec (C := RC) .line true l0), some (.vec (C := RC) .line true l1), some (.vec (C := RC) .line true (l2 ++ L))])) (LedR rsQ_S ⟨c, b, bad, pl, its, l0, l1, l2, c0, c1, c2, 2⟩) := by
      intro r' cut L hP
      rw [hP] at pb pn
      simp only at pb pn
      have hrun : runQ rdP false markP 3 ⟨⟨r'.c, r'.b, r'.bad⟩, l0, l1, l2 ++ L, c0, c1, cut⟩ = runQ rdP false markP 2 ⟨⟨c, b, bad⟩, l0, l1, l2, c0, c1, c2⟩ := by
        simp only [runQ, part2, hP]
      refine leafR_go ⟨r'.c, r'.b, r'.bad, pl, its, l0, l1, l2 ++ L, c0, c1, cut, 3⟩ ?_ (by simp only [rsQ_S]; omega) ?_ rfl rfl
      · refine ⟨by simp, ?_, ?_, ?_, ?_⟩ <;> simp <;> omega
      · simp only [rsQ_S, rsQ_fin, hrun]
    rw [rsQ_eq2]
    simp only [e0, cond_true, getP_snd1, getP_snd3, t1, t3]
    by_cases q0 : b.length < 3
    · have r0 : rget 3 ⟨c, b, bad⟩ = _ := rget_no q0
      simp only [q0, decide_true, cond_true]
      simp (disch := omega) only [decide_eq_true, Bool.and_self, cond_true, addL, if_true, if_false, k01, k02, k10, k12, k20, k21]
      exact hgo ⟨true, [], true⟩ 0 [] (gPart_of r0 z1 z3)
    have r0 : rget 3 ⟨c, b, bad⟩ = _ := rget_ok (show 3 ≤ b.length by omega)
    have d0 : decide ((0 : Int) ≤ 3 ∧ (3 : Int) ≤ b.length) = true := by simp only [decide_eq_true_eq]; omega
    have e1 : decide ((b.drop 3).length ≤ 1000000000000) = true := decide_eq_true (by simp; omega)
    simp only [q0, decide_false, cond_false, d0, cond_true, e1, getP_fst3 q0]
    by_cases q1 : (b.drop 3).length < 1
    · have r1 : rget 1 ⟨c, b.drop 3, bad⟩ = _ := rget_no q1
      simp only [q1, decide_true, cond_true]
      simp (disch := omega) only [decide_eq_true, Bool.and_self, cond_true, addL, if_true, if_false, k01, k02, k10, k12, k20, k21]
      exact hgo ⟨true, [], true⟩ _ [] (gPart_of r0 r1 z3)
    have r1 : rget 1 ⟨c, b.drop 3, bad⟩ = _ := rget_ok (show 1 ≤ (b.drop 3).length by omega)
    have d1 : decide ((0 : Int) ≤ 1 ∧ (1 : Int) ≤ (b.drop 3).length) = true := by simp only [decide_eq_true_eq]; omega
    have e2 : decide (((b.drop 3).drop 1).length ≤ 1000000000000) = true := decide_eq_true (by simp; omega)
    simp only [q1, decide_false, cond_false, d1, cond_true, e2, getP_fst1 q1]
    have n1 := leVal_le (b.drop 3) 1
    have f1 := leVal_le ((b.drop 3).drop 1) 3
    have bl : (((b.drop 3).drop 1).drop 3).length ≤ 1000000 := by simp; omega
    simp only [Nat.reducePow] at n1 f1
    by_cases q2 : ((b.drop 3).drop 1).length < 3
    · have r2 : rget 3 ⟨c, (b.drop 3).drop 1, bad⟩ = _ := rget_no q2
      simp only [q2, decide_true, cond_true]
      have bz : ([] : List UInt8).length ≤ 1000000 := by simp
      simp (disch := (first | omega | (simp; omega))) only [decide_eq_true, Bool.and_self, cond_true, addL, if_true, if_false, k01, k02, k10, k12, k20, k21, Nat.sub_zero, Int.add_zero]
      refine hgo _ _ _ ?_
      rw [gPart_of r0 r1 r2]
      have : ((leVal ((b.drop 3).take 1) : Int) == 0 && (0 : Int) != 0) = false := by simp
      rw [this]; rfl
    have r2 : rget 3 ⟨c, (b.drop 3).drop 1, bad⟩ = _ := rget_ok (show 3 ≤ ((b.drop 3).drop 1).length by omega)
    have d2 : decide ((0 : Int) ≤ 3 ∧ (3 : Int) ≤ ((b.drop 3).drop 1).length) = true := by simp only [decide_eq_true_eq]; omega
    simp only [q2, decide_false, cond_false, d2, cond_true, getP_fst3 q2]
    have hP := gPart_of r0 r1 r2
    cases bad
    · simp only [cond_false]
      cases hz : ((leVal ((b.drop 3).take 1) : Int) == 0)
      · simp only [cond_false]
        simp (disch := omega) only [decide_eq_true, Bool.and_self, cond_true, addL, if_true, if_false, k01, k02, k10, k12, k20, k21, Nat.sub_zero, Int.add_zero]
        refine hgo _ _ _ ?_
        rw [hP, hz]; rfl
      · simp only [cond_true]
        simp (disch := omega) only [decide_eq_true, Bool.and_self, cond_true, addL, if_true, if_false, k01, k02, k10, k12, k20, k21, Nat.sub_zero, Int.add_zero]
        refine hgo _ _ _ ?_
        rw [hP, hz]
        cases hf : ((leVal (((b.drop 3).drop 1).take 3) : Int) != 0) <;> rfl
    · simp only [cond_true]
      simp (disch := omega) only [decide_eq_true, Bool.and_self, cond_true, addL, if_true, if_false, k01, k02, k10, k12, k20, k21, Nat.sub_zero, Int.add_zero]
      refine hgo _ _ _ ?_
      rw [hP]
      cases ((leVal ((b.drop 3).take 1) : Int) == 0 && (leVal (((b.drop 3).drop 1).take 3) : Int) != 0) <;> rfl
  omega
def rsQ_d (env : Env RC) (os : List (Obj RC)) : Option (Bool × rsQ_St) := match env, os with
  | [(4, .ptr 0 []), (5, .ptr 1 []), (39, .int .i64 x0)], [.var 74 (.acons (.sl .u8 c b) (.acons (.bool bad) .anil)), .var 33 (.acons (.int .i64 pl) (.acons (.vs 2 x1) (.acons (.acons (.vs 3 x2) (.acons (.vs 4 x3) (.acons (.vs 5 x4) .anil))) (.acons (.arr .int 3 [c0, c1, c2]) .anil)))), .vec .item true its, .vec .line true l0, .vec .line true l1, .vec .line true l2] => staticD (true) (decide (x0 = 0) && decide (x1 = its.length) && decide (x2 = l0.length) && decide (x3 = l1.length) && decide (x4 = l2.length) && decide (b.length ≤ 1000000 ∧ l0.length = 0 ∧ l1.length = 0 ∧ l2.length = 0), ⟨c, b, bad, pl, its, l0, l1, l2, c0, c1, c2, 0⟩)
  | _, _ => none
noncomputable def un_1 := um_2.addLoop 19 11 (sumR s05 [.slot 4 0, .slot 5 0, .path 1 [1], .path 1 [2, 0], .path 1 [2, 1], .path 1 [2, 2]] [4, 5, 39] rsQ_S rsQ_d)
theorem un_1_laws : FLaws Try.prog s05 un_1 := by
  refine um_2_laws.addRoundsR s05_laws (by kernel_rfl) rsQ_S 60 [4, 5, 39] [] [.slot 4 0, .slot 5 0, .path 1 [1], .path 1 [2, 0], .path 1 [2, 1], .path 1 [2, 2]] [4, 5, 39] rsQ_d (fun q hI => ?_) ?_
  · obtain ⟨c, b, bad, pl, its, l0, l1, l2, c0, c1, c2, q⟩ := q
    refine ⟨?_, ?_, rsQ_round c b bad pl its l0 l1 l2 c0 c1 c2 q hI⟩
    · simp_all [RefsOK, rsQ_S, rsQ_c, rsQ_o, rsQ_Inv, D.refs, Obj.refs, rEnc]
    · simp_all [rsQ_S, rsQ_fin, rsQ_o, rsQ_Inv, RT.refsOK, RefsOK, D.refs, Obj.refs, rEnc]
  · intro env os b q hd_ hb
    unfold rsQ_d at hd_
    split at hd_
    · obtain ⟨hs, hd_⟩ := staticD_some hd_
      cases hd_
      simp only [Bool.and_eq_true, decide_eq_true_eq] at hb
      obtain ⟨⟨⟨⟨⟨rfl, rfl⟩, rfl⟩, rfl⟩, rfl⟩, hq⟩ := hb
      exact ⟨⟨by simp, hq.1, by simp [hq.2.1], by simp [hq.2.2.1], by simp [hq.2.2.2]⟩, rfl, rfl⟩
    · cases hd_
end Go.Ev


/-
  Reading a state: what comes.
-/
namespace Go.Ev
set_option linter.unusedVariables false
set_option linter.unusedSimpArgs false
def stG (o : Option St) : St := o.getD ⟨0, [], [], [], [], 0, 0, 0⟩
theorem runQ0_bounds (r : Rd) : (runQ rdP false markP 0 ⟨r, [], [], [], 0, 0, 0⟩).l0.length ≤ 255 ∧ (runQ rdP false markP 0 ⟨r, [], [], [], 0, 0, 0⟩).l1.length ≤ 255 ∧ (runQ rdP false markP 0 ⟨r, [], [], [], 0, 0, 0⟩).l2.length ≤ 255 ∧ (runQ rdP false markP 0 ⟨r, [], [], [], 0, 0, 0⟩).r.b.length ≤ r.b.length := by
  simp only [runQ, part0, part1, part2, List.nil_append]
  exact ⟨gPart_len _, gPart_len _, gPart_len _, Nat.le_trans (gPart_blen _) (Nat.le_trans (gPart_blen _) (gPart_blen _))⟩
theorem gState_of {r r1 r2 : Rd} {p n : Int} (h1 : rget 3 r = (p, r1)) (h2 : rget 1 r1 = (n, r2)) :
    gState rdP false markP r = ((runQ rdP false markP 0 ⟨(gItems rdP false n.toNat r2).1, [], [], [], 0, 0, 0⟩).r, ⟨p, (gItems rdP false n.toNat r2).2, (runQ rdP false markP 0 ⟨(gItems rdP false n.toNat r2).1, [], [], [], 0, 0, 0⟩).l0, (runQ rdP false markP 0 ⟨(gItems rdP false n.toNat r2).1, [], [], [], 0, 0, 0⟩).l1, (runQ rdP false markP 0 ⟨(gItems rdP false n.toNat r2).1, [], [], [], 0, 0, 0⟩).l2, (runQ rdP false markP 0 ⟨(gItems rdP false n.toNat r2).1, [], [], [], 0, 0, 0⟩).c0, (runQ rdP false markP 0 ⟨(gItems rdP false n.toNat r2).1, [], [], [], 0, 0, 0⟩).c1, (runQ rdP false markP 0 ⟨(gItems rdP false n.toNat r2).1, [], [], [], 0, 0, 0⟩).c2⟩) := by
  have e1 : rdP.get 3 r = (p, r1) := h1
  have e2 : rdP.get 1 r1 = (n, r2) := h2
  simp only [gState, e1, e2, runQ, part0, part1, part2, List.nil_append]
end Go.Ev

namespace Go.Ev
open Go.Proofs
set_option maxRecDepth 100000
set_option linter.unusedVariables false
set_option linter.unusedSimpArgs false
/-! ### function readSP: flume/record.ReadState -/
def readSP_s (c : Bool) (b : List UInt8) : Option (Bool × D RC) := some (decide (b.length ≤ 1000000), .tup (.acons (.acons (.int .i64 (stG (readS b)).place) (.acons (.sl (C := RC) .item (readS b).isNone (stG (readS b)).items) (.acons (.acons (.sl (C := RC) .line (readS b).isNone (stG (readS b)).l0) (.acons (.sl (C := RC) .line (readS b).isNone (stG (readS b)).l1) (.acons (.sl (C := RC) .line (readS b).isNone (stG (readS b)).l2) .anil))) (.acons (.arr (C := RC) .int 3 [(stG (readS b)).c0, (stG (readS b)).c1, (stG (readS b)).c2]) .anil)))) (.acons (.int .i64 (bif (readS b).isNone then 50 else 0)) .anil)))
def readSP_sp : List (D RC) → Option (Bool × D RC)
  | [.sl .u8 c b] => readSP_s c b
  | _ => none
noncomputable def readSP_e (c : Bool) (b : List UInt8) := evF s05 un_1 60 19 [.sl (C := RC) .u8 c b]
theorem readSP_eq (c : Bool) (b : List UInt8) : readSP_e c b = (bif decide (List.length b ≤ (1000000000000 : Nat)) then bif Prod.snd (getP b (0 : Int) (3 : Int)) != (0 : Int) then some (D.tup (D.acons (D.acons (D.int IntKind.i64 (0 : Int)) (D.acons (D.sl RTy.item true []) (D.acons (D.acons (D.sl RTy.line true []) (D.acons (D.sl RTy.line true []) (D.acons (D.sl RTy.line true []) D.anil))) (D.acons (D.arr RTy.int (3 : Nat) (List.replicate (3 : Nat) (0 : Int))) D.anil)))) (D.acons (D.int IntKind.i64 (50 : Int)) D.anil))) else bif decide ((0 : Int) ≤ (3 : Int) ∧ (3 : Int) ≤ (↑(List.length b) : Int)) then bif decide (List.length (List.drop (3 : Nat) b) ≤ (1000000000000 : Nat)) then bif Prod.snd (getP (List.drop (3 : Nat) b) (0 : Int) (1 : Int)) != (0 : Int) then some (D.tup (D.acons (D.acons (D.int IntKind.i64 (0 : Int)) (D.acons (D.sl RTy.item true []) (D.acons (D.acons (D.sl RTy.line true []) (D.acons (D.sl RTy.line true []) (D.acons (D.sl RTy.line true []) D.anil))) (D.acons (D.arr RTy.int (3 : Nat) (List.replicate (3 : Nat) (0 : Int))) D.anil)))) (D.acons (D.int IntKind.i64 (50 : Int)) D.anil))) else bif decide ((0 : Int) ≤ (1 : Int) ∧ (1 : Int) ≤ (↑(List.length (List.drop (3 : Nat) b)) : Int)) then bif decide ((0 : Int) ≤ Prod.fst (getP (List.drop (3 : Nat) b) (0 : Int) (1 : Int)) ∧ Prod.fst (getP (List.drop (3 : Nat) b) (0 : Int) (1 : Int)) ≤ (255 : Int) ∧ List.length (List.drop (1 : Nat) (List.drop (3 : Nat) b)) ≤ (1000000 : Nat) ∧ (0 : Nat) = (0 : Nat)) then bif decide (List.length ([] ++ Prod.snd (gItems rdP false (Int.toNat (Prod.fst (getP (List.drop (3 : Nat) b) (0 : Int) (1 : Int))) - (0 : Nat)) (Rd.mk c (List.drop (1 : Nat) (List.drop (3 : Nat) b)) false))) = List.length ([] ++ Prod.snd (gItems rdP false (Int.toNat (Prod.fst (getP (List.drop (3 : Nat) b) (0 : Int) (1 : Int))) - (0 : Nat)) (Rd.mk c (List.drop (1 : Nat) (List.drop (3 : Nat) b)) false)))) && true && true && true && decide (List.length (Rd.b (Prod.fst (gItems rdP false (Int.toNat (Prod.fst (getP (List.drop (3 : Nat) b) (0 : Int) (1 : Int))) - (0 : Nat)) (Rd.mk c (List.drop (1 : Nat) (List.drop (3 : Nat) b)) false)))) ≤ (1000000 : Nat) ∧ (0 : Nat) = (0 : Nat) ∧ (0 : Nat) = (0 : Nat) ∧ (0 : Nat) = (0 : Nat)) then bif !Rd.bad (QS.r (runQ rdP false markP (0 : Nat) (QS.mk (Rd.mk (Rd.c (Prod.fst (gItems rdP false (Int.toNat (Prod.fst (getP (List.drop (3 : Nat) b) (0 : Int) (1 : Int))) - (0 : Nat)) (Rd.mk c (List.drop (1 : Nat) (List.drop (3 : Nat) b)) false)))) (Rd.b (Prod.fst (gItems rdP false (Int.toNat (Prod.fst (getP (List.drop (3 : Nat) b) (0 : Int) (1 : Int))) - (0 : Nat)) (Rd.mk c (List.drop (1 : Nat) (List.drop (3 : Nat) b)) false)))) (Rd.bad (Prod.fst (gItems rdP false (Int.toNat (Prod.fst (getP (List.drop (3 : Nat) b) (0 : Int) (1 : Int))) - (0 : Nat)) (Rd.mk c (List.drop (1 : Nat) (List.drop (3 : Nat) b)) false))))) [] [] [] (0 : Int) (0 : Int) (0 : Int)))) then bif lenOK (List.length (Rd.b (QS.r (runQ rdP false markP (0 : Nat) (QS.mk (Rd.mk (Rd.c (Prod.fst (gItems rdP false (Int.toNat (Prod.fst (getP (List.drop (3 : Nat) b) (0 : Int) (1 : Int))) - (0 : Nat)) (Rd.mk c (List.drop (1 : Nat) (List.drop (3 : Nat) b)) false)))) (Rd.b (Prod.fst (gItems rdP false (Int.toNat (Prod.fst (getP (List.drop (3 : Nat) b) (0 : Int) (1 : Int))) - (0 : Nat)) (Rd.mk c (List.drop (1 : Nat) (List.drop (3 : Nat) b)) false)))) (Rd.bad (Prod.fst (gItems rdP false (Int.toNat (Prod.fst (getP (List.drop (3 : Nat) b) (0 : Int) (1 : Int))) - (0 : Nat)) (Rd.mk c (List.drop (1 : Nat) (List.drop (3 : Nat) b)) false))))) [] [] [] (0 : Int) (0 : Int) (0 : Int)))))) then bif !(↑(List.length (Rd.b (QS.r (runQ rdP false markP (0 : Nat) (QS.mk (Rd.mk (Rd.c (Prod.fst (gItems rdP false (Int.toNat (Prod.fst (getP (List.drop (3 : Nat) b) (0 : Int) (1 : Int))) - (0 : Nat)) (Rd.mk c (List.drop (1 : Nat) (List.drop (3 : Nat) b)) false)))) (Rd.b (Prod.fst (gItems rdP false (Int.toNat (Prod.fst (getP (List.drop (3 : Nat) b) (0 : Int) (1 : Int))) - (0 : Nat)) (Rd.mk c (List.drop (1 : Nat) (List.drop (3 : Nat) b)) false)))) (Rd.bad (Prod.fst (gItems rdP false (Int.toNat (Prod.fst (getP (List.drop (3 : Nat) b) (0 : Int) (1 : Int))) - (0 : Nat)) (Rd.mk c (List.drop (1 : Nat) (List.drop (3 : Nat) b)) false))))) [] [] [] (0 : Int) (0 : Int) (0 : Int)))))) : Int) == (0 : Int) then some (D.tup (D.acons (D.acons (D.int IntKind.i64 (0 : Int)) (D.acons (D.sl RTy.item true []) (D.acons (D.acons (D.sl RTy.line true []) (D.acons (D.sl RTy.line true []) (D.acons (D.sl RTy.line true []) D.anil))) (D.acons (D.arr RTy.int (3 : Nat) (List.replicate (3 : Nat) (0 : Int))) D.anil)))) (D.acons (D.int IntKind.i64 (50 : Int)) D.anil))) else bif Nat.beq (List.length ([] ++ Prod.snd (gItems rdP false (Int.toNat (Prod.fst (getP (List.drop (3 : Nat) b) (0 : Int) (1 : Int))) - (0 : Nat)) (Rd.mk c (List.drop (1 : Nat) (List.drop (3 : Nat) b)) false)))) (List.length ([] ++ Prod.snd (gItems rdP false (Int.toNat (Prod.fst (getP (List.drop (3 : Nat) b) (0 : Int) (1 : Int))) - (0 : Nat)) (Rd.mk c (List.drop (1 : Nat) (List.drop (3 : Nat) b)) false)))) then bif Nat.beq (List.length (QS.l0 (runQ rdP false markP (0 : Nat) (QS.mk (Rd.mk (Rd.c (Prod.fst (gItems rdP false (Int.toNat (Prod.fst (getP (List.drop (3 : Nat) b) (0 : Int) (1 : Int))) - (0 : Nat)) (Rd.mk c (List.drop (1 : Nat) (List.drop (3 : Nat) b)) false)))) (Rd.b (Prod.fst (gItems rdP false (Int.toNat (Prod.fst (getP (List.drop (3 : Nat) b) (0 : Int) (1 : Int))) - (0 : Nat)) (Rd.mk c (List.drop (1 : Nat) (List.drop (3 : Nat) b)) false)))) (Rd.bad (Prod.fst (gItems rdP false (Int.toNat (Prod.fst (getP (List.drop (3 : Nat) b) (0 : Int) (1 : Int))) - (0 : Nat)) (Rd.mk c (List.drop (1 : Nat) (List.drop (3 : Nat) b)) false))))) [] [] [] (0 : Int) (0 : Int) (0 : Int))))) (List.length (QS.l0 (runQ rdP false markP (0 : Nat) (QS.mk (Rd.mk (Rd.c (Prod.fst (gItems rdP false (Int.toNat (Prod.fst (getP (List.drop (3 : Nat) b) (0 : Int) (1 : Int))) - (0 : Nat)) (Rd.mk c (List.drop (1 : Nat) (List.drop (3 : Nat) b)) false)))) (Rd.b (Prod.fst (gItems rdP false (Int.toNat (Prod.fst (getP (List.drop (3 : Nat) b) (0 : Int) (1 : Int))) - (0 : Nat)) (Rd.mk c (List.drop (1 : Nat) (List.drop (3 : Nat) b)) false)))) (Rd.bad (Prod.fst (gItems rdP false (Int.toNat (Prod.fst (getP (List.drop (3 : Nat) b) (0 : Int) (1 : Int))) - (0 : Nat)) (Rd.mk c (List.drop (1 : Nat) (List.drop (3 : Nat) b)) false))))) [] [] [] (0 : Int) (0 : Int) (0 : Int))))) then bif Nat.beq (List.length (QS.l1 (runQ rdP false markP (0 : Nat) (QS.mk (Rd.mk (Rd.c (Prod.fst (gItems rdP false (Int.toNat (Prod.fst (getP (List.drop (3 : Nat) b) (0 : Int) (1 : Int))) - (0 : Nat)) (Rd.mk c (List.drop (1 : Nat) (List.drop (3 : Nat) b)) false)))) (Rd.b (Prod.fst (gItems rdP false (Int.toNat (Prod.fst (getP (List.drop (3 : Nat) b) (0 : Int) (1 : Int))) - (0 : Nat)) (Rd.mk c (List.drop (1 : Nat) (List.drop (3 : Nat) b)) false)))) (Rd.bad (Prod.fst (gItems rdP false (Int.toNat (Prod.fst (getP (List.drop (3 : Nat) b) (0 : Int) (1 : Int))) - (0 : Nat)) (Rd.mk c (List.drop (1 : Nat) (List.drop (3 : Nat) b)) false))))) [] [] [] (0 : Int) (0 : Int) (0 : Int))))) (List.length (QS.l1 (runQ rdP false markP (0 : Nat) (QS.mk (Rd.mk (Rd.c (Prod.fst (gItems rdP false (Int.toNat (Prod.fst (getP (List.drop (3 : Nat) b) (0 : Int) (1 : Int))) - (0 : Nat)) (Rd.mk c (List.drop (1 : Nat) (List.drop (3 : Nat) b)) false)))) (Rd.b (Prod.fst (gItems rdP false (Int.toNat (Prod.fst (getP (List.drop (3 : Nat) b) (0 : Int) (1 : Int))) - (0 : Nat)) (Rd.mk c (List.drop (1 : Nat) (List.drop (3 : Nat) b)) false)))) (Rd.bad (Prod.fst (gItems rdP false (Int.toNat (Prod.fst (getP (List.drop (3 : Nat) b) (0 : Int) (1 : Int))) - (0 : Nat)) (Rd.mk c (List.drop (1 : Nat) (List.drop (3 : Nat) b)) false))))) [] [] [] (0 : Int) (0 : Int) (0 : Int))))) then bif Nat.beq (List.length (QS.l2 (runQ rdP false markP (0 : Nat) (QS.mk (Rd.mk (Rd.c (Prod.fst (gItems rdP false (Int.toNat (Prod.fst (getP (List.drop (3 : Nat) b) (0 : Int) (1 : Int))) - (0 : Nat)) (Rd.mk c (List.drop (1 : Nat) (List.drop (3 : Nat) b)) false)))) (Rd.b (Prod.fst (gItems rdP false (Int.toNat (Prod.fst (getP (List.drop (3 : Nat) b) (0 : Int) (1 : Int))) - (0 : Nat)) (Rd.mk c (List.drop (1 : Nat) (List.drop (3 : Nat) b)) false)))) (Rd.bad (Prod.fst (gItems rdP false (Int.toNat (Prod.fst (getP (List.drop (3 : Nat) b) (0 : Int) (1 : Int))) - (0 : Nat)) (Rd.mk c (List.drop (1 : Nat) (List.drop (3 : Nat) b)) false))))) [] [] [] (0 : Int) (0 : Int) (0 : Int))))) (List.length (QS.l2 (runQ rdP false markP (0 : Nat) (QS.mk (Rd.mk (Rd.c (Prod.fst (gItems rdP false (Int.toNat (Prod.fst (getP (List.drop (3 : Nat) b) (0 : Int) (1 : Int))) - (0 : Nat)) (Rd.mk c (List.drop (1 : Nat) (List.drop (3 : Nat) b)) false)))) (Rd.b (Prod.fst (gItems rdP false (Int.toNat (Prod.fst (getP (List.drop (3 : Nat) b) (0 : Int) (1 : Int))) - (0 : Nat)) (Rd.mk c (List.drop (1 : Nat) (List.drop (3 : Nat) b)) false)))) (Rd.bad (Prod.fst (gItems rdP false (Int.toNat (Prod.fst (getP (List.drop (3 : Nat) b) (0 : Int) (1 : Int))) - (0 : Nat)) (Rd.mk c (List.drop (1 : Nat) (List.drop (3 : Nat) b)) false))))) [] [] [] (0 : Int) (0 : Int) (0 : Int))))) then bif decide (List.length ([] ++ Prod.snd (gItems rdP false (Int.toNat (Prod.fst (getP (List.drop (3 : Nat) b) (0 : Int) (1 : Int))) - (0 : Nat)) (Rd.mk c (List.drop (1 : Nat) (List.drop (3 : Nat) b)) false))) ≤ (9223372036854775807 : Nat) ∧ List.length (QS.l0 (runQ rdP false markP (0 : Nat) (QS.mk (Rd.mk (Rd.c (Prod.fst (gItems rdP false (Int.toNat (Prod.fst (getP (List.drop (3 : Nat) b) (0 : Int) (1 : Int))) - (0 : Nat)) (Rd.mk c (List.drop (1 : Nat) (List.drop (3 : Nat) b)) false)))) (Rd.b (Prod.fst (gItems rdP false (Int.toNat (Prod.fst (getP (List.drop (3 : Nat) b) (0 : Int) (1 : Int))) - (0 : Nat)) (Rd.mk c (List.drop (1 : Nat) (List.drop (3 : Nat) b)) false)))) (Rd.bad (Prod.fst (gItems rdP false (Int.toNat (Prod.fst (getP (List.drop (3 : Nat) b) (0 : Int) (1 : Int))) - (0 : Nat)) (Rd.mk c (List.drop (1 : Nat) (List.drop (3 : Nat) b)) false))))) [] [] [] (0 : Int) (0 : Int) (0 : Int)))) ≤ (9223372036854775807 : Nat) ∧ List.length (QS.l1 (runQ rdP false markP (0 : Nat) (QS.mk (Rd.mk (Rd.c (Prod.fst (gItems rdP false (Int.toNat (Prod.fst (getP (List.drop (3 : Nat) b) (0 : Int) (1 : Int))) - (0 : Nat)) (Rd.mk c (List.drop (1 : Nat) (List.drop (3 : Nat) b)) false)))) (Rd.b (Prod.fst (gItems rdP false (Int.toNat (Prod.fst (getP (List.drop (3 : Nat) b) (0 : Int) (1 : Int))) - (0 : Nat)) (Rd.mk c (List.drop (1 : Nat) (List.drop (3 : Nat) b)) false)))) (Rd.bad (Prod.fst (gItems rdP false (Int.toNat (Prod.fst (getP (List.drop (3 : Nat) b) (0 : Int) (1 : Int))) - (0 : Nat)) (Rd.mk c (List.drop (1 : Nat) (List.drop (3 : Nat) b)) false))))) [] [] [] (0 : Int) (0 : Int) (0 : Int)))) ≤ (9223372036854775807 : Nat) ∧ List.length (QS.l2 (runQ rdP false markP (0 : Nat) (QS.mk (Rd.mk (Rd.c (Prod.fst (gItems rdP false (Int.toNat (Prod.fst (getP (List.drop (3 : Nat) b) (0 : Int) (1 : Int))) - (0 : Nat)) (Rd.mk c (List.drop (1 : Nat) (List.drop (3 : Nat) b)) false)))) (Rd.b (Prod.fst (gItems rdP false (Int.toNat (Prod.fst (getP (List.drop (3 : Nat) b) (0 : Int) (1 : Int))) - (0 : Nat)) (Rd.mk c (List.drop (1 : Nat) (List.drop (3 : Nat) b)) false)))) (Rd.bad (Prod.fst (gItems rdP false (Int.toNat (Prod.fst (getP (List.drop (3 : Nat) b) (0 : Int) (1 : Int))) - (0 : Nat)) (Rd.mk c (List.drop (1 : Nat) (List.drop (3 : Nat) b)) false))))) [] [] [] (0 : Int) (0 : Int) (0 : Int)))) ≤ (9223372036854775807 : Nat)) then bif !standsOK (St.mk (Prod.fst (getP b (0 : Int) (3 : Int))) ([] ++ Prod.snd (gItems rdP false (Int.toNat (Prod.fst (getP (List.drop (3 : Nat) b) (0 : Int) (1 : Int))) - (0 : Nat)) (Rd.mk c (List.drop (1 : Nat) (List.drop (3 : Nat) b)) false))) (QS.l0 (runQ rdP false markP (0 : Nat) (QS.mk (Rd.mk (Rd.c (Prod.fst (gItems rdP false (Int.toNat (Prod.fst (getP (List.drop (3 : Nat) b) (0 : Int) (1 : Int))) - (0 : Nat)) (Rd.mk c (List.drop (1 : Nat) (List.drop (3 : Nat) b)) false)))) (Rd.b (Prod.fst (gItems rdP false (Int.toNat (Prod.fst (getP (List.drop (3 : Nat) b) (0 : Int) (1 : Int))) - (0 : Nat)) (Rd.mk c (List.drop (1 : Nat) (List.drop (3 : Nat) b)) false)))) (Rd.bad (Prod.fst (gItems rdP false (Int.toNat (Prod.fst (getP (List.drop (3 : Nat) b) (0 : Int) (1 : Int))) - (0 : Nat)) (Rd.mk c (List.drop (1 : Nat) (List.drop (3 : Nat) b)) false))))) [] [] [] (0 : Int) (0 : Int) (0 : Int)))) (QS.l1 (runQ rdP false markP (0 : Nat) (QS.mk (Rd.mk (Rd.c (Prod.fst (gItems rdP false (Int.toNat (Prod.fst (getP (List.drop (3 : Nat) b) (0 : Int) (1 : Int))) - (0 : Nat)) (Rd.mk c (List.drop (1 : Nat) (List.drop (3 : Nat) b)) false)))) (Rd.b (Prod.fst (gItems rdP false (Int.toNat (Prod.fst (getP (List.drop (3 : Nat) b) (0 : Int) (1 : Int))) - (0 : Nat)) (Rd.mk c (List.drop (1 : Nat) (List.drop (3 : Nat) b)) false)))) (Rd.bad (Prod.fst (gItems rdP false (Int.toNat (Prod.fst (getP (List.drop (3 : Nat) b) (0 : Int) (1 : Int))) - (0 : Nat)) (Rd.mk c (List.drop (1 : Nat) (List.drop (3 : Nat) b)) false))))) [] [] [] (0 : Int) (0 : Int) (0 : Int)))) (QS.l2 (runQ rdP false markP (0 : Nat) (QS.mk (Rd.mk (Rd.c (Prod.fst (gItems rdP false (Int.toNat (Prod.fst (getP (List.drop (3 : Nat) b) (0 : Int) (1 : Int))) - (0 : Nat)) (Rd.mk c (List.drop (1 : Nat) (List.drop (3 : Nat) b)) false)))) (Rd.b (Prod.fst (gItems rdP false (Int.toNat (Prod.fst (getP (List.drop (3 : Nat) b) (0 : Int) (1 : Int))) - (0 : Nat)) (Rd.mk c (List.drop (1 : Nat) (List.drop (3 : Nat) b)) false)))) (Rd.bad (Prod.fst (gItems rdP false (Int.toNat (Prod.fst (getP (List.drop (3 : Nat) b) (0 : Int) (1 : Int))) - (0 : Nat)) (Rd.mk c (List.drop (1 : Nat) (List.drop (3 : Nat) b)) false))))) [] [] [] (0 : Int) (0 : Int) (0 : Int)))) (QS.c0 (runQ rdP false markP (0 : Nat) (QS.mk (Rd.mk (Rd.c (Prod.fst (gItems rdP false (Int.toNat (Prod.fst (getP (List.drop (3 : Nat) b) (0 : Int) (1 : Int))) - (0 : Nat)) (Rd.mk c (List.drop (1 : Nat) (List.drop (3 : Nat) b)) false)))) (Rd.b (Prod.fst (gItems rdP false (Int.toNat (Prod.fst (getP (List.drop (3 : Nat) b) (0 : Int) (1 : Int))) - (0 : Nat)) (Rd.mk c (List.drop (1 : Nat) (List.drop (3 : Nat) b)) false)))) (Rd.bad (Prod.fst (gItems rdP false (Int.toNat (Prod.fst (getP (List.drop (3 : Nat) b) (0 : Int) (1 : Int))) - (0 : Nat)) (Rd.mk c (List.drop (1 : Nat) (List.drop (3 : Nat) b)) false))))) [] [] [] (0 : Int) (0 : Int) (0 : Int)))) (QS.c1 (runQ rdP false markP (0 : Nat) (QS.mk (Rd.mk (Rd.c (Prod.fst (gItems rdP false (Int.toNat (Prod.fst (getP (List.drop (3 : Nat) b) (0 : Int) (1 : Int))) - (0 : Nat)) (Rd.mk c (List.drop (1 : Nat) (List.drop (3 : Nat) b)) false)))) (Rd.b (Prod.fst (gItems rdP false (Int.toNat (Prod.fst (getP (List.drop (3 : Nat) b) (0 : Int) (1 : Int))) - (0 : Nat)) (Rd.mk c (List.drop (1 : Nat) (List.drop (3 : Nat) b)) false)))) (Rd.bad (Prod.fst (gItems rdP false (Int.toNat (Prod.fst (getP (List.drop (3 : Nat) b) (0 : Int) (1 : Int))) - (0 : Nat)) (Rd.mk c (List.drop (1 : Nat) (List.drop (3 : Nat) b)) false))))) [] [] [] (0 : Int) (0 : Int) (0 : Int)))) (QS.c2 (runQ rdP false markP (0 : Nat) (QS.mk (Rd.mk (Rd.c (Prod.fst (gItems rdP false (Int.toNat (Prod.fst (getP (List.drop (3 : Nat) b) (0 : Int) (1 : Int))) - (0 : Nat)) (Rd.mk c (List.drop (1 : Nat) (List.drop (3 : Nat) b)) false)))) (Rd.b (Prod.fst (gItems rdP false (Int.toNat (Prod.fst (getP (List.drop (3 : Nat) b) (0 : Int) (1 : Int))) - (0 : Nat)) (Rd.mk c (List.drop (1 : Nat) (List.drop (3 : Nat) b)) false)))) (Rd.bad (Prod.fst (gItems rdP false (Int.toNat (Prod.fst (getP (List.drop (3 : Nat) b) (0 : Int) (1 : Int))) - (0 : Nat)) (Rd.mk c (List.drop (1 : Nat) (List.drop (3 : Nat) b)) false))))) [] [] [] (0 : Int) (0 : Int) (0 : Int))))) then some (D.tup (D.acons (D.acons (D.int IntKind.i64 (0 : Int)) (D.acons (D.sl RTy.item true []) (D.acons (D.acons (D.sl RTy.line true []) (D.acons (D.sl RTy.line true []) (D.acons (D.sl RTy.line true []) D.anil))) (D.acons (D.arr RTy.int (3 : Nat) (List.replicate (3 : Nat) (0 : Int))) D.anil)))) (D.acons (D.int IntKind.i64 (50 : Int)) D.anil))) else some (D.tup (D.acons (D.acons (D.int IntKind.i64 (Prod.fst (getP b (0 : Int) (3 : Int)))) (D.acons (D.sl RTy.item false ([] ++ Prod.snd (gItems rdP false (Int.toNat (Prod.fst (getP (List.drop (3 : Nat) b) (0 : Int) (1 : Int))) - (0 : Nat)) (Rd.mk c (List.drop (1 : Nat) (List.drop (3 : Nat) b)) false)))) (D.acons (D.acons (D.sl RTy.line false (QS.l0 (runQ rdP false markP (0 : Nat) (QS.mk (Rd.mk (Rd.c (Prod.fst (gItems rdP false (Int.toNat (Prod.fst (getP (List.drop (3 : Nat) b) (0 : Int) (1 : Int))) - (0 : Nat)) (Rd.mk c (List.drop (1 : Nat) (List.drop (3 : Nat) b)) false)))) (Rd.b (Prod.fst (gItems rdP false (Int.toNat (Prod.fst (getP (List.drop (3 : Nat) b) (0 : Int) (1 : Int))) - (0 : Nat)) (Rd.mk c (List.drop (1 : Nat) (List.drop (3 : Nat) b)) false)))) (Rd.bad (Prod.fst (gItems rdP false (Int.toNat (Prod.fst (getP (List.drop (3 : Nat) b) (0 : Int) (1 : Int))) - (0 : Nat)) (Rd.mk c (List.drop (1 : Nat) (List.drop (3 : Nat) b)) false))))) [] [] [] (0 : Int) (0 : Int) (0 : Int))))) (D.acons (D.sl RTy.line false (QS.l1 (runQ rdP false markP (0 : Nat) (QS.mk (Rd.mk (Rd.c (Prod.fst (gItems rdP false (Int.toNat (Prod.fst (getP (List.drop (3 : Nat) b) (0 : Int) (1 : Int))) - (0 : Nat)) (Rd.mk c (List.drop (1 : Nat) (List.drop (3 : Nat) b)) false)))) (Rd.b (Prod.fst (gItems rdP false (Int.toNat (Prod.fst (getP (List.drop (3 : Nat) b) (0 : Int) (1 : Int))) - (0 : Nat)) (Rd.mk c (List.drop (1 : Nat) (List.drop (3 : Nat) b)) false)))) (Rd.bad (Prod.fst (gItems rdP false (Int.toNat (Prod.fst (getP (List.drop (3 : Nat) b) (0 : Int) (1 : Int))) - (0 : Nat)) (Rd.mk c (List.drop (1 : Nat) (List.drop (3 : Nat) b)) false))))) [] [] [] (0 : Int) (0 : Int) (0 : Int))))) (D.acons (D.sl RTy.line false (QS.l2 (runQ rdP false markP (0 : Nat) (QS.mk (Rd.mk (Rd.c (Prod.fst (gItems rdP false (Int.toNat (Prod.fst (getP (List.drop (3 : Nat) b) (0 : Int) (1 : Int))) - (0 : Nat)) (Rd.mk c (List.drop (1 : Nat) (List.drop (3 : Nat) b)) false)))) (Rd.b (Prod.fst (gItems rdP false (Int.toNat (Prod.fst (getP (List.drop (3 : Nat) b) (0 : Int) (1 : Int))) - (0 : Nat)) (Rd.mk c (List.drop (1 : Nat) (List.drop (3 : Nat) b)) false)))) (Rd.bad (Prod.fst (gItems rdP false (Int.toNat (Prod.fst (getP (List.drop (3 : Nat) b) (0 : Int) (1 : Int))) - (0 : Nat)) (Rd.mk c (List.drop (1 : Nat) (List.drop (3 : Nat) b)) false))))) [] [] [] (0 : Int) (0 : Int) (0 : Int))))) D.anil))) (D.acons (D.arr RTy.int (3 : Nat) [QS.c0 (runQ rdP false markP (0 : Nat) (QS.mk (Rd.mk (Rd.c (Prod.fst (gItems rdP false (Int.toNat (Prod.fst (getP (List.drop (3 : Nat) b) (0 : Int) (1 : Int))) - (0 : Nat)) (Rd.mk c (List.drop (1 : Nat) (List.drop (3 : Nat) b)) false)))) (Rd.b (Prod.fst (gItems rdP false (Int.toNat (Prod.fst (getP (List.drop (3 : Nat) b) (0 : Int) (1 : Int))) - (0 : Nat)) (Rd.mk c (List.drop (1 : Nat) (List.drop (3 : Nat) b)) false)))) (Rd.bad (Prod.fst (gItems rdP false (Int.toNat (Prod.fst (getP (List.drop (3 : Nat) b) (0 : Int) (1 : Int))) - (0 : Nat)) (Rd.mk c (List.drop (1 : Nat) (List.drop (3 : Nat) b)) false))))) [] [] [] (0 : Int) (0 : Int) (0 : Int))), QS.c1 (runQ rdP false markP (0 : Nat) (QS.mk (Rd.mk (Rd.c (Prod.fst (gItems rdP false (Int.toNat (Prod.fst (getP (List.drop (3 : Nat) b) (0 : Int) (1 : Int))) - (0 : Nat)) (Rd.mk c (List.drop (1 : Nat) (List.drop (3 : Nat) b)) false)))) (Rd.b (Prod.fst (gItems rdP false (Int.toNat (Prod.fst (getP (List.drop (3 : Nat) b) (0 : Int) (1 : Int))) - (0 : Nat)) (Rd.mk c (List.drop (1 : Nat) (List.drop (3 : Nat) b)) false)))) (Rd.bad (Prod.fst (gItems rdP false (Int.toNat (Prod.fst (getP (List.drop (3 : Nat) b) (0 : Int) (1 : Int))) - (0 : Nat)) (Rd.mk c (List.drop (1 : Nat) (List.drop (3 : Nat) b)) false))))) [] [] [] (0 : Int) (0 : Int) (0 : Int))), QS.c2 (runQ rdP false markP (0 : Nat) (QS.mk (Rd.mk (Rd.c (Prod.fst (gItems rdP false (Int.toNat (Prod.fst (getP (List.drop (3 : Nat) b) (0 : Int) (1 : Int))) - (0 : Nat)) (Rd.mk c (List.drop (1 : Nat) (List.drop (3 : Nat) b)) false)))) (Rd.b (Prod.fst (gItems rdP false (Int.toNat (Prod.fst (getP (List.drop (3 : Nat) b) (0 : Int) (1 : Int))) - (0 : Nat)) (Rd.mk c (List.drop (1 : Nat) (List.drop (3 : Nat) b)) false)))) (Rd.bad (Prod.fst (gItems rdP false (Int.toNat (Prod.fst (getP (List.drop (3 : Nat) b) (0 : Int) (1 : Int))) - (0 : Nat)) (Rd.mk c (List.drop (1 : Nat) (List.drop (3 : Nat) b)) false))))) [] [] [] (0 : Int) (0 : Int) (0 : Int)))]) D.anil)))) (D.acons (D.int IntKind.i64 (0 : Int)) D.anil))) else none else none else none else none else none else none else some (D.tup (D.acons (D.acons (D.int IntKind.i64 (0 : Int)) (D.acons (D.sl RTy.item true []) (D.acons (D.acons (D.sl RTy.line true []) (D.acons (D.sl RTy.line true []) (D.acons (D.sl RTy.line true []) D.anil))) (D.acons (D.arr RTy.int (3 : Nat) (List.replicate (3 : Nat) (0 : Int))) D.anil)))) (D.acons (D.int IntKind.i64 (50 : Int)) D.anil))) else none else none else none else none else none else none) := by kernel_rfl
theorem readSP_ok (c : Bool) (b : List UInt8) (h : (decide (b.length ≤ 1000000)) = true) : readSP_e c b = some (.tup (.acons (.acons (.int .i64 (stG (readS b)).place) (.acons (.sl (C := RC) .item (readS b).isNone (stG (readS b)).items) (.acons (.acons (.sl (C := RC) .line (readS b).isNone (stG (readS b)).l0) (.acons (.sl (C := RC) .line (readS b).isNone (stG (readS b)).l1) (.acons (.sl (C := RC) .line (readS b).isNone (stG (readS b)).l2) .anil))) (.acons (.arr (C := RC) .int 3 [(stG (readS b)).c0, (stG (readS b)).c1, (stG (readS b)).c2]) .anil)))) (.acons (.int .i64 (bif (readS b).isNone then 50 else 0)) .anil))) := by
  rw [readSP_eq]
  have hl := of_decide_eq_true h
  have e0 : decide (b.length ≤ 1000000000000) = true := decide_eq_true (by omega)
  have t1 : Int.toNat 1 = 1 := rfl
  have t3 : Int.toNat 3 = 3 := rfl
  have eb : ∀ n : Nat, n.beq n = true := fun n => by simp
  have no : readS b = none → some (D.tup (D.acons (D.acons (D.int IntKind.i64 0) (D.acons (D.sl (C := RC) RTy.item true []) (D.acons (D.acons (D.sl (C := RC) RTy.line true []) (D.acons (D.sl (C := RC) RTy.line true []) (D.acons (D.sl (C := RC) RTy.line true []) D.anil))) (D.acons (D.arr (C := RC) RTy.int 3 (List.replicate 3 0)) D.anil)))) (D.acons (D.int IntKind.i64 50) D.anil))) = some (.tup (.acons (.acons (.int .i64 (stG (readS b)).place) (.acons (.sl (C := RC) .item (readS b).isNone (stG (readS b)).items) (.acons (.acons (.sl (C := RC) .line (readS b).isNone (stG (readS b)).l0) (.acons (.sl (C := RC) .line (readS b).isNone (stG (readS b)).l1) (.acons (.sl (C := RC) .line (readS b).isNone (stG (readS b)).l2) .anil))) (.acons (.arr (C := RC) .int 3 [(stG (readS b)).c0, (stG (readS b)).c1, (stG (readS b)).c2]) .anil)))) (.acons (.int .i64 (bif (readS b).isNone then 50 else 0)) .anil))) := fun e => by rw [e]; rfl
  simp only [e0, cond_true, getP_snd1, getP_snd3, t1, t3]
  by_cases q0 : b.length < 3
  · simp only [q0, decide_true, cond_true]
    exact no (by have : ¬ 3 ≤ b.length := by omega
                 simp [readS, sget, this])
  have r0 : rget 3 ⟨c, b, false⟩ = _ := rget_ok (show 3 ≤ b.length by omega)
  have d0 : decide ((0 : Int) ≤ 3 ∧ (3 : Int) ≤ b.length) = true := by simp only [decide_eq_true_eq]; omega
  have e1 : decide ((b.drop 3).length ≤ 1000000000000) = true := decide_eq_true (by simp; omega)
  simp only [q0, decide_false, cond_false, d0, cond_true, e1, getP_fst3 q0]
  by_cases q1 : (b.drop 3).length < 1
  · simp only [q1, decide_true, cond_true]
    exact no (by have h3 : 3 ≤ b.length := by omega
                 have : ¬ 1 ≤ (b.drop 3).length := by omega
                 simp only [readS, sget, h3, if_true, Option.bind_some, this, if_false, Option.bind_none])
  have r1 : rget 1 ⟨c, b.drop 3, false⟩ = _ := rget_ok (show 1 ≤ (b.drop 3).length by omega)
  have d1 : decide ((0 : Int) ≤ 1 ∧ (1 : Int) ≤ (b.drop 3).length) = true := by simp only [decide_eq_true_eq]; omega
  simp only [q1, decide_false, cond_false, d1, cond_true, getP_fst1 q1]
  have rK := gState_read rdP_ok false markP (fun _ => rfl) ⟨c, b, false⟩ rfl
  rw [gState_of r0 r1] at rK
  change readS b = _ at rK
  have n1 := leVal_le (b.drop 3) 1
  simp only [Nat.reducePow] at n1
  have bl : ((b.drop 3).drop 1).length ≤ 1000000 := by simp; omega
  generalize leVal ((b.drop 3).take 1) = n at n1 rK ⊢
  have ck : decide ((0 : Int) ≤ n ∧ (n : Int) ≤ 255 ∧ ((b.drop 3).drop 1).length ≤ 1000000 ∧ True) = true := decide_eq_true ⟨by omega, by omega, bl, trivial⟩
  have tn : (n : Int).toNat - 0 = n := by omega
  have tn' : (n : Int).toNat = n := by omega
  simp only [ck, tn, tn', cond_true, List.nil_append] at rK ⊢
  have gb := gItems_blen n ⟨c, (b.drop 3).drop 1, false⟩
  have gl := gItems_len rdP false n ⟨c, (b.drop 3).drop 1, false⟩
  generalize gItems rdP false n ⟨c, (b.drop 3).drop 1, false⟩ = IT at gb gl rK ⊢
  obtain ⟨⟨c', b', bad'⟩, its⟩ := IT
  simp only at gb gl rK ⊢
  have qb := runQ0_bounds ⟨c', b', bad'⟩
  generalize runQ rdP false markP 0 ⟨⟨c', b', bad'⟩, [], [], [], 0, 0, 0⟩ = Q at qb rK ⊢
  obtain ⟨⟨qc, qq, qbad⟩, a0, a1, a2, x0, x1, x2⟩ := Q
  simp only [rdP] at qb rK ⊢
  obtain ⟨b0, b1, b2, b3⟩ := qb
  have k1 : lenOK qq.length = true := lenOK_of (by omega)
  have m1 : decide (b'.length ≤ 1000000 ∧ True ∧ True ∧ True) = true := decide_eq_true ⟨by omega, trivial, trivial, trivial⟩
  have m2 : decide (its.length ≤ 9223372036854775807 ∧ a0.length ≤ 9223372036854775807 ∧ a1.length ≤ 9223372036854775807 ∧ a2.length ≤ 9223372036854775807) = true := by simp only [decide_eq_true_eq]; omega
  simp only [k1, m1, m2, eb, decide_true, Bool.and_self, Bool.and_true, Bool.true_and, cond_true]
  cases qbad
  · simp only [Bool.not_false, cond_true]
    by_cases hz : qq = []
    · subst hz
      cases hs : standsOK ⟨(leVal (b.take 3) : Int), its, a0, a1, a2, x0, x1, x2⟩
      · rw [hs] at rK
        exact no (by rw [rK]; simp)
      · rw [hs] at rK
        have : readS b = some ⟨(leVal (b.take 3) : Int), its, a0, a1, a2, x0, x1, x2⟩ := by rw [rK]; simp
        rw [this]
        rfl
    · have hz' : ((qq.length : Int) == 0) = false := by
        simp only [beq_eq_false_iff_ne]; cases qq with
        | nil => exact (hz rfl).elim
        | cons _ _ => simp; omega
      simp only [hz', Bool.not_false, cond_true]
      exact no (by rw [rK]; simp [hz])
  · simp only [Bool.not_true, cond_false]
    exact no (by rw [rK]; simp)
noncomputable def uo_1 := un_1.addSpec 19 readSP_sp
theorem uo_1_laws : FLaws Try.prog s05 uo_1 := un_1_laws.addEv s05_laws fun args d h => by
  unfold readSP_sp at h
  split at h
  · unfold readSP_s at h
    have h1 := congrArg Prod.fst (Option.some.inj h)
    obtain rfl : _ = d := congrArg Prod.snd (Option.some.inj h)
    exact ⟨by simp [D.refs], 60, readSP_ok _ _ h1⟩
  · cases h
end Go.Ev


/-
  Reading a state as the reference does.
-/
namespace Go.Ev
set_option linter.unusedVariables false
set_option linter.unusedSimpArgs false
theorem nget_ok {b : List UInt8} {w p : Nat} {s : Bool} (h : p + w ≤ b.length) : nget b w ⟨p, s⟩ = ((leVal ((b.drop p).take w) : Int), ⟨p + w, s⟩) := by simp [nget, h]
theorem nget_no {b : List UInt8} {w p : Nat} {s : Bool} (h : b.length < p + w) : nget b w ⟨p, s⟩ = (0, ⟨p, true⟩) := by simp [nget, Nat.not_le.2 h]
theorem getI_snd1 {b : List UInt8} {p : Int} (h : 0 ≤ p) : ((getP b p 1).2 != 0) = decide ((b.length : Int) < p + 1) := by
  by_cases h1 : (b.length : Int) < p + 1
  · have : ¬ (p + 1 ≤ (b.length : Int)) := by omega
    simp only [getP, h1]; simp [this]
  · have : (p + 1 ≤ (b.length : Int)) := by omega
    simp only [getP, h1]; simp [this, h]
theorem getI_snd3 {b : List UInt8} {p : Int} (h : 0 ≤ p) : ((getP b p 3).2 != 0) = decide ((b.length : Int) < p + 3) := by
  by_cases h1 : (b.length : Int) < p + 3
  · have : ¬ (p + 3 ≤ (b.length : Int)) := by omega
    simp only [getP, h1]; simp [this]
  · have : (p + 3 ≤ (b.length : Int)) := by omega
    simp only [getP, h1]; simp [this, h]
theorem getI_fst1 {b : List UInt8} {p : Int} (h : 0 ≤ p) (h1 : ¬ (b.length : Int) < p + 1) : (getP b p 1).1 = (leVal ((b.drop p.toNat).take 1) : Int) := by
  have : (p + 1 ≤ (b.length : Int)) := by omega
  simp only [getP]; simp [this, h]
theorem getI_fst3 {b : List UInt8} {p : Int} (h : 0 ≤ p) (h1 : ¬ (b.length : Int) < p + 3) : (getP b p 3).1 = (leVal ((b.drop p.toNat).take 3) : Int) := by
  have : (p + 3 ≤ (b.length : Int)) := by omega
  simp only [getP]; simp [this, h]
theorem gItemsN_succ (b : List UInt8) (k : Nat) (p : Nat) : gItems (rdN b) true (k + 1) ⟨p, false⟩ = ((gItems (rdN b) true k (nget b 1 (nget b 3 (nget b 1 ⟨p, false⟩).2).2).2).1, ⟨(nget b 1 ⟨p, false⟩).1, (nget b 3 (nget b 1 ⟨p, false⟩).2).1, (nget b 1 (nget b 3 (nget b 1 ⟨p, false⟩).2).2).1⟩ :: (gItems (rdN b) true k (nget b 1 (nget b 3 (nget b 1 ⟨p, false⟩).2).2).2).2) := rfl
theorem gItemsN_stop (b : List UInt8) (k : Nat) (p : Nat) : gItems (rdN b) true k ⟨p, true⟩ = (⟨p, true⟩, []) := by cases k <;> rfl
theorem gLinesN_succ (b : List UInt8) (k : Nat) (o : Int) (p : Nat) : gLines (rdN b) true (k + 1) o ⟨p, false⟩ = ((gLines (rdN b) true k (o + 1) (nget b 1 (nget b 1 (nget b 3 ⟨p, false⟩).2).2).2).1, ⟨o, (nget b 3 ⟨p, false⟩).1, (nget b 1 (nget b 3 ⟨p, false⟩).2).1 % 16, (nget b 1 (nget b 3 ⟨p, false⟩).2).1 / 16, (nget b 1 (nget b 1 (nget b 3 ⟨p, false⟩).2).2).1⟩ :: (gLines (rdN b) true k (o + 1) (nget b 1 (nget b 1 (nget b 3 ⟨p, false⟩).2).2).2).2) := rfl
theorem gLinesN_stop (b : List UInt8) (k : Nat) (o : Int) (p : Nat) : gLines (rdN b) true k o ⟨p, true⟩ = (⟨p, true⟩, []) := by cases k <;> rfl
end Go.Ev

/-
  Reading lines as the reference does: quotients.
-/
namespace Go.Ev
set_option linter.unusedVariables false
set_option linter.unusedSimpArgs false
theorem rget_lt1 (b : List UInt8) : leVal (b.take 1) < 256 := by simpa using leVal_le b 1
theorem tdiv16 (m : Nat) (hm : m < 1000000) : (m : Int).tmod 16 = (m : Int) % 16 ∧ IntKind.i64.wrap ((m : Int).tdiv 16) = (m : Int) / 16 := by
  refine ⟨Int.tmod_eq_emod_of_nonneg (by omega), ?_⟩
  rw [Int.tdiv_eq_ediv_of_nonneg (by omega)]
  exact wrap_id (by omega) (by omega)
end Go.Ev

/-
  Reading partitions as the reference does.
-/
namespace Go.Ev
set_option linter.unusedVariables false
set_option linter.unusedSimpArgs false
def partN (b : List UInt8) (s : Rn) : Bool × Rn × Int × List Line :=
  let c := nget b 3 s
  let n := nget b 1 c.2
  let f := nget b 3 n.2
  let q := gLines (rdN b) true n.1.toNat f.1 f.2
  (n.1 == 0 && f.1 != 0, q.1, c.1, q.2)
def stepN0 (b : List UInt8) (s : QS Rn) : Bool × QS Rn := ((partN b s.r).1, { s with r := (partN b s.r).2.1, l0 := s.l0 ++ (partN b s.r).2.2.2, c0 := (partN b s.r).2.2.1 })
def stepN1 (b : List UInt8) (s : QS Rn) : Bool × QS Rn := ((partN b s.r).1, { s with r := (partN b s.r).2.1, l1 := s.l1 ++ (partN b s.r).2.2.2, c1 := (partN b s.r).2.2.1 })
def stepN2 (b : List UInt8) (s : QS Rn) : Bool × QS Rn := ((partN b s.r).1, { s with r := (partN b s.r).2.1, l2 := s.l2 ++ (partN b s.r).2.2.2, c2 := (partN b s.r).2.2.1 })
def runN (b : List UInt8) : Nat → QS Rn → Bool × QS Rn
  | 0, s => bif (stepN0 b s).1 then stepN0 b s else bif (stepN1 b (stepN0 b s).2).1 then stepN1 b (stepN0 b s).2 else stepN2 b (stepN1 b (stepN0 b s).2).2
  | 1, s => bif (stepN1 b s).1 then stepN1 b s else stepN2 b (stepN1 b s).2
  | 2, s => stepN2 b s
  | _, s => (false, s)
theorem partN_of {b : List UInt8} {s s1 s2 s3 : Rn} {c n f : Int} (h1 : nget b 3 s = (c, s1)) (h2 : nget b 1 s1 = (n, s2)) (h3 : nget b 3 s2 = (f, s3)) :
    partN b s = (n == 0 && f != 0, (gLines (rdN b) true n.toNat f s3).1, c, (gLines (rdN b) true n.toNat f s3).2) := by
  simp only [partN, h1, h2, h3]
theorem nget_pos {b : List UInt8} {w : Nat} {s : Rn} (h : s.pos ≤ b.length) : (nget b w s).2.pos ≤ b.length := by
  unfold nget; split
  · assumption
  · exact h
theorem gLinesN_pos {b : List UInt8} : ∀ (n : Nat) (o : Int) (s : Rn), s.pos ≤ b.length → (gLines (rdN b) true n o s).1.pos ≤ b.length
  | 0, _, _, h => h
  | n + 1, o, ⟨p, true⟩, h => by rw [gLinesN_stop]; exact h
  | n + 1, o, ⟨p, false⟩, h => by rw [gLinesN_succ]; exact gLinesN_pos n _ _ (nget_pos (nget_pos (nget_pos h)))
theorem gItemsN_pos {b : List UInt8} : ∀ (n : Nat) (s : Rn), s.pos ≤ b.length → (gItems (rdN b) true n s).1.pos ≤ b.length
  | 0, _, h => h
  | n + 1, ⟨p, true⟩, h => by rw [gItemsN_stop]; exact h
  | n + 1, ⟨p, false⟩, h => by rw [gItemsN_succ]; exact gItemsN_pos n _ (nget_pos (nget_pos (nget_pos h)))
theorem nget1_le (b : List UInt8) (s : Rn) : 0 ≤ (nget b 1 s).1 ∧ (nget b 1 s).1 ≤ 255 := by
  unfold nget; split
  · have := rget_lt1 (b.drop s.pos); simp only; omega
  · simp
theorem partN_pos {b : List UInt8} {s : Rn} (h : s.pos ≤ b.length) : (partN b s).2.1.pos ≤ b.length := gLinesN_pos _ _ _ (nget_pos (nget_pos (nget_pos h)))
theorem partN_len (b : List UInt8) (s : Rn) : (partN b s).2.2.2.length ≤ 255 := by
  unfold partN
  refine Nat.le_trans (gLines_len _ _ _ _ _) ?_
  have := nget1_le b (nget b 3 s).2
  omega
/-- as the generic reader has it: the partition's numbers that may not be end the reading -/
def markN (s : Rn) : Rn := ⟨s.pos, true⟩
theorem partN_part {b : List UInt8} {s : Rn} (h : (partN b s).1 = false) : gPart (rdN b) true markN s = (partN b s).2 := by
  have h' : ((nget b 1 (nget b 3 s).2).1 == 0 && (nget b 3 (nget b 1 (nget b 3 s).2).2).1 != 0) = false := h
  simp only [gPart, partN]
  have e : ∀ w s, (rdN b).get w s = nget b w s := fun _ _ => rfl
  simp only [e, h', cond_false]
theorem partN_mark {b : List UInt8} {s : Rn} (h : (partN b s).1 = true) : (rdN b).bad (gPart (rdN b) true markN s).1 = true := by
  have h' : ((nget b 1 (nget b 3 s).2).1 == 0 && (nget b 3 (nget b 1 (nget b 3 s).2).2).1 != 0) = true := h
  have e : ∀ w s, (rdN b).get w s = nget b w s := fun _ _ => rfl
  simp only [gPart, e, h', cond_true]
  exact gLines_stay (rdN_ok b) true _ _ _ rfl
theorem runN_run {b : List UInt8} {s : QS Rn} : ((runN b 0 s).1 = false → runQ (rdN b) true markN 0 s = (runN b 0 s).2) ∧ ((runN b 0 s).1 = true → (rdN b).bad (runQ (rdN b) true markN 0 s).r = true) := by
  have st := fun x => gPart_stay (rdN_ok b) true markN (fun _ => rfl) x
  simp only [runN, runQ, part0, part1, part2, stepN0, stepN1, stepN2]
  cases h0 : (partN b s.r).1 with
  | true =>
    simp only [cond_true]
    exact ⟨fun h => (by cases h), fun _ => st _ (st _ (partN_mark h0))⟩
  | false =>
    simp only [cond_false, partN_part h0]
    cases h1 : (partN b (partN b s.r).2.1).1 with
    | true =>
      simp only [cond_true]
      exact ⟨fun h => (by cases h), fun _ => st _ (partN_mark h1)⟩
    | false =>
      simp only [cond_false, partN_part h1]
      cases h2 : (partN b (partN b (partN b s.r).2.1).2.1).1 with
      | true => exact ⟨fun h => (by cases h), fun _ => partN_mark h2⟩
      | false => exact ⟨fun _ => by simp only [partN_part h2], fun h => (by cases h)⟩
end Go.Ev

/-
  Reading a state as the reference does: what comes.
-/
namespace Go.Ev
set_option linter.unusedVariables false
set_option linter.unusedSimpArgs false
theorem gState_ofN {b : List UInt8} {r r1 r2 : Rn} {p n : Int} (h1 : nget b 3 r = (p, r1)) (h2 : nget b 1 r1 = (n, r2)) :
    gState (rdN b) true markN r = ((runQ (rdN b) true markN 0 ⟨(gItems (rdN b) true n.toNat r2).1, [], [], [], 0, 0, 0⟩).r, ⟨p, (gItems (rdN b) true n.toNat r2).2, (runQ (rdN b) true markN 0 ⟨(gItems (rdN b) true n.toNat r2).1, [], [], [], 0, 0, 0⟩).l0, (runQ (rdN b) true markN 0 ⟨(gItems (rdN b) true n.toNat r2).1, [], [], [], 0, 0, 0⟩).l1, (runQ (rdN b) true markN 0 ⟨(gItems (rdN b) true n.toNat r2).1, [], [], [], 0, 0, 0⟩).l2, (runQ (rdN b) true markN 0 ⟨(gItems (rdN b) true n.toNat r2).1, [], [], [], 0, 0, 0⟩).c0, (runQ (rdN b) true markN 0 ⟨(gItems (rdN b) true n.toNat r2).1, [], [], [], 0, 0, 0⟩).c1, (runQ (rdN b) true markN 0 ⟨(gItems (rdN b) true n.toNat r2).1, [], [], [], 0, 0, 0⟩).c2⟩) := by
  have e1 : (rdN b).get 3 r = (p, r1) := h1
  have e2 : (rdN b).get 1 r1 = (n, r2) := h2
  simp only [gState, e1, e2, runQ, part0, part1, part2, List.nil_append]
theorem runN0_bounds {b : List UInt8} (r : Rn) (h : r.pos ≤ b.length) : (runN b 0 ⟨r, [], [], [], 0, 0, 0⟩).2.l0.length ≤ 255 ∧ (runN b 0 ⟨r, [], [], [], 0, 0, 0⟩).2.l1.length ≤ 255 ∧ (runN b 0 ⟨r, [], [], [], 0, 0, 0⟩).2.l2.length ≤ 255 ∧ (runN b 0 ⟨r, [], [], [], 0, 0, 0⟩).2.r.pos ≤ b.length := by
  have p0 := partN_pos h
  have p1 := partN_pos p0
  have p2 := partN_pos p1
  have z : ([] : List Line).length ≤ 255 := by simp
  simp only [runN, stepN0, stepN1, stepN2, List.nil_append]
  cases (partN b r).1 with
  | true => exact ⟨partN_len _ _, z, z, p0⟩
  | false =>
    simp only [cond_false]
    cases (partN b (partN b r).2.1).1 with
    | true => exact ⟨partN_len _ _, partN_len _ _, z, p1⟩
    | false => exact ⟨partN_len _ _, partN_len _ _, partN_len _ _, p2⟩
end Go.Ev

/-
  What is read may be.
-/
namespace Go.Ev
set_option linter.unusedVariables false
set_option linter.unusedSimpArgs false
theorem readR_may {b : List UInt8} {r : Rec} (h : readR b = some r) : mayB r = true := by
  unfold readR at h
  split at h
  · rename_i q; cases h; exact q.2.2.2
  · cases h
theorem recG_len (b : List UInt8) : (recG (readR b)).writes.length ≤ 4 := by
  cases hr : readR b with
  | none => simp [recG]
  | some r => have := readR_may hr; obtain ⟨p, y, l⟩ := r; exact (may_facts this).2.1
theorem readS_stands {b : List UInt8} {s : St} (h : readS b = some s) : standsOK s = true := by
  rw [readS_eq] at h
  split at h
  · split at h
    · rename_i q; cases h; exact q.2
    · cases h
  · cases h
theorem stG_len (b : List UInt8) : (stG (readS b)).items.length ≤ 24 ∧ (stG (readS b)).l0.length ≤ 16 ∧ (stG (readS b)).l1.length ≤ 16 ∧ (stG (readS b)).l2.length ≤ 16 := by
  cases hr : readS b with
  | none => simp [stG]
  | some s =>
    have := readS_stands hr
    obtain ⟨p, it, l0, l1, l2, c0, c1, c2⟩ := s
    obtain ⟨_, h1, _, h2, h3, h4⟩ := stands_facts this
    exact ⟨h1, h2.2.1, h3.2.1, h4.2.1⟩
end Go.Ev

/-
  A byte more is no record, and no state.
-/
namespace Go.Ev
set_option linter.unusedVariables false
set_option linter.unusedSimpArgs false
/-- what reads bytes reads them with others behind as well -/
def Mono {α : Type} (f : List UInt8 → Option (α × List UInt8)) : Prop := ∀ b x q, f b = some q → f (b ++ x) = some (q.1, q.2 ++ x)
theorem mono_bind {α β : Type} {f : List UInt8 → Option (α × List UInt8)} {g : α → List UInt8 → Option (β × List UInt8)} (hf : Mono f) (hg : ∀ a, Mono (g a)) : Mono fun b => (f b).bind fun q => g q.1 q.2 := by
  intro b x q h
  cases hb : f b with
  | none => simp only [hb] at h; cases h
  | some p =>
    simp only [hb, Option.bind_some] at h
    simp only [hf b x p hb, Option.bind_some]
    exact hg _ _ _ _ h
theorem mono_some {α : Type} (a : α) : Mono fun b => some (a, b) := by
  intro b x q h; cases h; rfl
theorem mono_sget (w : Nat) : Mono (sget w) := by
  intro b x q h
  unfold sget at h ⊢
  split at h
  · rename_i hw
    cases h
    rw [if_pos (by simp; omega), List.take_append_of_le_length hw, List.drop_append_of_le_length hw]
  · cases h
theorem mono_sItems : ∀ n, Mono (sItems n)
  | 0 => mono_some []
  | n + 1 => mono_bind (g := fun k b => (sget 3 b).bind fun p => (sget 1 p.2).bind fun v => (sItems n v.2).bind fun q => some ((⟨k, p.1, v.1⟩ : Item) :: q.1, q.2)) (mono_sget 1) fun k =>
      mono_bind (g := fun p b => (sget 1 b).bind fun v => (sItems n v.2).bind fun q => some ((⟨k, p, v.1⟩ : Item) :: q.1, q.2)) (mono_sget 3) fun p =>
      mono_bind (g := fun v b => (sItems n b).bind fun q => some ((⟨k, p, v⟩ : Item) :: q.1, q.2)) (mono_sget 1) fun v =>
      mono_bind (g := fun l b => some ((⟨k, p, v⟩ : Item) :: l, b)) (mono_sItems n) fun l => mono_some _
theorem mono_sLines : ∀ n o, Mono (sLines n o)
  | 0, _ => mono_some []
  | n + 1, o => mono_bind (g := fun p b => (sget 1 b).bind fun x => (sget 1 x.2).bind fun v => (sLines n (o + 1) v.2).bind fun q => some ((⟨o, p, x.1 % 16, x.1 / 16, v.1⟩ : Line) :: q.1, q.2)) (mono_sget 3) fun p =>
      mono_bind (g := fun x b => (sget 1 b).bind fun v => (sLines n (o + 1) v.2).bind fun q => some ((⟨o, p, x % 16, x / 16, v.1⟩ : Line) :: q.1, q.2)) (mono_sget 1) fun x =>
      mono_bind (g := fun v b => (sLines n (o + 1) b).bind fun q => some ((⟨o, p, x % 16, x / 16, v⟩ : Line) :: q.1, q.2)) (mono_sget 1) fun v =>
      mono_bind (g := fun l b => some ((⟨o, p, x % 16, x / 16, v⟩ : Line) :: l, b)) (mono_sLines n (o + 1)) fun l => mono_some _
theorem mono_if {α : Type} (p : Prop) [Decidable p] {f : List UInt8 → Option (α × List UInt8)} (hf : Mono f) : Mono fun b => if p then none else f b := by
  intro b x q h
  by_cases hp : p
  · simp only [if_pos hp] at h; cases h
  · simp only [if_neg hp] at h ⊢; exact hf b x q h
theorem mono_sPart : Mono sPart :=
  mono_bind (g := fun c b => (sget 1 b).bind fun n => (sget 3 n.2).bind fun f => if n.1 = 0 ∧ f.1 ≠ 0 then none else (sLines n.1.toNat f.1 f.2).bind fun q => some ((c, q.1), q.2)) (mono_sget 3) fun c =>
    mono_bind (g := fun n b => (sget 3 b).bind fun f => if n = 0 ∧ f.1 ≠ 0 then none else (sLines n.toNat f.1 f.2).bind fun q => some ((c, q.1), q.2)) (mono_sget 1) fun n =>
    mono_bind (g := fun f b => if n = 0 ∧ f ≠ 0 then none else (sLines n.toNat f b).bind fun q => some ((c, q.1), q.2)) (mono_sget 3) fun f =>
    mono_if _ (mono_bind (g := fun l b => some ((c, l), b)) (mono_sLines n.toNat f) fun l => mono_some _)
theorem mono_sState : Mono sState :=
  mono_bind (g := fun p b => (sget 1 b).bind fun n => (sItems n.1.toNat n.2).bind fun it => (sPart it.2).bind fun x => (sPart x.2).bind fun y => (sPart y.2).bind fun z => some ((⟨p, it.1, x.1.2, y.1.2, z.1.2, x.1.1, y.1.1, z.1.1⟩ : St), z.2)) (mono_sget 3) fun p =>
    mono_bind (g := fun n b => (sItems n.toNat b).bind fun it => (sPart it.2).bind fun x => (sPart x.2).bind fun y => (sPart y.2).bind fun z => some ((⟨p, it.1, x.1.2, y.1.2, z.1.2, x.1.1, y.1.1, z.1.1⟩ : St), z.2)) (mono_sget 1) fun n =>
    mono_bind (g := fun it b => (sPart b).bind fun x => (sPart x.2).bind fun y => (sPart y.2).bind fun z => some ((⟨p, it, x.1.2, y.1.2, z.1.2, x.1.1, y.1.1, z.1.1⟩ : St), z.2)) (mono_sItems n.toNat) fun it =>
    mono_bind (g := fun x b => (sPart b).bind fun y => (sPart y.2).bind fun z => some ((⟨p, it, x.2, y.1.2, z.1.2, x.1, y.1.1, z.1.1⟩ : St), z.2)) mono_sPart fun x =>
    mono_bind (g := fun y b => (sPart b).bind fun z => some ((⟨p, it, x.2, y.2, z.1.2, x.1, y.1, z.1.1⟩ : St), z.2)) mono_sPart fun y =>
    mono_bind (g := fun z b => some ((⟨p, it, x.2, y.2, z.2, x.1, y.1, z.1⟩ : St), b)) mono_sPart fun z => mono_some _
theorem readS_more {b : List UInt8} {s : St} (h : readS b = some s) (x : UInt8) : readS (b ++ [x]) = none := by
  rw [readS_eq] at h ⊢
  cases hq : sState b with
  | none => simp only [hq] at h; cases h
  | some q =>
    simp only [hq] at h
    rw [mono_sState b [x] q hq]
    simp
theorem readR_more {b : List UInt8} {r : Rec} (h : readR b = some r) (x : UInt8) : readR (b ++ [x]) = none := by
  unfold readR at h ⊢
  split at h
  · rename_i hc
    obtain ⟨h1, _, h3, _⟩ := hc
    rw [if_neg]
    intro hd
    have h4 := hd.2.2.1
    have e : (b ++ [x]).getD 4 0 = b.getD 4 0 := by
      simp [List.getElem?_append_left (show 4 < b.length by omega)]
    rw [e] at h4
    simp only [List.length_append, List.length_singleton] at h4
    omega
  · cases h
theorem recG_isNone (o : Option Rec) : (bif o.isNone then (50 : Int) else 0) = if o = none then 50 else 0 := by cases o <;> rfl
end Go.Ev

namespace Go.Ev
open Go.Proofs
set_option maxRecDepth 100000
set_option linter.unusedVariables false
set_option linter.unusedSimpArgs false
/-! ### function long: flume/flumelaw05.RecordLong -/
def long_s (c : Bool) (b : List UInt8) (x : Int) : Option (Bool × D RC) := some (lenOK b.length, .bool true)
def long_sp : List (D RC) → Option (Bool × D RC)
  | [.sl .u8 c b, .int .u8 x] => long_s c b x
  | _ => none
noncomputable def long_e (c : Bool) (b : List UInt8) (x : Int) := evF s05 uo_1 60 7 [.sl (C := RC) .u8 c b, .int .u8 x]
theorem long_eq (c : Bool) (b : List UInt8) (x : Int) : long_e c b x = (bif lenOK (List.length b) then bif decide ((2000 : Int) < (↑(List.length b) : Int)) then some (D.bool true) else bif sizeOK ((0 : Nat) + List.length b) (1 : Nat) then bif Nat.beq ((0 : Nat) + List.length b) (List.length (List.replicate (0 : Nat) (UInt8.ofBitVec (BitVec.ofNat (8 : Nat) (nat_lit 0))) ++ b)) && sizeOK ((0 : Nat) + List.length b + List.length [UInt8.ofNat (Int.toNat x)]) (1 : Nat) then bif decide (List.length b ≤ (1000000 : Nat)) then bif Nat.beq (List.length (List.replicate (0 : Nat) (UInt8.ofBitVec (BitVec.ofNat (8 : Nat) (nat_lit 0))) ++ b) + List.length [UInt8.ofNat (Int.toNat x)]) (List.length (List.replicate (0 : Nat) (UInt8.ofBitVec (BitVec.ofNat (8 : Nat) (nat_lit 0))) ++ b ++ [UInt8.ofNat (Int.toNat x)])) then bif decide (List.length (List.replicate (0 : Nat) (UInt8.ofBitVec (BitVec.ofNat (8 : Nat) (nat_lit 0))) ++ b ++ [UInt8.ofNat (Int.toNat x)]) ≤ (1000000 : Nat)) then bif (bif Option.isNone (readR b) then (50 : Int) else (0 : Int)) == (0 : Int) then bif (bif Option.isNone (readR (List.replicate (0 : Nat) (UInt8.ofBitVec (BitVec.ofNat (8 : Nat) (nat_lit 0))) ++ b ++ [UInt8.ofNat (Int.toNat x)])) then (50 : Int) else (0 : Int)) == (0 : Int) then some (D.bool false) else bif decide (List.length b ≤ (1000000 : Nat)) then bif Nat.beq (List.length (List.replicate (0 : Nat) (UInt8.ofBitVec (BitVec.ofNat (8 : Nat) (nat_lit 0))) ++ b) + List.length [UInt8.ofNat (Int.toNat x)]) (List.length (List.replicate (0 : Nat) (UInt8.ofBitVec (BitVec.ofNat (8 : Nat) (nat_lit 0))) ++ b ++ [UInt8.ofNat (Int.toNat x)])) then bif decide (List.length (List.replicate (0 : Nat) (UInt8.ofBitVec (BitVec.ofNat (8 : Nat) (nat_lit 0))) ++ b ++ [UInt8.ofNat (Int.toNat x)]) ≤ (1000000 : Nat)) then bif (bif Option.isNone (readS b) then (50 : Int) else (0 : Int)) != (0 : Int) then some (D.bool true) else bif (bif Option.isNone (readS (List.replicate (0 : Nat) (UInt8.ofBitVec (BitVec.ofNat (8 : Nat) (nat_lit 0))) ++ b ++ [UInt8.ofNat (Int.toNat x)])) then (50 : Int) else (0 : Int)) != (0 : Int) then some (D.bool true) else some (D.bool false) else none else none else none else bif decide (List.length b ≤ (1000000 : Nat)) then bif Nat.beq (List.length (List.replicate (0 : Nat) (UInt8.ofBitVec (BitVec.ofNat (8 : Nat) (nat_lit 0))) ++ b) + List.length [UInt8.ofNat (Int.toNat x)]) (List.length (List.replicate (0 : Nat) (UInt8.ofBitVec (BitVec.ofNat (8 : Nat) (nat_lit 0))) ++ b ++ [UInt8.ofNat (Int.toNat x)])) then bif decide (List.length (List.replicate (0 : Nat) (UInt8.ofBitVec (BitVec.ofNat (8 : Nat) (nat_lit 0))) ++ b ++ [UInt8.ofNat (Int.toNat x)]) ≤ (1000000 : Nat)) then bif (bif Option.isNone (readS b) then (50 : Int) else (0 : Int)) != (0 : Int) then some (D.bool true) else bif (bif Option.isNone (readS (List.replicate (0 : Nat) (UInt8.ofBitVec (BitVec.ofNat (8 : Nat) (nat_lit 0))) ++ b ++ [UInt8.ofNat (Int.toNat x)])) then (50 : Int) else (0 : Int)) != (0 : Int) then some (D.bool true) else some (D.bool false) else none else none else none else none else none else none else none else none else none) := by kernel_rfl
theorem long_ok (c : Bool) (b : List UInt8) (x : Int) (h : (lenOK b.length) = true) : long_e c b x = some (.bool true) := by
  rw [long_eq]
  simp only [h, cond_true]
  refine cond_both (fun _ => rfl) fun hb => ?_
  have hl : b.length ≤ 2000 := by simp only [decide_eq_false_iff_not] at hb; omega
  have e5 : ∀ y : UInt8, (List.replicate 0 (⟨0#8⟩ : UInt8) ++ b ++ [y]) = b ++ [y] := fun y => by simp
  have e6 : (List.replicate 0 (⟨0#8⟩ : UInt8) ++ b) = b := by simp
  simp only [e5, e6]
  generalize UInt8.ofNat x.toNat = y
  have e1 : sizeOK (0 + b.length) 1 = true := sizeT (by omega)
  have e2 : sizeOK (0 + b.length + [y].length) 1 = true := sizeT (by simp; omega)
  have e3 : (0 + b.length).beq b.length = true := by simp
  have e4 : (b.length + [y].length).beq (b ++ [y]).length = true := by simp
  have e7 : decide (b.length ≤ 1000000) = true := decide_eq_true (by omega)
  have e8 : decide ((b ++ [y]).length ≤ 1000000) = true := decide_eq_true (by simp; omega)
  simp only [e1, e2, e3, e4, e7, e8, cond_true, Bool.and_self]
  cases h1 : readR b with
  | none =>
    cases h2 : readS b with
    | none => rfl
    | some s => simp only [readS_more h2]; rfl
  | some r =>
    simp only [readR_more h1]
    cases h2 : readS b with
    | none => rfl
    | some s => simp only [readS_more h2]; rfl
noncomputable def uu_1 := uo_1.addSpec 7 long_sp
theorem uu_1_laws : FLaws Try.prog s05 uu_1 := uo_1_laws.addEv s05_laws fun args d h => by
  unfold long_sp at h
  split at h
  · unfold long_s at h
    have h1 := congrArg Prod.fst (Option.some.inj h)
    obtain rfl : _ = d := congrArg Prod.snd (Option.some.inj h)
    exact ⟨by simp [D.refs], 60, long_ok _ _ _ h1⟩
  · cases h
end Go.Ev


/-
  From what an argument reads al (the given statements' form) to a value of the evaluator, and back: a statement 'true for every input' out of what the evaluator says.
-/
namespace Go.Ev
open Go.ChangeShapes Go.WideShapes Go.RowKit
set_option linter.unusedVariables false
set_option linter.unusedSimpArgs false

section
variable {C : Cdc}

/-- a value of an argument: numbers fit their kinds, lists are no longer than a slice may be -/
def good (gA : (t : C.Ty) → C.A t → Prop) : D C → Prop
  | .int k n => k.min ≤ n ∧ n ≤ k.max
  | .str s => s.length ≤ maxLen
  | .acons d ds => good gA d ∧ good gA ds
  | .arr t n l => l.length = n ∧ ∀ x ∈ l, gA t x
  | .sl t _ l => l.length ≤ maxLen ∧ ∀ x ∈ l, gA t x
  | _ => True

/-- types of plain data -/
def plainT (T : Tab C) : Nat → TypeId → Bool
  | 0, _ => false
  | k + 1, t => match T.ty t with
    | .bool | .int _ | .str => true
    | .struct _ fs => fs.all (plainT T k)
    | .arr _ e _ => plainT T k e
    | .sl e _ => plainT T k e
    | _ => false

structure Dec (T : Tab C) (gA : (t : C.Ty) → C.A t → Prop) : Prop where
  dec : ∀ t d, fit T d (.inl (T.ety t)) = true → d.refs = [] → good gA d → (∃ k u, T.ty u = T.ty (T.ety t) ∧ plainT T k u = true) → ∃ x, T.dec t d = some x ∧ gA t x

variable {P : Program} {T : Tab C} {gA : (t : C.Ty) → C.A t → Prop}

def X0 (W : World) : Cx := ⟨W, fun _ => none, fun _ _ => False⟩
theorem X0_free (W : World) (b o : Nat) : (X0 W).free b o := ⟨fun h => h, fun ⟨_, _, h, _⟩ => by simp [X0] at h⟩

theorem arr_R {X : Cx} (t : C.Ty) (sz : Nat) : ∀ (n : Nat) (cs : List Value), cs.length = n * sz → (∀ i, i < n → ∃ x : C.A t, R T X false (T.enc t x) ((cs.drop (i * sz)).take sz) ∧ gA t x) →
    ∃ l : List (C.A t), R T X false (.arr t n l) cs ∧ l.length = n ∧ ∀ x ∈ l, gA t x
  | 0, cs, hl, _ => by
    obtain rfl : cs = [] := by simpa using hl
    exact ⟨[], .arr0 _, rfl, by simp⟩
  | n + 1, cs, hl, h => by
    obtain ⟨x, hx, gx⟩ := h 0 (by omega)
    obtain ⟨l, hr, hn, gl⟩ := arr_R t sz n (cs.drop sz) (by rw [List.length_drop, hl, Nat.succ_mul]; omega) fun i hi => by
      obtain ⟨y, hy, gy⟩ := h (i + 1) (by omega)
      refine ⟨y, ?_, gy⟩
      rw [List.drop_drop]
      rw [show sz + i * sz = (i + 1) * sz by rw [Nat.succ_mul]; omega]
      exact hy
    refine ⟨x :: l, ?_, by simp [hn], by simpa using ⟨gx, gl⟩⟩
    have := R.arrS hx hr
    simpa using this

theorem sl_R {W : World} (t : C.Ty) (b sz : Nat) : ∀ (n off : Nat), (∀ i, i < n → ∃ (x : C.A t) (ci : List Value), R T (X0 W) false (T.enc t x) ci ∧ ci.length = sz ∧ (∀ j, j < sz → W.cell? ⟨b, off + i * sz + j, none⟩ = ci[j]?) ∧ gA t x) →
    ∃ (l : List (C.A t)) (cs : List Value), R T (X0 W) false (.arr t n l) cs ∧ l.length = n ∧ (X0 W).at b off cs ∧ ∀ x ∈ l, gA t x
  | 0, off, _ => ⟨[], [], .arr0 _, rfl, fun j v h => by simp at h, by simp⟩
  | n + 1, off, h => by
    obtain ⟨x, ci, hx, hlen, hc, gx⟩ := h 0 (by omega)
    obtain ⟨l, cs, hr, hn, hat, gl⟩ := sl_R t b sz n (off + sz) fun i hi => by
      obtain ⟨y, c2, hy, h2, h3, gy⟩ := h (i + 1) (by omega)
      refine ⟨y, c2, hy, h2, fun j hj => ?_, gy⟩
      have := h3 j hj
      rwa [show off + (i + 1) * sz + j = off + sz + i * sz + j by rw [Nat.succ_mul]; omega] at this
    refine ⟨x :: l, ci ++ cs, .arrS hx hr, by simp [hn], fun j v hj => ⟨?_, X0_free _ _ _⟩, by simpa using ⟨gx, gl⟩⟩
    by_cases hlt : j < ci.length
    · rw [List.getElem?_append_left hlt] at hj
      have := hc j (by omega)
      simp only [Nat.zero_mul, Nat.add_zero] at this
      exact this.trans hj
    · rw [List.getElem?_append_right (by omega)] at hj
      have := (hat _ _ hj).1
      rwa [show off + sz + (j - ci.length) = off + j by omega] at this

theorem st_R {X : Cx} : ∀ (fs : List TypeId) (cs : List Value), (∀ i f, fs[i]? = some f → ∃ d, R T X false d ((cs.drop (sumSz T (fs.take i))).take (T.size f)) ∧ fit T d (.inl f) = true ∧ good gA d ∧ d.refs = []) →
    ∃ d, R T X false d (cs.take (sumSz T fs)) ∧ fit T d (.inr fs) = true ∧ good gA d ∧ d.refs = [] ∧ d.isRow = true ∧ (∀ t a, T.ty t = .struct a fs → fit T d (.inl t) = true)
  | [], cs, _ => ⟨.anil, by simpa [sumSz] using R.anil, rfl, trivial, rfl, rfl, fun t a ht => by simp [fit, ht]⟩
  | f :: fs, cs, h => by
    obtain ⟨d, hd, fd, gd, rd⟩ := h 0 f rfl
    obtain ⟨ds, hr, fr, gr, rr, _, _⟩ := st_R fs (cs.drop (T.size f)) fun i g hg => by
      obtain ⟨e, he, h2⟩ := h (i + 1) g (by simpa using hg)
      refine ⟨e, ?_, h2⟩
      simpa [sumSz, List.drop_drop] using he
    refine ⟨.acons d ds, ?_, by simp [fit, fd, fr], ⟨gd, gr⟩, by simp [D.refs, rd, rr], rfl, fun t a ht => by simp [fit, ht, fd, fr]⟩
    have := R.acons hd hr
    simpa [sumSz, List.take_add] using this

theorem cellsOf_info {t : TypeId} {i : TypeInfo} (h : P.info? t = some i) : P.cellsOf t = i.size := by
  simp [Program.cellsOf, h]

theorem trod_R (K : PLaws P T) (hd : Dec T gA) {H : Type} {enc : TypeId × Value → H} {W : World} : ∀ (k : Nat) (t : TypeId), plainT T k t = true → ∀ (fuel : Nat) (cs : List Value) (x : DataW H × List MemPlace), DataW.trod enc P W 0 (fun _ => true) true fuel t cs = some x →
    ∃ d, R T (X0 W) false d cs ∧ fit T d (.inl t) = true ∧ good gA d ∧ d.refs = [] := by
  intro k
  induction k with
  | zero => intro t h; simp [plainT] at h
  | succ k ih =>
    intro t hp fuel cs x h
    unfold plainT at hp
    split at hp
    · rename_i ht
      obtain ⟨b, rfl, _⟩ := DataW.trod_bool (K.uBool t ht) h
      exact ⟨.bool b, .bool b, by simp [fit, ht], trivial, rfl⟩
    · rename_i kd ht
      obtain ⟨n, rfl, _, hw⟩ := DataW.trod_int (K.uInt t kd ht) h
      have hw' : kd.min ≤ n ∧ n ≤ kd.max := by simpa [Lit.wf] using hw
      exact ⟨.int kd n, .int hw', by simp [fit, ht], hw', rfl⟩
    · rename_i ht
      obtain ⟨s, rfl, _, hs⟩ := DataW.trod_string (K.uStr t ht) h
      exact ⟨.str s.data.toList, .str s.data.toList, by simp [fit, ht], by simpa [good] using hs, rfl⟩
    · rename_i isA fs ht
      cases isA with
      | true =>
        obtain ⟨el, hu, hfs, hpos, inf, hi1, hi2⟩ := K.uRow t fs ht
        obtain ⟨xs, m, _, _, hlen, hxs, hel⟩ := DataW.trod_array hu h
        have hget : ∀ i f, fs[i]? = some f → f = el ∧ i < fs.length := fun i f hf => by
          have := (List.getElem?_eq_some_iff.1 hf).1
          rw [hfs, List.getElem?_replicate] at hf
          simp at hf
          exact ⟨hf.2.symm, this⟩
        have hsum : ∀ i, i ≤ fs.length → sumSz T (fs.take i) = i * T.size el := by
          intro i hi
          rw [hfs, List.take_replicate, Nat.min_eq_left hi]
          clear hi
          induction i with
          | zero => simp [sumSz]
          | succ i ih => simp only [List.replicate_succ, sumSz, ih]; rw [Nat.succ_mul]; omega
        obtain ⟨d, hr, _, gd, rd, _, hfit⟩ := st_R (T := T) (X := X0 W) (gA := gA) fs cs fun i f hf => by
          obtain ⟨rfl, hi⟩ := hget i f hf
          have := hel i hi
          rw [cellsOf_info hi1, hi2] at this
          have hx : xs[i]? = some xs[i] := by simp [hxs, hi]
          rw [hx] at this
          obtain ⟨d, h1, h2, h3, h4⟩ := ih f (List.all_eq_true.1 hp _ (List.mem_of_getElem? hf)) m _ _ this
          refine ⟨d, ?_, h2, h3, h4⟩
          rw [hsum i (by omega)]; exact h1
        obtain ⟨inf, hi1, hi2⟩ := K.info t d (hfit t _ ht)
        rw [cellsOf_info hi1, hi2, K.base.szStruct t _ fs ht] at hlen
        rw [← hlen, List.take_length] at hr
        exact ⟨d, hr, hfit t _ ht, gd, rd⟩
      | false =>
        obtain ⟨fields, hu, hfs, hoff, _⟩ := K.uStruct t fs ht
        obtain ⟨xs, n, _, _, hlen, hxs, hel⟩ := DataW.trod_struct hu h
        obtain ⟨d, hr, _, gd, rd, _, hfit⟩ := st_R (T := T) (X := X0 W) (gA := gA) fs cs fun i f hf => by
          rw [← hfs, List.getElem?_map] at hf
          cases hfi : fields.toList[i]? with
          | none => simp [hfi] at hf
          | some fld =>
            simp only [hfi, Option.map_some, Option.some.injEq] at hf
            have hfa : fields[i]? = some fld := by rw [← Array.getElem?_toList]; exact hfi
            have := hel i fld hfa
            have hx : ∃ y, xs[i]? = some y := by
              have : i < fields.size := (Array.getElem?_eq_some_iff.1 hfa).1
              exact ⟨xs[i], by simp [hxs, this]⟩
            obtain ⟨y, hy⟩ := hx
            rw [hy] at this
            subst hf
            have hmem : fld.type ∈ fs := by rw [← hfs]; exact List.mem_map.2 ⟨fld, by exact List.mem_of_getElem? hfi, rfl⟩
            obtain ⟨d, h1, h2, h3, h4⟩ := ih fld.type (List.all_eq_true.1 hp _ hmem) n _ _ this
            obtain ⟨inf, hi1, hi2, _⟩ := K.uField t fs fld.type ht hmem
            refine ⟨d, ?_, h2, h3, h4⟩
            rw [hoff i fld hfa, cellsOf_info hi1, hi2] at h1
            exact h1
        obtain ⟨inf, hi1, hi2⟩ := K.info t d (hfit t _ ht)
        rw [cellsOf_info hi1, hi2, K.base.szStruct t _ fs ht] at hlen
        rw [← hlen, List.take_length] at hr
        exact ⟨d, hr, hfit t _ ht, gd, rd⟩
    · rename_i n e ct ht
      obtain ⟨hu, _⟩ := K.uArr t n e ct ht
      obtain ⟨xs, m, _, _, hlen, hxs, hel⟩ := DataW.trod_array hu h
      obtain ⟨inf, z, hi1, hi2, _⟩ := K.uElem t e ct (.inl ⟨n, ht⟩)
      obtain ⟨it, hj1, hj2⟩ := K.info t (.arr ct n []) (by simp [fit, ht])
      obtain ⟨hs1, hs2, hs3⟩ := K.base.szArr t n e ct ht
      rw [cellsOf_info hj1, hj2, hs1] at hlen
      obtain ⟨l, hr, hn, gl⟩ := arr_R (T := T) (X := X0 W) (gA := gA) ct (T.size e) n cs hlen fun i hi => by
        have := hel i hi
        rw [cellsOf_info hi1, hi2] at this
        have hx : xs[i]? = some xs[i] := by simp [hxs, hi]
        rw [hx] at this
        obtain ⟨d, h1, h2, h3, h4⟩ := ih e hp m _ _ this
        obtain ⟨x, h5, h6⟩ := hd.dec ct d (by rw [← fit_congr hs2]; exact h2) h4 h3 ⟨k, e, hs2, hp⟩
        exact ⟨x, K.base.decR _ _ _ _ _ h5 h1, h6⟩
      exact ⟨.arr ct n l, hr, by simp [fit, ht], ⟨hn, gl⟩, rfl⟩
    · rename_i e ct ht
      have hu := K.uSl t e ct ht
      obtain ⟨inf, z, hi1, hi2, _, _, hpos, _⟩ := K.uElem t e ct (.inr ht)
      obtain ⟨hs1, hs2, hs3⟩ := K.base.szSl t e ct ht
      rcases DataW.trod_slice hu h with ⟨rfl, _⟩ | ⟨a, len, cap, elems, rest, m, _, rfl, _, _, hlc, hcm, hel, he, hrest, _⟩
      · exact ⟨.sl ct false [], .sl0 _ _ _, by simp [fit, ht], by simp [good], rfl⟩
      · by_cases hc0 : cap = 0
        · subst hc0
          obtain rfl : len = 0 := by omega
          exact ⟨.sl ct false [], .sl0 _ _ _, by simp [fit, ht], by simp [good], rfl⟩
        · have hspot : a.spot = none := by
            have key : ∀ i y, i = 0 → (W.cells? 0 (a.add (i * P.cellsOf e)) (P.cellsOf e)).bind (DataW.trod enc P W 0 (fun _ => true) true m e) = some y → a.spot = none := by
              intro i y hi0 hy
              subst hi0
              rw [cellsOf_info hi1, hi2] at hy
              cases hcs : W.cells? 0 (a.add (0 * T.size e)) (T.size e) with
              | none => rw [hcs] at hy; cases hy
              | some ci =>
                obtain ⟨_, h2, h3⟩ := World.cells?_some hcs
                have h4 := h3 0 hpos
                have h5 : ci[0]? = some ci[0] := by simp
                rw [h5] at h4
                have := World.cell?_spot h4
                simpa [Addr.add] using this
            by_cases hl0 : 0 < len
            · have := he 0 hl0
              have hx : elems[0]? = some elems[0] := by simp
              exact key 0 _ rfl (this.trans hx)
            · have hr2 := hrest rfl
              have := hr2.2 0 (by omega)
              have h0 : 0 < rest.length := by omega
              have hx : rest[0]? = some rest[0] := by simp
              exact key _ _ (by omega) (this.trans hx)
          obtain ⟨b, off, sp⟩ := a
          simp only at hspot
          subst hspot
          obtain ⟨l, cs, hr, hn, hat, gl⟩ := sl_R (T := T) (W := W) (gA := gA) ct b (T.size e) len off fun i hi => by
            have := he i hi
            have hx : elems[i]? = some elems[i] := by simp [hel, hi]
            rw [hx, cellsOf_info hi1, hi2] at this
            cases hcs : W.cells? 0 ((⟨b, off, none⟩ : Addr).add (i * T.size e)) (T.size e) with
            | none => simp [hcs] at this
            | some ci =>
              simp only [hcs, Option.bind_some] at this
              obtain ⟨_, h2, h3⟩ := World.cells?_some hcs
              obtain ⟨d, k1, k2, k3, k4⟩ := ih e hp m _ _ this
              obtain ⟨x, k5, k6⟩ := hd.dec ct d (by rw [← fit_congr hs2]; exact k2) k4 k3 ⟨k, e, hs2, hp⟩
              refine ⟨x, ci, K.base.decR _ _ _ _ _ k5 k1, h2, fun j hj => ?_, k6⟩
              have := h3 j hj
              rwa [add_plain, add_plain] at this
          subst hn
          exact ⟨.sl ct false l, .sl hat hr hlc (by simp), by simp [fit, ht], ⟨by omega, gl⟩, rfl⟩
    · cases hp

theorem okWide_row (K : PLaws P T) {W : World} {r : Reach} {base : Nat} {t : TypeId} {v : Value} {d : D C} (hv : Value.okWide P W r base t v) (hp : ∃ k, plainT T k t = true) (hf : fit T d (.inl t) = true) (hr : R T (X0 W) false d v.cells.toList) (hrf : d.refs = []) : RV T (X0 W) d v := by
  obtain ⟨k, hp⟩ := hp
  cases k with
  | zero => simp [plainT] at hp
  | succ k =>
    unfold plainT at hp
    split at hp
    · rename_i ht
      obtain ⟨b, rfl⟩ := okWide_bool (K.uBool t ht) hv
      refine .inr ⟨?_, by simpa [Value.cells] using hr⟩
      cases d <;> simp [fit, ht] at hf <;> rfl
    · rename_i kd ht
      obtain ⟨b, rfl⟩ := okWide_int (K.uInt t kd ht) hv
      refine .inr ⟨?_, by simpa [Value.cells] using hr⟩
      cases d <;> simp [fit, ht] at hf <;> rfl
    · rename_i ht
      obtain ⟨b, rfl⟩ := okWide_string (K.uStr t ht) hv
      refine .inr ⟨?_, by simpa [Value.cells] using hr⟩
      cases d <;> simp [fit, ht] at hf <;> rfl
    · rename_i isA fs ht
      have : ∃ cs, v = .agg cs := by
        cases isA with
        | false =>
          obtain ⟨fields, hu, _⟩ := K.uStruct t fs ht
          obtain ⟨cs, rfl, _⟩ := okWide_struct hu hv
          exact ⟨cs, rfl⟩
        | true =>
          obtain ⟨el, hu, _⟩ := K.uRow t fs ht
          simp only [Value.okWide, hu] at hv
          obtain ⟨cs, rfl, _⟩ := hv
          exact ⟨cs, rfl⟩
      obtain ⟨cs, rfl⟩ := this
      refine .inl ⟨?_, cs.toList, by simpa [Value.cells] using hr, rfl⟩
      cases d <;> simp [fit, ht] at hf <;> rfl
    · rename_i n e ct ht
      obtain ⟨hu, _⟩ := K.uArr t n e ct ht
      have : ∃ cs, v = .agg cs := by
        simp only [Value.okWide, hu] at hv
        obtain ⟨cs, rfl, _⟩ := hv
        exact ⟨cs, rfl⟩
      obtain ⟨cs, rfl⟩ := this
      refine .inl ⟨?_, cs.toList, by simpa [Value.cells] using hr, rfl⟩
      cases d <;> simp [fit, ht] at hf <;> rfl
    · rename_i e ct ht
      obtain ⟨a, len, cap, rfl⟩ := okWide_slice (K.uSl t e ct ht) hv
      refine .inr ⟨?_, by simpa [Value.cells] using hr⟩
      cases d <;> simp [fit, ht] at hf <;> rfl
    · cases hp

/-- the arguments, al the evaluator has them -/
inductive Fits (T : Tab C) (gA : (t : C.Ty) → C.A t → Prop) : List TypeId → List (D C) → Prop
  | nil : Fits T gA [] []
  | cons {t : TypeId} {ts : List TypeId} {d : D C} {ds : List (D C)} (hf : fit T d (.inl t) = true) (hg : good gA d) (hr : d.refs = []) (h : Fits T gA ts ds) : Fits T gA (t :: ts) (d :: ds)

theorem Fits.refs {ts : List TypeId} {ds : List (D C)} (h : Fits T gA ts ds) : ∀ a ∈ ds, D.refs a = [] := by
  induction h with
  | nil => simp
  | cons _ _ hr _ ih => simpa using ⟨hr, ih⟩

theorem trodAll_R (K : PLaws P T) (hd : Dec T gA) {H : Type} {enc : TypeId × Value → H} {W : World} {r : Reach} {base : Nat} : ∀ (ts : List TypeId) (vs : List Value) (ds : List (DataW H)) (ps : List MemPlace), (∀ t ∈ ts, ∃ k, plainT T k t = true) →
    (∀ (j : Nat) t v, ts[j]? = some t → vs[j]? = some v → Value.okWide P W r base t v) → DataW.TrodAll enc P W 0 (fun _ => true) true ts vs ds ps → ∃ al, Fits T gA ts al ∧ RVs T (X0 W) al vs
  | [], vs, ds, ps, _, _, h => by
    obtain ⟨rfl, rfl, rfl⟩ := trodAll_nil h
    exact ⟨[], .nil, .nil⟩
  | t :: ts, vs, ds, ps, hp, hv, h => by
    obtain ⟨v, vs1, d, ds1, p, q, rfl, rfl, rfl, ⟨fuel, h1⟩, h2⟩ := trodAll_cons h
    obtain ⟨al, f1, r1⟩ := trodAll_R K hd ts vs1 ds1 q (fun t ht => hp t (by simp [ht])) (fun j t v a b => hv (j + 1) t v (by simpa using a) (by simpa using b)) h2
    obtain ⟨k, hk⟩ := hp t (by simp)
    obtain ⟨a, k1, k2, k3, k4⟩ := trod_R K hd k t hk fuel _ _ h1
    exact ⟨a :: al, .cons k2 k3 k4 f1, .cons (okWide_row K (hv 0 t v rfl rfl) ⟨k, hk⟩ k2 k1 k4) r1⟩

theorem stays (hl : laidOutB P = true) {H : Type} {enc : TypeId × Value → H} {W W' : World} {sp : Nat → Bool} : ∀ (ts : List TypeId) (vs : List Value) (ds : List (DataW H)) (ps : List MemPlace), (∀ t ∈ ts, P.readableRec t = true ∧ t < P.types.size) →
    DataW.TrodAll enc P W 0 (fun _ => true) true ts vs ds ps → (∀ p ∈ ps, W.sameAt W' p) → (∀ p ∈ ps, sp p.block = true) → DataW.TrodAll enc P W' 0 sp true ts vs ds ps
  | [], vs, ds, ps, _, h, _, _ => by
    obtain ⟨rfl, rfl, rfl⟩ := trodAll_nil h
    exact trodAll_mk0
  | t :: ts, vs, ds, ps, ht, h, h3, h4 => by
    obtain ⟨v, vs1, d, ds1, p, q, rfl, rfl, rfl, h1, h2⟩ := trodAll_cons h
    exact trodAll_cons_mk (WideElems.Trod_stays hl (ht t (by simp)).1 (ht t (by simp)).2 h1 (fun x hx => h3 x (by simp [hx])) (fun x hx => h4 x (by simp [hx])))
      (stays hl ts vs1 ds1 q (fun t h => ht t (by simp [h])) h2 (fun x hx => h3 x (by simp [hx])) (fun x hx => h4 x (by simp [hx])))

/-- 'true for every input', out of what the evaluator says -/
theorem post_same_old {H : Type} {enc : TypeId × Value → H} {f : Func} {s : ChangeSpec} {apart fresh handsOn again : Bool} {W W' : World} {args : Array Value} {v : Value} {ds gs : List (DataW H)} {before pa pv : List MemPlace}
    (hW : DataW.Whole enc P f.params.toList s.vars apart W args.toList ds gs before)
    (hres : ∀ (b : Nat) (sp : Nat → Bool) (hd : Bool), DataW.TrodAll enc P W' b sp hd f.resultTypes.toList (v.resultList f.resultTypes.size) (s.fn H (ds ++ gs)).results [])
    (hargs : ∀ sp : Nat → Bool, (∀ p ∈ before, sp p.block = true) → DataW.TrodAll enc P W' 0 sp true f.params.toList args.toList (s.fn H (ds ++ gs)).args pa)
    (hvars : ∀ sp : Nat → Bool, (∀ p ∈ before, sp p.block = true) → DataW.TrodVars enc P W' sp s.vars (s.fn H (ds ++ gs)).vars pv)
    (hps : before = pa ++ pv) (hk : W.keptBut W' (· ∈ before)) (hfz : ∀ a : Addr, a.block < W.heap.size → W'.frozen? a = W.frozen? a)
    (hok : ∀ (j : Nat) (t : TypeId) (r : Value), f.resultTypes[j]? = some t → (v.resultList f.resultTypes.size)[j]? = some r → Value.okWide P W' .any 0 t r) :
    s.post enc P f apart fresh handsOn again W args v W' := by
  have hold : ∀ p ∈ before, (fun b => decide (b < W.heap.size)) p.block = true := fun p hp => by simpa using hW.lt p hp
  refine ⟨ds, gs, before, [], pa, pv, hW, hres _ _ _, hargs _ hold, hvars _ hold, World.keptBut_mono (fun p hp => ⟨hp, ?_⟩) hk, fun _ => ?_⟩
  · rw [hps, List.mem_append] at hp
    exact Or.inr hp
  · have hlt := hW.lt
    obtain ⟨_, _, _, _, _, hz, hn⟩ := hW
    refine ⟨hok, _, _, ([] ++ pa) ++ pv, ⟨[] ++ pa, pv, trodAll_append (hargs _ (fun _ _ => rfl)) (hres _ _ _), hvars _ (fun _ _ => rfl), rfl, ?_, ?_⟩, ?_⟩
    · intro b off hp
      have hb : MemPlace.cell b off ∈ before := by rw [hps]; simpa using hp
      rw [hfz _ (by simpa [MemPlace.block] using hlt _ hb)]
      exact hz b off hb
    · intro ha
      have := hn ha
      rw [hps] at this
      simpa using this
    · intro p hp _
      rw [hps]
      simpa using hp

theorem contract_of (K : PLaws P T) {Φ : Fns C} (F : FLaws P T Φ) (hd : Dec T gA) (hl : laidOutB P = true) {f : FuncId} {fn : Func} {s : ChangeSpec} {tb : TypeId} {m : Nat}
    (hres : fn.resultTypes = #[tb]) (hb : P.underlying tb = some .bool) (hvars : s.vars = [])
    (hts : fn.params.toList.all (fun t => plainT T m t && P.readableRec t && Nat.blt t P.types.size) = true)
    (hspec : ∀ (H : Type) (ds : List (DataW H)), ds.length = fn.params.toList.length → s.fn H ds = { results := [.lit (.bool true)], args := ds })
    (hev : ∀ ds : List (D C), Fits T gA fn.params.toList ds → ∃ n, evF T Φ n f ds = some (.bool true))
    (H : Type) (enc : TypeId × Value → H) (W : World) (base : Nat) (args : Array Value) (ds gs : List (DataW H)) (before : List MemPlace)
    (hval : ∀ (j : Nat) t v, fn.params[j]? = some t → args[j]? = some v → Value.okWide P W .any base t v)
    (hW : DataW.Whole enc P fn.params.toList s.vars false W args.toList ds gs before) :
    Calls P f args W fun e W' => ∃ v, e = .returned v ∧ s.post enc P fn false true false false W args v W' := by
  have hts' : ∀ t ∈ fn.params.toList, plainT T m t = true ∧ P.readableRec t = true ∧ t < P.types.size := by
    intro t ht
    have := List.all_eq_true.1 hts t ht
    simp only [Bool.and_eq_true] at this
    exact ⟨this.1.1, this.1.2, by simpa [Nat.blt_eq] using this.2⟩
  have hW' := hW
  obtain ⟨p, q, hA, hV, rfl, hfz, hnd⟩ := hW
  rw [hvars] at hV
  obtain ⟨rfl, rfl⟩ := trodVars_none hV
  obtain ⟨al, hf, hr⟩ := trodAll_R (gA := gA) K hd (r := .any) (base := base) _ _ _ _ (fun t ht => ⟨m, (hts' t ht).1⟩) (fun j t v a b => hval j t v (by rw [← Array.getElem?_toList]; exact a) (by rw [← Array.getElem?_toList]; exact b)) hA
  obtain ⟨n, hn⟩ := hev al hf
  have hc := (evF_calls K F hn hf.refs W (fun _ _ => False) (fun _ _ h => h.elim) (vs := args.toList) hr).2
  have ea : (⟨args.toList⟩ : Array Value) = args := by simp
  rw [ea] at hc
  refine hc.mono fun e W' hp => ?_
  obtain ⟨v, ρ, rfl, rv, a1, a2, a3, a4, a5, a6⟩ := hp
  obtain rfl := rv.bool
  have hlen : ds.length = fn.params.toList.length := by
    have : ∀ (ts : List TypeId) (vs : List Value) (ds : List (DataW H)) (ps : List MemPlace), DataW.TrodAll enc P W 0 (fun _ => true) true ts vs ds ps → ds.length = ts.length := by
      intro ts
      induction ts with
      | nil => intro vs ds ps h; obtain ⟨rfl, rfl, rfl⟩ := trodAll_nil h; rfl
      | cons t ts ih =>
        intro vs ds ps h
        obtain ⟨v, vs1, d, ds1, p, q, rfl, rfl, rfl, h1, h2⟩ := trodAll_cons h
        simp [ih _ _ _ h2]
    exact this _ _ _ _ hA
  have hs := hspec H ds hlen
  have hbel : Below W.heap.size W W' := ⟨a3, a4, a5, a1, a2⟩
  have hlt : ∀ x ∈ p, x.block < W.heap.size := fun x hx => by simpa using hW'.lt x (by simpa using hx)
  refine ⟨_, rfl, post_same_old (pa := p) (pv := []) hW' ?_ ?_ ?_ (by simp) (hbel.frame _) a6 ?_⟩
  · intro b sp hd
    simp only [List.append_nil]
    rw [hs, hres]
    exact trodAll_cons_mk (p := []) (p' := []) (shut_bool hb _) trodAll_mk0
  · intro sp hsp
    simp only [List.append_nil] at hsp ⊢
    rw [hs]
    exact stays hl _ _ _ _ (fun t ht => (hts' t ht).2) hA (fun x hx => hbel.same (hlt x hx)) hsp
  · intro sp hsp
    simp only [List.append_nil]
    rw [hs, hvars]
    rfl
  · exact ok_one hres rfl (okWide_bool_mk hb _)

end
end Go.Ev

/-
  What a value of an argument's type is, alike in all seats.
-/
namespace Go.Ev
set_option linter.unusedVariables false
set_option linter.unusedSimpArgs false
def i64 (n : Int) : Prop := -9223372036854775808 ≤ n ∧ n ≤ 9223372036854775807
def inK (k : IntKind) (n : Int) : Prop := k.min ≤ n ∧ n ≤ k.max
theorem i64_of {n : Int} (h : IntKind.i64.min ≤ n ∧ n ≤ IntKind.i64.max) : i64 n := by
  simpa [i64, IntKind.min, IntKind.max, IntKind.signed, IntKind.bits] using h
section
variable {C : Cdc} {T : Tab C} {d : D C} {u : TypeId}
theorem fit_int {k : IntKind} (hu : T.ty u = .int k) (hf : fit T d (.inl u) = true) : ∃ n, d = .int k n := by
  cases d <;> simp [fit, hu] at hf
  subst hf; exact ⟨_, rfl⟩
theorem fit_bool (hu : T.ty u = .bool) (hf : fit T d (.inl u) = true) : ∃ n, d = .bool n := by
  cases d <;> simp [fit, hu] at hf
  exact ⟨_, rfl⟩
theorem fit_str (hu : T.ty u = .str) (hf : fit T d (.inl u) = true) : ∃ n, d = .str n := by
  cases d <;> simp [fit, hu] at hf
  exact ⟨_, rfl⟩
theorem fit_sl {e : TypeId} {t : C.Ty} (hu : T.ty u = .sl e t) (hf : fit T d (.inl u) = true) (hr : d.refs = []) : ∃ c l, d = .sl t c l := by
  cases d <;> simp [fit, hu] at hf
  · subst hf; exact ⟨_, _, rfl⟩
  · simp [D.refs] at hr
theorem fit_arr {e : TypeId} {t : C.Ty} {n : Nat} (hu : T.ty u = .arr n e t) (hf : fit T d (.inl u) = true) : ∃ l, d = .arr t n l := by
  cases d <;> simp [fit, hu] at hf
  obtain ⟨h1, h2⟩ := hf
  subst h1; subst h2; exact ⟨_, rfl⟩
theorem fit_st {a : Bool} {f : TypeId} {fs : List TypeId} (hu : T.ty u = .struct a (f :: fs)) (hf : fit T d (.inl u) = true) : ∃ x y, d = .acons x y ∧ fit T x (.inl f) = true ∧ fit T y (.inr fs) = true := by
  cases d <;> simp [fit, hu] at hf
  exact ⟨_, _, rfl, hf.1, hf.2⟩
theorem fit_more {f : TypeId} {fs : List TypeId} (hf : fit T d (.inr (f :: fs)) = true) : ∃ a b, d = .acons a b ∧ fit T a (.inl f) = true ∧ fit T b (.inr fs) = true := by
  cases d <;> simp [fit] at hf
  exact ⟨_, _, rfl, hf.1, hf.2⟩
theorem fit_end (hf : fit T d (.inr []) = true) : d = .anil := by
  cases d <;> simp [fit] at hf
  rfl
theorem three {α : Type} {l : List α} (h : l.length = 3) : ∃ a b c, l = [a, b, c] := by
  match l, h with
  | [a, b, c], _ => exact ⟨a, b, c, rfl⟩
end
end Go.Ev

/-
  Values of arguments: what a value of a type is. (Printed by gencod.py.)
-/
namespace Go.Ev
open Go.Proofs Go.ChangeShapes Go.WideShapes Go.ChangeAt Go.RowKit
set_option linter.unusedVariables false
set_option linter.unusedSimpArgs false
set_option maxRecDepth 100000

def goodWrite (x : Write) : Prop := i64 (x.key) ∧ i64 (x.value)
def goodItem (x : Item) : Prop := i64 (x.key) ∧ i64 (x.place) ∧ i64 (x.value)
def goodLine (x : Line) : Prop := i64 (x.offset) ∧ i64 (x.place) ∧ i64 (x.j) ∧ i64 (x.key) ∧ i64 (x.value)
def goodRec (x : Rec) : Prop := i64 (x.place) ∧ True ∧ ((x.writes).length ≤ maxLen ∧ ∀ y ∈ (x.writes), goodWrite (y))
def rGood : (t : RTy) → RA t → Prop
  | .int => fun (x : Int) => i64 (x)
  | .item => fun (x : Item) => goodItem (x)
  | .line => fun (x : Line) => goodLine (x)
  | .u8 => fun (x : UInt8) => True
  | .write => fun (x : Write) => goodWrite (x)
theorem ty41 : s05.ty 41 = .struct false [3, 3] := by kernel_rfl
theorem ty3 : s05.ty 3 = .int .i64 := by kernel_rfl
theorem asWrite {d : D RC} (hf : fit s05 d (.inl 41) = true) (hg : good rGood d) (hr : d.refs = []) : ∃ x : Write, d = eWrite x ∧ goodWrite x := by
  obtain ⟨d0, r0, rfl, f0, hf⟩ := fit_st ty41 hf
  obtain ⟨d1, r1, rfl, f1, hf⟩ := fit_more hf
  obtain rfl := fit_end hf
  simp only [D.refs, List.append_eq_nil_iff] at hr
  obtain ⟨g0, g1, _⟩ := hg
  obtain ⟨q0, q1, _⟩ := hr
  obtain ⟨n0, rfl⟩ := fit_int ty3 f0
  obtain ⟨n1, rfl⟩ := fit_int ty3 f1
  exact ⟨⟨n0, n1⟩, rfl, i64_of g0, i64_of g1⟩
theorem dWrite_e (x : Write) (hx : goodWrite x) : dWrite (eWrite x) = some x := by
  simp only [goodWrite] at hx
  simp [dWrite, eWrite, D.asList, asArrN, hx]
theorem ty36 : s05.ty 36 = .struct false [3, 3, 3] := by kernel_rfl
theorem asItem {d : D RC} (hf : fit s05 d (.inl 36) = true) (hg : good rGood d) (hr : d.refs = []) : ∃ x : Item, d = eItem x ∧ goodItem x := by
  obtain ⟨d0, r0, rfl, f0, hf⟩ := fit_st ty36 hf
  obtain ⟨d1, r1, rfl, f1, hf⟩ := fit_more hf
  obtain ⟨d2, r2, rfl, f2, hf⟩ := fit_more hf
  obtain rfl := fit_end hf
  simp only [D.refs, List.append_eq_nil_iff] at hr
  obtain ⟨g0, g1, g2, _⟩ := hg
  obtain ⟨q0, q1, q2, _⟩ := hr
  obtain ⟨n0, rfl⟩ := fit_int ty3 f0
  obtain ⟨n1, rfl⟩ := fit_int ty3 f1
  obtain ⟨n2, rfl⟩ := fit_int ty3 f2
  exact ⟨⟨n0, n1, n2⟩, rfl, i64_of g0, i64_of g1, i64_of g2⟩
theorem dItem_e (x : Item) (hx : goodItem x) : dItem (eItem x) = some x := by
  simp only [goodItem] at hx
  simp [dItem, eItem, D.asList, asArrN, hx]
theorem ty38 : s05.ty 38 = .struct false [3, 3, 3, 3, 3] := by kernel_rfl
theorem asLine {d : D RC} (hf : fit s05 d (.inl 38) = true) (hg : good rGood d) (hr : d.refs = []) : ∃ x : Line, d = eLine x ∧ goodLine x := by
  obtain ⟨d0, r0, rfl, f0, hf⟩ := fit_st ty38 hf
  obtain ⟨d1, r1, rfl, f1, hf⟩ := fit_more hf
  obtain ⟨d2, r2, rfl, f2, hf⟩ := fit_more hf
  obtain ⟨d3, r3, rfl, f3, hf⟩ := fit_more hf
  obtain ⟨d4, r4, rfl, f4, hf⟩ := fit_more hf
  obtain rfl := fit_end hf
  simp only [D.refs, List.append_eq_nil_iff] at hr
  obtain ⟨g0, g1, g2, g3, g4, _⟩ := hg
  obtain ⟨q0, q1, q2, q3, q4, _⟩ := hr
  obtain ⟨n0, rfl⟩ := fit_int ty3 f0
  obtain ⟨n1, rfl⟩ := fit_int ty3 f1
  obtain ⟨n2, rfl⟩ := fit_int ty3 f2
  obtain ⟨n3, rfl⟩ := fit_int ty3 f3
  obtain ⟨n4, rfl⟩ := fit_int ty3 f4
  exact ⟨⟨n0, n1, n2, n3, n4⟩, rfl, i64_of g0, i64_of g1, i64_of g2, i64_of g3, i64_of g4⟩
theorem dLine_e (x : Line) (hx : goodLine x) : dLine (eLine x) = some x := by
  simp only [goodLine] at hx
  simp [dLine, eLine, D.asList, asArrN, hx]
theorem ty27 : s05.ty 27 = .struct false [3, 4, 22] := by kernel_rfl
theorem ty4 : s05.ty 4 = .bool := by kernel_rfl
theorem ty22 : s05.ty 22 = .sl 41 .write := by kernel_rfl
theorem asRec {d : D RC} (hf : fit s05 d (.inl 27) = true) (hg : good rGood d) (hr : d.refs = []) : ∃ (x : Rec) (c0 : Bool), d = eRecC x c0 ∧ goodRec x := by
  obtain ⟨d0, r0, rfl, f0, hf⟩ := fit_st ty27 hf
  obtain ⟨d1, r1, rfl, f1, hf⟩ := fit_more hf
  obtain ⟨d2, r2, rfl, f2, hf⟩ := fit_more hf
  obtain rfl := fit_end hf
  simp only [D.refs, List.append_eq_nil_iff] at hr
  obtain ⟨g0, g1, g2, _⟩ := hg
  obtain ⟨q0, q1, q2, _⟩ := hr
  obtain ⟨n0, rfl⟩ := fit_int ty3 f0
  obtain ⟨n1, rfl⟩ := fit_bool ty4 f1
  obtain ⟨k2, n2, rfl⟩ := fit_sl ty22 f2 q2
  exact ⟨⟨n0, n1, n2⟩, k2, rfl, i64_of g0, trivial, g2⟩
theorem dRec_e (x : Rec) (c0 : Bool) (hx : goodRec x) : dRec (eRecC x c0) = some x := by
  simp only [goodRec] at hx
  simp [dRec, eRecC, D.asList, asArrN, hx]
theorem ty33 : s05.ty 33 = .struct false [3, 28, 30, 31] := by kernel_rfl
theorem ty28 : s05.ty 28 = .sl 36 .item := by kernel_rfl
theorem ty30 : s05.ty 30 = .struct true [29, 29, 29] := by kernel_rfl
theorem ty31 : s05.ty 31 = .arr 3 3 .int := by kernel_rfl
theorem ty29 : s05.ty 29 = .sl 38 .line := by kernel_rfl
def stC (s : St) (ci k0 k1 k2 : Bool) : D RC := .acons (.int .i64 s.place) (.acons (.sl (C := RC) .item ci s.items) (.acons (.acons (.sl (C := RC) .line k0 s.l0) (.acons (.sl (C := RC) .line k1 s.l1) (.acons (.sl (C := RC) .line k2 s.l2) .anil))) (.acons (.arr (C := RC) .int 3 [s.c0, s.c1, s.c2]) .anil)))
def goodSt (s : St) : Prop := i64 s.place ∧ (s.items.length ≤ maxLen ∧ ∀ x ∈ s.items, goodItem x) ∧ (s.l0.length ≤ maxLen ∧ ∀ x ∈ s.l0, goodLine x) ∧ (s.l1.length ≤ maxLen ∧ ∀ x ∈ s.l1, goodLine x) ∧ (s.l2.length ≤ maxLen ∧ ∀ x ∈ s.l2, goodLine x) ∧ i64 s.c0 ∧ i64 s.c1 ∧ i64 s.c2
theorem asState {d : D RC} (hf : fit s05 d (.inl 33) = true) (hg : good rGood d) (hr : d.refs = []) : ∃ (x : St) (ci k0 k1 k2 : Bool), d = stC x ci k0 k1 k2 ∧ goodSt x := by
  obtain ⟨d0, r0, rfl, f0, hf⟩ := fit_st ty33 hf
  obtain ⟨d1, r1, rfl, f1, hf⟩ := fit_more hf
  obtain ⟨d2, r2, rfl, f2, hf⟩ := fit_more hf
  obtain ⟨d3, r3, rfl, f3, hf⟩ := fit_more hf
  obtain rfl := fit_end hf
  obtain ⟨e0, r0, rfl, h0, hf⟩ := fit_st ty30 f2
  obtain ⟨e1, r1, rfl, h1, hf⟩ := fit_more hf
  obtain ⟨e2, r2, rfl, h2, hf⟩ := fit_more hf
  obtain rfl := fit_end hf
  simp only [D.refs, List.append_eq_nil_iff] at hr
  obtain ⟨g0, g1, ⟨a0, a1, a2, _⟩, g3, _⟩ := hg
  obtain ⟨q0, q1, ⟨b0, b1, b2, _⟩, q3, _⟩ := hr
  obtain ⟨n, rfl⟩ := fit_int ty3 f0
  obtain ⟨ci, l, rfl⟩ := fit_sl ty28 f1 q1
  obtain ⟨k0, l0, rfl⟩ := fit_sl ty29 h0 b0
  obtain ⟨k1, l1, rfl⟩ := fit_sl ty29 h1 b1
  obtain ⟨k2, l2, rfl⟩ := fit_sl ty29 h2 b2
  obtain ⟨cs, rfl⟩ := fit_arr ty31 f3
  obtain ⟨g5, g6⟩ := g3
  obtain ⟨c0, c1, c2, rfl⟩ := three g5
  simp only [List.mem_cons, forall_eq_or_imp, List.not_mem_nil, false_implies, implies_true, and_true] at g6
  exact ⟨⟨n, l, l0, l1, l2, c0, c1, c2⟩, ci, k0, k1, k2, rfl, i64_of g0, g1, a0, a1, a2, g6.1, g6.2.1, g6.2.2⟩
theorem ty5 : s05.ty 5 = .int .u8 := by kernel_rfl
theorem decs : Dec s05 rGood where
  dec t d hf hr hg _ := by
    cases t with
    | int =>
      obtain ⟨n, rfl⟩ := fit_int ty3 hf
      exact ⟨n, by simp [s05, mkTab, rCod, rDec, dIntK], i64_of hg⟩
    | item =>
      obtain ⟨x, rfl, hx⟩ := asItem hf hg hr
      exact ⟨x, dItem_e x hx, hx⟩
    | line =>
      obtain ⟨x, rfl, hx⟩ := asLine hf hg hr
      exact ⟨x, dLine_e x hx, hx⟩
    | u8 =>
      obtain ⟨n, rfl⟩ := fit_int ty5 hf
      exact ⟨_, rfl, trivial⟩
    | write =>
      obtain ⟨x, rfl, hx⟩ := asWrite hf hg hr
      exact ⟨x, dWrite_e x hx, hx⟩
theorem own : ownKnob Try.prog.godebug = none := by kernel_rfl
theorem laidOut : laidOutB Try.prog = true := by kernel_rfl
end Go.Ev

/-
  RecordLong returns true for any bytes and any byte more, and they read behind the call as before. No condition beyond the given statement.
-/
namespace Go.Proofs.Ytnphmfcnnpoinaa
open Go.ChangeShapes Go.WideShapes Go.ChangeAt Go.RowKit Go.Ev
set_option linter.unusedVariables false
set_option maxRecDepth 100000

namespace recordLong
theorem ev (ds : List (D RC)) (h : Fits s05 rGood Try.f7.params.toList ds) : ∃ n, evF s05 uo_1 n 7 ds = some (.bool true) := by
  rw [Try.params7] at h
  cases h with
  | cons hf0 hg0 hr0 h =>
  cases h with
  | cons hf1 hg1 hr1 h =>
  cases h with
  | nil =>
    obtain ⟨c, b, rfl⟩ := fit_sl (show s05.ty 42 = .sl 5 .u8 by kernel_rfl) hf0 hr0
    obtain ⟨x, rfl⟩ := fit_int (show s05.ty 5 = .int .u8 by kernel_rfl) hf1
    have key := long_ok c b x (lenOK_of hg0.1)
    unfold long_e at key
    exact ⟨60, key⟩

theorem lifted (os : Os) (started : os.Started) (H : Type) (enc : TypeId × Value → H) :
    ReturnsInHanded {} Try.checked os 7 .any (Rows.recordLongSpec.pre6 enc Try.prog Try.f7 Rows.recordLongRow.domain false) (Rows.recordLongSpec.post enc Try.prog Try.f7 false true false false) := by
  refine returnsInHanded_of_change (C := Try.checked) own started (by kernel_rfl) Try.func7
    (ChangeSpec.witness6 (enc := enc) (C := Try.checked) false ⟨#[], #[.slice none 0 0, .int .u8 0], []⟩ 8 (by kernel_rfl) (by kernel_rfl) (by kernel_rfl) (by kernel_rfl)) ?_
  intro W base args ds gs before hval hW _ _
  refine contract_of (gA := rGood) (m := 8) s05_laws uo_1_laws decs laidOut (tb := 4) (by kernel_rfl) Try.underlying4 rfl (by kernel_rfl) ?_ ev H enc W base args ds gs before hval hW
  intro H ds h
  rw [Try.params7] at h
  match ds, h with
  | [d0, d1], _ => rfl

theorem over : Rows.recordLongRow.holds Try.pinned (OpenSpec.ofChange Rows.recordLongSpec) :=
  OpenClaim.holds_of_wide 7 Try.f7 rfl rfl rfl rfl rfl rfl rfl ⟨rfl, rfl, rfl, rfl, rfl⟩ rfl rfl rfl rfl rfl (by kernel_rfl) Try.func7 (by kernel_rfl)
    (of_decide_eq_true (by kernel_rfl)) (by unfold Func.isWrapper; first | (rw [if_pos (by decide +kernel)]; kernel_rfl) | (rw [if_neg (by decide +kernel)]; exact ⟨rfl, rfl⟩))
    (fun os started H enc _ => lifted os started H enc)
theorem proved : Rows.RecordLongSaid := over
end recordLong
#print axioms recordLong.proved
end Go.Proofs.Ytnphmfcnnpoinaa
