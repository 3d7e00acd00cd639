/-
  CkptWide returns true for any disk, number, state, sector and bytes, and they read behind the call as before. (text 5 of 7)
-/
import Derived.Test.YtlcabbnadilalaaP3
namespace Go.Ev
open Go.Proofs
set_option maxRecDepth 100000
set_option linter.unusedVariables false
set_option linter.unusedSimpArgs false
structure rsItems_St where
  c : Bool
  b : List UInt8
  bad : Bool
  pl : Int
  its : List Item
  c0 : Int
  c1 : Int
  c2 : Int
  n : Int
  i : Nat
def rsItems_c (c : Bool) (b : List UInt8) (bad : Bool) (pl : Int) (its : List Item) (c0 : Int) (c1 : Int) (c2 : Int) (n : Int) (i : Nat) : Env RC := [(4, .ptr 0 []), (5, .ptr 1 []), (20, .int .i64 n), (21, .int .i64 (i : Int))]
def rsItems_o (c : Bool) (b : List UInt8) (bad : Bool) (pl : Int) (its : List Item) (c0 : Int) (c1 : Int) (c2 : Int) (n : Int) (i : Nat) : List (Obj RC) := [.var 85 (.acons (.sl (C := RC) .u8 c b) (.acons (.bool bad) .anil)), .var 30 (.acons (.int .i64 pl) (.acons (.vs 2 (its.length)) (.acons (.acons (.sl (C := RC) .line true []) (.acons (.sl (C := RC) .line true []) (.acons (.sl (C := RC) .line true []) .anil))) (.acons (.arr (C := RC) .int 3 [c0, c1, c2]) .anil)))), .vec (C := RC) .item true its]
noncomputable def rsItems_r (c : Bool) (b : List UInt8) (bad : Bool) (pl : Int) (its : List Item) (c0 : Int) (c1 : Int) (c2 : Int) (n : Int) (i : Nat) := rndO s07 uh_4 32 4 40 3 [4, 5, 20, 21] [] [.slot 4 0, .slot 5 0, .path 1 [1]] (rsItems_c c b bad pl its c0 c1 c2 n i) (rsItems_o c b bad pl its c0 c1 c2 n i)
theorem rsItems_eq (c : Bool) (b : List UInt8) (bad : Bool) (pl : Int) (its : List Item) (c0 : Int) (c1 : Int) (c2 : Int) (n : Int) (i : Nat) : rsItems_r c b bad pl its c0 c1 c2 n i = (bif decide ((↑i : Int) < n) then bif decide (List.length b ≤ (1000000000000 : Nat)) then bif Prod.snd (getP b (0 : Int) (1 : Int)) != (0 : Int) then bif Nat.beq its.length its.length && sizeOK (List.length its + (1 : Nat)) (24 : Nat) then some ((X.normal, [((4 : Nat), D.ptr (0 : Nat) []), ((5 : Nat), D.ptr (1 : Nat) []), ((20 : Nat), D.int .i64 n), ((21 : Nat), D.int .i64 (IntKind.wrap .i64 ((↑i : Int) + (1 : Int))))]), [some (Obj.var (85 : Nat) (.acons (D.sl RTy.u8 true []) (.acons (D.bool true) .anil))), some (Obj.var (30 : Nat) (.acons (D.int .i64 pl) (.acons (D.vs (2 : Nat) (List.length its + (1 : Nat))) (.acons (D.acons (D.sl RTy.line true []) (.acons (D.sl RTy.line true []) (.acons (D.sl RTy.line true []) .anil))) (.acons (D.arr RTy.int (3 : Nat) [c0, c1, c2]) .anil))))), some (Obj.vec RTy.item true (its ++ [Item.mk (0 : Int) (0 : Int) (0 : Int)]))]) else none else bif decide ((0 : Int) ≤ (1 : Int) ∧ (1 : Int) ≤ (↑b.length : Int)) then bif decide (List.length (List.drop (1 : Nat) b) ≤ (1000000000000 : Nat)) then bif Prod.snd (getP (List.drop (1 : Nat) b) (0 : Int) (3 : Int)) != (0 : Int) then bif Nat.beq its.length its.length && sizeOK (List.length its + List.length [Item.mk (getP b (0 : Int) (1 : Int)).1 (0 : Int) (0 : Int)]) (24 : Nat) then some ((X.normal, [((4 : Nat), D.ptr (0 : Nat) []), ((5 : Nat), D.ptr (1 : Nat) []), ((20 : Nat), D.int .i64 n), ((21 : Nat), D.int .i64 (IntKind.wrap .i64 ((↑i : Int) + (1 : Int))))]), [some (Obj.var (85 : Nat) (.acons (D.sl RTy.u8 true []) (.acons (D.bool true) .anil))), some (Obj.var (30 : Nat) (.acons (D.int .i64 pl) (.acons (D.vs (2 : Nat) (List.length its + List.length [Item.mk (getP b (0 : Int) (1 : Int)).1 (0 : Int) (0 : Int)])) (.acons (D.acons (D.sl RTy.line true []) (.acons (D.sl RTy.line true []) (.acons (D.sl RTy.line true []) .anil))) (.acons (D.arr RTy.int (3 : Nat) [c0, c1, c2]) .anil))))), some (Obj.vec RTy.item true (its ++ [Item.mk (getP b (0 : Int) (1 : Int)).1 (0 : Int) (0 : Int)]))]) else none else bif decide ((0 : Int) ≤ (3 : Int) ∧ (3 : Int) ≤ (↑(List.drop (1 : Nat) b).length : Int)) then bif decide (List.length (List.drop (3 : Nat) (List.drop (1 : Nat) b)) ≤ (1000000000000 : Nat)) then bif Prod.snd (getP (List.drop (3 : Nat) (List.drop (1 : Nat) b)) (0 : Int) (1 : Int)) != (0 : Int) then bif Nat.beq its.length its.length && sizeOK (List.length its + List.length [Item.mk (getP b (0 : Int) (1 : Int)).1 (getP (List.drop (1 : Nat) b) (0 : Int) (3 : Int)).1 (0 : Int)]) (24 : Nat) then some ((X.normal, [((4 : Nat), D.ptr (0 : Nat) []), ((5 : Nat), D.ptr (1 : Nat) []), ((20 : Nat), D.int .i64 n), ((21 : Nat), D.int .i64 (IntKind.wrap .i64 ((↑i : Int) + (1 : Int))))]), [some (Obj.var (85 : Nat) (.acons (D.sl RTy.u8 true []) (.acons (D.bool true) .anil))), some (Obj.var (30 : Nat) (.acons (D.int .i64 pl) (.acons (D.vs (2 : Nat) (List.length its + List.length [Item.mk (getP b (0 : Int) (1 : Int)).1 (getP (List.drop (1 : Nat) b) (0 : Int) (3 : Int)).1 (0 : Int)])) (.acons (D.acons (D.sl RTy.line true []) (.acons (D.sl RTy.line true []) (.acons (D.sl RTy.line true []) .anil))) (.acons (D.arr RTy.int (3 : Nat) [c0, c1, c2]) .anil))))), some (Obj.vec RTy.item true (its ++ [Item.mk (getP b (0 : Int) (1 : Int)).1 (getP (List.drop (1 : Nat) b) (0 : Int) (3 : Int)).1 (0 : Int)]))]) else none else bif decide ((0 : Int) ≤ (1 : Int) ∧ (1 : Int) ≤ (↑(List.drop (3 : Nat) (List.drop (1 : Nat) b)).length : Int)) then bif Nat.beq its.length its.length && sizeOK (List.length its + List.length [Item.mk (getP b (0 : Int) (1 : Int)).1 (getP (List.drop (1 : Nat) b) (0 : Int) (3 : Int)).1 (getP (List.drop (3 : Nat) (List.drop (1 : Nat) b)) (0 : Int) (1 : Int)).1]) (24 : Nat) then some ((X.normal, [((4 : Nat), D.ptr (0 : Nat) []), ((5 : Nat), D.ptr (1 : Nat) []), ((20 : Nat), D.int .i64 n), ((21 : Nat), D.int .i64 (IntKind.wrap .i64 ((↑i : Int) + (1 : Int))))]), [some (Obj.var (85 : Nat) (.acons (D.sl RTy.u8 c (List.drop (1 : Nat) (List.drop (3 : Nat) (List.drop (1 : Nat) b)))) (.acons (D.bool bad) .anil))), some (Obj.var (30 : Nat) (.acons (D.int .i64 pl) (.acons (D.vs (2 : Nat) (List.length its + List.length [Item.mk (getP b (0 : Int) (1 : Int)).1 (getP (List.drop (1 : Nat) b) (0 : Int) (3 : Int)).1 (getP (List.drop (3 : Nat) (List.drop (1 : Nat) b)) (0 : Int) (1 : Int)).1])) (.acons (D.acons (D.sl RTy.line true []) (.acons (D.sl RTy.line true []) (.acons (D.sl RTy.line true []) .anil))) (.acons (D.arr RTy.int (3 : Nat) [c0, c1, c2]) .anil))))), some (Obj.vec RTy.item true (its ++ [Item.mk (getP b (0 : Int) (1 : Int)).1 (getP (List.drop (1 : Nat) b) (0 : Int) (3 : Int)).1 (getP (List.drop (3 : Nat) (List.drop (1 : Nat) b)) (0 : Int) (1 : Int)).1]))]) else none else none else none else none else none else none else none else some ((X.exit (0 : Nat), []), [some (Obj.var (85 : Nat) (.acons (D.sl RTy.u8 c b) (.acons (D.bool bad) .anil))), some (Obj.var (30 : Nat) (.acons (D.int .i64 pl) (.acons (D.vs (2 : Nat) its.length) (.acons (D.acons (D.sl RTy.line true []) (.acons (D.sl RTy.line true []) (.acons (D.sl RTy.line true []) .anil))) (.acons (D.arr RTy.int (3 : Nat) [c0, c1, c2]) .anil))))), some (Obj.vec RTy.item true its)])) := by kernel_rfl
def rsItems_fin (c : Bool) (b : List UInt8) (bad : Bool) (pl : Int) (its : List Item) (c0 : Int) (c1 : Int) (c2 : Int) (n : Int) (i : Nat) : RT RC := .leaf (.exit 0) [] [.var 85 (.acons (.sl (C := RC) .u8 (gItems rdP false (n.toNat - i) ⟨c, b, bad⟩).1.c (gItems rdP false (n.toNat - i) ⟨c, b, bad⟩).1.b) (.acons (.bool (gItems rdP false (n.toNat - i) ⟨c, b, bad⟩).1.bad) .anil)), .var 30 (.acons (.int .i64 pl) (.acons (.vs 2 (its ++ (gItems rdP false (n.toNat - i) ⟨c, b, bad⟩).2).length) (.acons (.acons (.sl (C := RC) .line true []) (.acons (.sl (C := RC) .line true []) (.acons (.sl (C := RC) .line true []) .anil))) (.acons (.arr (C := RC) .int 3 [c0, c1, c2]) .anil)))), .vec (C := RC) .item true (its ++ (gItems rdP false (n.toNat - i) ⟨c, b, bad⟩).2)]
def rsItems_Inv (c : Bool) (b : List UInt8) (bad : Bool) (pl : Int) (its : List Item) (c0 : Int) (c1 : Int) (c2 : Int) (n : Int) (i : Nat) : Prop := (i : Int) ≤ n ∧ n ≤ 255 ∧ b.length ≤ 1000000 ∧ its.length ≤ i
def rsItems_S : LoopR RC rsItems_St where
  k := 3
  canon q := rsItems_c q.c q.b q.bad q.pl q.its q.c0 q.c1 q.c2 q.n q.i
  objs q := rsItems_o q.c q.b q.bad q.pl q.its q.c0 q.c1 q.c2 q.n q.i
  fin q := rsItems_fin q.c q.b q.bad q.pl q.its q.c0 q.c1 q.c2 q.n q.i
  Inv q := rsItems_Inv q.c q.b q.bad q.pl q.its q.c0 q.c1 q.c2 q.n q.i
  μ q := q.n.toNat - q.i
theorem rsItems_round (c : Bool) (b : List UInt8) (bad : Bool) (pl : Int) (its : List Item) (c0 : Int) (c1 : Int) (c2 : Int) (n : Int) (i : Nat) (hI : rsItems_Inv c b bad pl its c0 c1 c2 n i) : Leaf (rsItems_r c b bad pl its c0 c1 c2 n i) (LedR rsItems_S ⟨c, b, bad, pl, its, c0, c1, c2, n, i⟩) := by
  rw [rsItems_eq]
  unfold rsItems_Inv at hI
  obtain ⟨h1, h2, h3, h4⟩ := hI
  have eb : ∀ n : Nat, n.beq n = true := fun n => by simp
  have z1 : rget 1 ⟨true, [], true⟩ = (0, ⟨true, [], true⟩) := rfl
  have z3 : rget 3 ⟨true, [], true⟩ = (0, ⟨true, [], true⟩) := rfl
  by_cases hlt : (i : Int) < n
  · have w_succ : IntKind.i64.wrap ((i : Int) + 1) = ((i + 1 : Nat) : Int) := by rw [wrap_id (by omega) (by omega)]; simp
    have hn : n.toNat - i = (n.toNat - (i + 1)) + 1 := by omega
    have s1 : sizeOK (its.length + 1) 24 = true := sizeT (by omega)
    have e0 : decide (b.length ≤ 1000000000000) = true := decide_eq_true (by omega)
    have t1 : Int.toNat 1 = 1 := rfl
    have t3 : Int.toNat 3 = 3 := rfl
    simp only [hlt, decide_true, cond_true, e0, getP_snd1, getP_snd3, w_succ, List.length_cons, List.length_nil, Nat.zero_add, s1, eb, Bool.and_self, t1, t3]
    by_cases q0 : (b).length < 1
    · have r0 : rget 1 ⟨c, b, bad⟩ = _ := rget_no q0
      simp only [q0, decide_true, cond_true]
      refine leafR_go ⟨true, [], true, pl, its ++ [⟨0, 0, 0⟩], c0, c1, c2, n, i + 1⟩ (by refine ⟨hlt, h2, ?_, ?_⟩ <;> simp <;> omega) (by simp only [rsItems_S]; omega) ?_ (by simp [rsItems_S, rsItems_c]) (by simp [rsItems_S, rsItems_o])
      simp only [rsItems_S, rsItems_fin, hn, gItemsP_succ, r0, z1, z3, List.append_assoc, List.cons_append, List.nil_append]
    have r0 : rget 1 ⟨c, b, bad⟩ = _ := rget_ok (show 1 ≤ (b).length by omega)
    have d0 : decide ((0 : Int) ≤ 1 ∧ (1 : Int) ≤ (b).length) = true := by simp only [decide_eq_true_eq]; omega
    have e0 : decide (((b).drop 1).length ≤ 1000000000000) = true := decide_eq_true (by simp; omega)
    simp only [q0, decide_false, cond_false, d0, cond_true, e0, getP_fst1 q0]
    by_cases q1 : ((b).drop 1).length < 3
    · have r1 : rget 3 ⟨c, (b).drop 1, bad⟩ = _ := rget_no q1
      simp only [q1, decide_true, cond_true]
      refine leafR_go ⟨true, [], true, pl, its ++ [⟨(leVal ((b).take 1) : Int), 0, 0⟩], c0, c1, c2, n, i + 1⟩ (by refine ⟨hlt, h2, ?_, ?_⟩ <;> simp <;> omega) (by simp only [rsItems_S]; omega) ?_ (by simp [rsItems_S, rsItems_c]) (by simp [rsItems_S, rsItems_o])
      simp only [rsItems_S, rsItems_fin, hn, gItemsP_succ, r0, r1, z1, z3, List.append_assoc, List.cons_append, List.nil_append]
    have r1 : rget 3 ⟨c, (b).drop 1, bad⟩ = _ := rget_ok (show 3 ≤ ((b).drop 1).length by omega)
    have d1 : decide ((0 : Int) ≤ 3 ∧ (3 : Int) ≤ ((b).drop 1).length) = true := by simp only [decide_eq_true_eq]; omega
    have e1 : decide ((((b).drop 1).drop 3).length ≤ 1000000000000) = true := decide_eq_true (by simp; omega)
    simp only [q1, decide_false, cond_false, d1, cond_true, e1, getP_fst3 q1]
    by_cases q2 : (((b).drop 1).drop 3).length < 1
    · have r2 : rget 1 ⟨c, ((b).drop 1).drop 3, bad⟩ = _ := rget_no q2
      simp only [q2, decide_true, cond_true]
      refine leafR_go ⟨true, [], true, pl, its ++ [⟨(leVal ((b).take 1) : Int), (leVal (((b).drop 1).take 3) : Int), 0⟩], c0, c1, c2, n, i + 1⟩ (by refine ⟨hlt, h2, ?_, ?_⟩ <;> simp <;> omega) (by simp only [rsItems_S]; omega) ?_ (by simp [rsItems_S, rsItems_c]) (by simp [rsItems_S, rsItems_o])
      simp only [rsItems_S, rsItems_fin, hn, gItemsP_succ, r0, r1, r2, z1, z3, List.append_assoc, List.cons_append, List.nil_append]
    have r2 : rget 1 ⟨c, ((b).drop 1).drop 3, bad⟩ = _ := rget_ok (show 1 ≤ (((b).drop 1).drop 3).length by omega)
    have d2 : decide ((0 : Int) ≤ 1 ∧ (1 : Int) ≤ (((b).drop 1).drop 3).length) = true := by simp only [decide_eq_true_eq]; omega
    have e2 : decide (((((b).drop 1).drop 3).drop 1).length ≤ 1000000000000) = true := decide_eq_true (by simp; omega)
    simp only [q2, decide_false, cond_false, d2, cond_true, e2, getP_fst1 q2]
    refine leafR_go ⟨c, (((b).drop 1).drop 3).drop 1, bad, pl, its ++ [⟨(leVal ((b).take 1) : Int), (leVal (((b).drop 1).take 3) : Int), (leVal ((((b).drop 1).drop 3).take 1) : Int)⟩], c0, c1, c2, n, i + 1⟩ (by refine ⟨hlt, h2, ?_, ?_⟩ <;> simp <;> omega) (by simp only [rsItems_S]; omega) ?_ (by simp [rsItems_S, rsItems_c]) (by simp [rsItems_S, rsItems_o])
    simp only [rsItems_S, rsItems_fin, hn, gItemsP_succ, r0, r1, r2, List.append_assoc, List.cons_append, List.nil_append]
  · have hi : n.toNat - i = 0 := by omega
    simp only [hlt, decide_false, cond_false]
    exact leafR_exit (rsItems_o c b bad pl its c0 c1 c2 n i) (by simp only [rsItems_S, rsItems_fin, rsItems_o, hi, gItems, RT.val, List.append_nil]) rfl
def rsItems_d (env : Env RC) (os : List (Obj RC)) : Option (Bool × rsItems_St) := match env, os with
  | [(4, .ptr 0 []), (5, .ptr 1 []), (20, .int .i64 n), (21, .int .i64 x0)], [.var 85 (.acons (.sl .u8 c b) (.acons (.bool bad) .anil)), .var 30 (.acons (.int .i64 pl) (.acons (.vs 2 x1) (.acons (.acons (.sl .line true []) (.acons (.sl .line true []) (.acons (.sl .line true []) .anil))) (.acons (.arr .int 3 [c0, c1, c2]) .anil)))), .vec .item true its] => staticD (true) (decide (x0 = 0) && decide (x1 = its.length) && decide (0 ≤ n ∧ n ≤ 255 ∧ b.length ≤ 1000000 ∧ its.length = 0), ⟨c, b, bad, pl, its, c0, c1, c2, n, 0⟩)
  | _, _ => none
noncomputable def um_1 := uh_4.addLoop 32 4 (sumR s07 [.slot 4 0, .slot 5 0, .path 1 [1]] [4, 5, 20, 21] rsItems_S rsItems_d)
theorem um_1_laws : FLaws Try.prog s07 um_1 := by
  refine uh_4_laws.addRoundsR s07_laws (by kernel_rfl) rsItems_S 40 [4, 5, 20, 21] [] [.slot 4 0, .slot 5 0, .path 1 [1]] [4, 5, 20, 21] rsItems_d (fun q hI => ?_) ?_
  · obtain ⟨c, b, bad, pl, its, c0, c1, c2, n, i⟩ := q
    refine ⟨?_, ?_, rsItems_round c b bad pl its c0 c1 c2 n i hI⟩
    · simp_all [RefsOK, rsItems_S, rsItems_c, rsItems_o, rsItems_Inv, D.refs, Obj.refs, rEnc]
    · simp_all [rsItems_S, rsItems_fin, rsItems_o, rsItems_Inv, RT.refsOK, RefsOK, D.refs, Obj.refs, rEnc]
  · intro env os b q hd_ hb
    unfold rsItems_d at hd_
    split at hd_
    · obtain ⟨hs, hd_⟩ := staticD_some hd_
      cases hd_
      simp only [Bool.and_eq_true, decide_eq_true_eq] at hb
      obtain ⟨⟨rfl, rfl⟩, h⟩ := hb
      exact ⟨⟨by simpa using h.1, h.2.1, h.2.2.1, by simp [h.2.2.2]⟩, rfl, rfl⟩
    · cases hd_
structure rsLines_St where
  c : Bool
  b : List UInt8
  bad : Bool
  pl : Int
  its : List Item
  l0 : List Line
  l1 : List Line
  l2 : List Line
  c0 : Int
  c1 : Int
  c2 : Int
  q : Int
  first : Int
  n : Int
  i : Nat
def rsLines_c (c : Bool) (b : List UInt8) (bad : Bool) (pl : Int) (its : List Item) (l0 : List Line) (l1 : List Line) (l2 : List Line) (c0 : Int) (c1 : Int) (c2 : Int) (q : Int) (first : Int) (n : Int) (i : Nat) : Env RC := [(4, .ptr 0 []), (5, .ptr 1 []), (7, .int .i64 q), (9, .int .i64 first), (66, .int .i64 n), (67, .int .i64 (i : Int))]
def rsLines_o (c : Bool) (b : List UInt8) (bad : Bool) (pl : Int) (its : List Item) (l0 : List Line) (l1 : List Line) (l2 : List Line) (c0 : Int) (c1 : Int) (c2 : Int) (q : Int) (first : Int) (n : Int) (i : Nat) : List (Obj RC) := [.var 85 (.acons (.sl (C := RC) .u8 c b) (.acons (.bool bad) .anil)), .var 30 (.acons (.int .i64 pl) (.acons (.vs 2 (its.length)) (.acons (.acons (.vs 3 (l0.length)) (.acons (.vs 4 (l1.length)) (.acons (.vs 5 (l2.length)) .anil))) (.acons (.arr (C := RC) .int 3 [c0, c1, c2]) .anil)))), .vec (C := RC) .item true its, .vec (C := RC) .line true l0, .vec (C := RC) .line true l1, .vec (C := RC) .line true l2]
noncomputable def rsLines_r (c : Bool) (b : List UInt8) (bad : Bool) (pl : Int) (its : List Item) (l0 : List Line) (l1 : List Line) (l2 : List Line) (c0 : Int) (c1 : Int) (c2 : Int) (q : Int) (first : Int) (n : Int) (i : Nat) := rndO s07 um_1 32 18 60 6 [4, 5, 7, 9, 66, 67] [] [.slot 4 0, .slot 5 0, .path 1 [1], .path 1 [2, 0], .path 1 [2, 1], .path 1 [2, 2]] (rsLines_c c b bad pl its l0 l1 l2 c0 c1 c2 q first n i) (rsLines_o c b bad pl its l0 l1 l2 c0 c1 c2 q first n i)
theorem rsLines_eq0 (c : Bool) (b : List UInt8) (bad : Bool) (pl : Int) (its : List Item) (l0 l1 l2 : List Line) (c0 c1 c2 : Int) (first n : Int) (i : Nat) : rsLines_r c b bad pl its l0 l1 l2 c0 c1 c2 0 first n i = (bif decide ((↑i : Int) < n) then bif decide (List.length b ≤ (1000000000000 : Nat)) then bif Prod.snd (getP b (0 : Int) (3 : Int)) != (0 : Int) then bif Nat.beq l0.length l0.length && sizeOK (List.length l0 + List.length [Line.mk (IntKind.wrap .i64 (first + (↑i : Int))) (0 : Int) (0 : Int) (0 : Int) (0 : Int)]) (40 : Nat) then some ((X.normal, [((4 : Nat), D.ptr (0 : Nat) []), ((5 : Nat), D.ptr (1 : Nat) []), ((7 : Nat), D.int .i64 (0 : Int)), ((9 : Nat), D.int .i64 first), ((66 : Nat), D.int .i64 n), ((67 : Nat), D.int .i64 (IntKind.wrap .i64 ((↑i : Int) + (1 : Int))))]), [some (Obj.var (85 : Nat) (.acons (D.sl RTy.u8 true []) (.acons (D.bool true) .anil))), some (Obj.var (30 : Nat) (.acons (D.int .i64 pl) (.acons (D.vs (2 : Nat) its.length) (.acons (D.acons (D.vs (3 : Nat) (List.length l0 + List.length [Line.mk (IntKind.wrap .i64 (first + (↑i : Int))) (0 : Int) (0 : Int) (0 : Int) (0 : Int)])) (.acons (D.vs (4 : Nat) l1.length) (.acons (D.vs (5 : Nat) l2.length) .anil))) (.acons (D.arr RTy.int (3 : Nat) [c0, c1, c2]) .anil))))), some (Obj.vec RTy.item true its), some (Obj.vec RTy.line true (l0 ++ [Line.mk (IntKind.wrap .i64 (first + (↑i : Int))) (0 : Int) (0 : Int) (0 : Int) (0 : Int)])), some (Obj.vec RTy.line true l1), some (Obj.vec RTy.line true l2)]) else none else bif decide ((0 : Int) ≤ (3 : Int) ∧ (3 : Int) ≤ (↑b.length : Int)) then bif decide (List.length (List.drop (3 : Nat) b) ≤ (1000000000000 : Nat)) then bif Prod.snd (getP (List.drop (3 : Nat) b) (0 : Int) (1 : Int)) != (0 : Int) then bif Nat.beq l0.length l0.length && sizeOK (List.length l0 + List.length [Line.mk (IntKind.wrap .i64 (first + (↑i : Int))) (getP b (0 : Int) (3 : Int)).1 (0 : Int) (0 : Int) (0 : Int)]) (40 : Nat) then some ((X.normal, [((4 : Nat), D.ptr (0 : Nat) []), ((5 : Nat), D.ptr (1 : Nat) []), ((7 : Nat), D.int .i64 (0 : Int)), ((9 : Nat), D.int .i64 first), ((66 : Nat), D.int .i64 n), ((67 : Nat), D.int .i64 (IntKind.wrap .i64 ((↑i : Int) + (1 : Int))))]), [some (Obj.var (85 : Nat) (.acons (D.sl RTy.u8 true []) (.acons (D.bool true) .anil))), some (Obj.var (30 : Nat) (.acons (D.int .i64 pl) (.acons (D.vs (2 : Nat) its.length) (.acons (D.acons (D.vs (3 : Nat) (List.length l0 + List.length [Line.mk (IntKind.wrap .i64 (first + (↑i : Int))) (getP b (0 : Int) (3 : Int)).1 (0 : Int) (0 : Int) (0 : Int)])) (.acons (D.vs (4 : Nat) l1.length) (.acons (D.vs (5 : Nat) l2.length) .anil))) (.acons (D.arr RTy.int (3 : Nat) [c0, c1, c2]) .anil))))), some (Obj.vec RTy.item true its), some (Obj.vec RTy.line true (l0 ++ [Line.mk (IntKind.wrap .i64 (first + (↑i : Int))) (getP b (0 : Int) (3 : Int)).1 (0 : Int) (0 : Int) (0 : Int)])), some (Obj.vec RTy.line true l1), some (Obj.vec RTy.line true l2)]) else none else bif decide ((0 : Int) ≤ (1 : Int) ∧ (1 : Int) ≤ (↑(List.drop (3 : Nat) b).length : Int)) then bif decide (List.length (List.drop (1 : Nat) (List.drop (3 : Nat) b)) ≤ (1000000000000 : Nat)) then bif Prod.snd (getP (List.drop (1 : Nat) (List.drop (3 : Nat) b)) (0 : Int) (1 : Int)) != (0 : Int) then bif Nat.beq l0.length l0.length && sizeOK (List.length l0 + List.length [Line.mk (IntKind.wrap .i64 (first + (↑i : Int))) (getP b (0 : Int) (3 : Int)).1 (bits .i64 (fun (x : Nat) (u v : BitVec x) => u &&& v) (getP (List.drop (3 : Nat) b) (0 : Int) (1 : Int)).1 (15 : Int)) (Int.fdiv (getP (List.drop (3 : Nat) b) (0 : Int) (1 : Int)).1 (16 : Int)) (0 : Int)]) (40 : Nat) then some ((X.normal, [((4 : Nat), D.ptr (0 : Nat) []), ((5 : Nat), D.ptr (1 : Nat) []), ((7 : Nat), D.int .i64 (0 : Int)), ((9 : Nat), D.int .i64 first), ((66 : Nat), D.int .i64 n), ((67 : Nat), D.int .i64 (IntKind.wrap .i64 ((↑i : Int) + (1 : Int))))]), [some (Obj.var (85 : Nat) (.acons (D.sl RTy.u8 true []) (.acons (D.bool true) .anil))), some (Obj.var (30 : Nat) (.acons (D.int .i64 pl) (.acons (D.vs (2 : Nat) its.length) (.acons (D.acons (D.vs (3 : Nat) (List.length l0 + List.length [Line.mk (IntKind.wrap .i64 (first + (↑i : Int))) (getP b (0 : Int) (3 : Int)).1 (bits .i64 (fun (x : Nat) (u v : BitVec x) => u &&& v) (getP (List.drop (3 : Nat) b) (0 : Int) (1 : Int)).1 (15 : Int)) (Int.fdiv (getP (List.drop (3 : Nat) b) (0 : Int) (1 : Int)).1 (16 : Int)) (0 : Int)])) (.acons (D.vs (4 : Nat) l1.length) (.acons (D.vs (5 : Nat) l2.length) .anil))) (.acons (D.arr RTy.int (3 : Nat) [c0, c1, c2]) .anil))))), some (Obj.vec RTy.item true its), some (Obj.vec RTy.line true (l0 ++ [Line.mk (IntKind.wrap .i64 (first + (↑i : Int))) (getP b (0 : Int) (3 : Int)).1 (bits .i64 (fun (x : Nat) (u v : BitVec x) => u &&& v) (getP (List.drop (3 : Nat) b) (0 : Int) (1 : Int)).1 (15 : Int)) (Int.fdiv (getP (List.drop (3 : Nat) b) (0 : Int) (1 : Int)).1 (16 : Int)) (0 : Int)])), some (Obj.vec RTy.line true l1), some (Obj.vec RTy.line true l2)]) else none else bif decide ((0 : Int) ≤ (1 : Int) ∧ (1 : Int) ≤ (↑(List.drop (1 : Nat) (List.drop (3 : Nat) b)).length : Int)) then bif Nat.beq l0.length l0.length && sizeOK (List.length l0 + List.length [Line.mk (IntKind.wrap .i64 (first + (↑i : Int))) (getP b (0 : Int) (3 : Int)).1 (bits .i64 (fun (x : Nat) (u v : BitVec x) => u &&& v) (getP (List.drop (3 : Nat) b) (0 : Int) (1 : Int)).1 (15 : Int)) (Int.fdiv (getP (List.drop (3 : Nat) b) (0 : Int) (1 : Int)).1 (16 : Int)) (getP (List.drop (1 : Nat) (List.drop (3 : Nat) b)) (0 : Int) (1 : Int)).1]) (40 : Nat) then some ((X.normal, [((4 : Nat), D.ptr (0 : Nat) []), ((5 : Nat), D.ptr (1 : Nat) []), ((7 : Nat), D.int .i64 (0 : Int)), ((9 : Nat), D.int .i64 first), ((66 : Nat), D.int .i64 n), ((67 : Nat), D.int .i64 (IntKind.wrap .i64 ((↑i : Int) + (1 : Int))))]), [some (Obj.var (85 : Nat) (.acons (D.sl RTy.u8 c (List.drop (1 : Nat) (List.drop (1 : Nat) (List.drop (3 : Nat) b)))) (.acons (D.bool bad) .anil))), some (Obj.var (30 : Nat) (.acons (D.int .i64 pl) (.acons (D.vs (2 : Nat) its.length) (.acons (D.acons (D.vs (3 : Nat) (List.length l0 + List.length [Line.mk (IntKind.wrap .i64 (first + (↑i : Int))) (getP b (0 : Int) (3 : Int)).1 (bits .i64 (fun (x : Nat) (u v : BitVec x) => u &&& v) (getP (List.drop (3 : Nat) b) (0 : Int) (1 : Int)).1 (15 : Int)) (Int.fdiv (getP (List.drop (3 : Nat) b) (0 : Int) (1 : Int)).1 (16 : Int)) (getP (List.drop (1 : Nat) (List.drop (3 : Nat) b)) (0 : Int) (1 : Int)).1])) (.acons (D.vs (4 : Nat) l1.length) (.acons (D.vs (5 : Nat) l2.length) .anil))) (.acons (D.arr RTy.int (3 : Nat) [c0, c1, c2]) .anil))))), some (Obj.vec RTy.item true its), some (Obj.vec RTy.line true (l0 ++ [Line.mk (IntKind.wrap .i64 (first + (↑i : Int))) (getP b (0 : Int) (3 : Int)).1 (bits .i64 (fun (x : Nat) (u v : BitVec x) => u &&& v) (getP (List.drop (3 : Nat) b) (0 : Int) (1 : Int)).1 (15 : Int)) (Int.fdiv (getP (List.drop (3 : Nat) b) (0 : Int) (1 : Int)).1 (16 : Int)) (getP (List.drop (1 : Nat) (List.drop (3 : Nat) b)) (0 : Int) (1 : Int)).1])), some (Obj.vec RTy.line true l1), some (Obj.vec RTy.line true l2)]) else none else none else none else none else none else none else none else some ((X.exit (4 : Nat), []), [some (Obj.var (85 : Nat) (.acons (D.sl RTy.u8 c b) (.acons (D.bool bad) .anil))), some (Obj.var (30 : Nat) (.acons (D.int .i64 pl) (.acons (D.vs (2 : Nat) its.length) (.acons (D.acons (D.vs (3 : Nat) l0.length) (.acons (D.vs (4 : Nat) l1.length) (.acons (D.vs (5 : Nat) l2.length) .anil))) (.acons (D.arr RTy.int (3 : Nat) [c0, c1, c2]) .anil))))), some (Obj.vec RTy.item true its), some (Obj.vec RTy.line true l0), some (Obj.vec RTy.line true l1), some (Obj.vec RTy.line true l2)])) := by kernel_rfl
theorem rsLines_eq1 (c : Bool) (b : List UInt8) (bad : Bool) (pl : Int) (its : List Item) (l0 l1 l2 : List Line) (c0 c1 c2 : Int) (first n : Int) (i : Nat) : rsLines_r c b bad pl its l0 l1 l2 c0 c1 c2 1 first n i = (bif decide ((↑i : Int) < n) then bif decide (List.length b ≤ (1000000000000 : Nat)) then bif Prod.snd (getP b (0 : Int) (3 : Int)) != (0 : Int) then bif Nat.beq l1.length l1.length && sizeOK (List.length l1 + List.length [Line.mk (IntKind.wrap .i64 (first + (↑i : Int))) (0 : Int) (0 : Int) (0 : Int) (0 : Int)]) (40 : Nat) then some ((X.normal, [((4 : Nat), D.ptr (0 : Nat) []), ((5 : Nat), D.ptr (1 : Nat) []), ((7 : Nat), D.int .i64 (1 : Int)), ((9 : Nat), D.int .i64 first), ((66 : Nat), D.int .i64 n), ((67 : Nat), D.int .i64 (IntKind.wrap .i64 ((↑i : Int) + (1 : Int))))]), [some (Obj.var (85 : Nat) (.acons (D.sl RTy.u8 true []) (.acons (D.bool true) .anil))), some (Obj.var (30 : Nat) (.acons (D.int .i64 pl) (.acons (D.vs (2 : Nat) its.length) (.acons (D.acons (D.vs (3 : Nat) l0.length) (.acons (D.vs (4 : Nat) (List.length l1 + List.length [Line.mk (IntKind.wrap .i64 (first + (↑i : Int))) (0 : Int) (0 : Int) (0 : Int) (0 : Int)])) (.acons (D.vs (5 : Nat) l2.length) .anil))) (.acons (D.arr RTy.int (3 : Nat) [c0, c1, c2]) .anil))))), some (Obj.vec RTy.item true its), some (Obj.vec RTy.line true l0), some (Obj.vec RTy.line true (l1 ++ [Line.mk (IntKind.wrap .i64 (first + (↑i : Int))) (0 : Int) (0 : Int) (0 : Int) (0 : Int)])), some (Obj.vec RTy.line true l2)]) else none else bif decide ((0 : Int) ≤ (3 : Int) ∧ (3 : Int) ≤ (↑b.length : Int)) then bif decide (List.length (List.drop (3 : Nat) b) ≤ (1000000000000 : Nat)) then bif Prod.snd (getP (List.drop (3 : Nat) b) (0 : Int) (1 : Int)) != (0 : Int) then bif Nat.beq l1.length l1.length && sizeOK (List.length l1 + List.length [Line.mk (IntKind.wrap .i64 (first + (↑i : Int))) (getP b (0 : Int) (3 : Int)).1 (0 : Int) (0 : Int) (0 : Int)]) (40 : Nat) then some ((X.normal, [((4 : Nat), D.ptr (0 : Nat) []), ((5 : Nat), D.ptr (1 : Nat) []), ((7 : Nat), D.int .i64 (1 : Int)), ((9 : Nat), D.int .i64 first), ((66 : Nat), D.int .i64 n), ((67 : Nat), D.int .i64 (IntKind.wrap .i64 ((↑i : Int) + (1 : Int))))]), [some (Obj.var (85 : Nat) (.acons (D.sl RTy.u8 true []) (.acons (D.bool true) .anil))), some (Obj.var (30 : Nat) (.acons (D.int .i64 pl) (.acons (D.vs (2 : Nat) its.length) (.acons (D.acons (D.vs (3 : Nat) l0.length) (.acons (D.vs (4 : Nat) (List.length l1 + List.length [Line.mk (IntKind.wrap .i64 (first + (↑i : Int))) (getP b (0 : Int) (3 : Int)).1 (0 : Int) (0 : Int) (0 : Int)])) (.acons (D.vs (5 : Nat) l2.length) .anil))) (.acons (D.arr RTy.int (3 : Nat) [c0, c1, c2]) .anil))))), some (Obj.vec RTy.item true its), some (Obj.vec RTy.line true l0), some (Obj.vec RTy.line true (l1 ++ [Line.mk (IntKind.wrap .i64 (first + (↑i : Int))) (getP b (0 : Int) (3 : Int)).1 (0 : Int) (0 : Int) (0 : Int)])), some (Obj.vec RTy.line true l2)]) else none else bif decide ((0 : Int) ≤ (1 : Int) ∧ (1 : Int) ≤ (↑(List.drop (3 : Nat) b).length : Int)) then bif decide (List.length (List.drop (1 : Nat) (List.drop (3 : Nat) b)) ≤ (1000000000000 : Nat)) then bif Prod.snd (getP (List.drop (1 : Nat) (List.drop (3 : Nat) b)) (0 : Int) (1 : Int)) != (0 : Int) then bif Nat.beq l1.length l1.length && sizeOK (List.length l1 + List.length [Line.mk (IntKind.wrap .i64 (first + (↑i : Int))) (getP b (0 : Int) (3 : Int)).1 (bits .i64 (fun (x : Nat) (u v : BitVec x) => u &&& v) (getP (List.drop (3 : Nat) b) (0 : Int) (1 : Int)).1 (15 : Int)) (Int.fdiv (getP (List.drop (3 : Nat) b) (0 : Int) (1 : Int)).1 (16 : Int)) (0 : Int)]) (40 : Nat) then some ((X.normal, [((4 : Nat), D.ptr (0 : Nat) []), ((5 : Nat), D.ptr (1 : Nat) []), ((7 : Nat), D.int .i64 (1 : Int)), ((9 : Nat), D.int .i64 first), ((66 : Nat), D.int .i64 n), ((67 : Nat), D.int .i64 (IntKind.wrap .i64 ((↑i : Int) + (1 : Int))))]), [some (Obj.var (85 : Nat) (.acons (D.sl RTy.u8 true []) (.acons (D.bool true) .anil))), some (Obj.var (30 : Nat) (.acons (D.int .i64 pl) (.acons (D.vs (2 : Nat) its.length) (.acons (D.acons (D.vs (3 : Nat) l0.length) (.acons (D.vs (4 : Nat) (List.length l1 + List.length [Line.mk (IntKind.wrap .i64 (first + (↑i : Int))) (getP b (0 : Int) (3 : Int)).1 (bits .i64 (fun (x : Nat) (u v : BitVec x) => u &&& v) (getP (List.drop (3 : Nat) b) (0 : Int) (1 : Int)).1 (15 : Int)) (Int.fdiv (getP (List.drop (3 : Nat) b) (0 : Int) (1 : Int)).1 (16 : Int)) (0 : Int)])) (.acons (D.vs (5 : Nat) l2.length) .anil))) (.acons (D.arr RTy.int (3 : Nat) [c0, c1, c2]) .anil))))), some (Obj.vec RTy.item true its), some (Obj.vec RTy.line true l0), some (Obj.vec RTy.line true (l1 ++ [Line.mk (IntKind.wrap .i64 (first + (↑i : Int))) (getP b (0 : Int) (3 : Int)).1 (bits .i64 (fun (x : Nat) (u v : BitVec x) => u &&& v) (getP (List.drop (3 : Nat) b) (0 : Int) (1 : Int)).1 (15 : Int)) (Int.fdiv (getP (List.drop (3 : Nat) b) (0 : Int) (1 : Int)).1 (16 : Int)) (0 : Int)])), some (Obj.vec RTy.line true l2)]) else none else bif decide ((0 : Int) ≤ (1 : Int) ∧ (1 : Int) ≤ (↑(List.drop (1 : Nat) (List.drop (3 : Nat) b)).length : Int)) then bif Nat.beq l1.length l1.length && sizeOK (List.length l1 + List.length [Line.mk (IntKind.wrap .i64 (first + (↑i : Int))) (getP b (0 : Int) (3 : Int)).1 (bits .i64 (fun (x : Nat) (u v : BitVec x) => u &&& v) (getP (List.drop (3 : Nat) b) (0 : Int) (1 : Int)).1 (15 : Int)) (Int.fdiv (getP (List.drop (3 : Nat) b) (0 : Int) (1 : Int)).1 (16 : Int)) (getP (List.drop (1 : Nat) (List.drop (3 : Nat) b)) (0 : Int) (1 : Int)).1]) (40 : Nat) then some ((X.normal, [((4 : Nat), D.ptr (0 : Nat) []), ((5 : Nat), D.ptr (1 : Nat) []), ((7 : Nat), D.int .i64 (1 : Int)), ((9 : Nat), D.int .i64 first), ((66 : Nat), D.int .i64 n), ((67 : Nat), D.int .i64 (IntKind.wrap .i64 ((↑i : Int) + (1 : Int))))]), [some (Obj.var (85 : Nat) (.acons (D.sl RTy.u8 c (List.drop (1 : Nat) (List.drop (1 : Nat) (List.drop (3 : Nat) b)))) (.acons (D.bool bad) .anil))), some (Obj.var (30 : Nat) (.acons (D.int .i64 pl) (.acons (D.vs (2 : Nat) its.length) (.acons (D.acons (D.vs (3 : Nat) l0.length) (.acons (D.vs (4 : Nat) (List.length l1 + List.length [Line.mk (IntKind.wrap .i64 (first + (↑i : Int))) (getP b (0 : Int) (3 : Int)).1 (bits .i64 (fun (x : Nat) (u v : BitVec x) => u &&& v) (getP (List.drop (3 : Nat) b) (0 : Int) (1 : Int)).1 (15 : Int)) (Int.fdiv (getP (List.drop (3 : Nat) b) (0 : Int) (1 : Int)).1 (16 : Int)) (getP (List.drop (1 : Nat) (List.drop (3 : Nat) b)) (0 : Int) (1 : Int)).1])) (.acons (D.vs (5 : Nat) l2.length) .anil))) (.acons (D.arr RTy.int (3 : Nat) [c0, c1, c2]) .anil))))), some (Obj.vec RTy.item true its), some (Obj.vec RTy.line true l0), some (Obj.vec RTy.line true (l1 ++ [Line.mk (IntKind.wrap .i64 (first + (↑i : Int))) (getP b (0 : Int) (3 : Int)).1 (bits .i64 (fun (x : Nat) (u v : BitVec x) => u &&& v) (getP (List.drop (3 : Nat) b) (0 : Int) (1 : Int)).1 (15 : Int)) (Int.fdiv (getP (List.drop (3 : Nat) b) (0 : Int) (1 : Int)).1 (16 : Int)) (getP (List.drop (1 : Nat) (List.drop (3 : Nat) b)) (0 : Int) (1 : Int)).1])), some (Obj.vec RTy.line true l2)]) else none else none else none else none else none else none else none else some ((X.exit (4 : Nat), []), [some (Obj.var (85 : Nat) (.acons (D.sl RTy.u8 c b) (.acons (D.bool bad) .anil))), some (Obj.var (30 : Nat) (.acons (D.int .i64 pl) (.acons (D.vs (2 : Nat) its.length) (.acons (D.acons (D.vs (3 : Nat) l0.length) (.acons (D.vs (4 : Nat) l1.length) (.acons (D.vs (5 : Nat) l2.length) .anil))) (.acons (D.arr RTy.int (3 : Nat) [c0, c1, c2]) .anil))))), some (Obj.vec RTy.item true its), some (Obj.vec RTy.line true l0), some (Obj.vec RTy.line true l1), some (Obj.vec RTy.line true l2)])) := by kernel_rfl
theorem rsLines_eq2 (c : Bool) (b : List UInt8) (bad : Bool) (pl : Int) (its : List Item) (l0 l1 l2 : List Line) (c0 c1 c2 : Int) (first n : Int) (i : Nat) : rsLines_r c b bad pl its l0 l1 l2 c0 c1 c2 2 first n i = (bif decide ((↑i : Int) < n) then bif decide (List.length b ≤ (1000000000000 : Nat)) then bif Prod.snd (getP b (0 : Int) (3 : Int)) != (0 : Int) then bif Nat.beq l2.length l2.length && sizeOK (List.length l2 + List.length [Line.mk (IntKind.wrap .i64 (first + (↑i : Int))) (0 : Int) (0 : Int) (0 : Int) (0 : Int)]) (40 : Nat) then some ((X.normal, [((4 : Nat), D.ptr (0 : Nat) []), ((5 : Nat), D.ptr (1 : Nat) []), ((7 : Nat), D.int .i64 (2 : Int)), ((9 : Nat), D.int .i64 first), ((66 : Nat), D.int .i64 n), ((67 : Nat), D.int .i64 (IntKind.wrap .i64 ((↑i : Int) + (1 : Int))))]), [some (Obj.var (85 : Nat) (.acons (D.sl RTy.u8 true []) (.acons (D.bool true) .anil))), some (Obj.var (30 : Nat) (.acons (D.int .i64 pl) (.acons (D.vs (2 : Nat) its.length) (.acons (D.acons (D.vs (3 : Nat) l0.length) (.acons (D.vs (4 : Nat) l1.length) (.acons (D.vs (5 : Nat) (List.length l2 + List.length [Line.mk (IntKind.wrap .i64 (first + (↑i : Int))) (0 : Int) (0 : Int) (0 : Int) (0 : Int)])) .anil))) (.acons (D.arr RTy.int (3 : Nat) [c0, c1, c2]) .anil))))), some (Obj.vec RTy.item true its), some (Obj.vec RTy.line true l0), some (Obj.vec RTy.line true l1), some (Obj.vec RTy.line true (l2 ++ [Line.mk (IntKind.wrap .i64 (first + (↑i : Int))) (0 : Int) (0 : Int) (0 : Int) (0 : Int)]))]) else none else bif decide ((0 : Int) ≤ (3 : Int) ∧ (3 : Int) ≤ (↑b.length : Int)) then bif decide (List.length (List.drop (3 : Nat) b) ≤ (1000000000000 : Nat)) then bif Prod.snd (getP (List.drop (3 : Nat) b) (0 : Int) (1 : Int)) != (0 : Int) then bif Nat.beq l2.length l2.length && sizeOK (List.length l2 + List.length [Line.mk (IntKind.wrap .i64 (first + (↑i : Int))) (getP b (0 : Int) (3 : Int)).1 (0 : Int) (0 : Int) (0 : Int)]) (40 : Nat) then some ((X.normal, [((4 : Nat), D.ptr (0 : Nat) []), ((5 : Nat), D.ptr (1 : Nat) []), ((7 : Nat), D.int .i64 (2 : Int)), ((9 : Nat), D.int .i64 first), ((66 : Nat), D.int .i64 n), ((67 : Nat), D.int .i64 (IntKind.wrap .i64 ((↑i : Int) + (1 : Int))))]), [some (Obj.var (85 : Nat) (.acons (D.sl RTy.u8 true []) (.acons (D.bool true) .anil))), some (Obj.var (30 : Nat) (.acons (D.int .i64 pl) (.acons (D.vs (2 : Nat) its.length) (.acons (D.acons (D.vs (3 : Nat) l0.length) (.acons (D.vs (4 : Nat) l1.length) (.acons (D.vs (5 : Nat) (List.length l2 + List.length [Line.mk (IntKind.wrap .i64 (first + (↑i : Int))) (getP b (0 : Int) (3 : Int)).1 (0 : Int) (0 : Int) (0 : Int)])) .anil))) (.acons (D.arr RTy.int (3 : Nat) [c0, c1, c2]) .anil))))), some (Obj.vec RTy.item true its), some (Obj.vec RTy.line true l0), some (Obj.vec RTy.line true l1), some (Obj.vec RTy.line true (l2 ++ [Line.mk (IntKind.wrap .i64 (first + (↑i : Int))) (getP b (0 : Int) (3 : Int)).1 (0 : Int) (0 : Int) (0 : Int)]))]) else none else bif decide ((0 : Int) ≤ (1 : Int) ∧ (1 : Int) ≤ (↑(List.drop (3 : Nat) b).length : Int)) then bif decide (List.length (List.drop (1 : Nat) (List.drop (3 : Nat) b)) ≤ (1000000000000 : Nat)) then bif Prod.snd (getP (List.drop (1 : Nat) (List.drop (3 : Nat) b)) (0 : Int) (1 : Int)) != (0 : Int) then bif Nat.beq l2.length l2.length && sizeOK (List.length l2 + List.length [Line.mk (IntKind.wrap .i64 (first + (↑i : Int))) (getP b (0 : Int) (3 : Int)).1 (bits .i64 (fun (x : Nat) (u v : BitVec x) => u &&& v) (getP (List.drop (3 : Nat) b) (0 : Int) (1 : Int)).1 (15 : Int)) (Int.fdiv (getP (List.drop (3 : Nat) b) (0 : Int) (1 : Int)).1 (16 : Int)) (0 : Int)]) (40 : Nat) then some ((X.normal, [((4 : Nat), D.ptr (0 : Nat) []), ((5 : Nat), D.ptr (1 : Nat) []), ((7 : Nat), D.int .i64 (2 : Int)), ((9 : Nat), D.int .i64 first), ((66 : Nat), D.int .i64 n), ((67 : Nat), D.int .i64 (IntKind.wrap .i64 ((↑i : Int) + (1 : Int))))]), [some (Obj.var (85 : Nat) (.acons (D.sl RTy.u8 true []) (.acons (D.bool true) .anil))), some (Obj.var (30 : Nat) (.acons (D.int .i64 pl) (.acons (D.vs (2 : Nat) its.length) (.acons (D.acons (D.vs (3 : Nat) l0.length) (.acons (D.vs (4 : Nat) l1.length) (.acons (D.vs (5 : Nat) (List.length l2 + List.length [Line.mk (IntKind.wrap .i64 (first + (↑i : Int))) (getP b (0 : Int) (3 : Int)).1 (bits .i64 (fun (x : Nat) (u v : BitVec x) => u &&& v) (getP (List.drop (3 : Nat) b) (0 : Int) (1 : Int)).1 (15 : Int)) (Int.fdiv (getP (List.drop (3 : Nat) b) (0 : Int) (1 : Int)).1 (16 : Int)) (0 : Int)])) .anil))) (.acons (D.arr RTy.int (3 : Nat) [c0, c1, c2]) .anil))))), some (Obj.vec RTy.item true its), some (Obj.vec RTy.line true l0), some (Obj.vec RTy.line true l1), some (Obj.vec RTy.line true (l2 ++ [Line.mk (IntKind.wrap .i64 (first + (↑i : Int))) (getP b (0 : Int) (3 : Int)).1 (bits .i64 (fun (x : Nat) (u v : BitVec x) => u &&& v) (getP (List.drop (3 : Nat) b) (0 : Int) (1 : Int)).1 (15 : Int)) (Int.fdiv (getP (List.drop (3 : Nat) b) (0 : Int) (1 : Int)).1 (16 : Int)) (0 : Int)]))]) else none else bif decide ((0 : Int) ≤ (1 : Int) ∧ (1 : Int) ≤ (↑(List.drop (1 : Nat) (List.drop (3 : Nat) b)).length : Int)) then bif Nat.beq l2.length l2.length && sizeOK (List.length l2 + List.length [Line.mk (IntKind.wrap .i64 (first + (↑i : Int))) (getP b (0 : Int) (3 : Int)).1 (bits .i64 (fun (x : Nat) (u v : BitVec x) => u &&& v) (getP (List.drop (3 : Nat) b) (0 : Int) (1 : Int)).1 (15 : Int)) (Int.fdiv (getP (List.drop (3 : Nat) b) (0 : Int) (1 : Int)).1 (16 : Int)) (getP (List.drop (1 : Nat) (List.drop (3 : Nat) b)) (0 : Int) (1 : Int)).1]) (40 : Nat) then some ((X.normal, [((4 : Nat), D.ptr (0 : Nat) []), ((5 : Nat), D.ptr (1 : Nat) []), ((7 : Nat), D.int .i64 (2 : Int)), ((9 : Nat), D.int .i64 first), ((66 : Nat), D.int .i64 n), ((67 : Nat), D.int .i64 (IntKind.wrap .i64 ((↑i : Int) + (1 : Int))))]), [some (Obj.var (85 : Nat) (.acons (D.sl RTy.u8 c (List.drop (1 : Nat) (List.drop (1 : Nat) (List.drop (3 : Nat) b)))) (.acons (D.bool bad) .anil))), some (Obj.var (30 : Nat) (.acons (D.int .i64 pl) (.acons (D.vs (2 : Nat) its.length) (.acons (D.acons (D.vs (3 : Nat) l0.length) (.acons (D.vs (4 : Nat) l1.length) (.acons (D.vs (5 : Nat) (List.length l2 + List.length [Line.mk (IntKind.wrap .i64 (first + (↑i : Int))) (getP b (0 : Int) (3 : Int)).1 (bits .i64 (fun (x : Nat) (u v : BitVec x) => u &&& v) (getP (List.drop (3 : Nat) b) (0 : Int) (1 : Int)).1 (15 : Int)) (Int.fdiv (getP (List.drop (3 : Nat) b) (0 : Int) (1 : Int)).1 (16 : Int)) (getP (List.drop (1 : Nat) (List.drop (3 : Nat) b)) (0 : Int) (1 : Int)).1])) .anil))) (.acons (D.arr RTy.int (3 : Nat) [c0, c1, c2]) .anil))))), some (Obj.vec RTy.item true its), some (Obj.vec RTy.line true l0), some (Obj.vec RTy.line true l1), some (Obj.vec RTy.line true (l2 ++ [Line.mk (IntKind.wrap .i64 (first + (↑i : Int))) (getP b (0 : Int) (3 : Int)).1 (bits .i64 (fun (x : Nat) (u v : BitVec x) => u &&& v) (getP (List.drop (3 : Nat) b) (0 : Int) (1 : Int)).1 (15 : Int)) (Int.fdiv (getP (List.drop (3 : Nat) b) (0 : Int) (1 : Int)).1 (16 : Int)) (getP (List.drop (1 : Nat) (List.drop (3 : Nat) b)) (0 : Int) (1 : Int)).1]))]) else none else none else none else none else none else none else none else some ((X.exit (4 : Nat), []), [some (Obj.var (85 : Nat) (.acons (D.sl RTy.u8 c b) (.acons (D.bool bad) .anil))), some (Obj.var (30 : Nat) (.acons (D.int .i64 pl) (.acons (D.vs (2 : Nat) its.length) (.acons (D.acons (D.vs (3 : Nat) l0.length) (.acons (D.vs (4 : Nat) l1.length) (.acons (D.vs (5 : Nat) l2.length) .anil))) (.acons (D.arr RTy.int (3 : Nat) [c0, c1, c2]) .anil))))), some (Obj.vec RTy.item true its), some (Obj.vec RTy.line true l0), some (Obj.vec RTy.line true l1), some (Obj.vec RTy.line true l2)])) := by kernel_rfl
def rsLines_fin (c : Bool) (b : List UInt8) (bad : Bool) (pl : Int) (its : List Item) (l0 : List Line) (l1 : List Line) (l2 : List Line) (c0 : Int) (c1 : Int) (c2 : Int) (q : Int) (first : Int) (n : Int) (i : Nat) : RT RC := .leaf (.exit 4) [] [.var 85 (.acons (.sl (C := RC) .u8 (gLines rdP false (n.toNat - i) (first + i) ⟨c, b, bad⟩).1.c (gLines rdP false (n.toNat - i) (first + i) ⟨c, b, bad⟩).1.b) (.acons (.bool (gLines rdP false (n.toNat - i) (first + i) ⟨c, b, bad⟩).1.bad) .anil)), .var 30 (.acons (.int .i64 pl) (.acons (.vs 2 its.length) (.acons (.acons (.vs 3 (addL q 0 l0 (gLines rdP false (n.toNat - i) (first + i) ⟨c, b, bad⟩).2).length) (.acons (.vs 4 (addL q 1 l1 (gLines rdP false (n.toNat - i) (first + i) ⟨c, b, bad⟩).2).length) (.acons (.vs 5 (addL q 2 l2 (gLines rdP false (n.toNat - i) (first + i) ⟨c, b, bad⟩).2).length) .anil))) (.acons (.arr (C := RC) .int 3 [c0, c1, c2]) .anil)))), .vec (C := RC) .item true its, .vec (C := RC) .line true (addL q 0 l0 (gLines rdP false (n.toNat - i) (first + i) ⟨c, b, bad⟩).2), .vec (C := RC) .line true (addL q 1 l1 (gLines rdP false (n.toNat - i) (first + i) ⟨c, b, bad⟩).2), .vec (C := RC) .line true (addL q 2 l2 (gLines rdP false (n.toNat - i) (first + i) ⟨c, b, bad⟩).2)]
def rsLines_Inv (c : Bool) (b : List UInt8) (bad : Bool) (pl : Int) (its : List Item) (l0 : List Line) (l1 : List Line) (l2 : List Line) (c0 : Int) (c1 : Int) (c2 : Int) (q : Int) (first : Int) (n : Int) (i : Nat) : Prop := (i : Int) ≤ n ∧ n ≤ 255 ∧ b.length ≤ 1000000 ∧ l0.length ≤ 1000 + i ∧ l1.length ≤ 1000 + i ∧ l2.length ≤ 1000 + i ∧ (0 ≤ q ∧ q ≤ 2) ∧ (0 ≤ first ∧ first ≤ 16777215)
def rsLines_S : LoopR RC rsLines_St where
  k := 6
  canon q := rsLines_c q.c q.b q.bad q.pl q.its q.l0 q.l1 q.l2 q.c0 q.c1 q.c2 q.q q.first q.n q.i
  objs q := rsLines_o q.c q.b q.bad q.pl q.its q.l0 q.l1 q.l2 q.c0 q.c1 q.c2 q.q q.first q.n q.i
  fin q := rsLines_fin q.c q.b q.bad q.pl q.its q.l0 q.l1 q.l2 q.c0 q.c1 q.c2 q.q q.first q.n q.i
  Inv q := rsLines_Inv q.c q.b q.bad q.pl q.its q.l0 q.l1 q.l2 q.c0 q.c1 q.c2 q.q q.first q.n q.i
  μ q := q.n.toNat - q.i
theorem rsLines_round (c : Bool) (b : List UInt8) (bad : Bool) (pl : Int) (its : List Item) (l0 : List Line) (l1 : List Line) (l2 : List Line) (c0 : Int) (c1 : Int) (c2 : Int) (q : Int) (first : Int) (n : Int) (i : Nat) (hI : rsLines_Inv c b bad pl its l0 l1 l2 c0 c1 c2 q first n i) : Leaf (rsLines_r c b bad pl its l0 l1 l2 c0 c1 c2 q first n i) (LedR rsLines_S ⟨c, b, bad, pl, its, l0, l1, l2, c0, c1, c2, q, first, n, i⟩) := by
  unfold rsLines_Inv at hI
  obtain ⟨h1, h2, h3, h4, h5, h6, h7, h8⟩ := hI
  have eb : ∀ n : Nat, n.beq n = true := fun n => by simp
  have z1 : rget 1 ⟨true, [], true⟩ = (0, ⟨true, [], true⟩) := rfl
  have z3 : rget 3 ⟨true, [], true⟩ = (0, ⟨true, [], true⟩) := rfl
  by_cases hlt : (i : Int) < n
  · have w_succ : IntKind.i64.wrap ((i : Int) + 1) = ((i + 1 : Nat) : Int) := by rw [wrap_id (by omega) (by omega)]; simp
    have wio : IntKind.i64.wrap (first + (i : Int)) = first + (i : Int) := wrap_id (by omega) (by omega)
    have hn : n.toNat - i = (n.toNat - (i + 1)) + 1 := by omega
    have hio : first + ((i + 1 : Nat) : Int) = first + (i : Int) + 1 := by omega
    have m0 : (0 : Int) % 16 = 0 ∧ (0 : Int) / 16 = 0 := ⟨rfl, rfl⟩
    have s0 : sizeOK (l0.length + 1) 40 = true := sizeT (by omega)
    have s1 : sizeOK (l1.length + 1) 40 = true := sizeT (by omega)
    have s2 : sizeOK (l2.length + 1) 40 = true := sizeT (by omega)
    have k01 : ¬ (0 : Int) = 1 := by omega
    have k02 : ¬ (0 : Int) = 2 := by omega
    have k10 : ¬ (1 : Int) = 0 := by omega
    have k12 : ¬ (1 : Int) = 2 := by omega
    have k20 : ¬ (2 : Int) = 0 := by omega
    have k21 : ¬ (2 : Int) = 1 := by omega
    have e0 : decide (b.length ≤ 1000000000000) = true := decide_eq_true (by omega)
    have t1 : Int.toNat 1 = 1 := rfl
    have t3 : Int.toNat 3 = 3 := rfl
    obtain e_q | e_q | e_q : q = 0 ∨ q = 1 ∨ q = 2 := by omega
    · subst e_q
      rw [rsLines_eq0]
      simp only [hlt, decide_true, cond_true, e0, getP_snd1, getP_snd3, w_succ, wio, List.length_cons, List.length_nil, Nat.zero_add, s0, s1, s2, eb, Bool.and_self, t1, t3]
      by_cases q0 : (b).length < 3
      · have r0 : rget 3 ⟨c, b, bad⟩ = _ := rget_no q0
        simp only [q0, decide_true, cond_true]
        refine leafR_go ⟨true, [], true, pl, its, l0 ++ [⟨first + i, 0, 0, 0, 0⟩], l1, l2, c0, c1, c2, 0, first, n, i + 1⟩ (by refine ⟨hlt, h2, ?_, ?_, ?_, ?_, ?_, h8⟩ <;> simp <;> omega) (by simp only [rsLines_S]; omega) ?_ (by simp [rsLines_S, rsLines_c]) (by simp [rsLines_S, rsLines_o])
        simp only [rsLines_S, rsLines_fin, hn, gLinesP_succ, r0, z1, z3, addL, hio, m0, if_true, if_false, List.append_assoc, List.cons_append, List.nil_append, k01, k02, k10, k12, k20, k21]
      have r0 : rget 3 ⟨c, b, bad⟩ = _ := rget_ok (show 3 ≤ (b).length by omega)
      have d0 : decide ((0 : Int) ≤ 3 ∧ (3 : Int) ≤ (b).length) = true := by simp only [decide_eq_true_eq]; omega
      have e0 : decide (((b).drop 3).length ≤ 1000000000000) = true := decide_eq_true (by simp; omega)
      simp only [q0, decide_false, cond_false, d0, cond_true, e0, getP_fst3 q0]
      by_cases q1 : ((b).drop 3).length < 1
      · have r1 : rget 1 ⟨c, (b).drop 3, bad⟩ = _ := rget_no q1
        simp only [q1, decide_true, cond_true]
        refine leafR_go ⟨true, [], true, pl, its, l0 ++ [⟨first + i, (leVal ((b).take 3) : Int), 0, 0, 0⟩], l1, l2, c0, c1, c2, 0, first, n, i + 1⟩ (by refine ⟨hlt, h2, ?_, ?_, ?_, ?_, ?_, h8⟩ <;> simp <;> omega) (by simp only [rsLines_S]; omega) ?_ (by simp [rsLines_S, rsLines_c]) (by simp [rsLines_S, rsLines_o])
        simp only [rsLines_S, rsLines_fin, hn, gLinesP_succ, r0, r1, z1, z3, addL, hio, m0, if_true, if_false, List.append_assoc, List.cons_append, List.nil_append, k01, k02, k10, k12, k20, k21]
      have hx2 : leVal (((b).drop 3).take 1) < 256 := by rw [leVal_take1 (by omega)]; exact UInt8.toNat_lt _
      have a15 := and15 (leVal (((b).drop 3).take 1)) (by omega)
      have f16 : (leVal (((b).drop 3).take 1) : Int).fdiv 16 = (leVal (((b).drop 3).take 1) : Int) / 16 := Int.fdiv_eq_ediv_of_nonneg _ (by omega)
      have r1 : rget 1 ⟨c, (b).drop 3, bad⟩ = _ := rget_ok (show 1 ≤ ((b).drop 3).length by omega)
      have d1 : decide ((0 : Int) ≤ 1 ∧ (1 : Int) ≤ ((b).drop 3).length) = true := by simp only [decide_eq_true_eq]; omega
      have e1 : decide ((((b).drop 3).drop 1).length ≤ 1000000000000) = true := decide_eq_true (by simp; omega)
      simp only [q1, decide_false, cond_false, d1, cond_true, e1, getP_fst1 q1, a15, f16]
      by_cases q2 : (((b).drop 3).drop 1).length < 1
      · have r2 : rget 1 ⟨c, ((b).drop 3).drop 1, bad⟩ = _ := rget_no q2
        simp only [q2, decide_true, cond_true]
        refine leafR_go ⟨true, [], true, pl, its, l0 ++ [⟨first + i, (leVal ((b).take 3) : Int), (leVal (((b).drop 3).take 1) : Int) % 16, (leVal (((b).drop 3).take 1) : Int) / 16, 0⟩], l1, l2, c0, c1, c2, 0, first, n, i + 1⟩ (by refine ⟨hlt, h2, ?_, ?_, ?_, ?_, ?_, h8⟩ <;> simp <;> omega) (by simp only [rsLines_S]; omega) ?_ (by simp [rsLines_S, rsLines_c]) (by simp [rsLines_S, rsLines_o])
        simp only [rsLines_S, rsLines_fin, hn, gLinesP_succ, r0, r1, r2, z1, z3, addL, hio, m0, if_true, if_false, List.append_assoc, List.cons_append, List.nil_append, k01, k02, k10, k12, k20, k21]
      have r2 : rget 1 ⟨c, ((b).drop 3).drop 1, bad⟩ = _ := rget_ok (show 1 ≤ (((b).drop 3).drop 1).length by omega)
      have d2 : decide ((0 : Int) ≤ 1 ∧ (1 : Int) ≤ (((b).drop 3).drop 1).length) = true := by simp only [decide_eq_true_eq]; omega
      have e2 : decide (((((b).drop 3).drop 1).drop 1).length ≤ 1000000000000) = true := decide_eq_true (by simp; omega)
      simp only [q2, decide_false, cond_false, d2, cond_true, e2, getP_fst1 q2]
      refine leafR_go ⟨c, (((b).drop 3).drop 1).drop 1, bad, pl, its, l0 ++ [⟨first + i, (leVal ((b).take 3) : Int), (leVal (((b).drop 3).take 1) : Int) % 16, (leVal (((b).drop 3).take 1) : Int) / 16, (leVal ((((b).drop 3).drop 1).take 1) : Int)⟩], l1, l2, c0, c1, c2, 0, first, n, i + 1⟩ (by refine ⟨hlt, h2, ?_, ?_, ?_, ?_, ?_, h8⟩ <;> simp <;> omega) (by simp only [rsLines_S]; omega) ?_ (by simp [rsLines_S, rsLines_c]) (by simp [rsLines_S, rsLines_o])
      simp only [rsLines_S, rsLines_fin, hn, gLinesP_succ, r0, r1, r2, addL, hio, m0, if_true, if_false, List.append_assoc, List.cons_append, List.nil_append, k01, k02, k10, k12, k20, k21]
    · subst e_q
      rw [rsLines_eq1]
      simp only [hlt, decide_true, cond_true, e0, getP_snd1, getP_snd3, w_succ, wio, List.length_cons, List.length_nil, Nat.zero_add, s0, s1, s2, eb, Bool.and_self, t1, t3]
      by_cases q0 : (b).length < 3
      · have r0 : rget 3 ⟨c, b, bad⟩ = _ := rget_no q0
        simp only [q0, decide_true, cond_true]
        refine leafR_go ⟨true, [], true, pl, its, l0, l1 ++ [⟨first + i, 0, 0, 0, 0⟩], l2, c0, c1, c2, 1, first, n, i + 1⟩ (by refine ⟨hlt, h2, ?_, ?_, ?_, ?_, ?_, h8⟩ <;> simp <;> omega) (by simp only [rsLines_S]; omega) ?_ (by simp [rsLines_S, rsLines_c]) (by simp [rsLines_S, rsLines_o])
        simp only [rsLines_S, rsLines_fin, hn, gLinesP_succ, r0, z1, z3, addL, hio, m0, if_true, if_false, List.append_assoc, List.cons_append, List.nil_append, k01, k02, k10, k12, k20, k21]
      have r0 : rget 3 ⟨c, b, bad⟩ = _ := rget_ok (show 3 ≤ (b).length by omega)
      have d0 : decide ((0 : Int) ≤ 3 ∧ (3 : Int) ≤ (b).length) = true := by simp only [decide_eq_true_eq]; omega
      have e0 : decide (((b).drop 3).length ≤ 1000000000000) = true := decide_eq_true (by simp; omega)
      simp only [q0, decide_false, cond_false, d0, cond_true, e0, getP_fst3 q0]
      by_cases q1 : ((b).drop 3).length < 1
      · have r1 : rget 1 ⟨c, (b).drop 3, bad⟩ = _ := rget_no q1
        simp only [q1, decide_true, cond_true]
        refine leafR_go ⟨true, [], true, pl, its, l0, l1 ++ [⟨first + i, (leVal ((b).take 3) : Int), 0, 0, 0⟩], l2, c0, c1, c2, 1, first, n, i + 1⟩ (by refine ⟨hlt, h2, ?_, ?_, ?_, ?_, ?_, h8⟩ <;> simp <;> omega) (by simp only [rsLines_S]; omega) ?_ (by simp [rsLines_S, rsLines_c]) (by simp [rsLines_S, rsLines_o])
        simp only [rsLines_S, rsLines_fin, hn, gLinesP_succ, r0, r1, z1, z3, addL, hio, m0, if_true, if_false, List.append_assoc, List.cons_append, List.nil_append, k01, k02, k10, k12, k20, k21]
      have hx2 : leVal (((b).drop 3).take 1) < 256 := by rw [leVal_take1 (by omega)]; exact UInt8.toNat_lt _
      have a15 := and15 (leVal (((b).drop 3).take 1)) (by omega)
      have f16 : (leVal (((b).drop 3).take 1) : Int).fdiv 16 = (leVal (((b).drop 3).take 1) : Int) / 16 := Int.fdiv_eq_ediv_of_nonneg _ (by omega)
      have r1 : rget 1 ⟨c, (b).drop 3, bad⟩ = _ := rget_ok (show 1 ≤ ((b).drop 3).length by omega)
      have d1 : decide ((0 : Int) ≤ 1 ∧ (1 : Int) ≤ ((b).drop 3).length) = true := by simp only [decide_eq_true_eq]; omega
      have e1 : decide ((((b).drop 3).drop 1).length ≤ 1000000000000) = true := decide_eq_true (by simp; omega)
      simp only [q1, decide_false, cond_false, d1, cond_true, e1, getP_fst1 q1, a15, f16]
      by_cases q2 : (((b).drop 3).drop 1).length < 1
      · have r2 : rget 1 ⟨c, ((b).drop 3).drop 1, bad⟩ = _ := rget_no q2
        simp only [q2, decide_true, cond_true]
        refine leafR_go ⟨true, [], true, pl, its, l0, l1 ++ [⟨first + i, (leVal ((b).take 3) : Int), (leVal (((b).drop 3).take 1) : Int) % 16, (leVal (((b).drop 3).take 1) : Int) / 16, 0⟩], l2, c0, c1, c2, 1, first, n, i + 1⟩ (by refine ⟨hlt, h2, ?_, ?_, ?_, ?_, ?_, h8⟩ <;> simp <;> omega) (by simp only [rsLines_S]; omega) ?_ (by simp [rsLines_S, rsLines_c]) (by simp [rsLines_S, rsLines_o])
        simp only [rsLines_S, rsLines_fin, hn, gLinesP_succ, r0, r1, r2, z1, z3, addL, hio, m0, if_true, if_false, List.append_assoc, List.cons_append, List.nil_append, k01, k02, k10, k12, k20, k21]
      have r2 : rget 1 ⟨c, ((b).drop 3).drop 1, bad⟩ = _ := rget_ok (show 1 ≤ (((b).drop 3).drop 1).length by omega)
      have d2 : decide ((0 : Int) ≤ 1 ∧ (1 : Int) ≤ (((b).drop 3).drop 1).length) = true := by simp only [decide_eq_true_eq]; omega
      have e2 : decide (((((b).drop 3).drop 1).drop 1).length ≤ 1000000000000) = true := decide_eq_true (by simp; omega)
      simp only [q2, decide_false, cond_false, d2, cond_true, e2, getP_fst1 q2]
      refine leafR_go ⟨c, (((b).drop 3).drop 1).drop 1, bad, pl, its, l0, l1 ++ [⟨first + i, (leVal ((b).take 3) : Int), (leVal (((b).drop 3).take 1) : Int) % 16, (leVal (((b).drop 3).take 1) : Int) / 16, (leVal ((((b).drop 3).drop 1).take 1) : Int)⟩], l2, c0, c1, c2, 1, first, n, i + 1⟩ (by refine ⟨hlt, h2, ?_, ?_, ?_, ?_, ?_, h8⟩ <;> simp <;> omega) (by simp only [rsLines_S]; omega) ?_ (by simp [rsLines_S, rsLines_c]) (by simp [rsLines_S, rsLines_o])
      simp only [rsLines_S, rsLines_fin, hn, gLinesP_succ, r0, r1, r2, addL, hio, m0, if_true, if_false, List.append_assoc, List.cons_append, List.nil_append, k01, k02, k10, k12, k20, k21]
    · subst e_q
      rw [rsLines_eq2]
      simp only [hlt, decide_true, cond_true, e0, getP_snd1, getP_snd3, w_succ, wio, List.length_cons, List.length_nil, Nat.zero_add, s0, s1, s2, eb, Bool.and_self, t1, t3]
      by_cases q0 : (b).length < 3
      · have r0 : rget 3 ⟨c, b, bad⟩ = _ := rget_no q0
        simp only [q0, decide_true, cond_true]
        refine leafR_go ⟨true, [], true, pl, its, l0, l1, l2 ++ [⟨first + i, 0, 0, 0, 0⟩], c0, c1, c2, 2, first, n, i + 1⟩ (by refine ⟨hlt, h2, ?_, ?_, ?_, ?_, ?_, h8⟩ <;> simp <;> omega) (by simp only [rsLines_S]; omega) ?_ (by simp [rsLines_S, rsLines_c]) (by simp [rsLines_S, rsLines_o])
        simp only [rsLines_S, rsLines_fin, hn, gLinesP_succ, r0, z1, z3, addL, hio, m0, if_true, if_false, List.append_assoc, List.cons_append, List.nil_append, k01, k02, k10, k12, k20, k21]
      have r0 : rget 3 ⟨c, b, bad⟩ = _ := rget_ok (show 3 ≤ (b).length by omega)
      have d0 : decide ((0 : Int) ≤ 3 ∧ (3 : Int) ≤ (b).length) = true := by simp only [decide_eq_true_eq]; omega
      have e0 : decide (((b).drop 3).length ≤ 1000000000000) = true := decide_eq_true (by simp; omega)
      simp only [q0, decide_false, cond_false, d0, cond_true, e0, getP_fst3 q0]
      by_cases q1 : ((b).drop 3).length < 1
      · have r1 : rget 1 ⟨c, (b).drop 3, bad⟩ = _ := rget_no q1
        simp only [q1, decide_true, cond_true]
        refine leafR_go ⟨true, [], true, pl, its, l0, l1, l2 ++ [⟨first + i, (leVal ((b).take 3) : Int), 0, 0, 0⟩], c0, c1, c2, 2, first, n, i + 1⟩ (by refine ⟨hlt, h2, ?_, ?_, ?_, ?_, ?_, h8⟩ <;> simp <;> omega) (by simp only [rsLines_S]; omega) ?_ (by simp [rsLines_S, rsLines_c]) (by simp [rsLines_S, rsLines_o])
        simp only [rsLines_S, rsLines_fin, hn, gLinesP_succ, r0, r1, z1, z3, addL, hio, m0, if_true, if_false, List.append_assoc, List.cons_append, List.nil_append, k01, k02, k10, k12, k20, k21]
      have hx2 : leVal (((b).drop 3).take 1) < 256 := by rw [leVal_take1 (by omega)]; exact UInt8.toNat_lt _
      have a15 := and15 (leVal (((b).drop 3).take 1)) (by omega)
      have f16 : (leVal (((b).drop 3).take 1) : Int).fdiv 16 = (leVal (((b).drop 3).take 1) : Int) / 16 := Int.fdiv_eq_ediv_of_nonneg _ (by omega)
      have r1 : rget 1 ⟨c, (b).drop 3, bad⟩ = _ := rget_ok (show 1 ≤ ((b).drop 3).length by omega)
      have d1 : decide ((0 : Int) ≤ 1 ∧ (1 : Int) ≤ ((b).drop 3).length) = true := by simp only [decide_eq_true_eq]; omega
      have e1 : decide ((((b).drop 3).drop 1).length ≤ 1000000000000) = true := decide_eq_true (by simp; omega)
      simp only [q1, decide_false, cond_false, d1, cond_true, e1, getP_fst1 q1, a15, f16]
      by_cases q2 : (((b).drop 3).drop 1).length < 1
      · have r2 : rget 1 ⟨c, ((b).drop 3).drop 1, bad⟩ = _ := rget_no q2
        simp only [q2, decide_true, cond_true]
        refine leafR_go ⟨true, [], true, pl, its, l0, l1, l2 ++ [⟨first + i, (leVal ((b).take 3) : Int), (leVal (((b).drop 3).take 1) : Int) % 16, (leVal (((b).drop 3).take 1) : Int) / 16, 0⟩], c0, c1, c2, 2, first, n, i + 1⟩ (by refine ⟨hlt, h2, ?_, ?_, ?_, ?_, ?_, h8⟩ <;> simp <;> omega) (by simp only [rsLines_S]; omega) ?_ (by simp [rsLines_S, rsLines_c]) (by simp [rsLines_S, rsLines_o])
        simp only [rsLines_S, rsLines_fin, hn, gLinesP_succ, r0, r1, r2, z1, z3, addL, hio, m0, if_true, if_false, List.append_assoc, List.cons_append, List.nil_append, k01, k02, k10, k12, k20, k21]
      have r2 : rget 1 ⟨c, ((b).drop 3).drop 1, bad⟩ = _ := rget_ok (show 1 ≤ (((b).drop 3).drop 1).length by omega)
      have d2 : decide ((0 : Int) ≤ 1 ∧ (1 : Int) ≤ (((b).drop 3).drop 1).length) = true := by simp only [decide_eq_true_eq]; omega
      have e2 : decide (((((b).drop 3).drop 1).drop 1).length ≤ 1000000000000) = true := decide_eq_true (by simp; omega)
      simp only [q2, decide_false, cond_false, d2, cond_true, e2, getP_fst1 q2]
      refine leafR_go ⟨c, (((b).drop 3).drop 1).drop 1, bad, pl, its, l0, l1, l2 ++ [⟨first + i, (leVal ((b).take 3) : Int), (leVal (((b).drop 3).take 1) : Int) % 16, (leVal (((b).drop 3).take 1) : Int) / 16, (leVal ((((b).drop 3).drop 1).take 1) : Int)⟩], c0, c1, c2, 2, first, n, i + 1⟩ (by refine ⟨hlt, h2, ?_, ?_, ?_, ?_, ?_, h8⟩ <;> simp <;> omega) (by simp only [rsLines_S]; omega) ?_ (by simp [rsLines_S, rsLines_c]) (by simp [rsLines_S, rsLines_o])
      simp only [rsLines_S, rsLines_fin, hn, gLinesP_succ, r0, r1, r2, addL, hio, m0, if_true, if_false, List.append_assoc, List.cons_append, List.nil_append, k01, k02, k10, k12, k20, k21]
  · have hi : n.toNat - i = 0 := by omega
    obtain e_q | e_q | e_q : q = 0 ∨ q = 1 ∨ q = 2 := by omega
    all_goals
      subst e_q
      first | rw [rsLines_eq0] | rw [rsLines_eq1] | rw [rsLines_eq2]
      simp only [hlt, decide_false, cond_false]
      exact leafR_exit (rsLines_o c b bad pl its l0 l1 l2 c0 c1 c2 0 first n i) (by simp [rsLines_S, rsLines_fin, rsLines_o, hi, gLines, addL, RT.val]) rfl
def rsLines_d (env : Env RC) (os : List (Obj RC)) : Option (Bool × rsLines_St) := match env, os with
  | [(4, .ptr 0 []), (5, .ptr 1 []), (7, .int .i64 q), (9, .int .i64 first), (66, .int .i64 n), (67, .int .i64 x0)], [.var 85 (.acons (.sl .u8 c b) (.acons (.bool bad) .anil)), .var 30 (.acons (.int .i64 pl) (.acons (.vs 2 x1) (.acons (.acons (.vs 3 x2) (.acons (.vs 4 x3) (.acons (.vs 5 x4) .anil))) (.acons (.arr .int 3 [c0, c1, c2]) .anil)))), .vec .item true its, .vec .line true l0, .vec .line true l1, .vec .line true l2] => staticD (true) (decide (x0 = 0) && decide (x1 = its.length) && decide (x2 = l0.length) && decide (x3 = l1.length) && decide (x4 = l2.length) && decide (0 ≤ n ∧ n ≤ 255 ∧ b.length ≤ 1000000 ∧ (l0.length ≤ 1000 ∧ l1.length ≤ 1000 ∧ l2.length ≤ 1000) ∧ (0 ≤ q ∧ q ≤ 2) ∧ (0 ≤ first ∧ first ≤ 16777215)), ⟨c, b, bad, pl, its, l0, l1, l2, c0, c1, c2, q, first, n, 0⟩)
  | _, _ => none
noncomputable def um_2 := um_1.addLoop 32 18 (sumR s07 [.slot 4 0, .slot 5 0, .path 1 [1], .path 1 [2, 0], .path 1 [2, 1], .path 1 [2, 2]] [4, 5, 7, 9, 66, 67] rsLines_S rsLines_d)
theorem um_2_laws : FLaws Try.prog s07 um_2 := by
  refine um_1_laws.addRoundsR s07_laws (by kernel_rfl) rsLines_S 60 [4, 5, 7, 9, 66, 67] [] [.slot 4 0, .slot 5 0, .path 1 [1], .path 1 [2, 0], .path 1 [2, 1], .path 1 [2, 2]] [4, 5, 7, 9, 66, 67] rsLines_d (fun q hI => ?_) ?_
  · obtain ⟨c, b, bad, pl, its, l0, l1, l2, c0, c1, c2, q, first, n, i⟩ := q
    refine ⟨?_, ?_, rsLines_round c b bad pl its l0 l1 l2 c0 c1 c2 q first n i hI⟩
    · simp_all [RefsOK, rsLines_S, rsLines_c, rsLines_o, rsLines_Inv, D.refs, Obj.refs, rEnc]
    · simp_all [rsLines_S, rsLines_fin, rsLines_o, rsLines_Inv, RT.refsOK, RefsOK, D.refs, Obj.refs, rEnc]
  · intro env os b q hd_ hb
    unfold rsLines_d at hd_
    split at hd_
    · obtain ⟨hs, hd_⟩ := staticD_some hd_
      cases hd_
      simp only [Bool.and_eq_true, decide_eq_true_eq] at hb
      obtain ⟨⟨⟨⟨⟨rfl, rfl⟩, rfl⟩, rfl⟩, rfl⟩, hq⟩ := hb
      exact ⟨⟨by simpa using hq.1, hq.2.1, hq.2.2.1, by simpa using hq.2.2.2.1.1, by simpa using hq.2.2.2.1.2.1, by simpa using hq.2.2.2.1.2.2, hq.2.2.2.2.1, hq.2.2.2.2.2⟩, rfl, rfl⟩
    · cases hd_
theorem leVal_le (b : List UInt8) (w : Nat) : leVal (b.take w) < 256 ^ w :=
  Nat.lt_of_lt_of_le (leVal_lt _) (Nat.pow_le_pow_right (by omega) (by simp; omega))
theorem rget_rng (w : Nat) (r : Rd) : 0 ≤ (rget w r).1 ∧ (rget w r).1 < ((256 ^ w : Nat) : Int) := by
  unfold rget
  split
  · have := leVal_le r.b w
    exact ⟨Int.natCast_nonneg _, Int.ofNat_lt.2 this⟩
  · have : 0 < 256 ^ w := Nat.pow_pos (by omega)
    exact ⟨Int.le_refl _, Int.ofNat_lt.2 this⟩
theorem rget_rng1 (r : Rd) : 0 ≤ (rget 1 r).1 ∧ (rget 1 r).1 ≤ 255 := by have := rget_rng 1 r; simp at this; omega
theorem rget_blen (w : Nat) (r : Rd) : (rget w r).2.b.length ≤ r.b.length := by
  unfold rget; split <;> simp
theorem gLines_blen : ∀ (n : Nat) (o : Int) (r : Rd), (gLines rdP false n o r).1.b.length ≤ r.b.length
  | 0, _, _ => Nat.le_refl _
  | n + 1, o, r => by
    rw [gLinesP_succ]
    exact Nat.le_trans (gLines_blen n _ _) (Nat.le_trans (rget_blen _ _) (Nat.le_trans (rget_blen _ _) (rget_blen _ _)))
theorem gItems_blen : ∀ (n : Nat) (r : Rd), (gItems rdP false n r).1.b.length ≤ r.b.length
  | 0, _ => Nat.le_refl _
  | n + 1, r => by
    rw [gItemsP_succ]
    exact Nat.le_trans (gItems_blen n _) (Nat.le_trans (rget_blen _ _) (Nat.le_trans (rget_blen _ _) (rget_blen _ _)))
theorem gItems_len {σ : Type} (R : Rdr σ) (stop : Bool) : ∀ (n : Nat) (s : σ), (gItems R stop n s).2.length ≤ n
  | 0, _ => Nat.le_refl _
  | n + 1, s => by
    simp only [gItems]
    cases stop && R.bad s with
    | true => simp
    | false => have := gItems_len R stop n (R.get 1 (R.get 3 (R.get 1 s).2).2).2; simp; omega
theorem gPart_blen (r : Rd) : (gPart rdP false markP r).1.b.length ≤ r.b.length := by
  unfold gPart
  refine Nat.le_trans (gLines_blen _ _ _) ?_
  have h : (rget 3 (rget 1 (rget 3 r).2).2).2.b.length ≤ r.b.length := Nat.le_trans (rget_blen _ _) (Nat.le_trans (rget_blen _ _) (rget_blen _ _))
  show (bif ((rget 1 (rget 3 r).2).1 == 0 && (rget 3 (rget 1 (rget 3 r).2).2).1 != 0) then markP (rget 3 (rget 1 (rget 3 r).2).2).2 else (rget 3 (rget 1 (rget 3 r).2).2).2).b.length ≤ _
  cases ((rget 1 (rget 3 r).2).1 == 0 && (rget 3 (rget 1 (rget 3 r).2).2).1 != 0)
  · exact h
  · exact h
theorem gPart_len (r : Rd) : (gPart rdP false markP r).2.2.length ≤ 255 := by
  unfold gPart
  refine Nat.le_trans (gLines_len _ _ _ _ _) ?_
  have := rget_rng1 (rget 3 r).2
  show (rget 1 (rget 3 r).2).1.toNat ≤ 255
  omega
theorem gPart_of {r r1 r2 r3 : Rd} {c n f : Int} (h1 : rget 3 r = (c, r1)) (h2 : rget 1 r1 = (n, r2)) (h3 : rget 3 r2 = (f, r3)) :
    gPart rdP false markP r = ((gLines rdP false n.toNat f (bif n == 0 && f != 0 then markP r3 else r3)).1, c, (gLines rdP false n.toNat f (bif n == 0 && f != 0 then markP r3 else r3)).2) := by
  simp only [gPart, rdP, h1, h2, h3]
open Go.Proofs
structure rsQ_St where
  c : Bool
  b : List UInt8
  bad : Bool
  pl : Int
  its : List Item
  l0 : List Line
  l1 : List Line
  l2 : List Line
  c0 : Int
  c1 : Int
  c2 : Int
  q : Nat
def rsQ_c (c : Bool) (b : List UInt8) (bad : Bool) (pl : Int) (its : List Item) (l0 : List Line) (l1 : List Line) (l2 : List Line) (c0 : Int) (c1 : Int) (c2 : Int) (q : Nat) : Env RC := [(4, .ptr 0 []), (5, .ptr 1 []), (39, .int .i64 (q : Int))]
def rsQ_o (c : Bool) (b : List UInt8) (bad : Bool) (pl : Int) (its : List Item) (l0 : List Line) (l1 : List Line) (l2 : List Line) (c0 : Int) (c1 : Int) (c2 : Int) (q : Nat) : List (Obj RC) := [.var 85 (.acons (.sl (C := RC) .u8 c b) (.acons (.bool bad) .anil)), .var 30 (.acons (.int .i64 pl) (.acons (.vs 2 (its.length)) (.acons (.acons (.vs 3 (l0.length)) (.acons (.vs 4 (l1.length)) (.acons (.vs 5 (l2.length)) .anil))) (.acons (.arr (C := RC) .int 3 [c0, c1, c2]) .anil)))), .vec (C := RC) .item true its, .vec (C := RC) .line true l0, .vec (C := RC) .line true l1, .vec (C := RC) .line true l2]
noncomputable def rsQ_r (c : Bool) (b : List UInt8) (bad : Bool) (pl : Int) (its : List Item) (l0 : List Line) (l1 : List Line) (l2 : List Line) (c0 : Int) (c1 : Int) (c2 : Int) (q : Nat) := rndO s07 um_2 32 11 60 6 [4, 5, 39] [] [.slot 4 0, .slot 5 0, .path 1 [1], .path 1 [2, 0], .path 1 [2, 1], .path 1 [2, 2]] (rsQ_c c b bad pl its l0 l1 l2 c0 c1 c2 q) (rsQ_o c b bad pl its l0 l1 l2 c0 c1 c2 q)
set_option maxHeartbeats 4000000 in
theorem rsQ_eq0 (c : Bool) (b : List UInt8) (bad : Bool) (pl : Int) (its : List Item) (l0 l1 l2 : List Line) (c0 c1 c2 : Int) : rsQ_r c b bad pl its l0 l1 l2 c0 c1 c2 0 = (bif decide (List.length b ≤ (1000000000000 : Nat)) then bif Prod.snd (getP b (0 : Int) (3 : Int)) != (0 : Int) then bif decide (List.length its = List.length its) && decide (List.length l0 = List.length l0) && decide (List.length l1 = List.length l1) && decide (List.length l2 = List.length l2) && decide ((0 : Int) ≤ (0 : Int) ∧ (0 : Int) ≤ (255 : Int) ∧ (0 : Nat) ≤ (1000000 : Nat) ∧ (List.length l0 ≤ (1000 : Nat) ∧ List.length l1 ≤ (1000 : Nat) ∧ List.length l2 ≤ (1000 : Nat)) ∧ ((0 : Int) ≤ (0 : Int) ∧ (0 : Int) ≤ (2 : Int)) ∧ (0 : Int) ≤ (0 : Int) ∧ (0 : Int) ≤ (16777215 : Int)) then some ((X.normal, [((4 : Nat), D.ptr (0 : Nat) []), ((5 : Nat), D.ptr (1 : Nat) []), ((39 : Nat), D.int .i64 (1 : Int))]), [some (Obj.var (85 : Nat) (.acons (D.sl RTy.u8 true (gLines rdP false (0 : Nat) (0 : Int) (Rd.mk true [] true)).1.b) (.acons (D.bool true) .anil))), some (Obj.var (30 : Nat) (.acons (D.int .i64 pl) (.acons (D.vs (2 : Nat) its.length) (.acons (D.acons (D.vs (3 : Nat) (addL (0 : Int) (0 : Int) l0 (gLines rdP false (0 : Nat) (0 : Int) (Rd.mk true [] true)).2).length) (.acons (D.vs (4 : Nat) (addL (0 : Int) (1 : Int) l1 (gLines rdP false (0 : Nat) (0 : Int) (Rd.mk true [] true)).2).length) (.acons (D.vs (5 : Nat) (addL (0 : Int) (2 : Int) l2 (gLines rdP false (0 : Nat) (0 : Int) (Rd.mk true [] true)).2).length) .anil))) (.acons (D.arr RTy.int (3 : Nat) [(0 : Int), c1, c2]) .anil))))), some (Obj.vec RTy.item true its), some (Obj.vec RTy.line true (addL (0 : Int) (0 : Int) l0 (gLines rdP false (0 : Nat) (0 : Int) (Rd.mk true [] true)).2)), some (Obj.vec RTy.line true (addL (0 : Int) (1 : Int) l1 (gLines rdP false (0 : Nat) (0 : Int) (Rd.mk true [] true)).2)), some (Obj.vec RTy.line true (addL (0 : Int) (2 : Int) l2 (gLines rdP false (0 : Nat) (0 : Int) (Rd.mk true [] true)).2))]) else none else bif decide ((0 : Int) ≤ (3 : Int) ∧ (3 : Int) ≤ (↑b.length : Int)) then bif decide (List.length (List.drop (3 : Nat) b) ≤ (1000000000000 : Nat)) then bif Prod.snd (getP (List.drop (3 : Nat) b) (0 : Int) (1 : Int)) != (0 : Int) then bif decide (List.length its = List.length its) && decide (List.length l0 = List.length l0) && decide (List.length l1 = List.length l1) && decide (List.length l2 = List.length l2) && decide ((0 : Int) ≤ (0 : Int) ∧ (0 : Int) ≤ (255 : Int) ∧ (0 : Nat) ≤ (1000000 : Nat) ∧ (List.length l0 ≤ (1000 : Nat) ∧ List.length l1 ≤ (1000 : Nat) ∧ List.length l2 ≤ (1000 : Nat)) ∧ ((0 : Int) ≤ (0 : Int) ∧ (0 : Int) ≤ (2 : Int)) ∧ (0 : Int) ≤ (0 : Int) ∧ (0 : Int) ≤ (16777215 : Int)) then some ((X.normal, [((4 : Nat), D.ptr (0 : Nat) []), ((5 : Nat), D.ptr (1 : Nat) []), ((39 : Nat), D.int .i64 (1 : Int))]), [some (Obj.var (85 : Nat) (.acons (D.sl RTy.u8 true (gLines rdP false (0 : Nat) (0 : Int) (Rd.mk true [] true)).1.b) (.acons (D.bool true) .anil))), some (Obj.var (30 : Nat) (.acons (D.int .i64 pl) (.acons (D.vs (2 : Nat) its.length) (.acons (D.acons (D.vs (3 : Nat) (addL (0 : Int) (0 : Int) l0 (gLines rdP false (0 : Nat) (0 : Int) (Rd.mk true [] true)).2).length) (.acons (D.vs (4 : Nat) (addL (0 : Int) (1 : Int) l1 (gLines rdP false (0 : Nat) (0 : Int) (Rd.mk true [] true)).2).length) (.acons (D.vs (5 : Nat) (addL (0 : Int) (2 : Int) l2 (gLines rdP false (0 : Nat) (0 : Int) (Rd.mk true [] true)).2).length) .anil))) (.acons (D.arr RTy.int (3 : Nat) [Prod.fst (getP b (0 : Int) (3 : Int)), c1, c2]) .anil))))), some (Obj.vec RTy.item true its), some (Obj.vec RTy.line true (addL (0 : Int) (0 : Int) l0 (gLines rdP false (0 : Nat) (0 : Int) (Rd.mk true [] true)).2)), some (Obj.vec RTy.line true (addL (0 : Int) (1 : Int) l1 (gLines rdP false (0 : Nat) (0 : Int) (Rd.mk true [] true)).2)), some (Obj.vec RTy.line true (addL (0 : Int) (2 : Int) l2 (gLines rdP false (0 : Nat) (0 : Int) (Rd.mk true [] true)).2))]) else none else bif decide ((0 : Int) ≤ (1 : Int) ∧ (1 : Int) ≤ (↑(List.drop (3 : Nat) b).length : Int)) then bif decide (List.length (List.drop (1 : Nat) (List.drop (3 : Nat) b)) ≤ (1000000000000 : Nat)) then bif Prod.snd (getP (List.drop (1 : Nat) (List.drop (3 : Nat) b)) (0 : Int) (3 : Int)) != (0 : Int) then bif decide (List.length its = List.length its) && decide (List.length l0 = List.length l0) && decide (List.length l1 = List.length l1) && decide (List.length l2 = List.length l2) && decide ((0 : Int) ≤ Prod.fst (getP (List.drop (3 : Nat) b) (0 : Int) (1 : Int)) ∧ Prod.fst (getP (List.drop (3 : Nat) b) (0 : Int) (1 : Int)) ≤ (255 : Int) ∧ (0 : Nat) ≤ (1000000 : Nat) ∧ (List.length l0 ≤ (1000 : Nat) ∧ List.length l1 ≤ (1000 : Nat) ∧ List.length l2 ≤ (1000 : Nat)) ∧ ((0 : Int) ≤ (0 : Int) ∧ (0 : Int) ≤ (2 : Int)) ∧ (0 : Int) ≤ (0 : Int) ∧ (0 : Int) ≤ (16777215 : Int)) then some ((X.normal, [((4 : Nat), D.ptr (0 : Nat) []), ((5 : Nat), D.ptr (1 : Nat) []), ((39 : Nat), D.int .i64 (1 : Int))]), [some (Obj.var (85 : Nat) (.acons (D.sl RTy.u8 (gLines rdP false (Int.toNat (getP (List.drop (3 : Nat) b) (0 : Int) (1 : Int)).1 - (0 : Nat)) (0 : Int) (Rd.mk true [] true)).1.c (gLines rdP false (Int.toNat (getP (List.drop (3 : Nat) b) (0 : Int) (1 : Int)).1 - (0 : Nat)) (0 : Int) (Rd.mk true [] true)).1.b) (.acons (D.bool (gLines rdP false (Int.toNat (getP (List.drop (3 : Nat) b) (0 : Int) (1 : Int)).1 - (0 : Nat)) (0 : Int) (Rd.mk true [] true)).1.bad) .anil))), some (Obj.var (30 : Nat) (.acons (D.int .i64 pl) (.acons (D.vs (2 : Nat) its.length) (.acons (D.acons (D.vs (3 : Nat) (addL (0 : Int) (0 : Int) l0 (gLines rdP false (Int.toNat (getP (List.drop (3 : Nat) b) (0 : Int) (1 : Int)).1 - (0 : Nat)) (0 : Int) (Rd.mk true [] true)).2).length) (.acons (D.vs (4 : Nat) (addL (0 : Int) (1 : Int) l1 (gLines rdP false (Int.toNat (getP (List.drop (3 : Nat) b) (0 : Int) (1 : Int)).1 - (0 : Nat)) (0 : Int) (Rd.mk true [] true)).2).length) (.acons (D.vs (5 : Nat) (addL (0 : Int) (2 : Int) l2 (gLines rdP false (Int.toNat (getP (List.drop (3 : Nat) b) (0 : Int) (1 : Int)).1 - (0 : Nat)) (0 : Int) (Rd.mk true [] true)).2).length) .anil))) (.acons (D.arr RTy.int (3 : Nat) [Prod.fst (getP b (0 : Int) (3 : Int)), c1, c2]) .anil))))), some (Obj.vec RTy.item true its), some (Obj.vec RTy.line true (addL (0 : Int) (0 : Int) l0 (gLines rdP false (Int.toNat (getP (List.drop (3 : Nat) b) (0 : Int) (1 : Int)).1 - (0 : Nat)) (0 : Int) (Rd.mk true [] true)).2)), some (Obj.vec RTy.line true (addL (0 : Int) (1 : Int) l1 (gLines rdP false (Int.toNat (getP (List.drop (3 : Nat) b) (0 : Int) (1 : Int)).1 - (0 : Nat)) (0 : Int) (Rd.mk true [] true)).2)), some (Obj.vec RTy.line true (addL (0 : Int) (2 : Int) l2 (gLines rdP false (Int.toNat (getP (List.drop (3 : Nat) b) (0 : Int) (1 : Int)).1 - (0 : Nat)) (0 : Int) (Rd.mk true [] true)).2))]) else none else bif decide ((0 : Int) ≤ (3 : Int) ∧ (3 : Int) ≤ (↑(List.drop (1 : Nat) (List.drop (3 : Nat) b)).length : Int)) then bif bad then bif decide (List.length its = List.length its) && decide (List.length l0 = List.length l0) && decide (List.length l1 = List.length l1) && decide (List.length l2 = List.length l2) && decide ((0 : Int) ≤ Prod.fst (getP (List.drop (3 : Nat) b) (0 : Int) (1 : Int)) ∧ Prod.fst (getP (List.drop (3 : Nat) b) (0 : Int) (1 : Int)) ≤ (255 : Int) ∧ List.length (List.drop (3 : Nat) (List.drop (1 : Nat) (List.drop (3 : Nat) b))) ≤ (1000000 : Nat) ∧ (List.length l0 ≤ (1000 : Nat) ∧ List.length l1 ≤ (1000 : Nat) ∧ List.length l2 ≤ (1000 : Nat)) ∧ ((0 : Int) ≤ (0 : Int) ∧ (0 : Int) ≤ (2 : Int)) ∧ (0 : Int) ≤ Prod.fst (getP (List.drop (1 : Nat) (List.drop (3 : Nat) b)) (0 : Int) (3 : Int)) ∧ Prod.fst (getP (List.drop (1 : Nat) (List.drop (3 : Nat) b)) (0 : Int) (3 : Int)) ≤ (16777215 : Int)) then some ((X.normal, [((4 : Nat), D.ptr (0 : Nat) []), ((5 : Nat), D.ptr (1 : Nat) []), ((39 : Nat), D.int .i64 (1 : Int))]), [some (Obj.var (85 : Nat) (.acons (D.sl RTy.u8 (gLines rdP false (Int.toNat (getP (List.drop (3 : Nat) b) (0 : Int) (1 : Int)).1 - (0 : Nat)) (Prod.fst (getP (List.drop (1 : Nat) (List.drop (3 : Nat) b)) (0 : Int) (3 : Int)) + (0 : Int)) (Rd.mk c (List.drop (3 : Nat) (List.drop (1 : Nat) (List.drop (3 : Nat) b))) true)).1.c (gLines rdP false (Int.toNat (getP (List.drop (3 : Nat) b) (0 : Int) (1 : Int)).1 - (0 : Nat)) (Prod.fst (getP (List.drop (1 : Nat) (List.drop (3 : Nat) b)) (0 : Int) (3 : Int)) + (0 : Int)) (Rd.mk c (List.drop (3 : Nat) (List.drop (1 : Nat) (List.drop (3 : Nat) b))) true)).1.b) (.acons (D.bool (gLines rdP false (Int.toNat (getP (List.drop (3 : Nat) b) (0 : Int) (1 : Int)).1 - (0 : Nat)) (Prod.fst (getP (List.drop (1 : Nat) (List.drop (3 : Nat) b)) (0 : Int) (3 : Int)) + (0 : Int)) (Rd.mk c (List.drop (3 : Nat) (List.drop (1 : Nat) (List.drop (3 : Nat) b))) true)).1.bad) .anil))), some (Obj.var (30 : Nat) (.acons (D.int .i64 pl) (.acons (D.vs (2 : Nat) its.length) (.acons (D.acons (D.vs (3 : Nat) (addL (0 : Int) (0 : Int) l0 (gLines rdP false (Int.toNat (getP (List.drop (3 : Nat) b) (0 : Int) (1 : Int)).1 - (0 : Nat)) (Prod.fst (getP (List.drop (1 : Nat) (List.drop (3 : Nat) b)) (0 : Int) (3 : Int)) + (0 : Int)) (Rd.mk c (List.drop (3 : Nat) (List.drop (1 : Nat) (List.drop (3 : Nat) b))) true)).2).length) (.acons (D.vs (4 : Nat) (addL (0 : Int) (1 : Int) l1 (gLines rdP false (Int.toNat (getP (List.drop (3 : Nat) b) (0 : Int) (1 : Int)).1 - (0 : Nat)) (Prod.fst (getP (List.drop (1 : Nat) (List.drop (3 : Nat) b)) (0 : Int) (3 : Int)) + (0 : Int)) (Rd.mk c (List.drop (3 : Nat) (List.drop (1 : Nat) (List.drop (3 : Nat) b))) true)).2).length) (.acons (D.vs (5 : Nat) (addL (0 : Int) (2 : Int) l2 (gLines rdP false (Int.toNat (getP (List.drop (3 : Nat) b) (0 : Int) (1 : Int)).1 - (0 : Nat)) (Prod.fst (getP (List.drop (1 : Nat) (List.drop (3 : Nat) b)) (0 : Int) (3 : Int)) + (0 : Int)) (Rd.mk c (List.drop (3 : Nat) (List.drop (1 : Nat) (List.drop (3 : Nat) b))) true)).2).length) .anil))) (.acons (D.arr RTy.int (3 : Nat) [Prod.fst (getP b (0 : Int) (3 : Int)), c1, c2]) .anil))))), some (Obj.vec RTy.item true its), some (Obj.vec RTy.line true (addL (0 : Int) (0 : Int) l0 (gLines rdP false (Int.toNat (getP (List.drop (3 : Nat) b) (0 : Int) (1 : Int)).1 - (0 : Nat)) (Prod.fst (getP (List.drop (1 : Nat) (List.drop (3 : Nat) b)) (0 : Int) (3 : Int)) + (0 : Int)) (Rd.mk c (List.drop (3 : Nat) (List.drop (1 : Nat) (List.drop (3 : Nat) b))) true)).2)), some (Obj.vec RTy.line true (addL (0 : Int) (1 : Int) l1 (gLines rdP false (Int.toNat (getP (List.drop (3 : Nat) b) (0 : Int) (1 : Int)).1 - (0 : Nat)) (Prod.fst (getP (List.drop (1 : Nat) (List.drop (3 : Nat) b)) (0 : Int) (3 : Int)) + (0 : Int)) (Rd.mk c (List.drop (3 : Nat) (List.drop (1 : Nat) (List.drop (3 : Nat) b))) true)).2)), some (Obj.vec RTy.line true (addL (0 : Int) (2 : Int) l2 (gLines rdP false (Int.toNat (getP (List.drop (3 : Nat) b) (0 : Int) (1 : Int)).1 - (0 : Nat)) (Prod.fst (getP (List.drop (1 : Nat) (List.drop (3 : Nat) b)) (0 : Int) (3 : Int)) + (0 : Int)) (Rd.mk c (List.drop (3 : Nat) (List.drop (1 : Nat) (List.drop (3 : Nat) b))) true)).2))]) else none else bif Prod.fst (getP (List.drop (3 : Nat) b) (0 : Int) (1 : Int)) == (0 : Int) then bif decide (List.length its = List.length its) && decide (List.length l0 = List.length l0) && decide (List.length l1 = List.length l1) && decide (List.length l2 = List.length l2) && decide ((0 : Int) ≤ Prod.fst (getP (List.drop (3 : Nat) b) (0 : Int) (1 : Int)) ∧ Prod.fst (getP (List.drop (3 : Nat) b) (0 : Int) (1 : Int)) ≤ (255 : Int) ∧ List.length (List.drop (3 : Nat) (List.drop (1 : Nat) (List.drop (3 : Nat) b))) ≤ (1000000 : Nat) ∧ (List.length l0 ≤ (1000 : Nat) ∧ List.length l1 ≤ (1000 : Nat) ∧ List.length l2 ≤ (1000 : Nat)) ∧ ((0 : Int) ≤ (0 : Int) ∧ (0 : Int) ≤ (2 : Int)) ∧ (0 : Int) ≤ Prod.fst (getP (List.drop (1 : Nat) (List.drop (3 : Nat) b)) (0 : Int) (3 : Int)) ∧ Prod.fst (getP (List.drop (1 : Nat) (List.drop (3 : Nat) b)) (0 : Int) (3 : Int)) ≤ (16777215 : Int)) then some ((X.normal, [((4 : Nat), D.ptr (0 : Nat) []), ((5 : Nat), D.ptr (1 : Nat) []), ((39 : Nat), D.int .i64 (1 : Int))]), [some (Obj.var (85 : Nat) (.acons (D.sl RTy.u8 (gLines rdP false (Int.toNat (getP (List.drop (3 : Nat) b) (0 : Int) (1 : Int)).1 - (0 : Nat)) (Prod.fst (getP (List.drop (1 : Nat) (List.drop (3 : Nat) b)) (0 : Int) (3 : Int)) + (0 : Int)) (Rd.mk c (List.drop (3 : Nat) (List.drop (1 : Nat) (List.drop (3 : Nat) b))) (Prod.fst (getP (List.drop (1 : Nat) (List.drop (3 : Nat) b)) (0 : Int) (3 : Int)) != (0 : Int)))).1.c (gLines rdP false (Int.toNat (getP (List.drop (3 : Nat) b) (0 : Int) (1 : Int)).1 - (0 : Nat)) (Prod.fst (getP (List.drop (1 : Nat) (List.drop (3 : Nat) b)) (0 : Int) (3 : Int)) + (0 : Int)) (Rd.mk c (List.drop (3 : Nat) (List.drop (1 : Nat) (List.drop (3 : Nat) b))) (Prod.fst (getP (List.drop (1 : Nat) (List.drop (3 : Nat) b)) (0 : Int) (3 : Int)) != (0 : Int)))).1.b) (.acons (D.bool (gLines rdP false (Int.toNat (getP (List.drop (3 : Nat) b) (0 : Int) (1 : Int)).1 - (0 : Nat)) (Prod.fst (getP (List.drop (1 : Nat) (List.drop (3 : Nat) b)) (0 : Int) (3 : Int)) + (0 : Int)) (Rd.mk c (List.drop (3 : Nat) (List.drop (1 : Nat) (List.drop (3 : Nat) b))) (Prod.fst (getP (List.drop (1 : Nat) (List.drop (3 : Nat) b)) (0 : Int) (3 : Int)) != (0 : Int)))).1.bad) .anil))), some (Obj.var (30 : Nat) (.acons (D.int .i64 pl) (.acons (D.vs (2 : Nat) its.length) (.acons (D.acons (D.vs (3 : Nat) (addL (0 : Int) (0 : Int) l0 (gLines rdP false (Int.toNat (getP (List.drop (3 : Nat) b) (0 : Int) (1 : Int)).1 - (0 : Nat)) (Prod.fst (getP (List.drop (1 : Nat) (List.drop (3 : Nat) b)) (0 : Int) (3 : Int)) + (0 : Int)) (Rd.mk c (List.drop (3 : Nat) (List.drop (1 : Nat) (List.drop (3 : Nat) b))) (Prod.fst (getP (List.drop (1 : Nat) (List.drop (3 : Nat) b)) (0 : Int) (3 : Int)) != (0 : Int)))).2).length) (.acons (D.vs (4 : Nat) (addL (0 : Int) (1 : Int) l1 (gLines rdP false (Int.toNat (getP (List.drop (3 : Nat) b) (0 : Int) (1 : Int)).1 - (0 : Nat)) (Prod.fst (getP (List.drop (1 : Nat) (List.drop (3 : Nat) b)) (0 : Int) (3 : Int)) + (0 : Int)) (Rd.mk c (List.drop (3 : Nat) (List.drop (1 : Nat) (List.drop (3 : Nat) b))) (Prod.fst (getP (List.drop (1 : Nat) (List.drop (3 : Nat) b)) (0 : Int) (3 : Int)) != (0 : Int)))).2).length) (.acons (D.vs (5 : Nat) (addL (0 : Int) (2 : Int) l2 (gLines rdP false (Int.toNat (getP (List.drop (3 : Nat) b) (0 : Int) (1 : Int)).1 - (0 : Nat)) (Prod.fst (getP (List.drop (1 : Nat) (List.drop (3 : Nat) b)) (0 : Int) (3 : Int)) + (0 : Int)) (Rd.mk c (List.drop (3 : Nat) (List.drop (1 : Nat) (List.drop (3 : Nat) b))) (Prod.fst (getP (List.drop (1 : Nat) (List.drop (3 : Nat) b)) (0 : Int) (3 : Int)) != (0 : Int)))).2).length) .anil))) (.acons (D.arr RTy.int (3 : Nat) [Prod.fst (getP b (0 : Int) (3 : Int)), c1, c2]) .anil))))), some (Obj.vec RTy.item true its), some (Obj.vec RTy.line true (addL (0 : Int) (0 : Int) l0 (gLines rdP false (Int.toNat (getP (List.drop (3 : Nat) b) (0 : Int) (1 : Int)).1 - (0 : Nat)) (Prod.fst (getP (List.drop (1 : Nat) (List.drop (3 : Nat) b)) (0 : Int) (3 : Int)) + (0 : Int)) (Rd.mk c (List.drop (3 : Nat) (List.drop (1 : Nat) (List.drop (3 : Nat) b))) (Prod.fst (getP (List.drop (1 : Nat) (List.drop (3 : Nat) b)) (0 : Int) (3 : Int)) != (0 : Int)))).2)), some (Obj.vec RTy.line true (addL (0 : Int) (1 : Int) l1 (gLines rdP false (Int.toNat (getP (List.drop (3 : Nat) b) (0 : Int) (1 : Int)).1 - (0 : Nat)) (Prod.fst (getP (List.drop (1 : Nat) (List.drop (3 : Nat) b)) (0 : Int) (3 : Int)) + (0 : Int)) (Rd.mk c (List.drop (3 : Nat) (List.drop (1 : Nat) (List.drop (3 : Nat) b))) (Prod.fst (getP (List.drop (1 : Nat) (List.drop (3 : Nat) b)) (0 : Int) (3 : Int)) != (0 : Int)))).2)), some (Obj.vec RTy.line true (addL (0 : Int) (2 : Int) l2 (gLines rdP false (Int.toNat (getP (List.drop (3 : Nat) b) (0 : Int) (1 : Int)).1 - (0 : Nat)) (Prod.fst (getP (List.drop (1 : Nat) (List.drop (3 : Nat) b)) (0 : Int) (3 : Int)) + (0 : Int)) (Rd.mk c (List.drop (3 : Nat) (List.drop (1 : Nat) (List.drop (3 : Nat) b))) (Prod.fst (getP (List.drop (1 : Nat) (List.drop (3 : Nat) b)) (0 : Int) (3 : Int)) != (0 : Int)))).2))]) else none else bif decide (List.length its = List.length its) && decide (List.length l0 = List.length l0) && decide (List.length l1 = List.length l1) && decide (List.length l2 = List.length l2) && decide ((0 : Int) ≤ Prod.fst (getP (List.drop (3 : Nat) b) (0 : Int) (1 : Int)) ∧ Prod.fst (getP (List.drop (3 : Nat) b) (0 : Int) (1 : Int)) ≤ (255 : Int) ∧ List.length (List.drop (3 : Nat) (List.drop (1 : Nat) (List.drop (3 : Nat) b))) ≤ (1000000 : Nat) ∧ (List.length l0 ≤ (1000 : Nat) ∧ List.length l1 ≤ (1000 : Nat) ∧ List.length l2 ≤ (1000 : Nat)) ∧ ((0 : Int) ≤ (0 : Int) ∧ (0 : Int) ≤ (2 : Int)) ∧ (0 : Int) ≤ Prod.fst (getP (List.drop (1 : Nat) (List.drop (3 : Nat) b)) (0 : Int) (3 : Int)) ∧ Prod.fst (getP (List.drop (1 : Nat) (List.drop (3 : Nat) b)) (0 : Int) (3 : Int)) ≤ (16777215 : Int)) then some ((X.normal, [((4 : Nat), D.ptr (0 : Nat) []), ((5 : Nat), D.ptr (1 : Nat) []), ((39 : Nat), D.int .i64 (1 : Int))]), [some (Obj.var (85 : Nat) (.acons (D.sl RTy.u8 (gLines rdP false (Int.toNat (getP (List.drop (3 : Nat) b) (0 : Int) (1 : Int)).1 - (0 : Nat)) (Prod.fst (getP (List.drop (1 : Nat) (List.drop (3 : Nat) b)) (0 : Int) (3 : Int)) + (0 : Int)) (Rd.mk c (List.drop (3 : Nat) (List.drop (1 : Nat) (List.drop (3 : Nat) b))) false)).1.c (gLines rdP false (Int.toNat (getP (List.drop (3 : Nat) b) (0 : Int) (1 : Int)).1 - (0 : Nat)) (Prod.fst (getP (List.drop (1 : Nat) (List.drop (3 : Nat) b)) (0 : Int) (3 : Int)) + (0 : Int)) (Rd.mk c (List.drop (3 : Nat) (List.drop (1 : Nat) (List.drop (3 : Nat) b))) false)).1.b) (.acons (D.bool (gLines rdP false (Int.toNat (getP (List.drop (3 : Nat) b) (0 : Int) (1 : Int)).1 - (0 : Nat)) (Prod.fst (getP (List.drop (1 : Nat) (List.drop (3 : Nat) b)) (0 : Int) (3 : Int)) + (0 : Int)) (Rd.mk c (List.drop (3 : Nat) (List.drop (1 : Nat) (List.drop (3 : Nat) b))) false)).1.bad) .anil))), some (Obj.var (30 : Nat) (.acons (D.int .i64 pl) (.acons (D.vs (2 : Nat) its.length) (.acons (D.acons (D.vs (3 : Nat) (addL (0 : Int) (0 : Int) l0 (gLines rdP false (Int.toNat (getP (List.drop (3 : Nat) b) (0 : Int) (1 : Int)).1 - (0 : Nat)) (Prod.fst (getP (List.drop (1 : Nat) (List.drop (3 : Nat) b)) (0 : Int) (3 : Int)) + (0 : Int)) (Rd.mk c (List.drop (3 : Nat) (List.drop (1 : Nat) (List.drop (3 : Nat) b))) false)).2).length) (.acons (D.vs (4 : Nat) (addL (0 : Int) (1 : Int) l1 (gLines rdP false (Int.toNat (getP (List.drop (3 : Nat) b) (0 : Int) (1 : Int)).1 - (0 : Nat)) (Prod.fst (getP (List.drop (1 : Nat) (List.drop (3 : Nat) b)) (0 : Int) (3 : Int)) + (0 : Int)) (Rd.mk c (List.drop (3 : Nat) (List.drop (1 : Nat) (List.drop (3 : Nat) b))) false)).2).length) (.acons (D.vs (5 : Nat) (addL (0 : Int) (2 : Int) l2 (gLines rdP false (Int.toNat (getP (List.drop (3 : Nat) b) (0 : Int) (1 : Int)).1 - (0 : Nat)) (Prod.fst (getP (List.drop (1 : Nat) (List.drop (3 : Nat) b)) (0 : Int) (3 : Int)) + (0 : Int)) (Rd.mk c (List.drop (3 : Nat) (List.drop (1 : Nat) (List.drop (3 : Nat) b))) false)).2).length) .anil))) (.acons (D.arr RTy.int (3 : Nat) [Prod.fst (getP b (0 : Int) (3 : Int)), c1, c2]) .anil))))), some (Obj.vec RTy.item true its), some (Obj.vec RTy.line true (addL (0 : Int) (0 : Int) l0 (gLines rdP false (Int.toNat (getP (List.drop (3 : Nat) b) (0 : Int) (1 : Int)).1 - (0 : Nat)) (Prod.fst (getP (List.drop (1 : Nat) (List.drop (3 : Nat) b)) (0 : Int) (3 : Int)) + (0 : Int)) (Rd.mk c (List.drop (3 : Nat) (List.drop (1 : Nat) (List.drop (3 : Nat) b))) false)).2)), some (Obj.vec RTy.line true (addL (0 : Int) (1 : Int) l1 (gLines rdP false (Int.toNat (getP (List.drop (3 : Nat) b) (0 : Int) (1 : Int)).1 - (0 : Nat)) (Prod.fst (getP (List.drop (1 : Nat) (List.drop (3 : Nat) b)) (0 : Int) (3 : Int)) + (0 : Int)) (Rd.mk c (List.drop (3 : Nat) (List.drop (1 : Nat) (List.drop (3 : Nat) b))) false)).2)), some (Obj.vec RTy.line true (addL (0 : Int) (2 : Int) l2 (gLines rdP false (Int.toNat (getP (List.drop (3 : Nat) b) (0 : Int) (1 : Int)).1 - (0 : Nat)) (Prod.fst (getP (List.drop (1 : Nat) (List.drop (3 : Nat) b)) (0 : Int) (3 : Int)) + (0 : Int)) (Rd.mk c (List.drop (3 : Nat) (List.drop (1 : Nat) (List.drop (3 : Nat) b))) false)).2))]) else none else none else none else none else none else none else none) := by kernel_rfl
set_option maxHeartbeats 4000000 in
theorem rsQ_eq1 (c : Bool) (b : List UInt8) (bad : Bool) (pl : Int) (its : List Item) (l0 l1 l2 : List Line) (c0 c1 c2 : Int) : rsQ_r c b bad pl its l0 l1 l2 c0 c1 c2 1 = (bif decide (List.length b ≤ (1000000000000 : Nat)) then bif Prod.snd (getP b (0 : Int) (3 : Int)) != (0 : Int) then bif decide (List.length its = List.length its) && decide (List.length l0 = List.length l0) && decide (List.length l1 = List.length l1) && decide (List.length l2 = List.length l2) && decide ((0 : Int) ≤ (0 : Int) ∧ (0 : Int) ≤ (255 : Int) ∧ (0 : Nat) ≤ (1000000 : Nat) ∧ (List.length l0 ≤ (1000 : Nat) ∧ List.length l1 ≤ (1000 : Nat) ∧ List.length l2 ≤ (1000 : Nat)) ∧ ((0 : Int) ≤ (1 : Int) ∧ (1 : Int) ≤ (2 : Int)) ∧ (0 : Int) ≤ (0 : Int) ∧ (0 : Int) ≤ (16777215 : Int)) then some ((X.normal, [((4 : Nat), D.ptr (0 : Nat) []), ((5 : Nat), D.ptr (1 : Nat) []), ((39 : Nat), D.int .i64 (2 : Int))]), [some (Obj.var (85 : Nat) (.acons (D.sl RTy.u8 true (gLines rdP false (0 : Nat) (0 : Int) (Rd.mk true [] true)).1.b) (.acons (D.bool true) .anil))), some (Obj.var (30 : Nat) (.acons (D.int .i64 pl) (.acons (D.vs (2 : Nat) its.length) (.acons (D.acons (D.vs (3 : Nat) (addL (1 : Int) (0 : Int) l0 (gLines rdP false (0 : Nat) (0 : Int) (Rd.mk true [] true)).2).length) (.acons (D.vs (4 : Nat) (addL (1 : Int) (1 : Int) l1 (gLines rdP false (0 : Nat) (0 : Int) (Rd.mk true [] true)).2).length) (.acons (D.vs (5 : Nat) (addL (1 : Int) (2 : Int) l2 (gLines rdP false (0 : Nat) (0 : Int) (Rd.mk true [] true)).2).length) .anil))) (.acons (D.arr RTy.int (3 : Nat) [c0, (0 : Int), c2]) .anil))))), some (Obj.vec RTy.item true its), some (Obj.vec RTy.line true (addL (1 : Int) (0 : Int) l0 (gLines rdP false (0 : Nat) (0 : Int) (Rd.mk true [] true)).2)), some (Obj.vec RTy.line true (addL (1 : Int) (1 : Int) l1 (gLines rdP false (0 : Nat) (0 : Int) (Rd.mk true [] true)).2)), some (Obj.vec RTy.line true (addL (1 : Int) (2 : Int) l2 (gLines rdP false (0 : Nat) (0 : Int) (Rd.mk true [] true)).2))]) else none else bif decide ((0 : Int) ≤ (3 : Int) ∧ (3 : Int) ≤ (↑b.length : Int)) then bif decide (List.length (List.drop (3 : Nat) b) ≤ (1000000000000 : Nat)) then bif Prod.snd (getP (List.drop (3 : Nat) b) (0 : Int) (1 : Int)) != (0 : Int) then bif decide (List.length its = List.length its) && decide (List.length l0 = List.length l0) && decide (List.length l1 = List.length l1) && decide (List.length l2 = List.length l2) && decide ((0 : Int) ≤ (0 : Int) ∧ (0 : Int) ≤ (255 : Int) ∧ (0 : Nat) ≤ (1000000 : Nat) ∧ (List.length l0 ≤ (1000 : Nat) ∧ List.length l1 ≤ (1000 : Nat) ∧ List.length l2 ≤ (1000 : Nat)) ∧ ((0 : Int) ≤ (1 : Int) ∧ (1 : Int) ≤ (2 : Int)) ∧ (0 : Int) ≤ (0 : Int) ∧ (0 : Int) ≤ (16777215 : Int)) then some ((X.normal, [((4 : Nat), D.ptr (0 : Nat) []), ((5 : Nat), D.ptr (1 : Nat) []), ((39 : Nat), D.int .i64 (2 : Int))]), [some (Obj.var (85 : Nat) (.acons (D.sl RTy.u8 true (gLines rdP false (0 : Nat) (0 : Int) (Rd.mk true [] true)).1.b) (.acons (D.bool true) .anil))), some (Obj.var (30 : Nat) (.acons (D.int .i64 pl) (.acons (D.vs (2 : Nat) its.length) (.acons (D.acons (D.vs (3 : Nat) (addL (1 : Int) (0 : Int) l0 (gLines rdP false (0 : Nat) (0 : Int) (Rd.mk true [] true)).2).length) (.acons (D.vs (4 : Nat) (addL (1 : Int) (1 : Int) l1 (gLines rdP false (0 : Nat) (0 : Int) (Rd.mk true [] true)).2).length) (.acons (D.vs (5 : Nat) (addL (1 : Int) (2 : Int) l2 (gLines rdP false (0 : Nat) (0 : Int) (Rd.mk true [] true)).2).length) .anil))) (.acons (D.arr RTy.int (3 : Nat) [c0, Prod.fst (getP b (0 : Int) (3 : Int)), c2]) .anil))))), some (Obj.vec RTy.item true its), some (Obj.vec RTy.line true (addL (1 : Int) (0 : Int) l0 (gLines rdP false (0 : Nat) (0 : Int) (Rd.mk true [] true)).2)), some (Obj.vec RTy.line true (addL (1 : Int) (1 : Int) l1 (gLines rdP false (0 : Nat) (0 : Int) (Rd.mk true [] true)).2)), some (Obj.vec RTy.line true (addL (1 : Int) (2 : Int) l2 (gLines rdP false (0 : Nat) (0 : Int) (Rd.mk true [] true)).2))]) else none else bif decide ((0 : Int) ≤ (1 : Int) ∧ (1 : Int) ≤ (↑(List.drop (3 : Nat) b).length : Int)) then bif decide (List.length (List.drop (1 : Nat) (List.drop (3 : Nat) b)) ≤ (1000000000000 : Nat)) then bif Prod.snd (getP (List.drop (1 : Nat) (List.drop (3 : Nat) b)) (0 : Int) (3 : Int)) != (0 : Int) then bif decide (List.length its = List.length its) && decide (List.length l0 = List.length l0) && decide (List.length l1 = List.length l1) && decide (List.length l2 = List.length l2) && decide ((0 : Int) ≤ Prod.fst (getP (List.drop (3 : Nat) b) (0 : Int) (1 : Int)) ∧ Prod.fst (getP (List.drop (3 : Nat) b) (0 : Int) (1 : Int)) ≤ (255 : Int) ∧ (0 : Nat) ≤ (1000000 : Nat) ∧ (List.length l0 ≤ (1000 : Nat) ∧ List.length l1 ≤ (1000 : Nat) ∧ List.length l2 ≤ (1000 : Nat)) ∧ ((0 : Int) ≤ (1 : Int) ∧ (1 : Int) ≤ (2 : Int)) ∧ (0 : Int) ≤ (0 : Int) ∧ (0 : Int) ≤ (16777215 : Int)) then some ((X.normal, [((4 : Nat), D.ptr (0 : Nat) []), ((5 : Nat), D.ptr (1 : Nat) []), ((39 : Nat), D.int .i64 (2 : Int))]), [some (Obj.var (85 : Nat) (.acons (D.sl RTy.u8 (gLines rdP false (Int.toNat (getP (List.drop (3 : Nat) b) (0 : Int) (1 : Int)).1 - (0 : Nat)) (0 : Int) (Rd.mk true [] true)).1.c (gLines rdP false (Int.toNat (getP (List.drop (3 : Nat) b) (0 : Int) (1 : Int)).1 - (0 : Nat)) (0 : Int) (Rd.mk true [] true)).1.b) (.acons (D.bool (gLines rdP false (Int.toNat (getP (List.drop (3 : Nat) b) (0 : Int) (1 : Int)).1 - (0 : Nat)) (0 : Int) (Rd.mk true [] true)).1.bad) .anil))), some (Obj.var (30 : Nat) (.acons (D.int .i64 pl) (.acons (D.vs (2 : Nat) its.length) (.acons (D.acons (D.vs (3 : Nat) (addL (1 : Int) (0 : Int) l0 (gLines rdP false (Int.toNat (getP (List.drop (3 : Nat) b) (0 : Int) (1 : Int)).1 - (0 : Nat)) (0 : Int) (Rd.mk true [] true)).2).length) (.acons (D.vs (4 : Nat) (addL (1 : Int) (1 : Int) l1 (gLines rdP false (Int.toNat (getP (List.drop (3 : Nat) b) (0 : Int) (1 : Int)).1 - (0 : Nat)) (0 : Int) (Rd.mk true [] true)).2).length) (.acons (D.vs (5 : Nat) (addL (1 : Int) (2 : Int) l2 (gLines rdP false (Int.toNat (getP (List.drop (3 : Nat) b) (0 : Int) (1 : Int)).1 - (0 : Nat)) (0 : Int) (Rd.mk true [] true)).2).length) .anil))) (.acons (D.arr RTy.int (3 : Nat) [c0, Prod.fst (getP b (0 : Int) (3 : Int)), c2]) .anil))))), some (Obj.vec RTy.item true its), some (Obj.vec RTy.line true (addL (1 : Int) (0 : Int) l0 (gLines rdP false (Int.toNat (getP (List.drop (3 : Nat) b) (0 : Int) (1 : Int)).1 - (0 : Nat)) (0 : Int) (Rd.mk true [] true)).2)), some (Obj.vec RTy.line true (addL (1 : Int) (1 : Int) l1 (gLines rdP false (Int.toNat (getP (List.drop (3 : Nat) b) (0 : Int) (1 : Int)).1 - (0 : Nat)) (0 : Int) (Rd.mk true [] true)).2)), some (Obj.vec RTy.line true (addL (1 : Int) (2 : Int) l2 (gLines rdP false (Int.toNat (getP (List.drop (3 : Nat) b) (0 : Int) (1 : Int)).1 - (0 : Nat)) (0 : Int) (Rd.mk true [] true)).2))]) else none else bif decide ((0 : Int) ≤ (3 : Int) ∧ (3 : Int) ≤ (↑(List.drop (1 : Nat) (List.drop (3 : Nat) b)).length : Int)) then bif bad then bif decide (List.length its = List.length its) && decide (List.length l0 = List.length l0) && decide (List.length l1 = List.length l1) && decide (List.length l2 = List.length l2) && decide ((0 : Int) ≤ Prod.fst (getP (List.drop (3 : Nat) b) (0 : Int) (1 : Int)) ∧ Prod.fst (getP (List.drop (3 : Nat) b) (0 : Int) (1 : Int)) ≤ (255 : Int) ∧ List.length (List.drop (3 : Nat) (List.drop (1 : Nat) (List.drop (3 : Nat) b))) ≤ (1000000 : Nat) ∧ (List.length l0 ≤ (1000 : Nat) ∧ List.length l1 ≤ (1000 : Nat) ∧ List.length l2 ≤ (1000 : Nat)) ∧ ((0 : Int) ≤ (1 : Int) ∧ (1 : Int) ≤ (2 : Int)) ∧ (0 : Int) ≤ Prod.fst (getP (List.drop (1 : Nat) (List.drop (3 : Nat) b)) (0 : Int) (3 : Int)) ∧ Prod.fst (getP (List.drop (1 : Nat) (List.drop (3 : Nat) b)) (0 : Int) (3 : Int)) ≤ (16777215 : Int)) then some ((X.normal, [((4 : Nat), D.ptr (0 : Nat) []), ((5 : Nat), D.ptr (1 : Nat) []), ((39 : Nat), D.int .i64 (2 : Int))]), [some (Obj.var (85 : Nat) (.acons (D.sl RTy.u8 (gLines rdP false (Int.toNat (getP (List.drop (3 : Nat) b) (0 : Int) (1 : Int)).1 - (0 : Nat)) (Prod.fst (getP (List.drop (1 : Nat) (List.drop (3 : Nat) b)) (0 : Int) (3 : Int)) + (0 : Int)) (Rd.mk c (List.drop (3 : Nat) (List.drop (1 : Nat) (List.drop (3 : Nat) b))) true)).1.c (gLines rdP false (Int.toNat (getP (List.drop (3 : Nat) b) (0 : Int) (1 : Int)).1 - (0 : Nat)) (Prod.fst (getP (List.drop (1 : Nat) (List.drop (3 : Nat) b)) (0 : Int) (3 : Int)) + (0 : Int)) (Rd.mk c (List.drop (3 : Nat) (List.drop (1 : Nat) (List.drop (3 : Nat) b))) true)).1.b) (.acons (D.bool (gLines rdP false (Int.toNat (getP (List.drop (3 : Nat) b) (0 : Int) (1 : Int)).1 - (0 : Nat)) (Prod.fst (getP (List.drop (1 : Nat) (List.drop (3 : Nat) b)) (0 : Int) (3 : Int)) + (0 : Int)) (Rd.mk c (List.drop (3 : Nat) (List.drop (1 : Nat) (List.drop (3 : Nat) b))) true)).1.bad) .anil))), some (Obj.var (30 : Nat) (.acons (D.int .i64 pl) (.acons (D.vs (2 : Nat) its.length) (.acons (D.acons (D.vs (3 : Nat) (addL (1 : Int) (0 : Int) l0 (gLines rdP false (Int.toNat (getP (List.drop (3 : Nat) b) (0 : Int) (1 : Int)).1 - (0 : Nat)) (Prod.fst (getP (List.drop (1 : Nat) (List.drop (3 : Nat) b)) (0 : Int) (3 : Int)) + (0 : Int)) (Rd.mk c (List.drop (3 : Nat) (List.drop (1 : Nat) (List.drop (3 : Nat) b))) true)).2).length) (.acons (D.vs (4 : Nat) (addL (1 : Int) (1 : Int) l1 (gLines rdP false (Int.toNat (getP (List.drop (3 : Nat) b) (0 : Int) (1 : Int)).1 - (0 : Nat)) (Prod.fst (getP (List.drop (1 : Nat) (List.drop (3 : Nat) b)) (0 : Int) (3 : Int)) + (0 : Int)) (Rd.mk c (List.drop (3 : Nat) (List.drop (1 : Nat) (List.drop (3 : Nat) b))) true)).2).length) (.acons (D.vs (5 : Nat) (addL (1 : Int) (2 : Int) l2 (gLines rdP false (Int.toNat (getP (List.drop (3 : Nat) b) (0 : Int) (1 : Int)).1 - (0 : Nat)) (Prod.fst (getP (List.drop (1 : Nat) (List.drop (3 : Nat) b)) (0 : Int) (3 : Int)) + (0 : Int)) (Rd.mk c (List.drop (3 : Nat) (List.drop (1 : Nat) (List.drop (3 : Nat) b))) true)).2).length) .anil))) (.acons (D.arr RTy.int (3 : Nat) [c0, Prod.fst (getP b (0 : Int) (3 : Int)), c2]) .anil))))), some (Obj.vec RTy.item true its), some (Obj.vec RTy.line true (addL (1 : Int) (0 : Int) l0 (gLines rdP false (Int.toNat (getP (List.drop (3 : Nat) b) (0 : Int) (1 : Int)).1 - (0 : Nat)) (Prod.fst (getP (List.drop (1 : Nat) (List.drop (3 : Nat) b)) (0 : Int) (3 : Int)) + (0 : Int)) (Rd.mk c (List.drop (3 : Nat) (List.drop (1 : Nat) (List.drop (3 : Nat) b))) true)).2)), some (Obj.vec RTy.line true (addL (1 : Int) (1 : Int) l1 (gLines rdP false (Int.toNat (getP (List.drop (3 : Nat) b) (0 : Int) (1 : Int)).1 - (0 : Nat)) (Prod.fst (getP (List.drop (1 : Nat) (List.drop (3 : Nat) b)) (0 : Int) (3 : Int)) + (0 : Int)) (Rd.mk c (List.drop (3 : Nat) (List.drop (1 : Nat) (List.drop (3 : Nat) b))) true)).2)), some (Obj.vec RTy.line true (addL (1 : Int) (2 : Int) l2 (gLines rdP false (Int.toNat (getP (List.drop (3 : Nat) b) (0 : Int) (1 : Int)).1 - (0 : Nat)) (Prod.fst (getP (List.drop (1 : Nat) (List.drop (3 : Nat) b)) (0 : Int) (3 : Int)) + (0 : Int)) (Rd.mk c (List.drop (3 : Nat) (List.drop (1 : Nat) (List.drop (3 : Nat) b))) true)).2))]) else none else bif Prod.fst (getP (List.drop (3 : Nat) b) (0 : Int) (1 : Int)) == (0 : Int) then bif decide (List.length its = List.length its) && decide (List.length l0 = List.length l0) && decide (List.length l1 = List.length l1) && decide (List.length l2 = List.length l2) && decide ((0 : Int) ≤ Prod.fst (getP (List.drop (3 : Nat) b) (0 : Int) (1 : Int)) ∧ Prod.fst (getP (List.drop (3 : Nat) b) (0 : Int) (1 : Int)) ≤ (255 : Int) ∧ List.length (List.drop (3 : Nat) (List.drop (1 : Nat) (List.drop (3 : Nat) b))) ≤ (1000000 : Nat) ∧ (List.length l0 ≤ (1000 : Nat) ∧ List.length l1 ≤ (1000 : Nat) ∧ List.length l2 ≤ (1000 : Nat)) ∧ ((0 : Int) ≤ (1 : Int) ∧ (1 : Int) ≤ (2 : Int)) ∧ (0 : Int) ≤ Prod.fst (getP (List.drop (1 : Nat) (List.drop (3 : Nat) b)) (0 : Int) (3 : Int)) ∧ Prod.fst (getP (List.drop (1 : Nat) (List.drop (3 : Nat) b)) (0 : Int) (3 : Int)) ≤ (16777215 : Int)) then some ((X.normal, [((4 : Nat), D.ptr (0 : Nat) []), ((5 : Nat), D.ptr (1 : Nat) []), ((39 : Nat), D.int .i64 (2 : Int))]), [some (Obj.var (85 : Nat) (.acons (D.sl RTy.u8 (gLines rdP false (Int.toNat (getP (List.drop (3 : Nat) b) (0 : Int) (1 : Int)).1 - (0 : Nat)) (Prod.fst (getP (List.drop (1 : Nat) (List.drop (3 : Nat) b)) (0 : Int) (3 : Int)) + (0 : Int)) (Rd.mk c (List.drop (3 : Nat) (List.drop (1 : Nat) (List.drop (3 : Nat) b))) (Prod.fst (getP (List.drop (1 : Nat) (List.drop (3 : Nat) b)) (0 : Int) (3 : Int)) != (0 : Int)))).1.c (gLines rdP false (Int.toNat (getP (List.drop (3 : Nat) b) (0 : Int) (1 : Int)).1 - (0 : Nat)) (Prod.fst (getP (List.drop (1 : Nat) (List.drop (3 : Nat) b)) (0 : Int) (3 : Int)) + (0 : Int)) (Rd.mk c (List.drop (3 : Nat) (List.drop (1 : Nat) (List.drop (3 : Nat) b))) (Prod.fst (getP (List.drop (1 : Nat) (List.drop (3 : Nat) b)) (0 : Int) (3 : Int)) != (0 : Int)))).1.b) (.acons (D.bool (gLines rdP false (Int.toNat (getP (List.drop (3 : Nat) b) (0 : Int) (1 : Int)).1 - (0 : Nat)) (Prod.fst (getP (List.drop (1 : Nat) (List.drop (3 : Nat) b)) (0 : Int) (3 : Int)) + (0 : Int)) (Rd.mk c (List.drop (3 : Nat) (List.drop (1 : Nat) (List.drop (3 : Nat) b))) (Prod.fst (getP (List.drop (1 : Nat) (List.drop (3 : Nat) b)) (0 : Int) (3 : Int)) != (0 : Int)))).1.bad) .anil))), some (Obj.var (30 : Nat) (.acons (D.int .i64 pl) (.acons (D.vs (2 : Nat) its.length) (.acons (D.acons (D.vs (3 : Nat) (addL (1 : Int) (0 : Int) l0 (gLines rdP false (Int.toNat (getP (List.drop (3 : Nat) b) (0 : Int) (1 : Int)).1 - (0 : Nat)) (Prod.fst (getP (List.drop (1 : Nat) (List.drop (3 : Nat) b)) (0 : Int) (3 : Int)) + (0 : Int)) (Rd.mk c (List.drop (3 : Nat) (List.drop (1 : Nat) (List.drop (3 : Nat) b))) (Prod.fst (getP (List.drop (1 : Nat) (List.drop (3 : Nat) b)) (0 : Int) (3 : Int)) != (0 : Int)))).2).length) (.acons (D.vs (4 : Nat) (addL (1 : Int) (1 : Int) l1 (gLines rdP false (Int.toNat (getP (List.drop (3 : Nat) b) (0 : Int) (1 : Int)).1 - (0 : Nat)) (Prod.fst (getP (List.drop (1 : Nat) (List.drop (3 : Nat) b)) (0 : Int) (3 : Int)) + (0 : Int)) (Rd.mk c (List.drop (3 : Nat) (List.drop (1 : Nat) (List.drop (3 : Nat) b))) (Prod.fst (getP (List.drop (1 : Nat) (List.drop (3 : Nat) b)) (0 : Int) (3 : Int)) != (0 : Int)))).2).length) (.acons (D.vs (5 : Nat) (addL (1 : Int) (2 : Int) l2 (gLines rdP false (Int.toNat (getP (List.drop (3 : Nat) b) (0 : Int) (1 : Int)).1 - (0 : Nat)) (Prod.fst (getP (List.drop (1 : Nat) (List.drop (3 : Nat) b)) (0 : Int) (3 : Int)) + (0 : Int)) (Rd.mk c (List.drop (3 : Nat) (List.drop (1 : Nat) (List.drop (3 : Nat) b))) (Prod.fst (getP (List.drop (1 : Nat) (List.drop (3 : Nat) b)) (0 : Int) (3 : Int)) != (0 : Int)))).2).length) .anil))) (.acons (D.arr RTy.int (3 : Nat) [c0, Prod.fst (getP b (0 : Int) (3 : Int)), c2]) .anil))))), some (Obj.vec RTy.item true its), some (Obj.vec RTy.line true (addL (1 : Int) (0 : Int) l0 (gLines rdP false (Int.toNat (getP (List.drop (3 : Nat) b) (0 : Int) (1 : Int)).1 - (0 : Nat)) (Prod.fst (getP (List.drop (1 : Nat) (List.drop (3 : Nat) b)) (0 : Int) (3 : Int)) + (0 : Int)) (Rd.mk c (List.drop (3 : Nat) (List.drop (1 : Nat) (List.drop (3 : Nat) b))) (Prod.fst (getP (List.drop (1 : Nat) (List.drop (3 : Nat) b)) (0 : Int) (3 : Int)) != (0 : Int)))).2)), some (Obj.vec RTy.line true (addL (1 : Int) (1 : Int) l1 (gLines rdP false (Int.toNat (getP (List.drop (3 : Nat) b) (0 : Int) (1 : Int)).1 - (0 : Nat)) (Prod.fst (getP (List.drop (1 : Nat) (List.drop (3 : Nat) b)) (0 : Int) (3 : Int)) + (0 : Int)) (Rd.mk c (List.drop (3 : Nat) (List.drop (1 : Nat) (List.drop (3 : Nat) b))) (Prod.fst (getP (List.drop (1 : Nat) (List.drop (3 : Nat) b)) (0 : Int) (3 : Int)) != (0 : Int)))).2)), some (Obj.vec RTy.line true (addL (1 : Int) (2 : Int) l2 (gLines rdP false (Int.toNat (getP (List.drop (3 : Nat) b) (0 : Int) (1 : Int)).1 - (0 : Nat)) (Prod.fst (getP (List.drop (1 : Nat) (List.drop (3 : Nat) b)) (0 : Int) (3 : Int)) + (0 : Int)) (Rd.mk c (List.drop (3 : Nat) (List.drop (1 : Nat) (List.drop (3 : Nat) b))) (Prod.fst (getP (List.drop (1 : Nat) (List.drop (3 : Nat) b)) (0 : Int) (3 : Int)) != (0 : Int)))).2))]) else none else bif decide (List.length its = List.length its) && decide (List.length l0 = List.length l0) && decide (List.length l1 = List.length l1) && decide (List.length l2 = List.length l2) && decide ((0 : Int) ≤ Prod.fst (getP (List.drop (3 : Nat) b) (0 : Int) (1 : Int)) ∧ Prod.fst (getP (List.drop (3 : Nat) b) (0 : Int) (1 : Int)) ≤ (255 : Int) ∧ List.length (List.drop (3 : Nat) (List.drop (1 : Nat) (List.drop (3 : Nat) b))) ≤ (1000000 : Nat) ∧ (List.length l0 ≤ (1000 : Nat) ∧ List.length l1 ≤ (1000 : Nat) ∧ List.length l2 ≤ (1000 : Nat)) ∧ ((0 : Int) ≤ (1 : Int) ∧ (1 : Int) ≤ (2 : Int)) ∧ (0 : Int) ≤ Prod.fst (getP (List.drop (1 : Nat) (List.drop (3 : Nat) b)) (0 : Int) (3 : Int)) ∧ Prod.fst (getP (List.drop (1 : Nat) (List.drop (3 : Nat) b)) (0 : Int) (3 : Int)) ≤ (16777215 : Int)) then some ((X.normal, [((4 : Nat), D.ptr (0 : Nat) []), ((5 : Nat), D.ptr (1 : Nat) []), ((39 : Nat), D.int .i64 (2 : Int))]), [some (Obj.var (85 : Nat) (.acons (D.sl RTy.u8 (gLines rdP false (Int.toNat (getP (List.drop (3 : Nat) b) (0 : Int) (1 : Int)).1 - (0 : Nat)) (Prod.fst (getP (List.drop (1 : Nat) (List.drop (3 : Nat) b)) (0 : Int) (3 : Int)) + (0 : Int)) (Rd.mk c (List.drop (3 : Nat) (List.drop (1 : Nat) (List.drop (3 : Nat) b))) false)).1.c (gLines rdP false (Int.toNat (getP (List.drop (3 : Nat) b) (0 : Int) (1 : Int)).1 - (0 : Nat)) (Prod.fst (getP (List.drop (1 : Nat) (List.drop (3 : Nat) b)) (0 : Int) (3 : Int)) + (0 : Int)) (Rd.mk c (List.drop (3 : Nat) (List.drop (1 : Nat) (List.drop (3 : Nat) b))) false)).1.b) (.acons (D.bool (gLines rdP false (Int.toNat (getP (List.drop (3 : Nat) b) (0 : Int) (1 : Int)).1 - (0 : Nat)) (Prod.fst (getP (List.drop (1 : Nat) (List.drop (3 : Nat) b)) (0 : Int) (3 : Int)) + (0 : Int)) (Rd.mk c (List.drop (3 : Nat) (List.drop (1 : Nat) (List.drop (3 : Nat) b))) false)).1.bad) .anil))), some (Obj.var (30 : Nat) (.acons (D.int .i64 pl) (.acons (D.vs (2 : Nat) its.length) (.acons (D.acons (D.vs (3 : Nat) (addL (1 : Int) (0 : Int) l0 (gLines rdP false (Int.toNat (getP (List.drop (3 : Nat) b) (0 : Int) (1 : Int)).1 - (0 : Nat)) (Prod.fst (getP (List.drop (1 : Nat) (List.drop (3 : Nat) b)) (0 : Int) (3 : Int)) + (0 : Int)) (Rd.mk c (List.drop (3 : Nat) (List.drop (1 : Nat) (List.drop (3 : Nat) b))) false)).2).length) (.acons (D.vs (4 : Nat) (addL (1 : Int) (1 : Int) l1 (gLines rdP false (Int.toNat (getP (List.drop (3 : Nat) b) (0 : Int) (1 : Int)).1 - (0 : Nat)) (Prod.fst (getP (List.drop (1 : Nat) (List.drop (3 : Nat) b)) (0 : Int) (3 : Int)) + (0 : Int)) (Rd.mk c (List.drop (3 : Nat) (List.drop (1 : Nat) (List.drop (3 : Nat) b))) false)).2).length) (.acons (D.vs (5 : Nat) (addL (1 : Int) (2 : Int) l2 (gLines rdP false (Int.toNat (getP (List.drop (3 : Nat) b) (0 : Int) (1 : Int)).1 - (0 : Nat)) (Prod.fst (getP (List.drop (1 : Nat) (List.drop (3 : Nat) b)) (0 : Int) (3 : Int)) + (0 : Int)) (Rd.mk c (List.drop (3 : Nat) (List.drop (1 : Nat) (List.drop (3 : Nat) b))) false)).2).length) .anil))) (.acons (D.arr RTy.int (3 : Nat) [c0, Prod.fst (getP b (0 : Int) (3 : Int)), c2]) .anil))))), some (Obj.vec RTy.item true its), some (Obj.vec RTy.line true (addL (1 : Int) (0 : Int) l0 (gLines rdP false (Int.toNat (getP (List.drop (3 : Nat) b) (0 : Int) (1 : Int)).1 - (0 : Nat)) (Prod.fst (getP (List.drop (1 : Nat) (List.drop (3 : Nat) b)) (0 : Int) (3 : Int)) + (0 : Int)) (Rd.mk c (List.drop (3 : Nat) (List.drop (1 : Nat) (List.drop (3 : Nat) b))) false)).2)), some (Obj.vec RTy.line true (addL (1 : Int) (1 : Int) l1 (gLines rdP false (Int.toNat (getP (List.drop (3 : Nat) b) (0 : Int) (1 : Int)).1 - (0 : Nat)) (Prod.fst (getP (List.drop (1 : Nat) (List.drop (3 : Nat) b)) (0 : Int) (3 : Int)) + (0 : Int)) (Rd.mk c (List.drop (3 : Nat) (List.drop (1 : Nat) (List.drop (3 : Nat) b))) false)).2)), some (Obj.vec RTy.line true (addL (1 : Int) (2 : Int) l2 (gLines rdP false (Int.toNat (getP (List.drop (3 : Nat) b) (0 : Int) (1 : Int)).1 - (0 : Nat)) (Prod.fst (getP (List.drop (1 : Nat) (List.drop (3 : Nat) b)) (0 : Int) (3 : Int)) + (0 : Int)) (Rd.mk c (List.drop (3 : Nat) (List.drop (1 : Nat) (List.drop (3 : Nat) b))) false)).2))]) else none else none else none else none else none else none else none) := by kernel_rfl
set_option maxHeartbeats 4000000 in
theorem rsQ_eq2 (c : Bool) (b : List UInt8) (bad : Bool) (pl : Int) (its : List Item) (l0 l1 l2 : List Line) (c0 c1 c2 : Int) : rsQ_r c b bad pl its l0 l1 l2 c0 c1 c2 2 = (bif decide (List.length b ≤ (1000000000000 : Nat)) then bif Prod.snd (getP b (0 : Int) (3 : Int)) != (0 : Int) then bif decide (List.length its = List.length its) && decide (List.length l0 = List.length l0) && decide (List.length l1 = List.length l1) && decide (List.length l2 = List.length l2) && decide ((0 : Int) ≤ (0 : Int) ∧ (0 : Int) ≤ (255 : Int) ∧ (0 : Nat) ≤ (1000000 : Nat) ∧ (List.length l0 ≤ (1000 : Nat) ∧ List.length l1 ≤ (1000 : Nat) ∧ List.length l2 ≤ (1000 : Nat)) ∧ ((0 : Int) ≤ (2 : Int) ∧ (2 : Int) ≤ (2 : Int)) ∧ (0 : Int) ≤ (0 : Int) ∧ (0 : Int) ≤ (16777215 : Int)) then some ((X.normal, [((4 : Nat), D.ptr (0 : Nat) []), ((5 : Nat), D.ptr (1 : Nat) []), ((39 : Nat), D.int .i64 (3 : Int))]), [some (Obj.var (85 : Nat) (.acons (D.sl RTy.u8 true (gLines rdP false (0 : Nat) (0 : Int) (Rd.mk true [] true)).1.b) (.acons (D.bool true) .anil))), some (Obj.var (30 : Nat) (.acons (D.int .i64 pl) (.acons (D.vs (2 : Nat) its.length) (.acons (D.acons (D.vs (3 : Nat) (addL (2 : Int) (0 : Int) l0 (gLines rdP false (0 : Nat) (0 : Int) (Rd.mk true [] true)).2).length) (.acons (D.vs (4 : Nat) (addL (2 : Int) (1 : Int) l1 (gLines rdP false (0 : Nat) (0 : Int) (Rd.mk true [] true)).2).length) (.acons (D.vs (5 : Nat) (addL (2 : Int) (2 : Int) l2 (gLines rdP false (0 : Nat) (0 : Int) (Rd.mk true [] true)).2).length) .anil))) (.acons (D.arr RTy.int (3 : Nat) [c0, c1, (0 : Int)]) .anil))))), some (Obj.vec RTy.item true its), some (Obj.vec RTy.line true (addL (2 : Int) (0 : Int) l0 (gLines rdP false (0 : Nat) (0 : Int) (Rd.mk true [] true)).2)), some (Obj.vec RTy.line true (addL (2 : Int) (1 : Int) l1 (gLines rdP false (0 : Nat) (0 : Int) (Rd.mk true [] true)).2)), some (Obj.vec RTy.line true (addL (2 : Int) (2 : Int) l2 (gLines rdP false (0 : Nat) (0 : Int) (Rd.mk true [] true)).2))]) else none else bif decide ((0 : Int) ≤ (3 : Int) ∧ (3 : Int) ≤ (↑b.length : Int)) then bif decide (List.length (List.drop (3 : Nat) b) ≤ (1000000000000 : Nat)) then bif Prod.snd (getP (List.drop (3 : Nat) b) (0 : Int) (1 : Int)) != (0 : Int) then bif decide (List.length its = List.length its) && decide (List.length l0 = List.length l0) && decide (List.length l1 = List.length l1) && decide (List.length l2 = List.length l2) && decide ((0 : Int) ≤ (0 : Int) ∧ (0 : Int) ≤ (255 : Int) ∧ (0 : Nat) ≤ (1000000 : Nat) ∧ (List.length l0 ≤ (1000 : Nat) ∧ List.length l1 ≤ (1000 : Nat) ∧ List.length l2 ≤ (1000 : Nat)) ∧ ((0 : Int) ≤ (2 : Int) ∧ (2 : Int) ≤ (2 : Int)) ∧ (0 : Int) ≤ (0 : Int) ∧ (0 : Int) ≤ (16777215 : Int)) then some ((X.normal, [((4 : Nat), D.ptr (0 : Nat) []), ((5 : Nat), D.ptr (1 : Nat) []), ((39 : Nat), D.int .i64 (3 : Int))]), [some (Obj.var (85 : Nat) (.acons (D.sl RTy.u8 true (gLines rdP false (0 : Nat) (0 : Int) (Rd.mk true [] true)).1.b) (.acons (D.bool true) .anil))), some (Obj.var (30 : Nat) (.acons (D.int .i64 pl) (.acons (D.vs (2 : Nat) its.length) (.acons (D.acons (D.vs (3 : Nat) (addL (2 : Int) (0 : Int) l0 (gLines rdP false (0 : Nat) (0 : Int) (Rd.mk true [] true)).2).length) (.acons (D.vs (4 : Nat) (addL (2 : Int) (1 : Int) l1 (gLines rdP false (0 : Nat) (0 : Int) (Rd.mk true [] true)).2).length) (.acons (D.vs (5 : Nat) (addL (2 : Int) (2 : Int) l2 (gLines rdP false (0 : Nat) (0 : Int) (Rd.mk true [] true)).2).length) .anil))) (.acons (D.arr RTy.int (3 : Nat) [c0, c1, Prod.fst (getP b (0 : Int) (3 : Int))]) .anil))))), some (Obj.vec RTy.item true its), some (Obj.vec RTy.line true (addL (2 : Int) (0 : Int) l0 (gLines rdP false (0 : Nat) (0 : Int) (Rd.mk true [] true)).2)), some (Obj.vec RTy.line true (addL (2 : Int) (1 : Int) l1 (gLines rdP false (0 : Nat) (0 : Int) (Rd.mk true [] true)).2)), some (Obj.vec RTy.line true (addL (2 : Int) (2 : Int) l2 (gLines rdP false (0 : Nat) (0 : Int) (Rd.mk true [] true)).2))]) else none else bif decide ((0 : Int) ≤ (1 : Int) ∧ (1 : Int) ≤ (↑(List.drop (3 : Nat) b).length : Int)) then bif decide (List.length (List.drop (1 : Nat) (List.drop (3 : Nat) b)) ≤ (1000000000000 : Nat)) then bif Prod.snd (getP (List.drop (1 : Nat) (List.drop (3 : Nat) b)) (0 : Int) (3 : Int)) != (0 : Int) then bif decide (List.length its = List.length its) && decide (List.length l0 = List.length l0) && decide (List.length l1 = List.length l1) && decide (List.length l2 = List.length l2) && decide ((0 : Int) ≤ Prod.fst (getP (List.drop (3 : Nat) b) (0 : Int) (1 : Int)) ∧ Prod.fst (getP (List.drop (3 : Nat) b) (0 : Int) (1 : Int)) ≤ (255 : Int) ∧ (0 : Nat) ≤ (1000000 : Nat) ∧ (List.length l0 ≤ (1000 : Nat) ∧ List.length l1 ≤ (1000 : Nat) ∧ List.length l2 ≤ (1000 : Nat)) ∧ ((0 : Int) ≤ (2 : Int) ∧ (2 : Int) ≤ (2 : Int)) ∧ (0 : Int) ≤ (0 : Int) ∧ (0 : Int) ≤ (16777215 : Int)) then some ((X.normal, [((4 : Nat), D.ptr (0 : Nat) []), ((5 : Nat), D.ptr (1 : Nat) []), ((39 : Nat), D.int .i64 (3 : Int))]), [some (Obj.var (85 : Nat) (.acons (D.sl RTy.u8 (gLines rdP false (Int.toNat (getP (List.drop (3 : Nat) b) (0 : Int) (1 : Int)).1 - (0 : Nat)) (0 : Int) (Rd.mk true [] true)).1.c (gLines rdP false (Int.toNat (getP (List.drop (3 : Nat) b) (0 : Int) (1 : Int)).1 - (0 : Nat)) (0 : Int) (Rd.mk true [] true)).1.b) (.acons (D.bool (gLines rdP false (Int.toNat (getP (List.drop (3 : Nat) b) (0 : Int) (1 : Int)).1 - (0 : Nat)) (0 : Int) (Rd.mk true [] true)).1.bad) .anil))), some (Obj.var (30 : Nat) (.acons (D.int .i64 pl) (.acons (D.vs (2 : Nat) its.length) (.acons (D.acons (D.vs (3 : Nat) (addL (2 : Int) (0 : Int) l0 (gLines rdP false (Int.toNat (getP (List.drop (3 : Nat) b) (0 : Int) (1 : Int)).1 - (0 : Nat)) (0 : Int) (Rd.mk true [] true)).2).length) (.acons (D.vs (4 : Nat) (addL (2 : Int) (1 : Int) l1 (gLines rdP false (Int.toNat (getP (List.drop (3 : Nat) b) (0 : Int) (1 : Int)).1 - (0 : Nat)) (0 : Int) (Rd.mk true [] true)).2).length) (.acons (D.vs (5 : Nat) (addL (2 : Int) (2 : Int) l2 (gLines rdP false (Int.toNat (getP (List.drop (3 : Nat) b) (0 : Int) (1 : Int)).1 - (0 : Nat)) (0 : Int) (Rd.mk true [] true)).2).length) .anil))) (.acons (D.arr RTy.int (3 : Nat) [c0, c1, Prod.fst (getP b (0 : Int) (3 : Int))]) .anil))))), some (Obj.vec RTy.item true its), some (Obj.vec RTy.line true (addL (2 : Int) (0 : Int) l0 (gLines rdP false (Int.toNat (getP (List.drop (3 : Nat) b) (0 : Int) (1 : Int)).1 - (0 : Nat)) (0 : Int) (Rd.mk true [] true)).2)), some (Obj.vec RTy.line true (addL (2 : Int) (1 : Int) l1 (gLines rdP false (Int.toNat (getP (List.drop (3 : Nat) b) (0 : Int) (1 : Int)).1 - (0 : Nat)) (0 : Int) (Rd.mk true [] true)).2)), some (Obj.vec RTy.line true (addL (2 : Int) (2 : Int) l2 (gLines rdP false (Int.toNat (getP (List.drop (3 : Nat) b) (0 : Int) (1 : Int)).1 - (0 : Nat)) (0 : Int) (Rd.mk true [] true)).2))]) else none else bif decide ((0 : Int) ≤ (3 : Int) ∧ (3 : Int) ≤ (↑(List.drop (1 : Nat) (List.drop (3 : Nat) b)).length : Int)) then bif bad then bif decide (List.length its = List.length its) && decide (List.length l0 = List.length l0) && decide (List.length l1 = List.length l1) && decide (List.length l2 = List.length l2) && decide ((0 : Int) ≤ Prod.fst (getP (List.drop (3 : Nat) b) (0 : Int) (1 : Int)) ∧ Prod.fst (getP (List.drop (3 : Nat) b) (0 : Int) (1 : Int)) ≤ (255 : Int) ∧ List.length (List.drop (3 : Nat) (List.drop (1 : Nat) (List.drop (3 : Nat) b))) ≤ (1000000 : Nat) ∧ (List.length l0 ≤ (1000 : Nat) ∧ List.length l1 ≤ (1000 : Nat) ∧ List.length l2 ≤ (1000 : Nat)) ∧ ((0 : Int) ≤ (2 : Int) ∧ (2 : Int) ≤ (2 : Int)) ∧ (0 : Int) ≤ Prod.fst (getP (List.drop (1 : Nat) (List.drop (3 : Nat) b)) (0 : Int) (3 : Int)) ∧ Prod.fst (getP (List.drop (1 : Nat) (List.drop (3 : Nat) b)) (0 : Int) (3 : Int)) ≤ (16777215 : Int)) then some ((X.normal, [((4 : Nat), D.ptr (0 : Nat) []), ((5 : Nat), D.ptr (1 : Nat) []), ((39 : Nat), D.int .i64 (3 : Int))]), [some (Obj.var (85 : Nat) (.acons (D.sl RTy.u8 (gLines rdP false (Int.toNat (getP (List.drop (3 : Nat) b) (0 : Int) (1 : Int)).1 - (0 : Nat)) (Prod.fst (getP (List.drop (1 : Nat) (List.drop (3 : Nat) b)) (0 : Int) (3 : Int)) + (0 : Int)) (Rd.mk c (List.drop (3 : Nat) (List.drop (1 : Nat) (List.drop (3 : Nat) b))) true)).1.c (gLines rdP false (Int.toNat (getP (List.drop (3 : Nat) b) (0 : Int) (1 : Int)).1 - (0 : Nat)) (Prod.fst (getP (List.drop (1 : Nat) (List.drop (3 : Nat) b)) (0 : Int) (3 : Int)) + (0 : Int)) (Rd.mk c (List.drop (3 : Nat) (List.drop (1 : Nat) (List.drop (3 : Nat) b))) true)).1.b) (.acons (D.bool (gLines rdP false (Int.toNat (getP (List.drop (3 : Nat) b) (0 : Int) (1 : Int)).1 - (0 : Nat)) (Prod.fst (getP (List.drop (1 : Nat) (List.drop (3 : Nat) b)) (0 : Int) (3 : Int)) + (0 : Int)) (Rd.mk c (List.drop (3 : Nat) (List.drop (1 : Nat) (List.drop (3 : Nat) b))) true)).1.bad) .anil))), some (Obj.var (30 : Nat) (.acons (D.int .i64 pl) (.acons (D.vs (2 : Nat) its.length) (.acons (D.acons (D.vs (3 : Nat) (addL (2 : Int) (0 : Int) l0 (gLines rdP false (Int.toNat (getP (List.drop (3 : Nat) b) (0 : Int) (1 : Int)).1 - (0 : Nat)) (Prod.fst (getP (List.drop (1 : Nat) (List.drop (3 : Nat) b)) (0 : Int) (3 : Int)) + (0 : Int)) (Rd.mk c (List.drop (3 : Nat) (List.drop (1 : Nat) (List.drop (3 : Nat) b))) true)).2).length) (.acons (D.vs (4 : Nat) (addL (2 : Int) (1 : Int) l1 (gLines rdP false (Int.toNat (getP (List.drop (3 : Nat) b) (0 : Int) (1 : Int)).1 - (0 : Nat)) (Prod.fst (getP (List.drop (1 : Nat) (List.drop (3 : Nat) b)) (0 : Int) (3 : Int)) + (0 : Int)) (Rd.mk c (List.drop (3 : Nat) (List.drop (1 : Nat) (List.drop (3 : Nat) b))) true)).2).length) (.acons (D.vs (5 : Nat) (addL (2 : Int) (2 : Int) l2 (gLines rdP false (Int.toNat (getP (List.drop (3 : Nat) b) (0 : Int) (1 : Int)).1 - (0 : Nat)) (Prod.fst (getP (List.drop (1 : Nat) (List.drop (3 : Nat) b)) (0 : Int) (3 : Int)) + (0 : Int)) (Rd.mk c (List.drop (3 : Nat) (List.drop (1 : Nat) (List.drop (3 : Nat) b))) true)).2).length) .anil))) (.acons (D.arr RTy.int (3 : Nat) [c0, c1, Prod.fst (getP b (0 : Int) (3 : Int))]) .anil))))), some (Obj.vec RTy.item true its), some (Obj.vec RTy.line true (addL (2 : Int) (0 : Int) l0 (gLines rdP false (Int.toNat (getP (List.drop (3 : Nat) b) (0 : Int) (1 : Int)).1 - (0 : Nat)) (Prod.fst (getP (List.drop (1 : Nat) (List.drop (3 : Nat) b)) (0 : Int) (3 : Int)) + (0 : Int)) (Rd.mk c (List.drop (3 : Nat) (List.drop (1 : Nat) (List.drop (3 : Nat) b))) true)).2)), some (Obj.vec RTy.line true (addL (2 : Int) (1 : Int) l1 (gLines rdP false (Int.toNat (getP (List.drop (3 : Nat) b) (0 : Int) (1 : Int)).1 - (0 : Nat)) (Prod.fst (getP (List.drop (1 : Nat) (List.drop (3 : Nat) b)) (0 : Int) (3 : Int)) + (0 : Int)) (Rd.mk c (List.drop (3 : Nat) (List.drop (1 : Nat) (List.drop (3 : Nat) b))) true)).2)), some (Obj.vec RTy.line true (addL (2 : Int) (2 : Int) l2 (gLines rdP false (Int.toNat (getP (List.drop (3 : Nat) b) (0 : Int) (1 : Int)).1 - (0 : Nat)) (Prod.fst (getP (List.drop (1 : Nat) (List.drop (3 : Nat) b)) (0 : Int) (3 : Int)) + (0 : Int)) (Rd.mk c (List.drop (3 : Nat) (List.drop (1 : Nat) (List.drop (3 : Nat) b))) true)).2))]) else none else bif Prod.fst (getP (List.drop (3 : Nat) b) (0 : Int) (1 : Int)) == (0 : Int) then bif decide (List.length its = List.length its) && decide (List.length l0 = List.length l0) && decide (List.length l1 = List.length l1) && decide (List.length l2 = List.length l2) && decide ((0 : Int) ≤ Prod.fst (getP (List.drop (3 : Nat) b) (0 : Int) (1 : Int)) ∧ Prod.fst (getP (List.drop (3 : Nat) b) (0 : Int) (1 : Int)) ≤ (255 : Int) ∧ List.length (List.drop (3 : Nat) (List.drop (1 : Nat) (List.drop (3 : Nat) b))) ≤ (1000000 : Nat) ∧ (List.length l0 ≤ (1000 : Nat) ∧ List.length l1 ≤ (1000 : Nat) ∧ List.length l2 ≤ (1000 : Nat)) ∧ ((0 : Int) ≤ (2 : Int) ∧ (2 : Int) ≤ (2 : Int)) ∧ (0 : Int) ≤ Prod.fst (getP (List.drop (1 : Nat) (List.drop (3 : Nat) b)) (0 : Int) (3 : Int)) ∧ Prod.fst (getP (List.drop (1 : Nat) (List.drop (3 : Nat) b)) (0 : Int) (3 : Int)) ≤ (16777215 : Int)) then some ((X.normal, [((4 : Nat), D.ptr (0 : Nat) []), ((5 : Nat), D.ptr (1 : Nat) []), ((39 : Nat), D.int .i64 (3 : Int))]), [some (Obj.var (85 : Nat) (.acons (D.sl RTy.u8 (gLines rdP false (Int.toNat (getP (List.drop (3 : Nat) b) (0 : Int) (1 : Int)).1 - (0 : Nat)) (Prod.fst (getP (List.drop (1 : Nat) (List.drop (3 : Nat) b)) (0 : Int) (3 : Int)) + (0 : Int)) (Rd.mk c (List.drop (3 : Nat) (List.drop (1 : Nat) (List.drop (3 : Nat) b))) (Prod.fst (getP (List.drop (1 : Nat) (List.drop (3 : Nat) b)) (0 : Int) (3 : Int)) != (0 : Int)))).1.c (gLines rdP false (Int.toNat (getP (List.drop (3 : Nat) b) (0 : Int) (1 : Int)).1 - (0 : Nat)) (Prod.fst (getP (List.drop (1 : Nat) (List.drop (3 : Nat) b)) (0 : Int) (3 : Int)) + (0 : Int)) (Rd.mk c (List.drop (3 : Nat) (List.drop (1 : Nat) (List.drop (3 : Nat) b))) (Prod.fst (getP (List.drop (1 : Nat) (List.drop (3 : Nat) b)) (0 : Int) (3 : Int)) != (0 : Int)))).1.b) (.acons (D.bool (gLines rdP false (Int.toNat (getP (List.drop (3 : Nat) b) (0 : Int) (1 : Int)).1 - (0 : Nat)) (Prod.fst (getP (List.drop (1 : Nat) (List.drop (3 : Nat) b)) (0 : Int) (3 : Int)) + (0 : Int)) (Rd.mk c (List.drop (3 : Nat) (List.drop (1 : Nat) (List.drop (3 : Nat) b))) (Prod.fst (getP (List.drop (1 : Nat) (List.drop (3 : Nat) b)) (0 : Int) (3 : Int)) != (0 : Int)))).1.bad) .anil))), some (Obj.var (30 : Nat) (.acons (D.int .i64 pl) (.acons (D.vs (2 : Nat) its.length) (.acons (D.acons (D.vs (3 : Nat) (addL (2 : Int) (0 : Int) l0 (gLines rdP false (Int.toNat (getP (List.drop (3 : Nat) b) (0 : Int) (1 : Int)).1 - (0 : Nat)) (Prod.fst (getP (List.drop (1 : Nat) (List.drop (3 : Nat) b)) (0 : Int) (3 : Int)) + (0 : Int)) (Rd.mk c (List.drop (3 : Nat) (List.drop (1 : Nat) (List.drop (3 : Nat) b))) (Prod.fst (getP (List.drop (1 : Nat) (List.drop (3 : Nat) b)) (0 : Int) (3 : Int)) != (0 : Int)))).2).length) (.acons (D.vs (4 : Nat) (addL (2 : Int) (1 : Int) l1 (gLines rdP false (Int.toNat (getP (List.drop (3 : Nat) b) (0 : Int) (1 : Int)).1 - (0 : Nat)) (Prod.fst (getP (List.drop (1 : Nat) (List.drop (3 : Nat) b)) (0 : Int) (3 : Int)) + (0 : Int)) (Rd.mk c (List.drop (3 : Nat) (List.drop (1 : Nat) (List.drop (3 : Nat) b))) (Prod.fst (getP (List.drop (1 : Nat) (List.drop (3 : Nat) b)) (0 : Int) (3 : Int)) != (0 : Int)))).2).length) (.acons (D.vs (5 : Nat) (addL (2 : Int) (2 : Int) l2 (gLines rdP false (Int.toNat (getP (List.drop (3 : Nat) b) (0 : Int) (1 : Int)).1 - (0 : Nat)) (Prod.fst (getP (List.drop (1 : Nat) (List.drop (3 : Nat) b)) (0 : Int) (3 : Int)) + (0 : Int)) (Rd.mk c (List.drop (3 : Nat) (List.drop (1 : Nat) (List.drop (3 : Nat) b))) (Prod.fst (getP (List.drop (1 : Nat) (List.drop (3 : Nat) b)) (0 : Int) (3 : Int)) != (0 : Int)))).2).length) .anil))) (.acons (D.arr RTy.int (3 : Nat) [c0, c1, Prod.fst (getP b (0 : Int) (3 : Int))]) .anil))))), some (Obj.vec RTy.item true its), some (Obj.vec RTy.line true (addL (2 : Int) (0 : Int) l0 (gLines rdP false (Int.toNat (getP (List.drop (3 : Nat) b) (0 : Int) (1 : Int)).1 - (0 : Nat)) (Prod.fst (getP (List.drop (1 : Nat) (List.drop (3 : Nat) b)) (0 : Int) (3 : Int)) + (0 : Int)) (Rd.mk c (List.drop (3 : Nat) (List.drop (1 : Nat) (List.drop (3 : Nat) b))) (Prod.fst (getP (List.drop (1 : Nat) (List.drop (3 : Nat) b)) (0 : Int) (3 : Int)) != (0 : Int)))).2)), some (Obj.vec RTy.line true (addL (2 : Int) (1 : Int) l1 (gLines rdP false (Int.toNat (getP (List.drop (3 : Nat) b) (0 : Int) (1 : Int)).1 - (0 : Nat)) (Prod.fst (getP (List.drop (1 : Nat) (List.drop (3 : Nat) b)) (0 : Int) (3 : Int)) + (0 : Int)) (Rd.mk c (List.drop (3 : Nat) (List.drop (1 : Nat) (List.drop (3 : Nat) b))) (Prod.fst (getP (List.drop (1 : Nat) (List.drop (3 : Nat) b)) (0 : Int) (3 : Int)) != (0 : Int)))).2)), some (Obj.vec RTy.line true (addL (2 : Int) (2 : Int) l2 (gLines rdP false (Int.toNat (getP (List.drop (3 : Nat) b) (0 : Int) (1 : Int)).1 - (0 : Nat)) (Prod.fst (getP (List.drop (1 : Nat) (List.drop (3 : Nat) b)) (0 : Int) (3 : Int)) + (0 : Int)) (Rd.mk c (List.drop (3 : Nat) (List.drop (1 : Nat) (List.drop (3 : Nat) b))) (Prod.fst (getP (List.drop (1 : Nat) (List.drop (3 : Nat) b)) (0 : Int) (3 : Int)) != (0 : Int)))).2))]) else none else bif decide (List.length its = List.length its) && decide (List.length l0 = List.length l0) && decide (List.length l1 = List.length l1) && decide (List.length l2 = List.length l2) && decide ((0 : Int) ≤ Prod.fst (getP (List.drop (3 : Nat) b) (0 : Int) (1 : Int)) ∧ Prod.fst (getP (List.drop (3 : Nat) b) (0 : Int) (1 : Int)) ≤ (255 : Int) ∧ List.length (List.drop (3 : Nat) (List.drop (1 : Nat) (List.drop (3 : Nat) b))) ≤ (1000000 : Nat) ∧ (List.length l0 ≤ (1000 : Nat) ∧ List.length l1 ≤ (1000 : Nat) ∧ List.length l2 ≤ (1000 : Nat)) ∧ ((0 : Int) ≤ (2 : Int) ∧ (2 : Int) ≤ (2 : Int)) ∧ (0 : Int) ≤ Prod.fst (getP (List.drop (1 : Nat) (List.drop (3 : Nat) b)) (0 : Int) (3 : Int)) ∧ Prod.fst (getP (List.drop (1 : Nat) (List.drop (3 : Nat) b)) (0 : Int) (3 : Int)) ≤ (16777215 : Int)) then some ((X.normal, [((4 : Nat), D.ptr (0 : Nat) []), ((5 : Nat), D.ptr (1 : Nat) []), ((39 : Nat), D.int .i64 (3 : Int))]), [some (Obj.var (85 : Nat) (.acons (D.sl RTy.u8 (gLines rdP false (Int.toNat (getP (List.drop (3 : Nat) b) (0 : Int) (1 : Int)).1 - (0 : Nat)) (Prod.fst (getP (List.drop (1 : Nat) (List.drop (3 : Nat) b)) (0 : Int) (3 : Int)) + (0 : Int)) (Rd.mk c (List.drop (3 : Nat) (List.drop (1 : Nat) (List.drop (3 : Nat) b))) false)).1.c (gLines rdP false (Int.toNat (getP (List.drop (3 : Nat) b) (0 : Int) (1 : Int)).1 - (0 : Nat)) (Prod.fst (getP (List.drop (1 : Nat) (List.drop (3 : Nat) b)) (0 : Int) (3 : Int)) + (0 : Int)) (Rd.mk c (List.drop (3 : Nat) (List.drop (1 : Nat) (List.drop (3 : Nat) b))) false)).1.b) (.acons (D.bool (gLines rdP false (Int.toNat (getP (List.drop (3 : Nat) b) (0 : Int) (1 : Int)).1 - (0 : Nat)) (Prod.fst (getP (List.drop (1 : Nat) (List.drop (3 : Nat) b)) (0 : Int) (3 : Int)) + (0 : Int)) (Rd.mk c (List.drop (3 : Nat) (List.drop (1 : Nat) (List.drop (3 : Nat) b))) false)).1.bad) .anil))), some (Obj.var (30 : Nat) (.acons (D.int .i64 pl) (.acons (D.vs (2 : Nat) its.length) (.acons (D.acons (D.vs (3 : Nat) (addL (2 : Int) (0 : Int) l0 (gLines rdP false (Int.toNat (getP (List.drop (3 : Nat) b) (0 : Int) (1 : Int)).1 - (0 : Nat)) (Prod.fst (getP (List.drop (1 : Nat) (List.drop (3 : Nat) b)) (0 : Int) (3 : Int)) + (0 : Int)) (Rd.mk c (List.drop (3 : Nat) (List.drop (1 : Nat) (List.drop (3 : Nat) b))) false)).2).length) (.acons (D.vs (4 : Nat) (addL (2 : Int) (1 : Int) l1 (gLines rdP false (Int.toNat (getP (List.drop (3 : Nat) b) (0 : Int) (1 : Int)).1 - (0 : Nat)) (Prod.fst (getP (List.drop (1 : Nat) (List.drop (3 : Nat) b)) (0 : Int) (3 : Int)) + (0 : Int)) (Rd.mk c (List.drop (3 : Nat) (List.drop (1 : Nat) (List.drop (3 : Nat) b))) false)).2).length) (.acons (D.vs (5 : Nat) (addL (2 : Int) (2 : Int) l2 (gLines rdP false (Int.toNat (getP (List.drop (3 : Nat) b) (0 : Int) (1 : Int)).1 - (0 : Nat)) (Prod.fst (getP (List.drop (1 : Nat) (List.drop (3 : Nat) b)) (0 : Int) (3 : Int)) + (0 : Int)) (Rd.mk c (List.drop (3 : Nat) (List.drop (1 : Nat) (List.drop (3 : Nat) b))) false)).2).length) .anil))) (.acons (D.arr RTy.int (3 : Nat) [c0, c1, Prod.fst (getP b (0 : Int) (3 : Int))]) .anil))))), some (Obj.vec RTy.item true its), some (Obj.vec RTy.line true (addL (2 : Int) (0 : Int) l0 (gLines rdP false (Int.toNat (getP (List.drop (3 : Nat) b) (0 : Int) (1 : Int)).1 - (0 : Nat)) (Prod.fst (getP (List.drop (1 : Nat) (List.drop (3 : Nat) b)) (0 : Int) (3 : Int)) + (0 : Int)) (Rd.mk c (List.drop (3 : Nat) (List.drop (1 : Nat) (List.drop (3 : Nat) b))) false)).2)), some (Obj.vec RTy.line true (addL (2 : Int) (1 : Int) l1 (gLines rdP false (Int.toNat (getP (List.drop (3 : Nat) b) (0 : Int) (1 : Int)).1 - (0 : Nat)) (Prod.fst (getP (List.drop (1 : Nat) (List.drop (3 : Nat) b)) (0 : Int) (3 : Int)) + (0 : Int)) (Rd.mk c (List.drop (3 : Nat) (List.drop (1 : Nat) (List.drop (3 : Nat) b))) false)).2)), some (Obj.vec RTy.line true (addL (2 : Int) (2 : Int) l2 (gLines rdP false (Int.toNat (getP (List.drop (3 : Nat) b) (0 : Int) (1 : Int)).1 - (0 : Nat)) (Prod.fst (getP (List.drop (1 : Nat) (List.drop (3 : Nat) b)) (0 : Int) (3 : Int)) + (0 : Int)) (Rd.mk c (List.drop (3 : Nat) (List.drop (1 : Nat) (List.drop (3 : Nat) b))) false)).2))]) else none else none else none else none else none else none else none) := by kernel_rfl
theorem rsQ_eq3 (c : Bool) (b : List UInt8) (bad : Bool) (pl : Int) (its : List Item) (l0 l1 l2 : List Line) (c0 c1 c2 : Int) : rsQ_r c b bad pl its l0 l1 l2 c0 c1 c2 3 = (some ((X.exit (2 : Nat), []), [some (Obj.var (85 : Nat) (.acons (D.sl RTy.u8 c b) (.acons (D.bool bad) .anil))), some (Obj.var (30 : Nat) (.acons (D.int .i64 pl) (.acons (D.vs (2 : Nat) its.length) (.acons (D.acons (D.vs (3 : Nat) l0.length) (.acons (D.vs (4 : Nat) l1.length) (.acons (D.vs (5 : Nat) l2.length) .anil))) (.acons (D.arr RTy.int (3 : Nat) [c0, c1, c2]) .anil))))), some (Obj.vec RTy.item true its), some (Obj.vec RTy.line true l0), some (Obj.vec RTy.line true l1), some (Obj.vec RTy.line true l2)])) := by kernel_rfl
def rsQ_fin (c : Bool) (b : List UInt8) (bad : Bool) (pl : Int) (its : List Item) (l0 : List Line) (l1 : List Line) (l2 : List Line) (c0 : Int) (c1 : Int) (c2 : Int) (q : Nat) : RT RC := .leaf (.exit 2) [] [.var 85 (.acons (.sl (C := RC) .u8 (runQ rdP false markP q ⟨⟨c, b, bad⟩, l0, l1, l2, c0, c1, c2⟩).r.c (runQ rdP false markP q ⟨⟨c, b, bad⟩, l0, l1, l2, c0, c1, c2⟩).r.b) (.acons (.bool (runQ rdP false markP q ⟨⟨c, b, bad⟩, l0, l1, l2, c0, c1, c2⟩).r.bad) .anil)), .var 30 (.acons (.int .i64 pl) (.acons (.vs 2 its.length) (.acons (.acons (.vs 3 (runQ rdP false markP q ⟨⟨c, b, bad⟩, l0, l1, l2, c0, c1, c2⟩).l0.length) (.acons (.vs 4 (runQ rdP false markP q ⟨⟨c, b, bad⟩, l0, l1, l2, c0, c1, c2⟩).l1.length) (.acons (.vs 5 (runQ rdP false markP q ⟨⟨c, b, bad⟩, l0, l1, l2, c0, c1, c2⟩).l2.length) .anil))) (.acons (.arr (C := RC) .int 3 [(runQ rdP false markP q ⟨⟨c, b, bad⟩, l0, l1, l2, c0, c1, c2⟩).c0, (runQ rdP false markP q ⟨⟨c, b, bad⟩, l0, l1, l2, c0, c1, c2⟩).c1, (runQ rdP false markP q ⟨⟨c, b, bad⟩, l0, l1, l2, c0, c1, c2⟩).c2]) .anil)))), .vec (C := RC) .item true its, .vec (C := RC) .line true (runQ rdP false markP q ⟨⟨c, b, bad⟩, l0, l1, l2, c0, c1, c2⟩).l0, .vec (C := RC) .line true (runQ rdP false markP q ⟨⟨c, b, bad⟩, l0, l1, l2, c0, c1, c2⟩).l1, .vec (C := RC) .line true (runQ rdP false markP q ⟨⟨c, b, bad⟩, l0, l1, l2, c0, c1, c2⟩).l2]
def rsQ_Inv (c : Bool) (b : List UInt8) (bad : Bool) (pl : Int) (its : List Item) (l0 : List Line) (l1 : List Line) (l2 : List Line) (c0 : Int) (c1 : Int) (c2 : Int) (q : Nat) : Prop := q ≤ 3 ∧ b.length ≤ 1000000 ∧ l0.length ≤ 255 * q ∧ l1.length ≤ 255 * q ∧ l2.length ≤ 255 * q
def rsQ_S : LoopR RC rsQ_St where
  k := 6
  canon q := rsQ_c q.c q.b q.bad q.pl q.its q.l0 q.l1 q.l2 q.c0 q.c1 q.c2 q.q
  objs q := rsQ_o q.c q.b q.bad q.pl q.its q.l0 q.l1 q.l2 q.c0 q.c1 q.c2 q.q
  fin q := rsQ_fin q.c q.b q.bad q.pl q.its q.l0 q.l1 q.l2 q.c0 q.c1 q.c2 q.q
  Inv q := rsQ_Inv q.c q.b q.bad q.pl q.its q.l0 q.l1 q.l2 q.c0 q.c1 q.c2 q.q
  μ q := 3 - q.q
theorem rsQ_round (c : Bool) (b : List UInt8) (bad : Bool) (pl : Int) (its : List Item) (l0 : List Line) (l1 : List Line) (l2 : List Line) (c0 : Int) (c1 : Int) (c2 : Int) (q : Nat) (hI : rsQ_Inv c b bad pl its l0 l1 l2 c0 c1 c2 q) : Leaf (rsQ_r c b bad pl its l0 l1 l2 c0 c1 c2 q) (LedR rsQ_S ⟨c, b, bad, pl, its, l0, l1, l2, c0, c1, c2, q⟩) := by
  unfold rsQ_Inv at hI
  obtain ⟨h1, h2, h3, h4, h5⟩ := hI
  have t1 : Int.toNat 1 = 1 := rfl
  have t3 : Int.toNat 3 = 3 := rfl
  have z1 : rget 1 ⟨true, [], true⟩ = (0, ⟨true, [], true⟩) := rfl
  have z3 : rget 3 ⟨true, [], true⟩ = (0, ⟨true, [], true⟩) := rfl
  have k01 : ¬ (0 : Int) = 1 := by omega
  have k02 : ¬ (0 : Int) = 2 := by omega
  have k10 : ¬ (1 : Int) = 0 := by omega
  have k12 : ¬ (1 : Int) = 2 := by omega
  have k20 : ¬ (2 : Int) = 0 := by omega
  have k21 : ¬ (2 : Int) = 1 := by omega
  have e0 : decide (b.length ≤ 1000000000000) = true := decide_eq_true (by omega)
  have pb := gPart_blen ⟨c, b, bad⟩
  have pn := gPart_len ⟨c, b, bad⟩
  by_cases x3 : q = 3
  · subst x3
    rw [rsQ_eq3]
    exact leafR_exit (rsQ_o c b bad pl its l0 l1 l2 c0 c1 c2 3) rfl rfl
  by_cases x0 : q = 0
  · subst x0
    have hgo : ∀ (r' : Rd) (cut : Int) (L : List Line), gPart rdP false markP ⟨c, b, bad⟩ = (r', cut, L) → Leaf (some ((X.normal, [(4, .ptr 0 []), (5, .ptr 1 []), (39, .int .i64 1)]), [some (.var 85 (.acons (.sl (C := RC) .u8 r'.c r'.b) (.acons (.bool r'.bad) .anil))), some (.var 30 (.acons (.int .i64 pl) (.acons (.vs 2 its.length) (.acons (.acons (.vs 3 (l0 ++ L).length) (.acons (.vs 4 l1.length) (.acons (.vs 5 l2.length) .anil))) (.acons (.arr (C := RC) .int 3 [cut, c1, c2]) .anil))))), some (.vec (C := RC) .item true its), some (.vec (C := RC) .line true (l0 ++ L)), some (.vec (C := RC) .line true l1), some (.vec (C := RC) .line true l2)])) (LedR rsQ_S ⟨c, b, bad, pl, its, l0, l1, l2, c0, c1, c2, 0⟩) := by
      intro r' cut L hP
      rw [hP] at pb pn
      simp only at pb pn
      have hrun : runQ rdP false markP 1 ⟨⟨r'.c, r'.b, r'.bad⟩, l0 ++ L, l1, l2, cut, c1, c2⟩ = runQ rdP false markP 0 ⟨⟨c, b, bad⟩, l0, l1, l2, c0, c1, c2⟩ := by
        simp only [runQ, part0, hP]
      refine leafR_go ⟨r'.c, r'.b, r'.bad, pl, its, l0 ++ L, l1, l2, cut, c1, c2, 1⟩ ?_ (by simp only [rsQ_S]; omega) ?_ rfl rfl
      · refine ⟨by simp, ?_, ?_, ?_, ?_⟩ <;> simp <;> omega
      · simp only [rsQ_S, rsQ_fin, hrun]
    rw [rsQ_eq0]
    simp only [e0, cond_true, getP_snd1, getP_snd3, t1, t3]
    by_cases q0 : b.length < 3
    · have r0 : rget 3 ⟨c, b, bad⟩ = _ := rget_no q0
      simp only [q0, decide_true, cond_true]
      simp (disch := omega) only [decide_eq_true, Bool.and_self, cond_true, addL, if_true, if_false, k01, k02, k10, k12, k20, k21]
      exact hgo ⟨true, [], true⟩ 0 [] (gPart_of r0 z1 z3)
    have r0 : rget 3 ⟨c, b, bad⟩ = _ := rget_ok (show 3 ≤ b.length by omega)
    have d0 : decide ((0 : Int) ≤ 3 ∧ (3 : Int) ≤ b.length) = true := by simp only [decide_eq_true_eq]; omega
    have e1 : decide ((b.drop 3).length ≤ 1000000000000) = true := decide_eq_true (by simp; omega)
    simp only [q0, decide_false, cond_false, d0, cond_true, e1, getP_fst3 q0]
    by_cases q1 : (b.drop 3).length < 1
    · have r1 : rget 1 ⟨c, b.drop 3, bad⟩ = _ := rget_no q1
      simp only [q1, decide_true, cond_true]
      simp (disch := omega) only [decide_eq_true, Bool.and_self, cond_true, addL, if_true, if_false, k01, k02, k10, k12, k20, k21]
      exact hgo ⟨true, [], true⟩ _ [] (gPart_of r0 r1 z3)
    have r1 : rget 1 ⟨c, b.drop 3, bad⟩ = _ := rget_ok (show 1 ≤ (b.drop 3).length by omega)
    have d1 : decide ((0 : Int) ≤ 1 ∧ (1 : Int) ≤ (b.drop 3).length) = true := by simp only [decide_eq_true_eq]; omega
    have e2 : decide (((b.drop 3).drop 1).length ≤ 1000000000000) = true := decide_eq_true (by simp; omega)
    simp only [q1, decide_false, cond_false, d1, cond_true, e2, getP_fst1 q1]
    have n1 := leVal_le (b.drop 3) 1
    have f1 := leVal_le ((b.drop 3).drop 1) 3
    have bl : (((b.drop 3).drop 1).drop 3).length ≤ 1000000 := by simp; omega
    simp only [Nat.reducePow] at n1 f1
    by_cases q2 : ((b.drop 3).drop 1).length < 3
    · have r2 : rget 3 ⟨c, (b.drop 3).drop 1, bad⟩ = _ := rget_no q2
      simp only [q2, decide_true, cond_true]
      have bz : ([] : List UInt8).length ≤ 1000000 := by simp
      simp (disch := (first | omega | (simp; omega))) only [decide_eq_true, Bool.and_self, cond_true, addL, if_true, if_false, k01, k02, k10, k12, k20, k21, Nat.sub_zero, Int.add_zero]
      refine hgo _ _ _ ?_
      rw [gPart_of r0 r1 r2]
      have : ((leVal ((b.drop 3).take 1) : Int) == 0 && (0 : Int) != 0) = false := by simp
      rw [this]; rfl
    have r2 : rget 3 ⟨c, (b.drop 3).drop 1, bad⟩ = _ := rget_ok (show 3 ≤ ((b.drop 3).drop 1).length by omega)
    have d2 : decide ((0 : Int) ≤ 3 ∧ (3 : Int) ≤ ((b.drop 3).drop 1).length) = true := by simp only [decide_eq_true_eq]; omega
    simp only [q2, decide_false, cond_false, d2, cond_true, getP_fst3 q2]
    have hP := gPart_of r0 r1 r2
    cases bad
    · simp only [cond_false]
      cases hz : ((leVal ((b.drop 3).take 1) : Int) == 0)
      · simp only [cond_false]
        simp (disch := omega) only [decide_eq_true, Bool.and_self, cond_true, addL, if_true, if_false, k01, k02, k10, k12, k20, k21, Nat.sub_zero, Int.add_zero]
        refine hgo _ _ _ ?_
        rw [hP, hz]; rfl
      · simp only [cond_true]
        simp (disch := omega) only [decide_eq_true, Bool.and_self, cond_true, addL, if_true, if_false, k01, k02, k10, k12, k20, k21, Nat.sub_zero, Int.add_zero]
        refine hgo _ _ _ ?_
        rw [hP, hz]
        cases hf : ((leVal (((b.drop 3).drop 1).take 3) : Int) != 0) <;> rfl
    · simp only [cond_true]
      simp (disch := omega) only [decide_eq_true, Bool.and_self, cond_true, addL, if_true, if_false, k01, k02, k10, k12, k20, k21, Nat.sub_zero, Int.add_zero]
      refine hgo _ _ _ ?_
      rw [hP]
      cases ((leVal ((b.drop 3).take 1) : Int) == 0 && (leVal (((b.drop 3).drop 1).take 3) : Int) != 0) <;> rfl
  by_cases x1 : q = 1
  · subst x1
    have hgo : ∀ (r' : Rd) (cut : Int) (L : List Line), gPart rdP false markP ⟨c, b, bad⟩ = (r', cut, L) → Leaf (some ((X.normal, [(4, .ptr 0 []), (5, .ptr 1 []), (39, .int .i64 2)]), [some (.var 85 (.acons (.sl (C := RC) .u8 r'.c r'.b) (.acons (.bool r'.bad) .anil))), some (.var 30 (.acons (.int .i64 pl) (.acons (.vs 2 its.length) (.acons (.acons (.vs 3 l0.length) (.acons (.vs 4 (l1 ++ L).length) (.acons (.vs 5 l2.length) .anil))) (.acons (.arr (C := RC) .int 3 [c0, cut, c2]) .anil))))), some (.vec (C := RC) .item true its), some (.vec (C := RC) .line true l0), some (.vec (C := RC) .line true (l1 ++ L)), some (.vec (C := RC) .line true l2)])) (LedR rsQ_S ⟨c, b, bad, pl, its, l0, l1, l2, c0, c1, c2, 1⟩) := by
      intro r' cut L hP
      rw [hP] at pb pn
      simp only at pb pn
      have hrun : runQ rdP false markP 2 ⟨⟨r'.c, r'.b, r'.bad⟩, l0, l1 ++ L, l2, c0, cut, c2⟩ = runQ rdP false markP 1 ⟨⟨c, b, bad⟩, l0, l1, l2, c0, c1, c2⟩ := by
        simp only [runQ, part1, hP]
      refine leafR_go ⟨r'.c, r'.b, r'.bad, pl, its, l0, l1 ++ L, l2, c0, cut, c2, 2⟩ ?_ (by simp only [rsQ_S]; omega) ?_ rfl rfl
      · refine ⟨by simp, ?_, ?_, ?_, ?_⟩ <;> simp <;> omega
      · simp only [rsQ_S, rsQ_fin, hrun]
    rw [rsQ_eq1]
    simp only [e0, cond_true, getP_snd1, getP_snd3, t1, t3]
    by_cases q0 : b.length < 3
    · have r0 : rget 3 ⟨c, b, bad⟩ = _ := rget_no q0
      simp only [q0, decide_true, cond_true]
      simp (disch := omega) only [decide_eq_true, Bool.and_self, cond_true, addL, if_true, if_false, k01, k02, k10, k12, k20, k21]
      exact hgo ⟨true, [], true⟩ 0 [] (gPart_of r0 z1 z3)
    have r0 : rget 3 ⟨c, b, bad⟩ = _ := rget_ok (show 3 ≤ b.length by omega)
    have d0 : decide ((0 : Int) ≤ 3 ∧ (3 : Int) ≤ b.length) = true := by simp only [decide_eq_true_eq]; omega
    have e1 : decide ((b.drop 3).length ≤ 1000000000000) = true := decide_eq_true (by simp; omega)
    simp only [q0, decide_false, cond_false, d0, cond_true, e1, getP_fst3 q0]
    by_cases q1 : (b.drop 3).length < 1
    · have r1 : rget 1 ⟨c, b.drop 3, bad⟩ = _ := rget_no q1
      simp only [q1, decide_true, cond_true]
      simp (disch := omega) only [decide_eq_true, Bool.and_self, cond_true, addL, if_true, if_false, k01, k02, k10, k12, k20, k21]
      exact hgo ⟨true, [], true⟩ _ [] (gPart_of r0 r1 z3)
    have r1 : rget 1 ⟨c, b.drop 3, bad⟩ = _ := rget_ok (show 1 ≤ (b.drop 3).length by omega)
    have d1 : decide ((0 : Int) ≤ 1 ∧ (1 : Int) ≤ (b.drop 3).length) = true := by simp only [decide_eq_true_eq]; omega
    have e2 : decide (((b.drop 3).drop 1).length ≤ 1000000000000) = true := decide_eq_true (by simp; omega)
    simp only [q1, decide_false, cond_false, d1, cond_true, e2, getP_fst1 q1]
    have n1 := leVal_le (b.drop 3) 1
    have f1 := leVal_le ((b.drop 3).drop 1) 3
    have bl : (((b.drop 3).drop 1).drop 3).length ≤ 1000000 := by simp; omega
    simp only [Nat.reducePow] at n1 f1
    by_cases q2 : ((b.drop 3).drop 1).length < 3
    · have r2 : rget 3 ⟨c, (b.drop 3).drop 1, bad⟩ = _ := rget_no q2
      simp only [q2, decide_true, cond_true]
      have bz : ([] : List UInt8).length ≤ 1000000 := by simp
      simp (disch := (first | omega | (simp; omega))) only [decide_eq_true, Bool.and_self, cond_true, addL, if_true, if_false, k01, k02, k10, k12, k20, k21, Nat.sub_zero, Int.add_zero]
      refine hgo _ _ _ ?_
      rw [gPart_of r0 r1 r2]
      have : ((leVal ((b.drop 3).take 1) : Int) == 0 && (0 : Int) != 0) = false := by simp
      rw [this]; rfl
    have r2 : rget 3 ⟨c, (b.drop 3).drop 1, bad⟩ = _ := rget_ok (show 3 ≤ ((b.drop 3).drop 1).length by omega)
    have d2 : decide ((0 : Int) ≤ 3 ∧ (3 : Int) ≤ ((b.drop 3).drop 1).length) = true := by simp only [decide_eq_true_eq]; omega
    simp only [q2, decide_false, cond_false, d2, cond_true, getP_fst3 q2]
    have hP := gPart_of r0 r1 r2
    cases bad
    · simp only [cond_false]
      cases hz : ((leVal ((b.drop 3).take 1) : Int) == 0)
      · simp only [cond_false]
        simp (disch := omega) only [decide_eq_true, Bool.and_self, cond_true, addL, if_true, if_false, k01, k02, k10, k12, k20, k21, Nat.sub_zero, Int.add_zero]
        refine hgo _ _ _ ?_
        rw [hP, hz]; rfl
      · simp only [cond_true]
        simp (disch := omega) only [decide_eq_true, Bool.and_self, cond_true, addL, if_true, if_false, k01, k02, k10, k12, k20, k21, Nat.sub_zero, Int.add_zero]
        refine hgo _ _ _ ?_
        rw [hP, hz]
        cases hf : ((leVal (((b.drop 3).drop 1).take 3) : Int) != 0) <;> rfl
    · simp only [cond_true]
      simp (disch := omega) only [decide_eq_true, Bool.and_self, cond_true, addL, if_true, if_false, k01, k02, k10, k12, k20, k21, Nat.sub_zero, Int.add_zero]
      refine hgo _ _ _ ?_
      rw [hP]
      cases ((leVal ((b.drop 3).take 1) : Int) == 0 && (leVal (((b.drop 3).drop 1).take 3) : Int) != 0) <;> rfl
  by_cases x2 : q = 2
  · subst x2
    have hgo : ∀ (r' : Rd) (cut : Int) (L : List Line), gPart rdP false markP ⟨c, b, bad⟩ = (r', cut, L) → Leaf (some ((X.normal, [(4, .ptr 0 []), (5, .ptr 1 []), (39, .int .i64 3)]), [some (.var 85 (.acons (.sl (C := RC) .u8 r'.c r'.b) (.acons (.bool r'.bad) .anil))), some (.var 30 (.acons (.int .i64 pl) (.acons (.vs 2 its.length) (.acons (.acons (.vs 3 l0.length) (.acons (.vs 4 l1.length) (.acons (.vs 5 (l2 ++ L).length) .anil))) (.acons (.arr (C := RC) .int 3 [c0, c1, cut]) .anil))))), some (.vec (C := RC) .item true its), some (.vec (C := RC) .line true l0), some (.vec (C := RC) .line true l1), some (.vec (C := RC) .line true (l2 ++ L))])) (LedR rsQ_S ⟨c, b, bad, pl, its, l0, l1, l2, c0, c1, c2, 2⟩) := by
      intro r' cut L hP
      rw [hP] at pb pn
      simp only at pb pn
      have hrun : runQ rdP false markP 3 ⟨⟨r'.c, r'.b, r'.bad⟩, l0, l1, l2 ++ L, c0, c1, cut⟩ = runQ rdP false markP 2 ⟨⟨c, b, bad⟩, l0, l1, l2, c0, c1, c2⟩ := by
        simp only [runQ, part2, hP]
      refine leafR_go ⟨r'.c, r'.b, r'.bad, pl, its, l0, l1, l2 ++ L, c0, c1, cut, 3⟩ ?_ (by simp only [rsQ_S]; omega) ?_ rfl rfl
      · refine ⟨by simp, ?_, ?_, ?_, ?_⟩ <;> simp <;> omega
      · simp only [rsQ_S, rsQ_fin, hrun]
    rw [rsQ_eq2]
    simp only [e0, cond_true, getP_snd1, getP_snd3, t1, t3]
    by_cases q0 : b.length < 3
    · have r0 : rget 3 ⟨c, b, bad⟩ = _ := rget_no q0
      simp only [q0, decide_true, cond_true]
      simp (disch := omega) only [decide_eq_true, Bool.and_self, cond_true, addL, if_true, if_false, k01, k02, k10, k12, k20, k21]
      exact hgo ⟨true, [], true⟩ 0 [] (gPart_of r0 z1 z3)
    have r0 : rget 3 ⟨c, b, bad⟩ = _ := rget_ok (show 3 ≤ b.length by omega)
    have d0 : decide ((0 : Int) ≤ 3 ∧ (3 : Int) ≤ b.length) = true := by simp only [decide_eq_true_eq]; omega
    have e1 : decide ((b.drop 3).length ≤ 1000000000000) = true := decide_eq_true (by simp; omega)
    simp only [q0, decide_false, cond_false, d0, cond_true, e1, getP_fst3 q0]
    by_cases q1 : (b.drop 3).length < 1
    · have r1 : rget 1 ⟨c, b.drop 3, bad⟩ = _ := rget_no q1
      simp only [q1, decide_true, cond_true]
      simp (disch := omega) only [decide_eq_true, Bool.and_self, cond_true, addL, if_true, if_false, k01, k02, k10, k12, k20, k21]
      exact hgo ⟨true, [], true⟩ _ [] (gPart_of r0 r1 z3)
    have r1 : rget 1 ⟨c, b.drop 3, bad⟩ = _ := rget_ok (show 1 ≤ (b.drop 3).length by omega)
    have d1 : decide ((0 : Int) ≤ 1 ∧ (1 : Int) ≤ (b.drop 3).length) = true := by simp only [decide_eq_true_eq]; omega
    have e2 : decide (((b.drop 3).drop 1).length ≤ 1000000000000) = true := decide_eq_true (by simp; omega)
    simp only [q1, decide_false, cond_false, d1, cond_true, e2, getP_fst1 q1]
    have n1 := leVal_le (b.drop 3) 1
    have f1 := leVal_le ((b.drop 3).drop 1) 3
    have bl : (((b.drop 3).drop 1).drop 3).length ≤ 1000000 := by simp; omega
    simp only [Nat.reducePow] at n1 f1
    by_cases q2 : ((b.drop 3).drop 1).length < 3
    · have r2 : rget 3 ⟨c, (b.drop 3).drop 1, bad⟩ = _ := rget_no q2
      simp only [q2, decide_true, cond_true]
      have bz : ([] : List UInt8).length ≤ 1000000 := by simp
      simp (disch := (first | omega | (simp; omega))) only [decide_eq_true, Bool.and_self, cond_true, addL, if_true, if_false, k01, k02, k10, k12, k20, k21, Nat.sub_zero, Int.add_zero]
      refine hgo _ _ _ ?_
      rw [gPart_of r0 r1 r2]
      have : ((leVal ((b.drop 3).take 1) : Int) == 0 && (0 : Int) != 0) = false := by simp
      rw [this]; rfl
    have r2 : rget 3 ⟨c, (b.drop 3).drop 1, bad⟩ = _ := rget_ok (show 3 ≤ ((b.drop 3).drop 1).length by omega)
    have d2 : decide ((0 : Int) ≤ 3 ∧ (3 : Int) ≤ ((b.drop 3).drop 1).length) = true := by simp only [decide_eq_true_eq]; omega
    simp only [q2, decide_false, cond_false, d2, cond_true, getP_fst3 q2]
    have hP := gPart_of r0 r1 r2
    cases bad
    · simp only [cond_false]
      cases hz : ((leVal ((b.drop 3).take 1) : Int) == 0)
      · simp only [cond_false]
        simp (disch := omega) only [decide_eq_true, Bool.and_self, cond_true, addL, if_true, if_false, k01, k02, k10, k12, k20, k21, Nat.sub_zero, Int.add_zero]
        refine hgo _ _ _ ?_
        rw [hP, hz]; rfl
      · simp only [cond_true]
        simp (disch := omega) only [decide_eq_true, Bool.and_self, cond_true, addL, if_true, if_false, k01, k02, k10, k12, k20, k21, Nat.sub_zero, Int.add_zero]
        refine hgo _ _ _ ?_
        rw [hP, hz]
        cases hf : ((leVal (((b.drop 3).drop 1).take 3) : Int) != 0) <;> rfl
    · simp only [cond_true]
      simp (disch := omega) only [decide_eq_true, Bool.and_self, cond_true, addL, if_true, if_false, k01, k02, k10, k12, k20, k21, Nat.sub_zero, Int.add_zero]
      refine hgo _ _ _ ?_
      rw [hP]
      cases ((leVal ((b.drop 3).take 1) : Int) == 0 && (leVal (((b.drop 3).drop 1).take 3) : Int) != 0) <;> rfl
  omega
def rsQ_d (env : Env RC) (os : List (Obj RC)) : Option (Bool × rsQ_St) := match env, os with
  | [(4, .ptr 0 []), (5, .ptr 1 []), (39, .int .i64 x0)], [.var 85 (.acons (.sl .u8 c b) (.acons (.bool bad) .anil)), .var 30 (.acons (.int .i64 pl) (.acons (.vs 2 x1) (.acons (.acons (.vs 3 x2) (.acons (.vs 4 x3) (.acons (.vs 5 x4) .anil))) (.acons (.arr .int 3 [c0, c1, c2]) .anil)))), .vec .item true its, .vec .line true l0, .vec .line true l1, .vec .line true l2] => staticD (true) (decide (x0 = 0) && decide (x1 = its.length) && decide (x2 = l0.length) && decide (x3 = l1.length) && decide (x4 = l2.length) && decide (b.length ≤ 1000000 ∧ l0.length = 0 ∧ l1.length = 0 ∧ l2.length = 0), ⟨c, b, bad, pl, its, l0, l1, l2, c0, c1, c2, 0⟩)
  | _, _ => none
noncomputable def un_1 := um_2.addLoop 32 11 (sumR s07 [.slot 4 0, .slot 5 0, .path 1 [1], .path 1 [2, 0], .path 1 [2, 1], .path 1 [2, 2]] [4, 5, 39] rsQ_S rsQ_d)
theorem un_1_laws : FLaws Try.prog s07 un_1 := by
  refine um_2_laws.addRoundsR s07_laws (by kernel_rfl) rsQ_S 60 [4, 5, 39] [] [.slot 4 0, .slot 5 0, .path 1 [1], .path 1 [2, 0], .path 1 [2, 1], .path 1 [2, 2]] [4, 5, 39] rsQ_d (fun q hI => ?_) ?_
  · obtain ⟨c, b, bad, pl, its, l0, l1, l2, c0, c1, c2, q⟩ := q
    refine ⟨?_, ?_, rsQ_round c b bad pl its l0 l1 l2 c0 c1 c2 q hI⟩
    · simp_all [RefsOK, rsQ_S, rsQ_c, rsQ_o, rsQ_Inv, D.refs, Obj.refs, rEnc]
    · simp_all [rsQ_S, rsQ_fin, rsQ_o, rsQ_Inv, RT.refsOK, RefsOK, D.refs, Obj.refs, rEnc]
  · intro env os b q hd_ hb
    unfold rsQ_d at hd_
    split at hd_
    · obtain ⟨hs, hd_⟩ := staticD_some hd_
      cases hd_
      simp only [Bool.and_eq_true, decide_eq_true_eq] at hb
      obtain ⟨⟨⟨⟨⟨rfl, rfl⟩, rfl⟩, rfl⟩, rfl⟩, hq⟩ := hb
      exact ⟨⟨by simp, hq.1, by simp [hq.2.1], by simp [hq.2.2.1], by simp [hq.2.2.2]⟩, rfl, rfl⟩
    · cases hd_
def stG (o : Option St) : St := o.getD ⟨0, [], [], [], [], 0, 0, 0⟩
theorem runQ0_bounds (r : Rd) : (runQ rdP false markP 0 ⟨r, [], [], [], 0, 0, 0⟩).l0.length ≤ 255 ∧ (runQ rdP false markP 0 ⟨r, [], [], [], 0, 0, 0⟩).l1.length ≤ 255 ∧ (runQ rdP false markP 0 ⟨r, [], [], [], 0, 0, 0⟩).l2.length ≤ 255 ∧ (runQ rdP false markP 0 ⟨r, [], [], [], 0, 0, 0⟩).r.b.length ≤ r.b.length := by
  simp only [runQ, part0, part1, part2, List.nil_append]
  exact ⟨gPart_len _, gPart_len _, gPart_len _, Nat.le_trans (gPart_blen _) (Nat.le_trans (gPart_blen _) (gPart_blen _))⟩
theorem gState_of {r r1 r2 : Rd} {p n : Int} (h1 : rget 3 r = (p, r1)) (h2 : rget 1 r1 = (n, r2)) :
    gState rdP false markP r = ((runQ rdP false markP 0 ⟨(gItems rdP false n.toNat r2).1, [], [], [], 0, 0, 0⟩).r, ⟨p, (gItems rdP false n.toNat r2).2, (runQ rdP false markP 0 ⟨(gItems rdP false n.toNat r2).1, [], [], [], 0, 0, 0⟩).l0, (runQ rdP false markP 0 ⟨(gItems rdP false n.toNat r2).1, [], [], [], 0, 0, 0⟩).l1, (runQ rdP false markP 0 ⟨(gItems rdP false n.toNat r2).1, [], [], [], 0, 0, 0⟩).l2, (runQ rdP false markP 0 ⟨(gItems rdP false n.toNat r2).1, [], [], [], 0, 0, 0⟩).c0, (runQ rdP false markP 0 ⟨(gItems rdP false n.toNat r2).1, [], [], [], 0, 0, 0⟩).c1, (runQ rdP false markP 0 ⟨(gItems rdP false n.toNat r2).1, [], [], [], 0, 0, 0⟩).c2⟩) := by
  have e1 : rdP.get 3 r = (p, r1) := h1
  have e2 : rdP.get 1 r1 = (n, r2) := h2
  simp only [gState, e1, e2, runQ, part0, part1, part2, List.nil_append]
open Go.Proofs
def readSP_s (c : Bool) (b : List UInt8) : Option (Bool × D RC) := some (decide (b.length ≤ 1000000), .tup (.acons (.acons (.int .i64 (stG (readS b)).place) (.acons (.sl (C := RC) .item (readS b).isNone (stG (readS b)).items) (.acons (.acons (.sl (C := RC) .line (readS b).isNone (stG (readS b)).l0) (.acons (.sl (C := RC) .line (readS b).isNone (stG (readS b)).l1) (.acons (.sl (C := RC) .line (readS b).isNone (stG (readS b)).l2) .anil))) (.acons (.arr (C := RC) .int 3 [(stG (readS b)).c0, (stG (readS b)).c1, (stG (readS b)).c2]) .anil)))) (.acons (.int .i64 (bif (readS b).isNone then 50 else 0)) .anil)))
def readSP_sp : List (D RC) → Option (Bool × D RC)
  | [.sl .u8 c b] => readSP_s c b
  | _ => none
noncomputable def readSP_e (c : Bool) (b : List UInt8) := evF s07 un_1 60 32 [.sl (C := RC) .u8 c b]
set_option maxHeartbeats 4000000 in
theorem readSP_eq (c : Bool) (b : List UInt8) : readSP_e c b = (bif decide (List.length b ≤ (1000000000000 : Nat)) then bif Prod.snd (getP b (0 : Int) (3 : Int)) != (0 : Int) then some (D.tup (D.acons (D.acons (D.int .i64 (0 : Int)) (.acons (D.sl RTy.item true []) (.acons (D.acons (D.sl RTy.line true []) (.acons (D.sl RTy.line true []) (.acons (D.sl RTy.line true []) .anil))) (.acons (D.arr RTy.int (3 : Nat) (List.replicate (3 : Nat) (0 : Int))) .anil)))) (.acons (D.int .i64 (50 : Int)) .anil))) else bif decide ((0 : Int) ≤ (3 : Int) ∧ (3 : Int) ≤ (↑b.length : Int)) then bif decide (List.length (List.drop (3 : Nat) b) ≤ (1000000000000 : Nat)) then bif Prod.snd (getP (List.drop (3 : Nat) b) (0 : Int) (1 : Int)) != (0 : Int) then some (D.tup (D.acons (D.acons (D.int .i64 (0 : Int)) (.acons (D.sl RTy.item true []) (.acons (D.acons (D.sl RTy.line true []) (.acons (D.sl RTy.line true []) (.acons (D.sl RTy.line true []) .anil))) (.acons (D.arr RTy.int (3 : Nat) (List.replicate (3 : Nat) (0 : Int))) .anil)))) (.acons (D.int .i64 (50 : Int)) .anil))) else bif decide ((0 : Int) ≤ (1 : Int) ∧ (1 : Int) ≤ (↑(List.drop (3 : Nat) b).length : Int)) then bif decide ((0 : Int) ≤ Prod.fst (getP (List.drop (3 : Nat) b) (0 : Int) (1 : Int)) ∧ Prod.fst (getP (List.drop (3 : Nat) b) (0 : Int) (1 : Int)) ≤ (255 : Int) ∧ List.length (List.drop (1 : Nat) (List.drop (3 : Nat) b)) ≤ (1000000 : Nat) ∧ (0 : Nat) = (0 : Nat)) then bif decide (List.length ([] ++ Prod.snd (gItems rdP false (Int.toNat (getP (List.drop (3 : Nat) b) (0 : Int) (1 : Int)).1 - (0 : Nat)) (Rd.mk c (List.drop (1 : Nat) (List.drop (3 : Nat) b)) false))) = List.length ([] ++ Prod.snd (gItems rdP false (Int.toNat (getP (List.drop (3 : Nat) b) (0 : Int) (1 : Int)).1 - (0 : Nat)) (Rd.mk c (List.drop (1 : Nat) (List.drop (3 : Nat) b)) false)))) && true && true && true && decide (List.length (gItems rdP false (Int.toNat (getP (List.drop (3 : Nat) b) (0 : Int) (1 : Int)).1 - (0 : Nat)) (Rd.mk c (List.drop (1 : Nat) (List.drop (3 : Nat) b)) false)).1.b ≤ (1000000 : Nat) ∧ (0 : Nat) = (0 : Nat) ∧ (0 : Nat) = (0 : Nat) ∧ (0 : Nat) = (0 : Nat)) then bif !Rd.bad (runQ rdP false markP (0 : Nat) (QS.mk (Rd.mk (gItems rdP false (Int.toNat (getP (List.drop (3 : Nat) b) (0 : Int) (1 : Int)).1 - (0 : Nat)) (Rd.mk c (List.drop (1 : Nat) (List.drop (3 : Nat) b)) false)).1.c (gItems rdP false (Int.toNat (getP (List.drop (3 : Nat) b) (0 : Int) (1 : Int)).1 - (0 : Nat)) (Rd.mk c (List.drop (1 : Nat) (List.drop (3 : Nat) b)) false)).1.b (gItems rdP false (Int.toNat (getP (List.drop (3 : Nat) b) (0 : Int) (1 : Int)).1 - (0 : Nat)) (Rd.mk c (List.drop (1 : Nat) (List.drop (3 : Nat) b)) false)).1.bad) [] [] [] (0 : Int) (0 : Int) (0 : Int))).r then bif lenOK (runQ rdP false markP (0 : Nat) (QS.mk (Rd.mk (gItems rdP false (Int.toNat (getP (List.drop (3 : Nat) b) (0 : Int) (1 : Int)).1 - (0 : Nat)) (Rd.mk c (List.drop (1 : Nat) (List.drop (3 : Nat) b)) false)).1.c (gItems rdP false (Int.toNat (getP (List.drop (3 : Nat) b) (0 : Int) (1 : Int)).1 - (0 : Nat)) (Rd.mk c (List.drop (1 : Nat) (List.drop (3 : Nat) b)) false)).1.b (gItems rdP false (Int.toNat (getP (List.drop (3 : Nat) b) (0 : Int) (1 : Int)).1 - (0 : Nat)) (Rd.mk c (List.drop (1 : Nat) (List.drop (3 : Nat) b)) false)).1.bad) [] [] [] (0 : Int) (0 : Int) (0 : Int))).r.b.length then bif !(↑(runQ rdP false markP (0 : Nat) (QS.mk (Rd.mk (gItems rdP false (Int.toNat (getP (List.drop (3 : Nat) b) (0 : Int) (1 : Int)).1 - (0 : Nat)) (Rd.mk c (List.drop (1 : Nat) (List.drop (3 : Nat) b)) false)).1.c (gItems rdP false (Int.toNat (getP (List.drop (3 : Nat) b) (0 : Int) (1 : Int)).1 - (0 : Nat)) (Rd.mk c (List.drop (1 : Nat) (List.drop (3 : Nat) b)) false)).1.b (gItems rdP false (Int.toNat (getP (List.drop (3 : Nat) b) (0 : Int) (1 : Int)).1 - (0 : Nat)) (Rd.mk c (List.drop (1 : Nat) (List.drop (3 : Nat) b)) false)).1.bad) [] [] [] (0 : Int) (0 : Int) (0 : Int))).r.b.length : Int) == (0 : Int) then some (D.tup (D.acons (D.acons (D.int .i64 (0 : Int)) (.acons (D.sl RTy.item true []) (.acons (D.acons (D.sl RTy.line true []) (.acons (D.sl RTy.line true []) (.acons (D.sl RTy.line true []) .anil))) (.acons (D.arr RTy.int (3 : Nat) (List.replicate (3 : Nat) (0 : Int))) .anil)))) (.acons (D.int .i64 (50 : Int)) .anil))) else bif Nat.beq ([] ++ Prod.snd (gItems rdP false (Int.toNat (getP (List.drop (3 : Nat) b) (0 : Int) (1 : Int)).1 - (0 : Nat)) (Rd.mk c (List.drop (1 : Nat) (List.drop (3 : Nat) b)) false))).length ([] ++ Prod.snd (gItems rdP false (Int.toNat (getP (List.drop (3 : Nat) b) (0 : Int) (1 : Int)).1 - (0 : Nat)) (Rd.mk c (List.drop (1 : Nat) (List.drop (3 : Nat) b)) false))).length then bif Nat.beq (runQ rdP false markP (0 : Nat) (QS.mk (Rd.mk (gItems rdP false (Int.toNat (getP (List.drop (3 : Nat) b) (0 : Int) (1 : Int)).1 - (0 : Nat)) (Rd.mk c (List.drop (1 : Nat) (List.drop (3 : Nat) b)) false)).1.c (gItems rdP false (Int.toNat (getP (List.drop (3 : Nat) b) (0 : Int) (1 : Int)).1 - (0 : Nat)) (Rd.mk c (List.drop (1 : Nat) (List.drop (3 : Nat) b)) false)).1.b (gItems rdP false (Int.toNat (getP (List.drop (3 : Nat) b) (0 : Int) (1 : Int)).1 - (0 : Nat)) (Rd.mk c (List.drop (1 : Nat) (List.drop (3 : Nat) b)) false)).1.bad) [] [] [] (0 : Int) (0 : Int) (0 : Int))).l0.length (runQ rdP false markP (0 : Nat) (QS.mk (Rd.mk (gItems rdP false (Int.toNat (getP (List.drop (3 : Nat) b) (0 : Int) (1 : Int)).1 - (0 : Nat)) (Rd.mk c (List.drop (1 : Nat) (List.drop (3 : Nat) b)) false)).1.c (gItems rdP false (Int.toNat (getP (List.drop (3 : Nat) b) (0 : Int) (1 : Int)).1 - (0 : Nat)) (Rd.mk c (List.drop (1 : Nat) (List.drop (3 : Nat) b)) false)).1.b (gItems rdP false (Int.toNat (getP (List.drop (3 : Nat) b) (0 : Int) (1 : Int)).1 - (0 : Nat)) (Rd.mk c (List.drop (1 : Nat) (List.drop (3 : Nat) b)) false)).1.bad) [] [] [] (0 : Int) (0 : Int) (0 : Int))).l0.length then bif Nat.beq (runQ rdP false markP (0 : Nat) (QS.mk (Rd.mk (gItems rdP false (Int.toNat (getP (List.drop (3 : Nat) b) (0 : Int) (1 : Int)).1 - (0 : Nat)) (Rd.mk c (List.drop (1 : Nat) (List.drop (3 : Nat) b)) false)).1.c (gItems rdP false (Int.toNat (getP (List.drop (3 : Nat) b) (0 : Int) (1 : Int)).1 - (0 : Nat)) (Rd.mk c (List.drop (1 : Nat) (List.drop (3 : Nat) b)) false)).1.b (gItems rdP false (Int.toNat (getP (List.drop (3 : Nat) b) (0 : Int) (1 : Int)).1 - (0 : Nat)) (Rd.mk c (List.drop (1 : Nat) (List.drop (3 : Nat) b)) false)).1.bad) [] [] [] (0 : Int) (0 : Int) (0 : Int))).l1.length (runQ rdP false markP (0 : Nat) (QS.mk (Rd.mk (gItems rdP false (Int.toNat (getP (List.drop (3 : Nat) b) (0 : Int) (1 : Int)).1 - (0 : Nat)) (Rd.mk c (List.drop (1 : Nat) (List.drop (3 : Nat) b)) false)).1.c (gItems rdP false (Int.toNat (getP (List.drop (3 : Nat) b) (0 : Int) (1 : Int)).1 - (0 : Nat)) (Rd.mk c (List.drop (1 : Nat) (List.drop (3 : Nat) b)) false)).1.b (gItems rdP false (Int.toNat (getP (List.drop (3 : Nat) b) (0 : Int) (1 : Int)).1 - (0 : Nat)) (Rd.mk c (List.drop (1 : Nat) (List.drop (3 : Nat) b)) false)).1.bad) [] [] [] (0 : Int) (0 : Int) (0 : Int))).l1.length then bif Nat.beq (runQ rdP false markP (0 : Nat) (QS.mk (Rd.mk (gItems rdP false (Int.toNat (getP (List.drop (3 : Nat) b) (0 : Int) (1 : Int)).1 - (0 : Nat)) (Rd.mk c (List.drop (1 : Nat) (List.drop (3 : Nat) b)) false)).1.c (gItems rdP false (Int.toNat (getP (List.drop (3 : Nat) b) (0 : Int) (1 : Int)).1 - (0 : Nat)) (Rd.mk c (List.drop (1 : Nat) (List.drop (3 : Nat) b)) false)).1.b (gItems rdP false (Int.toNat (getP (List.drop (3 : Nat) b) (0 : Int) (1 : Int)).1 - (0 : Nat)) (Rd.mk c (List.drop (1 : Nat) (List.drop (3 : Nat) b)) false)).1.bad) [] [] [] (0 : Int) (0 : Int) (0 : Int))).l2.length (runQ rdP false markP (0 : Nat) (QS.mk (Rd.mk (gItems rdP false (Int.toNat (getP (List.drop (3 : Nat) b) (0 : Int) (1 : Int)).1 - (0 : Nat)) (Rd.mk c (List.drop (1 : Nat) (List.drop (3 : Nat) b)) false)).1.c (gItems rdP false (Int.toNat (getP (List.drop (3 : Nat) b) (0 : Int) (1 : Int)).1 - (0 : Nat)) (Rd.mk c (List.drop (1 : Nat) (List.drop (3 : Nat) b)) false)).1.b (gItems rdP false (Int.toNat (getP (List.drop (3 : Nat) b) (0 : Int) (1 : Int)).1 - (0 : Nat)) (Rd.mk c (List.drop (1 : Nat) (List.drop (3 : Nat) b)) false)).1.bad) [] [] [] (0 : Int) (0 : Int) (0 : Int))).l2.length then bif decide (List.length ([] ++ Prod.snd (gItems rdP false (Int.toNat (getP (List.drop (3 : Nat) b) (0 : Int) (1 : Int)).1 - (0 : Nat)) (Rd.mk c (List.drop (1 : Nat) (List.drop (3 : Nat) b)) false))) ≤ (9223372036854775807 : Nat) ∧ List.length (runQ rdP false markP (0 : Nat) (QS.mk (Rd.mk (gItems rdP false (Int.toNat (getP (List.drop (3 : Nat) b) (0 : Int) (1 : Int)).1 - (0 : Nat)) (Rd.mk c (List.drop (1 : Nat) (List.drop (3 : Nat) b)) false)).1.c (gItems rdP false (Int.toNat (getP (List.drop (3 : Nat) b) (0 : Int) (1 : Int)).1 - (0 : Nat)) (Rd.mk c (List.drop (1 : Nat) (List.drop (3 : Nat) b)) false)).1.b (gItems rdP false (Int.toNat (getP (List.drop (3 : Nat) b) (0 : Int) (1 : Int)).1 - (0 : Nat)) (Rd.mk c (List.drop (1 : Nat) (List.drop (3 : Nat) b)) false)).1.bad) [] [] [] (0 : Int) (0 : Int) (0 : Int))).l0 ≤ (9223372036854775807 : Nat) ∧ List.length (runQ rdP false markP (0 : Nat) (QS.mk (Rd.mk (gItems rdP false (Int.toNat (getP (List.drop (3 : Nat) b) (0 : Int) (1 : Int)).1 - (0 : Nat)) (Rd.mk c (List.drop (1 : Nat) (List.drop (3 : Nat) b)) false)).1.c (gItems rdP false (Int.toNat (getP (List.drop (3 : Nat) b) (0 : Int) (1 : Int)).1 - (0 : Nat)) (Rd.mk c (List.drop (1 : Nat) (List.drop (3 : Nat) b)) false)).1.b (gItems rdP false (Int.toNat (getP (List.drop (3 : Nat) b) (0 : Int) (1 : Int)).1 - (0 : Nat)) (Rd.mk c (List.drop (1 : Nat) (List.drop (3 : Nat) b)) false)).1.bad) [] [] [] (0 : Int) (0 : Int) (0 : Int))).l1 ≤ (9223372036854775807 : Nat) ∧ List.length (runQ rdP false markP (0 : Nat) (QS.mk (Rd.mk (gItems rdP false (Int.toNat (getP (List.drop (3 : Nat) b) (0 : Int) (1 : Int)).1 - (0 : Nat)) (Rd.mk c (List.drop (1 : Nat) (List.drop (3 : Nat) b)) false)).1.c (gItems rdP false (Int.toNat (getP (List.drop (3 : Nat) b) (0 : Int) (1 : Int)).1 - (0 : Nat)) (Rd.mk c (List.drop (1 : Nat) (List.drop (3 : Nat) b)) false)).1.b (gItems rdP false (Int.toNat (getP (List.drop (3 : Nat) b) (0 : Int) (1 : Int)).1 - (0 : Nat)) (Rd.mk c (List.drop (1 : Nat) (List.drop (3 : Nat) b)) false)).1.bad) [] [] [] (0 : Int) (0 : Int) (0 : Int))).l2 ≤ (9223372036854775807 : Nat)) then bif !standsOK (St.mk (getP b (0 : Int) (3 : Int)).1 ([] ++ Prod.snd (gItems rdP false (Int.toNat (getP (List.drop (3 : Nat) b) (0 : Int) (1 : Int)).1 - (0 : Nat)) (Rd.mk c (List.drop (1 : Nat) (List.drop (3 : Nat) b)) false))) (runQ rdP false markP (0 : Nat) (QS.mk (Rd.mk (gItems rdP false (Int.toNat (getP (List.drop (3 : Nat) b) (0 : Int) (1 : Int)).1 - (0 : Nat)) (Rd.mk c (List.drop (1 : Nat) (List.drop (3 : Nat) b)) false)).1.c (gItems rdP false (Int.toNat (getP (List.drop (3 : Nat) b) (0 : Int) (1 : Int)).1 - (0 : Nat)) (Rd.mk c (List.drop (1 : Nat) (List.drop (3 : Nat) b)) false)).1.b (gItems rdP false (Int.toNat (getP (List.drop (3 : Nat) b) (0 : Int) (1 : Int)).1 - (0 : Nat)) (Rd.mk c (List.drop (1 : Nat) (List.drop (3 : Nat) b)) false)).1.bad) [] [] [] (0 : Int) (0 : Int) (0 : Int))).l0 (runQ rdP false markP (0 : Nat) (QS.mk (Rd.mk (gItems rdP false (Int.toNat (getP (List.drop (3 : Nat) b) (0 : Int) (1 : Int)).1 - (0 : Nat)) (Rd.mk c (List.drop (1 : Nat) (List.drop (3 : Nat) b)) false)).1.c (gItems rdP false (Int.toNat (getP (List.drop (3 : Nat) b) (0 : Int) (1 : Int)).1 - (0 : Nat)) (Rd.mk c (List.drop (1 : Nat) (List.drop (3 : Nat) b)) false)).1.b (gItems rdP false (Int.toNat (getP (List.drop (3 : Nat) b) (0 : Int) (1 : Int)).1 - (0 : Nat)) (Rd.mk c (List.drop (1 : Nat) (List.drop (3 : Nat) b)) false)).1.bad) [] [] [] (0 : Int) (0 : Int) (0 : Int))).l1 (runQ rdP false markP (0 : Nat) (QS.mk (Rd.mk (gItems rdP false (Int.toNat (getP (List.drop (3 : Nat) b) (0 : Int) (1 : Int)).1 - (0 : Nat)) (Rd.mk c (List.drop (1 : Nat) (List.drop (3 : Nat) b)) false)).1.c (gItems rdP false (Int.toNat (getP (List.drop (3 : Nat) b) (0 : Int) (1 : Int)).1 - (0 : Nat)) (Rd.mk c (List.drop (1 : Nat) (List.drop (3 : Nat) b)) false)).1.b (gItems rdP false (Int.toNat (getP (List.drop (3 : Nat) b) (0 : Int) (1 : Int)).1 - (0 : Nat)) (Rd.mk c (List.drop (1 : Nat) (List.drop (3 : Nat) b)) false)).1.bad) [] [] [] (0 : Int) (0 : Int) (0 : Int))).l2 (runQ rdP false markP (0 : Nat) (QS.mk (Rd.mk (gItems rdP false (Int.toNat (getP (List.drop (3 : Nat) b) (0 : Int) (1 : Int)).1 - (0 : Nat)) (Rd.mk c (List.drop (1 : Nat) (List.drop (3 : Nat) b)) false)).1.c (gItems rdP false (Int.toNat (getP (List.drop (3 : Nat) b) (0 : Int) (1 : Int)).1 - (0 : Nat)) (Rd.mk c (List.drop (1 : Nat) (List.drop (3 : Nat) b)) false)).1.b (gItems rdP false (Int.toNat (getP (List.drop (3 : Nat) b) (0 : Int) (1 : Int)).1 - (0 : Nat)) (Rd.mk c (List.drop (1 : Nat) (List.drop (3 : Nat) b)) false)).1.bad) [] [] [] (0 : Int) (0 : Int) (0 : Int))).c0 (runQ rdP false markP (0 : Nat) (QS.mk (Rd.mk (gItems rdP false (Int.toNat (getP (List.drop (3 : Nat) b) (0 : Int) (1 : Int)).1 - (0 : Nat)) (Rd.mk c (List.drop (1 : Nat) (List.drop (3 : Nat) b)) false)).1.c (gItems rdP false (Int.toNat (getP (List.drop (3 : Nat) b) (0 : Int) (1 : Int)).1 - (0 : Nat)) (Rd.mk c (List.drop (1 : Nat) (List.drop (3 : Nat) b)) false)).1.b (gItems rdP false (Int.toNat (getP (List.drop (3 : Nat) b) (0 : Int) (1 : Int)).1 - (0 : Nat)) (Rd.mk c (List.drop (1 : Nat) (List.drop (3 : Nat) b)) false)).1.bad) [] [] [] (0 : Int) (0 : Int) (0 : Int))).c1 (runQ rdP false markP (0 : Nat) (QS.mk (Rd.mk (gItems rdP false (Int.toNat (getP (List.drop (3 : Nat) b) (0 : Int) (1 : Int)).1 - (0 : Nat)) (Rd.mk c (List.drop (1 : Nat) (List.drop (3 : Nat) b)) false)).1.c (gItems rdP false (Int.toNat (getP (List.drop (3 : Nat) b) (0 : Int) (1 : Int)).1 - (0 : Nat)) (Rd.mk c (List.drop (1 : Nat) (List.drop (3 : Nat) b)) false)).1.b (gItems rdP false (Int.toNat (getP (List.drop (3 : Nat) b) (0 : Int) (1 : Int)).1 - (0 : Nat)) (Rd.mk c (List.drop (1 : Nat) (List.drop (3 : Nat) b)) false)).1.bad) [] [] [] (0 : Int) (0 : Int) (0 : Int))).c2) then some (D.tup (D.acons (D.acons (D.int .i64 (0 : Int)) (.acons (D.sl RTy.item true []) (.acons (D.acons (D.sl RTy.line true []) (.acons (D.sl RTy.line true []) (.acons (D.sl RTy.line true []) .anil))) (.acons (D.arr RTy.int (3 : Nat) (List.replicate (3 : Nat) (0 : Int))) .anil)))) (.acons (D.int .i64 (50 : Int)) .anil))) else some (D.tup (D.acons (D.acons (D.int .i64 (getP b (0 : Int) (3 : Int)).1) (.acons (D.sl RTy.item false ([] ++ Prod.snd (gItems rdP false (Int.toNat (getP (List.drop (3 : Nat) b) (0 : Int) (1 : Int)).1 - (0 : Nat)) (Rd.mk c (List.drop (1 : Nat) (List.drop (3 : Nat) b)) false)))) (.acons (D.acons (D.sl RTy.line false (runQ rdP false markP (0 : Nat) (QS.mk (Rd.mk (gItems rdP false (Int.toNat (getP (List.drop (3 : Nat) b) (0 : Int) (1 : Int)).1 - (0 : Nat)) (Rd.mk c (List.drop (1 : Nat) (List.drop (3 : Nat) b)) false)).1.c (gItems rdP false (Int.toNat (getP (List.drop (3 : Nat) b) (0 : Int) (1 : Int)).1 - (0 : Nat)) (Rd.mk c (List.drop (1 : Nat) (List.drop (3 : Nat) b)) false)).1.b (gItems rdP false (Int.toNat (getP (List.drop (3 : Nat) b) (0 : Int) (1 : Int)).1 - (0 : Nat)) (Rd.mk c (List.drop (1 : Nat) (List.drop (3 : Nat) b)) false)).1.bad) [] [] [] (0 : Int) (0 : Int) (0 : Int))).l0) (.acons (D.sl RTy.line false (runQ rdP false markP (0 : Nat) (QS.mk (Rd.mk (gItems rdP false (Int.toNat (getP (List.drop (3 : Nat) b) (0 : Int) (1 : Int)).1 - (0 : Nat)) (Rd.mk c (List.drop (1 : Nat) (List.drop (3 : Nat) b)) false)).1.c (gItems rdP false (Int.toNat (getP (List.drop (3 : Nat) b) (0 : Int) (1 : Int)).1 - (0 : Nat)) (Rd.mk c (List.drop (1 : Nat) (List.drop (3 : Nat) b)) false)).1.b (gItems rdP false (Int.toNat (getP (List.drop (3 : Nat) b) (0 : Int) (1 : Int)).1 - (0 : Nat)) (Rd.mk c (List.drop (1 : Nat) (List.drop (3 : Nat) b)) false)).1.bad) [] [] [] (0 : Int) (0 : Int) (0 : Int))).l1) (.acons (D.sl RTy.line false (runQ rdP false markP (0 : Nat) (QS.mk (Rd.mk (gItems rdP false (Int.toNat (getP (List.drop (3 : Nat) b) (0 : Int) (1 : Int)).1 - (0 : Nat)) (Rd.mk c (List.drop (1 : Nat) (List.drop (3 : Nat) b)) false)).1.c (gItems rdP false (Int.toNat (getP (List.drop (3 : Nat) b) (0 : Int) (1 : Int)).1 - (0 : Nat)) (Rd.mk c (List.drop (1 : Nat) (List.drop (3 : Nat) b)) false)).1.b (gItems rdP false (Int.toNat (getP (List.drop (3 : Nat) b) (0 : Int) (1 : Int)).1 - (0 : Nat)) (Rd.mk c (List.drop (1 : Nat) (List.drop (3 : Nat) b)) false)).1.bad) [] [] [] (0 : Int) (0 : Int) (0 : Int))).l2) .anil))) (.acons (D.arr RTy.int (3 : Nat) [QS.c0 (runQ rdP false markP (0 : Nat) (QS.mk (Rd.mk (gItems rdP false (Int.toNat (getP (List.drop (3 : Nat) b) (0 : Int) (1 : Int)).1 - (0 : Nat)) (Rd.mk c (List.drop (1 : Nat) (List.drop (3 : Nat) b)) false)).1.c (gItems rdP false (Int.toNat (getP (List.drop (3 : Nat) b) (0 : Int) (1 : Int)).1 - (0 : Nat)) (Rd.mk c (List.drop (1 : Nat) (List.drop (3 : Nat) b)) false)).1.b (gItems rdP false (Int.toNat (getP (List.drop (3 : Nat) b) (0 : Int) (1 : Int)).1 - (0 : Nat)) (Rd.mk c (List.drop (1 : Nat) (List.drop (3 : Nat) b)) false)).1.bad) [] [] [] (0 : Int) (0 : Int) (0 : Int))), QS.c1 (runQ rdP false markP (0 : Nat) (QS.mk (Rd.mk (gItems rdP false (Int.toNat (getP (List.drop (3 : Nat) b) (0 : Int) (1 : Int)).1 - (0 : Nat)) (Rd.mk c (List.drop (1 : Nat) (List.drop (3 : Nat) b)) false)).1.c (gItems rdP false (Int.toNat (getP (List.drop (3 : Nat) b) (0 : Int) (1 : Int)).1 - (0 : Nat)) (Rd.mk c (List.drop (1 : Nat) (List.drop (3 : Nat) b)) false)).1.b (gItems rdP false (Int.toNat (getP (List.drop (3 : Nat) b) (0 : Int) (1 : Int)).1 - (0 : Nat)) (Rd.mk c (List.drop (1 : Nat) (List.drop (3 : Nat) b)) false)).1.bad) [] [] [] (0 : Int) (0 : Int) (0 : Int))), QS.c2 (runQ rdP false markP (0 : Nat) (QS.mk (Rd.mk (gItems rdP false (Int.toNat (getP (List.drop (3 : Nat) b) (0 : Int) (1 : Int)).1 - (0 : Nat)) (Rd.mk c (List.drop (1 : Nat) (List.drop (3 : Nat) b)) false)).1.c (gItems rdP false (Int.toNat (getP (List.drop (3 : Nat) b) (0 : Int) (1 : Int)).1 - (0 : Nat)) (Rd.mk c (List.drop (1 : Nat) (List.drop (3 : Nat) b)) false)).1.b (gItems rdP false (Int.toNat (getP (List.drop (3 : Nat) b) (0 : Int) (1 : Int)).1 - (0 : Nat)) (Rd.mk c (List.drop (1 : Nat) (List.drop (3 : Nat) b)) false)).1.bad) [] [] [] (0 : Int) (0 : Int) (0 : Int)))]) .anil)))) (.acons (D.int .i64 (0 : Int)) .anil))) else none else none else none else none else none else none else some (D.tup (D.acons (D.acons (D.int .i64 (0 : Int)) (.acons (D.sl RTy.item true []) (.acons (D.acons (D.sl RTy.line true []) (.acons (D.sl RTy.line true []) (.acons (D.sl RTy.line true []) .anil))) (.acons (D.arr RTy.int (3 : Nat) (List.replicate (3 : Nat) (0 : Int))) .anil)))) (.acons (D.int .i64 (50 : Int)) .anil))) else none else none else none else none else none else none) := by kernel_rfl
theorem readSP_ok (c : Bool) (b : List UInt8) (h : (decide (b.length ≤ 1000000)) = true) : readSP_e c b = some (.tup (.acons (.acons (.int .i64 (stG (readS b)).place) (.acons (.sl (C := RC) .item (readS b).isNone (stG (readS b)).items) (.acons (.acons (.sl (C := RC) .line (readS b).isNone (stG (readS b)).l0) (.acons (.sl (C := RC) .line (readS b).isNone (stG (readS b)).l1) (.acons (.sl (C := RC) .line (readS b).isNone (stG (readS b)).l2) .anil))) (.acons (.arr (C := RC) .int 3 [(stG (readS b)).c0, (stG (readS b)).c1, (stG (readS b)).c2]) .anil)))) (.acons (.int .i64 (bif (readS b).isNone then 50 else 0)) .anil))) := by
  rw [readSP_eq]
  have hl := of_decide_eq_true h
  have e0 : decide (b.length ≤ 1000000000000) = true := decide_eq_true (by omega)
  have t1 : Int.toNat 1 = 1 := rfl
  have t3 : Int.toNat 3 = 3 := rfl
  have eb : ∀ n : Nat, n.beq n = true := fun n => by simp
  have no : readS b = none → some (D.tup (D.acons (D.acons (D.int IntKind.i64 0) (D.acons (D.sl (C := RC) RTy.item true []) (D.acons (D.acons (D.sl (C := RC) RTy.line true []) (D.acons (D.sl (C := RC) RTy.line true []) (D.acons (D.sl (C := RC) RTy.line true []) D.anil))) (D.acons (D.arr (C := RC) RTy.int 3 (List.replicate 3 0)) D.anil)))) (D.acons (D.int IntKind.i64 50) D.anil))) = some (.tup (.acons (.acons (.int .i64 (stG (readS b)).place) (.acons (.sl (C := RC) .item (readS b).isNone (stG (readS b)).items) (.acons (.acons (.sl (C := RC) .line (readS b).isNone (stG (readS b)).l0) (.acons (.sl (C := RC) .line (readS b).isNone (stG (readS b)).l1) (.acons (.sl (C := RC) .line (readS b).isNone (stG (readS b)).l2) .anil))) (.acons (.arr (C := RC) .int 3 [(stG (readS b)).c0, (stG (readS b)).c1, (stG (readS b)).c2]) .anil)))) (.acons (.int .i64 (bif (readS b).isNone then 50 else 0)) .anil))) := fun e => by rw [e]; rfl
  simp only [e0, cond_true, getP_snd1, getP_snd3, t1, t3]
  by_cases q0 : b.length < 3
  · simp only [q0, decide_true, cond_true]
    exact no (by have : ¬ 3 ≤ b.length := by omega
                 simp [readS, sget, this])
  have r0 : rget 3 ⟨c, b, false⟩ = _ := rget_ok (show 3 ≤ b.length by omega)
  have d0 : decide ((0 : Int) ≤ 3 ∧ (3 : Int) ≤ b.length) = true := by simp only [decide_eq_true_eq]; omega
  have e1 : decide ((b.drop 3).length ≤ 1000000000000) = true := decide_eq_true (by simp; omega)
  simp only [q0, decide_false, cond_false, d0, cond_true, e1, getP_fst3 q0]
  by_cases q1 : (b.drop 3).length < 1
  · simp only [q1, decide_true, cond_true]
    exact no (by have h3 : 3 ≤ b.length := by omega
                 have : ¬ 1 ≤ (b.drop 3).length := by omega
                 simp only [readS, sget, h3, if_true, Option.bind_some, this, if_false, Option.bind_none])
  have r1 : rget 1 ⟨c, b.drop 3, false⟩ = _ := rget_ok (show 1 ≤ (b.drop 3).length by omega)
  have d1 : decide ((0 : Int) ≤ 1 ∧ (1 : Int) ≤ (b.drop 3).length) = true := by simp only [decide_eq_true_eq]; omega
  simp only [q1, decide_false, cond_false, d1, cond_true, getP_fst1 q1]
  have rK := gState_read rdP_ok false markP (fun _ => rfl) ⟨c, b, false⟩ rfl
  rw [gState_of r0 r1] at rK
  change readS b = _ at rK
  have n1 := leVal_le (b.drop 3) 1
  simp only [Nat.reducePow] at n1
  have bl : ((b.drop 3).drop 1).length ≤ 1000000 := by simp; omega
  generalize leVal ((b.drop 3).take 1) = n at n1 rK ⊢
  have ck : decide ((0 : Int) ≤ n ∧ (n : Int) ≤ 255 ∧ ((b.drop 3).drop 1).length ≤ 1000000 ∧ True) = true := decide_eq_true ⟨by omega, by omega, bl, trivial⟩
  have tn : (n : Int).toNat - 0 = n := by omega
  have tn' : (n : Int).toNat = n := by omega
  simp only [ck, tn, tn', cond_true, List.nil_append] at rK ⊢
  have gb := gItems_blen n ⟨c, (b.drop 3).drop 1, false⟩
  have gl := gItems_len rdP false n ⟨c, (b.drop 3).drop 1, false⟩
  generalize gItems rdP false n ⟨c, (b.drop 3).drop 1, false⟩ = IT at gb gl rK ⊢
  obtain ⟨⟨c', b', bad'⟩, its⟩ := IT
  simp only at gb gl rK ⊢
  have qb := runQ0_bounds ⟨c', b', bad'⟩
  generalize runQ rdP false markP 0 ⟨⟨c', b', bad'⟩, [], [], [], 0, 0, 0⟩ = Q at qb rK ⊢
  obtain ⟨⟨qc, qq, qbad⟩, a0, a1, a2, x0, x1, x2⟩ := Q
  simp only [rdP] at qb rK ⊢
  obtain ⟨b0, b1, b2, b3⟩ := qb
  have k1 : lenOK qq.length = true := lenOK_of (by omega)
  have m1 : decide (b'.length ≤ 1000000 ∧ True ∧ True ∧ True) = true := decide_eq_true ⟨by omega, trivial, trivial, trivial⟩
  have m2 : decide (its.length ≤ 9223372036854775807 ∧ a0.length ≤ 9223372036854775807 ∧ a1.length ≤ 9223372036854775807 ∧ a2.length ≤ 9223372036854775807) = true := by simp only [decide_eq_true_eq]; omega
  simp only [k1, m1, m2, eb, decide_true, Bool.and_self, Bool.and_true, Bool.true_and, cond_true]
  cases qbad
  · simp only [Bool.not_false, cond_true]
    by_cases hz : qq = []
    · subst hz
      cases hs : standsOK ⟨(leVal (b.take 3) : Int), its, a0, a1, a2, x0, x1, x2⟩
      · rw [hs] at rK
        exact no (by rw [rK]; simp)
      · rw [hs] at rK
        have : readS b = some ⟨(leVal (b.take 3) : Int), its, a0, a1, a2, x0, x1, x2⟩ := by rw [rK]; simp
        rw [this]
        rfl
    · have hz' : ((qq.length : Int) == 0) = false := by
        simp only [beq_eq_false_iff_ne]; cases qq with
        | nil => exact (hz rfl).elim
        | cons _ _ => simp; omega
      simp only [hz', Bool.not_false, cond_true]
      exact no (by rw [rK]; simp [hz])
  · simp only [Bool.not_true, cond_false]
    exact no (by rw [rK]; simp)
noncomputable def uo_1 := un_1.addSpec 32 readSP_sp
theorem uo_1_laws : FLaws Try.prog s07 uo_1 := un_1_laws.addEv s07_laws fun args d h => by
  unfold readSP_sp at h
  split at h
  · unfold readSP_s at h
    have h1 := congrArg Prod.fst (Option.some.inj h)
    obtain rfl : _ = d := congrArg Prod.snd (Option.some.inj h)
    exact ⟨by simp [D.refs], 60, readSP_ok _ _ h1⟩
  · cases h
open Go.Proofs
noncomputable def stepP_s (n : Int) : Option (Bool × D RC) := some (rng n, .int .u32 (crcS n))
noncomputable def stepP_sp : List (D RC) → Option (Bool × D RC)
  | [.int .u32 n] => stepP_s n
  | _ => none
noncomputable def stepP_e (n : Int) := evF s07 uo_1 40 83 [.int .u32 n]
theorem stepP_eq (n : Int) : stepP_e n = (some (D.int IntKind.u32 (bits IntKind.u32 (fun (x : Nat) (u v : BitVec x) => u ^^^ v) (Int.fdiv n (2 : Int)) (IntKind.wrap IntKind.u32 (bits IntKind.u32 (fun (x : Nat) (u v : BitVec x) => u &&& v) n (1 : Int) * (3988292384 : Int)))))) := by kernel_rfl
theorem stepP_ok (n : Int) (h : (rng n) = true) : stepP_e n = some (.int .u32 (crcS n)) := by
  rw [stepP_eq]
  have hr := rng_iff.1 h
  rw [and1 hr, half hr.1]
  congr 2
  unfold crcS
  split
  · rename_i e
    rw [e, u32_wrap]; rfl
  · rename_i e
    have e0 : n % 2 = 0 := by omega
    rw [e0, u32_wrap]
    exact xor32_zero (by omega)
noncomputable def ut_1 := uo_1.addSpec 83 stepP_sp
theorem ut_1_laws : FLaws Try.prog s07 ut_1 := uo_1_laws.addEv s07_laws fun args d h => by
  unfold stepP_sp at h
  split at h
  · unfold stepP_s at h
    have h1 := congrArg Prod.fst (Option.some.inj h)
    obtain rfl : _ = d := congrArg Prod.snd (Option.some.inj h)
    exact ⟨by simp [D.refs], 40, stepP_ok _ h1⟩
  · cases h
structure on8P_St where
  n : Int
  i : Nat
def on8P_c (n : Int) (i : Nat) : Env RC := [(0, .int .u32 n), (17, .int .i64 (i : Int))]
def on8P_o (n : Int) (i : Nat) : List (Obj RC) := []
noncomputable def on8P_r (n : Int) (i : Nat) := rndO s07 ut_1 81 6 60 0 [0, 17] [0] [] (on8P_c n i) (on8P_o n i)
theorem on8P_eq (n : Int) (i : Nat) : on8P_r n i = (bif decide ((↑i : Int) < (8 : Int)) then bif rng n then some ((X.normal, [((0 : Nat), D.int IntKind.u32 (crcS n)), ((17 : Nat), D.int .i64 (IntKind.wrap .i64 ((↑i : Int) + (1 : Int))))]), []) else none else some ((X.exit (2 : Nat), [((0 : Nat), D.int IntKind.u32 n)]), [])) := by kernel_rfl
noncomputable def on8P_fin (n : Int) (i : Nat) : RT RC := .leaf (.exit 2) [(0, .int .u32 (iterS (8 - i) n))] []
def on8P_Inv (n : Int) (i : Nat) : Prop := i ≤ 8 ∧ rng n = true
noncomputable def on8P_S : LoopR RC on8P_St where
  k := 0
  canon q := on8P_c q.n q.i
  objs q := on8P_o q.n q.i
  fin q := on8P_fin q.n q.i
  Inv q := on8P_Inv q.n q.i
  μ q := 8 - q.i
theorem on8P_round (n : Int) (i : Nat) (hI : on8P_Inv n i) : Leaf (on8P_r n i) (LedR on8P_S ⟨n, i⟩) := by
  rw [on8P_eq]
  unfold on8P_Inv at hI
  obtain ⟨h1, h2⟩ := hI
  by_cases hlt : i < 8
  · have c1 : decide ((i : Int) < 8) = true := by simp; omega
    have w_succ : IntKind.i64.wrap ((i : Int) + 1) = ((i + 1 : Nat) : Int) := by rw [wrap_id (by omega) (by omega)]; simp
    rw [c1, h2, w_succ]
    refine leafR_go ⟨crcS n, i + 1⟩ ⟨hlt, rng_s h2⟩ (by simp only [on8P_S]; omega) ?_ rfl rfl
    simp only [on8P_S, on8P_fin, show 8 - i = (8 - (i + 1)) + 1 by omega, iterS]
  · have hi : i = 8 := by omega
    have c1 : decide ((i : Int) < 8) = false := by simp; omega
    rw [c1]
    exact leafR_exit [] (by simp only [on8P_S, on8P_fin, hi, Nat.sub_self, iterS, RT.val]) rfl
noncomputable def on8P_d (env : Env RC) (os : List (Obj RC)) : Option (Bool × on8P_St) := match env, os with
  | [(0, .int .u32 n), (17, .int .i64 x0)], [] => staticD (true) (decide (x0 = 0) && rng n, ⟨n, 0⟩)
  | _, _ => none
noncomputable def ut_2 := ut_1.addLoop 81 6 (sumR s07 [] [0, 17] on8P_S on8P_d)
theorem ut_2_laws : FLaws Try.prog s07 ut_2 := by
  refine ut_1_laws.addRoundsR s07_laws (by kernel_rfl) on8P_S 60 [0, 17] [0] [] [0, 17] on8P_d (fun q hI => ?_) ?_
  · obtain ⟨n, i⟩ := q
    refine ⟨?_, ?_, on8P_round n i hI⟩
    · simp_all [RefsOK, on8P_S, on8P_c, on8P_o, on8P_Inv, D.refs, Obj.refs, rEnc]
    · simp_all [on8P_S, on8P_fin, on8P_o, on8P_Inv, RT.refsOK, RefsOK, D.refs, Obj.refs, rEnc]
  · intro env os b q hd_ hb
    unfold on8P_d at hd_
    split at hd_
    · obtain ⟨hs, hd_⟩ := staticD_some hd_
      cases hd_
      simp only [Bool.and_eq_true, decide_eq_true_eq] at hb
      obtain ⟨rfl, h⟩ := hb
      exact ⟨⟨Nat.zero_le _, h⟩, rfl, rfl⟩
    · cases hd_
structure onPl_St where
  n : Int
  c : Bool
  b : List UInt8
  i : Nat
def onPl_c (n : Int) (c : Bool) (b : List UInt8) (i : Nat) : Env RC := [(0, .int .u32 n), (7, .sl (C := RC) .u8 c b), (8, .int .i64 (b.length)), (9, .int .i64 (i : Int))]
def onPl_o (n : Int) (c : Bool) (b : List UInt8) (i : Nat) : List (Obj RC) := []
noncomputable def onPl_r (n : Int) (c : Bool) (b : List UInt8) (i : Nat) := rndO s07 ut_2 81 2 60 0 [0, 7, 8, 9] [0] [] (onPl_c n c b i) (onPl_o n c b i)
theorem onPl_eq (n : Int) (c : Bool) (b : List UInt8) (i : Nat) : onPl_r n c b i = (bif decide ((↑i : Int) < (↑b.length : Int)) then bif decide ((0 : Int) ≤ (↑i : Int) ∧ (↑i : Int) < (↑b.length : Int)) then bif rng (bits IntKind.u32 (fun (x : Nat) (u v : BitVec x) => u ^^^ v) n (IntKind.wrap IntKind.u32 (↑(UInt8.toNat (List.getD b (↑i : Int).toNat (UInt8.ofBitVec (BitVec.ofNat (8 : Nat) (nat_lit 0))))) : Int))) then some ((X.normal, [((0 : Nat), D.int IntKind.u32 (iterS (8 : Nat) (bits IntKind.u32 (fun (x : Nat) (u v : BitVec x) => u ^^^ v) n (IntKind.wrap IntKind.u32 (↑(UInt8.toNat (List.getD b (↑i : Int).toNat (UInt8.ofBitVec (BitVec.ofNat (8 : Nat) (nat_lit 0))))) : Int))))), ((7 : Nat), D.sl RTy.u8 c b), ((8 : Nat), D.int .i64 (↑b.length : Int)), ((9 : Nat), D.int .i64 (IntKind.wrap .i64 ((↑i : Int) + (1 : Int))))]), []) else none else none else some ((X.exit (0 : Nat), [((0 : Nat), D.int IntKind.u32 n)]), [])) := by kernel_rfl
noncomputable def onPl_fin (n : Int) (c : Bool) (b : List UInt8) (i : Nat) : RT RC := .leaf (.exit 0) [(0, .int .u32 (crcOn n (b.drop i)))] []
def onPl_Inv (n : Int) (c : Bool) (b : List UInt8) (i : Nat) : Prop := i ≤ b.length ∧ b.length ≤ 1000000
noncomputable def onPl_S : LoopR RC onPl_St where
  k := 0
  canon q := onPl_c q.n q.c q.b q.i
  objs q := onPl_o q.n q.c q.b q.i
  fin q := onPl_fin q.n q.c q.b q.i
  Inv q := onPl_Inv q.n q.c q.b q.i
  μ q := q.b.length - q.i
theorem onPl_round (n : Int) (c : Bool) (b : List UInt8) (i : Nat) (hI : onPl_Inv n c b i) : Leaf (onPl_r n c b i) (LedR onPl_S ⟨n, c, b, i⟩) := by
  rw [onPl_eq]
  unfold onPl_Inv at hI
  obtain ⟨h1, h2⟩ := hI
  by_cases hlt : i < b.length
  · have w_succ : IntKind.i64.wrap ((i : Int) + 1) = ((i + 1 : Nat) : Int) := by rw [wrap_id (by omega) (by omega)]; simp
    have d_lt : decide ((i : Int) < b.length) = true := by simp; omega
    have d_in : decide (0 ≤ (i : Int) ∧ (i : Int) < b.length) = true := by simp; omega
    have t_nat : ((i : Int)).toNat = i := by simp
    simp only [w_succ, d_lt, d_in, t_nat, cond_true]
    have hx : ∀ x : Int, rng (bits .u32 (fun _ u v => u ^^^ v) n x) = true := fun x => rng_x n x
    simp only [u8_u32, hx, cond_true]
    refine leafR_go ⟨crc8 (xor32 n ((b.getD i 0).toNat : Int)), c, b, i + 1⟩ ⟨hlt, h2⟩ (by simp only [onPl_S]; omega) ?_ rfl rfl
    simp only [onPl_S, onPl_fin, crcOn_step b i n hlt 0]
  · have hi : i = b.length := by omega
    have c1 : decide ((i : Int) < b.length) = false := by simp; omega
    rw [c1]
    exact leafR_exit [] (by simp only [onPl_S, onPl_fin, hi, List.drop_length, crcOn_nil, RT.val]) rfl
noncomputable def onPl_d (env : Env RC) (os : List (Obj RC)) : Option (Bool × onPl_St) := match env, os with
  | [(0, .int .u32 n), (7, .sl .u8 c b), (8, .int .i64 x0), (9, .int .i64 x1)], [] => staticD (true) (decide (x0 = b.length) && decide (x1 = 0) && decide (b.length ≤ 1000000), ⟨n, c, b, 0⟩)
  | _, _ => none
noncomputable def ut_3 := ut_2.addLoop 81 2 (sumR s07 [] [0, 7, 8, 9] onPl_S onPl_d)
theorem ut_3_laws : FLaws Try.prog s07 ut_3 := by
  refine ut_2_laws.addRoundsR s07_laws (by kernel_rfl) onPl_S 60 [0, 7, 8, 9] [0] [] [0, 7, 8, 9] onPl_d (fun q hI => ?_) ?_
  · obtain ⟨n, c, b, i⟩ := q
    refine ⟨?_, ?_, onPl_round n c b i hI⟩
    · simp_all [RefsOK, onPl_S, onPl_c, onPl_o, onPl_Inv, D.refs, Obj.refs, rEnc]
    · simp_all [onPl_S, onPl_fin, onPl_o, onPl_Inv, RT.refsOK, RefsOK, D.refs, Obj.refs, rEnc]
  · intro env os b q hd_ hb
    unfold onPl_d at hd_
    split at hd_
    · obtain ⟨hs, hd_⟩ := staticD_some hd_
      cases hd_
      simp only [Bool.and_eq_true, decide_eq_true_eq] at hb
      obtain ⟨⟨rfl, rfl⟩, h⟩ := hb
      exact ⟨⟨Nat.zero_le _, h⟩, rfl, rfl⟩
    · cases hd_
def onP_s (n : Int) (c : Bool) (b : List UInt8) : Option (Bool × D RC) := some (decide (b.length ≤ 1000000), .int .u32 (crcOn n b))
def onP_sp : List (D RC) → Option (Bool × D RC)
  | [.int .u32 n, .sl .u8 c b] => onP_s n c b
  | _ => none
noncomputable def onP_e (n : Int) (c : Bool) (b : List UInt8) := evF s07 ut_3 60 81 [.int .u32 n, .sl (C := RC) .u8 c b]
theorem onP_eq (n : Int) (c : Bool) (b : List UInt8) : onP_e n c b = (bif lenOK b.length then bif decide ((↑b.length : Int) = (↑b.length : Int)) && true && decide (List.length b ≤ (1000000 : Nat)) then some (D.int IntKind.u32 (crcOn n (List.drop (0 : Nat) b))) else none else none) := by kernel_rfl
theorem onP_ok (n : Int) (c : Bool) (b : List UInt8) (h : (decide (b.length ≤ 1000000)) = true) : onP_e n c b = some (.int .u32 (crcOn n b)) := by
  rw [onP_eq]
  have hl := of_decide_eq_true h
  rw [lenOK_of (by omega), h]
  simp
noncomputable def ut_4 := ut_3.addSpec 81 onP_sp
theorem ut_4_laws : FLaws Try.prog s07 ut_4 := ut_3_laws.addEv s07_laws fun args d h => by
  unfold onP_sp at h
  split at h
  · unfold onP_s at h
    have h1 := congrArg Prod.fst (Option.some.inj h)
    obtain rfl : _ = d := congrArg Prod.snd (Option.some.inj h)
    exact ⟨by simp [D.refs], 60, onP_ok _ _ _ h1⟩
  · cases h
def sumP_s (c : Bool) (b : List UInt8) : Option (Bool × D RC) := some (decide (b.length ≤ 1000000), .int .u32 (crcOf b))
def sumP_sp : List (D RC) → Option (Bool × D RC)
  | [.sl .u8 c b] => sumP_s c b
  | _ => none
noncomputable def sumP_e (c : Bool) (b : List UInt8) := evF s07 ut_4 60 75 [.sl (C := RC) .u8 c b]
theorem sumP_eq (c : Bool) (b : List UInt8) : sumP_e c b = (bif decide (List.length b ≤ (1000000 : Nat)) then some (D.int IntKind.u32 (bits IntKind.u32 (fun (x : Nat) (u v : BitVec x) => u ^^^ v) (4294967295 : Int) (crcOn (4294967295 : Int) b))) else none) := by kernel_rfl
theorem sumP_ok (c : Bool) (b : List UInt8) (h : (decide (b.length ≤ 1000000)) = true) : sumP_e c b = some (.int .u32 (crcOf b)) := by
  rw [sumP_eq]
  rw [h]; rfl
noncomputable def ut_5 := ut_4.addSpec 75 sumP_sp
theorem ut_5_laws : FLaws Try.prog s07 ut_5 := ut_4_laws.addEv s07_laws fun args d h => by
  unfold sumP_sp at h
  split at h
  · unfold sumP_s at h
    have h1 := congrArg Prod.fst (Option.some.inj h)
    obtain rfl : _ = d := congrArg Prod.snd (Option.some.inj h)
    exact ⟨by simp [D.refs], 60, sumP_ok _ _ h1⟩
  · cases h
def sealP_s (c : Bool) (b : List UInt8) : Option (Bool × D RC) := some (decide (b.length ≤ 1000000), .sl (C := RC) .u8 false (sealL b))
def sealP_sp : List (D RC) → Option (Bool × D RC)
  | [.sl .u8 c b] => sealP_s c b
  | _ => none
noncomputable def sealP_e (c : Bool) (b : List UInt8) := evF s07 ut_5 60 56 [.sl (C := RC) .u8 c b]
theorem sealP_eq (c : Bool) (b : List UInt8) : sealP_e c b = (bif lenOK b.length then bif lenOK b.length then bif decide ((0 : Int) ≤ (↑b.length : Int) ∧ (↑b.length : Int) ≤ IntKind.wrap .i64 ((↑b.length : Int) + (4 : Int))) && sizeOK (IntKind.wrap .i64 ((↑b.length : Int) + (4 : Int))).toNat (1 : Nat) then bif Nat.beq (↑b.length : Int).toNat (List.replicate (↑b.length : Int).toNat (UInt8.ofBitVec (BitVec.ofNat (8 : Nat) (nat_lit 0)))).length && lenOK (↑b.length : Int).toNat then bif decide (List.length b ≤ (1000000 : Nat)) then bif Nat.beq (↑b.length : Int).toNat (List.take (List.replicate (↑b.length : Int).toNat (UInt8.ofBitVec (BitVec.ofNat (8 : Nat) (nat_lit 0)))).length b ++ List.drop b.length (List.replicate (↑b.length : Int).toNat (UInt8.ofBitVec (BitVec.ofNat (8 : Nat) (nat_lit 0))))).length && sizeOK (Int.toNat (↑b.length : Int) + List.length [UInt8.ofNat (IntKind.wrap IntKind.u8 (crcOf b)).toNat]) (1 : Nat) then bif Nat.beq (List.length (List.take (List.replicate (↑b.length : Int).toNat (UInt8.ofBitVec (BitVec.ofNat (8 : Nat) (nat_lit 0)))).length b ++ List.drop b.length (List.replicate (↑b.length : Int).toNat (UInt8.ofBitVec (BitVec.ofNat (8 : Nat) (nat_lit 0))))) + List.length [UInt8.ofNat (IntKind.wrap IntKind.u8 (crcOf b)).toNat]) (List.take (List.replicate (↑b.length : Int).toNat (UInt8.ofBitVec (BitVec.ofNat (8 : Nat) (nat_lit 0)))).length b ++ List.drop b.length (List.replicate (↑b.length : Int).toNat (UInt8.ofBitVec (BitVec.ofNat (8 : Nat) (nat_lit 0)))) ++ [UInt8.ofNat (IntKind.wrap IntKind.u8 (crcOf b)).toNat]).length && sizeOK (List.length (List.take (List.replicate (↑b.length : Int).toNat (UInt8.ofBitVec (BitVec.ofNat (8 : Nat) (nat_lit 0)))).length b ++ List.drop b.length (List.replicate (↑b.length : Int).toNat (UInt8.ofBitVec (BitVec.ofNat (8 : Nat) (nat_lit 0))))) + List.length [UInt8.ofNat (IntKind.wrap IntKind.u8 (crcOf b)).toNat] + List.length [UInt8.ofNat (IntKind.wrap IntKind.u8 (Int.fdiv (crcOf b) (256 : Int))).toNat]) (1 : Nat) then bif Nat.beq (List.length (List.take (List.replicate (↑b.length : Int).toNat (UInt8.ofBitVec (BitVec.ofNat (8 : Nat) (nat_lit 0)))).length b ++ List.drop b.length (List.replicate (↑b.length : Int).toNat (UInt8.ofBitVec (BitVec.ofNat (8 : Nat) (nat_lit 0)))) ++ [UInt8.ofNat (IntKind.wrap IntKind.u8 (crcOf b)).toNat]) + List.length [UInt8.ofNat (IntKind.wrap IntKind.u8 (Int.fdiv (crcOf b) (256 : Int))).toNat]) (List.take (List.replicate (↑b.length : Int).toNat (UInt8.ofBitVec (BitVec.ofNat (8 : Nat) (nat_lit 0)))).length b ++ List.drop b.length (List.replicate (↑b.length : Int).toNat (UInt8.ofBitVec (BitVec.ofNat (8 : Nat) (nat_lit 0)))) ++ [UInt8.ofNat (IntKind.wrap IntKind.u8 (crcOf b)).toNat] ++ [UInt8.ofNat (IntKind.wrap IntKind.u8 (Int.fdiv (crcOf b) (256 : Int))).toNat]).length && sizeOK (List.length (List.take (List.replicate (↑b.length : Int).toNat (UInt8.ofBitVec (BitVec.ofNat (8 : Nat) (nat_lit 0)))).length b ++ List.drop b.length (List.replicate (↑b.length : Int).toNat (UInt8.ofBitVec (BitVec.ofNat (8 : Nat) (nat_lit 0)))) ++ [UInt8.ofNat (IntKind.wrap IntKind.u8 (crcOf b)).toNat]) + List.length [UInt8.ofNat (IntKind.wrap IntKind.u8 (Int.fdiv (crcOf b) (256 : Int))).toNat] + List.length [UInt8.ofNat (IntKind.wrap IntKind.u8 (Int.fdiv (Int.fdiv (crcOf b) (256 : Int)) (256 : Int))).toNat]) (1 : Nat) then bif Nat.beq (List.length (List.take (List.replicate (↑b.length : Int).toNat (UInt8.ofBitVec (BitVec.ofNat (8 : Nat) (nat_lit 0)))).length b ++ List.drop b.length (List.replicate (↑b.length : Int).toNat (UInt8.ofBitVec (BitVec.ofNat (8 : Nat) (nat_lit 0)))) ++ [UInt8.ofNat (IntKind.wrap IntKind.u8 (crcOf b)).toNat] ++ [UInt8.ofNat (IntKind.wrap IntKind.u8 (Int.fdiv (crcOf b) (256 : Int))).toNat]) + List.length [UInt8.ofNat (IntKind.wrap IntKind.u8 (Int.fdiv (Int.fdiv (crcOf b) (256 : Int)) (256 : Int))).toNat]) (List.take (List.replicate (↑b.length : Int).toNat (UInt8.ofBitVec (BitVec.ofNat (8 : Nat) (nat_lit 0)))).length b ++ List.drop b.length (List.replicate (↑b.length : Int).toNat (UInt8.ofBitVec (BitVec.ofNat (8 : Nat) (nat_lit 0)))) ++ [UInt8.ofNat (IntKind.wrap IntKind.u8 (crcOf b)).toNat] ++ [UInt8.ofNat (IntKind.wrap IntKind.u8 (Int.fdiv (crcOf b) (256 : Int))).toNat] ++ [UInt8.ofNat (IntKind.wrap IntKind.u8 (Int.fdiv (Int.fdiv (crcOf b) (256 : Int)) (256 : Int))).toNat]).length && sizeOK (List.length (List.take (List.replicate (↑b.length : Int).toNat (UInt8.ofBitVec (BitVec.ofNat (8 : Nat) (nat_lit 0)))).length b ++ List.drop b.length (List.replicate (↑b.length : Int).toNat (UInt8.ofBitVec (BitVec.ofNat (8 : Nat) (nat_lit 0)))) ++ [UInt8.ofNat (IntKind.wrap IntKind.u8 (crcOf b)).toNat] ++ [UInt8.ofNat (IntKind.wrap IntKind.u8 (Int.fdiv (crcOf b) (256 : Int))).toNat]) + List.length [UInt8.ofNat (IntKind.wrap IntKind.u8 (Int.fdiv (Int.fdiv (crcOf b) (256 : Int)) (256 : Int))).toNat] + List.length [UInt8.ofNat (IntKind.wrap IntKind.u8 (Int.fdiv (Int.fdiv (Int.fdiv (crcOf b) (256 : Int)) (256 : Int)) (256 : Int))).toNat]) (1 : Nat) then bif Nat.beq (List.length (List.take (List.replicate (↑b.length : Int).toNat (UInt8.ofBitVec (BitVec.ofNat (8 : Nat) (nat_lit 0)))).length b ++ List.drop b.length (List.replicate (↑b.length : Int).toNat (UInt8.ofBitVec (BitVec.ofNat (8 : Nat) (nat_lit 0)))) ++ [UInt8.ofNat (IntKind.wrap IntKind.u8 (crcOf b)).toNat] ++ [UInt8.ofNat (IntKind.wrap IntKind.u8 (Int.fdiv (crcOf b) (256 : Int))).toNat] ++ [UInt8.ofNat (IntKind.wrap IntKind.u8 (Int.fdiv (Int.fdiv (crcOf b) (256 : Int)) (256 : Int))).toNat]) + List.length [UInt8.ofNat (IntKind.wrap IntKind.u8 (Int.fdiv (Int.fdiv (Int.fdiv (crcOf b) (256 : Int)) (256 : Int)) (256 : Int))).toNat]) (List.take (List.replicate (↑b.length : Int).toNat (UInt8.ofBitVec (BitVec.ofNat (8 : Nat) (nat_lit 0)))).length b ++ List.drop b.length (List.replicate (↑b.length : Int).toNat (UInt8.ofBitVec (BitVec.ofNat (8 : Nat) (nat_lit 0)))) ++ [UInt8.ofNat (IntKind.wrap IntKind.u8 (crcOf b)).toNat] ++ [UInt8.ofNat (IntKind.wrap IntKind.u8 (Int.fdiv (crcOf b) (256 : Int))).toNat] ++ [UInt8.ofNat (IntKind.wrap IntKind.u8 (Int.fdiv (Int.fdiv (crcOf b) (256 : Int)) (256 : Int))).toNat] ++ [UInt8.ofNat (IntKind.wrap IntKind.u8 (Int.fdiv (Int.fdiv (Int.fdiv (crcOf b) (256 : Int)) (256 : Int)) (256 : Int))).toNat]).length then some (D.sl RTy.u8 false (List.take (List.replicate (↑b.length : Int).toNat (UInt8.ofBitVec (BitVec.ofNat (8 : Nat) (nat_lit 0)))).length b ++ List.drop b.length (List.replicate (↑b.length : Int).toNat (UInt8.ofBitVec (BitVec.ofNat (8 : Nat) (nat_lit 0)))) ++ [UInt8.ofNat (IntKind.wrap IntKind.u8 (crcOf b)).toNat] ++ [UInt8.ofNat (IntKind.wrap IntKind.u8 (Int.fdiv (crcOf b) (256 : Int))).toNat] ++ [UInt8.ofNat (IntKind.wrap IntKind.u8 (Int.fdiv (Int.fdiv (crcOf b) (256 : Int)) (256 : Int))).toNat] ++ [UInt8.ofNat (IntKind.wrap IntKind.u8 (Int.fdiv (Int.fdiv (Int.fdiv (crcOf b) (256 : Int)) (256 : Int)) (256 : Int))).toNat])) else none else none else none else none else none else none else none else none else none else none) := by kernel_rfl
theorem sealP_ok (c : Bool) (b : List UInt8) (h : (decide (b.length ≤ 1000000)) = true) : sealP_e c b = some (.sl (C := RC) .u8 false (sealL b)) := by
  rw [sealP_eq]
  have hl := of_decide_eq_true h
  have t1 : ((b.length : Int)).toNat = b.length := by simp
  have t2 : b.take (List.replicate b.length (⟨0#8⟩ : UInt8)).length = b := by simp
  have t3 : (List.replicate b.length (⟨0#8⟩ : UInt8)).drop b.length = [] := by simp
  have w4 : IntKind.i64.wrap ((b.length : Int) + 4) = (b.length : Int) + 4 := wrap_id (by omega) (by omega)
  have t4 : ((b.length : Int) + 4).toNat = b.length + 4 := by omega
  simp only [t1, t2, t3, t4, w4, List.append_nil, byteOf_wrap, List.append_assoc, List.cons_append, List.nil_append, List.length_cons, List.length_nil, List.length_append, List.length_replicate, List.take_length, Nat.zero_add, Nat.reduceAdd, Nat.add_assoc]
  have eb : ∀ n : Nat, n.beq n = true := fun n => by simp
  have es : ∀ k : Nat, k ≤ 10 → sizeOK (b.length + k) 1 = true := fun k hk => sizeT (by omega)
  simp only [eb, es, Nat.reduceLeDiff, Bool.and_self, Bool.true_and, cond_true]
  repeat (refine cond_of (by first | assumption | exact lenOK_of (by omega) | exact sizeT (by omega) | (simp; done) | (simp; omega) | (simp [sizeOK]; omega)) ?_)
  rfl
noncomputable def ut_6 := ut_5.addSpec 56 sealP_sp
theorem ut_6_laws : FLaws Try.prog s07 ut_6 := ut_5_laws.addEv s07_laws fun args d h => by
  unfold sealP_sp at h
  split at h
  · unfold sealP_s at h
    have h1 := congrArg Prod.fst (Option.some.inj h)
    obtain rfl : _ = d := congrArg Prod.snd (Option.some.inj h)
    exact ⟨by simp [D.refs], 60, sealP_ok _ _ h1⟩
  · cases h
def openP_s (c : Bool) (b : List UInt8) : Option (Bool × D RC) := some (decide (b.length ≤ 1000000), .tup (.acons (.sl (C := RC) .u8 (openL b).isNone ((openL b).getD [])) (.acons (.int .i64 (bif (openL b).isNone then 50 else 0)) .anil)))
def openP_sp : List (D RC) → Option (Bool × D RC)
  | [.sl .u8 c b] => openP_s c b
  | _ => none
noncomputable def openP_e (c : Bool) (b : List UInt8) := evF s07 ut_6 60 65 [.sl (C := RC) .u8 c b]
theorem openP_eq (c : Bool) (b : List UInt8) : openP_e c b = (bif lenOK b.length then bif decide (IntKind.wrap .i64 ((↑b.length : Int) - (4 : Int)) < (0 : Int)) then some (D.tup (D.acons (D.sl RTy.u8 true []) (.acons (D.int .i64 (50 : Int)) .anil))) else bif decide ((0 : Int) ≤ (0 : Int) ∧ (0 : Int) ≤ IntKind.wrap .i64 ((↑b.length : Int) - (4 : Int)) ∧ IntKind.wrap .i64 ((↑b.length : Int) - (4 : Int)) ≤ (↑b.length : Int) ∧ IntKind.wrap .i64 ((↑b.length : Int) - (4 : Int)) = IntKind.wrap .i64 ((↑b.length : Int) - (4 : Int))) then bif decide (List.length (List.drop (0 : Nat) (List.take (IntKind.wrap .i64 ((↑b.length : Int) - (4 : Int))).toNat b)) ≤ (1000000 : Nat)) then bif decide ((0 : Int) ≤ IntKind.wrap .i64 ((↑b.length : Int) - (4 : Int)) ∧ IntKind.wrap .i64 ((↑b.length : Int) - (4 : Int)) ≤ (↑(sealL (List.drop (0 : Nat) (List.take (IntKind.wrap .i64 ((↑b.length : Int) - (4 : Int))).toNat b))).length : Int)) then bif decide ((0 : Int) ≤ IntKind.wrap .i64 ((↑b.length : Int) - (4 : Int)) ∧ IntKind.wrap .i64 ((↑b.length : Int) - (4 : Int)) ≤ (↑b.length : Int)) then bif !(fun (l : List (RA RTy.u8)) => l) (List.drop (IntKind.wrap .i64 ((↑b.length : Int) - (4 : Int))).toNat (sealL (List.drop (0 : Nat) (List.take (IntKind.wrap .i64 ((↑b.length : Int) - (4 : Int))).toNat b)))) == (fun (l : List (RA RTy.u8)) => l) (List.drop (IntKind.wrap .i64 ((↑b.length : Int) - (4 : Int))).toNat b) then some (D.tup (D.acons (D.sl RTy.u8 true []) (.acons (D.int .i64 (50 : Int)) .anil))) else bif decide ((0 : Int) ≤ IntKind.wrap .i64 ((↑b.length : Int) - (4 : Int)) ∧ IntKind.wrap .i64 ((↑b.length : Int) - (4 : Int)) ≤ IntKind.wrap .i64 ((↑b.length : Int) - (4 : Int))) && sizeOK (IntKind.wrap .i64 ((↑b.length : Int) - (4 : Int))).toNat (1 : Nat) then bif Nat.beq (IntKind.wrap .i64 ((↑b.length : Int) - (4 : Int))).toNat (List.replicate (IntKind.wrap .i64 ((↑b.length : Int) - (4 : Int))).toNat (UInt8.ofBitVec (BitVec.ofNat (8 : Nat) (nat_lit 0)))).length && lenOK (IntKind.wrap .i64 ((↑b.length : Int) - (4 : Int))).toNat then bif Nat.beq (IntKind.wrap .i64 ((↑b.length : Int) - (4 : Int))).toNat (List.take (List.replicate (IntKind.wrap .i64 ((↑b.length : Int) - (4 : Int))).toNat (UInt8.ofBitVec (BitVec.ofNat (8 : Nat) (nat_lit 0)))).length b ++ List.drop b.length (List.replicate (IntKind.wrap .i64 ((↑b.length : Int) - (4 : Int))).toNat (UInt8.ofBitVec (BitVec.ofNat (8 : Nat) (nat_lit 0))))).length then some (D.tup (D.acons (D.sl RTy.u8 false (List.take (List.replicate (IntKind.wrap .i64 ((↑b.length : Int) - (4 : Int))).toNat (UInt8.ofBitVec (BitVec.ofNat (8 : Nat) (nat_lit 0)))).length b ++ List.drop b.length (List.replicate (IntKind.wrap .i64 ((↑b.length : Int) - (4 : Int))).toNat (UInt8.ofBitVec (BitVec.ofNat (8 : Nat) (nat_lit 0)))))) (.acons (D.int .i64 (0 : Int)) .anil))) else none else none else none else none else none else none else none else none) := by kernel_rfl
theorem openP_ok (c : Bool) (b : List UInt8) (h : (decide (b.length ≤ 1000000)) = true) : openP_e c b = some (.tup (.acons (.sl (C := RC) .u8 (openL b).isNone ((openL b).getD [])) (.acons (.int .i64 (bif (openL b).isNone then 50 else 0)) .anil))) := by
  rw [openP_eq]
  have hl := of_decide_eq_true h
  have wm : IntKind.i64.wrap ((b.length : Int) - 4) = (b.length : Int) - 4 := wrap_id (by omega) (by omega)
  have tm : ((b.length : Int) - 4).toNat = b.length - 4 := by omega
  have ts : (b.take (b.length - 4)).length = b.length - 4 := by simp
  simp only [wm, tm, List.drop_zero]
  refine cond_of (lenOK_of (by omega)) ?_
  refine cond_two (fun h0 => ?_) fun h0 => ?_ <;> simp only [decide_eq_true_eq, decide_eq_false_iff_not] at h0
  · have e : openL b = none := by unfold openL; rw [if_neg (by omega)]
    rw [e]; rfl
  iterate 2 refine cond_of (by first | exact lenOK_of (by simp; omega) | exact lenOK_of (by omega) | (simp [sizeOK]; done) | (simp [sizeOK]; omega) | omega) ?_
  refine cond_of (by simp [sealL_len, ts]; omega) ?_
  iterate 1 refine cond_of (by first | exact lenOK_of (by simp; omega) | exact lenOK_of (by omega) | (simp [sizeOK]; done) | (simp [sizeOK]; omega) | omega) ?_
  have ht := openL_test b (by omega)
  by_cases hq : sealL (b.take (b.length - 4)) = b
  · have e : openL b = some (b.take (b.length - 4)) := by unfold openL; rw [if_pos ⟨by omega, hq⟩]
    rw [ht.2 hq, e]
    have tr : b.take (List.replicate (b.length - 4) (⟨0#8⟩ : UInt8)).length = b.take (b.length - 4) := by rw [List.length_replicate]
    have td : (List.replicate (b.length - 4) (⟨0#8⟩ : UInt8)).drop b.length = [] := by simp
    simp only [beq_self_eq_true, Bool.not_true, cond_false, tr, td, List.append_nil, List.length_replicate, ts]
    have lk : lenOK (b.length - 4) = true := lenOK_of (by omega)
    have eb : ∀ n : Nat, n.beq n = true := fun n => by simp
    simp only [lk, eb, Bool.and_self, cond_true]
    repeat (refine cond_of (by first | assumption | exact lenOK_of (by omega) | exact sizeT (by omega) | (simp; done) | (simp; omega) | (simp [sizeOK]; omega)) ?_)
    rfl
  · have e : openL b = none := by unfold openL; rw [if_neg (fun q => hq q.2)]
    rw [e, show ((sealL (b.take (b.length - 4))).drop (b.length - 4) == b.drop (b.length - 4)) = false by simpa using fun q => hq (ht.1 q)]
    rfl
noncomputable def ut_7 := ut_6.addSpec 65 openP_sp
theorem ut_7_laws : FLaws Try.prog s07 ut_7 := ut_6_laws.addEv s07_laws fun args d h => by
  unfold openP_sp at h
  split at h
  · unfold openP_s at h
    have h1 := congrArg Prod.fst (Option.some.inj h)
    obtain rfl : _ = d := congrArg Prod.snd (Option.some.inj h)
    exact ⟨by simp [D.refs], 60, openP_ok _ _ h1⟩
  · cases h
open Go.Proofs
def mayF_s (n : Int) (b : List UInt8) : Option (Bool × D RC) := some (lenOK b.length, .bool (maySec ⟨n, b⟩))
def mayF_sp : List (D RC) → Option (Bool × D RC)
  | [.acons (.int .i64 n) (.acons (.str b) .anil)] => mayF_s n b
  | _ => none
noncomputable def mayF_e (n : Int) (b : List UInt8) := evF s07 ut_7 40 46 [.acons (.int .i64 n) (.acons (.str b) .anil)]
theorem mayF_eq (n : Int) (b : List UInt8) : mayF_e n b = (bif decide ((0 : Int) ≤ n) then bif decide (n ≤ (1048575 : Int)) then bif lenOK b.length then bif decide ((↑b.length : Int) ≤ (640 : Int)) then bif decide ((0 : Int) < n) then some (D.bool true) else some (D.bool (b == Array.toList #[])) else some (D.bool false) else none else some (D.bool false) else some (D.bool false)) := by kernel_rfl
theorem mayF_ok (n : Int) (b : List UInt8) (h : (lenOK b.length) = true) : mayF_e n b = some (.bool (maySec ⟨n, b⟩)) := by
  rw [mayF_eq]
  have hb : decide (((b.length : Nat) : Int) ≤ 640) = decide (b.length ≤ 640) := by rw [decide_eq_decide]; omega
  simp only [maySec, h, hb, cond_true]
  cases decide (0 ≤ n) <;> cases decide (n ≤ 1048575) <;> cases decide (b.length ≤ 640) <;> cases decide (0 < n) <;> cases b <;> rfl
noncomputable def uu_1 := ut_7.addSpec 46 mayF_sp
theorem uu_1_laws : FLaws Try.prog s07 uu_1 := ut_7_laws.addEv s07_laws fun args d h => by
  unfold mayF_sp at h
  split at h
  · unfold mayF_s at h
    have h1 := congrArg Prod.fst (Option.some.inj h)
    obtain rfl : _ = d := congrArg Prod.snd (Option.some.inj h)
    exact ⟨by simp [D.refs], 40, mayF_ok _ _ h1⟩
  · cases h
structure idxS_St where
  c : Bool
  l : List Sector
  i : Nat
def idxS_c (c : Bool) (l : List Sector) (i : Nat) : Env RC := [(0, .sl (C := RC) .sector c l), (1, .fn 64 (.acons (.ptr 0 []) .anil)), (4, .int .i64 0), (7, .int .i64 (l.length)), (8, .int .i64 (i : Int))]
def idxS_o (c : Bool) (l : List Sector) (i : Nat) : List (Obj RC) := [.var 80 (.fn 46 .anil)]
noncomputable def idxS_r (c : Bool) (l : List Sector) (i : Nat) := rndO s07 uu_1 78 2 40 1 [0, 1, 4, 7, 8] [4] [.slot 1 0] (idxS_c c l i) (idxS_o c l i)
theorem idxS_eq (c : Bool) (l : List Sector) (i : Nat) : idxS_r c l i = (bif decide ((↑i : Int) < (↑l.length : Int)) then bif decide ((0 : Int) ≤ (↑i : Int) ∧ (↑i : Int) < (↑l.length : Int)) then bif lenOK (Sector.b (List.getD l (↑i : Int).toNat (Sector.mk (0 : Int) []))).length then bif !maySec (Sector.mk (Sector.n (List.getD l (↑i : Int).toNat (Sector.mk (0 : Int) []))) (Sector.b (List.getD l (↑i : Int).toNat (Sector.mk (0 : Int) [])))) then some ((X.ret, [((4 : Nat), D.int .i64 (↑i : Int))]), [some (Obj.var (80 : Nat) (D.fn (46 : Nat) .anil))]) else some ((X.normal, [((0 : Nat), D.sl RTy.sector c l), ((1 : Nat), D.fn (64 : Nat) (.acons (D.ptr (0 : Nat) []) .anil)), ((4 : Nat), D.int .i64 (0 : Int)), ((7 : Nat), D.int .i64 (↑l.length : Int)), ((8 : Nat), D.int .i64 (IntKind.wrap .i64 ((↑i : Int) + (1 : Int))))]), [some (Obj.var (80 : Nat) (D.fn (46 : Nat) .anil))]) else none else none else some ((X.exit (0 : Nat), [((4 : Nat), D.int .i64 (0 : Int))]), [some (Obj.var (80 : Nat) (D.fn (46 : Nat) .anil))])) := by kernel_rfl
def idxS_fin (c : Bool) (l : List Sector) (i : Nat) : RT RC := .br (l.drop i |>.all maySec) (.leaf (.exit 0) [(4, .int .i64 0)] (idxS_o c l i)) (.leaf .ret [(4, .int .i64 (badAt l i))] (idxS_o c l i))
def idxS_Inv (c : Bool) (l : List Sector) (i : Nat) : Prop := i ≤ l.length ∧ goodL l = true
def idxS_S : LoopR RC idxS_St where
  k := 1
  canon q := idxS_c q.c q.l q.i
  objs q := idxS_o q.c q.l q.i
  fin q := idxS_fin q.c q.l q.i
  Inv q := idxS_Inv q.c q.l q.i
  μ q := q.l.length - q.i
theorem idxS_round (c : Bool) (l : List Sector) (i : Nat) (hI : idxS_Inv c l i) : Leaf (idxS_r c l i) (LedR idxS_S ⟨c, l, i⟩) := by
  rw [idxS_eq]
  unfold idxS_Inv at hI
  obtain ⟨h1, hg⟩ := hI
  have h2 := (goodL_iff.1 hg).1
  by_cases hlt : i < l.length
  · have w_succ : IntKind.i64.wrap ((i : Int) + 1) = ((i + 1 : Nat) : Int) := by rw [wrap_id (by omega) (by omega)]; simp
    have d_lt : decide ((i : Int) < l.length) = true := by simp; omega
    have d_in : decide (0 ≤ (i : Int) ∧ (i : Int) < l.length) = true := by simp; omega
    have t_nat : ((i : Int)).toNat = i := by simp
    have w_pred : IntKind.i64.wrap ((i : Int) - 1) = (i : Int) - 1 := wrap_id (by omega) (by omega)
    have t_natp : ((i : Int) - 1).toNat = i - 1 := by omega
    simp only [w_succ, d_lt, d_in, t_nat, w_pred, t_natp, cond_true]
    have hlk := goodL_at hg i hlt (⟨0, []⟩ : Sector)
    have hst := all_drop_step l maySec i hlt (⟨0, []⟩ : Sector)
    have hb := badAt_step l i hlt (⟨0, []⟩ : Sector)
    generalize l.getD i (⟨0, []⟩ : Sector) = x at hst hb hlk ⊢
    simp only [hlk, cond_true]
    cases a1 : maySec x
    · exact leafR_ret (idxS_o c l i) (by simp [idxS_S, idxS_fin, hst, hb, a1, RT.val]) rfl
    · exact leafR_go ⟨c, l, i + 1⟩ ⟨hlt, hg⟩ (by simp only [idxS_S]; omega) (by simp [idxS_S, idxS_fin, hst, hb, a1]; rfl) rfl rfl
  · have hi : i = l.length := by omega
    have c1 : decide ((i : Int) < l.length) = false := by simp; omega
    rw [c1]
    exact leafR_exit (idxS_o c l i) (by simp [idxS_S, idxS_fin, hi, RT.val]) rfl
def idxS_d (env : Env RC) (os : List (Obj RC)) : Option (Bool × idxS_St) := match env, os with
  | [(0, .sl .sector c l), (1, .fn 64 (.acons (.ptr 0 []) .anil)), (4, .int .i64 0), (7, .int .i64 x0), (8, .int .i64 x1)], [.var 80 (.fn 46 .anil)] => staticD (true) (decide (x0 = l.length) && decide (x1 = 0) && goodL l, ⟨c, l, 0⟩)
  | _, _ => none
noncomputable def uu_2 := uu_1.addLoop 78 2 (sumR s07 [.slot 1 0] [0, 1, 4, 7, 8] idxS_S idxS_d)
theorem uu_2_laws : FLaws Try.prog s07 uu_2 := by
  refine uu_1_laws.addRoundsR s07_laws (by kernel_rfl) idxS_S 40 [0, 1, 4, 7, 8] [4] [.slot 1 0] [0, 1, 4, 7, 8] idxS_d (fun q hI => ?_) ?_
  · obtain ⟨c, l, i⟩ := q
    refine ⟨?_, ?_, idxS_round c l i hI⟩
    · simp_all [RefsOK, idxS_S, idxS_c, idxS_o, idxS_Inv, D.refs, Obj.refs, rEnc]
    · simp_all [idxS_S, idxS_fin, idxS_o, idxS_Inv, RT.refsOK, RefsOK, D.refs, Obj.refs, rEnc]
  · intro env os b q hd_ hb
    unfold idxS_d at hd_
    split at hd_
    · obtain ⟨hs, hd_⟩ := staticD_some hd_
      cases hd_
      simp only [Bool.and_eq_true, decide_eq_true_eq] at hb
      obtain ⟨⟨rfl, rfl⟩, hl⟩ := hb
      exact ⟨⟨Nat.zero_le _, hl⟩, rfl, rfl⟩
    · cases hd_
def allF_s (c : Bool) (l : List Sector) : Option (Bool × D RC) := some (goodL l, .bool (rowOK l))
def allF_sp : List (D RC) → Option (Bool × D RC)
  | [.sl .sector c l, .int .i64 33, .fn 46 .anil] => allF_s c l
  | _ => none
noncomputable def allF_e (c : Bool) (l : List Sector) := evF s07 uu_2 40 45 [.sl (C := RC) .sector c l, .int .i64 33, .fn 46 .anil]
theorem allF_eq (c : Bool) (l : List Sector) : allF_e c l = (bif lenOK l.length then bif (↑l.length : Int) == (33 : Int) then bif lenOK l.length then bif decide ((↑l.length : Int) = (↑l.length : Int)) && true && goodL l then bif List.all (List.drop (0 : Nat) l) maySec then some (D.bool true) else some (D.bool !decide ((0 : Int) ≤ (↑(badAt l (0 : Nat)) : Int))) else none else none else some (D.bool false) else none) := by kernel_rfl
theorem allF_ok (c : Bool) (l : List Sector) (h : (goodL l) = true) : allF_e c l = some (.bool (rowOK l)) := by
  rw [allF_eq]
  have hl := (goodL_iff.1 h).1
  have lk := lenOK_of hl
  have hb := badAt_ge l 0
  simp only [h, lk, rowOK, cond_true, List.drop_zero]
  by_cases e : l.length = 33
  · have e2 : ((l.length : Int) == 33) = true := by simp [e]
    cases hm : l.all maySec <;> simp [e, hm] <;> omega
  · have e2 : ((l.length : Int) == 33) = false := by simp; omega
    simp [e, e2]
noncomputable def uu_3 := uu_2.addSpec 45 allF_sp
theorem uu_3_laws : FLaws Try.prog s07 uu_3 := uu_2_laws.addEv s07_laws fun args d h => by
  unfold allF_sp at h
  split at h
  · unfold allF_s at h
    have h1 := congrArg Prod.fst (Option.some.inj h)
    obtain rfl : _ = d := congrArg Prod.snd (Option.some.inj h)
    exact ⟨by simp [D.refs], 40, allF_ok _ _ h1⟩
  · cases h
structure chkD_St where
  c : Bool
  now : List Sector
  r : D RC
  d : Bool
  sure : List Sector
  i : Nat
def chkD_c (c : Bool) (now : List Sector) (r : D RC) (d : Bool) (sure : List Sector) (i : Nat) : Env RC := [(1, .ptr 0 []), (2, .int .i64 0), (16, .sl (C := RC) .sector c now), (17, .int .i64 (now.length)), (18, .int .i64 (i : Int))]
def chkD_o (c : Bool) (now : List Sector) (r : D RC) (d : Bool) (sure : List Sector) (i : Nat) : List (Obj RC) := [.var 24 (.acons r (.acons (.sl (C := RC) .sector d sure) .anil))]
noncomputable def chkD_r (c : Bool) (now : List Sector) (r : D RC) (d : Bool) (sure : List Sector) (i : Nat) := rndO s07 uu_3 28 4 40 1 [1, 2, 16, 17, 18] [2] [.slot 1 0] (chkD_c c now r d sure i) (chkD_o c now r d sure i)
theorem chkD_eq (c : Bool) (now : List Sector) (r : D RC) (d : Bool) (sure : List Sector) (i : Nat) : chkD_r c now r d sure i = (bif decide ((↑i : Int) < (↑now.length : Int)) then bif decide ((0 : Int) ≤ (↑i : Int) ∧ (↑i : Int) < (↑now.length : Int)) then bif decide ((0 : Int) ≤ (↑i : Int) ∧ (↑i : Int) < (↑sure.length : Int)) then bif decide (Sector.n (List.getD now (↑i : Int).toNat (Sector.mk (0 : Int) [])) < Sector.n (List.getD sure (↑i : Int).toNat (Sector.mk (0 : Int) []))) then some ((X.ret, [((2 : Nat), D.int .i64 (2 : Int))]), [some (Obj.var (24 : Nat) (.acons r (D.acons (D.sl RTy.sector d sure) .anil)))]) else some ((X.normal, [((1 : Nat), D.ptr (0 : Nat) []), ((2 : Nat), D.int .i64 (0 : Int)), ((16 : Nat), D.sl RTy.sector c now), ((17 : Nat), D.int .i64 (↑now.length : Int)), ((18 : Nat), D.int .i64 (IntKind.wrap .i64 ((↑i : Int) + (1 : Int))))]), [some (Obj.var (24 : Nat) (.acons r (D.acons (D.sl RTy.sector d sure) .anil)))]) else none else none else some ((X.exit (0 : Nat), [((2 : Nat), D.int .i64 (0 : Int))]), [some (Obj.var (24 : Nat) (.acons r (D.acons (D.sl RTy.sector d sure) .anil)))])) := by kernel_rfl
def chkD_fin (c : Bool) (now : List Sector) (r : D RC) (d : Bool) (sure : List Sector) (i : Nat) : RT RC := .br (lowAt now sure i) (.leaf (.exit 0) [(2, .int .i64 0)] (chkD_o c now r d sure i)) (.leaf .ret [(2, .int .i64 2)] (chkD_o c now r d sure i))
def chkD_Inv (c : Bool) (now : List Sector) (r : D RC) (d : Bool) (sure : List Sector) (i : Nat) : Prop := r.refs = [] ∧ i ≤ now.length ∧ now.length ≤ 9223372036854775807 ∧ now.length = sure.length
def chkD_S : LoopR RC chkD_St where
  k := 1
  canon q := chkD_c q.c q.now q.r q.d q.sure q.i
  objs q := chkD_o q.c q.now q.r q.d q.sure q.i
  fin q := chkD_fin q.c q.now q.r q.d q.sure q.i
  Inv q := chkD_Inv q.c q.now q.r q.d q.sure q.i
  μ q := q.now.length - q.i
theorem chkD_round (c : Bool) (now : List Sector) (r : D RC) (d : Bool) (sure : List Sector) (i : Nat) (hI : chkD_Inv c now r d sure i) : Leaf (chkD_r c now r d sure i) (LedR chkD_S ⟨c, now, r, d, sure, i⟩) := by
  rw [chkD_eq]
  unfold chkD_Inv at hI
  obtain ⟨h0, h1, h2, h3⟩ := hI
  by_cases hlt : i < now.length
  · have w_succ : IntKind.i64.wrap ((i : Int) + 1) = ((i + 1 : Nat) : Int) := by rw [wrap_id (by omega) (by omega)]; simp
    have d_lt : decide ((i : Int) < now.length) = true := by simp; omega
    have d_in : decide (0 ≤ (i : Int) ∧ (i : Int) < now.length) = true := by simp; omega
    have t_nat : ((i : Int)).toNat = i := by simp
    have w_pred : IntKind.i64.wrap ((i : Int) - 1) = (i : Int) - 1 := wrap_id (by omega) (by omega)
    have t_natp : ((i : Int) - 1).toNat = i - 1 := by omega
    simp only [w_succ, d_lt, d_in, t_nat, w_pred, t_natp, cond_true]
    have hlt2 : i < sure.length := by omega
    have d_in2 : decide (0 ≤ (i : Int) ∧ (i : Int) < sure.length) = true := by simp; omega
    simp only [d_in2, cond_true]
    have hst := lowAt_step (now := now) (sure := sure) i hlt (by omega) (⟨0, []⟩ : Sector)
    generalize now.getD i (⟨0, []⟩ : Sector) = x at hst ⊢
    generalize sure.getD i (⟨0, []⟩ : Sector) = y at hst ⊢
    cases a1 : decide (y.n ≤ x.n)
    · have a2 : decide (x.n < y.n) = true := by simp at a1 ⊢; exact a1
      simp only [a2, cond_true]
      exact leafR_ret (chkD_o c now r d sure i) (by simp [chkD_S, chkD_fin, hst, a1, RT.val]) rfl
    · have a2 : decide (x.n < y.n) = false := by simp at a1 ⊢; exact a1
      simp only [a2, cond_false]
      exact leafR_go ⟨c, now, r, d, sure, i + 1⟩ ⟨h0, hlt, h2, h3⟩ (by simp only [chkD_S]; omega) (by simp [chkD_S, chkD_fin, hst, a1]; rfl) rfl rfl
  · have hi : i = now.length := by omega
    have c1 : decide ((i : Int) < now.length) = false := by simp; omega
    rw [c1]
    exact leafR_exit (chkD_o c now r d sure i) (by simp [chkD_S, chkD_fin, hi, lowAt_end, RT.val]) rfl
def chkD_d (env : Env RC) (os : List (Obj RC)) : Option (Bool × chkD_St) := match env, os with
  | [(1, .ptr 0 []), (2, .int .i64 0), (16, .sl .sector c now), (17, .int .i64 x0), (18, .int .i64 x1)], [.var 24 (.acons r (.acons (.sl .sector d sure) .anil))] => staticD (r.refs.isEmpty) (decide (x0 = now.length) && decide (x1 = 0) && decide (now.length ≤ 9223372036854775807 ∧ now.length = sure.length), ⟨c, now, r, d, sure, 0⟩)
  | _, _ => none
noncomputable def uu_4 := uu_3.addLoop 28 4 (sumR s07 [.slot 1 0] [1, 2, 16, 17, 18] chkD_S chkD_d)
theorem uu_4_laws : FLaws Try.prog s07 uu_4 := by
  refine uu_3_laws.addRoundsR s07_laws (by kernel_rfl) chkD_S 40 [1, 2, 16, 17, 18] [2] [.slot 1 0] [1, 2, 16, 17, 18] chkD_d (fun q hI => ?_) ?_
  · obtain ⟨c, now, r, d, sure, i⟩ := q
    refine ⟨?_, ?_, chkD_round c now r d sure i hI⟩
    · simp_all [RefsOK, chkD_S, chkD_c, chkD_o, chkD_Inv, D.refs, Obj.refs, rEnc]
    · simp_all [chkD_S, chkD_fin, chkD_o, chkD_Inv, RT.refsOK, RefsOK, D.refs, Obj.refs, rEnc]
  · intro env os b q hd_ hb
    unfold chkD_d at hd_
    split at hd_
    · obtain ⟨hs, hd_⟩ := staticD_some hd_
      cases hd_
      simp only [Bool.and_eq_true, decide_eq_true_eq] at hb
      obtain ⟨⟨rfl, rfl⟩, hl⟩ := hb
      exact ⟨⟨List.isEmpty_iff.1 hs, Nat.zero_le _, hl⟩, rfl, rfl⟩
    · cases hd_
def checkD_s (c : Bool) (now : List Sector) (d : Bool) (sure : List Sector) : Option (Bool × D RC) := some (goodL now && goodL sure, .int .i64 (bif diskOK now sure then 0 else 2))
def checkD_sp : List (D RC) → Option (Bool × D RC)
  | [.acons (.sl .sector c now) (.acons (.sl .sector d sure) .anil)] => checkD_s c now d sure
  | _ => none
noncomputable def checkD_e (c : Bool) (now : List Sector) (d : Bool) (sure : List Sector) := evF s07 uu_4 40 28 [.acons (.sl (C := RC) .sector c now) (.acons (.sl (C := RC) .sector d sure) .anil)]
theorem checkD_eq (c : Bool) (now : List Sector) (d : Bool) (sure : List Sector) : checkD_e c now d sure = (bif goodL now then bif !rowOK now then some (D.int .i64 (2 : Int)) else bif goodL sure then bif !rowOK sure then some (D.int .i64 (2 : Int)) else bif lenOK now.length then bif decide ((↑now.length : Int) = (↑now.length : Int)) && true && decide (List.length now ≤ (9223372036854775807 : Nat) ∧ List.length now = List.length sure) then bif lowAt now sure (0 : Nat) then some (D.int .i64 (0 : Int)) else some (D.int .i64 (2 : Int)) else none else none else none else none) := by kernel_rfl
theorem checkD_ok (c : Bool) (now : List Sector) (d : Bool) (sure : List Sector) (h : (goodL now && goodL sure) = true) : checkD_e c now d sure = some (.int .i64 (bif diskOK now sure then 0 else 2)) := by
  rw [checkD_eq]
  rw [Bool.and_eq_true] at h
  obtain ⟨hg, hgs⟩ := h
  have hl := (goodL_iff.1 hg).1
  have hs := (goodL_iff.1 hgs).1
  have lk := lenOK_of hl
  simp only [hg, hgs, lk, Bool.and_self, cond_true, diskOK]
  cases h1 : rowOK now
  · rfl
  cases h2 : rowOK sure
  · rfl
  have l1 := rowOK_len h1
  have l2 := rowOK_len h2
  have e : decide (now.length ≤ 9223372036854775807 ∧ now.length = sure.length) = true := by simp; omega
  cases h3 : lowAt now sure 0 <;> simp [e]
noncomputable def uu_5 := uu_4.addSpec 28 checkD_sp
theorem uu_5_laws : FLaws Try.prog s07 uu_5 := uu_4_laws.addEv s07_laws fun args d h => by
  unfold checkD_sp at h
  split at h
  · unfold checkD_s at h
    have h1 := congrArg Prod.fst (Option.some.inj h)
    obtain rfl : _ = d := congrArg Prod.snd (Option.some.inj h)
    exact ⟨by simp [D.refs], 40, checkD_ok _ _ _ _ h1⟩
  · cases h
def cloneS_s (c : Bool) (l : List Sector) : Option (Bool × D RC) := some (decide (0 < l.length ∧ l.length ≤ 1000000), .sl (C := RC) .sector false l)
def cloneS_sp : List (D RC) → Option (Bool × D RC)
  | [.sl .sector c l] => cloneS_s c l
  | _ => none
noncomputable def cloneS_e (c : Bool) (l : List Sector) := evF s07 uu_5 40 47 [.sl (C := RC) .sector c l]
theorem cloneS_eq (c : Bool) (l : List Sector) : cloneS_e c l = (bif List.isEmpty l then none else bif sizeOK ((0 : Nat) + List.length l) (24 : Nat) then bif Nat.beq ((0 : Nat) + List.length l) (List.replicate (0 : Nat) (Sector.mk (0 : Int) []) ++ l).length then some (D.sl RTy.sector false (List.replicate (0 : Nat) (Sector.mk (0 : Int) []) ++ l)) else none else none) := by kernel_rfl
theorem cloneS_ok (c : Bool) (l : List Sector) (h : (decide (0 < l.length ∧ l.length ≤ 1000000)) = true) : cloneS_e c l = some (.sl (C := RC) .sector false l) := by
  rw [cloneS_eq]
  obtain ⟨h1, h2⟩ := of_decide_eq_true h
  have e0 : l.isEmpty = false := by cases l <;> simp_all
  have e1 : sizeOK l.length 24 = true := by simp [sizeOK]; omega
  have eb : ∀ n : Nat, n.beq n = true := fun n => by simp
  simp only [e0, e1, cond_false, cond_true, List.replicate, List.nil_append, Nat.zero_add, eb]
noncomputable def uu_6 := uu_5.addSpec 47 cloneS_sp
theorem uu_6_laws : FLaws Try.prog s07 uu_6 := uu_5_laws.addEv s07_laws fun args d h => by
  unfold cloneS_sp at h
  split at h
  · unfold cloneS_s at h
    have h1 := congrArg Prod.fst (Option.some.inj h)
    obtain rfl : _ = d := congrArg Prod.snd (Option.some.inj h)
    exact ⟨by simp [D.refs], 40, cloneS_ok _ _ h1⟩
  · cases h
def withF_s (c : Bool) (l : List Sector) (k : Int) (n : Int) (b : List UInt8) : Option (Bool × D RC) := some (decide (0 ≤ k ∧ k < l.length ∧ l.length ≤ 1000000), .sl (C := RC) .sector false (l.set k.toNat ⟨n, b⟩))
def withF_sp : List (D RC) → Option (Bool × D RC)
  | [.sl .sector c l, .int .i64 k, .acons (.int .i64 n) (.acons (.str b) .anil)] => withF_s c l k n b
  | _ => none
noncomputable def withF_e (c : Bool) (l : List Sector) (k : Int) (n : Int) (b : List UInt8) := evF s07 uu_6 40 48 [.sl (C := RC) .sector c l, .int .i64 k, .acons (.int .i64 n) (.acons (.str b) .anil)]
theorem withF_eq (c : Bool) (l : List Sector) (k : Int) (n : Int) (b : List UInt8) : withF_e c l k n b = (bif decide ((0 : Int) ≤ (0 : Int) ∧ (0 : Int) ≤ k ∧ k ≤ (↑l.length : Int) ∧ k = k) then bif sizeOK (List.length (List.drop (0 : Nat) (List.take k.toNat l)) + List.length [Sector.mk n b]) (24 : Nat) then bif decide ((0 : Int) ≤ IntKind.wrap .i64 (k + (1 : Int)) ∧ IntKind.wrap .i64 (k + (1 : Int)) ≤ (↑l.length : Int)) then bif Nat.beq (List.length (List.drop (0 : Nat) (List.take k.toNat l)) + List.length [Sector.mk n b]) (List.drop (0 : Nat) (List.take k.toNat l) ++ [Sector.mk n b]).length && sizeOK (List.length (List.drop (0 : Nat) (List.take k.toNat l)) + List.length [Sector.mk n b] + List.length (List.drop (IntKind.wrap .i64 (k + (1 : Int))).toNat l)) (24 : Nat) then bif Nat.beq (List.length (List.drop (0 : Nat) (List.take k.toNat l) ++ [Sector.mk n b]) + List.length (List.drop (IntKind.wrap .i64 (k + (1 : Int))).toNat l)) (List.drop (0 : Nat) (List.take k.toNat l) ++ [Sector.mk n b] ++ List.drop (IntKind.wrap .i64 (k + (1 : Int))).toNat l).length then some (D.sl RTy.sector false (List.drop (0 : Nat) (List.take k.toNat l) ++ [Sector.mk n b] ++ List.drop (IntKind.wrap .i64 (k + (1 : Int))).toNat l)) else none else none else none else none else none) := by kernel_rfl
theorem withF_ok (c : Bool) (l : List Sector) (k : Int) (n : Int) (b : List UInt8) (h : (decide (0 ≤ k ∧ k < l.length ∧ l.length ≤ 1000000)) = true) : withF_e c l k n b = some (.sl (C := RC) .sector false (l.set k.toNat ⟨n, b⟩)) := by
  rw [withF_eq]
  obtain ⟨h0, h1, h2⟩ := of_decide_eq_true h
  have w1 : IntKind.i64.wrap (k + 1) = k + 1 := wrap_id (by omega) (by omega)
  have t1 : (k + 1).toNat = k.toNat + 1 := by omega
  have hk : k.toNat < l.length := by omega
  have e0 := set_eq l k.toNat (⟨n, b⟩ : Sector) hk
  have m1 : min k.toNat l.length = k.toNat := by omega
  simp only [w1, t1, List.drop_zero, List.length_take, List.length_cons, List.length_nil, List.length_append, List.length_drop, m1, Nat.zero_add]
  repeat (refine cond_of (by first | assumption | exact lenOK_of (by omega) | exact sizeT (by omega) | (simp; done) | (simp; omega) | (simp [sizeOK]; omega)) ?_)
  rw [e0]
noncomputable def uu_7 := uu_6.addSpec 48 withF_sp
theorem uu_7_laws : FLaws Try.prog s07 uu_7 := uu_6_laws.addEv s07_laws fun args d h => by
  unfold withF_sp at h
  split at h
  · unfold withF_s at h
    have h1 := congrArg Prod.fst (Option.some.inj h)
    obtain rfl : _ = d := congrArg Prod.snd (Option.some.inj h)
    exact ⟨by simp [D.refs], 40, withF_ok _ _ _ _ _ h1⟩
  · cases h
def putD_s (c : Bool) (now : List Sector) (d : Bool) (sure : List Sector) (k : Int) (n : Int) (b : List UInt8) : Option (Bool × D RC) := some (goodL now && goodL sure && lenOK b.length, .tup (.acons (.acons (.sl (C := RC) .sector (!okPut now sure k n b) (pNow now sure k n b)) (.acons (.sl (C := RC) .sector (!okPut now sure k n b) (pSure now sure k n b)) .anil)) (.acons (.int .i64 (bif okPut now sure k n b then 0 else 2)) .anil)))
def putD_sp : List (D RC) → Option (Bool × D RC)
  | [.acons (.sl .sector c now) (.acons (.sl .sector d sure) .anil), .int .i64 k, .int .i64 n, .str b] => putD_s c now d sure k n b
  | _ => none
noncomputable def putD_e (c : Bool) (now : List Sector) (d : Bool) (sure : List Sector) (k : Int) (n : Int) (b : List UInt8) := evF s07 uu_7 40 29 [.acons (.sl (C := RC) .sector c now) (.acons (.sl (C := RC) .sector d sure) .anil), .int .i64 k, .int .i64 n, .str b]
theorem putD_eq (c : Bool) (now : List Sector) (d : Bool) (sure : List Sector) (k : Int) (n : Int) (b : List UInt8) : putD_e c now d sure k n b = (bif goodL now && goodL sure then bif (bif diskOK now sure then (0 : Int) else (2 : Int)) != (0 : Int) then some (D.tup (D.acons (D.acons (D.sl RTy.sector true []) (.acons (D.sl RTy.sector true []) .anil)) (.acons (D.int .i64 (2 : Int)) .anil))) else bif decide (k < (0 : Int)) then some (D.tup (D.acons (D.acons (D.sl RTy.sector true []) (.acons (D.sl RTy.sector true []) .anil)) (.acons (D.int .i64 (2 : Int)) .anil))) else bif decide ((33 : Int) ≤ k) then some (D.tup (D.acons (D.acons (D.sl RTy.sector true []) (.acons (D.sl RTy.sector true []) .anil)) (.acons (D.int .i64 (2 : Int)) .anil))) else bif decide (n < (1 : Int)) then some (D.tup (D.acons (D.acons (D.sl RTy.sector true []) (.acons (D.sl RTy.sector true []) .anil)) (.acons (D.int .i64 (2 : Int)) .anil))) else bif b == Array.toList #[] then some (D.tup (D.acons (D.acons (D.sl RTy.sector true []) (.acons (D.sl RTy.sector true []) .anil)) (.acons (D.int .i64 (2 : Int)) .anil))) else bif lenOK b.length then bif !maySec (Sector.mk n b) then some (D.tup (D.acons (D.acons (D.sl RTy.sector true []) (.acons (D.sl RTy.sector true []) .anil)) (.acons (D.int .i64 (2 : Int)) .anil))) else bif decide ((0 : Nat) < List.length now ∧ List.length now ≤ (1000000 : Nat)) then bif decide ((0 : Nat) < List.length sure ∧ List.length sure ≤ (1000000 : Nat)) then bif decide ((0 : Int) ≤ k ∧ k < (↑now.length : Int)) then bif decide (Sector.n (List.getD now k.toNat (Sector.mk (0 : Int) [])) < n) then bif decide ((0 : Int) ≤ k ∧ k < (↑now.length : Int) ∧ List.length now ≤ (1000000 : Nat)) then some (D.tup (D.acons (D.acons (D.sl RTy.sector false (List.set now k.toNat (Sector.mk n b))) (.acons (D.sl RTy.sector false sure) .anil)) (.acons (D.int .i64 (0 : Int)) .anil))) else none else some (D.tup (D.acons (D.acons (D.sl RTy.sector false now) (.acons (D.sl RTy.sector false sure) .anil)) (.acons (D.int .i64 (0 : Int)) .anil))) else none else none else none else none else none) := by kernel_rfl
theorem putD_ok (c : Bool) (now : List Sector) (d : Bool) (sure : List Sector) (k : Int) (n : Int) (b : List UInt8) (h : (goodL now && goodL sure && lenOK b.length) = true) : putD_e c now d sure k n b = some (.tup (.acons (.acons (.sl (C := RC) .sector (!okPut now sure k n b) (pNow now sure k n b)) (.acons (.sl (C := RC) .sector (!okPut now sure k n b) (pSure now sure k n b)) .anil)) (.acons (.int .i64 (bif okPut now sure k n b then 0 else 2)) .anil))) := by
  rw [putD_eq]
  simp only [Bool.and_eq_true] at h
  obtain ⟨⟨hg, hgs⟩, hb⟩ := h
  have hgg : (goodL now && goodL sure) = true := by rw [hg, hgs]; rfl
  have no : okPut now sure k n b = false → some (D.tup (.acons (.acons (.sl (C := RC) .sector true []) (.acons (.sl (C := RC) .sector true []) .anil)) (.acons (.int .i64 2) .anil))) = some (.tup (.acons (.acons (.sl (C := RC) .sector (!okPut now sure k n b) (pNow now sure k n b)) (.acons (.sl (C := RC) .sector (!okPut now sure k n b) (pSure now sure k n b)) .anil)) (.acons (.int .i64 (bif okPut now sure k n b then 0 else 2)) .anil))) := fun e => by simp only [e, pNow, pSure]; rfl
  refine cond_of hgg ?_
  cases hd : diskOK now sure
  · exact cond_of rfl (no (okPut_not fun f => by rw [hd] at f; cases f.1))
  obtain ⟨l1, l2⟩ := diskOK_len hd
  refine cond_no rfl (cond_two (fun e => no (okPut_not fun f => by simp only [decide_eq_true_eq] at e; omega)) fun e1 => ?_)
  refine (cond_two (fun e => no (okPut_not fun f => by simp only [decide_eq_true_eq] at e; omega)) fun e2 => ?_)
  refine (cond_two (fun e => no (okPut_not fun f => by simp only [decide_eq_true_eq] at e; omega)) fun e3 => ?_)
  refine (cond_two (fun e => no (okPut_not fun f => f.2.2.2.2.1 (by simpa using e))) fun e4 => ?_)
  refine cond_of hb ?_
  refine (cond_two (fun e => no (okPut_not fun f => by rw [f.2.2.2.2.2] at e; cases e)) fun e5 => ?_)
  simp only [decide_eq_false_iff_not] at e1 e2 e3
  have ok : okPut now sure k n b = true := by
    simp only [okPut, hd, Bool.true_and, Bool.and_eq_true, decide_eq_true_eq]
    exact ⟨⟨⟨⟨by omega, by omega⟩, by omega⟩, by simpa using e4⟩, by simpa using e5⟩
  rw [ok]
  simp only [pNow, pSure, ok, cond_true, Bool.not_true]
  repeat (refine cond_of (by first | assumption | exact lenOK_of (by omega) | exact sizeT (by omega) | (simp; done) | (simp; omega) | (simp [sizeOK]; omega)) ?_)
  refine cond_two (fun e => ?_) fun e => ?_ <;> simp only [decide_eq_true_eq, decide_eq_false_iff_not] at e
  · have pn : putNow now k.toNat n b = now.set k.toNat ⟨n, b⟩ := if_pos e
    rw [pn]
    repeat (refine cond_of (by first | assumption | exact lenOK_of (by omega) | exact sizeT (by omega) | (simp; done) | (simp; omega) | (simp [sizeOK]; omega)) ?_)
    rfl
  · have pn : putNow now k.toNat n b = now := if_neg e
    rw [pn]
noncomputable def uu_8 := uu_7.addSpec 29 putD_sp
theorem uu_8_laws : FLaws Try.prog s07 uu_8 := uu_7_laws.addEv s07_laws fun args d h => by
  unfold putD_sp at h
  split at h
  · unfold putD_s at h
    have h1 := congrArg Prod.fst (Option.some.inj h)
    obtain rfl : _ = d := congrArg Prod.snd (Option.some.inj h)
    exact ⟨by simp [D.refs], 40, putD_ok _ _ _ _ _ _ _ h1⟩
  · cases h
def getD_s (c : Bool) (now : List Sector) (d : Bool) (sure : List Sector) (k : Int) : Option (Bool × D RC) := some (goodL now && goodL sure, .tup (.acons (.acons (.int .i64 (getS now sure k).n) (.acons (.str (getS now sure k).b) .anil)) (.acons (.int .i64 (bif okGet now sure k then 0 else 2)) .anil)))
def getD_sp : List (D RC) → Option (Bool × D RC)
  | [.acons (.sl .sector c now) (.acons (.sl .sector d sure) .anil), .int .i64 k] => getD_s c now d sure k
  | _ => none
noncomputable def getD_e (c : Bool) (now : List Sector) (d : Bool) (sure : List Sector) (k : Int) := evF s07 uu_8 40 30 [.acons (.sl (C := RC) .sector c now) (.acons (.sl (C := RC) .sector d sure) .anil), .int .i64 k]
theorem getD_eq (c : Bool) (now : List Sector) (d : Bool) (sure : List Sector) (k : Int) : getD_e c now d sure k = (bif goodL now && goodL sure then bif (bif diskOK now sure then (0 : Int) else (2 : Int)) != (0 : Int) then some (D.tup (D.acons (D.acons (D.int .i64 (0 : Int)) (.acons (D.str []) .anil)) (.acons (D.int .i64 (2 : Int)) .anil))) else bif decide (k < (0 : Int)) then some (D.tup (D.acons (D.acons (D.int .i64 (0 : Int)) (.acons (D.str []) .anil)) (.acons (D.int .i64 (2 : Int)) .anil))) else bif decide ((33 : Int) ≤ k) then some (D.tup (D.acons (D.acons (D.int .i64 (0 : Int)) (.acons (D.str []) .anil)) (.acons (D.int .i64 (2 : Int)) .anil))) else bif decide ((0 : Int) ≤ k ∧ k < (↑now.length : Int)) then some (D.tup (D.acons (D.acons (D.int .i64 (Sector.n (List.getD now k.toNat (Sector.mk (0 : Int) [])))) (.acons (D.str (Sector.b (List.getD now k.toNat (Sector.mk (0 : Int) [])))) .anil)) (.acons (D.int .i64 (0 : Int)) .anil))) else none else none) := by kernel_rfl
theorem getD_ok (c : Bool) (now : List Sector) (d : Bool) (sure : List Sector) (k : Int) (h : (goodL now && goodL sure) = true) : getD_e c now d sure k = some (.tup (.acons (.acons (.int .i64 (getS now sure k).n) (.acons (.str (getS now sure k).b) .anil)) (.acons (.int .i64 (bif okGet now sure k then 0 else 2)) .anil))) := by
  rw [getD_eq]
  have hgg := h
  rw [Bool.and_eq_true] at h
  obtain ⟨hg, hgs⟩ := h
  have no : okGet now sure k = false → some (D.tup (.acons (.acons (.int .i64 0) (.acons (.str []) .anil)) (.acons (.int .i64 2) .anil))) = some (.tup (.acons (.acons (.int .i64 (getS now sure k).n) (.acons (.str (getS now sure k).b) .anil)) (.acons (.int .i64 (bif okGet now sure k then 0 else 2)) .anil)) : D RC) := fun e => by simp only [getS, e]; rfl
  refine cond_of hgg ?_
  cases hd : diskOK now sure
  · exact cond_of rfl (no (by simp [okGet, hd]))
  obtain ⟨l1, l2⟩ := diskOK_len hd
  refine cond_no rfl (cond_two (fun e => no (by simp only [decide_eq_true_eq] at e; simp [okGet]; omega)) fun e1 => ?_)
  refine (cond_two (fun e => no (by simp only [decide_eq_true_eq] at e; simp [okGet]; omega)) fun e2 => ?_)
  simp only [decide_eq_false_iff_not] at e1 e2
  have ok : okGet now sure k = true := by simp [okGet, hd]; omega
  rw [ok]
  simp only [getS, ok, cond_true, sec0]
  repeat (refine cond_of (by first | assumption | exact lenOK_of (by omega) | exact sizeT (by omega) | (simp; done) | (simp; omega) | (simp [sizeOK]; omega)) ?_)
  rfl
noncomputable def uu_9 := uu_8.addSpec 30 getD_sp
theorem uu_9_laws : FLaws Try.prog s07 uu_9 := uu_8_laws.addEv s07_laws fun args d h => by
  unfold getD_sp at h
  split at h
  · unfold getD_s at h
    have h1 := congrArg Prod.fst (Option.some.inj h)
    obtain rfl : _ = d := congrArg Prod.snd (Option.some.inj h)
    exact ⟨by simp [D.refs], 40, getD_ok _ _ _ _ _ h1⟩
  · cases h
theorem readS_stands {b : List UInt8} {s : St} (h : readS b = some s) : standsOK s = true := by
  rw [readS_eq] at h
  split at h
  · split at h
    · rename_i q; cases h; exact q.2
    · cases h
  · cases h
end Go.Ev
