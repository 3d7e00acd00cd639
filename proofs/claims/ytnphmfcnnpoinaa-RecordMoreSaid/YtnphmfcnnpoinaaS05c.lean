import Derived.Test.YtnphmfcnnpoinaaS05b
namespace Go.Ev
open Go.Proofs
set_option maxRecDepth 100000
set_option linter.unusedVariables false
set_option linter.unusedSimpArgs false
/-! ## package record: states; bytes -/
/-! ### function stands: flume/record.Stands -/
def stands_s (p : Int) (ci : Bool) (items : List Item) (l0 : List Line) (l1 : List Line) (l2 : List Line) (c0 : Int) (c1 : Int) (c2 : Int) : Option (Bool × D RC) := some (decide (items.length ≤ 9223372036854775807 ∧ l0.length ≤ 9223372036854775807 ∧ l1.length ≤ 9223372036854775807 ∧ l2.length ≤ 9223372036854775807), .bool (standsOK ⟨p, items, l0, l1, l2, c0, c1, c2⟩))
def stands_sp : List (D RC) → Option (Bool × D RC)
  | [.acons (.int .i64 p) (.acons (.sl .item ci items) (.acons (.arr .lines 3 [l0, l1, l2]) (.acons (.arr .int 3 [c0, c1, c2]) .anil)))] => stands_s p ci items l0 l1 l2 c0 c1 c2
  | _ => none
noncomputable def stands_e (p : Int) (ci : Bool) (items : List Item) (l0 : List Line) (l1 : List Line) (l2 : List Line) (c0 : Int) (c1 : Int) (c2 : Int) := evF s05 q3 30 15 [.acons (.int .i64 p) (.acons (.sl (C := RC) .item ci items) (.acons (.arr (C := RC) .lines 3 [l0, l1, l2]) (.acons (.arr (C := RC) .int 3 [c0, c1, c2]) .anil)))]
theorem stands_eq (p : Int) (ci : Bool) (items : List Item) (l0 : List Line) (l1 : List Line) (l2 : List Line) (c0 : Int) (c1 : Int) (c2 : Int) : stands_e p ci items l0 l1 l2 c0 c1 c2 = (bif !Go.Ev.withinB p (0 : Int) (1048575 : Int) then Option.some (Go.Ev.D.bool Bool.false) else bif Go.Ev.lenOK (List.length items) then bif Decidable.decide ((↑(List.length items) : Int) = (↑(List.length items) : Int)) && Bool.true && Decidable.decide (List.length items ≤ (9223372036854775807 : Nat)) then bif Go.Ev.eachAt (Go.Ev.oneIB p) Go.Ev.twoIB items (0 : Nat) then bif !Go.Ev.withinB c0 (0 : Int) p then Option.some (Go.Ev.D.bool Bool.false) else bif Go.Ev.lenOK (List.length l0) then bif Decidable.decide ((16 : Int) < (↑(List.length l0) : Int)) then Option.some (Go.Ev.D.bool Bool.false) else bif Go.Ev.lenOK (List.length l0) then bif Decidable.decide ((0 : Int) < (↑(List.length l0) : Int)) then bif Decidable.decide ((0 : Int) ≤ (0 : Int) ∧ (0 : Int) < (↑(List.length l0) : Int)) then bif Decidable.decide (Go.Ev.Line.place (List.getD l0 (0 : Nat) (Go.Ev.Line.mk (0 : Int) (0 : Int) (0 : Int) (0 : Int) (0 : Int))) ≤ c0) then Option.some (Go.Ev.D.bool Bool.false) else bif Go.Ev.lenOK (List.length l0) then bif Decidable.decide ((↑(List.length l0) : Int) = (↑(List.length l0) : Int)) && Bool.true && Decidable.decide (List.length l0 ≤ (9223372036854775807 : Nat)) then bif Go.Ev.eachAt (Go.Ev.oneLB p) Go.Ev.twoLB l0 (0 : Nat) then bif !Go.Ev.withinB c1 (0 : Int) p then Option.some (Go.Ev.D.bool Bool.false) else bif Go.Ev.lenOK (List.length l1) then bif Decidable.decide ((16 : Int) < (↑(List.length l1) : Int)) then Option.some (Go.Ev.D.bool Bool.false) else bif Go.Ev.lenOK (List.length l1) then bif Decidable.decide ((0 : Int) < (↑(List.length l1) : Int)) then bif Decidable.decide ((0 : Int) ≤ (0 : Int) ∧ (0 : Int) < (↑(List.length l1) : Int)) then bif Decidable.decide (Go.Ev.Line.place (List.getD l1 (0 : Nat) (Go.Ev.Line.mk (0 : Int) (0 : Int) (0 : Int) (0 : Int) (0 : Int))) ≤ c1) then Option.some (Go.Ev.D.bool Bool.false) else bif Go.Ev.lenOK (List.length l1) then bif Decidable.decide ((↑(List.length l1) : Int) = (↑(List.length l1) : Int)) && Bool.true && Decidable.decide (List.length l1 ≤ (9223372036854775807 : Nat)) then bif Go.Ev.eachAt (Go.Ev.oneLB p) Go.Ev.twoLB l1 (0 : Nat) then bif !Go.Ev.withinB c2 (0 : Int) p then Option.some (Go.Ev.D.bool Bool.false) else bif Go.Ev.lenOK (List.length l2) then bif Decidable.decide ((16 : Int) < (↑(List.length l2) : Int)) then Option.some (Go.Ev.D.bool Bool.false) else bif Go.Ev.lenOK (List.length l2) then bif Decidable.decide ((0 : Int) < (↑(List.length l2) : Int)) then bif Decidable.decide ((0 : Int) ≤ (0 : Int) ∧ (0 : Int) < (↑(List.length l2) : Int)) then bif Decidable.decide (Go.Ev.Line.place (List.getD l2 (0 : Nat) (Go.Ev.Line.mk (0 : Int) (0 : Int) (0 : Int) (0 : Int) (0 : Int))) ≤ c2) then Option.some (Go.Ev.D.bool Bool.false) else bif Go.Ev.lenOK (List.length l2) then bif Decidable.decide ((↑(List.length l2) : Int) = (↑(List.length l2) : Int)) && Bool.true && Decidable.decide (List.length l2 ≤ (9223372036854775807 : Nat)) then bif Go.Ev.eachAt (Go.Ev.oneLB p) Go.Ev.twoLB l2 (0 : Nat) then Option.some (Go.Ev.D.bool Bool.true) else Option.some (Go.Ev.D.bool Bool.false) else Option.none else Option.none else Option.none else bif Go.Ev.lenOK (List.length l2) then bif Decidable.decide ((↑(List.length l2) : Int) = (↑(List.length l2) : Int)) && Bool.true && Decidable.decide (List.length l2 ≤ (9223372036854775807 : Nat)) then bif Go.Ev.eachAt (Go.Ev.oneLB p) Go.Ev.twoLB l2 (0 : Nat) then Option.some (Go.Ev.D.bool Bool.true) else Option.some (Go.Ev.D.bool Bool.false) else Option.none else Option.none else Option.none else Option.none else Option.some (Go.Ev.D.bool Bool.false) else Option.none else Option.none else Option.none else bif Go.Ev.lenOK (List.length l1) then bif Decidable.decide ((↑(List.length l1) : Int) = (↑(List.length l1) : Int)) && Bool.true && Decidable.decide (List.length l1 ≤ (9223372036854775807 : Nat)) then bif Go.Ev.eachAt (Go.Ev.oneLB p) Go.Ev.twoLB l1 (0 : Nat) then bif !Go.Ev.withinB c2 (0 : Int) p then Option.some (Go.Ev.D.bool Bool.false) else bif Go.Ev.lenOK (List.length l2) then bif Decidable.decide ((16 : Int) < (↑(List.length l2) : Int)) then Option.some (Go.Ev.D.bool Bool.false) else bif Go.Ev.lenOK (List.length l2) then bif Decidable.decide ((0 : Int) < (↑(List.length l2) : Int)) then bif Decidable.decide ((0 : Int) ≤ (0 : Int) ∧ (0 : Int) < (↑(List.length l2) : Int)) then bif Decidable.decide (Go.Ev.Line.place (List.getD l2 (0 : Nat) (Go.Ev.Line.mk (0 : Int) (0 : Int) (0 : Int) (0 : Int) (0 : Int))) ≤ c2) then Option.some (Go.Ev.D.bool Bool.false) else bif Go.Ev.lenOK (List.length l2) then bif Decidable.decide ((↑(List.length l2) : Int) = (↑(List.length l2) : Int)) && Bool.true && Decidable.decide (List.length l2 ≤ (9223372036854775807 : Nat)) then bif Go.Ev.eachAt (Go.Ev.oneLB p) Go.Ev.twoLB l2 (0 : Nat) then Option.some (Go.Ev.D.bool Bool.true) else Option.some (Go.Ev.D.bool Bool.false) else Option.none else Option.none else Option.none else bif Go.Ev.lenOK (List.length l2) then bif Decidable.decide ((↑(List.length l2) : Int) = (↑(List.length l2) : Int)) && Bool.true && Decidable.decide (List.length l2 ≤ (9223372036854775807 : Nat)) then bif Go.Ev.eachAt (Go.Ev.oneLB p) Go.Ev.twoLB l2 (0 : Nat) then Option.some (Go.Ev.D.bool Bool.true) else Option.some (Go.Ev.D.bool Bool.false) else Option.none else Option.none else Option.none else Option.none else Option.some (Go.Ev.D.bool Bool.false) else Option.none else Option.none else Option.none else Option.none else Option.some (Go.Ev.D.bool Bool.false) else Option.none else Option.none else Option.none else bif Go.Ev.lenOK (List.length l0) then bif Decidable.decide ((↑(List.length l0) : Int) = (↑(List.length l0) : Int)) && Bool.true && Decidable.decide (List.length l0 ≤ (9223372036854775807 : Nat)) then bif Go.Ev.eachAt (Go.Ev.oneLB p) Go.Ev.twoLB l0 (0 : Nat) then bif !Go.Ev.withinB c1 (0 : Int) p then Option.some (Go.Ev.D.bool Bool.false) else bif Go.Ev.lenOK (List.length l1) then bif Decidable.decide ((16 : Int) < (↑(List.length l1) : Int)) then Option.some (Go.Ev.D.bool Bool.false) else bif Go.Ev.lenOK (List.length l1) then bif Decidable.decide ((0 : Int) < (↑(List.length l1) : Int)) then bif Decidable.decide ((0 : Int) ≤ (0 : Int) ∧ (0 : Int) < (↑(List.length l1) : Int)) then bif Decidable.decide (Go.Ev.Line.place (List.getD l1 (0 : Nat) (Go.Ev.Line.mk (0 : Int) (0 : Int) (0 : Int) (0 : Int) (0 : Int))) ≤ c1) then Option.some (Go.Ev.D.bool Bool.false) else bif Go.Ev.lenOK (List.length l1) then bif Decidable.decide ((↑(List.length l1) : Int) = (↑(List.length l1) : Int)) && Bool.true && Decidable.decide (List.length l1 ≤ (9223372036854775807 : Nat)) then bif Go.Ev.eachAt (Go.Ev.oneLB p) Go.Ev.twoLB l1 (0 : Nat) then bif !Go.Ev.withinB c2 (0 : Int) p then Option.some (Go.Ev.D.bool Bool.false) else bif Go.Ev.lenOK (List.length l2) then bif Decidable.decide ((16 : Int) < (↑(List.length l2) : Int)) then Option.some (Go.Ev.D.bool Bool.false) else bif Go.Ev.lenOK (List.length l2) then bif Decidable.decide ((0 : Int) < (↑(List.length l2) : Int)) then bif Decidable.decide ((0 : Int) ≤ (0 : Int) ∧ (0 : Int) < (↑(List.length l2) : Int)) then bif Decidable.decide (Go.Ev.Line.place (List.getD l2 (0 : Nat) (Go.Ev.Line.mk (0 : Int) (0 : Int) (0 : Int) (0 : Int) (0 : Int))) ≤ c2) then Option.some (Go.Ev.D.bool Bool.false) else bif Go.Ev.lenOK (List.length l2) then bif Decidable.decide ((↑(List.length l2) : Int) = (↑(List.length l2) : Int)) && Bool.true && Decidable.decide (List.length l2 ≤ (9223372036854775807 : Nat)) then bif Go.Ev.eachAt (Go.Ev.oneLB p) Go.Ev.twoLB l2 (0 : Nat) then Option.some (Go.Ev.D.bool Bool.true) else Option.some (Go.Ev.D.bool Bool.false) else Option.none else Option.none else Option.none else bif Go.Ev.lenOK (List.length l2) then bif Decidable.decide ((↑(List.length l2) : Int) = (↑(List.length l2) : Int)) && Bool.true && Decidable.decide (List.length l2 ≤ (9223372036854775807 : Nat)) then bif Go.Ev.eachAt (Go.Ev.oneLB p) Go.Ev.twoLB l2 (0 : Nat) then Option.some (Go.Ev.D.bool Bool.true) else Option.some (Go.Ev.D.bool Bool.false) else Option.none else Option.none else Option.none else Option.none else Option.some (Go.Ev.D.bool Bool.false) else Option.none else Option.none else Option.none else bif Go.Ev.lenOK (List.length l1) then bif Decidable.decide ((↑(List.length l1) : Int) = (↑(List.length l1) : Int)) && Bool.true && Decidable.decide (List.length l1 ≤ (9223372036854775807 : Nat)) then bif Go.Ev.eachAt (Go.Ev.oneLB p) Go.Ev.twoLB l1 (0 : Nat) then bif !Go.Ev.withinB c2 (0 : Int) p then Option.some (Go.Ev.D.bool Bool.false) else bif Go.Ev.lenOK (List.length l2) then bif Decidable.decide ((16 : Int) < (↑(List.length l2) : Int)) then Option.some (Go.Ev.D.bool Bool.false) else bif Go.Ev.lenOK (List.length l2) then bif Decidable.decide ((0 : Int) < (↑(List.length l2) : Int)) then bif Decidable.decide ((0 : Int) ≤ (0 : Int) ∧ (0 : Int) < (↑(List.length l2) : Int)) then bif Decidable.decide (Go.Ev.Line.place (List.getD l2 (0 : Nat) (Go.Ev.Line.mk (0 : Int) (0 : Int) (0 : Int) (0 : Int) (0 : Int))) ≤ c2) then Option.some (Go.Ev.D.bool Bool.false) else bif Go.Ev.lenOK (List.length l2) then bif Decidable.decide ((↑(List.length l2) : Int) = (↑(List.length l2) : Int)) && Bool.true && Decidable.decide (List.length l2 ≤ (9223372036854775807 : Nat)) then bif Go.Ev.eachAt (Go.Ev.oneLB p) Go.Ev.twoLB l2 (0 : Nat) then Option.some (Go.Ev.D.bool Bool.true) else Option.some (Go.Ev.D.bool Bool.false) else Option.none else Option.none else Option.none else bif Go.Ev.lenOK (List.length l2) then bif Decidable.decide ((↑(List.length l2) : Int) = (↑(List.length l2) : Int)) && Bool.true && Decidable.decide (List.length l2 ≤ (9223372036854775807 : Nat)) then bif Go.Ev.eachAt (Go.Ev.oneLB p) Go.Ev.twoLB l2 (0 : Nat) then Option.some (Go.Ev.D.bool Bool.true) else Option.some (Go.Ev.D.bool Bool.false) else Option.none else Option.none else Option.none else Option.none else Option.some (Go.Ev.D.bool Bool.false) else Option.none else Option.none else Option.none else Option.none else Option.some (Go.Ev.D.bool Bool.false) else Option.none else Option.none else Option.none else Option.none else Option.some (Go.Ev.D.bool Bool.false) else Option.none else Option.none) := by kernel_rfl
theorem stands_ok (p : Int) (ci : Bool) (items : List Item) (l0 : List Line) (l1 : List Line) (l2 : List Line) (c0 : Int) (c1 : Int) (c2 : Int) (h : (decide (items.length ≤ 9223372036854775807 ∧ l0.length ≤ 9223372036854775807 ∧ l1.length ≤ 9223372036854775807 ∧ l2.length ≤ 9223372036854775807)) = true) : stands_e p ci items l0 l1 l2 c0 c1 c2 = some (.bool (standsOK ⟨p, items, l0, l1, l2, c0, c1, c2⟩)) := by
  rw [stands_eq]
  obtain ⟨h, h0, h1, h2⟩ := of_decide_eq_true h
  have b := lenOK_of h
  have b0 := lenOK_of h0
  have b1 := lenOK_of h1
  have b2 := lenOK_of h2
  have i0 : ∀ l : List Line, decide (0 ≤ (0 : Int) ∧ (0 : Int) < l.length) = !l.isEmpty := fun l => by cases l <;> simp
  have n0 : ∀ l : List Line, decide (0 < (l.length : Int)) = !l.isEmpty := fun l => by cases l <;> simp
  have n16 : ∀ l : List Line, decide (16 < (l.length : Int)) = !decide (l.length ≤ 16) := fun l => by
    by_cases h : l.length ≤ 16 <;> simp [h]
    · omega
    · omega
  have nle : ∀ a b : Int, decide (a ≤ b) = !decide (b < a) := fun a b => by
    by_cases h : b < a <;> simp [h] <;> omega
  simp only [standsOK, partOK, b, b0, b1, b2, h, h0, h1, h2, decide_true, cond_true, i0, n0, n16, nle (Line.place _)]
  generalize withinB p 0 1048575 = x1
  generalize eachAt (oneIB p) twoIB items 0 = x2
  generalize withinB c0 0 p = x3
  generalize withinB c1 0 p = x4
  generalize withinB c2 0 p = x5
  generalize eachAt (oneLB p) twoLB l0 0 = x6
  generalize eachAt (oneLB p) twoLB l1 0 = x7
  generalize eachAt (oneLB p) twoLB l2 0 = x8
  generalize decide (l0.length ≤ 16) = x9
  generalize decide (l1.length ≤ 16) = x10
  generalize decide (l2.length ≤ 16) = x11
  generalize decide (c0 < (l0.getD 0 ⟨0, 0, 0, 0, 0⟩).place) = x12
  generalize decide (c1 < (l1.getD 0 ⟨0, 0, 0, 0, 0⟩).place) = x13
  generalize decide (c2 < (l2.getD 0 ⟨0, 0, 0, 0, 0⟩).place) = x14
  generalize l0.isEmpty = x15
  generalize l1.isEmpty = x16
  generalize l2.isEmpty = x17
  cases x1; · rfl
  cases x2; · rfl
  cases x3; · rfl
  cases x9; · rfl
  cases x6
  · cases x15 <;> cases x12 <;> rfl
  cases x4; · cases x15 <;> cases x12 <;> rfl
  cases x10; · cases x15 <;> cases x12 <;> rfl
  cases x7; · cases x15 <;> cases x12 <;> cases x16 <;> cases x13 <;> rfl
  cases x5; · cases x15 <;> cases x12 <;> cases x16 <;> cases x13 <;> rfl
  cases x11; · cases x15 <;> cases x12 <;> cases x16 <;> cases x13 <;> rfl
  cases x15 <;> cases x12 <;> cases x16 <;> cases x13 <;> cases x17 <;> cases x14 <;> cases x8 <;> rfl
noncomputable def r1 := q3.addSpec 15 stands_sp
theorem r1_laws : FLaws Try.prog s05 r1 := q3_laws.addEv s05_laws fun args d h => by
  unfold stands_sp at h
  split at h
  · unfold stands_s at h
    have h1 := congrArg Prod.fst (Option.some.inj h)
    obtain rfl : _ = d := congrArg Prod.snd (Option.some.inj h)
    exact ⟨by simp [D.refs], 30, stands_ok _ _ _ _ _ _ _ _ _ h1⟩
  · cases h
/-! ### loop bytesLoop: flume/record.Bytes, region 11 -/
structure bytesLoop_St where
  cp : Bool
  bs : List UInt8
  c : Bool
  l : List Write
  i : Nat
def bytesLoop_c (cp : Bool) (bs : List UInt8) (c : Bool) (l : List Write) (i : Nat) : Env RC := [(4, .ptr 0 []), (28, .sl (C := RC) .write c l), (29, .int .i64 (l.length)), (30, .int .i64 (i : Int))]
def bytesLoop_o (cp : Bool) (bs : List UInt8) (c : Bool) (l : List Write) (i : Nat) : List (Obj RC) := [.var 70 (.acons (.sl (C := RC) .u8 cp bs) .anil)]
noncomputable def bytesLoop_r (cp : Bool) (bs : List UInt8) (c : Bool) (l : List Write) (i : Nat) := rndO s05 r1 16 11 40 1 [4, 28, 29, 30] [] (bytesLoop_c cp bs c l i) (bytesLoop_o cp bs c l i)
theorem bytesLoop_eq (cp : Bool) (bs : List UInt8) (c : Bool) (l : List Write) (i : Nat) : bytesLoop_r cp bs c l i = (bif Decidable.decide ((↑i : Int) < (↑(List.length l) : Int)) then bif Decidable.decide ((0 : Int) ≤ (↑i : Int) ∧ (↑i : Int) < (↑(List.length l) : Int)) then bif Decidable.decide (List.length bs ≤ (1000000000 : Nat)) then bif Decidable.decide (List.length (Go.Ev.putL bs (Go.Ev.Write.key (List.getD l (Int.toNat (↑i : Int)) (Go.Ev.Write.mk (0 : Int) (0 : Int)))) (1 : Nat)) ≤ (1000000000 : Nat)) then Option.some ((Go.Ev.X.normal, [((4 : Nat), Go.Ev.D.ptr (0 : Nat) []), ((28 : Nat), Go.Ev.D.sl Go.Ev.RTy.write c l), ((29 : Nat), Go.Ev.D.int Go.IntKind.i64 (↑(List.length l) : Int)), ((30 : Nat), Go.Ev.D.int Go.IntKind.i64 (Go.IntKind.wrap Go.IntKind.i64 ((↑i : Int) + (1 : Int))))]), [Option.some (Go.Ev.Obj.var (70 : Nat) (Go.Ev.D.acons (Go.Ev.D.sl Go.Ev.RTy.u8 (!Go.Ev.fitsB (Go.Ev.Write.value (List.getD l (Int.toNat (↑i : Int)) (Go.Ev.Write.mk (0 : Int) (0 : Int)))) (1 : Nat)) (Go.Ev.putL (Go.Ev.putL bs (Go.Ev.Write.key (List.getD l (Int.toNat (↑i : Int)) (Go.Ev.Write.mk (0 : Int) (0 : Int)))) (1 : Nat)) (Go.Ev.Write.value (List.getD l (Int.toNat (↑i : Int)) (Go.Ev.Write.mk (0 : Int) (0 : Int)))) (1 : Nat))) Go.Ev.D.anil))]) else Option.none else Option.none else Option.none else Option.some ((Go.Ev.X.exit (0 : Nat), []), [Option.some (Go.Ev.Obj.var (70 : Nat) (Go.Ev.D.acons (Go.Ev.D.sl Go.Ev.RTy.u8 cp bs) Go.Ev.D.anil))])) := by kernel_rfl
def bytesLoop_fin (cp : Bool) (bs : List UInt8) (c : Bool) (l : List Write) (i : Nat) : RT RC := .leaf (.exit 0) [] [.var 70 (.acons (.sl (C := RC) .u8 (cp && (l.drop i).isEmpty) (bs ++ (l.drop i).flatMap wBytes)) .anil)]
def bytesLoop_Inv (cp : Bool) (bs : List UInt8) (c : Bool) (l : List Write) (i : Nat) : Prop := i ≤ l.length ∧ l.length ≤ 1000000 ∧ bs.length ≤ 1000000 + 2 * i ∧ l.all fitW = true
def bytesLoop_S : LoopR RC bytesLoop_St where
  k := 1
  canon q := bytesLoop_c q.cp q.bs q.c q.l q.i
  objs q := bytesLoop_o q.cp q.bs q.c q.l q.i
  fin q := bytesLoop_fin q.cp q.bs q.c q.l q.i
  Inv q := bytesLoop_Inv q.cp q.bs q.c q.l q.i
  μ q := q.l.length - q.i
theorem bytesLoop_round (cp : Bool) (bs : List UInt8) (c : Bool) (l : List Write) (i : Nat) (hI : bytesLoop_Inv cp bs c l i) : Leaf (bytesLoop_r cp bs c l i) (LedR bytesLoop_S ⟨cp, bs, c, l, i⟩) := by
  rw [bytesLoop_eq]
  unfold bytesLoop_Inv at hI
  obtain ⟨h1, h2, h3, h4⟩ := hI
  by_cases hlt : i < l.length
  · have w_succ : IntKind.i64.wrap ((i : Int) + 1) = ((i + 1 : Nat) : Int) := by rw [wrap_id (by omega) (by omega)]; simp
    have d_lt : decide ((i : Int) < l.length) = true := by simp; omega
    have d_in : decide (0 ≤ (i : Int) ∧ (i : Int) < l.length) = true := by simp; omega
    have t_nat : ((i : Int)).toNat = i := by simp
    simp only [w_succ, d_lt, d_in, t_nat, cond_true]
    have hf := all_getD h4 hlt (⟨0, 0⟩ : Write)
    have hd : (l.drop i).flatMap wBytes = _ := flatMap_drop_succ l i wBytes hlt (⟨0, 0⟩ : Write)
    have he : (l.drop i).isEmpty = false := by simp; omega
    generalize l.getD i (⟨0, 0⟩ : Write) = x at hf hd ⊢
    simp only [fitW, Bool.and_eq_true] at hf
    simp only [putL_fits (fits1 hf.1), putL_fits (fits1 hf.2), fits1 hf.1, fits1 hf.2]
    have n1 : decide (bs.length ≤ 1000000000) = true := decide_eq_true (by omega)
    have n2 : decide ((bs ++ leB x.key 1).length ≤ 1000000000) = true := decide_eq_true (by simp [leB_length]; omega)
    simp only [Int.toNat_one, putL_fits (fits1 hf.1), putL_fits (fits1 hf.2), fits1 hf.1, fits1 hf.2, n1, n2, cond_true, Bool.not_true]
    refine leafR_go ⟨false, bs ++ leB x.key 1 ++ leB x.value 1, c, l, i + 1⟩ ⟨hlt, h2, by simp [leB_length]; omega, h4⟩ (by simp only [bytesLoop_S]; omega) ?_ rfl rfl
    simp only [bytesLoop_S, bytesLoop_fin, hd, he, wBytes, leB, RT.val]
    simp
  · have hi : i = l.length := by omega
    have c1 : decide ((i : Int) < l.length) = false := by simp; omega
    rw [c1]
    exact leafR_exit (bytesLoop_o cp bs c l i) (by simp [bytesLoop_S, bytesLoop_fin, bytesLoop_o, hi, RT.val]) rfl
def bytesLoop_d (env : Env RC) (os : List (Obj RC)) : Option (Bool × bytesLoop_St) := match env, os with
  | [(4, .ptr 0 []), (28, .sl .write c l), (29, .int .i64 x0), (30, .int .i64 x1)], [.var 70 (.acons (.sl .u8 cp bs) .anil)] => staticD (true) (decide (x0 = l.length) && decide (x1 = 0) && decide (l.length ≤ 1000000 ∧ bs.length ≤ 1000000) && l.all fitW, ⟨cp, bs, c, l, 0⟩)
  | _, _ => none
noncomputable def r2 := r1.addLoop 16 11 (sumR s05 [.slot 4 0] [4, 28, 29, 30] bytesLoop_S bytesLoop_d)
theorem r2_laws : FLaws Try.prog s05 r2 := by
  refine r1_laws.addRoundsR s05_laws (by kernel_rfl) bytesLoop_S 40 [4, 28, 29, 30] [] [.slot 4 0] [4, 28, 29, 30] bytesLoop_d (fun q hI => ?_) ?_
  · obtain ⟨cp, bs, c, l, i⟩ := q
    refine ⟨?_, ?_, bytesLoop_round cp bs c l i hI⟩
    · simp_all [RefsOK, bytesLoop_S, bytesLoop_c, bytesLoop_o, bytesLoop_Inv, D.refs, Obj.refs, rEnc]
    · simp_all [bytesLoop_S, bytesLoop_fin, bytesLoop_o, bytesLoop_Inv, RT.refsOK, RefsOK, D.refs, Obj.refs, rEnc]
  · intro env os b q h hb
    unfold bytesLoop_d at h
    split at h
    · obtain ⟨hs, h⟩ := staticD_some h
      cases h
      simp only [Bool.and_eq_true, decide_eq_true_eq] at hb
      obtain ⟨⟨⟨rfl, rfl⟩, hl⟩, ha⟩ := hb
      exact ⟨⟨Nat.zero_le _, hl.1, Nat.le_trans hl.2 (Nat.le_add_right _ _), ha⟩, rfl, rfl⟩
    · cases h
/-! ### function bytes: flume/record.Bytes -/
def bytes_s (p : Int) (y : Bool) (c : Bool) (l : List Write) : Option (Bool × D RC) := some (lenOK l.length, .tup (.acons (.sl (C := RC) .u8 (!mayB ⟨p, y, l⟩) (bif mayB ⟨p, y, l⟩ then bytesR ⟨p, y, l⟩ else [])) (.acons (.int .i64 (bif mayB ⟨p, y, l⟩ then 0 else 2)) .anil)))
def bytes_sp : List (D RC) → Option (Bool × D RC)
  | [.acons (.int .i64 p) (.acons (.bool y) (.acons (.sl .write c l) .anil))] => bytes_s p y c l
  | _ => none
noncomputable def bytes_e (p : Int) (y : Bool) (c : Bool) (l : List Write) := evF s05 r2 40 16 [.acons (.int .i64 p) (.acons (.bool y) (.acons (.sl (C := RC) .write c l) .anil))]
theorem bytes_eq (p : Int) (y : Bool) (c : Bool) (l : List Write) : bytes_e p y c l = (bif Go.Ev.lenOK (List.length l) then bif !Go.Ev.mayB (Go.Ev.Rec.mk p y l) then Option.some (Go.Ev.D.tup (Go.Ev.D.acons (Go.Ev.D.sl Go.Ev.RTy.u8 Bool.true []) (Go.Ev.D.acons (Go.Ev.D.int Go.IntKind.i64 (2 : Int)) Go.Ev.D.anil))) else bif y then bif Decidable.decide (List.length (Go.Ev.putL [] p (3 : Nat)) ≤ (1000000000 : Nat)) then bif Go.Ev.lenOK (List.length l) then bif Decidable.decide (List.length (Go.Ev.putL (Go.Ev.putL [] p (3 : Nat)) (1 : Int) (1 : Nat)) ≤ (1000000000 : Nat)) then bif Go.Ev.lenOK (List.length l) then bif Decidable.decide ((↑(List.length l) : Int) = (↑(List.length l) : Int)) && Bool.true && Decidable.decide (List.length l ≤ (1000000 : Nat) ∧ List.length (Go.Ev.putL (Go.Ev.putL (Go.Ev.putL [] p (3 : Nat)) (1 : Int) (1 : Nat)) (↑(List.length l) : Int) (1 : Nat)) ≤ (1000000 : Nat)) && List.all l Go.Ev.fitW then Option.some (Go.Ev.D.tup (Go.Ev.D.acons (Go.Ev.D.sl Go.Ev.RTy.u8 (!Go.Ev.fitsB (↑(List.length l) : Int) (1 : Nat) && List.isEmpty (List.drop (0 : Nat) l)) (Go.Ev.putL (Go.Ev.putL (Go.Ev.putL [] p (3 : Nat)) (1 : Int) (1 : Nat)) (↑(List.length l) : Int) (1 : Nat) ++ List.flatMap Go.Ev.wBytes (List.drop (0 : Nat) l))) (Go.Ev.D.acons (Go.Ev.D.int Go.IntKind.i64 (0 : Int)) Go.Ev.D.anil))) else Option.none else Option.none else Option.none else Option.none else Option.none else bif Decidable.decide (List.length (Go.Ev.putL [] p (3 : Nat)) ≤ (1000000000 : Nat)) then bif Go.Ev.lenOK (List.length l) then bif Decidable.decide (List.length (Go.Ev.putL (Go.Ev.putL [] p (3 : Nat)) (0 : Int) (1 : Nat)) ≤ (1000000000 : Nat)) then bif Go.Ev.lenOK (List.length l) then bif Decidable.decide ((↑(List.length l) : Int) = (↑(List.length l) : Int)) && Bool.true && Decidable.decide (List.length l ≤ (1000000 : Nat) ∧ List.length (Go.Ev.putL (Go.Ev.putL (Go.Ev.putL [] p (3 : Nat)) (0 : Int) (1 : Nat)) (↑(List.length l) : Int) (1 : Nat)) ≤ (1000000 : Nat)) && List.all l Go.Ev.fitW then Option.some (Go.Ev.D.tup (Go.Ev.D.acons (Go.Ev.D.sl Go.Ev.RTy.u8 (!Go.Ev.fitsB (↑(List.length l) : Int) (1 : Nat) && List.isEmpty (List.drop (0 : Nat) l)) (Go.Ev.putL (Go.Ev.putL (Go.Ev.putL [] p (3 : Nat)) (0 : Int) (1 : Nat)) (↑(List.length l) : Int) (1 : Nat) ++ List.flatMap Go.Ev.wBytes (List.drop (0 : Nat) l))) (Go.Ev.D.acons (Go.Ev.D.int Go.IntKind.i64 (0 : Int)) Go.Ev.D.anil))) else Option.none else Option.none else Option.none else Option.none else Option.none else Option.none) := by kernel_rfl
theorem bytes_ok (p : Int) (y : Bool) (c : Bool) (l : List Write) (h : (lenOK l.length) = true) : bytes_e p y c l = some (.tup (.acons (.sl (C := RC) .u8 (!mayB ⟨p, y, l⟩) (bif mayB ⟨p, y, l⟩ then bytesR ⟨p, y, l⟩ else [])) (.acons (.int .i64 (bif mayB ⟨p, y, l⟩ then 0 else 2)) .anil))) := by
  rw [bytes_eq]
  rw [h]
  cases hm : mayB ⟨p, y, l⟩
  · rfl
  · obtain ⟨hp, hl, hw⟩ := may_facts hm
    have f3 := fits3 (n := p) (by rw [withinB_iff]; omega)
    have f1 : fitsB (l.length : Int) 1 = true := fits1 (by rw [withinB_iff]; omega)
    have fy1 : fitsB 1 1 = true := rfl
    have fy0 : fitsB 0 1 = true := rfl
    have g1 : decide (([] : List UInt8).length ≤ 1000000000) = true := rfl
    have g2 : ∀ b : List UInt8, b.length ≤ 1000 → decide (b.length ≤ 1000000000) = true := fun b hb => decide_eq_true (by omega)
    have g3 : ∀ b : List UInt8, b.length ≤ 1000 → (decide (l.length ≤ 1000000 ∧ b.length ≤ 1000000)) = true := fun b hb => by simp; omega
    cases y <;> simp only [Int.toNat_one, show Int.toNat 3 = 3 from rfl, putL_fits f3, putL_fits f1, putL_fits fy1, putL_fits fy0, f3, f1, fy1, fy0, g1, cond_true, cond_false, Bool.not_true, Bool.not_false]
    · rw [g2 _ (by simp [leB_length]), g2 _ (by simp [leB_length]), g3 _ (by simp [leB_length]), hw]
      simp [bytesR]
    · rw [g2 _ (by simp [leB_length]), g2 _ (by simp [leB_length]), g3 _ (by simp [leB_length]), hw]
      simp [bytesR]
noncomputable def r3 := r2.addSpec 16 bytes_sp
theorem r3_laws : FLaws Try.prog s05 r3 := r2_laws.addEv s05_laws fun args d h => by
  unfold bytes_sp at h
  split at h
  · unfold bytes_s at h
    have h1 := congrArg Prod.fst (Option.some.inj h)
    obtain rfl : _ = d := congrArg Prod.snd (Option.some.inj h)
    exact ⟨by simp [D.refs], 40, bytes_ok _ _ _ _ h1⟩
  · cases h
end Go.Ev

