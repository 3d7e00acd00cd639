/-
  RecordTells returns true for all records and states, and all read behind the call as before. No condition beyond the given statement. (text 5 of 5)
-/
import Derived.Test.YtnphmfcnnpoinaaP3
import Derived.OpenShut
import Derived.ReadAgain
import Derived.WalkKit
import Derived.ProofKit
import Derived.Test.YtnphmfcnnpoinaaRows
namespace Go.Ev
open Go.Proofs
set_option maxRecDepth 100000
set_option linter.unusedVariables false
set_option linter.unusedSimpArgs false
/-! ### loop sbItR: flume/flumeref05.StateBytes, region 6 -/
structure sbItR_St where
  p : Int
  ci : Bool
  items : List Item
  k0 : Bool
  k1 : Bool
  k2 : Bool
  l0 : List Line
  l1 : List Line
  l2 : List Line
  c0 : Int
  c1 : Int
  c2 : Int
  bs : List UInt8
  i : Nat
def sbItR_c (p : Int) (ci : Bool) (items : List Item) (k0 : Bool) (k1 : Bool) (k2 : Bool) (l0 : List Line) (l1 : List Line) (l2 : List Line) (c0 : Int) (c1 : Int) (c2 : Int) (bs : List UInt8) (i : Nat) : Env RC := [(1, .ptr 0 []), (4, .vs 1 (bs.length)), (6, .int .i64 (i : Int))]
def sbItR_o (p : Int) (ci : Bool) (items : List Item) (k0 : Bool) (k1 : Bool) (k2 : Bool) (l0 : List Line) (l1 : List Line) (l2 : List Line) (c0 : Int) (c1 : Int) (c2 : Int) (bs : List UInt8) (i : Nat) : List (Obj RC) := [.var 33 (.acons (.int .i64 p) (.acons (.sl (C := RC) .item ci items) (.acons (.acons (.sl (C := RC) .line k0 l0) (.acons (.sl (C := RC) .line k1 l1) (.acons (.sl (C := RC) .line k2 l2) .anil))) (.acons (.arr (C := RC) .int 3 [c0, c1, c2]) .anil)))), .vec (C := RC) .u8 true bs]
noncomputable def sbItR_r (p : Int) (ci : Bool) (items : List Item) (k0 : Bool) (k1 : Bool) (k2 : Bool) (l0 : List Line) (l1 : List Line) (l2 : List Line) (c0 : Int) (c1 : Int) (c2 : Int) (bs : List UInt8) (i : Nat) := rndO s05 ui_3 25 6 40 2 [1, 4, 6] [4] [.slot 1 0, .slot 4 0] (sbItR_c p ci items k0 k1 k2 l0 l1 l2 c0 c1 c2 bs i) (sbItR_o p ci items k0 k1 k2 l0 l1 l2 c0 c1 c2 bs i)
theorem sbItR_eq (p : Int) (ci : Bool) (items : List Item) (k0 : Bool) (k1 : Bool) (k2 : Bool) (l0 : List Line) (l1 : List Line) (l2 : List Line) (c0 : Int) (c1 : Int) (c2 : Int) (bs : List UInt8) (i : Nat) : sbItR_r p ci items k0 k1 k2 l0 l1 l2 c0 c1 c2 bs i = (bif Go.Ev.lenOK (List.length items) then bif Decidable.decide ((↑i : Int) < (↑(List.length items) : Int)) then bif Decidable.decide ((0 : Int) ≤ (↑i : Int) ∧ (↑i : Int) < (↑(List.length items) : Int)) then bif Nat.beq (List.length bs) (List.length bs) && Go.Ev.sizeOK (List.length bs + List.length [UInt8.ofNat (Int.toNat (Go.IntKind.wrap Go.IntKind.u8 (Go.Ev.Item.key (List.getD items (Int.toNat (↑i : Int)) (Go.Ev.Item.mk (0 : Int) (0 : Int) (0 : Int))))))]) (1 : Nat) then bif Decidable.decide ((0 : Int) ≤ (↑i : Int) ∧ (↑i : Int) < (↑(List.length items) : Int)) then bif Decidable.decide (Go.Ev.Item.place (List.getD items (Int.toNat (↑i : Int)) (Go.Ev.Item.mk (0 : Int) (0 : Int) (0 : Int))) ≤ (9223372036854775807 : Int) ∧ (1 : Int) ≤ (3 : Int) ∧ (3 : Int) ≤ (6 : Int)) && Go.Ev.fitsB (Go.Ev.Item.place (List.getD items (Int.toNat (↑i : Int)) (Go.Ev.Item.mk (0 : Int) (0 : Int) (0 : Int)))) (3 : Nat) then bif Nat.beq (List.length bs + List.length [UInt8.ofNat (Int.toNat (Go.IntKind.wrap Go.IntKind.u8 (Go.Ev.Item.key (List.getD items (Int.toNat (↑i : Int)) (Go.Ev.Item.mk (0 : Int) (0 : Int) (0 : Int))))))]) (List.length (bs ++ [UInt8.ofNat (Int.toNat (Go.IntKind.wrap Go.IntKind.u8 (Go.Ev.Item.key (List.getD items (Int.toNat (↑i : Int)) (Go.Ev.Item.mk (0 : Int) (0 : Int) (0 : Int))))))])) then bif Go.Ev.sizeOK ((0 : Nat) + List.length (bs ++ [UInt8.ofNat (Int.toNat (Go.IntKind.wrap Go.IntKind.u8 (Go.Ev.Item.key (List.getD items (Int.toNat (↑i : Int)) (Go.Ev.Item.mk (0 : Int) (0 : Int) (0 : Int))))))])) (1 : Nat) then bif Decidable.decide ((0 : Nat) + List.length (bs ++ [UInt8.ofNat (Int.toNat (Go.IntKind.wrap Go.IntKind.u8 (Go.Ev.Item.key (List.getD items (Int.toNat (↑i : Int)) (Go.Ev.Item.mk (0 : Int) (0 : Int) (0 : Int))))))]) = List.length ([] ++ (bs ++ [UInt8.ofNat (Int.toNat (Go.IntKind.wrap Go.IntKind.u8 (Go.Ev.Item.key (List.getD items (Int.toNat (↑i : Int)) (Go.Ev.Item.mk (0 : Int) (0 : Int) (0 : Int))))))]))) && Bool.true && Decidable.decide ((0 : Int) ≤ Go.Ev.Item.place (List.getD items (Int.toNat (↑i : Int)) (Go.Ev.Item.mk (0 : Int) (0 : Int) (0 : Int))) ∧ Go.Ev.Item.place (List.getD items (Int.toNat (↑i : Int)) (Go.Ev.Item.mk (0 : Int) (0 : Int) (0 : Int))) ≤ (9223372036854775807 : Int) ∧ (0 : Int) ≤ (3 : Int) ∧ (3 : Int) ≤ (6 : Int) ∧ List.length ([] ++ (bs ++ [UInt8.ofNat (Int.toNat (Go.IntKind.wrap Go.IntKind.u8 (Go.Ev.Item.key (List.getD items (Int.toNat (↑i : Int)) (Go.Ev.Item.mk (0 : Int) (0 : Int) (0 : Int))))))])) ≤ (1000000 : Nat)) then bif Decidable.decide ((0 : Int) ≤ (↑i : Int) ∧ (↑i : Int) < (↑(List.length items) : Int)) then bif Nat.beq (List.length ([] ++ (bs ++ [UInt8.ofNat (Int.toNat (Go.IntKind.wrap Go.IntKind.u8 (Go.Ev.Item.key (List.getD items (Int.toNat (↑i : Int)) (Go.Ev.Item.mk (0 : Int) (0 : Int) (0 : Int))))))]) ++ Go.Ev.leB (Go.Ev.Item.place (List.getD items (Int.toNat (↑i : Int)) (Go.Ev.Item.mk (0 : Int) (0 : Int) (0 : Int)))) (3 : Nat))) (List.length ([] ++ (bs ++ [UInt8.ofNat (Int.toNat (Go.IntKind.wrap Go.IntKind.u8 (Go.Ev.Item.key (List.getD items (Int.toNat (↑i : Int)) (Go.Ev.Item.mk (0 : Int) (0 : Int) (0 : Int))))))]) ++ Go.Ev.leB (Go.Ev.Item.place (List.getD items (Int.toNat (↑i : Int)) (Go.Ev.Item.mk (0 : Int) (0 : Int) (0 : Int)))) (3 : Nat))) && Go.Ev.sizeOK (List.length ([] ++ (bs ++ [UInt8.ofNat (Int.toNat (Go.IntKind.wrap Go.IntKind.u8 (Go.Ev.Item.key (List.getD items (Int.toNat (↑i : Int)) (Go.Ev.Item.mk (0 : Int) (0 : Int) (0 : Int))))))]) ++ Go.Ev.leB (Go.Ev.Item.place (List.getD items (Int.toNat (↑i : Int)) (Go.Ev.Item.mk (0 : Int) (0 : Int) (0 : Int)))) (3 : Nat)) + List.length [UInt8.ofNat (Int.toNat (Go.IntKind.wrap Go.IntKind.u8 (Go.Ev.Item.value (List.getD items (Int.toNat (↑i : Int)) (Go.Ev.Item.mk (0 : Int) (0 : Int) (0 : Int))))))]) (1 : Nat) then bif Nat.blt (List.length bs) (List.length ([] ++ (bs ++ [UInt8.ofNat (Int.toNat (Go.IntKind.wrap Go.IntKind.u8 (Go.Ev.Item.key (List.getD items (Int.toNat (↑i : Int)) (Go.Ev.Item.mk (0 : Int) (0 : Int) (0 : Int))))))]) ++ Go.Ev.leB (Go.Ev.Item.place (List.getD items (Int.toNat (↑i : Int)) (Go.Ev.Item.mk (0 : Int) (0 : Int) (0 : Int)))) (3 : Nat) ++ [UInt8.ofNat (Int.toNat (Go.IntKind.wrap Go.IntKind.u8 (Go.Ev.Item.value (List.getD items (Int.toNat (↑i : Int)) (Go.Ev.Item.mk (0 : Int) (0 : Int) (0 : Int))))))])) then Option.some ((Go.Ev.X.normal, [((1 : Nat), Go.Ev.D.ptr (0 : Nat) []), ((4 : Nat), Go.Ev.D.vs (1 : Nat) (List.length ([] ++ (bs ++ [UInt8.ofNat (Int.toNat (Go.IntKind.wrap Go.IntKind.u8 (Go.Ev.Item.key (List.getD items (Int.toNat (↑i : Int)) (Go.Ev.Item.mk (0 : Int) (0 : Int) (0 : Int))))))]) ++ Go.Ev.leB (Go.Ev.Item.place (List.getD items (Int.toNat (↑i : Int)) (Go.Ev.Item.mk (0 : Int) (0 : Int) (0 : Int)))) (3 : Nat)) + List.length [UInt8.ofNat (Int.toNat (Go.IntKind.wrap Go.IntKind.u8 (Go.Ev.Item.value (List.getD items (Int.toNat (↑i : Int)) (Go.Ev.Item.mk (0 : Int) (0 : Int) (0 : Int))))))])), ((6 : Nat), Go.Ev.D.int Go.IntKind.i64 (Go.IntKind.wrap Go.IntKind.i64 ((↑i : Int) + (1 : Int))))]), [Option.some (Go.Ev.Obj.var (33 : Nat) (Go.Ev.D.acons (Go.Ev.D.int Go.IntKind.i64 p) (Go.Ev.D.acons (Go.Ev.D.sl Go.Ev.RTy.item ci items) (Go.Ev.D.acons (Go.Ev.D.acons (Go.Ev.D.sl Go.Ev.RTy.line k0 l0) (Go.Ev.D.acons (Go.Ev.D.sl Go.Ev.RTy.line k1 l1) (Go.Ev.D.acons (Go.Ev.D.sl Go.Ev.RTy.line k2 l2) Go.Ev.D.anil))) (Go.Ev.D.acons (Go.Ev.D.arr Go.Ev.RTy.int (3 : Nat) [c0, c1, c2]) Go.Ev.D.anil))))), Option.some (Go.Ev.Obj.vec Go.Ev.RTy.u8 Bool.true ([] ++ (bs ++ [UInt8.ofNat (Int.toNat (Go.IntKind.wrap Go.IntKind.u8 (Go.Ev.Item.key (List.getD items (Int.toNat (↑i : Int)) (Go.Ev.Item.mk (0 : Int) (0 : Int) (0 : Int))))))]) ++ Go.Ev.leB (Go.Ev.Item.place (List.getD items (Int.toNat (↑i : Int)) (Go.Ev.Item.mk (0 : Int) (0 : Int) (0 : Int)))) (3 : Nat) ++ [UInt8.ofNat (Int.toNat (Go.IntKind.wrap Go.IntKind.u8 (Go.Ev.Item.value (List.getD items (Int.toNat (↑i : Int)) (Go.Ev.Item.mk (0 : Int) (0 : Int) (0 : Int))))))]))]) else Option.none else Option.none else Option.none else Option.none else Option.none else Option.none else Option.none else Option.none else Option.none else Option.none else Option.some ((Go.Ev.X.exit (0 : Nat), [((4 : Nat), Go.Ev.D.vs (1 : Nat) (List.length bs))]), [Option.some (Go.Ev.Obj.var (33 : Nat) (Go.Ev.D.acons (Go.Ev.D.int Go.IntKind.i64 p) (Go.Ev.D.acons (Go.Ev.D.sl Go.Ev.RTy.item ci items) (Go.Ev.D.acons (Go.Ev.D.acons (Go.Ev.D.sl Go.Ev.RTy.line k0 l0) (Go.Ev.D.acons (Go.Ev.D.sl Go.Ev.RTy.line k1 l1) (Go.Ev.D.acons (Go.Ev.D.sl Go.Ev.RTy.line k2 l2) Go.Ev.D.anil))) (Go.Ev.D.acons (Go.Ev.D.arr Go.Ev.RTy.int (3 : Nat) [c0, c1, c2]) Go.Ev.D.anil))))), Option.some (Go.Ev.Obj.vec Go.Ev.RTy.u8 Bool.true bs)]) else Option.none) := by kernel_rfl
def sbItR_fin (p : Int) (ci : Bool) (items : List Item) (k0 : Bool) (k1 : Bool) (k2 : Bool) (l0 : List Line) (l1 : List Line) (l2 : List Line) (c0 : Int) (c1 : Int) (c2 : Int) (bs : List UInt8) (i : Nat) : RT RC := .leaf (.exit 0) [(4, .vs 1 (bs ++ (items.drop i).flatMap iBytes).length)] [.var 33 (.acons (.int .i64 p) (.acons (.sl (C := RC) .item ci items) (.acons (.acons (.sl (C := RC) .line k0 l0) (.acons (.sl (C := RC) .line k1 l1) (.acons (.sl (C := RC) .line k2 l2) .anil))) (.acons (.arr (C := RC) .int 3 [c0, c1, c2]) .anil)))), .vec (C := RC) .u8 true (bs ++ (items.drop i).flatMap iBytes)]
def sbItR_Inv (p : Int) (ci : Bool) (items : List Item) (k0 : Bool) (k1 : Bool) (k2 : Bool) (l0 : List Line) (l1 : List Line) (l2 : List Line) (c0 : Int) (c1 : Int) (c2 : Int) (bs : List UInt8) (i : Nat) : Prop := i ≤ items.length ∧ items.length ≤ 1000 ∧ bs.length ≤ 900000 + 5 * i ∧ items.all fitI = true
def sbItR_S : LoopR RC sbItR_St where
  k := 2
  canon q := sbItR_c q.p q.ci q.items q.k0 q.k1 q.k2 q.l0 q.l1 q.l2 q.c0 q.c1 q.c2 q.bs q.i
  objs q := sbItR_o q.p q.ci q.items q.k0 q.k1 q.k2 q.l0 q.l1 q.l2 q.c0 q.c1 q.c2 q.bs q.i
  fin q := sbItR_fin q.p q.ci q.items q.k0 q.k1 q.k2 q.l0 q.l1 q.l2 q.c0 q.c1 q.c2 q.bs q.i
  Inv q := sbItR_Inv q.p q.ci q.items q.k0 q.k1 q.k2 q.l0 q.l1 q.l2 q.c0 q.c1 q.c2 q.bs q.i
  μ q := q.items.length - q.i
theorem sbItR_round (p : Int) (ci : Bool) (items : List Item) (k0 : Bool) (k1 : Bool) (k2 : Bool) (l0 : List Line) (l1 : List Line) (l2 : List Line) (c0 : Int) (c1 : Int) (c2 : Int) (bs : List UInt8) (i : Nat) (hI : sbItR_Inv p ci items k0 k1 k2 l0 l1 l2 c0 c1 c2 bs i) : Leaf (sbItR_r p ci items k0 k1 k2 l0 l1 l2 c0 c1 c2 bs i) (LedR sbItR_S ⟨p, ci, items, k0, k1, k2, l0, l1, l2, c0, c1, c2, bs, i⟩) := by
  rw [sbItR_eq]
  unfold sbItR_Inv at hI
  obtain ⟨h1, h2, h3, h4⟩ := hI
  have hlk := lenOK_of (show items.length ≤ 9223372036854775807 by omega)
  by_cases hlt : i < items.length
  · have w_succ : IntKind.i64.wrap ((i : Int) + 1) = ((i + 1 : Nat) : Int) := by rw [wrap_id (by omega) (by omega)]; simp
    have d_lt : decide ((i : Int) < items.length) = true := by simp; omega
    have d_in : decide (0 ≤ (i : Int) ∧ (i : Int) < items.length) = true := by simp; omega
    have t_nat : ((i : Int)).toNat = i := by simp
    simp only [w_succ, d_lt, d_in, t_nat, cond_true]
    have hf := all_getD h4 hlt (⟨0, 0, 0⟩ : Item)
    have hd : (items.drop i).flatMap iBytes = _ := flatMap_drop_succ items i iBytes hlt (⟨0, 0, 0⟩ : Item)
    generalize items.getD i (⟨0, 0, 0⟩ : Item) = x at hd hf ⊢
    simp only [fitI, Bool.and_eq_true] at hf
    obtain ⟨⟨f1, f2⟩, f3⟩ := hf
    have g2 := withinB_iff.1 f2
    have hk : UInt8.ofNat (IntKind.u8.wrap x.key).toNat = byteOf x.key := rfl
    have hv : UInt8.ofNat (IntKind.u8.wrap x.value).toNat = byteOf x.value := rfl
    have e0 : decide (x.place ≤ 9223372036854775807 ∧ 1 ≤ (3 : Int) ∧ (3 : Int) ≤ 6) = true := by simp; omega
    have e1 : sizeOK (bs.length + 1) 1 = true := sizeT (by omega)
    have e2 : decide (0 ≤ x.place ∧ x.place ≤ 9223372036854775807 ∧ 0 ≤ (3 : Int) ∧ (3 : Int) ≤ 6 ∧ bs.length + 1 ≤ 1000000) = true := by simp; omega
    have e3 : sizeOK (bs.length + 1 + 3 + 1) 1 = true := sizeT (by omega)
    have e6 : Nat.blt bs.length (bs.length + 1 + 3 + 1) = true := by simp [Nat.blt_eq]; omega
    have t3 : (3 : Int).toNat - 0 = 3 := rfl
    have eb : ∀ n : Nat, n.beq n = true := fun n => by simp
    simp only [hlk, cond_true, hk, hv, fits3 f2, e0, List.length_append, List.length_cons, List.length_nil, Nat.zero_add, eb, e1, e2, e3, e6, t3, leB_length, decide_true, Bool.and_self, List.nil_append]
    refine leafR_go ⟨p, ci, items, k0, k1, k2, l0, l1, l2, c0, c1, c2, bs ++ iBytes x, i + 1⟩ (by refine ⟨hlt, h2, ?_, h4⟩; simp [iBytes_len]; omega) (by simp only [sbItR_S]; omega) ?_ (by simp [sbItR_S, sbItR_c, iBytes, leB1, leB3]) (by simp [sbItR_S, sbItR_o, iBytes, leB1, leB3])
    simp only [sbItR_S, sbItR_fin, hd, List.append_assoc]
  · have hi : i = items.length := by omega
    have c1' : decide ((i : Int) < items.length) = false := by simp; omega
    simp only [hlk, cond_true, c1', cond_false]
    have hd0 : items.drop i = [] := List.drop_eq_nil_of_le (by omega)
    exact leafR_exit (sbItR_o p ci items k0 k1 k2 l0 l1 l2 c0 c1 c2 bs i) (by simp only [sbItR_S, sbItR_fin, sbItR_o, hd0, RT.val, List.flatMap_nil, List.append_nil]) rfl
def sbItR_d (env : Env RC) (os : List (Obj RC)) : Option (Bool × sbItR_St) := match env, os with
  | [(1, .ptr 0 []), (4, .vs 1 x0), (6, .int .i64 x1)], [.var 33 (.acons (.int .i64 p) (.acons (.sl .item ci items) (.acons (.acons (.sl .line k0 l0) (.acons (.sl .line k1 l1) (.acons (.sl .line k2 l2) .anil))) (.acons (.arr .int 3 [c0, c1, c2]) .anil)))), .vec .u8 true bs] => staticD (true) (decide (x0 = bs.length) && decide (x1 = 0) && decide (items.length ≤ 1000 ∧ bs.length ≤ 900000) && items.all fitI, ⟨p, ci, items, k0, k1, k2, l0, l1, l2, c0, c1, c2, bs, 0⟩)
  | _, _ => none
noncomputable def uj_1 := ui_3.addLoop 25 6 (sumR s05 [.slot 1 0, .slot 4 0] [1, 4, 6] sbItR_S sbItR_d)
theorem uj_1_laws : FLaws Try.prog s05 uj_1 := by
  refine ui_3_laws.addRoundsR s05_laws (by kernel_rfl) sbItR_S 40 [1, 4, 6] [4] [.slot 1 0, .slot 4 0] [1, 4, 6] sbItR_d (fun q hI => ?_) ?_
  · obtain ⟨p, ci, items, k0, k1, k2, l0, l1, l2, c0, c1, c2, bs, i⟩ := q
    refine ⟨?_, ?_, sbItR_round p ci items k0 k1 k2 l0 l1 l2 c0 c1 c2 bs i hI⟩
    · simp_all [RefsOK, sbItR_S, sbItR_c, sbItR_o, sbItR_Inv, D.refs, Obj.refs, rEnc]
    · simp_all [sbItR_S, sbItR_fin, sbItR_o, sbItR_Inv, RT.refsOK, RefsOK, D.refs, Obj.refs, rEnc]
  · intro env os b q hd_ hb
    unfold sbItR_d at hd_
    split at hd_
    · obtain ⟨hs, hd_⟩ := staticD_some hd_
      cases hd_
      simp only [Bool.and_eq_true, decide_eq_true_eq] at hb
      obtain ⟨⟨⟨rfl, rfl⟩, hl⟩, ha⟩ := hb
      exact ⟨⟨Nat.zero_le _, hl.1, hl.2, ha⟩, rfl, rfl⟩
    · cases hd_
/-! ### loop sbLnR: flume/flumeref05.StateBytes, region 22 -/
structure sbLnR_St where
  c : Bool
  l : List Line
  bs : List UInt8
  i : Nat
def sbLnR_c (c : Bool) (l : List Line) (bs : List UInt8) (i : Nat) : Env RC := [(4, .vs 0 (bs.length)), (8, .sl (C := RC) .line c l), (10, .int .i64 (i : Int))]
def sbLnR_o (c : Bool) (l : List Line) (bs : List UInt8) (i : Nat) : List (Obj RC) := [.vec (C := RC) .u8 true bs]
noncomputable def sbLnR_r (c : Bool) (l : List Line) (bs : List UInt8) (i : Nat) := rndO s05 uj_1 25 22 40 1 [4, 8, 10] [4] [.slot 4 0] (sbLnR_c c l bs i) (sbLnR_o c l bs i)
theorem sbLnR_eq (c : Bool) (l : List Line) (bs : List UInt8) (i : Nat) : sbLnR_r c l bs i = (bif Go.Ev.lenOK (List.length l) then bif Decidable.decide ((↑i : Int) < (↑(List.length l) : Int)) then bif Decidable.decide ((0 : Int) ≤ (↑i : Int) ∧ (↑i : Int) < (↑(List.length l) : Int)) then bif Decidable.decide (Go.Ev.Line.place (List.getD l (Int.toNat (↑i : Int)) (Go.Ev.Line.mk (0 : Int) (0 : Int) (0 : Int) (0 : Int) (0 : Int))) ≤ (9223372036854775807 : Int) ∧ (1 : Int) ≤ (3 : Int) ∧ (3 : Int) ≤ (6 : Int)) && Go.Ev.fitsB (Go.Ev.Line.place (List.getD l (Int.toNat (↑i : Int)) (Go.Ev.Line.mk (0 : Int) (0 : Int) (0 : Int) (0 : Int) (0 : Int)))) (3 : Nat) then bif Nat.beq (List.length bs) (List.length bs) then bif Go.Ev.sizeOK ((0 : Nat) + List.length bs) (1 : Nat) then bif Decidable.decide ((0 : Nat) + List.length bs = List.length ([] ++ bs)) && Bool.true && Decidable.decide ((0 : Int) ≤ Go.Ev.Line.place (List.getD l (Int.toNat (↑i : Int)) (Go.Ev.Line.mk (0 : Int) (0 : Int) (0 : Int) (0 : Int) (0 : Int))) ∧ Go.Ev.Line.place (List.getD l (Int.toNat (↑i : Int)) (Go.Ev.Line.mk (0 : Int) (0 : Int) (0 : Int) (0 : Int) (0 : Int))) ≤ (9223372036854775807 : Int) ∧ (0 : Int) ≤ (3 : Int) ∧ (3 : Int) ≤ (6 : Int) ∧ List.length ([] ++ bs) ≤ (1000000 : Nat)) then bif Decidable.decide ((0 : Int) ≤ (↑i : Int) ∧ (↑i : Int) < (↑(List.length l) : Int)) then bif Decidable.decide ((0 : Int) ≤ (↑i : Int) ∧ (↑i : Int) < (↑(List.length l) : Int)) then bif Decidable.decide ((0 : Int) ≤ (↑i : Int) ∧ (↑i : Int) < (↑(List.length l) : Int)) then bif Nat.beq (List.length ([] ++ bs ++ Go.Ev.leB (Go.Ev.Line.place (List.getD l (Int.toNat (↑i : Int)) (Go.Ev.Line.mk (0 : Int) (0 : Int) (0 : Int) (0 : Int) (0 : Int)))) (3 : Nat))) (List.length ([] ++ bs ++ Go.Ev.leB (Go.Ev.Line.place (List.getD l (Int.toNat (↑i : Int)) (Go.Ev.Line.mk (0 : Int) (0 : Int) (0 : Int) (0 : Int) (0 : Int)))) (3 : Nat))) && Go.Ev.sizeOK (List.length ([] ++ bs ++ Go.Ev.leB (Go.Ev.Line.place (List.getD l (Int.toNat (↑i : Int)) (Go.Ev.Line.mk (0 : Int) (0 : Int) (0 : Int) (0 : Int) (0 : Int)))) (3 : Nat)) + List.length [UInt8.ofNat (Int.toNat (Go.IntKind.wrap Go.IntKind.u8 (Go.IntKind.wrap Go.IntKind.i64 (Go.Ev.Line.j (List.getD l (Int.toNat (↑i : Int)) (Go.Ev.Line.mk (0 : Int) (0 : Int) (0 : Int) (0 : Int) (0 : Int))) + Go.IntKind.wrap Go.IntKind.i64 ((16 : Int) * Go.Ev.Line.key (List.getD l (Int.toNat (↑i : Int)) (Go.Ev.Line.mk (0 : Int) (0 : Int) (0 : Int) (0 : Int) (0 : Int)))))))), UInt8.ofNat (Int.toNat (Go.IntKind.wrap Go.IntKind.u8 (Go.Ev.Line.value (List.getD l (Int.toNat (↑i : Int)) (Go.Ev.Line.mk (0 : Int) (0 : Int) (0 : Int) (0 : Int) (0 : Int))))))]) (1 : Nat) then bif Nat.blt (List.length bs) (List.length ([] ++ bs ++ Go.Ev.leB (Go.Ev.Line.place (List.getD l (Int.toNat (↑i : Int)) (Go.Ev.Line.mk (0 : Int) (0 : Int) (0 : Int) (0 : Int) (0 : Int)))) (3 : Nat) ++ [UInt8.ofNat (Int.toNat (Go.IntKind.wrap Go.IntKind.u8 (Go.IntKind.wrap Go.IntKind.i64 (Go.Ev.Line.j (List.getD l (Int.toNat (↑i : Int)) (Go.Ev.Line.mk (0 : Int) (0 : Int) (0 : Int) (0 : Int) (0 : Int))) + Go.IntKind.wrap Go.IntKind.i64 ((16 : Int) * Go.Ev.Line.key (List.getD l (Int.toNat (↑i : Int)) (Go.Ev.Line.mk (0 : Int) (0 : Int) (0 : Int) (0 : Int) (0 : Int)))))))), UInt8.ofNat (Int.toNat (Go.IntKind.wrap Go.IntKind.u8 (Go.Ev.Line.value (List.getD l (Int.toNat (↑i : Int)) (Go.Ev.Line.mk (0 : Int) (0 : Int) (0 : Int) (0 : Int) (0 : Int))))))])) then Option.some ((Go.Ev.X.normal, [((4 : Nat), Go.Ev.D.vs (0 : Nat) (List.length ([] ++ bs ++ Go.Ev.leB (Go.Ev.Line.place (List.getD l (Int.toNat (↑i : Int)) (Go.Ev.Line.mk (0 : Int) (0 : Int) (0 : Int) (0 : Int) (0 : Int)))) (3 : Nat)) + List.length [UInt8.ofNat (Int.toNat (Go.IntKind.wrap Go.IntKind.u8 (Go.IntKind.wrap Go.IntKind.i64 (Go.Ev.Line.j (List.getD l (Int.toNat (↑i : Int)) (Go.Ev.Line.mk (0 : Int) (0 : Int) (0 : Int) (0 : Int) (0 : Int))) + Go.IntKind.wrap Go.IntKind.i64 ((16 : Int) * Go.Ev.Line.key (List.getD l (Int.toNat (↑i : Int)) (Go.Ev.Line.mk (0 : Int) (0 : Int) (0 : Int) (0 : Int) (0 : Int)))))))), UInt8.ofNat (Int.toNat (Go.IntKind.wrap Go.IntKind.u8 (Go.Ev.Line.value (List.getD l (Int.toNat (↑i : Int)) (Go.Ev.Line.mk (0 : Int) (0 : Int) (0 : Int) (0 : Int) (0 : Int))))))])), ((8 : Nat), Go.Ev.D.sl Go.Ev.RTy.line c l), ((10 : Nat), Go.Ev.D.int Go.IntKind.i64 (Go.IntKind.wrap Go.IntKind.i64 ((↑i : Int) + (1 : Int))))]), [Option.some (Go.Ev.Obj.vec Go.Ev.RTy.u8 Bool.true ([] ++ bs ++ Go.Ev.leB (Go.Ev.Line.place (List.getD l (Int.toNat (↑i : Int)) (Go.Ev.Line.mk (0 : Int) (0 : Int) (0 : Int) (0 : Int) (0 : Int)))) (3 : Nat) ++ [UInt8.ofNat (Int.toNat (Go.IntKind.wrap Go.IntKind.u8 (Go.IntKind.wrap Go.IntKind.i64 (Go.Ev.Line.j (List.getD l (Int.toNat (↑i : Int)) (Go.Ev.Line.mk (0 : Int) (0 : Int) (0 : Int) (0 : Int) (0 : Int))) + Go.IntKind.wrap Go.IntKind.i64 ((16 : Int) * Go.Ev.Line.key (List.getD l (Int.toNat (↑i : Int)) (Go.Ev.Line.mk (0 : Int) (0 : Int) (0 : Int) (0 : Int) (0 : Int)))))))), UInt8.ofNat (Int.toNat (Go.IntKind.wrap Go.IntKind.u8 (Go.Ev.Line.value (List.getD l (Int.toNat (↑i : Int)) (Go.Ev.Line.mk (0 : Int) (0 : Int) (0 : Int) (0 : Int) (0 : Int))))))]))]) else Option.none else Option.none else Option.none else Option.none else Option.none else Option.none else Option.none else Option.none else Option.none else Option.none else Option.some ((Go.Ev.X.exit (4 : Nat), [((4 : Nat), Go.Ev.D.vs (0 : Nat) (List.length bs))]), [Option.some (Go.Ev.Obj.vec Go.Ev.RTy.u8 Bool.true bs)]) else Option.none) := by kernel_rfl
def sbLnR_fin (c : Bool) (l : List Line) (bs : List UInt8) (i : Nat) : RT RC := .leaf (.exit 4) [(4, .vs 0 (bs ++ (l.drop i).flatMap lBytes).length)] [.vec (C := RC) .u8 true (bs ++ (l.drop i).flatMap lBytes)]
def sbLnR_Inv (c : Bool) (l : List Line) (bs : List UInt8) (i : Nat) : Prop := i ≤ l.length ∧ l.length ≤ 1000 ∧ bs.length ≤ 900000 + 5 * i ∧ l.all fitLn = true
def sbLnR_S : LoopR RC sbLnR_St where
  k := 1
  canon q := sbLnR_c q.c q.l q.bs q.i
  objs q := sbLnR_o q.c q.l q.bs q.i
  fin q := sbLnR_fin q.c q.l q.bs q.i
  Inv q := sbLnR_Inv q.c q.l q.bs q.i
  μ q := q.l.length - q.i
theorem sbLnR_round (c : Bool) (l : List Line) (bs : List UInt8) (i : Nat) (hI : sbLnR_Inv c l bs i) : Leaf (sbLnR_r c l bs i) (LedR sbLnR_S ⟨c, l, bs, i⟩) := by
  rw [sbLnR_eq]
  unfold sbLnR_Inv at hI
  obtain ⟨h1, h2, h3, h4⟩ := hI
  have hlk := lenOK_of (show l.length ≤ 9223372036854775807 by omega)
  by_cases hlt : i < l.length
  · have w_succ : IntKind.i64.wrap ((i : Int) + 1) = ((i + 1 : Nat) : Int) := by rw [wrap_id (by omega) (by omega)]; simp
    have d_lt : decide ((i : Int) < l.length) = true := by simp; omega
    have d_in : decide (0 ≤ (i : Int) ∧ (i : Int) < l.length) = true := by simp; omega
    have t_nat : ((i : Int)).toNat = i := by simp
    simp only [w_succ, d_lt, d_in, t_nat, cond_true]
    have hf := all_getD h4 hlt (⟨0, 0, 0, 0, 0⟩ : Line)
    have hd : (l.drop i).flatMap lBytes = _ := flatMap_drop_succ l i lBytes hlt (⟨0, 0, 0, 0, 0⟩ : Line)
    generalize l.getD i (⟨0, 0, 0, 0, 0⟩ : Line) = x at hd hf ⊢
    simp only [fitLn, Bool.and_eq_true] at hf
    obtain ⟨⟨⟨f1, f2⟩, f3⟩, f4⟩ := hf
    have g1 := withinB_iff.1 f1
    have g2 := withinB_iff.1 f2
    have g3 := withinB_iff.1 f3
    have w1 : IntKind.i64.wrap (16 * x.key) = 16 * x.key := wrap_id (by omega) (by omega)
    have w2 : IntKind.i64.wrap (x.j + 16 * x.key) = x.key * 16 + x.j := by rw [wrap_id (by omega) (by omega)]; omega
    have hk : UInt8.ofNat (IntKind.u8.wrap (x.key * 16 + x.j)).toNat = byteOf (x.key * 16 + x.j) := rfl
    have hv : UInt8.ofNat (IntKind.u8.wrap x.value).toNat = byteOf x.value := rfl
    have e0 : decide (x.place ≤ 9223372036854775807 ∧ 1 ≤ (3 : Int) ∧ (3 : Int) ≤ 6) = true := by simp; omega
    have e1 : sizeOK (bs.length + 1) 1 = true := sizeT (by omega)
    have e0' : sizeOK (0 + bs.length) 1 = true := sizeT (by omega)
    have e2 : decide (0 ≤ x.place ∧ x.place ≤ 9223372036854775807 ∧ 0 ≤ (3 : Int) ∧ (3 : Int) ≤ 6 ∧ bs.length ≤ 1000000) = true := by simp; omega
    have e5 : sizeOK (bs.length + 3 + 2) 1 = true := sizeT (by omega)
    have e6 : Nat.blt bs.length (bs.length + 3 + 2) = true := by simp [Nat.blt_eq]; omega
    have t3 : (3 : Int).toNat - 0 = 3 := rfl
    have eb : ∀ n : Nat, n.beq n = true := fun n => by simp
    have e7 : sizeOK bs.length 1 = true := sizeT (by omega)
    simp only [hlk, cond_true, w1, w2, hk, hv, fits3 f1, e0, List.length_append, List.length_cons, List.length_nil, Nat.zero_add, Nat.reduceAdd, eb, e1, e2, e5, e6, e7, t3, leB_length, decide_true, Bool.and_self, List.nil_append]
    refine leafR_go ⟨c, l, bs ++ lBytes x, i + 1⟩ (by refine ⟨hlt, h2, ?_, h4⟩; simp [lBytes_len]; omega) (by simp only [sbLnR_S]; omega) ?_ (by simp [sbLnR_S, sbLnR_c, lBytes, leB1, leB3]) (by simp [sbLnR_S, sbLnR_o, lBytes, leB1, leB3])
    simp only [sbLnR_S, sbLnR_fin, hd, List.append_assoc]
  · have hi : i = l.length := by omega
    have c1' : decide ((i : Int) < l.length) = false := by simp; omega
    simp only [hlk, cond_true, c1', cond_false]
    have hd0 : l.drop i = [] := List.drop_eq_nil_of_le (by omega)
    exact leafR_exit (sbLnR_o c l bs i) (by simp only [sbLnR_S, sbLnR_fin, sbLnR_o, hd0, RT.val, List.flatMap_nil, List.append_nil]) rfl
def sbLnR_d (env : Env RC) (os : List (Obj RC)) : Option (Bool × sbLnR_St) := match env, os with
  | [(4, .vs 0 x0), (8, .sl .line c l), (10, .int .i64 x1)], [.vec .u8 true bs] => staticD (true) (decide (x0 = bs.length) && decide (x1 = 0) && decide (l.length ≤ 1000 ∧ bs.length ≤ 900000) && l.all fitLn, ⟨c, l, bs, 0⟩)
  | _, _ => none
noncomputable def uj_2 := uj_1.addLoop 25 22 (sumR s05 [.slot 4 0] [4, 8, 10] sbLnR_S sbLnR_d)
theorem uj_2_laws : FLaws Try.prog s05 uj_2 := by
  refine uj_1_laws.addRoundsR s05_laws (by kernel_rfl) sbLnR_S 40 [4, 8, 10] [4] [.slot 4 0] [4, 8, 10] sbLnR_d (fun q hI => ?_) ?_
  · obtain ⟨c, l, bs, i⟩ := q
    refine ⟨?_, ?_, sbLnR_round c l bs i hI⟩
    · simp_all [RefsOK, sbLnR_S, sbLnR_c, sbLnR_o, sbLnR_Inv, D.refs, Obj.refs, rEnc]
    · simp_all [sbLnR_S, sbLnR_fin, sbLnR_o, sbLnR_Inv, RT.refsOK, RefsOK, D.refs, Obj.refs, rEnc]
  · intro env os b q hd_ hb
    unfold sbLnR_d at hd_
    split at hd_
    · obtain ⟨hs, hd_⟩ := staticD_some hd_
      cases hd_
      simp only [Bool.and_eq_true, decide_eq_true_eq] at hb
      obtain ⟨⟨⟨rfl, rfl⟩, hl⟩, ha⟩ := hb
      exact ⟨⟨Nat.zero_le _, hl.1, hl.2, ha⟩, rfl, rfl⟩
    · cases hd_
/-! ### loop sbQR: flume/flumeref05.StateBytes, region 12 -/
structure sbQR_St where
  p : Int
  ci : Bool
  items : List Item
  k0 : Bool
  k1 : Bool
  k2 : Bool
  l0 : List Line
  l1 : List Line
  l2 : List Line
  c0 : Int
  c1 : Int
  c2 : Int
  bs : List UInt8
  q : Nat
def sbQR_c (p : Int) (ci : Bool) (items : List Item) (k0 : Bool) (k1 : Bool) (k2 : Bool) (l0 : List Line) (l1 : List Line) (l2 : List Line) (c0 : Int) (c1 : Int) (c2 : Int) (bs : List UInt8) (q : Nat) : Env RC := [(1, .ptr 0 []), (4, .vs 1 (bs.length)), (7, .int .i64 (q : Int))]
def sbQR_o (p : Int) (ci : Bool) (items : List Item) (k0 : Bool) (k1 : Bool) (k2 : Bool) (l0 : List Line) (l1 : List Line) (l2 : List Line) (c0 : Int) (c1 : Int) (c2 : Int) (bs : List UInt8) (q : Nat) : List (Obj RC) := [.var 33 (.acons (.int .i64 p) (.acons (.sl (C := RC) .item ci items) (.acons (.acons (.sl (C := RC) .line k0 l0) (.acons (.sl (C := RC) .line k1 l1) (.acons (.sl (C := RC) .line k2 l2) .anil))) (.acons (.arr (C := RC) .int 3 [c0, c1, c2]) .anil)))), .vec (C := RC) .u8 true bs]
noncomputable def sbQR_r (p : Int) (ci : Bool) (items : List Item) (k0 : Bool) (k1 : Bool) (k2 : Bool) (l0 : List Line) (l1 : List Line) (l2 : List Line) (c0 : Int) (c1 : Int) (c2 : Int) (bs : List UInt8) (q : Nat) := rndO s05 uj_2 25 12 60 2 [1, 4, 7] [4] [.slot 1 0, .slot 4 0] (sbQR_c p ci items k0 k1 k2 l0 l1 l2 c0 c1 c2 bs q) (sbQR_o p ci items k0 k1 k2 l0 l1 l2 c0 c1 c2 bs q)
theorem sbQR_eq0 (p : Int) (ci : Bool) (items : List Item) (k0 : Bool) (k1 : Bool) (k2 : Bool) (l0 : List Line) (l1 : List Line) (l2 : List Line) (c0 : Int) (c1 : Int) (c2 : Int) (bs : List UInt8) : sbQR_r p ci items k0 k1 k2 l0 l1 l2 c0 c1 c2 bs 0 = (bif Decidable.decide (c0 ≤ (9223372036854775807 : Int) ∧ (1 : Int) ≤ (3 : Int) ∧ (3 : Int) ≤ (6 : Int)) && Go.Ev.fitsB c0 (3 : Nat) then bif Nat.beq (List.length bs) (List.length bs) then bif Go.Ev.sizeOK ((0 : Nat) + List.length bs) (1 : Nat) then bif Decidable.decide ((0 : Nat) + List.length bs = List.length ([] ++ bs)) && Bool.true && Decidable.decide ((0 : Int) ≤ c0 ∧ c0 ≤ (9223372036854775807 : Int) ∧ (0 : Int) ≤ (3 : Int) ∧ (3 : Int) ≤ (6 : Int) ∧ List.length ([] ++ bs) ≤ (1000000 : Nat)) then bif Go.Ev.lenOK (List.length l0) then bif Nat.beq (List.length ([] ++ bs ++ Go.Ev.leB c0 (3 : Nat))) (List.length ([] ++ bs ++ Go.Ev.leB c0 (3 : Nat))) && Go.Ev.sizeOK (List.length ([] ++ bs ++ Go.Ev.leB c0 (3 : Nat)) + List.length [UInt8.ofNat (Int.toNat (Go.IntKind.wrap Go.IntKind.u8 (↑(List.length l0) : Int)))]) (1 : Nat) then bif Go.Ev.lenOK (List.length l0) then bif Decidable.decide ((0 : Int) < (↑(List.length l0) : Int)) then bif Decidable.decide ((0 : Int) ≤ (0 : Int) ∧ (0 : Int) < (↑(List.length l0) : Int)) then bif Decidable.decide (Go.Ev.Line.offset (List.getD l0 (0 : Nat) (Go.Ev.Line.mk (0 : Int) (0 : Int) (0 : Int) (0 : Int) (0 : Int))) ≤ (9223372036854775807 : Int) ∧ (1 : Int) ≤ (3 : Int) ∧ (3 : Int) ≤ (6 : Int)) && Go.Ev.fitsB (Go.Ev.Line.offset (List.getD l0 (0 : Nat) (Go.Ev.Line.mk (0 : Int) (0 : Int) (0 : Int) (0 : Int) (0 : Int)))) (3 : Nat) then bif Nat.beq (List.length ([] ++ bs ++ Go.Ev.leB c0 (3 : Nat)) + List.length [UInt8.ofNat (Int.toNat (Go.IntKind.wrap Go.IntKind.u8 (↑(List.length l0) : Int)))]) (List.length ([] ++ bs ++ Go.Ev.leB c0 (3 : Nat) ++ [UInt8.ofNat (Int.toNat (Go.IntKind.wrap Go.IntKind.u8 (↑(List.length l0) : Int)))])) then bif Go.Ev.sizeOK ((0 : Nat) + List.length ([] ++ bs ++ Go.Ev.leB c0 (3 : Nat) ++ [UInt8.ofNat (Int.toNat (Go.IntKind.wrap Go.IntKind.u8 (↑(List.length l0) : Int)))])) (1 : Nat) then bif Decidable.decide ((0 : Nat) + List.length ([] ++ bs ++ Go.Ev.leB c0 (3 : Nat) ++ [UInt8.ofNat (Int.toNat (Go.IntKind.wrap Go.IntKind.u8 (↑(List.length l0) : Int)))]) = List.length ([] ++ ([] ++ bs ++ Go.Ev.leB c0 (3 : Nat) ++ [UInt8.ofNat (Int.toNat (Go.IntKind.wrap Go.IntKind.u8 (↑(List.length l0) : Int)))]))) && Bool.true && Decidable.decide ((0 : Int) ≤ Go.Ev.Line.offset (List.getD l0 (0 : Nat) (Go.Ev.Line.mk (0 : Int) (0 : Int) (0 : Int) (0 : Int) (0 : Int))) ∧ Go.Ev.Line.offset (List.getD l0 (0 : Nat) (Go.Ev.Line.mk (0 : Int) (0 : Int) (0 : Int) (0 : Int) (0 : Int))) ≤ (9223372036854775807 : Int) ∧ (0 : Int) ≤ (3 : Int) ∧ (3 : Int) ≤ (6 : Int) ∧ List.length ([] ++ ([] ++ bs ++ Go.Ev.leB c0 (3 : Nat) ++ [UInt8.ofNat (Int.toNat (Go.IntKind.wrap Go.IntKind.u8 (↑(List.length l0) : Int)))])) ≤ (1000000 : Nat)) then bif Decidable.decide (List.length ([] ++ ([] ++ bs ++ Go.Ev.leB c0 (3 : Nat) ++ [UInt8.ofNat (Int.toNat (Go.IntKind.wrap Go.IntKind.u8 (↑(List.length l0) : Int)))]) ++ Go.Ev.leB (Go.Ev.Line.offset (List.getD l0 (0 : Nat) (Go.Ev.Line.mk (0 : Int) (0 : Int) (0 : Int) (0 : Int) (0 : Int)))) (3 : Nat)) = List.length ([] ++ ([] ++ bs ++ Go.Ev.leB c0 (3 : Nat) ++ [UInt8.ofNat (Int.toNat (Go.IntKind.wrap Go.IntKind.u8 (↑(List.length l0) : Int)))]) ++ Go.Ev.leB (Go.Ev.Line.offset (List.getD l0 (0 : Nat) (Go.Ev.Line.mk (0 : Int) (0 : Int) (0 : Int) (0 : Int) (0 : Int)))) (3 : Nat))) && Bool.true && Decidable.decide (List.length l0 ≤ (1000 : Nat) ∧ List.length ([] ++ ([] ++ bs ++ Go.Ev.leB c0 (3 : Nat) ++ [UInt8.ofNat (Int.toNat (Go.IntKind.wrap Go.IntKind.u8 (↑(List.length l0) : Int)))]) ++ Go.Ev.leB (Go.Ev.Line.offset (List.getD l0 (0 : Nat) (Go.Ev.Line.mk (0 : Int) (0 : Int) (0 : Int) (0 : Int) (0 : Int)))) (3 : Nat)) ≤ (900000 : Nat)) && List.all l0 Go.Ev.fitLn then bif Nat.blt (List.length bs) (List.length ([] ++ ([] ++ bs ++ Go.Ev.leB c0 (3 : Nat) ++ [UInt8.ofNat (Int.toNat (Go.IntKind.wrap Go.IntKind.u8 (↑(List.length l0) : Int)))]) ++ Go.Ev.leB (Go.Ev.Line.offset (List.getD l0 (0 : Nat) (Go.Ev.Line.mk (0 : Int) (0 : Int) (0 : Int) (0 : Int) (0 : Int)))) (3 : Nat) ++ List.flatMap Go.Ev.lBytes (List.drop (0 : Nat) l0))) then Option.some ((Go.Ev.X.normal, [((1 : Nat), Go.Ev.D.ptr (0 : Nat) []), ((4 : Nat), Go.Ev.D.vs (1 : Nat) (List.length ([] ++ ([] ++ bs ++ Go.Ev.leB c0 (3 : Nat) ++ [UInt8.ofNat (Int.toNat (Go.IntKind.wrap Go.IntKind.u8 (↑(List.length l0) : Int)))]) ++ Go.Ev.leB (Go.Ev.Line.offset (List.getD l0 (0 : Nat) (Go.Ev.Line.mk (0 : Int) (0 : Int) (0 : Int) (0 : Int) (0 : Int)))) (3 : Nat) ++ List.flatMap Go.Ev.lBytes (List.drop (0 : Nat) l0)))), ((7 : Nat), Go.Ev.D.int Go.IntKind.i64 (1 : Int))]), [Option.some (Go.Ev.Obj.var (33 : Nat) (Go.Ev.D.acons (Go.Ev.D.int Go.IntKind.i64 p) (Go.Ev.D.acons (Go.Ev.D.sl Go.Ev.RTy.item ci items) (Go.Ev.D.acons (Go.Ev.D.acons (Go.Ev.D.sl Go.Ev.RTy.line k0 l0) (Go.Ev.D.acons (Go.Ev.D.sl Go.Ev.RTy.line k1 l1) (Go.Ev.D.acons (Go.Ev.D.sl Go.Ev.RTy.line k2 l2) Go.Ev.D.anil))) (Go.Ev.D.acons (Go.Ev.D.arr Go.Ev.RTy.int (3 : Nat) [c0, c1, c2]) Go.Ev.D.anil))))), Option.some (Go.Ev.Obj.vec Go.Ev.RTy.u8 Bool.true ([] ++ ([] ++ bs ++ Go.Ev.leB c0 (3 : Nat) ++ [UInt8.ofNat (Int.toNat (Go.IntKind.wrap Go.IntKind.u8 (↑(List.length l0) : Int)))]) ++ Go.Ev.leB (Go.Ev.Line.offset (List.getD l0 (0 : Nat) (Go.Ev.Line.mk (0 : Int) (0 : Int) (0 : Int) (0 : Int) (0 : Int)))) (3 : Nat) ++ List.flatMap Go.Ev.lBytes (List.drop (0 : Nat) l0)))]) else Option.none else Option.none else Option.none else Option.none else Option.none else Option.none else Option.none else bif Nat.beq (List.length ([] ++ bs ++ Go.Ev.leB c0 (3 : Nat)) + List.length [UInt8.ofNat (Int.toNat (Go.IntKind.wrap Go.IntKind.u8 (↑(List.length l0) : Int)))]) (List.length ([] ++ bs ++ Go.Ev.leB c0 (3 : Nat) ++ [UInt8.ofNat (Int.toNat (Go.IntKind.wrap Go.IntKind.u8 (↑(List.length l0) : Int)))])) then bif Go.Ev.sizeOK ((0 : Nat) + List.length ([] ++ bs ++ Go.Ev.leB c0 (3 : Nat) ++ [UInt8.ofNat (Int.toNat (Go.IntKind.wrap Go.IntKind.u8 (↑(List.length l0) : Int)))])) (1 : Nat) then bif Decidable.decide ((0 : Nat) + List.length ([] ++ bs ++ Go.Ev.leB c0 (3 : Nat) ++ [UInt8.ofNat (Int.toNat (Go.IntKind.wrap Go.IntKind.u8 (↑(List.length l0) : Int)))]) = List.length ([] ++ ([] ++ bs ++ Go.Ev.leB c0 (3 : Nat) ++ [UInt8.ofNat (Int.toNat (Go.IntKind.wrap Go.IntKind.u8 (↑(List.length l0) : Int)))]))) && Bool.true && Decidable.decide ((0 : Int) ≤ (0 : Int) ∧ (0 : Int) ≤ (9223372036854775807 : Int) ∧ (0 : Int) ≤ (3 : Int) ∧ (3 : Int) ≤ (6 : Int) ∧ List.length ([] ++ ([] ++ bs ++ Go.Ev.leB c0 (3 : Nat) ++ [UInt8.ofNat (Int.toNat (Go.IntKind.wrap Go.IntKind.u8 (↑(List.length l0) : Int)))])) ≤ (1000000 : Nat)) then bif Decidable.decide (List.length ([] ++ ([] ++ bs ++ Go.Ev.leB c0 (3 : Nat) ++ [UInt8.ofNat (Int.toNat (Go.IntKind.wrap Go.IntKind.u8 (↑(List.length l0) : Int)))]) ++ Go.Ev.leB (0 : Int) (3 : Nat)) = List.length ([] ++ ([] ++ bs ++ Go.Ev.leB c0 (3 : Nat) ++ [UInt8.ofNat (Int.toNat (Go.IntKind.wrap Go.IntKind.u8 (↑(List.length l0) : Int)))]) ++ Go.Ev.leB (0 : Int) (3 : Nat))) && Bool.true && Decidable.decide (List.length l0 ≤ (1000 : Nat) ∧ List.length ([] ++ ([] ++ bs ++ Go.Ev.leB c0 (3 : Nat) ++ [UInt8.ofNat (Int.toNat (Go.IntKind.wrap Go.IntKind.u8 (↑(List.length l0) : Int)))]) ++ Go.Ev.leB (0 : Int) (3 : Nat)) ≤ (900000 : Nat)) && List.all l0 Go.Ev.fitLn then bif Nat.blt (List.length bs) (List.length ([] ++ ([] ++ bs ++ Go.Ev.leB c0 (3 : Nat) ++ [UInt8.ofNat (Int.toNat (Go.IntKind.wrap Go.IntKind.u8 (↑(List.length l0) : Int)))]) ++ Go.Ev.leB (0 : Int) (3 : Nat) ++ List.flatMap Go.Ev.lBytes (List.drop (0 : Nat) l0))) then Option.some ((Go.Ev.X.normal, [((1 : Nat), Go.Ev.D.ptr (0 : Nat) []), ((4 : Nat), Go.Ev.D.vs (1 : Nat) (List.length ([] ++ ([] ++ bs ++ Go.Ev.leB c0 (3 : Nat) ++ [UInt8.ofNat (Int.toNat (Go.IntKind.wrap Go.IntKind.u8 (↑(List.length l0) : Int)))]) ++ Go.Ev.leB (0 : Int) (3 : Nat) ++ List.flatMap Go.Ev.lBytes (List.drop (0 : Nat) l0)))), ((7 : Nat), Go.Ev.D.int Go.IntKind.i64 (1 : Int))]), [Option.some (Go.Ev.Obj.var (33 : Nat) (Go.Ev.D.acons (Go.Ev.D.int Go.IntKind.i64 p) (Go.Ev.D.acons (Go.Ev.D.sl Go.Ev.RTy.item ci items) (Go.Ev.D.acons (Go.Ev.D.acons (Go.Ev.D.sl Go.Ev.RTy.line k0 l0) (Go.Ev.D.acons (Go.Ev.D.sl Go.Ev.RTy.line k1 l1) (Go.Ev.D.acons (Go.Ev.D.sl Go.Ev.RTy.line k2 l2) Go.Ev.D.anil))) (Go.Ev.D.acons (Go.Ev.D.arr Go.Ev.RTy.int (3 : Nat) [c0, c1, c2]) Go.Ev.D.anil))))), Option.some (Go.Ev.Obj.vec Go.Ev.RTy.u8 Bool.true ([] ++ ([] ++ bs ++ Go.Ev.leB c0 (3 : Nat) ++ [UInt8.ofNat (Int.toNat (Go.IntKind.wrap Go.IntKind.u8 (↑(List.length l0) : Int)))]) ++ Go.Ev.leB (0 : Int) (3 : Nat) ++ List.flatMap Go.Ev.lBytes (List.drop (0 : Nat) l0)))]) else Option.none else Option.none else Option.none else Option.none else Option.none else Option.none else Option.none else Option.none else Option.none else Option.none else Option.none else Option.none) := by kernel_rfl
theorem sbQR_eq1 (p : Int) (ci : Bool) (items : List Item) (k0 : Bool) (k1 : Bool) (k2 : Bool) (l0 : List Line) (l1 : List Line) (l2 : List Line) (c0 : Int) (c1 : Int) (c2 : Int) (bs : List UInt8) : sbQR_r p ci items k0 k1 k2 l0 l1 l2 c0 c1 c2 bs 1 = (bif Decidable.decide (c1 ≤ (9223372036854775807 : Int) ∧ (1 : Int) ≤ (3 : Int) ∧ (3 : Int) ≤ (6 : Int)) && Go.Ev.fitsB c1 (3 : Nat) then bif Nat.beq (List.length bs) (List.length bs) then bif Go.Ev.sizeOK ((0 : Nat) + List.length bs) (1 : Nat) then bif Decidable.decide ((0 : Nat) + List.length bs = List.length ([] ++ bs)) && Bool.true && Decidable.decide ((0 : Int) ≤ c1 ∧ c1 ≤ (9223372036854775807 : Int) ∧ (0 : Int) ≤ (3 : Int) ∧ (3 : Int) ≤ (6 : Int) ∧ List.length ([] ++ bs) ≤ (1000000 : Nat)) then bif Go.Ev.lenOK (List.length l1) then bif Nat.beq (List.length ([] ++ bs ++ Go.Ev.leB c1 (3 : Nat))) (List.length ([] ++ bs ++ Go.Ev.leB c1 (3 : Nat))) && Go.Ev.sizeOK (List.length ([] ++ bs ++ Go.Ev.leB c1 (3 : Nat)) + List.length [UInt8.ofNat (Int.toNat (Go.IntKind.wrap Go.IntKind.u8 (↑(List.length l1) : Int)))]) (1 : Nat) then bif Go.Ev.lenOK (List.length l1) then bif Decidable.decide ((0 : Int) < (↑(List.length l1) : Int)) then bif Decidable.decide ((0 : Int) ≤ (0 : Int) ∧ (0 : Int) < (↑(List.length l1) : Int)) then bif Decidable.decide (Go.Ev.Line.offset (List.getD l1 (0 : Nat) (Go.Ev.Line.mk (0 : Int) (0 : Int) (0 : Int) (0 : Int) (0 : Int))) ≤ (9223372036854775807 : Int) ∧ (1 : Int) ≤ (3 : Int) ∧ (3 : Int) ≤ (6 : Int)) && Go.Ev.fitsB (Go.Ev.Line.offset (List.getD l1 (0 : Nat) (Go.Ev.Line.mk (0 : Int) (0 : Int) (0 : Int) (0 : Int) (0 : Int)))) (3 : Nat) then bif Nat.beq (List.length ([] ++ bs ++ Go.Ev.leB c1 (3 : Nat)) + List.length [UInt8.ofNat (Int.toNat (Go.IntKind.wrap Go.IntKind.u8 (↑(List.length l1) : Int)))]) (List.length ([] ++ bs ++ Go.Ev.leB c1 (3 : Nat) ++ [UInt8.ofNat (Int.toNat (Go.IntKind.wrap Go.IntKind.u8 (↑(List.length l1) : Int)))])) then bif Go.Ev.sizeOK ((0 : Nat) + List.length ([] ++ bs ++ Go.Ev.leB c1 (3 : Nat) ++ [UInt8.ofNat (Int.toNat (Go.IntKind.wrap Go.IntKind.u8 (↑(List.length l1) : Int)))])) (1 : Nat) then bif Decidable.decide ((0 : Nat) + List.length ([] ++ bs ++ Go.Ev.leB c1 (3 : Nat) ++ [UInt8.ofNat (Int.toNat (Go.IntKind.wrap Go.IntKind.u8 (↑(List.length l1) : Int)))]) = List.length ([] ++ ([] ++ bs ++ Go.Ev.leB c1 (3 : Nat) ++ [UInt8.ofNat (Int.toNat (Go.IntKind.wrap Go.IntKind.u8 (↑(List.length l1) : Int)))]))) && Bool.true && Decidable.decide ((0 : Int) ≤ Go.Ev.Line.offset (List.getD l1 (0 : Nat) (Go.Ev.Line.mk (0 : Int) (0 : Int) (0 : Int) (0 : Int) (0 : Int))) ∧ Go.Ev.Line.offset (List.getD l1 (0 : Nat) (Go.Ev.Line.mk (0 : Int) (0 : Int) (0 : Int) (0 : Int) (0 : Int))) ≤ (9223372036854775807 : Int) ∧ (0 : Int) ≤ (3 : Int) ∧ (3 : Int) ≤ (6 : Int) ∧ List.length ([] ++ ([] ++ bs ++ Go.Ev.leB c1 (3 : Nat) ++ [UInt8.ofNat (Int.toNat (Go.IntKind.wrap Go.IntKind.u8 (↑(List.length l1) : Int)))])) ≤ (1000000 : Nat)) then bif Decidable.decide (List.length ([] ++ ([] ++ bs ++ Go.Ev.leB c1 (3 : Nat) ++ [UInt8.ofNat (Int.toNat (Go.IntKind.wrap Go.IntKind.u8 (↑(List.length l1) : Int)))]) ++ Go.Ev.leB (Go.Ev.Line.offset (List.getD l1 (0 : Nat) (Go.Ev.Line.mk (0 : Int) (0 : Int) (0 : Int) (0 : Int) (0 : Int)))) (3 : Nat)) = List.length ([] ++ ([] ++ bs ++ Go.Ev.leB c1 (3 : Nat) ++ [UInt8.ofNat (Int.toNat (Go.IntKind.wrap Go.IntKind.u8 (↑(List.length l1) : Int)))]) ++ Go.Ev.leB (Go.Ev.Line.offset (List.getD l1 (0 : Nat) (Go.Ev.Line.mk (0 : Int) (0 : Int) (0 : Int) (0 : Int) (0 : Int)))) (3 : Nat))) && Bool.true && Decidable.decide (List.length l1 ≤ (1000 : Nat) ∧ List.length ([] ++ ([] ++ bs ++ Go.Ev.leB c1 (3 : Nat) ++ [UInt8.ofNat (Int.toNat (Go.IntKind.wrap Go.IntKind.u8 (↑(List.length l1) : Int)))]) ++ Go.Ev.leB (Go.Ev.Line.offset (List.getD l1 (0 : Nat) (Go.Ev.Line.mk (0 : Int) (0 : Int) (0 : Int) (0 : Int) (0 : Int)))) (3 : Nat)) ≤ (900000 : Nat)) && List.all l1 Go.Ev.fitLn then bif Nat.blt (List.length bs) (List.length ([] ++ ([] ++ bs ++ Go.Ev.leB c1 (3 : Nat) ++ [UInt8.ofNat (Int.toNat (Go.IntKind.wrap Go.IntKind.u8 (↑(List.length l1) : Int)))]) ++ Go.Ev.leB (Go.Ev.Line.offset (List.getD l1 (0 : Nat) (Go.Ev.Line.mk (0 : Int) (0 : Int) (0 : Int) (0 : Int) (0 : Int)))) (3 : Nat) ++ List.flatMap Go.Ev.lBytes (List.drop (0 : Nat) l1))) then Option.some ((Go.Ev.X.normal, [((1 : Nat), Go.Ev.D.ptr (0 : Nat) []), ((4 : Nat), Go.Ev.D.vs (1 : Nat) (List.length ([] ++ ([] ++ bs ++ Go.Ev.leB c1 (3 : Nat) ++ [UInt8.ofNat (Int.toNat (Go.IntKind.wrap Go.IntKind.u8 (↑(List.length l1) : Int)))]) ++ Go.Ev.leB (Go.Ev.Line.offset (List.getD l1 (0 : Nat) (Go.Ev.Line.mk (0 : Int) (0 : Int) (0 : Int) (0 : Int) (0 : Int)))) (3 : Nat) ++ List.flatMap Go.Ev.lBytes (List.drop (0 : Nat) l1)))), ((7 : Nat), Go.Ev.D.int Go.IntKind.i64 (2 : Int))]), [Option.some (Go.Ev.Obj.var (33 : Nat) (Go.Ev.D.acons (Go.Ev.D.int Go.IntKind.i64 p) (Go.Ev.D.acons (Go.Ev.D.sl Go.Ev.RTy.item ci items) (Go.Ev.D.acons (Go.Ev.D.acons (Go.Ev.D.sl Go.Ev.RTy.line k0 l0) (Go.Ev.D.acons (Go.Ev.D.sl Go.Ev.RTy.line k1 l1) (Go.Ev.D.acons (Go.Ev.D.sl Go.Ev.RTy.line k2 l2) Go.Ev.D.anil))) (Go.Ev.D.acons (Go.Ev.D.arr Go.Ev.RTy.int (3 : Nat) [c0, c1, c2]) Go.Ev.D.anil))))), Option.some (Go.Ev.Obj.vec Go.Ev.RTy.u8 Bool.true ([] ++ ([] ++ bs ++ Go.Ev.leB c1 (3 : Nat) ++ [UInt8.ofNat (Int.toNat (Go.IntKind.wrap Go.IntKind.u8 (↑(List.length l1) : Int)))]) ++ Go.Ev.leB (Go.Ev.Line.offset (List.getD l1 (0 : Nat) (Go.Ev.Line.mk (0 : Int) (0 : Int) (0 : Int) (0 : Int) (0 : Int)))) (3 : Nat) ++ List.flatMap Go.Ev.lBytes (List.drop (0 : Nat) l1)))]) else Option.none else Option.none else Option.none else Option.none else Option.none else Option.none else Option.none else bif Nat.beq (List.length ([] ++ bs ++ Go.Ev.leB c1 (3 : Nat)) + List.length [UInt8.ofNat (Int.toNat (Go.IntKind.wrap Go.IntKind.u8 (↑(List.length l1) : Int)))]) (List.length ([] ++ bs ++ Go.Ev.leB c1 (3 : Nat) ++ [UInt8.ofNat (Int.toNat (Go.IntKind.wrap Go.IntKind.u8 (↑(List.length l1) : Int)))])) then bif Go.Ev.sizeOK ((0 : Nat) + List.length ([] ++ bs ++ Go.Ev.leB c1 (3 : Nat) ++ [UInt8.ofNat (Int.toNat (Go.IntKind.wrap Go.IntKind.u8 (↑(List.length l1) : Int)))])) (1 : Nat) then bif Decidable.decide ((0 : Nat) + List.length ([] ++ bs ++ Go.Ev.leB c1 (3 : Nat) ++ [UInt8.ofNat (Int.toNat (Go.IntKind.wrap Go.IntKind.u8 (↑(List.length l1) : Int)))]) = List.length ([] ++ ([] ++ bs ++ Go.Ev.leB c1 (3 : Nat) ++ [UInt8.ofNat (Int.toNat (Go.IntKind.wrap Go.IntKind.u8 (↑(List.length l1) : Int)))]))) && Bool.true && Decidable.decide ((0 : Int) ≤ (0 : Int) ∧ (0 : Int) ≤ (9223372036854775807 : Int) ∧ (0 : Int) ≤ (3 : Int) ∧ (3 : Int) ≤ (6 : Int) ∧ List.length ([] ++ ([] ++ bs ++ Go.Ev.leB c1 (3 : Nat) ++ [UInt8.ofNat (Int.toNat (Go.IntKind.wrap Go.IntKind.u8 (↑(List.length l1) : Int)))])) ≤ (1000000 : Nat)) then bif Decidable.decide (List.length ([] ++ ([] ++ bs ++ Go.Ev.leB c1 (3 : Nat) ++ [UInt8.ofNat (Int.toNat (Go.IntKind.wrap Go.IntKind.u8 (↑(List.length l1) : Int)))]) ++ Go.Ev.leB (0 : Int) (3 : Nat)) = List.length ([] ++ ([] ++ bs ++ Go.Ev.leB c1 (3 : Nat) ++ [UInt8.ofNat (Int.toNat (Go.IntKind.wrap Go.IntKind.u8 (↑(List.length l1) : Int)))]) ++ Go.Ev.leB (0 : Int) (3 : Nat))) && Bool.true && Decidable.decide (List.length l1 ≤ (1000 : Nat) ∧ List.length ([] ++ ([] ++ bs ++ Go.Ev.leB c1 (3 : Nat) ++ [UInt8.ofNat (Int.toNat (Go.IntKind.wrap Go.IntKind.u8 (↑(List.length l1) : Int)))]) ++ Go.Ev.leB (0 : Int) (3 : Nat)) ≤ (900000 : Nat)) && List.all l1 Go.Ev.fitLn then bif Nat.blt (List.length bs) (List.length ([] ++ ([] ++ bs ++ Go.Ev.leB c1 (3 : Nat) ++ [UInt8.ofNat (Int.toNat (Go.IntKind.wrap Go.IntKind.u8 (↑(List.length l1) : Int)))]) ++ Go.Ev.leB (0 : Int) (3 : Nat) ++ List.flatMap Go.Ev.lBytes (List.drop (0 : Nat) l1))) then Option.some ((Go.Ev.X.normal, [((1 : Nat), Go.Ev.D.ptr (0 : Nat) []), ((4 : Nat), Go.Ev.D.vs (1 : Nat) (List.length ([] ++ ([] ++ bs ++ Go.Ev.leB c1 (3 : Nat) ++ [UInt8.ofNat (Int.toNat (Go.IntKind.wrap Go.IntKind.u8 (↑(List.length l1) : Int)))]) ++ Go.Ev.leB (0 : Int) (3 : Nat) ++ List.flatMap Go.Ev.lBytes (List.drop (0 : Nat) l1)))), ((7 : Nat), Go.Ev.D.int Go.IntKind.i64 (2 : Int))]), [Option.some (Go.Ev.Obj.var (33 : Nat) (Go.Ev.D.acons (Go.Ev.D.int Go.IntKind.i64 p) (Go.Ev.D.acons (Go.Ev.D.sl Go.Ev.RTy.item ci items) (Go.Ev.D.acons (Go.Ev.D.acons (Go.Ev.D.sl Go.Ev.RTy.line k0 l0) (Go.Ev.D.acons (Go.Ev.D.sl Go.Ev.RTy.line k1 l1) (Go.Ev.D.acons (Go.Ev.D.sl Go.Ev.RTy.line k2 l2) Go.Ev.D.anil))) (Go.Ev.D.acons (Go.Ev.D.arr Go.Ev.RTy.int (3 : Nat) [c0, c1, c2]) Go.Ev.D.anil))))), Option.some (Go.Ev.Obj.vec Go.Ev.RTy.u8 Bool.true ([] ++ ([] ++ bs ++ Go.Ev.leB c1 (3 : Nat) ++ [UInt8.ofNat (Int.toNat (Go.IntKind.wrap Go.IntKind.u8 (↑(List.length l1) : Int)))]) ++ Go.Ev.leB (0 : Int) (3 : Nat) ++ List.flatMap Go.Ev.lBytes (List.drop (0 : Nat) l1)))]) else Option.none else Option.none else Option.none else Option.none else Option.none else Option.none else Option.none else Option.none else Option.none else Option.none else Option.none else Option.none) := by kernel_rfl
theorem sbQR_eq2 (p : Int) (ci : Bool) (items : List Item) (k0 : Bool) (k1 : Bool) (k2 : Bool) (l0 : List Line) (l1 : List Line) (l2 : List Line) (c0 : Int) (c1 : Int) (c2 : Int) (bs : List UInt8) : sbQR_r p ci items k0 k1 k2 l0 l1 l2 c0 c1 c2 bs 2 = (bif Decidable.decide (c2 ≤ (9223372036854775807 : Int) ∧ (1 : Int) ≤ (3 : Int) ∧ (3 : Int) ≤ (6 : Int)) && Go.Ev.fitsB c2 (3 : Nat) then bif Nat.beq (List.length bs) (List.length bs) then bif Go.Ev.sizeOK ((0 : Nat) + List.length bs) (1 : Nat) then bif Decidable.decide ((0 : Nat) + List.length bs = List.length ([] ++ bs)) && Bool.true && Decidable.decide ((0 : Int) ≤ c2 ∧ c2 ≤ (9223372036854775807 : Int) ∧ (0 : Int) ≤ (3 : Int) ∧ (3 : Int) ≤ (6 : Int) ∧ List.length ([] ++ bs) ≤ (1000000 : Nat)) then bif Go.Ev.lenOK (List.length l2) then bif Nat.beq (List.length ([] ++ bs ++ Go.Ev.leB c2 (3 : Nat))) (List.length ([] ++ bs ++ Go.Ev.leB c2 (3 : Nat))) && Go.Ev.sizeOK (List.length ([] ++ bs ++ Go.Ev.leB c2 (3 : Nat)) + List.length [UInt8.ofNat (Int.toNat (Go.IntKind.wrap Go.IntKind.u8 (↑(List.length l2) : Int)))]) (1 : Nat) then bif Go.Ev.lenOK (List.length l2) then bif Decidable.decide ((0 : Int) < (↑(List.length l2) : Int)) then bif Decidable.decide ((0 : Int) ≤ (0 : Int) ∧ (0 : Int) < (↑(List.length l2) : Int)) then bif Decidable.decide (Go.Ev.Line.offset (List.getD l2 (0 : Nat) (Go.Ev.Line.mk (0 : Int) (0 : Int) (0 : Int) (0 : Int) (0 : Int))) ≤ (9223372036854775807 : Int) ∧ (1 : Int) ≤ (3 : Int) ∧ (3 : Int) ≤ (6 : Int)) && Go.Ev.fitsB (Go.Ev.Line.offset (List.getD l2 (0 : Nat) (Go.Ev.Line.mk (0 : Int) (0 : Int) (0 : Int) (0 : Int) (0 : Int)))) (3 : Nat) then bif Nat.beq (List.length ([] ++ bs ++ Go.Ev.leB c2 (3 : Nat)) + List.length [UInt8.ofNat (Int.toNat (Go.IntKind.wrap Go.IntKind.u8 (↑(List.length l2) : Int)))]) (List.length ([] ++ bs ++ Go.Ev.leB c2 (3 : Nat) ++ [UInt8.ofNat (Int.toNat (Go.IntKind.wrap Go.IntKind.u8 (↑(List.length l2) : Int)))])) then bif Go.Ev.sizeOK ((0 : Nat) + List.length ([] ++ bs ++ Go.Ev.leB c2 (3 : Nat) ++ [UInt8.ofNat (Int.toNat (Go.IntKind.wrap Go.IntKind.u8 (↑(List.length l2) : Int)))])) (1 : Nat) then bif Decidable.decide ((0 : Nat) + List.length ([] ++ bs ++ Go.Ev.leB c2 (3 : Nat) ++ [UInt8.ofNat (Int.toNat (Go.IntKind.wrap Go.IntKind.u8 (↑(List.length l2) : Int)))]) = List.length ([] ++ ([] ++ bs ++ Go.Ev.leB c2 (3 : Nat) ++ [UInt8.ofNat (Int.toNat (Go.IntKind.wrap Go.IntKind.u8 (↑(List.length l2) : Int)))]))) && Bool.true && Decidable.decide ((0 : Int) ≤ Go.Ev.Line.offset (List.getD l2 (0 : Nat) (Go.Ev.Line.mk (0 : Int) (0 : Int) (0 : Int) (0 : Int) (0 : Int))) ∧ Go.Ev.Line.offset (List.getD l2 (0 : Nat) (Go.Ev.Line.mk (0 : Int) (0 : Int) (0 : Int) (0 : Int) (0 : Int))) ≤ (9223372036854775807 : Int) ∧ (0 : Int) ≤ (3 : Int) ∧ (3 : Int) ≤ (6 : Int) ∧ List.length ([] ++ ([] ++ bs ++ Go.Ev.leB c2 (3 : Nat) ++ [UInt8.ofNat (Int.toNat (Go.IntKind.wrap Go.IntKind.u8 (↑(List.length l2) : Int)))])) ≤ (1000000 : Nat)) then bif Decidable.decide (List.length ([] ++ ([] ++ bs ++ Go.Ev.leB c2 (3 : Nat) ++ [UInt8.ofNat (Int.toNat (Go.IntKind.wrap Go.IntKind.u8 (↑(List.length l2) : Int)))]) ++ Go.Ev.leB (Go.Ev.Line.offset (List.getD l2 (0 : Nat) (Go.Ev.Line.mk (0 : Int) (0 : Int) (0 : Int) (0 : Int) (0 : Int)))) (3 : Nat)) = List.length ([] ++ ([] ++ bs ++ Go.Ev.leB c2 (3 : Nat) ++ [UInt8.ofNat (Int.toNat (Go.IntKind.wrap Go.IntKind.u8 (↑(List.length l2) : Int)))]) ++ Go.Ev.leB (Go.Ev.Line.offset (List.getD l2 (0 : Nat) (Go.Ev.Line.mk (0 : Int) (0 : Int) (0 : Int) (0 : Int) (0 : Int)))) (3 : Nat))) && Bool.true && Decidable.decide (List.length l2 ≤ (1000 : Nat) ∧ List.length ([] ++ ([] ++ bs ++ Go.Ev.leB c2 (3 : Nat) ++ [UInt8.ofNat (Int.toNat (Go.IntKind.wrap Go.IntKind.u8 (↑(List.length l2) : Int)))]) ++ Go.Ev.leB (Go.Ev.Line.offset (List.getD l2 (0 : Nat) (Go.Ev.Line.mk (0 : Int) (0 : Int) (0 : Int) (0 : Int) (0 : Int)))) (3 : Nat)) ≤ (900000 : Nat)) && List.all l2 Go.Ev.fitLn then bif Nat.blt (List.length bs) (List.length ([] ++ ([] ++ bs ++ Go.Ev.leB c2 (3 : Nat) ++ [UInt8.ofNat (Int.toNat (Go.IntKind.wrap Go.IntKind.u8 (↑(List.length l2) : Int)))]) ++ Go.Ev.leB (Go.Ev.Line.offset (List.getD l2 (0 : Nat) (Go.Ev.Line.mk (0 : Int) (0 : Int) (0 : Int) (0 : Int) (0 : Int)))) (3 : Nat) ++ List.flatMap Go.Ev.lBytes (List.drop (0 : Nat) l2))) then Option.some ((Go.Ev.X.normal, [((1 : Nat), Go.Ev.D.ptr (0 : Nat) []), ((4 : Nat), Go.Ev.D.vs (1 : Nat) (List.length ([] ++ ([] ++ bs ++ Go.Ev.leB c2 (3 : Nat) ++ [UInt8.ofNat (Int.toNat (Go.IntKind.wrap Go.IntKind.u8 (↑(List.length l2) : Int)))]) ++ Go.Ev.leB (Go.Ev.Line.offset (List.getD l2 (0 : Nat) (Go.Ev.Line.mk (0 : Int) (0 : Int) (0 : Int) (0 : Int) (0 : Int)))) (3 : Nat) ++ List.flatMap Go.Ev.lBytes (List.drop (0 : Nat) l2)))), ((7 : Nat), Go.Ev.D.int Go.IntKind.i64 (3 : Int))]), [Option.some (Go.Ev.Obj.var (33 : Nat) (Go.Ev.D.acons (Go.Ev.D.int Go.IntKind.i64 p) (Go.Ev.D.acons (Go.Ev.D.sl Go.Ev.RTy.item ci items) (Go.Ev.D.acons (Go.Ev.D.acons (Go.Ev.D.sl Go.Ev.RTy.line k0 l0) (Go.Ev.D.acons (Go.Ev.D.sl Go.Ev.RTy.line k1 l1) (Go.Ev.D.acons (Go.Ev.D.sl Go.Ev.RTy.line k2 l2) Go.Ev.D.anil))) (Go.Ev.D.acons (Go.Ev.D.arr Go.Ev.RTy.int (3 : Nat) [c0, c1, c2]) Go.Ev.D.anil))))), Option.some (Go.Ev.Obj.vec Go.Ev.RTy.u8 Bool.true ([] ++ ([] ++ bs ++ Go.Ev.leB c2 (3 : Nat) ++ [UInt8.ofNat (Int.toNat (Go.IntKind.wrap Go.IntKind.u8 (↑(List.length l2) : Int)))]) ++ Go.Ev.leB (Go.Ev.Line.offset (List.getD l2 (0 : Nat) (Go.Ev.Line.mk (0 : Int) (0 : Int) (0 : Int) (0 : Int) (0 : Int)))) (3 : Nat) ++ List.flatMap Go.Ev.lBytes (List.drop (0 : Nat) l2)))]) else Option.none else Option.none else Option.none else Option.none else Option.none else Option.none else Option.none else bif Nat.beq (List.length ([] ++ bs ++ Go.Ev.leB c2 (3 : Nat)) + List.length [UInt8.ofNat (Int.toNat (Go.IntKind.wrap Go.IntKind.u8 (↑(List.length l2) : Int)))]) (List.length ([] ++ bs ++ Go.Ev.leB c2 (3 : Nat) ++ [UInt8.ofNat (Int.toNat (Go.IntKind.wrap Go.IntKind.u8 (↑(List.length l2) : Int)))])) then bif Go.Ev.sizeOK ((0 : Nat) + List.length ([] ++ bs ++ Go.Ev.leB c2 (3 : Nat) ++ [UInt8.ofNat (Int.toNat (Go.IntKind.wrap Go.IntKind.u8 (↑(List.length l2) : Int)))])) (1 : Nat) then bif Decidable.decide ((0 : Nat) + List.length ([] ++ bs ++ Go.Ev.leB c2 (3 : Nat) ++ [UInt8.ofNat (Int.toNat (Go.IntKind.wrap Go.IntKind.u8 (↑(List.length l2) : Int)))]) = List.length ([] ++ ([] ++ bs ++ Go.Ev.leB c2 (3 : Nat) ++ [UInt8.ofNat (Int.toNat (Go.IntKind.wrap Go.IntKind.u8 (↑(List.length l2) : Int)))]))) && Bool.true && Decidable.decide ((0 : Int) ≤ (0 : Int) ∧ (0 : Int) ≤ (9223372036854775807 : Int) ∧ (0 : Int) ≤ (3 : Int) ∧ (3 : Int) ≤ (6 : Int) ∧ List.length ([] ++ ([] ++ bs ++ Go.Ev.leB c2 (3 : Nat) ++ [UInt8.ofNat (Int.toNat (Go.IntKind.wrap Go.IntKind.u8 (↑(List.length l2) : Int)))])) ≤ (1000000 : Nat)) then bif Decidable.decide (List.length ([] ++ ([] ++ bs ++ Go.Ev.leB c2 (3 : Nat) ++ [UInt8.ofNat (Int.toNat (Go.IntKind.wrap Go.IntKind.u8 (↑(List.length l2) : Int)))]) ++ Go.Ev.leB (0 : Int) (3 : Nat)) = List.length ([] ++ ([] ++ bs ++ Go.Ev.leB c2 (3 : Nat) ++ [UInt8.ofNat (Int.toNat (Go.IntKind.wrap Go.IntKind.u8 (↑(List.length l2) : Int)))]) ++ Go.Ev.leB (0 : Int) (3 : Nat))) && Bool.true && Decidable.decide (List.length l2 ≤ (1000 : Nat) ∧ List.length ([] ++ ([] ++ bs ++ Go.Ev.leB c2 (3 : Nat) ++ [UInt8.ofNat (Int.toNat (Go.IntKind.wrap Go.IntKind.u8 (↑(List.length l2) : Int)))]) ++ Go.Ev.leB (0 : Int) (3 : Nat)) ≤ (900000 : Nat)) && List.all l2 Go.Ev.fitLn then bif Nat.blt (List.length bs) (List.length ([] ++ ([] ++ bs ++ Go.Ev.leB c2 (3 : Nat) ++ [UInt8.ofNat (Int.toNat (Go.IntKind.wrap Go.IntKind.u8 (↑(List.length l2) : Int)))]) ++ Go.Ev.leB (0 : Int) (3 : Nat) ++ List.flatMap Go.Ev.lBytes (List.drop (0 : Nat) l2))) then Option.some ((Go.Ev.X.normal, [((1 : Nat), Go.Ev.D.ptr (0 : Nat) []), ((4 : Nat), Go.Ev.D.vs (1 : Nat) (List.length ([] ++ ([] ++ bs ++ Go.Ev.leB c2 (3 : Nat) ++ [UInt8.ofNat (Int.toNat (Go.IntKind.wrap Go.IntKind.u8 (↑(List.length l2) : Int)))]) ++ Go.Ev.leB (0 : Int) (3 : Nat) ++ List.flatMap Go.Ev.lBytes (List.drop (0 : Nat) l2)))), ((7 : Nat), Go.Ev.D.int Go.IntKind.i64 (3 : Int))]), [Option.some (Go.Ev.Obj.var (33 : Nat) (Go.Ev.D.acons (Go.Ev.D.int Go.IntKind.i64 p) (Go.Ev.D.acons (Go.Ev.D.sl Go.Ev.RTy.item ci items) (Go.Ev.D.acons (Go.Ev.D.acons (Go.Ev.D.sl Go.Ev.RTy.line k0 l0) (Go.Ev.D.acons (Go.Ev.D.sl Go.Ev.RTy.line k1 l1) (Go.Ev.D.acons (Go.Ev.D.sl Go.Ev.RTy.line k2 l2) Go.Ev.D.anil))) (Go.Ev.D.acons (Go.Ev.D.arr Go.Ev.RTy.int (3 : Nat) [c0, c1, c2]) Go.Ev.D.anil))))), Option.some (Go.Ev.Obj.vec Go.Ev.RTy.u8 Bool.true ([] ++ ([] ++ bs ++ Go.Ev.leB c2 (3 : Nat) ++ [UInt8.ofNat (Int.toNat (Go.IntKind.wrap Go.IntKind.u8 (↑(List.length l2) : Int)))]) ++ Go.Ev.leB (0 : Int) (3 : Nat) ++ List.flatMap Go.Ev.lBytes (List.drop (0 : Nat) l2)))]) else Option.none else Option.none else Option.none else Option.none else Option.none else Option.none else Option.none else Option.none else Option.none else Option.none else Option.none else Option.none) := by kernel_rfl
theorem sbQR_eq3 (p : Int) (ci : Bool) (items : List Item) (k0 : Bool) (k1 : Bool) (k2 : Bool) (l0 : List Line) (l1 : List Line) (l2 : List Line) (c0 : Int) (c1 : Int) (c2 : Int) (bs : List UInt8) : sbQR_r p ci items k0 k1 k2 l0 l1 l2 c0 c1 c2 bs 3 = (Option.some ((Go.Ev.X.exit (2 : Nat), [((4 : Nat), Go.Ev.D.vs (1 : Nat) (List.length bs))]), [Option.some (Go.Ev.Obj.var (33 : Nat) (Go.Ev.D.acons (Go.Ev.D.int Go.IntKind.i64 p) (Go.Ev.D.acons (Go.Ev.D.sl Go.Ev.RTy.item ci items) (Go.Ev.D.acons (Go.Ev.D.acons (Go.Ev.D.sl Go.Ev.RTy.line k0 l0) (Go.Ev.D.acons (Go.Ev.D.sl Go.Ev.RTy.line k1 l1) (Go.Ev.D.acons (Go.Ev.D.sl Go.Ev.RTy.line k2 l2) Go.Ev.D.anil))) (Go.Ev.D.acons (Go.Ev.D.arr Go.Ev.RTy.int (3 : Nat) [c0, c1, c2]) Go.Ev.D.anil))))), Option.some (Go.Ev.Obj.vec Go.Ev.RTy.u8 Bool.true bs)])) := by kernel_rfl
def sbQR_fin (p : Int) (ci : Bool) (items : List Item) (k0 : Bool) (k1 : Bool) (k2 : Bool) (l0 : List Line) (l1 : List Line) (l2 : List Line) (c0 : Int) (c1 : Int) (c2 : Int) (bs : List UInt8) (q : Nat) : RT RC := .leaf (.exit 2) [(4, .vs 1 (bs ++ partsFrom ⟨p, items, l0, l1, l2, c0, c1, c2⟩ q).length)] [.var 33 (.acons (.int .i64 p) (.acons (.sl (C := RC) .item ci items) (.acons (.acons (.sl (C := RC) .line k0 l0) (.acons (.sl (C := RC) .line k1 l1) (.acons (.sl (C := RC) .line k2 l2) .anil))) (.acons (.arr (C := RC) .int 3 [c0, c1, c2]) .anil)))), .vec (C := RC) .u8 true (bs ++ partsFrom ⟨p, items, l0, l1, l2, c0, c1, c2⟩ q)]
def sbQR_Inv (p : Int) (ci : Bool) (items : List Item) (k0 : Bool) (k1 : Bool) (k2 : Bool) (l0 : List Line) (l1 : List Line) (l2 : List Line) (c0 : Int) (c1 : Int) (c2 : Int) (bs : List UInt8) (q : Nat) : Prop := q ≤ 3 ∧ bs.length ≤ 10000 + 100 * q ∧ partFit c0 l0 = true ∧ partFit c1 l1 = true ∧ partFit c2 l2 = true
def sbQR_S : LoopR RC sbQR_St where
  k := 2
  canon q := sbQR_c q.p q.ci q.items q.k0 q.k1 q.k2 q.l0 q.l1 q.l2 q.c0 q.c1 q.c2 q.bs q.q
  objs q := sbQR_o q.p q.ci q.items q.k0 q.k1 q.k2 q.l0 q.l1 q.l2 q.c0 q.c1 q.c2 q.bs q.q
  fin q := sbQR_fin q.p q.ci q.items q.k0 q.k1 q.k2 q.l0 q.l1 q.l2 q.c0 q.c1 q.c2 q.bs q.q
  Inv q := sbQR_Inv q.p q.ci q.items q.k0 q.k1 q.k2 q.l0 q.l1 q.l2 q.c0 q.c1 q.c2 q.bs q.q
  μ q := 3 - q.q
theorem sbQR_round (p : Int) (ci : Bool) (items : List Item) (k0 : Bool) (k1 : Bool) (k2 : Bool) (l0 : List Line) (l1 : List Line) (l2 : List Line) (c0 : Int) (c1 : Int) (c2 : Int) (bs : List UInt8) (q : Nat) (hI : sbQR_Inv p ci items k0 k1 k2 l0 l1 l2 c0 c1 c2 bs q) : Leaf (sbQR_r p ci items k0 k1 k2 l0 l1 l2 c0 c1 c2 bs q) (LedR sbQR_S ⟨p, ci, items, k0, k1, k2, l0, l1, l2, c0, c1, c2, bs, q⟩) := by
  unfold sbQR_Inv at hI
  obtain ⟨h1, h2, f0, f1, f2⟩ := hI
  have nblt : ∀ {a b : Nat}, a < b → Nat.blt a b = true := fun h => by simpa [Nat.blt_eq] using h
  have eb : ∀ n : Nat, n.beq n = true := fun n => by simp
  have t3 : (3 : Int).toNat - 0 = 3 := rfl
  by_cases h3 : q = 3
  · subst h3
    rw [sbQR_eq3]
    exact leafR_exit (sbQR_o p ci items k0 k1 k2 l0 l1 l2 c0 c1 c2 bs 3) (by simp only [sbQR_S, sbQR_fin, sbQR_o, partsFrom, RT.val, List.append_nil]) rfl
  by_cases e0 : q = 0
  · subst e0
    rw [sbQR_eq0]
    obtain ⟨hc, hl, hfit, ho⟩ := partFit_iff.1 f0
    have hlk : lenOK l0.length = true := lenOK_of (by omega)
    have fc : fitsB c0 3 = true := fits3 (by rw [withinB_iff]; omega)
    have hb : UInt8.ofNat (IntKind.u8.wrap (l0.length : Int)).toNat = byteOf l0.length := rfl
    have sl := flatMap_len l0 lBytes 5 lBytes_len
    unfold firstOff at ho
    have fo : fitsB (l0.getD 0 ⟨0, 0, 0, 0, 0⟩).offset 3 = true := fits3 (by rw [withinB_iff]; omega)
    simp only [hlk, fc, fo, hb, hfit, t3, List.length_append, List.length_cons, List.length_nil, leB_length, sl, eb, Nat.zero_add, List.nil_append, Bool.and_self, Bool.and_true, cond_true, List.drop_zero]
    by_cases hp : 0 < l0.length
    · simp (disch := omega) only [decide_eq_true, sizeT, nblt, cond_true, Bool.and_self]
      refine leafR_go ⟨p, ci, items, k0, k1, k2, l0, l1, l2, c0, c1, c2, bs ++ partBytes c0 l0, 1⟩ (by refine ⟨by simp, ?_, f0, f1, f2⟩; simp [partBytes, leB_length, sl]; omega) (by simp only [sbQR_S]; omega) ?_ (by simp [sbQR_S, sbQR_c, partBytes, leB_length, sl, leB1, firstOff]; omega) (by simp [sbQR_S, sbQR_o, partBytes, leB1, firstOff])
      simp only [sbQR_S, sbQR_fin, partsFrom, List.append_assoc, List.append_nil]
    · have e : l0 = [] := by cases hq : l0 with
        | nil => rfl
        | cons _ _ => rw [hq] at hp; simp at hp
      simp (disch := omega) only [decide_eq_true, decide_eq_false, sizeT, nblt, cond_true, cond_false, Bool.and_self]
      refine leafR_go ⟨p, ci, items, k0, k1, k2, l0, l1, l2, c0, c1, c2, bs ++ partBytes c0 l0, 1⟩ (by refine ⟨by simp, ?_, f0, f1, f2⟩; simp [partBytes, leB_length, sl]; omega) (by simp only [sbQR_S]; omega) ?_ (by simp [sbQR_S, sbQR_c, partBytes, leB_length, sl, leB1, firstOff, e]) (by simp [sbQR_S, sbQR_o, partBytes, leB1, firstOff, e])
      simp only [sbQR_S, sbQR_fin, partsFrom, List.append_assoc, List.append_nil]
  by_cases e1 : q = 1
  · subst e1
    rw [sbQR_eq1]
    obtain ⟨hc, hl, hfit, ho⟩ := partFit_iff.1 f1
    have hlk : lenOK l1.length = true := lenOK_of (by omega)
    have fc : fitsB c1 3 = true := fits3 (by rw [withinB_iff]; omega)
    have hb : UInt8.ofNat (IntKind.u8.wrap (l1.length : Int)).toNat = byteOf l1.length := rfl
    have sl := flatMap_len l1 lBytes 5 lBytes_len
    unfold firstOff at ho
    have fo : fitsB (l1.getD 0 ⟨0, 0, 0, 0, 0⟩).offset 3 = true := fits3 (by rw [withinB_iff]; omega)
    simp only [hlk, fc, fo, hb, hfit, t3, List.length_append, List.length_cons, List.length_nil, leB_length, sl, eb, Nat.zero_add, List.nil_append, Bool.and_self, Bool.and_true, cond_true, List.drop_zero]
    by_cases hp : 0 < l1.length
    · simp (disch := omega) only [decide_eq_true, sizeT, nblt, cond_true, Bool.and_self]
      refine leafR_go ⟨p, ci, items, k0, k1, k2, l0, l1, l2, c0, c1, c2, bs ++ partBytes c1 l1, 2⟩ (by refine ⟨by simp, ?_, f0, f1, f2⟩; simp [partBytes, leB_length, sl]; omega) (by simp only [sbQR_S]; omega) ?_ (by simp [sbQR_S, sbQR_c, partBytes, leB_length, sl, leB1, firstOff]; omega) (by simp [sbQR_S, sbQR_o, partBytes, leB1, firstOff])
      simp only [sbQR_S, sbQR_fin, partsFrom, List.append_assoc, List.append_nil]
    · have e : l1 = [] := by cases hq : l1 with
        | nil => rfl
        | cons _ _ => rw [hq] at hp; simp at hp
      simp (disch := omega) only [decide_eq_true, decide_eq_false, sizeT, nblt, cond_true, cond_false, Bool.and_self]
      refine leafR_go ⟨p, ci, items, k0, k1, k2, l0, l1, l2, c0, c1, c2, bs ++ partBytes c1 l1, 2⟩ (by refine ⟨by simp, ?_, f0, f1, f2⟩; simp [partBytes, leB_length, sl]; omega) (by simp only [sbQR_S]; omega) ?_ (by simp [sbQR_S, sbQR_c, partBytes, leB_length, sl, leB1, firstOff, e]) (by simp [sbQR_S, sbQR_o, partBytes, leB1, firstOff, e])
      simp only [sbQR_S, sbQR_fin, partsFrom, List.append_assoc, List.append_nil]
  by_cases e2 : q = 2
  · subst e2
    rw [sbQR_eq2]
    obtain ⟨hc, hl, hfit, ho⟩ := partFit_iff.1 f2
    have hlk : lenOK l2.length = true := lenOK_of (by omega)
    have fc : fitsB c2 3 = true := fits3 (by rw [withinB_iff]; omega)
    have hb : UInt8.ofNat (IntKind.u8.wrap (l2.length : Int)).toNat = byteOf l2.length := rfl
    have sl := flatMap_len l2 lBytes 5 lBytes_len
    unfold firstOff at ho
    have fo : fitsB (l2.getD 0 ⟨0, 0, 0, 0, 0⟩).offset 3 = true := fits3 (by rw [withinB_iff]; omega)
    simp only [hlk, fc, fo, hb, hfit, t3, List.length_append, List.length_cons, List.length_nil, leB_length, sl, eb, Nat.zero_add, List.nil_append, Bool.and_self, Bool.and_true, cond_true, List.drop_zero]
    by_cases hp : 0 < l2.length
    · simp (disch := omega) only [decide_eq_true, sizeT, nblt, cond_true, Bool.and_self]
      refine leafR_go ⟨p, ci, items, k0, k1, k2, l0, l1, l2, c0, c1, c2, bs ++ partBytes c2 l2, 3⟩ (by refine ⟨by simp, ?_, f0, f1, f2⟩; simp [partBytes, leB_length, sl]; omega) (by simp only [sbQR_S]; omega) ?_ (by simp [sbQR_S, sbQR_c, partBytes, leB_length, sl, leB1, firstOff]; omega) (by simp [sbQR_S, sbQR_o, partBytes, leB1, firstOff])
      simp only [sbQR_S, sbQR_fin, partsFrom, List.append_assoc, List.append_nil]
    · have e : l2 = [] := by cases hq : l2 with
        | nil => rfl
        | cons _ _ => rw [hq] at hp; simp at hp
      simp (disch := omega) only [decide_eq_true, decide_eq_false, sizeT, nblt, cond_true, cond_false, Bool.and_self]
      refine leafR_go ⟨p, ci, items, k0, k1, k2, l0, l1, l2, c0, c1, c2, bs ++ partBytes c2 l2, 3⟩ (by refine ⟨by simp, ?_, f0, f1, f2⟩; simp [partBytes, leB_length, sl]; omega) (by simp only [sbQR_S]; omega) ?_ (by simp [sbQR_S, sbQR_c, partBytes, leB_length, sl, leB1, firstOff, e]) (by simp [sbQR_S, sbQR_o, partBytes, leB1, firstOff, e])
      simp only [sbQR_S, sbQR_fin, partsFrom, List.append_assoc, List.append_nil]
  omega
def sbQR_d (env : Env RC) (os : List (Obj RC)) : Option (Bool × sbQR_St) := match env, os with
  | [(1, .ptr 0 []), (4, .vs 1 x0), (7, .int .i64 x1)], [.var 33 (.acons (.int .i64 p) (.acons (.sl .item ci items) (.acons (.acons (.sl .line k0 l0) (.acons (.sl .line k1 l1) (.acons (.sl .line k2 l2) .anil))) (.acons (.arr .int 3 [c0, c1, c2]) .anil)))), .vec .u8 true bs] => staticD (true) (decide (x0 = bs.length) && decide (x1 = 0) && decide (bs.length ≤ 10000) && (partFit c0 l0 && partFit c1 l1 && partFit c2 l2), ⟨p, ci, items, k0, k1, k2, l0, l1, l2, c0, c1, c2, bs, 0⟩)
  | _, _ => none
noncomputable def uj_3 := uj_2.addLoop 25 12 (sumR s05 [.slot 1 0, .slot 4 0] [1, 4, 7] sbQR_S sbQR_d)
theorem uj_3_laws : FLaws Try.prog s05 uj_3 := by
  refine uj_2_laws.addRoundsR s05_laws (by kernel_rfl) sbQR_S 60 [1, 4, 7] [4] [.slot 1 0, .slot 4 0] [1, 4, 7] sbQR_d (fun q hI => ?_) ?_
  · obtain ⟨p, ci, items, k0, k1, k2, l0, l1, l2, c0, c1, c2, bs, q⟩ := q
    refine ⟨?_, ?_, sbQR_round p ci items k0 k1 k2 l0 l1 l2 c0 c1 c2 bs q hI⟩
    · simp_all [RefsOK, sbQR_S, sbQR_c, sbQR_o, sbQR_Inv, D.refs, Obj.refs, rEnc]
    · simp_all [sbQR_S, sbQR_fin, sbQR_o, sbQR_Inv, RT.refsOK, RefsOK, D.refs, Obj.refs, rEnc]
  · intro env os b q hd_ hb
    unfold sbQR_d at hd_
    split at hd_
    · obtain ⟨hs, hd_⟩ := staticD_some hd_
      cases hd_
      simp only [Bool.and_eq_true, decide_eq_true_eq] at hb
      obtain ⟨⟨⟨rfl, rfl⟩, hl⟩, ha⟩ := hb
      exact ⟨⟨Nat.zero_le _, hl, ha.1.1, ha.1.2, ha.2⟩, rfl, rfl⟩
    · cases hd_
/-! ### function stateBytesRf: flume/flumeref05.StateBytes -/
def stateBytesRf_s (p : Int) (ci : Bool) (items : List Item) (k0 : Bool) (k1 : Bool) (k2 : Bool) (l0 : List Line) (l1 : List Line) (l2 : List Line) (c0 : Int) (c1 : Int) (c2 : Int) : Option (Bool × D RC) := some (decide (items.length ≤ 9223372036854775807 ∧ l0.length ≤ 9223372036854775807 ∧ l1.length ≤ 9223372036854775807 ∧ l2.length ≤ 9223372036854775807), .tup (.acons (.sl (C := RC) .u8 (!standsOK ⟨p, items, l0, l1, l2, c0, c1, c2⟩) (bif standsOK ⟨p, items, l0, l1, l2, c0, c1, c2⟩ then stBytes ⟨p, items, l0, l1, l2, c0, c1, c2⟩ else [])) (.acons (.int .i64 (bif standsOK ⟨p, items, l0, l1, l2, c0, c1, c2⟩ then 0 else 2)) .anil)))
def stateBytesRf_sp : List (D RC) → Option (Bool × D RC)
  | [.acons (.int .i64 p) (.acons (.sl .item ci items) (.acons (.acons (.sl .line k0 l0) (.acons (.sl .line k1 l1) (.acons (.sl .line k2 l2) .anil))) (.acons (.arr .int 3 [c0, c1, c2]) .anil)))] => stateBytesRf_s p ci items k0 k1 k2 l0 l1 l2 c0 c1 c2
  | _ => none
noncomputable def stateBytesRf_e (p : Int) (ci : Bool) (items : List Item) (k0 : Bool) (k1 : Bool) (k2 : Bool) (l0 : List Line) (l1 : List Line) (l2 : List Line) (c0 : Int) (c1 : Int) (c2 : Int) := evF s05 uj_3 40 25 [.acons (.int .i64 p) (.acons (.sl (C := RC) .item ci items) (.acons (.acons (.sl (C := RC) .line k0 l0) (.acons (.sl (C := RC) .line k1 l1) (.acons (.sl (C := RC) .line k2 l2) .anil))) (.acons (.arr (C := RC) .int 3 [c0, c1, c2]) .anil)))]
theorem stateBytesRf_eq (p : Int) (ci : Bool) (items : List Item) (k0 : Bool) (k1 : Bool) (k2 : Bool) (l0 : List Line) (l1 : List Line) (l2 : List Line) (c0 : Int) (c1 : Int) (c2 : Int) : stateBytesRf_e p ci items k0 k1 k2 l0 l1 l2 c0 c1 c2 = (bif Decidable.decide (List.length items ≤ (9223372036854775807 : Nat) ∧ List.length l0 ≤ (9223372036854775807 : Nat) ∧ List.length l1 ≤ (9223372036854775807 : Nat) ∧ List.length l2 ≤ (9223372036854775807 : Nat)) then bif !Go.Ev.standsOK (Go.Ev.St.mk p items l0 l1 l2 c0 c1 c2) then Option.some (Go.Ev.D.tup (Go.Ev.D.acons (Go.Ev.D.sl Go.Ev.RTy.u8 Bool.true []) (Go.Ev.D.acons (Go.Ev.D.int Go.IntKind.i64 (2 : Int)) Go.Ev.D.anil))) else bif Decidable.decide (p ≤ (9223372036854775807 : Int) ∧ (1 : Int) ≤ (3 : Int) ∧ (3 : Int) ≤ (6 : Int)) && Go.Ev.fitsB p (3 : Nat) then bif Decidable.decide ((0 : Int) ≤ p ∧ p ≤ (9223372036854775807 : Int) ∧ (0 : Int) ≤ (3 : Int) ∧ (3 : Int) ≤ (6 : Int) ∧ (0 : Nat) ≤ (1000000 : Nat)) then bif Go.Ev.lenOK (List.length items) then bif Decidable.decide (List.length ([] ++ [] ++ Go.Ev.leB p (3 : Nat)) + List.length [UInt8.ofNat (Int.toNat (Go.IntKind.wrap Go.IntKind.u8 (↑(List.length items) : Int)))] = List.length ([] ++ [] ++ Go.Ev.leB p (3 : Nat) ++ [UInt8.ofNat (Int.toNat (Go.IntKind.wrap Go.IntKind.u8 (↑(List.length items) : Int)))])) && Bool.true && Decidable.decide (List.length items ≤ (1000 : Nat) ∧ List.length ([] ++ [] ++ Go.Ev.leB p (3 : Nat) ++ [UInt8.ofNat (Int.toNat (Go.IntKind.wrap Go.IntKind.u8 (↑(List.length items) : Int)))]) ≤ (900000 : Nat)) && List.all items Go.Ev.fitI then bif Decidable.decide (List.length ([] ++ [] ++ Go.Ev.leB p (3 : Nat) ++ [UInt8.ofNat (Int.toNat (Go.IntKind.wrap Go.IntKind.u8 (↑(List.length items) : Int)))] ++ List.flatMap Go.Ev.iBytes (List.drop (0 : Nat) items)) = List.length ([] ++ [] ++ Go.Ev.leB p (3 : Nat) ++ [UInt8.ofNat (Int.toNat (Go.IntKind.wrap Go.IntKind.u8 (↑(List.length items) : Int)))] ++ List.flatMap Go.Ev.iBytes (List.drop (0 : Nat) items))) && Bool.true && Decidable.decide (List.length ([] ++ [] ++ Go.Ev.leB p (3 : Nat) ++ [UInt8.ofNat (Int.toNat (Go.IntKind.wrap Go.IntKind.u8 (↑(List.length items) : Int)))] ++ List.flatMap Go.Ev.iBytes (List.drop (0 : Nat) items)) ≤ (10000 : Nat)) && (Go.Ev.partFit c0 l0 && Go.Ev.partFit c1 l1 && Go.Ev.partFit c2 l2) then bif Nat.beq (List.length ([] ++ [] ++ Go.Ev.leB p (3 : Nat) ++ [UInt8.ofNat (Int.toNat (Go.IntKind.wrap Go.IntKind.u8 (↑(List.length items) : Int)))] ++ List.flatMap Go.Ev.iBytes (List.drop (0 : Nat) items) ++ Go.Ev.partsFrom (Go.Ev.St.mk p items l0 l1 l2 c0 c1 c2) (0 : Nat))) (List.length ([] ++ [] ++ Go.Ev.leB p (3 : Nat) ++ [UInt8.ofNat (Int.toNat (Go.IntKind.wrap Go.IntKind.u8 (↑(List.length items) : Int)))] ++ List.flatMap Go.Ev.iBytes (List.drop (0 : Nat) items) ++ Go.Ev.partsFrom (Go.Ev.St.mk p items l0 l1 l2 c0 c1 c2) (0 : Nat))) then Option.some (Go.Ev.D.tup (Go.Ev.D.acons (Go.Ev.D.sl Go.Ev.RTy.u8 Bool.false ([] ++ [] ++ Go.Ev.leB p (3 : Nat) ++ [UInt8.ofNat (Int.toNat (Go.IntKind.wrap Go.IntKind.u8 (↑(List.length items) : Int)))] ++ List.flatMap Go.Ev.iBytes (List.drop (0 : Nat) items) ++ Go.Ev.partsFrom (Go.Ev.St.mk p items l0 l1 l2 c0 c1 c2) (0 : Nat))) (Go.Ev.D.acons (Go.Ev.D.int Go.IntKind.i64 (0 : Int)) Go.Ev.D.anil))) else Option.none else Option.none else Option.none else Option.none else Option.none else Option.none else Option.none) := by kernel_rfl
theorem stateBytesRf_ok (p : Int) (ci : Bool) (items : List Item) (k0 : Bool) (k1 : Bool) (k2 : Bool) (l0 : List Line) (l1 : List Line) (l2 : List Line) (c0 : Int) (c1 : Int) (c2 : Int) (h : (decide (items.length ≤ 9223372036854775807 ∧ l0.length ≤ 9223372036854775807 ∧ l1.length ≤ 9223372036854775807 ∧ l2.length ≤ 9223372036854775807)) = true) : stateBytesRf_e p ci items k0 k1 k2 l0 l1 l2 c0 c1 c2 = some (.tup (.acons (.sl (C := RC) .u8 (!standsOK ⟨p, items, l0, l1, l2, c0, c1, c2⟩) (bif standsOK ⟨p, items, l0, l1, l2, c0, c1, c2⟩ then stBytes ⟨p, items, l0, l1, l2, c0, c1, c2⟩ else [])) (.acons (.int .i64 (bif standsOK ⟨p, items, l0, l1, l2, c0, c1, c2⟩ then 0 else 2)) .anil))) := by
  rw [stateBytesRf_eq]
  obtain ⟨h, h0, h1, h2⟩ := of_decide_eq_true h
  rw [decide_eq_true (show (items.length ≤ 9223372036854775807 ∧ l0.length ≤ 9223372036854775807 ∧ l1.length ≤ 9223372036854775807 ∧ l2.length ≤ 9223372036854775807) from ⟨h, h0, h1, h2⟩)]
  cases hm : standsOK ⟨p, items, l0, l1, l2, c0, c1, c2⟩
  · rfl
  · obtain ⟨hp, hil, hif, q0, q1, q2⟩ := stands_facts hm
    have fp : fitsB p 3 = true := fits3 (by rw [withinB_iff]; omega)
    have b := lenOK_of h
    have hb : UInt8.ofNat (IntKind.u8.wrap (items.length : Int)).toNat = byteOf items.length := rfl
    have sI := flatMap_len items iBytes 5 iBytes_len
    have eb : ∀ n : Nat, n.beq n = true := fun n => by simp
    have t3 : (3 : Int).toNat - 0 = 3 := rfl
    simp only [fp, b, hb, hif, partFit_iff.2 q0, partFit_iff.2 q1, partFit_iff.2 q2, t3, List.length_append, List.length_cons, List.length_nil, leB_length, sI, eb, Nat.zero_add, List.nil_append, Bool.and_self, Bool.and_true, Bool.not_true, cond_true, cond_false, List.drop_zero]
    simp (disch := omega) only [decide_eq_true, sizeT, cond_true, Bool.and_self]
    simp [stBytes, leB1, partsFrom]
noncomputable def uj_4 := uj_3.addSpec 25 stateBytesRf_sp
theorem uj_4_laws : FLaws Try.prog s05 uj_4 := uj_3_laws.addEv s05_laws fun args d h => by
  unfold stateBytesRf_sp at h
  split at h
  · unfold stateBytesRf_s at h
    have h1 := congrArg Prod.fst (Option.some.inj h)
    obtain rfl : _ = d := congrArg Prod.snd (Option.some.inj h)
    exact ⟨by simp [D.refs], 40, stateBytesRf_ok _ _ _ _ _ _ _ _ _ _ _ _ h1⟩
  · cases h

end Go.Ev


/-
  Records and states: what bytes are.
-/
namespace Go.Ev
set_option linter.unusedVariables false
set_option linter.unusedSimpArgs false
/-! ### reading -/
structure Rd where
  c : Bool
  b : List UInt8
  bad : Bool
def rget (w : Nat) (r : Rd) : Int × Rd := if w ≤ r.b.length then ((leVal (r.b.take w) : Int), ⟨r.c, r.b.drop w, r.bad⟩) else (0, ⟨true, [], true⟩)
def rWrites : Nat → Rd → Rd × List Write
  | 0, r => (r, [])
  | n + 1, r =>
    let k := rget 1 r
    let v := rget 1 k.2
    let q := rWrites n v.2
    (q.1, ⟨k.1, v.1⟩ :: q.2)
theorem rget_ok {w : Nat} {c bad : Bool} {b : List UInt8} (h : w ≤ b.length) : rget w ⟨c, b, bad⟩ = ((leVal (b.take w) : Int), ⟨c, b.drop w, bad⟩) := by simp [rget, h]
theorem rget_no {w : Nat} {c bad : Bool} {b : List UInt8} (h : b.length < w) : rget w ⟨c, b, bad⟩ = (0, ⟨true, [], true⟩) := by simp [rget, Nat.not_le.2 h]
theorem getP_snd1 (b : List UInt8) : ((getP b 0 1).2 != 0) = decide (b.length < 1) := by
  by_cases h : b.length < 1
  · have : ¬ ((1 : Int) ≤ b.length) := by omega
    simp only [getP, h]; simp [this]
  · have : ((1 : Int) ≤ b.length) := by omega
    simp only [getP, h]; simp [this]
theorem getP_snd3 (b : List UInt8) : ((getP b 0 3).2 != 0) = decide (b.length < 3) := by
  by_cases h : b.length < 3
  · have : ¬ ((3 : Int) ≤ b.length) := by omega
    simp only [getP, h]; simp [this]
  · have : ((3 : Int) ≤ b.length) := by omega
    simp only [getP, h]; simp [this]
theorem getP_fst1 {b : List UInt8} (h : ¬ b.length < 1) : (getP b 0 1).1 = (leVal (b.take 1) : Int) := by
  have : ((1 : Int) ≤ b.length) := by omega
  simp only [getP]; simp [this]
theorem getP_fst3 {b : List UInt8} (h : ¬ b.length < 3) : (getP b 0 3).1 = (leVal (b.take 3) : Int) := by
  have : ((3 : Int) ≤ b.length) := by omega
  simp only [getP]; simp [this]
def rItems : Nat → Rd → Rd × List Item
  | 0, r => (r, [])
  | n + 1, r =>
    let k := rget 1 r
    let p := rget 3 k.2
    let v := rget 1 p.2
    let q := rItems n v.2
    (q.1, ⟨k.1, p.1, v.1⟩ :: q.2)
def rLines : Nat → Int → Rd → Rd × List Line
  | 0, _, r => (r, [])
  | n + 1, o, r =>
    let p := rget 3 r
    let x := rget 1 p.2
    let v := rget 1 x.2
    let q := rLines n (o + 1) v.2
    (q.1, ⟨o, p.1, x.1 % 16, x.1 / 16, v.1⟩ :: q.2)
theorem leVal_take1 {b : List UInt8} (h : 1 ≤ b.length) : leVal (b.take 1) = (b.getD 0 0).toNat := by
  cases b with
  | nil => simp at h
  | cons x t => simp [leVal]
def pairsN : Nat → List UInt8 → List Write
  | 0, _ => []
  | n + 1, b => ⟨(b.getD 0 0).toNat, (b.getD 1 0).toNat⟩ :: pairsN n (b.drop 2)
theorem rWrites_ok : ∀ (n : Nat) (c : Bool) (b : List UInt8) (bad : Bool), 2 * n ≤ b.length → rWrites n ⟨c, b, bad⟩ = (⟨c, b.drop (2 * n), bad⟩, pairsN n b)
  | 0, c, b, bad, _ => by simp [rWrites, pairsN]
  | n + 1, c, b, bad, h => by
    have h1 : 1 ≤ b.length := by omega
    have h2 : 1 ≤ (b.drop 1).length := by simp; omega
    have h3 := rWrites_ok n c ((b.drop 1).drop 1) bad (by simp; omega)
    have e : (b.drop 1).getD 0 0 = b.getD 1 0 := by simp [List.getElem?_drop]
    have e2 : ((b.drop 1).drop 1).drop (2 * n) = b.drop (2 * (n + 1)) := by rw [List.drop_drop, List.drop_drop]; congr 1; omega
    have e3 : (b.drop 1).drop 1 = b.drop 2 := by rw [List.drop_drop]
    simp only [rWrites, rget_ok h1, rget_ok h2, h3, leVal_take1 h1, leVal_take1 h2, e, pairsN, e2]
    rw [e3]
theorem rget_bad {w : Nat} {r : Rd} (h : r.bad = true) : (rget w r).2.bad = true := by
  unfold rget; split <;> simp [h]
theorem rWrites_bad : ∀ (n : Nat) (r : Rd), r.bad = true → (rWrites n r).1.bad = true
  | 0, r, h => h
  | n + 1, r, h => rWrites_bad n _ (rget_bad (rget_bad h))
theorem rWrites_short : ∀ (n : Nat) (c : Bool) (b : List UInt8) (bad : Bool), b.length < 2 * n → (rWrites n ⟨c, b, bad⟩).1.bad = true
  | 0, c, b, bad, h => by omega
  | n + 1, c, b, bad, h => by
    simp only [rWrites]
    by_cases h1 : b.length < 1
    · rw [rget_no h1]; exact rWrites_bad n _ (rget_bad rfl)
    · rw [rget_ok (show 1 ≤ b.length by omega)]
      by_cases h2 : (b.drop 1).length < 1
      · simp only [rget_no h2]; exact rWrites_bad n _ rfl
      · simp only [rget_ok (show 1 ≤ (b.drop 1).length by omega)]
        exact rWrites_short n _ _ _ (by simp at h2 ⊢; omega)
theorem pairsN_len : ∀ (n : Nat) (b : List UInt8), (pairsN n b).length = n
  | 0, _ => rfl
  | n + 1, b => by simp [pairsN, pairsN_len n]
/-- what bytes are, as a record -/
def readR (b : List UInt8) : Option Rec :=
  if 5 ≤ b.length ∧ (b.getD 3 0).toNat ≤ 1 ∧ b.length = 5 + 2 * (b.getD 4 0).toNat ∧ mayB ⟨leVal (b.take 3), (b.getD 3 0).toNat == 1, pairsN (b.getD 4 0).toNat (b.drop 5)⟩ = true then
    some ⟨leVal (b.take 3), (b.getD 3 0).toNat == 1, pairsN (b.getD 4 0).toNat (b.drop 5)⟩ else none
def recG (o : Option Rec) : Rec := o.getD ⟨0, false, []⟩
theorem cond_both {α : Type} {c : Bool} {x y z : α} (h1 : c = true → x = z) (h2 : c = false → y = z) : cond c x y = z := by cases c; exact h2 rfl; exact h1 rfl
end Go.Ev

namespace Go.Ev
open Go.Proofs
set_option maxRecDepth 100000
set_option linter.unusedVariables false
set_option linter.unusedSimpArgs false
/-! ## package record: what bytes are -/
/-! ### loop readW: flume/record.Read, region 6 -/
structure readW_St where
  c : Bool
  b : List UInt8
  bad : Bool
  pl : Int
  y : Bool
  ws : List Write
  n : Int
  i : Nat
def readW_c (c : Bool) (b : List UInt8) (bad : Bool) (pl : Int) (y : Bool) (ws : List Write) (n : Int) (i : Nat) : Env RC := [(4, .ptr 0 []), (5, .ptr 1 []), (20, .int .i64 n), (21, .int .i64 (i : Int))]
def readW_o (c : Bool) (b : List UInt8) (bad : Bool) (pl : Int) (y : Bool) (ws : List Write) (n : Int) (i : Nat) : List (Obj RC) := [.var 74 (.acons (.sl (C := RC) .u8 c b) (.acons (.bool bad) .anil)), .var 27 (.acons (.int .i64 pl) (.acons (.bool y) (.acons (.vs 2 (ws.length)) .anil))), .vec (C := RC) .write true ws]
noncomputable def readW_r (c : Bool) (b : List UInt8) (bad : Bool) (pl : Int) (y : Bool) (ws : List Write) (n : Int) (i : Nat) := rndO s05 uj_4 17 6 40 3 [4, 5, 20, 21] [] [.slot 4 0, .slot 5 0, .path 1 [2]] (readW_c c b bad pl y ws n i) (readW_o c b bad pl y ws n i)
theorem readW_eq (c : Bool) (b : List UInt8) (bad : Bool) (pl : Int) (y : Bool) (ws : List Write) (n : Int) (i : Nat) : readW_r c b bad pl y ws n i = (bif Decidable.decide ((↑i : Int) < n) then bif Decidable.decide (List.length b ≤ (1000000000000 : Nat)) then bif Prod.snd (Go.Ev.getP b (0 : Int) (1 : Int)) != (0 : Int) then bif Nat.beq (List.length ws) (List.length ws) && Go.Ev.sizeOK (List.length ws + (1 : Nat)) (16 : Nat) then Option.some ((Go.Ev.X.normal, [((4 : Nat), Go.Ev.D.ptr (0 : Nat) []), ((5 : Nat), Go.Ev.D.ptr (1 : Nat) []), ((20 : Nat), Go.Ev.D.int Go.IntKind.i64 n), ((21 : Nat), Go.Ev.D.int Go.IntKind.i64 (Go.IntKind.wrap Go.IntKind.i64 ((↑i : Int) + (1 : Int))))]), [Option.some (Go.Ev.Obj.var (74 : Nat) (Go.Ev.D.acons (Go.Ev.D.sl Go.Ev.RTy.u8 Bool.true []) (Go.Ev.D.acons (Go.Ev.D.bool Bool.true) Go.Ev.D.anil))), Option.some (Go.Ev.Obj.var (27 : Nat) (Go.Ev.D.acons (Go.Ev.D.int Go.IntKind.i64 pl) (Go.Ev.D.acons (Go.Ev.D.bool y) (Go.Ev.D.acons (Go.Ev.D.vs (2 : Nat) (List.length ws + (1 : Nat))) Go.Ev.D.anil)))), Option.some (Go.Ev.Obj.vec Go.Ev.RTy.write Bool.true (ws ++ [Go.Ev.Write.mk (0 : Int) (0 : Int)]))]) else Option.none else bif Decidable.decide ((0 : Int) ≤ (1 : Int) ∧ (1 : Int) ≤ (↑(List.length b) : Int)) then bif Decidable.decide (List.length (List.drop (1 : Nat) b) ≤ (1000000000000 : Nat)) then bif Prod.snd (Go.Ev.getP (List.drop (1 : Nat) b) (0 : Int) (1 : Int)) != (0 : Int) then bif Nat.beq (List.length ws) (List.length ws) && Go.Ev.sizeOK (List.length ws + List.length [Go.Ev.Write.mk (Prod.fst (Go.Ev.getP b (0 : Int) (1 : Int))) (0 : Int)]) (16 : Nat) then Option.some ((Go.Ev.X.normal, [((4 : Nat), Go.Ev.D.ptr (0 : Nat) []), ((5 : Nat), Go.Ev.D.ptr (1 : Nat) []), ((20 : Nat), Go.Ev.D.int Go.IntKind.i64 n), ((21 : Nat), Go.Ev.D.int Go.IntKind.i64 (Go.IntKind.wrap Go.IntKind.i64 ((↑i : Int) + (1 : Int))))]), [Option.some (Go.Ev.Obj.var (74 : Nat) (Go.Ev.D.acons (Go.Ev.D.sl Go.Ev.RTy.u8 Bool.true []) (Go.Ev.D.acons (Go.Ev.D.bool Bool.true) Go.Ev.D.anil))), Option.some (Go.Ev.Obj.var (27 : Nat) (Go.Ev.D.acons (Go.Ev.D.int Go.IntKind.i64 pl) (Go.Ev.D.acons (Go.Ev.D.bool y) (Go.Ev.D.acons (Go.Ev.D.vs (2 : Nat) (List.length ws + List.length [Go.Ev.Write.mk (Prod.fst (Go.Ev.getP b (0 : Int) (1 : Int))) (0 : Int)])) Go.Ev.D.anil)))), Option.some (Go.Ev.Obj.vec Go.Ev.RTy.write Bool.true (ws ++ [Go.Ev.Write.mk (Prod.fst (Go.Ev.getP b (0 : Int) (1 : Int))) (0 : Int)]))]) else Option.none else bif Decidable.decide ((0 : Int) ≤ (1 : Int) ∧ (1 : Int) ≤ (↑(List.length (List.drop (1 : Nat) b)) : Int)) then bif Nat.beq (List.length ws) (List.length ws) && Go.Ev.sizeOK (List.length ws + List.length [Go.Ev.Write.mk (Prod.fst (Go.Ev.getP b (0 : Int) (1 : Int))) (Prod.fst (Go.Ev.getP (List.drop (1 : Nat) b) (0 : Int) (1 : Int)))]) (16 : Nat) then Option.some ((Go.Ev.X.normal, [((4 : Nat), Go.Ev.D.ptr (0 : Nat) []), ((5 : Nat), Go.Ev.D.ptr (1 : Nat) []), ((20 : Nat), Go.Ev.D.int Go.IntKind.i64 n), ((21 : Nat), Go.Ev.D.int Go.IntKind.i64 (Go.IntKind.wrap Go.IntKind.i64 ((↑i : Int) + (1 : Int))))]), [Option.some (Go.Ev.Obj.var (74 : Nat) (Go.Ev.D.acons (Go.Ev.D.sl Go.Ev.RTy.u8 c (List.drop (1 : Nat) (List.drop (1 : Nat) b))) (Go.Ev.D.acons (Go.Ev.D.bool bad) Go.Ev.D.anil))), Option.some (Go.Ev.Obj.var (27 : Nat) (Go.Ev.D.acons (Go.Ev.D.int Go.IntKind.i64 pl) (Go.Ev.D.acons (Go.Ev.D.bool y) (Go.Ev.D.acons (Go.Ev.D.vs (2 : Nat) (List.length ws + List.length [Go.Ev.Write.mk (Prod.fst (Go.Ev.getP b (0 : Int) (1 : Int))) (Prod.fst (Go.Ev.getP (List.drop (1 : Nat) b) (0 : Int) (1 : Int)))])) Go.Ev.D.anil)))), Option.some (Go.Ev.Obj.vec Go.Ev.RTy.write Bool.true (ws ++ [Go.Ev.Write.mk (Prod.fst (Go.Ev.getP b (0 : Int) (1 : Int))) (Prod.fst (Go.Ev.getP (List.drop (1 : Nat) b) (0 : Int) (1 : Int)))]))]) else Option.none else Option.none else Option.none else Option.none else Option.none else Option.some ((Go.Ev.X.exit (0 : Nat), []), [Option.some (Go.Ev.Obj.var (74 : Nat) (Go.Ev.D.acons (Go.Ev.D.sl Go.Ev.RTy.u8 c b) (Go.Ev.D.acons (Go.Ev.D.bool bad) Go.Ev.D.anil))), Option.some (Go.Ev.Obj.var (27 : Nat) (Go.Ev.D.acons (Go.Ev.D.int Go.IntKind.i64 pl) (Go.Ev.D.acons (Go.Ev.D.bool y) (Go.Ev.D.acons (Go.Ev.D.vs (2 : Nat) (List.length ws)) Go.Ev.D.anil)))), Option.some (Go.Ev.Obj.vec Go.Ev.RTy.write Bool.true ws)])) := by kernel_rfl
def readW_fin (c : Bool) (b : List UInt8) (bad : Bool) (pl : Int) (y : Bool) (ws : List Write) (n : Int) (i : Nat) : RT RC := .leaf (.exit 0) [] [.var 74 (.acons (.sl (C := RC) .u8 (rWrites (n.toNat - i) ⟨c, b, bad⟩).1.c (rWrites (n.toNat - i) ⟨c, b, bad⟩).1.b) (.acons (.bool (rWrites (n.toNat - i) ⟨c, b, bad⟩).1.bad) .anil)), .var 27 (.acons (.int .i64 pl) (.acons (.bool y) (.acons (.vs 2 (ws ++ (rWrites (n.toNat - i) ⟨c, b, bad⟩).2).length) .anil))), .vec (C := RC) .write true (ws ++ (rWrites (n.toNat - i) ⟨c, b, bad⟩).2)]
def readW_Inv (c : Bool) (b : List UInt8) (bad : Bool) (pl : Int) (y : Bool) (ws : List Write) (n : Int) (i : Nat) : Prop := (i : Int) ≤ n ∧ n ≤ 255 ∧ b.length ≤ 1000000 ∧ ws.length ≤ i
def readW_S : LoopR RC readW_St where
  k := 3
  canon q := readW_c q.c q.b q.bad q.pl q.y q.ws q.n q.i
  objs q := readW_o q.c q.b q.bad q.pl q.y q.ws q.n q.i
  fin q := readW_fin q.c q.b q.bad q.pl q.y q.ws q.n q.i
  Inv q := readW_Inv q.c q.b q.bad q.pl q.y q.ws q.n q.i
  μ q := q.n.toNat - q.i
theorem readW_round (c : Bool) (b : List UInt8) (bad : Bool) (pl : Int) (y : Bool) (ws : List Write) (n : Int) (i : Nat) (hI : readW_Inv c b bad pl y ws n i) : Leaf (readW_r c b bad pl y ws n i) (LedR readW_S ⟨c, b, bad, pl, y, ws, n, i⟩) := by
  rw [readW_eq]
  unfold readW_Inv at hI
  obtain ⟨h1, h2, h3, h4⟩ := hI
  have tk : ∀ l : List UInt8, List.take (Int.toNat (l.length : Int)) l = l := fun l => by simp
  have eb : ∀ n : Nat, n.beq n = true := fun n => by simp
  have r0 : rget 1 ⟨true, [], true⟩ = (0, ⟨true, [], true⟩) := rfl
  by_cases hlt : (i : Int) < n
  · have w_succ : IntKind.i64.wrap ((i : Int) + 1) = ((i + 1 : Nat) : Int) := by rw [wrap_id (by omega) (by omega)]; simp
    have hn : n.toNat - i = (n.toNat - (i + 1)) + 1 := by omega
    have s1 : sizeOK (ws.length + 1) 16 = true := sizeT (by omega)
    have e0 : decide (b.length ≤ 1000000000000) = true := decide_eq_true (by omega)
    simp only [hlt, decide_true, cond_true, e0, getP_snd1, show Int.toNat 1 = 1 from rfl, w_succ, List.length_cons, List.length_nil, Nat.zero_add, s1, eb, Bool.and_self]
    by_cases b1 : b.length < 1
    · have r1 : rget 1 ⟨c, b, bad⟩ = _ := rget_no b1
      simp only [b1, decide_true, cond_true]
      refine leafR_go ⟨true, [], true, pl, y, ws ++ [⟨0, 0⟩], n, i + 1⟩ (by refine ⟨hlt, h2, by simp, ?_⟩; simp; omega) (by simp only [readW_S]; omega) ?_ (by simp [readW_S, readW_c]) (by simp [readW_S, readW_o])
      simp only [readW_S, readW_fin, hn, rWrites, r1, r0, List.append_assoc, List.cons_append, List.nil_append]
    · have r1 : rget 1 ⟨c, b, bad⟩ = _ := rget_ok (show 1 ≤ b.length by omega)
      have d1 : decide ((0 : Int) ≤ 1 ∧ (1 : Int) ≤ b.length) = true := by simp; omega
      have e1 : decide ((b.drop 1).length ≤ 1000000000000) = true := decide_eq_true (by simp; omega)
      simp only [b1, decide_false, cond_false, d1, cond_true, e1, getP_fst1 b1]
      by_cases b2 : (b.drop 1).length < 1
      · have r2 : rget 1 ⟨c, b.drop 1, bad⟩ = _ := rget_no b2
        simp only [b2, decide_true, cond_true]
        refine leafR_go ⟨true, [], true, pl, y, ws ++ [⟨leVal (b.take 1), 0⟩], n, i + 1⟩ (by refine ⟨hlt, h2, by simp, ?_⟩; simp; omega) (by simp only [readW_S]; omega) ?_ (by simp [readW_S, readW_c]) (by simp [readW_S, readW_o])
        simp only [readW_S, readW_fin, hn, rWrites, r1, r2, List.append_assoc, List.cons_append, List.nil_append]
      · have r2 : rget 1 ⟨c, b.drop 1, bad⟩ = _ := rget_ok (show 1 ≤ (b.drop 1).length by omega)
        have d2 : decide ((0 : Int) ≤ 1 ∧ (1 : Int) ≤ (b.drop 1).length) = true := by simp only [decide_eq_true_eq]; omega
        simp only [b2, decide_false, cond_false, d2, cond_true, getP_fst1 b2]
        refine leafR_go ⟨c, (b.drop 1).drop 1, bad, pl, y, ws ++ [⟨leVal (b.take 1), leVal ((b.drop 1).take 1)⟩], n, i + 1⟩ (by refine ⟨hlt, h2, ?_, ?_⟩ <;> simp <;> omega) (by simp only [readW_S]; omega) ?_ (by simp [readW_S, readW_c]) (by simp [readW_S, readW_o])
        simp only [readW_S, readW_fin, hn, rWrites, r1, r2, List.append_assoc, List.cons_append, List.nil_append]
  · have hi : n.toNat - i = 0 := by omega
    simp only [hlt, decide_false, cond_false]
    exact leafR_exit (readW_o c b bad pl y ws n i) (by simp only [readW_S, readW_fin, readW_o, hi, rWrites, RT.val, List.append_nil]) rfl
def readW_d (env : Env RC) (os : List (Obj RC)) : Option (Bool × readW_St) := match env, os with
  | [(4, .ptr 0 []), (5, .ptr 1 []), (20, .int .i64 n), (21, .int .i64 x0)], [.var 74 (.acons (.sl .u8 c b) (.acons (.bool bad) .anil)), .var 27 (.acons (.int .i64 pl) (.acons (.bool y) (.acons (.vs 2 x1) .anil))), .vec .write true ws] => staticD (true) (decide (x0 = 0) && decide (x1 = ws.length) && decide (0 ≤ n ∧ n ≤ 255 ∧ b.length ≤ 1000000 ∧ ws.length = 0), ⟨c, b, bad, pl, y, ws, n, 0⟩)
  | _, _ => none
noncomputable def uk_1 := uj_4.addLoop 17 6 (sumR s05 [.slot 4 0, .slot 5 0, .path 1 [2]] [4, 5, 20, 21] readW_S readW_d)
theorem uk_1_laws : FLaws Try.prog s05 uk_1 := by
  refine uj_4_laws.addRoundsR s05_laws (by kernel_rfl) readW_S 40 [4, 5, 20, 21] [] [.slot 4 0, .slot 5 0, .path 1 [2]] [4, 5, 20, 21] readW_d (fun q hI => ?_) ?_
  · obtain ⟨c, b, bad, pl, y, ws, n, i⟩ := q
    refine ⟨?_, ?_, readW_round c b bad pl y ws n i hI⟩
    · simp_all [RefsOK, readW_S, readW_c, readW_o, readW_Inv, D.refs, Obj.refs, rEnc]
    · simp_all [readW_S, readW_fin, readW_o, readW_Inv, RT.refsOK, RefsOK, D.refs, Obj.refs, rEnc]
  · intro env os b q hd_ hb
    unfold readW_d at hd_
    split at hd_
    · obtain ⟨hs, hd_⟩ := staticD_some hd_
      cases hd_
      simp only [Bool.and_eq_true, decide_eq_true_eq] at hb
      obtain ⟨⟨rfl, rfl⟩, h⟩ := hb
      exact ⟨⟨by simpa using h.1, h.2.1, h.2.2.1, by simp [h.2.2.2]⟩, rfl, rfl⟩
    · cases hd_
/-! ### function readP: flume/record.Read -/
def readP_s (c : Bool) (b : List UInt8) : Option (Bool × D RC) := some (decide (b.length ≤ 1000000), .tup (.acons (.acons (.int .i64 (recG (readR b)).place) (.acons (.bool (recG (readR b)).yes) (.acons (.sl (C := RC) .write (readR b).isNone (recG (readR b)).writes) .anil))) (.acons (.int .i64 (bif (readR b).isNone then 50 else 0)) .anil)))
def readP_sp : List (D RC) → Option (Bool × D RC)
  | [.sl .u8 c b] => readP_s c b
  | _ => none
noncomputable def readP_e (c : Bool) (b : List UInt8) := evF s05 uk_1 40 17 [.sl (C := RC) .u8 c b]
theorem readP_eq (c : Bool) (b : List UInt8) : readP_e c b = (bif Decidable.decide (List.length b ≤ (1000000000000 : Nat)) then bif Prod.snd (Go.Ev.getP b (0 : Int) (3 : Int)) != (0 : Int) then Option.some (Go.Ev.D.tup (Go.Ev.D.acons (Go.Ev.D.acons (Go.Ev.D.int Go.IntKind.i64 (0 : Int)) (Go.Ev.D.acons (Go.Ev.D.bool Bool.false) (Go.Ev.D.acons (Go.Ev.D.sl Go.Ev.RTy.write Bool.true []) Go.Ev.D.anil))) (Go.Ev.D.acons (Go.Ev.D.int Go.IntKind.i64 (50 : Int)) Go.Ev.D.anil))) else bif Decidable.decide ((0 : Int) ≤ (3 : Int) ∧ (3 : Int) ≤ (↑(List.length b) : Int)) then bif Decidable.decide (List.length (List.drop (3 : Nat) b) ≤ (1000000000000 : Nat)) then bif Prod.snd (Go.Ev.getP (List.drop (3 : Nat) b) (0 : Int) (1 : Int)) != (0 : Int) then Option.some (Go.Ev.D.tup (Go.Ev.D.acons (Go.Ev.D.acons (Go.Ev.D.int Go.IntKind.i64 (0 : Int)) (Go.Ev.D.acons (Go.Ev.D.bool Bool.false) (Go.Ev.D.acons (Go.Ev.D.sl Go.Ev.RTy.write Bool.true []) Go.Ev.D.anil))) (Go.Ev.D.acons (Go.Ev.D.int Go.IntKind.i64 (50 : Int)) Go.Ev.D.anil))) else bif Decidable.decide ((0 : Int) ≤ (1 : Int) ∧ (1 : Int) ≤ (↑(List.length (List.drop (3 : Nat) b)) : Int)) then bif Decidable.decide (List.length (List.drop (1 : Nat) (List.drop (3 : Nat) b)) ≤ (1000000000000 : Nat)) then bif Prod.snd (Go.Ev.getP (List.drop (1 : Nat) (List.drop (3 : Nat) b)) (0 : Int) (1 : Int)) != (0 : Int) then Option.some (Go.Ev.D.tup (Go.Ev.D.acons (Go.Ev.D.acons (Go.Ev.D.int Go.IntKind.i64 (0 : Int)) (Go.Ev.D.acons (Go.Ev.D.bool Bool.false) (Go.Ev.D.acons (Go.Ev.D.sl Go.Ev.RTy.write Bool.true []) Go.Ev.D.anil))) (Go.Ev.D.acons (Go.Ev.D.int Go.IntKind.i64 (50 : Int)) Go.Ev.D.anil))) else bif Decidable.decide ((0 : Int) ≤ (1 : Int) ∧ (1 : Int) ≤ (↑(List.length (List.drop (1 : Nat) (List.drop (3 : Nat) b))) : Int)) then bif Decidable.decide ((0 : Int) ≤ Prod.fst (Go.Ev.getP (List.drop (1 : Nat) (List.drop (3 : Nat) b)) (0 : Int) (1 : Int)) ∧ Prod.fst (Go.Ev.getP (List.drop (1 : Nat) (List.drop (3 : Nat) b)) (0 : Int) (1 : Int)) ≤ (255 : Int) ∧ List.length (List.drop (1 : Nat) (List.drop (1 : Nat) (List.drop (3 : Nat) b))) ≤ (1000000 : Nat) ∧ (0 : Nat) = (0 : Nat)) then bif !Go.Ev.Rd.bad (Prod.fst (Go.Ev.rWrites (Int.toNat (Prod.fst (Go.Ev.getP (List.drop (1 : Nat) (List.drop (3 : Nat) b)) (0 : Int) (1 : Int))) - (0 : Nat)) (Go.Ev.Rd.mk c (List.drop (1 : Nat) (List.drop (1 : Nat) (List.drop (3 : Nat) b))) Bool.false))) then bif Go.Ev.lenOK (List.length (Go.Ev.Rd.b (Prod.fst (Go.Ev.rWrites (Int.toNat (Prod.fst (Go.Ev.getP (List.drop (1 : Nat) (List.drop (3 : Nat) b)) (0 : Int) (1 : Int))) - (0 : Nat)) (Go.Ev.Rd.mk c (List.drop (1 : Nat) (List.drop (1 : Nat) (List.drop (3 : Nat) b))) Bool.false))))) then bif !(↑(List.length (Go.Ev.Rd.b (Prod.fst (Go.Ev.rWrites (Int.toNat (Prod.fst (Go.Ev.getP (List.drop (1 : Nat) (List.drop (3 : Nat) b)) (0 : Int) (1 : Int))) - (0 : Nat)) (Go.Ev.Rd.mk c (List.drop (1 : Nat) (List.drop (1 : Nat) (List.drop (3 : Nat) b))) Bool.false))))) : Int) == (0 : Int) then Option.some (Go.Ev.D.tup (Go.Ev.D.acons (Go.Ev.D.acons (Go.Ev.D.int Go.IntKind.i64 (0 : Int)) (Go.Ev.D.acons (Go.Ev.D.bool Bool.false) (Go.Ev.D.acons (Go.Ev.D.sl Go.Ev.RTy.write Bool.true []) Go.Ev.D.anil))) (Go.Ev.D.acons (Go.Ev.D.int Go.IntKind.i64 (50 : Int)) Go.Ev.D.anil))) else bif Decidable.decide ((1 : Int) < Prod.fst (Go.Ev.getP (List.drop (3 : Nat) b) (0 : Int) (1 : Int))) then Option.some (Go.Ev.D.tup (Go.Ev.D.acons (Go.Ev.D.acons (Go.Ev.D.int Go.IntKind.i64 (0 : Int)) (Go.Ev.D.acons (Go.Ev.D.bool Bool.false) (Go.Ev.D.acons (Go.Ev.D.sl Go.Ev.RTy.write Bool.true []) Go.Ev.D.anil))) (Go.Ev.D.acons (Go.Ev.D.int Go.IntKind.i64 (50 : Int)) Go.Ev.D.anil))) else bif Nat.beq (List.length ([] ++ Prod.snd (Go.Ev.rWrites (Int.toNat (Prod.fst (Go.Ev.getP (List.drop (1 : Nat) (List.drop (3 : Nat) b)) (0 : Int) (1 : Int))) - (0 : Nat)) (Go.Ev.Rd.mk c (List.drop (1 : Nat) (List.drop (1 : Nat) (List.drop (3 : Nat) b))) Bool.false)))) (List.length ([] ++ Prod.snd (Go.Ev.rWrites (Int.toNat (Prod.fst (Go.Ev.getP (List.drop (1 : Nat) (List.drop (3 : Nat) b)) (0 : Int) (1 : Int))) - (0 : Nat)) (Go.Ev.Rd.mk c (List.drop (1 : Nat) (List.drop (1 : Nat) (List.drop (3 : Nat) b))) Bool.false)))) then bif Go.Ev.lenOK (List.length ([] ++ Prod.snd (Go.Ev.rWrites (Int.toNat (Prod.fst (Go.Ev.getP (List.drop (1 : Nat) (List.drop (3 : Nat) b)) (0 : Int) (1 : Int))) - (0 : Nat)) (Go.Ev.Rd.mk c (List.drop (1 : Nat) (List.drop (1 : Nat) (List.drop (3 : Nat) b))) Bool.false)))) then bif !Go.Ev.mayB (Go.Ev.Rec.mk (Prod.fst (Go.Ev.getP b (0 : Int) (3 : Int))) (Prod.fst (Go.Ev.getP (List.drop (3 : Nat) b) (0 : Int) (1 : Int)) == (1 : Int)) ([] ++ Prod.snd (Go.Ev.rWrites (Int.toNat (Prod.fst (Go.Ev.getP (List.drop (1 : Nat) (List.drop (3 : Nat) b)) (0 : Int) (1 : Int))) - (0 : Nat)) (Go.Ev.Rd.mk c (List.drop (1 : Nat) (List.drop (1 : Nat) (List.drop (3 : Nat) b))) Bool.false)))) then Option.some (Go.Ev.D.tup (Go.Ev.D.acons (Go.Ev.D.acons (Go.Ev.D.int Go.IntKind.i64 (0 : Int)) (Go.Ev.D.acons (Go.Ev.D.bool Bool.false) (Go.Ev.D.acons (Go.Ev.D.sl Go.Ev.RTy.write Bool.true []) Go.Ev.D.anil))) (Go.Ev.D.acons (Go.Ev.D.int Go.IntKind.i64 (50 : Int)) Go.Ev.D.anil))) else Option.some (Go.Ev.D.tup (Go.Ev.D.acons (Go.Ev.D.acons (Go.Ev.D.int Go.IntKind.i64 (Prod.fst (Go.Ev.getP b (0 : Int) (3 : Int)))) (Go.Ev.D.acons (Go.Ev.D.bool (Prod.fst (Go.Ev.getP (List.drop (3 : Nat) b) (0 : Int) (1 : Int)) == (1 : Int))) (Go.Ev.D.acons (Go.Ev.D.sl Go.Ev.RTy.write Bool.false ([] ++ Prod.snd (Go.Ev.rWrites (Int.toNat (Prod.fst (Go.Ev.getP (List.drop (1 : Nat) (List.drop (3 : Nat) b)) (0 : Int) (1 : Int))) - (0 : Nat)) (Go.Ev.Rd.mk c (List.drop (1 : Nat) (List.drop (1 : Nat) (List.drop (3 : Nat) b))) Bool.false)))) Go.Ev.D.anil))) (Go.Ev.D.acons (Go.Ev.D.int Go.IntKind.i64 (0 : Int)) Go.Ev.D.anil))) else Option.none else Option.none else Option.none else Option.some (Go.Ev.D.tup (Go.Ev.D.acons (Go.Ev.D.acons (Go.Ev.D.int Go.IntKind.i64 (0 : Int)) (Go.Ev.D.acons (Go.Ev.D.bool Bool.false) (Go.Ev.D.acons (Go.Ev.D.sl Go.Ev.RTy.write Bool.true []) Go.Ev.D.anil))) (Go.Ev.D.acons (Go.Ev.D.int Go.IntKind.i64 (50 : Int)) Go.Ev.D.anil))) else Option.none else Option.none else Option.none else Option.none else Option.none else Option.none else Option.none) := by kernel_rfl
theorem readP_ok (c : Bool) (b : List UInt8) (h : (decide (b.length ≤ 1000000)) = true) : readP_e c b = some (.tup (.acons (.acons (.int .i64 (recG (readR b)).place) (.acons (.bool (recG (readR b)).yes) (.acons (.sl (C := RC) .write (readR b).isNone (recG (readR b)).writes) .anil))) (.acons (.int .i64 (bif (readR b).isNone then 50 else 0)) .anil))) := by
  rw [readP_eq]
  have hl := of_decide_eq_true h
  have e0 : decide (b.length ≤ 1000000000000) = true := decide_eq_true (by omega)
  have no : readR b = none → some (D.tup (D.acons (D.acons (D.int IntKind.i64 0) (D.acons (D.bool false) (D.acons (D.sl (C := RC) RTy.write true []) D.anil))) (D.acons (D.int IntKind.i64 50) D.anil))) = some (.tup (.acons (.acons (.int .i64 (recG (readR b)).place) (.acons (.bool (recG (readR b)).yes) (.acons (.sl (C := RC) .write (readR b).isNone (recG (readR b)).writes) .anil))) (.acons (.int .i64 (bif (readR b).isNone then 50 else 0)) .anil))) := fun e => by rw [e]; rfl
  simp only [e0, cond_true, getP_snd3, getP_snd1]
  by_cases b3 : b.length < 3
  · simp only [b3, decide_true, cond_true]
    exact no (by unfold readR; rw [if_neg]; omega)
  have d3 : decide ((0 : Int) ≤ 3 ∧ (3 : Int) ≤ b.length) = true := by simp; omega
  have e1 : decide ((b.drop 3).length ≤ 1000000000000) = true := decide_eq_true (by simp; omega)
  simp only [b3, decide_false, cond_false, d3, cond_true, e1, getP_fst3 b3]
  by_cases b4 : (b.drop 3).length < 1
  · simp only [b4, decide_true, cond_true]
    exact no (by unfold readR; rw [if_neg]; simp at b4; omega)
  have d4 : decide ((0 : Int) ≤ 1 ∧ (1 : Int) ≤ (b.drop 3).length) = true := by simp only [decide_eq_true_eq]; omega
  have e2 : decide (((b.drop 3).drop 1).length ≤ 1000000000000) = true := decide_eq_true (by simp; omega)
  simp only [b4, decide_false, cond_false, d4, cond_true, e2, getP_fst1 b4]
  by_cases b5 : ((b.drop 3).drop 1).length < 1
  · simp only [b5, decide_true, cond_true]
    exact no (by unfold readR; rw [if_neg]; simp at b5; omega)
  have d5 : decide ((0 : Int) ≤ 1 ∧ (1 : Int) ≤ ((b.drop 3).drop 1).length) = true := by simp only [decide_eq_true_eq]; omega
  have v3 : leVal ((b.drop 3).take 1) = (b.getD 3 0).toNat := by
    rw [leVal_take1 (by omega)]; simp [List.getElem?_drop]
  have v4 : leVal (((b.drop 3).drop 1).take 1) = (b.getD 4 0).toNat := by
    rw [leVal_take1 (by omega)]; simp [List.getElem?_drop]
  have dr : ((b.drop 3).drop 1).drop 1 = b.drop 5 := by rw [List.drop_drop, List.drop_drop]
  simp only [b5, decide_false, cond_false, d5, cond_true, getP_fst1 b5, v3, v4, dr]
  have h4 := (b.getD 4 0).toNat_lt
  have dl : (b.drop 5).length = b.length - 5 := by simp
  have hl5 : 5 ≤ b.length := by have : ((b.drop 3).drop 1).length = b.length - 4 := by rw [List.drop_drop]; simp
                                omega
  generalize hn : (b.getD 4 0).toNat = n at h4 ⊢
  have c1 : decide ((0 : Int) ≤ n ∧ (n : Int) ≤ 255 ∧ (b.drop 5).length ≤ 1000000 ∧ True) = true := decide_eq_true ⟨by omega, by omega, by omega, trivial⟩
  have tn : (n : Int).toNat - 0 = n := by omega
  simp only [c1, tn, cond_true, List.nil_append]
  by_cases hs : (b.drop 5).length < 2 * n
  · simp only [rWrites_short n c _ false hs, Bool.not_true, cond_false]
    exact no (by unfold readR; rw [if_neg]; omega)
  rw [rWrites_ok n c _ false (by omega)]
  have k1 : lenOK ((b.drop 5).drop (2 * n)).length = true := lenOK_of (by simp; omega)
  have kp : (pairsN n (b.drop 5)).length ≤ 9223372036854775807 := by rw [pairsN_len]; omega
  have eb : ∀ n : Nat, n.beq n = true := fun n => by simp
  simp only [Bool.not_false, cond_true, k1, eb, lenOK_of kp]
  by_cases he : ((b.drop 5).drop (2 * n)).length = 0
  · have e5 : b.length = 5 + 2 * n := by simp at he; omega
    have e6 : ((((b.drop 5).drop (2 * n)).length : Int) == 0) = true := by simp only [beq_iff_eq]; omega
    simp only [e6, Bool.not_true, cond_false]
    by_cases hy : 1 < (b.getD 3 0).toNat
    · have : decide (1 < ((b.getD 3 0).toNat : Int)) = true := by simp only [decide_eq_true_eq]; omega
      simp only [this, cond_true]
      exact no (by unfold readR; rw [if_neg]; omega)
    · have y1 : decide (1 < ((b.getD 3 0).toNat : Int)) = false := by simp only [decide_eq_false_iff_not]; omega
      have y2 : (((b.getD 3 0).toNat : Int) == 1) = ((b.getD 3 0).toNat == 1) := by rw [Bool.eq_iff_iff]; simp only [beq_iff_eq]; omega
      simp only [y1, y2, cond_false]
      cases hm : mayB ⟨(leVal (b.take 3) : Int), (b.getD 3 0).toNat == 1, pairsN n (b.drop 5)⟩
      · simp only [Bool.not_false, cond_true]
        exact no (by unfold readR; rw [hn, if_neg]; intro q; rw [hm] at q; cases q.2.2.2)
      · have hr : readR b = some ⟨(leVal (b.take 3) : Int), (b.getD 3 0).toNat == 1, pairsN n (b.drop 5)⟩ := by
          unfold readR; rw [hn, if_pos ⟨hl5, by omega, e5, hm⟩]
        simp only [Bool.not_true, cond_false, hr, recG, Option.getD_some, Option.isNone_some]
  · have e6 : ((((b.drop 5).drop (2 * n)).length : Int) == 0) = false := by simp only [beq_eq_false_iff_ne]; omega
    simp only [e6, Bool.not_false, cond_true]
    exact no (by unfold readR; rw [hn, if_neg]; intro q; simp at he; omega)
noncomputable def uk_2 := uk_1.addSpec 17 readP_sp
theorem uk_2_laws : FLaws Try.prog s05 uk_2 := uk_1_laws.addEv s05_laws fun args d h => by
  unfold readP_sp at h
  split at h
  · unfold readP_s at h
    have h1 := congrArg Prod.fst (Option.some.inj h)
    obtain rfl : _ = d := congrArg Prod.snd (Option.some.inj h)
    exact ⟨by simp [D.refs], 40, readP_ok _ _ h1⟩
  · cases h
/-! ### loop readWR: flume/flumeref05.Read, region 6 -/
structure readWR_St where
  c : Bool
  b : List UInt8
  pl : Int
  y : Bool
  ws : List Write
  i : Nat
def readWR_c (c : Bool) (b : List UInt8) (pl : Int) (y : Bool) (ws : List Write) (i : Nat) : Env RC := [(0, .sl (C := RC) .u8 c b), (6, .ptr 0 []), (7, .int .i64 (i : Int))]
def readWR_o (c : Bool) (b : List UInt8) (pl : Int) (y : Bool) (ws : List Write) (i : Nat) : List (Obj RC) := [.var 27 (.acons (.int .i64 pl) (.acons (.bool y) (.acons (.vs 1 (ws.length)) .anil))), .vec (C := RC) .write true ws]
noncomputable def readWR_r (c : Bool) (b : List UInt8) (pl : Int) (y : Bool) (ws : List Write) (i : Nat) := rndO s05 uk_2 18 6 40 2 [0, 6, 7] [] [.slot 6 0, .path 0 [2]] (readWR_c c b pl y ws i) (readWR_o c b pl y ws i)
theorem readWR_eq (c : Bool) (b : List UInt8) (pl : Int) (y : Bool) (ws : List Write) (i : Nat) : readWR_r c b pl y ws i = (bif Decidable.decide ((0 : Int) ≤ (4 : Int) ∧ (4 : Int) < (↑(List.length b) : Int)) then bif Decidable.decide ((↑i : Int) < Go.IntKind.wrap Go.IntKind.i64 (↑(UInt8.toNat (List.getD b (4 : Nat) (UInt8.ofBitVec (BitVec.ofNat (8 : Nat) (nat_lit 0))))) : Int)) then bif Decidable.decide ((0 : Int) ≤ Go.IntKind.wrap Go.IntKind.i64 ((5 : Int) + Go.IntKind.wrap Go.IntKind.i64 ((2 : Int) * (↑i : Int))) ∧ Go.IntKind.wrap Go.IntKind.i64 ((5 : Int) + Go.IntKind.wrap Go.IntKind.i64 ((2 : Int) * (↑i : Int))) < (↑(List.length b) : Int)) then bif Decidable.decide ((0 : Int) ≤ Go.IntKind.wrap Go.IntKind.i64 ((6 : Int) + Go.IntKind.wrap Go.IntKind.i64 ((2 : Int) * (↑i : Int))) ∧ Go.IntKind.wrap Go.IntKind.i64 ((6 : Int) + Go.IntKind.wrap Go.IntKind.i64 ((2 : Int) * (↑i : Int))) < (↑(List.length b) : Int)) then bif Nat.beq (List.length ws) (List.length ws) && Go.Ev.sizeOK (List.length ws + List.length [Go.Ev.Write.mk (Go.IntKind.wrap Go.IntKind.i64 (↑(UInt8.toNat (List.getD b (Int.toNat (Go.IntKind.wrap Go.IntKind.i64 ((5 : Int) + Go.IntKind.wrap Go.IntKind.i64 ((2 : Int) * (↑i : Int))))) (UInt8.ofBitVec (BitVec.ofNat (8 : Nat) (nat_lit 0))))) : Int)) (Go.IntKind.wrap Go.IntKind.i64 (↑(UInt8.toNat (List.getD b (Int.toNat (Go.IntKind.wrap Go.IntKind.i64 ((6 : Int) + Go.IntKind.wrap Go.IntKind.i64 ((2 : Int) * (↑i : Int))))) (UInt8.ofBitVec (BitVec.ofNat (8 : Nat) (nat_lit 0))))) : Int))]) (16 : Nat) then Option.some ((Go.Ev.X.normal, [((0 : Nat), Go.Ev.D.sl Go.Ev.RTy.u8 c b), ((6 : Nat), Go.Ev.D.ptr (0 : Nat) []), ((7 : Nat), Go.Ev.D.int Go.IntKind.i64 (Go.IntKind.wrap Go.IntKind.i64 ((↑i : Int) + (1 : Int))))]), [Option.some (Go.Ev.Obj.var (27 : Nat) (Go.Ev.D.acons (Go.Ev.D.int Go.IntKind.i64 pl) (Go.Ev.D.acons (Go.Ev.D.bool y) (Go.Ev.D.acons (Go.Ev.D.vs (1 : Nat) (List.length ws + List.length [Go.Ev.Write.mk (Go.IntKind.wrap Go.IntKind.i64 (↑(UInt8.toNat (List.getD b (Int.toNat (Go.IntKind.wrap Go.IntKind.i64 ((5 : Int) + Go.IntKind.wrap Go.IntKind.i64 ((2 : Int) * (↑i : Int))))) (UInt8.ofBitVec (BitVec.ofNat (8 : Nat) (nat_lit 0))))) : Int)) (Go.IntKind.wrap Go.IntKind.i64 (↑(UInt8.toNat (List.getD b (Int.toNat (Go.IntKind.wrap Go.IntKind.i64 ((6 : Int) + Go.IntKind.wrap Go.IntKind.i64 ((2 : Int) * (↑i : Int))))) (UInt8.ofBitVec (BitVec.ofNat (8 : Nat) (nat_lit 0))))) : Int))])) Go.Ev.D.anil)))), Option.some (Go.Ev.Obj.vec Go.Ev.RTy.write Bool.true (ws ++ [Go.Ev.Write.mk (Go.IntKind.wrap Go.IntKind.i64 (↑(UInt8.toNat (List.getD b (Int.toNat (Go.IntKind.wrap Go.IntKind.i64 ((5 : Int) + Go.IntKind.wrap Go.IntKind.i64 ((2 : Int) * (↑i : Int))))) (UInt8.ofBitVec (BitVec.ofNat (8 : Nat) (nat_lit 0))))) : Int)) (Go.IntKind.wrap Go.IntKind.i64 (↑(UInt8.toNat (List.getD b (Int.toNat (Go.IntKind.wrap Go.IntKind.i64 ((6 : Int) + Go.IntKind.wrap Go.IntKind.i64 ((2 : Int) * (↑i : Int))))) (UInt8.ofBitVec (BitVec.ofNat (8 : Nat) (nat_lit 0))))) : Int))]))]) else Option.none else Option.none else Option.none else Option.some ((Go.Ev.X.exit (0 : Nat), []), [Option.some (Go.Ev.Obj.var (27 : Nat) (Go.Ev.D.acons (Go.Ev.D.int Go.IntKind.i64 pl) (Go.Ev.D.acons (Go.Ev.D.bool y) (Go.Ev.D.acons (Go.Ev.D.vs (1 : Nat) (List.length ws)) Go.Ev.D.anil)))), Option.some (Go.Ev.Obj.vec Go.Ev.RTy.write Bool.true ws)]) else Option.none) := by kernel_rfl
def readWR_fin (c : Bool) (b : List UInt8) (pl : Int) (y : Bool) (ws : List Write) (i : Nat) : RT RC := .leaf (.exit 0) [] [.var 27 (.acons (.int .i64 pl) (.acons (.bool y) (.acons (.vs 1 (ws ++ pairsN ((b.getD 4 0).toNat - i) (b.drop (5 + 2 * i))).length) .anil))), .vec (C := RC) .write true (ws ++ pairsN ((b.getD 4 0).toNat - i) (b.drop (5 + 2 * i)))]
def readWR_Inv (c : Bool) (b : List UInt8) (pl : Int) (y : Bool) (ws : List Write) (i : Nat) : Prop := b.length = 5 + 2 * (b.getD 4 0).toNat ∧ i ≤ (b.getD 4 0).toNat ∧ ws.length ≤ i
def readWR_S : LoopR RC readWR_St where
  k := 2
  canon q := readWR_c q.c q.b q.pl q.y q.ws q.i
  objs q := readWR_o q.c q.b q.pl q.y q.ws q.i
  fin q := readWR_fin q.c q.b q.pl q.y q.ws q.i
  Inv q := readWR_Inv q.c q.b q.pl q.y q.ws q.i
  μ q := (q.b.getD 4 0).toNat - q.i
theorem readWR_round (c : Bool) (b : List UInt8) (pl : Int) (y : Bool) (ws : List Write) (i : Nat) (hI : readWR_Inv c b pl y ws i) : Leaf (readWR_r c b pl y ws i) (LedR readWR_S ⟨c, b, pl, y, ws, i⟩) := by
  rw [readWR_eq]
  unfold readWR_Inv at hI
  obtain ⟨h1, h2, h3⟩ := hI
  have eb : ∀ n : Nat, n.beq n = true := fun n => by simp
  have h4 := (b.getD 4 0).toNat_lt
  have z : (⟨0#8⟩ : UInt8) = 0 := rfl
  have d4 : decide ((0 : Int) ≤ 4 ∧ (4 : Int) < b.length) = true := by simp only [decide_eq_true_eq]; omega
  simp only [z, d4, cond_true, u8_i64, show Int.toNat 4 = 4 from rfl]
  by_cases hlt : i < (b.getD 4 0).toNat
  · have w_succ : IntKind.i64.wrap ((i : Int) + 1) = ((i + 1 : Nat) : Int) := by rw [wrap_id (by omega) (by omega)]; simp
    have w2 : IntKind.i64.wrap (2 * (i : Int)) = 2 * (i : Int) := wrap_id (by omega) (by omega)
    have w5 : IntKind.i64.wrap (5 + 2 * (i : Int)) = 5 + 2 * (i : Int) := wrap_id (by omega) (by omega)
    have w6 : IntKind.i64.wrap (6 + 2 * (i : Int)) = 6 + 2 * (i : Int) := wrap_id (by omega) (by omega)
    have t5 : (5 + 2 * (i : Int)).toNat = 5 + 2 * i := by omega
    have t6 : (6 + 2 * (i : Int)).toNat = 6 + 2 * i := by omega
    have l1 : decide ((i : Int) < ((b.getD 4 0).toNat : Int)) = true := by simp only [decide_eq_true_eq]; omega
    have d5 : decide (0 ≤ 5 + 2 * (i : Int) ∧ 5 + 2 * (i : Int) < b.length) = true := by simp only [decide_eq_true_eq]; omega
    have d6 : decide (0 ≤ 6 + 2 * (i : Int) ∧ 6 + 2 * (i : Int) < b.length) = true := by simp only [decide_eq_true_eq]; omega
    have s1 : sizeOK (ws.length + 1) 16 = true := sizeT (by omega)
    have hn : (b.getD 4 0).toNat - i = ((b.getD 4 0).toNat - (i + 1)) + 1 := by omega
    have g0 : (b.drop (5 + 2 * i)).getD 0 0 = b.getD (5 + 2 * i) 0 := by simp [List.getElem?_drop]
    have g1 : (b.drop (5 + 2 * i)).getD 1 0 = b.getD (6 + 2 * i) 0 := by simp [List.getElem?_drop]; congr 1; congr 1; omega
    have g2 : (b.drop (5 + 2 * i)).drop 2 = b.drop (5 + 2 * (i + 1)) := by rw [List.drop_drop]; congr 1
    simp only [w2, w5, w6, l1, d5, d6, w_succ, t5, t6, cond_true, List.length_cons, List.length_nil, Nat.zero_add, eb, s1, Bool.and_self]
    refine leafR_go ⟨c, b, pl, y, ws ++ [⟨((b.getD (5 + 2 * i) 0).toNat : Int), ((b.getD (6 + 2 * i) 0).toNat : Int)⟩], i + 1⟩ (by refine ⟨h1, hlt, ?_⟩; simp; omega) (by simp only [readWR_S]; omega) ?_ (by simp [readWR_S, readWR_c]) (by simp [readWR_S, readWR_o])
    simp only [readWR_S, readWR_fin, hn, pairsN, g0, g1, g2, List.append_assoc, List.cons_append, List.nil_append]
  · have l1 : decide ((i : Int) < ((b.getD 4 0).toNat : Int)) = false := by simp only [decide_eq_false_iff_not]; omega
    have hi : (b.getD 4 0).toNat - i = 0 := by omega
    simp only [l1, cond_false]
    exact leafR_exit (readWR_o c b pl y ws i) (by simp only [readWR_S, readWR_fin, readWR_o, hi, pairsN, RT.val, List.append_nil]) rfl
def readWR_d (env : Env RC) (os : List (Obj RC)) : Option (Bool × readWR_St) := match env, os with
  | [(0, .sl .u8 c b), (6, .ptr 0 []), (7, .int .i64 x0)], [.var 27 (.acons (.int .i64 pl) (.acons (.bool y) (.acons (.vs 1 x1) .anil))), .vec .write true ws] => staticD (true) (decide (x0 = 0) && decide (x1 = ws.length) && decide (b.length = 5 + 2 * (b.getD 4 0).toNat ∧ ws.length = 0), ⟨c, b, pl, y, ws, 0⟩)
  | _, _ => none
noncomputable def uk_3 := uk_2.addLoop 18 6 (sumR s05 [.slot 6 0, .path 0 [2]] [0, 6, 7] readWR_S readWR_d)
theorem uk_3_laws : FLaws Try.prog s05 uk_3 := by
  refine uk_2_laws.addRoundsR s05_laws (by kernel_rfl) readWR_S 40 [0, 6, 7] [] [.slot 6 0, .path 0 [2]] [0, 6, 7] readWR_d (fun q hI => ?_) ?_
  · obtain ⟨c, b, pl, y, ws, i⟩ := q
    refine ⟨?_, ?_, readWR_round c b pl y ws i hI⟩
    · simp_all [RefsOK, readWR_S, readWR_c, readWR_o, readWR_Inv, D.refs, Obj.refs, rEnc]
    · simp_all [readWR_S, readWR_fin, readWR_o, readWR_Inv, RT.refsOK, RefsOK, D.refs, Obj.refs, rEnc]
  · intro env os b q hd_ hb
    unfold readWR_d at hd_
    split at hd_
    · obtain ⟨hs, hd_⟩ := staticD_some hd_
      cases hd_
      simp only [Bool.and_eq_true, decide_eq_true_eq] at hb
      obtain ⟨⟨rfl, rfl⟩, hq⟩ := hb
      exact ⟨⟨hq.1, Nat.zero_le _, by simp [hq.2]⟩, rfl, rfl⟩
    · cases hd_
/-! ### function readRr: flume/flumeref05.Read -/
def readRr_s (c : Bool) (b : List UInt8) : Option (Bool × D RC) := some (decide (b.length ≤ 1000000), .tup (.acons (.acons (.int .i64 (recG (readR b)).place) (.acons (.bool (recG (readR b)).yes) (.acons (.sl (C := RC) .write (readR b).isNone (recG (readR b)).writes) .anil))) (.acons (.int .i64 (bif (readR b).isNone then 50 else 0)) .anil)))
def readRr_sp : List (D RC) → Option (Bool × D RC)
  | [.sl .u8 c b] => readRr_s c b
  | _ => none
noncomputable def readRr_e (c : Bool) (b : List UInt8) := evF s05 uk_3 40 18 [.sl (C := RC) .u8 c b]
theorem readRr_eq (c : Bool) (b : List UInt8) : readRr_e c b = (bif Go.Ev.lenOK (List.length b) then bif Decidable.decide ((↑(List.length b) : Int) < (5 : Int)) then Option.some (Go.Ev.D.tup (Go.Ev.D.acons (Go.Ev.D.acons (Go.Ev.D.int Go.IntKind.i64 (0 : Int)) (Go.Ev.D.acons (Go.Ev.D.bool Bool.false) (Go.Ev.D.acons (Go.Ev.D.sl Go.Ev.RTy.write Bool.true []) Go.Ev.D.anil))) (Go.Ev.D.acons (Go.Ev.D.int Go.IntKind.i64 (50 : Int)) Go.Ev.D.anil))) else bif Decidable.decide ((0 : Int) ≤ (3 : Int) ∧ (3 : Int) < (↑(List.length b) : Int)) then bif Decidable.decide ((1 : Int) < (↑(UInt8.toNat (List.getD b (3 : Nat) (UInt8.ofBitVec (BitVec.ofNat (8 : Nat) (nat_lit 0))))) : Int)) then Option.some (Go.Ev.D.tup (Go.Ev.D.acons (Go.Ev.D.acons (Go.Ev.D.int Go.IntKind.i64 (0 : Int)) (Go.Ev.D.acons (Go.Ev.D.bool Bool.false) (Go.Ev.D.acons (Go.Ev.D.sl Go.Ev.RTy.write Bool.true []) Go.Ev.D.anil))) (Go.Ev.D.acons (Go.Ev.D.int Go.IntKind.i64 (50 : Int)) Go.Ev.D.anil))) else bif Go.Ev.lenOK (List.length b) then bif Decidable.decide ((0 : Int) ≤ (4 : Int) ∧ (4 : Int) < (↑(List.length b) : Int)) then bif (↑(List.length b) : Int) != Go.IntKind.wrap Go.IntKind.i64 ((5 : Int) + Go.IntKind.wrap Go.IntKind.i64 ((2 : Int) * Go.IntKind.wrap Go.IntKind.i64 (↑(UInt8.toNat (List.getD b (4 : Nat) (UInt8.ofBitVec (BitVec.ofNat (8 : Nat) (nat_lit 0))))) : Int))) then Option.some (Go.Ev.D.tup (Go.Ev.D.acons (Go.Ev.D.acons (Go.Ev.D.int Go.IntKind.i64 (0 : Int)) (Go.Ev.D.acons (Go.Ev.D.bool Bool.false) (Go.Ev.D.acons (Go.Ev.D.sl Go.Ev.RTy.write Bool.true []) Go.Ev.D.anil))) (Go.Ev.D.acons (Go.Ev.D.int Go.IntKind.i64 (50 : Int)) Go.Ev.D.anil))) else bif Decidable.decide (List.length b ≤ (1000000000000 : Nat)) then bif Decidable.decide ((0 : Int) ≤ (3 : Int) ∧ (3 : Int) < (↑(List.length b) : Int)) then bif Decidable.decide (List.length b = (5 : Nat) + (2 : Nat) * UInt8.toNat (List.getD b (4 : Nat) (0 : UInt8)) ∧ (0 : Nat) = (0 : Nat)) then bif Nat.beq (List.length ([] ++ Go.Ev.pairsN (UInt8.toNat (List.getD b (4 : Nat) (0 : UInt8)) - (0 : Nat)) (List.drop (5 : Nat) b))) (List.length ([] ++ Go.Ev.pairsN (UInt8.toNat (List.getD b (4 : Nat) (0 : UInt8)) - (0 : Nat)) (List.drop (5 : Nat) b))) then bif Go.Ev.lenOK (List.length ([] ++ Go.Ev.pairsN (UInt8.toNat (List.getD b (4 : Nat) (0 : UInt8)) - (0 : Nat)) (List.drop (5 : Nat) b))) then bif !Go.Ev.mayB (Go.Ev.Rec.mk (Prod.fst (Go.Ev.getP b (0 : Int) (3 : Int))) ((↑(UInt8.toNat (List.getD b (3 : Nat) (UInt8.ofBitVec (BitVec.ofNat (8 : Nat) (nat_lit 0))))) : Int) == (1 : Int)) ([] ++ Go.Ev.pairsN (UInt8.toNat (List.getD b (4 : Nat) (0 : UInt8)) - (0 : Nat)) (List.drop (5 : Nat) b))) then Option.some (Go.Ev.D.tup (Go.Ev.D.acons (Go.Ev.D.acons (Go.Ev.D.int Go.IntKind.i64 (0 : Int)) (Go.Ev.D.acons (Go.Ev.D.bool Bool.false) (Go.Ev.D.acons (Go.Ev.D.sl Go.Ev.RTy.write Bool.true []) Go.Ev.D.anil))) (Go.Ev.D.acons (Go.Ev.D.int Go.IntKind.i64 (50 : Int)) Go.Ev.D.anil))) else Option.some (Go.Ev.D.tup (Go.Ev.D.acons (Go.Ev.D.acons (Go.Ev.D.int Go.IntKind.i64 (Prod.fst (Go.Ev.getP b (0 : Int) (3 : Int)))) (Go.Ev.D.acons (Go.Ev.D.bool ((↑(UInt8.toNat (List.getD b (3 : Nat) (UInt8.ofBitVec (BitVec.ofNat (8 : Nat) (nat_lit 0))))) : Int) == (1 : Int))) (Go.Ev.D.acons (Go.Ev.D.sl Go.Ev.RTy.write Bool.false ([] ++ Go.Ev.pairsN (UInt8.toNat (List.getD b (4 : Nat) (0 : UInt8)) - (0 : Nat)) (List.drop (5 : Nat) b))) Go.Ev.D.anil))) (Go.Ev.D.acons (Go.Ev.D.int Go.IntKind.i64 (0 : Int)) Go.Ev.D.anil))) else Option.none else Option.none else Option.none else Option.none else Option.none else Option.none else Option.none else Option.none else Option.none) := by kernel_rfl
theorem readRr_ok (c : Bool) (b : List UInt8) (h : (decide (b.length ≤ 1000000)) = true) : readRr_e c b = some (.tup (.acons (.acons (.int .i64 (recG (readR b)).place) (.acons (.bool (recG (readR b)).yes) (.acons (.sl (C := RC) .write (readR b).isNone (recG (readR b)).writes) .anil))) (.acons (.int .i64 (bif (readR b).isNone then 50 else 0)) .anil))) := by
  rw [readRr_eq]
  have hl := of_decide_eq_true h
  have z : (⟨0#8⟩ : UInt8) = 0 := rfl
  have h4 := (b.getD 4 0).toNat_lt
  have no : readR b = none → some (D.tup (D.acons (D.acons (D.int IntKind.i64 0) (D.acons (D.bool false) (D.acons (D.sl (C := RC) RTy.write true []) D.anil))) (D.acons (D.int IntKind.i64 50) D.anil))) = some (.tup (.acons (.acons (.int .i64 (recG (readR b)).place) (.acons (.bool (recG (readR b)).yes) (.acons (.sl (C := RC) .write (readR b).isNone (recG (readR b)).writes) .anil))) (.acons (.int .i64 (bif (readR b).isNone then 50 else 0)) .anil))) := fun e => by rw [e]; rfl
  simp only [z, lenOK_of (show b.length ≤ 9223372036854775807 by omega), cond_true, u8_i64]
  by_cases b5 : b.length < 5
  · have : decide ((b.length : Int) < 5) = true := by simp only [decide_eq_true_eq]; omega
    simp only [this, cond_true]
    exact no (by unfold readR; rw [if_neg]; omega)
  have l5 : decide ((b.length : Int) < 5) = false := by simp only [decide_eq_false_iff_not]; omega
  have d3 : decide ((0 : Int) ≤ 3 ∧ (3 : Int) < b.length) = true := by simp only [decide_eq_true_eq]; omega
  have d4 : decide ((0 : Int) ≤ 4 ∧ (4 : Int) < b.length) = true := by simp only [decide_eq_true_eq]; omega
  simp only [l5, d3, d4, cond_true, cond_false]
  by_cases y0 : 1 < (b.getD 3 0).toNat
  · have : decide (1 < ((b.getD 3 0).toNat : Int)) = true := by simp only [decide_eq_true_eq]; omega
    simp only [this, cond_true]
    exact no (by unfold readR; rw [if_neg]; omega)
  have y1 : decide (1 < ((b.getD 3 0).toNat : Int)) = false := by simp only [decide_eq_false_iff_not]; omega
  have y2 : (((b.getD 3 0).toNat : Int) == 1) = ((b.getD 3 0).toNat == 1) := by rw [Bool.eq_iff_iff]; simp only [beq_iff_eq]; omega
  have w2 : IntKind.i64.wrap (2 * ((b.getD 4 0).toNat : Int)) = 2 * ((b.getD 4 0).toNat : Int) := wrap_id (by omega) (by omega)
  have w5 : IntKind.i64.wrap (5 + 2 * ((b.getD 4 0).toNat : Int)) = 5 + 2 * ((b.getD 4 0).toNat : Int) := wrap_id (by omega) (by omega)
  simp only [y1, y2, w2, w5, cond_false]
  by_cases e5 : b.length = 5 + 2 * (b.getD 4 0).toNat
  · have q1 : ((b.length : Int) != 5 + 2 * ((b.getD 4 0).toNat : Int)) = false := by simp only [bne_eq_false_iff_eq]; omega
    have q2 : decide (b.length ≤ 1000000000000) = true := decide_eq_true (by omega)
    have q3 : decide (b.length = 5 + 2 * (b.getD 4 0).toNat ∧ True) = true := decide_eq_true ⟨e5, trivial⟩
    have kp : (pairsN (b.getD 4 0).toNat (b.drop 5)).length ≤ 9223372036854775807 := by rw [pairsN_len]; omega
    have eb : ∀ n : Nat, n.beq n = true := fun n => by simp
    simp only [q1, q2, q3, eb, lenOK_of kp, cond_true, cond_false, List.nil_append, Nat.sub_zero, getP_fst3 (show ¬ b.length < 3 by omega)]
    cases hm : mayB ⟨(leVal (b.take 3) : Int), (b.getD 3 0).toNat == 1, pairsN (b.getD 4 0).toNat (b.drop 5)⟩
    · simp only [Bool.not_false, cond_true]
      exact no (by unfold readR; rw [if_neg]; intro q; rw [hm] at q; cases q.2.2.2)
    · have hr : readR b = some ⟨(leVal (b.take 3) : Int), (b.getD 3 0).toNat == 1, pairsN (b.getD 4 0).toNat (b.drop 5)⟩ := by
        unfold readR; rw [if_pos ⟨by omega, by omega, e5, hm⟩]
      simp only [Bool.not_true, cond_false, hr, recG, Option.getD_some, Option.isNone_some]
  · have q1 : ((b.length : Int) != 5 + 2 * ((b.getD 4 0).toNat : Int)) = true := by simp only [bne_iff_ne, ne_eq]; omega
    simp only [q1, cond_true]
    exact no (by unfold readR; rw [if_neg]; omega)
noncomputable def uk_4 := uk_3.addSpec 18 readRr_sp
theorem uk_4_laws : FLaws Try.prog s05 uk_4 := uk_3_laws.addEv s05_laws fun args d h => by
  unfold readRr_sp at h
  split at h
  · unfold readRr_s at h
    have h1 := congrArg Prod.fst (Option.some.inj h)
    obtain rfl : _ = d := congrArg Prod.snd (Option.some.inj h)
    exact ⟨by simp [D.refs], 40, readRr_ok _ _ h1⟩
  · cases h
end Go.Ev


namespace Go.Ev
open Go.Proofs
set_option maxRecDepth 100000
set_option linter.unusedVariables false
set_option linter.unusedSimpArgs false
/-! ### function tells: flume/flumelaw05.RecordTells -/
def tells_s (ap : Int) (ay : Bool) (ac : Bool) (aw : List Write) (dp : Int) (dy : Bool) (dc : Bool) (dw : List Write) (sp : Int) (sci : Bool) (sit : List Item) (sk0 : Bool) (sk1 : Bool) (sk2 : Bool) (sl0 : List Line) (sl1 : List Line) (sl2 : List Line) (sc0 : Int) (sc1 : Int) (sc2 : Int) (tp : Int) (tci : Bool) (tit : List Item) (tk0 : Bool) (tk1 : Bool) (tk2 : Bool) (tl0 : List Line) (tl1 : List Line) (tl2 : List Line) (tc0 : Int) (tc1 : Int) (tc2 : Int) : Option (Bool × D RC) := some (lenOK aw.length && lenOK dw.length && (lenOK sit.length && lenOK sl0.length && lenOK sl1.length && lenOK sl2.length) && (lenOK tit.length && lenOK tl0.length && lenOK tl1.length && lenOK tl2.length), .bool true)
def tells_sp : List (D RC) → Option (Bool × D RC)
  | [.acons (.int .i64 ap) (.acons (.bool ay) (.acons (.sl .write ac aw) .anil)), .acons (.int .i64 dp) (.acons (.bool dy) (.acons (.sl .write dc dw) .anil)), .acons (.int .i64 sp) (.acons (.sl .item sci sit) (.acons (.acons (.sl .line sk0 sl0) (.acons (.sl .line sk1 sl1) (.acons (.sl .line sk2 sl2) .anil))) (.acons (.arr .int 3 [sc0, sc1, sc2]) .anil))), .acons (.int .i64 tp) (.acons (.sl .item tci tit) (.acons (.acons (.sl .line tk0 tl0) (.acons (.sl .line tk1 tl1) (.acons (.sl .line tk2 tl2) .anil))) (.acons (.arr .int 3 [tc0, tc1, tc2]) .anil)))] => tells_s ap ay ac aw dp dy dc dw sp sci sit sk0 sk1 sk2 sl0 sl1 sl2 sc0 sc1 sc2 tp tci tit tk0 tk1 tk2 tl0 tl1 tl2 tc0 tc1 tc2
  | _ => none
noncomputable def tells_e (ap : Int) (ay : Bool) (ac : Bool) (aw : List Write) (dp : Int) (dy : Bool) (dc : Bool) (dw : List Write) (sp : Int) (sci : Bool) (sit : List Item) (sk0 : Bool) (sk1 : Bool) (sk2 : Bool) (sl0 : List Line) (sl1 : List Line) (sl2 : List Line) (sc0 : Int) (sc1 : Int) (sc2 : Int) (tp : Int) (tci : Bool) (tit : List Item) (tk0 : Bool) (tk1 : Bool) (tk2 : Bool) (tl0 : List Line) (tl1 : List Line) (tl2 : List Line) (tc0 : Int) (tc1 : Int) (tc2 : Int) := evF s05 uk_4 60 8 [.acons (.int .i64 ap) (.acons (.bool ay) (.acons (.sl (C := RC) .write ac aw) .anil)), .acons (.int .i64 dp) (.acons (.bool dy) (.acons (.sl (C := RC) .write dc dw) .anil)), .acons (.int .i64 sp) (.acons (.sl (C := RC) .item sci sit) (.acons (.acons (.sl (C := RC) .line sk0 sl0) (.acons (.sl (C := RC) .line sk1 sl1) (.acons (.sl (C := RC) .line sk2 sl2) .anil))) (.acons (.arr (C := RC) .int 3 [sc0, sc1, sc2]) .anil))), .acons (.int .i64 tp) (.acons (.sl (C := RC) .item tci tit) (.acons (.acons (.sl (C := RC) .line tk0 tl0) (.acons (.sl (C := RC) .line tk1 tl1) (.acons (.sl (C := RC) .line tk2 tl2) .anil))) (.acons (.arr (C := RC) .int 3 [tc0, tc1, tc2]) .anil)))]
theorem tells_eq (ap : Int) (ay : Bool) (ac : Bool) (aw : List Write) (dp : Int) (dy : Bool) (dc : Bool) (dw : List Write) (sp : Int) (sci : Bool) (sit : List Item) (sk0 : Bool) (sk1 : Bool) (sk2 : Bool) (sl0 : List Line) (sl1 : List Line) (sl2 : List Line) (sc0 : Int) (sc1 : Int) (sc2 : Int) (tp : Int) (tci : Bool) (tit : List Item) (tk0 : Bool) (tk1 : Bool) (tk2 : Bool) (tl0 : List Line) (tl1 : List Line) (tl2 : List Line) (tc0 : Int) (tc1 : Int) (tc2 : Int) : tells_e ap ay ac aw dp dy dc dw sp sci sit sk0 sk1 sk2 sl0 sl1 sl2 sc0 sc1 sc2 tp tci tit tk0 tk1 tk2 tl0 tl1 tl2 tc0 tc1 tc2 = (bif Go.Ev.lenOK (List.length aw) then bif Decidable.decide ((40 : Int) < (↑(List.length aw) : Int)) then Option.some (Go.Ev.D.bool Bool.true) else bif Go.Ev.lenOK (List.length dw) then bif Decidable.decide ((40 : Int) < (↑(List.length dw) : Int)) then Option.some (Go.Ev.D.bool Bool.true) else bif Go.Ev.lenOK (List.length sit) then bif Decidable.decide ((60 : Int) < (↑(List.length sit) : Int)) then Option.some (Go.Ev.D.bool Bool.true) else bif Go.Ev.lenOK (List.length sl0) then bif Decidable.decide ((40 : Int) < (↑(List.length sl0) : Int)) then Option.some (Go.Ev.D.bool Bool.true) else bif Go.Ev.lenOK (List.length sl1) then bif Decidable.decide ((40 : Int) < (↑(List.length sl1) : Int)) then Option.some (Go.Ev.D.bool Bool.true) else bif Go.Ev.lenOK (List.length sl2) then bif Decidable.decide ((40 : Int) < (↑(List.length sl2) : Int)) then Option.some (Go.Ev.D.bool Bool.true) else bif Go.Ev.lenOK (List.length tit) then bif Decidable.decide ((60 : Int) < (↑(List.length tit) : Int)) then Option.some (Go.Ev.D.bool Bool.true) else bif Go.Ev.lenOK (List.length tl0) then bif Decidable.decide ((40 : Int) < (↑(List.length tl0) : Int)) then Option.some (Go.Ev.D.bool Bool.true) else bif Go.Ev.lenOK (List.length tl1) then bif Decidable.decide ((40 : Int) < (↑(List.length tl1) : Int)) then Option.some (Go.Ev.D.bool Bool.true) else bif Go.Ev.lenOK (List.length tl2) then bif Decidable.decide ((40 : Int) < (↑(List.length tl2) : Int)) then Option.some (Go.Ev.D.bool Bool.true) else bif Go.Ev.lenOK (List.length aw) then bif Go.Ev.lenOK (List.length aw) then bif Decidable.decide (List.length sit ≤ (9223372036854775807 : Nat) ∧ List.length sl0 ≤ (9223372036854775807 : Nat) ∧ List.length sl1 ≤ (9223372036854775807 : Nat) ∧ List.length sl2 ≤ (9223372036854775807 : Nat)) then bif Decidable.decide (List.length sit ≤ (9223372036854775807 : Nat) ∧ List.length sl0 ≤ (9223372036854775807 : Nat) ∧ List.length sl1 ≤ (9223372036854775807 : Nat) ∧ List.length sl2 ≤ (9223372036854775807 : Nat)) then bif !(fun (l : List (Go.Ev.RA Go.Ev.RTy.u8)) => l) (bif Go.Ev.mayB (Go.Ev.Rec.mk ap ay aw) then Go.Ev.bytesR (Go.Ev.Rec.mk ap ay aw) else []) == (fun (l : List (Go.Ev.RA Go.Ev.RTy.u8)) => l) (bif Go.Ev.mayB (Go.Ev.Rec.mk ap ay aw) then Go.Ev.bytesR (Go.Ev.Rec.mk ap ay aw) else []) then Option.some (Go.Ev.D.bool Bool.false) else bif (bif Go.Ev.mayB (Go.Ev.Rec.mk ap ay aw) then (0 : Int) else (2 : Int)) != bif Go.Ev.mayB (Go.Ev.Rec.mk ap ay aw) then (0 : Int) else (2 : Int) then Option.some (Go.Ev.D.bool Bool.false) else bif !(fun (l : List (Go.Ev.RA Go.Ev.RTy.u8)) => l) (bif Go.Ev.standsOK (Go.Ev.St.mk sp sit sl0 sl1 sl2 sc0 sc1 sc2) then Go.Ev.stBytes (Go.Ev.St.mk sp sit sl0 sl1 sl2 sc0 sc1 sc2) else []) == (fun (l : List (Go.Ev.RA Go.Ev.RTy.u8)) => l) (bif Go.Ev.standsOK (Go.Ev.St.mk sp sit sl0 sl1 sl2 sc0 sc1 sc2) then Go.Ev.stBytes (Go.Ev.St.mk sp sit sl0 sl1 sl2 sc0 sc1 sc2) else []) then Option.some (Go.Ev.D.bool Bool.false) else bif (bif Go.Ev.standsOK (Go.Ev.St.mk sp sit sl0 sl1 sl2 sc0 sc1 sc2) then (0 : Int) else (2 : Int)) != bif Go.Ev.standsOK (Go.Ev.St.mk sp sit sl0 sl1 sl2 sc0 sc1 sc2) then (0 : Int) else (2 : Int) then Option.some (Go.Ev.D.bool Bool.false) else bif Go.Ev.lenOK (List.length aw) then bif Go.Ev.lenOK (List.length aw) then bif Go.Ev.mayB (Go.Ev.Rec.mk ap ay aw) == Go.Ev.mayB (Go.Ev.Rec.mk ap ay aw) then bif Go.Ev.lenOK (List.length aw) then bif Go.Ev.lenOK (List.length aw) then bif Go.Ev.writtenL aw == Go.Ev.writtenL aw then bif Decidable.decide (List.length sit ≤ (9223372036854775807 : Nat) ∧ List.length sl0 ≤ (9223372036854775807 : Nat) ∧ List.length sl1 ≤ (9223372036854775807 : Nat) ∧ List.length sl2 ≤ (9223372036854775807 : Nat)) then bif Decidable.decide (List.length sit ≤ (9223372036854775807 : Nat) ∧ List.length sl0 ≤ (9223372036854775807 : Nat) ∧ List.length sl1 ≤ (9223372036854775807 : Nat) ∧ List.length sl2 ≤ (9223372036854775807 : Nat)) then bif Go.Ev.standsOK (Go.Ev.St.mk sp sit sl0 sl1 sl2 sc0 sc1 sc2) == Go.Ev.standsOK (Go.Ev.St.mk sp sit sl0 sl1 sl2 sc0 sc1 sc2) then bif Go.Ev.lenOK (List.length aw) && Go.Ev.lenOK (List.length dw) then bif Go.Ev.lenOK (List.length aw) && Go.Ev.lenOK (List.length dw) then bif Decidable.decide (Go.Ev.Rec.mk ap ay aw = Go.Ev.Rec.mk dp dy dw) == Decidable.decide (Go.Ev.Rec.mk ap ay aw = Go.Ev.Rec.mk dp dy dw) then bif Go.Ev.lenOK (List.length sit) && Go.Ev.lenOK (List.length tit) && (Go.Ev.lenOK (List.length sl0) && Go.Ev.lenOK (List.length tl0)) && (Go.Ev.lenOK (List.length sl1) && Go.Ev.lenOK (List.length tl1)) && (Go.Ev.lenOK (List.length sl2) && Go.Ev.lenOK (List.length tl2)) then bif Go.Ev.lenOK (List.length sit) && Go.Ev.lenOK (List.length tit) && (Go.Ev.lenOK (List.length sl0) && Go.Ev.lenOK (List.length tl0)) && (Go.Ev.lenOK (List.length sl1) && Go.Ev.lenOK (List.length tl1)) && (Go.Ev.lenOK (List.length sl2) && Go.Ev.lenOK (List.length tl2)) then bif Decidable.decide (Go.Ev.St.mk sp sit sl0 sl1 sl2 sc0 sc1 sc2 = Go.Ev.St.mk tp tit tl0 tl1 tl2 tc0 tc1 tc2) == Decidable.decide (Go.Ev.St.mk sp sit sl0 sl1 sl2 sc0 sc1 sc2 = Go.Ev.St.mk tp tit tl0 tl1 tl2 tc0 tc1 tc2) then Option.some (Go.Ev.D.bool Bool.true) else Option.some (Go.Ev.D.bool Bool.false) else Option.none else Option.none else Option.some (Go.Ev.D.bool Bool.false) else Option.none else Option.none else Option.some (Go.Ev.D.bool Bool.false) else Option.none else Option.none else Option.some (Go.Ev.D.bool Bool.false) else Option.none else Option.none else Option.some (Go.Ev.D.bool Bool.false) else Option.none else Option.none else Option.none else Option.none else Option.none else Option.none else Option.none else Option.none else Option.none else Option.none else Option.none else Option.none else Option.none else Option.none else Option.none else Option.none) := by kernel_rfl
theorem tells_ok (ap : Int) (ay : Bool) (ac : Bool) (aw : List Write) (dp : Int) (dy : Bool) (dc : Bool) (dw : List Write) (sp : Int) (sci : Bool) (sit : List Item) (sk0 : Bool) (sk1 : Bool) (sk2 : Bool) (sl0 : List Line) (sl1 : List Line) (sl2 : List Line) (sc0 : Int) (sc1 : Int) (sc2 : Int) (tp : Int) (tci : Bool) (tit : List Item) (tk0 : Bool) (tk1 : Bool) (tk2 : Bool) (tl0 : List Line) (tl1 : List Line) (tl2 : List Line) (tc0 : Int) (tc1 : Int) (tc2 : Int) (h : (lenOK aw.length && lenOK dw.length && (lenOK sit.length && lenOK sl0.length && lenOK sl1.length && lenOK sl2.length) && (lenOK tit.length && lenOK tl0.length && lenOK tl1.length && lenOK tl2.length)) = true) : tells_e ap ay ac aw dp dy dc dw sp sci sit sk0 sk1 sk2 sl0 sl1 sl2 sc0 sc1 sc2 tp tci tit tk0 tk1 tk2 tl0 tl1 tl2 tc0 tc1 tc2 = some (.bool true) := by
  rw [tells_eq]
  simp only [Bool.and_eq_true] at h
  obtain ⟨⟨⟨ha, hd⟩, ⟨⟨s0, s1⟩, s2⟩, s3⟩, ⟨⟨t0, t1⟩, t2⟩, t3⟩ := h
  have hs : decide (sit.length ≤ 9223372036854775807 ∧ sl0.length ≤ 9223372036854775807 ∧ sl1.length ≤ 9223372036854775807 ∧ sl2.length ≤ 9223372036854775807) = true :=
    decide_eq_true ⟨lenOK_le s0, lenOK_le s1, lenOK_le s2, lenOK_le s3⟩
  simp only [ha, hd, s0, s1, s2, s3, t0, t1, t2, t3, hs, cond_true, beq_self_eq_true, bne_self_eq_false, Bool.not_true, cond_false, Bool.and_self]
  iterate 10 refine cond_both (fun _ => rfl) fun _ => ?_
  rfl
noncomputable def ul_1 := uk_4.addSpec 8 tells_sp
theorem ul_1_laws : FLaws Try.prog s05 ul_1 := uk_4_laws.addEv s05_laws fun args d h => by
  unfold tells_sp at h
  split at h
  · unfold tells_s at h
    have h1 := congrArg Prod.fst (Option.some.inj h)
    obtain rfl : _ = d := congrArg Prod.snd (Option.some.inj h)
    exact ⟨by simp [D.refs], 60, tells_ok _ _ _ _ _ _ _ _ _ _ _ _ _ _ _ _ _ _ _ _ _ _ _ _ _ _ _ _ _ _ _ _ h1⟩
  · cases h
end Go.Ev


/-
  From what an argument reads al (the given statements' form) to a value of the evaluator, and back: a statement 'true for every input' out of what the evaluator says.
-/
namespace Go.Ev
open Go.ChangeShapes Go.WideShapes Go.RowKit
set_option linter.unusedVariables false
set_option linter.unusedSimpArgs false

section
variable {C : Cdc}

/-- a value of an argument: numbers fit their kinds, lists are no longer than a slice may be -/
def good (gA : (t : C.Ty) → C.A t → Prop) : D C → Prop
  | .int k n => k.min ≤ n ∧ n ≤ k.max
  | .str s => s.length ≤ maxLen
  | .acons d ds => good gA d ∧ good gA ds
  | .arr t n l => l.length = n ∧ ∀ x ∈ l, gA t x
  | .sl t _ l => l.length ≤ maxLen ∧ ∀ x ∈ l, gA t x
  | _ => True

/-- types of plain data -/
def plainT (T : Tab C) : Nat → TypeId → Bool
  | 0, _ => false
  | k + 1, t => match T.ty t with
    | .bool | .int _ | .str => true
    | .struct _ fs => fs.all (plainT T k)
    | .arr _ e _ => plainT T k e
    | .sl e _ => plainT T k e
    | _ => false

structure Dec (T : Tab C) (gA : (t : C.Ty) → C.A t → Prop) : Prop where
  dec : ∀ t d, fit T d (.inl (T.ety t)) = true → d.refs = [] → good gA d → (∃ k u, T.ty u = T.ty (T.ety t) ∧ plainT T k u = true) → ∃ x, T.dec t d = some x ∧ gA t x

variable {P : Program} {T : Tab C} {gA : (t : C.Ty) → C.A t → Prop}

def X0 (W : World) : Cx := ⟨W, fun _ => none, fun _ _ => False⟩
theorem X0_free (W : World) (b o : Nat) : (X0 W).free b o := ⟨fun h => h, fun ⟨_, _, h, _⟩ => by simp [X0] at h⟩

theorem arr_R {X : Cx} (t : C.Ty) (sz : Nat) : ∀ (n : Nat) (cs : List Value), cs.length = n * sz → (∀ i, i < n → ∃ x : C.A t, R T X false (T.enc t x) ((cs.drop (i * sz)).take sz) ∧ gA t x) →
    ∃ l : List (C.A t), R T X false (.arr t n l) cs ∧ l.length = n ∧ ∀ x ∈ l, gA t x
  | 0, cs, hl, _ => by
    obtain rfl : cs = [] := by simpa using hl
    exact ⟨[], .arr0 _, rfl, by simp⟩
  | n + 1, cs, hl, h => by
    obtain ⟨x, hx, gx⟩ := h 0 (by omega)
    obtain ⟨l, hr, hn, gl⟩ := arr_R t sz n (cs.drop sz) (by rw [List.length_drop, hl, Nat.succ_mul]; omega) fun i hi => by
      obtain ⟨y, hy, gy⟩ := h (i + 1) (by omega)
      refine ⟨y, ?_, gy⟩
      rw [List.drop_drop]
      rw [show sz + i * sz = (i + 1) * sz by rw [Nat.succ_mul]; omega]
      exact hy
    refine ⟨x :: l, ?_, by simp [hn], by simpa using ⟨gx, gl⟩⟩
    have := R.arrS hx hr
    simpa using this

theorem sl_R {W : World} (t : C.Ty) (b sz : Nat) : ∀ (n off : Nat), (∀ i, i < n → ∃ (x : C.A t) (ci : List Value), R T (X0 W) false (T.enc t x) ci ∧ ci.length = sz ∧ (∀ j, j < sz → W.cell? ⟨b, off + i * sz + j, none⟩ = ci[j]?) ∧ gA t x) →
    ∃ (l : List (C.A t)) (cs : List Value), R T (X0 W) false (.arr t n l) cs ∧ l.length = n ∧ (X0 W).at b off cs ∧ ∀ x ∈ l, gA t x
  | 0, off, _ => ⟨[], [], .arr0 _, rfl, fun j v h => by simp at h, by simp⟩
  | n + 1, off, h => by
    obtain ⟨x, ci, hx, hlen, hc, gx⟩ := h 0 (by omega)
    obtain ⟨l, cs, hr, hn, hat, gl⟩ := sl_R t b sz n (off + sz) fun i hi => by
      obtain ⟨y, c2, hy, h2, h3, gy⟩ := h (i + 1) (by omega)
      refine ⟨y, c2, hy, h2, fun j hj => ?_, gy⟩
      have := h3 j hj
      rwa [show off + (i + 1) * sz + j = off + sz + i * sz + j by rw [Nat.succ_mul]; omega] at this
    refine ⟨x :: l, ci ++ cs, .arrS hx hr, by simp [hn], fun j v hj => ⟨?_, X0_free _ _ _⟩, by simpa using ⟨gx, gl⟩⟩
    by_cases hlt : j < ci.length
    · rw [List.getElem?_append_left hlt] at hj
      have := hc j (by omega)
      simp only [Nat.zero_mul, Nat.add_zero] at this
      exact this.trans hj
    · rw [List.getElem?_append_right (by omega)] at hj
      have := (hat _ _ hj).1
      rwa [show off + sz + (j - ci.length) = off + j by omega] at this

theorem st_R {X : Cx} : ∀ (fs : List TypeId) (cs : List Value), (∀ i f, fs[i]? = some f → ∃ d, R T X false d ((cs.drop (sumSz T (fs.take i))).take (T.size f)) ∧ fit T d (.inl f) = true ∧ good gA d ∧ d.refs = []) →
    ∃ d, R T X false d (cs.take (sumSz T fs)) ∧ fit T d (.inr fs) = true ∧ good gA d ∧ d.refs = [] ∧ d.isRow = true ∧ (∀ t a, T.ty t = .struct a fs → fit T d (.inl t) = true)
  | [], cs, _ => ⟨.anil, by simpa [sumSz] using R.anil, rfl, trivial, rfl, rfl, fun t a ht => by simp [fit, ht]⟩
  | f :: fs, cs, h => by
    obtain ⟨d, hd, fd, gd, rd⟩ := h 0 f rfl
    obtain ⟨ds, hr, fr, gr, rr, _, _⟩ := st_R fs (cs.drop (T.size f)) fun i g hg => by
      obtain ⟨e, he, h2⟩ := h (i + 1) g (by simpa using hg)
      refine ⟨e, ?_, h2⟩
      simpa [sumSz, List.drop_drop] using he
    refine ⟨.acons d ds, ?_, by simp [fit, fd, fr], ⟨gd, gr⟩, by simp [D.refs, rd, rr], rfl, fun t a ht => by simp [fit, ht, fd, fr]⟩
    have := R.acons hd hr
    simpa [sumSz, List.take_add] using this

theorem cellsOf_info {t : TypeId} {i : TypeInfo} (h : P.info? t = some i) : P.cellsOf t = i.size := by
  simp [Program.cellsOf, h]

theorem trod_R (K : PLaws P T) (hd : Dec T gA) {H : Type} {enc : TypeId × Value → H} {W : World} : ∀ (k : Nat) (t : TypeId), plainT T k t = true → ∀ (fuel : Nat) (cs : List Value) (x : DataW H × List MemPlace), DataW.trod enc P W 0 (fun _ => true) true fuel t cs = some x →
    ∃ d, R T (X0 W) false d cs ∧ fit T d (.inl t) = true ∧ good gA d ∧ d.refs = [] := by
  intro k
  induction k with
  | zero => intro t h; simp [plainT] at h
  | succ k ih =>
    intro t hp fuel cs x h
    unfold plainT at hp
    split at hp
    · rename_i ht
      obtain ⟨b, rfl, _⟩ := DataW.trod_bool (K.uBool t ht) h
      exact ⟨.bool b, .bool b, by simp [fit, ht], trivial, rfl⟩
    · rename_i kd ht
      obtain ⟨n, rfl, _, hw⟩ := DataW.trod_int (K.uInt t kd ht) h
      have hw' : kd.min ≤ n ∧ n ≤ kd.max := by simpa [Lit.wf] using hw
      exact ⟨.int kd n, .int hw', by simp [fit, ht], hw', rfl⟩
    · rename_i ht
      obtain ⟨s, rfl, _, hs⟩ := DataW.trod_string (K.uStr t ht) h
      exact ⟨.str s.data.toList, .str s.data.toList, by simp [fit, ht], by simpa [good] using hs, rfl⟩
    · rename_i isA fs ht
      cases isA with
      | true =>
        obtain ⟨el, hu, hfs, hpos, inf, hi1, hi2⟩ := K.uRow t fs ht
        obtain ⟨xs, m, _, _, hlen, hxs, hel⟩ := DataW.trod_array hu h
        have hget : ∀ i f, fs[i]? = some f → f = el ∧ i < fs.length := fun i f hf => by
          have := (List.getElem?_eq_some_iff.1 hf).1
          rw [hfs, List.getElem?_replicate] at hf
          simp at hf
          exact ⟨hf.2.symm, this⟩
        have hsum : ∀ i, i ≤ fs.length → sumSz T (fs.take i) = i * T.size el := by
          intro i hi
          rw [hfs, List.take_replicate, Nat.min_eq_left hi]
          clear hi
          induction i with
          | zero => simp [sumSz]
          | succ i ih => simp only [List.replicate_succ, sumSz, ih]; rw [Nat.succ_mul]; omega
        obtain ⟨d, hr, _, gd, rd, _, hfit⟩ := st_R (T := T) (X := X0 W) (gA := gA) fs cs fun i f hf => by
          obtain ⟨rfl, hi⟩ := hget i f hf
          have := hel i hi
          rw [cellsOf_info hi1, hi2] at this
          have hx : xs[i]? = some xs[i] := by simp [hxs, hi]
          rw [hx] at this
          obtain ⟨d, h1, h2, h3, h4⟩ := ih f (List.all_eq_true.1 hp _ (List.mem_of_getElem? hf)) m _ _ this
          refine ⟨d, ?_, h2, h3, h4⟩
          rw [hsum i (by omega)]; exact h1
        obtain ⟨inf, hi1, hi2⟩ := K.info t d (hfit t _ ht)
        rw [cellsOf_info hi1, hi2, K.base.szStruct t _ fs ht] at hlen
        rw [← hlen, List.take_length] at hr
        exact ⟨d, hr, hfit t _ ht, gd, rd⟩
      | false =>
        obtain ⟨fields, hu, hfs, hoff, _⟩ := K.uStruct t fs ht
        obtain ⟨xs, n, _, _, hlen, hxs, hel⟩ := DataW.trod_struct hu h
        obtain ⟨d, hr, _, gd, rd, _, hfit⟩ := st_R (T := T) (X := X0 W) (gA := gA) fs cs fun i f hf => by
          rw [← hfs, List.getElem?_map] at hf
          cases hfi : fields.toList[i]? with
          | none => simp [hfi] at hf
          | some fld =>
            simp only [hfi, Option.map_some, Option.some.injEq] at hf
            have hfa : fields[i]? = some fld := by rw [← Array.getElem?_toList]; exact hfi
            have := hel i fld hfa
            have hx : ∃ y, xs[i]? = some y := by
              have : i < fields.size := (Array.getElem?_eq_some_iff.1 hfa).1
              exact ⟨xs[i], by simp [hxs, this]⟩
            obtain ⟨y, hy⟩ := hx
            rw [hy] at this
            subst hf
            have hmem : fld.type ∈ fs := by rw [← hfs]; exact List.mem_map.2 ⟨fld, by exact List.mem_of_getElem? hfi, rfl⟩
            obtain ⟨d, h1, h2, h3, h4⟩ := ih fld.type (List.all_eq_true.1 hp _ hmem) n _ _ this
            obtain ⟨inf, hi1, hi2, _⟩ := K.uField t fs fld.type ht hmem
            refine ⟨d, ?_, h2, h3, h4⟩
            rw [hoff i fld hfa, cellsOf_info hi1, hi2] at h1
            exact h1
        obtain ⟨inf, hi1, hi2⟩ := K.info t d (hfit t _ ht)
        rw [cellsOf_info hi1, hi2, K.base.szStruct t _ fs ht] at hlen
        rw [← hlen, List.take_length] at hr
        exact ⟨d, hr, hfit t _ ht, gd, rd⟩
    · rename_i n e ct ht
      obtain ⟨hu, _⟩ := K.uArr t n e ct ht
      obtain ⟨xs, m, _, _, hlen, hxs, hel⟩ := DataW.trod_array hu h
      obtain ⟨inf, z, hi1, hi2, _⟩ := K.uElem t e ct (.inl ⟨n, ht⟩)
      obtain ⟨it, hj1, hj2⟩ := K.info t (.arr ct n []) (by simp [fit, ht])
      obtain ⟨hs1, hs2, hs3⟩ := K.base.szArr t n e ct ht
      rw [cellsOf_info hj1, hj2, hs1] at hlen
      obtain ⟨l, hr, hn, gl⟩ := arr_R (T := T) (X := X0 W) (gA := gA) ct (T.size e) n cs hlen fun i hi => by
        have := hel i hi
        rw [cellsOf_info hi1, hi2] at this
        have hx : xs[i]? = some xs[i] := by simp [hxs, hi]
        rw [hx] at this
        obtain ⟨d, h1, h2, h3, h4⟩ := ih e hp m _ _ this
        obtain ⟨x, h5, h6⟩ := hd.dec ct d (by rw [← fit_congr hs2]; exact h2) h4 h3 ⟨k, e, hs2, hp⟩
        exact ⟨x, K.base.decR _ _ _ _ _ h5 h1, h6⟩
      exact ⟨.arr ct n l, hr, by simp [fit, ht], ⟨hn, gl⟩, rfl⟩
    · rename_i e ct ht
      have hu := K.uSl t e ct ht
      obtain ⟨inf, z, hi1, hi2, _, _, hpos, _⟩ := K.uElem t e ct (.inr ht)
      obtain ⟨hs1, hs2, hs3⟩ := K.base.szSl t e ct ht
      rcases DataW.trod_slice hu h with ⟨rfl, _⟩ | ⟨a, len, cap, elems, rest, m, _, rfl, _, _, hlc, hcm, hel, he, hrest, _⟩
      · exact ⟨.sl ct false [], .sl0 _ _ _, by simp [fit, ht], by simp [good], rfl⟩
      · by_cases hc0 : cap = 0
        · subst hc0
          obtain rfl : len = 0 := by omega
          exact ⟨.sl ct false [], .sl0 _ _ _, by simp [fit, ht], by simp [good], rfl⟩
        · have hspot : a.spot = none := by
            have key : ∀ i y, i = 0 → (W.cells? 0 (a.add (i * P.cellsOf e)) (P.cellsOf e)).bind (DataW.trod enc P W 0 (fun _ => true) true m e) = some y → a.spot = none := by
              intro i y hi0 hy
              subst hi0
              rw [cellsOf_info hi1, hi2] at hy
              cases hcs : W.cells? 0 (a.add (0 * T.size e)) (T.size e) with
              | none => rw [hcs] at hy; cases hy
              | some ci =>
                obtain ⟨_, h2, h3⟩ := World.cells?_some hcs
                have h4 := h3 0 hpos
                have h5 : ci[0]? = some ci[0] := by simp
                rw [h5] at h4
                have := World.cell?_spot h4
                simpa [Addr.add] using this
            by_cases hl0 : 0 < len
            · have := he 0 hl0
              have hx : elems[0]? = some elems[0] := by simp
              exact key 0 _ rfl (this.trans hx)
            · have hr2 := hrest rfl
              have := hr2.2 0 (by omega)
              have h0 : 0 < rest.length := by omega
              have hx : rest[0]? = some rest[0] := by simp
              exact key _ _ (by omega) (this.trans hx)
          obtain ⟨b, off, sp⟩ := a
          simp only at hspot
          subst hspot
          obtain ⟨l, cs, hr, hn, hat, gl⟩ := sl_R (T := T) (W := W) (gA := gA) ct b (T.size e) len off fun i hi => by
            have := he i hi
            have hx : elems[i]? = some elems[i] := by simp [hel, hi]
            rw [hx, cellsOf_info hi1, hi2] at this
            cases hcs : W.cells? 0 ((⟨b, off, none⟩ : Addr).add (i * T.size e)) (T.size e) with
            | none => simp [hcs] at this
            | some ci =>
              simp only [hcs, Option.bind_some] at this
              obtain ⟨_, h2, h3⟩ := World.cells?_some hcs
              obtain ⟨d, k1, k2, k3, k4⟩ := ih e hp m _ _ this
              obtain ⟨x, k5, k6⟩ := hd.dec ct d (by rw [← fit_congr hs2]; exact k2) k4 k3 ⟨k, e, hs2, hp⟩
              refine ⟨x, ci, K.base.decR _ _ _ _ _ k5 k1, h2, fun j hj => ?_, k6⟩
              have := h3 j hj
              rwa [add_plain, add_plain] at this
          subst hn
          exact ⟨.sl ct false l, .sl hat hr hlc (by simp), by simp [fit, ht], ⟨by omega, gl⟩, rfl⟩
    · cases hp

theorem okWide_row (K : PLaws P T) {W : World} {r : Reach} {base : Nat} {t : TypeId} {v : Value} {d : D C} (hv : Value.okWide P W r base t v) (hp : ∃ k, plainT T k t = true) (hf : fit T d (.inl t) = true) (hr : R T (X0 W) false d v.cells.toList) (hrf : d.refs = []) : RV T (X0 W) d v := by
  obtain ⟨k, hp⟩ := hp
  cases k with
  | zero => simp [plainT] at hp
  | succ k =>
    unfold plainT at hp
    split at hp
    · rename_i ht
      obtain ⟨b, rfl⟩ := okWide_bool (K.uBool t ht) hv
      refine .inr ⟨?_, by simpa [Value.cells] using hr⟩
      cases d <;> simp [fit, ht] at hf <;> rfl
    · rename_i kd ht
      obtain ⟨b, rfl⟩ := okWide_int (K.uInt t kd ht) hv
      refine .inr ⟨?_, by simpa [Value.cells] using hr⟩
      cases d <;> simp [fit, ht] at hf <;> rfl
    · rename_i ht
      obtain ⟨b, rfl⟩ := okWide_string (K.uStr t ht) hv
      refine .inr ⟨?_, by simpa [Value.cells] using hr⟩
      cases d <;> simp [fit, ht] at hf <;> rfl
    · rename_i isA fs ht
      have : ∃ cs, v = .agg cs := by
        cases isA with
        | false =>
          obtain ⟨fields, hu, _⟩ := K.uStruct t fs ht
          obtain ⟨cs, rfl, _⟩ := okWide_struct hu hv
          exact ⟨cs, rfl⟩
        | true =>
          obtain ⟨el, hu, _⟩ := K.uRow t fs ht
          simp only [Value.okWide, hu] at hv
          obtain ⟨cs, rfl, _⟩ := hv
          exact ⟨cs, rfl⟩
      obtain ⟨cs, rfl⟩ := this
      refine .inl ⟨?_, cs.toList, by simpa [Value.cells] using hr, rfl⟩
      cases d <;> simp [fit, ht] at hf <;> rfl
    · rename_i n e ct ht
      obtain ⟨hu, _⟩ := K.uArr t n e ct ht
      have : ∃ cs, v = .agg cs := by
        simp only [Value.okWide, hu] at hv
        obtain ⟨cs, rfl, _⟩ := hv
        exact ⟨cs, rfl⟩
      obtain ⟨cs, rfl⟩ := this
      refine .inl ⟨?_, cs.toList, by simpa [Value.cells] using hr, rfl⟩
      cases d <;> simp [fit, ht] at hf <;> rfl
    · rename_i e ct ht
      obtain ⟨a, len, cap, rfl⟩ := okWide_slice (K.uSl t e ct ht) hv
      refine .inr ⟨?_, by simpa [Value.cells] using hr⟩
      cases d <;> simp [fit, ht] at hf <;> rfl
    · cases hp

/-- the arguments, al the evaluator has them -/
inductive Fits (T : Tab C) (gA : (t : C.Ty) → C.A t → Prop) : List TypeId → List (D C) → Prop
  | nil : Fits T gA [] []
  | cons {t : TypeId} {ts : List TypeId} {d : D C} {ds : List (D C)} (hf : fit T d (.inl t) = true) (hg : good gA d) (hr : d.refs = []) (h : Fits T gA ts ds) : Fits T gA (t :: ts) (d :: ds)

theorem Fits.refs {ts : List TypeId} {ds : List (D C)} (h : Fits T gA ts ds) : ∀ a ∈ ds, D.refs a = [] := by
  induction h with
  | nil => simp
  | cons _ _ hr _ ih => simpa using ⟨hr, ih⟩

theorem trodAll_R (K : PLaws P T) (hd : Dec T gA) {H : Type} {enc : TypeId × Value → H} {W : World} {r : Reach} {base : Nat} : ∀ (ts : List TypeId) (vs : List Value) (ds : List (DataW H)) (ps : List MemPlace), (∀ t ∈ ts, ∃ k, plainT T k t = true) →
    (∀ (j : Nat) t v, ts[j]? = some t → vs[j]? = some v → Value.okWide P W r base t v) → DataW.TrodAll enc P W 0 (fun _ => true) true ts vs ds ps → ∃ al, Fits T gA ts al ∧ RVs T (X0 W) al vs
  | [], vs, ds, ps, _, _, h => by
    obtain ⟨rfl, rfl, rfl⟩ := trodAll_nil h
    exact ⟨[], .nil, .nil⟩
  | t :: ts, vs, ds, ps, hp, hv, h => by
    obtain ⟨v, vs1, d, ds1, p, q, rfl, rfl, rfl, ⟨fuel, h1⟩, h2⟩ := trodAll_cons h
    obtain ⟨al, f1, r1⟩ := trodAll_R K hd ts vs1 ds1 q (fun t ht => hp t (by simp [ht])) (fun j t v a b => hv (j + 1) t v (by simpa using a) (by simpa using b)) h2
    obtain ⟨k, hk⟩ := hp t (by simp)
    obtain ⟨a, k1, k2, k3, k4⟩ := trod_R K hd k t hk fuel _ _ h1
    exact ⟨a :: al, .cons k2 k3 k4 f1, .cons (okWide_row K (hv 0 t v rfl rfl) ⟨k, hk⟩ k2 k1 k4) r1⟩

theorem stays (hl : laidOutB P = true) {H : Type} {enc : TypeId × Value → H} {W W' : World} {sp : Nat → Bool} : ∀ (ts : List TypeId) (vs : List Value) (ds : List (DataW H)) (ps : List MemPlace), (∀ t ∈ ts, P.readableRec t = true ∧ t < P.types.size) →
    DataW.TrodAll enc P W 0 (fun _ => true) true ts vs ds ps → (∀ p ∈ ps, W.sameAt W' p) → (∀ p ∈ ps, sp p.block = true) → DataW.TrodAll enc P W' 0 sp true ts vs ds ps
  | [], vs, ds, ps, _, h, _, _ => by
    obtain ⟨rfl, rfl, rfl⟩ := trodAll_nil h
    exact trodAll_mk0
  | t :: ts, vs, ds, ps, ht, h, h3, h4 => by
    obtain ⟨v, vs1, d, ds1, p, q, rfl, rfl, rfl, h1, h2⟩ := trodAll_cons h
    exact trodAll_cons_mk (WideElems.Trod_stays hl (ht t (by simp)).1 (ht t (by simp)).2 h1 (fun x hx => h3 x (by simp [hx])) (fun x hx => h4 x (by simp [hx])))
      (stays hl ts vs1 ds1 q (fun t h => ht t (by simp [h])) h2 (fun x hx => h3 x (by simp [hx])) (fun x hx => h4 x (by simp [hx])))

/-- 'true for every input', out of what the evaluator says -/
theorem contract_of (K : PLaws P T) {Φ : Fns C} (F : FLaws P T Φ) (hd : Dec T gA) (hl : laidOutB P = true) {f : FuncId} {fn : Func} {s : ChangeSpec} {tb : TypeId} {m : Nat}
    (hres : fn.resultTypes = #[tb]) (hb : P.underlying tb = some .bool) (hvars : s.vars = [])
    (hts : fn.params.toList.all (fun t => plainT T m t && P.readableRec t && Nat.blt t P.types.size) = true)
    (hspec : ∀ (H : Type) (ds : List (DataW H)), ds.length = fn.params.toList.length → s.fn H ds = { results := [.lit (.bool true)], args := ds })
    (hev : ∀ ds : List (D C), Fits T gA fn.params.toList ds → ∃ n, evF T Φ n f ds = some (.bool true))
    (H : Type) (enc : TypeId × Value → H) (W : World) (base : Nat) (args : Array Value) (ds gs : List (DataW H)) (before : List MemPlace)
    (hval : ∀ (j : Nat) t v, fn.params[j]? = some t → args[j]? = some v → Value.okWide P W .any base t v)
    (hW : DataW.Whole enc P fn.params.toList s.vars false W args.toList ds gs before) :
    Calls P f args W fun e W' => ∃ v, e = .returned v ∧ s.post enc P fn false true false false W args v W' := by
  have hts' : ∀ t ∈ fn.params.toList, plainT T m t = true ∧ P.readableRec t = true ∧ t < P.types.size := by
    intro t ht
    have := List.all_eq_true.1 hts t ht
    simp only [Bool.and_eq_true] at this
    exact ⟨this.1.1, this.1.2, by simpa [Nat.blt_eq] using this.2⟩
  have hW' := hW
  obtain ⟨p, q, hA, hV, rfl, hfz, hnd⟩ := hW
  rw [hvars] at hV
  obtain ⟨rfl, rfl⟩ := trodVars_none hV
  obtain ⟨al, hf, hr⟩ := trodAll_R (gA := gA) K hd (r := .any) (base := base) _ _ _ _ (fun t ht => ⟨m, (hts' t ht).1⟩) (fun j t v a b => hval j t v (by rw [← Array.getElem?_toList]; exact a) (by rw [← Array.getElem?_toList]; exact b)) hA
  obtain ⟨n, hn⟩ := hev al hf
  have hc := (evF_calls K F hn hf.refs W (fun _ _ => False) (fun _ _ h => h.elim) (vs := args.toList) hr).2
  have ea : (⟨args.toList⟩ : Array Value) = args := by simp
  rw [ea] at hc
  refine hc.mono fun e W' hp => ?_
  obtain ⟨v, ρ, rfl, rv, a1, a2, a3, a4, a5, a6⟩ := hp
  obtain rfl := rv.bool
  have hlen : ds.length = fn.params.toList.length := by
    have : ∀ (ts : List TypeId) (vs : List Value) (ds : List (DataW H)) (ps : List MemPlace), DataW.TrodAll enc P W 0 (fun _ => true) true ts vs ds ps → ds.length = ts.length := by
      intro ts
      induction ts with
      | nil => intro vs ds ps h; obtain ⟨rfl, rfl, rfl⟩ := trodAll_nil h; rfl
      | cons t ts ih =>
        intro vs ds ps h
        obtain ⟨v, vs1, d, ds1, p, q, rfl, rfl, rfl, h1, h2⟩ := trodAll_cons h
        simp [ih _ _ _ h2]
    exact this _ _ _ _ hA
  have hs := hspec H ds hlen
  have hbel : Below W.heap.size W W' := ⟨a3, a4, a5, a1, a2⟩
  have hlt : ∀ x ∈ p, x.block < W.heap.size := fun x hx => by simpa using hW'.lt x (by simpa using hx)
  refine ⟨_, rfl, post_of_same (pa := p) (pv := []) hW' ?_ ?_ ?_ (by simp) (hbel.frame _) a6 ?_⟩
  · intro b sp hd
    simp only [List.append_nil]
    rw [hs, hres]
    exact trodAll_cons_mk (p := []) (p' := []) (shut_bool hb _) trodAll_mk0
  · intro sp hsp
    simp only [List.append_nil] at hsp ⊢
    rw [hs]
    exact stays hl _ _ _ _ (fun t ht => (hts' t ht).2) hA (fun x hx => hbel.same (hlt x hx)) hsp
  · intro sp hsp
    simp only [List.append_nil]
    rw [hs, hvars]
    rfl
  · exact ok_one hres rfl (okWide_bool_mk hb _)

end
end Go.Ev

/-
  What a value of an argument's type is, alike in all seats.
-/
namespace Go.Ev
set_option linter.unusedVariables false
set_option linter.unusedSimpArgs false
def i64 (n : Int) : Prop := -9223372036854775808 ≤ n ∧ n ≤ 9223372036854775807
def inK (k : IntKind) (n : Int) : Prop := k.min ≤ n ∧ n ≤ k.max
theorem i64_of {n : Int} (h : IntKind.i64.min ≤ n ∧ n ≤ IntKind.i64.max) : i64 n := by
  simpa [i64, IntKind.min, IntKind.max, IntKind.signed, IntKind.bits] using h
section
variable {C : Cdc} {T : Tab C} {d : D C} {u : TypeId}
theorem fit_int {k : IntKind} (hu : T.ty u = .int k) (hf : fit T d (.inl u) = true) : ∃ n, d = .int k n := by
  cases d <;> simp [fit, hu] at hf
  subst hf; exact ⟨_, rfl⟩
theorem fit_bool (hu : T.ty u = .bool) (hf : fit T d (.inl u) = true) : ∃ n, d = .bool n := by
  cases d <;> simp [fit, hu] at hf
  exact ⟨_, rfl⟩
theorem fit_str (hu : T.ty u = .str) (hf : fit T d (.inl u) = true) : ∃ n, d = .str n := by
  cases d <;> simp [fit, hu] at hf
  exact ⟨_, rfl⟩
theorem fit_sl {e : TypeId} {t : C.Ty} (hu : T.ty u = .sl e t) (hf : fit T d (.inl u) = true) (hr : d.refs = []) : ∃ c l, d = .sl t c l := by
  cases d <;> simp [fit, hu] at hf
  · subst hf; exact ⟨_, _, rfl⟩
  · simp [D.refs] at hr
theorem fit_arr {e : TypeId} {t : C.Ty} {n : Nat} (hu : T.ty u = .arr n e t) (hf : fit T d (.inl u) = true) : ∃ l, d = .arr t n l := by
  cases d <;> simp [fit, hu] at hf
  obtain ⟨h1, h2⟩ := hf
  subst h1; subst h2; exact ⟨_, rfl⟩
theorem fit_st {a : Bool} {f : TypeId} {fs : List TypeId} (hu : T.ty u = .struct a (f :: fs)) (hf : fit T d (.inl u) = true) : ∃ x y, d = .acons x y ∧ fit T x (.inl f) = true ∧ fit T y (.inr fs) = true := by
  cases d <;> simp [fit, hu] at hf
  exact ⟨_, _, rfl, hf.1, hf.2⟩
theorem fit_more {f : TypeId} {fs : List TypeId} (hf : fit T d (.inr (f :: fs)) = true) : ∃ a b, d = .acons a b ∧ fit T a (.inl f) = true ∧ fit T b (.inr fs) = true := by
  cases d <;> simp [fit] at hf
  exact ⟨_, _, rfl, hf.1, hf.2⟩
theorem fit_end (hf : fit T d (.inr []) = true) : d = .anil := by
  cases d <;> simp [fit] at hf
  rfl
theorem three {α : Type} {l : List α} (h : l.length = 3) : ∃ a b c, l = [a, b, c] := by
  match l, h with
  | [a, b, c], _ => exact ⟨a, b, c, rfl⟩
end
end Go.Ev

/-
  Values of arguments: what a value of a type is. (Printed by gencod.py.)
-/
namespace Go.Ev
open Go.Proofs Go.ChangeShapes Go.WideShapes Go.ChangeAt Go.RowKit
set_option linter.unusedVariables false
set_option linter.unusedSimpArgs false
set_option maxRecDepth 100000

def goodWrite (x : Write) : Prop := i64 (x.key) ∧ i64 (x.value)
def goodItem (x : Item) : Prop := i64 (x.key) ∧ i64 (x.place) ∧ i64 (x.value)
def goodLine (x : Line) : Prop := i64 (x.offset) ∧ i64 (x.place) ∧ i64 (x.j) ∧ i64 (x.key) ∧ i64 (x.value)
def goodRec (x : Rec) : Prop := i64 (x.place) ∧ True ∧ ((x.writes).length ≤ maxLen ∧ ∀ y ∈ (x.writes), goodWrite (y))
def rGood : (t : RTy) → RA t → Prop
  | .int => fun (x : Int) => i64 (x)
  | .item => fun (x : Item) => goodItem (x)
  | .line => fun (x : Line) => goodLine (x)
  | .u8 => fun (x : UInt8) => True
  | .write => fun (x : Write) => goodWrite (x)
theorem ty41 : s05.ty 41 = .struct false [3, 3] := by kernel_rfl
theorem ty3 : s05.ty 3 = .int .i64 := by kernel_rfl
theorem asWrite {d : D RC} (hf : fit s05 d (.inl 41) = true) (hg : good rGood d) (hr : d.refs = []) : ∃ x : Write, d = eWrite x ∧ goodWrite x := by
  obtain ⟨d0, r0, rfl, f0, hf⟩ := fit_st ty41 hf
  obtain ⟨d1, r1, rfl, f1, hf⟩ := fit_more hf
  obtain rfl := fit_end hf
  simp only [D.refs, List.append_eq_nil_iff] at hr
  obtain ⟨g0, g1, _⟩ := hg
  obtain ⟨q0, q1, _⟩ := hr
  obtain ⟨n0, rfl⟩ := fit_int ty3 f0
  obtain ⟨n1, rfl⟩ := fit_int ty3 f1
  exact ⟨⟨n0, n1⟩, rfl, i64_of g0, i64_of g1⟩
theorem dWrite_e (x : Write) (hx : goodWrite x) : dWrite (eWrite x) = some x := by
  simp only [goodWrite] at hx
  simp [dWrite, eWrite, D.asList, asArrN, hx]
theorem ty36 : s05.ty 36 = .struct false [3, 3, 3] := by kernel_rfl
theorem asItem {d : D RC} (hf : fit s05 d (.inl 36) = true) (hg : good rGood d) (hr : d.refs = []) : ∃ x : Item, d = eItem x ∧ goodItem x := by
  obtain ⟨d0, r0, rfl, f0, hf⟩ := fit_st ty36 hf
  obtain ⟨d1, r1, rfl, f1, hf⟩ := fit_more hf
  obtain ⟨d2, r2, rfl, f2, hf⟩ := fit_more hf
  obtain rfl := fit_end hf
  simp only [D.refs, List.append_eq_nil_iff] at hr
  obtain ⟨g0, g1, g2, _⟩ := hg
  obtain ⟨q0, q1, q2, _⟩ := hr
  obtain ⟨n0, rfl⟩ := fit_int ty3 f0
  obtain ⟨n1, rfl⟩ := fit_int ty3 f1
  obtain ⟨n2, rfl⟩ := fit_int ty3 f2
  exact ⟨⟨n0, n1, n2⟩, rfl, i64_of g0, i64_of g1, i64_of g2⟩
theorem dItem_e (x : Item) (hx : goodItem x) : dItem (eItem x) = some x := by
  simp only [goodItem] at hx
  simp [dItem, eItem, D.asList, asArrN, hx]
theorem ty38 : s05.ty 38 = .struct false [3, 3, 3, 3, 3] := by kernel_rfl
theorem asLine {d : D RC} (hf : fit s05 d (.inl 38) = true) (hg : good rGood d) (hr : d.refs = []) : ∃ x : Line, d = eLine x ∧ goodLine x := by
  obtain ⟨d0, r0, rfl, f0, hf⟩ := fit_st ty38 hf
  obtain ⟨d1, r1, rfl, f1, hf⟩ := fit_more hf
  obtain ⟨d2, r2, rfl, f2, hf⟩ := fit_more hf
  obtain ⟨d3, r3, rfl, f3, hf⟩ := fit_more hf
  obtain ⟨d4, r4, rfl, f4, hf⟩ := fit_more hf
  obtain rfl := fit_end hf
  simp only [D.refs, List.append_eq_nil_iff] at hr
  obtain ⟨g0, g1, g2, g3, g4, _⟩ := hg
  obtain ⟨q0, q1, q2, q3, q4, _⟩ := hr
  obtain ⟨n0, rfl⟩ := fit_int ty3 f0
  obtain ⟨n1, rfl⟩ := fit_int ty3 f1
  obtain ⟨n2, rfl⟩ := fit_int ty3 f2
  obtain ⟨n3, rfl⟩ := fit_int ty3 f3
  obtain ⟨n4, rfl⟩ := fit_int ty3 f4
  exact ⟨⟨n0, n1, n2, n3, n4⟩, rfl, i64_of g0, i64_of g1, i64_of g2, i64_of g3, i64_of g4⟩
theorem dLine_e (x : Line) (hx : goodLine x) : dLine (eLine x) = some x := by
  simp only [goodLine] at hx
  simp [dLine, eLine, D.asList, asArrN, hx]
theorem ty27 : s05.ty 27 = .struct false [3, 4, 22] := by kernel_rfl
theorem ty4 : s05.ty 4 = .bool := by kernel_rfl
theorem ty22 : s05.ty 22 = .sl 41 .write := by kernel_rfl
theorem asRec {d : D RC} (hf : fit s05 d (.inl 27) = true) (hg : good rGood d) (hr : d.refs = []) : ∃ (x : Rec) (c0 : Bool), d = eRecC x c0 ∧ goodRec x := by
  obtain ⟨d0, r0, rfl, f0, hf⟩ := fit_st ty27 hf
  obtain ⟨d1, r1, rfl, f1, hf⟩ := fit_more hf
  obtain ⟨d2, r2, rfl, f2, hf⟩ := fit_more hf
  obtain rfl := fit_end hf
  simp only [D.refs, List.append_eq_nil_iff] at hr
  obtain ⟨g0, g1, g2, _⟩ := hg
  obtain ⟨q0, q1, q2, _⟩ := hr
  obtain ⟨n0, rfl⟩ := fit_int ty3 f0
  obtain ⟨n1, rfl⟩ := fit_bool ty4 f1
  obtain ⟨k2, n2, rfl⟩ := fit_sl ty22 f2 q2
  exact ⟨⟨n0, n1, n2⟩, k2, rfl, i64_of g0, trivial, g2⟩
theorem dRec_e (x : Rec) (c0 : Bool) (hx : goodRec x) : dRec (eRecC x c0) = some x := by
  simp only [goodRec] at hx
  simp [dRec, eRecC, D.asList, asArrN, hx]
theorem ty33 : s05.ty 33 = .struct false [3, 28, 30, 31] := by kernel_rfl
theorem ty28 : s05.ty 28 = .sl 36 .item := by kernel_rfl
theorem ty30 : s05.ty 30 = .struct true [29, 29, 29] := by kernel_rfl
theorem ty31 : s05.ty 31 = .arr 3 3 .int := by kernel_rfl
theorem ty29 : s05.ty 29 = .sl 38 .line := by kernel_rfl
def stC (s : St) (ci k0 k1 k2 : Bool) : D RC := .acons (.int .i64 s.place) (.acons (.sl (C := RC) .item ci s.items) (.acons (.acons (.sl (C := RC) .line k0 s.l0) (.acons (.sl (C := RC) .line k1 s.l1) (.acons (.sl (C := RC) .line k2 s.l2) .anil))) (.acons (.arr (C := RC) .int 3 [s.c0, s.c1, s.c2]) .anil)))
def goodSt (s : St) : Prop := i64 s.place ∧ (s.items.length ≤ maxLen ∧ ∀ x ∈ s.items, goodItem x) ∧ (s.l0.length ≤ maxLen ∧ ∀ x ∈ s.l0, goodLine x) ∧ (s.l1.length ≤ maxLen ∧ ∀ x ∈ s.l1, goodLine x) ∧ (s.l2.length ≤ maxLen ∧ ∀ x ∈ s.l2, goodLine x) ∧ i64 s.c0 ∧ i64 s.c1 ∧ i64 s.c2
theorem asState {d : D RC} (hf : fit s05 d (.inl 33) = true) (hg : good rGood d) (hr : d.refs = []) : ∃ (x : St) (ci k0 k1 k2 : Bool), d = stC x ci k0 k1 k2 ∧ goodSt x := by
  obtain ⟨d0, r0, rfl, f0, hf⟩ := fit_st ty33 hf
  obtain ⟨d1, r1, rfl, f1, hf⟩ := fit_more hf
  obtain ⟨d2, r2, rfl, f2, hf⟩ := fit_more hf
  obtain ⟨d3, r3, rfl, f3, hf⟩ := fit_more hf
  obtain rfl := fit_end hf
  obtain ⟨e0, r0, rfl, h0, hf⟩ := fit_st ty30 f2
  obtain ⟨e1, r1, rfl, h1, hf⟩ := fit_more hf
  obtain ⟨e2, r2, rfl, h2, hf⟩ := fit_more hf
  obtain rfl := fit_end hf
  simp only [D.refs, List.append_eq_nil_iff] at hr
  obtain ⟨g0, g1, ⟨a0, a1, a2, _⟩, g3, _⟩ := hg
  obtain ⟨q0, q1, ⟨b0, b1, b2, _⟩, q3, _⟩ := hr
  obtain ⟨n, rfl⟩ := fit_int ty3 f0
  obtain ⟨ci, l, rfl⟩ := fit_sl ty28 f1 q1
  obtain ⟨k0, l0, rfl⟩ := fit_sl ty29 h0 b0
  obtain ⟨k1, l1, rfl⟩ := fit_sl ty29 h1 b1
  obtain ⟨k2, l2, rfl⟩ := fit_sl ty29 h2 b2
  obtain ⟨cs, rfl⟩ := fit_arr ty31 f3
  obtain ⟨g5, g6⟩ := g3
  obtain ⟨c0, c1, c2, rfl⟩ := three g5
  simp only [List.mem_cons, forall_eq_or_imp, List.not_mem_nil, false_implies, implies_true, and_true] at g6
  exact ⟨⟨n, l, l0, l1, l2, c0, c1, c2⟩, ci, k0, k1, k2, rfl, i64_of g0, g1, a0, a1, a2, g6.1, g6.2.1, g6.2.2⟩
theorem ty5 : s05.ty 5 = .int .u8 := by kernel_rfl
theorem decs : Dec s05 rGood where
  dec t d hf hr hg _ := by
    cases t with
    | int =>
      obtain ⟨n, rfl⟩ := fit_int ty3 hf
      exact ⟨n, by simp [s05, mkTab, rCod, rDec, dIntK], i64_of hg⟩
    | item =>
      obtain ⟨x, rfl, hx⟩ := asItem hf hg hr
      exact ⟨x, dItem_e x hx, hx⟩
    | line =>
      obtain ⟨x, rfl, hx⟩ := asLine hf hg hr
      exact ⟨x, dLine_e x hx, hx⟩
    | u8 =>
      obtain ⟨n, rfl⟩ := fit_int ty5 hf
      exact ⟨_, rfl, trivial⟩
    | write =>
      obtain ⟨x, rfl, hx⟩ := asWrite hf hg hr
      exact ⟨x, dWrite_e x hx, hx⟩
theorem own : ownKnob Try.prog.godebug = none := by kernel_rfl
theorem laidOut : laidOutB Try.prog = true := by kernel_rfl
end Go.Ev

/-
  RecordTells returns true for all records and states, and all read behind the call as before. No condition beyond the given statement.
-/
namespace Go.Proofs.Ytnphmfcnnpoinaa
open Go.ChangeShapes Go.WideShapes Go.ChangeAt Go.RowKit Go.Ev
set_option linter.unusedVariables false
set_option maxRecDepth 100000

namespace recordTells
theorem ev (ds : List (D RC)) (h : Fits s05 rGood Try.f8.params.toList ds) : ∃ n, evF s05 uk_4 n 8 ds = some (.bool true) := by
  rw [Try.params8] at h
  cases h with
  | cons hf0 hg0 hr0 h =>
  cases h with
  | cons hf1 hg1 hr1 h =>
  cases h with
  | cons hf2 hg2 hr2 h =>
  cases h with
  | cons hf3 hg3 hr3 h =>
  cases h with
  | nil =>
    obtain ⟨a, ac, rfl, oa⟩ := asRec hf0 hg0 hr0
    obtain ⟨d, dc, rfl, od⟩ := asRec hf1 hg1 hr1
    obtain ⟨s, ci, k0, k1, k2, rfl, os⟩ := asState hf2 hg2 hr2
    obtain ⟨t, di, j0, j1, j2, rfl, ot⟩ := asState hf3 hg3 hr3
    have key := tells_ok a.place a.yes ac a.writes d.place d.yes dc d.writes s.place ci s.items k0 k1 k2 s.l0 s.l1 s.l2 s.c0 s.c1 s.c2 t.place di t.items j0 j1 j2 t.l0 t.l1 t.l2 t.c0 t.c1 t.c2 ?_
    · unfold tells_e at key
      refine ⟨60, ?_⟩
      simp only [eRecC, stC]
      exact key
    have h1 := oa.2.2.1
    have h2 := od.2.2.1
    have h3 := os.2.1.1
    have h4 := os.2.2.1.1
    have h5 := os.2.2.2.1.1
    have h6 := os.2.2.2.2.1.1
    have h7 := ot.2.1.1
    have h8 := ot.2.2.1.1
    have h9 := ot.2.2.2.1.1
    have h10 := ot.2.2.2.2.1.1
    simp only [lenOK_of h1, lenOK_of h2, lenOK_of h3, lenOK_of h4, lenOK_of h5, lenOK_of h6, lenOK_of h7, lenOK_of h8, lenOK_of h9, lenOK_of h10, Bool.and_self]

theorem lifted (os : Os) (started : os.Started) (H : Type) (enc : TypeId × Value → H) :
    ReturnsInHanded {} Try.checked os 8 .any (Rows.recordTellsSpec.pre6 enc Try.prog Try.f8 Rows.recordTellsRow.domain false) (Rows.recordTellsSpec.post enc Try.prog Try.f8 false true false false) := by
  refine returnsInHanded_of_change (C := Try.checked) own started (by kernel_rfl) Try.func8
    (ChangeSpec.witness6 (enc := enc) (C := Try.checked) false ⟨#[], #[.agg #[.int .i64 0, .bool false, .slice none 0 0], .agg #[.int .i64 0, .bool false, .slice none 0 0], .agg #[.int .i64 0, .slice none 0 0, .slice none 0 0, .slice none 0 0, .slice none 0 0, .int .i64 0, .int .i64 0, .int .i64 0], .agg #[.int .i64 0, .slice none 0 0, .slice none 0 0, .slice none 0 0, .slice none 0 0, .int .i64 0, .int .i64 0, .int .i64 0]], []⟩ 8 (by kernel_rfl) (by kernel_rfl) (by kernel_rfl) (by kernel_rfl)) ?_
  intro W base args ds gs before hval hW _ _
  refine contract_of (gA := rGood) (m := 8) s05_laws uk_4_laws decs laidOut (tb := 4) (by kernel_rfl) Try.underlying4 rfl (by kernel_rfl) ?_ ev H enc W base args ds gs before hval hW
  intro H ds h
  rw [Try.params8] at h
  match ds, h with
  | [d0, d1, d2, d3], _ => rfl

theorem over : Rows.recordTellsRow.holds Try.pinned (OpenSpec.ofChange Rows.recordTellsSpec) :=
  OpenClaim.holds_of_wide 8 Try.f8 rfl rfl rfl rfl rfl rfl rfl ⟨rfl, rfl, rfl, rfl, rfl⟩ rfl rfl rfl rfl rfl (by kernel_rfl) Try.func8 (by kernel_rfl)
    (of_decide_eq_true (by kernel_rfl)) (by unfold Func.isWrapper; first | (rw [if_pos (by decide +kernel)]; kernel_rfl) | (rw [if_neg (by decide +kernel)]; exact ⟨rfl, rfl⟩))
    (fun os started H enc _ => lifted os started H enc)
theorem proved : Rows.RecordTellsSaid := over
end recordTells
#print axioms recordTells.proved
end Go.Proofs.Ytnphmfcnnpoinaa
