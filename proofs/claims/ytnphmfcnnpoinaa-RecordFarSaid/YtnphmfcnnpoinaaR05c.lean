import Derived.Test.YtnphmfcnnpoinaaR05b
import Derived.Test.YtnphmfcnnpoinaaEvO2
namespace Go.Ev
open Go.Proofs
set_option maxRecDepth 100000
set_option linter.unusedVariables false
set_option linter.unusedSimpArgs false

/-! ### Stands' tests of two -/
def twoI (x y : Item) : Bool := decide (x.key < y.key)
def s37 : List (D RC) → Option (Bool × D RC)
  | [.acons (.int .i64 a) (.acons (.int .i64 b) (.acons (.int .i64 c) .anil)), .acons (.int .i64 d) (.acons (.int .i64 e) (.acons (.int .i64 f) .anil))] => some (true, .bool (twoI ⟨a, b, c⟩ ⟨d, e, f⟩))
  | _ => none
noncomputable def e37 (a b c d e f : Int) := evF s05 f6 20 37 [.acons (.int .i64 a) (.acons (.int .i64 b) (.acons (.int .i64 c) .anil)), .acons (.int .i64 d) (.acons (.int .i64 e) (.acons (.int .i64 f) .anil))]
theorem e37_eq (a b c d e f : Int) : e37 a b c d e f = (Option.some (Go.Ev.D.bool (Decidable.decide (a < d)))) := by kernel_rfl
noncomputable def g1 := f6.addSpec 37 s37
theorem g1_laws : FLaws Try.prog s05 g1 := f6_laws.addEv s05_laws fun args d h => by
  unfold s37 at h
  split at h
  · cases h
    exact ⟨by simp [D.refs], 20, e37_eq _ _ _ _ _ _⟩
  · cases h
def twoL (x y : Line) : Bool := (y.offset == IntKind.i64.wrap (x.offset + 1)) && (decide (x.place < y.place) || (x.place == y.place && decide (x.j < y.j)))
def dLn (x : Line) : D RC := rEnc .line x
def s40 : List (D RC) → Option (Bool × D RC)
  | [.acons (.int .i64 a) (.acons (.int .i64 b) (.acons (.int .i64 c) (.acons (.int .i64 d) (.acons (.int .i64 e) .anil)))), .acons (.int .i64 a') (.acons (.int .i64 b') (.acons (.int .i64 c') (.acons (.int .i64 d') (.acons (.int .i64 e') .anil))))] =>
    some (true, .bool (twoL ⟨a, b, c, d, e⟩ ⟨a', b', c', d', e'⟩))
  | _ => none
noncomputable def e40 (x y : Line) := evF s05 g1 20 40 [dLn x, dLn y]
theorem e40_eq (x y : Line) : e40 x y = (bif Go.Ev.Line.offset y == Go.IntKind.wrap Go.IntKind.i64 (Go.Ev.Line.offset x + (1 : Int)) then bif Decidable.decide (Go.Ev.Line.place x < Go.Ev.Line.place y) then Option.some (Go.Ev.D.bool Bool.true) else bif Go.Ev.Line.place x == Go.Ev.Line.place y then Option.some (Go.Ev.D.bool (Decidable.decide (Go.Ev.Line.j x < Go.Ev.Line.j y))) else Option.some (Go.Ev.D.bool Bool.false) else Option.some (Go.Ev.D.bool Bool.false)) := by kernel_rfl
noncomputable def g2 := g1.addSpec 40 s40
theorem g2_laws : FLaws Try.prog s05 g2 := g1_laws.addEv s05_laws fun args d h => by
  unfold s40 at h
  split at h
  · rename_i a b c d e a' b' c' d' e'
    cases h
    refine ⟨by simp [D.refs], 20, ?_⟩
    show e40 ⟨a, b, c, d, e⟩ ⟨a', b', c', d', e'⟩ = _
    rw [e40_eq]
    simp only [twoL]
    cases (a' == IntKind.i64.wrap (a + 1)) <;> cases decide (b < b') <;> cases (b == b') <;> simp
  · cases h

/-! ### each[Item], within Stands -/
def oneI (p : Int) (x : Item) : Bool := within x.key 0 23 && within x.place 1 p && within x.value 0 255
def c35 (c : Bool) (l : List Item) (i : Int) : Env RC := [(0, .sl (C := RC) .item c l), (1, .fn 36 (.acons (.ptr 0 []) .anil)), (2, .fn 37 .anil), (6, .bool false), (9, .int .i64 l.length), (10, .int .i64 i)]
def o35 (p : Int) (r : D RC) : List (Obj RC) := [.var 33 (.acons (.int .i64 p) r)]
noncomputable def r35 (p : Int) (r : D RC) (c : Bool) (l : List Item) (i : Int) := rndO s05 g2 35 2 40 1 [0, 1, 2, 6, 9, 10] [6] (c35 c l i) (o35 p r)
theorem r35_eq (p : Int) (r : D RC) (c : Bool) (l : List Item) (i : Int) : r35 p r c l i = (bif Decidable.decide (i < (↑(List.length l) : Int)) then bif Decidable.decide ((0 : Int) ≤ i ∧ i < (↑(List.length l) : Int)) then bif Go.Ev.within (Go.Ev.Item.key (List.getD l (Int.toNat i) (Go.Ev.Item.mk (0 : Int) (0 : Int) (0 : Int)))) (0 : Int) (23 : Int) then bif Go.Ev.within (Go.Ev.Item.place (List.getD l (Int.toNat i) (Go.Ev.Item.mk (0 : Int) (0 : Int) (0 : Int)))) (1 : Int) p then bif !Go.Ev.within (Go.Ev.Item.value (List.getD l (Int.toNat i) (Go.Ev.Item.mk (0 : Int) (0 : Int) (0 : Int)))) (0 : Int) (255 : Int) then Option.some ((Go.Ev.X.ret, [((6 : Nat), Go.Ev.D.bool Bool.false)]), [Option.some (Go.Ev.Obj.var (33 : Nat) (Go.Ev.D.acons (Go.Ev.D.int Go.IntKind.i64 p) r))]) else bif Decidable.decide ((0 : Int) < i) then bif Decidable.decide ((0 : Int) ≤ Go.IntKind.wrap Go.IntKind.i64 (i - (1 : Int)) ∧ Go.IntKind.wrap Go.IntKind.i64 (i - (1 : Int)) < (↑(List.length l) : Int)) then bif Decidable.decide ((0 : Int) ≤ i ∧ i < (↑(List.length l) : Int)) then bif !Go.Ev.twoI (Go.Ev.Item.mk (Go.Ev.Item.key (List.getD l (Int.toNat (Go.IntKind.wrap Go.IntKind.i64 (i - (1 : Int)))) (Go.Ev.Item.mk (0 : Int) (0 : Int) (0 : Int)))) (Go.Ev.Item.place (List.getD l (Int.toNat (Go.IntKind.wrap Go.IntKind.i64 (i - (1 : Int)))) (Go.Ev.Item.mk (0 : Int) (0 : Int) (0 : Int)))) (Go.Ev.Item.value (List.getD l (Int.toNat (Go.IntKind.wrap Go.IntKind.i64 (i - (1 : Int)))) (Go.Ev.Item.mk (0 : Int) (0 : Int) (0 : Int))))) (Go.Ev.Item.mk (Go.Ev.Item.key (List.getD l (Int.toNat i) (Go.Ev.Item.mk (0 : Int) (0 : Int) (0 : Int)))) (Go.Ev.Item.place (List.getD l (Int.toNat i) (Go.Ev.Item.mk (0 : Int) (0 : Int) (0 : Int)))) (Go.Ev.Item.value (List.getD l (Int.toNat i) (Go.Ev.Item.mk (0 : Int) (0 : Int) (0 : Int))))) then Option.some ((Go.Ev.X.ret, [((6 : Nat), Go.Ev.D.bool Bool.false)]), [Option.some (Go.Ev.Obj.var (33 : Nat) (Go.Ev.D.acons (Go.Ev.D.int Go.IntKind.i64 p) r))]) else Option.some ((Go.Ev.X.normal, [((0 : Nat), Go.Ev.D.sl Go.Ev.RTy.item c l), ((1 : Nat), Go.Ev.D.fn (36 : Nat) (Go.Ev.D.acons (Go.Ev.D.ptr (0 : Nat) []) Go.Ev.D.anil)), ((2 : Nat), Go.Ev.D.fn (37 : Nat) Go.Ev.D.anil), ((6 : Nat), Go.Ev.D.bool Bool.false), ((9 : Nat), Go.Ev.D.int Go.IntKind.i64 (↑(List.length l) : Int)), ((10 : Nat), Go.Ev.D.int Go.IntKind.i64 (Go.IntKind.wrap Go.IntKind.i64 (i + (1 : Int))))]), [Option.some (Go.Ev.Obj.var (33 : Nat) (Go.Ev.D.acons (Go.Ev.D.int Go.IntKind.i64 p) r))]) else Option.none else Option.none else Option.some ((Go.Ev.X.normal, [((0 : Nat), Go.Ev.D.sl Go.Ev.RTy.item c l), ((1 : Nat), Go.Ev.D.fn (36 : Nat) (Go.Ev.D.acons (Go.Ev.D.ptr (0 : Nat) []) Go.Ev.D.anil)), ((2 : Nat), Go.Ev.D.fn (37 : Nat) Go.Ev.D.anil), ((6 : Nat), Go.Ev.D.bool Bool.false), ((9 : Nat), Go.Ev.D.int Go.IntKind.i64 (↑(List.length l) : Int)), ((10 : Nat), Go.Ev.D.int Go.IntKind.i64 (Go.IntKind.wrap Go.IntKind.i64 (i + (1 : Int))))]), [Option.some (Go.Ev.Obj.var (33 : Nat) (Go.Ev.D.acons (Go.Ev.D.int Go.IntKind.i64 p) r))]) else Option.some ((Go.Ev.X.ret, [((6 : Nat), Go.Ev.D.bool Bool.false)]), [Option.some (Go.Ev.Obj.var (33 : Nat) (Go.Ev.D.acons (Go.Ev.D.int Go.IntKind.i64 p) r))]) else Option.some ((Go.Ev.X.ret, [((6 : Nat), Go.Ev.D.bool Bool.false)]), [Option.some (Go.Ev.Obj.var (33 : Nat) (Go.Ev.D.acons (Go.Ev.D.int Go.IntKind.i64 p) r))]) else Option.none else Option.some ((Go.Ev.X.exit (0 : Nat), [((6 : Nat), Go.Ev.D.bool Bool.false)]), [Option.some (Go.Ev.Obj.var (33 : Nat) (Go.Ev.D.acons (Go.Ev.D.int Go.IntKind.i64 p) r))])) := by kernel_rfl

structure LE (α : Type) where
  p : Int
  r : D RC
  c : Bool
  l : List α
  i : Nat
def each35 (p : Int) (l : List Item) (i : Nat) : Bool := eachB (oneI p) twoI (ahead l i) (l.drop i)
def S35 : LoopO RC (LE Item) where
  k := 1
  canon q := c35 q.c q.l q.i
  objs q := o35 q.p q.r
  fin q := bif each35 q.p q.l q.i then (.exit 0, [(6, .bool false)]) else (.ret, [(6, .bool false)])
  fobjs q := o35 q.p q.r
  Inv q := q.r.refs = [] ∧ q.i ≤ q.l.length ∧ q.l.length ≤ 9223372036854775807
  μ q := q.l.length - q.i
theorem S35_round (p : Int) (r : D RC) (c : Bool) (l : List Item) (i : Nat) (h0 : r.refs = []) (h1 : i ≤ l.length) (h2 : l.length ≤ 9223372036854775807) : Leaf (r35 p r c l i) (LedO S35 ⟨p, r, c, l, i⟩) := by
  rw [r35_eq]
  have e1 : ((i : Int)).toNat = i := by simp
  by_cases hlt : i < l.length
  · have hw1 : IntKind.i64.wrap ((i : Int) - 1) = (i : Int) - 1 := wrap_id (by omega) (by omega)
    have hw2 : IntKind.i64.wrap ((i : Int) + 1) = ((i + 1 : Nat) : Int) := by rw [wrap_id (by omega) (by omega)]; simp
    have e2 : ((i : Int) - 1).toNat = i - 1 := by omega
    have hst := each_step (oneI p) twoI l i (⟨0, 0, 0⟩ : Item) hlt
    rw [hw1, hw2, e1, e2]
    have hgo : each35 p l (i + 1) = each35 p l i → LedO S35 ⟨p, r, c, l, i⟩ ((X.normal, c35 c l (i + 1 : Nat)), [some (.var 33 (.acons (.int .i64 p) r))]) := fun he =>
      .inl ⟨rfl, ⟨p, r, c, l, i + 1⟩, ⟨h0, by simp only; omega, h2⟩, by simp only [S35]; omega, by simp only [S35, he], rfl, rfl, rfl⟩
    have hno : each35 p l i = false → LedO S35 ⟨p, r, c, l, i⟩ ((X.ret, [(6, D.bool false)]), [some (.var 33 (.acons (.int .i64 p) r))]) := fun he => .inr ⟨by simp, by simp only [S35, he, cond_false], rfl⟩
    have hE : each35 p l i = (oneI p (l.getD i ⟨0, 0, 0⟩) && (decide (i = 0) || twoI (l.getD (i - 1) ⟨0, 0, 0⟩) (l.getD i ⟨0, 0, 0⟩)) && each35 p l (i + 1)) := hst
    rw [hE] at hgo hno
    clear hst hE
    generalize l.getD i (⟨0, 0, 0⟩ : Item) = x at hgo hno ⊢
    generalize l.getD (i - 1) (⟨0, 0, 0⟩ : Item) = y at hgo hno ⊢
    have c1 : decide ((i : Int) < l.length) = true := by simp; omega
    have c2 : decide (0 ≤ (i : Int) ∧ (i : Int) < l.length) = true := by simp; omega
    rw [c1, c2]
    simp only [cond_true]
    simp only [oneI] at hgo hno
    cases a1 : within x.key 0 23
    · exact leaf_some.2 (hno (by simp [a1]))
    cases a2 : within x.place 1 p
    · exact leaf_some.2 (hno (by simp [a2]))
    cases a3 : within x.value 0 255
    · exact leaf_some.2 (hno (by simp [a3]))
    rw [a1, a2, a3] at hgo hno
    by_cases hi : i = 0
    · have c3 : decide (0 < (i : Int)) = false := by simp; omega
      rw [c3]
      exact leaf_some.2 (hgo (by simp [hi]))
    · have c3 : decide (0 < (i : Int)) = true := by simp; omega
      have c4 : decide (0 ≤ (i : Int) - 1 ∧ (i : Int) - 1 < l.length) = true := by simp; omega
      rw [c3, c4]
      cases a4 : twoI y x
      · exact leaf_some.2 (hno (by simp [hi, a4]))
      · exact leaf_some.2 (hgo (by simp [a4]))
  · have hi : i = l.length := by omega
    have c1 : decide ((i : Int) < l.length) = false := by simp; omega
    rw [c1]
    refine leaf_some.2 (.inr ⟨by simp, ?_, rfl⟩)
    simp [S35, each35, hi, eachB]

def t35 (env : Env RC) (os : List (Obj RC)) : RT RC := match env, os with
  | [(0, .sl .item c l), (1, .fn 36 (.acons (.ptr 0 []) .anil)), (2, .fn 37 .anil), (6, .bool false), (9, .int .i64 n), (10, .int .i64 i)], [.var 33 (.acons (.int .i64 p) r)] =>
    bif r.refs.isEmpty then .br (decide (n = l.length) && decide (i = 0) && decide (l.length ≤ 9223372036854775807)) (.br (each35 p l 0) (.leaf (.exit 0) [(6, .bool false)] (o35 p r)) (.leaf .ret [(6, .bool false)] (o35 p r))) .fail else .fail
  | _, _ => .fail
noncomputable def g3 := g2.addLoop 35 2 (sumO s05 [.slot 1 0] [0, 1, 2, 6, 9, 10] t35)
theorem g3_laws : FLaws Try.prog s05 g3 := by
  refine g2_laws.addRoundsO s05_laws (by kernel_rfl) S35 40 [0, 1, 2, 6, 9, 10] [6] _ _ _ (fun q hI => ?_) ?_
  · obtain ⟨p, r, c, l, i⟩ := q
    obtain ⟨h0, h1, h2⟩ := hI
    simp only at h0 h1 h2
    refine ⟨⟨rfl, by simp [S35, c35, D.refs], by simp [S35, o35, Obj.refs, D.refs, h0]⟩, ⟨rfl, by simp only [S35]; cases each35 p l i <;> simp [D.refs], by simp [S35, o35, Obj.refs, D.refs, h0]⟩, S35_round p r c l i h0 h1 h2⟩
  · intro env0 os x env' os' h
    unfold t35 at h
    split at h
    · rename_i c l n i p r
      cases hr : r.refs.isEmpty with
      | false => rw [hr] at h; cases h
      | true =>
      rw [hr] at h
      simp only [cond_true, RT.val] at h
      cases hb : (decide (n = l.length) && decide (i = 0) && decide (l.length ≤ 9223372036854775807)) with
      | false => rw [hb] at h; cases h
      | true =>
        rw [hb] at h
        simp only [Bool.and_eq_true, decide_eq_true_eq] at hb
        obtain ⟨⟨rfl, rfl⟩, hl⟩ := hb
        refine ⟨⟨p, r, c, l, 0⟩, ⟨List.isEmpty_iff.1 hr, Nat.zero_le _, hl⟩, by simp [S35, c35]; rfl, rfl, ?_⟩
        simp only [S35]
        cases hq : each35 p l 0 with
        | true => rw [hq] at h; cases h; exact ⟨rfl, rfl⟩
        | false => rw [hq] at h; cases h; exact ⟨rfl, rfl⟩
    · cases h

/-! ### each[Line], within Stands -/
def oneL (p : Int) (x : Line) : Bool := within x.offset 0 4194303 && within x.place 1 p && within x.j 0 3 && within x.key 0 7 && within x.value 0 255
def c38 (c : Bool) (l : List Line) (i : Int) : Env RC := [(0, .sl (C := RC) .line c l), (1, .fn 39 (.acons (.ptr 0 []) .anil)), (2, .fn 40 .anil), (6, .bool false), (9, .int .i64 l.length), (10, .int .i64 i)]
noncomputable def r38 (p : Int) (r : D RC) (c : Bool) (l : List Line) (i : Int) := rndO s05 g3 38 2 40 1 [0, 1, 2, 6, 9, 10] [6] (c38 c l i) (o35 p r)
theorem r38_eq (p : Int) (r : D RC) (c : Bool) (l : List Line) (i : Int) : r38 p r c l i = (bif Decidable.decide (i < (↑(List.length l) : Int)) then bif Decidable.decide ((0 : Int) ≤ i ∧ i < (↑(List.length l) : Int)) then bif Go.Ev.within (Go.Ev.Line.offset (List.getD l (Int.toNat i) (Go.Ev.Line.mk (0 : Int) (0 : Int) (0 : Int) (0 : Int) (0 : Int)))) (0 : Int) (4194303 : Int) then bif Go.Ev.within (Go.Ev.Line.place (List.getD l (Int.toNat i) (Go.Ev.Line.mk (0 : Int) (0 : Int) (0 : Int) (0 : Int) (0 : Int)))) (1 : Int) p then bif Go.Ev.within (Go.Ev.Line.j (List.getD l (Int.toNat i) (Go.Ev.Line.mk (0 : Int) (0 : Int) (0 : Int) (0 : Int) (0 : Int)))) (0 : Int) (3 : Int) then bif Go.Ev.within (Go.Ev.Line.key (List.getD l (Int.toNat i) (Go.Ev.Line.mk (0 : Int) (0 : Int) (0 : Int) (0 : Int) (0 : Int)))) (0 : Int) (7 : Int) then bif !Go.Ev.within (Go.Ev.Line.value (List.getD l (Int.toNat i) (Go.Ev.Line.mk (0 : Int) (0 : Int) (0 : Int) (0 : Int) (0 : Int)))) (0 : Int) (255 : Int) then Option.some ((Go.Ev.X.ret, [((6 : Nat), Go.Ev.D.bool Bool.false)]), [Option.some (Go.Ev.Obj.var (33 : Nat) (Go.Ev.D.acons (Go.Ev.D.int Go.IntKind.i64 p) r))]) else bif Decidable.decide ((0 : Int) < i) then bif Decidable.decide ((0 : Int) ≤ Go.IntKind.wrap Go.IntKind.i64 (i - (1 : Int)) ∧ Go.IntKind.wrap Go.IntKind.i64 (i - (1 : Int)) < (↑(List.length l) : Int)) then bif Decidable.decide ((0 : Int) ≤ i ∧ i < (↑(List.length l) : Int)) then bif !Go.Ev.twoL (Go.Ev.Line.mk (Go.Ev.Line.offset (List.getD l (Int.toNat (Go.IntKind.wrap Go.IntKind.i64 (i - (1 : Int)))) (Go.Ev.Line.mk (0 : Int) (0 : Int) (0 : Int) (0 : Int) (0 : Int)))) (Go.Ev.Line.place (List.getD l (Int.toNat (Go.IntKind.wrap Go.IntKind.i64 (i - (1 : Int)))) (Go.Ev.Line.mk (0 : Int) (0 : Int) (0 : Int) (0 : Int) (0 : Int)))) (Go.Ev.Line.j (List.getD l (Int.toNat (Go.IntKind.wrap Go.IntKind.i64 (i - (1 : Int)))) (Go.Ev.Line.mk (0 : Int) (0 : Int) (0 : Int) (0 : Int) (0 : Int)))) (Go.Ev.Line.key (List.getD l (Int.toNat (Go.IntKind.wrap Go.IntKind.i64 (i - (1 : Int)))) (Go.Ev.Line.mk (0 : Int) (0 : Int) (0 : Int) (0 : Int) (0 : Int)))) (Go.Ev.Line.value (List.getD l (Int.toNat (Go.IntKind.wrap Go.IntKind.i64 (i - (1 : Int)))) (Go.Ev.Line.mk (0 : Int) (0 : Int) (0 : Int) (0 : Int) (0 : Int))))) (Go.Ev.Line.mk (Go.Ev.Line.offset (List.getD l (Int.toNat i) (Go.Ev.Line.mk (0 : Int) (0 : Int) (0 : Int) (0 : Int) (0 : Int)))) (Go.Ev.Line.place (List.getD l (Int.toNat i) (Go.Ev.Line.mk (0 : Int) (0 : Int) (0 : Int) (0 : Int) (0 : Int)))) (Go.Ev.Line.j (List.getD l (Int.toNat i) (Go.Ev.Line.mk (0 : Int) (0 : Int) (0 : Int) (0 : Int) (0 : Int)))) (Go.Ev.Line.key (List.getD l (Int.toNat i) (Go.Ev.Line.mk (0 : Int) (0 : Int) (0 : Int) (0 : Int) (0 : Int)))) (Go.Ev.Line.value (List.getD l (Int.toNat i) (Go.Ev.Line.mk (0 : Int) (0 : Int) (0 : Int) (0 : Int) (0 : Int))))) then Option.some ((Go.Ev.X.ret, [((6 : Nat), Go.Ev.D.bool Bool.false)]), [Option.some (Go.Ev.Obj.var (33 : Nat) (Go.Ev.D.acons (Go.Ev.D.int Go.IntKind.i64 p) r))]) else Option.some ((Go.Ev.X.normal, [((0 : Nat), Go.Ev.D.sl Go.Ev.RTy.line c l), ((1 : Nat), Go.Ev.D.fn (39 : Nat) (Go.Ev.D.acons (Go.Ev.D.ptr (0 : Nat) []) Go.Ev.D.anil)), ((2 : Nat), Go.Ev.D.fn (40 : Nat) Go.Ev.D.anil), ((6 : Nat), Go.Ev.D.bool Bool.false), ((9 : Nat), Go.Ev.D.int Go.IntKind.i64 (↑(List.length l) : Int)), ((10 : Nat), Go.Ev.D.int Go.IntKind.i64 (Go.IntKind.wrap Go.IntKind.i64 (i + (1 : Int))))]), [Option.some (Go.Ev.Obj.var (33 : Nat) (Go.Ev.D.acons (Go.Ev.D.int Go.IntKind.i64 p) r))]) else Option.none else Option.none else Option.some ((Go.Ev.X.normal, [((0 : Nat), Go.Ev.D.sl Go.Ev.RTy.line c l), ((1 : Nat), Go.Ev.D.fn (39 : Nat) (Go.Ev.D.acons (Go.Ev.D.ptr (0 : Nat) []) Go.Ev.D.anil)), ((2 : Nat), Go.Ev.D.fn (40 : Nat) Go.Ev.D.anil), ((6 : Nat), Go.Ev.D.bool Bool.false), ((9 : Nat), Go.Ev.D.int Go.IntKind.i64 (↑(List.length l) : Int)), ((10 : Nat), Go.Ev.D.int Go.IntKind.i64 (Go.IntKind.wrap Go.IntKind.i64 (i + (1 : Int))))]), [Option.some (Go.Ev.Obj.var (33 : Nat) (Go.Ev.D.acons (Go.Ev.D.int Go.IntKind.i64 p) r))]) else Option.some ((Go.Ev.X.ret, [((6 : Nat), Go.Ev.D.bool Bool.false)]), [Option.some (Go.Ev.Obj.var (33 : Nat) (Go.Ev.D.acons (Go.Ev.D.int Go.IntKind.i64 p) r))]) else Option.some ((Go.Ev.X.ret, [((6 : Nat), Go.Ev.D.bool Bool.false)]), [Option.some (Go.Ev.Obj.var (33 : Nat) (Go.Ev.D.acons (Go.Ev.D.int Go.IntKind.i64 p) r))]) else Option.some ((Go.Ev.X.ret, [((6 : Nat), Go.Ev.D.bool Bool.false)]), [Option.some (Go.Ev.Obj.var (33 : Nat) (Go.Ev.D.acons (Go.Ev.D.int Go.IntKind.i64 p) r))]) else Option.some ((Go.Ev.X.ret, [((6 : Nat), Go.Ev.D.bool Bool.false)]), [Option.some (Go.Ev.Obj.var (33 : Nat) (Go.Ev.D.acons (Go.Ev.D.int Go.IntKind.i64 p) r))]) else Option.none else Option.some ((Go.Ev.X.exit (0 : Nat), [((6 : Nat), Go.Ev.D.bool Bool.false)]), [Option.some (Go.Ev.Obj.var (33 : Nat) (Go.Ev.D.acons (Go.Ev.D.int Go.IntKind.i64 p) r))])) := by kernel_rfl
def each38 (p : Int) (l : List Line) (i : Nat) : Bool := eachB (oneL p) twoL (ahead l i) (l.drop i)
def S38 : LoopO RC (LE Line) where
  k := 1
  canon q := c38 q.c q.l q.i
  objs q := o35 q.p q.r
  fin q := bif each38 q.p q.l q.i then (.exit 0, [(6, .bool false)]) else (.ret, [(6, .bool false)])
  fobjs q := o35 q.p q.r
  Inv q := q.r.refs = [] ∧ q.i ≤ q.l.length ∧ q.l.length ≤ 9223372036854775807
  μ q := q.l.length - q.i
theorem S38_round (p : Int) (r : D RC) (c : Bool) (l : List Line) (i : Nat) (h0 : r.refs = []) (h1 : i ≤ l.length) (h2 : l.length ≤ 9223372036854775807) : Leaf (r38 p r c l i) (LedO S38 ⟨p, r, c, l, i⟩) := by
  rw [r38_eq]
  have e1 : ((i : Int)).toNat = i := by simp
  by_cases hlt : i < l.length
  · have hw1 : IntKind.i64.wrap ((i : Int) - 1) = (i : Int) - 1 := wrap_id (by omega) (by omega)
    have hw2 : IntKind.i64.wrap ((i : Int) + 1) = ((i + 1 : Nat) : Int) := by rw [wrap_id (by omega) (by omega)]; simp
    have e2 : ((i : Int) - 1).toNat = i - 1 := by omega
    have hst := each_step (oneL p) twoL l i (⟨0, 0, 0, 0, 0⟩ : Line) hlt
    rw [hw1, hw2, e1, e2]
    have hgo : each38 p l (i + 1) = each38 p l i → LedO S38 ⟨p, r, c, l, i⟩ ((X.normal, c38 c l (i + 1 : Nat)), [some (.var 33 (.acons (.int .i64 p) r))]) := fun he =>
      .inl ⟨rfl, ⟨p, r, c, l, i + 1⟩, ⟨h0, by simp only; omega, h2⟩, by simp only [S38]; omega, by simp only [S38, he], rfl, rfl, rfl⟩
    have hno : each38 p l i = false → LedO S38 ⟨p, r, c, l, i⟩ ((X.ret, [(6, D.bool false)]), [some (.var 33 (.acons (.int .i64 p) r))]) := fun he => .inr ⟨by simp, by simp only [S38, he, cond_false], rfl⟩
    have hE : each38 p l i = (oneL p (l.getD i ⟨0, 0, 0, 0, 0⟩) && (decide (i = 0) || twoL (l.getD (i - 1) ⟨0, 0, 0, 0, 0⟩) (l.getD i ⟨0, 0, 0, 0, 0⟩)) && each38 p l (i + 1)) := hst
    rw [hE] at hgo hno
    clear hst hE
    generalize l.getD i (⟨0, 0, 0, 0, 0⟩ : Line) = x at hgo hno ⊢
    generalize l.getD (i - 1) (⟨0, 0, 0, 0, 0⟩ : Line) = y at hgo hno ⊢
    have c1 : decide ((i : Int) < l.length) = true := by simp; omega
    have c2 : decide (0 ≤ (i : Int) ∧ (i : Int) < l.length) = true := by simp; omega
    rw [c1, c2]
    simp only [cond_true]
    simp only [oneL] at hgo hno
    cases a1 : within x.offset 0 4194303
    · exact leaf_some.2 (hno (by simp [a1]))
    cases a2 : within x.place 1 p
    · exact leaf_some.2 (hno (by simp [a2]))
    cases a3 : within x.j 0 3
    · exact leaf_some.2 (hno (by simp [a3]))
    cases a4 : within x.key 0 7
    · exact leaf_some.2 (hno (by simp [a4]))
    cases a5 : within x.value 0 255
    · exact leaf_some.2 (hno (by simp [a5]))
    rw [a1, a2, a3, a4, a5] at hgo hno
    by_cases hi : i = 0
    · have c3 : decide (0 < (i : Int)) = false := by simp; omega
      rw [c3]
      exact leaf_some.2 (hgo (by simp [hi]))
    · have c3 : decide (0 < (i : Int)) = true := by simp; omega
      have c4 : decide (0 ≤ (i : Int) - 1 ∧ (i : Int) - 1 < l.length) = true := by simp; omega
      rw [c3, c4]
      cases a4 : twoL y x
      · exact leaf_some.2 (hno (by simp [hi, a4]))
      · exact leaf_some.2 (hgo (by simp [a4]))
  · have hi : i = l.length := by omega
    have c1 : decide ((i : Int) < l.length) = false := by simp; omega
    rw [c1]
    refine leaf_some.2 (.inr ⟨by simp, ?_, rfl⟩)
    simp [S38, each38, hi, eachB]

def t38 (env : Env RC) (os : List (Obj RC)) : RT RC := match env, os with
  | [(0, .sl .line c l), (1, .fn 39 (.acons (.ptr 0 []) .anil)), (2, .fn 40 .anil), (6, .bool false), (9, .int .i64 n), (10, .int .i64 i)], [.var 33 (.acons (.int .i64 p) r)] =>
    bif r.refs.isEmpty then .br (decide (n = l.length) && decide (i = 0) && decide (l.length ≤ 9223372036854775807)) (.br (each38 p l 0) (.leaf (.exit 0) [(6, .bool false)] (o35 p r)) (.leaf .ret [(6, .bool false)] (o35 p r))) .fail else .fail
  | _, _ => .fail
noncomputable def g4 := g3.addLoop 38 2 (sumO s05 [.slot 1 0] [0, 1, 2, 6, 9, 10] t38)
theorem g4_laws : FLaws Try.prog s05 g4 := by
  refine g3_laws.addRoundsO s05_laws (by kernel_rfl) S38 40 [0, 1, 2, 6, 9, 10] [6] _ _ _ (fun q hI => ?_) ?_
  · obtain ⟨p, r, c, l, i⟩ := q
    obtain ⟨h0, h1, h2⟩ := hI
    simp only at h0 h1 h2
    refine ⟨⟨rfl, by simp [S38, c38, D.refs], by simp [S38, o35, Obj.refs, D.refs, h0]⟩, ⟨rfl, by simp only [S38]; cases each38 p l i <;> simp [D.refs], by simp [S38, o35, Obj.refs, D.refs, h0]⟩, S38_round p r c l i h0 h1 h2⟩
  · intro env0 os x env' os' h
    unfold t38 at h
    split at h
    · rename_i c l n i p r
      cases hr : r.refs.isEmpty with
      | false => rw [hr] at h; cases h
      | true =>
      rw [hr] at h
      simp only [cond_true, RT.val] at h
      cases hb : (decide (n = l.length) && decide (i = 0) && decide (l.length ≤ 9223372036854775807)) with
      | false => rw [hb] at h; cases h
      | true =>
        rw [hb] at h
        simp only [Bool.and_eq_true, decide_eq_true_eq] at hb
        obtain ⟨⟨rfl, rfl⟩, hl⟩ := hb
        refine ⟨⟨p, r, c, l, 0⟩, ⟨List.isEmpty_iff.1 hr, Nat.zero_le _, hl⟩, by simp [S38, c38]; rfl, rfl, ?_⟩
        simp only [S38]
        cases hq : each38 p l 0 with
        | true => rw [hq] at h; cases h; exact ⟨rfl, rfl⟩
        | false => rw [hq] at h; cases h; exact ⟨rfl, rfl⟩
    · cases h

/-! ### Stands -/
structure St where
  place : Int
  items : List Item
  l0 : List Line
  l1 : List Line
  l2 : List Line
  c0 : Int
  c1 : Int
  c2 : Int
def dSt (s : St) (ci : Bool) : D RC := .acons (.int .i64 s.place) (.acons (.sl (C := RC) .item ci s.items) (.acons (.arr (C := RC) .lines 3 [s.l0, s.l1, s.l2]) (.acons (.arr (C := RC) .int 3 [s.c0, s.c1, s.c2]) .anil)))
noncomputable def e15 (p : Int) (ci : Bool) (items : List Item) (l0 l1 l2 : List Line) (c0 c1 c2 : Int) := evF s05 g4 30 15 [dSt ⟨p, items, l0, l1, l2, c0, c1, c2⟩ ci]
theorem e15_eq (p : Int) (ci : Bool) (items : List Item) (l0 l1 l2 : List Line) (c0 c1 c2 : Int) : e15 p ci items l0 l1 l2 c0 c1 c2 = (bif !Go.Ev.within p (0 : Int) (1048575 : Int) then Option.some (Go.Ev.D.bool Bool.false) else bif Nat.ble (List.length items) (9223372036854775807 : Nat) then bif Decidable.decide ((↑(List.length items) : Int) = (↑(List.length items) : Int)) && Bool.true && Decidable.decide (List.length items ≤ (9223372036854775807 : Nat)) then bif Go.Ev.each35 p items (0 : Nat) then bif !Go.Ev.within c0 (0 : Int) p then Option.some (Go.Ev.D.bool Bool.false) else bif Nat.ble (List.length l0) (9223372036854775807 : Nat) then bif Decidable.decide ((16 : Int) < (↑(List.length l0) : Int)) then Option.some (Go.Ev.D.bool Bool.false) else bif Nat.ble (List.length l0) (9223372036854775807 : Nat) then bif Decidable.decide ((0 : Int) < (↑(List.length l0) : Int)) then bif Decidable.decide ((0 : Int) ≤ (0 : Int) ∧ (0 : Int) < (↑(List.length l0) : Int)) then bif Decidable.decide (Go.Ev.Line.place (List.getD l0 (0 : Nat) (Go.Ev.Line.mk (0 : Int) (0 : Int) (0 : Int) (0 : Int) (0 : Int))) ≤ c0) then Option.some (Go.Ev.D.bool Bool.false) else bif Nat.ble (List.length l0) (9223372036854775807 : Nat) then bif Decidable.decide ((↑(List.length l0) : Int) = (↑(List.length l0) : Int)) && Bool.true && Decidable.decide (List.length l0 ≤ (9223372036854775807 : Nat)) then bif Go.Ev.each38 p l0 (0 : Nat) then bif !Go.Ev.within c1 (0 : Int) p then Option.some (Go.Ev.D.bool Bool.false) else bif Nat.ble (List.length l1) (9223372036854775807 : Nat) then bif Decidable.decide ((16 : Int) < (↑(List.length l1) : Int)) then Option.some (Go.Ev.D.bool Bool.false) else bif Nat.ble (List.length l1) (9223372036854775807 : Nat) then bif Decidable.decide ((0 : Int) < (↑(List.length l1) : Int)) then bif Decidable.decide ((0 : Int) ≤ (0 : Int) ∧ (0 : Int) < (↑(List.length l1) : Int)) then bif Decidable.decide (Go.Ev.Line.place (List.getD l1 (0 : Nat) (Go.Ev.Line.mk (0 : Int) (0 : Int) (0 : Int) (0 : Int) (0 : Int))) ≤ c1) then Option.some (Go.Ev.D.bool Bool.false) else bif Nat.ble (List.length l1) (9223372036854775807 : Nat) then bif Decidable.decide ((↑(List.length l1) : Int) = (↑(List.length l1) : Int)) && Bool.true && Decidable.decide (List.length l1 ≤ (9223372036854775807 : Nat)) then bif Go.Ev.each38 p l1 (0 : Nat) then bif !Go.Ev.within c2 (0 : Int) p then Option.some (Go.Ev.D.bool Bool.false) else bif Nat.ble (List.length l2) (9223372036854775807 : Nat) then bif Decidable.decide ((16 : Int) < (↑(List.length l2) : Int)) then Option.some (Go.Ev.D.bool Bool.false) else bif Nat.ble (List.length l2) (9223372036854775807 : Nat) then bif Decidable.decide ((0 : Int) < (↑(List.length l2) : Int)) then bif Decidable.decide ((0 : Int) ≤ (0 : Int) ∧ (0 : Int) < (↑(List.length l2) : Int)) then bif Decidable.decide (Go.Ev.Line.place (List.getD l2 (0 : Nat) (Go.Ev.Line.mk (0 : Int) (0 : Int) (0 : Int) (0 : Int) (0 : Int))) ≤ c2) then Option.some (Go.Ev.D.bool Bool.false) else bif Nat.ble (List.length l2) (9223372036854775807 : Nat) then bif Decidable.decide ((↑(List.length l2) : Int) = (↑(List.length l2) : Int)) && Bool.true && Decidable.decide (List.length l2 ≤ (9223372036854775807 : Nat)) then bif Go.Ev.each38 p l2 (0 : Nat) then Option.some (Go.Ev.D.bool Bool.true) else Option.some (Go.Ev.D.bool Bool.false) else Option.none else Option.none else Option.none else bif Nat.ble (List.length l2) (9223372036854775807 : Nat) then bif Decidable.decide ((↑(List.length l2) : Int) = (↑(List.length l2) : Int)) && Bool.true && Decidable.decide (List.length l2 ≤ (9223372036854775807 : Nat)) then bif Go.Ev.each38 p l2 (0 : Nat) then Option.some (Go.Ev.D.bool Bool.true) else Option.some (Go.Ev.D.bool Bool.false) else Option.none else Option.none else Option.none else Option.none else Option.some (Go.Ev.D.bool Bool.false) else Option.none else Option.none else Option.none else bif Nat.ble (List.length l1) (9223372036854775807 : Nat) then bif Decidable.decide ((↑(List.length l1) : Int) = (↑(List.length l1) : Int)) && Bool.true && Decidable.decide (List.length l1 ≤ (9223372036854775807 : Nat)) then bif Go.Ev.each38 p l1 (0 : Nat) then bif !Go.Ev.within c2 (0 : Int) p then Option.some (Go.Ev.D.bool Bool.false) else bif Nat.ble (List.length l2) (9223372036854775807 : Nat) then bif Decidable.decide ((16 : Int) < (↑(List.length l2) : Int)) then Option.some (Go.Ev.D.bool Bool.false) else bif Nat.ble (List.length l2) (9223372036854775807 : Nat) then bif Decidable.decide ((0 : Int) < (↑(List.length l2) : Int)) then bif Decidable.decide ((0 : Int) ≤ (0 : Int) ∧ (0 : Int) < (↑(List.length l2) : Int)) then bif Decidable.decide (Go.Ev.Line.place (List.getD l2 (0 : Nat) (Go.Ev.Line.mk (0 : Int) (0 : Int) (0 : Int) (0 : Int) (0 : Int))) ≤ c2) then Option.some (Go.Ev.D.bool Bool.false) else bif Nat.ble (List.length l2) (9223372036854775807 : Nat) then bif Decidable.decide ((↑(List.length l2) : Int) = (↑(List.length l2) : Int)) && Bool.true && Decidable.decide (List.length l2 ≤ (9223372036854775807 : Nat)) then bif Go.Ev.each38 p l2 (0 : Nat) then Option.some (Go.Ev.D.bool Bool.true) else Option.some (Go.Ev.D.bool Bool.false) else Option.none else Option.none else Option.none else bif Nat.ble (List.length l2) (9223372036854775807 : Nat) then bif Decidable.decide ((↑(List.length l2) : Int) = (↑(List.length l2) : Int)) && Bool.true && Decidable.decide (List.length l2 ≤ (9223372036854775807 : Nat)) then bif Go.Ev.each38 p l2 (0 : Nat) then Option.some (Go.Ev.D.bool Bool.true) else Option.some (Go.Ev.D.bool Bool.false) else Option.none else Option.none else Option.none else Option.none else Option.some (Go.Ev.D.bool Bool.false) else Option.none else Option.none else Option.none else Option.none else Option.some (Go.Ev.D.bool Bool.false) else Option.none else Option.none else Option.none else bif Nat.ble (List.length l0) (9223372036854775807 : Nat) then bif Decidable.decide ((↑(List.length l0) : Int) = (↑(List.length l0) : Int)) && Bool.true && Decidable.decide (List.length l0 ≤ (9223372036854775807 : Nat)) then bif Go.Ev.each38 p l0 (0 : Nat) then bif !Go.Ev.within c1 (0 : Int) p then Option.some (Go.Ev.D.bool Bool.false) else bif Nat.ble (List.length l1) (9223372036854775807 : Nat) then bif Decidable.decide ((16 : Int) < (↑(List.length l1) : Int)) then Option.some (Go.Ev.D.bool Bool.false) else bif Nat.ble (List.length l1) (9223372036854775807 : Nat) then bif Decidable.decide ((0 : Int) < (↑(List.length l1) : Int)) then bif Decidable.decide ((0 : Int) ≤ (0 : Int) ∧ (0 : Int) < (↑(List.length l1) : Int)) then bif Decidable.decide (Go.Ev.Line.place (List.getD l1 (0 : Nat) (Go.Ev.Line.mk (0 : Int) (0 : Int) (0 : Int) (0 : Int) (0 : Int))) ≤ c1) then Option.some (Go.Ev.D.bool Bool.false) else bif Nat.ble (List.length l1) (9223372036854775807 : Nat) then bif Decidable.decide ((↑(List.length l1) : Int) = (↑(List.length l1) : Int)) && Bool.true && Decidable.decide (List.length l1 ≤ (9223372036854775807 : Nat)) then bif Go.Ev.each38 p l1 (0 : Nat) then bif !Go.Ev.within c2 (0 : Int) p then Option.some (Go.Ev.D.bool Bool.false) else bif Nat.ble (List.length l2) (9223372036854775807 : Nat) then bif Decidable.decide ((16 : Int) < (↑(List.length l2) : Int)) then Option.some (Go.Ev.D.bool Bool.false) else bif Nat.ble (List.length l2) (9223372036854775807 : Nat) then bif Decidable.decide ((0 : Int) < (↑(List.length l2) : Int)) then bif Decidable.decide ((0 : Int) ≤ (0 : Int) ∧ (0 : Int) < (↑(List.length l2) : Int)) then bif Decidable.decide (Go.Ev.Line.place (List.getD l2 (0 : Nat) (Go.Ev.Line.mk (0 : Int) (0 : Int) (0 : Int) (0 : Int) (0 : Int))) ≤ c2) then Option.some (Go.Ev.D.bool Bool.false) else bif Nat.ble (List.length l2) (9223372036854775807 : Nat) then bif Decidable.decide ((↑(List.length l2) : Int) = (↑(List.length l2) : Int)) && Bool.true && Decidable.decide (List.length l2 ≤ (9223372036854775807 : Nat)) then bif Go.Ev.each38 p l2 (0 : Nat) then Option.some (Go.Ev.D.bool Bool.true) else Option.some (Go.Ev.D.bool Bool.false) else Option.none else Option.none else Option.none else bif Nat.ble (List.length l2) (9223372036854775807 : Nat) then bif Decidable.decide ((↑(List.length l2) : Int) = (↑(List.length l2) : Int)) && Bool.true && Decidable.decide (List.length l2 ≤ (9223372036854775807 : Nat)) then bif Go.Ev.each38 p l2 (0 : Nat) then Option.some (Go.Ev.D.bool Bool.true) else Option.some (Go.Ev.D.bool Bool.false) else Option.none else Option.none else Option.none else Option.none else Option.some (Go.Ev.D.bool Bool.false) else Option.none else Option.none else Option.none else bif Nat.ble (List.length l1) (9223372036854775807 : Nat) then bif Decidable.decide ((↑(List.length l1) : Int) = (↑(List.length l1) : Int)) && Bool.true && Decidable.decide (List.length l1 ≤ (9223372036854775807 : Nat)) then bif Go.Ev.each38 p l1 (0 : Nat) then bif !Go.Ev.within c2 (0 : Int) p then Option.some (Go.Ev.D.bool Bool.false) else bif Nat.ble (List.length l2) (9223372036854775807 : Nat) then bif Decidable.decide ((16 : Int) < (↑(List.length l2) : Int)) then Option.some (Go.Ev.D.bool Bool.false) else bif Nat.ble (List.length l2) (9223372036854775807 : Nat) then bif Decidable.decide ((0 : Int) < (↑(List.length l2) : Int)) then bif Decidable.decide ((0 : Int) ≤ (0 : Int) ∧ (0 : Int) < (↑(List.length l2) : Int)) then bif Decidable.decide (Go.Ev.Line.place (List.getD l2 (0 : Nat) (Go.Ev.Line.mk (0 : Int) (0 : Int) (0 : Int) (0 : Int) (0 : Int))) ≤ c2) then Option.some (Go.Ev.D.bool Bool.false) else bif Nat.ble (List.length l2) (9223372036854775807 : Nat) then bif Decidable.decide ((↑(List.length l2) : Int) = (↑(List.length l2) : Int)) && Bool.true && Decidable.decide (List.length l2 ≤ (9223372036854775807 : Nat)) then bif Go.Ev.each38 p l2 (0 : Nat) then Option.some (Go.Ev.D.bool Bool.true) else Option.some (Go.Ev.D.bool Bool.false) else Option.none else Option.none else Option.none else bif Nat.ble (List.length l2) (9223372036854775807 : Nat) then bif Decidable.decide ((↑(List.length l2) : Int) = (↑(List.length l2) : Int)) && Bool.true && Decidable.decide (List.length l2 ≤ (9223372036854775807 : Nat)) then bif Go.Ev.each38 p l2 (0 : Nat) then Option.some (Go.Ev.D.bool Bool.true) else Option.some (Go.Ev.D.bool Bool.false) else Option.none else Option.none else Option.none else Option.none else Option.some (Go.Ev.D.bool Bool.false) else Option.none else Option.none else Option.none else Option.none else Option.some (Go.Ev.D.bool Bool.false) else Option.none else Option.none else Option.none else Option.none else Option.some (Go.Ev.D.bool Bool.false) else Option.none else Option.none) := by kernel_rfl

/-- a partition's lines, and its cut -/
def partB (p c : Int) (l : List Line) : Bool := within c 0 p && (decide (l.length ≤ 16) && ((l.isEmpty || decide (c < (l.getD 0 ⟨0, 0, 0, 0, 0⟩).place)) && each38 p l 0))
def standsB (s : St) : Bool := within s.place 0 1048575 && (each35 s.place s.items 0 && (partB s.place s.c0 s.l0 && (partB s.place s.c1 s.l1 && partB s.place s.c2 s.l2)))
theorem len0 {α : Type} (l : List α) : decide (0 < (l.length : Int)) = !l.isEmpty := by
  cases l <;> simp
theorem len16 {α : Type} (l : List α) : decide (16 < (l.length : Int)) = !decide (l.length ≤ 16) := by
  by_cases h : l.length ≤ 16
  · simp [h]; omega
  · simp [h]; omega
theorem e15_ok (p : Int) (ci : Bool) (items : List Item) (l0 l1 l2 : List Line) (c0 c1 c2 : Int) (h : items.length ≤ 9223372036854775807) (h0 : l0.length ≤ 9223372036854775807) (h1 : l1.length ≤ 9223372036854775807) (h2 : l2.length ≤ 9223372036854775807) :
    e15 p ci items l0 l1 l2 c0 c1 c2 = some (.bool (standsB ⟨p, items, l0, l1, l2, c0, c1, c2⟩)) := by
  rw [e15_eq]
  have b := Nat.ble_eq_true_of_le h
  have b0 := Nat.ble_eq_true_of_le h0
  have b1 := Nat.ble_eq_true_of_le h1
  have b2 := Nat.ble_eq_true_of_le h2
  have q : ∀ (c : Int) (x : Line), decide (x.place ≤ c) = !decide (c < x.place) := fun c x => by by_cases hc : c < x.place <;> simp [hc] <;> omega
  simp only [b, b0, b1, b2, h, h0, h1, h2, decide_true, Bool.and_true, Bool.true_and, cond_true, len0, len16, Int.le_refl, true_and, q, standsB, partB]
  generalize within p 0 1048575 = x1
  generalize each35 p items 0 = x2
  generalize within c0 0 p = x3
  generalize within c1 0 p = x4
  generalize within c2 0 p = x5
  generalize each38 p l0 0 = x6
  generalize each38 p l1 0 = x7
  generalize each38 p l2 0 = x8
  generalize decide (l0.length ≤ 16) = x9
  generalize decide (l1.length ≤ 16) = x10
  generalize decide (l2.length ≤ 16) = x11
  generalize decide (c0 < (l0.getD 0 ⟨0, 0, 0, 0, 0⟩).place) = x12
  generalize decide (c1 < (l1.getD 0 ⟨0, 0, 0, 0, 0⟩).place) = x13
  generalize decide (c2 < (l2.getD 0 ⟨0, 0, 0, 0, 0⟩).place) = x14
  generalize l0.isEmpty = x15
  generalize l1.isEmpty = x16
  generalize l2.isEmpty = x17
  cases x1; · rfl
  cases x2; · rfl
  cases x3; · rfl
  cases x9; · rfl
  cases x6
  · cases x15 <;> cases x12 <;> rfl
  have key : ∀ t : Bool, (t && true) = t := fun t => by cases t <;> rfl
  cases x4; · cases x15 <;> cases x12 <;> rfl
  cases x10; · cases x15 <;> cases x12 <;> rfl
  cases x7; · cases x15 <;> cases x12 <;> cases x16 <;> cases x13 <;> rfl
  cases x5; · cases x15 <;> cases x12 <;> cases x16 <;> cases x13 <;> rfl
  cases x11; · cases x15 <;> cases x12 <;> cases x16 <;> cases x13 <;> rfl
  cases x15 <;> cases x12 <;> cases x16 <;> cases x13 <;> cases x17 <;> cases x14 <;> cases x8 <;> rfl
def s15 : List (D RC) → Option (Bool × D RC)
  | [.acons (.int .i64 p) (.acons (.sl .item _ items) (.acons (.arr .lines 3 [l0, l1, l2]) (.acons (.arr .int 3 [c0, c1, c2]) .anil)))] =>
    some (Nat.ble (List.length (α := Item) items) 9223372036854775807 && (Nat.ble (List.length (α := Line) l0) 9223372036854775807 && (Nat.ble (List.length (α := Line) l1) 9223372036854775807 && Nat.ble (List.length (α := Line) l2) 9223372036854775807)), .bool (standsB ⟨p, items, l0, l1, l2, c0, c1, c2⟩))
  | _ => none
noncomputable def g5 := g4.addSpec 15 s15
theorem g5_laws : FLaws Try.prog s05 g5 := g4_laws.addEv s05_laws fun args d h => by
  unfold s15 at h
  split at h
  · rename_i p ci items l0 l1 l2 c0 c1 c2
    simp only [Option.some.injEq, Prod.mk.injEq, Bool.and_eq_true] at h
    obtain ⟨⟨h1, h2, h3, h4⟩, rfl⟩ := h
    exact ⟨by simp [D.refs], 30, e15_ok p ci items l0 l1 l2 c0 c1 c2 (Nat.le_of_ble_eq_true h1) (Nat.le_of_ble_eq_true h2) (Nat.le_of_ble_eq_true h3) (Nat.le_of_ble_eq_true h4)⟩
  · cases h
end Go.Ev
