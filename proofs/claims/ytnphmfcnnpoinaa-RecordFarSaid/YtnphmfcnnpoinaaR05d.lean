import Derived.Test.YtnphmfcnnpoinaaR05c
namespace Go.Ev
open Go.Proofs
set_option maxRecDepth 100000
set_option linter.unusedVariables false
set_option linter.unusedSimpArgs false

/-! ### RecordFar: the greatest place -/
def mx (a b : Int) : Int := if a < b then b else a
theorem mx_le {a b p : Int} : mx a b ≤ p ↔ a ≤ p ∧ b ≤ p := by unfold mx; split <;> omega
def mxI (l : List Item) (m : Int) : Int := l.foldl (fun m x => mx m x.place) m
def mxL (l : List Line) (m : Int) : Int := l.foldl (fun m x => mx m x.place) m
structure LM (α : Type) where
  c : Bool
  l : List α
  i : Nat
  m : Int
def c4a (c : Bool) (l : List Item) (i m : Int) : Env RC := [(6, .int .i64 m), (31, .sl (C := RC) .item c l), (32, .int .i64 l.length), (33, .int .i64 i)]
noncomputable def r4a (c : Bool) (l : List Item) (i m : Int) := rnd s05 g5 4 9 30 [6, 31, 32, 33] [6] (c4a c l i m)
theorem r4a_eq (c : Bool) (l : List Item) (i m : Int) : r4a c l i m = (bif Decidable.decide (i < (↑(List.length l) : Int)) then bif Decidable.decide ((0 : Int) ≤ i ∧ i < (↑(List.length l) : Int)) then Option.some (Go.Ev.X.normal, [((6 : Nat), Go.Ev.D.int Go.IntKind.i64 (if m < Go.Ev.Item.place (List.getD l (Int.toNat i) (Go.Ev.Item.mk (0 : Int) (0 : Int) (0 : Int))) then Go.Ev.Item.place (List.getD l (Int.toNat i) (Go.Ev.Item.mk (0 : Int) (0 : Int) (0 : Int))) else m)), ((31 : Nat), Go.Ev.D.sl Go.Ev.RTy.item c l), ((32 : Nat), Go.Ev.D.int Go.IntKind.i64 (↑(List.length l) : Int)), ((33 : Nat), Go.Ev.D.int Go.IntKind.i64 (Go.IntKind.wrap Go.IntKind.i64 (i + (1 : Int))))]) else Option.none else Option.some (Go.Ev.X.exit (0 : Nat), [((6 : Nat), Go.Ev.D.int Go.IntKind.i64 m)])) := by kernel_rfl
def S4a : LoopSt RC (LM Item) where
  canon q := c4a q.c q.l q.i q.m
  fin q := (.exit 0, [(6, .int .i64 (mxI (q.l.drop q.i) q.m))])
  Inv q := q.i ≤ q.l.length ∧ q.l.length ≤ 9223372036854775807
  μ q := q.l.length - q.i
theorem S4a_round (c : Bool) (l : List Item) (i : Nat) (m : Int) (h1 : i ≤ l.length) (h2 : l.length ≤ 9223372036854775807) : Leaf (r4a c l i m) (Led S4a ⟨c, l, i, m⟩) := by
  rw [r4a_eq]
  by_cases hlt : i < l.length
  · have hw2 : IntKind.i64.wrap ((i : Int) + 1) = ((i + 1 : Nat) : Int) := by rw [wrap_id (by omega) (by omega)]; simp
    have c1 : decide ((i : Int) < l.length) = true := by simp; omega
    have c2 : decide (0 ≤ (i : Int) ∧ (i : Int) < l.length) = true := by simp; omega
    have e1 : ((i : Int)).toNat = i := by simp
    rw [hw2, c1, c2, e1]
    simp only [cond_true]
    refine leaf_some.2 (.inl ⟨rfl, ⟨c, l, i + 1, mx m (l.getD i ⟨0, 0, 0⟩).place⟩, ⟨by simp only; omega, h2⟩, by simp only [S4a]; omega, ?_, rfl⟩)
    have hg : l[i] = l.getD i ⟨0, 0, 0⟩ := by simp [hlt]
    simp only [S4a]
    rw [List.drop_eq_getElem_cons hlt, hg]; rfl
  · have hi : i = l.length := by omega
    have c1 : decide ((i : Int) < l.length) = false := by simp; omega
    rw [c1]
    refine leaf_some.2 (.inr ⟨by simp, ?_⟩)
    simp [S4a, hi, mxI]
def l4a (env : Env RC) : Pg RC (X × Env RC) := match eget env 6, eget env 31, eget env 32, eget env 33 with
  | .int .i64 m, .sl .item c l, .int .i64 n, .int .i64 i =>
    .br (decide (n = l.length) && decide (i = 0) && decide (l.length ≤ 9223372036854775807)) (.ret (.exit 0, [(6, .int .i64 (mxI l m))])) .fail
  | _, _, _, _ => .fail
noncomputable def h1 := g5.addLoop 4 9 l4a
theorem h1_laws : FLaws Try.prog s05 h1 := by
  refine g5_laws.addRounds s05_laws (by kernel_rfl) S4a 30 [6, 31, 32, 33] [6] (fun q hI => ?_) ?_
  · obtain ⟨c, l, i, m⟩ := q
    exact ⟨by simp [S4a, c4a, D.refs], by simp [S4a, D.refs], S4a_round c l i m hI.1 hI.2⟩
  · intro e h nx env x env' h' nx' tr hx
    unfold l4a at hx
    split at hx
    · rename_i m c l n i e0 e3 e12 e13
      rcases Pg.Ex.br hx with ⟨hb, hx1⟩ | ⟨hb, hx1⟩
      · simp only [Bool.and_eq_true, decide_eq_true_eq] at hb
        obtain ⟨⟨hn, hi⟩, hl⟩ := hb
        have hsub : Sub env (S4a.canon ⟨c, l, 0, m⟩) := by
          intro p hp
          simp only [S4a, c4a, List.mem_cons, List.not_mem_nil, or_false] at hp
          rw [hn] at e12
          rw [hi] at e13
          rcases hp with rfl | rfl | rfl | rfl <;> assumption
        obtain ⟨hxx, k1, k2, _⟩ := Pg.Ex.ret hx1
        exact ⟨k1, k2, ⟨c, l, 0, m⟩, ⟨Nat.zero_le _, hl⟩, hsub, by simp only [S4a, hxx]; rfl⟩
      · exact (Pg.Ex.fail hx1).elim
    · exact (Pg.Ex.fail hx).elim
def c4b (c : Bool) (l : List Line) (i m : Int) : Env RC := [(6, .int .i64 m), (48, .sl (C := RC) .line c l), (49, .int .i64 l.length), (50, .int .i64 i)]
noncomputable def r4b (c : Bool) (l : List Line) (i m : Int) := rnd s05 h1 4 17 30 [6, 48, 49, 50] [6] (c4b c l i m)
theorem r4b_eq (c : Bool) (l : List Line) (i m : Int) : r4b c l i m = (bif Decidable.decide (i < (↑(List.length l) : Int)) then bif Decidable.decide ((0 : Int) ≤ i ∧ i < (↑(List.length l) : Int)) then Option.some (Go.Ev.X.normal, [((6 : Nat), Go.Ev.D.int Go.IntKind.i64 (if m < Go.Ev.Line.place (List.getD l (Int.toNat i) (Go.Ev.Line.mk (0 : Int) (0 : Int) (0 : Int) (0 : Int) (0 : Int))) then Go.Ev.Line.place (List.getD l (Int.toNat i) (Go.Ev.Line.mk (0 : Int) (0 : Int) (0 : Int) (0 : Int) (0 : Int))) else m)), ((48 : Nat), Go.Ev.D.sl Go.Ev.RTy.line c l), ((49 : Nat), Go.Ev.D.int Go.IntKind.i64 (↑(List.length l) : Int)), ((50 : Nat), Go.Ev.D.int Go.IntKind.i64 (Go.IntKind.wrap Go.IntKind.i64 (i + (1 : Int))))]) else Option.none else Option.some (Go.Ev.X.exit (4 : Nat), [((6 : Nat), Go.Ev.D.int Go.IntKind.i64 m)])) := by kernel_rfl
def S4b : LoopSt RC (LM Line) where
  canon q := c4b q.c q.l q.i q.m
  fin q := (.exit 4, [(6, .int .i64 (mxL (q.l.drop q.i) q.m))])
  Inv q := q.i ≤ q.l.length ∧ q.l.length ≤ 9223372036854775807
  μ q := q.l.length - q.i
theorem S4b_round (c : Bool) (l : List Line) (i : Nat) (m : Int) (h1 : i ≤ l.length) (h2 : l.length ≤ 9223372036854775807) : Leaf (r4b c l i m) (Led S4b ⟨c, l, i, m⟩) := by
  rw [r4b_eq]
  by_cases hlt : i < l.length
  · have hw2 : IntKind.i64.wrap ((i : Int) + 1) = ((i + 1 : Nat) : Int) := by rw [wrap_id (by omega) (by omega)]; simp
    have c1 : decide ((i : Int) < l.length) = true := by simp; omega
    have c2 : decide (0 ≤ (i : Int) ∧ (i : Int) < l.length) = true := by simp; omega
    have e1 : ((i : Int)).toNat = i := by simp
    rw [hw2, c1, c2, e1]
    simp only [cond_true]
    refine leaf_some.2 (.inl ⟨rfl, ⟨c, l, i + 1, mx m (l.getD i ⟨0, 0, 0, 0, 0⟩).place⟩, ⟨by simp only; omega, h2⟩, by simp only [S4b]; omega, ?_, rfl⟩)
    have hg : l[i] = l.getD i ⟨0, 0, 0, 0, 0⟩ := by simp [hlt]
    simp only [S4b]
    rw [List.drop_eq_getElem_cons hlt, hg]; rfl
  · have hi : i = l.length := by omega
    have c1 : decide ((i : Int) < l.length) = false := by simp; omega
    rw [c1]
    refine leaf_some.2 (.inr ⟨by simp, ?_⟩)
    simp [S4b, hi, mxL]
def l4b (env : Env RC) : Pg RC (X × Env RC) := match eget env 6, eget env 48, eget env 49, eget env 50 with
  | .int .i64 m, .sl .line c l, .int .i64 n, .int .i64 i =>
    .br (decide (n = l.length) && decide (i = 0) && decide (l.length ≤ 9223372036854775807)) (.ret (.exit 4, [(6, .int .i64 (mxL l m))])) .fail
  | _, _, _, _ => .fail
noncomputable def h2 := h1.addLoop 4 17 l4b
theorem h2_laws : FLaws Try.prog s05 h2 := by
  refine h1_laws.addRounds s05_laws (by kernel_rfl) S4b 30 [6, 48, 49, 50] [6] (fun q hI => ?_) ?_
  · obtain ⟨c, l, i, m⟩ := q
    exact ⟨by simp [S4b, c4b, D.refs], by simp [S4b, D.refs], S4b_round c l i m hI.1 hI.2⟩
  · intro e h nx env x env' h' nx' tr hx
    unfold l4b at hx
    split at hx
    · rename_i m c l n i e0 e3 e12 e13
      rcases Pg.Ex.br hx with ⟨hb, hx1⟩ | ⟨hb, hx1⟩
      · simp only [Bool.and_eq_true, decide_eq_true_eq] at hb
        obtain ⟨⟨hn, hi⟩, hl⟩ := hb
        have hsub : Sub env (S4b.canon ⟨c, l, 0, m⟩) := by
          intro p hp
          simp only [S4b, c4b, List.mem_cons, List.not_mem_nil, or_false] at hp
          rw [hn] at e12
          rw [hi] at e13
          rcases hp with rfl | rfl | rfl | rfl <;> assumption
        obtain ⟨hxx, k1, k2, _⟩ := Pg.Ex.ret hx1
        exact ⟨k1, k2, ⟨c, l, 0, m⟩, ⟨Nat.zero_le _, hl⟩, hsub, by simp only [S4b, hxx]; rfl⟩
      · exact (Pg.Ex.fail hx1).elim
    · exact (Pg.Ex.fail hx).elim
noncomputable def e4 (p : Int) (ci : Bool) (items : List Item) (l0 l1 l2 : List Line) (c0 c1 c2 n : Int) := evF s05 h2 40 4 [dSt ⟨p, items, l0, l1, l2, c0, c1, c2⟩ ci, .int .i64 n]
theorem e4_eq (p : Int) (ci : Bool) (items : List Item) (l0 l1 l2 : List Line) (c0 c1 c2 n : Int) : e4 p ci items l0 l1 l2 c0 c1 c2 n = (bif Nat.ble (List.length items) (9223372036854775807 : Nat) then bif Decidable.decide ((60 : Int) < (↑(List.length items) : Int)) then Option.some (Go.Ev.D.bool Bool.true) else bif Nat.ble (List.length l0) (9223372036854775807 : Nat) then bif Decidable.decide ((40 : Int) < (↑(List.length l0) : Int)) then Option.some (Go.Ev.D.bool Bool.true) else bif Nat.ble (List.length l1) (9223372036854775807 : Nat) then bif Decidable.decide ((40 : Int) < (↑(List.length l1) : Int)) then Option.some (Go.Ev.D.bool Bool.true) else bif Nat.ble (List.length l2) (9223372036854775807 : Nat) then bif Decidable.decide ((40 : Int) < (↑(List.length l2) : Int)) then Option.some (Go.Ev.D.bool Bool.true) else bif Nat.ble (List.length items) (9223372036854775807 : Nat) && (Nat.ble (List.length l0) (9223372036854775807 : Nat) && (Nat.ble (List.length l1) (9223372036854775807 : Nat) && Nat.ble (List.length l2) (9223372036854775807 : Nat))) then bif !Go.Ev.standsB (Go.Ev.St.mk p items l0 l1 l2 c0 c1 c2) then Option.some (Go.Ev.D.bool Bool.true) else bif Nat.ble (List.length items) (9223372036854775807 : Nat) && (Nat.ble (List.length l0) (9223372036854775807 : Nat) && (Nat.ble (List.length l1) (9223372036854775807 : Nat) && Nat.ble (List.length l2) (9223372036854775807 : Nat))) then bif !Go.Ev.standsB (Go.Ev.St.mk (if (if (1048575 : Int) < n then (1048575 : Int) else n) < p then p else if (1048575 : Int) < n then (1048575 : Int) else n) items l0 l1 l2 c0 c1 c2) then Option.some (Go.Ev.D.bool Bool.false) else bif Nat.ble (List.length items) (9223372036854775807 : Nat) then bif Decidable.decide ((↑(List.length items) : Int) = (↑(List.length items) : Int)) && Bool.true && Decidable.decide (List.length items ≤ (9223372036854775807 : Nat)) then bif Nat.ble (List.length l0) (9223372036854775807 : Nat) then bif Decidable.decide ((↑(List.length l0) : Int) = (↑(List.length l0) : Int)) && Bool.true && Decidable.decide (List.length l0 ≤ (9223372036854775807 : Nat)) then bif Nat.ble (List.length l1) (9223372036854775807 : Nat) then bif Decidable.decide ((↑(List.length l1) : Int) = (↑(List.length l1) : Int)) && Bool.true && Decidable.decide (List.length l1 ≤ (9223372036854775807 : Nat)) then bif Nat.ble (List.length l2) (9223372036854775807 : Nat) then bif Decidable.decide ((↑(List.length l2) : Int) = (↑(List.length l2) : Int)) && Bool.true && Decidable.decide (List.length l2 ≤ (9223372036854775807 : Nat)) then bif Nat.ble (List.length items) (9223372036854775807 : Nat) && (Nat.ble (List.length l0) (9223372036854775807 : Nat) && (Nat.ble (List.length l1) (9223372036854775807 : Nat) && Nat.ble (List.length l2) (9223372036854775807 : Nat))) then bif !Go.Ev.standsB (Go.Ev.St.mk (if Go.Ev.mxL l2 (if Go.Ev.mxL l1 (if Go.Ev.mxL l0 (Go.Ev.mxI items (0 : Int)) < c0 then c0 else Go.Ev.mxL l0 (Go.Ev.mxI items (0 : Int))) < c1 then c1 else Go.Ev.mxL l1 (if Go.Ev.mxL l0 (Go.Ev.mxI items (0 : Int)) < c0 then c0 else Go.Ev.mxL l0 (Go.Ev.mxI items (0 : Int)))) < c2 then c2 else Go.Ev.mxL l2 (if Go.Ev.mxL l1 (if Go.Ev.mxL l0 (Go.Ev.mxI items (0 : Int)) < c0 then c0 else Go.Ev.mxL l0 (Go.Ev.mxI items (0 : Int))) < c1 then c1 else Go.Ev.mxL l1 (if Go.Ev.mxL l0 (Go.Ev.mxI items (0 : Int)) < c0 then c0 else Go.Ev.mxL l0 (Go.Ev.mxI items (0 : Int))))) items l0 l1 l2 c0 c1 c2) then Option.some (Go.Ev.D.bool Bool.false) else bif Nat.ble (List.length items) (9223372036854775807 : Nat) && (Nat.ble (List.length l0) (9223372036854775807 : Nat) && (Nat.ble (List.length l1) (9223372036854775807 : Nat) && Nat.ble (List.length l2) (9223372036854775807 : Nat))) then bif !Go.Ev.standsB (Go.Ev.St.mk (Go.IntKind.wrap Go.IntKind.i64 ((if Go.Ev.mxL l2 (if Go.Ev.mxL l1 (if Go.Ev.mxL l0 (Go.Ev.mxI items (0 : Int)) < c0 then c0 else Go.Ev.mxL l0 (Go.Ev.mxI items (0 : Int))) < c1 then c1 else Go.Ev.mxL l1 (if Go.Ev.mxL l0 (Go.Ev.mxI items (0 : Int)) < c0 then c0 else Go.Ev.mxL l0 (Go.Ev.mxI items (0 : Int)))) < c2 then c2 else Go.Ev.mxL l2 (if Go.Ev.mxL l1 (if Go.Ev.mxL l0 (Go.Ev.mxI items (0 : Int)) < c0 then c0 else Go.Ev.mxL l0 (Go.Ev.mxI items (0 : Int))) < c1 then c1 else Go.Ev.mxL l1 (if Go.Ev.mxL l0 (Go.Ev.mxI items (0 : Int)) < c0 then c0 else Go.Ev.mxL l0 (Go.Ev.mxI items (0 : Int))))) - (1 : Int))) items l0 l1 l2 c0 c1 c2) then Option.some (Go.Ev.D.bool Bool.true) else Option.some (Go.Ev.D.bool Bool.false) else Option.none else Option.none else Option.none else Option.none else Option.none else Option.none else Option.none else Option.none else Option.none else Option.none else Option.none else Option.none else Option.none else Option.none else Option.none else Option.none) := by kernel_rfl

/-! ### the plain law -/
theorem eachB_split {α : Type} (one : α → Bool) (two : α → α → Bool) : ∀ (l : List α) (p : Option α), eachB one two p l = (l.all one && eachB (fun _ => true) two p l)
  | [], _ => rfl
  | x :: l, p => by
    simp only [eachB, List.all_cons]
    rw [eachB_split one two l (some x)]
    cases one x <;> cases l.all one <;> simp
theorem within_iff {x a b : Int} : within x a b = true ↔ a ≤ x ∧ x ≤ b := by simp [within]
theorem mxI_le {p : Int} : ∀ (l : List Item) (m : Int), mxI l m ≤ p ↔ m ≤ p ∧ ∀ x ∈ l, x.place ≤ p
  | [], m => by simp [mxI]
  | x :: l, m => by
    have := mxI_le (p := p) l (mx m x.place)
    simp only [mxI, List.foldl_cons, List.mem_cons, forall_eq_or_imp] at this ⊢
    rw [this, mx_le, and_assoc]
theorem mxL_le {p : Int} : ∀ (l : List Line) (m : Int), mxL l m ≤ p ↔ m ≤ p ∧ ∀ x ∈ l, x.place ≤ p
  | [], m => by simp [mxL]
  | x :: l, m => by
    have := mxL_le (p := p) l (mx m x.place)
    simp only [mxL, List.foldl_cons, List.mem_cons, forall_eq_or_imp] at this ⊢
    rw [this, mx_le, and_assoc]
def leastOf (s : St) : Int := mx (mxL s.l2 (mx (mxL s.l1 (mx (mxL s.l0 (mxI s.items 0)) s.c0)) s.c1)) s.c2
theorem leastOf_le {s : St} {p : Int} : leastOf s ≤ p ↔ 0 ≤ p ∧ (∀ x ∈ s.items, x.place ≤ p) ∧ ((∀ x ∈ s.l0, x.place ≤ p) ∧ s.c0 ≤ p) ∧ ((∀ x ∈ s.l1, x.place ≤ p) ∧ s.c1 ≤ p) ∧ ((∀ x ∈ s.l2, x.place ≤ p) ∧ s.c2 ≤ p) := by
  simp only [leastOf, mx_le, mxL_le, mxI_le, and_assoc]
theorem each35_iff {p : Int} {l : List Item} : each35 p l 0 = true ↔ (∀ x ∈ l, oneI p x = true) ∧ eachB (fun _ => true) twoI none l = true := by
  rw [each35, eachB_split]; simp [ahead]
theorem each38_iff {p : Int} {l : List Line} : each38 p l 0 = true ↔ (∀ x ∈ l, oneL p x = true) ∧ eachB (fun _ => true) twoL none l = true := by
  rw [each38, eachB_split]; simp [ahead]
theorem oneI_iff {p : Int} {x : Item} : oneI p x = true ↔ (within x.key 0 23 = true ∧ 1 ≤ x.place ∧ within x.value 0 255 = true) ∧ x.place ≤ p := by
  simp only [oneI, Bool.and_eq_true, within_iff]; constructor <;> (intro h; refine ⟨?_, ?_⟩ <;> omega)
theorem oneL_iff {p : Int} {x : Line} : oneL p x = true ↔ (within x.offset 0 4194303 = true ∧ 1 ≤ x.place ∧ within x.j 0 3 = true ∧ within x.key 0 7 = true ∧ within x.value 0 255 = true) ∧ x.place ≤ p := by
  simp only [oneL, Bool.and_eq_true, within_iff]; constructor <;> (intro h; refine ⟨?_, ?_⟩ <;> omega)
theorem forall_and' {α : Type} {l : List α} {P Q : α → Prop} : (∀ x ∈ l, P x ∧ Q x) ↔ (∀ x ∈ l, P x) ∧ ∀ x ∈ l, Q x :=
  ⟨fun h => ⟨fun x hx => (h x hx).1, fun x hx => (h x hx).2⟩, fun h x hx => ⟨h.1 x hx, h.2 x hx⟩⟩
theorem partB_at {p c : Int} {l : List Line} (h : partB p c l = true) (q : Int) : partB q c l = true ↔ c ≤ q ∧ ∀ x ∈ l, x.place ≤ q := by
  simp only [partB, Bool.and_eq_true, within_iff, each38_iff, oneL_iff, forall_and'] at h ⊢
  obtain ⟨⟨h1, h2⟩, h3, h4, ⟨h5, h6⟩, h7⟩ := h
  exact ⟨fun k => ⟨k.1.2, k.2.2.2.1.2⟩, fun k => ⟨⟨h1, k.1⟩, h3, h4, ⟨h5, k.2⟩, h7⟩⟩
theorem stands_at {s : St} (h : standsB s = true) (q : Int) : standsB { s with place := q } = true ↔ leastOf s ≤ q ∧ q ≤ 1048575 := by
  simp only [standsB, Bool.and_eq_true] at h ⊢
  obtain ⟨h1, h2, h3, h4, h5⟩ := h
  rw [partB_at h3, partB_at h4, partB_at h5, leastOf_le, within_iff]
  rw [each35_iff] at h2 ⊢
  simp only [oneI_iff, forall_and'] at h2 ⊢
  obtain ⟨⟨k1, k2⟩, k3⟩ := h2
  constructor
  · intro ⟨a1, ⟨⟨_, a2⟩, _⟩, a3, a4, a5⟩
    exact ⟨⟨a1.1, a2, ⟨a3.2, a3.1⟩, ⟨a4.2, a4.1⟩, ⟨a5.2, a5.1⟩⟩, a1.2⟩
  · intro ⟨⟨a0, a2, a3, a4, a5⟩, a1⟩
    exact ⟨⟨a0, a1⟩, ⟨⟨k1, a2⟩, k3⟩, ⟨a3.2, a3.1⟩, ⟨a4.2, a4.1⟩, ⟨a5.2, a5.1⟩⟩
theorem e4_ok (p : Int) (ci : Bool) (items : List Item) (l0 l1 l2 : List Line) (c0 c1 c2 n : Int) (h : items.length ≤ 9223372036854775807) (h0 : l0.length ≤ 9223372036854775807) (h1 : l1.length ≤ 9223372036854775807) (h2 : l2.length ≤ 9223372036854775807) :
    e4 p ci items l0 l1 l2 c0 c1 c2 n = some (.bool true) := by
  rw [e4_eq]
  have b := Nat.ble_eq_true_of_le h
  have b0 := Nat.ble_eq_true_of_le h0
  have b1 := Nat.ble_eq_true_of_le h1
  have b2 := Nat.ble_eq_true_of_le h2
  simp only [b, b0, b1, b2, h, h0, h1, h2, decide_true, Bool.and_true, Bool.true_and, cond_true]
  cases decide ((60 : Int) < items.length); rotate_left; · rfl
  cases decide ((40 : Int) < l0.length); rotate_left; · rfl
  cases decide ((40 : Int) < l1.length); rotate_left; · rfl
  cases decide ((40 : Int) < l2.length); rotate_left; · rfl
  cases hs : standsB ⟨p, items, l0, l1, l2, c0, c1, c2⟩; · rfl
  have at' := stands_at hs
  have hp := (at' p).1 hs
  generalize hq : (if (if 1048575 < n then 1048575 else n) < p then p else if 1048575 < n then 1048575 else n) = q
  have hq1 : p ≤ q ∧ q ≤ 1048575 := by subst hq; split <;> (try split) <;> omega
  have a1 : standsB ⟨q, items, l0, l1, l2, c0, c1, c2⟩ = true := (at' q).2 (by omega)
  have hge : 0 ≤ leastOf ⟨p, items, l0, l1, l2, c0, c1, c2⟩ := (leastOf_le.1 (Int.le_refl _)).1
  generalize hm : (if mxL l2 (if mxL l1 (if mxL l0 (mxI items 0) < c0 then c0 else mxL l0 (mxI items 0)) < c1 then c1 else mxL l1 (if mxL l0 (mxI items 0) < c0 then c0 else mxL l0 (mxI items 0))) < c2 then c2 else mxL l2 (if mxL l1 (if mxL l0 (mxI items 0) < c0 then c0 else mxL l0 (mxI items 0)) < c1 then c1 else mxL l1 (if mxL l0 (mxI items 0) < c0 then c0 else mxL l0 (mxI items 0)))) = m
  have hm' : leastOf ⟨p, items, l0, l1, l2, c0, c1, c2⟩ = m := hm
  rw [hm'] at at' hp hge
  have a2 : standsB ⟨m, items, l0, l1, l2, c0, c1, c2⟩ = true := (at' m).2 (by omega)
  have hw : IntKind.i64.wrap (m - 1) = m - 1 := wrap_id (by omega) (by omega)
  have a3 : standsB ⟨m - 1, items, l0, l1, l2, c0, c1, c2⟩ = false := by
    cases hz : standsB ⟨m - 1, items, l0, l1, l2, c0, c1, c2⟩ with
    | false => rfl
    | true => exact absurd ((at' (m - 1)).1 hz) (by omega)
  rw [hw, a1, a2, a3]
  rfl
end Go.Ev
