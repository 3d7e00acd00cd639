import Derived.Test.YtnphmfcnnpoinaaTab05
import Derived.Test.YtnphmfcnnpoinaaEvZ2
namespace Go.Ev
open Go.Proofs
set_option maxRecDepth 100000
set_option linter.unusedVariables false
noncomputable def f05 : Fns RC := noFns Try.prog 57 (fun _ => false)
theorem f05_laws : FLaws Try.prog s05 f05 := noFns_laws (by kernel_rfl)

/-! ### within -/
def within (n a b : Int) : Bool := decide (a ≤ n) && decide (n ≤ b)
def s33 : List (D RC) → Option (Bool × D RC)
  | [.int .i64 n, .int .i64 a, .int .i64 b] => some (true, .bool (within n a b))
  | _ => none
noncomputable def e33 (n a b : Int) := evF s05 f05 20 33 [.int .i64 n, .int .i64 a, .int .i64 b]
theorem e33_eq (n a b : Int) : e33 n a b = (bif Decidable.decide (a ≤ n) then Option.some (Go.Ev.D.bool (Decidable.decide (n ≤ b))) else Option.some (Go.Ev.D.bool Bool.false)) := by kernel_rfl
noncomputable def f1 := f05.addSpec 33 s33
theorem f1_laws : FLaws Try.prog s05 f1 := f05_laws.addEv s05_laws fun args d h => by
  unfold s33 at h
  split at h
  · rename_i n a b
    cases h
    refine ⟨by simp [D.refs], 20, ?_⟩
    show e33 n a b = _
    rw [e33_eq, within]
    cases decide (a ≤ n) <;> simp
  · cases h

/-! ### Written's two tests -/
def oneW (w : Write) : Bool := within w.key 0 23 && within w.value 0 255
def s32 : List (D RC) → Option (Bool × D RC)
  | [.acons (.int .i64 a) (.acons (.int .i64 b) .anil)] => some (true, .bool (oneW ⟨a, b⟩))
  | _ => none
noncomputable def e32 (a b : Int) := evF s05 f1 20 32 [.acons (.int .i64 a) (.acons (.int .i64 b) .anil)]
theorem e32_eq (a b : Int) : e32 a b = (bif Go.Ev.within a (0 : Int) (23 : Int) then Option.some (Go.Ev.D.bool (Go.Ev.within b (0 : Int) (255 : Int))) else Option.some (Go.Ev.D.bool Bool.false)) := by kernel_rfl
noncomputable def f2 := f1.addSpec 32 s32
theorem f2_laws : FLaws Try.prog s05 f2 := f1_laws.addEv s05_laws fun args d h => by
  unfold s32 at h
  split at h
  · rename_i a b
    cases h
    refine ⟨by simp [D.refs], 20, ?_⟩
    show e32 a b = _
    rw [e32_eq, oneW]
    cases within a 0 23 <;> simp
  · cases h
def s34 : List (D RC) → Option (Bool × D RC)
  | [.acons (.int .i64 a) (.acons (.int .i64 b) .anil), .acons (.int .i64 c) (.acons (.int .i64 d) .anil)] => some (true, .bool (decide (a < c)))
  | _ => none
noncomputable def e34 (a b c d : Int) := evF s05 f2 20 34 [.acons (.int .i64 a) (.acons (.int .i64 b) .anil), .acons (.int .i64 c) (.acons (.int .i64 d) .anil)]
theorem e34_eq (a b c d : Int) : e34 a b c d = (Option.some (Go.Ev.D.bool (Decidable.decide (a < c)))) := by kernel_rfl
noncomputable def f3 := f2.addSpec 34 s34
theorem f3_laws : FLaws Try.prog s05 f3 := f2_laws.addEv s05_laws fun args d h => by
  unfold s34 at h
  split at h
  · rename_i a b c d
    cases h
    exact ⟨by simp [D.refs], 20, e34_eq a b c d⟩
  · cases h

/-! ### each[Write] -/
def c31 (c : Bool) (l : List Write) (i : Int) : Env RC := [(0, .sl (C := RC) .write c l), (1, .fn 32 .anil), (2, .fn 34 .anil), (6, .bool false), (9, .int .i64 l.length), (10, .int .i64 i)]
noncomputable def r31 (c : Bool) (l : List Write) (i : Int) := rnd s05 f3 31 2 30 [0, 1, 2, 6, 9, 10] [6] (c31 c l i)
theorem r31_eq (c : Bool) (l : List Write) (i : Int) : r31 c l i = (bif Decidable.decide (i < (↑(List.length l) : Int)) then bif Decidable.decide ((0 : Int) ≤ i ∧ i < (↑(List.length l) : Int)) then bif !Go.Ev.oneW (Go.Ev.Write.mk (Go.Ev.Write.key (List.getD l (Int.toNat i) (Go.Ev.Write.mk (0 : Int) (0 : Int)))) (Go.Ev.Write.value (List.getD l (Int.toNat i) (Go.Ev.Write.mk (0 : Int) (0 : Int))))) then Option.some (Go.Ev.X.ret, [((6 : Nat), Go.Ev.D.bool Bool.false)]) else bif Decidable.decide ((0 : Int) < i) then bif Decidable.decide ((0 : Int) ≤ Go.IntKind.wrap Go.IntKind.i64 (i - (1 : Int)) ∧ Go.IntKind.wrap Go.IntKind.i64 (i - (1 : Int)) < (↑(List.length l) : Int)) then bif Decidable.decide ((0 : Int) ≤ i ∧ i < (↑(List.length l) : Int)) then bif !Decidable.decide (Go.Ev.Write.key (List.getD l (Int.toNat (Go.IntKind.wrap Go.IntKind.i64 (i - (1 : Int)))) (Go.Ev.Write.mk (0 : Int) (0 : Int))) < Go.Ev.Write.key (List.getD l (Int.toNat i) (Go.Ev.Write.mk (0 : Int) (0 : Int)))) then Option.some (Go.Ev.X.ret, [((6 : Nat), Go.Ev.D.bool Bool.false)]) else Option.some (Go.Ev.X.normal, [((0 : Nat), Go.Ev.D.sl Go.Ev.RTy.write c l), ((1 : Nat), Go.Ev.D.fn (32 : Nat) Go.Ev.D.anil), ((2 : Nat), Go.Ev.D.fn (34 : Nat) Go.Ev.D.anil), ((6 : Nat), Go.Ev.D.bool Bool.false), ((9 : Nat), Go.Ev.D.int Go.IntKind.i64 (↑(List.length l) : Int)), ((10 : Nat), Go.Ev.D.int Go.IntKind.i64 (Go.IntKind.wrap Go.IntKind.i64 (i + (1 : Int))))]) else Option.none else Option.none else Option.some (Go.Ev.X.normal, [((0 : Nat), Go.Ev.D.sl Go.Ev.RTy.write c l), ((1 : Nat), Go.Ev.D.fn (32 : Nat) Go.Ev.D.anil), ((2 : Nat), Go.Ev.D.fn (34 : Nat) Go.Ev.D.anil), ((6 : Nat), Go.Ev.D.bool Bool.false), ((9 : Nat), Go.Ev.D.int Go.IntKind.i64 (↑(List.length l) : Int)), ((10 : Nat), Go.Ev.D.int Go.IntKind.i64 (Go.IntKind.wrap Go.IntKind.i64 (i + (1 : Int))))]) else Option.none else Option.some (Go.Ev.X.exit (0 : Nat), [((6 : Nat), Go.Ev.D.bool Bool.false)])) := by kernel_rfl

def twoW (x y : Write) : Bool := decide (x.key < y.key)
def eachW (l : List Write) (i : Nat) : Bool := eachB oneW twoW (ahead l i) (l.drop i)

/-- the round of 'each', for any type of elements: the tree as it stands -/
theorem each_step {α : Type} (one : α → Bool) (two : α → α → Bool) (l : List α) (i : Nat) (d : α) (hlt : i < l.length) :
    eachB one two (ahead l i) (l.drop i) = (one (l.getD i d) && (decide (i = 0) || two (l.getD (i - 1) d) (l.getD i d)) && eachB one two (ahead l (i + 1)) (l.drop (i + 1))) := by
  rw [List.drop_eq_getElem_cons hlt]
  have hi : l.getD i d = l[i] := by simp [List.getD_eq_getElem?_getD, hlt]
  have hn : ahead l (i + 1) = some l[i] := by simp [ahead, hlt]
  rw [hi, hn]
  simp only [eachB]
  cases i with
  | zero => simp [ahead]
  | succ j =>
    have : j < l.length := by omega
    simp [ahead, this]

structure LI where
  c : Bool
  l : List Write
  i : Nat
def S31 : LoopSt RC LI where
  canon q := c31 q.c q.l q.i
  fin q := bif eachW q.l q.i then (.exit 0, [(6, .bool false)]) else (.ret, [(6, .bool false)])
  Inv q := q.i ≤ q.l.length ∧ q.l.length ≤ 9223372036854775807
  μ q := q.l.length - q.i

def l31 (env : Env RC) : Pg RC (X × Env RC) := match eget env 0, eget env 1, eget env 2, eget env 6, eget env 9, eget env 10 with
  | .sl .write c l, .fn 32 .anil, .fn 34 .anil, .bool false, .int .i64 n, .int .i64 i =>
    .br (decide (n = l.length) && decide (i = 0) && decide (l.length ≤ 9223372036854775807)) (.br (eachW l 0) (.ret (.exit 0, [(6, .bool false)])) (.ret (.ret, [(6, .bool false)]))) .fail
  | _, _, _, _, _, _ => .fail
noncomputable def f4 := f3.addLoop 31 2 l31
theorem f4_laws : FLaws Try.prog s05 f4 := by
  refine f3_laws.addRounds s05_laws (by kernel_rfl) S31 30 [0, 1, 2, 6, 9, 10] [6] (fun q hI => ?_) ?_
  · obtain ⟨c, l, i⟩ := q
    obtain ⟨h1, h2⟩ := hI
    simp only at h1 h2
    refine ⟨by simp [S31, c31, D.refs], by simp only [S31]; cases eachW l i <;> simp [D.refs], ?_⟩
    show Leaf (r31 c l i) _
    rw [r31_eq]
    have e1 : ((i : Int)).toNat = i := by simp
    by_cases hlt : i < l.length
    · have hw1 : IntKind.i64.wrap ((i : Int) - 1) = (i : Int) - 1 := wrap_id (by omega) (by omega)
      have hw2 : IntKind.i64.wrap ((i : Int) + 1) = ((i + 1 : Nat) : Int) := by rw [wrap_id (by omega) (by omega)]; simp
      have e2 : ((i : Int) - 1).toNat = i - 1 := by omega
      have hst := each_step oneW twoW l i (⟨0, 0⟩ : Write) hlt
      rw [hw1, hw2, e1, e2]
      have hgo : eachW l (i + 1) = eachW l i → Led S31 ⟨c, l, i⟩ (X.normal, c31 c l (i + 1 : Nat)) := fun he =>
        .inl ⟨rfl, ⟨c, l, i + 1⟩, ⟨by simp only; omega, h2⟩, by simp only [S31]; omega, by simp only [S31, he], rfl⟩
      have hno : eachW l i = false → Led S31 ⟨c, l, i⟩ (X.ret, [(6, D.bool false)]) := fun he => .inr ⟨by simp, by simp only [S31, he, cond_false]⟩
      generalize (⟨0, 0⟩ : Write) = d at hst ⊢
      simp only [leaf_cond, leaf_some, leaf_none, decide_eq_true_eq, decide_eq_false_iff_not, Bool.not_eq_true', Bool.not_eq_false']
      refine ⟨fun _ => ⟨fun _ => ⟨fun ho => hno ?_, fun ho => ⟨fun hpos => ⟨fun _ => ⟨fun _ => ⟨fun ht => hno ?_, fun ht => hgo ?_⟩, fun hc => by omega⟩, fun hc => by omega⟩, fun hz => hgo ?_⟩⟩, fun hc => by omega⟩, fun hc => by omega⟩
      · rw [eachW, hst]
        have : oneW (l.getD i d) = false := ho
        rw [this]; rfl
      · rw [eachW, hst]
        have hz : ¬ i = 0 := by omega
        have : twoW (l.getD (i - 1) d) (l.getD i d) = false := by simpa [twoW] using ht
        rw [this]; simp [hz]
      · rw [eachW, eachW, hst]
        have h3 : oneW (l.getD i d) = true := ho
        have : twoW (l.getD (i - 1) d) (l.getD i d) = true := by simpa [twoW] using ht
        rw [h3, this]; simp
      · rw [eachW, eachW, hst]
        have h3 : oneW (l.getD i d) = true := ho
        have hz' : i = 0 := by omega
        rw [h3]; simp [hz']
    · have hi : i = l.length := by omega
      simp only [leaf_cond, leaf_some, leaf_none, decide_eq_true_eq, decide_eq_false_iff_not, Bool.not_eq_true', Bool.not_eq_false']
      refine ⟨fun hc => by omega, fun _ => .inr ⟨by simp, ?_⟩⟩
      simp [S31, eachW, hi, eachB]
  · intro e h nx env x env' h' nx' tr hx
    unfold l31 at hx
    split at hx
    · rename_i c l n i e0 e1 e2 e6 e9 e10
      rcases Pg.Ex.br hx with ⟨hb, hx1⟩ | ⟨hb, hx1⟩
      · simp only [Bool.and_eq_true, decide_eq_true_eq] at hb
        obtain ⟨⟨hn, hi⟩, hl⟩ := hb
        have hsub : Sub env (S31.canon ⟨c, l, 0⟩) := by
          intro p hp
          simp only [S31, c31, List.mem_cons, List.not_mem_nil, or_false] at hp
          rw [hn] at e9
          rw [hi] at e10
          rcases hp with rfl | rfl | rfl | rfl | rfl | rfl <;> assumption
        rcases Pg.Ex.br hx1 with ⟨hb2, hx2⟩ | ⟨hb2, hx2⟩
        · obtain ⟨hxx, k1, k2, _⟩ := Pg.Ex.ret hx2
          exact ⟨k1, k2, ⟨c, l, 0⟩, ⟨Nat.zero_le _, hl⟩, hsub, by simp [S31, hb2, hxx]⟩
        · obtain ⟨hxx, k1, k2, _⟩ := Pg.Ex.ret hx2
          exact ⟨k1, k2, ⟨c, l, 0⟩, ⟨Nat.zero_le _, hl⟩, hsub, by simp [S31, hb2, hxx]⟩
      · exact (Pg.Ex.fail hx1).elim
    · exact (Pg.Ex.fail hx).elim
end Go.Ev
