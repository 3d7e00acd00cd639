import Derived.Test.YtnphmfcnnpoinaaR05a
namespace Go.Ev
open Go.Proofs
set_option maxRecDepth 100000
set_option linter.unusedVariables false
set_option linter.unusedSimpArgs false

/-! ### Written -/
def writtenB (l : List Write) : Bool := decide (l.length ≤ 4) && eachW l 0
def s12 : List (D RC) → Option (Bool × D RC)
  | [.sl .write _ l] => some (Nat.ble (List.length (α := Write) l) 9223372036854775807, .bool (writtenB l))
  | _ => none
noncomputable def e12 (c : Bool) (l : List Write) := evF s05 f4 20 12 [.sl (C := RC) .write c l]
theorem e12_eq (c : Bool) (l : List Write) : e12 c l = (bif Nat.ble (List.length l) (9223372036854775807 : Nat) then bif Decidable.decide ((↑(List.length l) : Int) ≤ (4 : Int)) then bif Nat.ble (List.length l) (9223372036854775807 : Nat) then bif Decidable.decide ((↑(List.length l) : Int) = (↑(List.length l) : Int)) && Bool.true && Decidable.decide (List.length l ≤ (9223372036854775807 : Nat)) then bif Go.Ev.eachW l (0 : Nat) then Option.some (Go.Ev.D.bool Bool.true) else Option.some (Go.Ev.D.bool Bool.false) else Option.none else Option.none else Option.some (Go.Ev.D.bool Bool.false) else Option.none) := by kernel_rfl
theorem e12_ok (c : Bool) (l : List Write) (h1 : Nat.ble l.length 9223372036854775807 = true) : e12 c l = some (.bool (writtenB l)) := by
  have h2 : l.length ≤ 9223372036854775807 := Nat.le_of_ble_eq_true h1
  have h3 : (((l.length : Nat) : Int) ≤ 4) ↔ l.length ≤ 4 := by omega
  rw [e12_eq, writtenB, h1]
  by_cases h4 : l.length ≤ 4
  · simp [h4, h2, h3]
    cases eachW l 0 <;> rfl
  · simp [h4, h3]
noncomputable def f5 := f4.addSpec 12 s12
theorem f5_laws : FLaws Try.prog s05 f5 := f4_laws.addEv s05_laws fun args d h => by
  unfold s12 at h
  split at h
  · rename_i c l
    simp only [Option.some.injEq, Prod.mk.injEq] at h
    obtain ⟨h1, rfl⟩ := h
    exact ⟨by simp [D.refs], 20, e12_ok c l h1⟩
  · cases h
/-! ### May -/
noncomputable def e13 (p : Int) (y c : Bool) (l : List Write) := evF s05 f5 20 13 [.acons (.int .i64 p) (.acons (.bool y) (.acons (.sl (C := RC) .write c l) .anil))]
theorem e13_eq (p : Int) (y c : Bool) (l : List Write) : e13 p y c l = (bif Go.Ev.within p (1 : Int) (1048575 : Int) then bif Nat.ble (List.length l) (9223372036854775807 : Nat) then bif Go.Ev.writtenB l then bif y then Option.some (Go.Ev.D.bool Bool.true) else bif Nat.ble (List.length l) (9223372036854775807 : Nat) then Option.some (Go.Ev.D.bool ((↑(List.length l) : Int) == (0 : Int))) else Option.none else Option.some (Go.Ev.D.bool Bool.false) else Option.none else Option.some (Go.Ev.D.bool Bool.false)) := by kernel_rfl
/-! ### the document's own word -/
noncomputable def e11 := evF s05 f5 1000 11 []
theorem e11_eq : e11 = some (.bool true) := by kernel_rfl
def s11 : List (D RC) → Option (Bool × D RC)
  | [] => some (true, .bool true)
  | _ => none
noncomputable def f6 := f5.addSpec 11 s11
theorem f6_laws : FLaws Try.prog s05 f6 := f5_laws.addEv s05_laws fun args d h => by
  unfold s11 at h
  split at h
  · cases h; exact ⟨by simp, 1000, e11_eq⟩
  · cases h
/-! ### RecordParts: its loop -/
def c3 (c : Bool) (l : List Write) (all : Bool) (i : Int) : Env RC := [(0, .sl (C := RC) .write c l), (3, .bool all), (12, .int .i64 l.length), (13, .int .i64 i)]
noncomputable def r3 (c : Bool) (l : List Write) (all : Bool) (i : Int) := rnd s05 f6 3 5 30 [0, 3, 12, 13] [0, 3] (c3 c l all i)
theorem r3_eq (c : Bool) (l : List Write) (all : Bool) (i : Int) : r3 c l all i = (bif Decidable.decide (i < (↑(List.length l) : Int)) then bif all then bif Decidable.decide ((0 : Int) ≤ i ∧ i ≤ Go.IntKind.wrap Go.IntKind.i64 (i + (1 : Int)) ∧ Go.IntKind.wrap Go.IntKind.i64 (i + (1 : Int)) ≤ (↑(List.length l) : Int)) then bif Nat.ble (List.length (List.drop (Int.toNat i) (List.take (Int.toNat (Go.IntKind.wrap Go.IntKind.i64 (i + (1 : Int)))) l))) (9223372036854775807 : Nat) then bif Go.Ev.writtenB (List.drop (Int.toNat i) (List.take (Int.toNat (Go.IntKind.wrap Go.IntKind.i64 (i + (1 : Int)))) l)) then bif i == (0 : Int) then Option.some (Go.Ev.X.normal, [((0 : Nat), Go.Ev.D.sl Go.Ev.RTy.write c l), ((3 : Nat), Go.Ev.D.bool Bool.true), ((12 : Nat), Go.Ev.D.int Go.IntKind.i64 (↑(List.length l) : Int)), ((13 : Nat), Go.Ev.D.int Go.IntKind.i64 (Go.IntKind.wrap Go.IntKind.i64 (i + (1 : Int))))]) else bif Decidable.decide ((0 : Int) ≤ Go.IntKind.wrap Go.IntKind.i64 (i - (1 : Int)) ∧ Go.IntKind.wrap Go.IntKind.i64 (i - (1 : Int)) ≤ Go.IntKind.wrap Go.IntKind.i64 (i + (1 : Int)) ∧ Go.IntKind.wrap Go.IntKind.i64 (i + (1 : Int)) ≤ (↑(List.length l) : Int)) then bif Nat.ble (List.length (List.drop (Int.toNat (Go.IntKind.wrap Go.IntKind.i64 (i - (1 : Int)))) (List.take (Int.toNat (Go.IntKind.wrap Go.IntKind.i64 (i + (1 : Int)))) l))) (9223372036854775807 : Nat) then Option.some (Go.Ev.X.normal, [((0 : Nat), Go.Ev.D.sl Go.Ev.RTy.write c l), ((3 : Nat), Go.Ev.D.bool (Go.Ev.writtenB (List.drop (Int.toNat (Go.IntKind.wrap Go.IntKind.i64 (i - (1 : Int)))) (List.take (Int.toNat (Go.IntKind.wrap Go.IntKind.i64 (i + (1 : Int)))) l)))), ((12 : Nat), Go.Ev.D.int Go.IntKind.i64 (↑(List.length l) : Int)), ((13 : Nat), Go.Ev.D.int Go.IntKind.i64 (Go.IntKind.wrap Go.IntKind.i64 (i + (1 : Int))))]) else Option.none else Option.none else Option.some (Go.Ev.X.normal, [((0 : Nat), Go.Ev.D.sl Go.Ev.RTy.write c l), ((3 : Nat), Go.Ev.D.bool Bool.false), ((12 : Nat), Go.Ev.D.int Go.IntKind.i64 (↑(List.length l) : Int)), ((13 : Nat), Go.Ev.D.int Go.IntKind.i64 (Go.IntKind.wrap Go.IntKind.i64 (i + (1 : Int))))]) else Option.none else Option.none else Option.some (Go.Ev.X.normal, [((0 : Nat), Go.Ev.D.sl Go.Ev.RTy.write c l), ((3 : Nat), Go.Ev.D.bool Bool.false), ((12 : Nat), Go.Ev.D.int Go.IntKind.i64 (↑(List.length l) : Int)), ((13 : Nat), Go.Ev.D.int Go.IntKind.i64 (Go.IntKind.wrap Go.IntKind.i64 (i + (1 : Int))))]) else Option.some (Go.Ev.X.exit (0 : Nat), [((0 : Nat), Go.Ev.D.sl Go.Ev.RTy.write c l), ((3 : Nat), Go.Ev.D.bool all)])) := by kernel_rfl

def pairW (x y : Write) : Bool := writtenB [x, y]
def partsW (l : List Write) (i : Nat) : Bool := eachB oneW pairW (ahead l i) (l.drop i)
theorem written_one (w : Write) : writtenB [w] = oneW w := by simp [writtenB, eachW, eachB, ahead]
theorem pairW_eq (x y : Write) : pairW x y = (oneW x && (oneW y && twoW x y)) := by simp [pairW, writtenB, eachW, eachB, ahead, Bool.and_assoc]
theorem parts_each : ∀ (l : List Write) (p : Option Write), (∀ x, p = some x → oneW x = true) → eachB oneW pairW p l = eachB oneW twoW p l
  | [], p, _ => rfl
  | y :: l, p, hp => by
    simp only [eachB]
    cases hy : oneW y with
    | false => simp
    | true =>
      rw [parts_each l (some y) (fun x hx => by cases hx; exact hy)]
      cases p with
      | none => rfl
      | some x => simp [pairW_eq, hp x rfl, hy]
theorem parts_eq (l : List Write) : partsW l 0 = eachW l 0 := parts_each l none (by simp)

structure LB where
  c : Bool
  l : List Write
  all : Bool
  i : Nat
def S3 : LoopSt RC LB where
  canon q := c3 q.c q.l q.all q.i
  fin q := (.exit 0, [(0, .sl (C := RC) .write q.c q.l), (3, .bool (q.all && partsW q.l q.i))])
  Inv q := q.i ≤ q.l.length ∧ q.l.length ≤ 9223372036854775807
  μ q := q.l.length - q.i

def l3 (env : Env RC) : Pg RC (X × Env RC) := match eget env 0, eget env 3, eget env 12, eget env 13 with
  | .sl .write c l, .bool all, .int .i64 n, .int .i64 i =>
    .br (decide (n = l.length) && decide (i = 0) && decide (l.length ≤ 9223372036854775807)) (.ret (.exit 0, [(0, .sl (C := RC) .write c l), (3, .bool (all && partsW l 0))])) .fail
  | _, _, _, _ => .fail

theorem S3_round (c : Bool) (l : List Write) (all : Bool) (i : Nat) (h1 : i ≤ l.length) (h2 : l.length ≤ 9223372036854775807) : Leaf (r3 c l all i) (Led S3 ⟨c, l, all, i⟩) := by
  rw [r3_eq]
  by_cases hlt : i < l.length
  · have hw2 : IntKind.i64.wrap ((i : Int) + 1) = ((i + 1 : Nat) : Int) := by rw [wrap_id (by omega) (by omega)]; simp
    have hw1 : IntKind.i64.wrap ((i : Int) - 1) = (i : Int) - 1 := wrap_id (by omega) (by omega)
    have e1 : ((i : Int)).toNat = i := by simp
    have e2 : ((i : Int) - 1).toNat = i - 1 := by omega
    have e3 : (((i + 1 : Nat) : Int)).toNat = i + 1 := by simp
    have hst := each_step oneW pairW l i (⟨0, 0⟩ : Write) hlt
    rw [hw1, hw2, e1, e2, e3]
    have ht1 : List.take 1 (List.drop i l) = [l[i]] := by rw [List.drop_eq_getElem_cons hlt, List.take_succ_cons, List.take_zero]
    have hg : l.getD i ⟨0, 0⟩ = l[i] := by simp [List.getD_eq_getElem?_getD, hlt]
    have hd1 : List.drop i (List.take (i + 1) l) = [l.getD i ⟨0, 0⟩] := by
      rw [List.drop_take, hg, show i + 1 - i = 1 by omega, ht1]
    have hd2 : 0 < i → List.drop (i - 1) (List.take (i + 1) l) = [l.getD (i - 1) ⟨0, 0⟩, l.getD i ⟨0, 0⟩] := by
      intro hp
      have hq : i - 1 < l.length := by omega
      have hr : i - 1 + 1 = i := by omega
      have hs : i + 1 - (i - 1) = 2 := by omega
      rw [List.drop_take, hg, hs, List.drop_eq_getElem_cons hq, List.take_succ_cons]
      simp only [hr]
      rw [ht1]
      simp [List.getD_eq_getElem?_getD, hq]
    have hgo : ∀ b, (b && partsW l (i + 1)) = (all && partsW l i) → Led S3 ⟨c, l, all, i⟩ (X.normal, c3 c l b (i + 1 : Nat)) := fun b hb =>
      .inl ⟨rfl, ⟨c, l, b, i + 1⟩, ⟨by simp only; omega, h2⟩, by simp only [S3]; omega, by simp only [S3, hb], rfl⟩
    rw [hd1]
    simp only [leaf_cond, leaf_some, leaf_none, decide_eq_true_eq, decide_eq_false_iff_not, Bool.not_eq_true', Bool.not_eq_false', beq_iff_eq, beq_eq_false_iff_ne]
    refine ⟨fun _ => ⟨fun ha => ⟨fun _ => ⟨fun _ => ⟨fun hw => ⟨fun hz => hgo true ?_, fun hz => ⟨fun _ => ⟨fun _ => hgo _ ?_, fun hc => ?_⟩, fun hc => by omega⟩⟩, fun hw => hgo false ?_⟩, fun hc => by simp at hc⟩, fun hc => by omega⟩, fun ha => hgo false ?_⟩, fun hc => by omega⟩
    · subst ha
      rw [written_one] at hw
      rw [partsW, partsW, hst, hw]
      have : i = 0 := by omega
      simp [this]
    · subst ha
      rw [written_one] at hw
      rw [partsW, partsW, hst, hw, hd2 (by omega)]
      have : ¬ i = 0 := by omega
      simp [this, pairW]
    · rw [hd2 (by omega)] at hc; simp at hc
    · rw [written_one] at hw
      rw [partsW, partsW, hst, hw]; simp
    · subst ha; simp
  · have hi : i = l.length := by omega
    simp only [leaf_cond, leaf_some, leaf_none, decide_eq_true_eq, decide_eq_false_iff_not, Bool.not_eq_true', Bool.not_eq_false']
    refine ⟨fun hc => by omega, fun _ => .inr ⟨by simp, ?_⟩⟩
    simp [S3, partsW, hi, eachB]

noncomputable def f7 := f6.addLoop 3 5 l3
theorem f7_laws : FLaws Try.prog s05 f7 := by
  refine f6_laws.addRounds s05_laws (by kernel_rfl) S3 30 [0, 3, 12, 13] [0, 3] (fun q hI => ?_) ?_
  · obtain ⟨c, l, all, i⟩ := q
    exact ⟨by simp [S3, c3, D.refs], by simp [S3, D.refs], S3_round c l all i hI.1 hI.2⟩
  · intro e h nx env x env' h' nx' tr hx
    unfold l3 at hx
    split at hx
    · rename_i c l all n i e0 e3 e12 e13
      rcases Pg.Ex.br hx with ⟨hb, hx1⟩ | ⟨hb, hx1⟩
      · simp only [Bool.and_eq_true, decide_eq_true_eq] at hb
        obtain ⟨⟨hn, hi⟩, hl⟩ := hb
        have hsub : Sub env (S3.canon ⟨c, l, all, 0⟩) := by
          intro p hp
          simp only [S3, c3, List.mem_cons, List.not_mem_nil, or_false] at hp
          rw [hn] at e12
          rw [hi] at e13
          rcases hp with rfl | rfl | rfl | rfl <;> assumption
        obtain ⟨hxx, k1, k2, _⟩ := Pg.Ex.ret hx1
        exact ⟨k1, k2, ⟨c, l, all, 0⟩, ⟨Nat.zero_le _, hl⟩, hsub, by simp [S3, hxx]⟩
      · exact (Pg.Ex.fail hx1).elim
    · exact (Pg.Ex.fail hx).elim
noncomputable def e3 (c : Bool) (l : List Write) := evF s05 f7 30 3 [.sl (C := RC) .write c l]
theorem e3_eq (c : Bool) (l : List Write) : e3 c l = (bif Nat.ble (List.length l) (9223372036854775807 : Nat) then bif Decidable.decide ((40 : Int) < (↑(List.length l) : Int)) then Option.some (Go.Ev.D.bool Bool.true) else bif Nat.ble (List.length l) (9223372036854775807 : Nat) then bif Nat.ble (List.length l) (9223372036854775807 : Nat) then bif Decidable.decide ((↑(List.length l) : Int) = (↑(List.length l) : Int)) && Bool.true && Decidable.decide (List.length l ≤ (9223372036854775807 : Nat)) then bif Nat.ble (List.length l) (9223372036854775807 : Nat) then bif Go.Ev.writtenB l == (Decidable.decide ((↑(List.length l) : Int) ≤ (4 : Int)) && Go.Ev.partsW l (0 : Nat)) then bif Nat.ble (List.length l) (9223372036854775807 : Nat) then bif Go.Ev.writtenB l then bif Bool.true == (Decidable.decide ((↑(List.length l) : Int) ≤ (4 : Int)) && Go.Ev.partsW l (0 : Nat)) then Option.some (Go.Ev.D.bool Bool.true) else Option.some (Go.Ev.D.bool Bool.false) else bif Bool.false == (Decidable.decide ((↑(List.length l) : Int) ≤ (4 : Int)) && Go.Ev.partsW l (0 : Nat)) then Option.some (Go.Ev.D.bool Bool.true) else Option.some (Go.Ev.D.bool Bool.false) else Option.none else Option.some (Go.Ev.D.bool Bool.false) else Option.none else Option.none else Option.none else Option.none else Option.none) := by kernel_rfl
theorem e3_ok (c : Bool) (l : List Write) (h : l.length ≤ 9223372036854775807) : e3 c l = some (.bool true) := by
  have h1 : Nat.ble l.length 9223372036854775807 = true := Nat.ble_eq_true_of_le h
  have h2 : writtenB l = (decide ((l.length : Int) ≤ 4) && partsW l 0) := by
    rw [parts_eq, writtenB]
    have : ((l.length : Int) ≤ 4) ↔ l.length ≤ 4 := by omega
    simp only [this]
  rw [e3_eq, ← h2, h1]
  cases decide ((40 : Int) < l.length) with
  | true => rfl
  | false => cases writtenB l <;> simp [h]
end Go.Ev
