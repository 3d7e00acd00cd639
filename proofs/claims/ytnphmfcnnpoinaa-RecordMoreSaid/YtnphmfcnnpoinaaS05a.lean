import Derived.Test.YtnphmfcnnpoinaaTab05
import Derived.Test.YtnphmfcnnpoinaaRec
import Derived.Test.YtnphmfcnnpoinaaEvY
import Derived.KernelRfl
namespace Go.Ev
open Go.Proofs
set_option maxRecDepth 100000
set_option linter.unusedVariables false
set_option linter.unusedSimpArgs false
noncomputable def p0 : Fns RC := noFns Try.prog 57 (fun _ => false)
theorem p0_laws : FLaws Try.prog s05 p0 := noFns_laws (by kernel_rfl)
/-! ## package record: which records and states may be -/
/-! ### function within: flume/record.within -/
def within_s (n : Int) (a : Int) (b : Int) : Option (Bool × D RC) := some (true, .bool (withinB n a b))
def within_sp : List (D RC) → Option (Bool × D RC)
  | [.int .i64 n, .int .i64 a, .int .i64 b] => within_s n a b
  | _ => none
noncomputable def within_e (n : Int) (a : Int) (b : Int) := evF s05 p0 20 33 [.int .i64 n, .int .i64 a, .int .i64 b]
theorem within_eq (n : Int) (a : Int) (b : Int) : within_e n a b = (bif Decidable.decide (a ≤ n) then Option.some (Go.Ev.D.bool (Decidable.decide (n ≤ b))) else Option.some (Go.Ev.D.bool Bool.false)) := by kernel_rfl
theorem within_ok (n : Int) (a : Int) (b : Int) (h : (true) = true) : within_e n a b = some (.bool (withinB n a b)) := by
  rw [within_eq]
  rw [withinB]
  cases decide (a ≤ n) <;> simp
noncomputable def p1 := p0.addSpec 33 within_sp
theorem p1_laws : FLaws Try.prog s05 p1 := p0_laws.addEv s05_laws fun args d h => by
  unfold within_sp at h
  split at h
  · unfold within_s at h
    have h1 := congrArg Prod.fst (Option.some.inj h)
    obtain rfl : _ = d := congrArg Prod.snd (Option.some.inj h)
    exact ⟨by simp [D.refs], 20, within_ok _ _ _ h1⟩
  · cases h
/-! ### function oneW: flume/record.Written$1 -/
def oneW_s (a : Int) (b : Int) : Option (Bool × D RC) := some (true, .bool (oneWB ⟨a, b⟩))
def oneW_sp : List (D RC) → Option (Bool × D RC)
  | [.acons (.int .i64 a) (.acons (.int .i64 b) .anil)] => oneW_s a b
  | _ => none
noncomputable def oneW_e (a : Int) (b : Int) := evF s05 p1 20 32 [.acons (.int .i64 a) (.acons (.int .i64 b) .anil)]
theorem oneW_eq (a : Int) (b : Int) : oneW_e a b = (bif Go.Ev.withinB a (0 : Int) (23 : Int) then Option.some (Go.Ev.D.bool (Go.Ev.withinB b (0 : Int) (255 : Int))) else Option.some (Go.Ev.D.bool Bool.false)) := by kernel_rfl
theorem oneW_ok (a : Int) (b : Int) (h : (true) = true) : oneW_e a b = some (.bool (oneWB ⟨a, b⟩)) := by
  rw [oneW_eq]
  rw [oneWB]
  cases withinB a 0 23 <;> simp
noncomputable def p2 := p1.addSpec 32 oneW_sp
theorem p2_laws : FLaws Try.prog s05 p2 := p1_laws.addEv s05_laws fun args d h => by
  unfold oneW_sp at h
  split at h
  · unfold oneW_s at h
    have h1 := congrArg Prod.fst (Option.some.inj h)
    obtain rfl : _ = d := congrArg Prod.snd (Option.some.inj h)
    exact ⟨by simp [D.refs], 20, oneW_ok _ _ h1⟩
  · cases h
/-! ### function twoW: flume/record.Written$2 -/
def twoW_s (a : Int) (b : Int) (c : Int) (d : Int) : Option (Bool × D RC) := some (true, .bool (twoWB ⟨a, b⟩ ⟨c, d⟩))
def twoW_sp : List (D RC) → Option (Bool × D RC)
  | [.acons (.int .i64 a) (.acons (.int .i64 b) .anil), .acons (.int .i64 c) (.acons (.int .i64 d) .anil)] => twoW_s a b c d
  | _ => none
noncomputable def twoW_e (a : Int) (b : Int) (c : Int) (d : Int) := evF s05 p2 20 34 [.acons (.int .i64 a) (.acons (.int .i64 b) .anil), .acons (.int .i64 c) (.acons (.int .i64 d) .anil)]
theorem twoW_eq (a : Int) (b : Int) (c : Int) (d : Int) : twoW_e a b c d = (Option.some (Go.Ev.D.bool (Decidable.decide (a < c)))) := by kernel_rfl
theorem twoW_ok (a : Int) (b : Int) (c : Int) (d : Int) (h : (true) = true) : twoW_e a b c d = some (.bool (twoWB ⟨a, b⟩ ⟨c, d⟩)) := by
  rw [twoW_eq]
  rfl
noncomputable def p3 := p2.addSpec 34 twoW_sp
theorem p3_laws : FLaws Try.prog s05 p3 := p2_laws.addEv s05_laws fun args d h => by
  unfold twoW_sp at h
  split at h
  · unfold twoW_s at h
    have h1 := congrArg Prod.fst (Option.some.inj h)
    obtain rfl : _ = d := congrArg Prod.snd (Option.some.inj h)
    exact ⟨by simp [D.refs], 20, twoW_ok _ _ _ _ h1⟩
  · cases h
/-! ### loop eachW: flume/record.each[flume/api.Write], region 2 -/
structure eachW_St where
  c : Bool
  l : List Write
  i : Nat
def eachW_c (c : Bool) (l : List Write) (i : Nat) : Env RC := [(0, .sl (C := RC) .write c l), (1, .fn 32 .anil), (2, .fn 34 .anil), (6, .bool false), (9, .int .i64 (l.length)), (10, .int .i64 (i : Int))]
def eachW_o (c : Bool) (l : List Write) (i : Nat) : List (Obj RC) := []
noncomputable def eachW_r (c : Bool) (l : List Write) (i : Nat) := rndO s05 p3 31 2 30 0 [0, 1, 2, 6, 9, 10] [6] (eachW_c c l i) (eachW_o c l i)
theorem eachW_eq (c : Bool) (l : List Write) (i : Nat) : eachW_r c l i = (bif Decidable.decide ((↑i : Int) < (↑(List.length l) : Int)) then bif Decidable.decide ((0 : Int) ≤ (↑i : Int) ∧ (↑i : Int) < (↑(List.length l) : Int)) then bif !Go.Ev.oneWB (Go.Ev.Write.mk (Go.Ev.Write.key (List.getD l (Int.toNat (↑i : Int)) (Go.Ev.Write.mk (0 : Int) (0 : Int)))) (Go.Ev.Write.value (List.getD l (Int.toNat (↑i : Int)) (Go.Ev.Write.mk (0 : Int) (0 : Int))))) then Option.some ((Go.Ev.X.ret, [((6 : Nat), Go.Ev.D.bool Bool.false)]), []) else bif Decidable.decide ((0 : Int) < (↑i : Int)) then bif Decidable.decide ((0 : Int) ≤ Go.IntKind.wrap Go.IntKind.i64 ((↑i : Int) - (1 : Int)) ∧ Go.IntKind.wrap Go.IntKind.i64 ((↑i : Int) - (1 : Int)) < (↑(List.length l) : Int)) then bif Decidable.decide ((0 : Int) ≤ (↑i : Int) ∧ (↑i : Int) < (↑(List.length l) : Int)) then bif !Go.Ev.twoWB (Go.Ev.Write.mk (Go.Ev.Write.key (List.getD l (Int.toNat (Go.IntKind.wrap Go.IntKind.i64 ((↑i : Int) - (1 : Int)))) (Go.Ev.Write.mk (0 : Int) (0 : Int)))) (Go.Ev.Write.value (List.getD l (Int.toNat (Go.IntKind.wrap Go.IntKind.i64 ((↑i : Int) - (1 : Int)))) (Go.Ev.Write.mk (0 : Int) (0 : Int))))) (Go.Ev.Write.mk (Go.Ev.Write.key (List.getD l (Int.toNat (↑i : Int)) (Go.Ev.Write.mk (0 : Int) (0 : Int)))) (Go.Ev.Write.value (List.getD l (Int.toNat (↑i : Int)) (Go.Ev.Write.mk (0 : Int) (0 : Int))))) then Option.some ((Go.Ev.X.ret, [((6 : Nat), Go.Ev.D.bool Bool.false)]), []) else Option.some ((Go.Ev.X.normal, [((0 : Nat), Go.Ev.D.sl Go.Ev.RTy.write c l), ((1 : Nat), Go.Ev.D.fn (32 : Nat) Go.Ev.D.anil), ((2 : Nat), Go.Ev.D.fn (34 : Nat) Go.Ev.D.anil), ((6 : Nat), Go.Ev.D.bool Bool.false), ((9 : Nat), Go.Ev.D.int Go.IntKind.i64 (↑(List.length l) : Int)), ((10 : Nat), Go.Ev.D.int Go.IntKind.i64 (Go.IntKind.wrap Go.IntKind.i64 ((↑i : Int) + (1 : Int))))]), []) else Option.none else Option.none else Option.some ((Go.Ev.X.normal, [((0 : Nat), Go.Ev.D.sl Go.Ev.RTy.write c l), ((1 : Nat), Go.Ev.D.fn (32 : Nat) Go.Ev.D.anil), ((2 : Nat), Go.Ev.D.fn (34 : Nat) Go.Ev.D.anil), ((6 : Nat), Go.Ev.D.bool Bool.false), ((9 : Nat), Go.Ev.D.int Go.IntKind.i64 (↑(List.length l) : Int)), ((10 : Nat), Go.Ev.D.int Go.IntKind.i64 (Go.IntKind.wrap Go.IntKind.i64 ((↑i : Int) + (1 : Int))))]), []) else Option.none else Option.some ((Go.Ev.X.exit (0 : Nat), [((6 : Nat), Go.Ev.D.bool Bool.false)]), [])) := by kernel_rfl
def eachW_fin (c : Bool) (l : List Write) (i : Nat) : RT RC := .br (eachAt oneWB twoWB l i) (.leaf (.exit 0) [(6, .bool false)] []) (.leaf .ret [(6, .bool false)] [])
def eachW_Inv (c : Bool) (l : List Write) (i : Nat) : Prop := i ≤ l.length ∧ l.length ≤ 9223372036854775807
def eachW_S : LoopR RC eachW_St where
  k := 0
  canon q := eachW_c q.c q.l q.i
  objs q := eachW_o q.c q.l q.i
  fin q := eachW_fin q.c q.l q.i
  Inv q := eachW_Inv q.c q.l q.i
  μ q := q.l.length - q.i
theorem eachW_round (c : Bool) (l : List Write) (i : Nat) (hI : eachW_Inv c l i) : Leaf (eachW_r c l i) (LedR eachW_S ⟨c, l, i⟩) := by
  rw [eachW_eq]
  unfold eachW_Inv at hI
  obtain ⟨h1, h2⟩ := hI
  by_cases hlt : i < l.length
  · have w_succ : IntKind.i64.wrap ((i : Int) + 1) = ((i + 1 : Nat) : Int) := by rw [wrap_id (by omega) (by omega)]; simp
    have d_lt : decide ((i : Int) < l.length) = true := by simp; omega
    have d_in : decide (0 ≤ (i : Int) ∧ (i : Int) < l.length) = true := by simp; omega
    have t_nat : ((i : Int)).toNat = i := by simp
    have w_pred : IntKind.i64.wrap ((i : Int) - 1) = (i : Int) - 1 := wrap_id (by omega) (by omega)
    have t_natp : ((i : Int) - 1).toNat = i - 1 := by omega
    simp only [w_succ, d_lt, d_in, t_nat, w_pred, t_natp, cond_true]
    have hst := eachAt_step oneWB twoWB l i (⟨0, 0⟩ : Write) hlt
    generalize l.getD i (⟨0, 0⟩ : Write) = x at hst ⊢
    generalize l.getD (i - 1) (⟨0, 0⟩ : Write) = y at hst ⊢
    have hgo : eachAt oneWB twoWB l (i + 1) = eachAt oneWB twoWB l i → Leaf (some ((X.normal, eachW_c c l (i + 1)), [])) (LedR eachW_S ⟨c, l, i⟩) := fun he =>
      leafR_go ⟨c, l, i + 1⟩ ⟨hlt, h2⟩ (by simp only [eachW_S]; omega) (by simp only [eachW_S, eachW_fin, he]) rfl rfl
    have hno : eachAt oneWB twoWB l i = false → Leaf (some ((X.ret, [(6, D.bool false)]), [])) (LedR eachW_S ⟨c, l, i⟩) := fun he => leafR_ret [] (by simp [eachW_S, eachW_fin, he, RT.val]) rfl
    rw [hst] at hgo hno
    cases a1 : oneWB x
    · exact hno (by simp [a1])
    by_cases hi : i = 0
    · have d0 : decide (0 < (i : Int)) = false := by simp; omega
      simp only [d0, cond_false]
      exact hgo (by simp [hi, a1])
    · have d_pos : decide (0 < (i : Int)) = true := by simp; omega
      have d_inp : decide (0 ≤ (i : Int) - 1 ∧ (i : Int) - 1 < l.length) = true := by simp; omega
      simp only [d_pos, d_inp, cond_true]
      cases a4 : twoWB y x
      · exact hno (by simp [hi, a4])
      · exact hgo (by simp [a4, a1])
  · have hi : i = l.length := by omega
    have c1 : decide ((i : Int) < l.length) = false := by simp; omega
    rw [c1]
    exact leafR_exit [] (by simp [eachW_S, eachW_fin, hi, eachAt, eachB, RT.val]) rfl
def eachW_d (env : Env RC) (os : List (Obj RC)) : Option (Bool × eachW_St) := match env, os with
  | [(0, .sl .write c l), (1, .fn 32 .anil), (2, .fn 34 .anil), (6, .bool false), (9, .int .i64 x0), (10, .int .i64 x1)], [] => staticD (true) (decide (x0 = l.length) && decide (x1 = 0) && decide (l.length ≤ 9223372036854775807), ⟨c, l, 0⟩)
  | _, _ => none
noncomputable def p4 := p3.addLoop 31 2 (sumR s05 [] [0, 1, 2, 6, 9, 10] eachW_S eachW_d)
theorem p4_laws : FLaws Try.prog s05 p4 := by
  refine p3_laws.addRoundsR s05_laws (by kernel_rfl) eachW_S 30 [0, 1, 2, 6, 9, 10] [6] [] [0, 1, 2, 6, 9, 10] eachW_d (fun q hI => ?_) ?_
  · obtain ⟨c, l, i⟩ := q
    refine ⟨?_, ?_, eachW_round c l i hI⟩
    · simp_all [RefsOK, eachW_S, eachW_c, eachW_o, eachW_Inv, D.refs, Obj.refs, rEnc]
    · simp_all [eachW_S, eachW_fin, eachW_o, eachW_Inv, RT.refsOK, RefsOK, D.refs, Obj.refs, rEnc]
  · intro env os b q h hb
    unfold eachW_d at h
    split at h
    · obtain ⟨hs, h⟩ := staticD_some h
      cases h
      simp only [Bool.and_eq_true, decide_eq_true_eq] at hb
      obtain ⟨⟨rfl, rfl⟩, hl⟩ := hb
      exact ⟨⟨Nat.zero_le _, hl⟩, rfl, rfl⟩
    · cases h
/-! ### function written: flume/record.Written -/
def written_s (c : Bool) (l : List Write) : Option (Bool × D RC) := some (lenOK l.length, .bool (writtenL l))
def written_sp : List (D RC) → Option (Bool × D RC)
  | [.sl .write c l] => written_s c l
  | _ => none
noncomputable def written_e (c : Bool) (l : List Write) := evF s05 p4 20 12 [.sl (C := RC) .write c l]
theorem written_eq (c : Bool) (l : List Write) : written_e c l = (bif Go.Ev.lenOK (List.length l) then bif Decidable.decide ((↑(List.length l) : Int) ≤ (4 : Int)) then bif Go.Ev.lenOK (List.length l) then bif Decidable.decide ((↑(List.length l) : Int) = (↑(List.length l) : Int)) && Bool.true && Decidable.decide (List.length l ≤ (9223372036854775807 : Nat)) then bif Go.Ev.eachAt Go.Ev.oneWB Go.Ev.twoWB l (0 : Nat) then Option.some (Go.Ev.D.bool Bool.true) else Option.some (Go.Ev.D.bool Bool.false) else Option.none else Option.none else Option.some (Go.Ev.D.bool Bool.false) else Option.none) := by kernel_rfl
theorem written_ok (c : Bool) (l : List Write) (h : (lenOK l.length) = true) : written_e c l = some (.bool (writtenL l)) := by
  rw [written_eq]
  have h2 : l.length ≤ 9223372036854775807 := lenOK_le h
  have h3 : (((l.length : Nat) : Int) ≤ 4) ↔ l.length ≤ 4 := by omega
  rw [writtenL, h]
  by_cases h4 : l.length ≤ 4
  · simp [h4, h2, h3]
    cases eachAt oneWB twoWB l 0 <;> rfl
  · simp [h4, h3]
noncomputable def p5 := p4.addSpec 12 written_sp
theorem p5_laws : FLaws Try.prog s05 p5 := p4_laws.addEv s05_laws fun args d h => by
  unfold written_sp at h
  split at h
  · unfold written_s at h
    have h1 := congrArg Prod.fst (Option.some.inj h)
    obtain rfl : _ = d := congrArg Prod.snd (Option.some.inj h)
    exact ⟨by simp [D.refs], 20, written_ok _ _ h1⟩
  · cases h
/-! ### function may: flume/record.May -/
def may_s (p : Int) (y : Bool) (c : Bool) (l : List Write) : Option (Bool × D RC) := some (lenOK l.length, .bool (mayB ⟨p, y, l⟩))
def may_sp : List (D RC) → Option (Bool × D RC)
  | [.acons (.int .i64 p) (.acons (.bool y) (.acons (.sl .write c l) .anil))] => may_s p y c l
  | _ => none
noncomputable def may_e (p : Int) (y : Bool) (c : Bool) (l : List Write) := evF s05 p5 20 13 [.acons (.int .i64 p) (.acons (.bool y) (.acons (.sl (C := RC) .write c l) .anil))]
theorem may_eq (p : Int) (y : Bool) (c : Bool) (l : List Write) : may_e p y c l = (bif Go.Ev.withinB p (1 : Int) (1048575 : Int) then bif Go.Ev.lenOK (List.length l) then bif Go.Ev.writtenL l then bif y then Option.some (Go.Ev.D.bool Bool.true) else bif Go.Ev.lenOK (List.length l) then Option.some (Go.Ev.D.bool ((↑(List.length l) : Int) == (0 : Int))) else Option.none else Option.some (Go.Ev.D.bool Bool.false) else Option.none else Option.some (Go.Ev.D.bool Bool.false)) := by kernel_rfl
theorem may_ok (p : Int) (y : Bool) (c : Bool) (l : List Write) (h : (lenOK l.length) = true) : may_e p y c l = some (.bool (mayB ⟨p, y, l⟩)) := by
  rw [may_eq]
  have h3 : (((l.length : Nat) : Int) = 0) ↔ l.length = 0 := by omega
  simp only [mayB, h]
  cases withinB p 1 1048575 <;> cases writtenL l <;> cases y <;> simp [h3]
  cases l <;> simp
  omega
noncomputable def p6 := p5.addSpec 13 may_sp
theorem p6_laws : FLaws Try.prog s05 p6 := p5_laws.addEv s05_laws fun args d h => by
  unfold may_sp at h
  split at h
  · unfold may_s at h
    have h1 := congrArg Prod.fst (Option.some.inj h)
    obtain rfl : _ = d := congrArg Prod.snd (Option.some.inj h)
    exact ⟨by simp [D.refs], 20, may_ok _ _ _ _ h1⟩
  · cases h
/-! ### function twoI: flume/record.Stands$2 -/
def twoI_s (a : Int) (b : Int) (c : Int) (d : Int) (e : Int) (f : Int) : Option (Bool × D RC) := some (true, .bool (twoIB ⟨a, b, c⟩ ⟨d, e, f⟩))
def twoI_sp : List (D RC) → Option (Bool × D RC)
  | [.acons (.int .i64 a) (.acons (.int .i64 b) (.acons (.int .i64 c) .anil)), .acons (.int .i64 d) (.acons (.int .i64 e) (.acons (.int .i64 f) .anil))] => twoI_s a b c d e f
  | _ => none
noncomputable def twoI_e (a : Int) (b : Int) (c : Int) (d : Int) (e : Int) (f : Int) := evF s05 p6 20 37 [.acons (.int .i64 a) (.acons (.int .i64 b) (.acons (.int .i64 c) .anil)), .acons (.int .i64 d) (.acons (.int .i64 e) (.acons (.int .i64 f) .anil))]
theorem twoI_eq (a : Int) (b : Int) (c : Int) (d : Int) (e : Int) (f : Int) : twoI_e a b c d e f = (Option.some (Go.Ev.D.bool (Decidable.decide (a < d)))) := by kernel_rfl
theorem twoI_ok (a : Int) (b : Int) (c : Int) (d : Int) (e : Int) (f : Int) (h : (true) = true) : twoI_e a b c d e f = some (.bool (twoIB ⟨a, b, c⟩ ⟨d, e, f⟩)) := by
  rw [twoI_eq]
  rfl
noncomputable def p7 := p6.addSpec 37 twoI_sp
theorem p7_laws : FLaws Try.prog s05 p7 := p6_laws.addEv s05_laws fun args d h => by
  unfold twoI_sp at h
  split at h
  · unfold twoI_s at h
    have h1 := congrArg Prod.fst (Option.some.inj h)
    obtain rfl : _ = d := congrArg Prod.snd (Option.some.inj h)
    exact ⟨by simp [D.refs], 20, twoI_ok _ _ _ _ _ _ h1⟩
  · cases h
/-! ### function twoL: flume/record.Stands$4 -/
def twoL_s (a : Int) (b : Int) (c : Int) (d : Int) (e : Int) (a' : Int) (b' : Int) (c' : Int) (d' : Int) (e' : Int) : Option (Bool × D RC) := some (true, .bool (twoLB ⟨a, b, c, d, e⟩ ⟨a', b', c', d', e'⟩))
def twoL_sp : List (D RC) → Option (Bool × D RC)
  | [.acons (.int .i64 a) (.acons (.int .i64 b) (.acons (.int .i64 c) (.acons (.int .i64 d) (.acons (.int .i64 e) .anil)))), .acons (.int .i64 a') (.acons (.int .i64 b') (.acons (.int .i64 c') (.acons (.int .i64 d') (.acons (.int .i64 e') .anil))))] => twoL_s a b c d e a' b' c' d' e'
  | _ => none
noncomputable def twoL_e (a : Int) (b : Int) (c : Int) (d : Int) (e : Int) (a' : Int) (b' : Int) (c' : Int) (d' : Int) (e' : Int) := evF s05 p7 20 40 [.acons (.int .i64 a) (.acons (.int .i64 b) (.acons (.int .i64 c) (.acons (.int .i64 d) (.acons (.int .i64 e) .anil)))), .acons (.int .i64 a') (.acons (.int .i64 b') (.acons (.int .i64 c') (.acons (.int .i64 d') (.acons (.int .i64 e') .anil))))]
theorem twoL_eq (a : Int) (b : Int) (c : Int) (d : Int) (e : Int) (a' : Int) (b' : Int) (c' : Int) (d' : Int) (e' : Int) : twoL_e a b c d e a' b' c' d' e' = (bif a' == Go.IntKind.wrap Go.IntKind.i64 (a + (1 : Int)) then bif Decidable.decide (b < b') then Option.some (Go.Ev.D.bool Bool.true) else bif b == b' then Option.some (Go.Ev.D.bool (Decidable.decide (c < c'))) else Option.some (Go.Ev.D.bool Bool.false) else Option.some (Go.Ev.D.bool Bool.false)) := by kernel_rfl
theorem twoL_ok (a : Int) (b : Int) (c : Int) (d : Int) (e : Int) (a' : Int) (b' : Int) (c' : Int) (d' : Int) (e' : Int) (h : (true) = true) : twoL_e a b c d e a' b' c' d' e' = some (.bool (twoLB ⟨a, b, c, d, e⟩ ⟨a', b', c', d', e'⟩)) := by
  rw [twoL_eq]
  simp only [twoLB]
  cases (a' == IntKind.i64.wrap (a + 1)) <;> cases decide (b < b') <;> cases (b == b') <;> simp
noncomputable def p8 := p7.addSpec 40 twoL_sp
theorem p8_laws : FLaws Try.prog s05 p8 := p7_laws.addEv s05_laws fun args d h => by
  unfold twoL_sp at h
  split at h
  · unfold twoL_s at h
    have h1 := congrArg Prod.fst (Option.some.inj h)
    obtain rfl : _ = d := congrArg Prod.snd (Option.some.inj h)
    exact ⟨by simp [D.refs], 20, twoL_ok _ _ _ _ _ _ _ _ _ _ h1⟩
  · cases h
/-! ### loop eachI: flume/record.each[flume/api.Item], region 2 -/
structure eachI_St where
  p : Int
  r : D RC
  c : Bool
  l : List Item
  i : Nat
def eachI_c (p : Int) (r : D RC) (c : Bool) (l : List Item) (i : Nat) : Env RC := [(0, .sl (C := RC) .item c l), (1, .fn 36 (.acons (.ptr 0 []) .anil)), (2, .fn 37 .anil), (6, .bool false), (9, .int .i64 (l.length)), (10, .int .i64 (i : Int))]
def eachI_o (p : Int) (r : D RC) (c : Bool) (l : List Item) (i : Nat) : List (Obj RC) := [.var 33 (.acons (.int .i64 p) r)]
noncomputable def eachI_r (p : Int) (r : D RC) (c : Bool) (l : List Item) (i : Nat) := rndO s05 p8 35 2 40 1 [0, 1, 2, 6, 9, 10] [6] (eachI_c p r c l i) (eachI_o p r c l i)
theorem eachI_eq (p : Int) (r : D RC) (c : Bool) (l : List Item) (i : Nat) : eachI_r p r c l i = (bif Decidable.decide ((↑i : Int) < (↑(List.length l) : Int)) then bif Decidable.decide ((0 : Int) ≤ (↑i : Int) ∧ (↑i : Int) < (↑(List.length l) : Int)) then bif Go.Ev.withinB (Go.Ev.Item.key (List.getD l (Int.toNat (↑i : Int)) (Go.Ev.Item.mk (0 : Int) (0 : Int) (0 : Int)))) (0 : Int) (23 : Int) then bif Go.Ev.withinB (Go.Ev.Item.place (List.getD l (Int.toNat (↑i : Int)) (Go.Ev.Item.mk (0 : Int) (0 : Int) (0 : Int)))) (1 : Int) p then bif !Go.Ev.withinB (Go.Ev.Item.value (List.getD l (Int.toNat (↑i : Int)) (Go.Ev.Item.mk (0 : Int) (0 : Int) (0 : Int)))) (0 : Int) (255 : Int) then Option.some ((Go.Ev.X.ret, [((6 : Nat), Go.Ev.D.bool Bool.false)]), [Option.some (Go.Ev.Obj.var (33 : Nat) (Go.Ev.D.acons (Go.Ev.D.int Go.IntKind.i64 p) r))]) else bif Decidable.decide ((0 : Int) < (↑i : Int)) then bif Decidable.decide ((0 : Int) ≤ Go.IntKind.wrap Go.IntKind.i64 ((↑i : Int) - (1 : Int)) ∧ Go.IntKind.wrap Go.IntKind.i64 ((↑i : Int) - (1 : Int)) < (↑(List.length l) : Int)) then bif Decidable.decide ((0 : Int) ≤ (↑i : Int) ∧ (↑i : Int) < (↑(List.length l) : Int)) then bif !Go.Ev.twoIB (Go.Ev.Item.mk (Go.Ev.Item.key (List.getD l (Int.toNat (Go.IntKind.wrap Go.IntKind.i64 ((↑i : Int) - (1 : Int)))) (Go.Ev.Item.mk (0 : Int) (0 : Int) (0 : Int)))) (Go.Ev.Item.place (List.getD l (Int.toNat (Go.IntKind.wrap Go.IntKind.i64 ((↑i : Int) - (1 : Int)))) (Go.Ev.Item.mk (0 : Int) (0 : Int) (0 : Int)))) (Go.Ev.Item.value (List.getD l (Int.toNat (Go.IntKind.wrap Go.IntKind.i64 ((↑i : Int) - (1 : Int)))) (Go.Ev.Item.mk (0 : Int) (0 : Int) (0 : Int))))) (Go.Ev.Item.mk (Go.Ev.Item.key (List.getD l (Int.toNat (↑i : Int)) (Go.Ev.Item.mk (0 : Int) (0 : Int) (0 : Int)))) (Go.Ev.Item.place (List.getD l (Int.toNat (↑i : Int)) (Go.Ev.Item.mk (0 : Int) (0 : Int) (0 : Int)))) (Go.Ev.Item.value (List.getD l (Int.toNat (↑i : Int)) (Go.Ev.Item.mk (0 : Int) (0 : Int) (0 : Int))))) then Option.some ((Go.Ev.X.ret, [((6 : Nat), Go.Ev.D.bool Bool.false)]), [Option.some (Go.Ev.Obj.var (33 : Nat) (Go.Ev.D.acons (Go.Ev.D.int Go.IntKind.i64 p) r))]) else Option.some ((Go.Ev.X.normal, [((0 : Nat), Go.Ev.D.sl Go.Ev.RTy.item c l), ((1 : Nat), Go.Ev.D.fn (36 : Nat) (Go.Ev.D.acons (Go.Ev.D.ptr (0 : Nat) []) Go.Ev.D.anil)), ((2 : Nat), Go.Ev.D.fn (37 : Nat) Go.Ev.D.anil), ((6 : Nat), Go.Ev.D.bool Bool.false), ((9 : Nat), Go.Ev.D.int Go.IntKind.i64 (↑(List.length l) : Int)), ((10 : Nat), Go.Ev.D.int Go.IntKind.i64 (Go.IntKind.wrap Go.IntKind.i64 ((↑i : Int) + (1 : Int))))]), [Option.some (Go.Ev.Obj.var (33 : Nat) (Go.Ev.D.acons (Go.Ev.D.int Go.IntKind.i64 p) r))]) else Option.none else Option.none else Option.some ((Go.Ev.X.normal, [((0 : Nat), Go.Ev.D.sl Go.Ev.RTy.item c l), ((1 : Nat), Go.Ev.D.fn (36 : Nat) (Go.Ev.D.acons (Go.Ev.D.ptr (0 : Nat) []) Go.Ev.D.anil)), ((2 : Nat), Go.Ev.D.fn (37 : Nat) Go.Ev.D.anil), ((6 : Nat), Go.Ev.D.bool Bool.false), ((9 : Nat), Go.Ev.D.int Go.IntKind.i64 (↑(List.length l) : Int)), ((10 : Nat), Go.Ev.D.int Go.IntKind.i64 (Go.IntKind.wrap Go.IntKind.i64 ((↑i : Int) + (1 : Int))))]), [Option.some (Go.Ev.Obj.var (33 : Nat) (Go.Ev.D.acons (Go.Ev.D.int Go.IntKind.i64 p) r))]) else Option.some ((Go.Ev.X.ret, [((6 : Nat), Go.Ev.D.bool Bool.false)]), [Option.some (Go.Ev.Obj.var (33 : Nat) (Go.Ev.D.acons (Go.Ev.D.int Go.IntKind.i64 p) r))]) else Option.some ((Go.Ev.X.ret, [((6 : Nat), Go.Ev.D.bool Bool.false)]), [Option.some (Go.Ev.Obj.var (33 : Nat) (Go.Ev.D.acons (Go.Ev.D.int Go.IntKind.i64 p) r))]) else Option.none else Option.some ((Go.Ev.X.exit (0 : Nat), [((6 : Nat), Go.Ev.D.bool Bool.false)]), [Option.some (Go.Ev.Obj.var (33 : Nat) (Go.Ev.D.acons (Go.Ev.D.int Go.IntKind.i64 p) r))])) := by kernel_rfl
def eachI_fin (p : Int) (r : D RC) (c : Bool) (l : List Item) (i : Nat) : RT RC := .br (eachAt (oneIB p) twoIB l i) (.leaf (.exit 0) [(6, .bool false)] (eachI_o p r c l i)) (.leaf .ret [(6, .bool false)] (eachI_o p r c l i))
def eachI_Inv (p : Int) (r : D RC) (c : Bool) (l : List Item) (i : Nat) : Prop := r.refs = [] ∧ i ≤ l.length ∧ l.length ≤ 9223372036854775807
def eachI_S : LoopR RC eachI_St where
  k := 1
  canon q := eachI_c q.p q.r q.c q.l q.i
  objs q := eachI_o q.p q.r q.c q.l q.i
  fin q := eachI_fin q.p q.r q.c q.l q.i
  Inv q := eachI_Inv q.p q.r q.c q.l q.i
  μ q := q.l.length - q.i
theorem eachI_round (p : Int) (r : D RC) (c : Bool) (l : List Item) (i : Nat) (hI : eachI_Inv p r c l i) : Leaf (eachI_r p r c l i) (LedR eachI_S ⟨p, r, c, l, i⟩) := by
  rw [eachI_eq]
  unfold eachI_Inv at hI
  obtain ⟨h0, h1, h2⟩ := hI
  by_cases hlt : i < l.length
  · have w_succ : IntKind.i64.wrap ((i : Int) + 1) = ((i + 1 : Nat) : Int) := by rw [wrap_id (by omega) (by omega)]; simp
    have d_lt : decide ((i : Int) < l.length) = true := by simp; omega
    have d_in : decide (0 ≤ (i : Int) ∧ (i : Int) < l.length) = true := by simp; omega
    have t_nat : ((i : Int)).toNat = i := by simp
    have w_pred : IntKind.i64.wrap ((i : Int) - 1) = (i : Int) - 1 := wrap_id (by omega) (by omega)
    have t_natp : ((i : Int) - 1).toNat = i - 1 := by omega
    simp only [w_succ, d_lt, d_in, t_nat, w_pred, t_natp, cond_true]
    have hst := eachAt_step (oneIB p) twoIB l i (⟨0, 0, 0⟩ : Item) hlt
    generalize l.getD i (⟨0, 0, 0⟩ : Item) = x at hst ⊢
    generalize l.getD (i - 1) (⟨0, 0, 0⟩ : Item) = y at hst ⊢
    have hgo : eachAt (oneIB p) twoIB l (i + 1) = eachAt (oneIB p) twoIB l i → Leaf (some ((X.normal, eachI_c p r c l (i + 1)), [some (.var 33 (.acons (.int .i64 p) r))])) (LedR eachI_S ⟨p, r, c, l, i⟩) := fun he =>
      leafR_go ⟨p, r, c, l, i + 1⟩ ⟨h0, hlt, h2⟩ (by simp only [eachI_S]; omega) (by simp only [eachI_S, eachI_fin, he]; rfl) rfl rfl
    have hno : eachAt (oneIB p) twoIB l i = false → Leaf (some ((X.ret, [(6, D.bool false)]), [some (.var 33 (.acons (.int .i64 p) r))])) (LedR eachI_S ⟨p, r, c, l, i⟩) := fun he => leafR_ret (eachI_o p r c l i) (by simp [eachI_S, eachI_fin, he, RT.val]) rfl
    rw [hst] at hgo hno
    simp only [oneIB] at hgo hno
    have hty : twoIB ⟨y.key, y.place, y.value⟩ ⟨x.key, x.place, x.value⟩ = twoIB y x := rfl
    rw [hty]
    by_cases hi : i = 0
    · have d0 : decide (0 < (i : Int)) = false := by simp; omega
      simp only [d0, cond_false]
      repeat' (refine leaf_cond.2 ⟨fun _ => ?_, fun _ => ?_⟩)
      all_goals first | exact hno (by clear hgo hno hst; simp_all) | exact hgo (by clear hgo hno hst; simp_all)
    · have d_pos : decide (0 < (i : Int)) = true := by simp; omega
      have d_inp : decide (0 ≤ (i : Int) - 1 ∧ (i : Int) - 1 < l.length) = true := by simp; omega
      simp only [d_pos, d_inp, cond_true]
      repeat' (refine leaf_cond.2 ⟨fun _ => ?_, fun _ => ?_⟩)
      all_goals first | exact hno (by clear hgo hno hst; simp_all) | exact hgo (by clear hgo hno hst; simp_all)
  · have hi : i = l.length := by omega
    have c1 : decide ((i : Int) < l.length) = false := by simp; omega
    rw [c1]
    exact leafR_exit (eachI_o p r c l i) (by simp [eachI_S, eachI_fin, hi, eachAt_end, RT.val]) rfl
def eachI_d (env : Env RC) (os : List (Obj RC)) : Option (Bool × eachI_St) := match env, os with
  | [(0, .sl .item c l), (1, .fn 36 (.acons (.ptr 0 []) .anil)), (2, .fn 37 .anil), (6, .bool false), (9, .int .i64 x0), (10, .int .i64 x1)], [.var 33 (.acons (.int .i64 p) r)] => staticD (r.refs.isEmpty) (decide (x0 = l.length) && decide (x1 = 0) && decide (l.length ≤ 9223372036854775807), ⟨p, r, c, l, 0⟩)
  | _, _ => none
noncomputable def p9 := p8.addLoop 35 2 (sumR s05 [.slot 1 0] [0, 1, 2, 6, 9, 10] eachI_S eachI_d)
theorem p9_laws : FLaws Try.prog s05 p9 := by
  refine p8_laws.addRoundsR s05_laws (by kernel_rfl) eachI_S 40 [0, 1, 2, 6, 9, 10] [6] [.slot 1 0] [0, 1, 2, 6, 9, 10] eachI_d (fun q hI => ?_) ?_
  · obtain ⟨p, r, c, l, i⟩ := q
    refine ⟨?_, ?_, eachI_round p r c l i hI⟩
    · simp_all [RefsOK, eachI_S, eachI_c, eachI_o, eachI_Inv, D.refs, Obj.refs, rEnc]
    · simp_all [eachI_S, eachI_fin, eachI_o, eachI_Inv, RT.refsOK, RefsOK, D.refs, Obj.refs, rEnc]
  · intro env os b q h hb
    unfold eachI_d at h
    split at h
    · obtain ⟨hs, h⟩ := staticD_some h
      cases h
      simp only [Bool.and_eq_true, decide_eq_true_eq] at hb
      obtain ⟨⟨rfl, rfl⟩, hl⟩ := hb
      exact ⟨⟨List.isEmpty_iff.1 hs, Nat.zero_le _, hl⟩, rfl, rfl⟩
    · cases h
/-! ### loop eachL: flume/record.each[flume/api.Line], region 2 -/
structure eachL_St where
  p : Int
  r : D RC
  c : Bool
  l : List Line
  i : Nat
def eachL_c (p : Int) (r : D RC) (c : Bool) (l : List Line) (i : Nat) : Env RC := [(0, .sl (C := RC) .line c l), (1, .fn 39 (.acons (.ptr 0 []) .anil)), (2, .fn 40 .anil), (6, .bool false), (9, .int .i64 (l.length)), (10, .int .i64 (i : Int))]
def eachL_o (p : Int) (r : D RC) (c : Bool) (l : List Line) (i : Nat) : List (Obj RC) := [.var 33 (.acons (.int .i64 p) r)]
noncomputable def eachL_r (p : Int) (r : D RC) (c : Bool) (l : List Line) (i : Nat) := rndO s05 p9 38 2 40 1 [0, 1, 2, 6, 9, 10] [6] (eachL_c p r c l i) (eachL_o p r c l i)
theorem eachL_eq (p : Int) (r : D RC) (c : Bool) (l : List Line) (i : Nat) : eachL_r p r c l i = (bif Decidable.decide ((↑i : Int) < (↑(List.length l) : Int)) then bif Decidable.decide ((0 : Int) ≤ (↑i : Int) ∧ (↑i : Int) < (↑(List.length l) : Int)) then bif Go.Ev.withinB (Go.Ev.Line.offset (List.getD l (Int.toNat (↑i : Int)) (Go.Ev.Line.mk (0 : Int) (0 : Int) (0 : Int) (0 : Int) (0 : Int)))) (0 : Int) (4194303 : Int) then bif Go.Ev.withinB (Go.Ev.Line.place (List.getD l (Int.toNat (↑i : Int)) (Go.Ev.Line.mk (0 : Int) (0 : Int) (0 : Int) (0 : Int) (0 : Int)))) (1 : Int) p then bif Go.Ev.withinB (Go.Ev.Line.j (List.getD l (Int.toNat (↑i : Int)) (Go.Ev.Line.mk (0 : Int) (0 : Int) (0 : Int) (0 : Int) (0 : Int)))) (0 : Int) (3 : Int) then bif Go.Ev.withinB (Go.Ev.Line.key (List.getD l (Int.toNat (↑i : Int)) (Go.Ev.Line.mk (0 : Int) (0 : Int) (0 : Int) (0 : Int) (0 : Int)))) (0 : Int) (7 : Int) then bif !Go.Ev.withinB (Go.Ev.Line.value (List.getD l (Int.toNat (↑i : Int)) (Go.Ev.Line.mk (0 : Int) (0 : Int) (0 : Int) (0 : Int) (0 : Int)))) (0 : Int) (255 : Int) then Option.some ((Go.Ev.X.ret, [((6 : Nat), Go.Ev.D.bool Bool.false)]), [Option.some (Go.Ev.Obj.var (33 : Nat) (Go.Ev.D.acons (Go.Ev.D.int Go.IntKind.i64 p) r))]) else bif Decidable.decide ((0 : Int) < (↑i : Int)) then bif Decidable.decide ((0 : Int) ≤ Go.IntKind.wrap Go.IntKind.i64 ((↑i : Int) - (1 : Int)) ∧ Go.IntKind.wrap Go.IntKind.i64 ((↑i : Int) - (1 : Int)) < (↑(List.length l) : Int)) then bif Decidable.decide ((0 : Int) ≤ (↑i : Int) ∧ (↑i : Int) < (↑(List.length l) : Int)) then bif !Go.Ev.twoLB (Go.Ev.Line.mk (Go.Ev.Line.offset (List.getD l (Int.toNat (Go.IntKind.wrap Go.IntKind.i64 ((↑i : Int) - (1 : Int)))) (Go.Ev.Line.mk (0 : Int) (0 : Int) (0 : Int) (0 : Int) (0 : Int)))) (Go.Ev.Line.place (List.getD l (Int.toNat (Go.IntKind.wrap Go.IntKind.i64 ((↑i : Int) - (1 : Int)))) (Go.Ev.Line.mk (0 : Int) (0 : Int) (0 : Int) (0 : Int) (0 : Int)))) (Go.Ev.Line.j (List.getD l (Int.toNat (Go.IntKind.wrap Go.IntKind.i64 ((↑i : Int) - (1 : Int)))) (Go.Ev.Line.mk (0 : Int) (0 : Int) (0 : Int) (0 : Int) (0 : Int)))) (Go.Ev.Line.key (List.getD l (Int.toNat (Go.IntKind.wrap Go.IntKind.i64 ((↑i : Int) - (1 : Int)))) (Go.Ev.Line.mk (0 : Int) (0 : Int) (0 : Int) (0 : Int) (0 : Int)))) (Go.Ev.Line.value (List.getD l (Int.toNat (Go.IntKind.wrap Go.IntKind.i64 ((↑i : Int) - (1 : Int)))) (Go.Ev.Line.mk (0 : Int) (0 : Int) (0 : Int) (0 : Int) (0 : Int))))) (Go.Ev.Line.mk (Go.Ev.Line.offset (List.getD l (Int.toNat (↑i : Int)) (Go.Ev.Line.mk (0 : Int) (0 : Int) (0 : Int) (0 : Int) (0 : Int)))) (Go.Ev.Line.place (List.getD l (Int.toNat (↑i : Int)) (Go.Ev.Line.mk (0 : Int) (0 : Int) (0 : Int) (0 : Int) (0 : Int)))) (Go.Ev.Line.j (List.getD l (Int.toNat (↑i : Int)) (Go.Ev.Line.mk (0 : Int) (0 : Int) (0 : Int) (0 : Int) (0 : Int)))) (Go.Ev.Line.key (List.getD l (Int.toNat (↑i : Int)) (Go.Ev.Line.mk (0 : Int) (0 : Int) (0 : Int) (0 : Int) (0 : Int)))) (Go.Ev.Line.value (List.getD l (Int.toNat (↑i : Int)) (Go.Ev.Line.mk (0 : Int) (0 : Int) (0 : Int) (0 : Int) (0 : Int))))) then Option.some ((Go.Ev.X.ret, [((6 : Nat), Go.Ev.D.bool Bool.false)]), [Option.some (Go.Ev.Obj.var (33 : Nat) (Go.Ev.D.acons (Go.Ev.D.int Go.IntKind.i64 p) r))]) else Option.some ((Go.Ev.X.normal, [((0 : Nat), Go.Ev.D.sl Go.Ev.RTy.line c l), ((1 : Nat), Go.Ev.D.fn (39 : Nat) (Go.Ev.D.acons (Go.Ev.D.ptr (0 : Nat) []) Go.Ev.D.anil)), ((2 : Nat), Go.Ev.D.fn (40 : Nat) Go.Ev.D.anil), ((6 : Nat), Go.Ev.D.bool Bool.false), ((9 : Nat), Go.Ev.D.int Go.IntKind.i64 (↑(List.length l) : Int)), ((10 : Nat), Go.Ev.D.int Go.IntKind.i64 (Go.IntKind.wrap Go.IntKind.i64 ((↑i : Int) + (1 : Int))))]), [Option.some (Go.Ev.Obj.var (33 : Nat) (Go.Ev.D.acons (Go.Ev.D.int Go.IntKind.i64 p) r))]) else Option.none else Option.none else Option.some ((Go.Ev.X.normal, [((0 : Nat), Go.Ev.D.sl Go.Ev.RTy.line c l), ((1 : Nat), Go.Ev.D.fn (39 : Nat) (Go.Ev.D.acons (Go.Ev.D.ptr (0 : Nat) []) Go.Ev.D.anil)), ((2 : Nat), Go.Ev.D.fn (40 : Nat) Go.Ev.D.anil), ((6 : Nat), Go.Ev.D.bool Bool.false), ((9 : Nat), Go.Ev.D.int Go.IntKind.i64 (↑(List.length l) : Int)), ((10 : Nat), Go.Ev.D.int Go.IntKind.i64 (Go.IntKind.wrap Go.IntKind.i64 ((↑i : Int) + (1 : Int))))]), [Option.some (Go.Ev.Obj.var (33 : Nat) (Go.Ev.D.acons (Go.Ev.D.int Go.IntKind.i64 p) r))]) else Option.some ((Go.Ev.X.ret, [((6 : Nat), Go.Ev.D.bool Bool.false)]), [Option.some (Go.Ev.Obj.var (33 : Nat) (Go.Ev.D.acons (Go.Ev.D.int Go.IntKind.i64 p) r))]) else Option.some ((Go.Ev.X.ret, [((6 : Nat), Go.Ev.D.bool Bool.false)]), [Option.some (Go.Ev.Obj.var (33 : Nat) (Go.Ev.D.acons (Go.Ev.D.int Go.IntKind.i64 p) r))]) else Option.some ((Go.Ev.X.ret, [((6 : Nat), Go.Ev.D.bool Bool.false)]), [Option.some (Go.Ev.Obj.var (33 : Nat) (Go.Ev.D.acons (Go.Ev.D.int Go.IntKind.i64 p) r))]) else Option.some ((Go.Ev.X.ret, [((6 : Nat), Go.Ev.D.bool Bool.false)]), [Option.some (Go.Ev.Obj.var (33 : Nat) (Go.Ev.D.acons (Go.Ev.D.int Go.IntKind.i64 p) r))]) else Option.none else Option.some ((Go.Ev.X.exit (0 : Nat), [((6 : Nat), Go.Ev.D.bool Bool.false)]), [Option.some (Go.Ev.Obj.var (33 : Nat) (Go.Ev.D.acons (Go.Ev.D.int Go.IntKind.i64 p) r))])) := by kernel_rfl
def eachL_fin (p : Int) (r : D RC) (c : Bool) (l : List Line) (i : Nat) : RT RC := .br (eachAt (oneLB p) twoLB l i) (.leaf (.exit 0) [(6, .bool false)] (eachL_o p r c l i)) (.leaf .ret [(6, .bool false)] (eachL_o p r c l i))
def eachL_Inv (p : Int) (r : D RC) (c : Bool) (l : List Line) (i : Nat) : Prop := r.refs = [] ∧ i ≤ l.length ∧ l.length ≤ 9223372036854775807
def eachL_S : LoopR RC eachL_St where
  k := 1
  canon q := eachL_c q.p q.r q.c q.l q.i
  objs q := eachL_o q.p q.r q.c q.l q.i
  fin q := eachL_fin q.p q.r q.c q.l q.i
  Inv q := eachL_Inv q.p q.r q.c q.l q.i
  μ q := q.l.length - q.i
theorem eachL_round (p : Int) (r : D RC) (c : Bool) (l : List Line) (i : Nat) (hI : eachL_Inv p r c l i) : Leaf (eachL_r p r c l i) (LedR eachL_S ⟨p, r, c, l, i⟩) := by
  rw [eachL_eq]
  unfold eachL_Inv at hI
  obtain ⟨h0, h1, h2⟩ := hI
  by_cases hlt : i < l.length
  · have w_succ : IntKind.i64.wrap ((i : Int) + 1) = ((i + 1 : Nat) : Int) := by rw [wrap_id (by omega) (by omega)]; simp
    have d_lt : decide ((i : Int) < l.length) = true := by simp; omega
    have d_in : decide (0 ≤ (i : Int) ∧ (i : Int) < l.length) = true := by simp; omega
    have t_nat : ((i : Int)).toNat = i := by simp
    have w_pred : IntKind.i64.wrap ((i : Int) - 1) = (i : Int) - 1 := wrap_id (by omega) (by omega)
    have t_natp : ((i : Int) - 1).toNat = i - 1 := by omega
    simp only [w_succ, d_lt, d_in, t_nat, w_pred, t_natp, cond_true]
    have hst := eachAt_step (oneLB p) twoLB l i (⟨0, 0, 0, 0, 0⟩ : Line) hlt
    generalize l.getD i (⟨0, 0, 0, 0, 0⟩ : Line) = x at hst ⊢
    generalize l.getD (i - 1) (⟨0, 0, 0, 0, 0⟩ : Line) = y at hst ⊢
    have hgo : eachAt (oneLB p) twoLB l (i + 1) = eachAt (oneLB p) twoLB l i → Leaf (some ((X.normal, eachL_c p r c l (i + 1)), [some (.var 33 (.acons (.int .i64 p) r))])) (LedR eachL_S ⟨p, r, c, l, i⟩) := fun he =>
      leafR_go ⟨p, r, c, l, i + 1⟩ ⟨h0, hlt, h2⟩ (by simp only [eachL_S]; omega) (by simp only [eachL_S, eachL_fin, he]; rfl) rfl rfl
    have hno : eachAt (oneLB p) twoLB l i = false → Leaf (some ((X.ret, [(6, D.bool false)]), [some (.var 33 (.acons (.int .i64 p) r))])) (LedR eachL_S ⟨p, r, c, l, i⟩) := fun he => leafR_ret (eachL_o p r c l i) (by simp [eachL_S, eachL_fin, he, RT.val]) rfl
    rw [hst] at hgo hno
    simp only [oneLB] at hgo hno
    have hty : twoLB ⟨y.offset, y.place, y.j, y.key, y.value⟩ ⟨x.offset, x.place, x.j, x.key, x.value⟩ = twoLB y x := rfl
    rw [hty]
    by_cases hi : i = 0
    · have d0 : decide (0 < (i : Int)) = false := by simp; omega
      simp only [d0, cond_false]
      repeat' (refine leaf_cond.2 ⟨fun _ => ?_, fun _ => ?_⟩)
      all_goals first | exact hno (by clear hgo hno hst; simp_all) | exact hgo (by clear hgo hno hst; simp_all)
    · have d_pos : decide (0 < (i : Int)) = true := by simp; omega
      have d_inp : decide (0 ≤ (i : Int) - 1 ∧ (i : Int) - 1 < l.length) = true := by simp; omega
      simp only [d_pos, d_inp, cond_true]
      repeat' (refine leaf_cond.2 ⟨fun _ => ?_, fun _ => ?_⟩)
      all_goals first | exact hno (by clear hgo hno hst; simp_all) | exact hgo (by clear hgo hno hst; simp_all)
  · have hi : i = l.length := by omega
    have c1 : decide ((i : Int) < l.length) = false := by simp; omega
    rw [c1]
    exact leafR_exit (eachL_o p r c l i) (by simp [eachL_S, eachL_fin, hi, eachAt_end, RT.val]) rfl
def eachL_d (env : Env RC) (os : List (Obj RC)) : Option (Bool × eachL_St) := match env, os with
  | [(0, .sl .line c l), (1, .fn 39 (.acons (.ptr 0 []) .anil)), (2, .fn 40 .anil), (6, .bool false), (9, .int .i64 x0), (10, .int .i64 x1)], [.var 33 (.acons (.int .i64 p) r)] => staticD (r.refs.isEmpty) (decide (x0 = l.length) && decide (x1 = 0) && decide (l.length ≤ 9223372036854775807), ⟨p, r, c, l, 0⟩)
  | _, _ => none
noncomputable def p10 := p9.addLoop 38 2 (sumR s05 [.slot 1 0] [0, 1, 2, 6, 9, 10] eachL_S eachL_d)
theorem p10_laws : FLaws Try.prog s05 p10 := by
  refine p9_laws.addRoundsR s05_laws (by kernel_rfl) eachL_S 40 [0, 1, 2, 6, 9, 10] [6] [.slot 1 0] [0, 1, 2, 6, 9, 10] eachL_d (fun q hI => ?_) ?_
  · obtain ⟨p, r, c, l, i⟩ := q
    refine ⟨?_, ?_, eachL_round p r c l i hI⟩
    · simp_all [RefsOK, eachL_S, eachL_c, eachL_o, eachL_Inv, D.refs, Obj.refs, rEnc]
    · simp_all [eachL_S, eachL_fin, eachL_o, eachL_Inv, RT.refsOK, RefsOK, D.refs, Obj.refs, rEnc]
  · intro env os b q h hb
    unfold eachL_d at h
    split at h
    · obtain ⟨hs, h⟩ := staticD_some h
      cases h
      simp only [Bool.and_eq_true, decide_eq_true_eq] at hb
      obtain ⟨⟨rfl, rfl⟩, hl⟩ := hb
      exact ⟨⟨List.isEmpty_iff.1 hs, Nat.zero_le _, hl⟩, rfl, rfl⟩
    · cases h
end Go.Ev

