/-
  Each action of appends and of fetches, whatever is picked, is the document's: StreamPlays holds of every list of records and every list of picks. (text 7)
-/
import Derived.Test.YtkmlajifcoomcaaGreatP5
import Derived.OpenShut
import Derived.ReadAgain
import Derived.WalkKit
import Derived.ProofKit
import Derived.Test.YtkmlajifcoomcaaGreatRows
namespace Go.Ev
open Go.Proofs
set_option maxRecDepth 100000
set_option linter.unusedVariables false
set_option linter.unusedSimpArgs false
structure may19l_St where
  c : Bool
  l : List Rec
  d : Bool
  m : List Rec
  i : Nat
def may19l_c (c : Bool) (l : List Rec) (d : Bool) (m : List Rec) (i : Nat) : Env RC := [(0, .sl (C := RC) .recd c l), (2, .bool false), (8, .sl (C := RC) .recd d m), (9, .int .i64 ((l.length : Int))), (10, .int .i64 (i : Int))]
def may19l_o (c : Bool) (l : List Rec) (d : Bool) (m : List Rec) (i : Nat) : List (Obj RC) := []
noncomputable def may19l_r (c : Bool) (l : List Rec) (d : Bool) (m : List Rec) (i : Nat) := rndO s19 ul_5 8 4 80 0 [0, 2, 8, 9, 10] [2] [] (may19l_c c l d m i) (may19l_o c l d m i)
theorem may19l_eq (c : Bool) (l : List Rec) (d : Bool) (m : List Rec) (i : Nat) : may19l_r c l d m i = (let Z0 : Int := (↑i : Int); let Z1 : Int := (↑l.length : Int); let Z2 : Rec := Rec.mk (0 : Int) false []; let Z3 : Rec := List.getD m Z0.toNat Z2; let Z4 : RO_ := some ((X.ret, [(2, D.bool false)]), []); let Z5 : Int := IntKind.wrap .i64 (Z0 - (1 : Int)); let Z6 : RO_ := some ((X.normal, [(0, D.sl RTy.recd c l), (2, D.bool false), (8, D.sl RTy.recd d m), (9, D.int .i64 Z1), (10, D.int .i64 (IntKind.wrap .i64 (Z0 + (1 : Int))))]), []); bif decide (Z0 < Z1) then bif decide ((0 : Int) ≤ Z0 ∧ Z0 < (↑m.length : Int)) then bif lenOK Z3.writes.length then bif !mayB (Rec.mk Z3.place Z3.yes Z3.writes) then Z4 else bif !Rec.yes Z3 then Z4 else bif decide ((0 : Int) < Z0) then bif decide ((0 : Int) ≤ Z5 ∧ Z5 < Z1) then bif decide (Rec.place Z3 ≤ Rec.place (List.getD l Z5.toNat Z2)) then Z4 else Z6 else none else Z6 else none else none else some ((X.exit (0 : Nat), [(2, D.bool false)]), [])) := by kernel_rfl
def may19l_fin (c : Bool) (l : List Rec) (d : Bool) (m : List Rec) (i : Nat) : RT RC := .br (eachAt mayS1 mayS2 l i) (.leaf (.exit 0) [(2, .bool false)] []) (.leaf .ret [(2, .bool false)] [])
def may19l_Inv (c : Bool) (l : List Rec) (d : Bool) (m : List Rec) (i : Nat) : Prop := m = l ∧ i ≤ l.length ∧ l.length ≤ 60 ∧ (l.all fun r => lenOK r.writes.length) = true
def may19l_S : LoopR RC may19l_St where
  k := 0
  canon q := may19l_c q.c q.l q.d q.m q.i
  objs q := may19l_o q.c q.l q.d q.m q.i
  fin q := may19l_fin q.c q.l q.d q.m q.i
  Inv q := may19l_Inv q.c q.l q.d q.m q.i
  μ q := q.l.length - q.i
theorem may19l_round (c : Bool) (l : List Rec) (d : Bool) (m : List Rec) (i : Nat) (hI : may19l_Inv c l d m i) : Leaf (may19l_r c l d m i) (LedR may19l_S ⟨c, l, d, m, i⟩) := by
  (rw [may19l_eq]; conv => zeta)
  unfold may19l_Inv at hI
  obtain ⟨rfl, h1, h2, h3⟩ := hI
  by_cases hlt : i < m.length
  · have hst := eachAt_step mayS1 mayS2 m i rec0 hlt
    have w_succ : IntKind.i64.wrap ((i : Int) + 1) = ((i + 1 : Nat) : Int) := by rw [wrap_id (by omega) (by omega)]; simp
    have d_lt : decide ((i : Int) < m.length) = true := by simp; omega
    have d_in : decide (0 ≤ (i : Int) ∧ (i : Int) < m.length) = true := by simp; omega
    have t_nat : ((i : Int)).toNat = i := by simp
    have w_pred : IntKind.i64.wrap ((i : Int) - 1) = (i : Int) - 1 := wrap_id (by omega) (by omega)
    have t_natp : ((i : Int) - 1).toNat = i - 1 := by omega
    have reta : ∀ r : Rec, Rec.mk r.place r.yes r.writes = r := fun _ => rfl
    have e0 : (⟨0, false, []⟩ : Rec) = rec0 := rfl
    have lw : lenOK (m.getD i rec0).writes.length = true := by
      have := List.all_eq_true.1 h3 _ (List.getElem_mem hlt)
      have e : m.getD i rec0 = m[i] := by simp [hlt]
      rw [e]; exact this
    simp only [w_succ, d_lt, d_in, t_nat, w_pred, t_natp, e0, reta, lw, cond_true]
    generalize m.getD i rec0 = x at hst ⊢
    generalize m.getD (i - 1) rec0 = y at hst ⊢
    have hgo : mayB x = true → x.yes = true → (i = 0 ∨ y.place < x.place) → Leaf (some ((X.normal, may19l_c c m d m (i + 1)), [])) (LedR may19l_S ⟨c, m, d, m, i⟩) := fun a b e =>
      leafR_go (S := may19l_S) ⟨c, m, d, m, i + 1⟩ ⟨rfl, hlt, h2, h3⟩ (by simp only [may19l_S]; omega) (by
        have : eachAt mayS1 mayS2 m i = eachAt mayS1 mayS2 m (i + 1) := by
          rw [hst]
          unfold mayS1 mayS2
          rw [a, b]
          rcases e with e | e
          · rw [decide_eq_true e]; simp
          · rw [decide_eq_true e]; simp
        show (may19l_fin c m d m (i + 1)).val = (may19l_fin c m d m i).val
        unfold may19l_fin
        rw [this]) rfl rfl
    have hno : ¬ (mayB x = true ∧ x.yes = true ∧ (i = 0 ∨ y.place < x.place)) → Leaf (some ((X.ret, [(2, D.bool false)]), [])) (LedR may19l_S ⟨c, m, d, m, i⟩) := fun he => leafR_ret [] (by
      have : eachAt mayS1 mayS2 m i = false := by
        rw [hst]
        unfold mayS1 mayS2
        by_cases a : mayB x = true <;> by_cases b : x.yes = true <;> by_cases e : i = 0 <;> by_cases e2 : y.place < x.place <;> simp_all <;> (intro e3; exact absurd e3 (by omega))
      show (may19l_fin c m d m i).val = _
      unfold may19l_fin
      rw [this]
      rfl) rfl
    cases ha : mayB x
    · simp only [Bool.not_false, cond_true]
      exact hno (fun q => by rw [ha] at q; cases q.1)
    · cases hb : x.yes
      · simp only [Bool.not_false, Bool.not_true, cond_true, cond_false]
        exact hno (fun q => by rw [hb] at q; cases q.2.1)
      · by_cases hi : i = 0
        · have d0 : decide (0 < (i : Int)) = false := by simp; omega
          simp only [d0, Bool.not_true, cond_false]
          exact hgo ha hb (.inl hi)
        · have d0 : decide (0 < (i : Int)) = true := by simp; omega
          have d1 : decide (0 ≤ (i : Int) - 1 ∧ (i : Int) - 1 < m.length) = true := by simp; omega
          by_cases e2 : y.place < x.place
          · simp only [d0, d1, decide_eq_false (show ¬ x.place ≤ y.place by omega), Bool.not_true, cond_true, cond_false]
            exact hgo ha hb (.inr e2)
          · simp only [d0, d1, decide_eq_true (show x.place ≤ y.place by omega), Bool.not_true, cond_true, cond_false]
            exact hno (fun q => q.2.2.elim hi e2)
  · have hi : i = m.length := by omega
    have c1 : decide ((i : Int) < m.length) = false := by simp; omega
    rw [c1]
    simp only [cond_false]
    exact leafR_exit [] (by show (may19l_fin c m d m i).val = _; unfold may19l_fin; rw [hi, eachAt_end _ _ _ _ (Nat.le_refl _)]; rfl) rfl
def may19l_d (env : Env RC) (os : List (Obj RC)) : Option (Bool × may19l_St) := match env, os with
  | [(0, .sl .recd c l), (2, .bool false), (8, .sl .recd d m), (9, .int .i64 x0), (10, .int .i64 x1)], [] => staticD (true) (decide (x0 = (l.length : Int)) && decide (x1 = 0) && (decide (m = l) && decide (l.length ≤ 60)) && (l.all fun r => lenOK r.writes.length), ⟨c, l, d, m, 0⟩)
  | _, _ => none
noncomputable def um_1 := ul_5.addLoop 8 4 (sumR s19 [] [0, 2, 8, 9, 10] may19l_S may19l_d)
theorem um_1_laws : FLaws Tryz.prog s19 um_1 := by
  refine ul_5_laws.addRoundsR s19_laws (by kernel_rfl) may19l_S 80 [0, 2, 8, 9, 10] [2] [] [0, 2, 8, 9, 10] may19l_d (fun q hI => ?_) ?_
  · obtain ⟨c, l, d, m, i⟩ := q
    refine ⟨?_, ?_, may19l_round c l d m i hI⟩
    · simp_all [RefsOK, may19l_S, may19l_c, may19l_o, may19l_Inv, D.refs, Obj.refs, rEnc]
    · simp_all [may19l_S, may19l_fin, may19l_o, may19l_Inv, RT.refsOK, RefsOK, D.refs, Obj.refs, rEnc]
  · intro env os b q hd_ hb
    unfold may19l_d at hd_
    split at hd_
    · obtain ⟨hs, hd_⟩ := staticD_some hd_
      cases hd_
      simp only [Bool.and_eq_true, decide_eq_true_eq] at hb
      obtain ⟨⟨⟨e0, e1⟩, e2, e3⟩, e4⟩ := hb
      subst e0
      subst e1
      subst e2
      exact ⟨⟨rfl, Nat.zero_le _, e3, e4⟩, rfl, rfl⟩
    · cases hd_
def may19_s (c : Bool) (l : List Rec) : Option (Bool × D RC) := some (lenOK l.length && (l.all fun r => lenOK r.writes.length), .bool (mayS l))
def may19_sp : List (D RC) → Option (Bool × D RC)
  | [.sl .recd c l] => may19_s c l
  | _ => none
noncomputable def may19_e (c : Bool) (l : List Rec) := evF s19 um_1 80 8 [.sl (C := RC) .recd c l]
theorem may19_eq (c : Bool) (l : List Rec) : may19_e c l = (let Z0 : Nat := List.length l; let Z1 : Int := (↑Z0 : Int); bif lenOK Z0 then bif decide ((60 : Int) < Z1) then some (D.bool false) else bif lenOK Z0 then bif decide (Z1 = Z1) && true && (decide (l = l) && decide (Z0 ≤ (60 : Nat))) && List.all l fun (r : Rec) => lenOK r.writes.length then bif eachAt mayS1 mayS2 l (0 : Nat) then some (D.bool true) else some (D.bool false) else none else none else none) := by kernel_rfl
theorem may19_ok (c : Bool) (l : List Rec) (h : (lenOK l.length && (l.all fun r => lenOK r.writes.length)) = true) : may19_e c l = some (.bool (mayS l)) := by
  (rw [may19_eq]; conv => zeta)
  rw [Bool.and_eq_true] at h
  obtain ⟨h1, h2⟩ := h
  unfold mayS
  by_cases h6 : l.length ≤ 60
  · have c1 : decide ((60 : Int) < (l.length : Int)) = false := decide_eq_false (by omega)
    simp only [h1, h2, c1, decide_eq_true h6, decide_true, Bool.and_self, Bool.true_and, Bool.and_true, cond_true, cond_false]
    cases eachAt mayS1 mayS2 l 0 <;> rfl
  · have c1 : decide ((60 : Int) < (l.length : Int)) = true := decide_eq_true (by omega)
    simp only [h1, c1, decide_eq_false h6, Bool.false_and, cond_true]
noncomputable def um_2 := um_1.addSpec 8 may19_sp
theorem um_2_laws : FLaws Tryz.prog s19 um_2 := um_1_laws.addEv s19_laws fun args d h => by
  unfold may19_sp at h
  split at h
  · unfold may19_s at h
    have h1 := congrArg Prod.fst (Option.some.inj h)
    obtain rfl : _ = d := congrArg Prod.snd (Option.some.inj h)
    exact ⟨by simp [D.refs], 80, may19_ok _ _ h1⟩
  · cases h
structure helps19_St where
  c : Int
  now : List Sector
  sure : List Sector
  cs : List Int
  ts : List Task
  us : List Task
  busy : List Bool
  lf : Bool
  L : List Rec
  at' : List Int
  jj : List Int
  kd : List Int
  a0 : List Int
  a1 : List Int
  a2 : List Int
  a3 : List Int
def helps19_a (c : Int) (now : List Sector) (sure : List Sector) (cs : List Int) (ts : List Task) (us : List Task) (busy : List Bool) (lf : Bool) (L : List Rec) (at' : List Int) (jj : List Int) (kd : List Int) (a0 : List Int) (a1 : List Int) (a2 : List Int) (a3 : List Int) : List (D RC) := [.ptr 0 [], .int .i64 c]
def helps19_o (c : Int) (now : List Sector) (sure : List Sector) (cs : List Int) (ts : List Task) (us : List Task) (busy : List Bool) (lf : Bool) (L : List Rec) (at' : List Int) (jj : List Int) (kd : List Int) (a0 : List Int) (a1 : List Int) (a2 : List Int) (a3 : List Int) : List (Obj RC) := [.var 33 (.acons (.ptr 1 []) (.acons (.sl (C := RC) .recd lf L) (.acons (.arr (C := RC) .int 4 at') (.acons (.arr (C := RC) .int 4 jj) (.acons (.arr (C := RC) .int 4 kd) (.acons (.acons (.arr (C := RC) .int 3 a0) (.acons (.arr (C := RC) .int 3 a1) (.acons (.arr (C := RC) .int 3 a2) (.acons (.arr (C := RC) .int 3 a3) .anil)))) .anil)))))), .var 52 (.acons (.acons (.sl (C := RC) .int false cs) (.acons (.acons (.sl (C := RC) .sector false now) (.acons (.sl (C := RC) .sector false sure) .anil)) .anil)) (.acons (.arr (C := RC) .task 4 ts) (.acons (.arr (C := RC) .task 4 us) (.acons (.arr (C := RC) .bool 4 busy) .anil))))]
noncomputable def helps19_r (c : Int) (now : List Sector) (sure : List Sector) (cs : List Int) (ts : List Task) (us : List Task) (busy : List Bool) (lf : Bool) (L : List Rec) (at' : List Int) (jj : List Int) (kd : List Int) (a0 : List Int) (a1 : List Int) (a2 : List Int) (a3 : List Int) := fnO s19 um_2 27 80 2 (helps19_a c now sure cs ts us busy lf L at' jj kd a0 a1 a2 a3) (helps19_o c now sure cs ts us busy lf L at' jj kd a0 a1 a2 a3)
theorem helps19_eq (c : Int) (now : List Sector) (sure : List Sector) (cs : List Int) (ts : List Task) (us : List Task) (busy : List Bool) (lf : Bool) (L : List Rec) (at' : List Int) (jj : List Int) (kd : List Int) (a0 : List Int) (a1 : List Int) (a2 : List Int) (a3 : List Int) : helps19_r c now sure cs ts us busy lf L at' jj kd a0 a1 a2 a3 = (let Z0 : Int := (↑L.length : Int); let Z1 : Int := List.getD cs (0 : Nat) (0 : Int); let Z2 : D RC := .anil; let Z3 : D RC := D.tup Z2; let Z4 : D RC := D.ptr 1 []; let Z5 : D RC := D.sl RTy.recd lf L; let Z6 : D RC := D.arr RTy.int (4 : Nat) at'; let Z7 : D RC := D.arr RTy.int (4 : Nat) jj; let Z8 : D RC := D.acons (D.acons (D.arr RTy.int (3 : Nat) a0) (.acons (D.arr RTy.int (3 : Nat) a1) (.acons (D.arr RTy.int (3 : Nat) a2) (.acons (D.arr RTy.int (3 : Nat) a3) Z2)))) Z2; let Z9 : D RC := D.acons (D.arr RTy.int (4 : Nat) kd) Z8; let Z10 : Option (Obj RC) := some (Obj.var 33 (.acons Z4 (D.acons Z5 (D.acons Z6 (D.acons Z7 Z9))))); let Z11 : D RC := D.acons (D.acons (D.sl RTy.sector false now) (.acons (D.sl RTy.sector false sure) Z2)) Z2; let Z12 : D RC := D.acons (D.sl RTy.int false cs) Z11; let Z13 : D RC := D.acons (D.arr RTy.task (4 : Nat) ts) (.acons (D.arr RTy.task (4 : Nat) us) (.acons (D.arr RTy.bool (4 : Nat) busy) Z2)); let Z14 : List (Option (Obj RC)) := [some (Obj.var 52 (.acons Z12 Z13))]; let Z15 : Bool := decide ((0 : Int) ≤ c ∧ c < (4 : Int)); let Z16 : Nat := Int.toNat c; let Z17 : Bool := decide ((0 : Int) ≤ Z1 ∧ Z1 < Z0); let Z18 : Rec := List.getD L Z1.toNat (Rec.mk (0 : Int) false []); let Z19 : Nat := List.length Z18.writes; let Z20 : Int := (↑Z19 : Int); let Z21 : Int := List.getD (List.set jj Z16 (0 : Int)) Z16 (0 : Int); let Z22 : Nat := (0 : Nat) + List.length cs; let Z23 : List Int := List.replicate (0 : Nat) (0 : Int) ++ cs; let Z24 : Bool := Nat.beq Z22 Z23.length; let Z25 : Bool := Z24 && decide ((0 : Int) ≤ (0 : Int) ∧ (0 : Int) < (↑Z23.length : Int)); let Z26 : List Int := List.set Z23 (0 : Nat) (IntKind.wrap .i64 (Z1 + (1 : Int))); let Z27 : Bool := Nat.beq Z22 Z26.length; let Z28 : D RC := D.arr RTy.int (4 : Nat) (List.set at' Z16 Z1); let Z29 : D RC := D.arr RTy.int (4 : Nat) (List.set jj Z16 (0 : Int)); let Z30 : List (Option (Obj RC)) := [some (Obj.var 52 (.acons (D.acons (D.sl RTy.int false Z26) Z11) Z13))]; let Z31 : Option (D RC × List (Option (Obj RC))) := none; let Z32 : Write := Write.mk (0 : Int) (0 : Int); let Z33 : Write := List.getD Z18.writes Z21.toNat Z32; let Z34 : List Int := [Rec.place Z18, Z21, Write.key Z33, Write.value Z33]; let Z35 : Bool := List.getD busy Z16 false; let Z36 : D RC := D.acons (D.arr RTy.int (4 : Nat) (List.set kd Z16 (1 : Int))) Z8; let Z37 : Option (Obj RC) := some (Obj.var 33 (.acons Z4 (D.acons Z5 (D.acons Z28 (D.acons Z29 Z36))))); let Z38 : Task := Task.mk c [Frame.mk (76 : Int) (0 : Int) (regs1 Z34)] [] false; let Z39 : D RC := D.acons (D.arr RTy.bool (4 : Nat) (List.set busy Z16 true)) Z2; let Z40 : Int := List.getD jj Z16 (0 : Int); let Z41 : Write := List.getD Z18.writes Z40.toNat Z32; let Z42 : List Int := [Rec.place Z18, Z40, Write.key Z41, Write.value Z41]; let Z43 : Option (Obj RC) := some (Obj.var 33 (.acons Z4 (D.acons Z5 (D.acons Z6 (D.acons Z7 Z36))))); let Z44 : Task := Task.mk c [Frame.mk (76 : Int) (0 : Int) (regs1 Z42)] [] false; bif decide ((0 : Int) ≤ (0 : Int) ∧ (0 : Int) < (↑cs.length : Int)) then bif lenOK L.length then bif decide (Z0 ≤ Z1) then some (Z3, Z10 :: Z14) else bif Z15 then bif List.getD at' Z16 (0 : Int) != Z1 then bif Z15 then bif Z15 then bif Z17 then bif Z15 then bif lenOK Z19 then bif decide (Z20 ≤ Z21) then bif sizeOK Z22 (8 : Nat) then bif Z25 then bif Z24 then bif Z27 then some (Z3, some (Obj.var 33 (.acons Z4 (D.acons Z5 (D.acons Z28 (D.acons Z29 Z9))))) :: Z30) else Z31 else Z31 else Z31 else Z31 else bif Z15 then bif decide ((0 : Int) ≤ Z21 ∧ Z21 < Z20) then bif Z15 then bif Z15 then bif decide ((0 : Int) ≤ c ∧ c ≤ (3 : Int) ∧ (0 : Int) ≤ (76 : Int) ∧ List.length Z34 ≤ (96 : Nat)) then bif Z15 then bif Z35 then some (Z3, Z37 :: Z14) else bif Z15 then bif Z15 then bif Z15 then some (Z3, [Z37, some (Obj.var 52 (.acons Z12 (D.acons (D.arr RTy.task (4 : Nat) (List.set ts Z16 Z38)) (.acons (D.arr RTy.task (4 : Nat) (List.set us Z16 Z38)) Z39))))]) else Z31 else Z31 else Z31 else Z31 else Z31 else Z31 else Z31 else Z31 else Z31 else Z31 else Z31 else Z31 else Z31 else Z31 else bif Z17 then bif Z15 then bif lenOK Z19 then bif decide (Z20 ≤ Z40) then bif sizeOK Z22 (8 : Nat) then bif Z25 then bif Z24 then bif Z27 then some (Z3, Z10 :: Z30) else Z31 else Z31 else Z31 else Z31 else bif Z15 then bif decide ((0 : Int) ≤ Z40 ∧ Z40 < Z20) then bif Z15 then bif Z15 then bif decide ((0 : Int) ≤ c ∧ c ≤ (3 : Int) ∧ (0 : Int) ≤ (76 : Int) ∧ List.length Z42 ≤ (96 : Nat)) then bif Z15 then bif Z35 then some (Z3, Z43 :: Z14) else bif Z15 then bif Z15 then bif Z15 then some (Z3, [Z43, some (Obj.var 52 (.acons Z12 (D.acons (D.arr RTy.task (4 : Nat) (List.set ts Z16 Z44)) (.acons (D.arr RTy.task (4 : Nat) (List.set us Z16 Z44)) Z39))))]) else Z31 else Z31 else Z31 else Z31 else Z31 else Z31 else Z31 else Z31 else Z31 else Z31 else Z31 else Z31 else Z31 else Z31 else Z31) := by kernel_rfl
noncomputable def helps19_fin (c : Int) (now : List Sector) (sure : List Sector) (cs : List Int) (ts : List Task) (us : List Task) (busy : List Bool) (lf : Bool) (L : List Rec) (at' : List Int) (jj : List Int) (kd : List Int) (a0 : List Int) (a1 : List Int) (a2 : List Int) (a3 : List Int) : RT RC := .leaf .ret [(0, .tup .anil)] (helps19_o c now sure (helpsS L ⟨cs, ts, us, busy, at', jj, kd, a0, a1, a2, a3⟩ c).cs (helpsS L ⟨cs, ts, us, busy, at', jj, kd, a0, a1, a2, a3⟩ c).ts (helpsS L ⟨cs, ts, us, busy, at', jj, kd, a0, a1, a2, a3⟩ c).us (helpsS L ⟨cs, ts, us, busy, at', jj, kd, a0, a1, a2, a3⟩ c).busy lf L (helpsS L ⟨cs, ts, us, busy, at', jj, kd, a0, a1, a2, a3⟩ c).at' (helpsS L ⟨cs, ts, us, busy, at', jj, kd, a0, a1, a2, a3⟩ c).jj (helpsS L ⟨cs, ts, us, busy, at', jj, kd, a0, a1, a2, a3⟩ c).kind a0 a1 a2 a3)
def helps19_Inv (c : Int) (now : List Sector) (sure : List Sector) (cs : List Int) (ts : List Task) (us : List Task) (busy : List Bool) (lf : Bool) (L : List Rec) (at' : List Int) (jj : List Int) (kd : List Int) (a0 : List Int) (a1 : List Int) (a2 : List Int) (a3 : List Int) : Prop := 0 ≤ c ∧ c ≤ 3 ∧ mayS L = true ∧ busy.getD c.toNat false = false ∧ ∃ n, 0 ≤ n ∧ n ≤ 800000 ∧ SI L n ⟨cs, ts, us, busy, at', jj, kd, a0, a1, a2, a3⟩
noncomputable def helps19_S : FunR RC helps19_St where
  k := 2
  args q := helps19_a q.c q.now q.sure q.cs q.ts q.us q.busy q.lf q.L q.at' q.jj q.kd q.a0 q.a1 q.a2 q.a3
  objs q := helps19_o q.c q.now q.sure q.cs q.ts q.us q.busy q.lf q.L q.at' q.jj q.kd q.a0 q.a1 q.a2 q.a3
  fin q := helps19_fin q.c q.now q.sure q.cs q.ts q.us q.busy q.lf q.L q.at' q.jj q.kd q.a0 q.a1 q.a2 q.a3
  Inv q := helps19_Inv q.c q.now q.sure q.cs q.ts q.us q.busy q.lf q.L q.at' q.jj q.kd q.a0 q.a1 q.a2 q.a3
theorem helps19_leaf {c : Int} {now sure : List Sector} {cs : List Int} {ts us : List Task} {busy : List Bool} {lf : Bool} {L : List Rec} {at' jj kd a0 a1 a2 a3 : List Int} {os : List (Option (Obj RC))} (H : SS) (hH : helpsS L ⟨cs, ts, us, busy, at', jj, kd, a0, a1, a2, a3⟩ c = H)
    (hos : os = (helps19_o c now sure H.cs H.ts H.us H.busy lf L H.at' H.jj H.kind a0 a1 a2 a3).map some) : Leaf (some (D.tup .anil, os)) (LedF helps19_S ⟨c, now, sure, cs, ts, us, busy, lf, L, at', jj, kd, a0, a1, a2, a3⟩) :=
  leafF (S := helps19_S) (s := ⟨c, now, sure, cs, ts, us, busy, lf, L, at', jj, kd, a0, a1, a2, a3⟩) _ (by show (helps19_fin c now sure cs ts us busy lf L at' jj kd a0 a1 a2 a3).val = _; unfold helps19_fin; rw [hH]; rfl) hos
theorem helps19_ok (c : Int) (now : List Sector) (sure : List Sector) (cs : List Int) (ts : List Task) (us : List Task) (busy : List Bool) (lf : Bool) (L : List Rec) (at' : List Int) (jj : List Int) (kd : List Int) (a0 : List Int) (a1 : List Int) (a2 : List Int) (a3 : List Int) (hI : helps19_Inv c now sure cs ts us busy lf L at' jj kd a0 a1 a2 a3) : Leaf (helps19_r c now sure cs ts us busy lf L at' jj kd a0 a1 a2 a3) (LedF helps19_S ⟨c, now, sure, cs, ts, us, busy, lf, L, at', jj, kd, a0, a1, a2, a3⟩) := by
  (rw [helps19_eq]; conv => zeta)
  unfold helps19_Inv at hI
  obtain ⟨c0, c3, hL, hb, n, n0, n1, hI⟩ := hI
  have hl : cs.length = 771 := hI.sc.len
  have hf : 0 ≤ cs.getD 0 0 ∧ cs.getD 0 0 ≤ (L.length : Int) := hI.fr
  have lj : jj.length = 4 := hI.lj
  have hjj : 0 ≤ jj.getD c.toNat 0 ∧ jj.getD c.toNat 0 ≤ n := hI.jb c.toNat (by omega)
  have hL60 : L.length ≤ 60 := by
    unfold mayS at hL; rw [Bool.and_eq_true, decide_eq_true_eq] at hL; exact hL.1
  have e0 : (⟨0, false, []⟩ : Rec) = rec0 := rfl
  have e1 : (⟨0, 0⟩ : Write) = wr0 := rfl
  have z0 : decide ((0 : Int) ≤ 0 ∧ (0 : Int) < (cs.length : Int)) = true := decide_eq_true ⟨by decide, by omega⟩
  have lL : lenOK L.length = true := lenOK_of (by omega)
  have hc : decide ((0 : Int) ≤ c ∧ c < 4) = true := decide_eq_true ⟨c0, by omega⟩
  have hN : ∀ a b k v : Int, decide (0 ≤ c ∧ c ≤ 3 ∧ (0 : Int) ≤ 76 ∧ [a, b, k, v].length ≤ 96) = true := fun a b k v => decide_eq_true ⟨c0, c3, by decide, by simp⟩
  have s1 : sizeOK (0 + cs.length) 8 = true := sizeT (by omega)
  have s2 : Nat.beq (0 + cs.length) cs.length = true := nbeqT (by omega)
  have s3 : ∀ v : Int, Nat.beq (0 + cs.length) (cs.set 0 v).length = true := fun v => nbeqT (by simp)
  have t0 : (0 : Int).toNat = 0 := rfl
  have g0 : (jj.set c.toNat 0).getD c.toNat 0 = 0 := getD_set_eq (by omega)
  have w1 : IntKind.i64.wrap (cs.getD 0 0 + 1) = cs.getD 0 0 + 1 := wrap_id (by omega) (by omega)
  by_cases hF : (L.length : Int) ≤ cs.getD 0 0
  · simp only [z0, lL, t0, decide_eq_true hF, cond_true]
    exact helps19_leaf ⟨cs, ts, us, busy, at', jj, kd, a0, a1, a2, a3⟩ (by unfold helpsS; exact if_pos hF) rfl
  have dI : decide (0 ≤ cs.getD 0 0 ∧ cs.getD 0 0 < (L.length : Int)) = true := decide_eq_true ⟨by omega, by omega⟩
  have hm := mayS_at hL (i := (cs.getD 0 0).toNat) (by omega)
  have hw4 : (L.getD (cs.getD 0 0).toNat rec0).writes.length ≤ 4 := by
    have := hm.2
    unfold writtenL at this
    rw [Bool.and_eq_true, decide_eq_true_eq] at this
    exact this.1
  have lw : lenOK (L.getD (cs.getD 0 0).toNat rec0).writes.length = true := lenOK_of (by omega)
  by_cases hA : at'.getD c.toNat 0 = cs.getD 0 0
  · have eA : atS ⟨cs, ts, us, busy, at', jj, kd, a0, a1, a2, a3⟩ c = ⟨cs, ts, us, busy, at', jj, kd, a0, a1, a2, a3⟩ := if_pos hA
    by_cases hJ : ((L.getD (cs.getD 0 0).toNat rec0).writes.length : Int) ≤ jj.getD c.toNat 0
    · simp only [z0, lL, t0, e0, e1, hc, dI, lw, s1, s2, s3, w1, decide_eq_false hF, ibneF hA, decide_eq_true hJ, List.replicate_zero, List.nil_append, Bool.and_self, cond_true, cond_false]
      exact helps19_leaf { (⟨cs, ts, us, busy, at', jj, kd, a0, a1, a2, a3⟩ : SS) with cs := cs.set 0 (cs.getD 0 0 + 1) } (by unfold helpsS; rw [if_neg (show ¬ (L.length : Int) ≤ sFr ⟨cs, ts, us, busy, at', jj, kd, a0, a1, a2, a3⟩ from hF), eA, if_pos (show ((L.getD (sFr ⟨cs, ts, us, busy, at', jj, kd, a0, a1, a2, a3⟩).toNat rec0).writes.length : Int) ≤ jj.getD c.toNat 0 from hJ)]; rfl) rfl
    · have dJ : decide (0 ≤ jj.getD c.toNat 0 ∧ jj.getD c.toNat 0 < ((L.getD (cs.getD 0 0).toNat rec0).writes.length : Int)) = true := decide_eq_true ⟨hjj.1, by omega⟩
      simp only [z0, lL, t0, e0, e1, hc, dI, dJ, lw, hN, hb, decide_eq_false hF, ibneF hA, decide_eq_false hJ, cond_true, cond_false]
      refine helps19_leaf (beginS { (⟨cs, ts, us, busy, at', jj, kd, a0, a1, a2, a3⟩ : SS) with kind := kd.set c.toNat 1 } c 76 [(L.getD (cs.getD 0 0).toNat rec0).place, jj.getD c.toNat 0, ((L.getD (cs.getD 0 0).toNat rec0).writes.getD (jj.getD c.toNat 0).toNat wr0).key, ((L.getD (cs.getD 0 0).toNat rec0).writes.getD (jj.getD c.toNat 0).toNat wr0).value]) ?_ rfl
      unfold helpsS
      rw [if_neg (show ¬ (L.length : Int) ≤ sFr ⟨cs, ts, us, busy, at', jj, kd, a0, a1, a2, a3⟩ from hF), eA, if_neg (show ¬ ((L.getD (sFr ⟨cs, ts, us, busy, at', jj, kd, a0, a1, a2, a3⟩).toNat rec0).writes.length : Int) ≤ jj.getD c.toNat 0 from hJ)]
      rfl
  · have eA : atS ⟨cs, ts, us, busy, at', jj, kd, a0, a1, a2, a3⟩ c = { (⟨cs, ts, us, busy, at', jj, kd, a0, a1, a2, a3⟩ : SS) with at' := at'.set c.toNat (cs.getD 0 0), jj := jj.set c.toNat 0 } := if_neg hA
    by_cases hJ : ((L.getD (cs.getD 0 0).toNat rec0).writes.length : Int) ≤ 0
    · simp only [z0, lL, t0, e0, e1, hc, dI, lw, s1, s2, s3, w1, g0, decide_eq_false hF, ibneT hA, decide_eq_true hJ, List.replicate_zero, List.nil_append, Bool.and_self, cond_true, cond_false]
      exact helps19_leaf { (⟨cs, ts, us, busy, at', jj, kd, a0, a1, a2, a3⟩ : SS) with at' := at'.set c.toNat (cs.getD 0 0), jj := jj.set c.toNat 0, cs := cs.set 0 (cs.getD 0 0 + 1) } (by unfold helpsS; rw [if_neg (show ¬ (L.length : Int) ≤ sFr ⟨cs, ts, us, busy, at', jj, kd, a0, a1, a2, a3⟩ from hF), eA, if_pos (show ((L.getD (sFr ⟨cs, ts, us, busy, at', jj, kd, a0, a1, a2, a3⟩).toNat rec0).writes.length : Int) ≤ (jj.set c.toNat 0).getD c.toNat 0 by rw [g0]; exact hJ)]; rfl) rfl
    · have dJ : decide ((0 : Int) ≤ 0 ∧ 0 < ((L.getD (cs.getD 0 0).toNat rec0).writes.length : Int)) = true := decide_eq_true ⟨by decide, by omega⟩
      simp only [z0, lL, t0, e0, e1, hc, dI, dJ, lw, hN, hb, g0, decide_eq_false hF, ibneT hA, decide_eq_false hJ, cond_true, cond_false]
      refine helps19_leaf (beginS { (⟨cs, ts, us, busy, at', jj, kd, a0, a1, a2, a3⟩ : SS) with at' := at'.set c.toNat (cs.getD 0 0), jj := jj.set c.toNat 0, kind := kd.set c.toNat 1 } c 76 [(L.getD (cs.getD 0 0).toNat rec0).place, 0, ((L.getD (cs.getD 0 0).toNat rec0).writes.getD (0 : Int).toNat wr0).key, ((L.getD (cs.getD 0 0).toNat rec0).writes.getD (0 : Int).toNat wr0).value]) ?_ rfl
      unfold helpsS
      rw [if_neg (show ¬ (L.length : Int) ≤ sFr ⟨cs, ts, us, busy, at', jj, kd, a0, a1, a2, a3⟩ from hF), eA, if_neg (show ¬ ((L.getD (sFr ⟨cs, ts, us, busy, at', jj, kd, a0, a1, a2, a3⟩).toNat rec0).writes.length : Int) ≤ (jj.set c.toNat 0).getD c.toNat 0 by rw [g0]; exact hJ)]
      show beginS _ c 76 [_, (jj.set c.toNat 0).getD c.toNat 0, ((L.getD (cs.getD 0 0).toNat rec0).writes.getD ((jj.set c.toNat 0).getD c.toNat 0).toNat wr0).key, ((L.getD (cs.getD 0 0).toNat rec0).writes.getD ((jj.set c.toNat 0).getD c.toNat 0).toNat wr0).value] = _
      rw [g0]
      rfl
noncomputable def helps19_d (env : Env RC) (os : List (Obj RC)) : Option (Bool × helps19_St) := match env, os with
  | [(0, .ptr 0 []), (1, .int .i64 c)], [.var 33 (.acons (.ptr 1 []) (.acons (.sl .recd lf L) (.acons (.arr .int 4 at') (.acons (.arr .int 4 jj) (.acons (.arr .int 4 kd) (.acons (.acons (.arr .int 3 a0) (.acons (.arr .int 3 a1) (.acons (.arr .int 3 a2) (.acons (.arr .int 3 a3) .anil)))) .anil)))))), .var 52 (.acons (.acons (.sl .int false cs) (.acons (.acons (.sl .sector false now) (.acons (.sl .sector false sure) .anil)) .anil)) (.acons (.arr .task 4 ts) (.acons (.arr .task 4 us) (.acons (.arr .bool 4 busy) .anil))))] => staticD (true) (cdec (0 ≤ c ∧ c ≤ 3 ∧ mayS L = true ∧ busy.getD c.toNat false = false ∧ ∃ n, 0 ≤ n ∧ n ≤ 800000 ∧ SI L n ⟨cs, ts, us, busy, at', jj, kd, a0, a1, a2, a3⟩), ⟨c, now, sure, cs, ts, us, busy, lf, L, at', jj, kd, a0, a1, a2, a3⟩)
  | _, _ => none
noncomputable def um_3 := um_2.addObj 27 (sumF s19 [.slot 0 0, .path 0 [0]] 2 helps19_S helps19_d)
theorem um_3_laws : FLaws Tryz.prog s19 um_3 := by
  refine um_2_laws.addFun s19_laws helps19_S 80 2 [.slot 0 0, .path 0 [0]] helps19_d (fun q hI => ?_) ?_
  · obtain ⟨c, now, sure, cs, ts, us, busy, lf, L, at', jj, kd, a0, a1, a2, a3⟩ := q
    refine ⟨?_, ?_, rfl, helps19_ok c now sure cs ts us busy lf L at' jj kd a0 a1 a2 a3 hI⟩
    · simp [RefsOK, helps19_S, helps19_a, helps19_o, eargs, D.refs, Obj.refs]
    · simp [helps19_S, helps19_fin, helps19_o, RT.refsOK, RefsOK, D.refs, Obj.refs]
  · intro env os b q hd_ hb
    unfold helps19_d at hd_
    split at hd_
    · obtain ⟨hs, hd_⟩ := staticD_some hd_
      cases hd_
      try simp only [Bool.and_eq_true, decide_eq_true_eq] at hb
      exact ⟨cdec_iff.1 hb, rfl, rfl⟩
    · cases hd_
def pkFl (s : SS) (c : Int) : Bool := if sBusy s c = true then (bif (endZ s c).is then true else (endZ s c).gf) else true
def pkAn (s : SS) (c : Int) : List Int := if sBusy s c = true then (bif (endZ s c).is then [] else (endZ s c).got) else []
def pkFe (s : SS) (c : Int) : Bool := if sBusy s c = true then !(endZ s c).is && (s.kind.getD c.toNat 0 == 2) else false
set_option maxHeartbeats 40000000
structure pick19_St where
  x : Int
  dd : Int
  part : Int
  fr : Int
  now : List Sector
  sure : List Sector
  cs : List Int
  ts : List Task
  us : List Task
  busy : List Bool
  lf : Bool
  L : List Rec
  at' : List Int
  jj : List Int
  kd : List Int
  a0 : List Int
  a1 : List Int
  a2 : List Int
  a3 : List Int
def pick19_a (x : Int) (dd : Int) (part : Int) (fr : Int) (now : List Sector) (sure : List Sector) (cs : List Int) (ts : List Task) (us : List Task) (busy : List Bool) (lf : Bool) (L : List Rec) (at' : List Int) (jj : List Int) (kd : List Int) (a0 : List Int) (a1 : List Int) (a2 : List Int) (a3 : List Int) : List (D RC) := [.ptr 0 [], .acons (.int .i64 x) (.acons (.int .i64 dd) (.acons (.int .i64 part) (.acons (.int .i64 fr) .anil)))]
def pick19_o (x : Int) (dd : Int) (part : Int) (fr : Int) (now : List Sector) (sure : List Sector) (cs : List Int) (ts : List Task) (us : List Task) (busy : List Bool) (lf : Bool) (L : List Rec) (at' : List Int) (jj : List Int) (kd : List Int) (a0 : List Int) (a1 : List Int) (a2 : List Int) (a3 : List Int) : List (Obj RC) := [.var 33 (.acons (.ptr 1 []) (.acons (.sl (C := RC) .recd lf L) (.acons (.arr (C := RC) .int 4 at') (.acons (.arr (C := RC) .int 4 jj) (.acons (.arr (C := RC) .int 4 kd) (.acons (.acons (.arr (C := RC) .int 3 a0) (.acons (.arr (C := RC) .int 3 a1) (.acons (.arr (C := RC) .int 3 a2) (.acons (.arr (C := RC) .int 3 a3) .anil)))) .anil)))))), .var 52 (.acons (.acons (.sl (C := RC) .int false cs) (.acons (.acons (.sl (C := RC) .sector false now) (.acons (.sl (C := RC) .sector false sure) .anil)) .anil)) (.acons (.arr (C := RC) .task 4 ts) (.acons (.arr (C := RC) .task 4 us) (.acons (.arr (C := RC) .bool 4 busy) .anil))))]
noncomputable def pick19_r (x : Int) (dd : Int) (part : Int) (fr : Int) (now : List Sector) (sure : List Sector) (cs : List Int) (ts : List Task) (us : List Task) (busy : List Bool) (lf : Bool) (L : List Rec) (at' : List Int) (jj : List Int) (kd : List Int) (a0 : List Int) (a1 : List Int) (a2 : List Int) (a3 : List Int) := fnO s19 um_3 11 80 2 (pick19_a x dd part fr now sure cs ts us busy lf L at' jj kd a0 a1 a2 a3) (pick19_o x dd part fr now sure cs ts us busy lf L at' jj kd a0 a1 a2 a3)
set_option maxHeartbeats 4000000 in
theorem pick19_eq (x : Int) (dd : Int) (part : Int) (fr : Int) (now : List Sector) (sure : List Sector) (cs : List Int) (ts : List Task) (us : List Task) (busy : List Bool) (lf : Bool) (L : List Rec) (at' : List Int) (jj : List Int) (kd : List Int) (a0 : List Int) (a1 : List Int) (a2 : List Int) (a3 : List Int) : pick19_r x dd part fr now sure cs ts us busy lf L at' jj kd a0 a1 a2 a3 = (let Z0 : Int := Int.tmod (IntKind.wrap .i64 (Int.tmod x (4 : Int) + (4 : Int))) (4 : Int); let Z1 : Bool := decide ((0 : Int) ≤ Z0 ∧ Z0 < (4 : Int)); let Z2 : Nat := Int.toNat Z0; let Z3 : Bool := List.getD busy Z2 false; let Z4 : SS := SS.mk cs ts us busy at' jj kd a0 a1 a2 a3; let Z5 : SS := helpsS L Z4 Z0; let Z6 : Int := List.getD (SS.cs Z5) (0 : Nat) (0 : Int); let Z7 : Bool := lenOK L.length; let Z8 : Int := (↑L.length : Int); let Z9 : Int := IntKind.wrap .i64 (Z6 - (1 : Int)); let Z10 : Bool := Z0 == (0 : Int); let Z11 : Int := Int.tmod (IntKind.wrap .i64 (Int.tmod part (3 : Int) + (3 : Int))) (3 : Int); let Z12 : Rec := Rec.mk (0 : Int) false []; let Z13 : Int := Rec.place (List.getD L Z9.toNat Z12); let Z14 : Int := if Z13 < fr then Z13 else fr; let Z15 : List Int := [Z11, if (0 : Int) < Z14 then Z14 else (0 : Int), Z13]; let Z16 : Bool := decide ((0 : Int) ≤ Z0 ∧ Z0 ≤ (3 : Int) ∧ (0 : Int) ≤ (77 : Int) ∧ List.length Z15 ≤ (96 : Nat)); let Z17 : Bool := List.getD (SS.busy Z5) Z2 false; let Z18 : D RC := D.int .i64 Z0; let Z19 : D RC := .anil; let Z20 : D RC := D.acons (D.bool true) Z19; let Z21 : D RC := D.acons (D.bool false) Z20; let Z22 : D RC := D.tup (D.acons Z18 (D.acons (D.sl RTy.int true []) Z21)); let Z23 : D RC := D.ptr 1 []; let Z24 : D RC := D.sl RTy.recd lf L; let Z25 : D RC := D.arr RTy.int (4 : Nat) (SS.at' Z5); let Z26 : D RC := D.arr RTy.int (4 : Nat) (SS.jj Z5); let Z27 : D RC := D.arr RTy.int (4 : Nat) (List.set (SS.kind Z5) Z2 (2 : Int)); let Z28 : D RC := D.arr RTy.int (3 : Nat) Z15; let Z29 : D RC := D.arr RTy.int (3 : Nat) a1; let Z30 : D RC := D.arr RTy.int (3 : Nat) a2; let Z31 : D RC := D.acons (D.arr RTy.int (3 : Nat) a3) Z19; let Z32 : D RC := D.acons Z30 Z31; let Z33 : D RC := D.acons Z29 Z32; let Z34 : Option (Obj RC) := some (Obj.var 33 (.acons Z23 (D.acons Z24 (D.acons Z25 (D.acons Z26 (D.acons Z27 (D.acons (D.acons Z28 Z33) Z19))))))); let Z35 : D RC := D.acons (D.acons (D.sl RTy.sector false now) (.acons (D.sl RTy.sector false sure) Z19)) Z19; let Z36 : D RC := D.acons (D.sl RTy.int false (SS.cs Z5)) Z35; let Z37 : List Task := SS.ts Z5; let Z38 : List Task := SS.us Z5; let Z39 : List (Option (Obj RC)) := [some (Obj.var 52 (.acons Z36 (D.acons (D.arr RTy.task (4 : Nat) Z37) (.acons (D.arr RTy.task (4 : Nat) Z38) (.acons (D.arr RTy.bool (4 : Nat) (SS.busy Z5)) Z19)))))]; let Z40 : Option (D RC × List (Option (Obj RC))) := some (Z22, Z34 :: Z39); let Z41 : Task := Task.mk Z0 [Frame.mk (77 : Int) (0 : Int) (regs1 Z15)] [] false; let Z42 : D RC := D.acons (D.arr RTy.bool (4 : Nat) (List.set (SS.busy Z5) Z2 true)) Z19; let Z43 : List (Option (Obj RC)) := [some (Obj.var 52 (.acons Z36 (D.acons (D.arr RTy.task (4 : Nat) (List.set Z37 Z2 Z41)) (.acons (D.arr RTy.task (4 : Nat) (List.set Z38 Z2 Z41)) Z42))))]; let Z44 : Option (D RC × List (Option (Obj RC))) := none; let Z45 : Bool := Z0 == (1 : Int); let Z46 : Int := List.getD a1 (1 : Nat) (0 : Int); let Z47 : Bool := decide ((0 : Int) ≤ Z0 ∧ Z0 ≤ (3 : Int) ∧ (0 : Int) ≤ (77 : Int) ∧ List.length [Z11, Z46, Z13] ≤ (96 : Nat)); let Z48 : Task := Task.mk Z0 [Frame.mk (77 : Int) (0 : Int) (regs1 [Z11, Z46, Z13])] [] false; let Z49 : List (Option (Obj RC)) := [some (Obj.var 52 (.acons Z36 (D.acons (D.arr RTy.task (4 : Nat) (List.set Z37 Z2 Z48)) (.acons (D.arr RTy.task (4 : Nat) (List.set Z38 Z2 Z48)) Z42))))]; let Z50 : Bool := Z0 == (2 : Int); let Z51 : Int := List.getD a2 (1 : Nat) (0 : Int); let Z52 : Bool := decide ((0 : Int) ≤ Z0 ∧ Z0 ≤ (3 : Int) ∧ (0 : Int) ≤ (77 : Int) ∧ List.length [Z11, Z51, Z13] ≤ (96 : Nat)); let Z53 : Task := Task.mk Z0 [Frame.mk (77 : Int) (0 : Int) (regs1 [Z11, Z51, Z13])] [] false; let Z54 : List (Option (Obj RC)) := [some (Obj.var 52 (.acons Z36 (D.acons (D.arr RTy.task (4 : Nat) (List.set Z37 Z2 Z53)) (.acons (D.arr RTy.task (4 : Nat) (List.set Z38 Z2 Z53)) Z42))))]; let Z55 : Bool := Z0 == (3 : Int); let Z56 : Int := List.getD a3 (1 : Nat) (0 : Int); let Z57 : Bool := decide ((0 : Int) ≤ Z0 ∧ Z0 ≤ (3 : Int) ∧ (0 : Int) ≤ (77 : Int) ∧ List.length [Z11, Z56, Z13] ≤ (96 : Nat)); let Z58 : Task := Task.mk Z0 [Frame.mk (77 : Int) (0 : Int) (regs1 [Z11, Z56, Z13])] [] false; let Z59 : List (Option (Obj RC)) := [some (Obj.var 52 (.acons Z36 (D.acons (D.arr RTy.task (4 : Nat) (List.set Z37 Z2 Z58)) (.acons (D.arr RTy.task (4 : Nat) (List.set Z38 Z2 Z58)) Z42))))]; let Z60 : Int := List.getD a0 (1 : Nat) (0 : Int); let Z61 : Bool := decide ((0 : Int) ≤ Z0 ∧ Z0 ≤ (3 : Int) ∧ (0 : Int) ≤ (77 : Int) ∧ List.length [Z11, Z60, Z13] ≤ (96 : Nat)); let Z62 : D RC := D.arr RTy.int (3 : Nat) a0; let Z63 : Option (Obj RC) := some (Obj.var 33 (.acons Z23 (D.acons Z24 (D.acons Z25 (D.acons Z26 (D.acons Z27 (D.acons (D.acons Z62 (D.acons Z28 Z32)) Z19))))))); let Z64 : Option (D RC × List (Option (Obj RC))) := some (Z22, Z63 :: Z39); let Z65 : Task := Task.mk Z0 [Frame.mk (77 : Int) (0 : Int) (regs1 [Z11, Z60, Z13])] [] false; let Z66 : List (Option (Obj RC)) := [some (Obj.var 52 (.acons Z36 (D.acons (D.arr RTy.task (4 : Nat) (List.set Z37 Z2 Z65)) (.acons (D.arr RTy.task (4 : Nat) (List.set Z38 Z2 Z65)) Z42))))]; let Z67 : Option (Obj RC) := some (Obj.var 33 (.acons Z23 (D.acons Z24 (D.acons Z25 (D.acons Z26 (D.acons Z27 (D.acons (D.acons Z62 (D.acons Z29 (D.acons Z28 Z31))) Z19))))))); let Z68 : Option (D RC × List (Option (Obj RC))) := some (Z22, Z67 :: Z39); let Z69 : Option (Obj RC) := some (Obj.var 33 (.acons Z23 (D.acons Z24 (D.acons Z25 (D.acons Z26 (D.acons Z27 (D.acons (D.acons Z62 (D.acons Z29 (D.acons Z30 (D.acons Z28 Z19)))) Z19))))))); let Z70 : Option (D RC × List (Option (Obj RC))) := some (Z22, Z69 :: Z39); let Z71 : Int := if (0 : Int) < fr then (0 : Int) else fr; let Z72 : List Int := [(0 : Int)]; let Z73 : List Int := Z11 :: (if (0 : Int) < Z71 then Z71 else (0 : Int)) :: Z72; let Z74 : Bool := decide ((0 : Int) ≤ Z0 ∧ Z0 ≤ (3 : Int) ∧ (0 : Int) ≤ (77 : Int) ∧ List.length Z73 ≤ (96 : Nat)); let Z75 : D RC := D.arr RTy.int (3 : Nat) Z73; let Z76 : D RC := D.acons (D.acons Z75 Z33) Z19; let Z77 : Option (Obj RC) := some (Obj.var 33 (.acons Z23 (D.acons Z24 (D.acons Z25 (D.acons Z26 (D.acons Z27 Z76)))))); let Z78 : Option (D RC × List (Option (Obj RC))) := some (Z22, Z77 :: Z39); let Z79 : Task := Task.mk Z0 [Frame.mk (77 : Int) (0 : Int) (regs1 Z73)] [] false; let Z80 : List (Option (Obj RC)) := [some (Obj.var 52 (.acons Z36 (D.acons (D.arr RTy.task (4 : Nat) (List.set Z37 Z2 Z79)) (.acons (D.arr RTy.task (4 : Nat) (List.set Z38 Z2 Z79)) Z42))))]; let Z81 : Bool := decide ((0 : Int) ≤ Z0 ∧ Z0 ≤ (3 : Int) ∧ (0 : Int) ≤ (77 : Int) ∧ List.length (Z11 :: Z46 :: Z72) ≤ (96 : Nat)); let Z82 : Task := Task.mk Z0 [Frame.mk (77 : Int) (0 : Int) (regs1 (Z11 :: Z46 :: Z72))] [] false; let Z83 : List (Option (Obj RC)) := [some (Obj.var 52 (.acons Z36 (D.acons (D.arr RTy.task (4 : Nat) (List.set Z37 Z2 Z82)) (.acons (D.arr RTy.task (4 : Nat) (List.set Z38 Z2 Z82)) Z42))))]; let Z84 : Bool := decide ((0 : Int) ≤ Z0 ∧ Z0 ≤ (3 : Int) ∧ (0 : Int) ≤ (77 : Int) ∧ List.length (Z11 :: Z51 :: Z72) ≤ (96 : Nat)); let Z85 : Task := Task.mk Z0 [Frame.mk (77 : Int) (0 : Int) (regs1 (Z11 :: Z51 :: Z72))] [] false; let Z86 : List (Option (Obj RC)) := [some (Obj.var 52 (.acons Z36 (D.acons (D.arr RTy.task (4 : Nat) (List.set Z37 Z2 Z85)) (.acons (D.arr RTy.task (4 : Nat) (List.set Z38 Z2 Z85)) Z42))))]; let Z87 : Bool := decide ((0 : Int) ≤ Z0 ∧ Z0 ≤ (3 : Int) ∧ (0 : Int) ≤ (77 : Int) ∧ List.length (Z11 :: Z56 :: Z72) ≤ (96 : Nat)); let Z88 : Task := Task.mk Z0 [Frame.mk (77 : Int) (0 : Int) (regs1 (Z11 :: Z56 :: Z72))] [] false; let Z89 : List (Option (Obj RC)) := [some (Obj.var 52 (.acons Z36 (D.acons (D.arr RTy.task (4 : Nat) (List.set Z37 Z2 Z88)) (.acons (D.arr RTy.task (4 : Nat) (List.set Z38 Z2 Z88)) Z42))))]; let Z90 : Bool := decide ((0 : Int) ≤ Z0 ∧ Z0 ≤ (3 : Int) ∧ (0 : Int) ≤ (77 : Int) ∧ List.length (Z11 :: Z60 :: Z72) ≤ (96 : Nat)); let Z91 : D RC := D.acons (D.acons Z62 (D.acons Z75 Z32)) Z19; let Z92 : Option (Obj RC) := some (Obj.var 33 (.acons Z23 (D.acons Z24 (D.acons Z25 (D.acons Z26 (D.acons Z27 Z91)))))); let Z93 : Option (D RC × List (Option (Obj RC))) := some (Z22, Z92 :: Z39); let Z94 : Task := Task.mk Z0 [Frame.mk (77 : Int) (0 : Int) (regs1 (Z11 :: Z60 :: Z72))] [] false; let Z95 : List (Option (Obj RC)) := [some (Obj.var 52 (.acons Z36 (D.acons (D.arr RTy.task (4 : Nat) (List.set Z37 Z2 Z94)) (.acons (D.arr RTy.task (4 : Nat) (List.set Z38 Z2 Z94)) Z42))))]; let Z96 : D RC := D.acons (D.acons Z62 (D.acons Z29 (D.acons Z75 Z31))) Z19; let Z97 : Option (Obj RC) := some (Obj.var 33 (.acons Z23 (D.acons Z24 (D.acons Z25 (D.acons Z26 (D.acons Z27 Z96)))))); let Z98 : Option (D RC × List (Option (Obj RC))) := some (Z22, Z97 :: Z39); let Z99 : D RC := D.acons (D.acons Z62 (D.acons Z29 (D.acons Z30 (D.acons Z75 Z19)))) Z19; let Z100 : Option (Obj RC) := some (Obj.var 33 (.acons Z23 (D.acons Z24 (D.acons Z25 (D.acons Z26 (D.acons Z27 Z99)))))); let Z101 : Option (D RC × List (Option (Obj RC))) := some (Z22, Z100 :: Z39); let Z102 : Option (D RC × List (Option (Obj RC))) := bif Z1 then bif Z10 then bif Z10 then bif Z74 then bif Z1 then bif Z17 then Z78 else bif Z1 then bif Z1 then bif Z1 then some (Z22, Z77 :: Z80) else Z44 else Z44 else Z44 else Z44 else Z44 else bif Z45 then bif Z81 then bif Z1 then bif Z17 then Z78 else bif Z1 then bif Z1 then bif Z1 then some (Z22, Z77 :: Z83) else Z44 else Z44 else Z44 else Z44 else Z44 else bif Z50 then bif Z84 then bif Z1 then bif Z17 then Z78 else bif Z1 then bif Z1 then bif Z1 then some (Z22, Z77 :: Z86) else Z44 else Z44 else Z44 else Z44 else Z44 else bif Z55 then bif Z87 then bif Z1 then bif Z17 then Z78 else bif Z1 then bif Z1 then bif Z1 then some (Z22, Z77 :: Z89) else Z44 else Z44 else Z44 else Z44 else Z44 else Z44 else bif Z45 then bif Z10 then bif Z90 then bif Z1 then bif Z17 then Z93 else bif Z1 then bif Z1 then bif Z1 then some (Z22, Z92 :: Z95) else Z44 else Z44 else Z44 else Z44 else Z44 else bif Z45 then bif Z74 then bif Z1 then bif Z17 then Z93 else bif Z1 then bif Z1 then bif Z1 then some (Z22, Z92 :: Z80) else Z44 else Z44 else Z44 else Z44 else Z44 else bif Z50 then bif Z84 then bif Z1 then bif Z17 then Z93 else bif Z1 then bif Z1 then bif Z1 then some (Z22, Z92 :: Z86) else Z44 else Z44 else Z44 else Z44 else Z44 else bif Z55 then bif Z87 then bif Z1 then bif Z17 then Z93 else bif Z1 then bif Z1 then bif Z1 then some (Z22, Z92 :: Z89) else Z44 else Z44 else Z44 else Z44 else Z44 else Z44 else bif Z50 then bif Z10 then bif Z90 then bif Z1 then bif Z17 then Z98 else bif Z1 then bif Z1 then bif Z1 then some (Z22, Z97 :: Z95) else Z44 else Z44 else Z44 else Z44 else Z44 else bif Z45 then bif Z81 then bif Z1 then bif Z17 then Z98 else bif Z1 then bif Z1 then bif Z1 then some (Z22, Z97 :: Z83) else Z44 else Z44 else Z44 else Z44 else Z44 else bif Z50 then bif Z74 then bif Z1 then bif Z17 then Z98 else bif Z1 then bif Z1 then bif Z1 then some (Z22, Z97 :: Z80) else Z44 else Z44 else Z44 else Z44 else Z44 else bif Z55 then bif Z87 then bif Z1 then bif Z17 then Z98 else bif Z1 then bif Z1 then bif Z1 then some (Z22, Z97 :: Z89) else Z44 else Z44 else Z44 else Z44 else Z44 else Z44 else bif Z55 then bif Z10 then bif Z90 then bif Z1 then bif Z17 then Z101 else bif Z1 then bif Z1 then bif Z1 then some (Z22, Z100 :: Z95) else Z44 else Z44 else Z44 else Z44 else Z44 else bif Z45 then bif Z81 then bif Z1 then bif Z17 then Z101 else bif Z1 then bif Z1 then bif Z1 then some (Z22, Z100 :: Z83) else Z44 else Z44 else Z44 else Z44 else Z44 else bif Z50 then bif Z84 then bif Z1 then bif Z17 then Z101 else bif Z1 then bif Z1 then bif Z1 then some (Z22, Z100 :: Z86) else Z44 else Z44 else Z44 else Z44 else Z44 else bif Z55 then bif Z74 then bif Z1 then bif Z17 then Z101 else bif Z1 then bif Z1 then bif Z1 then some (Z22, Z100 :: Z80) else Z44 else Z44 else Z44 else Z44 else Z44 else Z44 else Z44 else Z44; let Z103 : D RC := D.acons (D.acons Z62 Z33) Z19; let Z104 : Int := List.getD cs (0 : Nat) (0 : Int); let Z105 : Int := IntKind.wrap .i64 (Z104 - (1 : Int)); let Z106 : Int := Rec.place (List.getD L Z105.toNat Z12); let Z107 : Int := if Z106 < fr then Z106 else fr; let Z108 : List Int := [Z11, if (0 : Int) < Z107 then Z107 else (0 : Int), Z106]; let Z109 : Bool := decide ((0 : Int) ≤ Z0 ∧ Z0 ≤ (3 : Int) ∧ (0 : Int) ≤ (77 : Int) ∧ List.length Z108 ≤ (96 : Nat)); let Z110 : D RC := D.arr RTy.int (4 : Nat) at'; let Z111 : D RC := D.arr RTy.int (4 : Nat) jj; let Z112 : D RC := D.arr RTy.int (4 : Nat) (List.set kd Z2 (2 : Int)); let Z113 : D RC := D.arr RTy.int (3 : Nat) Z108; let Z114 : Option (Obj RC) := some (Obj.var 33 (.acons Z23 (D.acons Z24 (D.acons Z110 (D.acons Z111 (D.acons Z112 (D.acons (D.acons Z113 Z33) Z19))))))); let Z115 : D RC := D.acons (D.sl RTy.int false cs) Z35; let Z116 : List (Option (Obj RC)) := [some (Obj.var 52 (.acons Z115 (D.acons (D.arr RTy.task (4 : Nat) ts) (.acons (D.arr RTy.task (4 : Nat) us) (.acons (D.arr RTy.bool (4 : Nat) busy) Z19)))))]; let Z117 : Option (D RC × List (Option (Obj RC))) := some (Z22, Z114 :: Z116); let Z118 : Task := Task.mk Z0 [Frame.mk (77 : Int) (0 : Int) (regs1 Z108)] [] false; let Z119 : D RC := D.acons (D.arr RTy.bool (4 : Nat) (List.set busy Z2 true)) Z19; let Z120 : List (Option (Obj RC)) := [some (Obj.var 52 (.acons Z115 (D.acons (D.arr RTy.task (4 : Nat) (List.set ts Z2 Z118)) (.acons (D.arr RTy.task (4 : Nat) (List.set us Z2 Z118)) Z119))))]; let Z121 : Bool := decide ((0 : Int) ≤ Z0 ∧ Z0 ≤ (3 : Int) ∧ (0 : Int) ≤ (77 : Int) ∧ List.length [Z11, Z46, Z106] ≤ (96 : Nat)); let Z122 : Task := Task.mk Z0 [Frame.mk (77 : Int) (0 : Int) (regs1 [Z11, Z46, Z106])] [] false; let Z123 : List (Option (Obj RC)) := [some (Obj.var 52 (.acons Z115 (D.acons (D.arr RTy.task (4 : Nat) (List.set ts Z2 Z122)) (.acons (D.arr RTy.task (4 : Nat) (List.set us Z2 Z122)) Z119))))]; let Z124 : Bool := decide ((0 : Int) ≤ Z0 ∧ Z0 ≤ (3 : Int) ∧ (0 : Int) ≤ (77 : Int) ∧ List.length [Z11, Z51, Z106] ≤ (96 : Nat)); let Z125 : Task := Task.mk Z0 [Frame.mk (77 : Int) (0 : Int) (regs1 [Z11, Z51, Z106])] [] false; let Z126 : List (Option (Obj RC)) := [some (Obj.var 52 (.acons Z115 (D.acons (D.arr RTy.task (4 : Nat) (List.set ts Z2 Z125)) (.acons (D.arr RTy.task (4 : Nat) (List.set us Z2 Z125)) Z119))))]; let Z127 : Bool := decide ((0 : Int) ≤ Z0 ∧ Z0 ≤ (3 : Int) ∧ (0 : Int) ≤ (77 : Int) ∧ List.length [Z11, Z56, Z106] ≤ (96 : Nat)); let Z128 : Task := Task.mk Z0 [Frame.mk (77 : Int) (0 : Int) (regs1 [Z11, Z56, Z106])] [] false; let Z129 : List (Option (Obj RC)) := [some (Obj.var 52 (.acons Z115 (D.acons (D.arr RTy.task (4 : Nat) (List.set ts Z2 Z128)) (.acons (D.arr RTy.task (4 : Nat) (List.set us Z2 Z128)) Z119))))]; let Z130 : Bool := decide ((0 : Int) ≤ Z0 ∧ Z0 ≤ (3 : Int) ∧ (0 : Int) ≤ (77 : Int) ∧ List.length [Z11, Z60, Z106] ≤ (96 : Nat)); let Z131 : Option (Obj RC) := some (Obj.var 33 (.acons Z23 (D.acons Z24 (D.acons Z110 (D.acons Z111 (D.acons Z112 (D.acons (D.acons Z62 (D.acons Z113 Z32)) Z19))))))); let Z132 : Option (D RC × List (Option (Obj RC))) := some (Z22, Z131 :: Z116); let Z133 : Task := Task.mk Z0 [Frame.mk (77 : Int) (0 : Int) (regs1 [Z11, Z60, Z106])] [] false; let Z134 : List (Option (Obj RC)) := [some (Obj.var 52 (.acons Z115 (D.acons (D.arr RTy.task (4 : Nat) (List.set ts Z2 Z133)) (.acons (D.arr RTy.task (4 : Nat) (List.set us Z2 Z133)) Z119))))]; let Z135 : Option (Obj RC) := some (Obj.var 33 (.acons Z23 (D.acons Z24 (D.acons Z110 (D.acons Z111 (D.acons Z112 (D.acons (D.acons Z62 (D.acons Z29 (D.acons Z113 Z31))) Z19))))))); let Z136 : Option (D RC × List (Option (Obj RC))) := some (Z22, Z135 :: Z116); let Z137 : Option (Obj RC) := some (Obj.var 33 (.acons Z23 (D.acons Z24 (D.acons Z110 (D.acons Z111 (D.acons Z112 (D.acons (D.acons Z62 (D.acons Z29 (D.acons Z30 (D.acons Z113 Z19)))) Z19))))))); let Z138 : Option (D RC × List (Option (Obj RC))) := some (Z22, Z137 :: Z116); let Z139 : Option (Obj RC) := some (Obj.var 33 (.acons Z23 (D.acons Z24 (D.acons Z110 (D.acons Z111 (D.acons Z112 Z76)))))); let Z140 : Option (D RC × List (Option (Obj RC))) := some (Z22, Z139 :: Z116); let Z141 : List (Option (Obj RC)) := [some (Obj.var 52 (.acons Z115 (D.acons (D.arr RTy.task (4 : Nat) (List.set ts Z2 Z79)) (.acons (D.arr RTy.task (4 : Nat) (List.set us Z2 Z79)) Z119))))]; let Z142 : List (Option (Obj RC)) := [some (Obj.var 52 (.acons Z115 (D.acons (D.arr RTy.task (4 : Nat) (List.set ts Z2 Z82)) (.acons (D.arr RTy.task (4 : Nat) (List.set us Z2 Z82)) Z119))))]; let Z143 : List (Option (Obj RC)) := [some (Obj.var 52 (.acons Z115 (D.acons (D.arr RTy.task (4 : Nat) (List.set ts Z2 Z85)) (.acons (D.arr RTy.task (4 : Nat) (List.set us Z2 Z85)) Z119))))]; let Z144 : List (Option (Obj RC)) := [some (Obj.var 52 (.acons Z115 (D.acons (D.arr RTy.task (4 : Nat) (List.set ts Z2 Z88)) (.acons (D.arr RTy.task (4 : Nat) (List.set us Z2 Z88)) Z119))))]; let Z145 : Option (Obj RC) := some (Obj.var 33 (.acons Z23 (D.acons Z24 (D.acons Z110 (D.acons Z111 (D.acons Z112 Z91)))))); let Z146 : Option (D RC × List (Option (Obj RC))) := some (Z22, Z145 :: Z116); let Z147 : List (Option (Obj RC)) := [some (Obj.var 52 (.acons Z115 (D.acons (D.arr RTy.task (4 : Nat) (List.set ts Z2 Z94)) (.acons (D.arr RTy.task (4 : Nat) (List.set us Z2 Z94)) Z119))))]; let Z148 : Option (Obj RC) := some (Obj.var 33 (.acons Z23 (D.acons Z24 (D.acons Z110 (D.acons Z111 (D.acons Z112 Z96)))))); let Z149 : Option (D RC × List (Option (Obj RC))) := some (Z22, Z148 :: Z116); let Z150 : Option (Obj RC) := some (Obj.var 33 (.acons Z23 (D.acons Z24 (D.acons Z110 (D.acons Z111 (D.acons Z112 Z99)))))); let Z151 : Option (D RC × List (Option (Obj RC))) := some (Z22, Z150 :: Z116); let Z152 : Option (D RC × List (Option (Obj RC))) := bif Z1 then bif Z10 then bif Z10 then bif Z74 then bif Z1 then bif Z3 then Z140 else bif Z1 then bif Z1 then bif Z1 then some (Z22, Z139 :: Z141) else Z44 else Z44 else Z44 else Z44 else Z44 else bif Z45 then bif Z81 then bif Z1 then bif Z3 then Z140 else bif Z1 then bif Z1 then bif Z1 then some (Z22, Z139 :: Z142) else Z44 else Z44 else Z44 else Z44 else Z44 else bif Z50 then bif Z84 then bif Z1 then bif Z3 then Z140 else bif Z1 then bif Z1 then bif Z1 then some (Z22, Z139 :: Z143) else Z44 else Z44 else Z44 else Z44 else Z44 else bif Z55 then bif Z87 then bif Z1 then bif Z3 then Z140 else bif Z1 then bif Z1 then bif Z1 then some (Z22, Z139 :: Z144) else Z44 else Z44 else Z44 else Z44 else Z44 else Z44 else bif Z45 then bif Z10 then bif Z90 then bif Z1 then bif Z3 then Z146 else bif Z1 then bif Z1 then bif Z1 then some (Z22, Z145 :: Z147) else Z44 else Z44 else Z44 else Z44 else Z44 else bif Z45 then bif Z74 then bif Z1 then bif Z3 then Z146 else bif Z1 then bif Z1 then bif Z1 then some (Z22, Z145 :: Z141) else Z44 else Z44 else Z44 else Z44 else Z44 else bif Z50 then bif Z84 then bif Z1 then bif Z3 then Z146 else bif Z1 then bif Z1 then bif Z1 then some (Z22, Z145 :: Z143) else Z44 else Z44 else Z44 else Z44 else Z44 else bif Z55 then bif Z87 then bif Z1 then bif Z3 then Z146 else bif Z1 then bif Z1 then bif Z1 then some (Z22, Z145 :: Z144) else Z44 else Z44 else Z44 else Z44 else Z44 else Z44 else bif Z50 then bif Z10 then bif Z90 then bif Z1 then bif Z3 then Z149 else bif Z1 then bif Z1 then bif Z1 then some (Z22, Z148 :: Z147) else Z44 else Z44 else Z44 else Z44 else Z44 else bif Z45 then bif Z81 then bif Z1 then bif Z3 then Z149 else bif Z1 then bif Z1 then bif Z1 then some (Z22, Z148 :: Z142) else Z44 else Z44 else Z44 else Z44 else Z44 else bif Z50 then bif Z74 then bif Z1 then bif Z3 then Z149 else bif Z1 then bif Z1 then bif Z1 then some (Z22, Z148 :: Z141) else Z44 else Z44 else Z44 else Z44 else Z44 else bif Z55 then bif Z87 then bif Z1 then bif Z3 then Z149 else bif Z1 then bif Z1 then bif Z1 then some (Z22, Z148 :: Z144) else Z44 else Z44 else Z44 else Z44 else Z44 else Z44 else bif Z55 then bif Z10 then bif Z90 then bif Z1 then bif Z3 then Z151 else bif Z1 then bif Z1 then bif Z1 then some (Z22, Z150 :: Z147) else Z44 else Z44 else Z44 else Z44 else Z44 else bif Z45 then bif Z81 then bif Z1 then bif Z3 then Z151 else bif Z1 then bif Z1 then bif Z1 then some (Z22, Z150 :: Z142) else Z44 else Z44 else Z44 else Z44 else Z44 else bif Z50 then bif Z84 then bif Z1 then bif Z3 then Z151 else bif Z1 then bif Z1 then bif Z1 then some (Z22, Z150 :: Z143) else Z44 else Z44 else Z44 else Z44 else Z44 else bif Z55 then bif Z74 then bif Z1 then bif Z3 then Z151 else bif Z1 then bif Z1 then bif Z1 then some (Z22, Z150 :: Z141) else Z44 else Z44 else Z44 else Z44 else Z44 else Z44 else Z44 else Z44; let Z153 : D RC := D.acons (D.arr RTy.int (4 : Nat) kd) Z103; let Z154 : Option (Obj RC) := some (Obj.var 33 (.acons Z23 (D.acons Z24 (D.acons Z110 (D.acons Z111 Z153))))); let Z155 : Task := gmT nStr false (gmX nStr cs (tkC ts Z0)) (tkC ts Z0); let Z156 : GoM := goT nStr false Z155; let Z157 : Bool := GoM.is Z156; let Z158 : D RC := D.sl RTy.int (bif Z157 then true else GoM.gf Z156) (bif Z157 then [] else GoM.got Z156); let Z159 : D RC := D.tup (D.acons Z18 (D.acons Z158 (D.acons (D.bool (List.getD kd Z2 (0 : Int) == (2 : Int))) Z20))); let Z160 : List (Option (Obj RC)) := [some (Obj.var 52 (.acons (D.acons (D.sl RTy.int false (gmCs nStr cs (tkC ts Z0))) Z35) (.acons (D.arr RTy.task (4 : Nat) (List.set ts Z2 Z155)) (.acons (D.arr RTy.task (4 : Nat) (List.set us Z2 (gmT nStr true (gmX nStr cs (tkC ts Z0)) (tkC us Z0)))) (.acons (D.arr RTy.bool (4 : Nat) (bif Z157 then busy else List.set busy Z2 false)) Z19)))))]; let Z161 : List (Option (Obj RC)) := some (Obj.var 33 (.acons Z23 (D.acons Z24 (D.acons Z110 (D.acons (D.arr RTy.int (4 : Nat) (List.set jj Z2 (IntKind.wrap .i64 (List.getD jj Z2 (0 : Int) + (1 : Int))))) Z153))))) :: Z160; let Z162 : D RC := D.tup (D.acons Z18 (D.acons Z158 Z21)); let Z163 : Option (D RC × List (Option (Obj RC))) := bif !Z157 then bif Z1 then some (Z159, Z154 :: Z160) else Z44 else some (Z162, Z154 :: Z160); bif Z1 then bif !Z3 then bif dd == (0 : Int) then bif cdec ((0 : Int) ≤ Z0 ∧ Z0 ≤ (3 : Int) ∧ mayS L = true ∧ Z3 = false ∧ ∃ (n : Int), (0 : Int) ≤ n ∧ n ≤ (800000 : Int) ∧ SI L n Z4) then bif dd == (1 : Int) then bif decide ((0 : Int) ≤ (0 : Int) ∧ (0 : Int) < (↑(SS.cs Z5).length : Int)) then bif decide ((0 : Int) < Z6) then bif Z7 then bif decide (Z6 ≤ Z8) then bif decide ((0 : Int) ≤ Z9 ∧ Z9 < Z8) then bif Z1 then bif Z10 then bif Z10 then bif Z16 then bif Z1 then bif Z17 then Z40 else bif Z1 then bif Z1 then bif Z1 then some (Z22, Z34 :: Z43) else Z44 else Z44 else Z44 else Z44 else Z44 else bif Z45 then bif Z47 then bif Z1 then bif Z17 then Z40 else bif Z1 then bif Z1 then bif Z1 then some (Z22, Z34 :: Z49) else Z44 else Z44 else Z44 else Z44 else Z44 else bif Z50 then bif Z52 then bif Z1 then bif Z17 then Z40 else bif Z1 then bif Z1 then bif Z1 then some (Z22, Z34 :: Z54) else Z44 else Z44 else Z44 else Z44 else Z44 else bif Z55 then bif Z57 then bif Z1 then bif Z17 then Z40 else bif Z1 then bif Z1 then bif Z1 then some (Z22, Z34 :: Z59) else Z44 else Z44 else Z44 else Z44 else Z44 else Z44 else bif Z45 then bif Z10 then bif Z61 then bif Z1 then bif Z17 then Z64 else bif Z1 then bif Z1 then bif Z1 then some (Z22, Z63 :: Z66) else Z44 else Z44 else Z44 else Z44 else Z44 else bif Z45 then bif Z16 then bif Z1 then bif Z17 then Z64 else bif Z1 then bif Z1 then bif Z1 then some (Z22, Z63 :: Z43) else Z44 else Z44 else Z44 else Z44 else Z44 else bif Z50 then bif Z52 then bif Z1 then bif Z17 then Z64 else bif Z1 then bif Z1 then bif Z1 then some (Z22, Z63 :: Z54) else Z44 else Z44 else Z44 else Z44 else Z44 else bif Z55 then bif Z57 then bif Z1 then bif Z17 then Z64 else bif Z1 then bif Z1 then bif Z1 then some (Z22, Z63 :: Z59) else Z44 else Z44 else Z44 else Z44 else Z44 else Z44 else bif Z50 then bif Z10 then bif Z61 then bif Z1 then bif Z17 then Z68 else bif Z1 then bif Z1 then bif Z1 then some (Z22, Z67 :: Z66) else Z44 else Z44 else Z44 else Z44 else Z44 else bif Z45 then bif Z47 then bif Z1 then bif Z17 then Z68 else bif Z1 then bif Z1 then bif Z1 then some (Z22, Z67 :: Z49) else Z44 else Z44 else Z44 else Z44 else Z44 else bif Z50 then bif Z16 then bif Z1 then bif Z17 then Z68 else bif Z1 then bif Z1 then bif Z1 then some (Z22, Z67 :: Z43) else Z44 else Z44 else Z44 else Z44 else Z44 else bif Z55 then bif Z57 then bif Z1 then bif Z17 then Z68 else bif Z1 then bif Z1 then bif Z1 then some (Z22, Z67 :: Z59) else Z44 else Z44 else Z44 else Z44 else Z44 else Z44 else bif Z55 then bif Z10 then bif Z61 then bif Z1 then bif Z17 then Z70 else bif Z1 then bif Z1 then bif Z1 then some (Z22, Z69 :: Z66) else Z44 else Z44 else Z44 else Z44 else Z44 else bif Z45 then bif Z47 then bif Z1 then bif Z17 then Z70 else bif Z1 then bif Z1 then bif Z1 then some (Z22, Z69 :: Z49) else Z44 else Z44 else Z44 else Z44 else Z44 else bif Z50 then bif Z52 then bif Z1 then bif Z17 then Z70 else bif Z1 then bif Z1 then bif Z1 then some (Z22, Z69 :: Z54) else Z44 else Z44 else Z44 else Z44 else Z44 else bif Z55 then bif Z16 then bif Z1 then bif Z17 then Z70 else bif Z1 then bif Z1 then bif Z1 then some (Z22, Z69 :: Z43) else Z44 else Z44 else Z44 else Z44 else Z44 else Z44 else Z44 else Z44 else Z44 else Z102 else Z44 else Z102 else Z44 else some (Z22, some (Obj.var 33 (.acons Z23 (D.acons Z24 (D.acons Z25 (D.acons Z26 (D.acons (D.arr RTy.int (4 : Nat) (SS.kind Z5)) Z103)))))) :: Z39) else Z44 else bif dd == (1 : Int) then bif decide ((0 : Int) ≤ (0 : Int) ∧ (0 : Int) < (↑cs.length : Int)) then bif decide ((0 : Int) < Z104) then bif Z7 then bif decide (Z104 ≤ Z8) then bif decide ((0 : Int) ≤ Z105 ∧ Z105 < Z8) then bif Z1 then bif Z10 then bif Z10 then bif Z109 then bif Z1 then bif Z3 then Z117 else bif Z1 then bif Z1 then bif Z1 then some (Z22, Z114 :: Z120) else Z44 else Z44 else Z44 else Z44 else Z44 else bif Z45 then bif Z121 then bif Z1 then bif Z3 then Z117 else bif Z1 then bif Z1 then bif Z1 then some (Z22, Z114 :: Z123) else Z44 else Z44 else Z44 else Z44 else Z44 else bif Z50 then bif Z124 then bif Z1 then bif Z3 then Z117 else bif Z1 then bif Z1 then bif Z1 then some (Z22, Z114 :: Z126) else Z44 else Z44 else Z44 else Z44 else Z44 else bif Z55 then bif Z127 then bif Z1 then bif Z3 then Z117 else bif Z1 then bif Z1 then bif Z1 then some (Z22, Z114 :: Z129) else Z44 else Z44 else Z44 else Z44 else Z44 else Z44 else bif Z45 then bif Z10 then bif Z130 then bif Z1 then bif Z3 then Z132 else bif Z1 then bif Z1 then bif Z1 then some (Z22, Z131 :: Z134) else Z44 else Z44 else Z44 else Z44 else Z44 else bif Z45 then bif Z109 then bif Z1 then bif Z3 then Z132 else bif Z1 then bif Z1 then bif Z1 then some (Z22, Z131 :: Z120) else Z44 else Z44 else Z44 else Z44 else Z44 else bif Z50 then bif Z124 then bif Z1 then bif Z3 then Z132 else bif Z1 then bif Z1 then bif Z1 then some (Z22, Z131 :: Z126) else Z44 else Z44 else Z44 else Z44 else Z44 else bif Z55 then bif Z127 then bif Z1 then bif Z3 then Z132 else bif Z1 then bif Z1 then bif Z1 then some (Z22, Z131 :: Z129) else Z44 else Z44 else Z44 else Z44 else Z44 else Z44 else bif Z50 then bif Z10 then bif Z130 then bif Z1 then bif Z3 then Z136 else bif Z1 then bif Z1 then bif Z1 then some (Z22, Z135 :: Z134) else Z44 else Z44 else Z44 else Z44 else Z44 else bif Z45 then bif Z121 then bif Z1 then bif Z3 then Z136 else bif Z1 then bif Z1 then bif Z1 then some (Z22, Z135 :: Z123) else Z44 else Z44 else Z44 else Z44 else Z44 else bif Z50 then bif Z109 then bif Z1 then bif Z3 then Z136 else bif Z1 then bif Z1 then bif Z1 then some (Z22, Z135 :: Z120) else Z44 else Z44 else Z44 else Z44 else Z44 else bif Z55 then bif Z127 then bif Z1 then bif Z3 then Z136 else bif Z1 then bif Z1 then bif Z1 then some (Z22, Z135 :: Z129) else Z44 else Z44 else Z44 else Z44 else Z44 else Z44 else bif Z55 then bif Z10 then bif Z130 then bif Z1 then bif Z3 then Z138 else bif Z1 then bif Z1 then bif Z1 then some (Z22, Z137 :: Z134) else Z44 else Z44 else Z44 else Z44 else Z44 else bif Z45 then bif Z121 then bif Z1 then bif Z3 then Z138 else bif Z1 then bif Z1 then bif Z1 then some (Z22, Z137 :: Z123) else Z44 else Z44 else Z44 else Z44 else Z44 else bif Z50 then bif Z124 then bif Z1 then bif Z3 then Z138 else bif Z1 then bif Z1 then bif Z1 then some (Z22, Z137 :: Z126) else Z44 else Z44 else Z44 else Z44 else Z44 else bif Z55 then bif Z109 then bif Z1 then bif Z3 then Z138 else bif Z1 then bif Z1 then bif Z1 then some (Z22, Z137 :: Z120) else Z44 else Z44 else Z44 else Z44 else Z44 else Z44 else Z44 else Z44 else Z44 else Z152 else Z44 else Z152 else Z44 else some (Z22, Z154 :: Z116) else bif cdec ((0 : Int) ≤ Z0 ∧ Z0 ≤ (3 : Int) ∧ List.length ts = (4 : Nat) ∧ List.length us = (4 : Nat) ∧ OkStepG nStr okStr Z0 cs (tkC ts Z0) (tkC us Z0) now sure) then bif !Z157 then bif Z1 then bif List.getD kd Z2 (0 : Int) == (1 : Int) then bif Z1 then bif Z1 then bif !Z157 then bif Z1 then some (Z159, Z161) else Z44 else some (Z162, Z161) else Z44 else Z44 else Z163 else Z44 else Z163 else Z44 else Z44) := by kernel_rfl
noncomputable def pick19_fin (x : Int) (dd : Int) (part : Int) (fr : Int) (now : List Sector) (sure : List Sector) (cs : List Int) (ts : List Task) (us : List Task) (busy : List Bool) (lf : Bool) (L : List Rec) (at' : List Int) (jj : List Int) (kd : List Int) (a0 : List Int) (a1 : List Int) (a2 : List Int) (a3 : List Int) : RT RC := .leaf .ret [(0, .tup (.acons (.int .i64 (x % 4)) (.acons (.sl (C := RC) .int (pkFl ⟨cs, ts, us, busy, at', jj, kd, a0, a1, a2, a3⟩ (x % 4)) (pkAn ⟨cs, ts, us, busy, at', jj, kd, a0, a1, a2, a3⟩ (x % 4))) (.acons (.bool (pkFe ⟨cs, ts, us, busy, at', jj, kd, a0, a1, a2, a3⟩ (x % 4))) (.acons (.bool true) .anil)))))] (pick19_o x dd part fr now sure (pickZ L ⟨cs, ts, us, busy, at', jj, kd, a0, a1, a2, a3⟩ x dd part fr).cs (pickZ L ⟨cs, ts, us, busy, at', jj, kd, a0, a1, a2, a3⟩ x dd part fr).ts (pickZ L ⟨cs, ts, us, busy, at', jj, kd, a0, a1, a2, a3⟩ x dd part fr).us (pickZ L ⟨cs, ts, us, busy, at', jj, kd, a0, a1, a2, a3⟩ x dd part fr).busy lf L (pickZ L ⟨cs, ts, us, busy, at', jj, kd, a0, a1, a2, a3⟩ x dd part fr).at' (pickZ L ⟨cs, ts, us, busy, at', jj, kd, a0, a1, a2, a3⟩ x dd part fr).jj (pickZ L ⟨cs, ts, us, busy, at', jj, kd, a0, a1, a2, a3⟩ x dd part fr).kind (pickZ L ⟨cs, ts, us, busy, at', jj, kd, a0, a1, a2, a3⟩ x dd part fr).a0 (pickZ L ⟨cs, ts, us, busy, at', jj, kd, a0, a1, a2, a3⟩ x dd part fr).a1 (pickZ L ⟨cs, ts, us, busy, at', jj, kd, a0, a1, a2, a3⟩ x dd part fr).a2 (pickZ L ⟨cs, ts, us, busy, at', jj, kd, a0, a1, a2, a3⟩ x dd part fr).a3)
def pick19_Inv (x : Int) (dd : Int) (part : Int) (fr : Int) (now : List Sector) (sure : List Sector) (cs : List Int) (ts : List Task) (us : List Task) (busy : List Bool) (lf : Bool) (L : List Rec) (at' : List Int) (jj : List Int) (kd : List Int) (a0 : List Int) (a1 : List Int) (a2 : List Int) (a3 : List Int) : Prop := mayS L = true ∧ (diskOK now sure = true ∧ goodL now = true ∧ goodL sure = true) ∧ ∃ n, 0 ≤ n ∧ n ≤ 800000 ∧ SI L n ⟨cs, ts, us, busy, at', jj, kd, a0, a1, a2, a3⟩
noncomputable def pick19_S : FunR RC pick19_St where
  k := 2
  args q := pick19_a q.x q.dd q.part q.fr q.now q.sure q.cs q.ts q.us q.busy q.lf q.L q.at' q.jj q.kd q.a0 q.a1 q.a2 q.a3
  objs q := pick19_o q.x q.dd q.part q.fr q.now q.sure q.cs q.ts q.us q.busy q.lf q.L q.at' q.jj q.kd q.a0 q.a1 q.a2 q.a3
  fin q := pick19_fin q.x q.dd q.part q.fr q.now q.sure q.cs q.ts q.us q.busy q.lf q.L q.at' q.jj q.kd q.a0 q.a1 q.a2 q.a3
  Inv q := pick19_Inv q.x q.dd q.part q.fr q.now q.sure q.cs q.ts q.us q.busy q.lf q.L q.at' q.jj q.kd q.a0 q.a1 q.a2 q.a3
theorem pick19_leaf {x dd part fr : Int} {now sure : List Sector} {cs : List Int} {ts us : List Task} {busy : List Bool} {lf : Bool} {L : List Rec} {at' jj kd a0 a1 a2 a3 : List Int} {os : List (Option (Obj RC))} (c : Int) (hx : x % 4 = c) (H : SS) (a : List Int) (b f : Bool) (hG : pickZ L ⟨cs, ts, us, busy, at', jj, kd, a0, a1, a2, a3⟩ x dd part fr = H)
    (hA : pkAn ⟨cs, ts, us, busy, at', jj, kd, a0, a1, a2, a3⟩ c = a) (hB : pkFl ⟨cs, ts, us, busy, at', jj, kd, a0, a1, a2, a3⟩ c = b) (hE : pkFe ⟨cs, ts, us, busy, at', jj, kd, a0, a1, a2, a3⟩ c = f)
    (hos : os = (pick19_o x dd part fr now sure H.cs H.ts H.us H.busy lf L H.at' H.jj H.kind H.a0 H.a1 H.a2 H.a3).map some) :
    Leaf (some (D.tup (.acons (.int .i64 c) (.acons (.sl (C := RC) .int b a) (.acons (.bool f) (.acons (.bool true) .anil)))), os)) (LedF pick19_S ⟨x, dd, part, fr, now, sure, cs, ts, us, busy, lf, L, at', jj, kd, a0, a1, a2, a3⟩) := by
  subst hx
  exact leafF (S := pick19_S) (s := ⟨x, dd, part, fr, now, sure, cs, ts, us, busy, lf, L, at', jj, kd, a0, a1, a2, a3⟩) _ (by show (pick19_fin x dd part fr now sure cs ts us busy lf L at' jj kd a0 a1 a2 a3).val = _; unfold pick19_fin; rw [hG, hA, hB, hE]; rfl) hos
theorem leafT {α : Type} {c : Bool} {x y : Option α} {P : α → Prop} (h : c = true) (hx : Leaf x P) : Leaf (cond c x y) P := by rw [h]; exact hx
theorem mod3 (x : Int) : Int.tmod (IntKind.i64.wrap (Int.tmod x 3 + 3)) 3 = x % 3 := by
  have h1 : -3 < Int.tmod x 3 := Int.lt_tmod_of_pos _ (by decide)
  have h2 : Int.tmod x 3 < 3 := Int.tmod_lt_of_pos _ (by decide)
  rw [wrap_id (by omega) (by omega), Int.tmod_eq_emod_of_nonneg (by omega)]
  have h3 : x = 3 * (x.tdiv 3) + x.tmod 3 := (Int.mul_tdiv_add_tmod x 3).symm
  omega
theorem eMM (fr to : Int) : (if 0 < (if to < fr then to else fr) then (if to < fr then to else fr) else 0) = max 0 (min fr to) := by
  by_cases h : to < fr
  · rw [if_pos h]
    by_cases h2 : 0 < to
    · rw [if_pos h2]; omega
    · rw [if_neg h2]; omega
  · rw [if_neg h]
    by_cases h2 : 0 < fr
    · rw [if_pos h2]; omega
    · rw [if_neg h2]; omega
theorem helpsS_a (L : List Rec) (s : SS) (c : Int) : (helpsS L s c).a0 = s.a0 ∧ (helpsS L s c).a1 = s.a1 ∧ (helpsS L s c).a2 = s.a2 ∧ (helpsS L s c).a3 = s.a3 := by
  have h : ∀ s, (atS s c).a0 = s.a0 ∧ (atS s c).a1 = s.a1 ∧ (atS s c).a2 = s.a2 ∧ (atS s c).a3 = s.a3 := fun s => by
    unfold atS; split <;> exact ⟨rfl, rfl, rfl, rfl⟩
  have h := h s
  unfold helpsS
  split
  · exact ⟨rfl, rfl, rfl, rfl⟩
  · dsimp only
    split
    · exact h
    · exact h
theorem leafN {α : Type} {c : Bool} {x y : Option α} {P : α → Prop} (h : c = false) (hx : Leaf y P) : Leaf (cond c x y) P := by rw [h]; exact hx
theorem pick19_ok (x : Int) (dd : Int) (part : Int) (fr : Int) (now : List Sector) (sure : List Sector) (cs : List Int) (ts : List Task) (us : List Task) (busy : List Bool) (lf : Bool) (L : List Rec) (at' : List Int) (jj : List Int) (kd : List Int) (a0 : List Int) (a1 : List Int) (a2 : List Int) (a3 : List Int) (hI : pick19_Inv x dd part fr now sure cs ts us busy lf L at' jj kd a0 a1 a2 a3) : Leaf (pick19_r x dd part fr now sure cs ts us busy lf L at' jj kd a0 a1 a2 a3) (LedF pick19_S ⟨x, dd, part, fr, now, sure, cs, ts, us, busy, lf, L, at', jj, kd, a0, a1, a2, a3⟩) := by
  (rw [pick19_eq]; conv => zeta)
  unfold pick19_Inv at hI
  obtain ⟨hL, ⟨d1, d2, d3⟩, n, n0, n1, hI⟩ := hI
  have hc1 : 0 ≤ x % 4 := Int.emod_nonneg _ (by decide)
  have hc2 : x % 4 < 4 := Int.emod_lt_of_pos _ (by decide)
  have hl : cs.length = 771 := hI.sc.len
  have hf : 0 ≤ cs.getD 0 0 ∧ cs.getD 0 0 ≤ (L.length : Int) := hI.fr
  have hL60 : L.length ≤ 60 := by
    unfold mayS at hL; rw [Bool.and_eq_true, decide_eq_true_eq] at hL; exact hL.1
  have z0 : decide ((0 : Int) ≤ 0 ∧ (0 : Int) < (cs.length : Int)) = true := decide_eq_true ⟨by decide, by omega⟩
  simp only [mod4]
  generalize hx : x % 4 = c at hc1 hc2 ⊢
  have c1 : decide ((0 : Int) ≤ c ∧ c < 4) = true := decide_eq_true ⟨hc1, hc2⟩
  refine leafT c1 ?_
  cases hb : busy.getD c.toNat false with
  | true =>
    have hS := step_SI hI n0 n1 hc1 (by omega) hb
    refine leafN rfl (leafT (cdec_true ⟨hc1, by omega, hI.lt, hI.lu, hS.1 now sure d1 d2 d3⟩) ?_)
    have hB : sBusy ⟨cs, ts, us, busy, at', jj, kd, a0, a1, a2, a3⟩ c = true := hb
    have hP : pickZ L ⟨cs, ts, us, busy, at', jj, kd, a0, a1, a2, a3⟩ x dd part fr = stepZ ⟨cs, ts, us, busy, at', jj, kd, a0, a1, a2, a3⟩ c := by
      unfold pickZ; rw [hx]; exact if_pos hB
    have hA : pkAn ⟨cs, ts, us, busy, at', jj, kd, a0, a1, a2, a3⟩ c = (bif (endZ ⟨cs, ts, us, busy, at', jj, kd, a0, a1, a2, a3⟩ c).is then [] else (endZ ⟨cs, ts, us, busy, at', jj, kd, a0, a1, a2, a3⟩ c).got) := if_pos hB
    have hF : pkFl ⟨cs, ts, us, busy, at', jj, kd, a0, a1, a2, a3⟩ c = (bif (endZ ⟨cs, ts, us, busy, at', jj, kd, a0, a1, a2, a3⟩ c).is then true else (endZ ⟨cs, ts, us, busy, at', jj, kd, a0, a1, a2, a3⟩ c).gf) := if_pos hB
    have hE : pkFe ⟨cs, ts, us, busy, at', jj, kd, a0, a1, a2, a3⟩ c = (!(endZ ⟨cs, ts, us, busy, at', jj, kd, a0, a1, a2, a3⟩ c).is && (kd.getD c.toNat 0 == 2)) := if_pos hB
    unfold stepZ at hP
    rw [show (endZ ⟨cs, ts, us, busy, at', jj, kd, a0, a1, a2, a3⟩ c) = goT nStr false (gmT nStr false (gmX nStr cs (tkC ts c)) (tkC ts c)) from rfl] at hP hA hF hE
    simp only at hP
    generalize goT nStr false (gmT nStr false (gmX nStr cs (tkC ts c)) (tkC ts c)) = Q at *
    cases hi : Q.is with
    | true =>
      rw [hi] at hP hA hF hE
      rw [if_neg (fun q => by cases q.1)] at hP
      refine leafN rfl (leafN rfl ?_)
      exact pick19_leaf c hx _ [] true false hP hA hF hE rfl
    | false =>
      rw [hi] at hP hA hF hE
      refine leafT rfl (leafT c1 ?_)
      by_cases hk : kd.getD c.toNat 0 = 1
      · rw [if_pos ⟨rfl, hk⟩] at hP
        have hj := hI.jb c.toNat (by omega)
        have wj : IntKind.i64.wrap (jj.getD c.toNat 0 + 1) = jj.getD c.toNat 0 + 1 := wrap_id (by have := hj.1; simp only at this; omega) (by have := hj.2; simp only at this; omega)
        refine leafT (ibeqT hk) (leafT c1 (leafT c1 (leafT rfl (leafT c1 ?_))))
        rw [wj]
        exact pick19_leaf c hx _ Q.got Q.gf (kd.getD c.toNat 0 == 2) hP hA hF hE rfl
      · rw [if_neg (fun q => hk q.2)] at hP
        refine leafN (ibeqF hk) (leafT rfl (leafT c1 ?_))
        exact pick19_leaf c hx _ Q.got Q.gf (kd.getD c.toNat 0 == 2) hP hA hF hE rfl
  | false =>
    refine leafT rfl ?_
    have hB : ¬ sBusy ⟨cs, ts, us, busy, at', jj, kd, a0, a1, a2, a3⟩ c = true := fun q => by rw [show sBusy ⟨cs, ts, us, busy, at', jj, kd, a0, a1, a2, a3⟩ c = false from hb] at q; cases q
    have hA : pkAn ⟨cs, ts, us, busy, at', jj, kd, a0, a1, a2, a3⟩ c = [] := if_neg hB
    have hF : pkFl ⟨cs, ts, us, busy, at', jj, kd, a0, a1, a2, a3⟩ c = true := if_neg hB
    have hE : pkFe ⟨cs, ts, us, busy, at', jj, kd, a0, a1, a2, a3⟩ c = false := if_neg hB
    have hP : pickZ L ⟨cs, ts, us, busy, at', jj, kd, a0, a1, a2, a3⟩ x dd part fr = if dd = 0 then helpsS L ⟨cs, ts, us, busy, at', jj, kd, a0, a1, a2, a3⟩ c else if dd = 1 then fetchS L ⟨cs, ts, us, busy, at', jj, kd, a0, a1, a2, a3⟩ c part fr else ⟨cs, ts, us, busy, at', jj, kd, a0, a1, a2, a3⟩ := by
      unfold pickZ; rw [hx]; exact if_neg hB
    by_cases e0 : dd = 0
    · subst e0
      rw [if_pos rfl] at hP
      refine leafT rfl (leafT (cdec_true ⟨hc1, by omega, hL, rfl, n, n0, n1, hI⟩) (leafN rfl ?_))
      obtain ⟨u0, u1, u2, u3⟩ := helpsS_a L ⟨cs, ts, us, busy, at', jj, kd, a0, a1, a2, a3⟩ c
      generalize helpsS L ⟨cs, ts, us, busy, at', jj, kd, a0, a1, a2, a3⟩ c = H at *
      simp only at u0 u1 u2 u3
      subst u0 u1 u2 u3
      exact pick19_leaf c hx H [] true false hP hA hF hE rfl
    · rw [if_neg e0] at hP
      refine leafN (ibeqF e0) ?_
      by_cases e1 : dd = 1
      · subst e1
        rw [if_pos rfl] at hP
        have lL : lenOK L.length = true := lenOK_of (by omega)
        refine leafT rfl (leafT z0 ?_)
        unfold fetchS at hP
        by_cases f0 : 0 < cs.getD 0 0
        · have wf : IntKind.i64.wrap (cs.getD 0 0 - 1) = cs.getD 0 0 - 1 := wrap_id (by omega) (by omega)
          have eT : toS L ⟨cs, ts, us, busy, at', jj, kd, a0, a1, a2, a3⟩ = (L.getD (cs.getD 0 0 - 1).toNat rec0).place := if_pos ⟨f0, hf.2⟩
          unfold argS at hP
          rw [eT] at hP
          refine leafT (decide_eq_true f0) (leafT lL (leafT (decide_eq_true hf.2) ?_))
          rw [wf]
          refine leafT (decide_eq_true ⟨by omega, by omega⟩) (leafT c1 ?_)
          have e0 : (⟨0, false, []⟩ : Rec) = rec0 := rfl
          simp only [mod3, e0, eMM]
          have e9 := eMM fr (L.getD (cs.getD 0 0 - 1).toNat rec0).place
          generalize (L.getD (cs.getD 0 0 - 1).toNat rec0).place = to at hP ⊢
          obtain rfl | rfl | rfl | rfl : c = 0 ∨ c = 1 ∨ c = 2 ∨ c = 3 := by omega
          · refine leafT rfl (leafT rfl (leafT rfl (leafT rfl (leafN rfl (leafT rfl (leafT rfl (leafT rfl ?_)))))))
            exact pick19_leaf 0 hx _ [] true false hP hA hF hE rfl
          · refine leafN rfl (leafT rfl (leafN rfl (leafT rfl (leafT rfl (leafT rfl (leafN rfl (leafT rfl (leafT rfl (leafT rfl ?_)))))))))
            exact pick19_leaf 1 hx _ [] true false hP hA hF hE rfl
          · refine leafN rfl (leafN rfl (leafT rfl (leafN rfl (leafN rfl (leafT rfl (leafT rfl (leafT rfl (leafN rfl (leafT rfl (leafT rfl (leafT rfl ?_)))))))))))
            exact pick19_leaf 2 hx _ [] true false hP hA hF hE rfl
          · refine leafN rfl (leafN rfl (leafN rfl (leafT rfl (leafN rfl (leafN rfl (leafN rfl (leafT rfl (leafT rfl (leafT rfl (leafN rfl (leafT rfl (leafT rfl (leafT rfl ?_)))))))))))))
            exact pick19_leaf 3 hx _ [] true false hP hA hF hE rfl
        · have eT : toS L ⟨cs, ts, us, busy, at', jj, kd, a0, a1, a2, a3⟩ = 0 := if_neg (fun q => f0 q.1)
          unfold argS at hP
          rw [eT] at hP
          refine leafN (decide_eq_false f0) (leafT c1 ?_)
          simp only [mod3, eMM]
          obtain rfl | rfl | rfl | rfl : c = 0 ∨ c = 1 ∨ c = 2 ∨ c = 3 := by omega
          · refine leafT rfl (leafT rfl (leafT rfl (leafT rfl (leafN rfl (leafT rfl (leafT rfl (leafT rfl ?_)))))))
            exact pick19_leaf 0 hx _ [] true false hP hA hF hE rfl
          · refine leafN rfl (leafT rfl (leafN rfl (leafT rfl (leafT rfl (leafT rfl (leafN rfl (leafT rfl (leafT rfl (leafT rfl ?_)))))))))
            exact pick19_leaf 1 hx _ [] true false hP hA hF hE rfl
          · refine leafN rfl (leafN rfl (leafT rfl (leafN rfl (leafN rfl (leafT rfl (leafT rfl (leafT rfl (leafN rfl (leafT rfl (leafT rfl (leafT rfl ?_)))))))))))
            exact pick19_leaf 2 hx _ [] true false hP hA hF hE rfl
          · refine leafN rfl (leafN rfl (leafN rfl (leafT rfl (leafN rfl (leafN rfl (leafN rfl (leafT rfl (leafT rfl (leafT rfl (leafN rfl (leafT rfl (leafT rfl (leafT rfl ?_)))))))))))))
            exact pick19_leaf 3 hx _ [] true false hP hA hF hE rfl
      · rw [if_neg e1] at hP
        refine leafN (ibeqF e1) ?_
        exact pick19_leaf c hx _ [] true false hP hA hF hE rfl
noncomputable def pick19_d (env : Env RC) (os : List (Obj RC)) : Option (Bool × pick19_St) := match env, os with
  | [(0, .ptr 0 []), (1, .acons (.int .i64 x) (.acons (.int .i64 dd) (.acons (.int .i64 part) (.acons (.int .i64 fr) .anil))))], [.var 33 (.acons (.ptr 1 []) (.acons (.sl .recd lf L) (.acons (.arr .int 4 at') (.acons (.arr .int 4 jj) (.acons (.arr .int 4 kd) (.acons (.acons (.arr .int 3 a0) (.acons (.arr .int 3 a1) (.acons (.arr .int 3 a2) (.acons (.arr .int 3 a3) .anil)))) .anil)))))), .var 52 (.acons (.acons (.sl .int false cs) (.acons (.acons (.sl .sector false now) (.acons (.sl .sector false sure) .anil)) .anil)) (.acons (.arr .task 4 ts) (.acons (.arr .task 4 us) (.acons (.arr .bool 4 busy) .anil))))] => staticD (true) (cdec (mayS L = true ∧ (diskOK now sure = true ∧ goodL now = true ∧ goodL sure = true) ∧ ∃ n, 0 ≤ n ∧ n ≤ 800000 ∧ SI L n ⟨cs, ts, us, busy, at', jj, kd, a0, a1, a2, a3⟩), ⟨x, dd, part, fr, now, sure, cs, ts, us, busy, lf, L, at', jj, kd, a0, a1, a2, a3⟩)
  | _, _ => none
noncomputable def um_4 := um_3.addObj 11 (sumF s19 [.slot 0 0, .path 0 [0]] 2 pick19_S pick19_d)
theorem um_4_laws : FLaws Tryz.prog s19 um_4 := by
  refine um_3_laws.addFun s19_laws pick19_S 80 2 [.slot 0 0, .path 0 [0]] pick19_d (fun q hI => ?_) ?_
  · obtain ⟨x, dd, part, fr, now, sure, cs, ts, us, busy, lf, L, at', jj, kd, a0, a1, a2, a3⟩ := q
    refine ⟨?_, ?_, rfl, pick19_ok x dd part fr now sure cs ts us busy lf L at' jj kd a0 a1 a2 a3 hI⟩
    · simp [RefsOK, pick19_S, pick19_a, pick19_o, eargs, D.refs, Obj.refs]
    · simp [pick19_S, pick19_fin, pick19_o, RT.refsOK, RefsOK, D.refs, Obj.refs]
  · intro env os b q hd_ hb
    unfold pick19_d at hd_
    split at hd_
    · obtain ⟨hs, hd_⟩ := staticD_some hd_
      cases hd_
      try simp only [Bool.and_eq_true, decide_eq_true_eq] at hb
      exact ⟨cdec_iff.1 hb, rfl, rfl⟩
    · cases hd_
theorem new_low : ((List.range 99).all fun k => newCells.getD k 0 == (if k = 1 then 1 else 0)) = true := by kernel_rfl
theorem new_at {a : Nat} (h : a < 99) (h1 : a ≠ 1) : newCells.getD a 0 = 0 := by
  have := List.all_eq_true.1 new_low a (List.mem_range.2 h)
  rw [if_neg h1] at this
  exact eq_of_beq this
theorem SI_init (L : List Rec) {at' a0 a1 a2 a3 : List Int} (h : at'.length = 4) : SI L 0 ⟨newCells, List.replicate 4 ⟨0, [], [], false⟩, List.replicate 4 ⟨0, [], [], false⟩, List.replicate 4 false, at', List.replicate 4 0, List.replicate 4 0, a0, a1, a2, a3⟩ := by
  refine ⟨⟨by kernel_rfl, by kernel_rfl, fun a h1 h2 => ?_⟩, ?_, rfl, rfl, rfl, h, rfl, rfl, fun i hi => ?_, fun c c0 c3 hb => ?_⟩
  · rw [show (SS.cs _).getD a.toNat 0 = newCells.getD a.toNat 0 from rfl, new_at (by omega) (by omega)]
    unfold TyS bigW
    omega
  · show 0 ≤ newCells.getD 0 0 ∧ newCells.getD 0 0 ≤ (L.length : Int)
    rw [new_at (by decide) (by decide)]
    omega
  · show 0 ≤ (List.replicate 4 (0 : Int)).getD i 0 ∧ (List.replicate 4 (0 : Int)).getD i 0 ≤ 0
    obtain rfl | rfl | rfl | rfl : i = 0 ∨ i = 1 ∨ i = 2 ∨ i = 3 := by omega
    all_goals exact ⟨by decide, by decide⟩
  · obtain rfl | rfl | rfl | rfl : c = 0 ∨ c = 1 ∨ c = 2 ∨ c = 3 := by omega
    all_goals cases hb
theorem SI.cnt {L : List Rec} {n : Int} {s : SS} (h : SI L n s) (hn : n ≤ 800000) {q : Int} (q0 : 0 ≤ q) (q2 : q ≤ 2) : s.cs.length = 771 ∧ cellsOK s.cs = true ∧ 0 ≤ q ∧ q ≤ 2 ∧ 0 ≤ cntL s.cs q ∧ cntL s.cs q ≤ 4194304 := by
  have e : lRow 45 q 3 = 45 + q := lRow_in q0 (by omega)
  have := h.sc.ty (45 + q) (by omega) (by omega)
  refine ⟨h.sc.len, h.sc.ok, q0, q2, ?_, ?_⟩
  · unfold cntL; rw [e]; exact this.1
  · unfold cntL; rw [e]; have := this.2.1 (by omega); omega
theorem linesS_len (cs : List Int) (q : Int) : (linesS cs q).length ≤ 16 := by
  unfold linesS
  rw [List.length_reverse]
  have := lnD_len cs q (cntL cs q - max 0 (cntL cs q - 16)).toNat (cntL cs q - 1)
  omega
open Go.Proofs
noncomputable def newR12_s  : Option (Bool × D RC) := some (true, .sl (C := RC) .int false newCells)
noncomputable def newR12_sp : List (D RC) → Option (Bool × D RC)
  | [] => newR12_s 
  | _ => none
noncomputable def newR12_e  := evF s19 um_4 1000 25 []
theorem newR12_ok  (h : (true) = true) : newR12_e  = some (.sl (C := RC) .int false newCells) := by
  kernel_rfl
noncomputable def un_1 := um_4.addSpec 25 newR12_sp
theorem un_1_laws : FLaws Tryz.prog s19 un_1 := um_4_laws.addEv s19_laws fun args d h => by
  unfold newR12_sp at h
  split at h
  · unfold newR12_s at h
    have h1 := congrArg Prod.fst (Option.some.inj h)
    obtain rfl : _ = d := congrArg Prod.snd (Option.some.inj h)
    exact ⟨by simp [D.refs], 1000, newR12_ok  h1⟩
  · cases h
noncomputable def wakesZ_s  : Option (Bool × D RC) := some (true, .bool true)
noncomputable def wakesZ_sp : List (D RC) → Option (Bool × D RC)
  | [] => wakesZ_s 
  | _ => none
noncomputable def wakesZ_e  := evF s19 un_1 200 9 []
theorem wakesZ_eq  : wakesZ_e  = (bif cdec (okStr false (Frame.mk (77 : Int) (0 : Int) [(1 : Int), (0 : Int), (0 : Int), (0 : Int), (0 : Int), (0 : Int), (0 : Int), (0 : Int), (0 : Int), (0 : Int), (0 : Int), (0 : Int), (0 : Int), (0 : Int), (0 : Int), (0 : Int), (0 : Int), (0 : Int), (0 : Int), (0 : Int), (0 : Int), (0 : Int), (0 : Int), (0 : Int), (0 : Int), (0 : Int), (0 : Int), (0 : Int), (0 : Int), (0 : Int), (0 : Int), (0 : Int), (0 : Int), (0 : Int), (0 : Int), (0 : Int), (0 : Int), (0 : Int), (0 : Int), (0 : Int), (0 : Int), (0 : Int), (0 : Int), (0 : Int), (0 : Int), (0 : Int), (0 : Int), (0 : Int), (0 : Int), (0 : Int), (0 : Int), (0 : Int), (0 : Int), (0 : Int), (0 : Int), (0 : Int), (0 : Int), (0 : Int), (0 : Int), (0 : Int), (0 : Int), (0 : Int), (0 : Int), (0 : Int), (0 : Int), (0 : Int), (0 : Int), (0 : Int), (0 : Int), (0 : Int), (0 : Int), (0 : Int), (0 : Int), (0 : Int), (0 : Int), (0 : Int), (0 : Int), (0 : Int), (0 : Int), (0 : Int), (0 : Int), (0 : Int), (0 : Int), (0 : Int), (0 : Int), (0 : Int), (0 : Int), (0 : Int), (0 : Int), (0 : Int), (0 : Int), (0 : Int), (0 : Int), (0 : Int), (0 : Int), (0 : Int)]) []) then some (D.bool true) else none) := by kernel_rfl
theorem wakesZ_ok  (h : (true) = true) : wakesZ_e  = some (.bool true) := by
  rw [wakesZ_eq]
  have k : ∀ p : Prop, p → cdec p = true := fun p h => cdec_true h
  rw [k]
  · rfl
  · refine ⟨by kernel_rfl, fun v hv => ?_, .inr ⟨rfl, ?_⟩⟩
    · have h2 : ([1] ++ List.replicate 95 (0 : Int)).all (fun v => decide (v < 9223372036854775808)) = true := by decide
      have := List.all_eq_true.1 h2 v hv
      simpa using this
    · simp [okFe]
noncomputable def un_2 := un_1.addSpec 9 wakesZ_sp
theorem un_2_laws : FLaws Tryz.prog s19 un_2 := un_1_laws.addEv s19_laws fun args d h => by
  unfold wakesZ_sp at h
  split at h
  · unfold wakesZ_s at h
    have h1 := congrArg Prod.fst (Option.some.inj h)
    obtain rfl : _ = d := congrArg Prod.snd (Option.some.inj h)
    exact ⟨by simp [D.refs], 200, wakesZ_ok  h1⟩
  · cases h
def runZ (L : List Rec) : List Pick → SS → SS
  | [], s => s
  | x :: l, s => runZ L l (pickZ L s x.client x.do_ x.part x.from_)
theorem runZ_step {L : List Rec} {l : List Pick} {i : Nat} (h : i < l.length) (s : SS) (d : Pick) : runZ L (l.drop i) s = runZ L (l.drop (i + 1)) (pickZ L s (l.getD i d).client (l.getD i d).do_ (l.getD i d).part (l.getD i d).from_) := by
  have e : l.getD i d = l[i] := by simp [h]
  rw [List.drop_eq_getElem_cons h, e, runZ]
structure plZ_St where
  c : Bool
  l : List Pick
  i : Nat
  now : List Sector
  sure : List Sector
  cs : List Int
  ts : List Task
  us : List Task
  busy : List Bool
  lf : Bool
  L : List Rec
  at' : List Int
  jj : List Int
  kd : List Int
  a0 : List Int
  a1 : List Int
  a2 : List Int
  a3 : List Int
noncomputable def plZ_c (c : Bool) (l : List Pick) (i : Nat) (now : List Sector) (sure : List Sector) (cs : List Int) (ts : List Task) (us : List Task) (busy : List Bool) (lf : Bool) (L : List Rec) (at' : List Int) (jj : List Int) (kd : List Int) (a0 : List Int) (a1 : List Int) (a2 : List Int) (a3 : List Int) : Env RC := [(4, .bool false), (5, .ptr 0 []), (36, .sl (C := RC) .pick c l), (37, .int .i64 ((l.length : Int))), (38, .int .i64 (i : Int))]
def plZ_o (c : Bool) (l : List Pick) (i : Nat) (now : List Sector) (sure : List Sector) (cs : List Int) (ts : List Task) (us : List Task) (busy : List Bool) (lf : Bool) (L : List Rec) (at' : List Int) (jj : List Int) (kd : List Int) (a0 : List Int) (a1 : List Int) (a2 : List Int) (a3 : List Int) : List (Obj RC) := [.var 33 (.acons (.ptr 1 []) (.acons (.sl (C := RC) .recd lf L) (.acons (.arr (C := RC) .int 4 at') (.acons (.arr (C := RC) .int 4 jj) (.acons (.arr (C := RC) .int 4 kd) (.acons (.acons (.arr (C := RC) .int 3 a0) (.acons (.arr (C := RC) .int 3 a1) (.acons (.arr (C := RC) .int 3 a2) (.acons (.arr (C := RC) .int 3 a3) .anil)))) .anil)))))), .var 52 (.acons (.acons (.sl (C := RC) .int false cs) (.acons (.acons (.sl (C := RC) .sector false now) (.acons (.sl (C := RC) .sector false sure) .anil)) .anil)) (.acons (.arr (C := RC) .task 4 ts) (.acons (.arr (C := RC) .task 4 us) (.acons (.arr (C := RC) .bool 4 busy) .anil))))]
noncomputable def plZ_r (c : Bool) (l : List Pick) (i : Nat) (now : List Sector) (sure : List Sector) (cs : List Int) (ts : List Task) (us : List Task) (busy : List Bool) (lf : Bool) (L : List Rec) (at' : List Int) (jj : List Int) (kd : List Int) (a0 : List Int) (a1 : List Int) (a2 : List Int) (a3 : List Int) := rndO s19 un_2 6 10 100 2 [4, 5, 36, 37, 38] [4] [.slot 5 0, .path 0 [0]] (plZ_c c l i now sure cs ts us busy lf L at' jj kd a0 a1 a2 a3) (plZ_o c l i now sure cs ts us busy lf L at' jj kd a0 a1 a2 a3)
theorem plZ_eq (c : Bool) (l : List Pick) (i : Nat) (now : List Sector) (sure : List Sector) (cs : List Int) (ts : List Task) (us : List Task) (busy : List Bool) (lf : Bool) (L : List Rec) (at' : List Int) (jj : List Int) (kd : List Int) (a0 : List Int) (a1 : List Int) (a2 : List Int) (a3 : List Int) : plZ_r c l i now sure cs ts us busy lf L at' jj kd a0 a1 a2 a3 = (let Z0 : Int := (↑i : Int); let Z1 : Int := (↑l.length : Int); let Z2 : SS := SS.mk cs ts us busy at' jj kd a0 a1 a2 a3; let Z3 : Pick := List.getD l Z0.toNat (Pick.mk (0 : Int) (0 : Int) (0 : Int) (0 : Int)); let Z4 : SS := pickZ L Z2 (Pick.client Z3) (Pick.do_ Z3) (Pick.part Z3) (Pick.from_ Z3); let Z5 : List Int := SS.cs Z4; let Z6 : Bool := cdec (List.length Z5 = (771 : Nat) ∧ cellsOK Z5 = true ∧ (0 : Int) ≤ (0 : Int) ∧ (0 : Int) ≤ (2 : Int) ∧ (0 : Int) ≤ cntL Z5 (0 : Int) ∧ cntL Z5 (0 : Int) ≤ (4194304 : Int)); let Z7 : List Line := linesS Z5 (0 : Int); let Z8 : Bool := lenOK Z7.length; let Z9 : D RC := .anil; let Z10 : D RC := D.acons (D.acons (D.sl RTy.sector false now) (.acons (D.sl RTy.sector false sure) Z9)) Z9; let Z11 : List (Option (Obj RC)) := [some (Obj.var 33 (.acons (D.ptr 1 []) (.acons (D.sl RTy.recd lf L) (.acons (D.arr RTy.int (4 : Nat) (SS.at' Z4)) (.acons (D.arr RTy.int (4 : Nat) (SS.jj Z4)) (.acons (D.arr RTy.int (4 : Nat) (SS.kind Z4)) (.acons (D.acons (D.arr RTy.int (3 : Nat) (SS.a0 Z4)) (.acons (D.arr RTy.int (3 : Nat) (SS.a1 Z4)) (.acons (D.arr RTy.int (3 : Nat) (SS.a2 Z4)) (.acons (D.arr RTy.int (3 : Nat) (SS.a3 Z4)) Z9)))) Z9))))))), some (Obj.var 52 (.acons (D.acons (D.sl RTy.int false Z5) Z10) (.acons (D.arr RTy.task (4 : Nat) (SS.ts Z4)) (.acons (D.arr RTy.task (4 : Nat) (SS.us Z4)) (.acons (D.arr RTy.bool (4 : Nat) (SS.busy Z4)) Z9)))))]; let Z12 : RO_ := some ((X.ret, [(4, D.bool false)]), Z11); let Z13 : Bool := cdec (List.length Z5 = (771 : Nat) ∧ cellsOK Z5 = true ∧ (0 : Int) ≤ (1 : Int) ∧ (1 : Int) ≤ (2 : Int) ∧ (0 : Int) ≤ cntL Z5 (1 : Int) ∧ cntL Z5 (1 : Int) ≤ (4194304 : Int)); let Z14 : List Line := linesS Z5 (1 : Int); let Z15 : Bool := cdec (List.length Z5 = (771 : Nat) ∧ cellsOK Z5 = true ∧ (0 : Int) ≤ (2 : Int) ∧ (2 : Int) ≤ (2 : Int) ∧ (0 : Int) ≤ cntL Z5 (2 : Int) ∧ cntL Z5 (2 : Int) ≤ (4194304 : Int)); let Z16 : List Line := linesS Z5 (2 : Int); bif decide (Z0 < Z1) then bif decide ((0 : Int) ≤ Z0 ∧ Z0 < Z1) then bif cdec (mayS L = true ∧ (diskOK now sure = true ∧ goodL now = true ∧ goodL sure = true) ∧ ∃ (n : Int), (0 : Int) ≤ n ∧ n ≤ (800000 : Int) ∧ SI L n Z2) then bif Z6 then bif Z6 then bif Z8 && Z8 then bif !decide (Z7 = Z7) then Z12 else bif Z13 then bif Z13 then bif lenOK Z14.length && lenOK Z14.length then bif !decide (Z14 = Z14) then Z12 else bif Z15 then bif Z15 then bif lenOK Z16.length && lenOK Z16.length then bif !decide (Z16 = Z16) then Z12 else some ((X.normal, [(4, D.bool false), (5, D.ptr 0 []), (36, D.sl RTy.pick c l), (37, D.int .i64 Z1), (38, D.int .i64 (IntKind.wrap .i64 (Z0 + (1 : Int))))]), Z11) else none else none else none else none else none else none else none else none else none else none else none else some ((X.exit (2 : Nat), [(4, D.bool false)]), [some (Obj.var 33 (.acons (D.ptr 1 []) (.acons (D.sl RTy.recd lf L) (.acons (D.arr RTy.int (4 : Nat) at') (.acons (D.arr RTy.int (4 : Nat) jj) (.acons (D.arr RTy.int (4 : Nat) kd) (.acons (D.acons (D.arr RTy.int (3 : Nat) a0) (.acons (D.arr RTy.int (3 : Nat) a1) (.acons (D.arr RTy.int (3 : Nat) a2) (.acons (D.arr RTy.int (3 : Nat) a3) Z9)))) Z9))))))), some (Obj.var 52 (.acons (D.acons (D.sl RTy.int false cs) Z10) (.acons (D.arr RTy.task (4 : Nat) ts) (.acons (D.arr RTy.task (4 : Nat) us) (.acons (D.arr RTy.bool (4 : Nat) busy) Z9)))))])) := by kernel_rfl
noncomputable def plZ_fin (c : Bool) (l : List Pick) (i : Nat) (now : List Sector) (sure : List Sector) (cs : List Int) (ts : List Task) (us : List Task) (busy : List Bool) (lf : Bool) (L : List Rec) (at' : List Int) (jj : List Int) (kd : List Int) (a0 : List Int) (a1 : List Int) (a2 : List Int) (a3 : List Int) : RT RC := .leaf (.exit 2) [(4, .bool false)] (plZ_o c l i now sure (runZ L (l.drop i) ⟨cs, ts, us, busy, at', jj, kd, a0, a1, a2, a3⟩).cs (runZ L (l.drop i) ⟨cs, ts, us, busy, at', jj, kd, a0, a1, a2, a3⟩).ts (runZ L (l.drop i) ⟨cs, ts, us, busy, at', jj, kd, a0, a1, a2, a3⟩).us (runZ L (l.drop i) ⟨cs, ts, us, busy, at', jj, kd, a0, a1, a2, a3⟩).busy lf L (runZ L (l.drop i) ⟨cs, ts, us, busy, at', jj, kd, a0, a1, a2, a3⟩).at' (runZ L (l.drop i) ⟨cs, ts, us, busy, at', jj, kd, a0, a1, a2, a3⟩).jj (runZ L (l.drop i) ⟨cs, ts, us, busy, at', jj, kd, a0, a1, a2, a3⟩).kind (runZ L (l.drop i) ⟨cs, ts, us, busy, at', jj, kd, a0, a1, a2, a3⟩).a0 (runZ L (l.drop i) ⟨cs, ts, us, busy, at', jj, kd, a0, a1, a2, a3⟩).a1 (runZ L (l.drop i) ⟨cs, ts, us, busy, at', jj, kd, a0, a1, a2, a3⟩).a2 (runZ L (l.drop i) ⟨cs, ts, us, busy, at', jj, kd, a0, a1, a2, a3⟩).a3)
def plZ_Inv (c : Bool) (l : List Pick) (i : Nat) (now : List Sector) (sure : List Sector) (cs : List Int) (ts : List Task) (us : List Task) (busy : List Bool) (lf : Bool) (L : List Rec) (at' : List Int) (jj : List Int) (kd : List Int) (a0 : List Int) (a1 : List Int) (a2 : List Int) (a3 : List Int) : Prop := i ≤ l.length ∧ l.length ≤ 400 ∧ mayS L = true ∧ (diskOK now sure = true ∧ goodL now = true ∧ goodL sure = true) ∧ SI L i ⟨cs, ts, us, busy, at', jj, kd, a0, a1, a2, a3⟩
noncomputable def plZ_S : LoopR RC plZ_St where
  k := 2
  canon q := plZ_c q.c q.l q.i q.now q.sure q.cs q.ts q.us q.busy q.lf q.L q.at' q.jj q.kd q.a0 q.a1 q.a2 q.a3
  objs q := plZ_o q.c q.l q.i q.now q.sure q.cs q.ts q.us q.busy q.lf q.L q.at' q.jj q.kd q.a0 q.a1 q.a2 q.a3
  fin q := plZ_fin q.c q.l q.i q.now q.sure q.cs q.ts q.us q.busy q.lf q.L q.at' q.jj q.kd q.a0 q.a1 q.a2 q.a3
  Inv q := plZ_Inv q.c q.l q.i q.now q.sure q.cs q.ts q.us q.busy q.lf q.L q.at' q.jj q.kd q.a0 q.a1 q.a2 q.a3
  μ q := q.l.length - q.i
theorem plZ_round (c : Bool) (l : List Pick) (i : Nat) (now : List Sector) (sure : List Sector) (cs : List Int) (ts : List Task) (us : List Task) (busy : List Bool) (lf : Bool) (L : List Rec) (at' : List Int) (jj : List Int) (kd : List Int) (a0 : List Int) (a1 : List Int) (a2 : List Int) (a3 : List Int) (hI : plZ_Inv c l i now sure cs ts us busy lf L at' jj kd a0 a1 a2 a3) : Leaf (plZ_r c l i now sure cs ts us busy lf L at' jj kd a0 a1 a2 a3) (LedR plZ_S ⟨c, l, i, now, sure, cs, ts, us, busy, lf, L, at', jj, kd, a0, a1, a2, a3⟩) := by
  (rw [plZ_eq]; conv => zeta)
  unfold plZ_Inv at hI
  obtain ⟨h1, h2, hL, ⟨hd, hg1, hg2⟩, hI⟩ := hI
  by_cases hlt : i < l.length
  · have t_nat0 : ((i : Int)).toNat = i := by simp
    have w_succ : IntKind.i64.wrap ((i : Int) + 1) = ((i + 1 : Nat) : Int) := by rw [wrap_id (by omega) (by omega)]; simp
    have d_lt : decide ((i : Int) < l.length) = true := by simp; omega
    have d_in : decide (0 ≤ (i : Int) ∧ (i : Int) < l.length) = true := by simp; omega
    simp only [t_nat0, w_succ, d_lt, d_in, cond_true]
    have hrun := runZ_step (L := L) hlt ⟨cs, ts, us, busy, at', jj, kd, a0, a1, a2, a3⟩ ⟨0, 0, 0, 0⟩
    have hfin : ∀ s, runZ L (l.drop i) ⟨cs, ts, us, busy, at', jj, kd, a0, a1, a2, a3⟩ = s → plZ_fin c l i now sure cs ts us busy lf L at' jj kd a0 a1 a2 a3 = .leaf (.exit 2) [(4, .bool false)] (plZ_o c l i now sure s.cs s.ts s.us s.busy lf L s.at' s.jj s.kind s.a0 s.a1 s.a2 s.a3) := fun s hs => by unfold plZ_fin; rw [hs]
    have hfin := hfin _ hrun
    clear hrun
    generalize l.getD i (⟨0, 0, 0, 0⟩ : Pick) = x at hfin ⊢
    have hp := pick_SI hI hL (by omega) (by omega) x.client x.do_ x.part x.from_
    have k0 : cdec (mayS L = true ∧ (diskOK now sure = true ∧ goodL now = true ∧ goodL sure = true) ∧ ∃ n, 0 ≤ n ∧ n ≤ 800000 ∧ SI L n ⟨cs, ts, us, busy, at', jj, kd, a0, a1, a2, a3⟩) = true := cdec_true ⟨hL, ⟨hd, hg1, hg2⟩, i, by omega, by omega, hI⟩
    generalize pickZ L ⟨cs, ts, us, busy, at', jj, kd, a0, a1, a2, a3⟩ x.client x.do_ x.part x.from_ = P at *
    have q0 : cdec _ = true := cdec_true (hp.cnt (by omega) (q := 0) (by omega) (by omega))
    have q1 : cdec _ = true := cdec_true (hp.cnt (by omega) (q := 1) (by omega) (by omega))
    have q2 : cdec _ = true := cdec_true (hp.cnt (by omega) (q := 2) (by omega) (by omega))
    have k4 : ∀ q, lenOK (linesS P.cs q).length = true := fun q => lenOK_of (by have := linesS_len P.cs q; omega)
    simp only [k0, q0, q1, q2, k4, decide_true, Bool.and_self, Bool.not_true, cond_true, cond_false]
    exact leafR_go (S := plZ_S) (s := ⟨c, l, i, now, sure, cs, ts, us, busy, lf, L, at', jj, kd, a0, a1, a2, a3⟩) ⟨c, l, i + 1, now, sure, P.cs, P.ts, P.us, P.busy, lf, L, P.at', P.jj, P.kind, P.a0, P.a1, P.a2, P.a3⟩ ⟨hlt, h2, hL, ⟨hd, hg1, hg2⟩, by rw [show (((i + 1 : Nat)) : Int) = (i : Int) + 1 by simp]; exact hp⟩ (by simp only [plZ_S]; omega) (by show (plZ_fin c l (i + 1) now sure P.cs P.ts P.us P.busy lf L P.at' P.jj P.kind P.a0 P.a1 P.a2 P.a3).val = (plZ_fin c l i now sure cs ts us busy lf L at' jj kd a0 a1 a2 a3).val; rw [hfin]; rfl) rfl rfl
  · have hi : i = l.length := by omega
    have c1 : decide ((i : Int) < l.length) = false := by simp; omega
    rw [c1]
    exact leafR_exit (plZ_o c l i now sure cs ts us busy lf L at' jj kd a0 a1 a2 a3) (by show (plZ_fin c l i now sure cs ts us busy lf L at' jj kd a0 a1 a2 a3).val = _; unfold plZ_fin; rw [hi, List.drop_length]; rfl) rfl
noncomputable def plZ_d (env : Env RC) (os : List (Obj RC)) : Option (Bool × plZ_St) := match env, os with
  | [(4, .bool false), (5, .ptr 0 []), (36, .sl .pick c l), (37, .int .i64 x0), (38, .int .i64 x1)], [.var 33 (.acons (.ptr 1 []) (.acons (.sl .recd lf L) (.acons (.arr .int 4 at') (.acons (.arr .int 4 jj) (.acons (.arr .int 4 kd) (.acons (.acons (.arr .int 3 a0) (.acons (.arr .int 3 a1) (.acons (.arr .int 3 a2) (.acons (.arr .int 3 a3) .anil)))) .anil)))))), .var 52 (.acons (.acons (.sl .int false cs) (.acons (.acons (.sl .sector false now) (.acons (.sl .sector false sure) .anil)) .anil)) (.acons (.arr .task 4 ts) (.acons (.arr .task 4 us) (.acons (.arr .bool 4 busy) .anil))))] => staticD (true) (decide (x0 = (l.length : Int)) && decide (x1 = 0) && cdec (l.length ≤ 400 ∧ mayS L = true ∧ (diskOK now sure = true ∧ goodL now = true ∧ goodL sure = true) ∧ SI L 0 ⟨cs, ts, us, busy, at', jj, kd, a0, a1, a2, a3⟩), ⟨c, l, 0, now, sure, cs, ts, us, busy, lf, L, at', jj, kd, a0, a1, a2, a3⟩)
  | _, _ => none
noncomputable def un_3 := un_2.addLoop 6 10 (sumR s19 [.slot 5 0, .path 0 [0]] [4, 5, 36, 37, 38] plZ_S plZ_d)
theorem un_3_laws : FLaws Tryz.prog s19 un_3 := by
  refine un_2_laws.addRoundsR s19_laws (by kernel_rfl) plZ_S 100 [4, 5, 36, 37, 38] [4] [.slot 5 0, .path 0 [0]] [4, 5, 36, 37, 38] plZ_d (fun q hI => ?_) ?_
  · obtain ⟨c, l, i, now, sure, cs, ts, us, busy, lf, L, at', jj, kd, a0, a1, a2, a3⟩ := q
    refine ⟨?_, ?_, plZ_round c l i now sure cs ts us busy lf L at' jj kd a0 a1 a2 a3 hI⟩
    · simp_all [RefsOK, plZ_S, plZ_c, plZ_o, plZ_Inv, D.refs, Obj.refs, rEnc]
    · simp_all [plZ_S, plZ_fin, plZ_o, plZ_Inv, RT.refsOK, RefsOK, D.refs, Obj.refs, rEnc]
  · intro env os b q hd_ hb
    unfold plZ_d at hd_
    split at hd_
    · obtain ⟨hs, hd_⟩ := staticD_some hd_
      cases hd_
      simp only [Bool.and_eq_true, decide_eq_true_eq] at hb
      obtain ⟨⟨e2, e3⟩, e4⟩ := hb
      obtain ⟨e5, e6, e7, e8⟩ := cdec_iff.1 e4
      subst e2
      subst e3
      exact ⟨⟨Nat.zero_le _, e5, e6, e7, e8⟩, rfl, rfl⟩
    · cases hd_
noncomputable def plays19_e (lc : Bool) (L : List Rec) (pc : Bool) (l : List Pick) := evF s19 un_3 200 6 [.sl (C := RC) .recd lc L, .sl (C := RC) .pick pc l]
theorem plays19_eq (lc : Bool) (L : List Rec) (pc : Bool) (l : List Pick) : plays19_e lc L pc l = (let Z0 : DO_ := some (D.bool true); let Z1 : Nat := List.length l; let Z2 : Int := (↑Z1 : Int); let Z3 : List Task := List.replicate (4 : Nat) (rDflt RTy.task); let Z4 : Int := (-1 : Int); let Z5 : List Int := List.replicate (4 : Nat) (0 : Int); let Z6 : List Int := List.replicate (3 : Nat) (0 : Int); bif lenOK L.length && List.all L fun (r : Rec) => lenOK r.writes.length then bif !mayS L then Z0 else bif lenOK Z1 then bif decide ((400 : Int) < Z2) then Z0 else bif lenOK Z1 then bif decide (Z2 = Z2) && true && cdec (Z1 ≤ (400 : Nat) ∧ mayS L = true ∧ (true = true ∧ true = true ∧ true = true) ∧ SI L (0 : Int) (SS.mk newCells Z3 Z3 (List.replicate (4 : Nat) false) [Z4, Z4, Z4, Z4] Z5 Z5 Z6 Z6 Z6 Z6)) then Z0 else none else none else none else none) := by kernel_rfl
theorem plays19_ok (lc : Bool) (L : List Rec) (pc : Bool) (l : List Pick) (h : ((lenOK L.length && (L.all fun r => lenOK r.writes.length)) && lenOK l.length) = true) : plays19_e lc L pc l = some (.bool true) := by
  (rw [plays19_eq]; conv => zeta)
  rw [Bool.and_eq_true] at h
  simp only [h.1, h.2, cond_true]
  cases hL : mayS L with
  | false => simp only [Bool.not_false, cond_true]
  | true =>
    simp only [Bool.not_true, cond_false]
    by_cases h4 : l.length ≤ 400
    · have d1 : decide ((400 : Int) < (l.length : Int)) = false := decide_eq_false (by omega)
      have k1 : cdec (l.length ≤ 400 ∧ True ∧ (True ∧ True ∧ True) ∧ SI L 0 ⟨newCells, List.replicate 4 (rDflt RTy.task), List.replicate 4 (rDflt RTy.task), List.replicate 4 false, [-1, -1, -1, -1], List.replicate 4 0, List.replicate 4 0, List.replicate 3 0, List.replicate 3 0, List.replicate 3 0, List.replicate 3 0⟩) = true := cdec_true ⟨h4, trivial, ⟨trivial, trivial, trivial⟩, SI_init L rfl⟩
      simp only [d1, cond_false, decide_true, Bool.and_self, Bool.true_and]
      rw [k1]
      rfl
    · have d1 : decide ((400 : Int) < (l.length : Int)) = true := decide_eq_true (by omega)
      simp only [d1, cond_true]
open Go.ChangeShapes Go.WideShapes Go.RowKit
section
variable {C : Cdc}
def good (gA : (t : C.Ty) → C.A t → Prop) : D C → Prop
  | .int k n => k.min ≤ n ∧ n ≤ k.max
  | .str s => s.length ≤ maxLen
  | .acons d ds => good gA d ∧ good gA ds
  | .arr t n l => l.length = n ∧ ∀ x ∈ l, gA t x
  | .sl t _ l => l.length ≤ maxLen ∧ ∀ x ∈ l, gA t x
  | _ => True
def plainT (T : Tab C) : Nat → TypeId → Bool
  | 0, _ => false
  | k + 1, t => match T.ty t with
    | .bool | .int _ | .str => true
    | .struct _ fs => fs.all (plainT T k)
    | .arr _ e _ => plainT T k e
    | .sl e _ => plainT T k e
    | _ => false
structure Dec (T : Tab C) (gA : (t : C.Ty) → C.A t → Prop) : Prop where
  dec : ∀ t d, fit T d (.inl (T.ety t)) = true → d.refs = [] → good gA d → (∃ k u, T.ty u = T.ty (T.ety t) ∧ plainT T k u = true) → ∃ x, T.dec t d = some x ∧ gA t x
variable {P : Program} {T : Tab C} {gA : (t : C.Ty) → C.A t → Prop}
def X0 (W : World) : Cx := ⟨W, fun _ => none, fun _ _ => False⟩
theorem X0_free (W : World) (b o : Nat) : (X0 W).free b o := ⟨fun h => h, fun ⟨_, _, h, _⟩ => by simp [X0] at h⟩
theorem arr_R {X : Cx} (t : C.Ty) (sz : Nat) : ∀ (n : Nat) (cs : List Value), cs.length = n * sz → (∀ i, i < n → ∃ x : C.A t, R T X false (T.enc t x) ((cs.drop (i * sz)).take sz) ∧ gA t x) →
    ∃ l : List (C.A t), R T X false (.arr t n l) cs ∧ l.length = n ∧ ∀ x ∈ l, gA t x
  | 0, cs, hl, _ => by
    obtain rfl : cs = [] := by simpa using hl
    exact ⟨[], .arr0 _, rfl, by simp⟩
  | n + 1, cs, hl, h => by
    obtain ⟨x, hx, gx⟩ := h 0 (by omega)
    obtain ⟨l, hr, hn, gl⟩ := arr_R t sz n (cs.drop sz) (by rw [List.length_drop, hl, Nat.succ_mul]; omega) fun i hi => by
      obtain ⟨y, hy, gy⟩ := h (i + 1) (by omega)
      refine ⟨y, ?_, gy⟩
      rw [List.drop_drop]
      rw [show sz + i * sz = (i + 1) * sz by rw [Nat.succ_mul]; omega]
      exact hy
    refine ⟨x :: l, ?_, by simp [hn], by simpa using ⟨gx, gl⟩⟩
    have := R.arrS hx hr
    simpa using this
theorem sl_R {W : World} (t : C.Ty) (b sz : Nat) : ∀ (n off : Nat), (∀ i, i < n → ∃ (x : C.A t) (ci : List Value), R T (X0 W) false (T.enc t x) ci ∧ ci.length = sz ∧ (∀ j, j < sz → W.cell? ⟨b, off + i * sz + j, none⟩ = ci[j]?) ∧ gA t x) →
    ∃ (l : List (C.A t)) (cs : List Value), R T (X0 W) false (.arr t n l) cs ∧ l.length = n ∧ (X0 W).at b off cs ∧ ∀ x ∈ l, gA t x
  | 0, off, _ => ⟨[], [], .arr0 _, rfl, fun j v h => by simp at h, by simp⟩
  | n + 1, off, h => by
    obtain ⟨x, ci, hx, hlen, hc, gx⟩ := h 0 (by omega)
    obtain ⟨l, cs, hr, hn, hat, gl⟩ := sl_R t b sz n (off + sz) fun i hi => by
      obtain ⟨y, c2, hy, h2, h3, gy⟩ := h (i + 1) (by omega)
      refine ⟨y, c2, hy, h2, fun j hj => ?_, gy⟩
      have := h3 j hj
      rwa [show off + (i + 1) * sz + j = off + sz + i * sz + j by rw [Nat.succ_mul]; omega] at this
    refine ⟨x :: l, ci ++ cs, .arrS hx hr, by simp [hn], fun j v hj => ⟨?_, X0_free _ _ _⟩, by simpa using ⟨gx, gl⟩⟩
    by_cases hlt : j < ci.length
    · rw [List.getElem?_append_left hlt] at hj
      have := hc j (by omega)
      simp only [Nat.zero_mul, Nat.add_zero] at this
      exact this.trans hj
    · rw [List.getElem?_append_right (by omega)] at hj
      have := (hat _ _ hj).1
      rwa [show off + sz + (j - ci.length) = off + j by omega] at this
theorem st_R {X : Cx} : ∀ (fs : List TypeId) (cs : List Value), (∀ i f, fs[i]? = some f → ∃ d, R T X false d ((cs.drop (sumSz T (fs.take i))).take (T.size f)) ∧ fit T d (.inl f) = true ∧ good gA d ∧ d.refs = []) →
    ∃ d, R T X false d (cs.take (sumSz T fs)) ∧ fit T d (.inr fs) = true ∧ good gA d ∧ d.refs = [] ∧ d.isRow = true ∧ (∀ t a, T.ty t = .struct a fs → fit T d (.inl t) = true)
  | [], cs, _ => ⟨.anil, by simpa [sumSz] using R.anil, rfl, trivial, rfl, rfl, fun t a ht => by simp [fit, ht]⟩
  | f :: fs, cs, h => by
    obtain ⟨d, hd, fd, gd, rd⟩ := h 0 f rfl
    obtain ⟨ds, hr, fr, gr, rr, _, _⟩ := st_R fs (cs.drop (T.size f)) fun i g hg => by
      obtain ⟨e, he, h2⟩ := h (i + 1) g (by simpa using hg)
      refine ⟨e, ?_, h2⟩
      simpa [sumSz, List.drop_drop] using he
    refine ⟨.acons d ds, ?_, by simp [fit, fd, fr], ⟨gd, gr⟩, by simp [D.refs, rd, rr], rfl, fun t a ht => by simp [fit, ht, fd, fr]⟩
    have := R.acons hd hr
    simpa [sumSz, List.take_add] using this
theorem cellsOf_info {t : TypeId} {i : TypeInfo} (h : P.info? t = some i) : P.cellsOf t = i.size := by
  simp [Program.cellsOf, h]
theorem trod_R (K : PLaws P T) (hd : Dec T gA) {H : Type} {enc : TypeId × Value → H} {W : World} : ∀ (k : Nat) (t : TypeId), plainT T k t = true → ∀ (fuel : Nat) (cs : List Value) (x : DataW H × List MemPlace), DataW.trod enc P W 0 (fun _ => true) true fuel t cs = some x →
    ∃ d, R T (X0 W) false d cs ∧ fit T d (.inl t) = true ∧ good gA d ∧ d.refs = [] := by
  intro k
  induction k with
  | zero => intro t h; simp [plainT] at h
  | succ k ih =>
    intro t hp fuel cs x h
    unfold plainT at hp
    split at hp
    · rename_i ht
      obtain ⟨b, rfl, _⟩ := DataW.trod_bool (K.uBool t ht) h
      exact ⟨.bool b, .bool b, by simp [fit, ht], trivial, rfl⟩
    · rename_i kd ht
      obtain ⟨n, rfl, _, hw⟩ := DataW.trod_int (K.uInt t kd ht) h
      have hw' : kd.min ≤ n ∧ n ≤ kd.max := by simpa [Lit.wf] using hw
      exact ⟨.int kd n, .int hw', by simp [fit, ht], hw', rfl⟩
    · rename_i ht
      obtain ⟨s, rfl, _, hs⟩ := DataW.trod_string (K.uStr t ht) h
      exact ⟨.str s.data.toList, .str s.data.toList, by simp [fit, ht], by simpa [good] using hs, rfl⟩
    · rename_i isA fs ht
      cases isA with
      | true =>
        obtain ⟨el, hu, hfs, hpos, inf, hi1, hi2⟩ := K.uRow t fs ht
        obtain ⟨xs, m, _, _, hlen, hxs, hel⟩ := DataW.trod_array hu h
        have hget : ∀ i f, fs[i]? = some f → f = el ∧ i < fs.length := fun i f hf => by
          have := (List.getElem?_eq_some_iff.1 hf).1
          rw [hfs, List.getElem?_replicate] at hf
          simp at hf
          exact ⟨hf.2.symm, this⟩
        have hsum : ∀ i, i ≤ fs.length → sumSz T (fs.take i) = i * T.size el := by
          intro i hi
          rw [hfs, List.take_replicate, Nat.min_eq_left hi]
          clear hi
          induction i with
          | zero => simp [sumSz]
          | succ i ih => simp only [List.replicate_succ, sumSz, ih]; rw [Nat.succ_mul]; omega
        obtain ⟨d, hr, _, gd, rd, _, hfit⟩ := st_R (T := T) (X := X0 W) (gA := gA) fs cs fun i f hf => by
          obtain ⟨rfl, hi⟩ := hget i f hf
          have := hel i hi
          rw [cellsOf_info hi1, hi2] at this
          have hx : xs[i]? = some xs[i] := by simp [hxs, hi]
          rw [hx] at this
          obtain ⟨d, h1, h2, h3, h4⟩ := ih f (List.all_eq_true.1 hp _ (List.mem_of_getElem? hf)) m _ _ this
          refine ⟨d, ?_, h2, h3, h4⟩
          rw [hsum i (by omega)]; exact h1
        obtain ⟨inf, hi1, hi2⟩ := K.info t d (hfit t _ ht)
        rw [cellsOf_info hi1, hi2, K.base.szStruct t _ fs ht] at hlen
        rw [← hlen, List.take_length] at hr
        exact ⟨d, hr, hfit t _ ht, gd, rd⟩
      | false =>
        obtain ⟨fields, hu, hfs, hoff, _⟩ := K.uStruct t fs ht
        obtain ⟨xs, n, _, _, hlen, hxs, hel⟩ := DataW.trod_struct hu h
        obtain ⟨d, hr, _, gd, rd, _, hfit⟩ := st_R (T := T) (X := X0 W) (gA := gA) fs cs fun i f hf => by
          rw [← hfs, List.getElem?_map] at hf
          cases hfi : fields.toList[i]? with
          | none => simp [hfi] at hf
          | some fld =>
            simp only [hfi, Option.map_some, Option.some.injEq] at hf
            have hfa : fields[i]? = some fld := by rw [← Array.getElem?_toList]; exact hfi
            have := hel i fld hfa
            have hx : ∃ y, xs[i]? = some y := by
              have : i < fields.size := (Array.getElem?_eq_some_iff.1 hfa).1
              exact ⟨xs[i], by simp [hxs, this]⟩
            obtain ⟨y, hy⟩ := hx
            rw [hy] at this
            subst hf
            have hmem : fld.type ∈ fs := by rw [← hfs]; exact List.mem_map.2 ⟨fld, by exact List.mem_of_getElem? hfi, rfl⟩
            obtain ⟨d, h1, h2, h3, h4⟩ := ih fld.type (List.all_eq_true.1 hp _ hmem) n _ _ this
            obtain ⟨inf, hi1, hi2, _⟩ := K.uField t fs fld.type ht hmem
            refine ⟨d, ?_, h2, h3, h4⟩
            rw [hoff i fld hfa, cellsOf_info hi1, hi2] at h1
            exact h1
        obtain ⟨inf, hi1, hi2⟩ := K.info t d (hfit t _ ht)
        rw [cellsOf_info hi1, hi2, K.base.szStruct t _ fs ht] at hlen
        rw [← hlen, List.take_length] at hr
        exact ⟨d, hr, hfit t _ ht, gd, rd⟩
    · rename_i n e ct ht
      obtain ⟨hu, _⟩ := K.uArr t n e ct ht
      obtain ⟨xs, m, _, _, hlen, hxs, hel⟩ := DataW.trod_array hu h
      obtain ⟨inf, z, hi1, hi2, _⟩ := K.uElem t e ct (.inl ⟨n, ht⟩)
      obtain ⟨it, hj1, hj2⟩ := K.info t (.arr ct n []) (by simp [fit, ht])
      obtain ⟨hs1, hs2, hs3⟩ := K.base.szArr t n e ct ht
      rw [cellsOf_info hj1, hj2, hs1] at hlen
      obtain ⟨l, hr, hn, gl⟩ := arr_R (T := T) (X := X0 W) (gA := gA) ct (T.size e) n cs hlen fun i hi => by
        have := hel i hi
        rw [cellsOf_info hi1, hi2] at this
        have hx : xs[i]? = some xs[i] := by simp [hxs, hi]
        rw [hx] at this
        obtain ⟨d, h1, h2, h3, h4⟩ := ih e hp m _ _ this
        obtain ⟨x, h5, h6⟩ := hd.dec ct d (by rw [← fit_congr hs2]; exact h2) h4 h3 ⟨k, e, hs2, hp⟩
        exact ⟨x, K.base.decR _ _ _ _ _ h5 h1, h6⟩
      exact ⟨.arr ct n l, hr, by simp [fit, ht], ⟨hn, gl⟩, rfl⟩
    · rename_i e ct ht
      have hu := K.uSl t e ct ht
      obtain ⟨inf, z, hi1, hi2, _, _, hpos, _⟩ := K.uElem t e ct (.inr ht)
      obtain ⟨hs1, hs2, hs3⟩ := K.base.szSl t e ct ht
      rcases DataW.trod_slice hu h with ⟨rfl, _⟩ | ⟨a, len, cap, elems, rest, m, _, rfl, _, _, hlc, hcm, hel, he, hrest, _⟩
      · exact ⟨.sl ct false [], .sl0 _ _ _, by simp [fit, ht], by simp [good], rfl⟩
      · by_cases hc0 : cap = 0
        · subst hc0
          obtain rfl : len = 0 := by omega
          exact ⟨.sl ct false [], .sl0 _ _ _, by simp [fit, ht], by simp [good], rfl⟩
        · have hspot : a.spot = none := by
            have key : ∀ i y, i = 0 → (W.cells? 0 (a.add (i * P.cellsOf e)) (P.cellsOf e)).bind (DataW.trod enc P W 0 (fun _ => true) true m e) = some y → a.spot = none := by
              intro i y hi0 hy
              subst hi0
              rw [cellsOf_info hi1, hi2] at hy
              cases hcs : W.cells? 0 (a.add (0 * T.size e)) (T.size e) with
              | none => rw [hcs] at hy; cases hy
              | some ci =>
                obtain ⟨_, h2, h3⟩ := World.cells?_some hcs
                have h4 := h3 0 hpos
                have h5 : ci[0]? = some ci[0] := by simp
                rw [h5] at h4
                have := World.cell?_spot h4
                simpa [Addr.add] using this
            by_cases hl0 : 0 < len
            · have := he 0 hl0
              have hx : elems[0]? = some elems[0] := by simp
              exact key 0 _ rfl (this.trans hx)
            · have hr2 := hrest rfl
              have := hr2.2 0 (by omega)
              have h0 : 0 < rest.length := by omega
              have hx : rest[0]? = some rest[0] := by simp
              exact key _ _ (by omega) (this.trans hx)
          obtain ⟨b, off, sp⟩ := a
          simp only at hspot
          subst hspot
          obtain ⟨l, cs, hr, hn, hat, gl⟩ := sl_R (T := T) (W := W) (gA := gA) ct b (T.size e) len off fun i hi => by
            have := he i hi
            have hx : elems[i]? = some elems[i] := by simp [hel, hi]
            rw [hx, cellsOf_info hi1, hi2] at this
            cases hcs : W.cells? 0 ((⟨b, off, none⟩ : Addr).add (i * T.size e)) (T.size e) with
            | none => simp [hcs] at this
            | some ci =>
              simp only [hcs, Option.bind_some] at this
              obtain ⟨_, h2, h3⟩ := World.cells?_some hcs
              obtain ⟨d, k1, k2, k3, k4⟩ := ih e hp m _ _ this
              obtain ⟨x, k5, k6⟩ := hd.dec ct d (by rw [← fit_congr hs2]; exact k2) k4 k3 ⟨k, e, hs2, hp⟩
              refine ⟨x, ci, K.base.decR _ _ _ _ _ k5 k1, h2, fun j hj => ?_, k6⟩
              have := h3 j hj
              rwa [add_plain, add_plain] at this
          subst hn
          exact ⟨.sl ct false l, .sl hat hr hlc (by simp), by simp [fit, ht], ⟨by omega, gl⟩, rfl⟩
    · cases hp
theorem okWide_row (K : PLaws P T) {W : World} {r : Reach} {base : Nat} {t : TypeId} {v : Value} {d : D C} (hv : Value.okWide P W r base t v) (hp : ∃ k, plainT T k t = true) (hf : fit T d (.inl t) = true) (hr : R T (X0 W) false d v.cells.toList) (hrf : d.refs = []) : RV T (X0 W) d v := by
  obtain ⟨k, hp⟩ := hp
  cases k with
  | zero => simp [plainT] at hp
  | succ k =>
    unfold plainT at hp
    split at hp
    · rename_i ht
      obtain ⟨b, rfl⟩ := okWide_bool (K.uBool t ht) hv
      refine .inr ⟨?_, by simpa [Value.cells] using hr⟩
      cases d <;> simp [fit, ht] at hf <;> rfl
    · rename_i kd ht
      obtain ⟨b, rfl⟩ := okWide_int (K.uInt t kd ht) hv
      refine .inr ⟨?_, by simpa [Value.cells] using hr⟩
      cases d <;> simp [fit, ht] at hf <;> rfl
    · rename_i ht
      obtain ⟨b, rfl⟩ := okWide_string (K.uStr t ht) hv
      refine .inr ⟨?_, by simpa [Value.cells] using hr⟩
      cases d <;> simp [fit, ht] at hf <;> rfl
    · rename_i isA fs ht
      have : ∃ cs, v = .agg cs := by
        cases isA with
        | false =>
          obtain ⟨fields, hu, _⟩ := K.uStruct t fs ht
          obtain ⟨cs, rfl, _⟩ := okWide_struct hu hv
          exact ⟨cs, rfl⟩
        | true =>
          obtain ⟨el, hu, _⟩ := K.uRow t fs ht
          simp only [Value.okWide, hu] at hv
          obtain ⟨cs, rfl, _⟩ := hv
          exact ⟨cs, rfl⟩
      obtain ⟨cs, rfl⟩ := this
      refine .inl ⟨?_, cs.toList, by simpa [Value.cells] using hr, rfl⟩
      cases d <;> simp [fit, ht] at hf <;> rfl
    · rename_i n e ct ht
      obtain ⟨hu, _⟩ := K.uArr t n e ct ht
      have : ∃ cs, v = .agg cs := by
        simp only [Value.okWide, hu] at hv
        obtain ⟨cs, rfl, _⟩ := hv
        exact ⟨cs, rfl⟩
      obtain ⟨cs, rfl⟩ := this
      refine .inl ⟨?_, cs.toList, by simpa [Value.cells] using hr, rfl⟩
      cases d <;> simp [fit, ht] at hf <;> rfl
    · rename_i e ct ht
      obtain ⟨a, len, cap, rfl⟩ := okWide_slice (K.uSl t e ct ht) hv
      refine .inr ⟨?_, by simpa [Value.cells] using hr⟩
      cases d <;> simp [fit, ht] at hf <;> rfl
    · cases hp
inductive Fits (T : Tab C) (gA : (t : C.Ty) → C.A t → Prop) : List TypeId → List (D C) → Prop
  | nil : Fits T gA [] []
  | cons {t : TypeId} {ts : List TypeId} {d : D C} {ds : List (D C)} (hf : fit T d (.inl t) = true) (hg : good gA d) (hr : d.refs = []) (h : Fits T gA ts ds) : Fits T gA (t :: ts) (d :: ds)
theorem Fits.refs {ts : List TypeId} {ds : List (D C)} (h : Fits T gA ts ds) : ∀ a ∈ ds, D.refs a = [] := by
  induction h with
  | nil => simp
  | cons _ _ hr _ ih => simpa using ⟨hr, ih⟩
theorem trodAll_R (K : PLaws P T) (hd : Dec T gA) {H : Type} {enc : TypeId × Value → H} {W : World} {r : Reach} {base : Nat} : ∀ (ts : List TypeId) (vs : List Value) (ds : List (DataW H)) (ps : List MemPlace), (∀ t ∈ ts, ∃ k, plainT T k t = true) →
    (∀ (j : Nat) t v, ts[j]? = some t → vs[j]? = some v → Value.okWide P W r base t v) → DataW.TrodAll enc P W 0 (fun _ => true) true ts vs ds ps → ∃ al, Fits T gA ts al ∧ RVs T (X0 W) al vs
  | [], vs, ds, ps, _, _, h => by
    obtain ⟨rfl, rfl, rfl⟩ := trodAll_nil h
    exact ⟨[], .nil, .nil⟩
  | t :: ts, vs, ds, ps, hp, hv, h => by
    obtain ⟨v, vs1, d, ds1, p, q, rfl, rfl, rfl, ⟨fuel, h1⟩, h2⟩ := trodAll_cons h
    obtain ⟨al, f1, r1⟩ := trodAll_R K hd ts vs1 ds1 q (fun t ht => hp t (by simp [ht])) (fun j t v a b => hv (j + 1) t v (by simpa using a) (by simpa using b)) h2
    obtain ⟨k, hk⟩ := hp t (by simp)
    obtain ⟨a, k1, k2, k3, k4⟩ := trod_R K hd k t hk fuel _ _ h1
    exact ⟨a :: al, .cons k2 k3 k4 f1, .cons (okWide_row K (hv 0 t v rfl rfl) ⟨k, hk⟩ k2 k1 k4) r1⟩
theorem stays (hl : laidOutB P = true) {H : Type} {enc : TypeId × Value → H} {W W' : World} {sp : Nat → Bool} : ∀ (ts : List TypeId) (vs : List Value) (ds : List (DataW H)) (ps : List MemPlace), (∀ t ∈ ts, P.readableRec t = true ∧ t < P.types.size) →
    DataW.TrodAll enc P W 0 (fun _ => true) true ts vs ds ps → (∀ p ∈ ps, W.sameAt W' p) → (∀ p ∈ ps, sp p.block = true) → DataW.TrodAll enc P W' 0 sp true ts vs ds ps
  | [], vs, ds, ps, _, h, _, _ => by
    obtain ⟨rfl, rfl, rfl⟩ := trodAll_nil h
    exact trodAll_mk0
  | t :: ts, vs, ds, ps, ht, h, h3, h4 => by
    obtain ⟨v, vs1, d, ds1, p, q, rfl, rfl, rfl, h1, h2⟩ := trodAll_cons h
    exact trodAll_cons_mk (WideElems.Trod_stays hl (ht t (by simp)).1 (ht t (by simp)).2 h1 (fun x hx => h3 x (by simp [hx])) (fun x hx => h4 x (by simp [hx])))
      (stays hl ts vs1 ds1 q (fun t h => ht t (by simp [h])) h2 (fun x hx => h3 x (by simp [hx])) (fun x hx => h4 x (by simp [hx])))
theorem post_same_old {H : Type} {enc : TypeId × Value → H} {f : Func} {s : ChangeSpec} {apart fresh handsOn again : Bool} {W W' : World} {args : Array Value} {v : Value} {ds gs : List (DataW H)} {before pa pv : List MemPlace}
    (hW : DataW.Whole enc P f.params.toList s.vars apart W args.toList ds gs before)
    (hres : ∀ (b : Nat) (sp : Nat → Bool) (hd : Bool), DataW.TrodAll enc P W' b sp hd f.resultTypes.toList (v.resultList f.resultTypes.size) (s.fn H (ds ++ gs)).results [])
    (hargs : ∀ sp : Nat → Bool, (∀ p ∈ before, sp p.block = true) → DataW.TrodAll enc P W' 0 sp true f.params.toList args.toList (s.fn H (ds ++ gs)).args pa)
    (hvars : ∀ sp : Nat → Bool, (∀ p ∈ before, sp p.block = true) → DataW.TrodVars enc P W' sp s.vars (s.fn H (ds ++ gs)).vars pv)
    (hps : before = pa ++ pv) (hk : W.keptBut W' (· ∈ before)) (hfz : ∀ a : Addr, a.block < W.heap.size → W'.frozen? a = W.frozen? a)
    (hok : ∀ (j : Nat) (t : TypeId) (r : Value), f.resultTypes[j]? = some t → (v.resultList f.resultTypes.size)[j]? = some r → Value.okWide P W' .any 0 t r) :
    s.post enc P f apart fresh handsOn again W args v W' := by
  have hold : ∀ p ∈ before, (fun b => decide (b < W.heap.size)) p.block = true := fun p hp => by simpa using hW.lt p hp
  refine ⟨ds, gs, before, [], pa, pv, hW, hres _ _ _, hargs _ hold, hvars _ hold, World.keptBut_mono (fun p hp => ⟨hp, ?_⟩) hk, fun _ => ?_⟩
  · rw [hps, List.mem_append] at hp
    exact Or.inr hp
  · have hlt := hW.lt
    obtain ⟨_, _, _, _, _, hz, hn⟩ := hW
    refine ⟨hok, _, _, ([] ++ pa) ++ pv, ⟨[] ++ pa, pv, trodAll_append (hargs _ (fun _ _ => rfl)) (hres _ _ _), hvars _ (fun _ _ => rfl), rfl, ?_, ?_⟩, ?_⟩
    · intro b off hp
      have hb : MemPlace.cell b off ∈ before := by rw [hps]; simpa using hp
      rw [hfz _ (by simpa [MemPlace.block] using hlt _ hb)]
      exact hz b off hb
    · intro ha
      have := hn ha
      rw [hps] at this
      simpa using this
    · intro p hp _
      rw [hps]
      simpa using hp
theorem contract_of (K : PLaws P T) {Φ : Fns C} (F : FLaws P T Φ) (hd : Dec T gA) (hl : laidOutB P = true) {f : FuncId} {fn : Func} {s : ChangeSpec} {tb : TypeId} {m : Nat}
    (hres : fn.resultTypes = #[tb]) (hb : P.underlying tb = some .bool) (hvars : s.vars = [])
    (hts : fn.params.toList.all (fun t => plainT T m t && P.readableRec t && Nat.blt t P.types.size) = true)
    (hspec : ∀ (H : Type) (ds : List (DataW H)), ds.length = fn.params.toList.length → s.fn H ds = { results := [.lit (.bool true)], args := ds })
    (hev : ∀ ds : List (D C), Fits T gA fn.params.toList ds → ∃ n, evF T Φ n f ds = some (.bool true))
    (H : Type) (enc : TypeId × Value → H) (W : World) (base : Nat) (args : Array Value) (ds gs : List (DataW H)) (before : List MemPlace)
    (hval : ∀ (j : Nat) t v, fn.params[j]? = some t → args[j]? = some v → Value.okWide P W .any base t v)
    (hW : DataW.Whole enc P fn.params.toList s.vars false W args.toList ds gs before) :
    Calls P f args W fun e W' => ∃ v, e = .returned v ∧ s.post enc P fn false true false false W args v W' := by
  have hts' : ∀ t ∈ fn.params.toList, plainT T m t = true ∧ P.readableRec t = true ∧ t < P.types.size := by
    intro t ht
    have := List.all_eq_true.1 hts t ht
    simp only [Bool.and_eq_true] at this
    exact ⟨this.1.1, this.1.2, by simpa [Nat.blt_eq] using this.2⟩
  have hW' := hW
  obtain ⟨p, q, hA, hV, rfl, hfz, hnd⟩ := hW
  rw [hvars] at hV
  obtain ⟨rfl, rfl⟩ := trodVars_none hV
  obtain ⟨al, hf, hr⟩ := trodAll_R (gA := gA) K hd (r := .any) (base := base) _ _ _ _ (fun t ht => ⟨m, (hts' t ht).1⟩) (fun j t v a b => hval j t v (by rw [← Array.getElem?_toList]; exact a) (by rw [← Array.getElem?_toList]; exact b)) hA
  obtain ⟨n, hn⟩ := hev al hf
  have hc := (evF_calls K F hn hf.refs W (fun _ _ => False) (fun _ _ h => h.elim) (vs := args.toList) hr).2
  have ea : (⟨args.toList⟩ : Array Value) = args := by simp
  rw [ea] at hc
  refine hc.mono fun e W' hp => ?_
  obtain ⟨v, ρ, rfl, rv, a1, a2, a3, a4, a5, a6⟩ := hp
  obtain rfl := rv.bool
  have hlen : ds.length = fn.params.toList.length := by
    have : ∀ (ts : List TypeId) (vs : List Value) (ds : List (DataW H)) (ps : List MemPlace), DataW.TrodAll enc P W 0 (fun _ => true) true ts vs ds ps → ds.length = ts.length := by
      intro ts
      induction ts with
      | nil => intro vs ds ps h; obtain ⟨rfl, rfl, rfl⟩ := trodAll_nil h; rfl
      | cons t ts ih =>
        intro vs ds ps h
        obtain ⟨v, vs1, d, ds1, p, q, rfl, rfl, rfl, h1, h2⟩ := trodAll_cons h
        simp [ih _ _ _ h2]
    exact this _ _ _ _ hA
  have hs := hspec H ds hlen
  have hbel : Below W.heap.size W W' := ⟨a3, a4, a5, a1, a2⟩
  have hlt : ∀ x ∈ p, x.block < W.heap.size := fun x hx => by simpa using hW'.lt x (by simpa using hx)
  refine ⟨_, rfl, post_same_old (pa := p) (pv := []) hW' ?_ ?_ ?_ (by simp) (hbel.frame _) a6 ?_⟩
  · intro b sp hd
    simp only [List.append_nil]
    rw [hs, hres]
    exact trodAll_cons_mk (p := []) (p' := []) (shut_bool hb _) trodAll_mk0
  · intro sp hsp
    simp only [List.append_nil] at hsp ⊢
    rw [hs]
    exact stays hl _ _ _ _ (fun t ht => (hts' t ht).2) hA (fun x hx => hbel.same (hlt x hx)) hsp
  · intro sp hsp
    simp only [List.append_nil]
    rw [hs, hvars]
    rfl
  · exact ok_one hres rfl (okWide_bool_mk hb _)
end
def i64 (n : Int) : Prop := -9223372036854775808 ≤ n ∧ n ≤ 9223372036854775807
def inK (k : IntKind) (n : Int) : Prop := k.min ≤ n ∧ n ≤ k.max
theorem i64_of {n : Int} (h : IntKind.i64.min ≤ n ∧ n ≤ IntKind.i64.max) : i64 n := by
  simpa [i64, IntKind.min, IntKind.max, IntKind.signed, IntKind.bits] using h
section
variable {C : Cdc} {T : Tab C} {d : D C} {u : TypeId}
theorem fit_int {k : IntKind} (hu : T.ty u = .int k) (hf : fit T d (.inl u) = true) : ∃ n, d = .int k n := by
  cases d <;> simp [fit, hu] at hf
  subst hf; exact ⟨_, rfl⟩
theorem fit_bool (hu : T.ty u = .bool) (hf : fit T d (.inl u) = true) : ∃ n, d = .bool n := by
  cases d <;> simp [fit, hu] at hf
  exact ⟨_, rfl⟩
theorem fit_str (hu : T.ty u = .str) (hf : fit T d (.inl u) = true) : ∃ n, d = .str n := by
  cases d <;> simp [fit, hu] at hf
  exact ⟨_, rfl⟩
theorem fit_sl {e : TypeId} {t : C.Ty} (hu : T.ty u = .sl e t) (hf : fit T d (.inl u) = true) (hr : d.refs = []) : ∃ c l, d = .sl t c l := by
  cases d <;> simp [fit, hu] at hf
  · subst hf; exact ⟨_, _, rfl⟩
  · simp [D.refs] at hr
  · simp [D.refs] at hr
theorem fit_arr {e : TypeId} {t : C.Ty} {n : Nat} (hu : T.ty u = .arr n e t) (hf : fit T d (.inl u) = true) : ∃ l, d = .arr t n l := by
  cases d <;> simp [fit, hu] at hf
  obtain ⟨h1, h2⟩ := hf
  subst h1; subst h2; exact ⟨_, rfl⟩
theorem fit_st {a : Bool} {f : TypeId} {fs : List TypeId} (hu : T.ty u = .struct a (f :: fs)) (hf : fit T d (.inl u) = true) : ∃ x y, d = .acons x y ∧ fit T x (.inl f) = true ∧ fit T y (.inr fs) = true := by
  cases d <;> simp [fit, hu] at hf
  exact ⟨_, _, rfl, hf.1, hf.2⟩
theorem fit_more {f : TypeId} {fs : List TypeId} (hf : fit T d (.inr (f :: fs)) = true) : ∃ a b, d = .acons a b ∧ fit T a (.inl f) = true ∧ fit T b (.inr fs) = true := by
  cases d <;> simp [fit] at hf
  exact ⟨_, _, rfl, hf.1, hf.2⟩
theorem fit_end (hf : fit T d (.inr []) = true) : d = .anil := by
  cases d <;> simp [fit] at hf
  rfl
end
open Go.Proofs Go.ChangeShapes Go.WideShapes Go.ChangeAt Go.RowKit
def goodWrite (x : Write) : Prop := i64 (x.key) ∧ i64 (x.value)
def goodRec (x : Rec) : Prop := i64 (x.place) ∧ True ∧ ((x.writes).length ≤ maxLen ∧ ∀ y ∈ (x.writes), goodWrite (y))
def goodPick (x : Pick) : Prop := i64 (x.client) ∧ i64 (x.do_) ∧ i64 (x.part) ∧ i64 (x.from_)
def goodLine (x : Line) : Prop := i64 (x.offset) ∧ i64 (x.place) ∧ i64 (x.j) ∧ i64 (x.key) ∧ i64 (x.value)
def goodSector (x : Sector) : Prop := i64 (x.n) ∧ (x.b).length ≤ maxLen
def goodFrame (x : Frame) : Prop := inK .i8 (x.prog) ∧ i64 (x.at') ∧ ((x.r).length = 96 ∧ ∀ y ∈ (x.r), i64 (y))
def goodTask (x : Task) : Prop := i64 (x.client) ∧ ((x.stack).length ≤ maxLen ∧ ∀ y ∈ (x.stack), goodFrame (y)) ∧ ((x.got).length ≤ maxLen ∧ ∀ y ∈ (x.got), i64 (y)) ∧ True
def rGood : (t : RTy) → RA t → Prop
  | .bool => fun (x : Bool) => True
  | .frame => fun (x : Frame) => goodFrame (x)
  | .int => fun (x : Int) => i64 (x)
  | .line => fun (x : Line) => goodLine (x)
  | .pick => fun (x : Pick) => goodPick (x)
  | .recd => fun (x : Rec) => goodRec (x)
  | .sector => fun (x : Sector) => goodSector (x)
  | .task => fun (x : Task) => goodTask (x)
  | .write => fun (x : Write) => goodWrite (x)
theorem ty85 : s19.ty 85 = .struct false [3, 3] := by kernel_rfl
theorem ty3 : s19.ty 3 = .int .i64 := by kernel_rfl
theorem asWrite {d : D RC} (hf : fit s19 d (.inl 85) = true) (hg : good rGood d) (hr : d.refs = []) : ∃ x : Write, d = eWrite x ∧ goodWrite x := by
  obtain ⟨d0, r0, rfl, f0, hf⟩ := fit_st ty85 hf
  obtain ⟨d1, r1, rfl, f1, hf⟩ := fit_more hf
  obtain rfl := fit_end hf
  simp only [D.refs, List.append_eq_nil_iff] at hr
  obtain ⟨g0, g1, _⟩ := hg
  obtain ⟨q0, q1, _⟩ := hr
  obtain ⟨n0, rfl⟩ := fit_int ty3 f0
  obtain ⟨n1, rfl⟩ := fit_int ty3 f1
  exact ⟨⟨n0, n1⟩, rfl, i64_of g0, i64_of g1⟩
theorem dWrite_e (x : Write) (hx : goodWrite x) : dWrite (eWrite x) = some x := by
  simp only [goodWrite] at hx
  simp [dWrite, eWrite, D.asList, asArrN, hx]
theorem ty68 : s19.ty 68 = .struct false [3, 4, 66] := by kernel_rfl
theorem ty4 : s19.ty 4 = .bool := by kernel_rfl
theorem ty66 : s19.ty 66 = .sl 85 .write := by kernel_rfl
theorem asRec {d : D RC} (hf : fit s19 d (.inl 68) = true) (hg : good rGood d) (hr : d.refs = []) : ∃ (x : Rec) (c0 : Bool), d = eRecC x c0 ∧ goodRec x := by
  obtain ⟨d0, r0, rfl, f0, hf⟩ := fit_st ty68 hf
  obtain ⟨d1, r1, rfl, f1, hf⟩ := fit_more hf
  obtain ⟨d2, r2, rfl, f2, hf⟩ := fit_more hf
  obtain rfl := fit_end hf
  simp only [D.refs, List.append_eq_nil_iff] at hr
  obtain ⟨g0, g1, g2, _⟩ := hg
  obtain ⟨q0, q1, q2, _⟩ := hr
  obtain ⟨n0, rfl⟩ := fit_int ty3 f0
  obtain ⟨n1, rfl⟩ := fit_bool ty4 f1
  obtain ⟨k2, n2, rfl⟩ := fit_sl ty66 f2 q2
  exact ⟨⟨n0, n1, n2⟩, k2, rfl, i64_of g0, trivial, g2⟩
theorem dRec_e (x : Rec) (c0 : Bool) (hx : goodRec x) : dRec (eRecC x c0) = some x := by
  simp only [goodRec] at hx
  simp [dRec, eRecC, D.asList, asArrN, hx]
theorem ty35 : s19.ty 35 = .struct false [3, 3, 3, 3] := by kernel_rfl
theorem asPick {d : D RC} (hf : fit s19 d (.inl 35) = true) (hg : good rGood d) (hr : d.refs = []) : ∃ x : Pick, d = ePick x ∧ goodPick x := by
  obtain ⟨d0, r0, rfl, f0, hf⟩ := fit_st ty35 hf
  obtain ⟨d1, r1, rfl, f1, hf⟩ := fit_more hf
  obtain ⟨d2, r2, rfl, f2, hf⟩ := fit_more hf
  obtain ⟨d3, r3, rfl, f3, hf⟩ := fit_more hf
  obtain rfl := fit_end hf
  simp only [D.refs, List.append_eq_nil_iff] at hr
  obtain ⟨g0, g1, g2, g3, _⟩ := hg
  obtain ⟨q0, q1, q2, q3, _⟩ := hr
  obtain ⟨n0, rfl⟩ := fit_int ty3 f0
  obtain ⟨n1, rfl⟩ := fit_int ty3 f1
  obtain ⟨n2, rfl⟩ := fit_int ty3 f2
  obtain ⟨n3, rfl⟩ := fit_int ty3 f3
  exact ⟨⟨n0, n1, n2, n3⟩, rfl, i64_of g0, i64_of g1, i64_of g2, i64_of g3⟩
theorem dPick_e (x : Pick) (hx : goodPick x) : dPick (ePick x) = some x := by
  simp only [goodPick] at hx
  simp [dPick, ePick, D.asList, asArrN, hx]
theorem ty55 : s19.ty 55 = .struct false [3, 3, 3, 3, 3] := by kernel_rfl
theorem asLine {d : D RC} (hf : fit s19 d (.inl 55) = true) (hg : good rGood d) (hr : d.refs = []) : ∃ x : Line, d = eLine x ∧ goodLine x := by
  obtain ⟨d0, r0, rfl, f0, hf⟩ := fit_st ty55 hf
  obtain ⟨d1, r1, rfl, f1, hf⟩ := fit_more hf
  obtain ⟨d2, r2, rfl, f2, hf⟩ := fit_more hf
  obtain ⟨d3, r3, rfl, f3, hf⟩ := fit_more hf
  obtain ⟨d4, r4, rfl, f4, hf⟩ := fit_more hf
  obtain rfl := fit_end hf
  simp only [D.refs, List.append_eq_nil_iff] at hr
  obtain ⟨g0, g1, g2, g3, g4, _⟩ := hg
  obtain ⟨q0, q1, q2, q3, q4, _⟩ := hr
  obtain ⟨n0, rfl⟩ := fit_int ty3 f0
  obtain ⟨n1, rfl⟩ := fit_int ty3 f1
  obtain ⟨n2, rfl⟩ := fit_int ty3 f2
  obtain ⟨n3, rfl⟩ := fit_int ty3 f3
  obtain ⟨n4, rfl⟩ := fit_int ty3 f4
  exact ⟨⟨n0, n1, n2, n3, n4⟩, rfl, i64_of g0, i64_of g1, i64_of g2, i64_of g3, i64_of g4⟩
theorem dLine_e (x : Line) (hx : goodLine x) : dLine (eLine x) = some x := by
  simp only [goodLine] at hx
  simp [dLine, eLine, D.asList, asArrN, hx]
theorem ty151 : s19.ty 151 = .struct false [3, 9] := by kernel_rfl
theorem ty9 : s19.ty 9 = .str := by kernel_rfl
theorem asSector {d : D RC} (hf : fit s19 d (.inl 151) = true) (hg : good rGood d) (hr : d.refs = []) : ∃ x : Sector, d = eSector x ∧ goodSector x := by
  obtain ⟨d0, r0, rfl, f0, hf⟩ := fit_st ty151 hf
  obtain ⟨d1, r1, rfl, f1, hf⟩ := fit_more hf
  obtain rfl := fit_end hf
  simp only [D.refs, List.append_eq_nil_iff] at hr
  obtain ⟨g0, g1, _⟩ := hg
  obtain ⟨q0, q1, _⟩ := hr
  obtain ⟨n0, rfl⟩ := fit_int ty3 f0
  obtain ⟨n1, rfl⟩ := fit_str ty9 f1
  exact ⟨⟨n0, n1⟩, rfl, i64_of g0, g1⟩
theorem dSector_e (x : Sector) (hx : goodSector x) : dSector (eSector x) = some x := by
  simp only [goodSector] at hx
  simp [dSector, eSector, D.asList, asArrN, hx]
theorem ty73 : s19.ty 73 = .struct false [70, 3, 71] := by kernel_rfl
theorem ty70 : s19.ty 70 = .int .i8 := by kernel_rfl
theorem ty71 : s19.ty 71 = .arr 96 3 .int := by kernel_rfl
theorem asFrame {d : D RC} (hf : fit s19 d (.inl 73) = true) (hg : good rGood d) (hr : d.refs = []) : ∃ x : Frame, d = eFrame x ∧ goodFrame x := by
  obtain ⟨d0, r0, rfl, f0, hf⟩ := fit_st ty73 hf
  obtain ⟨d1, r1, rfl, f1, hf⟩ := fit_more hf
  obtain ⟨d2, r2, rfl, f2, hf⟩ := fit_more hf
  obtain rfl := fit_end hf
  simp only [D.refs, List.append_eq_nil_iff] at hr
  obtain ⟨g0, g1, g2, _⟩ := hg
  obtain ⟨q0, q1, q2, _⟩ := hr
  obtain ⟨n0, rfl⟩ := fit_int ty70 f0
  obtain ⟨n1, rfl⟩ := fit_int ty3 f1
  obtain ⟨n2, rfl⟩ := fit_arr ty71 f2
  exact ⟨⟨n0, n1, n2⟩, rfl, g0, i64_of g1, g2⟩
theorem dFrame_e (x : Frame) (hx : goodFrame x) : dFrame (eFrame x) = some x := by
  simp only [goodFrame] at hx
  simp [dFrame, eFrame, D.asList, asArrN, hx]
theorem ty48 : s19.ty 48 = .struct false [3, 46, 36, 4] := by kernel_rfl
theorem ty46 : s19.ty 46 = .sl 73 .frame := by kernel_rfl
theorem ty36 : s19.ty 36 = .sl 3 .int := by kernel_rfl
theorem asTask {d : D RC} (hf : fit s19 d (.inl 48) = true) (hg : good rGood d) (hr : d.refs = []) : ∃ (x : Task) (c0 c1 : Bool), d = eTaskC x c0 c1 ∧ goodTask x := by
  obtain ⟨d0, r0, rfl, f0, hf⟩ := fit_st ty48 hf
  obtain ⟨d1, r1, rfl, f1, hf⟩ := fit_more hf
  obtain ⟨d2, r2, rfl, f2, hf⟩ := fit_more hf
  obtain ⟨d3, r3, rfl, f3, hf⟩ := fit_more hf
  obtain rfl := fit_end hf
  simp only [D.refs, List.append_eq_nil_iff] at hr
  obtain ⟨g0, g1, g2, g3, _⟩ := hg
  obtain ⟨q0, q1, q2, q3, _⟩ := hr
  obtain ⟨n0, rfl⟩ := fit_int ty3 f0
  obtain ⟨k1, n1, rfl⟩ := fit_sl ty46 f1 q1
  obtain ⟨k2, n2, rfl⟩ := fit_sl ty36 f2 q2
  obtain ⟨n3, rfl⟩ := fit_bool ty4 f3
  exact ⟨⟨n0, n1, n2, n3⟩, k1, k2, rfl, i64_of g0, g1, g2, trivial⟩
theorem dTask_e (x : Task) (c0 c1 : Bool) (hx : goodTask x) : dTask (eTaskC x c0 c1) = some x := by
  simp only [goodTask] at hx
  simp [dTask, eTaskC, D.asList, asArrN, hx]
theorem decs : Dec s19 rGood where
  dec t d hf hr hg _ := by
    cases t with
    | bool =>
      obtain ⟨n, rfl⟩ := fit_bool ty4 hf
      exact ⟨n, rfl, trivial⟩
    | frame =>
      obtain ⟨x, rfl, hx⟩ := asFrame hf hg hr
      exact ⟨x, dFrame_e x hx, hx⟩
    | int =>
      obtain ⟨n, rfl⟩ := fit_int ty3 hf
      exact ⟨n, by simp [s19, mkTab, rCod, rDec, dIntK], i64_of hg⟩
    | line =>
      obtain ⟨x, rfl, hx⟩ := asLine hf hg hr
      exact ⟨x, dLine_e x hx, hx⟩
    | pick =>
      obtain ⟨x, rfl, hx⟩ := asPick hf hg hr
      exact ⟨x, dPick_e x hx, hx⟩
    | recd =>
      obtain ⟨x, c0, rfl, hx⟩ := asRec hf hg hr
      exact ⟨x, dRec_e x c0 hx, hx⟩
    | sector =>
      obtain ⟨x, rfl, hx⟩ := asSector hf hg hr
      exact ⟨x, dSector_e x hx, hx⟩
    | task =>
      obtain ⟨x, c0, c1, rfl, hx⟩ := asTask hf hg hr
      exact ⟨x, dTask_e x c0 c1 hx, hx⟩
    | write =>
      obtain ⟨x, rfl, hx⟩ := asWrite hf hg hr
      exact ⟨x, dWrite_e x hx, hx⟩
theorem own : ownKnob Tryz.prog.godebug = none := by kernel_rfl
theorem laidOut : laidOutB Tryz.prog = true := by kernel_rfl
end Go.Ev

namespace Go.Proofs.YtkmlajifcoomcaaGreat
open Go.ChangeShapes Go.WideShapes Go.ChangeAt Go.RowKit Go.Ev
set_option linter.unusedVariables false
set_option maxRecDepth 100000
namespace streamPlays
theorem ev (ds : List (D RC)) (h : Fits s19 rGood Tryz.f6.params.toList ds) : ∃ n, evF s19 un_3 n 6 ds = some (.bool true) := by
  rw [Tryz.params6] at h
  cases h with
  | cons hf0 hg0 hr0 h =>
  cases h with
  | cons hf1 hg1 hr1 h =>
  cases h with
  | nil =>
    obtain ⟨c0, x0, rfl⟩ := fit_sl (show s19.ty 22 = .sl 68 .recd by kernel_rfl) hf0 hr0
    obtain ⟨c1, x1, rfl⟩ := fit_sl (show s19.ty 23 = .sl 35 .pick by kernel_rfl) hf1 hr1
    have key := plays19_ok c0 x0 c1 x1 (by rw [Bool.and_eq_true, Bool.and_eq_true]; exact ⟨⟨lenOK_of (show x0.length ≤ 9223372036854775807 from Nat.le_trans hg0.1 (by decide)), List.all_eq_true.2 fun r hr => by have h9 : goodRec r := hg0.2 r hr; unfold goodRec at h9; exact lenOK_of (show r.writes.length ≤ 9223372036854775807 from Nat.le_trans h9.2.2.1 (by decide))⟩, lenOK_of (show x1.length ≤ 9223372036854775807 from Nat.le_trans hg1.1 (by decide))⟩)
    unfold plays19_e at key
    exact ⟨200, key⟩
theorem lifted (os : Os) (started : os.Started) (H : Type) (enc : TypeId × Value → H) :
    ReturnsInHanded {} Tryz.checked os 6 .any (Rows.streamPlaysSpec.pre6 enc Tryz.prog Tryz.f6 Rows.streamPlaysRow.domain false) (Rows.streamPlaysSpec.post enc Tryz.prog Tryz.f6 false true false false) := by
  refine returnsInHanded_of_change (C := Tryz.checked) own started (by kernel_rfl) Tryz.func6
    (ChangeSpec.witness6 (enc := enc) (C := Tryz.checked) false ⟨#[], #[.slice none 0 0, .slice none 0 0], []⟩ 8 (by kernel_rfl) (by kernel_rfl) (by kernel_rfl) (by kernel_rfl)) ?_
  intro W base args ds gs before hval hW _ _
  refine contract_of (gA := rGood) (m := 8) s19_laws un_3_laws decs laidOut (tb := 4) (by kernel_rfl) Tryz.underlying4 rfl (by kernel_rfl) ?_ ev H enc W base args ds gs before hval hW
  intro H ds h
  rw [Tryz.params6] at h
  match ds, h with
  | [d0, d1], _ => rfl
theorem over : Rows.streamPlaysRow.holds Tryz.pinned (OpenSpec.ofChange Rows.streamPlaysSpec) :=
  OpenClaim.holds_of_wide 6 Tryz.f6 rfl rfl rfl rfl rfl rfl rfl ⟨rfl, rfl, rfl, rfl, rfl⟩ rfl rfl rfl rfl rfl (by kernel_rfl) Tryz.func6 (by kernel_rfl)
    (of_decide_eq_true (by kernel_rfl)) (by unfold Func.isWrapper; first | (rw [if_pos (by decide +kernel)]; kernel_rfl) | (rw [if_neg (by decide +kernel)]; exact ⟨rfl, rfl⟩))
    (fun os started H enc _ => lifted os started H enc)
theorem proved : Rows.StreamPlaysSaid := over
end streamPlays
#print axioms streamPlays.proved
end Go.Proofs.YtkmlajifcoomcaaGreat
