/-
  OracleTells returns true for any number, starts and flag, and they read behind the call as before. No condition beyond the given statement. (text 4)
-/
import Derived.Test.YtbmeepglaeolhaaGreatP2
import Derived.KernelRfl
import Derived.OpenShut
import Derived.ReadAgain
import Derived.WalkKit
import Derived.ProofKit
import Derived.Test.YtbmeepglaeolhaaGreatRows
namespace Go.Ev
open Go.Proofs
abbrev RO_ : Type := Option ((X × Env RC) × List (Option (Obj RC)))
abbrev DO_ : Type := Option (D RC)
set_option maxRecDepth 100000
set_option linter.unusedVariables false
set_option linter.unusedSimpArgs false
noncomputable def p0 : Fns RC := noFns Tryz.prog 225 (fun f => Nat.beq f 84 || Nat.beq f 21)
theorem p0_laws : FLaws Tryz.prog s23 p0 := noFns_laws (by kernel_rfl)
def nst : Nat → List Int
  | 0 => (List.replicate 771 0).set 1 1
  | i + 1 => (nst i).set (292 + 3 * i) (-1)
theorem nst_len : ∀ i, (nst i).length = 771
  | 0 => by unfold nst; rw [List.length_set, List.length_replicate]
  | i + 1 => by unfold nst; rw [List.length_set]; exact nst_len i
theorem nst_end : nst 160 = newCells := by kernel_rfl
theorem nC_is : ∃ l, l = newCells := ⟨newCells, rfl⟩
noncomputable def nC : List Int := Classical.choose nC_is
theorem nC_eq : nC = newCells := Classical.choose_spec nC_is
structure newL_St where
  i : Nat
  l : List Int
def newL_c (i : Nat) (l : List Int) : Env RC := [(1, .vs 0 771), (2, .int .i64 (i : Int))]
def newL_o (i : Nat) (l : List Int) : List (Obj RC) := [.vec .int true l]
noncomputable def newL_r (i : Nat) (l : List Int) := rndO s23 p0 21 4 60 1 [1, 2] [] [.slot 1 0] (newL_c i l) (newL_o i l)
theorem newL_eq (i : Nat) (l : List Int) : newL_r i l = (let Z0 : Int := (↑i : Int); let Z1 : Bool := Nat.beq (771 : Nat) l.length; let Z2 : Int := (-1 : Int); let Z3 : Int := (↑l.length : Int); let Z4 : X × Env RC := (X.normal, [(1, D.vs 0 (771 : Nat)), (2, D.int .i64 (IntKind.wrap .i64 (Z0 + (1 : Int))))]); let Z5 : RO_ := bif Z1 && decide ((0 : Int) ≤ Z2 ∧ Z2 < Z3) then bif Z1 then some (Z4, [some (Obj.vec RTy.int true (List.set l (0 : Nat) Z2))]) else none else none; let Z6 : Int := IntKind.wrap .i64 ((291 : Int) + IntKind.wrap .i64 ((3 : Int) * Z0)); let Z7 : Int := IntKind.wrap .i64 (Z6 + (1 : Int)); bif decide (Z0 < (160 : Int)) then bif decide ((160 : Int) ≤ Z0) then Z5 else bif decide (Z6 < (0 : Int)) then Z5 else bif Z1 && decide ((0 : Int) ≤ Z7 ∧ Z7 < Z3) then bif Z1 then some (Z4, [some (Obj.vec RTy.int true (List.set l Z7.toNat Z2))]) else none else none else some ((X.exit (0 : Nat), []), [some (Obj.vec RTy.int true l)])) := by kernel_rfl
noncomputable def newL_fin (i : Nat) (l : List Int) : RT RC := .leaf (.exit 0) [] (newL_o i nC)
def newL_Inv (i : Nat) (l : List Int) : Prop := i ≤ 160 ∧ l = nst i
noncomputable def newL_S : LoopR RC newL_St where
  k := 1
  canon q := newL_c q.i q.l
  objs q := newL_o q.i q.l
  fin q := newL_fin q.i q.l
  Inv q := newL_Inv q.i q.l
  μ q := 160 - q.i
theorem newL_round (i : Nat) (l : List Int) (hI : newL_Inv i l) : Leaf (newL_r i l) (LedR newL_S ⟨i, l⟩) := by
  (rw [newL_eq]; conv => zeta)
  unfold newL_Inv at hI
  obtain ⟨h1, rfl⟩ := hI
  have hl := nst_len i
  by_cases hlt : i < 160
  · have v1 : IntKind.i64.wrap ((i : Int) + 1) = ((i + 1 : Nat) : Int) := by rw [wrap_id (by omega) (by omega)]; simp
    have v2 : IntKind.i64.wrap (3 * (i : Int)) = 3 * (i : Int) := wrap_id (by omega) (by omega)
    have v3 : IntKind.i64.wrap (291 + 3 * (i : Int)) = 291 + 3 * (i : Int) := wrap_id (by omega) (by omega)
    have v4 : IntKind.i64.wrap (291 + 3 * (i : Int) + 1) = 292 + 3 * (i : Int) := by rw [wrap_id (by omega) (by omega)]; omega
    have v5 : (292 + 3 * (i : Int)).toNat = 292 + 3 * i := by omega
    have d1 : decide ((i : Int) < 160) = true := decide_eq_true (by omega)
    have d2 : decide (160 ≤ (i : Int)) = false := decide_eq_false (by omega)
    have d3 : decide (291 + 3 * (i : Int) < 0) = false := decide_eq_false (by omega)
    have d4 : decide (0 ≤ 292 + 3 * (i : Int) ∧ 292 + 3 * (i : Int) < ((nst i).length : Int)) = true := decide_eq_true ⟨by omega, by omega⟩
    have d5 : Nat.beq 771 (nst i).length = true := nbeqT hl.symm
    simp only [v1, v2, v3, v4, v5, d1, d2, d3, d4, d5, Bool.and_self, cond_true, cond_false]
    exact leafR_go (S := newL_S) (s := ⟨i, nst i⟩) ⟨i + 1, nst (i + 1)⟩ ⟨hlt, rfl⟩ (by simp only [newL_S]; omega) rfl rfl rfl
  · have e : i = 160 := by omega
    have d1 : decide ((i : Int) < 160) = false := decide_eq_false (by omega)
    rw [d1]
    simp only [cond_false]
    exact leafR_exit (newL_o i nC) rfl (by rw [e, nst_end, ← nC_eq]; rfl)
noncomputable def newL_d (env : Env RC) (os : List (Obj RC)) : Option (Bool × newL_St) := match env, os with
  | [(1, .vs 0 771), (2, .int .i64 x0)], [.vec .int true l] => staticD (true) (decide (x0 = 0) && decide (l = nst 0), ⟨0, l⟩)
  | _, _ => none
noncomputable def ua_1 := p0.addLoop 21 4 (sumR s23 [.slot 1 0] [1, 2] newL_S newL_d)
theorem ua_1_laws : FLaws Tryz.prog s23 ua_1 := by
  refine p0_laws.addRoundsR s23_laws (by kernel_rfl) newL_S 60 [1, 2] [] [.slot 1 0] [1, 2] newL_d (fun q hI => ?_) ?_
  · obtain ⟨i, l⟩ := q
    refine ⟨?_, ?_, newL_round i l hI⟩
    · simp_all [RefsOK, newL_S, newL_c, newL_o, newL_Inv, D.refs, Obj.refs, rEnc]
    · simp_all [newL_S, newL_fin, newL_o, newL_Inv, RT.refsOK, RefsOK, D.refs, Obj.refs, rEnc]
  · intro env os b q hd_ hb
    unfold newL_d at hd_
    split at hd_
    · obtain ⟨hs, hd_⟩ := staticD_some hd_
      cases hd_
      simp only [Bool.and_eq_true, decide_eq_true_eq] at hb
      obtain ⟨e0, e1⟩ := hb
      subst e0
      exact ⟨⟨Nat.zero_le _, e1⟩, rfl, rfl⟩
    · cases hd_
noncomputable def inF_s (n : Int) (a : Int) (b : Int) : Option (Bool × D RC) := some (true, .bool (withinB n a b))
noncomputable def inF_sp : List (D RC) → Option (Bool × D RC)
  | [.int .i64 n, .int .i64 a, .int .i64 b] => inF_s n a b
  | _ => none
noncomputable def inF_e (n : Int) (a : Int) (b : Int) := evF s23 ua_1 20 156 [.int .i64 n, .int .i64 a, .int .i64 b]
theorem inF_eq (n : Int) (a : Int) (b : Int) : inF_e n a b = (bif decide (a ≤ n) then some (D.bool (decide (n ≤ b))) else some (D.bool false)) := by kernel_rfl
theorem inF_ok (n : Int) (a : Int) (b : Int) (h : (true) = true) : inF_e n a b = some (.bool (withinB n a b)) := by
  rw [inF_eq]
  rw [withinB]
  cases decide (a ≤ n) <;> simp
noncomputable def ua_2 := ua_1.addSpec 156 inF_sp
theorem ua_2_laws : FLaws Tryz.prog s23 ua_2 := ua_1_laws.addEv s23_laws fun args d h => by
  unfold inF_sp at h
  split at h
  · unfold inF_s at h
    have h1 := congrArg Prod.fst (Option.some.inj h)
    obtain rfl : _ = d := congrArg Prod.snd (Option.some.inj h)
    exact ⟨by simp [D.refs], 20, inF_ok _ _ _ h1⟩
  · cases h
noncomputable def ringF_s (p : Int) (w : Int) : Option (Bool × D RC) := some (true, .int .i64 (lRing p w))
noncomputable def ringF_sp : List (D RC) → Option (Bool × D RC)
  | [.int .i64 p, .int .i64 w] => ringF_s p w
  | _ => none
noncomputable def ringF_e (p : Int) (w : Int) := evF s23 ua_2 20 203 [.int .i64 p, .int .i64 w]
theorem ringF_eq (p : Int) (w : Int) : ringF_e p w = (let Z0 : DO_ := some (D.int .i64 (-1 : Int)); bif decide (p < (0 : Int)) then Z0 else bif !withinB w (2 : Int) (8 : Int) then Z0 else bif w == (0 : Int) then none else some (D.int .i64 (IntKind.wrap .i64 ((13 : Int) + Int.tmod p w)))) := by kernel_rfl
theorem ringF_ok (p : Int) (w : Int) (h : (true) = true) : ringF_e p w = some (.int .i64 (lRing p w)) := by
  (rw [ringF_eq]; conv => zeta)
  unfold lRing
  refine cond2 (fun h0 => ?_) fun h0 => ?_ <;> simp only [decide_eq_true_eq, decide_eq_false_iff_not] at h0
  · rw [if_neg (by omega)]
  · cases h1 : withinB w 2 8
    · have h2 := withinB_no h1
      rw [if_neg (by omega)]; rfl
    · rw [withinB_iff] at h1
      have hw : (w == 0) = false := by simp; omega
      have hm := mod_range (p := p) (w := w) (by omega)
      simp only [hw, Bool.not_true, cond_false]
      rw [tmod_nn (by omega), wrap_id (by omega) (by omega), if_pos ⟨by omega, h1.1, h1.2⟩]
noncomputable def ua_3 := ua_2.addSpec 203 ringF_sp
theorem ua_3_laws : FLaws Tryz.prog s23 ua_3 := ua_2_laws.addEv s23_laws fun args d h => by
  unfold ringF_sp at h
  split at h
  · unfold ringF_s at h
    have h1 := congrArg Prod.fst (Option.some.inj h)
    obtain rfl : _ = d := congrArg Prod.snd (Option.some.inj h)
    exact ⟨by simp [D.refs], 20, ringF_ok _ _ h1⟩
  · cases h
noncomputable def ringR_s (p : Int) (w : Int) : Option (Bool × D RC) := some (true, .int .i64 (lRing p w))
noncomputable def ringR_sp : List (D RC) → Option (Bool × D RC)
  | [.int .i64 p, .int .i64 w] => ringR_s p w
  | _ => none
noncomputable def ringR_e (p : Int) (w : Int) := evF s23 ua_3 20 208 [.int .i64 p, .int .i64 w]
theorem ringR_eq (p : Int) (w : Int) : ringR_e p w = (let Z0 : DO_ := some (D.int .i64 (-1 : Int)); bif decide (p < (0 : Int)) then Z0 else bif decide (w < (2 : Int)) then Z0 else bif decide ((8 : Int) < w) then Z0 else bif w == (0 : Int) then none else some (D.int .i64 (IntKind.wrap .i64 ((13 : Int) + Int.tmod p w)))) := by kernel_rfl
theorem ringR_ok (p : Int) (w : Int) (h : (true) = true) : ringR_e p w = some (.int .i64 (lRing p w)) := by
  (rw [ringR_eq]; conv => zeta)
  unfold lRing
  refine cond2 (fun h0 => ?_) fun h0 => ?_ <;> simp only [decide_eq_true_eq, decide_eq_false_iff_not] at h0
  · rw [if_neg (by omega)]
  refine cond2 (fun h1 => ?_) fun h1 => ?_ <;> simp only [decide_eq_true_eq, decide_eq_false_iff_not] at h1
  · rw [if_neg (by omega)]
  refine cond2 (fun h2 => ?_) fun h2 => ?_ <;> simp only [decide_eq_true_eq, decide_eq_false_iff_not] at h2
  · rw [if_neg (by omega)]
  have hw : (w == 0) = false := by simp; omega
  have hm := mod_range (p := p) (w := w) (by omega)
  simp only [hw, Bool.not_true, cond_false]
  rw [tmod_nn (by omega), wrap_id (by omega) (by omega), if_pos ⟨by omega, by omega, by omega⟩]
noncomputable def ua_4 := ua_3.addSpec 208 ringR_sp
theorem ua_4_laws : FLaws Tryz.prog s23 ua_4 := ua_3_laws.addEv s23_laws fun args d h => by
  unfold ringR_sp at h
  split at h
  · unfold ringR_s at h
    have h1 := congrArg Prod.fst (Option.some.inj h)
    obtain rfl : _ = d := congrArg Prod.snd (Option.some.inj h)
    exact ⟨by simp [D.refs], 20, ringR_ok _ _ h1⟩
  · cases h
noncomputable def streamF_s (q : Int) (o : Int) : Option (Bool × D RC) := some (true, .int .i64 (lStream q o))
noncomputable def streamF_sp : List (D RC) → Option (Bool × D RC)
  | [.int .i64 q, .int .i64 o] => streamF_s q o
  | _ => none
noncomputable def streamF_e (q : Int) (o : Int) := evF s23 ua_4 20 123 [.int .i64 q, .int .i64 o]
theorem streamF_eq (q : Int) (o : Int) : streamF_e q o = (let Z0 : DO_ := some (D.int .i64 (-1 : Int)); bif !withinB q (0 : Int) (2 : Int) then Z0 else bif decide (o < (0 : Int)) then Z0 else some (D.int .i64 (IntKind.wrap .i64 (IntKind.wrap .i64 ((51 : Int) + IntKind.wrap .i64 ((16 : Int) * q)) + Int.tmod o (16 : Int))))) := by kernel_rfl
theorem streamF_ok (q : Int) (o : Int) (h : (true) = true) : streamF_e q o = some (.int .i64 (lStream q o)) := by
  (rw [streamF_eq]; conv => zeta)
  unfold lStream
  cases h1 : withinB q 0 2
  · have h2 := withinB_no h1
    rw [if_neg (by omega)]; rfl
  · rw [withinB_iff] at h1
    simp only [Bool.not_true, cond_false]
    refine cond2 (fun h0 => ?_) fun h0 => ?_ <;> simp only [decide_eq_true_eq, decide_eq_false_iff_not] at h0
    · rw [if_neg (by omega)]
    · rw [tmod_nn (by omega), wrap_id (n := 16 * q) (by omega) (by omega), wrap_id (n := 51 + 16 * q) (by omega) (by omega), wrap_id (by omega) (by omega), if_pos ⟨h1.1, h1.2, by omega⟩]
noncomputable def ua_5 := ua_4.addSpec 123 streamF_sp
theorem ua_5_laws : FLaws Tryz.prog s23 ua_5 := ua_4_laws.addEv s23_laws fun args d h => by
  unfold streamF_sp at h
  split at h
  · unfold streamF_s at h
    have h1 := congrArg Prod.fst (Option.some.inj h)
    obtain rfl : _ = d := congrArg Prod.snd (Option.some.inj h)
    exact ⟨by simp [D.refs], 20, streamF_ok _ _ h1⟩
  · cases h
noncomputable def streamR_s (q : Int) (o : Int) : Option (Bool × D RC) := some (true, .int .i64 (lStream q o))
noncomputable def streamR_sp : List (D RC) → Option (Bool × D RC)
  | [.int .i64 q, .int .i64 o] => streamR_s q o
  | _ => none
noncomputable def streamR_e (q : Int) (o : Int) := evF s23 ua_5 20 174 [.int .i64 q, .int .i64 o]
theorem streamR_eq (q : Int) (o : Int) : streamR_e q o = (let Z0 : DO_ := some (D.int .i64 (-1 : Int)); bif decide (q < (0 : Int)) then Z0 else bif decide ((3 : Int) ≤ q) then Z0 else bif decide (o < (0 : Int)) then Z0 else some (D.int .i64 (IntKind.wrap .i64 (IntKind.wrap .i64 ((51 : Int) + IntKind.wrap .i64 ((16 : Int) * q)) + Int.tmod o (16 : Int))))) := by kernel_rfl
theorem streamR_ok (q : Int) (o : Int) (h : (true) = true) : streamR_e q o = some (.int .i64 (lStream q o)) := by
  (rw [streamR_eq]; conv => zeta)
  unfold lStream
  refine cond2 (fun h0 => ?_) fun h0 => ?_ <;> simp only [decide_eq_true_eq, decide_eq_false_iff_not] at h0
  · rw [if_neg (by omega)]
  refine cond2 (fun h1 => ?_) fun h1 => ?_ <;> simp only [decide_eq_true_eq, decide_eq_false_iff_not] at h1
  · rw [if_neg (by omega)]
  refine cond2 (fun h2 => ?_) fun h2 => ?_ <;> simp only [decide_eq_true_eq, decide_eq_false_iff_not] at h2
  · rw [if_neg (by omega)]
  rw [tmod_nn (by omega), wrap_id (n := 16 * q) (by omega) (by omega), wrap_id (n := 51 + 16 * q) (by omega) (by omega), wrap_id (by omega) (by omega), if_pos ⟨by omega, by omega, by omega⟩]
noncomputable def ua_6 := ua_5.addSpec 174 streamR_sp
theorem ua_6_laws : FLaws Tryz.prog s23 ua_6 := ua_5_laws.addEv s23_laws fun args d h => by
  unfold streamR_sp at h
  split at h
  · unfold streamR_s at h
    have h1 := congrArg Prod.fst (Option.some.inj h)
    obtain rfl : _ = d := congrArg Prod.snd (Option.some.inj h)
    exact ⟨by simp [D.refs], 20, streamR_ok _ _ h1⟩
  · cases h
noncomputable def cellF_s (a : Int) (n : Int) (m : Int) : Option (Bool × D RC) := some (true, .int .i64 (bif decide (0 ≤ n) && decide (n < m) then IntKind.i64.wrap (a + n) else -1))
noncomputable def cellF_sp : List (D RC) → Option (Bool × D RC)
  | [.int .i64 a, .int .i64 n, .int .i64 m] => cellF_s a n m
  | _ => none
noncomputable def cellF_e (a : Int) (n : Int) (m : Int) := evF s23 ua_6 20 53 [.int .i64 a, .int .i64 n, .int .i64 m]
theorem cellF_eq (a : Int) (n : Int) (m : Int) : cellF_e a n m = (let Z0 : DO_ := some (D.int .i64 (-1 : Int)); bif decide (n < (0 : Int)) then Z0 else bif decide (m ≤ n) then Z0 else some (D.int .i64 (IntKind.wrap .i64 (a + n)))) := by kernel_rfl
theorem cellF_ok (a : Int) (n : Int) (m : Int) (h : (true) = true) : cellF_e a n m = some (.int .i64 (bif decide (0 ≤ n) && decide (n < m) then IntKind.i64.wrap (a + n) else -1)) := by
  (rw [cellF_eq]; conv => zeta)
  refine cond2 (fun h0 => ?_) fun h0 => ?_ <;> simp only [decide_eq_true_eq, decide_eq_false_iff_not] at h0
  · rw [decide_eq_false (p := 0 ≤ n) (by omega)]; rfl
  refine cond2 (fun h1 => ?_) fun h1 => ?_ <;> simp only [decide_eq_true_eq, decide_eq_false_iff_not] at h1
  · rw [decide_eq_false (p := n < m) (by omega), Bool.and_false]; rfl
  · rw [decide_eq_true (p := 0 ≤ n) (by omega), decide_eq_true (p := n < m) (by omega)]; rfl
noncomputable def ua_7 := ua_6.addSpec 53 cellF_sp
theorem ua_7_laws : FLaws Tryz.prog s23 ua_7 := ua_6_laws.addEv s23_laws fun args d h => by
  unfold cellF_sp at h
  split at h
  · unfold cellF_s at h
    have h1 := congrArg Prod.fst (Option.some.inj h)
    obtain rfl : _ = d := congrArg Prod.snd (Option.some.inj h)
    exact ⟨by simp [D.refs], 20, cellF_ok _ _ _ h1⟩
  · cases h
noncomputable def cellR_s (a : Int) (s : Int) (n : Int) (m : Int) : Option (Bool × D RC) := some (true, .int .i64 (bif decide (0 ≤ n) && decide (n < m) then IntKind.i64.wrap (a + IntKind.i64.wrap (s * n)) else -1))
noncomputable def cellR_sp : List (D RC) → Option (Bool × D RC)
  | [.int .i64 a, .int .i64 s, .int .i64 n, .int .i64 m] => cellR_s a s n m
  | _ => none
noncomputable def cellR_e (a : Int) (s : Int) (n : Int) (m : Int) := evF s23 ua_7 20 31 [.int .i64 a, .int .i64 s, .int .i64 n, .int .i64 m]
theorem cellR_eq (a : Int) (s : Int) (n : Int) (m : Int) : cellR_e a s n m = (let Z0 : DO_ := some (D.int .i64 (-1 : Int)); bif decide (n < (0 : Int)) then Z0 else bif decide (m ≤ n) then Z0 else some (D.int .i64 (IntKind.wrap .i64 (a + IntKind.wrap .i64 (s * n))))) := by kernel_rfl
theorem cellR_ok (a : Int) (s : Int) (n : Int) (m : Int) (h : (true) = true) : cellR_e a s n m = some (.int .i64 (bif decide (0 ≤ n) && decide (n < m) then IntKind.i64.wrap (a + IntKind.i64.wrap (s * n)) else -1)) := by
  (rw [cellR_eq]; conv => zeta)
  refine cond2 (fun h0 => ?_) fun h0 => ?_ <;> simp only [decide_eq_true_eq, decide_eq_false_iff_not] at h0
  · rw [decide_eq_false (p := 0 ≤ n) (by omega)]; rfl
  refine cond2 (fun h1 => ?_) fun h1 => ?_ <;> simp only [decide_eq_true_eq, decide_eq_false_iff_not] at h1
  · rw [decide_eq_false (p := n < m) (by omega), Bool.and_false]; rfl
  · rw [decide_eq_true (p := 0 ≤ n) (by omega), decide_eq_true (p := n < m) (by omega)]; rfl
noncomputable def ua_8 := ua_7.addSpec 31 cellR_sp
theorem ua_8_laws : FLaws Tryz.prog s23 ua_8 := ua_7_laws.addEv s23_laws fun args d h => by
  unfold cellR_sp at h
  split at h
  · unfold cellR_s at h
    have h1 := congrArg Prod.fst (Option.some.inj h)
    obtain rfl : _ = d := congrArg Prod.snd (Option.some.inj h)
    exact ⟨by simp [D.refs], 20, cellR_ok _ _ _ _ h1⟩
  · cases h
noncomputable def lPinP_s (n : Int) : Option (Bool × D RC) := some (true, .int .i64 (lRow 5 n 4))
noncomputable def lPinP_sp : List (D RC) → Option (Bool × D RC)
  | [.int .i64 n] => lPinP_s n
  | _ => none
noncomputable def lPinP_e (n : Int) := evF s23 ua_8 20 216 [.int .i64 n]
theorem lPinP_eq (n : Int) : lPinP_e n = (some (D.int .i64 (bif decide ((0 : Int) ≤ n) && decide (n < (4 : Int)) then IntKind.wrap .i64 ((5 : Int) + n) else (-1 : Int)))) := by kernel_rfl
theorem lPinP_ok (n : Int) (h : (true) = true) : lPinP_e n = some (.int .i64 (lRow 5 n 4)) := by
  rw [lPinP_eq]
  congr 2
  unfold lRow
  by_cases h0 : 0 ≤ n
  · by_cases h1 : n < 4
    · simp (disch := omega) only [decide_eq_true h0, decide_eq_true h1, Bool.and_self, cond_true, wrapT]; rw [if_pos ⟨h0, h1⟩]
    · simp only [decide_eq_false h1, Bool.and_false, cond_false]; rw [if_neg (by omega)]
  · simp only [decide_eq_false h0, Bool.false_and, cond_false]; rw [if_neg (by omega)]
noncomputable def ua_9 := ua_8.addSpec 216 lPinP_sp
theorem ua_9_laws : FLaws Tryz.prog s23 ua_9 := ua_8_laws.addEv s23_laws fun args d h => by
  unfold lPinP_sp at h
  split at h
  · unfold lPinP_s at h
    have h1 := congrArg Prod.fst (Option.some.inj h)
    obtain rfl : _ = d := congrArg Prod.snd (Option.some.inj h)
    exact ⟨by simp [D.refs], 20, lPinP_ok _ h1⟩
  · cases h
noncomputable def lPinR_s (n : Int) : Option (Bool × D RC) := some (true, .int .i64 (lRow 5 n 4))
noncomputable def lPinR_sp : List (D RC) → Option (Bool × D RC)
  | [.int .i64 n] => lPinR_s n
  | _ => none
noncomputable def lPinR_e (n : Int) := evF s23 ua_9 20 224 [.int .i64 n]
theorem lPinR_eq (n : Int) : lPinR_e n = (some (D.int .i64 (bif decide ((0 : Int) ≤ n) && decide (n < (4 : Int)) then IntKind.wrap .i64 ((5 : Int) + IntKind.wrap .i64 ((1 : Int) * n)) else (-1 : Int)))) := by kernel_rfl
theorem lPinR_ok (n : Int) (h : (true) = true) : lPinR_e n = some (.int .i64 (lRow 5 n 4)) := by
  rw [lPinR_eq]
  congr 2
  unfold lRow
  by_cases h0 : 0 ≤ n
  · by_cases h1 : n < 4
    · simp (disch := omega) only [decide_eq_true h0, decide_eq_true h1, Bool.and_self, cond_true, Int.one_mul, wrapT]; rw [if_pos ⟨h0, h1⟩]
    · simp only [decide_eq_false h1, Bool.and_false, cond_false]; rw [if_neg (by omega)]
  · simp only [decide_eq_false h0, Bool.false_and, cond_false]; rw [if_neg (by omega)]
noncomputable def ua_10 := ua_9.addSpec 224 lPinR_sp
theorem ua_10_laws : FLaws Tryz.prog s23 ua_10 := ua_9_laws.addEv s23_laws fun args d h => by
  unfold lPinR_sp at h
  split at h
  · unfold lPinR_s at h
    have h1 := congrArg Prod.fst (Option.some.inj h)
    obtain rfl : _ = d := congrArg Prod.snd (Option.some.inj h)
    exact ⟨by simp [D.refs], 20, lPinR_ok _ h1⟩
  · cases h
noncomputable def lStartP_s (n : Int) : Option (Bool × D RC) := some (true, .int .i64 (lRow 9 n 4))
noncomputable def lStartP_sp : List (D RC) → Option (Bool × D RC)
  | [.int .i64 n] => lStartP_s n
  | _ => none
noncomputable def lStartP_e (n : Int) := evF s23 ua_10 20 30 [.int .i64 n]
theorem lStartP_eq (n : Int) : lStartP_e n = (some (D.int .i64 (bif decide ((0 : Int) ≤ n) && decide (n < (4 : Int)) then IntKind.wrap .i64 ((9 : Int) + n) else (-1 : Int)))) := by kernel_rfl
theorem lStartP_ok (n : Int) (h : (true) = true) : lStartP_e n = some (.int .i64 (lRow 9 n 4)) := by
  rw [lStartP_eq]
  congr 2
  unfold lRow
  by_cases h0 : 0 ≤ n
  · by_cases h1 : n < 4
    · simp (disch := omega) only [decide_eq_true h0, decide_eq_true h1, Bool.and_self, cond_true, wrapT]; rw [if_pos ⟨h0, h1⟩]
    · simp only [decide_eq_false h1, Bool.and_false, cond_false]; rw [if_neg (by omega)]
  · simp only [decide_eq_false h0, Bool.false_and, cond_false]; rw [if_neg (by omega)]
noncomputable def ua_11 := ua_10.addSpec 30 lStartP_sp
theorem ua_11_laws : FLaws Tryz.prog s23 ua_11 := ua_10_laws.addEv s23_laws fun args d h => by
  unfold lStartP_sp at h
  split at h
  · unfold lStartP_s at h
    have h1 := congrArg Prod.fst (Option.some.inj h)
    obtain rfl : _ = d := congrArg Prod.snd (Option.some.inj h)
    exact ⟨by simp [D.refs], 20, lStartP_ok _ h1⟩
  · cases h
noncomputable def lStartR_s (n : Int) : Option (Bool × D RC) := some (true, .int .i64 (lRow 9 n 4))
noncomputable def lStartR_sp : List (D RC) → Option (Bool × D RC)
  | [.int .i64 n] => lStartR_s n
  | _ => none
noncomputable def lStartR_e (n : Int) := evF s23 ua_11 20 16 [.int .i64 n]
theorem lStartR_eq (n : Int) : lStartR_e n = (some (D.int .i64 (bif decide ((0 : Int) ≤ n) && decide (n < (4 : Int)) then IntKind.wrap .i64 ((9 : Int) + IntKind.wrap .i64 ((1 : Int) * n)) else (-1 : Int)))) := by kernel_rfl
theorem lStartR_ok (n : Int) (h : (true) = true) : lStartR_e n = some (.int .i64 (lRow 9 n 4)) := by
  rw [lStartR_eq]
  congr 2
  unfold lRow
  by_cases h0 : 0 ≤ n
  · by_cases h1 : n < 4
    · simp (disch := omega) only [decide_eq_true h0, decide_eq_true h1, Bool.and_self, cond_true, Int.one_mul, wrapT]; rw [if_pos ⟨h0, h1⟩]
    · simp only [decide_eq_false h1, Bool.and_false, cond_false]; rw [if_neg (by omega)]
  · simp only [decide_eq_false h0, Bool.false_and, cond_false]; rw [if_neg (by omega)]
noncomputable def ua_12 := ua_11.addSpec 16 lStartR_sp
theorem ua_12_laws : FLaws Tryz.prog s23 ua_12 := ua_11_laws.addEv s23_laws fun args d h => by
  unfold lStartR_sp at h
  split at h
  · unfold lStartR_s at h
    have h1 := congrArg Prod.fst (Option.some.inj h)
    obtain rfl : _ = d := congrArg Prod.snd (Option.some.inj h)
    exact ⟨by simp [D.refs], 20, lStartR_ok _ h1⟩
  · cases h
noncomputable def lHeadP_s (n : Int) : Option (Bool × D RC) := some (true, .int .i64 (lRow 21 n 24))
noncomputable def lHeadP_sp : List (D RC) → Option (Bool × D RC)
  | [.int .i64 n] => lHeadP_s n
  | _ => none
noncomputable def lHeadP_e (n : Int) := evF s23 ua_12 20 134 [.int .i64 n]
theorem lHeadP_eq (n : Int) : lHeadP_e n = (some (D.int .i64 (bif decide ((0 : Int) ≤ n) && decide (n < (24 : Int)) then IntKind.wrap .i64 ((21 : Int) + n) else (-1 : Int)))) := by kernel_rfl
theorem lHeadP_ok (n : Int) (h : (true) = true) : lHeadP_e n = some (.int .i64 (lRow 21 n 24)) := by
  rw [lHeadP_eq]
  congr 2
  unfold lRow
  by_cases h0 : 0 ≤ n
  · by_cases h1 : n < 24
    · simp (disch := omega) only [decide_eq_true h0, decide_eq_true h1, Bool.and_self, cond_true, wrapT]; rw [if_pos ⟨h0, h1⟩]
    · simp only [decide_eq_false h1, Bool.and_false, cond_false]; rw [if_neg (by omega)]
  · simp only [decide_eq_false h0, Bool.false_and, cond_false]; rw [if_neg (by omega)]
noncomputable def ua_13 := ua_12.addSpec 134 lHeadP_sp
theorem ua_13_laws : FLaws Tryz.prog s23 ua_13 := ua_12_laws.addEv s23_laws fun args d h => by
  unfold lHeadP_sp at h
  split at h
  · unfold lHeadP_s at h
    have h1 := congrArg Prod.fst (Option.some.inj h)
    obtain rfl : _ = d := congrArg Prod.snd (Option.some.inj h)
    exact ⟨by simp [D.refs], 20, lHeadP_ok _ h1⟩
  · cases h
noncomputable def lHeadR_s (n : Int) : Option (Bool × D RC) := some (true, .int .i64 (lRow 21 n 24))
noncomputable def lHeadR_sp : List (D RC) → Option (Bool × D RC)
  | [.int .i64 n] => lHeadR_s n
  | _ => none
noncomputable def lHeadR_e (n : Int) := evF s23 ua_13 20 184 [.int .i64 n]
theorem lHeadR_eq (n : Int) : lHeadR_e n = (some (D.int .i64 (bif decide ((0 : Int) ≤ n) && decide (n < (24 : Int)) then IntKind.wrap .i64 ((21 : Int) + IntKind.wrap .i64 ((1 : Int) * n)) else (-1 : Int)))) := by kernel_rfl
theorem lHeadR_ok (n : Int) (h : (true) = true) : lHeadR_e n = some (.int .i64 (lRow 21 n 24)) := by
  rw [lHeadR_eq]
  congr 2
  unfold lRow
  by_cases h0 : 0 ≤ n
  · by_cases h1 : n < 24
    · simp (disch := omega) only [decide_eq_true h0, decide_eq_true h1, Bool.and_self, cond_true, Int.one_mul, wrapT]; rw [if_pos ⟨h0, h1⟩]
    · simp only [decide_eq_false h1, Bool.and_false, cond_false]; rw [if_neg (by omega)]
  · simp only [decide_eq_false h0, Bool.false_and, cond_false]; rw [if_neg (by omega)]
noncomputable def ua_14 := ua_13.addSpec 184 lHeadR_sp
theorem ua_14_laws : FLaws Tryz.prog s23 ua_14 := ua_13_laws.addEv s23_laws fun args d h => by
  unfold lHeadR_sp at h
  split at h
  · unfold lHeadR_s at h
    have h1 := congrArg Prod.fst (Option.some.inj h)
    obtain rfl : _ = d := congrArg Prod.snd (Option.some.inj h)
    exact ⟨by simp [D.refs], 20, lHeadR_ok _ h1⟩
  · cases h
noncomputable def lCountP_s (n : Int) : Option (Bool × D RC) := some (true, .int .i64 (lRow 45 n 3))
noncomputable def lCountP_sp : List (D RC) → Option (Bool × D RC)
  | [.int .i64 n] => lCountP_s n
  | _ => none
noncomputable def lCountP_e (n : Int) := evF s23 ua_14 20 88 [.int .i64 n]
theorem lCountP_eq (n : Int) : lCountP_e n = (some (D.int .i64 (bif decide ((0 : Int) ≤ n) && decide (n < (3 : Int)) then IntKind.wrap .i64 ((45 : Int) + n) else (-1 : Int)))) := by kernel_rfl
theorem lCountP_ok (n : Int) (h : (true) = true) : lCountP_e n = some (.int .i64 (lRow 45 n 3)) := by
  rw [lCountP_eq]
  congr 2
  unfold lRow
  by_cases h0 : 0 ≤ n
  · by_cases h1 : n < 3
    · simp (disch := omega) only [decide_eq_true h0, decide_eq_true h1, Bool.and_self, cond_true, wrapT]; rw [if_pos ⟨h0, h1⟩]
    · simp only [decide_eq_false h1, Bool.and_false, cond_false]; rw [if_neg (by omega)]
  · simp only [decide_eq_false h0, Bool.false_and, cond_false]; rw [if_neg (by omega)]
noncomputable def ua_15 := ua_14.addSpec 88 lCountP_sp
theorem ua_15_laws : FLaws Tryz.prog s23 ua_15 := ua_14_laws.addEv s23_laws fun args d h => by
  unfold lCountP_sp at h
  split at h
  · unfold lCountP_s at h
    have h1 := congrArg Prod.fst (Option.some.inj h)
    obtain rfl : _ = d := congrArg Prod.snd (Option.some.inj h)
    exact ⟨by simp [D.refs], 20, lCountP_ok _ h1⟩
  · cases h
noncomputable def lCountR_s (n : Int) : Option (Bool × D RC) := some (true, .int .i64 (lRow 45 n 3))
noncomputable def lCountR_sp : List (D RC) → Option (Bool × D RC)
  | [.int .i64 n] => lCountR_s n
  | _ => none
noncomputable def lCountR_e (n : Int) := evF s23 ua_15 20 147 [.int .i64 n]
theorem lCountR_eq (n : Int) : lCountR_e n = (some (D.int .i64 (bif decide ((0 : Int) ≤ n) && decide (n < (3 : Int)) then IntKind.wrap .i64 ((45 : Int) + IntKind.wrap .i64 ((1 : Int) * n)) else (-1 : Int)))) := by kernel_rfl
theorem lCountR_ok (n : Int) (h : (true) = true) : lCountR_e n = some (.int .i64 (lRow 45 n 3)) := by
  rw [lCountR_eq]
  congr 2
  unfold lRow
  by_cases h0 : 0 ≤ n
  · by_cases h1 : n < 3
    · simp (disch := omega) only [decide_eq_true h0, decide_eq_true h1, Bool.and_self, cond_true, Int.one_mul, wrapT]; rw [if_pos ⟨h0, h1⟩]
    · simp only [decide_eq_false h1, Bool.and_false, cond_false]; rw [if_neg (by omega)]
  · simp only [decide_eq_false h0, Bool.false_and, cond_false]; rw [if_neg (by omega)]
noncomputable def ua_16 := ua_15.addSpec 147 lCountR_sp
theorem ua_16_laws : FLaws Tryz.prog s23 ua_16 := ua_15_laws.addEv s23_laws fun args d h => by
  unfold lCountR_sp at h
  split at h
  · unfold lCountR_s at h
    have h1 := congrArg Prod.fst (Option.some.inj h)
    obtain rfl : _ = d := congrArg Prod.snd (Option.some.inj h)
    exact ⟨by simp [D.refs], 20, lCountR_ok _ h1⟩
  · cases h
noncomputable def lCutP_s (n : Int) : Option (Bool × D RC) := some (true, .int .i64 (lRow 48 n 3))
noncomputable def lCutP_sp : List (D RC) → Option (Bool × D RC)
  | [.int .i64 n] => lCutP_s n
  | _ => none
noncomputable def lCutP_e (n : Int) := evF s23 ua_16 20 95 [.int .i64 n]
theorem lCutP_eq (n : Int) : lCutP_e n = (some (D.int .i64 (bif decide ((0 : Int) ≤ n) && decide (n < (3 : Int)) then IntKind.wrap .i64 ((48 : Int) + n) else (-1 : Int)))) := by kernel_rfl
theorem lCutP_ok (n : Int) (h : (true) = true) : lCutP_e n = some (.int .i64 (lRow 48 n 3)) := by
  rw [lCutP_eq]
  congr 2
  unfold lRow
  by_cases h0 : 0 ≤ n
  · by_cases h1 : n < 3
    · simp (disch := omega) only [decide_eq_true h0, decide_eq_true h1, Bool.and_self, cond_true, wrapT]; rw [if_pos ⟨h0, h1⟩]
    · simp only [decide_eq_false h1, Bool.and_false, cond_false]; rw [if_neg (by omega)]
  · simp only [decide_eq_false h0, Bool.false_and, cond_false]; rw [if_neg (by omega)]
noncomputable def ua_17 := ua_16.addSpec 95 lCutP_sp
theorem ua_17_laws : FLaws Tryz.prog s23 ua_17 := ua_16_laws.addEv s23_laws fun args d h => by
  unfold lCutP_sp at h
  split at h
  · unfold lCutP_s at h
    have h1 := congrArg Prod.fst (Option.some.inj h)
    obtain rfl : _ = d := congrArg Prod.snd (Option.some.inj h)
    exact ⟨by simp [D.refs], 20, lCutP_ok _ h1⟩
  · cases h
noncomputable def lCutR_s (n : Int) : Option (Bool × D RC) := some (true, .int .i64 (lRow 48 n 3))
noncomputable def lCutR_sp : List (D RC) → Option (Bool × D RC)
  | [.int .i64 n] => lCutR_s n
  | _ => none
noncomputable def lCutR_e (n : Int) := evF s23 ua_17 20 150 [.int .i64 n]
theorem lCutR_eq (n : Int) : lCutR_e n = (some (D.int .i64 (bif decide ((0 : Int) ≤ n) && decide (n < (3 : Int)) then IntKind.wrap .i64 ((48 : Int) + IntKind.wrap .i64 ((1 : Int) * n)) else (-1 : Int)))) := by kernel_rfl
theorem lCutR_ok (n : Int) (h : (true) = true) : lCutR_e n = some (.int .i64 (lRow 48 n 3)) := by
  rw [lCutR_eq]
  congr 2
  unfold lRow
  by_cases h0 : 0 ≤ n
  · by_cases h1 : n < 3
    · simp (disch := omega) only [decide_eq_true h0, decide_eq_true h1, Bool.and_self, cond_true, Int.one_mul, wrapT]; rw [if_pos ⟨h0, h1⟩]
    · simp only [decide_eq_false h1, Bool.and_false, cond_false]; rw [if_neg (by omega)]
  · simp only [decide_eq_false h0, Bool.false_and, cond_false]; rw [if_neg (by omega)]
noncomputable def ua_18 := ua_17.addSpec 150 lCutR_sp
theorem ua_18_laws : FLaws Tryz.prog s23 ua_18 := ua_17_laws.addEv s23_laws fun args d h => by
  unfold lCutR_sp at h
  split at h
  · unfold lCutR_s at h
    have h1 := congrArg Prod.fst (Option.some.inj h)
    obtain rfl : _ = d := congrArg Prod.snd (Option.some.inj h)
    exact ⟨by simp [D.refs], 20, lCutR_ok _ h1⟩
  · cases h
noncomputable def lFieldP_s (a : Int) (s : Int) (f : Int) (m : Int) (k : Int) : Option (Bool × D RC) := some (true, .int .i64 (bif withinB s 0 (IntKind.i64.wrap (m - 1)) && withinB f 0 (IntKind.i64.wrap (k - 1)) then IntKind.i64.wrap (IntKind.i64.wrap (a + IntKind.i64.wrap (s * k)) + f) else -1))
noncomputable def lFieldP_sp : List (D RC) → Option (Bool × D RC)
  | [.int .i64 a, .int .i64 s, .int .i64 f, .int .i64 m, .int .i64 k] => lFieldP_s a s f m k
  | _ => none
noncomputable def lFieldP_e (a : Int) (s : Int) (f : Int) (m : Int) (k : Int) := evF s23 ua_18 20 189 [.int .i64 a, .int .i64 s, .int .i64 f, .int .i64 m, .int .i64 k]
theorem lFieldP_eq (a : Int) (s : Int) (f : Int) (m : Int) (k : Int) : lFieldP_e a s f m k = (let Z0 : DO_ := some (D.int .i64 (-1 : Int)); bif !withinB s (0 : Int) (IntKind.wrap .i64 (m - (1 : Int))) then Z0 else bif !withinB f (0 : Int) (IntKind.wrap .i64 (k - (1 : Int))) then Z0 else some (D.int .i64 (IntKind.wrap .i64 (IntKind.wrap .i64 (a + IntKind.wrap .i64 (s * k)) + f)))) := by kernel_rfl
theorem lFieldP_ok (a : Int) (s : Int) (f : Int) (m : Int) (k : Int) (h : (true) = true) : lFieldP_e a s f m k = some (.int .i64 (bif withinB s 0 (IntKind.i64.wrap (m - 1)) && withinB f 0 (IntKind.i64.wrap (k - 1)) then IntKind.i64.wrap (IntKind.i64.wrap (a + IntKind.i64.wrap (s * k)) + f) else -1)) := by
  (rw [lFieldP_eq]; conv => zeta)
  cases withinB s 0 (IntKind.i64.wrap (m - 1)) <;> cases withinB f 0 (IntKind.i64.wrap (k - 1)) <;> rfl
noncomputable def ua_19 := ua_18.addSpec 189 lFieldP_sp
theorem ua_19_laws : FLaws Tryz.prog s23 ua_19 := ua_18_laws.addEv s23_laws fun args d h => by
  unfold lFieldP_sp at h
  split at h
  · unfold lFieldP_s at h
    have h1 := congrArg Prod.fst (Option.some.inj h)
    obtain rfl : _ = d := congrArg Prod.snd (Option.some.inj h)
    exact ⟨by simp [D.refs], 20, lFieldP_ok _ _ _ _ _ h1⟩
  · cases h
noncomputable def lDescP_s (s : Int) (f : Int) : Option (Bool × D RC) := some (true, .int .i64 (lField 99 s f 16 12))
noncomputable def lDescP_sp : List (D RC) → Option (Bool × D RC)
  | [.int .i64 s, .int .i64 f] => lDescP_s s f
  | _ => none
noncomputable def lDescP_e (s : Int) (f : Int) := evF s23 ua_19 20 160 [.int .i64 s, .int .i64 f]
theorem lDescP_eq (s : Int) (f : Int) : lDescP_e s f = (some (D.int .i64 (bif withinB s (0 : Int) (15 : Int) && withinB f (0 : Int) (11 : Int) then IntKind.wrap .i64 (IntKind.wrap .i64 ((99 : Int) + IntKind.wrap .i64 (s * (12 : Int))) + f) else (-1 : Int)))) := by kernel_rfl
theorem lDescP_ok (s : Int) (f : Int) (h : (true) = true) : lDescP_e s f = some (.int .i64 (lField 99 s f 16 12)) := by
  rw [lDescP_eq]
  congr 2
  unfold lField
  cases h0 : withinB s 0 15
  · have := withinB_no h0
    rw [if_neg (by omega)]; rfl
  cases h1 : withinB f 0 11
  · have := withinB_no h1
    rw [if_neg (by omega)]; rfl
  rw [withinB_iff] at h0 h1
  rw [if_pos (by omega)]
  simp (disch := omega) only [Bool.and_self, cond_true, wrapT]
noncomputable def ua_20 := ua_19.addSpec 160 lDescP_sp
theorem ua_20_laws : FLaws Tryz.prog s23 ua_20 := ua_19_laws.addEv s23_laws fun args d h => by
  unfold lDescP_sp at h
  split at h
  · unfold lDescP_s at h
    have h1 := congrArg Prod.fst (Option.some.inj h)
    obtain rfl : _ = d := congrArg Prod.snd (Option.some.inj h)
    exact ⟨by simp [D.refs], 20, lDescP_ok _ _ h1⟩
  · cases h
noncomputable def lDescR_s (s : Int) (f : Int) : Option (Bool × D RC) := some (true, .int .i64 (lField 99 s f 16 12))
noncomputable def lDescR_sp : List (D RC) → Option (Bool × D RC)
  | [.int .i64 s, .int .i64 f] => lDescR_s s f
  | _ => none
noncomputable def lDescR_e (s : Int) (f : Int) := evF s23 ua_20 20 206 [.int .i64 s, .int .i64 f]
theorem lDescR_eq (s : Int) (f : Int) : lDescR_e s f = (let Z0 : DO_ := some (D.int .i64 (-1 : Int)); let Z1 : Int := bif decide ((0 : Int) ≤ s) && decide (s < (16 : Int)) then IntKind.wrap .i64 ((99 : Int) + IntKind.wrap .i64 ((12 : Int) * s)) else (-1 : Int); bif decide (f < (0 : Int)) then Z0 else bif decide ((11 : Int) < f) then Z0 else bif decide (Z1 < (0 : Int)) then Z0 else some (D.int .i64 (IntKind.wrap .i64 (Z1 + f)))) := by kernel_rfl
theorem lDescR_ok (s : Int) (f : Int) (h : (true) = true) : lDescR_e s f = some (.int .i64 (lField 99 s f 16 12)) := by
  (rw [lDescR_eq]; conv => zeta)
  unfold lField
  refine cond2 (fun h0 => ?_) fun h0 => ?_ <;> simp only [decide_eq_true_eq, decide_eq_false_iff_not] at h0
  · rw [if_neg (by omega)]
  refine cond2 (fun h1 => ?_) fun h1 => ?_ <;> simp only [decide_eq_true_eq, decide_eq_false_iff_not] at h1
  · rw [if_neg (by omega)]
  by_cases h2 : 0 ≤ s
  · by_cases h3 : s < 16
    · simp (disch := omega) only [decide_eq_true h2, decide_eq_true h3, Bool.and_self, cond_true, wrapT]
      rw [decide_eq_false (by omega), if_pos (by omega)]
      simp (disch := omega) only [cond_false, wrapT]
      congr 2; omega
    · simp only [decide_eq_false h3, Bool.and_false, cond_false]; rw [if_neg (by omega)]; rfl
  · simp only [decide_eq_false h2, Bool.false_and, cond_false]; rw [if_neg (by omega)]; rfl
noncomputable def ua_21 := ua_20.addSpec 206 lDescR_sp
theorem ua_21_laws : FLaws Tryz.prog s23 ua_21 := ua_20_laws.addEv s23_laws fun args d h => by
  unfold lDescR_sp at h
  split at h
  · unfold lDescR_s at h
    have h1 := congrArg Prod.fst (Option.some.inj h)
    obtain rfl : _ = d := congrArg Prod.snd (Option.some.inj h)
    exact ⟨by simp [D.refs], 20, lDescR_ok _ _ h1⟩
  · cases h
noncomputable def lNodeP_s (s : Int) (f : Int) : Option (Bool × D RC) := some (true, .int .i64 (lField 291 s f 160 3))
noncomputable def lNodeP_sp : List (D RC) → Option (Bool × D RC)
  | [.int .i64 s, .int .i64 f] => lNodeP_s s f
  | _ => none
noncomputable def lNodeP_e (s : Int) (f : Int) := evF s23 ua_21 20 159 [.int .i64 s, .int .i64 f]
theorem lNodeP_eq (s : Int) (f : Int) : lNodeP_e s f = (some (D.int .i64 (bif withinB s (0 : Int) (159 : Int) && withinB f (0 : Int) (2 : Int) then IntKind.wrap .i64 (IntKind.wrap .i64 ((291 : Int) + IntKind.wrap .i64 (s * (3 : Int))) + f) else (-1 : Int)))) := by kernel_rfl
theorem lNodeP_ok (s : Int) (f : Int) (h : (true) = true) : lNodeP_e s f = some (.int .i64 (lField 291 s f 160 3)) := by
  rw [lNodeP_eq]
  congr 2
  unfold lField
  cases h0 : withinB s 0 159
  · have := withinB_no h0
    rw [if_neg (by omega)]; rfl
  cases h1 : withinB f 0 2
  · have := withinB_no h1
    rw [if_neg (by omega)]; rfl
  rw [withinB_iff] at h0 h1
  rw [if_pos (by omega)]
  simp (disch := omega) only [Bool.and_self, cond_true, wrapT]
noncomputable def ua_22 := ua_21.addSpec 159 lNodeP_sp
theorem ua_22_laws : FLaws Tryz.prog s23 ua_22 := ua_21_laws.addEv s23_laws fun args d h => by
  unfold lNodeP_sp at h
  split at h
  · unfold lNodeP_s at h
    have h1 := congrArg Prod.fst (Option.some.inj h)
    obtain rfl : _ = d := congrArg Prod.snd (Option.some.inj h)
    exact ⟨by simp [D.refs], 20, lNodeP_ok _ _ h1⟩
  · cases h
noncomputable def lNodeR_s (s : Int) (f : Int) : Option (Bool × D RC) := some (true, .int .i64 (lField 291 s f 160 3))
noncomputable def lNodeR_sp : List (D RC) → Option (Bool × D RC)
  | [.int .i64 s, .int .i64 f] => lNodeR_s s f
  | _ => none
noncomputable def lNodeR_e (s : Int) (f : Int) := evF s23 ua_22 20 33 [.int .i64 s, .int .i64 f]
theorem lNodeR_eq (s : Int) (f : Int) : lNodeR_e s f = (let Z0 : DO_ := some (D.int .i64 (-1 : Int)); let Z1 : Int := bif decide ((0 : Int) ≤ s) && decide (s < (160 : Int)) then IntKind.wrap .i64 ((291 : Int) + IntKind.wrap .i64 ((3 : Int) * s)) else (-1 : Int); bif decide (f < (0 : Int)) then Z0 else bif decide ((2 : Int) < f) then Z0 else bif decide (Z1 < (0 : Int)) then Z0 else some (D.int .i64 (IntKind.wrap .i64 (Z1 + f)))) := by kernel_rfl
theorem lNodeR_ok (s : Int) (f : Int) (h : (true) = true) : lNodeR_e s f = some (.int .i64 (lField 291 s f 160 3)) := by
  (rw [lNodeR_eq]; conv => zeta)
  unfold lField
  refine cond2 (fun h0 => ?_) fun h0 => ?_ <;> simp only [decide_eq_true_eq, decide_eq_false_iff_not] at h0
  · rw [if_neg (by omega)]
  refine cond2 (fun h1 => ?_) fun h1 => ?_ <;> simp only [decide_eq_true_eq, decide_eq_false_iff_not] at h1
  · rw [if_neg (by omega)]
  by_cases h2 : 0 ≤ s
  · by_cases h3 : s < 160
    · simp (disch := omega) only [decide_eq_true h2, decide_eq_true h3, Bool.and_self, cond_true, wrapT]
      rw [decide_eq_false (by omega), if_pos (by omega)]
      simp (disch := omega) only [cond_false, wrapT]
      congr 2; omega
    · simp only [decide_eq_false h3, Bool.and_false, cond_false]; rw [if_neg (by omega)]; rfl
  · simp only [decide_eq_false h2, Bool.false_and, cond_false]; rw [if_neg (by omega)]; rfl
noncomputable def ua_23 := ua_22.addSpec 33 lNodeR_sp
theorem ua_23_laws : FLaws Tryz.prog s23 ua_23 := ua_22_laws.addEv s23_laws fun args d h => by
  unfold lNodeR_sp at h
  split at h
  · unfold lNodeR_s at h
    have h1 := congrArg Prod.fst (Option.some.inj h)
    obtain rfl : _ = d := congrArg Prod.snd (Option.some.inj h)
    exact ⟨by simp [D.refs], 20, lNodeR_ok _ _ h1⟩
  · cases h
structure ints11l_St where
  c : Bool
  l : List Int
  d : Bool
  m : List Int
  i : Nat
def ints11l_c (c : Bool) (l : List Int) (d : Bool) (m : List Int) (i : Nat) : Env RC := [(0, .sl (C := RC) .int c l), (1, .sl (C := RC) .int d m), (4, .bool false), (5, .int .i64 (i : Int))]
def ints11l_o (c : Bool) (l : List Int) (d : Bool) (m : List Int) (i : Nat) : List (Obj RC) := []
noncomputable def ints11l_r (c : Bool) (l : List Int) (d : Bool) (m : List Int) (i : Nat) := rndO s23 ua_23 19 4 40 0 [0, 1, 4, 5] [4] [] (ints11l_c c l d m i) (ints11l_o c l d m i)
theorem ints11l_eq (c : Bool) (l : List Int) (d : Bool) (m : List Int) (i : Nat) : ints11l_r c l d m i = (let Z0 : Int := (↑i : Int); bif lenOK l.length then bif decide (Z0 < (↑l.length : Int)) then bif decide ((0 : Int) ≤ Z0 ∧ Z0 < (↑l.length : Int)) then bif decide ((0 : Int) ≤ Z0 ∧ Z0 < (↑m.length : Int)) then bif List.getD l Z0.toNat (0 : Int) != List.getD m Z0.toNat (0 : Int) then some ((X.ret, [(4, D.bool false)]), []) else some ((X.normal, [(0, D.sl RTy.int c l), (1, D.sl RTy.int d m), (4, D.bool false), (5, D.int .i64 (IntKind.wrap .i64 (Z0 + (1 : Int))))]), []) else none else none else some ((X.exit (0 : Nat), [(4, D.bool false)]), []) else none) := by kernel_rfl
noncomputable def ints11l_fin (c : Bool) (l : List Int) (d : Bool) (m : List Int) (i : Nat) : RT RC := .br (decide (l.drop i = m.drop i)) (.leaf (.exit 0) [(4, .bool false)] []) (.leaf .ret [(4, .bool false)] [])
def ints11l_Inv (c : Bool) (l : List Int) (d : Bool) (m : List Int) (i : Nat) : Prop := i ≤ l.length ∧ l.length ≤ 9223372036854775807 ∧ l.length = m.length
noncomputable def ints11l_S : LoopR RC ints11l_St where
  k := 0
  canon q := ints11l_c q.c q.l q.d q.m q.i
  objs q := ints11l_o q.c q.l q.d q.m q.i
  fin q := ints11l_fin q.c q.l q.d q.m q.i
  Inv q := ints11l_Inv q.c q.l q.d q.m q.i
  μ q := q.l.length - q.i
theorem ints11l_round (c : Bool) (l : List Int) (d : Bool) (m : List Int) (i : Nat) (hI : ints11l_Inv c l d m i) : Leaf (ints11l_r c l d m i) (LedR ints11l_S ⟨c, l, d, m, i⟩) := by
  (rw [ints11l_eq]; conv => zeta)
  unfold ints11l_Inv at hI
  obtain ⟨h1, h2, h3⟩ := hI
  have hlk := lenOK_of h2
  rw [hlk]
  simp only [cond_true]
  by_cases hlt : i < l.length
  · have w_succ : IntKind.i64.wrap ((i : Int) + 1) = ((i + 1 : Nat) : Int) := by rw [wrap_id (by omega) (by omega)]; simp
    have d_lt : decide ((i : Int) < l.length) = true := by simp; omega
    have d_in : decide (0 ≤ (i : Int) ∧ (i : Int) < l.length) = true := by simp; omega
    have t_nat : ((i : Int)).toNat = i := by simp
    simp only [w_succ, d_lt, d_in, t_nat, cond_true]
    have hlt' : i < m.length := by omega
    have d_in' : decide (0 ≤ (i : Int) ∧ (i : Int) < m.length) = true := by simp; omega
    have hst := drops_step l m i (0 : Int) hlt h3
    simp only [d_in', cond_true]
    generalize l.getD i (0 : Int) = x at hst ⊢
    generalize m.getD i (0 : Int) = y at hst ⊢
    by_cases hxy : x = y
    · simp only [ibneF hxy, cond_false]
      exact leafR_go ⟨c, l, d, m, i + 1⟩ ⟨hlt, h2, h3⟩ (by simp only [ints11l_S]; omega) (by simp only [ints11l_S, ints11l_fin, hst, hxy, decide_true, Bool.true_and]) rfl rfl
    · simp only [ibneT hxy, cond_true]
      exact leafR_ret [] (by simp [ints11l_S, ints11l_fin, hst, hxy, RT.val]) rfl
  · have hi : i = l.length := by omega
    have c1 : decide ((i : Int) < l.length) = false := by simp; omega
    simp only [c1, cond_false]
    exact leafR_exit [] (by simp only [ints11l_S, ints11l_fin, drops_end l m i (by omega) (by omega), RT.val, cond_true]) rfl
noncomputable def ints11l_d (env : Env RC) (os : List (Obj RC)) : Option (Bool × ints11l_St) := match env, os with
  | [(0, .sl .int c l), (1, .sl .int d m), (4, .bool false), (5, .int .i64 x0)], [] => staticD (true) (decide (x0 = 0) && decide (l.length ≤ 9223372036854775807 ∧ l.length = m.length), ⟨c, l, d, m, 0⟩)
  | _, _ => none
noncomputable def ua_24 := ua_23.addLoop 19 4 (sumR s23 [] [0, 1, 4, 5] ints11l_S ints11l_d)
theorem ua_24_laws : FLaws Tryz.prog s23 ua_24 := by
  refine ua_23_laws.addRoundsR s23_laws (by kernel_rfl) ints11l_S 40 [0, 1, 4, 5] [4] [] [0, 1, 4, 5] ints11l_d (fun q hI => ?_) ?_
  · obtain ⟨c, l, d, m, i⟩ := q
    refine ⟨?_, ?_, ints11l_round c l d m i hI⟩
    · simp_all [RefsOK, ints11l_S, ints11l_c, ints11l_o, ints11l_Inv, D.refs, Obj.refs, rEnc]
    · simp_all [ints11l_S, ints11l_fin, ints11l_o, ints11l_Inv, RT.refsOK, RefsOK, D.refs, Obj.refs, rEnc]
  · intro env os b q hd_ hb
    unfold ints11l_d at hd_
    split at hd_
    · obtain ⟨hs, hd_⟩ := staticD_some hd_
      cases hd_
      simp only [Bool.and_eq_true, decide_eq_true_eq] at hb
      obtain ⟨⟨rfl, rfl⟩, hl⟩ := hb
      exact ⟨⟨Nat.zero_le _, hl.1, hl.2⟩, rfl, rfl⟩
    · cases hd_
noncomputable def ints11_s (c : Bool) (l : List Int) (d : Bool) (m : List Int) : Option (Bool × D RC) := some (lenOK l.length && lenOK m.length, .bool (decide (l = m)))
noncomputable def ints11_sp : List (D RC) → Option (Bool × D RC)
  | [.sl .int c l, .sl .int d m] => ints11_s c l d m
  | _ => none
noncomputable def ints11_e (c : Bool) (l : List Int) (d : Bool) (m : List Int) := evF s23 ua_24 40 19 [.sl (C := RC) .int c l, .sl (C := RC) .int d m]
theorem ints11_eq (c : Bool) (l : List Int) (d : Bool) (m : List Int) : ints11_e c l d m = (let Z0 : Nat := List.length l; let Z1 : Nat := List.length m; bif lenOK Z0 then bif lenOK Z1 then bif (↑Z0 : Int) != (↑Z1 : Int) then some (D.bool false) else bif decide (Z0 ≤ (9223372036854775807 : Nat) ∧ Z0 = Z1) then bif decide (List.drop (0 : Nat) l = List.drop (0 : Nat) m) then some (D.bool true) else some (D.bool false) else none else none else none) := by kernel_rfl
theorem ints11_ok (c : Bool) (l : List Int) (d : Bool) (m : List Int) (h : (lenOK l.length && lenOK m.length) = true) : ints11_e c l d m = some (.bool (decide (l = m))) := by
  (rw [ints11_eq]; conv => zeta)
  simp only [Bool.and_eq_true] at h
  have h1 : l.length ≤ 9223372036854775807 := lenOK_le h.1
  simp only [h.1, h.2, cond_true]
  by_cases hl : l.length = m.length
  · have e1 : ((l.length : Int) != (m.length : Int)) = false := by simp [hl]
    have e2 : (l.length ≤ 9223372036854775807 ∧ l.length = m.length) := ⟨h1, hl⟩
    rw [e1, decide_eq_true e2]
    simp only [cond_true, cond_false, List.drop_zero]
    cases decide (l = m) <;> rfl
  · have e1 : ((l.length : Int) != (m.length : Int)) = true := by simp; omega
    have : ¬ l = m := fun e => hl (by rw [e])
    simp [e1, this]
noncomputable def ua_25 := ua_24.addSpec 19 ints11_sp
theorem ua_25_laws : FLaws Tryz.prog s23 ua_25 := ua_24_laws.addEv s23_laws fun args d h => by
  unfold ints11_sp at h
  split at h
  · unfold ints11_s at h
    have h1 := congrArg Prod.fst (Option.some.inj h)
    obtain rfl : _ = d := congrArg Prod.snd (Option.some.inj h)
    exact ⟨by simp [D.refs], 40, ints11_ok _ _ _ _ h1⟩
  · cases h
def floW : Int → List Int → Int
  | n, [] => n
  | n, s :: l => floW (if 0 < s ∧ IntKind.i64.wrap (s - 1) < n then IntKind.i64.wrap (s - 1) else n) l
theorem floW_le : ∀ (l : List Int) (n : Int), floW n l ≤ n
  | [], n => Int.le_refl n
  | s :: l, n => by
    have := floW_le l (if 0 < s ∧ IntKind.i64.wrap (s - 1) < n then IntKind.i64.wrap (s - 1) else n)
    unfold floW
    split at this <;> rename_i h
    · rw [if_pos h]; omega
    · rw [if_neg h]; omega
theorem floW_drop {l : List Int} {i : Nat} (hi : i < l.length) (n d : Int) : floW n (l.drop i) = floW (if 0 < l.getD i d ∧ IntKind.i64.wrap (l.getD i d - 1) < n then IntKind.i64.wrap (l.getD i d - 1) else n) (l.drop (i + 1)) := by
  rw [List.drop_eq_getElem_cons hi, floW, getD_at hi]
structure floRl_St where
  n : Int
  c : Bool
  l : List Int
  i : Nat
def floRl_c (n : Int) (c : Bool) (l : List Int) (i : Nat) : Env RC := [(0, .int .i64 n), (1, .sl (C := RC) .int c l), (5, .int .i64 (i : Int))]
def floRl_o (n : Int) (c : Bool) (l : List Int) (i : Nat) : List (Obj RC) := []
noncomputable def floRl_r (n : Int) (c : Bool) (l : List Int) (i : Nat) := rndO s23 ua_25 14 2 40 0 [0, 1, 5] [0] [] (floRl_c n c l i) (floRl_o n c l i)
theorem floRl_eq (n : Int) (c : Bool) (l : List Int) (i : Nat) : floRl_r n c l i = (let Z0 : Int := (↑i : Int); let Z1 : Bool := decide ((0 : Int) ≤ Z0 ∧ Z0 < (↑l.length : Int)); let Z2 : Int := List.getD l Z0.toNat (0 : Int); let Z3 : Int := IntKind.wrap .i64 (Z2 - (1 : Int)); let Z4 : List (Nat × D RC) := [(1, D.sl RTy.int c l), (5, D.int .i64 (IntKind.wrap .i64 (Z0 + (1 : Int))))]; let Z5 : Nat × D RC := (0, D.int .i64 n); bif lenOK l.length then bif decide (Z0 < (↑l.length : Int)) then bif Z1 then bif decide ((0 : Int) < Z2) then bif Z1 then bif decide (Z3 < n) then bif Z1 then some ((X.normal, (0, D.int .i64 Z3) :: Z4), []) else none else some ((X.normal, Z5 :: Z4), []) else none else some ((X.normal, Z5 :: Z4), []) else none else some ((X.exit (0 : Nat), [Z5]), []) else none) := by kernel_rfl
def floRl_fin (n : Int) (c : Bool) (l : List Int) (i : Nat) : RT RC := .leaf (.exit 0) [(0, .int .i64 (floW n (l.drop i)))] []
def floRl_Inv (n : Int) (c : Bool) (l : List Int) (i : Nat) : Prop := i ≤ l.length ∧ l.length ≤ 9223372036854775807
def floRl_S : LoopR RC floRl_St where
  k := 0
  canon q := floRl_c q.n q.c q.l q.i
  objs q := floRl_o q.n q.c q.l q.i
  fin q := floRl_fin q.n q.c q.l q.i
  Inv q := floRl_Inv q.n q.c q.l q.i
  μ q := q.l.length - q.i
theorem floRl_round (n : Int) (c : Bool) (l : List Int) (i : Nat) (hI : floRl_Inv n c l i) : Leaf (floRl_r n c l i) (LedR floRl_S ⟨n, c, l, i⟩) := by
  (rw [floRl_eq]; conv => zeta)
  unfold floRl_Inv at hI
  obtain ⟨h1, h2⟩ := hI
  have hlk := lenOK_of h2
  rw [hlk]
  simp only [cond_true]
  by_cases hlt : i < l.length
  · have hst := floW_drop hlt n 0
    have w_succ : IntKind.i64.wrap ((i : Int) + 1) = ((i + 1 : Nat) : Int) := by rw [wrap_id (by omega) (by omega)]; simp
    have d_lt : decide ((i : Int) < l.length) = true := by simp; omega
    have d_in : decide (0 ≤ (i : Int) ∧ (i : Int) < l.length) = true := by simp; omega
    have t_nat : ((i : Int)).toNat = i := by simp
    simp only [w_succ, d_lt, d_in, t_nat, cond_true]
    generalize l.getD i (0 : Int) = x at hst ⊢
    have hgo : ∀ y : Int, (if 0 < x ∧ IntKind.i64.wrap (x - 1) < n then IntKind.i64.wrap (x - 1) else n) = y → Leaf (some ((X.normal, floRl_c y c l (i + 1)), (floRl_o y c l (i + 1)).map some)) (LedR floRl_S ⟨n, c, l, i⟩) := fun y hy =>
      leafR_go ⟨y, c, l, i + 1⟩ ⟨hlt, h2⟩ (by simp only [floRl_S]; omega) (by simp only [floRl_S, floRl_fin]; rw [hst, hy]) rfl rfl
    refine leaf_cond.2 ⟨fun q => ?_, fun q => ?_⟩
    · have q := of_decide_eq_true q
      refine leaf_cond.2 ⟨fun q2 => ?_, fun q2 => ?_⟩
      · have q2 := of_decide_eq_true q2
        exact hgo _ (if_pos ⟨q, q2⟩)
      · have q2 := of_decide_eq_false q2
        exact hgo n (if_neg (fun h => q2 h.2))
    · have q := of_decide_eq_false q
      exact hgo n (if_neg (fun h => q h.1))
  · have hi : i = l.length := by omega
    have c1 : decide ((i : Int) < l.length) = false := by simp; omega
    simp only [c1, cond_false]
    exact leafR_exit [] (by simp [floRl_S, floRl_fin, hi, floW, RT.val]) rfl
def floRl_d (env : Env RC) (os : List (Obj RC)) : Option (Bool × floRl_St) := match env, os with
  | [(0, .int .i64 n), (1, .sl .int c l), (5, .int .i64 x0)], [] => staticD (true) (decide (x0 = 0) && decide (l.length ≤ 9223372036854775807), ⟨n, c, l, 0⟩)
  | _, _ => none
noncomputable def ua_26 := ua_25.addLoop 14 2 (sumR s23 [] [0, 1, 5] floRl_S floRl_d)
theorem ua_26_laws : FLaws Tryz.prog s23 ua_26 := by
  refine ua_25_laws.addRoundsR s23_laws (by kernel_rfl) floRl_S 40 [0, 1, 5] [0] [] [0, 1, 5] floRl_d (fun q hI => ?_) ?_
  · obtain ⟨n, c, l, i⟩ := q
    refine ⟨?_, ?_, floRl_round n c l i hI⟩
    · simp_all [RefsOK, floRl_S, floRl_c, floRl_o, floRl_Inv, D.refs, Obj.refs, rEnc]
    · simp_all [floRl_S, floRl_fin, floRl_o, floRl_Inv, RT.refsOK, RefsOK, D.refs, Obj.refs, rEnc]
  · intro env os b q hd_ hb
    unfold floRl_d at hd_
    split at hd_
    · obtain ⟨hs, hd_⟩ := staticD_some hd_
      cases hd_
      simp only [Bool.and_eq_true, decide_eq_true_eq] at hb
      obtain ⟨rfl, h2⟩ := hb
      exact ⟨⟨Nat.zero_le _, h2⟩, rfl, rfl⟩
    · cases hd_
def floRf_s (n : Int) (c : Bool) (l : List Int) : Option (Bool × D RC) := some (lenOK l.length, .int .i64 (floW n l))
def floRf_sp : List (D RC) → Option (Bool × D RC)
  | [.int .i64 n, .sl .int c l] => floRf_s n c l
  | _ => none
noncomputable def floRf_e (n : Int) (c : Bool) (l : List Int) := evF s23 ua_26 40 14 [.int .i64 n, .sl (C := RC) .int c l]
theorem floRf_eq (n : Int) (c : Bool) (l : List Int) : floRf_e n c l = (bif decide (List.length l ≤ (9223372036854775807 : Nat)) then some (D.int .i64 (floW n (List.drop (0 : Nat) l))) else none) := by kernel_rfl
theorem floRf_ok (n : Int) (c : Bool) (l : List Int) (h : (lenOK l.length) = true) : floRf_e n c l = some (.int .i64 (floW n l)) := by
  rw [floRf_eq]
  simp only [h, decide_eq_true (lenOK_le h), decide_true, Bool.and_self, Bool.true_and, cond_true, List.drop_zero]
noncomputable def ua_27 := ua_26.addSpec 14 floRf_sp
theorem ua_27_laws : FLaws Tryz.prog s23 ua_27 := ua_26_laws.addEv s23_laws fun args d h => by
  unfold floRf_sp at h
  split at h
  · unfold floRf_s at h
    have h1 := congrArg Prod.fst (Option.some.inj h)
    obtain rfl : _ = d := congrArg Prod.snd (Option.some.inj h)
    exact ⟨by simp [D.refs], 40, floRf_ok _ _ _ h1⟩
  · cases h
structure floPl_St where
  n : Int
  c : Bool
  l : List Int
  i : Nat
def floPl_c (n : Int) (c : Bool) (l : List Int) (i : Nat) : Env RC := [(0, .int .i64 n), (7, .sl (C := RC) .int c l), (8, .int .i64 (l.length)), (9, .int .i64 (i : Int))]
def floPl_o (n : Int) (c : Bool) (l : List Int) (i : Nat) : List (Obj RC) := []
noncomputable def floPl_r (n : Int) (c : Bool) (l : List Int) (i : Nat) := rndO s23 ua_27 54 2 40 0 [0, 7, 8, 9] [0] [] (floPl_c n c l i) (floPl_o n c l i)
theorem floPl_eq (n : Int) (c : Bool) (l : List Int) (i : Nat) : floPl_r n c l i = (let Z0 : Int := (↑i : Int); let Z1 : Int := (↑l.length : Int); let Z2 : Int := List.getD l Z0.toNat (0 : Int); let Z3 : Int := IntKind.wrap .i64 (Z2 - (1 : Int)); let Z4 : List (Nat × D RC) := [(7, D.sl RTy.int c l), (8, D.int .i64 Z1), (9, D.int .i64 (IntKind.wrap .i64 (Z0 + (1 : Int))))]; let Z5 : Nat × D RC := (0, D.int .i64 n); bif decide (Z0 < Z1) then bif decide ((0 : Int) ≤ Z0 ∧ Z0 < Z1) then bif decide ((0 : Int) < Z2) then some ((X.normal, (0, D.int .i64 (if Z3 < n then Z3 else n)) :: Z4), []) else some ((X.normal, Z5 :: Z4), []) else none else some ((X.exit (0 : Nat), [Z5]), [])) := by kernel_rfl
def floPl_fin (n : Int) (c : Bool) (l : List Int) (i : Nat) : RT RC := .leaf (.exit 0) [(0, .int .i64 (floW n (l.drop i)))] []
def floPl_Inv (n : Int) (c : Bool) (l : List Int) (i : Nat) : Prop := i ≤ l.length ∧ l.length ≤ 9223372036854775807
def floPl_S : LoopR RC floPl_St where
  k := 0
  canon q := floPl_c q.n q.c q.l q.i
  objs q := floPl_o q.n q.c q.l q.i
  fin q := floPl_fin q.n q.c q.l q.i
  Inv q := floPl_Inv q.n q.c q.l q.i
  μ q := q.l.length - q.i
theorem floPl_round (n : Int) (c : Bool) (l : List Int) (i : Nat) (hI : floPl_Inv n c l i) : Leaf (floPl_r n c l i) (LedR floPl_S ⟨n, c, l, i⟩) := by
  (rw [floPl_eq]; conv => zeta)
  unfold floPl_Inv at hI
  obtain ⟨h1, h2⟩ := hI
  by_cases hlt : i < l.length
  · have hst := floW_drop hlt n 0
    have w_succ : IntKind.i64.wrap ((i : Int) + 1) = ((i + 1 : Nat) : Int) := by rw [wrap_id (by omega) (by omega)]; simp
    have d_lt : decide ((i : Int) < l.length) = true := by simp; omega
    have d_in : decide (0 ≤ (i : Int) ∧ (i : Int) < l.length) = true := by simp; omega
    have t_nat : ((i : Int)).toNat = i := by simp
    simp only [w_succ, d_lt, d_in, t_nat, cond_true]
    generalize l.getD i (0 : Int) = x at hst ⊢
    have hgo : ∀ y : Int, (if 0 < x ∧ IntKind.i64.wrap (x - 1) < n then IntKind.i64.wrap (x - 1) else n) = y → Leaf (some ((X.normal, floPl_c y c l (i + 1)), (floPl_o y c l (i + 1)).map some)) (LedR floPl_S ⟨n, c, l, i⟩) := fun y hy =>
      leafR_go ⟨y, c, l, i + 1⟩ ⟨hlt, h2⟩ (by simp only [floPl_S]; omega) (by simp only [floPl_S, floPl_fin]; rw [hst, hy]) rfl rfl
    refine leaf_cond.2 ⟨fun q => ?_, fun q => ?_⟩
    · have q := of_decide_eq_true q
      exact hgo _ (by
        by_cases q2 : IntKind.i64.wrap (x - 1) < n
        · rw [if_pos ⟨q, q2⟩, if_pos q2]
        · rw [if_neg (fun h => q2 h.2), if_neg q2])
    · have q := of_decide_eq_false q
      exact hgo n (if_neg (fun h => q h.1))
  · have hi : i = l.length := by omega
    have c1 : decide ((i : Int) < l.length) = false := by simp; omega
    simp only [c1, cond_false]
    exact leafR_exit [] (by simp [floPl_S, floPl_fin, hi, floW, RT.val]) rfl
def floPl_d (env : Env RC) (os : List (Obj RC)) : Option (Bool × floPl_St) := match env, os with
  | [(0, .int .i64 n), (7, .sl .int c l), (8, .int .i64 x0), (9, .int .i64 x1)], [] => staticD (true) (decide (x0 = l.length) && decide (x1 = 0) && decide (l.length ≤ 9223372036854775807), ⟨n, c, l, 0⟩)
  | _, _ => none
noncomputable def ua_28 := ua_27.addLoop 54 2 (sumR s23 [] [0, 7, 8, 9] floPl_S floPl_d)
theorem ua_28_laws : FLaws Tryz.prog s23 ua_28 := by
  refine ua_27_laws.addRoundsR s23_laws (by kernel_rfl) floPl_S 40 [0, 7, 8, 9] [0] [] [0, 7, 8, 9] floPl_d (fun q hI => ?_) ?_
  · obtain ⟨n, c, l, i⟩ := q
    refine ⟨?_, ?_, floPl_round n c l i hI⟩
    · simp_all [RefsOK, floPl_S, floPl_c, floPl_o, floPl_Inv, D.refs, Obj.refs, rEnc]
    · simp_all [floPl_S, floPl_fin, floPl_o, floPl_Inv, RT.refsOK, RefsOK, D.refs, Obj.refs, rEnc]
  · intro env os b q hd_ hb
    unfold floPl_d at hd_
    split at hd_
    · obtain ⟨hs, hd_⟩ := staticD_some hd_
      cases hd_
      simp only [Bool.and_eq_true, decide_eq_true_eq] at hb
      obtain ⟨⟨rfl, rfl⟩, h2⟩ := hb
      exact ⟨⟨Nat.zero_le _, h2⟩, rfl, rfl⟩
    · cases hd_
def floPf_s (n : Int) (c : Bool) (l : List Int) : Option (Bool × D RC) := some (lenOK l.length, .int .i64 (floW n l))
def floPf_sp : List (D RC) → Option (Bool × D RC)
  | [.int .i64 n, .sl .int c l] => floPf_s n c l
  | _ => none
noncomputable def floPf_e (n : Int) (c : Bool) (l : List Int) := evF s23 ua_28 40 54 [.int .i64 n, .sl (C := RC) .int c l]
theorem floPf_eq (n : Int) (c : Bool) (l : List Int) : floPf_e n c l = (let Z0 : Nat := List.length l; bif lenOK Z0 then bif decide ((↑Z0 : Int) = (↑Z0 : Int)) && true && decide (Z0 ≤ (9223372036854775807 : Nat)) then some (D.int .i64 (floW n (List.drop (0 : Nat) l))) else none else none) := by kernel_rfl
theorem floPf_ok (n : Int) (c : Bool) (l : List Int) (h : (lenOK l.length) = true) : floPf_e n c l = some (.int .i64 (floW n l)) := by
  (rw [floPf_eq]; conv => zeta)
  simp only [h, decide_eq_true (lenOK_le h), decide_true, Bool.and_self, Bool.true_and, cond_true, List.drop_zero]
noncomputable def ua_29 := ua_28.addSpec 54 floPf_sp
theorem ua_29_laws : FLaws Tryz.prog s23 ua_29 := ua_28_laws.addEv s23_laws fun args d h => by
  unfold floPf_sp at h
  split at h
  · unfold floPf_s at h
    have h1 := congrArg Prod.fst (Option.some.inj h)
    obtain rfl : _ = d := congrArg Prod.snd (Option.some.inj h)
    exact ⟨by simp [D.refs], 40, floPf_ok _ _ _ h1⟩
  · cases h
def startsL (l : List Int) : List Int := if l.length = 771 then (l.take 13).drop 9 else []
theorem starts_eq {l : List Int} (h : l.length = 771) : (l.take 13).drop 9 = [l.getD 9 0, l.getD 10 0, l.getD 11 0, l.getD 12 0] := by
  apply List.ext_getElem?
  intro i
  rw [List.getElem?_drop, List.getElem?_take]
  match i with
  | 0 => simp [List.getD_eq_getElem?_getD, List.getElem?_eq_getElem (show 9 < l.length by omega)]
  | 1 => simp [List.getD_eq_getElem?_getD, List.getElem?_eq_getElem (show 10 < l.length by omega)]
  | 2 => simp [List.getD_eq_getElem?_getD, List.getElem?_eq_getElem (show 11 < l.length by omega)]
  | 3 => simp [List.getD_eq_getElem?_getD, List.getElem?_eq_getElem (show 12 < l.length by omega)]
  | i + 4 => rw [if_neg (by omega)]; rfl
def startsP_s (c : Bool) (l : List Int) (a : Bool) (now : List Sector) (b : Bool) (sure : List Sector) : Option (Bool × D RC) := some (lenOK l.length, .sl (C := RC) .int true (startsL l))
def startsP_sp : List (D RC) → Option (Bool × D RC)
  | [.acons (.sl .int c l) (.acons (.acons (.sl .sector a now) (.acons (.sl .sector b sure) .anil)) .anil)] => startsP_s c l a now b sure
  | _ => none
noncomputable def startsP_e (c : Bool) (l : List Int) (a : Bool) (now : List Sector) (b : Bool) (sure : List Sector) := evF s23 ua_29 40 15 [.acons (.sl (C := RC) .int c l) (.acons (.acons (.sl (C := RC) .sector a now) (.acons (.sl (C := RC) .sector b sure) .anil)) .anil)]
theorem startsP_eq (c : Bool) (l : List Int) (a : Bool) (now : List Sector) (b : Bool) (sure : List Sector) : startsP_e c l a now b sure = (let Z0 : Int := (↑l.length : Int); bif lenOK l.length then bif Z0 != (771 : Int) then some (D.sl RTy.int true []) else bif decide ((0 : Int) ≤ (9 : Int) ∧ (9 : Int) ≤ (13 : Int) ∧ (13 : Int) ≤ Z0 ∧ (13 : Int) = (13 : Int)) then some (D.sl RTy.int true (List.drop (9 : Nat) (List.take (13 : Nat) l))) else none else none) := by kernel_rfl
theorem startsP_ok (c : Bool) (l : List Int) (a : Bool) (now : List Sector) (b : Bool) (sure : List Sector) (h : (lenOK l.length) = true) : startsP_e c l a now b sure = some (.sl (C := RC) .int true (startsL l)) := by
  (rw [startsP_eq]; conv => zeta)
  rw [h]
  simp only [cond_true]
  by_cases e : l.length = 771
  · have e1 : ((l.length : Int) != 771) = false := ibneF (by omega)
    have e2 : startsL l = (l.take 13).drop 9 := if_pos e
    rw [e1, e2]
    simp only [cond_false]
    exact cond_of (decide_eq_true (by simp; omega)) rfl
  · have e1 : ((l.length : Int) != 771) = true := ibneT (by omega)
    have e2 : startsL l = [] := if_neg e
    rw [e1, e2]
    rfl
noncomputable def ua_30 := ua_29.addSpec 15 startsP_sp
theorem ua_30_laws : FLaws Tryz.prog s23 ua_30 := ua_29_laws.addEv s23_laws fun args d h => by
  unfold startsP_sp at h
  split at h
  · unfold startsP_s at h
    have h1 := congrArg Prod.fst (Option.some.inj h)
    obtain rfl : _ = d := congrArg Prod.snd (Option.some.inj h)
    exact ⟨by simp [D.refs], 40, startsP_ok _ _ _ _ _ _ h1⟩
  · cases h
def startsQ_s (c : Bool) (l : List Int) (a : Bool) (now : List Sector) (b : Bool) (sure : List Sector) : Option (Bool × D RC) := some (lenOK l.length, .sl (C := RC) .int (!decide (l.length = 771)) (startsL l))
def startsQ_sp : List (D RC) → Option (Bool × D RC)
  | [.acons (.sl .int c l) (.acons (.acons (.sl .sector a now) (.acons (.sl .sector b sure) .anil)) .anil)] => startsQ_s c l a now b sure
  | _ => none
noncomputable def startsQ_e (c : Bool) (l : List Int) (a : Bool) (now : List Sector) (b : Bool) (sure : List Sector) := evF s23 ua_30 60 20 [.acons (.sl (C := RC) .int c l) (.acons (.acons (.sl (C := RC) .sector a now) (.acons (.sl (C := RC) .sector b sure) .anil)) .anil)]
theorem startsQ_eq (c : Bool) (l : List Int) (a : Bool) (now : List Sector) (b : Bool) (sure : List Sector) : startsQ_e c l a now b sure = (let Z0 : Int := (↑l.length : Int); bif lenOK l.length then bif Z0 != (771 : Int) then some (D.sl RTy.int true []) else bif decide ((0 : Int) ≤ (9 : Int) ∧ (9 : Int) < Z0) then bif decide ((0 : Int) ≤ (10 : Int) ∧ (10 : Int) < Z0) then bif decide ((0 : Int) ≤ (11 : Int) ∧ (11 : Int) < Z0) then bif decide ((0 : Int) ≤ (12 : Int) ∧ (12 : Int) < Z0) then some (D.sl RTy.int false ([] ++ [List.getD l (9 : Nat) (0 : Int)] ++ [List.getD l (10 : Nat) (0 : Int)] ++ [List.getD l (11 : Nat) (0 : Int)] ++ [List.getD l (12 : Nat) (0 : Int)])) else none else none else none else none else none) := by kernel_rfl
theorem startsQ_ok (c : Bool) (l : List Int) (a : Bool) (now : List Sector) (b : Bool) (sure : List Sector) (h : (lenOK l.length) = true) : startsQ_e c l a now b sure = some (.sl (C := RC) .int (!decide (l.length = 771)) (startsL l)) := by
  (rw [startsQ_eq]; conv => zeta)
  rw [h]
  simp only [cond_true]
  by_cases e : l.length = 771
  · have e1 : ((l.length : Int) != 771) = false := ibneF (by omega)
    have e2 : startsL l = [l.getD 9 0, l.getD 10 0, l.getD 11 0, l.getD 12 0] := (if_pos e).trans (starts_eq e)
    rw [e1, e2, decide_eq_true e]
    simp only [cond_false]
    refine cond_of (decide_eq_true ⟨by decide, by omega⟩) (cond_of (decide_eq_true ⟨by decide, by omega⟩) (cond_of (decide_eq_true ⟨by decide, by omega⟩) (cond_of (decide_eq_true ⟨by decide, by omega⟩) rfl)))
  · have e1 : ((l.length : Int) != 771) = true := ibneT (by omega)
    have e2 : startsL l = [] := if_neg e
    rw [e1, e2, decide_eq_false e]
    rfl
noncomputable def ua_31 := ua_30.addSpec 20 startsQ_sp
theorem ua_31_laws : FLaws Tryz.prog s23 ua_31 := ua_30_laws.addEv s23_laws fun args d h => by
  unfold startsQ_sp at h
  split at h
  · unfold startsQ_s at h
    have h1 := congrArg Prod.fst (Option.some.inj h)
    obtain rfl : _ = d := congrArg Prod.snd (Option.some.inj h)
    exact ⟨by simp [D.refs], 60, startsQ_ok _ _ _ _ _ _ h1⟩
  · cases h
def floorP_s (c : Bool) (l : List Int) (a : Bool) (now : List Sector) (b : Bool) (sure : List Sector) : Option (Bool × D RC) := some (lenOK l.length, .int .i64 (if l.length = 771 then floW (l.getD 3 0) (startsL l) else 0))
def floorP_sp : List (D RC) → Option (Bool × D RC)
  | [.acons (.sl .int c l) (.acons (.acons (.sl .sector a now) (.acons (.sl .sector b sure) .anil)) .anil)] => floorP_s c l a now b sure
  | _ => none
noncomputable def floorP_e (c : Bool) (l : List Int) (a : Bool) (now : List Sector) (b : Bool) (sure : List Sector) := evF s23 ua_31 40 17 [.acons (.sl (C := RC) .int c l) (.acons (.acons (.sl (C := RC) .sector a now) (.acons (.sl (C := RC) .sector b sure) .anil)) .anil)]
theorem floorP_eq (c : Bool) (l : List Int) (a : Bool) (now : List Sector) (b : Bool) (sure : List Sector) : floorP_e c l a now b sure = (let Z0 : Bool := lenOK l.length; let Z1 : Int := (↑l.length : Int); bif Z0 then bif Z1 != (771 : Int) then some (D.int .i64 0) else bif decide ((0 : Int) ≤ (3 : Int) ∧ (3 : Int) < Z1) then bif Z0 then bif lenOK (startsL l).length then some (D.int .i64 (floW (List.getD l (3 : Nat) (0 : Int)) (startsL l))) else none else none else none else none) := by kernel_rfl
theorem floorP_ok (c : Bool) (l : List Int) (a : Bool) (now : List Sector) (b : Bool) (sure : List Sector) (h : (lenOK l.length) = true) : floorP_e c l a now b sure = some (.int .i64 (if l.length = 771 then floW (l.getD 3 0) (startsL l) else 0)) := by
  (rw [floorP_eq]; conv => zeta)
  rw [h]
  simp only [cond_true]
  by_cases e : l.length = 771
  · have e1 : ((l.length : Int) != 771) = false := ibneF (by omega)
    have e2 : lenOK (startsL l).length = true := lenOK_of (by unfold startsL; rw [if_pos e, List.length_drop, List.length_take]; omega)
    rw [e1, e2, if_pos e]
    simp only [cond_false]
    exact cond_of (decide_eq_true ⟨by decide, by omega⟩) rfl
  · have e1 : ((l.length : Int) != 771) = true := ibneT (by omega)
    rw [e1, if_neg e]
    rfl
noncomputable def ua_32 := ua_31.addSpec 17 floorP_sp
theorem ua_32_laws : FLaws Tryz.prog s23 ua_32 := ua_31_laws.addEv s23_laws fun args d h => by
  unfold floorP_sp at h
  split at h
  · unfold floorP_s at h
    have h1 := congrArg Prod.fst (Option.some.inj h)
    obtain rfl : _ = d := congrArg Prod.snd (Option.some.inj h)
    exact ⟨by simp [D.refs], 40, floorP_ok _ _ _ _ _ _ h1⟩
  · cases h
def floorQ_s (c : Bool) (l : List Int) (a : Bool) (now : List Sector) (b : Bool) (sure : List Sector) : Option (Bool × D RC) := some (lenOK l.length, .int .i64 (if l.length = 771 then floW (l.getD 3 0) (startsL l) else 0))
def floorQ_sp : List (D RC) → Option (Bool × D RC)
  | [.acons (.sl .int c l) (.acons (.acons (.sl .sector a now) (.acons (.sl .sector b sure) .anil)) .anil)] => floorQ_s c l a now b sure
  | _ => none
noncomputable def floorQ_e (c : Bool) (l : List Int) (a : Bool) (now : List Sector) (b : Bool) (sure : List Sector) := evF s23 ua_32 40 18 [.acons (.sl (C := RC) .int c l) (.acons (.acons (.sl (C := RC) .sector a now) (.acons (.sl (C := RC) .sector b sure) .anil)) .anil)]
theorem floorQ_eq (c : Bool) (l : List Int) (a : Bool) (now : List Sector) (b : Bool) (sure : List Sector) : floorQ_e c l a now b sure = (let Z0 : Bool := lenOK l.length; let Z1 : Int := (↑l.length : Int); bif Z0 then bif Z1 != (771 : Int) then some (D.int .i64 0) else bif decide ((0 : Int) ≤ (3 : Int) ∧ (3 : Int) < Z1) then bif Z0 then bif lenOK (startsL l).length then some (D.int .i64 (floW (List.getD l (3 : Nat) (0 : Int)) (startsL l))) else none else none else none else none) := by kernel_rfl
theorem floorQ_ok (c : Bool) (l : List Int) (a : Bool) (now : List Sector) (b : Bool) (sure : List Sector) (h : (lenOK l.length) = true) : floorQ_e c l a now b sure = some (.int .i64 (if l.length = 771 then floW (l.getD 3 0) (startsL l) else 0)) := by
  (rw [floorQ_eq]; conv => zeta)
  rw [h]
  simp only [cond_true]
  by_cases e : l.length = 771
  · have e1 : ((l.length : Int) != 771) = false := ibneF (by omega)
    have e2 : lenOK (startsL l).length = true := lenOK_of (by unfold startsL; rw [if_pos e, List.length_drop, List.length_take]; omega)
    rw [e1, e2, if_pos e]
    simp only [cond_false]
    exact cond_of (decide_eq_true ⟨by decide, by omega⟩) rfl
  · have e1 : ((l.length : Int) != 771) = true := ibneT (by omega)
    rw [e1, if_neg e]
    rfl
noncomputable def ua_33 := ua_32.addSpec 18 floorQ_sp
theorem ua_33_laws : FLaws Tryz.prog s23 ua_33 := ua_32_laws.addEv s23_laws fun args d h => by
  unfold floorQ_sp at h
  split at h
  · unfold floorQ_s at h
    have h1 := congrArg Prod.fst (Option.some.inj h)
    obtain rfl : _ = d := congrArg Prod.snd (Option.some.inj h)
    exact ⟨by simp [D.refs], 40, floorQ_ok _ _ _ _ _ _ h1⟩
  · cases h
open Go.Proofs
def putS (w : List Int) : List Int → Nat → List Int
  | [], _ => w
  | n :: l, k => putS (w.set (9 + k) n) l (k + 1)
theorem putS_len : ∀ (l w : List Int) (k : Nat), (putS w l k).length = w.length
  | [], w, k => rfl
  | n :: l, w, k => by unfold putS; rw [putS_len l, List.length_set]
theorem putS_3 : ∀ (l w : List Int) (k : Nat), (putS w l k).getD 3 0 = w.getD 3 0
  | [], w, k => rfl
  | n :: l, w, k => by unfold putS; rw [putS_3 l, getD_set_ne' (by omega)]
theorem putS_drop {l : List Int} {i : Nat} (hi : i < l.length) (w : List Int) (d : Int) : putS w (l.drop i) i = putS (w.set (9 + i) (l.getD i d)) (l.drop (i + 1)) (i + 1) := by
  rw [List.drop_eq_getElem_cons hi, putS, getD_at hi]
def wakesT_s  : Option (Bool × D RC) := some (true, .bool true)
def wakesT_sp : List (D RC) → Option (Bool × D RC)
  | [] => wakesT_s 
  | _ => none
noncomputable def wakesT_e  := evF s23 ua_33 100 8 []
theorem wakesT_ok  (h : (true) = true) : wakesT_e  = some (.bool true) := by
  kernel_rfl
noncomputable def ub_1 := ua_33.addSpec 8 wakesT_sp
theorem ub_1_laws : FLaws Tryz.prog s23 ub_1 := ua_33_laws.addEv s23_laws fun args d h => by
  unfold wakesT_sp at h
  split at h
  · unfold wakesT_s at h
    have h1 := congrArg Prod.fst (Option.some.inj h)
    obtain rfl : _ = d := congrArg Prod.snd (Option.some.inj h)
    exact ⟨by simp [D.refs], 100, wakesT_ok  h1⟩
  · cases h
structure telL_St where
  c : Bool
  l : List Int
  i : Nat
  w : List Int
  a : Bool
  now : List Sector
  b : Bool
  sure : List Sector
def telL_c (c : Bool) (l : List Int) (i : Nat) (w : List Int) (a : Bool) (now : List Sector) (b : Bool) (sure : List Sector) : Env RC := [(7, .ptr 0 []), (28, .sl (C := RC) .int c l), (29, .int .i64 (l.length)), (30, .int .i64 (i : Int))]
def telL_o (c : Bool) (l : List Int) (i : Nat) (w : List Int) (a : Bool) (now : List Sector) (b : Bool) (sure : List Sector) : List (Obj RC) := [.var 40 (.acons (.vs 1 771) (.acons (.acons (.sl (C := RC) .sector a now) (.acons (.sl (C := RC) .sector b sure) .anil)) .anil)), .vec .int true w]
noncomputable def telL_r (c : Bool) (l : List Int) (i : Nat) (w : List Int) (a : Bool) (now : List Sector) (b : Bool) (sure : List Sector) := rndO s23 ub_1 7 6 60 2 [7, 28, 29, 30] [] [.slot 7 0, .path 0 [0]] (telL_c c l i w a now b sure) (telL_o c l i w a now b sure)
theorem telL_eq (c : Bool) (l : List Int) (i : Nat) (w : List Int) (a : Bool) (now : List Sector) (b : Bool) (sure : List Sector) : telL_r c l i w a now b sure = (let Z0 : Int := (↑i : Int); let Z1 : Int := (↑l.length : Int); let Z2 : Bool := Nat.beq (771 : Nat) w.length; let Z3 : Int := lRow (9 : Int) Z0 (4 : Int); let Z4 : Option (Obj RC) := some (Obj.var 40 (.acons (D.vs 1 (771 : Nat)) (.acons (D.acons (D.sl RTy.sector a now) (.acons (D.sl RTy.sector b sure) .anil)) .anil))); bif decide (Z0 < Z1) then bif decide ((0 : Int) ≤ Z0 ∧ Z0 < Z1) then bif Z2 && decide ((0 : Int) ≤ Z3 ∧ Z3 < (↑w.length : Int)) then bif Z2 then some ((X.normal, [(7, D.ptr 0 []), (28, D.sl RTy.int c l), (29, D.int .i64 Z1), (30, D.int .i64 (IntKind.wrap .i64 (Z0 + (1 : Int))))]), [Z4, some (Obj.vec RTy.int true (List.set w Z3.toNat (List.getD l Z0.toNat (0 : Int))))]) else none else none else none else some ((X.exit (0 : Nat), []), [Z4, some (Obj.vec RTy.int true w)])) := by kernel_rfl
def telL_fin (c : Bool) (l : List Int) (i : Nat) (w : List Int) (a : Bool) (now : List Sector) (b : Bool) (sure : List Sector) : RT RC := .leaf (.exit 0) [] (telL_o c l i (putS w (l.drop i) i) a now b sure)
def telL_Inv (c : Bool) (l : List Int) (i : Nat) (w : List Int) (a : Bool) (now : List Sector) (b : Bool) (sure : List Sector) : Prop := i ≤ l.length ∧ l.length ≤ 4 ∧ w.length = 771
def telL_S : LoopR RC telL_St where
  k := 2
  canon q := telL_c q.c q.l q.i q.w q.a q.now q.b q.sure
  objs q := telL_o q.c q.l q.i q.w q.a q.now q.b q.sure
  fin q := telL_fin q.c q.l q.i q.w q.a q.now q.b q.sure
  Inv q := telL_Inv q.c q.l q.i q.w q.a q.now q.b q.sure
  μ q := q.l.length - q.i
theorem telL_round (c : Bool) (l : List Int) (i : Nat) (w : List Int) (a : Bool) (now : List Sector) (b : Bool) (sure : List Sector) (hI : telL_Inv c l i w a now b sure) : Leaf (telL_r c l i w a now b sure) (LedR telL_S ⟨c, l, i, w, a, now, b, sure⟩) := by
  (rw [telL_eq]; conv => zeta)
  unfold telL_Inv at hI
  obtain ⟨h1, h2, h3⟩ := hI
  by_cases hlt : i < l.length
  · have hst := putS_drop hlt w 0
    have ha : lRow 9 (i : Int) 4 = 9 + i := by unfold lRow; rw [if_pos (by omega)]
    have tn : (9 + (i : Int)).toNat = 9 + i := by omega
    have d5 : (Nat.beq 771 w.length && decide (0 ≤ 9 + (i : Int) ∧ 9 + (i : Int) < w.length)) = true := by rw [Bool.and_eq_true]; exact ⟨nbeqT h3.symm, decide_eq_true ⟨by omega, by omega⟩⟩
    have d6 : Nat.beq 771 w.length = true := nbeqT h3.symm
    have w_succ : IntKind.i64.wrap ((i : Int) + 1) = ((i + 1 : Nat) : Int) := by rw [wrap_id (by omega) (by omega)]; simp
    have d_lt : decide ((i : Int) < l.length) = true := by simp; omega
    have d_in : decide (0 ≤ (i : Int) ∧ (i : Int) < l.length) = true := by simp; omega
    have t_nat : ((i : Int)).toNat = i := by simp
    simp only [w_succ, d_lt, d_in, t_nat, cond_true]
    rw [ha, d5, d6, tn]
    simp only [cond_true]
    exact leafR_go (S := telL_S) (s := ⟨c, l, i, w, a, now, b, sure⟩) ⟨c, l, i + 1, w.set (9 + i) (l.getD i 0), a, now, b, sure⟩ ⟨hlt, h2, by rw [List.length_set]; exact h3⟩ (by simp only [telL_S]; omega) (by simp only [telL_S, telL_fin]; rw [hst]; rfl) rfl rfl
  · have hi : i = l.length := by omega
    have c1 : decide ((i : Int) < l.length) = false := by simp; omega
    simp only [c1, cond_false]
    exact leafR_exit (telL_o c l i w a now b sure) (by simp [telL_S, telL_fin, hi, putS, RT.val]) rfl
def telL_d (env : Env RC) (os : List (Obj RC)) : Option (Bool × telL_St) := match env, os with
  | [(7, .ptr 0 []), (28, .sl .int c l), (29, .int .i64 x0), (30, .int .i64 x1)], [.var 40 (.acons (.vs 1 771) (.acons (.acons (.sl .sector a now) (.acons (.sl .sector b sure) .anil)) .anil)), .vec .int true w] => staticD (true) (decide (x0 = l.length) && decide (x1 = 0) && decide (l.length ≤ 4 ∧ w.length = 771), ⟨c, l, 0, w, a, now, b, sure⟩)
  | _, _ => none
noncomputable def ub_2 := ub_1.addLoop 7 6 (sumR s23 [.slot 7 0, .path 0 [0]] [7, 28, 29, 30] telL_S telL_d)
theorem ub_2_laws : FLaws Tryz.prog s23 ub_2 := by
  refine ub_1_laws.addRoundsR s23_laws (by kernel_rfl) telL_S 60 [7, 28, 29, 30] [] [.slot 7 0, .path 0 [0]] [7, 28, 29, 30] telL_d (fun q hI => ?_) ?_
  · obtain ⟨c, l, i, w, a, now, b, sure⟩ := q
    refine ⟨?_, ?_, telL_round c l i w a now b sure hI⟩
    · simp_all [RefsOK, telL_S, telL_c, telL_o, telL_Inv, D.refs, Obj.refs, rEnc]
    · simp_all [telL_S, telL_fin, telL_o, telL_Inv, RT.refsOK, RefsOK, D.refs, Obj.refs, rEnc]
  · intro env os b q hd_ hb
    unfold telL_d at hd_
    split at hd_
    · obtain ⟨hs, hd_⟩ := staticD_some hd_
      cases hd_
      simp only [Bool.and_eq_true, decide_eq_true_eq] at hb
      obtain ⟨⟨e0, e1⟩, e2, e3⟩ := hb
      subst e0; subst e1
      exact ⟨⟨Nat.zero_le _, e2, e3⟩, rfl, rfl⟩
    · cases hd_
noncomputable def tells23_e (x : Int) (c : Bool) (l : List Int) (z : Bool) := evF s23 ub_2 1000 7 [.int .i64 x, .sl (C := RC) .int c l, .bool z]
theorem tells23_eq (x : Int) (c : Bool) (l : List Int) (z : Bool) : tells23_e x c l z = (let Z0 : Nat := List.length l; let Z1 : Int := (↑Z0 : Int); let Z2 : DO_ := some (D.bool true); let Z3 : Bool := Nat.beq (771 : Nat) nC.length; let Z4 : List Int := putS (List.set nC (3 : Nat) x) (List.drop (0 : Nat) l) (0 : Nat); let Z5 : Nat := List.length Z4; let Z6 : Bool := Nat.beq (771 : Nat) Z5; let Z7 : List Int := List.drop (1 : Nat) Z4; let Z8 : Bool := lenOK Z7.length; let Z9 : List Int := startsL Z7; let Z10 : Int := if List.length Z7 = (771 : Nat) then floW (List.getD Z7 (3 : Nat) (0 : Int)) Z9 else (0 : Int); let Z11 : DO_ := some (D.bool false); let Z12 : DO_ := none; let Z13 : List Int := startsL Z4; let Z14 : Int := if Z5 = (771 : Nat) then floW (List.getD Z4 (3 : Nat) (0 : Int)) Z13 else (0 : Int); bif lenOK Z0 then bif decide ((4 : Int) < Z1) then Z2 else bif Z3 && decide ((0 : Int) ≤ (3 : Int) ∧ (3 : Int) < (↑nC.length : Int)) then bif Z3 then bif lenOK Z0 then bif decide (Z1 = Z1) && true && decide (Z0 ≤ (4 : Nat) ∧ List.length (List.set nC (3 : Nat) x) = (771 : Nat)) then bif z then bif Z6 then bif decide ((0 : Int) ≤ (1 : Int) ∧ (1 : Int) ≤ (↑Z5 : Int)) then bif Z8 then bif Z8 then bif Z10 != Z10 then Z11 else bif Z8 then bif Z8 then bif lenOK Z9.length && lenOK Z9.length then bif !decide (Z9 = Z9) then Z11 else bif z then Z2 else bif decide (Z10 ≤ x) then Z2 else Z11 else Z12 else Z12 else Z12 else Z12 else Z12 else Z12 else Z12 else bif Z6 then bif lenOK Z5 then bif lenOK Z5 then bif Z14 != Z14 then Z11 else bif lenOK Z5 then bif lenOK Z5 then bif lenOK Z13.length && lenOK Z13.length then bif !decide (Z13 = Z13) then Z11 else bif z then Z2 else bif decide (Z14 ≤ x) then Z2 else Z11 else Z12 else Z12 else Z12 else Z12 else Z12 else Z12 else Z12 else Z12 else Z12 else Z12 else Z12) := by kernel_rfl
theorem tells23_ok (x : Int) (c : Bool) (l : List Int) (z : Bool) (h : (lenOK l.length) = true) : tells23_e x c l z = some (.bool true) := by
  (rw [tells23_eq]; conv => zeta)
  have hnl : newCells.length = 771 := by kernel_rfl
  have hn : nC.length = 771 := by rw [nC_eq]; exact hnl
  have hp : ∀ k, (putS (nC.set 3 x) l k).length = 771 := fun k => by rw [putS_len, List.length_set]; exact hn
  have hp3 : (putS (nC.set 3 x) l 0).getD 3 0 = x := by rw [putS_3]; exact getD_set_eq (by rw [hn]; decide)
  have hd : ((putS (nC.set 3 x) l 0).drop 1).length = 770 := by rw [List.length_drop, hp]
  have hs0 : startsL ((putS (nC.set 3 x) l 0).drop 1) = [] := by unfold startsL; rw [if_neg (by rw [hd]; decide)]
  have hs1 : lenOK (startsL (putS (nC.set 3 x) l 0)).length = true := lenOK_of (by unfold startsL; rw [if_pos (hp 0), List.length_drop, List.length_take, hp]; decide)
  rw [List.drop_zero, h]
  simp only [cond_true]
  refine cond2 (fun q => rfl) fun q => ?_
  have q := of_decide_eq_false q
  have hl : l.length ≤ 4 := by omega
  refine cond_of (by rw [hn]; rfl) (cond_of (by rw [hn]; rfl) (cond_of (by rw [List.length_set, hn]; simp [hl]) ?_))
  refine cond2 (fun hz => ?_) fun hz => ?_
  · rw [hs0, hz]
    refine cond_of (nbeqT (hp 0).symm) (cond_of (decide_eq_true ⟨by decide, by rw [hp]; decide⟩) (cond_of (by rw [hd]; rfl) (cond_of (by rw [hd]; rfl) (cond_no (ibneF rfl) (cond_of (by rw [hd]; rfl) (cond_of (by rw [hd]; rfl) (cond_of rfl (cond_no rfl rfl))))))))
  · rw [hz]
    have hp := hp 0
    generalize putS (nC.set 3 x) l 0 = w at *
    have hl : lenOK w.length = true := by rw [hp]; rfl
    refine cond_of (nbeqT hp.symm) (cond_of hl (cond_of hl (cond_no (ibneF rfl) (cond_of hl (cond_of hl (cond_of (by rw [hs1]; rfl) (cond_no (by simp) (cond_no rfl (cond_of (decide_eq_true ?_) rfl)))))))))
    rw [if_pos hp, hp3]
    exact floW_le _ _
open Go.ChangeShapes Go.WideShapes Go.RowKit
section
variable {C : Cdc}
def good (gA : (t : C.Ty) → C.A t → Prop) : D C → Prop
  | .int k n => k.min ≤ n ∧ n ≤ k.max
  | .str s => s.length ≤ maxLen
  | .acons d ds => good gA d ∧ good gA ds
  | .arr t n l => l.length = n ∧ ∀ x ∈ l, gA t x
  | .sl t _ l => l.length ≤ maxLen ∧ ∀ x ∈ l, gA t x
  | _ => True
def plainT (T : Tab C) : Nat → TypeId → Bool
  | 0, _ => false
  | k + 1, t => match T.ty t with
    | .bool | .int _ | .str => true
    | .struct _ fs => fs.all (plainT T k)
    | .arr _ e _ => plainT T k e
    | .sl e _ => plainT T k e
    | _ => false
structure Dec (T : Tab C) (gA : (t : C.Ty) → C.A t → Prop) : Prop where
  dec : ∀ t d, fit T d (.inl (T.ety t)) = true → d.refs = [] → good gA d → (∃ k u, T.ty u = T.ty (T.ety t) ∧ plainT T k u = true) → ∃ x, T.dec t d = some x ∧ gA t x
variable {P : Program} {T : Tab C} {gA : (t : C.Ty) → C.A t → Prop}
def X0 (W : World) : Cx := ⟨W, fun _ => none, fun _ _ => False⟩
theorem X0_free (W : World) (b o : Nat) : (X0 W).free b o := ⟨fun h => h, fun ⟨_, _, h, _⟩ => by simp [X0] at h⟩
theorem arr_R {X : Cx} (t : C.Ty) (sz : Nat) : ∀ (n : Nat) (cs : List Value), cs.length = n * sz → (∀ i, i < n → ∃ x : C.A t, R T X false (T.enc t x) ((cs.drop (i * sz)).take sz) ∧ gA t x) →
    ∃ l : List (C.A t), R T X false (.arr t n l) cs ∧ l.length = n ∧ ∀ x ∈ l, gA t x
  | 0, cs, hl, _ => by
    obtain rfl : cs = [] := by simpa using hl
    exact ⟨[], .arr0 _, rfl, by simp⟩
  | n + 1, cs, hl, h => by
    obtain ⟨x, hx, gx⟩ := h 0 (by omega)
    obtain ⟨l, hr, hn, gl⟩ := arr_R t sz n (cs.drop sz) (by rw [List.length_drop, hl, Nat.succ_mul]; omega) fun i hi => by
      obtain ⟨y, hy, gy⟩ := h (i + 1) (by omega)
      refine ⟨y, ?_, gy⟩
      rw [List.drop_drop]
      rw [show sz + i * sz = (i + 1) * sz by rw [Nat.succ_mul]; omega]
      exact hy
    refine ⟨x :: l, ?_, by simp [hn], by simpa using ⟨gx, gl⟩⟩
    have := R.arrS hx hr
    simpa using this
theorem sl_R {W : World} (t : C.Ty) (b sz : Nat) : ∀ (n off : Nat), (∀ i, i < n → ∃ (x : C.A t) (ci : List Value), R T (X0 W) false (T.enc t x) ci ∧ ci.length = sz ∧ (∀ j, j < sz → W.cell? ⟨b, off + i * sz + j, none⟩ = ci[j]?) ∧ gA t x) →
    ∃ (l : List (C.A t)) (cs : List Value), R T (X0 W) false (.arr t n l) cs ∧ l.length = n ∧ (X0 W).at b off cs ∧ ∀ x ∈ l, gA t x
  | 0, off, _ => ⟨[], [], .arr0 _, rfl, fun j v h => by simp at h, by simp⟩
  | n + 1, off, h => by
    obtain ⟨x, ci, hx, hlen, hc, gx⟩ := h 0 (by omega)
    obtain ⟨l, cs, hr, hn, hat, gl⟩ := sl_R t b sz n (off + sz) fun i hi => by
      obtain ⟨y, c2, hy, h2, h3, gy⟩ := h (i + 1) (by omega)
      refine ⟨y, c2, hy, h2, fun j hj => ?_, gy⟩
      have := h3 j hj
      rwa [show off + (i + 1) * sz + j = off + sz + i * sz + j by rw [Nat.succ_mul]; omega] at this
    refine ⟨x :: l, ci ++ cs, .arrS hx hr, by simp [hn], fun j v hj => ⟨?_, X0_free _ _ _⟩, by simpa using ⟨gx, gl⟩⟩
    by_cases hlt : j < ci.length
    · rw [List.getElem?_append_left hlt] at hj
      have := hc j (by omega)
      simp only [Nat.zero_mul, Nat.add_zero] at this
      exact this.trans hj
    · rw [List.getElem?_append_right (by omega)] at hj
      have := (hat _ _ hj).1
      rwa [show off + sz + (j - ci.length) = off + j by omega] at this
theorem st_R {X : Cx} : ∀ (fs : List TypeId) (cs : List Value), (∀ i f, fs[i]? = some f → ∃ d, R T X false d ((cs.drop (sumSz T (fs.take i))).take (T.size f)) ∧ fit T d (.inl f) = true ∧ good gA d ∧ d.refs = []) →
    ∃ d, R T X false d (cs.take (sumSz T fs)) ∧ fit T d (.inr fs) = true ∧ good gA d ∧ d.refs = [] ∧ d.isRow = true ∧ (∀ t a, T.ty t = .struct a fs → fit T d (.inl t) = true)
  | [], cs, _ => ⟨.anil, by simpa [sumSz] using R.anil, rfl, trivial, rfl, rfl, fun t a ht => by simp [fit, ht]⟩
  | f :: fs, cs, h => by
    obtain ⟨d, hd, fd, gd, rd⟩ := h 0 f rfl
    obtain ⟨ds, hr, fr, gr, rr, _, _⟩ := st_R fs (cs.drop (T.size f)) fun i g hg => by
      obtain ⟨e, he, h2⟩ := h (i + 1) g (by simpa using hg)
      refine ⟨e, ?_, h2⟩
      simpa [sumSz, List.drop_drop] using he
    refine ⟨.acons d ds, ?_, by simp [fit, fd, fr], ⟨gd, gr⟩, by simp [D.refs, rd, rr], rfl, fun t a ht => by simp [fit, ht, fd, fr]⟩
    have := R.acons hd hr
    simpa [sumSz, List.take_add] using this
theorem cellsOf_info {t : TypeId} {i : TypeInfo} (h : P.info? t = some i) : P.cellsOf t = i.size := by
  simp [Program.cellsOf, h]
theorem trod_R (K : PLaws P T) (hd : Dec T gA) {H : Type} {enc : TypeId × Value → H} {W : World} : ∀ (k : Nat) (t : TypeId), plainT T k t = true → ∀ (fuel : Nat) (cs : List Value) (x : DataW H × List MemPlace), DataW.trod enc P W 0 (fun _ => true) true fuel t cs = some x →
    ∃ d, R T (X0 W) false d cs ∧ fit T d (.inl t) = true ∧ good gA d ∧ d.refs = [] := by
  intro k
  induction k with
  | zero => intro t h; simp [plainT] at h
  | succ k ih =>
    intro t hp fuel cs x h
    unfold plainT at hp
    split at hp
    · rename_i ht
      obtain ⟨b, rfl, _⟩ := DataW.trod_bool (K.uBool t ht) h
      exact ⟨.bool b, .bool b, by simp [fit, ht], trivial, rfl⟩
    · rename_i kd ht
      obtain ⟨n, rfl, _, hw⟩ := DataW.trod_int (K.uInt t kd ht) h
      have hw' : kd.min ≤ n ∧ n ≤ kd.max := by simpa [Lit.wf] using hw
      exact ⟨.int kd n, .int hw', by simp [fit, ht], hw', rfl⟩
    · rename_i ht
      obtain ⟨s, rfl, _, hs⟩ := DataW.trod_string (K.uStr t ht) h
      exact ⟨.str s.data.toList, .str s.data.toList, by simp [fit, ht], by simpa [good] using hs, rfl⟩
    · rename_i isA fs ht
      cases isA with
      | true =>
        obtain ⟨el, hu, hfs, hpos, inf, hi1, hi2⟩ := K.uRow t fs ht
        obtain ⟨xs, m, _, _, hlen, hxs, hel⟩ := DataW.trod_array hu h
        have hget : ∀ i f, fs[i]? = some f → f = el ∧ i < fs.length := fun i f hf => by
          have := (List.getElem?_eq_some_iff.1 hf).1
          rw [hfs, List.getElem?_replicate] at hf
          simp at hf
          exact ⟨hf.2.symm, this⟩
        have hsum : ∀ i, i ≤ fs.length → sumSz T (fs.take i) = i * T.size el := by
          intro i hi
          rw [hfs, List.take_replicate, Nat.min_eq_left hi]
          clear hi
          induction i with
          | zero => simp [sumSz]
          | succ i ih => simp only [List.replicate_succ, sumSz, ih]; rw [Nat.succ_mul]; omega
        obtain ⟨d, hr, _, gd, rd, _, hfit⟩ := st_R (T := T) (X := X0 W) (gA := gA) fs cs fun i f hf => by
          obtain ⟨rfl, hi⟩ := hget i f hf
          have := hel i hi
          rw [cellsOf_info hi1, hi2] at this
          have hx : xs[i]? = some xs[i] := by simp [hxs, hi]
          rw [hx] at this
          obtain ⟨d, h1, h2, h3, h4⟩ := ih f (List.all_eq_true.1 hp _ (List.mem_of_getElem? hf)) m _ _ this
          refine ⟨d, ?_, h2, h3, h4⟩
          rw [hsum i (by omega)]; exact h1
        obtain ⟨inf, hi1, hi2⟩ := K.info t d (hfit t _ ht)
        rw [cellsOf_info hi1, hi2, K.base.szStruct t _ fs ht] at hlen
        rw [← hlen, List.take_length] at hr
        exact ⟨d, hr, hfit t _ ht, gd, rd⟩
      | false =>
        obtain ⟨fields, hu, hfs, hoff, _⟩ := K.uStruct t fs ht
        obtain ⟨xs, n, _, _, hlen, hxs, hel⟩ := DataW.trod_struct hu h
        obtain ⟨d, hr, _, gd, rd, _, hfit⟩ := st_R (T := T) (X := X0 W) (gA := gA) fs cs fun i f hf => by
          rw [← hfs, List.getElem?_map] at hf
          cases hfi : fields.toList[i]? with
          | none => simp [hfi] at hf
          | some fld =>
            simp only [hfi, Option.map_some, Option.some.injEq] at hf
            have hfa : fields[i]? = some fld := by rw [← Array.getElem?_toList]; exact hfi
            have := hel i fld hfa
            have hx : ∃ y, xs[i]? = some y := by
              have : i < fields.size := (Array.getElem?_eq_some_iff.1 hfa).1
              exact ⟨xs[i], by simp [hxs, this]⟩
            obtain ⟨y, hy⟩ := hx
            rw [hy] at this
            subst hf
            have hmem : fld.type ∈ fs := by rw [← hfs]; exact List.mem_map.2 ⟨fld, by exact List.mem_of_getElem? hfi, rfl⟩
            obtain ⟨d, h1, h2, h3, h4⟩ := ih fld.type (List.all_eq_true.1 hp _ hmem) n _ _ this
            obtain ⟨inf, hi1, hi2, _⟩ := K.uField t fs fld.type ht hmem
            refine ⟨d, ?_, h2, h3, h4⟩
            rw [hoff i fld hfa, cellsOf_info hi1, hi2] at h1
            exact h1
        obtain ⟨inf, hi1, hi2⟩ := K.info t d (hfit t _ ht)
        rw [cellsOf_info hi1, hi2, K.base.szStruct t _ fs ht] at hlen
        rw [← hlen, List.take_length] at hr
        exact ⟨d, hr, hfit t _ ht, gd, rd⟩
    · rename_i n e ct ht
      obtain ⟨hu, _⟩ := K.uArr t n e ct ht
      obtain ⟨xs, m, _, _, hlen, hxs, hel⟩ := DataW.trod_array hu h
      obtain ⟨inf, z, hi1, hi2, _⟩ := K.uElem t e ct (.inl ⟨n, ht⟩)
      obtain ⟨it, hj1, hj2⟩ := K.info t (.arr ct n []) (by simp [fit, ht])
      obtain ⟨hs1, hs2, hs3⟩ := K.base.szArr t n e ct ht
      rw [cellsOf_info hj1, hj2, hs1] at hlen
      obtain ⟨l, hr, hn, gl⟩ := arr_R (T := T) (X := X0 W) (gA := gA) ct (T.size e) n cs hlen fun i hi => by
        have := hel i hi
        rw [cellsOf_info hi1, hi2] at this
        have hx : xs[i]? = some xs[i] := by simp [hxs, hi]
        rw [hx] at this
        obtain ⟨d, h1, h2, h3, h4⟩ := ih e hp m _ _ this
        obtain ⟨x, h5, h6⟩ := hd.dec ct d (by rw [← fit_congr hs2]; exact h2) h4 h3 ⟨k, e, hs2, hp⟩
        exact ⟨x, K.base.decR _ _ _ _ _ h5 h1, h6⟩
      exact ⟨.arr ct n l, hr, by simp [fit, ht], ⟨hn, gl⟩, rfl⟩
    · rename_i e ct ht
      have hu := K.uSl t e ct ht
      obtain ⟨inf, z, hi1, hi2, _, _, hpos, _⟩ := K.uElem t e ct (.inr ht)
      obtain ⟨hs1, hs2, hs3⟩ := K.base.szSl t e ct ht
      rcases DataW.trod_slice hu h with ⟨rfl, _⟩ | ⟨a, len, cap, elems, rest, m, _, rfl, _, _, hlc, hcm, hel, he, hrest, _⟩
      · exact ⟨.sl ct false [], .sl0 _ _ _, by simp [fit, ht], by simp [good], rfl⟩
      · by_cases hc0 : cap = 0
        · subst hc0
          obtain rfl : len = 0 := by omega
          exact ⟨.sl ct false [], .sl0 _ _ _, by simp [fit, ht], by simp [good], rfl⟩
        · have hspot : a.spot = none := by
            have key : ∀ i y, i = 0 → (W.cells? 0 (a.add (i * P.cellsOf e)) (P.cellsOf e)).bind (DataW.trod enc P W 0 (fun _ => true) true m e) = some y → a.spot = none := by
              intro i y hi0 hy
              subst hi0
              rw [cellsOf_info hi1, hi2] at hy
              cases hcs : W.cells? 0 (a.add (0 * T.size e)) (T.size e) with
              | none => rw [hcs] at hy; cases hy
              | some ci =>
                obtain ⟨_, h2, h3⟩ := World.cells?_some hcs
                have h4 := h3 0 hpos
                have h5 : ci[0]? = some ci[0] := by simp
                rw [h5] at h4
                have := World.cell?_spot h4
                simpa [Addr.add] using this
            by_cases hl0 : 0 < len
            · have := he 0 hl0
              have hx : elems[0]? = some elems[0] := by simp
              exact key 0 _ rfl (this.trans hx)
            · have hr2 := hrest rfl
              have := hr2.2 0 (by omega)
              have h0 : 0 < rest.length := by omega
              have hx : rest[0]? = some rest[0] := by simp
              exact key _ _ (by omega) (this.trans hx)
          obtain ⟨b, off, sp⟩ := a
          simp only at hspot
          subst hspot
          obtain ⟨l, cs, hr, hn, hat, gl⟩ := sl_R (T := T) (W := W) (gA := gA) ct b (T.size e) len off fun i hi => by
            have := he i hi
            have hx : elems[i]? = some elems[i] := by simp [hel, hi]
            rw [hx, cellsOf_info hi1, hi2] at this
            cases hcs : W.cells? 0 ((⟨b, off, none⟩ : Addr).add (i * T.size e)) (T.size e) with
            | none => simp [hcs] at this
            | some ci =>
              simp only [hcs, Option.bind_some] at this
              obtain ⟨_, h2, h3⟩ := World.cells?_some hcs
              obtain ⟨d, k1, k2, k3, k4⟩ := ih e hp m _ _ this
              obtain ⟨x, k5, k6⟩ := hd.dec ct d (by rw [← fit_congr hs2]; exact k2) k4 k3 ⟨k, e, hs2, hp⟩
              refine ⟨x, ci, K.base.decR _ _ _ _ _ k5 k1, h2, fun j hj => ?_, k6⟩
              have := h3 j hj
              rwa [add_plain, add_plain] at this
          subst hn
          exact ⟨.sl ct false l, .sl hat hr hlc (by simp), by simp [fit, ht], ⟨by omega, gl⟩, rfl⟩
    · cases hp
theorem okWide_row (K : PLaws P T) {W : World} {r : Reach} {base : Nat} {t : TypeId} {v : Value} {d : D C} (hv : Value.okWide P W r base t v) (hp : ∃ k, plainT T k t = true) (hf : fit T d (.inl t) = true) (hr : R T (X0 W) false d v.cells.toList) (hrf : d.refs = []) : RV T (X0 W) d v := by
  obtain ⟨k, hp⟩ := hp
  cases k with
  | zero => simp [plainT] at hp
  | succ k =>
    unfold plainT at hp
    split at hp
    · rename_i ht
      obtain ⟨b, rfl⟩ := okWide_bool (K.uBool t ht) hv
      refine .inr ⟨?_, by simpa [Value.cells] using hr⟩
      cases d <;> simp [fit, ht] at hf <;> rfl
    · rename_i kd ht
      obtain ⟨b, rfl⟩ := okWide_int (K.uInt t kd ht) hv
      refine .inr ⟨?_, by simpa [Value.cells] using hr⟩
      cases d <;> simp [fit, ht] at hf <;> rfl
    · rename_i ht
      obtain ⟨b, rfl⟩ := okWide_string (K.uStr t ht) hv
      refine .inr ⟨?_, by simpa [Value.cells] using hr⟩
      cases d <;> simp [fit, ht] at hf <;> rfl
    · rename_i isA fs ht
      have : ∃ cs, v = .agg cs := by
        cases isA with
        | false =>
          obtain ⟨fields, hu, _⟩ := K.uStruct t fs ht
          obtain ⟨cs, rfl, _⟩ := okWide_struct hu hv
          exact ⟨cs, rfl⟩
        | true =>
          obtain ⟨el, hu, _⟩ := K.uRow t fs ht
          simp only [Value.okWide, hu] at hv
          obtain ⟨cs, rfl, _⟩ := hv
          exact ⟨cs, rfl⟩
      obtain ⟨cs, rfl⟩ := this
      refine .inl ⟨?_, cs.toList, by simpa [Value.cells] using hr, rfl⟩
      cases d <;> simp [fit, ht] at hf <;> rfl
    · rename_i n e ct ht
      obtain ⟨hu, _⟩ := K.uArr t n e ct ht
      have : ∃ cs, v = .agg cs := by
        simp only [Value.okWide, hu] at hv
        obtain ⟨cs, rfl, _⟩ := hv
        exact ⟨cs, rfl⟩
      obtain ⟨cs, rfl⟩ := this
      refine .inl ⟨?_, cs.toList, by simpa [Value.cells] using hr, rfl⟩
      cases d <;> simp [fit, ht] at hf <;> rfl
    · rename_i e ct ht
      obtain ⟨a, len, cap, rfl⟩ := okWide_slice (K.uSl t e ct ht) hv
      refine .inr ⟨?_, by simpa [Value.cells] using hr⟩
      cases d <;> simp [fit, ht] at hf <;> rfl
    · cases hp
inductive Fits (T : Tab C) (gA : (t : C.Ty) → C.A t → Prop) : List TypeId → List (D C) → Prop
  | nil : Fits T gA [] []
  | cons {t : TypeId} {ts : List TypeId} {d : D C} {ds : List (D C)} (hf : fit T d (.inl t) = true) (hg : good gA d) (hr : d.refs = []) (h : Fits T gA ts ds) : Fits T gA (t :: ts) (d :: ds)
theorem Fits.refs {ts : List TypeId} {ds : List (D C)} (h : Fits T gA ts ds) : ∀ a ∈ ds, D.refs a = [] := by
  induction h with
  | nil => simp
  | cons _ _ hr _ ih => simpa using ⟨hr, ih⟩
theorem trodAll_R (K : PLaws P T) (hd : Dec T gA) {H : Type} {enc : TypeId × Value → H} {W : World} {r : Reach} {base : Nat} : ∀ (ts : List TypeId) (vs : List Value) (ds : List (DataW H)) (ps : List MemPlace), (∀ t ∈ ts, ∃ k, plainT T k t = true) →
    (∀ (j : Nat) t v, ts[j]? = some t → vs[j]? = some v → Value.okWide P W r base t v) → DataW.TrodAll enc P W 0 (fun _ => true) true ts vs ds ps → ∃ al, Fits T gA ts al ∧ RVs T (X0 W) al vs
  | [], vs, ds, ps, _, _, h => by
    obtain ⟨rfl, rfl, rfl⟩ := trodAll_nil h
    exact ⟨[], .nil, .nil⟩
  | t :: ts, vs, ds, ps, hp, hv, h => by
    obtain ⟨v, vs1, d, ds1, p, q, rfl, rfl, rfl, ⟨fuel, h1⟩, h2⟩ := trodAll_cons h
    obtain ⟨al, f1, r1⟩ := trodAll_R K hd ts vs1 ds1 q (fun t ht => hp t (by simp [ht])) (fun j t v a b => hv (j + 1) t v (by simpa using a) (by simpa using b)) h2
    obtain ⟨k, hk⟩ := hp t (by simp)
    obtain ⟨a, k1, k2, k3, k4⟩ := trod_R K hd k t hk fuel _ _ h1
    exact ⟨a :: al, .cons k2 k3 k4 f1, .cons (okWide_row K (hv 0 t v rfl rfl) ⟨k, hk⟩ k2 k1 k4) r1⟩
theorem stays (hl : laidOutB P = true) {H : Type} {enc : TypeId × Value → H} {W W' : World} {sp : Nat → Bool} : ∀ (ts : List TypeId) (vs : List Value) (ds : List (DataW H)) (ps : List MemPlace), (∀ t ∈ ts, P.readableRec t = true ∧ t < P.types.size) →
    DataW.TrodAll enc P W 0 (fun _ => true) true ts vs ds ps → (∀ p ∈ ps, W.sameAt W' p) → (∀ p ∈ ps, sp p.block = true) → DataW.TrodAll enc P W' 0 sp true ts vs ds ps
  | [], vs, ds, ps, _, h, _, _ => by
    obtain ⟨rfl, rfl, rfl⟩ := trodAll_nil h
    exact trodAll_mk0
  | t :: ts, vs, ds, ps, ht, h, h3, h4 => by
    obtain ⟨v, vs1, d, ds1, p, q, rfl, rfl, rfl, h1, h2⟩ := trodAll_cons h
    exact trodAll_cons_mk (WideElems.Trod_stays hl (ht t (by simp)).1 (ht t (by simp)).2 h1 (fun x hx => h3 x (by simp [hx])) (fun x hx => h4 x (by simp [hx])))
      (stays hl ts vs1 ds1 q (fun t h => ht t (by simp [h])) h2 (fun x hx => h3 x (by simp [hx])) (fun x hx => h4 x (by simp [hx])))
theorem post_same_old {H : Type} {enc : TypeId × Value → H} {f : Func} {s : ChangeSpec} {apart fresh handsOn again : Bool} {W W' : World} {args : Array Value} {v : Value} {ds gs : List (DataW H)} {before pa pv : List MemPlace}
    (hW : DataW.Whole enc P f.params.toList s.vars apart W args.toList ds gs before)
    (hres : ∀ (b : Nat) (sp : Nat → Bool) (hd : Bool), DataW.TrodAll enc P W' b sp hd f.resultTypes.toList (v.resultList f.resultTypes.size) (s.fn H (ds ++ gs)).results [])
    (hargs : ∀ sp : Nat → Bool, (∀ p ∈ before, sp p.block = true) → DataW.TrodAll enc P W' 0 sp true f.params.toList args.toList (s.fn H (ds ++ gs)).args pa)
    (hvars : ∀ sp : Nat → Bool, (∀ p ∈ before, sp p.block = true) → DataW.TrodVars enc P W' sp s.vars (s.fn H (ds ++ gs)).vars pv)
    (hps : before = pa ++ pv) (hk : W.keptBut W' (· ∈ before)) (hfz : ∀ a : Addr, a.block < W.heap.size → W'.frozen? a = W.frozen? a)
    (hok : ∀ (j : Nat) (t : TypeId) (r : Value), f.resultTypes[j]? = some t → (v.resultList f.resultTypes.size)[j]? = some r → Value.okWide P W' .any 0 t r) :
    s.post enc P f apart fresh handsOn again W args v W' := by
  have hold : ∀ p ∈ before, (fun b => decide (b < W.heap.size)) p.block = true := fun p hp => by simpa using hW.lt p hp
  refine ⟨ds, gs, before, [], pa, pv, hW, hres _ _ _, hargs _ hold, hvars _ hold, World.keptBut_mono (fun p hp => ⟨hp, ?_⟩) hk, fun _ => ?_⟩
  · rw [hps, List.mem_append] at hp
    exact Or.inr hp
  · have hlt := hW.lt
    obtain ⟨_, _, _, _, _, hz, hn⟩ := hW
    refine ⟨hok, _, _, ([] ++ pa) ++ pv, ⟨[] ++ pa, pv, trodAll_append (hargs _ (fun _ _ => rfl)) (hres _ _ _), hvars _ (fun _ _ => rfl), rfl, ?_, ?_⟩, ?_⟩
    · intro b off hp
      have hb : MemPlace.cell b off ∈ before := by rw [hps]; simpa using hp
      rw [hfz _ (by simpa [MemPlace.block] using hlt _ hb)]
      exact hz b off hb
    · intro ha
      have := hn ha
      rw [hps] at this
      simpa using this
    · intro p hp _
      rw [hps]
      simpa using hp
theorem contract_of (K : PLaws P T) {Φ : Fns C} (F : FLaws P T Φ) (hd : Dec T gA) (hl : laidOutB P = true) {f : FuncId} {fn : Func} {s : ChangeSpec} {tb : TypeId} {m : Nat}
    (hres : fn.resultTypes = #[tb]) (hb : P.underlying tb = some .bool) (hvars : s.vars = [])
    (hts : fn.params.toList.all (fun t => plainT T m t && P.readableRec t && Nat.blt t P.types.size) = true)
    (hspec : ∀ (H : Type) (ds : List (DataW H)), ds.length = fn.params.toList.length → s.fn H ds = { results := [.lit (.bool true)], args := ds })
    (hev : ∀ ds : List (D C), Fits T gA fn.params.toList ds → ∃ n, evF T Φ n f ds = some (.bool true))
    (H : Type) (enc : TypeId × Value → H) (W : World) (base : Nat) (args : Array Value) (ds gs : List (DataW H)) (before : List MemPlace)
    (hval : ∀ (j : Nat) t v, fn.params[j]? = some t → args[j]? = some v → Value.okWide P W .any base t v)
    (hW : DataW.Whole enc P fn.params.toList s.vars false W args.toList ds gs before) :
    Calls P f args W fun e W' => ∃ v, e = .returned v ∧ s.post enc P fn false true false false W args v W' := by
  have hts' : ∀ t ∈ fn.params.toList, plainT T m t = true ∧ P.readableRec t = true ∧ t < P.types.size := by
    intro t ht
    have := List.all_eq_true.1 hts t ht
    simp only [Bool.and_eq_true] at this
    exact ⟨this.1.1, this.1.2, by simpa [Nat.blt_eq] using this.2⟩
  have hW' := hW
  obtain ⟨p, q, hA, hV, rfl, hfz, hnd⟩ := hW
  rw [hvars] at hV
  obtain ⟨rfl, rfl⟩ := trodVars_none hV
  obtain ⟨al, hf, hr⟩ := trodAll_R (gA := gA) K hd (r := .any) (base := base) _ _ _ _ (fun t ht => ⟨m, (hts' t ht).1⟩) (fun j t v a b => hval j t v (by rw [← Array.getElem?_toList]; exact a) (by rw [← Array.getElem?_toList]; exact b)) hA
  obtain ⟨n, hn⟩ := hev al hf
  have hc := (evF_calls K F hn hf.refs W (fun _ _ => False) (fun _ _ h => h.elim) (vs := args.toList) hr).2
  have ea : (⟨args.toList⟩ : Array Value) = args := by simp
  rw [ea] at hc
  refine hc.mono fun e W' hp => ?_
  obtain ⟨v, ρ, rfl, rv, a1, a2, a3, a4, a5, a6⟩ := hp
  obtain rfl := rv.bool
  have hlen : ds.length = fn.params.toList.length := by
    have : ∀ (ts : List TypeId) (vs : List Value) (ds : List (DataW H)) (ps : List MemPlace), DataW.TrodAll enc P W 0 (fun _ => true) true ts vs ds ps → ds.length = ts.length := by
      intro ts
      induction ts with
      | nil => intro vs ds ps h; obtain ⟨rfl, rfl, rfl⟩ := trodAll_nil h; rfl
      | cons t ts ih =>
        intro vs ds ps h
        obtain ⟨v, vs1, d, ds1, p, q, rfl, rfl, rfl, h1, h2⟩ := trodAll_cons h
        simp [ih _ _ _ h2]
    exact this _ _ _ _ hA
  have hs := hspec H ds hlen
  have hbel : Below W.heap.size W W' := ⟨a3, a4, a5, a1, a2⟩
  have hlt : ∀ x ∈ p, x.block < W.heap.size := fun x hx => by simpa using hW'.lt x (by simpa using hx)
  refine ⟨_, rfl, post_same_old (pa := p) (pv := []) hW' ?_ ?_ ?_ (by simp) (hbel.frame _) a6 ?_⟩
  · intro b sp hd
    simp only [List.append_nil]
    rw [hs, hres]
    exact trodAll_cons_mk (p := []) (p' := []) (shut_bool hb _) trodAll_mk0
  · intro sp hsp
    simp only [List.append_nil] at hsp ⊢
    rw [hs]
    exact stays hl _ _ _ _ (fun t ht => (hts' t ht).2) hA (fun x hx => hbel.same (hlt x hx)) hsp
  · intro sp hsp
    simp only [List.append_nil]
    rw [hs, hvars]
    rfl
  · exact ok_one hres rfl (okWide_bool_mk hb _)
end
def i64 (n : Int) : Prop := -9223372036854775808 ≤ n ∧ n ≤ 9223372036854775807
def inK (k : IntKind) (n : Int) : Prop := k.min ≤ n ∧ n ≤ k.max
theorem i64_of {n : Int} (h : IntKind.i64.min ≤ n ∧ n ≤ IntKind.i64.max) : i64 n := by
  simpa [i64, IntKind.min, IntKind.max, IntKind.signed, IntKind.bits] using h
section
variable {C : Cdc} {T : Tab C} {d : D C} {u : TypeId}
theorem fit_int {k : IntKind} (hu : T.ty u = .int k) (hf : fit T d (.inl u) = true) : ∃ n, d = .int k n := by
  cases d <;> simp [fit, hu] at hf
  subst hf; exact ⟨_, rfl⟩
theorem fit_bool (hu : T.ty u = .bool) (hf : fit T d (.inl u) = true) : ∃ n, d = .bool n := by
  cases d <;> simp [fit, hu] at hf
  exact ⟨_, rfl⟩
theorem fit_str (hu : T.ty u = .str) (hf : fit T d (.inl u) = true) : ∃ n, d = .str n := by
  cases d <;> simp [fit, hu] at hf
  exact ⟨_, rfl⟩
theorem fit_sl {e : TypeId} {t : C.Ty} (hu : T.ty u = .sl e t) (hf : fit T d (.inl u) = true) (hr : d.refs = []) : ∃ c l, d = .sl t c l := by
  cases d <;> simp [fit, hu] at hf
  · subst hf; exact ⟨_, _, rfl⟩
  · simp [D.refs] at hr
  · simp [D.refs] at hr
theorem fit_arr {e : TypeId} {t : C.Ty} {n : Nat} (hu : T.ty u = .arr n e t) (hf : fit T d (.inl u) = true) : ∃ l, d = .arr t n l := by
  cases d <;> simp [fit, hu] at hf
  obtain ⟨h1, h2⟩ := hf
  subst h1; subst h2; exact ⟨_, rfl⟩
theorem fit_st {a : Bool} {f : TypeId} {fs : List TypeId} (hu : T.ty u = .struct a (f :: fs)) (hf : fit T d (.inl u) = true) : ∃ x y, d = .acons x y ∧ fit T x (.inl f) = true ∧ fit T y (.inr fs) = true := by
  cases d <;> simp [fit, hu] at hf
  exact ⟨_, _, rfl, hf.1, hf.2⟩
theorem fit_more {f : TypeId} {fs : List TypeId} (hf : fit T d (.inr (f :: fs)) = true) : ∃ a b, d = .acons a b ∧ fit T a (.inl f) = true ∧ fit T b (.inr fs) = true := by
  cases d <;> simp [fit] at hf
  exact ⟨_, _, rfl, hf.1, hf.2⟩
theorem fit_end (hf : fit T d (.inr []) = true) : d = .anil := by
  cases d <;> simp [fit] at hf
  rfl
end
open Go.Proofs Go.ChangeShapes Go.WideShapes Go.ChangeAt Go.RowKit
def goodPick (x : Pick) : Prop := i64 (x.client) ∧ i64 (x.do_)
def goodSector (x : Sector) : Prop := i64 (x.n) ∧ (x.b).length ≤ maxLen
def goodFrame (x : Frame) : Prop := inK .i8 (x.prog) ∧ i64 (x.at') ∧ ((x.r).length = 96 ∧ ∀ y ∈ (x.r), i64 (y))
def goodTask (x : Task) : Prop := i64 (x.client) ∧ ((x.stack).length ≤ maxLen ∧ ∀ y ∈ (x.stack), goodFrame (y)) ∧ ((x.got).length ≤ maxLen ∧ ∀ y ∈ (x.got), i64 (y)) ∧ True
def rGood : (t : RTy) → RA t → Prop
  | .bool => fun (x : Bool) => True
  | .frame => fun (x : Frame) => goodFrame (x)
  | .int => fun (x : Int) => i64 (x)
  | .k_i8 => fun (x : Int) => inK .i8 (x)
  | .pick => fun (x : Pick) => goodPick (x)
  | .sector => fun (x : Sector) => goodSector (x)
  | .task => fun (x : Task) => goodTask (x)
theorem ty32 : s23.ty 32 = .struct false [3, 3] := by kernel_rfl
theorem ty3 : s23.ty 3 = .int .i64 := by kernel_rfl
theorem asPick {d : D RC} (hf : fit s23 d (.inl 32) = true) (hg : good rGood d) (hr : d.refs = []) : ∃ x : Pick, d = ePick x ∧ goodPick x := by
  obtain ⟨d0, r0, rfl, f0, hf⟩ := fit_st ty32 hf
  obtain ⟨d1, r1, rfl, f1, hf⟩ := fit_more hf
  obtain rfl := fit_end hf
  simp only [D.refs, List.append_eq_nil_iff] at hr
  obtain ⟨g0, g1, _⟩ := hg
  obtain ⟨q0, q1, _⟩ := hr
  obtain ⟨n0, rfl⟩ := fit_int ty3 f0
  obtain ⟨n1, rfl⟩ := fit_int ty3 f1
  exact ⟨⟨n0, n1⟩, rfl, i64_of g0, i64_of g1⟩
theorem dPick_e (x : Pick) (hx : goodPick x) : dPick (ePick x) = some x := by
  simp only [goodPick] at hx
  simp [dPick, ePick, D.asList, asArrN, hx]
theorem ty119 : s23.ty 119 = .struct false [3, 9] := by kernel_rfl
theorem ty9 : s23.ty 9 = .str := by kernel_rfl
theorem asSector {d : D RC} (hf : fit s23 d (.inl 119) = true) (hg : good rGood d) (hr : d.refs = []) : ∃ x : Sector, d = eSector x ∧ goodSector x := by
  obtain ⟨d0, r0, rfl, f0, hf⟩ := fit_st ty119 hf
  obtain ⟨d1, r1, rfl, f1, hf⟩ := fit_more hf
  obtain rfl := fit_end hf
  simp only [D.refs, List.append_eq_nil_iff] at hr
  obtain ⟨g0, g1, _⟩ := hg
  obtain ⟨q0, q1, _⟩ := hr
  obtain ⟨n0, rfl⟩ := fit_int ty3 f0
  obtain ⟨n1, rfl⟩ := fit_str ty9 f1
  exact ⟨⟨n0, n1⟩, rfl, i64_of g0, g1⟩
theorem dSector_e (x : Sector) (hx : goodSector x) : dSector (eSector x) = some x := by
  simp only [goodSector] at hx
  simp [dSector, eSector, D.asList, asArrN, hx]
theorem ty67 : s23.ty 67 = .struct false [52, 3, 65] := by kernel_rfl
theorem ty52 : s23.ty 52 = .int .i8 := by kernel_rfl
theorem ty65 : s23.ty 65 = .arr 96 3 .int := by kernel_rfl
theorem asFrame {d : D RC} (hf : fit s23 d (.inl 67) = true) (hg : good rGood d) (hr : d.refs = []) : ∃ x : Frame, d = eFrame x ∧ goodFrame x := by
  obtain ⟨d0, r0, rfl, f0, hf⟩ := fit_st ty67 hf
  obtain ⟨d1, r1, rfl, f1, hf⟩ := fit_more hf
  obtain ⟨d2, r2, rfl, f2, hf⟩ := fit_more hf
  obtain rfl := fit_end hf
  simp only [D.refs, List.append_eq_nil_iff] at hr
  obtain ⟨g0, g1, g2, _⟩ := hg
  obtain ⟨q0, q1, q2, _⟩ := hr
  obtain ⟨n0, rfl⟩ := fit_int ty52 f0
  obtain ⟨n1, rfl⟩ := fit_int ty3 f1
  obtain ⟨n2, rfl⟩ := fit_arr ty65 f2
  exact ⟨⟨n0, n1, n2⟩, rfl, g0, i64_of g1, g2⟩
theorem dFrame_e (x : Frame) (hx : goodFrame x) : dFrame (eFrame x) = some x := by
  simp only [goodFrame] at hx
  simp [dFrame, eFrame, D.asList, asArrN, hx]
theorem ty43 : s23.ty 43 = .struct false [3, 41, 33, 4] := by kernel_rfl
theorem ty41 : s23.ty 41 = .sl 67 .frame := by kernel_rfl
theorem ty33 : s23.ty 33 = .sl 3 .int := by kernel_rfl
theorem ty4 : s23.ty 4 = .bool := by kernel_rfl
theorem asTask {d : D RC} (hf : fit s23 d (.inl 43) = true) (hg : good rGood d) (hr : d.refs = []) : ∃ (x : Task) (c0 c1 : Bool), d = eTaskC x c0 c1 ∧ goodTask x := by
  obtain ⟨d0, r0, rfl, f0, hf⟩ := fit_st ty43 hf
  obtain ⟨d1, r1, rfl, f1, hf⟩ := fit_more hf
  obtain ⟨d2, r2, rfl, f2, hf⟩ := fit_more hf
  obtain ⟨d3, r3, rfl, f3, hf⟩ := fit_more hf
  obtain rfl := fit_end hf
  simp only [D.refs, List.append_eq_nil_iff] at hr
  obtain ⟨g0, g1, g2, g3, _⟩ := hg
  obtain ⟨q0, q1, q2, q3, _⟩ := hr
  obtain ⟨n0, rfl⟩ := fit_int ty3 f0
  obtain ⟨k1, n1, rfl⟩ := fit_sl ty41 f1 q1
  obtain ⟨k2, n2, rfl⟩ := fit_sl ty33 f2 q2
  obtain ⟨n3, rfl⟩ := fit_bool ty4 f3
  exact ⟨⟨n0, n1, n2, n3⟩, k1, k2, rfl, i64_of g0, g1, g2, trivial⟩
theorem dTask_e (x : Task) (c0 c1 : Bool) (hx : goodTask x) : dTask (eTaskC x c0 c1) = some x := by
  simp only [goodTask] at hx
  simp [dTask, eTaskC, D.asList, asArrN, hx]
theorem decs : Dec s23 rGood where
  dec t d hf hr hg _ := by
    cases t with
    | bool =>
      obtain ⟨n, rfl⟩ := fit_bool ty4 hf
      exact ⟨n, rfl, trivial⟩
    | frame =>
      obtain ⟨x, rfl, hx⟩ := asFrame hf hg hr
      exact ⟨x, dFrame_e x hx, hx⟩
    | int =>
      obtain ⟨n, rfl⟩ := fit_int ty3 hf
      exact ⟨n, by simp [s23, mkTab, rCod, rDec, dIntK], i64_of hg⟩
    | k_i8 =>
      obtain ⟨n, rfl⟩ := fit_int ty52 hf
      exact ⟨n, by simp [s23, mkTab, rCod, rDec, dIntK], hg⟩
    | pick =>
      obtain ⟨x, rfl, hx⟩ := asPick hf hg hr
      exact ⟨x, dPick_e x hx, hx⟩
    | sector =>
      obtain ⟨x, rfl, hx⟩ := asSector hf hg hr
      exact ⟨x, dSector_e x hx, hx⟩
    | task =>
      obtain ⟨x, c0, c1, rfl, hx⟩ := asTask hf hg hr
      exact ⟨x, dTask_e x c0 c1 hx, hx⟩
theorem own : ownKnob Tryz.prog.godebug = none := by kernel_rfl
theorem laidOut : laidOutB Tryz.prog = true := by kernel_rfl
end Go.Ev

namespace Go.Proofs.YtbmeepglaeolhaaGreat
open Go.ChangeShapes Go.WideShapes Go.ChangeAt Go.RowKit Go.Ev
set_option linter.unusedVariables false
set_option maxRecDepth 100000
namespace oracleTells
theorem ev (ds : List (D RC)) (h : Fits s23 rGood Tryz.f7.params.toList ds) : ∃ n, evF s23 ub_2 n 7 ds = some (.bool true) := by
  rw [Tryz.params7] at h
  cases h with
  | cons hf0 hg0 hr0 h =>
  cases h with
  | cons hf1 hg1 hr1 h =>
  cases h with
  | cons hf2 hg2 hr2 h =>
  cases h with
  | nil =>
    obtain ⟨x0, rfl⟩ := fit_int (show s23.ty 3 = .int .i64 by kernel_rfl) hf0
    obtain ⟨c1, x1, rfl⟩ := fit_sl (show s23.ty 33 = .sl 3 .int by kernel_rfl) hf1 hr1
    obtain ⟨x2, rfl⟩ := fit_bool (show s23.ty 4 = .bool by kernel_rfl) hf2
    have key := tells23_ok x0 c1 x1 x2 (lenOK_of (show x1.length ≤ 9223372036854775807 from Nat.le_trans hg1.1 (by decide)))
    unfold tells23_e at key
    exact ⟨1000, key⟩
theorem lifted (os : Os) (started : os.Started) (H : Type) (enc : TypeId × Value → H) :
    ReturnsInHanded {} Tryz.checked os 7 .any (Rows.oracleTellsSpec.pre6 enc Tryz.prog Tryz.f7 Rows.oracleTellsRow.domain false) (Rows.oracleTellsSpec.post enc Tryz.prog Tryz.f7 false true false false) := by
  refine returnsInHanded_of_change (C := Tryz.checked) own started (by kernel_rfl) Tryz.func7
    (ChangeSpec.witness6 (enc := enc) (C := Tryz.checked) false ⟨#[], #[.int .i64 0, .slice none 0 0, .bool false], []⟩ 8 (by kernel_rfl) (by kernel_rfl) (by kernel_rfl) (by kernel_rfl)) ?_
  intro W base args ds gs before hval hW _ _
  refine contract_of (gA := rGood) (m := 8) s23_laws ub_2_laws decs laidOut (tb := 4) (by kernel_rfl) Tryz.underlying4 rfl (by kernel_rfl) ?_ ev H enc W base args ds gs before hval hW
  intro H ds h
  rw [Tryz.params7] at h
  match ds, h with
  | [d0, d1, d2], _ => rfl
theorem over : Rows.oracleTellsRow.holds Tryz.pinned (OpenSpec.ofChange Rows.oracleTellsSpec) :=
  OpenClaim.holds_of_wide 7 Tryz.f7 rfl rfl rfl rfl rfl rfl rfl ⟨rfl, rfl, rfl, rfl, rfl⟩ rfl rfl rfl rfl rfl (by kernel_rfl) Tryz.func7 (by kernel_rfl)
    (of_decide_eq_true (by kernel_rfl)) (by unfold Func.isWrapper; first | (rw [if_pos (by decide +kernel)]; kernel_rfl) | (rw [if_neg (by decide +kernel)]; exact ⟨rfl, rfl⟩))
    (fun os started H enc _ => lifted os started H enc)
theorem proved : Rows.OracleTellsSaid := over
end oracleTells
#print axioms oracleTells.proved
end Go.Proofs.YtbmeepglaeolhaaGreat
