/-
  A part of the proof of a statement of this seat: the model is run over values by content, proved sound; what the functions come to. No condition beyond the given statements. (text 4)
-/
import Derived.Test.YtbmeepglaeolhaaGreatP2
import Derived.KernelRfl
namespace Go.Ev
open Go.Proofs
abbrev RO_ : Type := Option ((X × Env RC) × List (Option (Obj RC)))
abbrev DO_ : Type := Option (D RC)
set_option maxRecDepth 100000
set_option linter.unusedVariables false
set_option linter.unusedSimpArgs false
noncomputable def p0 : Fns RC := noFns Tryz.prog 225 (fun f => Nat.beq f 84 || Nat.beq f 21 || Nat.beq f 9) (fun f => if Nat.beq f 10 then [(0, [0])] else if Nat.beq f 11 then [(0, [0])] else []) (fun f => false)
theorem p0_laws : FLaws Tryz.prog s23 p0 := noFns_laws (by kernel_rfl)
def nst : Nat → List Int
  | 0 => (List.replicate 771 0).set 1 1
  | i + 1 => (nst i).set (292 + 3 * i) (-1)
theorem nst_len : ∀ i, (nst i).length = 771
  | 0 => by unfold nst; rw [List.length_set, List.length_replicate]
  | i + 1 => by unfold nst; rw [List.length_set]; exact nst_len i
theorem nst_end : nst 160 = newCells := by kernel_rfl
theorem nC_is : ∃ l, l = newCells := ⟨newCells, rfl⟩
noncomputable def nC : List Int := Classical.choose nC_is
theorem nC_eq : nC = newCells := Classical.choose_spec nC_is
structure newL_St where
  i : Nat
  l : List Int
def newL_c (i : Nat) (l : List Int) : Env RC := [(1, .vs 0 771), (2, .int .i64 (i : Int))]
def newL_o (i : Nat) (l : List Int) : List (Obj RC) := [.vec .int true l]
noncomputable def newL_r (i : Nat) (l : List Int) := rndO s23 p0 21 4 60 1 [1, 2] [] [.slot 1 0] (newL_c i l) (newL_o i l)
theorem newL_eq (i : Nat) (l : List Int) : newL_r i l = (let Z0 : Int := (↑i : Int); let Z1 : Bool := Nat.beq (771 : Nat) l.length; let Z2 : Int := (-1 : Int); let Z3 : Int := (↑l.length : Int); let Z4 : X × Env RC := (X.normal, [(1, D.vs 0 (771 : Nat)), (2, D.int .i64 (IntKind.wrap .i64 (Z0 + (1 : Int))))]); let Z5 : RO_ := bif Z1 && decide ((0 : Int) ≤ Z2 ∧ Z2 < Z3) then bif Z1 then some (Z4, [some (Obj.vec RTy.int true (List.set l (0 : Nat) Z2))]) else none else none; let Z6 : Int := IntKind.wrap .i64 ((291 : Int) + IntKind.wrap .i64 ((3 : Int) * Z0)); let Z7 : Int := IntKind.wrap .i64 (Z6 + (1 : Int)); bif decide (Z0 < (160 : Int)) then bif decide ((160 : Int) ≤ Z0) then Z5 else bif decide (Z6 < (0 : Int)) then Z5 else bif Z1 && decide ((0 : Int) ≤ Z7 ∧ Z7 < Z3) then bif Z1 then some (Z4, [some (Obj.vec RTy.int true (List.set l Z7.toNat Z2))]) else none else none else some ((X.exit (0 : Nat), []), [some (Obj.vec RTy.int true l)])) := by kernel_rfl
noncomputable def newL_fin (i : Nat) (l : List Int) : RT RC := .leaf (.exit 0) [] (newL_o i nC)
def newL_Inv (i : Nat) (l : List Int) : Prop := i ≤ 160 ∧ l = nst i
noncomputable def newL_S : LoopR RC newL_St where
  k := 1
  canon q := newL_c q.i q.l
  objs q := newL_o q.i q.l
  fin q := newL_fin q.i q.l
  Inv q := newL_Inv q.i q.l
  μ q := 160 - q.i
theorem newL_round (i : Nat) (l : List Int) (hI : newL_Inv i l) : Leaf (newL_r i l) (LedR newL_S ⟨i, l⟩) := by
  (rw [newL_eq]; conv => zeta)
  unfold newL_Inv at hI
  obtain ⟨h1, rfl⟩ := hI
  have hl := nst_len i
  by_cases hlt : i < 160
  · have v1 : IntKind.i64.wrap ((i : Int) + 1) = ((i + 1 : Nat) : Int) := by rw [wrap_id (by omega) (by omega)]; simp
    have v2 : IntKind.i64.wrap (3 * (i : Int)) = 3 * (i : Int) := wrap_id (by omega) (by omega)
    have v3 : IntKind.i64.wrap (291 + 3 * (i : Int)) = 291 + 3 * (i : Int) := wrap_id (by omega) (by omega)
    have v4 : IntKind.i64.wrap (291 + 3 * (i : Int) + 1) = 292 + 3 * (i : Int) := by rw [wrap_id (by omega) (by omega)]; omega
    have v5 : (292 + 3 * (i : Int)).toNat = 292 + 3 * i := by omega
    have d1 : decide ((i : Int) < 160) = true := decide_eq_true (by omega)
    have d2 : decide (160 ≤ (i : Int)) = false := decide_eq_false (by omega)
    have d3 : decide (291 + 3 * (i : Int) < 0) = false := decide_eq_false (by omega)
    have d4 : decide (0 ≤ 292 + 3 * (i : Int) ∧ 292 + 3 * (i : Int) < ((nst i).length : Int)) = true := decide_eq_true ⟨by omega, by omega⟩
    have d5 : Nat.beq 771 (nst i).length = true := nbeqT hl.symm
    simp only [v1, v2, v3, v4, v5, d1, d2, d3, d4, d5, Bool.and_self, cond_true, cond_false]
    exact leafR_go (S := newL_S) (s := ⟨i, nst i⟩) ⟨i + 1, nst (i + 1)⟩ ⟨hlt, rfl⟩ (by simp only [newL_S]; omega) rfl rfl rfl
  · have e : i = 160 := by omega
    have d1 : decide ((i : Int) < 160) = false := decide_eq_false (by omega)
    rw [d1]
    simp only [cond_false]
    exact leafR_exit (newL_o i nC) rfl (by rw [e, nst_end, ← nC_eq]; rfl)
noncomputable def newL_d (env : Env RC) (os : List (Obj RC)) : Option (Bool × newL_St) := match env, os with
  | [(1, .vs 0 771), (2, .int .i64 x0)], [.vec .int true l] => staticD (true) (decide (x0 = 0) && decide (l = nst 0), ⟨0, l⟩)
  | _, _ => none
noncomputable def ua_1 := p0.addLoop 21 4 (sumR s23 [.slot 1 0] [1, 2] newL_S newL_d)
theorem ua_1_laws : FLaws Tryz.prog s23 ua_1 := by
  refine p0_laws.addRoundsR s23_laws (by kernel_rfl) newL_S 60 [1, 2] [] [.slot 1 0] [1, 2] newL_d (fun q hI => ?_) ?_
  · obtain ⟨i, l⟩ := q
    refine ⟨?_, ?_, newL_round i l hI⟩
    · simp_all [RefsOK, newL_S, newL_c, newL_o, newL_Inv, D.refs, Obj.refs, rEnc]
    · simp_all [newL_S, newL_fin, newL_o, newL_Inv, RT.refsOK, RefsOK, D.refs, Obj.refs, rEnc]
  · intro env os b q hd_ hb
    unfold newL_d at hd_
    split at hd_
    · obtain ⟨hs, hd_⟩ := staticD_some hd_
      cases hd_
      simp only [Bool.and_eq_true, decide_eq_true_eq] at hb
      obtain ⟨e0, e1⟩ := hb
      subst e0
      exact ⟨⟨Nat.zero_le _, e1⟩, rfl, rfl⟩
    · cases hd_
noncomputable def inF_s (n : Int) (a : Int) (b : Int) : Option (Bool × D RC) := some (true, .bool (withinB n a b))
noncomputable def inF_sp : List (D RC) → Option (Bool × D RC)
  | [.int .i64 n, .int .i64 a, .int .i64 b] => inF_s n a b
  | _ => none
noncomputable def inF_e (n : Int) (a : Int) (b : Int) := evF s23 ua_1 20 156 [.int .i64 n, .int .i64 a, .int .i64 b]
theorem inF_eq (n : Int) (a : Int) (b : Int) : inF_e n a b = (bif decide (a ≤ n) then some (D.bool (decide (n ≤ b))) else some (D.bool false)) := by kernel_rfl
theorem inF_ok (n : Int) (a : Int) (b : Int) (h : (true) = true) : inF_e n a b = some (.bool (withinB n a b)) := by
  rw [inF_eq]
  rw [withinB]
  cases decide (a ≤ n) <;> simp
noncomputable def ua_2 := ua_1.addSpec 156 inF_sp
theorem ua_2_laws : FLaws Tryz.prog s23 ua_2 := ua_1_laws.addEv s23_laws fun args d h => by
  unfold inF_sp at h
  split at h
  · unfold inF_s at h
    have h1 := congrArg Prod.fst (Option.some.inj h)
    obtain rfl : _ = d := congrArg Prod.snd (Option.some.inj h)
    exact ⟨by simp [D.refs], 20, inF_ok _ _ _ h1⟩
  · cases h
noncomputable def ringF_s (p : Int) (w : Int) : Option (Bool × D RC) := some (true, .int .i64 (lRing p w))
noncomputable def ringF_sp : List (D RC) → Option (Bool × D RC)
  | [.int .i64 p, .int .i64 w] => ringF_s p w
  | _ => none
noncomputable def ringF_e (p : Int) (w : Int) := evF s23 ua_2 20 203 [.int .i64 p, .int .i64 w]
theorem ringF_eq (p : Int) (w : Int) : ringF_e p w = (let Z0 : DO_ := some (D.int .i64 (-1 : Int)); bif decide (p < (0 : Int)) then Z0 else bif !withinB w (2 : Int) (8 : Int) then Z0 else bif w == (0 : Int) then none else some (D.int .i64 (IntKind.wrap .i64 ((13 : Int) + Int.tmod p w)))) := by kernel_rfl
theorem ringF_ok (p : Int) (w : Int) (h : (true) = true) : ringF_e p w = some (.int .i64 (lRing p w)) := by
  (rw [ringF_eq]; conv => zeta)
  unfold lRing
  refine cond2 (fun h0 => ?_) fun h0 => ?_ <;> simp only [decide_eq_true_eq, decide_eq_false_iff_not] at h0
  · rw [if_neg (by omega)]
  · cases h1 : withinB w 2 8
    · have h2 := withinB_no h1
      rw [if_neg (by omega)]; rfl
    · rw [withinB_iff] at h1
      have hw : (w == 0) = false := by simp; omega
      have hm := mod_range (p := p) (w := w) (by omega)
      simp only [hw, Bool.not_true, cond_false]
      rw [tmod_nn (by omega), wrap_id (by omega) (by omega), if_pos ⟨by omega, h1.1, h1.2⟩]
noncomputable def ua_3 := ua_2.addSpec 203 ringF_sp
theorem ua_3_laws : FLaws Tryz.prog s23 ua_3 := ua_2_laws.addEv s23_laws fun args d h => by
  unfold ringF_sp at h
  split at h
  · unfold ringF_s at h
    have h1 := congrArg Prod.fst (Option.some.inj h)
    obtain rfl : _ = d := congrArg Prod.snd (Option.some.inj h)
    exact ⟨by simp [D.refs], 20, ringF_ok _ _ h1⟩
  · cases h
noncomputable def ringR_s (p : Int) (w : Int) : Option (Bool × D RC) := some (true, .int .i64 (lRing p w))
noncomputable def ringR_sp : List (D RC) → Option (Bool × D RC)
  | [.int .i64 p, .int .i64 w] => ringR_s p w
  | _ => none
noncomputable def ringR_e (p : Int) (w : Int) := evF s23 ua_3 20 208 [.int .i64 p, .int .i64 w]
theorem ringR_eq (p : Int) (w : Int) : ringR_e p w = (let Z0 : DO_ := some (D.int .i64 (-1 : Int)); bif decide (p < (0 : Int)) then Z0 else bif decide (w < (2 : Int)) then Z0 else bif decide ((8 : Int) < w) then Z0 else bif w == (0 : Int) then none else some (D.int .i64 (IntKind.wrap .i64 ((13 : Int) + Int.tmod p w)))) := by kernel_rfl
theorem ringR_ok (p : Int) (w : Int) (h : (true) = true) : ringR_e p w = some (.int .i64 (lRing p w)) := by
  (rw [ringR_eq]; conv => zeta)
  unfold lRing
  refine cond2 (fun h0 => ?_) fun h0 => ?_ <;> simp only [decide_eq_true_eq, decide_eq_false_iff_not] at h0
  · rw [if_neg (by omega)]
  refine cond2 (fun h1 => ?_) fun h1 => ?_ <;> simp only [decide_eq_true_eq, decide_eq_false_iff_not] at h1
  · rw [if_neg (by omega)]
  refine cond2 (fun h2 => ?_) fun h2 => ?_ <;> simp only [decide_eq_true_eq, decide_eq_false_iff_not] at h2
  · rw [if_neg (by omega)]
  have hw : (w == 0) = false := by simp; omega
  have hm := mod_range (p := p) (w := w) (by omega)
  simp only [hw, Bool.not_true, cond_false]
  rw [tmod_nn (by omega), wrap_id (by omega) (by omega), if_pos ⟨by omega, by omega, by omega⟩]
noncomputable def ua_4 := ua_3.addSpec 208 ringR_sp
theorem ua_4_laws : FLaws Tryz.prog s23 ua_4 := ua_3_laws.addEv s23_laws fun args d h => by
  unfold ringR_sp at h
  split at h
  · unfold ringR_s at h
    have h1 := congrArg Prod.fst (Option.some.inj h)
    obtain rfl : _ = d := congrArg Prod.snd (Option.some.inj h)
    exact ⟨by simp [D.refs], 20, ringR_ok _ _ h1⟩
  · cases h
noncomputable def streamF_s (q : Int) (o : Int) : Option (Bool × D RC) := some (true, .int .i64 (lStream q o))
noncomputable def streamF_sp : List (D RC) → Option (Bool × D RC)
  | [.int .i64 q, .int .i64 o] => streamF_s q o
  | _ => none
noncomputable def streamF_e (q : Int) (o : Int) := evF s23 ua_4 20 123 [.int .i64 q, .int .i64 o]
theorem streamF_eq (q : Int) (o : Int) : streamF_e q o = (let Z0 : DO_ := some (D.int .i64 (-1 : Int)); bif !withinB q (0 : Int) (2 : Int) then Z0 else bif decide (o < (0 : Int)) then Z0 else some (D.int .i64 (IntKind.wrap .i64 (IntKind.wrap .i64 ((51 : Int) + IntKind.wrap .i64 ((16 : Int) * q)) + Int.tmod o (16 : Int))))) := by kernel_rfl
theorem streamF_ok (q : Int) (o : Int) (h : (true) = true) : streamF_e q o = some (.int .i64 (lStream q o)) := by
  (rw [streamF_eq]; conv => zeta)
  unfold lStream
  cases h1 : withinB q 0 2
  · have h2 := withinB_no h1
    rw [if_neg (by omega)]; rfl
  · rw [withinB_iff] at h1
    simp only [Bool.not_true, cond_false]
    refine cond2 (fun h0 => ?_) fun h0 => ?_ <;> simp only [decide_eq_true_eq, decide_eq_false_iff_not] at h0
    · rw [if_neg (by omega)]
    · rw [tmod_nn (by omega), wrap_id (n := 16 * q) (by omega) (by omega), wrap_id (n := 51 + 16 * q) (by omega) (by omega), wrap_id (by omega) (by omega), if_pos ⟨h1.1, h1.2, by omega⟩]
noncomputable def ua_5 := ua_4.addSpec 123 streamF_sp
theorem ua_5_laws : FLaws Tryz.prog s23 ua_5 := ua_4_laws.addEv s23_laws fun args d h => by
  unfold streamF_sp at h
  split at h
  · unfold streamF_s at h
    have h1 := congrArg Prod.fst (Option.some.inj h)
    obtain rfl : _ = d := congrArg Prod.snd (Option.some.inj h)
    exact ⟨by simp [D.refs], 20, streamF_ok _ _ h1⟩
  · cases h
noncomputable def streamR_s (q : Int) (o : Int) : Option (Bool × D RC) := some (true, .int .i64 (lStream q o))
noncomputable def streamR_sp : List (D RC) → Option (Bool × D RC)
  | [.int .i64 q, .int .i64 o] => streamR_s q o
  | _ => none
noncomputable def streamR_e (q : Int) (o : Int) := evF s23 ua_5 20 174 [.int .i64 q, .int .i64 o]
theorem streamR_eq (q : Int) (o : Int) : streamR_e q o = (let Z0 : DO_ := some (D.int .i64 (-1 : Int)); bif decide (q < (0 : Int)) then Z0 else bif decide ((3 : Int) ≤ q) then Z0 else bif decide (o < (0 : Int)) then Z0 else some (D.int .i64 (IntKind.wrap .i64 (IntKind.wrap .i64 ((51 : Int) + IntKind.wrap .i64 ((16 : Int) * q)) + Int.tmod o (16 : Int))))) := by kernel_rfl
theorem streamR_ok (q : Int) (o : Int) (h : (true) = true) : streamR_e q o = some (.int .i64 (lStream q o)) := by
  (rw [streamR_eq]; conv => zeta)
  unfold lStream
  refine cond2 (fun h0 => ?_) fun h0 => ?_ <;> simp only [decide_eq_true_eq, decide_eq_false_iff_not] at h0
  · rw [if_neg (by omega)]
  refine cond2 (fun h1 => ?_) fun h1 => ?_ <;> simp only [decide_eq_true_eq, decide_eq_false_iff_not] at h1
  · rw [if_neg (by omega)]
  refine cond2 (fun h2 => ?_) fun h2 => ?_ <;> simp only [decide_eq_true_eq, decide_eq_false_iff_not] at h2
  · rw [if_neg (by omega)]
  rw [tmod_nn (by omega), wrap_id (n := 16 * q) (by omega) (by omega), wrap_id (n := 51 + 16 * q) (by omega) (by omega), wrap_id (by omega) (by omega), if_pos ⟨by omega, by omega, by omega⟩]
noncomputable def ua_6 := ua_5.addSpec 174 streamR_sp
theorem ua_6_laws : FLaws Tryz.prog s23 ua_6 := ua_5_laws.addEv s23_laws fun args d h => by
  unfold streamR_sp at h
  split at h
  · unfold streamR_s at h
    have h1 := congrArg Prod.fst (Option.some.inj h)
    obtain rfl : _ = d := congrArg Prod.snd (Option.some.inj h)
    exact ⟨by simp [D.refs], 20, streamR_ok _ _ h1⟩
  · cases h
noncomputable def cellF_s (a : Int) (n : Int) (m : Int) : Option (Bool × D RC) := some (true, .int .i64 (bif decide (0 ≤ n) && decide (n < m) then IntKind.i64.wrap (a + n) else -1))
noncomputable def cellF_sp : List (D RC) → Option (Bool × D RC)
  | [.int .i64 a, .int .i64 n, .int .i64 m] => cellF_s a n m
  | _ => none
noncomputable def cellF_e (a : Int) (n : Int) (m : Int) := evF s23 ua_6 20 53 [.int .i64 a, .int .i64 n, .int .i64 m]
theorem cellF_eq (a : Int) (n : Int) (m : Int) : cellF_e a n m = (let Z0 : DO_ := some (D.int .i64 (-1 : Int)); bif decide (n < (0 : Int)) then Z0 else bif decide (m ≤ n) then Z0 else some (D.int .i64 (IntKind.wrap .i64 (a + n)))) := by kernel_rfl
theorem cellF_ok (a : Int) (n : Int) (m : Int) (h : (true) = true) : cellF_e a n m = some (.int .i64 (bif decide (0 ≤ n) && decide (n < m) then IntKind.i64.wrap (a + n) else -1)) := by
  (rw [cellF_eq]; conv => zeta)
  refine cond2 (fun h0 => ?_) fun h0 => ?_ <;> simp only [decide_eq_true_eq, decide_eq_false_iff_not] at h0
  · rw [decide_eq_false (p := 0 ≤ n) (by omega)]; rfl
  refine cond2 (fun h1 => ?_) fun h1 => ?_ <;> simp only [decide_eq_true_eq, decide_eq_false_iff_not] at h1
  · rw [decide_eq_false (p := n < m) (by omega), Bool.and_false]; rfl
  · rw [decide_eq_true (p := 0 ≤ n) (by omega), decide_eq_true (p := n < m) (by omega)]; rfl
noncomputable def ua_7 := ua_6.addSpec 53 cellF_sp
theorem ua_7_laws : FLaws Tryz.prog s23 ua_7 := ua_6_laws.addEv s23_laws fun args d h => by
  unfold cellF_sp at h
  split at h
  · unfold cellF_s at h
    have h1 := congrArg Prod.fst (Option.some.inj h)
    obtain rfl : _ = d := congrArg Prod.snd (Option.some.inj h)
    exact ⟨by simp [D.refs], 20, cellF_ok _ _ _ h1⟩
  · cases h
noncomputable def cellR_s (a : Int) (s : Int) (n : Int) (m : Int) : Option (Bool × D RC) := some (true, .int .i64 (bif decide (0 ≤ n) && decide (n < m) then IntKind.i64.wrap (a + IntKind.i64.wrap (s * n)) else -1))
noncomputable def cellR_sp : List (D RC) → Option (Bool × D RC)
  | [.int .i64 a, .int .i64 s, .int .i64 n, .int .i64 m] => cellR_s a s n m
  | _ => none
noncomputable def cellR_e (a : Int) (s : Int) (n : Int) (m : Int) := evF s23 ua_7 20 31 [.int .i64 a, .int .i64 s, .int .i64 n, .int .i64 m]
theorem cellR_eq (a : Int) (s : Int) (n : Int) (m : Int) : cellR_e a s n m = (let Z0 : DO_ := some (D.int .i64 (-1 : Int)); bif decide (n < (0 : Int)) then Z0 else bif decide (m ≤ n) then Z0 else some (D.int .i64 (IntKind.wrap .i64 (a + IntKind.wrap .i64 (s * n))))) := by kernel_rfl
theorem cellR_ok (a : Int) (s : Int) (n : Int) (m : Int) (h : (true) = true) : cellR_e a s n m = some (.int .i64 (bif decide (0 ≤ n) && decide (n < m) then IntKind.i64.wrap (a + IntKind.i64.wrap (s * n)) else -1)) := by
  (rw [cellR_eq]; conv => zeta)
  refine cond2 (fun h0 => ?_) fun h0 => ?_ <;> simp only [decide_eq_true_eq, decide_eq_false_iff_not] at h0
  · rw [decide_eq_false (p := 0 ≤ n) (by omega)]; rfl
  refine cond2 (fun h1 => ?_) fun h1 => ?_ <;> simp only [decide_eq_true_eq, decide_eq_false_iff_not] at h1
  · rw [decide_eq_false (p := n < m) (by omega), Bool.and_false]; rfl
  · rw [decide_eq_true (p := 0 ≤ n) (by omega), decide_eq_true (p := n < m) (by omega)]; rfl
noncomputable def ua_8 := ua_7.addSpec 31 cellR_sp
theorem ua_8_laws : FLaws Tryz.prog s23 ua_8 := ua_7_laws.addEv s23_laws fun args d h => by
  unfold cellR_sp at h
  split at h
  · unfold cellR_s at h
    have h1 := congrArg Prod.fst (Option.some.inj h)
    obtain rfl : _ = d := congrArg Prod.snd (Option.some.inj h)
    exact ⟨by simp [D.refs], 20, cellR_ok _ _ _ _ h1⟩
  · cases h
noncomputable def lPinP_s (n : Int) : Option (Bool × D RC) := some (true, .int .i64 (lRow 5 n 4))
noncomputable def lPinP_sp : List (D RC) → Option (Bool × D RC)
  | [.int .i64 n] => lPinP_s n
  | _ => none
noncomputable def lPinP_e (n : Int) := evF s23 ua_8 20 216 [.int .i64 n]
theorem lPinP_eq (n : Int) : lPinP_e n = (some (D.int .i64 (bif decide ((0 : Int) ≤ n) && decide (n < (4 : Int)) then IntKind.wrap .i64 ((5 : Int) + n) else (-1 : Int)))) := by kernel_rfl
theorem lPinP_ok (n : Int) (h : (true) = true) : lPinP_e n = some (.int .i64 (lRow 5 n 4)) := by
  rw [lPinP_eq]
  congr 2
  unfold lRow
  by_cases h0 : 0 ≤ n
  · by_cases h1 : n < 4
    · simp (disch := omega) only [decide_eq_true h0, decide_eq_true h1, Bool.and_self, cond_true, wrapT]; rw [if_pos ⟨h0, h1⟩]
    · simp only [decide_eq_false h1, Bool.and_false, cond_false]; rw [if_neg (by omega)]
  · simp only [decide_eq_false h0, Bool.false_and, cond_false]; rw [if_neg (by omega)]
noncomputable def ua_9 := ua_8.addSpec 216 lPinP_sp
theorem ua_9_laws : FLaws Tryz.prog s23 ua_9 := ua_8_laws.addEv s23_laws fun args d h => by
  unfold lPinP_sp at h
  split at h
  · unfold lPinP_s at h
    have h1 := congrArg Prod.fst (Option.some.inj h)
    obtain rfl : _ = d := congrArg Prod.snd (Option.some.inj h)
    exact ⟨by simp [D.refs], 20, lPinP_ok _ h1⟩
  · cases h
noncomputable def lPinR_s (n : Int) : Option (Bool × D RC) := some (true, .int .i64 (lRow 5 n 4))
noncomputable def lPinR_sp : List (D RC) → Option (Bool × D RC)
  | [.int .i64 n] => lPinR_s n
  | _ => none
noncomputable def lPinR_e (n : Int) := evF s23 ua_9 20 224 [.int .i64 n]
theorem lPinR_eq (n : Int) : lPinR_e n = (some (D.int .i64 (bif decide ((0 : Int) ≤ n) && decide (n < (4 : Int)) then IntKind.wrap .i64 ((5 : Int) + IntKind.wrap .i64 ((1 : Int) * n)) else (-1 : Int)))) := by kernel_rfl
theorem lPinR_ok (n : Int) (h : (true) = true) : lPinR_e n = some (.int .i64 (lRow 5 n 4)) := by
  rw [lPinR_eq]
  congr 2
  unfold lRow
  by_cases h0 : 0 ≤ n
  · by_cases h1 : n < 4
    · simp (disch := omega) only [decide_eq_true h0, decide_eq_true h1, Bool.and_self, cond_true, Int.one_mul, wrapT]; rw [if_pos ⟨h0, h1⟩]
    · simp only [decide_eq_false h1, Bool.and_false, cond_false]; rw [if_neg (by omega)]
  · simp only [decide_eq_false h0, Bool.false_and, cond_false]; rw [if_neg (by omega)]
noncomputable def ua_10 := ua_9.addSpec 224 lPinR_sp
theorem ua_10_laws : FLaws Tryz.prog s23 ua_10 := ua_9_laws.addEv s23_laws fun args d h => by
  unfold lPinR_sp at h
  split at h
  · unfold lPinR_s at h
    have h1 := congrArg Prod.fst (Option.some.inj h)
    obtain rfl : _ = d := congrArg Prod.snd (Option.some.inj h)
    exact ⟨by simp [D.refs], 20, lPinR_ok _ h1⟩
  · cases h
noncomputable def lStartP_s (n : Int) : Option (Bool × D RC) := some (true, .int .i64 (lRow 9 n 4))
noncomputable def lStartP_sp : List (D RC) → Option (Bool × D RC)
  | [.int .i64 n] => lStartP_s n
  | _ => none
noncomputable def lStartP_e (n : Int) := evF s23 ua_10 20 30 [.int .i64 n]
theorem lStartP_eq (n : Int) : lStartP_e n = (some (D.int .i64 (bif decide ((0 : Int) ≤ n) && decide (n < (4 : Int)) then IntKind.wrap .i64 ((9 : Int) + n) else (-1 : Int)))) := by kernel_rfl
theorem lStartP_ok (n : Int) (h : (true) = true) : lStartP_e n = some (.int .i64 (lRow 9 n 4)) := by
  rw [lStartP_eq]
  congr 2
  unfold lRow
  by_cases h0 : 0 ≤ n
  · by_cases h1 : n < 4
    · simp (disch := omega) only [decide_eq_true h0, decide_eq_true h1, Bool.and_self, cond_true, wrapT]; rw [if_pos ⟨h0, h1⟩]
    · simp only [decide_eq_false h1, Bool.and_false, cond_false]; rw [if_neg (by omega)]
  · simp only [decide_eq_false h0, Bool.false_and, cond_false]; rw [if_neg (by omega)]
noncomputable def ua_11 := ua_10.addSpec 30 lStartP_sp
theorem ua_11_laws : FLaws Tryz.prog s23 ua_11 := ua_10_laws.addEv s23_laws fun args d h => by
  unfold lStartP_sp at h
  split at h
  · unfold lStartP_s at h
    have h1 := congrArg Prod.fst (Option.some.inj h)
    obtain rfl : _ = d := congrArg Prod.snd (Option.some.inj h)
    exact ⟨by simp [D.refs], 20, lStartP_ok _ h1⟩
  · cases h
noncomputable def lStartR_s (n : Int) : Option (Bool × D RC) := some (true, .int .i64 (lRow 9 n 4))
noncomputable def lStartR_sp : List (D RC) → Option (Bool × D RC)
  | [.int .i64 n] => lStartR_s n
  | _ => none
noncomputable def lStartR_e (n : Int) := evF s23 ua_11 20 16 [.int .i64 n]
theorem lStartR_eq (n : Int) : lStartR_e n = (some (D.int .i64 (bif decide ((0 : Int) ≤ n) && decide (n < (4 : Int)) then IntKind.wrap .i64 ((9 : Int) + IntKind.wrap .i64 ((1 : Int) * n)) else (-1 : Int)))) := by kernel_rfl
theorem lStartR_ok (n : Int) (h : (true) = true) : lStartR_e n = some (.int .i64 (lRow 9 n 4)) := by
  rw [lStartR_eq]
  congr 2
  unfold lRow
  by_cases h0 : 0 ≤ n
  · by_cases h1 : n < 4
    · simp (disch := omega) only [decide_eq_true h0, decide_eq_true h1, Bool.and_self, cond_true, Int.one_mul, wrapT]; rw [if_pos ⟨h0, h1⟩]
    · simp only [decide_eq_false h1, Bool.and_false, cond_false]; rw [if_neg (by omega)]
  · simp only [decide_eq_false h0, Bool.false_and, cond_false]; rw [if_neg (by omega)]
noncomputable def ua_12 := ua_11.addSpec 16 lStartR_sp
theorem ua_12_laws : FLaws Tryz.prog s23 ua_12 := ua_11_laws.addEv s23_laws fun args d h => by
  unfold lStartR_sp at h
  split at h
  · unfold lStartR_s at h
    have h1 := congrArg Prod.fst (Option.some.inj h)
    obtain rfl : _ = d := congrArg Prod.snd (Option.some.inj h)
    exact ⟨by simp [D.refs], 20, lStartR_ok _ h1⟩
  · cases h
noncomputable def lHeadP_s (n : Int) : Option (Bool × D RC) := some (true, .int .i64 (lRow 21 n 24))
noncomputable def lHeadP_sp : List (D RC) → Option (Bool × D RC)
  | [.int .i64 n] => lHeadP_s n
  | _ => none
noncomputable def lHeadP_e (n : Int) := evF s23 ua_12 20 134 [.int .i64 n]
theorem lHeadP_eq (n : Int) : lHeadP_e n = (some (D.int .i64 (bif decide ((0 : Int) ≤ n) && decide (n < (24 : Int)) then IntKind.wrap .i64 ((21 : Int) + n) else (-1 : Int)))) := by kernel_rfl
theorem lHeadP_ok (n : Int) (h : (true) = true) : lHeadP_e n = some (.int .i64 (lRow 21 n 24)) := by
  rw [lHeadP_eq]
  congr 2
  unfold lRow
  by_cases h0 : 0 ≤ n
  · by_cases h1 : n < 24
    · simp (disch := omega) only [decide_eq_true h0, decide_eq_true h1, Bool.and_self, cond_true, wrapT]; rw [if_pos ⟨h0, h1⟩]
    · simp only [decide_eq_false h1, Bool.and_false, cond_false]; rw [if_neg (by omega)]
  · simp only [decide_eq_false h0, Bool.false_and, cond_false]; rw [if_neg (by omega)]
noncomputable def ua_13 := ua_12.addSpec 134 lHeadP_sp
theorem ua_13_laws : FLaws Tryz.prog s23 ua_13 := ua_12_laws.addEv s23_laws fun args d h => by
  unfold lHeadP_sp at h
  split at h
  · unfold lHeadP_s at h
    have h1 := congrArg Prod.fst (Option.some.inj h)
    obtain rfl : _ = d := congrArg Prod.snd (Option.some.inj h)
    exact ⟨by simp [D.refs], 20, lHeadP_ok _ h1⟩
  · cases h
noncomputable def lHeadR_s (n : Int) : Option (Bool × D RC) := some (true, .int .i64 (lRow 21 n 24))
noncomputable def lHeadR_sp : List (D RC) → Option (Bool × D RC)
  | [.int .i64 n] => lHeadR_s n
  | _ => none
noncomputable def lHeadR_e (n : Int) := evF s23 ua_13 20 184 [.int .i64 n]
theorem lHeadR_eq (n : Int) : lHeadR_e n = (some (D.int .i64 (bif decide ((0 : Int) ≤ n) && decide (n < (24 : Int)) then IntKind.wrap .i64 ((21 : Int) + IntKind.wrap .i64 ((1 : Int) * n)) else (-1 : Int)))) := by kernel_rfl
theorem lHeadR_ok (n : Int) (h : (true) = true) : lHeadR_e n = some (.int .i64 (lRow 21 n 24)) := by
  rw [lHeadR_eq]
  congr 2
  unfold lRow
  by_cases h0 : 0 ≤ n
  · by_cases h1 : n < 24
    · simp (disch := omega) only [decide_eq_true h0, decide_eq_true h1, Bool.and_self, cond_true, Int.one_mul, wrapT]; rw [if_pos ⟨h0, h1⟩]
    · simp only [decide_eq_false h1, Bool.and_false, cond_false]; rw [if_neg (by omega)]
  · simp only [decide_eq_false h0, Bool.false_and, cond_false]; rw [if_neg (by omega)]
noncomputable def ua_14 := ua_13.addSpec 184 lHeadR_sp
theorem ua_14_laws : FLaws Tryz.prog s23 ua_14 := ua_13_laws.addEv s23_laws fun args d h => by
  unfold lHeadR_sp at h
  split at h
  · unfold lHeadR_s at h
    have h1 := congrArg Prod.fst (Option.some.inj h)
    obtain rfl : _ = d := congrArg Prod.snd (Option.some.inj h)
    exact ⟨by simp [D.refs], 20, lHeadR_ok _ h1⟩
  · cases h
noncomputable def lCountP_s (n : Int) : Option (Bool × D RC) := some (true, .int .i64 (lRow 45 n 3))
noncomputable def lCountP_sp : List (D RC) → Option (Bool × D RC)
  | [.int .i64 n] => lCountP_s n
  | _ => none
noncomputable def lCountP_e (n : Int) := evF s23 ua_14 20 88 [.int .i64 n]
theorem lCountP_eq (n : Int) : lCountP_e n = (some (D.int .i64 (bif decide ((0 : Int) ≤ n) && decide (n < (3 : Int)) then IntKind.wrap .i64 ((45 : Int) + n) else (-1 : Int)))) := by kernel_rfl
theorem lCountP_ok (n : Int) (h : (true) = true) : lCountP_e n = some (.int .i64 (lRow 45 n 3)) := by
  rw [lCountP_eq]
  congr 2
  unfold lRow
  by_cases h0 : 0 ≤ n
  · by_cases h1 : n < 3
    · simp (disch := omega) only [decide_eq_true h0, decide_eq_true h1, Bool.and_self, cond_true, wrapT]; rw [if_pos ⟨h0, h1⟩]
    · simp only [decide_eq_false h1, Bool.and_false, cond_false]; rw [if_neg (by omega)]
  · simp only [decide_eq_false h0, Bool.false_and, cond_false]; rw [if_neg (by omega)]
noncomputable def ua_15 := ua_14.addSpec 88 lCountP_sp
theorem ua_15_laws : FLaws Tryz.prog s23 ua_15 := ua_14_laws.addEv s23_laws fun args d h => by
  unfold lCountP_sp at h
  split at h
  · unfold lCountP_s at h
    have h1 := congrArg Prod.fst (Option.some.inj h)
    obtain rfl : _ = d := congrArg Prod.snd (Option.some.inj h)
    exact ⟨by simp [D.refs], 20, lCountP_ok _ h1⟩
  · cases h
noncomputable def lCountR_s (n : Int) : Option (Bool × D RC) := some (true, .int .i64 (lRow 45 n 3))
noncomputable def lCountR_sp : List (D RC) → Option (Bool × D RC)
  | [.int .i64 n] => lCountR_s n
  | _ => none
noncomputable def lCountR_e (n : Int) := evF s23 ua_15 20 147 [.int .i64 n]
theorem lCountR_eq (n : Int) : lCountR_e n = (some (D.int .i64 (bif decide ((0 : Int) ≤ n) && decide (n < (3 : Int)) then IntKind.wrap .i64 ((45 : Int) + IntKind.wrap .i64 ((1 : Int) * n)) else (-1 : Int)))) := by kernel_rfl
theorem lCountR_ok (n : Int) (h : (true) = true) : lCountR_e n = some (.int .i64 (lRow 45 n 3)) := by
  rw [lCountR_eq]
  congr 2
  unfold lRow
  by_cases h0 : 0 ≤ n
  · by_cases h1 : n < 3
    · simp (disch := omega) only [decide_eq_true h0, decide_eq_true h1, Bool.and_self, cond_true, Int.one_mul, wrapT]; rw [if_pos ⟨h0, h1⟩]
    · simp only [decide_eq_false h1, Bool.and_false, cond_false]; rw [if_neg (by omega)]
  · simp only [decide_eq_false h0, Bool.false_and, cond_false]; rw [if_neg (by omega)]
noncomputable def ua_16 := ua_15.addSpec 147 lCountR_sp
theorem ua_16_laws : FLaws Tryz.prog s23 ua_16 := ua_15_laws.addEv s23_laws fun args d h => by
  unfold lCountR_sp at h
  split at h
  · unfold lCountR_s at h
    have h1 := congrArg Prod.fst (Option.some.inj h)
    obtain rfl : _ = d := congrArg Prod.snd (Option.some.inj h)
    exact ⟨by simp [D.refs], 20, lCountR_ok _ h1⟩
  · cases h
noncomputable def lCutP_s (n : Int) : Option (Bool × D RC) := some (true, .int .i64 (lRow 48 n 3))
noncomputable def lCutP_sp : List (D RC) → Option (Bool × D RC)
  | [.int .i64 n] => lCutP_s n
  | _ => none
noncomputable def lCutP_e (n : Int) := evF s23 ua_16 20 95 [.int .i64 n]
theorem lCutP_eq (n : Int) : lCutP_e n = (some (D.int .i64 (bif decide ((0 : Int) ≤ n) && decide (n < (3 : Int)) then IntKind.wrap .i64 ((48 : Int) + n) else (-1 : Int)))) := by kernel_rfl
theorem lCutP_ok (n : Int) (h : (true) = true) : lCutP_e n = some (.int .i64 (lRow 48 n 3)) := by
  rw [lCutP_eq]
  congr 2
  unfold lRow
  by_cases h0 : 0 ≤ n
  · by_cases h1 : n < 3
    · simp (disch := omega) only [decide_eq_true h0, decide_eq_true h1, Bool.and_self, cond_true, wrapT]; rw [if_pos ⟨h0, h1⟩]
    · simp only [decide_eq_false h1, Bool.and_false, cond_false]; rw [if_neg (by omega)]
  · simp only [decide_eq_false h0, Bool.false_and, cond_false]; rw [if_neg (by omega)]
noncomputable def ua_17 := ua_16.addSpec 95 lCutP_sp
theorem ua_17_laws : FLaws Tryz.prog s23 ua_17 := ua_16_laws.addEv s23_laws fun args d h => by
  unfold lCutP_sp at h
  split at h
  · unfold lCutP_s at h
    have h1 := congrArg Prod.fst (Option.some.inj h)
    obtain rfl : _ = d := congrArg Prod.snd (Option.some.inj h)
    exact ⟨by simp [D.refs], 20, lCutP_ok _ h1⟩
  · cases h
noncomputable def lCutR_s (n : Int) : Option (Bool × D RC) := some (true, .int .i64 (lRow 48 n 3))
noncomputable def lCutR_sp : List (D RC) → Option (Bool × D RC)
  | [.int .i64 n] => lCutR_s n
  | _ => none
noncomputable def lCutR_e (n : Int) := evF s23 ua_17 20 150 [.int .i64 n]
theorem lCutR_eq (n : Int) : lCutR_e n = (some (D.int .i64 (bif decide ((0 : Int) ≤ n) && decide (n < (3 : Int)) then IntKind.wrap .i64 ((48 : Int) + IntKind.wrap .i64 ((1 : Int) * n)) else (-1 : Int)))) := by kernel_rfl
theorem lCutR_ok (n : Int) (h : (true) = true) : lCutR_e n = some (.int .i64 (lRow 48 n 3)) := by
  rw [lCutR_eq]
  congr 2
  unfold lRow
  by_cases h0 : 0 ≤ n
  · by_cases h1 : n < 3
    · simp (disch := omega) only [decide_eq_true h0, decide_eq_true h1, Bool.and_self, cond_true, Int.one_mul, wrapT]; rw [if_pos ⟨h0, h1⟩]
    · simp only [decide_eq_false h1, Bool.and_false, cond_false]; rw [if_neg (by omega)]
  · simp only [decide_eq_false h0, Bool.false_and, cond_false]; rw [if_neg (by omega)]
noncomputable def ua_18 := ua_17.addSpec 150 lCutR_sp
theorem ua_18_laws : FLaws Tryz.prog s23 ua_18 := ua_17_laws.addEv s23_laws fun args d h => by
  unfold lCutR_sp at h
  split at h
  · unfold lCutR_s at h
    have h1 := congrArg Prod.fst (Option.some.inj h)
    obtain rfl : _ = d := congrArg Prod.snd (Option.some.inj h)
    exact ⟨by simp [D.refs], 20, lCutR_ok _ h1⟩
  · cases h
noncomputable def lFieldP_s (a : Int) (s : Int) (f : Int) (m : Int) (k : Int) : Option (Bool × D RC) := some (true, .int .i64 (bif withinB s 0 (IntKind.i64.wrap (m - 1)) && withinB f 0 (IntKind.i64.wrap (k - 1)) then IntKind.i64.wrap (IntKind.i64.wrap (a + IntKind.i64.wrap (s * k)) + f) else -1))
noncomputable def lFieldP_sp : List (D RC) → Option (Bool × D RC)
  | [.int .i64 a, .int .i64 s, .int .i64 f, .int .i64 m, .int .i64 k] => lFieldP_s a s f m k
  | _ => none
noncomputable def lFieldP_e (a : Int) (s : Int) (f : Int) (m : Int) (k : Int) := evF s23 ua_18 20 189 [.int .i64 a, .int .i64 s, .int .i64 f, .int .i64 m, .int .i64 k]
theorem lFieldP_eq (a : Int) (s : Int) (f : Int) (m : Int) (k : Int) : lFieldP_e a s f m k = (let Z0 : DO_ := some (D.int .i64 (-1 : Int)); bif !withinB s (0 : Int) (IntKind.wrap .i64 (m - (1 : Int))) then Z0 else bif !withinB f (0 : Int) (IntKind.wrap .i64 (k - (1 : Int))) then Z0 else some (D.int .i64 (IntKind.wrap .i64 (IntKind.wrap .i64 (a + IntKind.wrap .i64 (s * k)) + f)))) := by kernel_rfl
theorem lFieldP_ok (a : Int) (s : Int) (f : Int) (m : Int) (k : Int) (h : (true) = true) : lFieldP_e a s f m k = some (.int .i64 (bif withinB s 0 (IntKind.i64.wrap (m - 1)) && withinB f 0 (IntKind.i64.wrap (k - 1)) then IntKind.i64.wrap (IntKind.i64.wrap (a + IntKind.i64.wrap (s * k)) + f) else -1)) := by
  (rw [lFieldP_eq]; conv => zeta)
  cases withinB s 0 (IntKind.i64.wrap (m - 1)) <;> cases withinB f 0 (IntKind.i64.wrap (k - 1)) <;> rfl
noncomputable def ua_19 := ua_18.addSpec 189 lFieldP_sp
theorem ua_19_laws : FLaws Tryz.prog s23 ua_19 := ua_18_laws.addEv s23_laws fun args d h => by
  unfold lFieldP_sp at h
  split at h
  · unfold lFieldP_s at h
    have h1 := congrArg Prod.fst (Option.some.inj h)
    obtain rfl : _ = d := congrArg Prod.snd (Option.some.inj h)
    exact ⟨by simp [D.refs], 20, lFieldP_ok _ _ _ _ _ h1⟩
  · cases h
noncomputable def lDescP_s (s : Int) (f : Int) : Option (Bool × D RC) := some (true, .int .i64 (lField 99 s f 16 12))
noncomputable def lDescP_sp : List (D RC) → Option (Bool × D RC)
  | [.int .i64 s, .int .i64 f] => lDescP_s s f
  | _ => none
noncomputable def lDescP_e (s : Int) (f : Int) := evF s23 ua_19 20 160 [.int .i64 s, .int .i64 f]
theorem lDescP_eq (s : Int) (f : Int) : lDescP_e s f = (some (D.int .i64 (bif withinB s (0 : Int) (15 : Int) && withinB f (0 : Int) (11 : Int) then IntKind.wrap .i64 (IntKind.wrap .i64 ((99 : Int) + IntKind.wrap .i64 (s * (12 : Int))) + f) else (-1 : Int)))) := by kernel_rfl
theorem lDescP_ok (s : Int) (f : Int) (h : (true) = true) : lDescP_e s f = some (.int .i64 (lField 99 s f 16 12)) := by
  rw [lDescP_eq]
  congr 2
  unfold lField
  cases h0 : withinB s 0 15
  · have := withinB_no h0
    rw [if_neg (by omega)]; rfl
  cases h1 : withinB f 0 11
  · have := withinB_no h1
    rw [if_neg (by omega)]; rfl
  rw [withinB_iff] at h0 h1
  rw [if_pos (by omega)]
  simp (disch := omega) only [Bool.and_self, cond_true, wrapT]
noncomputable def ua_20 := ua_19.addSpec 160 lDescP_sp
theorem ua_20_laws : FLaws Tryz.prog s23 ua_20 := ua_19_laws.addEv s23_laws fun args d h => by
  unfold lDescP_sp at h
  split at h
  · unfold lDescP_s at h
    have h1 := congrArg Prod.fst (Option.some.inj h)
    obtain rfl : _ = d := congrArg Prod.snd (Option.some.inj h)
    exact ⟨by simp [D.refs], 20, lDescP_ok _ _ h1⟩
  · cases h
noncomputable def lDescR_s (s : Int) (f : Int) : Option (Bool × D RC) := some (true, .int .i64 (lField 99 s f 16 12))
noncomputable def lDescR_sp : List (D RC) → Option (Bool × D RC)
  | [.int .i64 s, .int .i64 f] => lDescR_s s f
  | _ => none
noncomputable def lDescR_e (s : Int) (f : Int) := evF s23 ua_20 20 206 [.int .i64 s, .int .i64 f]
theorem lDescR_eq (s : Int) (f : Int) : lDescR_e s f = (let Z0 : DO_ := some (D.int .i64 (-1 : Int)); let Z1 : Int := bif decide ((0 : Int) ≤ s) && decide (s < (16 : Int)) then IntKind.wrap .i64 ((99 : Int) + IntKind.wrap .i64 ((12 : Int) * s)) else (-1 : Int); bif decide (f < (0 : Int)) then Z0 else bif decide ((11 : Int) < f) then Z0 else bif decide (Z1 < (0 : Int)) then Z0 else some (D.int .i64 (IntKind.wrap .i64 (Z1 + f)))) := by kernel_rfl
theorem lDescR_ok (s : Int) (f : Int) (h : (true) = true) : lDescR_e s f = some (.int .i64 (lField 99 s f 16 12)) := by
  (rw [lDescR_eq]; conv => zeta)
  unfold lField
  refine cond2 (fun h0 => ?_) fun h0 => ?_ <;> simp only [decide_eq_true_eq, decide_eq_false_iff_not] at h0
  · rw [if_neg (by omega)]
  refine cond2 (fun h1 => ?_) fun h1 => ?_ <;> simp only [decide_eq_true_eq, decide_eq_false_iff_not] at h1
  · rw [if_neg (by omega)]
  by_cases h2 : 0 ≤ s
  · by_cases h3 : s < 16
    · simp (disch := omega) only [decide_eq_true h2, decide_eq_true h3, Bool.and_self, cond_true, wrapT]
      rw [decide_eq_false (by omega), if_pos (by omega)]
      simp (disch := omega) only [cond_false, wrapT]
      congr 2; omega
    · simp only [decide_eq_false h3, Bool.and_false, cond_false]; rw [if_neg (by omega)]; rfl
  · simp only [decide_eq_false h2, Bool.false_and, cond_false]; rw [if_neg (by omega)]; rfl
noncomputable def ua_21 := ua_20.addSpec 206 lDescR_sp
theorem ua_21_laws : FLaws Tryz.prog s23 ua_21 := ua_20_laws.addEv s23_laws fun args d h => by
  unfold lDescR_sp at h
  split at h
  · unfold lDescR_s at h
    have h1 := congrArg Prod.fst (Option.some.inj h)
    obtain rfl : _ = d := congrArg Prod.snd (Option.some.inj h)
    exact ⟨by simp [D.refs], 20, lDescR_ok _ _ h1⟩
  · cases h
noncomputable def lNodeP_s (s : Int) (f : Int) : Option (Bool × D RC) := some (true, .int .i64 (lField 291 s f 160 3))
noncomputable def lNodeP_sp : List (D RC) → Option (Bool × D RC)
  | [.int .i64 s, .int .i64 f] => lNodeP_s s f
  | _ => none
noncomputable def lNodeP_e (s : Int) (f : Int) := evF s23 ua_21 20 159 [.int .i64 s, .int .i64 f]
theorem lNodeP_eq (s : Int) (f : Int) : lNodeP_e s f = (some (D.int .i64 (bif withinB s (0 : Int) (159 : Int) && withinB f (0 : Int) (2 : Int) then IntKind.wrap .i64 (IntKind.wrap .i64 ((291 : Int) + IntKind.wrap .i64 (s * (3 : Int))) + f) else (-1 : Int)))) := by kernel_rfl
theorem lNodeP_ok (s : Int) (f : Int) (h : (true) = true) : lNodeP_e s f = some (.int .i64 (lField 291 s f 160 3)) := by
  rw [lNodeP_eq]
  congr 2
  unfold lField
  cases h0 : withinB s 0 159
  · have := withinB_no h0
    rw [if_neg (by omega)]; rfl
  cases h1 : withinB f 0 2
  · have := withinB_no h1
    rw [if_neg (by omega)]; rfl
  rw [withinB_iff] at h0 h1
  rw [if_pos (by omega)]
  simp (disch := omega) only [Bool.and_self, cond_true, wrapT]
noncomputable def ua_22 := ua_21.addSpec 159 lNodeP_sp
theorem ua_22_laws : FLaws Tryz.prog s23 ua_22 := ua_21_laws.addEv s23_laws fun args d h => by
  unfold lNodeP_sp at h
  split at h
  · unfold lNodeP_s at h
    have h1 := congrArg Prod.fst (Option.some.inj h)
    obtain rfl : _ = d := congrArg Prod.snd (Option.some.inj h)
    exact ⟨by simp [D.refs], 20, lNodeP_ok _ _ h1⟩
  · cases h
noncomputable def lNodeR_s (s : Int) (f : Int) : Option (Bool × D RC) := some (true, .int .i64 (lField 291 s f 160 3))
noncomputable def lNodeR_sp : List (D RC) → Option (Bool × D RC)
  | [.int .i64 s, .int .i64 f] => lNodeR_s s f
  | _ => none
noncomputable def lNodeR_e (s : Int) (f : Int) := evF s23 ua_22 20 33 [.int .i64 s, .int .i64 f]
theorem lNodeR_eq (s : Int) (f : Int) : lNodeR_e s f = (let Z0 : DO_ := some (D.int .i64 (-1 : Int)); let Z1 : Int := bif decide ((0 : Int) ≤ s) && decide (s < (160 : Int)) then IntKind.wrap .i64 ((291 : Int) + IntKind.wrap .i64 ((3 : Int) * s)) else (-1 : Int); bif decide (f < (0 : Int)) then Z0 else bif decide ((2 : Int) < f) then Z0 else bif decide (Z1 < (0 : Int)) then Z0 else some (D.int .i64 (IntKind.wrap .i64 (Z1 + f)))) := by kernel_rfl
theorem lNodeR_ok (s : Int) (f : Int) (h : (true) = true) : lNodeR_e s f = some (.int .i64 (lField 291 s f 160 3)) := by
  (rw [lNodeR_eq]; conv => zeta)
  unfold lField
  refine cond2 (fun h0 => ?_) fun h0 => ?_ <;> simp only [decide_eq_true_eq, decide_eq_false_iff_not] at h0
  · rw [if_neg (by omega)]
  refine cond2 (fun h1 => ?_) fun h1 => ?_ <;> simp only [decide_eq_true_eq, decide_eq_false_iff_not] at h1
  · rw [if_neg (by omega)]
  by_cases h2 : 0 ≤ s
  · by_cases h3 : s < 160
    · simp (disch := omega) only [decide_eq_true h2, decide_eq_true h3, Bool.and_self, cond_true, wrapT]
      rw [decide_eq_false (by omega), if_pos (by omega)]
      simp (disch := omega) only [cond_false, wrapT]
      congr 2; omega
    · simp only [decide_eq_false h3, Bool.and_false, cond_false]; rw [if_neg (by omega)]; rfl
  · simp only [decide_eq_false h2, Bool.false_and, cond_false]; rw [if_neg (by omega)]; rfl
noncomputable def ua_23 := ua_22.addSpec 33 lNodeR_sp
theorem ua_23_laws : FLaws Tryz.prog s23 ua_23 := ua_22_laws.addEv s23_laws fun args d h => by
  unfold lNodeR_sp at h
  split at h
  · unfold lNodeR_s at h
    have h1 := congrArg Prod.fst (Option.some.inj h)
    obtain rfl : _ = d := congrArg Prod.snd (Option.some.inj h)
    exact ⟨by simp [D.refs], 20, lNodeR_ok _ _ h1⟩
  · cases h
noncomputable def plcP_s (w : Int) : Option (Bool × D RC) := some (true, .int .i64 (plc w))
noncomputable def plcP_sp : List (D RC) → Option (Bool × D RC)
  | [.int .i64 w] => plcP_s w
  | _ => none
noncomputable def plcP_e (w : Int) := evF s23 ua_23 20 128 [.int .i64 w]
theorem plcP_eq (w : Int) : plcP_e w = (let Z0 : DO_ := some (D.int .i64 0); bif decide (w < (0 : Int)) then Z0 else bif decide ((1099510841343 : Int) < w) then Z0 else some (D.int .i64 (bits .i64 (fun (x : Nat) (u v : BitVec x) => u &&& v) (Int.fdiv w (1048576 : Int)) (1099511627775 : Int)))) := by kernel_rfl
theorem plcP_ok (w : Int) (h : (true) = true) : plcP_e w = some (.int .i64 (plc w)) := by
  (rw [plcP_eq]; conv => zeta)
  unfold plc
  refine cond2 (fun h0 => ?_) fun h0 => cond2 (fun h1 => ?_) fun h1 => ?_ <;> simp only [decide_eq_true_eq, decide_eq_false_iff_not] at *
  · rw [inWord_no (by omega)]; rfl
  · rw [inWord_no (by omega)]; rfl
  · rw [inWord_in (by omega), fdiv20 (by omega), and40 (by omega)]
noncomputable def ua_24 := ua_23.addSpec 128 plcP_sp
theorem ua_24_laws : FLaws Tryz.prog s23 ua_24 := ua_23_laws.addEv s23_laws fun args d h => by
  unfold plcP_sp at h
  split at h
  · unfold plcP_s at h
    have h1 := congrArg Prod.fst (Option.some.inj h)
    obtain rfl : _ = d := congrArg Prod.snd (Option.some.inj h)
    exact ⟨by simp [D.refs], 20, plcP_ok _ h1⟩
  · cases h
noncomputable def wordP_s (p : Int) (d : Int) : Option (Bool × D RC) := some (true, .tup (.acons (.int .i64 (wordN p d)) (.acons (.int .i64 (wordE p d)) .anil)))
noncomputable def wordP_sp : List (D RC) → Option (Bool × D RC)
  | [.int .i64 p, .int .i64 d] => wordP_s p d
  | _ => none
noncomputable def wordP_e (p : Int) (d : Int) := evF s23 ua_24 20 133 [.int .i64 p, .int .i64 d]
theorem wordP_eq (p : Int) (d : Int) : wordP_e p d = (let Z0 : Bool := decide (p < (0 : Int)); let Z1 : D RC := D.int .i64 0; let Z2 : DO_ := some (D.tup (D.acons Z1 (D.acons (D.int .i64 2) .anil))); let Z3 : Bool := decide ((1048575 : Int) < p); let Z4 : DO_ := some (D.tup (D.acons (D.int .i64 (bits .i64 (fun (x : Nat) (u v : BitVec x) => u ||| v) (IntKind.wrap .i64 (p * (1048576 : Int))) d)) (.acons Z1 .anil))); let Z5 : DO_ := bif d != (0 : Int) then Z2 else bif p != (0 : Int) then Z2 else Z4; bif decide ((256 : Int) ≤ d) then bif Z0 then Z2 else bif Z3 then Z2 else bif !decide (d ≤ (262143 : Int)) then Z5 else Z4 else bif Z0 then Z2 else bif Z3 then Z2 else Z5) := by kernel_rfl
theorem wordP_ok (p : Int) (d : Int) (h : (true) = true) : wordP_e p d = some (.tup (.acons (.int .i64 (wordN p d)) (.acons (.int .i64 (wordE p d)) .anil))) := by
  (rw [wordP_eq]; conv => zeta)
  have ww : 0 ≤ p → p ≤ 1048575 → IntKind.i64.wrap (p * 1048576) = p * 1048576 := fun h1 h2 => wrap_id (by omega) (by omega)
  repeat' (refine cond2 (fun hc => ?_) fun hc => ?_)
  all_goals
    simp only [decide_eq_true_eq, decide_eq_false_iff_not, beq_iff_eq, bne_iff_ne, ne_eq, Bool.not_eq_true', Bool.not_eq_false', bne_eq_false_iff_eq, beq_eq_false_iff_ne] at *
    first
    | exact congrArg some (word_none (by unfold OkWord; omega))
    | (rw [ww (by omega) (by omega), or20 (by omega) (by omega)]; exact congrArg some (word_leaf (by unfold OkWord; omega)))
noncomputable def ua_25 := ua_24.addSpec 133 wordP_sp
theorem ua_25_laws : FLaws Tryz.prog s23 ua_25 := ua_24_laws.addEv s23_laws fun args d h => by
  unfold wordP_sp at h
  split at h
  · unfold wordP_s at h
    have h1 := congrArg Prod.fst (Option.some.inj h)
    obtain rfl : _ = d := congrArg Prod.snd (Option.some.inj h)
    exact ⟨by simp [D.refs], 20, wordP_ok _ _ h1⟩
  · cases h
noncomputable def plcR_s (w : Int) : Option (Bool × D RC) := some (true, .int .i64 (plc w))
noncomputable def plcR_sp : List (D RC) → Option (Bool × D RC)
  | [.int .i64 w] => plcR_s w
  | _ => none
noncomputable def plcR_e (w : Int) := evF s23 ua_25 20 178 [.int .i64 w]
theorem plcR_eq (w : Int) : plcR_e w = (let Z0 : DO_ := some (D.int .i64 0); bif decide (w < (0 : Int)) then Z0 else bif decide ((1099510841343 : Int) < w) then Z0 else some (D.int .i64 (Int.fdiv w (1048576 : Int)))) := by kernel_rfl
theorem plcR_ok (w : Int) (h : (true) = true) : plcR_e w = some (.int .i64 (plc w)) := by
  (rw [plcR_eq]; conv => zeta)
  unfold plc
  refine cond2 (fun h0 => ?_) fun h0 => cond2 (fun h1 => ?_) fun h1 => ?_ <;> simp only [decide_eq_true_eq, decide_eq_false_iff_not] at *
  · rw [inWord_no (by omega)]; rfl
  · rw [inWord_no (by omega)]; rfl
  · rw [inWord_in (by omega), fdiv20 (by omega)]
noncomputable def ua_26 := ua_25.addSpec 178 plcR_sp
theorem ua_26_laws : FLaws Tryz.prog s23 ua_26 := ua_25_laws.addEv s23_laws fun args d h => by
  unfold plcR_sp at h
  split at h
  · unfold plcR_s at h
    have h1 := congrArg Prod.fst (Option.some.inj h)
    obtain rfl : _ = d := congrArg Prod.snd (Option.some.inj h)
    exact ⟨by simp [D.refs], 20, plcR_ok _ h1⟩
  · cases h
noncomputable def bareR_s (w : Int) : Option (Bool × D RC) := some (true, .int .i64 (bare w))
noncomputable def bareR_sp : List (D RC) → Option (Bool × D RC)
  | [.int .i64 w] => bareR_s w
  | _ => none
noncomputable def bareR_e (w : Int) := evF s23 ua_26 20 204 [.int .i64 w]
theorem bareR_eq (w : Int) : bareR_e w = (let Z0 : DO_ := some (D.int .i64 0); bif decide (w < (0 : Int)) then Z0 else bif decide ((1099510841343 : Int) < w) then Z0 else some (D.int .i64 (bits .i64 (fun (x : Nat) (u v : BitVec x) => u &&& v) w (1048575 : Int)))) := by kernel_rfl
theorem bareR_ok (w : Int) (h : (true) = true) : bareR_e w = some (.int .i64 (bare w)) := by
  (rw [bareR_eq]; conv => zeta)
  unfold bare
  refine cond2 (fun h0 => ?_) fun h0 => cond2 (fun h1 => ?_) fun h1 => ?_ <;> simp only [decide_eq_true_eq, decide_eq_false_iff_not] at *
  · rw [inWord_no (by omega)]; rfl
  · rw [inWord_no (by omega)]; rfl
  · rw [inWord_in (by omega), and20]
noncomputable def ua_27 := ua_26.addSpec 204 bareR_sp
theorem ua_27_laws : FLaws Tryz.prog s23 ua_27 := ua_26_laws.addEv s23_laws fun args d h => by
  unfold bareR_sp at h
  split at h
  · unfold bareR_s at h
    have h1 := congrArg Prod.fst (Option.some.inj h)
    obtain rfl : _ = d := congrArg Prod.snd (Option.some.inj h)
    exact ⟨by simp [D.refs], 20, bareR_ok _ h1⟩
  · cases h
noncomputable def wordR_s (p : Int) (d : Int) : Option (Bool × D RC) := some (true, .tup (.acons (.int .i64 (wordN p d)) (.acons (.int .i64 (wordE p d)) .anil)))
noncomputable def wordR_sp : List (D RC) → Option (Bool × D RC)
  | [.int .i64 p, .int .i64 d] => wordR_s p d
  | _ => none
noncomputable def wordR_e (p : Int) (d : Int) := evF s23 ua_27 20 183 [.int .i64 p, .int .i64 d]
theorem wordR_eq (p : Int) (d : Int) : wordR_e p d = (let Z0 : D RC := D.int .i64 0; let Z1 : DO_ := some (D.tup (D.acons Z0 (D.acons (D.int .i64 2) .anil))); let Z2 : DO_ := some (D.tup (D.acons (D.int .i64 (IntKind.wrap .i64 (IntKind.wrap .i64 (p * (1048576 : Int)) + d))) (.acons Z0 .anil))); let Z3 : DO_ := bif d == (0 : Int) then bif p != (0 : Int) then Z1 else Z2 else Z2; bif decide (p < (0 : Int)) then Z1 else bif decide ((1048575 : Int) < p) then Z1 else bif d != (0 : Int) then bif decide ((256 : Int) ≤ d) then bif !decide (d ≤ (262143 : Int)) then Z1 else Z3 else Z1 else Z3) := by kernel_rfl
theorem wordR_ok (p : Int) (d : Int) (h : (true) = true) : wordR_e p d = some (.tup (.acons (.int .i64 (wordN p d)) (.acons (.int .i64 (wordE p d)) .anil))) := by
  (rw [wordR_eq]; conv => zeta)
  have ww : 0 ≤ p → p ≤ 1048575 → IntKind.i64.wrap (p * 1048576) = p * 1048576 := fun h1 h2 => wrap_id (by omega) (by omega)
  repeat' (refine cond2 (fun hc => ?_) fun hc => ?_)
  all_goals
    simp only [decide_eq_true_eq, decide_eq_false_iff_not, beq_iff_eq, bne_iff_ne, ne_eq, Bool.not_eq_true', Bool.not_eq_false', bne_eq_false_iff_eq, beq_eq_false_iff_ne] at *
    first
    | exact congrArg some (word_none (by unfold OkWord; omega))
    | (rw [ww (by omega) (by omega), wrap_id (by omega) (by omega)]; exact congrArg some (word_leaf (by unfold OkWord; omega)))
noncomputable def ua_28 := ua_27.addSpec 183 wordR_sp
theorem ua_28_laws : FLaws Tryz.prog s23 ua_28 := ua_27_laws.addEv s23_laws fun args d h => by
  unfold wordR_sp at h
  split at h
  · unfold wordR_s at h
    have h1 := congrArg Prod.fst (Option.some.inj h)
    obtain rfl : _ = d := congrArg Prod.snd (Option.some.inj h)
    exact ⟨by simp [D.refs], 20, wordR_ok _ _ h1⟩
  · cases h
open Go.Proofs
def mayA_s (k : Int) (a : Int) (b : Int) (v : Int) (g : Int) (tx : List UInt8) (c : Bool) (ar : List Int) : Option (Bool × D RC) := staticD (k == 0 || k == 1 || k == 2 || k == 3 || k == 4 || k == 5 || k == 6 || k == 7) (lenOK tx.length && lenOK ar.length, .bool (mayA8 k a b v g tx ar))
def mayA_sp : List (D RC) → Option (Bool × D RC)
  | [.acons (.int .i8 k) (.acons (.int .i64 a) (.acons (.int .i64 b) (.acons (.int .i64 v) (.acons (.int .i64 g) (.acons (.str tx) (.acons (.sl .int c ar) .anil))))))] => mayA_s k a b v g tx c ar
  | _ => none
noncomputable def mayA_e (k : Int) (a : Int) (b : Int) (v : Int) (g : Int) (tx : List UInt8) (c : Bool) (ar : List Int) := evF s23 ua_28 100 79 [.acons (.int .i8 k) (.acons (.int .i64 a) (.acons (.int .i64 b) (.acons (.int .i64 v) (.acons (.int .i64 g) (.acons (.str tx) (.acons (.sl (C := RC) .int c ar) .anil))))))]
theorem mayA_eq0 (a b v g : Int) (tx : List UInt8) (c : Bool) (ar : List Int) : mayA_e 0 a b v g tx c ar = (let Z0 : Int := (-1 : Int); let Z1 : DO_ := some (D.bool false); let Z2 : Bool := lenOK ar.length; let Z3 : Int := (↑ar.length : Int); let Z4 : DO_ := bif tx == Array.toList #[] then bif Z2 then bif Z3 == (0 : Int) then some (D.bool true) else Z1 else none else Z1; let Z5 : DO_ := bif b == (0 : Int) then bif v == (0 : Int) then bif g == (0 : Int) then Z4 else Z4 else Z1 else Z1; bif decide (b < Z0) then Z1 else bif decide ((1152921504606846976 : Int) < b) then Z1 else bif decide (v < Z0) then Z1 else bif decide ((1152921504606846976 : Int) < v) then Z1 else bif decide (g < Z0) then Z1 else bif decide ((1152921504606846976 : Int) < g) then Z1 else bif Z2 then bif decide ((96 : Int) < Z3) then Z1 else bif lenOK tx.length then bif decide ((640 : Int) < (↑tx.length : Int)) then Z1 else bif decide (a < (0 : Int)) then Z1 else bif decide ((4095 : Int) < a) then Z1 else bif a == (0 : Int) then Z5 else Z5 else none else none) := by kernel_rfl
theorem mayA_eq1 (a b v g : Int) (tx : List UInt8) (c : Bool) (ar : List Int) : mayA_e 1 a b v g tx c ar = (let Z0 : Int := (-1 : Int); let Z1 : DO_ := some (D.bool false); let Z2 : Bool := lenOK ar.length; let Z3 : Int := (↑ar.length : Int); let Z4 : DO_ := bif tx == Array.toList #[] then bif Z2 then bif Z3 == (0 : Int) then some (D.bool true) else Z1 else none else Z1; let Z5 : DO_ := bif g == (0 : Int) then Z4 else Z4; let Z6 : DO_ := bif b == (0 : Int) then bif v == (0 : Int) then Z5 else Z5 else Z1; bif decide (b < Z0) then Z1 else bif decide ((1152921504606846976 : Int) < b) then Z1 else bif decide (v < Z0) then Z1 else bif decide ((1152921504606846976 : Int) < v) then Z1 else bif decide (g < Z0) then Z1 else bif decide ((1152921504606846976 : Int) < g) then Z1 else bif Z2 then bif decide ((96 : Int) < Z3) then Z1 else bif lenOK tx.length then bif decide ((640 : Int) < (↑tx.length : Int)) then Z1 else bif decide (a < (0 : Int)) then Z1 else bif decide ((4095 : Int) < a) then Z1 else bif a == (0 : Int) then Z6 else Z6 else none else none) := by kernel_rfl
theorem mayA_eq2 (a b v g : Int) (tx : List UInt8) (c : Bool) (ar : List Int) : mayA_e 2 a b v g tx c ar = (let Z0 : Int := (-1 : Int); let Z1 : DO_ := some (D.bool false); let Z2 : Bool := lenOK ar.length; let Z3 : Int := (↑ar.length : Int); let Z4 : DO_ := bif tx == Array.toList #[] then bif Z2 then bif Z3 == (0 : Int) then some (D.bool true) else Z1 else none else Z1; let Z5 : DO_ := bif g == (0 : Int) then Z4 else Z4; let Z6 : DO_ := bif v == (0 : Int) then Z5 else Z5; let Z7 : DO_ := bif b == (0 : Int) then Z6 else Z6; bif decide (b < Z0) then Z1 else bif decide ((1152921504606846976 : Int) < b) then Z1 else bif decide (v < Z0) then Z1 else bif decide ((1152921504606846976 : Int) < v) then Z1 else bif decide (g < Z0) then Z1 else bif decide ((1152921504606846976 : Int) < g) then Z1 else bif Z2 then bif decide ((96 : Int) < Z3) then Z1 else bif lenOK tx.length then bif decide ((640 : Int) < (↑tx.length : Int)) then Z1 else bif decide (a < (0 : Int)) then Z1 else bif decide ((4095 : Int) < a) then Z1 else bif a == (0 : Int) then Z7 else Z7 else none else none) := by kernel_rfl
theorem mayA_eq3 (a b v g : Int) (tx : List UInt8) (c : Bool) (ar : List Int) : mayA_e 3 a b v g tx c ar = (let Z0 : Int := (-1 : Int); let Z1 : DO_ := some (D.bool false); let Z2 : Bool := lenOK ar.length; let Z3 : Int := (↑ar.length : Int); let Z4 : DO_ := bif g == (0 : Int) then bif tx == Array.toList #[] then bif Z2 then bif Z3 == (0 : Int) then some (D.bool true) else Z1 else none else Z1 else Z1; let Z5 : DO_ := bif b == (0 : Int) then bif v == (0 : Int) then Z4 else Z4 else Z1; bif decide (b < Z0) then Z1 else bif decide ((1152921504606846976 : Int) < b) then Z1 else bif decide (v < Z0) then Z1 else bif decide ((1152921504606846976 : Int) < v) then Z1 else bif decide (g < Z0) then Z1 else bif decide ((1152921504606846976 : Int) < g) then Z1 else bif Z2 then bif decide ((96 : Int) < Z3) then Z1 else bif lenOK tx.length then bif decide ((640 : Int) < (↑tx.length : Int)) then Z1 else bif decide (a < (0 : Int)) then Z1 else bif decide ((4095 : Int) < a) then Z1 else bif a == (0 : Int) then Z5 else Z5 else none else none) := by kernel_rfl
theorem mayA_eq4 (a b v g : Int) (tx : List UInt8) (c : Bool) (ar : List Int) : mayA_e 4 a b v g tx c ar = (let Z0 : Int := (-1 : Int); let Z1 : DO_ := some (D.bool false); let Z2 : Bool := lenOK ar.length; let Z3 : Int := (↑ar.length : Int); let Z4 : DO_ := bif Z2 then bif Z3 == (0 : Int) then some (D.bool true) else Z1 else none; let Z5 : DO_ := bif v == (0 : Int) then bif g == (0 : Int) then bif tx == Array.toList #[] then Z4 else Z4 else Z1 else Z1; let Z6 : DO_ := bif b == (0 : Int) then Z5 else Z5; bif decide (b < Z0) then Z1 else bif decide ((1152921504606846976 : Int) < b) then Z1 else bif decide (v < Z0) then Z1 else bif decide ((1152921504606846976 : Int) < v) then Z1 else bif decide (g < Z0) then Z1 else bif decide ((1152921504606846976 : Int) < g) then Z1 else bif Z2 then bif decide ((96 : Int) < Z3) then Z1 else bif lenOK tx.length then bif decide ((640 : Int) < (↑tx.length : Int)) then Z1 else bif decide (a < (0 : Int)) then Z1 else bif decide ((4095 : Int) < a) then Z1 else bif a == (0 : Int) then Z6 else Z6 else none else none) := by kernel_rfl
theorem mayA_eq5 (a b v g : Int) (tx : List UInt8) (c : Bool) (ar : List Int) : mayA_e 5 a b v g tx c ar = (let Z0 : Int := (-1 : Int); let Z1 : DO_ := some (D.bool false); let Z2 : Bool := lenOK ar.length; let Z3 : Int := (↑ar.length : Int); bif decide (b < Z0) then Z1 else bif decide ((1152921504606846976 : Int) < b) then Z1 else bif decide (v < Z0) then Z1 else bif decide ((1152921504606846976 : Int) < v) then Z1 else bif decide (g < Z0) then Z1 else bif decide ((1152921504606846976 : Int) < g) then Z1 else bif Z2 then bif decide ((96 : Int) < Z3) then Z1 else bif lenOK tx.length then bif decide ((640 : Int) < (↑tx.length : Int)) then Z1 else bif decide (a < (0 : Int)) then Z1 else bif decide ((4095 : Int) < a) then Z1 else bif a == (0 : Int) then bif b == (0 : Int) then bif v == (0 : Int) then bif g == (0 : Int) then bif tx == Array.toList #[] then bif Z2 then bif Z3 == (0 : Int) then some (D.bool true) else Z1 else none else Z1 else Z1 else Z1 else Z1 else Z1 else none else none) := by kernel_rfl
theorem mayA_eq6 (a b v g : Int) (tx : List UInt8) (c : Bool) (ar : List Int) : mayA_e 6 a b v g tx c ar = (let Z0 : Int := (-1 : Int); let Z1 : DO_ := some (D.bool false); let Z2 : Bool := lenOK ar.length; let Z3 : Int := (↑ar.length : Int); let Z4 : DO_ := bif b == (0 : Int) then bif v == (0 : Int) then bif g == (0 : Int) then bif tx == Array.toList #[] then bif Z2 then bif Z3 == (0 : Int) then some (D.bool true) else some (D.bool true) else none else Z1 else Z1 else Z1 else Z1; bif decide (b < Z0) then Z1 else bif decide ((1152921504606846976 : Int) < b) then Z1 else bif decide (v < Z0) then Z1 else bif decide ((1152921504606846976 : Int) < v) then Z1 else bif decide (g < Z0) then Z1 else bif decide ((1152921504606846976 : Int) < g) then Z1 else bif Z2 then bif decide ((96 : Int) < Z3) then Z1 else bif lenOK tx.length then bif decide ((640 : Int) < (↑tx.length : Int)) then Z1 else bif decide (a < (0 : Int)) then Z1 else bif decide ((4095 : Int) < a) then Z1 else bif decide ((127 : Int) < a) then Z1 else bif a == (0 : Int) then Z4 else Z4 else none else none) := by kernel_rfl
theorem mayA_eq7 (a b v g : Int) (tx : List UInt8) (c : Bool) (ar : List Int) : mayA_e 7 a b v g tx c ar = (let Z0 : Int := (-1 : Int); let Z1 : DO_ := some (D.bool false); let Z2 : Bool := lenOK ar.length; let Z3 : Int := (↑ar.length : Int); bif decide (b < Z0) then Z1 else bif decide ((1152921504606846976 : Int) < b) then Z1 else bif decide (v < Z0) then Z1 else bif decide ((1152921504606846976 : Int) < v) then Z1 else bif decide (g < Z0) then Z1 else bif decide ((1152921504606846976 : Int) < g) then Z1 else bif Z2 then bif decide ((96 : Int) < Z3) then Z1 else bif lenOK tx.length then bif decide ((640 : Int) < (↑tx.length : Int)) then Z1 else bif decide (a < (0 : Int)) then Z1 else bif decide ((4095 : Int) < a) then Z1 else bif a == (0 : Int) then bif b == (0 : Int) then bif v == (0 : Int) then bif g == (0 : Int) then bif tx == Array.toList #[] then bif Z2 then bif Z3 == (0 : Int) then some (D.bool true) else some (D.bool true) else none else Z1 else Z1 else Z1 else Z1 else Z1 else none else none) := by kernel_rfl
theorem mayA_k0 (a b v g : Int) (tx : List UInt8) (c : Bool) (ar : List Int) (h1 : lenOK tx.length = true) (h2 : lenOK ar.length = true) : mayA_e 0 a b v g tx c ar = some (.bool (mayA8 0 a b v g tx ar)) := by
  (rw [mayA_eq0]; conv => zeta)
  simp only [h1, h2, cond_true]
  clear h1 h2
  repeat' (first | refine cdD (fun hc => ?_) fun hc => ?_ | refine cdE (fun hc => ?_) fun hc => ?_ | refine cdS (fun hc => ?_) fun hc => ?_)
  all_goals first | exact mayT8 (MayA.k0.2 (by omega)) | exact mayF8 (fun q => by have q := MayA.k0.1 q; omega)
theorem mayA_k1 (a b v g : Int) (tx : List UInt8) (c : Bool) (ar : List Int) (h1 : lenOK tx.length = true) (h2 : lenOK ar.length = true) : mayA_e 1 a b v g tx c ar = some (.bool (mayA8 1 a b v g tx ar)) := by
  (rw [mayA_eq1]; conv => zeta)
  simp only [h1, h2, cond_true]
  clear h1 h2
  repeat' (first | refine cdD (fun hc => ?_) fun hc => ?_ | refine cdE (fun hc => ?_) fun hc => ?_ | refine cdS (fun hc => ?_) fun hc => ?_)
  all_goals first | exact mayT8 (MayA.k1.2 (by omega)) | exact mayF8 (fun q => by have q := MayA.k1.1 q; omega)
theorem mayA_k2 (a b v g : Int) (tx : List UInt8) (c : Bool) (ar : List Int) (h1 : lenOK tx.length = true) (h2 : lenOK ar.length = true) : mayA_e 2 a b v g tx c ar = some (.bool (mayA8 2 a b v g tx ar)) := by
  (rw [mayA_eq2]; conv => zeta)
  simp only [h1, h2, cond_true]
  clear h1 h2
  repeat' (first | refine cdD (fun hc => ?_) fun hc => ?_ | refine cdE (fun hc => ?_) fun hc => ?_ | refine cdS (fun hc => ?_) fun hc => ?_)
  all_goals first | exact mayT8 (MayA.k2.2 (by omega)) | exact mayF8 (fun q => by have q := MayA.k2.1 q; omega)
theorem mayA_k3 (a b v g : Int) (tx : List UInt8) (c : Bool) (ar : List Int) (h1 : lenOK tx.length = true) (h2 : lenOK ar.length = true) : mayA_e 3 a b v g tx c ar = some (.bool (mayA8 3 a b v g tx ar)) := by
  (rw [mayA_eq3]; conv => zeta)
  simp only [h1, h2, cond_true]
  clear h1 h2
  repeat' (first | refine cdD (fun hc => ?_) fun hc => ?_ | refine cdE (fun hc => ?_) fun hc => ?_ | refine cdS (fun hc => ?_) fun hc => ?_)
  all_goals first | exact mayT8 (MayA.k3.2 (by omega)) | exact mayF8 (fun q => by have q := MayA.k3.1 q; omega)
theorem mayA_k4 (a b v g : Int) (tx : List UInt8) (c : Bool) (ar : List Int) (h1 : lenOK tx.length = true) (h2 : lenOK ar.length = true) : mayA_e 4 a b v g tx c ar = some (.bool (mayA8 4 a b v g tx ar)) := by
  (rw [mayA_eq4]; conv => zeta)
  simp only [h1, h2, cond_true]
  clear h1 h2
  repeat' (first | refine cdD (fun hc => ?_) fun hc => ?_ | refine cdE (fun hc => ?_) fun hc => ?_ | refine cdS (fun hc => ?_) fun hc => ?_)
  all_goals first | exact mayT8 (MayA.k4.2 (by omega)) | exact mayF8 (fun q => by have q := MayA.k4.1 q; omega)
theorem mayA_k5 (a b v g : Int) (tx : List UInt8) (c : Bool) (ar : List Int) (h1 : lenOK tx.length = true) (h2 : lenOK ar.length = true) : mayA_e 5 a b v g tx c ar = some (.bool (mayA8 5 a b v g tx ar)) := by
  (rw [mayA_eq5]; conv => zeta)
  simp only [h1, h2, cond_true]
  clear h1 h2
  repeat' (first | refine cdD (fun hc => ?_) fun hc => ?_ | refine cdE (fun hc => ?_) fun hc => ?_ | refine cdS (fun hc => ?_) fun hc => ?_)
  all_goals first | exact mayT8 (MayA.k5.2 (by omega)) | exact mayF8 (fun q => by have q := MayA.k5.1 q; omega)
theorem mayA_k6 (a b v g : Int) (tx : List UInt8) (c : Bool) (ar : List Int) (h1 : lenOK tx.length = true) (h2 : lenOK ar.length = true) : mayA_e 6 a b v g tx c ar = some (.bool (mayA8 6 a b v g tx ar)) := by
  (rw [mayA_eq6]; conv => zeta)
  simp only [h1, h2, cond_true]
  clear h1 h2
  repeat' (first | refine cdD (fun hc => ?_) fun hc => ?_ | refine cdE (fun hc => ?_) fun hc => ?_ | refine cdS (fun hc => ?_) fun hc => ?_)
  all_goals first | exact mayT8 (MayA.k6.2 (by omega)) | exact mayF8 (fun q => by have q := MayA.k6.1 q; omega)
theorem mayA_k7 (a b v g : Int) (tx : List UInt8) (c : Bool) (ar : List Int) (h1 : lenOK tx.length = true) (h2 : lenOK ar.length = true) : mayA_e 7 a b v g tx c ar = some (.bool (mayA8 7 a b v g tx ar)) := by
  (rw [mayA_eq7]; conv => zeta)
  simp only [h1, h2, cond_true]
  clear h1 h2
  repeat' (first | refine cdD (fun hc => ?_) fun hc => ?_ | refine cdE (fun hc => ?_) fun hc => ?_ | refine cdS (fun hc => ?_) fun hc => ?_)
  all_goals first | exact mayT8 (MayA.k7.2 (by omega)) | exact mayF8 (fun q => by have q := MayA.k7.1 q; omega)
theorem mayA_ok (k : Int) (a : Int) (b : Int) (v : Int) (g : Int) (tx : List UInt8) (c : Bool) (ar : List Int) (hs : (k == 0 || k == 1 || k == 2 || k == 3 || k == 4 || k == 5 || k == 6 || k == 7) = true) (h : (lenOK tx.length && lenOK ar.length) = true) : mayA_e k a b v g tx c ar = some (.bool (mayA8 k a b v g tx ar)) := by
  simp only [Bool.or_eq_true, beq_iff_eq] at hs
  rw [Bool.and_eq_true] at h
  obtain ⟨h1, h2⟩ := h
  rcases hs with ((((((rfl | rfl) | rfl) | rfl) | rfl) | rfl) | rfl) | rfl
  · exact mayA_k0 a b v g tx c ar h1 h2
  · exact mayA_k1 a b v g tx c ar h1 h2
  · exact mayA_k2 a b v g tx c ar h1 h2
  · exact mayA_k3 a b v g tx c ar h1 h2
  · exact mayA_k4 a b v g tx c ar h1 h2
  · exact mayA_k5 a b v g tx c ar h1 h2
  · exact mayA_k6 a b v g tx c ar h1 h2
  · exact mayA_k7 a b v g tx c ar h1 h2
noncomputable def ub_1 := ua_28.addSpec 79 mayA_sp
theorem ub_1_laws : FLaws Tryz.prog s23 ub_1 := ua_28_laws.addEv s23_laws fun args d h => by
  unfold mayA_sp at h
  split at h
  · unfold mayA_s at h
    obtain ⟨hs, h⟩ := staticD_some h
    obtain ⟨h1, h2⟩ := Prod.mk.inj h
    obtain rfl : _ = d := h2
    exact ⟨by simp [D.refs], 100, mayA_ok _ _ _ _ _ _ _ _ hs h1⟩
  · cases h
def flo : Int → List Int → Int
  | n, [] => n
  | n, s :: l => flo (if 0 < s ∧ s - 1 < n then s - 1 else n) l
def oBeg (k : Int) (r got : List Int) (x : Int) : GoR4 :=
  if k = 0 then g4 92 1 r got 0 0 0 0 0
  else if k = 1 then g4 92 2 (r.set 1 x) got 1 (lRow 9 (r.getD 0 0) 4) 0 (x + 1) 0
  else if k = 2 then g4 92 3 r got 0 3 0 0 0
  else if r.getD 1 0 < x then g4 92 1 r got 0 0 0 0 0 else gEnd4 [r.getD 1 0]
def oMarkA (k : Int) (r got : List Int) (x : Int) : GoR4 :=
  if k = 0 then g4 93 1 r got 0 0 0 0 0
  else if k = 1 then g4 93 2 (r.set 0 x) got 0 3 0 0 0
  else if k = 2 then (if x < r.getD 0 0 then g4 93 3 r got 2 3 x (r.getD 0 0) 0 else g4 93 4 (r.set 1 0) got 0 9 0 0 0)
  else if k = 3 then (if x = 0 then g4 93 2 r got 0 3 0 0 0 else g4 93 4 (r.set 1 0) got 0 9 0 0 0)
  else if r.getD 1 0 = 3 then gEnd4 [flo (r.getD 0 0) [r.getD 2 0, r.getD 3 0, r.getD 4 0, x]]
  else g4 93 4 ((r.set (2 + (r.getD 1 0).toNat) x).set 1 (r.getD 1 0 + 1)) got 0 (10 + r.getD 1 0) 0 0 0
def oMarkB (k : Int) (r got : List Int) (x : Int) : GoR4 :=
  if k = 0 then g4 93 1 r got 0 0 0 0 0
  else if k = 1 then g4 93 2 (r.set 0 x) got 0 3 0 0 0
  else if k = 2 then (if x < r.getD 0 0 then g4 93 3 (r.set 1 x) got 2 3 x (r.getD 0 0) 0 else g4 93 4 (r.set 2 0) got 0 9 0 0 0)
  else if k = 3 then (if x = 0 then g4 93 2 r got 0 3 0 0 0 else g4 93 4 (r.set 2 0) got 0 9 0 0 0)
  else if r.getD 2 0 = 3 then gEnd4 [flo (r.getD 0 0) [r.getD 3 0, r.getD 4 0, r.getD 5 0, x]]
  else g4 93 4 ((r.set (3 + (r.getD 2 0).toNat) x).set 2 (r.getD 2 0 + 1)) got 0 (10 + r.getD 2 0) 0 0 0
def goO (own : Bool) (st : List Frame) (got : List Int) : GoR4 := match st with
  | [f] => if f.prog = 92 then oBeg f.at' f.r got (got.headD 0) else bif own then oMarkB f.at' f.r got (got.headD 0) else oMarkA f.at' f.r got (got.headD 0)
  | _ => gEnd4 []
def okBeg (k : Int) (r got : List Int) : Prop :=
  k = 0 ∧ got = [] ∨ ∃ x, got = [x] ∧ 1 ≤ k ∧ k ≤ 3 ∧ 0 ≤ x ∧ x ≤ 1000000000 ∧ 0 ≤ r.getD 0 0 ∧ r.getD 0 0 ≤ 3
def okMark (own : Bool) (k : Int) (r got : List Int) : Prop :=
  k = 0 ∧ got = [] ∨ ∃ x, got = [x] ∧ 1 ≤ k ∧ k ≤ 4 ∧ 0 ≤ x ∧ x ≤ 1000000000 ∧ (2 ≤ k → 0 ≤ r.getD 0 0 ∧ r.getD 0 0 ≤ 1000000000) ∧
    (k = 4 → bif own then 0 ≤ r.getD 2 0 ∧ r.getD 2 0 ≤ 3 ∧ (r.getD 2 0 = 3 → r.getD 3 0 ≤ 1000000000 ∧ r.getD 4 0 ≤ 1000000000 ∧ r.getD 5 0 ≤ 1000000000)
      else 0 ≤ r.getD 1 0 ∧ r.getD 1 0 ≤ 3 ∧ (r.getD 1 0 = 3 → r.getD 2 0 ≤ 1000000000 ∧ r.getD 3 0 ≤ 1000000000 ∧ r.getD 4 0 ≤ 1000000000))
def okO (own : Bool) (c : Int) (st : List Frame) (got : List Int) : Prop :=
  0 ≤ c ∧ c ≤ 3 ∧ ∃ p k r, st = [⟨p, k, r⟩] ∧ r.length = 96 ∧ (p = 92 ∧ okBeg k r got ∨ p = 93 ∧ okMark own k r got)
theorem goO_len {own : Bool} {c : Int} {st : List Frame} {got : List Int} (h : okO own c st got) : 0 ≤ c ∧ c ≤ 3 ∧ got.length ≤ 1 := by
  obtain ⟨h1, h2, p, k, r, rfl, h3, h4⟩ := h
  refine ⟨h1, h2, ?_⟩
  rcases h4 with ⟨_, h | ⟨x, h, _⟩⟩ | ⟨_, h | ⟨x, h, _⟩⟩
  · rw [h.2]; simp
  · rw [h]; simp
  · rw [h.2]; simp
  · rw [h]; simp
theorem goO_cases (own : Bool) (p k : Int) (r got : List Int) : (∃ q n r' kd a b v g, goO own [⟨p, k, r⟩] got = g4 q n r' got kd a b v g) ∨ ∃ x, goO own [⟨p, k, r⟩] got = gEnd4 [x] := by
  unfold goO
  simp only
  cases own <;> simp only [cond_true, cond_false, oBeg, oMarkA, oMarkB] <;> repeat' split
  all_goals first | exact .inl ⟨_, _, _, _, _, _, _, _, rfl⟩ | exact .inr ⟨_, rfl⟩
theorem goO_is {own : Bool} {c : Int} {st : List Frame} {got : List Int} (h : okO own c st got) (hi : (goO own st got).is = true) : (goO own st got).over = false ∧ (goO own st got).st.length = 1 ∧ (goO own st got).got = got := by
  obtain ⟨h1, h2, p, k, r, rfl, h3, h4⟩ := h
  rcases goO_cases own p k r got with ⟨q, n, r', kd, a, b, v, g, e⟩ | ⟨x, e⟩
  · rw [e]; exact ⟨rfl, rfl, rfl⟩
  · rw [e] at hi; cases hi
theorem goO_end {own : Bool} {c : Int} {st : List Frame} {got : List Int} (h : okO own c st got) (hi : (goO own st got).is = false) : (goO own st got).st = [] ∧ (goO own st got).got.length = 1 ∧ (goO own st got).over = true := by
  obtain ⟨h1, h2, p, k, r, rfl, h3, h4⟩ := h
  rcases goO_cases own p k r got with ⟨q, n, r', kd, a, b, v, g, e⟩ | ⟨x, e⟩
  · rw [e] at hi; cases hi
  · rw [e]; exact ⟨rfl, rfl, rfl⟩
open Go.Proofs
def smallS (l : List Int) : Bool := l.all fun v => decide (v ≤ 4611686018427387904)
theorem smallS_at {l : List Int} (h : smallS l = true) {i : Nat} (hi : i < l.length) (d : Int) : l.getD i d ≤ 4611686018427387904 := by
  unfold smallS at h
  rw [List.all_eq_true] at h
  rw [getD_at hi]
  exact of_decide_eq_true (h _ (List.getElem_mem hi))
theorem flo_drop {l : List Int} {i : Nat} (hi : i < l.length) (n d : Int) : flo n (l.drop i) = flo (if 0 < l.getD i d ∧ l.getD i d - 1 < n then l.getD i d - 1 else n) (l.drop (i + 1)) := by
  rw [List.drop_eq_getElem_cons hi, flo, getD_at hi]
structure floRl_St where
  n : Int
  c : Bool
  l : List Int
  i : Nat
def floRl_c (n : Int) (c : Bool) (l : List Int) (i : Nat) : Env RC := [(0, .int .i64 n), (1, .sl (C := RC) .int c l), (5, .int .i64 (i : Int))]
def floRl_o (n : Int) (c : Bool) (l : List Int) (i : Nat) : List (Obj RC) := []
noncomputable def floRl_r (n : Int) (c : Bool) (l : List Int) (i : Nat) := rndO s23 ub_1 14 2 40 0 [0, 1, 5] [0] [] (floRl_c n c l i) (floRl_o n c l i)
theorem floRl_eq (n : Int) (c : Bool) (l : List Int) (i : Nat) : floRl_r n c l i = (let Z0 : Int := (↑i : Int); let Z1 : Bool := decide ((0 : Int) ≤ Z0 ∧ Z0 < (↑l.length : Int)); let Z2 : Int := List.getD l Z0.toNat (0 : Int); let Z3 : Int := IntKind.wrap .i64 (Z2 - (1 : Int)); let Z4 : List (Nat × D RC) := [(1, D.sl RTy.int c l), (5, D.int .i64 (IntKind.wrap .i64 (Z0 + (1 : Int))))]; let Z5 : Nat × D RC := (0, D.int .i64 n); bif lenOK l.length then bif decide (Z0 < (↑l.length : Int)) then bif Z1 then bif decide ((0 : Int) < Z2) then bif Z1 then bif decide (Z3 < n) then bif Z1 then some ((X.normal, (0, D.int .i64 Z3) :: Z4), []) else none else some ((X.normal, Z5 :: Z4), []) else none else some ((X.normal, Z5 :: Z4), []) else none else some ((X.exit (0 : Nat), [Z5]), []) else none) := by kernel_rfl
def floRl_fin (n : Int) (c : Bool) (l : List Int) (i : Nat) : RT RC := .leaf (.exit 0) [(0, .int .i64 (flo n (l.drop i)))] []
def floRl_Inv (n : Int) (c : Bool) (l : List Int) (i : Nat) : Prop := i ≤ l.length ∧ l.length ≤ 9223372036854775807 ∧ smallS l = true
def floRl_S : LoopR RC floRl_St where
  k := 0
  canon q := floRl_c q.n q.c q.l q.i
  objs q := floRl_o q.n q.c q.l q.i
  fin q := floRl_fin q.n q.c q.l q.i
  Inv q := floRl_Inv q.n q.c q.l q.i
  μ q := q.l.length - q.i
theorem floRl_round (n : Int) (c : Bool) (l : List Int) (i : Nat) (hI : floRl_Inv n c l i) : Leaf (floRl_r n c l i) (LedR floRl_S ⟨n, c, l, i⟩) := by
  (rw [floRl_eq]; conv => zeta)
  unfold floRl_Inv at hI
  obtain ⟨h1, h2, h3⟩ := hI
  have hlk := lenOK_of h2
  rw [hlk]
  simp only [cond_true]
  by_cases hlt : i < l.length
  · have hs := smallS_at h3 hlt 0
    have hst := flo_drop hlt n 0
    have w_succ : IntKind.i64.wrap ((i : Int) + 1) = ((i + 1 : Nat) : Int) := by rw [wrap_id (by omega) (by omega)]; simp
    have d_lt : decide ((i : Int) < l.length) = true := by simp; omega
    have d_in : decide (0 ≤ (i : Int) ∧ (i : Int) < l.length) = true := by simp; omega
    have t_nat : ((i : Int)).toNat = i := by simp
    simp only [w_succ, d_lt, d_in, t_nat, cond_true]
    generalize l.getD i (0 : Int) = x at hs hst ⊢
    have hgo : ∀ y : Int, (if 0 < x ∧ x - 1 < n then x - 1 else n) = y → Leaf (some ((X.normal, floRl_c y c l (i + 1)), (floRl_o y c l (i + 1)).map some)) (LedR floRl_S ⟨n, c, l, i⟩) := fun y hy =>
      leafR_go ⟨y, c, l, i + 1⟩ ⟨hlt, h2, h3⟩ (by simp only [floRl_S]; omega) (by simp only [floRl_S, floRl_fin]; rw [hst, hy]) rfl rfl
    refine leaf_cond.2 ⟨fun q => ?_, fun q => ?_⟩
    · have q := of_decide_eq_true q
      have v1 : IntKind.i64.wrap (x - 1) = x - 1 := wrap_id (by omega) (by omega)
      rw [v1]
      refine leaf_cond.2 ⟨fun q2 => ?_, fun q2 => ?_⟩
      · have q2 := of_decide_eq_true q2
        exact hgo (x - 1) (if_pos ⟨q, q2⟩)
      · have q2 := of_decide_eq_false q2
        exact hgo n (if_neg (by omega))
    · have q := of_decide_eq_false q
      exact hgo n (if_neg (by omega))
  · have hi : i = l.length := by omega
    have c1 : decide ((i : Int) < l.length) = false := by simp; omega
    simp only [c1, cond_false]
    exact leafR_exit [] (by simp [floRl_S, floRl_fin, hi, flo, RT.val]) rfl
def floRl_d (env : Env RC) (os : List (Obj RC)) : Option (Bool × floRl_St) := match env, os with
  | [(0, .int .i64 n), (1, .sl .int c l), (5, .int .i64 x0)], [] => staticD (true) (decide (x0 = 0) && decide (l.length ≤ 9223372036854775807) && smallS l, ⟨n, c, l, 0⟩)
  | _, _ => none
noncomputable def uc_1 := ub_1.addLoop 14 2 (sumR s23 [] [0, 1, 5] floRl_S floRl_d)
theorem uc_1_laws : FLaws Tryz.prog s23 uc_1 := by
  refine ub_1_laws.addRoundsR s23_laws (by kernel_rfl) floRl_S 40 [0, 1, 5] [0] [] [0, 1, 5] floRl_d (fun q hI => ?_) ?_
  · obtain ⟨n, c, l, i⟩ := q
    refine ⟨?_, ?_, floRl_round n c l i hI⟩
    · simp_all [RefsOK, floRl_S, floRl_c, floRl_o, floRl_Inv, D.refs, Obj.refs, rEnc]
    · simp_all [floRl_S, floRl_fin, floRl_o, floRl_Inv, RT.refsOK, RefsOK, D.refs, Obj.refs, rEnc]
  · intro env os b q hd_ hb
    unfold floRl_d at hd_
    split at hd_
    · obtain ⟨hs, hd_⟩ := staticD_some hd_
      cases hd_
      simp only [Bool.and_eq_true, decide_eq_true_eq] at hb
      obtain ⟨⟨rfl, h2⟩, h3⟩ := hb
      exact ⟨⟨Nat.zero_le _, h2, h3⟩, rfl, rfl⟩
    · cases hd_
def floR_s (n : Int) (c : Bool) (l : List Int) : Option (Bool × D RC) := some (lenOK l.length && smallS l, .int .i64 (flo n l))
def floR_sp : List (D RC) → Option (Bool × D RC)
  | [.int .i64 n, .sl .int c l] => floR_s n c l
  | _ => none
noncomputable def floR_e (n : Int) (c : Bool) (l : List Int) := evF s23 uc_1 40 14 [.int .i64 n, .sl (C := RC) .int c l]
theorem floR_eq (n : Int) (c : Bool) (l : List Int) : floR_e n c l = (bif decide (List.length l ≤ (9223372036854775807 : Nat)) && smallS l then some (D.int .i64 (flo n (List.drop (0 : Nat) l))) else none) := by kernel_rfl
theorem floR_ok (n : Int) (c : Bool) (l : List Int) (h : (lenOK l.length && smallS l) = true) : floR_e n c l = some (.int .i64 (flo n l)) := by
  rw [floR_eq]
  rw [Bool.and_eq_true] at h
  obtain ⟨h1, h2⟩ := h
  simp only [h1, h2, decide_eq_true (lenOK_le h1), Bool.and_self, Bool.true_and, cond_true, List.drop_zero]
noncomputable def uc_2 := uc_1.addSpec 14 floR_sp
theorem uc_2_laws : FLaws Tryz.prog s23 uc_2 := uc_1_laws.addEv s23_laws fun args d h => by
  unfold floR_sp at h
  split at h
  · unfold floR_s at h
    have h1 := congrArg Prod.fst (Option.some.inj h)
    obtain rfl : _ = d := congrArg Prod.snd (Option.some.inj h)
    exact ⟨by simp [D.refs], 40, floR_ok _ _ _ h1⟩
  · cases h
def OkLook (r : List Int) : Prop := r.length = 96 ∧ 0 ≤ r.getD 1 0 ∧ r.getD 1 0 ≤ 4 ∧ (r.getD 1 0 = 4 → r.getD 2 0 ≤ 4611686018427387904 ∧ r.getD 3 0 ≤ 4611686018427387904 ∧ r.getD 4 0 ≤ 4611686018427387904 ∧ r.getD 5 0 ≤ 4611686018427387904)
structure look23_St where
  pr : Int
  k : Int
  r : List Int
  gc : Bool
  got : List Int
  x : Int
def look23_a (pr : Int) (k : Int) (r : List Int) (gc : Bool) (got : List Int) (x : Int) : List (D RC) := [.ptr 0 []]
def look23_o (pr : Int) (k : Int) (r : List Int) (gc : Bool) (got : List Int) (x : Int) : List (Obj RC) := [.var 102 (.acons (.acons (.int .i8 pr) (.acons (.int .i64 k) (.acons (.arr (C := RC) .int 96 r) .anil))) (.acons (.sl (C := RC) .int gc got) (.acons (.int .i64 x) .anil)))]
noncomputable def look23_r (pr : Int) (k : Int) (r : List Int) (gc : Bool) (got : List Int) (x : Int) := fnO s23 uc_2 60 60 1 (look23_a pr k r gc got x) (look23_o pr k r gc got x)
theorem look23_eq (pr : Int) (k : Int) (r : List Int) (gc : Bool) (got : List Int) (x : Int) : look23_r pr k r gc got x = (let Z0 : Int := List.getD r (1 : Nat) (0 : Int); let Z1 : Int := List.getD r (2 : Nat) (0 : Int); let Z2 : Int := List.getD r (3 : Nat) (0 : Int); let Z3 : Bool := decide ((0 : Int) < Z2); let Z4 : Int := List.getD r (4 : Nat) (0 : Int); let Z5 : Bool := decide ((0 : Int) < Z4); let Z6 : Int := List.getD r (5 : Nat) (0 : Int); let Z7 : Bool := decide ((0 : Int) < Z6); let Z8 : D RC := .anil; let Z9 : D RC := D.acons (D.arr RTy.int (96 : Nat) r) Z8; let Z10 : D RC := D.acons (D.int IntKind.i8 pr) (.acons (D.int .i64 k) Z9); let Z11 : D RC := D.int IntKind.i8 (7 : Int); let Z12 : D RC := D.int .i64 0; let Z13 : D RC := D.str []; let Z14 : Int := IntKind.wrap .i64 (Z6 - (1 : Int)); let Z15 : Int := IntKind.wrap .i64 (Z4 - (1 : Int)); let Z16 : Int := IntKind.wrap .i64 (Z2 - (1 : Int)); let Z17 : Int := IntKind.wrap .i64 (Z1 - (1 : Int)); let Z18 : Int := List.getD r (0 : Nat) (0 : Int); let Z19 : Int := if Z17 < Z18 then Z17 else Z18; let Z20 : Int := if Z16 < Z19 then Z16 else Z19; let Z21 : Int := if Z15 < Z20 then Z15 else Z20; let Z22 : D RC := D.acons (D.sl RTy.int gc got) (.acons (D.int .i64 x) Z8); let Z23 : List (Option (Obj RC)) := [some (Obj.var 102 (.acons Z10 Z22))]; let Z24 : Int := if Z15 < Z19 then Z15 else Z19; let Z25 : Int := if Z16 < Z18 then Z16 else Z18; let Z26 : Int := if Z15 < Z25 then Z15 else Z25; let Z27 : Int := if Z15 < Z18 then Z15 else Z18; let Z28 : D RC := D.acons (D.int IntKind.i8 pr) (.acons (D.int .i64 4) Z9); bif Z0 == (4 : Int) then bif decide ((0 : Int) < Z1) then bif Z3 then bif Z5 then bif Z7 then some (D.tup (D.acons Z10 (D.acons (D.acons Z11 (D.acons Z12 (D.acons Z12 (D.acons Z12 (D.acons Z12 (D.acons Z13 (D.acons (D.sl RTy.int true [if Z14 < Z21 then Z14 else Z21]) Z8))))))) Z8)), Z23) else some (D.tup (D.acons Z10 (D.acons (D.acons Z11 (D.acons Z12 (D.acons Z12 (D.acons Z12 (D.acons Z12 (D.acons Z13 (D.acons (D.sl RTy.int true [Z21]) Z8))))))) Z8)), Z23) else bif Z7 then some (D.tup (D.acons Z10 (D.acons (D.acons Z11 (D.acons Z12 (D.acons Z12 (D.acons Z12 (D.acons Z12 (D.acons Z13 (D.acons (D.sl RTy.int true [if Z14 < Z20 then Z14 else Z20]) Z8))))))) Z8)), Z23) else some (D.tup (D.acons Z10 (D.acons (D.acons Z11 (D.acons Z12 (D.acons Z12 (D.acons Z12 (D.acons Z12 (D.acons Z13 (D.acons (D.sl RTy.int true [Z20]) Z8))))))) Z8)), Z23) else bif Z5 then bif Z7 then some (D.tup (D.acons Z10 (D.acons (D.acons Z11 (D.acons Z12 (D.acons Z12 (D.acons Z12 (D.acons Z12 (D.acons Z13 (D.acons (D.sl RTy.int true [if Z14 < Z24 then Z14 else Z24]) Z8))))))) Z8)), Z23) else some (D.tup (D.acons Z10 (D.acons (D.acons Z11 (D.acons Z12 (D.acons Z12 (D.acons Z12 (D.acons Z12 (D.acons Z13 (D.acons (D.sl RTy.int true [Z24]) Z8))))))) Z8)), Z23) else bif Z7 then some (D.tup (D.acons Z10 (D.acons (D.acons Z11 (D.acons Z12 (D.acons Z12 (D.acons Z12 (D.acons Z12 (D.acons Z13 (D.acons (D.sl RTy.int true [if Z14 < Z19 then Z14 else Z19]) Z8))))))) Z8)), Z23) else some (D.tup (D.acons Z10 (D.acons (D.acons Z11 (D.acons Z12 (D.acons Z12 (D.acons Z12 (D.acons Z12 (D.acons Z13 (D.acons (D.sl RTy.int true [Z19]) Z8))))))) Z8)), Z23) else bif Z3 then bif Z5 then bif Z7 then some (D.tup (D.acons Z10 (D.acons (D.acons Z11 (D.acons Z12 (D.acons Z12 (D.acons Z12 (D.acons Z12 (D.acons Z13 (D.acons (D.sl RTy.int true [if Z14 < Z26 then Z14 else Z26]) Z8))))))) Z8)), Z23) else some (D.tup (D.acons Z10 (D.acons (D.acons Z11 (D.acons Z12 (D.acons Z12 (D.acons Z12 (D.acons Z12 (D.acons Z13 (D.acons (D.sl RTy.int true [Z26]) Z8))))))) Z8)), Z23) else bif Z7 then some (D.tup (D.acons Z10 (D.acons (D.acons Z11 (D.acons Z12 (D.acons Z12 (D.acons Z12 (D.acons Z12 (D.acons Z13 (D.acons (D.sl RTy.int true [if Z14 < Z25 then Z14 else Z25]) Z8))))))) Z8)), Z23) else some (D.tup (D.acons Z10 (D.acons (D.acons Z11 (D.acons Z12 (D.acons Z12 (D.acons Z12 (D.acons Z12 (D.acons Z13 (D.acons (D.sl RTy.int true [Z25]) Z8))))))) Z8)), Z23) else bif Z5 then bif Z7 then some (D.tup (D.acons Z10 (D.acons (D.acons Z11 (D.acons Z12 (D.acons Z12 (D.acons Z12 (D.acons Z12 (D.acons Z13 (D.acons (D.sl RTy.int true [if Z14 < Z27 then Z14 else Z27]) Z8))))))) Z8)), Z23) else some (D.tup (D.acons Z10 (D.acons (D.acons Z11 (D.acons Z12 (D.acons Z12 (D.acons Z12 (D.acons Z12 (D.acons Z13 (D.acons (D.sl RTy.int true [Z27]) Z8))))))) Z8)), Z23) else bif Z7 then some (D.tup (D.acons Z10 (D.acons (D.acons Z11 (D.acons Z12 (D.acons Z12 (D.acons Z12 (D.acons Z12 (D.acons Z13 (D.acons (D.sl RTy.int true [if Z14 < Z18 then Z14 else Z18]) Z8))))))) Z8)), Z23) else some (D.tup (D.acons Z10 (D.acons (D.acons Z11 (D.acons Z12 (D.acons Z12 (D.acons Z12 (D.acons Z12 (D.acons Z13 (D.acons (D.sl RTy.int true [Z18]) Z8))))))) Z8)), Z23) else some (D.tup (D.acons Z28 (D.acons (D.acons (D.int IntKind.i8 (0 : Int)) (.acons (D.int .i64 (lRow (9 : Int) Z0 (4 : Int))) (.acons Z12 (D.acons Z12 (D.acons Z12 (D.acons Z13 (D.acons (D.sl RTy.int true []) Z8))))))) Z8)), [some (Obj.var 102 (.acons Z28 Z22))])) := by kernel_rfl
noncomputable def look23_fin (pr : Int) (k : Int) (r : List Int) (gc : Bool) (got : List Int) (x : Int) : RT RC := .br (decide (r.getD 1 0 = 4)) (.leaf .ret [(0, .tup (.acons (.acons (.int .i8 pr) (.acons (.int .i64 k) (.acons (.arr (C := RC) .int 96 r) .anil))) (.acons (.acons (.int .i8 7) (.acons (.int .i64 0) (.acons (.int .i64 0) (.acons (.int .i64 0) (.acons (.int .i64 0) (.acons (.str []) (.acons (.sl (C := RC) .int true [flo (r.getD 0 0) [r.getD 2 0, r.getD 3 0, r.getD 4 0, r.getD 5 0]]) .anil))))))) .anil)))] (look23_o pr k r gc got x)) (.leaf .ret [(0, .tup (.acons (.acons (.int .i8 pr) (.acons (.int .i64 4) (.acons (.arr (C := RC) .int 96 r) .anil))) (.acons (.acons (.int .i8 0) (.acons (.int .i64 (9 + r.getD 1 0)) (.acons (.int .i64 0) (.acons (.int .i64 0) (.acons (.int .i64 0) (.acons (.str []) (.acons (.sl (C := RC) .int true []) .anil))))))) .anil)))] (look23_o pr 4 r gc got x))
def look23_Inv (pr : Int) (k : Int) (r : List Int) (gc : Bool) (got : List Int) (x : Int) : Prop := OkLook r
noncomputable def look23_S : FunR RC look23_St where
  k := 1
  args q := look23_a q.pr q.k q.r q.gc q.got q.x
  objs q := look23_o q.pr q.k q.r q.gc q.got q.x
  fin q := look23_fin q.pr q.k q.r q.gc q.got q.x
  Inv q := look23_Inv q.pr q.k q.r q.gc q.got q.x
theorem look23_ok (pr : Int) (k : Int) (r : List Int) (gc : Bool) (got : List Int) (x : Int) (hI : look23_Inv pr k r gc got x) : Leaf (look23_r pr k r gc got x) (LedF look23_S ⟨pr, k, r, gc, got, x⟩) := by
  (rw [look23_eq]; conv => zeta)
  unfold look23_Inv at hI
  obtain ⟨h1, h2, h3, h4⟩ := hI
  have hfin : ∀ c : Bool, decide (r.getD 1 0 = 4) = c → (look23_fin pr k r gc got x).val = (bif c then some ((.ret, [(0, .tup (.acons (.acons (.int .i8 pr) (.acons (.int .i64 k) (.acons (.arr (C := RC) .int 96 r) .anil))) (.acons (.acons (.int .i8 7) (.acons (.int .i64 0) (.acons (.int .i64 0) (.acons (.int .i64 0) (.acons (.int .i64 0) (.acons (.str []) (.acons (.sl (C := RC) .int true [flo (r.getD 0 0) [r.getD 2 0, r.getD 3 0, r.getD 4 0, r.getD 5 0]]) .anil))))))) .anil)))]), look23_o pr k r gc got x)
      else some ((.ret, [(0, .tup (.acons (.acons (.int .i8 pr) (.acons (.int .i64 4) (.acons (.arr (C := RC) .int 96 r) .anil))) (.acons (.acons (.int .i8 0) (.acons (.int .i64 (9 + r.getD 1 0)) (.acons (.int .i64 0) (.acons (.int .i64 0) (.acons (.int .i64 0) (.acons (.str []) (.acons (.sl (C := RC) .int true []) .anil))))))) .anil)))]), look23_o pr 4 r gc got x)) := fun c hc => by
    unfold look23_fin; rw [hc]; rfl
  by_cases e : r.getD 1 0 = 4
  · have hfin := hfin true (decide_eq_true e)
    simp only [cond_true] at hfin
    rw [ibeqT e]
    simp only [cond_true]
    obtain ⟨ba, bb, bd, be⟩ := h4 e
    generalize r.getD 0 0 = w at *
    generalize r.getD 2 0 = a at *
    generalize r.getD 3 0 = b at *
    generalize r.getD 4 0 = d at *
    generalize r.getD 5 0 = e at *
    have hgo : ∀ y : Int, flo w [a, b, d, e] = y → Leaf (some (D.tup (.acons (.acons (.int .i8 pr) (.acons (.int .i64 k) (.acons (.arr (C := RC) .int 96 r) .anil))) (.acons (.acons (.int .i8 7) (.acons (.int .i64 0) (.acons (.int .i64 0) (.acons (.int .i64 0) (.acons (.int .i64 0) (.acons (.str []) (.acons (.sl (C := RC) .int true [y]) .anil))))))) .anil)), (look23_o pr k r gc got x).map some)) (LedF look23_S ⟨pr, k, r, gc, got, x⟩) := fun y hy => by
      rw [hy] at hfin
      exact leafF _ hfin rfl
    have wa : 0 < a → IntKind.i64.wrap (a - 1) = a - 1 := fun h => wrap_id (by omega) (by omega)
    have wb : 0 < b → IntKind.i64.wrap (b - 1) = b - 1 := fun h => wrap_id (by omega) (by omega)
    have wd : 0 < d → IntKind.i64.wrap (d - 1) = d - 1 := fun h => wrap_id (by omega) (by omega)
    have we : 0 < e → IntKind.i64.wrap (e - 1) = e - 1 := fun h => wrap_id (by omega) (by omega)
    clear hfin
    cases hda : decide (0 < a) <;> cases hdb : decide (0 < b) <;> cases hdd : decide (0 < d) <;> cases hde : decide (0 < e) <;> simp only [cond_true, cond_false] <;> refine hgo _ ?_ <;> simp only [decide_eq_true_eq, decide_eq_false_iff_not] at hda hdb hdd hde <;> simp only [flo, hda, hdb, hdd, hde, wa, wb, wd, we, true_and, false_and, if_false]
  · have hfin := hfin false (decide_eq_false e)
    simp only [cond_false] at hfin
    have ha : lRow 9 (r.getD 1 0) 4 = 9 + r.getD 1 0 := by rw [lRow, if_pos ⟨h2, by omega⟩]
    rw [ibeqF e, ha]
    simp only [cond_false]
    exact leafF _ hfin rfl
noncomputable def look23_d (env : Env RC) (os : List (Obj RC)) : Option (Bool × look23_St) := match env, os with
  | [(0, .ptr 0 [])], [.var 102 (.acons (.acons (.int .i8 pr) (.acons (.int .i64 k) (.acons (.arr .int 96 r) .anil))) (.acons (.sl .int gc got) (.acons (.int .i64 x) .anil)))] => staticD (true) (cdec (OkLook r), ⟨pr, k, r, gc, got, x⟩)
  | _, _ => none
noncomputable def uc_3 := uc_2.addObj 60 (sumF s23 [.slot 0 0] 1 look23_S look23_d)
theorem uc_3_laws : FLaws Tryz.prog s23 uc_3 := by
  refine uc_2_laws.addFun s23_laws look23_S 60 1 [.slot 0 0] look23_d (fun q hI => ?_) ?_
  · obtain ⟨pr, k, r, gc, got, x⟩ := q
    refine ⟨?_, ?_, rfl, look23_ok pr k r gc got x hI⟩
    · simp [RefsOK, look23_S, look23_a, look23_o, eargs, D.refs, Obj.refs]
    · simp [look23_S, look23_fin, look23_o, RT.refsOK, RefsOK, D.refs, Obj.refs]
  · intro env os b q hd_ hb
    unfold look23_d at hd_
    split at hd_
    · obtain ⟨hs, hd_⟩ := staticD_some hd_
      cases hd_
      try simp only [Bool.and_eq_true, decide_eq_true_eq] at hb
      exact ⟨cdec_iff.1 hb, rfl, rfl⟩
    · cases hd_
open Go.Proofs
def topD (st : List Frame) : D RC := match st with
  | [⟨p, k, r⟩] => .tup (.acons (.acons (.int .i8 p) (.acons (.int .i64 k) (.acons (.arr (C := RC) .int 96 r) .anil))) (.acons (.bool true) .anil))
  | _ => .tup (.acons (.acons (.int .i8 0) (.acons (.int .i64 0) (.acons (.arr (C := RC) .int 96 (List.replicate 96 0)) .anil))) (.acons (.bool false) .anil))
theorem topD_refs (st : List Frame) : (topD st).refs = [] := by unfold topD; split <;> rfl
def top10_s (c : Int) (fs : Bool) (st : List Frame) (e : Bool) (got : List Int) (over : Bool) : Option (Bool × D RC) := some (decide (st.length ≤ 1), topD st)
def top10_sp : List (D RC) → Option (Bool × D RC)
  | [.acons (.int .i64 c) (.acons (.sl .frame fs st) (.acons (.sl .int e got) (.acons (.bool over) .anil)))] => top10_s c fs st e got over
  | _ => none
noncomputable def top10_e (c : Int) (fs : Bool) (st : List Frame) (e : Bool) (got : List Int) (over : Bool) := evF s23 uc_3 40 45 [.acons (.int .i64 c) (.acons (.sl (C := RC) .frame fs st) (.acons (.sl (C := RC) .int e got) (.acons (.bool over) .anil)))]
theorem top10_0 (c : Int) (fs : Bool) (e : Bool) (got : List Int) (over : Bool) : top10_e c fs [] e got over = some (topD []) := by kernel_rfl
theorem top10_1 (c : Int) (fs : Bool) (f : Frame) (e : Bool) (got : List Int) (over : Bool) : top10_e c fs [f] e got over = some (topD [f]) := by kernel_rfl
theorem top10_ok (c : Int) (fs : Bool) (st : List Frame) (e : Bool) (got : List Int) (over : Bool) (h : (decide (st.length ≤ 1)) = true) : top10_e c fs st e got over = some (topD st) := by
  rw [decide_eq_true_eq] at h
  match st, h with
  | [], _ => exact top10_0 c fs e got over
  | [f], _ => exact top10_1 c fs f e got over
  | _ :: _ :: _, h => simp at h
noncomputable def ud_1 := uc_3.addSpec 45 top10_sp
theorem ud_1_laws : FLaws Tryz.prog s23 ud_1 := uc_3_laws.addEv s23_laws fun args d h => by
  unfold top10_sp at h
  split at h
  · unfold top10_s at h
    have h1 := congrArg Prod.fst (Option.some.inj h)
    obtain rfl : _ = d := congrArg Prod.snd (Option.some.inj h)
    exact ⟨by simp [D.refs, topD_refs], 40, top10_ok _ _ _ _ _ _ h1⟩
  · cases h
def takeD (c : Int) (e : Bool) (got : List Int) (f : Frame) (k a : Int) (ar : List Int) : D RC :=
  if k = 7 then .tup (.acons (.acons (.int .i64 c) (.acons (.sl (C := RC) .frame false []) (.acons (.sl (C := RC) .int false ar) (.acons (.bool true) .anil)))) (.acons (.bool false) (.acons (.int .i64 0) .anil)))
  else .tup (.acons (.acons (.int .i64 c) (.acons (.sl (C := RC) .frame false [f]) (.acons (.sl (C := RC) .int e got) (.acons (.bool false) .anil)))) (.acons (.bool true) (.acons (.int .i64 0) .anil)))
theorem takeD_refs (c : Int) (e : Bool) (got : List Int) (f : Frame) (k a : Int) (ar : List Int) : (takeD c e got f k a ar).refs = [] := by unfold takeD; split <;> rfl
def take10_s (c : Int) (fs : Bool) (st : List Frame) (e : Bool) (got : List Int) (over : Bool) (p : Int) (at' : Int) (r : List Int) (k : Int) (a : Int) (b : Int) (v : Int) (g : Int) (ca : Bool) (ar : List Int) : Option (Bool × D RC) := staticD (k == 0 || k == 1 || k == 2 || k == 3 || k == 7) ((decide (0 ≤ c ∧ c ≤ 3 ∧ got.length ≤ 96 ∧ st.length = 1) && !over) && (mayA8 k a b v g [] ar && decide (ar.length ≤ 96)), takeD c e got ⟨p, at', r⟩ k a ar)
def take10_sp : List (D RC) → Option (Bool × D RC)
  | [.acons (.int .i64 c) (.acons (.sl .frame fs st) (.acons (.sl .int e got) (.acons (.bool over) .anil))), .acons (.int .i8 p) (.acons (.int .i64 at') (.acons (.arr .int 96 r) .anil)), .acons (.int .i8 k) (.acons (.int .i64 a) (.acons (.int .i64 b) (.acons (.int .i64 v) (.acons (.int .i64 g) (.acons (.str []) (.acons (.sl .int ca ar) .anil))))))] => take10_s c fs st e got over p at' r k a b v g ca ar
  | _ => none
noncomputable def take10_e (c : Int) (fs : Bool) (st : List Frame) (e : Bool) (got : List Int) (over : Bool) (p : Int) (at' : Int) (r : List Int) (k : Int) (a : Int) (b : Int) (v : Int) (g : Int) (ca : Bool) (ar : List Int) := evF s23 ud_1 60 47 [.acons (.int .i64 c) (.acons (.sl (C := RC) .frame fs st) (.acons (.sl (C := RC) .int e got) (.acons (.bool over) .anil))), .acons (.int .i8 p) (.acons (.int .i64 at') (.acons (.arr (C := RC) .int 96 r) .anil)), .acons (.int .i8 k) (.acons (.int .i64 a) (.acons (.int .i64 b) (.acons (.int .i64 v) (.acons (.int .i64 g) (.acons (.str []) (.acons (.sl (C := RC) .int ca ar) .anil))))))]
theorem take10_0 (c : Int) (fs : Bool) (st : List Frame) (e : Bool) (got : List Int) (p at' : Int) (r : List Int) (a b v g : Int) (ca : Bool) (ar : List Int) : take10_e c fs st e got false p at' r 0 a b v g ca ar = (let Z0 : D RC := D.int .i64 0; let Z1 : D RC := D.bool false; let Z2 : DO_ := some (D.tup (D.acons (D.acons Z0 (D.acons (D.sl RTy.frame true []) (.acons (D.sl RTy.int true []) (.acons Z1 .anil)))) (.acons Z1 (D.acons (D.int .i64 2) .anil)))); let Z3 : Bool := lenOK st.length; let Z4 : Int := (↑st.length : Int); let Z5 : Bool := lenOK ar.length; let Z6 : Bool := mayA8 (0 : Int) a b v g [] ar; let Z7 : Int := IntKind.wrap .i64 (Z4 - (1 : Int)); let Z8 : List Frame := List.drop (0 : Nat) (List.take Z7.toNat st); let Z9 : Nat := (0 : Nat) + List.length Z8; let Z10 : Nat := List.length [Frame.mk p at' r]; let Z11 : List Frame := [] ++ Z8 ++ [Frame.mk p at' r]; let Z12 : Bool := Nat.beq (List.length ([] ++ Z8) + Z10) Z11.length; let Z13 : DO_ := none; let Z14 : Nat := (0 : Nat) + List.length ar; bif decide (c < (0 : Int)) then Z2 else bif decide ((4 : Int) ≤ c) then Z2 else bif lenOK got.length then bif decide ((96 : Int) < (↑got.length : Int)) then Z2 else bif Z3 then bif decide ((1 : Int) ≤ Z4) then bif Z3 then bif !decide (Z4 ≤ (6 : Int)) then Z2 else bif Z5 then bif !Z6 then Z2 else bif Z3 then bif decide ((0 : Int) ≤ (0 : Int) ∧ (0 : Int) ≤ Z7 ∧ Z7 ≤ Z4) then bif sizeOK Z9 (784 : Nat) then bif Nat.beq Z9 ([] ++ Z8).length && sizeOK (Z9 + Z10) (784 : Nat) then bif Z5 then bif Z6 then bif Z12 then some (D.tup (D.acons (D.acons (D.int .i64 c) (.acons (D.sl RTy.frame false Z11) (.acons (D.sl RTy.int e got) (.acons Z1 .anil)))) (.acons (D.bool true) (.acons Z0 .anil)))) else Z13 else bif Z12 then bif decide ((0 : Int) ≤ (0 : Int) ∧ (0 : Int) ≤ Z7 ∧ Z7 ≤ (↑Z11.length : Int)) then bif sizeOK Z14 (8 : Nat) then bif Nat.beq Z14 ([] ++ ar).length then some (D.tup (D.acons (D.acons (D.int .i64 c) (.acons (D.sl RTy.frame false (List.drop (0 : Nat) (List.take Z7.toNat Z11))) (.acons (D.sl RTy.int false ([] ++ ar)) (.acons (D.bool (Z7 == (0 : Int))) .anil)))) (.acons Z1 (D.acons Z0 .anil)))) else Z13 else Z13 else Z13 else Z13 else Z13 else Z13 else Z13 else Z13 else Z13 else Z13 else Z13 else Z2 else Z13 else Z13) := by kernel_rfl
theorem take10_1 (c : Int) (fs : Bool) (st : List Frame) (e : Bool) (got : List Int) (p at' : Int) (r : List Int) (a b v g : Int) (ca : Bool) (ar : List Int) : take10_e c fs st e got false p at' r 1 a b v g ca ar = (let Z0 : D RC := D.int .i64 0; let Z1 : D RC := D.bool false; let Z2 : DO_ := some (D.tup (D.acons (D.acons Z0 (D.acons (D.sl RTy.frame true []) (.acons (D.sl RTy.int true []) (.acons Z1 .anil)))) (.acons Z1 (D.acons (D.int .i64 2) .anil)))); let Z3 : Bool := lenOK st.length; let Z4 : Int := (↑st.length : Int); let Z5 : Bool := lenOK ar.length; let Z6 : Bool := mayA8 (1 : Int) a b v g [] ar; let Z7 : Int := IntKind.wrap .i64 (Z4 - (1 : Int)); let Z8 : List Frame := List.drop (0 : Nat) (List.take Z7.toNat st); let Z9 : Nat := (0 : Nat) + List.length Z8; let Z10 : Nat := List.length [Frame.mk p at' r]; let Z11 : List Frame := [] ++ Z8 ++ [Frame.mk p at' r]; let Z12 : Bool := Nat.beq (List.length ([] ++ Z8) + Z10) Z11.length; let Z13 : DO_ := none; let Z14 : Nat := (0 : Nat) + List.length ar; bif decide (c < (0 : Int)) then Z2 else bif decide ((4 : Int) ≤ c) then Z2 else bif lenOK got.length then bif decide ((96 : Int) < (↑got.length : Int)) then Z2 else bif Z3 then bif decide ((1 : Int) ≤ Z4) then bif Z3 then bif !decide (Z4 ≤ (6 : Int)) then Z2 else bif Z5 then bif !Z6 then Z2 else bif Z3 then bif decide ((0 : Int) ≤ (0 : Int) ∧ (0 : Int) ≤ Z7 ∧ Z7 ≤ Z4) then bif sizeOK Z9 (784 : Nat) then bif Nat.beq Z9 ([] ++ Z8).length && sizeOK (Z9 + Z10) (784 : Nat) then bif Z5 then bif Z6 then bif Z12 then some (D.tup (D.acons (D.acons (D.int .i64 c) (.acons (D.sl RTy.frame false Z11) (.acons (D.sl RTy.int e got) (.acons Z1 .anil)))) (.acons (D.bool true) (.acons Z0 .anil)))) else Z13 else bif Z12 then bif decide ((0 : Int) ≤ (0 : Int) ∧ (0 : Int) ≤ Z7 ∧ Z7 ≤ (↑Z11.length : Int)) then bif sizeOK Z14 (8 : Nat) then bif Nat.beq Z14 ([] ++ ar).length then some (D.tup (D.acons (D.acons (D.int .i64 c) (.acons (D.sl RTy.frame false (List.drop (0 : Nat) (List.take Z7.toNat Z11))) (.acons (D.sl RTy.int false ([] ++ ar)) (.acons (D.bool (Z7 == (0 : Int))) .anil)))) (.acons Z1 (D.acons Z0 .anil)))) else Z13 else Z13 else Z13 else Z13 else Z13 else Z13 else Z13 else Z13 else Z13 else Z13 else Z13 else Z2 else Z13 else Z13) := by kernel_rfl
theorem take10_2 (c : Int) (fs : Bool) (st : List Frame) (e : Bool) (got : List Int) (p at' : Int) (r : List Int) (a b v g : Int) (ca : Bool) (ar : List Int) : take10_e c fs st e got false p at' r 2 a b v g ca ar = (let Z0 : D RC := D.int .i64 0; let Z1 : D RC := D.bool false; let Z2 : DO_ := some (D.tup (D.acons (D.acons Z0 (D.acons (D.sl RTy.frame true []) (.acons (D.sl RTy.int true []) (.acons Z1 .anil)))) (.acons Z1 (D.acons (D.int .i64 2) .anil)))); let Z3 : Bool := lenOK st.length; let Z4 : Int := (↑st.length : Int); let Z5 : Bool := lenOK ar.length; let Z6 : Bool := mayA8 (2 : Int) a b v g [] ar; let Z7 : Int := IntKind.wrap .i64 (Z4 - (1 : Int)); let Z8 : List Frame := List.drop (0 : Nat) (List.take Z7.toNat st); let Z9 : Nat := (0 : Nat) + List.length Z8; let Z10 : Nat := List.length [Frame.mk p at' r]; let Z11 : List Frame := [] ++ Z8 ++ [Frame.mk p at' r]; let Z12 : Bool := Nat.beq (List.length ([] ++ Z8) + Z10) Z11.length; let Z13 : DO_ := none; let Z14 : Nat := (0 : Nat) + List.length ar; bif decide (c < (0 : Int)) then Z2 else bif decide ((4 : Int) ≤ c) then Z2 else bif lenOK got.length then bif decide ((96 : Int) < (↑got.length : Int)) then Z2 else bif Z3 then bif decide ((1 : Int) ≤ Z4) then bif Z3 then bif !decide (Z4 ≤ (6 : Int)) then Z2 else bif Z5 then bif !Z6 then Z2 else bif Z3 then bif decide ((0 : Int) ≤ (0 : Int) ∧ (0 : Int) ≤ Z7 ∧ Z7 ≤ Z4) then bif sizeOK Z9 (784 : Nat) then bif Nat.beq Z9 ([] ++ Z8).length && sizeOK (Z9 + Z10) (784 : Nat) then bif Z5 then bif Z6 then bif Z12 then some (D.tup (D.acons (D.acons (D.int .i64 c) (.acons (D.sl RTy.frame false Z11) (.acons (D.sl RTy.int e got) (.acons Z1 .anil)))) (.acons (D.bool true) (.acons Z0 .anil)))) else Z13 else bif Z12 then bif decide ((0 : Int) ≤ (0 : Int) ∧ (0 : Int) ≤ Z7 ∧ Z7 ≤ (↑Z11.length : Int)) then bif sizeOK Z14 (8 : Nat) then bif Nat.beq Z14 ([] ++ ar).length then some (D.tup (D.acons (D.acons (D.int .i64 c) (.acons (D.sl RTy.frame false (List.drop (0 : Nat) (List.take Z7.toNat Z11))) (.acons (D.sl RTy.int false ([] ++ ar)) (.acons (D.bool (Z7 == (0 : Int))) .anil)))) (.acons Z1 (D.acons Z0 .anil)))) else Z13 else Z13 else Z13 else Z13 else Z13 else Z13 else Z13 else Z13 else Z13 else Z13 else Z13 else Z2 else Z13 else Z13) := by kernel_rfl
theorem take10_3 (c : Int) (fs : Bool) (st : List Frame) (e : Bool) (got : List Int) (p at' : Int) (r : List Int) (a b v g : Int) (ca : Bool) (ar : List Int) : take10_e c fs st e got false p at' r 3 a b v g ca ar = (let Z0 : D RC := D.int .i64 0; let Z1 : D RC := D.bool false; let Z2 : DO_ := some (D.tup (D.acons (D.acons Z0 (D.acons (D.sl RTy.frame true []) (.acons (D.sl RTy.int true []) (.acons Z1 .anil)))) (.acons Z1 (D.acons (D.int .i64 2) .anil)))); let Z3 : Bool := lenOK st.length; let Z4 : Int := (↑st.length : Int); let Z5 : Bool := lenOK ar.length; let Z6 : Bool := mayA8 (3 : Int) a b v g [] ar; let Z7 : Int := IntKind.wrap .i64 (Z4 - (1 : Int)); let Z8 : List Frame := List.drop (0 : Nat) (List.take Z7.toNat st); let Z9 : Nat := (0 : Nat) + List.length Z8; let Z10 : Nat := List.length [Frame.mk p at' r]; let Z11 : List Frame := [] ++ Z8 ++ [Frame.mk p at' r]; let Z12 : Bool := Nat.beq (List.length ([] ++ Z8) + Z10) Z11.length; let Z13 : DO_ := none; let Z14 : Nat := (0 : Nat) + List.length ar; bif decide (c < (0 : Int)) then Z2 else bif decide ((4 : Int) ≤ c) then Z2 else bif lenOK got.length then bif decide ((96 : Int) < (↑got.length : Int)) then Z2 else bif Z3 then bif decide ((1 : Int) ≤ Z4) then bif Z3 then bif !decide (Z4 ≤ (6 : Int)) then Z2 else bif Z5 then bif !Z6 then Z2 else bif Z3 then bif decide ((0 : Int) ≤ (0 : Int) ∧ (0 : Int) ≤ Z7 ∧ Z7 ≤ Z4) then bif sizeOK Z9 (784 : Nat) then bif Nat.beq Z9 ([] ++ Z8).length && sizeOK (Z9 + Z10) (784 : Nat) then bif Z5 then bif Z6 then bif Z12 then some (D.tup (D.acons (D.acons (D.int .i64 c) (.acons (D.sl RTy.frame false Z11) (.acons (D.sl RTy.int e got) (.acons Z1 .anil)))) (.acons (D.bool true) (.acons Z0 .anil)))) else Z13 else bif Z12 then bif decide ((0 : Int) ≤ (0 : Int) ∧ (0 : Int) ≤ Z7 ∧ Z7 ≤ (↑Z11.length : Int)) then bif sizeOK Z14 (8 : Nat) then bif Nat.beq Z14 ([] ++ ar).length then some (D.tup (D.acons (D.acons (D.int .i64 c) (.acons (D.sl RTy.frame false (List.drop (0 : Nat) (List.take Z7.toNat Z11))) (.acons (D.sl RTy.int false ([] ++ ar)) (.acons (D.bool (Z7 == (0 : Int))) .anil)))) (.acons Z1 (D.acons Z0 .anil)))) else Z13 else Z13 else Z13 else Z13 else Z13 else Z13 else Z13 else Z13 else Z13 else Z13 else Z13 else Z2 else Z13 else Z13) := by kernel_rfl
theorem take10_7 (c : Int) (fs : Bool) (st : List Frame) (e : Bool) (got : List Int) (p at' : Int) (r : List Int) (a b v g : Int) (ca : Bool) (ar : List Int) : take10_e c fs st e got false p at' r 7 a b v g ca ar = (let Z0 : D RC := D.int .i64 0; let Z1 : D RC := D.bool false; let Z2 : DO_ := some (D.tup (D.acons (D.acons Z0 (D.acons (D.sl RTy.frame true []) (.acons (D.sl RTy.int true []) (.acons Z1 .anil)))) (.acons Z1 (D.acons (D.int .i64 2) .anil)))); let Z3 : Bool := lenOK st.length; let Z4 : Int := (↑st.length : Int); let Z5 : Bool := lenOK ar.length; let Z6 : Bool := mayA8 (7 : Int) a b v g [] ar; let Z7 : Int := IntKind.wrap .i64 (Z4 - (1 : Int)); let Z8 : List Frame := List.drop (0 : Nat) (List.take Z7.toNat st); let Z9 : Nat := (0 : Nat) + List.length Z8; let Z10 : Nat := List.length [Frame.mk p at' r]; let Z11 : List Frame := [] ++ Z8 ++ [Frame.mk p at' r]; let Z12 : Nat := (0 : Nat) + List.length ar; let Z13 : DO_ := none; let Z14 : DO_ := bif Nat.beq (List.length ([] ++ Z8) + Z10) Z11.length then bif decide ((0 : Int) ≤ (0 : Int) ∧ (0 : Int) ≤ Z7 ∧ Z7 ≤ (↑Z11.length : Int)) then bif sizeOK Z12 (8 : Nat) then bif Nat.beq Z12 ([] ++ ar).length then some (D.tup (D.acons (D.acons (D.int .i64 c) (.acons (D.sl RTy.frame false (List.drop (0 : Nat) (List.take Z7.toNat Z11))) (.acons (D.sl RTy.int false ([] ++ ar)) (.acons (D.bool (Z7 == (0 : Int))) .anil)))) (.acons Z1 (D.acons Z0 .anil)))) else Z13 else Z13 else Z13 else Z13; bif decide (c < (0 : Int)) then Z2 else bif decide ((4 : Int) ≤ c) then Z2 else bif lenOK got.length then bif decide ((96 : Int) < (↑got.length : Int)) then Z2 else bif Z3 then bif decide ((1 : Int) ≤ Z4) then bif Z3 then bif !decide (Z4 ≤ (6 : Int)) then Z2 else bif Z5 then bif !Z6 then Z2 else bif Z3 then bif decide ((0 : Int) ≤ (0 : Int) ∧ (0 : Int) ≤ Z7 ∧ Z7 ≤ Z4) then bif sizeOK Z9 (784 : Nat) then bif Nat.beq Z9 ([] ++ Z8).length && sizeOK (Z9 + Z10) (784 : Nat) then bif Z5 then bif Z6 then Z14 else Z14 else Z13 else Z13 else Z13 else Z13 else Z13 else Z13 else Z13 else Z2 else Z13 else Z13) := by kernel_rfl
theorem take10_ok (c : Int) (fs : Bool) (st : List Frame) (e : Bool) (got : List Int) (over : Bool) (p : Int) (at' : Int) (r : List Int) (k : Int) (a : Int) (b : Int) (v : Int) (g : Int) (ca : Bool) (ar : List Int) (hs : (k == 0 || k == 1 || k == 2 || k == 3 || k == 7) = true) (h : ((decide (0 ≤ c ∧ c ≤ 3 ∧ got.length ≤ 96 ∧ st.length = 1) && !over) && (mayA8 k a b v g [] ar && decide (ar.length ≤ 96))) = true) : take10_e c fs st e got over p at' r k a b v g ca ar = some (takeD c e got ⟨p, at', r⟩ k a ar) := by
  simp only [Bool.and_eq_true, Bool.or_eq_true, decide_eq_true_eq, Bool.not_eq_true', beq_iff_eq] at h hs
  obtain ⟨⟨⟨h1, h2, h3, h4⟩, rfl⟩, h5, h6⟩ := h
  obtain ⟨f0, rfl⟩ := List.length_eq_one_iff.1 h4
  have c1 : decide (c < 0) = false := decide_eq_false (by omega)
  have c2 : decide (4 ≤ c) = false := decide_eq_false (by omega)
  have c3 : decide ((96 : Int) < (got.length : Int)) = false := decide_eq_false (by omega)
  have c4 : lenOK got.length = true := lenOK_of (by omega)
  have c5 : lenOK ar.length = true := lenOK_of (by omega)
  have c6 : sizeOK (0 + ar.length) 8 = true := sizeT (by omega)
  have c7 : Nat.beq (0 + ar.length) ([] ++ ar).length = true := nbeqT (by simp)
  rcases hs with (((rfl | rfl) | rfl) | rfl) | rfl
  · (rw [take10_0]; conv => zeta)
    simp only [c1, c2, c3, c4, c5, c6, c7, h5, cond_true, cond_false, Bool.not_true]
    show _ = _
    kernel_rfl
  · (rw [take10_1]; conv => zeta)
    simp only [c1, c2, c3, c4, c5, c6, c7, h5, cond_true, cond_false, Bool.not_true]
    show _ = _
    kernel_rfl
  · (rw [take10_2]; conv => zeta)
    simp only [c1, c2, c3, c4, c5, c6, c7, h5, cond_true, cond_false, Bool.not_true]
    show _ = _
    kernel_rfl
  · (rw [take10_3]; conv => zeta)
    simp only [c1, c2, c3, c4, c5, c6, c7, h5, cond_true, cond_false, Bool.not_true]
    show _ = _
    kernel_rfl
  · (rw [take10_7]; conv => zeta)
    simp only [c1, c2, c3, c4, c5, c6, c7, h5, cond_true, cond_false, Bool.not_true]
    show _ = _
    kernel_rfl
noncomputable def ud_2 := ud_1.addSpec 47 take10_sp
theorem ud_2_laws : FLaws Tryz.prog s23 ud_2 := ud_1_laws.addEv s23_laws fun args d h => by
  unfold take10_sp at h
  split at h
  · unfold take10_s at h
    obtain ⟨hs, h⟩ := staticD_some h
    obtain ⟨h1, h2⟩ := Prod.mk.inj h
    obtain rfl : _ = d := h2
    exact ⟨by simp [D.refs, takeD_refs], 60, take10_ok _ _ _ _ _ _ _ _ _ _ _ _ _ _ _ _ hs h1⟩
  · cases h
def sameA_s (k : Int) (a : Int) (b : Int) (v : Int) (g : Int) (ca : Bool) (k2 : Int) (a2 : Int) (b2 : Int) (v2 : Int) (g2 : Int) (cb : Bool) : Option (Bool × D RC) := some (true, .bool (decide (k = k2 ∧ a = a2 ∧ b = b2 ∧ v = v2 ∧ g = g2)))
def sameA_sp : List (D RC) → Option (Bool × D RC)
  | [.acons (.int .i8 k) (.acons (.int .i64 a) (.acons (.int .i64 b) (.acons (.int .i64 v) (.acons (.int .i64 g) (.acons (.str []) (.acons (.sl .int ca []) .anil)))))), .acons (.int .i8 k2) (.acons (.int .i64 a2) (.acons (.int .i64 b2) (.acons (.int .i64 v2) (.acons (.int .i64 g2) (.acons (.str []) (.acons (.sl .int cb []) .anil))))))] => sameA_s k a b v g ca k2 a2 b2 v2 g2 cb
  | _ => none
noncomputable def sameA_e (k : Int) (a : Int) (b : Int) (v : Int) (g : Int) (ca : Bool) (k2 : Int) (a2 : Int) (b2 : Int) (v2 : Int) (g2 : Int) (cb : Bool) := evF s23 ud_2 40 26 [.acons (.int .i8 k) (.acons (.int .i64 a) (.acons (.int .i64 b) (.acons (.int .i64 v) (.acons (.int .i64 g) (.acons (.str []) (.acons (.sl (C := RC) .int ca []) .anil)))))), .acons (.int .i8 k2) (.acons (.int .i64 a2) (.acons (.int .i64 b2) (.acons (.int .i64 v2) (.acons (.int .i64 g2) (.acons (.str []) (.acons (.sl (C := RC) .int cb []) .anil))))))]
theorem sameA_eq (k : Int) (a : Int) (b : Int) (v : Int) (g : Int) (ca : Bool) (k2 : Int) (a2 : Int) (b2 : Int) (v2 : Int) (g2 : Int) (cb : Bool) : sameA_e k a b v g ca k2 a2 b2 v2 g2 cb = (let Z0 : DO_ := some (D.bool false); bif k == k2 then bif a == a2 then bif b == b2 then bif v == v2 then bif g == g2 then some (D.bool true) else Z0 else Z0 else Z0 else Z0 else Z0) := by kernel_rfl
theorem sameA_ok (k : Int) (a : Int) (b : Int) (v : Int) (g : Int) (ca : Bool) (k2 : Int) (a2 : Int) (b2 : Int) (v2 : Int) (g2 : Int) (cb : Bool) (h : (true) = true) : sameA_e k a b v g ca k2 a2 b2 v2 g2 cb = some (.bool (decide (k = k2 ∧ a = a2 ∧ b = b2 ∧ v = v2 ∧ g = g2))) := by
  (rw [sameA_eq]; conv => zeta)
  repeat' (refine cond2 (fun hc => ?_) fun hc => ?_)
  all_goals simp only [beq_iff_eq, beq_eq_false_iff_ne, ne_eq] at *
  all_goals first | exact congrArg (fun b => some (D.bool b)) (decide_eq_true (by omega)).symm | exact congrArg (fun b => some (D.bool b)) (decide_eq_false (by omega)).symm
noncomputable def ud_3 := ud_2.addSpec 26 sameA_sp
theorem ud_3_laws : FLaws Tryz.prog s23 ud_3 := ud_2_laws.addEv s23_laws fun args d h => by
  unfold sameA_sp at h
  split at h
  · unfold sameA_s at h
    have h1 := congrArg Prod.fst (Option.some.inj h)
    obtain rfl : _ = d := congrArg Prod.snd (Option.some.inj h)
    exact ⟨by simp [D.refs], 40, sameA_ok _ _ _ _ _ _ _ _ _ _ _ _ h1⟩
  · cases h
def give_s (c : Int) (f : Bool) (st : List Frame) (e : Bool) (got : List Int) (over : Bool) (x : Int) : Option (Bool × D RC) := some (decide (0 ≤ c ∧ c ≤ 3 ∧ got.length ≤ 96 ∧ 1 ≤ st.length ∧ st.length ≤ 6) && !over, .tup (.acons (.acons (.int .i64 c) (.acons (.sl (C := RC) .frame f st) (.acons (.sl (C := RC) .int true [x]) (.acons (.bool over) .anil)))) (.acons (.int .i64 0) .anil)))
def give_sp : List (D RC) → Option (Bool × D RC)
  | [.acons (.int .i64 c) (.acons (.sl .frame f st) (.acons (.sl .int e got) (.acons (.bool over) .anil))), .int .i64 x] => give_s c f st e got over x
  | _ => none
noncomputable def give_e (c : Int) (f : Bool) (st : List Frame) (e : Bool) (got : List Int) (over : Bool) (x : Int) := evF s23 ud_3 40 28 [.acons (.int .i64 c) (.acons (.sl (C := RC) .frame f st) (.acons (.sl (C := RC) .int e got) (.acons (.bool over) .anil))), .int .i64 x]
theorem give_eq (c : Int) (f : Bool) (st : List Frame) (e : Bool) (got : List Int) (over : Bool) (x : Int) : give_e c f st e got over x = (let Z0 : D RC := D.int .i64 0; let Z1 : DO_ := some (D.tup (D.acons (D.acons Z0 (D.acons (D.sl RTy.frame true []) (.acons (D.sl RTy.int true []) (.acons (D.bool false) .anil)))) (.acons (D.int .i64 2) .anil))); let Z2 : Bool := lenOK st.length; let Z3 : Int := (↑st.length : Int); let Z4 : DO_ := bif over then Z1 else some (D.tup (D.acons (D.acons (D.int .i64 c) (.acons (D.sl RTy.frame f st) (.acons (D.sl RTy.int true [x]) (.acons (D.bool over) .anil)))) (.acons Z0 .anil))); bif decide (c < (0 : Int)) then Z1 else bif decide ((4 : Int) ≤ c) then Z1 else bif lenOK got.length then bif decide ((96 : Int) < (↑got.length : Int)) then Z1 else bif over then bif Z2 then bif !Z3 == (0 : Int) then Z1 else Z4 else none else bif Z2 then bif decide ((1 : Int) ≤ Z3) then bif Z2 then bif !decide (Z3 ≤ (6 : Int)) then Z1 else Z4 else none else Z1 else none else none) := by kernel_rfl
theorem give_ok (c : Int) (f : Bool) (st : List Frame) (e : Bool) (got : List Int) (over : Bool) (x : Int) (h : (decide (0 ≤ c ∧ c ≤ 3 ∧ got.length ≤ 96 ∧ 1 ≤ st.length ∧ st.length ≤ 6) && !over) = true) : give_e c f st e got over x = some (.tup (.acons (.acons (.int .i64 c) (.acons (.sl (C := RC) .frame f st) (.acons (.sl (C := RC) .int true [x]) (.acons (.bool over) .anil)))) (.acons (.int .i64 0) .anil))) := by
  (rw [give_eq]; conv => zeta)
  simp only [Bool.and_eq_true, decide_eq_true_eq, Bool.not_eq_true'] at h
  obtain ⟨⟨h1, h2, h3, h4, h5⟩, rfl⟩ := h
  have c1 : decide (c < 0) = false := by simp; omega
  have c2 : decide (4 ≤ c) = false := by simp; omega
  have c3 : decide ((96 : Int) < got.length) = false := by simp; omega
  have c4 : lenOK got.length = true := lenOK_of (by omega)
  have c5 : lenOK st.length = true := lenOK_of (by omega)
  have c6 : decide ((1 : Int) ≤ st.length) = true := by simp; omega
  have c7 : decide ((st.length : Int) ≤ 6) = true := by simp; omega
  simp only [c1, c2, c3, c4, c5, c6, c7, cond_true, cond_false, Bool.not_true]
noncomputable def ud_4 := ud_3.addSpec 28 give_sp
theorem ud_4_laws : FLaws Tryz.prog s23 ud_4 := ud_3_laws.addEv s23_laws fun args d h => by
  unfold give_sp at h
  split at h
  · unfold give_s at h
    have h1 := congrArg Prod.fst (Option.some.inj h)
    obtain rfl : _ = d := congrArg Prod.snd (Option.some.inj h)
    exact ⟨by simp [D.refs], 40, give_ok _ _ _ _ _ _ _ h1⟩
  · cases h
def new1_s (c : Int) (p : Int) (ca : Bool) (x : Int) : Option (Bool × D RC) := some (decide (0 ≤ c ∧ c ≤ 3 ∧ 0 ≤ p), .tup (.acons (.acons (.int .i64 c) (.acons (.sl (C := RC) .frame true [⟨p, 0, x :: List.replicate 95 0⟩]) (.acons (.sl (C := RC) .int true []) (.acons (.bool false) .anil)))) (.acons (.int .i64 0) .anil)))
def new1_sp : List (D RC) → Option (Bool × D RC)
  | [.int .i64 c, .int .i8 p, .sl .int ca [x]] => new1_s c p ca x
  | _ => none
noncomputable def new1_e (c : Int) (p : Int) (ca : Bool) (x : Int) := evF s23 ud_4 60 24 [.int .i64 c, .int .i8 p, .sl (C := RC) .int ca [x]]
theorem new1_eq (c : Int) (p : Int) (ca : Bool) (x : Int) : new1_e c p ca x = (let Z0 : D RC := D.int .i64 0; let Z1 : D RC := D.acons (D.sl RTy.int true []) (.acons (D.bool false) .anil); let Z2 : DO_ := some (D.tup (D.acons (D.acons Z0 (D.acons (D.sl RTy.frame true []) Z1)) (.acons (D.int .i64 2) .anil))); bif decide (c < (0 : Int)) then Z2 else bif decide ((4 : Int) ≤ c) then Z2 else bif decide (p < (0 : Int)) then Z2 else some (D.tup (D.acons (D.acons (D.int .i64 c) (.acons (D.sl RTy.frame true [Frame.mk p (0 : Int) [x, (0 : Int), (0 : Int), (0 : Int), (0 : Int), (0 : Int), (0 : Int), (0 : Int), (0 : Int), (0 : Int), (0 : Int), (0 : Int), (0 : Int), (0 : Int), (0 : Int), (0 : Int), (0 : Int), (0 : Int), (0 : Int), (0 : Int), (0 : Int), (0 : Int), (0 : Int), (0 : Int), (0 : Int), (0 : Int), (0 : Int), (0 : Int), (0 : Int), (0 : Int), (0 : Int), (0 : Int), (0 : Int), (0 : Int), (0 : Int), (0 : Int), (0 : Int), (0 : Int), (0 : Int), (0 : Int), (0 : Int), (0 : Int), (0 : Int), (0 : Int), (0 : Int), (0 : Int), (0 : Int), (0 : Int), (0 : Int), (0 : Int), (0 : Int), (0 : Int), (0 : Int), (0 : Int), (0 : Int), (0 : Int), (0 : Int), (0 : Int), (0 : Int), (0 : Int), (0 : Int), (0 : Int), (0 : Int), (0 : Int), (0 : Int), (0 : Int), (0 : Int), (0 : Int), (0 : Int), (0 : Int), (0 : Int), (0 : Int), (0 : Int), (0 : Int), (0 : Int), (0 : Int), (0 : Int), (0 : Int), (0 : Int), (0 : Int), (0 : Int), (0 : Int), (0 : Int), (0 : Int), (0 : Int), (0 : Int), (0 : Int), (0 : Int), (0 : Int), (0 : Int), (0 : Int), (0 : Int), (0 : Int), (0 : Int), (0 : Int), (0 : Int)]]) Z1)) (.acons Z0 .anil)))) := by kernel_rfl
theorem new1_ok (c : Int) (p : Int) (ca : Bool) (x : Int) (h : (decide (0 ≤ c ∧ c ≤ 3 ∧ 0 ≤ p)) = true) : new1_e c p ca x = some (.tup (.acons (.acons (.int .i64 c) (.acons (.sl (C := RC) .frame true [⟨p, 0, x :: List.replicate 95 0⟩]) (.acons (.sl (C := RC) .int true []) (.acons (.bool false) .anil)))) (.acons (.int .i64 0) .anil))) := by
  (rw [new1_eq]; conv => zeta)
  rw [decide_eq_true_eq] at h
  have c1 : decide (c < 0) = false := decide_eq_false (by omega)
  have c2 : decide (4 ≤ c) = false := decide_eq_false (by omega)
  have c3 : decide (p < 0) = false := decide_eq_false (by omega)
  simp only [c1, c2, c3, cond_false]
  rfl
noncomputable def ud_5 := ud_4.addSpec 24 new1_sp
theorem ud_5_laws : FLaws Tryz.prog s23 ud_5 := ud_4_laws.addEv s23_laws fun args d h => by
  unfold new1_sp at h
  split at h
  · unfold new1_s at h
    have h1 := congrArg Prod.fst (Option.some.inj h)
    obtain rfl : _ = d := congrArg Prod.snd (Option.some.inj h)
    exact ⟨by simp [D.refs], 60, new1_ok _ _ _ _ h1⟩
  · cases h
def mkO (c p k : Int) (r got : List Int) : Task := ⟨c, [⟨p, k, r⟩], got, false⟩
def sameG (A B : GoR4) : Prop := A.is = B.is ∧ A.kind = B.kind ∧ A.a = B.a ∧ A.b = B.b ∧ A.v = B.v ∧ A.g = B.g ∧ A.got = B.got
theorem sameG_g4 {p n : Int} {r q got : List Int} {kd a b v g : Int} : sameG (g4 p n r got kd a b v g) (g4 p n q got kd a b v g) := ⟨rfl, rfl, rfl, rfl, rfl, rfl, rfl⟩
theorem sameG_end {l : List Int} : sameG (gEnd4 l) (gEnd4 l) := ⟨rfl, rfl, rfl, rfl, rfl, rfl, rfl⟩
theorem oB0 (own : Bool) (r got : List Int) : goO own [⟨92, 0, r⟩] got = g4 92 1 r got 0 0 0 0 0 := rfl
theorem oB1 (own : Bool) (r : List Int) (x : Int) : goO own [⟨92, 1, r⟩] [x] = g4 92 2 (r.set 1 x) [x] 1 (lRow 9 (r.getD 0 0) 4) 0 (x + 1) 0 := rfl
theorem oB2 (own : Bool) (r got : List Int) : goO own [⟨92, 2, r⟩] got = g4 92 3 r got 0 3 0 0 0 := rfl
theorem oB3 (own : Bool) (r : List Int) (x : Int) : goO own [⟨92, 3, r⟩] [x] = if r.getD 1 0 < x then g4 92 1 r [x] 0 0 0 0 0 else gEnd4 [r.getD 1 0] := rfl
theorem oM0 (own : Bool) (r got : List Int) : goO own [⟨93, 0, r⟩] got = g4 93 1 r got 0 0 0 0 0 := by cases own <;> rfl
theorem oM1 (own : Bool) (r : List Int) (x : Int) : goO own [⟨93, 1, r⟩] [x] = g4 93 2 (r.set 0 x) [x] 0 3 0 0 0 := by cases own <;> rfl
theorem oA2 (r : List Int) (x : Int) : goO false [⟨93, 2, r⟩] [x] = if x < r.getD 0 0 then g4 93 3 r [x] 2 3 x (r.getD 0 0) 0 else g4 93 4 (r.set 1 0) [x] 0 9 0 0 0 := rfl
theorem oC2 (r : List Int) (x : Int) : goO true [⟨93, 2, r⟩] [x] = if x < r.getD 0 0 then g4 93 3 (r.set 1 x) [x] 2 3 x (r.getD 0 0) 0 else g4 93 4 (r.set 2 0) [x] 0 9 0 0 0 := rfl
theorem oA3 (r : List Int) (x : Int) : goO false [⟨93, 3, r⟩] [x] = if x = 0 then g4 93 2 r [x] 0 3 0 0 0 else g4 93 4 (r.set 1 0) [x] 0 9 0 0 0 := rfl
theorem oC3 (r : List Int) (x : Int) : goO true [⟨93, 3, r⟩] [x] = if x = 0 then g4 93 2 r [x] 0 3 0 0 0 else g4 93 4 (r.set 2 0) [x] 0 9 0 0 0 := rfl
theorem oA4 (r : List Int) (x : Int) : goO false [⟨93, 4, r⟩] [x] = if r.getD 1 0 = 3 then gEnd4 [flo (r.getD 0 0) [r.getD 2 0, r.getD 3 0, r.getD 4 0, x]]
  else g4 93 4 ((r.set (2 + (r.getD 1 0).toNat) x).set 1 (r.getD 1 0 + 1)) [x] 0 (10 + r.getD 1 0) 0 0 0 := rfl
theorem oC4 (r : List Int) (x : Int) : goO true [⟨93, 4, r⟩] [x] = if r.getD 2 0 = 3 then gEnd4 [flo (r.getD 0 0) [r.getD 3 0, r.getD 4 0, r.getD 5 0, x]]
  else g4 93 4 ((r.set (3 + (r.getD 2 0).toNat) x).set 2 (r.getD 2 0 + 1)) [x] 0 (10 + r.getD 2 0) 0 0 0 := rfl
def frC (cs : List Int) : Int := cs.getD 0 0
def mkC (cs : List Int) : Int := cs.getD 3 0
def scC (cs : List Int) (i : Nat) : Int := cs.getD (9 + i) 0
def opB (opn : List Bool) (i : Nat) : Bool := opn.getD i false
def stA (start : List Int) (i : Nat) : Int := start.getD i 0
def SawIt (opn : List Bool) (start : List Int) (w : Int) (i : Nat) (v : Int) : Prop := opB opn i = true → w ≤ stA start i ∨ 0 < v ∧ v - 1 ≤ stA start i
def JB (cs : List Int) (opn : List Bool) (c k : Int) (r got : List Int) : Prop :=
  r.length = 96 ∧ r.getD 0 0 = c ∧ opB opn c.toNat = false ∧
  (k = 0 ∧ got = [] ∨ ∃ x, got = [x] ∧ 0 ≤ x ∧ x ≤ frC cs ∧ (k = 1 ∨ 0 ≤ r.getD 1 0 ∧ r.getD 1 0 ≤ frC cs ∧ scC cs c.toNat = r.getD 1 0 + 1 ∧ (k = 2 ∨ k = 3)))
def JM4 (cs : List Int) (opn : List Bool) (start : List Int) (r q : List Int) (x : Int) : Prop :=
  r.getD 0 0 ≤ mkC cs ∧ ∃ j : Nat, j ≤ 3 ∧ r.getD 1 0 = j ∧ q.getD 2 0 = j ∧ (∀ i, i < j → r.getD (2 + i) 0 = q.getD (3 + i) 0 ∧ 0 ≤ r.getD (2 + i) 0 ∧ r.getD (2 + i) 0 ≤ frC cs + 1 ∧ SawIt opn start (r.getD 0 0) i (r.getD (2 + i) 0)) ∧ SawIt opn start (r.getD 0 0) j x
def JM (cs : List Int) (opn : List Bool) (start : List Int) (k : Int) (r q got : List Int) : Prop :=
  r.length = 96 ∧ q.length = 96 ∧
  (k = 0 ∧ got = [] ∨ ∃ x, got = [x] ∧ 0 ≤ x ∧ x ≤ frC cs + 1 ∧ (k = 1 ∧ x ≤ frC cs ∨ r.getD 0 0 = q.getD 0 0 ∧ 0 ≤ r.getD 0 0 ∧ r.getD 0 0 ≤ frC cs ∧
    (k = 2 ∧ x ≤ mkC cs ∨ k = 3 ∧ (x = 0 ∨ r.getD 0 0 ≤ mkC cs) ∨ k = 4 ∧ JM4 cs opn start r q x)))
theorem JB.ok {cs : List Int} {opn : List Bool} {c k : Int} {r got : List Int} (h : JB cs opn c k r got) (hf : frC cs ≤ 1000000) (c0 : 0 ≤ c) (c3 : c ≤ 3) (own : Bool) : okO own c [⟨92, k, r⟩] got := by
  obtain ⟨h1, h2, _, h⟩ := h
  refine ⟨c0, c3, 92, k, r, rfl, h1, .inl ⟨rfl, ?_⟩⟩
  rcases h with h | ⟨x, e, x0, x1, h⟩
  · exact .inl h
  · refine .inr ⟨x, e, ?_, ?_, x0, by omega, by omega, by omega⟩
    · rcases h with h | ⟨_, _, _, h | h⟩ <;> omega
    · rcases h with h | ⟨_, _, _, h | h⟩ <;> omega
theorem JM.ok {cs : List Int} {opn : List Bool} {start : List Int} {k c : Int} {r q got : List Int} (h : JM cs opn start k r q got) (hf : frC cs ≤ 1000000) (c0 : 0 ≤ c) (c3 : c ≤ 3) :
    okO false c [⟨93, k, r⟩] got ∧ okO true c [⟨93, k, q⟩] got ∧ sameG (goO false [⟨93, k, r⟩] got) (goO true [⟨93, k, q⟩] got) := by
  obtain ⟨h1, h2, h⟩ := h
  rcases h with ⟨rfl, rfl⟩ | ⟨x, rfl, x0, x1, ⟨rfl, x2⟩ | ⟨e, w0, w1, ⟨rfl, x2⟩ | ⟨rfl, x2⟩ | ⟨rfl, h4⟩⟩⟩
  · exact ⟨⟨c0, c3, 93, 0, r, rfl, h1, .inr ⟨rfl, .inl ⟨rfl, rfl⟩⟩⟩, ⟨c0, c3, 93, 0, q, rfl, h2, .inr ⟨rfl, .inl ⟨rfl, rfl⟩⟩⟩, by rw [oM0, oM0]; exact sameG_g4⟩
  · exact ⟨⟨c0, c3, 93, 1, r, rfl, h1, .inr ⟨rfl, .inr ⟨x, rfl, by omega, by omega, x0, by omega, by omega, by omega⟩⟩⟩, ⟨c0, c3, 93, 1, q, rfl, h2, .inr ⟨rfl, .inr ⟨x, rfl, by omega, by omega, x0, by omega, by omega, by omega⟩⟩⟩, by rw [oM1, oM1]; exact sameG_g4⟩
  · refine ⟨⟨c0, c3, 93, 2, r, rfl, h1, .inr ⟨rfl, .inr ⟨x, rfl, by omega, by omega, x0, by omega, by omega, by omega⟩⟩⟩, ⟨c0, c3, 93, 2, q, rfl, h2, .inr ⟨rfl, .inr ⟨x, rfl, by omega, by omega, x0, by omega, by omega, by omega⟩⟩⟩, ?_⟩
    rw [oA2, oC2, ← e]
    split <;> exact sameG_g4
  · refine ⟨⟨c0, c3, 93, 3, r, rfl, h1, .inr ⟨rfl, .inr ⟨x, rfl, by omega, by omega, x0, by omega, by omega, by omega⟩⟩⟩, ⟨c0, c3, 93, 3, q, rfl, h2, .inr ⟨rfl, .inr ⟨x, rfl, by omega, by omega, x0, by omega, by omega, by omega⟩⟩⟩, ?_⟩
    rw [oA3, oC3]
    split <;> exact sameG_g4
  · obtain ⟨h5, j, j3, e1, e2, hj, _⟩ := h4
    refine ⟨⟨c0, c3, 93, 4, r, rfl, h1, .inr ⟨rfl, .inr ⟨x, rfl, by omega, by omega, x0, by omega, by omega, fun _ => ?_⟩⟩⟩, ⟨c0, c3, 93, 4, q, rfl, h2, .inr ⟨rfl, .inr ⟨x, rfl, by omega, by omega, x0, by omega, by omega, fun _ => ?_⟩⟩⟩, ?_⟩
    · refine ⟨by omega, by omega, fun h3 => ?_⟩
      have a0 : r.getD 2 0 ≤ frC cs + 1 := (hj 0 (by omega)).2.2.1
      have a1 : r.getD 3 0 ≤ frC cs + 1 := (hj 1 (by omega)).2.2.1
      have a2 : r.getD 4 0 ≤ frC cs + 1 := (hj 2 (by omega)).2.2.1
      exact ⟨by omega, by omega, by omega⟩
    · refine ⟨by omega, by omega, fun h3 => ?_⟩
      have a0 : r.getD 2 0 = q.getD 3 0 ∧ _ ∧ r.getD 2 0 ≤ frC cs + 1 ∧ _ := hj 0 (by omega)
      have a1 : r.getD 3 0 = q.getD 4 0 ∧ _ ∧ r.getD 3 0 ≤ frC cs + 1 ∧ _ := hj 1 (by omega)
      have a2 : r.getD 4 0 = q.getD 5 0 ∧ _ ∧ r.getD 4 0 ≤ frC cs + 1 ∧ _ := hj 2 (by omega)
      exact ⟨by omega, by omega, by omega⟩
    · rw [oA4, oC4, e1, e2]
      split
      · have a0 : r.getD 2 0 = q.getD 3 0 := (hj 0 (by omega)).1
        have a1 : r.getD 3 0 = q.getD 4 0 := (hj 1 (by omega)).1
        have a2 : r.getD 4 0 = q.getD 5 0 := (hj 2 (by omega)).1
        rw [← e, a0, a1, a2]
        exact sameG_end
      · exact sameG_g4
theorem JB.mono {cs cs' : List Int} {opn opn' : List Bool} {c k : Int} {r got : List Int} (h : JB cs opn c k r got) (hf : frC cs ≤ frC cs') (hs : scC cs' c.toNat = scC cs c.toNat) (ho : opB opn' c.toNat = opB opn c.toNat) : JB cs' opn' c k r got := by
  obtain ⟨h1, h2, h3, h⟩ := h
  refine ⟨h1, h2, by rw [ho]; exact h3, ?_⟩
  rcases h with h | ⟨x, e, x0, x1, h⟩
  · exact .inl h
  · refine .inr ⟨x, e, x0, by omega, ?_⟩
    rcases h with h | ⟨a, b, d, h⟩
    · exact .inl h
    · exact .inr ⟨a, by omega, by omega, h⟩
theorem JM.mono {cs cs' : List Int} {opn opn' : List Bool} {start start' : List Int} {k : Int} {r q got : List Int} (h : JM cs opn start k r q got) (hf : frC cs ≤ frC cs') (hm : mkC cs ≤ mkC cs')
    (ho : ∀ i, opB opn' i = true → opB opn i = true ∧ stA start' i = stA start i ∨ mkC cs ≤ stA start' i) : JM cs' opn' start' k r q got := by
  obtain ⟨h1, h2, h⟩ := h
  refine ⟨h1, h2, ?_⟩
  rcases h with h | ⟨x, e, x0, x1, h⟩
  · exact .inl h
  · refine .inr ⟨x, e, x0, by omega, ?_⟩
    rcases h with h | ⟨e, w0, w1, h⟩
    · exact .inl ⟨h.1, by omega⟩
    refine .inr ⟨e, w0, by omega, ?_⟩
    rcases h with h | h | ⟨hk, w2, j, j3, e1, e2, hj, hx⟩
    · exact .inl ⟨h.1, by omega⟩
    · exact .inr (.inl ⟨h.1, by omega⟩)
    · have saw : ∀ i v, SawIt opn start (r.getD 0 0) i v → SawIt opn' start' (r.getD 0 0) i v := fun i v hv ho' => by
        rcases ho i ho' with ⟨a, b⟩ | b
        · rw [b]; exact hv a
        · exact .inl (by omega)
      refine .inr (.inr ⟨hk, by omega, j, j3, e1, e2, fun i hi => ?_, saw _ _ hx⟩)
      obtain ⟨a, b, d, f⟩ := hj i hi
      exact ⟨a, b, by omega, saw _ _ f⟩
open Go.Proofs
noncomputable def goes_s (c : Int) (st : List Frame) (got : List Int) (over : Bool) (own : Bool) : Option (Bool × D RC) := some (cdec (okO own c st got) && !over, .tup (.acons (.acons (.int .i64 c) (.acons (.sl (C := RC) .frame false (goO own st got).st) (.acons (.sl (C := RC) .int false (goO own st got).got) (.acons (.bool (goO own st got).over) .anil)))) (.acons (.acons (.int .i8 (goO own st got).kind) (.acons (.int .i64 (goO own st got).a) (.acons (.int .i64 (goO own st got).b) (.acons (.int .i64 (goO own st got).v) (.acons (.int .i64 (goO own st got).g) (.acons (.str []) (.acons (.sl (C := RC) .int true []) .anil))))))) (.acons (.bool (goO own st got).is) .anil))))
noncomputable def goes_sp : List (D RC) → Option (Bool × D RC)
  | [.acons (.int .i64 c) (.acons (.sl .frame false st) (.acons (.sl .int false got) (.acons (.bool over) .anil))), .bool own] => goes_s c st got over own
  | _ => none
noncomputable def goes_e (c : Int) (st : List Frame) (got : List Int) (over : Bool) (own : Bool) := evF s23 ud_5 200 25 [.acons (.int .i64 c) (.acons (.sl (C := RC) .frame false st) (.acons (.sl (C := RC) .int false got) (.acons (.bool over) .anil))), .bool own]
theorem goes92f0 (c : Int) (r : List Int) : goes_e c [⟨92, 0, r⟩] [] false false = (let Z0 : D RC := D.int .i64 0; bif decide ((0 : Int) ≤ c ∧ c ≤ (3 : Int) ∧ (0 : Nat) ≤ (96 : Nat) ∧ List.length [Frame.mk (92 : Int) (0 : Int) r] = (1 : Nat)) && true && true then some (D.tup (D.acons (D.acons (D.int .i64 c) (.acons (D.sl RTy.frame false [Frame.mk (92 : Int) (1 : Int) r]) (.acons (D.sl RTy.int false []) (.acons (D.bool false) .anil)))) (.acons (D.acons (D.int IntKind.i8 (0 : Int)) (.acons Z0 (D.acons Z0 (D.acons Z0 (D.acons Z0 (D.acons (D.str []) (.acons (D.sl RTy.int true []) .anil))))))) (.acons (D.bool true) .anil)))) else none) := by kernel_rfl
theorem goes92t0 (c : Int) (r : List Int) : goes_e c [⟨92, 0, r⟩] [] false true = (let Z0 : D RC := D.int .i64 0; bif decide ((0 : Int) ≤ c ∧ c ≤ (3 : Int) ∧ (0 : Nat) ≤ (96 : Nat) ∧ List.length [Frame.mk (92 : Int) (0 : Int) r] = (1 : Nat)) && true && true then some (D.tup (D.acons (D.acons (D.int .i64 c) (.acons (D.sl RTy.frame false [Frame.mk (92 : Int) (1 : Int) r]) (.acons (D.sl RTy.int false []) (.acons (D.bool false) .anil)))) (.acons (D.acons (D.int IntKind.i8 (0 : Int)) (.acons Z0 (D.acons Z0 (D.acons Z0 (D.acons Z0 (D.acons (D.str []) (.acons (D.sl RTy.int true []) .anil))))))) (.acons (D.bool true) .anil)))) else none) := by kernel_rfl
theorem goes92f1 (c x : Int) (r : List Int) : goes_e c [⟨92, 1, r⟩] [x] false false = (let Z0 : Int := lRow (9 : Int) (List.getD (List.set r (1 : Nat) x) (0 : Nat) (0 : Int)) (4 : Int); let Z1 : Int := IntKind.wrap .i64 (x + (1 : Int)); let Z2 : D RC := D.int .i64 0; bif decide ((0 : Int) ≤ c ∧ c ≤ (3 : Int) ∧ List.length [x] ≤ (96 : Nat) ∧ List.length [Frame.mk (92 : Int) (1 : Int) r] = (1 : Nat)) && true && (mayA8 (1 : Int) Z0 (0 : Int) Z1 (0 : Int) [] [] && true) then some (D.tup (D.acons (D.acons (D.int .i64 c) (.acons (D.sl RTy.frame false [Frame.mk (92 : Int) (2 : Int) (List.set r (1 : Nat) x)]) (.acons (D.sl RTy.int false [x]) (.acons (D.bool false) .anil)))) (.acons (D.acons (D.int IntKind.i8 (1 : Int)) (.acons (D.int .i64 Z0) (.acons Z2 (D.acons (D.int .i64 Z1) (.acons Z2 (D.acons (D.str []) (.acons (D.sl RTy.int true []) .anil))))))) (.acons (D.bool true) .anil)))) else none) := by kernel_rfl
theorem goes92t1 (c x : Int) (r : List Int) : goes_e c [⟨92, 1, r⟩] [x] false true = (let Z0 : Int := lRow (9 : Int) (List.getD (List.set r (1 : Nat) x) (0 : Nat) (0 : Int)) (4 : Int); let Z1 : Int := IntKind.wrap .i64 (x + (1 : Int)); let Z2 : D RC := D.int .i64 0; bif decide ((0 : Int) ≤ c ∧ c ≤ (3 : Int) ∧ List.length [x] ≤ (96 : Nat) ∧ List.length [Frame.mk (92 : Int) (1 : Int) r] = (1 : Nat)) && true && (mayA8 (1 : Int) Z0 (0 : Int) Z1 (0 : Int) [] [] && true) then some (D.tup (D.acons (D.acons (D.int .i64 c) (.acons (D.sl RTy.frame false [Frame.mk (92 : Int) (2 : Int) (List.set r (1 : Nat) x)]) (.acons (D.sl RTy.int false [x]) (.acons (D.bool false) .anil)))) (.acons (D.acons (D.int IntKind.i8 (1 : Int)) (.acons (D.int .i64 Z0) (.acons Z2 (D.acons (D.int .i64 Z1) (.acons Z2 (D.acons (D.str []) (.acons (D.sl RTy.int true []) .anil))))))) (.acons (D.bool true) .anil)))) else none) := by kernel_rfl
theorem goes92f2 (c x : Int) (r : List Int) : goes_e c [⟨92, 2, r⟩] [x] false false = (let Z0 : D RC := D.int .i64 0; bif decide ((0 : Int) ≤ c ∧ c ≤ (3 : Int) ∧ List.length [x] ≤ (96 : Nat) ∧ List.length [Frame.mk (92 : Int) (2 : Int) r] = (1 : Nat)) && true && true then some (D.tup (D.acons (D.acons (D.int .i64 c) (.acons (D.sl RTy.frame false [Frame.mk (92 : Int) (3 : Int) r]) (.acons (D.sl RTy.int false [x]) (.acons (D.bool false) .anil)))) (.acons (D.acons (D.int IntKind.i8 (0 : Int)) (.acons (D.int .i64 3) (.acons Z0 (D.acons Z0 (D.acons Z0 (D.acons (D.str []) (.acons (D.sl RTy.int true []) .anil))))))) (.acons (D.bool true) .anil)))) else none) := by kernel_rfl
theorem goes92t2 (c x : Int) (r : List Int) : goes_e c [⟨92, 2, r⟩] [x] false true = (let Z0 : D RC := D.int .i64 0; bif decide ((0 : Int) ≤ c ∧ c ≤ (3 : Int) ∧ List.length [x] ≤ (96 : Nat) ∧ List.length [Frame.mk (92 : Int) (2 : Int) r] = (1 : Nat)) && true && true then some (D.tup (D.acons (D.acons (D.int .i64 c) (.acons (D.sl RTy.frame false [Frame.mk (92 : Int) (3 : Int) r]) (.acons (D.sl RTy.int false [x]) (.acons (D.bool false) .anil)))) (.acons (D.acons (D.int IntKind.i8 (0 : Int)) (.acons (D.int .i64 3) (.acons Z0 (D.acons Z0 (D.acons Z0 (D.acons (D.str []) (.acons (D.sl RTy.int true []) .anil))))))) (.acons (D.bool true) .anil)))) else none) := by kernel_rfl
theorem goes92f3 (c x : Int) (r : List Int) : goes_e c [⟨92, 3, r⟩] [x] false false = (let Z0 : Int := List.getD r (1 : Nat) (0 : Int); let Z1 : Bool := decide ((0 : Int) ≤ c ∧ c ≤ (3 : Int) ∧ List.length [x] ≤ (96 : Nat) ∧ List.length [Frame.mk (92 : Int) (3 : Int) r] = (1 : Nat)) && true; let Z2 : D RC := D.acons (D.bool false) .anil; let Z3 : D RC := D.int .i64 0; let Z4 : D RC := D.acons (D.int IntKind.i8 (0 : Int)) (.acons Z3 (D.acons Z3 (D.acons Z3 (D.acons Z3 (D.acons (D.str []) (.acons (D.sl RTy.int true []) .anil)))))); let Z5 : D RC := D.acons (D.bool true) .anil; bif decide (Z0 < x) then bif Z1 && true then some (D.tup (D.acons (D.acons (D.int .i64 c) (.acons (D.sl RTy.frame false [Frame.mk (92 : Int) (1 : Int) r]) (.acons (D.sl RTy.int false [x]) Z2))) (.acons Z4 Z5))) else none else bif Z1 && (mayA8 (7 : Int) (0 : Int) (0 : Int) (0 : Int) (0 : Int) [] [Z0] && decide (List.length [Z0] ≤ (96 : Nat))) then some (D.tup (D.acons (D.acons (D.int .i64 c) (.acons (D.sl RTy.frame false []) (.acons (D.sl RTy.int false [Z0]) Z5))) (.acons Z4 Z2))) else none) := by kernel_rfl
theorem goes92t3 (c x : Int) (r : List Int) : goes_e c [⟨92, 3, r⟩] [x] false true = (let Z0 : Int := List.getD r (1 : Nat) (0 : Int); let Z1 : Bool := decide ((0 : Int) ≤ c ∧ c ≤ (3 : Int) ∧ List.length [x] ≤ (96 : Nat) ∧ List.length [Frame.mk (92 : Int) (3 : Int) r] = (1 : Nat)) && true; let Z2 : D RC := D.acons (D.bool false) .anil; let Z3 : D RC := D.int .i64 0; let Z4 : D RC := D.acons (D.int IntKind.i8 (0 : Int)) (.acons Z3 (D.acons Z3 (D.acons Z3 (D.acons Z3 (D.acons (D.str []) (.acons (D.sl RTy.int true []) .anil)))))); let Z5 : D RC := D.acons (D.bool true) .anil; bif decide (Z0 < x) then bif Z1 && true then some (D.tup (D.acons (D.acons (D.int .i64 c) (.acons (D.sl RTy.frame false [Frame.mk (92 : Int) (1 : Int) r]) (.acons (D.sl RTy.int false [x]) Z2))) (.acons Z4 Z5))) else none else bif Z1 && (mayA8 (7 : Int) (0 : Int) (0 : Int) (0 : Int) (0 : Int) [] [Z0] && decide (List.length [Z0] ≤ (96 : Nat))) then some (D.tup (D.acons (D.acons (D.int .i64 c) (.acons (D.sl RTy.frame false []) (.acons (D.sl RTy.int false [Z0]) Z5))) (.acons Z4 Z2))) else none) := by kernel_rfl
theorem goes93f0 (c : Int) (r : List Int) : goes_e c [⟨93, 0, r⟩] [] false false = (let Z0 : D RC := D.int .i64 0; bif decide ((0 : Int) ≤ c ∧ c ≤ (3 : Int) ∧ (0 : Nat) ≤ (96 : Nat) ∧ List.length [Frame.mk (93 : Int) (0 : Int) r] = (1 : Nat)) && true && true then some (D.tup (D.acons (D.acons (D.int .i64 c) (.acons (D.sl RTy.frame false [Frame.mk (93 : Int) (1 : Int) r]) (.acons (D.sl RTy.int false []) (.acons (D.bool false) .anil)))) (.acons (D.acons (D.int IntKind.i8 (0 : Int)) (.acons Z0 (D.acons Z0 (D.acons Z0 (D.acons Z0 (D.acons (D.str []) (.acons (D.sl RTy.int true []) .anil))))))) (.acons (D.bool true) .anil)))) else none) := by kernel_rfl
theorem goes93t0 (c : Int) (r : List Int) : goes_e c [⟨93, 0, r⟩] [] false true = (let Z0 : D RC := D.int .i64 0; bif decide ((0 : Int) ≤ c ∧ c ≤ (3 : Int) ∧ (0 : Nat) ≤ (96 : Nat) ∧ List.length [Frame.mk (93 : Int) (0 : Int) r] = (1 : Nat)) && true && true then some (D.tup (D.acons (D.acons (D.int .i64 c) (.acons (D.sl RTy.frame false [Frame.mk (93 : Int) (1 : Int) r]) (.acons (D.sl RTy.int false []) (.acons (D.bool false) .anil)))) (.acons (D.acons (D.int IntKind.i8 (0 : Int)) (.acons Z0 (D.acons Z0 (D.acons Z0 (D.acons Z0 (D.acons (D.str []) (.acons (D.sl RTy.int true []) .anil))))))) (.acons (D.bool true) .anil)))) else none) := by kernel_rfl
theorem goes93f1 (c x : Int) (r : List Int) : goes_e c [⟨93, 1, r⟩] [x] false false = (let Z0 : D RC := D.int .i64 0; bif decide ((0 : Int) ≤ c ∧ c ≤ (3 : Int) ∧ List.length [x] ≤ (96 : Nat) ∧ List.length [Frame.mk (93 : Int) (1 : Int) r] = (1 : Nat)) && true && true then some (D.tup (D.acons (D.acons (D.int .i64 c) (.acons (D.sl RTy.frame false [Frame.mk (93 : Int) (2 : Int) (List.set r (0 : Nat) x)]) (.acons (D.sl RTy.int false [x]) (.acons (D.bool false) .anil)))) (.acons (D.acons (D.int IntKind.i8 (0 : Int)) (.acons (D.int .i64 3) (.acons Z0 (D.acons Z0 (D.acons Z0 (D.acons (D.str []) (.acons (D.sl RTy.int true []) .anil))))))) (.acons (D.bool true) .anil)))) else none) := by kernel_rfl
theorem goes93t1 (c x : Int) (r : List Int) : goes_e c [⟨93, 1, r⟩] [x] false true = (let Z0 : D RC := D.int .i64 0; bif decide ((0 : Int) ≤ c ∧ c ≤ (3 : Int) ∧ List.length [x] ≤ (96 : Nat) ∧ List.length [Frame.mk (93 : Int) (1 : Int) r] = (1 : Nat)) && true && true then some (D.tup (D.acons (D.acons (D.int .i64 c) (.acons (D.sl RTy.frame false [Frame.mk (93 : Int) (2 : Int) (List.set r (0 : Nat) x)]) (.acons (D.sl RTy.int false [x]) (.acons (D.bool false) .anil)))) (.acons (D.acons (D.int IntKind.i8 (0 : Int)) (.acons (D.int .i64 3) (.acons Z0 (D.acons Z0 (D.acons Z0 (D.acons (D.str []) (.acons (D.sl RTy.int true []) .anil))))))) (.acons (D.bool true) .anil)))) else none) := by kernel_rfl
theorem goes93f2 (c x : Int) (r : List Int) : goes_e c [⟨93, 2, r⟩] [x] false false = (let Z0 : Int := List.getD r (0 : Nat) (0 : Int); let Z1 : Bool := decide ((0 : Int) ≤ c ∧ c ≤ (3 : Int) ∧ List.length [x] ≤ (96 : Nat) ∧ List.length [Frame.mk (93 : Int) (2 : Int) r] = (1 : Nat)) && true; let Z2 : D RC := D.int .i64 c; let Z3 : D RC := D.acons (D.bool false) .anil; let Z4 : D RC := D.acons (D.sl RTy.int false [x]) Z3; let Z5 : D RC := D.int .i64 0; let Z6 : D RC := D.acons Z5 (D.acons (D.str []) (.acons (D.sl RTy.int true []) .anil)); let Z7 : D RC := D.acons (D.bool true) .anil; let Z8 : List Int := List.set r (1 : Nat) (0 : Int); let Z9 : Int := List.getD Z8 (1 : Nat) (0 : Int); let Z10 : List Int := [flo (List.getD Z8 (0 : Nat) (0 : Int)) [List.getD Z8 (2 : Nat) (0 : Int), List.getD Z8 (3 : Nat) (0 : Int), List.getD Z8 (4 : Nat) (0 : Int), List.getD Z8 (5 : Nat) (0 : Int)]]; let Z11 : D RC := D.int IntKind.i8 (0 : Int); let Z12 : D RC := D.acons Z5 (D.acons Z5 Z6); bif decide (x < Z0) then bif Z1 && (mayA8 (2 : Int) (3 : Int) x Z0 (0 : Int) [] [] && true) then some (D.tup (D.acons (D.acons Z2 (D.acons (D.sl RTy.frame false [Frame.mk (93 : Int) (3 : Int) r]) Z4)) (.acons (D.acons (D.int IntKind.i8 (2 : Int)) (.acons (D.int .i64 3) (.acons (D.int .i64 x) (.acons (D.int .i64 Z0) Z6)))) Z7))) else none else bif cdec (OkLook Z8) then bif decide (Z9 = (4 : Int)) then bif Z1 && (mayA8 (7 : Int) (0 : Int) (0 : Int) (0 : Int) (0 : Int) [] Z10 && decide (List.length Z10 ≤ (96 : Nat))) then some (D.tup (D.acons (D.acons Z2 (D.acons (D.sl RTy.frame false []) (.acons (D.sl RTy.int false Z10) Z7))) (.acons (D.acons Z11 (D.acons Z5 Z12)) Z3))) else none else bif Z1 && (mayA8 (0 : Int) ((9 : Int) + Z9) (0 : Int) (0 : Int) (0 : Int) [] [] && true) then some (D.tup (D.acons (D.acons Z2 (D.acons (D.sl RTy.frame false [Frame.mk (93 : Int) (4 : Int) Z8]) Z4)) (.acons (D.acons Z11 (D.acons (D.int .i64 ((9 : Int) + Z9)) Z12)) Z7))) else none else none) := by kernel_rfl
theorem goes93t2 (c x : Int) (r : List Int) : goes_e c [⟨93, 2, r⟩] [x] false true = (let Z0 : Bool := decide ((0 : Int) ≤ c ∧ c ≤ (3 : Int) ∧ List.length [x] ≤ (96 : Nat) ∧ List.length [Frame.mk (93 : Int) (2 : Int) r] = (1 : Nat)) && true; let Z1 : Int := List.getD (List.set r (1 : Nat) x) (0 : Nat) (0 : Int); let Z2 : D RC := D.acons (D.sl RTy.int false [x]) (.acons (D.bool false) .anil); let Z3 : D RC := D.int .i64 0; let Z4 : D RC := D.acons Z3 (D.acons (D.str []) (.acons (D.sl RTy.int true []) .anil)); let Z5 : D RC := D.acons (D.bool true) .anil; bif decide (x < List.getD r (0 : Nat) (0 : Int)) then bif Z0 && (mayA8 (2 : Int) (3 : Int) x Z1 (0 : Int) [] [] && true) then some (D.tup (D.acons (D.acons (D.int .i64 c) (.acons (D.sl RTy.frame false [Frame.mk (93 : Int) (3 : Int) (List.set r (1 : Nat) x)]) Z2)) (.acons (D.acons (D.int IntKind.i8 (2 : Int)) (.acons (D.int .i64 3) (.acons (D.int .i64 x) (.acons (D.int .i64 Z1) Z4)))) Z5))) else none else bif Z0 && true then some (D.tup (D.acons (D.acons (D.int .i64 c) (.acons (D.sl RTy.frame false [Frame.mk (93 : Int) (4 : Int) (List.set r (2 : Nat) (0 : Int))]) Z2)) (.acons (D.acons (D.int IntKind.i8 (0 : Int)) (.acons (D.int .i64 9) (.acons Z3 (D.acons Z3 Z4)))) Z5))) else none) := by kernel_rfl
theorem goes93f3 (c x : Int) (r : List Int) : goes_e c [⟨93, 3, r⟩] [x] false false = (let Z0 : Bool := decide ((0 : Int) ≤ c ∧ c ≤ (3 : Int) ∧ List.length [x] ≤ (96 : Nat) ∧ List.length [Frame.mk (93 : Int) (3 : Int) r] = (1 : Nat)) && true; let Z1 : D RC := D.int .i64 c; let Z2 : D RC := D.acons (D.bool false) .anil; let Z3 : D RC := D.acons (D.sl RTy.int false [x]) Z2; let Z4 : D RC := D.int IntKind.i8 (0 : Int); let Z5 : D RC := D.int .i64 0; let Z6 : D RC := D.acons Z5 (D.acons Z5 (D.acons Z5 (D.acons (D.str []) (.acons (D.sl RTy.int true []) .anil)))); let Z7 : D RC := D.acons (D.bool true) .anil; let Z8 : List Int := List.set r (1 : Nat) (0 : Int); let Z9 : Int := List.getD Z8 (1 : Nat) (0 : Int); let Z10 : List Int := [flo (List.getD Z8 (0 : Nat) (0 : Int)) [List.getD Z8 (2 : Nat) (0 : Int), List.getD Z8 (3 : Nat) (0 : Int), List.getD Z8 (4 : Nat) (0 : Int), List.getD Z8 (5 : Nat) (0 : Int)]]; bif x == (0 : Int) then bif Z0 && true then some (D.tup (D.acons (D.acons Z1 (D.acons (D.sl RTy.frame false [Frame.mk (93 : Int) (2 : Int) r]) Z3)) (.acons (D.acons Z4 (D.acons (D.int .i64 3) Z6)) Z7))) else none else bif cdec (OkLook Z8) then bif decide (Z9 = (4 : Int)) then bif Z0 && (mayA8 (7 : Int) (0 : Int) (0 : Int) (0 : Int) (0 : Int) [] Z10 && decide (List.length Z10 ≤ (96 : Nat))) then some (D.tup (D.acons (D.acons Z1 (D.acons (D.sl RTy.frame false []) (.acons (D.sl RTy.int false Z10) Z7))) (.acons (D.acons Z4 (D.acons Z5 Z6)) Z2))) else none else bif Z0 && (mayA8 (0 : Int) ((9 : Int) + Z9) (0 : Int) (0 : Int) (0 : Int) [] [] && true) then some (D.tup (D.acons (D.acons Z1 (D.acons (D.sl RTy.frame false [Frame.mk (93 : Int) (4 : Int) Z8]) Z3)) (.acons (D.acons Z4 (D.acons (D.int .i64 ((9 : Int) + Z9)) Z6)) Z7))) else none else none) := by kernel_rfl
theorem goes93t3 (c x : Int) (r : List Int) : goes_e c [⟨93, 3, r⟩] [x] false true = (let Z0 : Bool := decide ((0 : Int) ≤ c ∧ c ≤ (3 : Int) ∧ List.length [x] ≤ (96 : Nat) ∧ List.length [Frame.mk (93 : Int) (3 : Int) r] = (1 : Nat)) && true && true; let Z1 : D RC := D.acons (D.sl RTy.int false [x]) (.acons (D.bool false) .anil); let Z2 : D RC := D.int IntKind.i8 (0 : Int); let Z3 : D RC := D.int .i64 0; let Z4 : D RC := D.acons Z3 (D.acons Z3 (D.acons Z3 (D.acons (D.str []) (.acons (D.sl RTy.int true []) .anil)))); let Z5 : D RC := D.acons (D.bool true) .anil; bif x == (0 : Int) then bif Z0 then some (D.tup (D.acons (D.acons (D.int .i64 c) (.acons (D.sl RTy.frame false [Frame.mk (93 : Int) (2 : Int) r]) Z1)) (.acons (D.acons Z2 (D.acons (D.int .i64 3) Z4)) Z5))) else none else bif Z0 then some (D.tup (D.acons (D.acons (D.int .i64 c) (.acons (D.sl RTy.frame false [Frame.mk (93 : Int) (4 : Int) (List.set r (2 : Nat) (0 : Int))]) Z1)) (.acons (D.acons Z2 (D.acons (D.int .i64 9) Z4)) Z5))) else none) := by kernel_rfl
theorem goes93f4 (c x : Int) (r : List Int) : goes_e c [⟨93, 4, r⟩] [x] false false = (let Z0 : Int := IntKind.wrap .i64 ((2 : Int) + List.getD r (1 : Nat) (0 : Int)); let Z1 : List Int := List.set r Z0.toNat x; let Z2 : List Int := List.set Z1 (1 : Nat) (IntKind.wrap .i64 (List.getD Z1 (1 : Nat) (0 : Int) + (1 : Int))); let Z3 : Int := List.getD Z2 (1 : Nat) (0 : Int); let Z4 : Bool := decide ((0 : Int) ≤ c ∧ c ≤ (3 : Int) ∧ List.length [x] ≤ (96 : Nat) ∧ List.length [Frame.mk (93 : Int) (4 : Int) r] = (1 : Nat)) && true; let Z5 : List Int := [flo (List.getD Z2 (0 : Nat) (0 : Int)) [List.getD Z2 (2 : Nat) (0 : Int), List.getD Z2 (3 : Nat) (0 : Int), List.getD Z2 (4 : Nat) (0 : Int), List.getD Z2 (5 : Nat) (0 : Int)]]; let Z6 : D RC := D.acons (D.bool true) .anil; let Z7 : D RC := D.int IntKind.i8 (0 : Int); let Z8 : D RC := D.int .i64 0; let Z9 : D RC := D.acons Z8 (D.acons Z8 (D.acons Z8 (D.acons (D.str []) (.acons (D.sl RTy.int true []) .anil)))); let Z10 : D RC := D.acons (D.bool false) .anil; bif decide ((0 : Int) ≤ Z0 ∧ Z0 < (96 : Int)) then bif cdec (OkLook Z2) then bif decide (Z3 = (4 : Int)) then bif Z4 && (mayA8 (7 : Int) (0 : Int) (0 : Int) (0 : Int) (0 : Int) [] Z5 && decide (List.length Z5 ≤ (96 : Nat))) then some (D.tup (D.acons (D.acons (D.int .i64 c) (.acons (D.sl RTy.frame false []) (.acons (D.sl RTy.int false Z5) Z6))) (.acons (D.acons Z7 (D.acons Z8 Z9)) Z10))) else none else bif Z4 && (mayA8 (0 : Int) ((9 : Int) + Z3) (0 : Int) (0 : Int) (0 : Int) [] [] && true) then some (D.tup (D.acons (D.acons (D.int .i64 c) (.acons (D.sl RTy.frame false [Frame.mk (93 : Int) (4 : Int) Z2]) (.acons (D.sl RTy.int false [x]) Z10))) (.acons (D.acons Z7 (D.acons (D.int .i64 ((9 : Int) + Z3)) Z9)) Z6))) else none else none else none) := by kernel_rfl
theorem goes93t4 (c x : Int) (r : List Int) : goes_e c [⟨93, 4, r⟩] [x] false true = (let Z0 : Int := List.getD r (2 : Nat) (0 : Int); let Z1 : Int := if Z0 < (0 : Int) then (0 : Int) else Z0; let Z2 : Int := if (3 : Int) < Z1 then (3 : Int) else Z1; let Z3 : Int := IntKind.wrap .i64 ((3 : Int) + Z2); let Z4 : Int := IntKind.wrap .i64 (Z2 + (1 : Int)); let Z5 : Bool := decide ((0 : Int) ≤ c ∧ c ≤ (3 : Int) ∧ List.length [x] ≤ (96 : Nat) ∧ List.length [Frame.mk (93 : Int) (4 : Int) r] = (1 : Nat)) && true; let Z6 : Int := lRow (9 : Int) Z4 (4 : Int); let Z7 : List Int := List.set (List.set r Z3.toNat x) (2 : Nat) Z4; let Z8 : D RC := D.acons (D.bool false) .anil; let Z9 : D RC := D.int IntKind.i8 (0 : Int); let Z10 : D RC := D.int .i64 0; let Z11 : D RC := D.acons Z10 (D.acons Z10 (D.acons Z10 (D.acons (D.str []) (.acons (D.sl RTy.int true []) .anil)))); let Z12 : D RC := D.acons (D.bool true) .anil; let Z13 : List Int := [] ++ [List.getD Z7 (3 : Nat) (0 : Int)] ++ [List.getD Z7 (4 : Nat) (0 : Int)] ++ [List.getD Z7 (5 : Nat) (0 : Int)] ++ [List.getD Z7 (6 : Nat) (0 : Int)]; let Z14 : List Int := [flo (List.getD Z7 (0 : Nat) (0 : Int)) Z13]; bif decide ((0 : Int) ≤ Z3 ∧ Z3 < (96 : Int)) then bif decide (Z4 < (4 : Int)) then bif Z5 && (mayA8 (0 : Int) Z6 (0 : Int) (0 : Int) (0 : Int) [] [] && true) then some (D.tup (D.acons (D.acons (D.int .i64 c) (.acons (D.sl RTy.frame false [Frame.mk (93 : Int) (4 : Int) Z7]) (.acons (D.sl RTy.int false [x]) Z8))) (.acons (D.acons Z9 (D.acons (D.int .i64 Z6) Z11)) Z12))) else none else bif lenOK Z13.length && smallS Z13 then bif Z5 && (mayA8 (7 : Int) (0 : Int) (0 : Int) (0 : Int) (0 : Int) [] Z14 && decide (List.length Z14 ≤ (96 : Nat))) then some (D.tup (D.acons (D.acons (D.int .i64 c) (.acons (D.sl RTy.frame false []) (.acons (D.sl RTy.int false Z14) Z12))) (.acons (D.acons Z9 (D.acons Z10 Z11)) Z8))) else none else none else none) := by kernel_rfl
theorem goes_ok (c : Int) (st : List Frame) (got : List Int) (over : Bool) (own : Bool) (h : (cdec (okO own c st got) && !over) = true) : goes_e c st got over own = some (.tup (.acons (.acons (.int .i64 c) (.acons (.sl (C := RC) .frame false (goO own st got).st) (.acons (.sl (C := RC) .int false (goO own st got).got) (.acons (.bool (goO own st got).over) .anil)))) (.acons (.acons (.int .i8 (goO own st got).kind) (.acons (.int .i64 (goO own st got).a) (.acons (.int .i64 (goO own st got).b) (.acons (.int .i64 (goO own st got).v) (.acons (.int .i64 (goO own st got).g) (.acons (.str []) (.acons (.sl (C := RC) .int true []) .anil))))))) (.acons (.bool (goO own st got).is) .anil)))) := by
  simp only [Bool.and_eq_true, Bool.not_eq_true'] at h
  obtain ⟨h, rfl⟩ := h
  obtain ⟨c0, c3, p, k, r, rfl, hr, hk⟩ := cdec_iff.1 h
  clear h
  have mT : ∀ kd a b v : Int, MayA kd a b v 0 0 0 → mayA8 kd a b v 0 [] [] = true := fun kd a b v h => decide_eq_true h
  have mE : ∀ y : Int, mayA8 7 0 0 0 0 [] [y] = true := fun y => decide_eq_true (by unfold MayA; simp)
  have t0 : ∀ f : Frame, decide (0 ≤ c ∧ c ≤ 3 ∧ (0 : Nat) ≤ 96 ∧ [f].length = 1) = true := fun f => decide_eq_true ⟨c0, c3, by decide, rfl⟩
  have t1 : ∀ (x : Int) (f : Frame), decide (0 ≤ c ∧ c ≤ 3 ∧ [x].length ≤ 96 ∧ [f].length = 1) = true := fun x f => decide_eq_true ⟨c0, c3, by simp, rfl⟩
  have a1 : ∀ y : Int, decide ([y].length ≤ 96) = true := fun y => rfl
  rcases hk with ⟨rfl, ⟨rfl, rfl⟩ | ⟨x, rfl, k1, k3, x0, x1, r0, r3⟩⟩ | ⟨rfl, ⟨rfl, rfl⟩ | ⟨x, rfl, k1, k4, x0, x1, hw, h4⟩⟩
  · cases own
    · rw [goes92f0, t0]; rfl
    · rw [goes92t0, t0]; rfl
  · have hL : lRow 9 (r.getD 0 0) 4 = 9 + r.getD 0 0 := by rw [lRow, if_pos ⟨r0, by omega⟩]
    have g01 : (r.set 1 x).getD 0 0 = r.getD 0 0 := getD_set_ne' (by decide)
    have hv : IntKind.i64.wrap (x + 1) = x + 1 := wrap_id (by omega) (by omega)
    have hks : k = 1 ∨ k = 2 ∨ k = 3 := by omega
    rcases hks with rfl | rfl | rfl
    · cases own
      · (rw [goes92f1]; conv => zeta)
        simp only [g01, hL, hv]
        rw [t1, mT 1 (9 + r.getD 0 0) 0 (x + 1) (by unfold MayA; omega), oB1, hL]
        rfl
      · (rw [goes92t1]; conv => zeta)
        simp only [g01, hL, hv]
        rw [t1, mT 1 (9 + r.getD 0 0) 0 (x + 1) (by unfold MayA; omega), oB1, hL]
        rfl
    · cases own
      · rw [goes92f2, t1]; rfl
      · rw [goes92t2, t1]; rfl
    · cases own
      · rw [goes92f3, oB3]
        refine cond2 (fun q => ?_) fun q => ?_
        · rw [if_pos (of_decide_eq_true q), t1]; rfl
        · rw [if_neg (of_decide_eq_false q), t1, mE, a1]; rfl
      · rw [goes92t3, oB3]
        refine cond2 (fun q => ?_) fun q => ?_
        · rw [if_pos (of_decide_eq_true q), t1]; rfl
        · rw [if_neg (of_decide_eq_false q), t1, mE, a1]; rfl
  · cases own
    · rw [goes93f0, t0]; rfl
    · rw [goes93t0, t0]; rfl
  · have hks : k = 1 ∨ k = 2 ∨ k = 3 ∨ k = 4 := by omega
    have e10 : (r.set 1 0).getD 1 0 = 0 := getD_set_eq (by omega)
    have L0 : cdec (OkLook (r.set 1 0)) = true := cdec_true ⟨by rw [List.length_set]; exact hr, by omega, by omega, fun h => by omega⟩
    have d0 : decide ((0 : Int) = 4) = false := rfl
    rcases hks with rfl | rfl | rfl | rfl
    · cases own
      · rw [goes93f1, t1]; rfl
      · rw [goes93t1, t1]; rfl
    · have hw := hw (by decide)
      have g01 : (r.set 1 x).getD 0 0 = r.getD 0 0 := getD_set_ne' (by decide)
      cases own
      · rw [goes93f2, oA2]
        refine cond2 (fun q => ?_) fun q => ?_
        · have q := of_decide_eq_true q
          rw [if_pos q, t1, mT 2 3 x (r.getD 0 0) (by unfold MayA; omega)]; rfl
        · have q := of_decide_eq_false q
          rw [if_neg q, L0, e10, d0, t1]; rfl
      · rw [goes93t2, oC2]
        refine cond2 (fun q => ?_) fun q => ?_
        · have q := of_decide_eq_true q
          rw [if_pos q, g01, t1, mT 2 3 x (r.getD 0 0) (by unfold MayA; omega)]; rfl
        · have q := of_decide_eq_false q
          rw [if_neg q, t1]; rfl
    · cases own
      · rw [goes93f3, oA3]
        refine cond2 (fun q => ?_) fun q => ?_
        · have q := eq_of_beq q
          rw [if_pos q, t1]; rfl
        · have q := ne_of_beq_false q
          rw [if_neg q, L0, e10, d0, t1]; rfl
      · rw [goes93t3, oC3]
        refine cond2 (fun q => ?_) fun q => ?_
        · have q := eq_of_beq q
          rw [if_pos q, t1]; rfl
        · have q := ne_of_beq_false q
          rw [if_neg q, t1]; rfl
    · have h4 := h4 rfl
      have hw := hw (by decide)
      cases own
      · obtain ⟨j0, j3, jb⟩ : 0 ≤ r.getD 1 0 ∧ r.getD 1 0 ≤ 3 ∧ (r.getD 1 0 = 3 → r.getD 2 0 ≤ 1000000000 ∧ r.getD 3 0 ≤ 1000000000 ∧ r.getD 4 0 ≤ 1000000000) := h4
        have v1 : IntKind.i64.wrap (2 + r.getD 1 0) = 2 + r.getD 1 0 := wrap_id (by omega) (by omega)
        have v2 : (2 + r.getD 1 0).toNat = 2 + (r.getD 1 0).toNat := by omega
        have v3 : (r.set (2 + (r.getD 1 0).toNat) x).getD 1 0 = r.getD 1 0 := getD_set_ne' (by omega)
        have v4 : IntKind.i64.wrap (r.getD 1 0 + 1) = r.getD 1 0 + 1 := wrap_id (by omega) (by omega)
        have b0 : decide (0 ≤ 2 + r.getD 1 0 ∧ 2 + r.getD 1 0 < 96) = true := decide_eq_true ⟨by omega, by omega⟩
        have w1 : ((r.set (2 + (r.getD 1 0).toNat) x).set 1 (r.getD 1 0 + 1)).getD 1 0 = r.getD 1 0 + 1 := getD_set_eq (by rw [List.length_set]; omega)
        have w0 : ((r.set (2 + (r.getD 1 0).toNat) x).set 1 (r.getD 1 0 + 1)).getD 0 0 = r.getD 0 0 := by rw [getD_set_ne' (by decide), getD_set_ne' (by omega)]
        have wi : ∀ i, ((r.set (2 + (r.getD 1 0).toNat) x).set 1 (r.getD 1 0 + 1)).getD (2 + i) 0 = if i = (r.getD 1 0).toNat then x else r.getD (2 + i) 0 := fun i => by
          rw [getD_set_ne' (by omega), getD_set _ _ _ _ _ (by omega)]
          by_cases e : i = (r.getD 1 0).toNat
          · rw [if_pos (by omega), if_pos e]
          · rw [if_neg (by omega), if_neg e]
        have w2 : ((r.set (2 + (r.getD 1 0).toNat) x).set 1 (r.getD 1 0 + 1)).getD 2 0 = if 0 = (r.getD 1 0).toNat then x else r.getD 2 0 := wi 0
        have w3 : ((r.set (2 + (r.getD 1 0).toNat) x).set 1 (r.getD 1 0 + 1)).getD 3 0 = if 1 = (r.getD 1 0).toNat then x else r.getD 3 0 := wi 1
        have w4 : ((r.set (2 + (r.getD 1 0).toNat) x).set 1 (r.getD 1 0 + 1)).getD 4 0 = if 2 = (r.getD 1 0).toNat then x else r.getD 4 0 := wi 2
        have w5 : ((r.set (2 + (r.getD 1 0).toNat) x).set 1 (r.getD 1 0 + 1)).getD 5 0 = if 3 = (r.getD 1 0).toNat then x else r.getD 5 0 := wi 3
        rw [goes93f4, oA4]
        simp only [v1, v2, v3, v4, b0, cond_true]
        by_cases e : r.getD 1 0 = 3
        · have n3 : (r.getD 1 0).toNat = 3 := by omega
          obtain ⟨j2, j3, j4⟩ := jb e
          rw [n3] at w0 w1 w2 w3 w4 w5 ⊢
          rw [if_neg (by decide)] at w2 w3 w4
          rw [if_pos rfl] at w5
          have L1 : cdec (OkLook ((r.set (2 + 3) x).set 1 (r.getD 1 0 + 1))) = true := cdec_true ⟨by rw [List.length_set, List.length_set]; exact hr, by rw [w1]; omega, by rw [w1]; omega, fun _ => by rw [w2, w3, w4, w5]; exact ⟨by omega, by omega, by omega, by omega⟩⟩
          rw [L1]
          simp only [w0, w1, w2, w3, w4, w5, cond_true]
          rw [decide_eq_true (show r.getD 1 0 + 1 = 4 by omega), t1, mE, a1, if_pos e]; rfl
        · have L1 : cdec (OkLook ((r.set (2 + (r.getD 1 0).toNat) x).set 1 (r.getD 1 0 + 1))) = true := cdec_true ⟨by rw [List.length_set, List.length_set]; exact hr, by rw [w1]; omega, by rw [w1]; omega, fun h => by rw [w1] at h; omega⟩
          rw [L1]
          simp only [w1, cond_true]
          have e9 : (9 : Int) + (r.getD 1 0 + 1) = 10 + r.getD 1 0 := by omega
          rw [decide_eq_false (show ¬ (r.getD 1 0 + 1 = 4) by omega), e9, t1, mT 0 (10 + r.getD 1 0) 0 0 (by unfold MayA; omega), if_neg e]; rfl
      · obtain ⟨j0, j3, jb⟩ : 0 ≤ r.getD 2 0 ∧ r.getD 2 0 ≤ 3 ∧ (r.getD 2 0 = 3 → r.getD 3 0 ≤ 1000000000 ∧ r.getD 4 0 ≤ 1000000000 ∧ r.getD 5 0 ≤ 1000000000) := h4
        have v0 : (if (3 : Int) < (if r.getD 2 0 < 0 then 0 else r.getD 2 0) then 3 else (if r.getD 2 0 < 0 then 0 else r.getD 2 0)) = r.getD 2 0 := by rw [if_neg (show ¬ (r.getD 2 0 < 0) by omega), if_neg (by omega)]
        have v1 : IntKind.i64.wrap (3 + r.getD 2 0) = 3 + r.getD 2 0 := wrap_id (by omega) (by omega)
        have v2 : (3 + r.getD 2 0).toNat = 3 + (r.getD 2 0).toNat := by omega
        have v4 : IntKind.i64.wrap (r.getD 2 0 + 1) = r.getD 2 0 + 1 := wrap_id (by omega) (by omega)
        have b0 : decide (0 ≤ 3 + r.getD 2 0 ∧ 3 + r.getD 2 0 < 96) = true := decide_eq_true ⟨by omega, by omega⟩
        have w0 : ((r.set (3 + (r.getD 2 0).toNat) x).set 2 (r.getD 2 0 + 1)).getD 0 0 = r.getD 0 0 := by rw [getD_set_ne' (by decide), getD_set_ne' (by omega)]
        have wi : ∀ i, ((r.set (3 + (r.getD 2 0).toNat) x).set 2 (r.getD 2 0 + 1)).getD (3 + i) 0 = if i = (r.getD 2 0).toNat then x else r.getD (3 + i) 0 := fun i => by
          rw [getD_set_ne' (by omega), getD_set _ _ _ _ _ (by omega)]
          by_cases e : i = (r.getD 2 0).toNat
          · rw [if_pos (by omega), if_pos e]
          · rw [if_neg (by omega), if_neg e]
        have w3 : ((r.set (3 + (r.getD 2 0).toNat) x).set 2 (r.getD 2 0 + 1)).getD 3 0 = if 0 = (r.getD 2 0).toNat then x else r.getD 3 0 := wi 0
        have w4 : ((r.set (3 + (r.getD 2 0).toNat) x).set 2 (r.getD 2 0 + 1)).getD 4 0 = if 1 = (r.getD 2 0).toNat then x else r.getD 4 0 := wi 1
        have w5 : ((r.set (3 + (r.getD 2 0).toNat) x).set 2 (r.getD 2 0 + 1)).getD 5 0 = if 2 = (r.getD 2 0).toNat then x else r.getD 5 0 := wi 2
        have w6 : ((r.set (3 + (r.getD 2 0).toNat) x).set 2 (r.getD 2 0 + 1)).getD 6 0 = if 3 = (r.getD 2 0).toNat then x else r.getD 6 0 := wi 3
        rw [goes93t4, oC4]
        simp only [v0, v1, v2, v4, b0, cond_true]
        by_cases e : r.getD 2 0 = 3
        · have n3 : (r.getD 2 0).toNat = 3 := by omega
          obtain ⟨j2, j3, j4⟩ := jb e
          rw [n3] at w0 w3 w4 w5 w6 ⊢
          rw [if_neg (by decide)] at w3 w4 w5
          rw [if_pos rfl] at w6
          have hS : smallS [r.getD 3 0, r.getD 4 0, r.getD 5 0, x] = true := by
            simp only [smallS, List.all_cons, List.all_nil, Bool.and_true, Bool.and_eq_true, decide_eq_true_eq]
            exact ⟨by omega, by omega, by omega, by omega⟩
          simp only [w0, w3, w4, w5, w6, List.nil_append, List.cons_append, hS]
          rw [decide_eq_false (show ¬ (r.getD 2 0 + 1 < 4) by omega), t1, mE, a1, if_pos e]; rfl
        · have hL : lRow 9 (r.getD 2 0 + 1) 4 = 10 + r.getD 2 0 := by rw [lRow, if_pos ⟨by omega, by omega⟩]; omega
          rw [decide_eq_true (show r.getD 2 0 + 1 < 4 by omega), hL, t1, mT 0 (10 + r.getD 2 0) 0 0 (by unfold MayA; omega), if_neg e]; rfl
noncomputable def ue_1 := ud_5.addSpec 25 goes_sp
theorem ue_1_laws : FLaws Tryz.prog s23 ue_1 := ud_5_laws.addEv s23_laws fun args d h => by
  unfold goes_sp at h
  split at h
  · unfold goes_s at h
    have h1 := congrArg Prod.fst (Option.some.inj h)
    obtain rfl : _ = d := congrArg Prod.snd (Option.some.inj h)
    exact ⟨by simp [D.refs], 200, goes_ok _ _ _ _ _ h1⟩
  · cases h
open Go.Proofs
structure rowRl_St where
  c : Bool
  l : List Sector
  i : Nat
def rowRl_c (c : Bool) (l : List Sector) (i : Nat) : Env RC := [(0, .sl (C := RC) .sector c l), (2, .bool false), (3, .int .i64 (i : Int))]
def rowRl_o (c : Bool) (l : List Sector) (i : Nat) : List (Obj RC) := []
noncomputable def rowRl_r (c : Bool) (l : List Sector) (i : Nat) := rndO s23 ue_1 121 4 40 0 [0, 2, 3] [2] [] (rowRl_c c l i) (rowRl_o c l i)
theorem rowRl_eq (c : Bool) (l : List Sector) (i : Nat) : rowRl_r c l i = (let Z0 : Int := (↑i : Int); let Z1 : Bool := decide ((0 : Int) ≤ Z0 ∧ Z0 < (↑l.length : Int)); let Z2 : Sector := List.getD l Z0.toNat (Sector.mk (0 : Int) []); let Z3 : Int := Sector.n Z2; let Z4 : RO_ := some ((X.ret, [(2, D.bool false)]), []); let Z5 : Nat := List.length (Sector.b Z2); let Z6 : RO_ := some ((X.normal, [(0, D.sl RTy.sector c l), (2, D.bool false), (3, D.int .i64 (IntKind.wrap .i64 (Z0 + (1 : Int))))]), []); bif lenOK l.length then bif decide (Z0 < (↑l.length : Int)) then bif Z1 then bif decide (Z3 < (0 : Int)) then Z4 else bif Z1 then bif decide ((1048575 : Int) < Z3) then Z4 else bif Z1 then bif lenOK Z5 then bif decide ((640 : Int) < (↑Z5 : Int)) then Z4 else bif Z1 then bif Z3 == (0 : Int) then bif Z1 then bif !Sector.b Z2 == Array.toList #[] then Z4 else Z6 else none else Z6 else none else none else none else none else none else some ((X.exit (0 : Nat), [(2, D.bool false)]), []) else none) := by kernel_rfl
def rowRl_fin (c : Bool) (l : List Sector) (i : Nat) : RT RC := .br (l.drop i |>.all maySec) (.leaf (.exit 0) [(2, .bool false)] []) (.leaf .ret [(2, .bool false)] [])
def rowRl_Inv (c : Bool) (l : List Sector) (i : Nat) : Prop := i ≤ l.length ∧ goodL l = true
def rowRl_S : LoopR RC rowRl_St where
  k := 0
  canon q := rowRl_c q.c q.l q.i
  objs q := rowRl_o q.c q.l q.i
  fin q := rowRl_fin q.c q.l q.i
  Inv q := rowRl_Inv q.c q.l q.i
  μ q := q.l.length - q.i
theorem rowRl_round (c : Bool) (l : List Sector) (i : Nat) (hI : rowRl_Inv c l i) : Leaf (rowRl_r c l i) (LedR rowRl_S ⟨c, l, i⟩) := by
  (rw [rowRl_eq]; conv => zeta)
  unfold rowRl_Inv at hI
  obtain ⟨h1, hg⟩ := hI
  have h2 := (goodL_iff.1 hg).1
  have hlk0 : lenOK l.length = true := lenOK_of h2
  by_cases hlt : i < l.length
  · have w_succ : IntKind.i64.wrap ((i : Int) + 1) = ((i + 1 : Nat) : Int) := by rw [wrap_id (by omega) (by omega)]; simp
    have d_lt : decide ((i : Int) < l.length) = true := by simp; omega
    have d_in : decide (0 ≤ (i : Int) ∧ (i : Int) < l.length) = true := by simp; omega
    have t_nat : ((i : Int)).toNat = i := by simp
    simp only [w_succ, d_lt, d_in, t_nat, cond_true]
    have hlk := goodL_at hg i hlt (⟨0, []⟩ : Sector)
    have hst := all_drop_step l maySec i hlt (⟨0, []⟩ : Sector)
    generalize l.getD i (⟨0, []⟩ : Sector) = x at hst hlk ⊢
    simp only [hlk0, hlk, cond_true]
    have hgo : maySec x = true → Leaf (some ((X.normal, rowRl_c c l (i + 1)), [])) (LedR rowRl_S ⟨c, l, i⟩) := fun e =>
      leafR_go ⟨c, l, i + 1⟩ ⟨hlt, hg⟩ (by simp only [rowRl_S]; omega) (by simp [rowRl_S, rowRl_fin, hst, e]) rfl rfl
    have hno : maySec x = false → Leaf (some ((X.ret, [(2, D.bool false)]), [])) (LedR rowRl_S ⟨c, l, i⟩) := fun e => leafR_ret [] (by simp [rowRl_S, rowRl_fin, hst, e, RT.val]) rfl
    have hm : maySec x = (decide (0 ≤ x.n) && decide (x.n ≤ 1048575) && decide (x.b.length ≤ 640) && (decide (0 < x.n) || x.b == [])) := rfl
    rw [hm] at hgo hno
    repeat' (refine leaf_cond.2 ⟨fun hc_ => ?_, fun hc_ => ?_⟩)
    all_goals first | exact hno (by clear hgo hno hst hm; simp_all <;> omega) | exact hgo (by clear hgo hno hst hm; simp_all <;> omega)
  · have hi : i = l.length := by omega
    have c1 : decide ((i : Int) < l.length) = false := by simp; omega
    rw [hlk0, c1]
    exact leafR_exit [] (by simp [rowRl_S, rowRl_fin, hi, RT.val]) rfl
def rowRl_d (env : Env RC) (os : List (Obj RC)) : Option (Bool × rowRl_St) := match env, os with
  | [(0, .sl .sector c l), (2, .bool false), (3, .int .i64 x0)], [] => staticD (true) (decide (x0 = 0) && goodL l, ⟨c, l, 0⟩)
  | _, _ => none
noncomputable def uf_1 := ue_1.addLoop 121 4 (sumR s23 [] [0, 2, 3] rowRl_S rowRl_d)
theorem uf_1_laws : FLaws Tryz.prog s23 uf_1 := by
  refine ue_1_laws.addRoundsR s23_laws (by kernel_rfl) rowRl_S 40 [0, 2, 3] [2] [] [0, 2, 3] rowRl_d (fun q hI => ?_) ?_
  · obtain ⟨c, l, i⟩ := q
    refine ⟨?_, ?_, rowRl_round c l i hI⟩
    · simp_all [RefsOK, rowRl_S, rowRl_c, rowRl_o, rowRl_Inv, D.refs, Obj.refs, rEnc]
    · simp_all [rowRl_S, rowRl_fin, rowRl_o, rowRl_Inv, RT.refsOK, RefsOK, D.refs, Obj.refs, rEnc]
  · intro env os b q hd_ hb
    unfold rowRl_d at hd_
    split at hd_
    · obtain ⟨hs, hd_⟩ := staticD_some hd_
      cases hd_
      simp only [Bool.and_eq_true, decide_eq_true_eq] at hb
      obtain ⟨rfl, hl⟩ := hb
      exact ⟨⟨Nat.zero_le _, hl⟩, rfl, rfl⟩
    · cases hd_
def rowRf_s (c : Bool) (l : List Sector) : Option (Bool × D RC) := some (goodL l, .bool (rowOK l))
def rowRf_sp : List (D RC) → Option (Bool × D RC)
  | [.sl .sector c l] => rowRf_s c l
  | _ => none
noncomputable def rowRf_e (c : Bool) (l : List Sector) := evF s23 uf_1 40 121 [.sl (C := RC) .sector c l]
theorem rowRf_eq (c : Bool) (l : List Sector) : rowRf_e c l = (bif lenOK l.length then bif (↑l.length : Int) != (33 : Int) then some (D.bool false) else bif goodL l then bif List.all (List.drop (0 : Nat) l) maySec then some (D.bool true) else some (D.bool false) else none else none) := by kernel_rfl
theorem rowRf_ok (c : Bool) (l : List Sector) (h : (goodL l) = true) : rowRf_e c l = some (.bool (rowOK l)) := by
  rw [rowRf_eq]
  have hl := (goodL_iff.1 h).1
  have lk := lenOK_of hl
  simp only [h, lk, rowOK, cond_true, List.drop_zero]
  by_cases e : l.length = 33
  · have e2 : ((l.length : Int) != 33) = false := by simp [e]
    cases hm : l.all maySec <;> simp [e, hm]
  · have e2 : ((l.length : Int) != 33) = true := by simp [bne]; omega
    simp [e, e2]
noncomputable def uf_2 := uf_1.addSpec 121 rowRf_sp
theorem uf_2_laws : FLaws Tryz.prog s23 uf_2 := uf_1_laws.addEv s23_laws fun args d h => by
  unfold rowRf_sp at h
  split at h
  · unfold rowRf_s at h
    have h1 := congrArg Prod.fst (Option.some.inj h)
    obtain rfl : _ = d := congrArg Prod.snd (Option.some.inj h)
    exact ⟨by simp [D.refs], 40, rowRf_ok _ _ h1⟩
  · cases h
structure chkRl_St where
  c : Bool
  now : List Sector
  d : Bool
  sure : List Sector
  i : Nat
def chkRl_c (c : Bool) (now : List Sector) (d : Bool) (sure : List Sector) (i : Nat) : Env RC := [(1, .ptr 0 []), (2, .int .i64 0), (3, .int .i64 (i : Int))]
def chkRl_o (c : Bool) (now : List Sector) (d : Bool) (sure : List Sector) (i : Nat) : List (Obj RC) := [.var 38 (.acons (.sl (C := RC) .sector c now) (.acons (.sl (C := RC) .sector d sure) .anil))]
noncomputable def chkRl_r (c : Bool) (now : List Sector) (d : Bool) (sure : List Sector) (i : Nat) := rndO s23 uf_2 83 4 40 1 [1, 2, 3] [2] [.slot 1 0] (chkRl_c c now d sure i) (chkRl_o c now d sure i)
theorem chkRl_eq (c : Bool) (now : List Sector) (d : Bool) (sure : List Sector) (i : Nat) : chkRl_r c now d sure i = (let Z0 : Int := (↑i : Int); let Z1 : List (Option (Obj RC)) := [some (Obj.var 38 (.acons (D.sl RTy.sector c now) (.acons (D.sl RTy.sector d sure) .anil)))]; let Z2 : Nat × D RC := (2, D.int .i64 0); bif lenOK now.length then bif decide (Z0 < (↑now.length : Int)) then bif decide ((0 : Int) ≤ Z0 ∧ Z0 < (↑sure.length : Int)) then bif decide ((0 : Int) ≤ Z0 ∧ Z0 < (↑now.length : Int)) then bif decide (Sector.n (List.getD now Z0.toNat (Sector.mk (0 : Int) [])) < Sector.n (List.getD sure Z0.toNat (Sector.mk (0 : Int) []))) then some ((X.ret, [(2, D.int .i64 2)]), Z1) else some ((X.normal, [(1, D.ptr 0 []), Z2, (3, D.int .i64 (IntKind.wrap .i64 (Z0 + (1 : Int))))]), Z1) else none else none else some ((X.exit (0 : Nat), [Z2]), Z1) else none) := by kernel_rfl
def chkRl_fin (c : Bool) (now : List Sector) (d : Bool) (sure : List Sector) (i : Nat) : RT RC := .br (lowAt now sure i) (.leaf (.exit 0) [(2, .int .i64 0)] (chkRl_o c now d sure i)) (.leaf .ret [(2, .int .i64 2)] (chkRl_o c now d sure i))
def chkRl_Inv (c : Bool) (now : List Sector) (d : Bool) (sure : List Sector) (i : Nat) : Prop := i ≤ now.length ∧ now.length ≤ 9223372036854775807 ∧ now.length = sure.length
def chkRl_S : LoopR RC chkRl_St where
  k := 1
  canon q := chkRl_c q.c q.now q.d q.sure q.i
  objs q := chkRl_o q.c q.now q.d q.sure q.i
  fin q := chkRl_fin q.c q.now q.d q.sure q.i
  Inv q := chkRl_Inv q.c q.now q.d q.sure q.i
  μ q := q.now.length - q.i
theorem chkRl_round (c : Bool) (now : List Sector) (d : Bool) (sure : List Sector) (i : Nat) (hI : chkRl_Inv c now d sure i) : Leaf (chkRl_r c now d sure i) (LedR chkRl_S ⟨c, now, d, sure, i⟩) := by
  (rw [chkRl_eq]; conv => zeta)
  unfold chkRl_Inv at hI
  obtain ⟨h1, h2, h3⟩ := hI
  have hlk0 : lenOK now.length = true := lenOK_of h2
  by_cases hlt : i < now.length
  · have w_succ : IntKind.i64.wrap ((i : Int) + 1) = ((i + 1 : Nat) : Int) := by rw [wrap_id (by omega) (by omega)]; simp
    have d_lt : decide ((i : Int) < now.length) = true := by simp; omega
    have d_in : decide (0 ≤ (i : Int) ∧ (i : Int) < now.length) = true := by simp; omega
    have t_nat : ((i : Int)).toNat = i := by simp
    simp only [w_succ, d_lt, d_in, t_nat, cond_true]
    have hlt2 : i < sure.length := by omega
    have d_in2 : decide (0 ≤ (i : Int) ∧ (i : Int) < sure.length) = true := by simp; omega
    simp only [d_in2, hlk0, cond_true]
    have hst := lowAt_step (now := now) (sure := sure) i hlt (by omega) (⟨0, []⟩ : Sector)
    generalize now.getD i (⟨0, []⟩ : Sector) = x at hst ⊢
    generalize sure.getD i (⟨0, []⟩ : Sector) = y at hst ⊢
    cases a1 : decide (y.n ≤ x.n)
    · have a2 : decide (x.n < y.n) = true := by simp at a1 ⊢; exact a1
      simp only [a2, cond_true]
      exact leafR_ret (chkRl_o c now d sure i) (by simp [chkRl_S, chkRl_fin, hst, a1, RT.val]) rfl
    · have a2 : decide (x.n < y.n) = false := by simp at a1 ⊢; exact a1
      simp only [a2, cond_false]
      exact leafR_go ⟨c, now, d, sure, i + 1⟩ ⟨hlt, h2, h3⟩ (by simp only [chkRl_S]; omega) (by simp [chkRl_S, chkRl_fin, hst, a1]; rfl) rfl rfl
  · have hi : i = now.length := by omega
    have c1 : decide ((i : Int) < now.length) = false := by simp; omega
    rw [hlk0, c1]
    exact leafR_exit (chkRl_o c now d sure i) (by simp [chkRl_S, chkRl_fin, hi, lowAt_end, RT.val]) rfl
def chkRl_d (env : Env RC) (os : List (Obj RC)) : Option (Bool × chkRl_St) := match env, os with
  | [(1, .ptr 0 []), (2, .int .i64 0), (3, .int .i64 x0)], [.var 38 (.acons (.sl .sector c now) (.acons (.sl .sector d sure) .anil))] => staticD (true) (decide (x0 = 0) && decide (now.length ≤ 9223372036854775807 ∧ now.length = sure.length), ⟨c, now, d, sure, 0⟩)
  | _, _ => none
noncomputable def uf_3 := uf_2.addLoop 83 4 (sumR s23 [.slot 1 0] [1, 2, 3] chkRl_S chkRl_d)
theorem uf_3_laws : FLaws Tryz.prog s23 uf_3 := by
  refine uf_2_laws.addRoundsR s23_laws (by kernel_rfl) chkRl_S 40 [1, 2, 3] [2] [.slot 1 0] [1, 2, 3] chkRl_d (fun q hI => ?_) ?_
  · obtain ⟨c, now, d, sure, i⟩ := q
    refine ⟨?_, ?_, chkRl_round c now d sure i hI⟩
    · simp_all [RefsOK, chkRl_S, chkRl_c, chkRl_o, chkRl_Inv, D.refs, Obj.refs, rEnc]
    · simp_all [chkRl_S, chkRl_fin, chkRl_o, chkRl_Inv, RT.refsOK, RefsOK, D.refs, Obj.refs, rEnc]
  · intro env os b q hd_ hb
    unfold chkRl_d at hd_
    split at hd_
    · obtain ⟨hs, hd_⟩ := staticD_some hd_
      cases hd_
      simp only [Bool.and_eq_true, decide_eq_true_eq] at hb
      obtain ⟨rfl, hl⟩ := hb
      exact ⟨⟨Nat.zero_le _, hl⟩, rfl, rfl⟩
    · cases hd_
def checkR_s (c : Bool) (now : List Sector) (d : Bool) (sure : List Sector) : Option (Bool × D RC) := some (goodL now && goodL sure, .int .i64 (bif diskOK now sure then 0 else 2))
def checkR_sp : List (D RC) → Option (Bool × D RC)
  | [.acons (.sl .sector c now) (.acons (.sl .sector d sure) .anil)] => checkR_s c now d sure
  | _ => none
noncomputable def checkR_e (c : Bool) (now : List Sector) (d : Bool) (sure : List Sector) := evF s23 uf_3 40 83 [.acons (.sl (C := RC) .sector c now) (.acons (.sl (C := RC) .sector d sure) .anil)]
theorem checkR_eq (c : Bool) (now : List Sector) (d : Bool) (sure : List Sector) : checkR_e c now d sure = (let Z0 : DO_ := some (D.int .i64 2); bif goodL now then bif !rowOK now then Z0 else bif goodL sure then bif !rowOK sure then Z0 else bif decide (List.length now ≤ (9223372036854775807 : Nat) ∧ List.length now = List.length sure) then bif lowAt now sure (0 : Nat) then some (D.int .i64 0) else Z0 else none else none else none) := by kernel_rfl
theorem checkR_ok (c : Bool) (now : List Sector) (d : Bool) (sure : List Sector) (h : (goodL now && goodL sure) = true) : checkR_e c now d sure = some (.int .i64 (bif diskOK now sure then 0 else 2)) := by
  (rw [checkR_eq]; conv => zeta)
  rw [Bool.and_eq_true] at h
  obtain ⟨hg, hgs⟩ := h
  have hl := (goodL_iff.1 hg).1
  simp only [hg, hgs, cond_true, diskOK]
  cases h1 : rowOK now
  · rfl
  cases h2 : rowOK sure
  · rfl
  have l1 := rowOK_len h1
  have l2 := rowOK_len h2
  have e : decide (now.length ≤ 9223372036854775807 ∧ now.length = sure.length) = true := by simp; omega
  cases h3 : lowAt now sure 0 <;> simp [e]
noncomputable def uf_4 := uf_3.addSpec 83 checkR_sp
theorem uf_4_laws : FLaws Tryz.prog s23 uf_4 := uf_3_laws.addEv s23_laws fun args d h => by
  unfold checkR_sp at h
  split at h
  · unfold checkR_s at h
    have h1 := congrArg Prod.fst (Option.some.inj h)
    obtain rfl : _ = d := congrArg Prod.snd (Option.some.inj h)
    exact ⟨by simp [D.refs], 40, checkR_ok _ _ _ _ h1⟩
  · cases h
def putR3_s (c : Bool) (now : List Sector) (d : Bool) (sure : List Sector) (k : Int) (n : Int) (b : List UInt8) : Option (Bool × D RC) := some (goodL now && goodL sure && lenOK b.length, .tup (.acons (.acons (.sl (C := RC) .sector (!okPut now sure k n b) (pNow now sure k n b)) (.acons (.sl (C := RC) .sector (!okPut now sure k n b) (pSure now sure k n b)) .anil)) (.acons (.int .i64 (bif okPut now sure k n b then 0 else 2)) .anil)))
def putR3_sp : List (D RC) → Option (Bool × D RC)
  | [.acons (.sl .sector c now) (.acons (.sl .sector d sure) .anil), .int .i64 k, .int .i64 n, .str b] => putR3_s c now d sure k n b
  | _ => none
noncomputable def putR3_e (c : Bool) (now : List Sector) (d : Bool) (sure : List Sector) (k : Int) (n : Int) (b : List UInt8) := evF s23 uf_4 40 50 [.acons (.sl (C := RC) .sector c now) (.acons (.sl (C := RC) .sector d sure) .anil), .int .i64 k, .int .i64 n, .str b]
theorem putR3_eq (c : Bool) (now : List Sector) (d : Bool) (sure : List Sector) (k : Int) (n : Int) (b : List UInt8) : putR3_e c now d sure k n b = (let Z0 : D RC := D.sl RTy.sector true []; let Z1 : DO_ := some (D.tup (D.acons (D.acons Z0 (D.acons Z0 .anil)) (.acons (D.int .i64 2) .anil))); let Z2 : Nat := (0 : Nat) + List.length now; let Z3 : Nat := (0 : Nat) + List.length sure; let Z4 : List Sector := List.replicate (0 : Nat) (Sector.mk (0 : Int) []); let Z5 : Nat := List.length (Z4 ++ now); let Z6 : Bool := Nat.beq Z2 Z5; let Z7 : Bool := Z6 && decide ((0 : Int) ≤ k ∧ k < (↑Z5 : Int)); let Z8 : List Sector := List.set (Z4 ++ now) k.toNat (Sector.mk n b); let Z9 : Bool := Nat.beq Z3 (Z4 ++ sure).length; let Z10 : D RC := D.acons (D.sl RTy.sector false (Z4 ++ sure)) .anil; let Z11 : D RC := D.acons (D.int .i64 0) .anil; let Z12 : DO_ := none; bif goodL now && goodL sure then bif (bif diskOK now sure then (0 : Int) else (2 : Int)) != (0 : Int) then Z1 else bif decide (k < (0 : Int)) then Z1 else bif decide ((33 : Int) ≤ k) then Z1 else bif decide (n < (1 : Int)) then Z1 else bif decide ((1048575 : Int) < n) then Z1 else bif b == Array.toList #[] then Z1 else bif lenOK b.length then bif decide ((640 : Int) < (↑b.length : Int)) then Z1 else bif sizeOK Z2 (24 : Nat) then bif sizeOK Z3 (24 : Nat) then bif Z7 then bif Z6 then bif Z6 then bif decide (Sector.n (List.getD (Z4 ++ now) k.toNat (Sector.mk (0 : Int) [])) < n) then bif Z7 then bif Z6 then bif Nat.beq Z2 Z8.length then bif Z9 then some (D.tup (D.acons (D.acons (D.sl RTy.sector false Z8) Z10) Z11)) else Z12 else Z12 else Z12 else Z12 else bif Z6 then bif Z9 then some (D.tup (D.acons (D.acons (D.sl RTy.sector false (Z4 ++ now)) Z10) Z11)) else Z12 else Z12 else Z12 else Z12 else Z12 else Z12 else Z12 else Z12 else Z12) := by kernel_rfl
theorem putR3_ok (c : Bool) (now : List Sector) (d : Bool) (sure : List Sector) (k : Int) (n : Int) (b : List UInt8) (h : (goodL now && goodL sure && lenOK b.length) = true) : putR3_e c now d sure k n b = some (.tup (.acons (.acons (.sl (C := RC) .sector (!okPut now sure k n b) (pNow now sure k n b)) (.acons (.sl (C := RC) .sector (!okPut now sure k n b) (pSure now sure k n b)) .anil)) (.acons (.int .i64 (bif okPut now sure k n b then 0 else 2)) .anil))) := by
  (rw [putR3_eq]; conv => zeta)
  simp only [Bool.and_eq_true] at h
  obtain ⟨⟨hg, hgs⟩, hb⟩ := h
  have hgg : (goodL now && goodL sure) = true := by rw [hg, hgs]; rfl
  have no : okPut now sure k n b = false → some (D.tup (.acons (.acons (.sl (C := RC) .sector true []) (.acons (.sl (C := RC) .sector true []) .anil)) (.acons (.int .i64 2) .anil))) = some (.tup (.acons (.acons (.sl (C := RC) .sector (!okPut now sure k n b) (pNow now sure k n b)) (.acons (.sl (C := RC) .sector (!okPut now sure k n b) (pSure now sure k n b)) .anil)) (.acons (.int .i64 (bif okPut now sure k n b then 0 else 2)) .anil))) := fun e => by simp only [e, pNow, pSure]; rfl
  refine cond_of hgg ?_
  cases hd : diskOK now sure
  · exact cond_of rfl (no (okPut_not fun f => by rw [hd] at f; cases f.1))
  obtain ⟨l1, l2⟩ := diskOK_len hd
  refine cond_no rfl (cond_two (fun e => no (okPut_not fun f => by simp only [decide_eq_true_eq] at e; omega)) fun e1 => ?_)
  refine (cond_two (fun e => no (okPut_not fun f => by simp only [decide_eq_true_eq] at e; omega)) fun e2 => ?_)
  refine (cond_two (fun e => no (okPut_not fun f => by simp only [decide_eq_true_eq] at e; omega)) fun e3 => ?_)
  have mf : maySec ⟨n, b⟩ = true → n ≤ 1048575 ∧ b.length ≤ 640 := fun e => by simp only [maySec, Bool.and_eq_true, decide_eq_true_eq] at e; exact ⟨e.1.1.2, e.1.2⟩
  refine (cond_two (fun e => no (okPut_not fun f => by have := mf f.2.2.2.2.2; simp only [decide_eq_true_eq] at e; omega)) fun e4 => ?_)
  refine (cond_two (fun e => no (okPut_not fun f => f.2.2.2.2.1 (by simpa using e))) fun e5 => ?_)
  refine cond_of hb ?_
  refine (cond_two (fun e => no (okPut_not fun f => by have := mf f.2.2.2.2.2; simp only [decide_eq_true_eq] at e; omega)) fun e6 => ?_)
  simp only [decide_eq_false_iff_not] at e1 e2 e3 e4 e6
  have ok : okPut now sure k n b = true := by
    have d1 : 0 < n := by omega
    simp only [okPut, hd, maySec, Bool.true_and, Bool.and_eq_true, decide_eq_true_eq, d1, decide_true, Bool.true_or]
    exact ⟨⟨⟨⟨by omega, by omega⟩, by omega⟩, by simpa using e5⟩, ⟨⟨by omega, by omega⟩, by omega⟩, trivial⟩
  rw [ok]
  have r0 : ∀ l : List Sector, List.replicate 0 (⟨0, []⟩ : Sector) ++ l = l := fun l => rfl
  have eb : ∀ n : Nat, n.beq n = true := fun n => by simp
  have s1 : sizeOK now.length 24 = true := by simp [sizeOK]; omega
  have s2 : sizeOK sure.length 24 = true := by simp [sizeOK]; omega
  have dk : decide (0 ≤ k ∧ k < (now.length : Int)) = true := by simp; omega
  simp only [pNow, pSure, ok, cond_true, Bool.not_true, r0, Nat.zero_add, List.length_set, eb, s1, s2, dk, Bool.and_self]
  refine cond_two (fun e => ?_) fun e => ?_ <;> simp only [decide_eq_true_eq, decide_eq_false_iff_not] at e
  · have pn : putNow now k.toNat n b = now.set k.toNat ⟨n, b⟩ := if_pos e
    rw [pn]
  · have pn : putNow now k.toNat n b = now := if_neg e
    rw [pn]
noncomputable def uf_5 := uf_4.addSpec 50 putR3_sp
theorem uf_5_laws : FLaws Tryz.prog s23 uf_5 := uf_4_laws.addEv s23_laws fun args d h => by
  unfold putR3_sp at h
  split at h
  · unfold putR3_s at h
    have h1 := congrArg Prod.fst (Option.some.inj h)
    obtain rfl : _ = d := congrArg Prod.snd (Option.some.inj h)
    exact ⟨by simp [D.refs], 40, putR3_ok _ _ _ _ _ _ _ h1⟩
  · cases h
open Go.Proofs
structure ints11l_St where
  c : Bool
  l : List Int
  d : Bool
  m : List Int
  i : Nat
def ints11l_c (c : Bool) (l : List Int) (d : Bool) (m : List Int) (i : Nat) : Env RC := [(0, .sl (C := RC) .int c l), (1, .sl (C := RC) .int d m), (4, .bool false), (5, .int .i64 (i : Int))]
def ints11l_o (c : Bool) (l : List Int) (d : Bool) (m : List Int) (i : Nat) : List (Obj RC) := []
noncomputable def ints11l_r (c : Bool) (l : List Int) (d : Bool) (m : List Int) (i : Nat) := rndO s23 uf_5 19 4 40 0 [0, 1, 4, 5] [4] [] (ints11l_c c l d m i) (ints11l_o c l d m i)
theorem ints11l_eq (c : Bool) (l : List Int) (d : Bool) (m : List Int) (i : Nat) : ints11l_r c l d m i = (let Z0 : Int := (↑i : Int); bif lenOK l.length then bif decide (Z0 < (↑l.length : Int)) then bif decide ((0 : Int) ≤ Z0 ∧ Z0 < (↑l.length : Int)) then bif decide ((0 : Int) ≤ Z0 ∧ Z0 < (↑m.length : Int)) then bif List.getD l Z0.toNat (0 : Int) != List.getD m Z0.toNat (0 : Int) then some ((X.ret, [(4, D.bool false)]), []) else some ((X.normal, [(0, D.sl RTy.int c l), (1, D.sl RTy.int d m), (4, D.bool false), (5, D.int .i64 (IntKind.wrap .i64 (Z0 + (1 : Int))))]), []) else none else none else some ((X.exit (0 : Nat), [(4, D.bool false)]), []) else none) := by kernel_rfl
def ints11l_fin (c : Bool) (l : List Int) (d : Bool) (m : List Int) (i : Nat) : RT RC := .br (decide (l.drop i = m.drop i)) (.leaf (.exit 0) [(4, .bool false)] []) (.leaf .ret [(4, .bool false)] [])
def ints11l_Inv (c : Bool) (l : List Int) (d : Bool) (m : List Int) (i : Nat) : Prop := i ≤ l.length ∧ l.length ≤ 9223372036854775807 ∧ l.length = m.length
def ints11l_S : LoopR RC ints11l_St where
  k := 0
  canon q := ints11l_c q.c q.l q.d q.m q.i
  objs q := ints11l_o q.c q.l q.d q.m q.i
  fin q := ints11l_fin q.c q.l q.d q.m q.i
  Inv q := ints11l_Inv q.c q.l q.d q.m q.i
  μ q := q.l.length - q.i
theorem ints11l_round (c : Bool) (l : List Int) (d : Bool) (m : List Int) (i : Nat) (hI : ints11l_Inv c l d m i) : Leaf (ints11l_r c l d m i) (LedR ints11l_S ⟨c, l, d, m, i⟩) := by
  (rw [ints11l_eq]; conv => zeta)
  unfold ints11l_Inv at hI
  obtain ⟨h1, h2, h3⟩ := hI
  have hlk := lenOK_of h2
  rw [hlk]
  simp only [cond_true]
  by_cases hlt : i < l.length
  · have w_succ : IntKind.i64.wrap ((i : Int) + 1) = ((i + 1 : Nat) : Int) := by rw [wrap_id (by omega) (by omega)]; simp
    have d_lt : decide ((i : Int) < l.length) = true := by simp; omega
    have d_in : decide (0 ≤ (i : Int) ∧ (i : Int) < l.length) = true := by simp; omega
    have t_nat : ((i : Int)).toNat = i := by simp
    simp only [w_succ, d_lt, d_in, t_nat, cond_true]
    have hlt' : i < m.length := by omega
    have d_in' : decide (0 ≤ (i : Int) ∧ (i : Int) < m.length) = true := by simp; omega
    have hst := drops_step l m i (0 : Int) hlt h3
    simp only [d_in', cond_true]
    generalize l.getD i (0 : Int) = x at hst ⊢
    generalize m.getD i (0 : Int) = y at hst ⊢
    by_cases hxy : x = y
    · simp only [ibneF hxy, cond_false]
      exact leafR_go ⟨c, l, d, m, i + 1⟩ ⟨hlt, h2, h3⟩ (by simp only [ints11l_S]; omega) (by simp only [ints11l_S, ints11l_fin, hst, hxy, decide_true, Bool.true_and]) rfl rfl
    · simp only [ibneT hxy, cond_true]
      exact leafR_ret [] (by simp [ints11l_S, ints11l_fin, hst, hxy, RT.val]) rfl
  · have hi : i = l.length := by omega
    have c1 : decide ((i : Int) < l.length) = false := by simp; omega
    simp only [c1, cond_false]
    exact leafR_exit [] (by simp only [ints11l_S, ints11l_fin, drops_end l m i (by omega) (by omega), RT.val, cond_true]) rfl
def ints11l_d (env : Env RC) (os : List (Obj RC)) : Option (Bool × ints11l_St) := match env, os with
  | [(0, .sl .int c l), (1, .sl .int d m), (4, .bool false), (5, .int .i64 x0)], [] => staticD (true) (decide (x0 = 0) && decide (l.length ≤ 9223372036854775807 ∧ l.length = m.length), ⟨c, l, d, m, 0⟩)
  | _, _ => none
noncomputable def ug_1 := uf_5.addLoop 19 4 (sumR s23 [] [0, 1, 4, 5] ints11l_S ints11l_d)
theorem ug_1_laws : FLaws Tryz.prog s23 ug_1 := by
  refine uf_5_laws.addRoundsR s23_laws (by kernel_rfl) ints11l_S 40 [0, 1, 4, 5] [4] [] [0, 1, 4, 5] ints11l_d (fun q hI => ?_) ?_
  · obtain ⟨c, l, d, m, i⟩ := q
    refine ⟨?_, ?_, ints11l_round c l d m i hI⟩
    · simp_all [RefsOK, ints11l_S, ints11l_c, ints11l_o, ints11l_Inv, D.refs, Obj.refs, rEnc]
    · simp_all [ints11l_S, ints11l_fin, ints11l_o, ints11l_Inv, RT.refsOK, RefsOK, D.refs, Obj.refs, rEnc]
  · intro env os b q hd_ hb
    unfold ints11l_d at hd_
    split at hd_
    · obtain ⟨hs, hd_⟩ := staticD_some hd_
      cases hd_
      simp only [Bool.and_eq_true, decide_eq_true_eq] at hb
      obtain ⟨⟨rfl, rfl⟩, hl⟩ := hb
      exact ⟨⟨Nat.zero_le _, hl.1, hl.2⟩, rfl, rfl⟩
    · cases hd_
def ints11_s (c : Bool) (l : List Int) (d : Bool) (m : List Int) : Option (Bool × D RC) := some (lenOK l.length && lenOK m.length, .bool (decide (l = m)))
def ints11_sp : List (D RC) → Option (Bool × D RC)
  | [.sl .int c l, .sl .int d m] => ints11_s c l d m
  | _ => none
noncomputable def ints11_e (c : Bool) (l : List Int) (d : Bool) (m : List Int) := evF s23 ug_1 40 19 [.sl (C := RC) .int c l, .sl (C := RC) .int d m]
theorem ints11_eq (c : Bool) (l : List Int) (d : Bool) (m : List Int) : ints11_e c l d m = (let Z0 : Nat := List.length l; let Z1 : Nat := List.length m; bif lenOK Z0 then bif lenOK Z1 then bif (↑Z0 : Int) != (↑Z1 : Int) then some (D.bool false) else bif decide (Z0 ≤ (9223372036854775807 : Nat) ∧ Z0 = Z1) then bif decide (List.drop (0 : Nat) l = List.drop (0 : Nat) m) then some (D.bool true) else some (D.bool false) else none else none else none) := by kernel_rfl
theorem ints11_ok (c : Bool) (l : List Int) (d : Bool) (m : List Int) (h : (lenOK l.length && lenOK m.length) = true) : ints11_e c l d m = some (.bool (decide (l = m))) := by
  (rw [ints11_eq]; conv => zeta)
  simp only [Bool.and_eq_true] at h
  have h1 : l.length ≤ 9223372036854775807 := lenOK_le h.1
  simp only [h.1, h.2, cond_true]
  by_cases hl : l.length = m.length
  · have e1 : ((l.length : Int) != (m.length : Int)) = false := by simp [hl]
    have e2 : (l.length ≤ 9223372036854775807 ∧ l.length = m.length) := ⟨h1, hl⟩
    rw [e1, decide_eq_true e2]
    simp only [cond_true, cond_false, List.drop_zero]
    cases decide (l = m) <;> rfl
  · have e1 : ((l.length : Int) != (m.length : Int)) = true := by simp; omega
    have : ¬ l = m := fun e => hl (by rw [e])
    simp [e1, this]
noncomputable def ug_2 := ug_1.addSpec 19 ints11_sp
theorem ug_2_laws : FLaws Tryz.prog s23 ug_2 := ug_1_laws.addEv s23_laws fun args d h => by
  unfold ints11_sp at h
  split at h
  · unfold ints11_s at h
    have h1 := congrArg Prod.fst (Option.some.inj h)
    obtain rfl : _ = d := congrArg Prod.snd (Option.some.inj h)
    exact ⟨by simp [D.refs], 40, ints11_ok _ _ _ _ h1⟩
  · cases h
structure chk09l_St where
  c : Bool
  l : List Int
  a : Bool
  now : List Sector
  b : Bool
  sure : List Sector
  i : Nat
def chk09l_c (c : Bool) (l : List Int) (a : Bool) (now : List Sector) (b : Bool) (sure : List Sector) (i : Nat) : Env RC := [(1, .ptr 0 []), (2, .int .i64 0), (3, .int .i64 (i : Int))]
def chk09l_o (c : Bool) (l : List Int) (a : Bool) (now : List Sector) (b : Bool) (sure : List Sector) (i : Nat) : List (Obj RC) := [.var 40 (.acons (.sl (C := RC) .int c l) (.acons (.acons (.sl (C := RC) .sector a now) (.acons (.sl (C := RC) .sector b sure) .anil)) .anil))]
noncomputable def chk09l_r (c : Bool) (l : List Int) (a : Bool) (now : List Sector) (b : Bool) (sure : List Sector) (i : Nat) := rndO s23 ug_2 81 4 40 1 [1, 2, 3] [2] [.slot 1 0] (chk09l_c c l a now b sure i) (chk09l_o c l a now b sure i)
theorem chk09l_eq (c : Bool) (l : List Int) (a : Bool) (now : List Sector) (b : Bool) (sure : List Sector) (i : Nat) : chk09l_r c l a now b sure i = (let Z0 : Int := (↑i : Int); let Z1 : Int := List.getD l Z0.toNat (0 : Int); let Z2 : List (Option (Obj RC)) := [some (Obj.var 40 (.acons (D.sl RTy.int c l) (.acons (D.acons (D.sl RTy.sector a now) (.acons (D.sl RTy.sector b sure) .anil)) .anil)))]; let Z3 : Nat × D RC := (2, D.int .i64 0); bif lenOK l.length then bif decide (Z0 < (↑l.length : Int)) then bif decide ((0 : Int) ≤ Z0 ∧ Z0 < (↑l.length : Int)) then bif decide ((-1152921504606846976 : Int) ≤ Z1) then bif !decide (Z1 ≤ (1152921504606846976 : Int)) then some ((X.ret, [(2, D.int .i64 2)]), Z2) else some ((X.normal, [(1, D.ptr 0 []), Z3, (3, D.int .i64 (IntKind.wrap .i64 (Z0 + (1 : Int))))]), Z2) else some ((X.ret, [(2, D.int .i64 2)]), Z2) else none else some ((X.exit (0 : Nat), [Z3]), Z2) else none) := by kernel_rfl
def chk09l_fin (c : Bool) (l : List Int) (a : Bool) (now : List Sector) (b : Bool) (sure : List Sector) (i : Nat) : RT RC := .br ((l.drop i).all fitsC) (.leaf (.exit 0) [(2, .int .i64 0)] (chk09l_o c l a now b sure i)) (.leaf .ret [(2, .int .i64 2)] (chk09l_o c l a now b sure i))
def chk09l_Inv (c : Bool) (l : List Int) (a : Bool) (now : List Sector) (b : Bool) (sure : List Sector) (i : Nat) : Prop := i ≤ l.length ∧ l.length ≤ 1024
def chk09l_S : LoopR RC chk09l_St where
  k := 1
  canon q := chk09l_c q.c q.l q.a q.now q.b q.sure q.i
  objs q := chk09l_o q.c q.l q.a q.now q.b q.sure q.i
  fin q := chk09l_fin q.c q.l q.a q.now q.b q.sure q.i
  Inv q := chk09l_Inv q.c q.l q.a q.now q.b q.sure q.i
  μ q := q.l.length - q.i
theorem chk09l_round (c : Bool) (l : List Int) (a : Bool) (now : List Sector) (b : Bool) (sure : List Sector) (i : Nat) (hI : chk09l_Inv c l a now b sure i) : Leaf (chk09l_r c l a now b sure i) (LedR chk09l_S ⟨c, l, a, now, b, sure, i⟩) := by
  (rw [chk09l_eq]; conv => zeta)
  unfold chk09l_Inv at hI
  obtain ⟨h1, h2⟩ := hI
  have hlk := lenOK_of (n := l.length) (by omega)
  by_cases hlt : i < l.length
  · have w_succ : IntKind.i64.wrap ((i : Int) + 1) = ((i + 1 : Nat) : Int) := by rw [wrap_id (by omega) (by omega)]; simp
    have d_lt : decide ((i : Int) < l.length) = true := by simp; omega
    have d_in : decide (0 ≤ (i : Int) ∧ (i : Int) < l.length) = true := by simp; omega
    have t_nat : ((i : Int)).toNat = i := by simp
    simp only [w_succ, d_lt, d_in, t_nat, cond_true]
    have hst := all_drop_step l fitsC i hlt (0 : Int)
    generalize l.getD i (0 : Int) = x at hst ⊢
    simp only [hlk, cond_true]
    have hgo : fitsC x = true → Leaf (some ((X.normal, chk09l_c c l a now b sure (i + 1)), (chk09l_o c l a now b sure (i + 1)).map some)) (LedR chk09l_S ⟨c, l, a, now, b, sure, i⟩) := fun e =>
      leafR_go ⟨c, l, a, now, b, sure, i + 1⟩ ⟨hlt, h2⟩ (by simp only [chk09l_S]; omega) (by simp [chk09l_S, chk09l_fin, hst, e]; rfl) rfl rfl
    have hno : fitsC x = false → Leaf (some ((X.ret, [(2, D.int .i64 2)]), (chk09l_o c l a now b sure i).map some)) (LedR chk09l_S ⟨c, l, a, now, b, sure, i⟩) := fun e => leafR_ret (chk09l_o c l a now b sure i) (by simp [chk09l_S, chk09l_fin, hst, e, RT.val]) rfl
    have hm : fitsC x = (decide (-1152921504606846976 ≤ x) && decide (x ≤ 1152921504606846976)) := rfl
    rw [hm] at hgo hno
    repeat' (refine leaf_cond.2 ⟨fun hc_ => ?_, fun hc_ => ?_⟩)
    all_goals first | exact hno (by clear hgo hno hst hm; simp_all <;> omega) | exact hgo (by clear hgo hno hst hm; simp_all <;> omega)
  · have hi : i = l.length := by omega
    have c1 : decide ((i : Int) < l.length) = false := by simp; omega
    rw [hlk, c1]
    exact leafR_exit (chk09l_o c l a now b sure i) (by simp [chk09l_S, chk09l_fin, hi, RT.val]) rfl
def chk09l_d (env : Env RC) (os : List (Obj RC)) : Option (Bool × chk09l_St) := match env, os with
  | [(1, .ptr 0 []), (2, .int .i64 0), (3, .int .i64 x0)], [.var 40 (.acons (.sl .int c l) (.acons (.acons (.sl .sector a now) (.acons (.sl .sector b sure) .anil)) .anil))] => staticD (true) (decide (x0 = 0) && decide (l.length ≤ 1024), ⟨c, l, a, now, b, sure, 0⟩)
  | _, _ => none
noncomputable def ug_3 := ug_2.addLoop 81 4 (sumR s23 [.slot 1 0] [1, 2, 3] chk09l_S chk09l_d)
theorem ug_3_laws : FLaws Tryz.prog s23 ug_3 := by
  refine ug_2_laws.addRoundsR s23_laws (by kernel_rfl) chk09l_S 40 [1, 2, 3] [2] [.slot 1 0] [1, 2, 3] chk09l_d (fun q hI => ?_) ?_
  · obtain ⟨c, l, a, now, b, sure, i⟩ := q
    refine ⟨?_, ?_, chk09l_round c l a now b sure i hI⟩
    · simp_all [RefsOK, chk09l_S, chk09l_c, chk09l_o, chk09l_Inv, D.refs, Obj.refs, rEnc]
    · simp_all [chk09l_S, chk09l_fin, chk09l_o, chk09l_Inv, RT.refsOK, RefsOK, D.refs, Obj.refs, rEnc]
  · intro env os b q hd_ hb
    unfold chk09l_d at hd_
    split at hd_
    · obtain ⟨hs, hd_⟩ := staticD_some hd_
      cases hd_
      simp only [Bool.and_eq_true, decide_eq_true_eq] at hb
      obtain ⟨rfl, hl⟩ := hb
      exact ⟨⟨Nat.zero_le _, hl⟩, rfl, rfl⟩
    · cases hd_
def chk09_s (c : Bool) (l : List Int) (a : Bool) (now : List Sector) (b : Bool) (sure : List Sector) : Option (Bool × D RC) := some (lenOK l.length && (goodL now && goodL sure), .int .i64 (bif cellsOK l && diskOK now sure then 0 else 2))
def chk09_sp : List (D RC) → Option (Bool × D RC)
  | [.acons (.sl .int c l) (.acons (.acons (.sl .sector a now) (.acons (.sl .sector b sure) .anil)) .anil)] => chk09_s c l a now b sure
  | _ => none
noncomputable def chk09_e (c : Bool) (l : List Int) (a : Bool) (now : List Sector) (b : Bool) (sure : List Sector) := evF s23 ug_3 40 81 [.acons (.sl (C := RC) .int c l) (.acons (.acons (.sl (C := RC) .sector a now) (.acons (.sl (C := RC) .sector b sure) .anil)) .anil)]
theorem chk09_eq (c : Bool) (l : List Int) (a : Bool) (now : List Sector) (b : Bool) (sure : List Sector) : chk09_e c l a now b sure = (let Z0 : Nat := List.length l; let Z1 : DO_ := some (D.int .i64 2); bif lenOK Z0 then bif decide ((1024 : Int) < (↑Z0 : Int)) then Z1 else bif decide (Z0 ≤ (1024 : Nat)) then bif List.all (List.drop (0 : Nat) l) fitsC then bif goodL now && goodL sure then some (D.int .i64 (bif diskOK now sure then (0 : Int) else (2 : Int))) else none else Z1 else none else none) := by kernel_rfl
theorem chk09_ok (c : Bool) (l : List Int) (a : Bool) (now : List Sector) (b : Bool) (sure : List Sector) (h : (lenOK l.length && (goodL now && goodL sure)) = true) : chk09_e c l a now b sure = some (.int .i64 (bif cellsOK l && diskOK now sure then 0 else 2)) := by
  (rw [chk09_eq]; conv => zeta)
  rw [Bool.and_eq_true] at h
  obtain ⟨h1, h2⟩ := h
  simp only [h1, h2, cond_true, List.drop_zero, cellsOK]
  by_cases hl : l.length ≤ 1024
  · have e1 : decide ((1024 : Int) < l.length) = false := by simp; omega
    simp only [e1, decide_eq_true hl, cond_false, cond_true, Bool.true_and]
    cases l.all fitsC <;> rfl
  · have e1 : decide ((1024 : Int) < l.length) = true := by simp; omega
    simp only [e1, decide_eq_false hl, cond_true, Bool.false_and, cond_false]
noncomputable def ug_4 := ug_3.addSpec 81 chk09_sp
theorem ug_4_laws : FLaws Tryz.prog s23 ug_4 := ug_3_laws.addEv s23_laws fun args d h => by
  unfold chk09_sp at h
  split at h
  · unfold chk09_s at h
    have h1 := congrArg Prod.fst (Option.some.inj h)
    obtain rfl : _ = d := congrArg Prod.snd (Option.some.inj h)
    exact ⟨by simp [D.refs], 40, chk09_ok _ _ _ _ _ _ h1⟩
  · cases h
def new03_s  : Option (Bool × D RC) := some (true, .acons (.sl (C := RC) .sector false emptyDisk) (.acons (.sl (C := RC) .sector false emptyDisk) .anil))
def new03_sp : List (D RC) → Option (Bool × D RC)
  | [] => new03_s 
  | _ => none
noncomputable def new03_e  := evF s23 ug_4 40 22 []
theorem new03_ok  (h : (true) = true) : new03_e  = some (.acons (.sl (C := RC) .sector false emptyDisk) (.acons (.sl (C := RC) .sector false emptyDisk) .anil)) := by
  kernel_rfl
noncomputable def ug_5 := ug_4.addSpec 22 new03_sp
theorem ug_5_laws : FLaws Tryz.prog s23 ug_5 := ug_4_laws.addEv s23_laws fun args d h => by
  unfold new03_sp at h
  split at h
  · unfold new03_s at h
    have h1 := congrArg Prod.fst (Option.some.inj h)
    obtain rfl : _ = d := congrArg Prod.snd (Option.some.inj h)
    exact ⟨by simp [D.refs], 40, new03_ok  h1⟩
  · cases h
def do09_s (c : Bool) (l : List Int) (a : Bool) (now : List Sector) (b : Bool) (sure : List Sector) (k : Int) (ad : Int) (bb : Int) (v : Int) (g : Int) (ca : Bool) : Option (Bool × D RC) := some ((decide (OkDo4 l k ad bb v) && decide (0 ≤ g)) && (cellsOK l && (diskOK now sure && (goodL now && goodL sure))), .tup (.acons (.acons (.sl (C := RC) .int false (doC4 l k ad bb v)) (.acons (.acons (.sl (C := RC) .sector a now) (.acons (.sl (C := RC) .sector b sure) .anil)) .anil)) (.acons (.int .i64 (doG4 l k ad bb)) (.acons (.int .i64 0) .anil))))
def do09_sp : List (D RC) → Option (Bool × D RC)
  | [.acons (.sl .int c l) (.acons (.acons (.sl .sector a now) (.acons (.sl .sector b sure) .anil)) .anil), .acons (.int .i8 k) (.acons (.int .i64 ad) (.acons (.int .i64 bb) (.acons (.int .i64 v) (.acons (.int .i64 g) (.acons (.str []) (.acons (.sl .int ca []) .anil))))))] => do09_s c l a now b sure k ad bb v g ca
  | _ => none
noncomputable def do09_e (c : Bool) (l : List Int) (a : Bool) (now : List Sector) (b : Bool) (sure : List Sector) (k : Int) (ad : Int) (bb : Int) (v : Int) (g : Int) (ca : Bool) := evF s23 ug_5 80 27 [.acons (.sl (C := RC) .int c l) (.acons (.acons (.sl (C := RC) .sector a now) (.acons (.sl (C := RC) .sector b sure) .anil)) .anil), .acons (.int .i8 k) (.acons (.int .i64 ad) (.acons (.int .i64 bb) (.acons (.int .i64 v) (.acons (.int .i64 g) (.acons (.str []) (.acons (.sl (C := RC) .int ca []) .anil))))))]
theorem cellsOK_at {l : List Int} (h : cellsOK l = true) {i : Nat} (hi : i < l.length) : -1152921504606846976 ≤ l.getD i 0 ∧ l.getD i 0 ≤ 1152921504606846976 := by
  simp only [cellsOK, Bool.and_eq_true, List.all_eq_true] at h
  have := h.2 l[i] (List.getElem_mem hi)
  simp only [fitsC, Bool.and_eq_true, decide_eq_true_eq] at this
  rw [getD_at hi]
  exact this
theorem do09_eq0 (c : Bool) (l : List Int) (a : Bool) (now : List Sector) (b : Bool) (sure : List Sector) (ad g : Int) (ca : Bool) : do09_e c l a now b sure 0 ad 0 0 g ca = (let Z0 : Nat := List.length l; let Z1 : D RC := D.sl RTy.sector true []; let Z2 : D RC := .anil; let Z3 : D RC := D.int .i64 0; let Z4 : DO_ := some (D.tup (D.acons (D.acons (D.sl RTy.int true []) (.acons (D.acons Z1 (D.acons Z1 Z2)) Z2)) (.acons Z3 (D.acons (D.int .i64 2) Z2)))); let Z5 : List Int := List.replicate (0 : Nat) (0 : Int) ++ l; bif lenOK Z0 && (goodL now && goodL sure) then bif (bif cellsOK l && diskOK now sure then (0 : Int) else (2 : Int)) != (0 : Int) then Z4 else bif decide (g < (0 : Int)) then Z4 else bif decide (ad < (0 : Int)) then Z4 else bif lenOK Z0 then bif decide ((↑Z0 : Int) ≤ ad) then Z4 else bif sizeOK ((0 : Nat) + Z0) (8 : Nat) then bif Nat.beq ((0 : Nat) + Z0) Z5.length then bif decide ((0 : Int) ≤ ad ∧ ad < (↑Z5.length : Int)) then some (D.tup (D.acons (D.acons (D.sl RTy.int false Z5) (.acons (D.acons (D.sl RTy.sector a now) (.acons (D.sl RTy.sector b sure) Z2)) Z2)) (.acons (D.int .i64 (List.getD Z5 ad.toNat (0 : Int))) (.acons Z3 Z2)))) else none else none else none else none else none) := by kernel_rfl
theorem do09_eq1 (c : Bool) (l : List Int) (a : Bool) (now : List Sector) (b : Bool) (sure : List Sector) (ad v g : Int) (ca : Bool) : do09_e c l a now b sure 1 ad 0 v g ca = (let Z0 : Nat := List.length l; let Z1 : D RC := D.sl RTy.sector true []; let Z2 : D RC := .anil; let Z3 : D RC := D.int .i64 0; let Z4 : DO_ := some (D.tup (D.acons (D.acons (D.sl RTy.int true []) (.acons (D.acons Z1 (D.acons Z1 Z2)) Z2)) (.acons Z3 (D.acons (D.int .i64 2) Z2)))); let Z5 : Nat := (0 : Nat) + Z0; let Z6 : List Int := List.replicate (0 : Nat) (0 : Int) ++ l; let Z7 : Bool := Nat.beq Z5 Z6.length; let Z8 : List Int := List.set Z6 ad.toNat v; bif lenOK Z0 && (goodL now && goodL sure) then bif (bif cellsOK l && diskOK now sure then (0 : Int) else (2 : Int)) != (0 : Int) then Z4 else bif decide (g < (0 : Int)) then Z4 else bif decide (ad < (0 : Int)) then Z4 else bif lenOK Z0 then bif decide ((↑Z0 : Int) ≤ ad) then Z4 else bif decide ((-1152921504606846976 : Int) ≤ v) then bif !decide (v ≤ (1152921504606846976 : Int)) then Z4 else bif sizeOK Z5 (8 : Nat) then bif Z7 && decide ((0 : Int) ≤ ad ∧ ad < (↑Z6.length : Int)) then bif Z7 then bif Nat.beq Z5 Z8.length then some (D.tup (D.acons (D.acons (D.sl RTy.int false Z8) (.acons (D.acons (D.sl RTy.sector a now) (.acons (D.sl RTy.sector b sure) Z2)) Z2)) (.acons Z3 (D.acons Z3 Z2)))) else none else none else none else none else Z4 else none else none) := by kernel_rfl
theorem do09_eq2 (c : Bool) (l : List Int) (a : Bool) (now : List Sector) (b : Bool) (sure : List Sector) (ad bb v g : Int) (ca : Bool) : do09_e c l a now b sure 2 ad bb v g ca = (let Z0 : Nat := List.length l; let Z1 : D RC := D.sl RTy.sector true []; let Z2 : D RC := .anil; let Z3 : D RC := D.int .i64 0; let Z4 : DO_ := some (D.tup (D.acons (D.acons (D.sl RTy.int true []) (.acons (D.acons Z1 (D.acons Z1 Z2)) Z2)) (.acons Z3 (D.acons (D.int .i64 2) Z2)))); let Z5 : Int := (-1152921504606846976 : Int); let Z6 : Nat := (0 : Nat) + Z0; let Z7 : List Int := List.replicate (0 : Nat) (0 : Int) ++ l; let Z8 : Bool := Nat.beq Z6 Z7.length; let Z9 : Bool := Z8 && decide ((0 : Int) ≤ ad ∧ ad < (↑Z7.length : Int)); let Z10 : D RC := D.acons (D.acons (D.sl RTy.sector a now) (.acons (D.sl RTy.sector b sure) Z2)) Z2; let Z11 : List Int := List.set Z7 ad.toNat v; bif lenOK Z0 && (goodL now && goodL sure) then bif (bif cellsOK l && diskOK now sure then (0 : Int) else (2 : Int)) != (0 : Int) then Z4 else bif decide (g < (0 : Int)) then Z4 else bif decide (ad < (0 : Int)) then Z4 else bif lenOK Z0 then bif decide ((↑Z0 : Int) ≤ ad) then Z4 else bif decide (Z5 ≤ bb) then bif !decide (bb ≤ (1152921504606846976 : Int)) then Z4 else bif decide (Z5 ≤ v) then bif !decide (v ≤ (1152921504606846976 : Int)) then Z4 else bif sizeOK Z6 (8 : Nat) then bif Z9 then bif Z8 then bif List.getD Z7 ad.toNat (0 : Int) != bb then bif Z8 then some (D.tup (D.acons (D.acons (D.sl RTy.int false Z7) Z10) (.acons Z3 (D.acons Z3 Z2)))) else none else bif Z9 then bif Z8 then bif Nat.beq Z6 Z11.length then some (D.tup (D.acons (D.acons (D.sl RTy.int false Z11) Z10) (.acons (D.int .i64 1) (.acons Z3 Z2)))) else none else none else none else none else none else none else Z4 else Z4 else none else none) := by kernel_rfl
theorem do09_eq3 (c : Bool) (l : List Int) (a : Bool) (now : List Sector) (b : Bool) (sure : List Sector) (ad v g : Int) (ca : Bool) : do09_e c l a now b sure 3 ad 0 v g ca = (let Z0 : Nat := List.length l; let Z1 : D RC := D.sl RTy.sector true []; let Z2 : D RC := .anil; let Z3 : D RC := D.int .i64 0; let Z4 : DO_ := some (D.tup (D.acons (D.acons (D.sl RTy.int true []) (.acons (D.acons Z1 (D.acons Z1 Z2)) Z2)) (.acons Z3 (D.acons (D.int .i64 2) Z2)))); let Z5 : Int := (-1152921504606846976 : Int); let Z6 : Nat := (0 : Nat) + Z0; let Z7 : List Int := List.replicate (0 : Nat) (0 : Int) ++ l; let Z8 : Bool := Nat.beq Z6 Z7.length; let Z9 : Bool := Z8 && decide ((0 : Int) ≤ ad ∧ ad < (↑Z7.length : Int)); let Z10 : Int := List.getD Z7 ad.toNat (0 : Int); let Z11 : Int := IntKind.wrap .i64 (Z10 + v); let Z12 : Int := if (1152921504606846976 : Int) < Z11 then (1152921504606846976 : Int) else Z11; let Z13 : List Int := List.set Z7 ad.toNat (if Z12 < Z5 then Z5 else Z12); bif lenOK Z0 && (goodL now && goodL sure) then bif (bif cellsOK l && diskOK now sure then (0 : Int) else (2 : Int)) != (0 : Int) then Z4 else bif decide (g < (0 : Int)) then Z4 else bif decide (ad < (0 : Int)) then Z4 else bif lenOK Z0 then bif decide ((↑Z0 : Int) ≤ ad) then Z4 else bif decide (Z5 ≤ v) then bif !decide (v ≤ (1152921504606846976 : Int)) then Z4 else bif sizeOK Z6 (8 : Nat) then bif Z9 then bif Z8 then bif Z9 then bif Z8 then bif Nat.beq Z6 Z13.length then some (D.tup (D.acons (D.acons (D.sl RTy.int false Z13) (.acons (D.acons (D.sl RTy.sector a now) (.acons (D.sl RTy.sector b sure) Z2)) Z2)) (.acons (D.int .i64 Z10) (.acons Z3 Z2)))) else none else none else none else none else none else none else Z4 else none else none) := by kernel_rfl
theorem do09_ok (c : Bool) (l : List Int) (a : Bool) (now : List Sector) (b : Bool) (sure : List Sector) (k : Int) (ad : Int) (bb : Int) (v : Int) (g : Int) (ca : Bool) (h : ((decide (OkDo4 l k ad bb v) && decide (0 ≤ g)) && (cellsOK l && (diskOK now sure && (goodL now && goodL sure)))) = true) : do09_e c l a now b sure k ad bb v g ca = some (.tup (.acons (.acons (.sl (C := RC) .int false (doC4 l k ad bb v)) (.acons (.acons (.sl (C := RC) .sector a now) (.acons (.sl (C := RC) .sector b sure) .anil)) .anil)) (.acons (.int .i64 (doG4 l k ad bb)) (.acons (.int .i64 0) .anil)))) := by
  simp only [Bool.and_eq_true, decide_eq_true_eq] at h
  obtain ⟨⟨ho, g0⟩, hc, hd, hg1, hg2⟩ := h
  obtain ⟨hk, a0, a1, b0, b1, v0, v1⟩ := ho
  have hlen : l.length ≤ 1024 := by
    simp only [cellsOK, Bool.and_eq_true, decide_eq_true_eq] at hc; exact hc.1
  have e1 : lenOK l.length = true := lenOK_of (by omega)
  have e4 : decide (ad < 0) = false := by simp; omega
  have e5 : decide ((l.length : Int) ≤ ad) = false := by simp; omega
  have e6 : decide (0 ≤ ad ∧ ad < (l.length : Int)) = true := by simp; omega
  have e7 : sizeOK (0 + l.length) 8 = true := sizeT (by omega)
  have e8 : Nat.beq (0 + l.length) l.length = true := nbeqT (by omega)
  have e9 : decide (-1152921504606846976 ≤ bb) = true := by simp; omega
  have f0 : decide (bb ≤ 1152921504606846976) = true := by simp; omega
  have f1 : decide (-1152921504606846976 ≤ v) = true := by simp; omega
  have f2 : decide (v ≤ 1152921504606846976) = true := by simp; omega
  have f3 : decide (g < 0) = false := by simp; omega
  rcases hk with ⟨rfl, rfl, rfl⟩ | ⟨rfl, rfl⟩ | rfl | ⟨rfl, rfl⟩
  · (rw [do09_eq0]; conv => zeta)
    simp only [List.replicate_zero, List.nil_append, List.length_set, e1, hg1, hg2, hc, hd, Bool.and_self, cond_true, cond_false, bne_self_eq_false, e4, e5, e6, e7, e8, e9, f0, f1, f2, f3, Bool.not_true, decide_true]
    rfl
  · (rw [do09_eq1]; conv => zeta)
    simp only [List.replicate_zero, List.nil_append, List.length_set, e1, hg1, hg2, hc, hd, Bool.and_self, cond_true, cond_false, bne_self_eq_false, e4, e5, e6, e7, e8, e9, f0, f1, f2, f3, Bool.not_true, decide_true]
    rfl
  · (rw [do09_eq2]; conv => zeta)
    simp only [List.replicate_zero, List.nil_append, List.length_set, e1, hg1, hg2, hc, hd, Bool.and_self, cond_true, cond_false, bne_self_eq_false, e4, e5, e6, e7, e8, e9, f0, f1, f2, f3, Bool.not_true, decide_true]
    by_cases hb : l.getD ad.toNat 0 = bb
    · rw [ibneF hb]
      simp only [cond_false, doC4, doG4, hb, and_self, or_true, if_true]
      rfl
    · rw [ibneT hb]
      simp only [cond_true, doC4, doG4, hb, and_false, or_false, if_false]
      rfl
  · (rw [do09_eq3]; conv => zeta)
    simp only [List.replicate_zero, List.nil_append, List.length_set, e1, hg1, hg2, hc, hd, Bool.and_self, cond_true, cond_false, bne_self_eq_false, e4, e5, e6, e7, e8, e9, f0, f1, f2, f3, Bool.not_true, decide_true]
    have hn := cellsOK_at hc (i := ad.toNat) (by omega)
    have e : doC4 l 3 ad 0 v = l.set ad.toNat (addC (l.getD ad.toNat 0) v) := by simp [doC4]
    have e' : doG4 l 3 ad 0 = l.getD ad.toNat 0 := by simp [doG4]
    rw [e, e']
    generalize l.getD ad.toNat 0 = n at *
    have hw : IntKind.i64.wrap (n + v) = n + v := wrap_id (by omega) (by omega)
    have hA : addC n v = if (if 1152921504606846976 < n + v then 1152921504606846976 else n + v) < -1152921504606846976 then -1152921504606846976 else (if 1152921504606846976 < n + v then 1152921504606846976 else n + v) := by
      unfold addC
      repeat' split
      all_goals omega
    rw [hA, hw]
noncomputable def ug_6 := ug_5.addSpec 27 do09_sp
theorem ug_6_laws : FLaws Tryz.prog s23 ug_6 := ug_5_laws.addEv s23_laws fun args d h => by
  unfold do09_sp at h
  split at h
  · unfold do09_s at h
    have h1 := congrArg Prod.fst (Option.some.inj h)
    obtain rfl : _ = d := congrArg Prod.snd (Option.some.inj h)
    exact ⟨by simp [D.refs], 80, do09_ok _ _ _ _ _ _ _ _ _ _ _ _ h1⟩
  · cases h
theorem doC4_load {l : List Int} {a b v : Int} : doC4 l 0 a b v = l := by simp [doC4]
theorem doG4_load {l : List Int} {a b : Int} : doG4 l 0 a b = l.getD a.toNat 0 := by simp [doG4]
theorem doC4_store {l : List Int} {a b v : Int} : doC4 l 1 a b v = l.set a.toNat v := by simp [doC4]
theorem doG4_store {l : List Int} {a b : Int} : doG4 l 1 a b = 0 := by simp [doG4]
theorem doC4_cas {l : List Int} {a b v : Int} : doC4 l 2 a b v = if l.getD a.toNat 0 = b then l.set a.toNat v else l := by simp [doC4]
theorem doG4_cas {l : List Int} {a b : Int} : doG4 l 2 a b = if l.getD a.toNat 0 = b then 1 else 0 := by simp [doG4]
theorem cellsOK_set {l : List Int} {i : Nat} {v : Int} (h : cellsOK l = true) (hv : -1152921504606846976 ≤ v ∧ v ≤ 1152921504606846976) : cellsOK (l.set i v) = true := by
  unfold cellsOK at *
  simp only [Bool.and_eq_true, decide_eq_true_eq, List.length_set, List.all_eq_true] at *
  refine ⟨h.1, fun x hx => ?_⟩
  rcases List.mem_or_eq_of_mem_set hx with hx | rfl
  · exact h.2 x hx
  · unfold fitsC; rw [decide_eq_true hv.1, decide_eq_true hv.2]; rfl
theorem flo_le : ∀ (l : List Int) (n : Int), flo n l ≤ n
  | [], n => Int.le_refl n
  | s :: l, n => by
    have := flo_le l (if 0 < s ∧ s - 1 < n then s - 1 else n)
    unfold flo
    split at this <;> rename_i h
    · rw [if_pos h]; omega
    · rw [if_neg h]; omega
theorem flo_saw : ∀ (l : List Int) (n v : Int), v ∈ l → 0 < v → flo n l ≤ v - 1
  | s :: l, n, v, hv, h0 => by
    unfold flo
    rcases List.mem_cons.1 hv with rfl | hv
    · have := flo_le l (if 0 < v ∧ v - 1 < n then v - 1 else n)
      split at this <;> rename_i h
      · rw [if_pos h]; omega
      · rw [if_neg h]; omega
    · exact flo_saw l _ v hv h0
theorem flo_ge : ∀ (l : List Int) (n m : Int), m ≤ n → (∀ v ∈ l, 0 < v → m ≤ v - 1) → m ≤ flo n l
  | [], n, m, h, _ => h
  | s :: l, n, m, h, hl => by
    unfold flo
    refine flo_ge l _ m ?_ fun v hv => hl v (List.mem_cons_of_mem _ hv)
    split
    · rename_i hs
      exact hl s (List.mem_cons_self ..) hs.1
    · exact h
structure OCells (p : Int) (cs cs' : List Int) (c : Nat) : Prop where
  len : cs'.length = 771
  ok : cellsOK cs' = true
  fr : frC cs' = frC cs
  mr : mkC cs ≤ mkC cs' ∧ mkC cs' ≤ frC cs
  sc : ∀ i, i ≠ c ∨ p = 93 → scC cs' i = scC cs i
  sb : ∀ i, i < 4 → 0 ≤ scC cs' i ∧ scC cs' i ≤ frC cs + 1
structure OC (cs : List Int) : Prop where
  len : cs.length = 771
  ok : cellsOK cs = true
  mr : 0 ≤ mkC cs ∧ mkC cs ≤ frC cs
  fr : frC cs ≤ 1000000
  sb : ∀ i, i < 4 → 0 ≤ scC cs i ∧ scC cs i ≤ frC cs + 1
theorem OC.same {cs : List Int} (h : OC cs) (p : Int) (c : Nat) : OCells p cs cs c := ⟨h.len, h.ok, rfl, ⟨Int.le_refl _, h.mr.2⟩, fun _ _ => rfl, h.sb⟩
theorem OCells.next {p : Int} {cs cs' : List Int} {c : Nat} (h : OCells p cs cs' c) (hc : OC cs) : OC cs' :=
  ⟨h.len, h.ok, ⟨by have := hc.mr; have := h.mr; omega, by rw [h.fr]; exact h.mr.2⟩, by rw [h.fr]; exact hc.fr, fun i hi => by rw [h.fr]; exact h.sb i hi⟩
theorem JB.step {cs : List Int} {opn : List Bool} {c k : Int} {r got : List Int} (h : JB cs opn c k r got) (hc : OC cs) (c0 : 0 ≤ c) (c3 : c ≤ 3) (hi : (goO false [⟨92, k, r⟩] got).is = true) :
    ∃ n r' kd a b v, (∀ own, goO own [⟨92, k, r⟩] got = g4 92 n r' got kd a b v 0) ∧ OkDo4 cs kd a b v ∧ OCells 92 cs (doC4 cs kd a b v) c.toNat ∧ JB (doC4 cs kd a b v) opn c n r' [doG4 cs kd a b] ∧
      ((goO false [⟨92, n, r'⟩] [doG4 cs kd a b]).is = false → ∃ s, (goO false [⟨92, n, r'⟩] [doG4 cs kd a b]) = gEnd4 [s] ∧ mkC (doC4 cs kd a b v) ≤ s ∧ scC (doC4 cs kd a b v) c.toNat = s + 1 ∧ s ≤ frC cs) := by
  obtain ⟨h1, h2, h3, h⟩ := h
  have hl := hc.len
  have hf := hc.fr
  have hm := hc.mr
  have hoL : ∀ a : Int, 0 ≤ a → a < 771 → OkDo4 cs 0 a 0 0 := fun a a0 a1 => ⟨.inl ⟨rfl, rfl, rfl⟩, a0, by rw [hl]; exact a1, by decide, by decide, by decide, by decide⟩
  rcases h with ⟨rfl, rfl⟩ | ⟨x, rfl, x0, x1, rfl | ⟨s0, s1, s2, rfl | rfl⟩⟩
  · refine ⟨1, r, 0, 0, 0, 0, fun own => oB0 own r [], hoL 0 (by decide) (by decide), by rw [doC4_load]; exact hc.same _ _, ?_, fun q => by rw [doG4_load, oB1] at q; cases q⟩
    rw [doC4_load, doG4_load]
    exact ⟨h1, h2, h3, .inr ⟨_, rfl, by show 0 ≤ frC cs; omega, Int.le_refl _, .inl rfl⟩⟩
  · have ha : lRow 9 (r.getD 0 0) 4 = 9 + c := by rw [h2, lRow, if_pos ⟨c0, by omega⟩]
    have hn : (9 + c).toNat = 9 + c.toNat := by omega
    refine ⟨2, r.set 1 x, 1, 9 + c, 0, x + 1, fun own => by rw [oB1, ha], ⟨.inr (.inl ⟨rfl, rfl⟩), by omega, by omega, by decide, by decide, by omega, by omega⟩, ?_, ?_, fun q => by rw [doG4_store, oB2] at q; cases q⟩
    · rw [doC4_store, hn]
      have hsc : ∀ i, scC (cs.set (9 + c.toNat) (x + 1)) i = if i = c.toNat then x + 1 else scC cs i := fun i => by
        unfold scC
        rw [getD_set _ _ _ _ _ (by omega)]
        by_cases e : i = c.toNat
        · rw [if_pos (by omega), if_pos e]
        · rw [if_neg (by omega), if_neg e]
      have hmk : mkC (cs.set (9 + c.toNat) (x + 1)) = mkC cs := by unfold mkC; rw [getD_set_ne' (by omega)]
      have hfr : frC (cs.set (9 + c.toNat) (x + 1)) = frC cs := by unfold frC; rw [getD_set_ne' (by omega)]
      refine ⟨by rw [List.length_set]; exact hl, cellsOK_set hc.ok (by omega), hfr, by rw [hmk]; omega, fun i hi => ?_, fun i hi => ?_⟩
      · rw [hsc, if_neg (by omega)]
      · rw [hsc]
        split
        · omega
        · exact hc.sb i hi
    · rw [doC4_store, doG4_store, hn]
      refine ⟨by rw [List.length_set]; exact h1, by rw [getD_set_ne' (by decide)]; exact h2, h3, .inr ⟨0, rfl, Int.le_refl _, ?_, .inr ⟨?_, ?_, ?_, .inl rfl⟩⟩⟩
      · unfold frC; rw [getD_set_ne' (by omega)]; have : frC cs = cs.getD 0 0 := rfl; omega
      · rw [getD_set_eq (by omega)]; exact x0
      · rw [getD_set_eq (by omega)]; unfold frC; rw [getD_set_ne' (by omega)]; exact x1
      · unfold scC; rw [getD_set_eq (by omega), getD_set_eq (by omega)]
  · refine ⟨3, r, 0, 3, 0, 0, fun own => oB2 own r [x], hoL 3 (by decide) (by decide), by rw [doC4_load]; exact hc.same _ _, ?_, fun q => ?_⟩
    · rw [doC4_load, doG4_load]
      exact ⟨h1, h2, h3, .inr ⟨_, rfl, hm.1, hm.2, .inr ⟨s0, s1, s2, .inr rfl⟩⟩⟩
    · rw [doG4_load, oB3] at q ⊢
      split at q
      · cases q
      · rename_i hlt
        rw [if_neg hlt, doC4_load]
        have : mkC cs = cs.getD (Int.toNat 3) 0 := rfl
        exact ⟨_, rfl, by omega, s2, s1⟩
  · rw [oB3] at hi
    split at hi
    · rename_i hlt
      refine ⟨1, r, 0, 0, 0, 0, fun own => by rw [oB3, if_pos hlt], hoL 0 (by decide) (by decide), by rw [doC4_load]; exact hc.same _ _, ?_, fun q => by rw [doG4_load, oB1] at q; cases q⟩
      rw [doC4_load, doG4_load]
      exact ⟨h1, h2, h3, .inr ⟨_, rfl, by show 0 ≤ frC cs; omega, Int.le_refl _, .inl rfl⟩⟩
    · cases hi
theorem JM.look {cs : List Int} {opn : List Bool} {start : List Int} {r q : List Int} (h1 : r.length = 96) (h2 : q.length = 96) (e : r.getD 0 0 = q.getD 0 0) (w0 : 0 ≤ r.getD 0 0) (w1 : r.getD 0 0 ≤ mkC cs) (hc : OC cs)
    (ho : ∀ i, i < 4 → opB opn i = true → scC cs i = stA start i + 1 ∧ 0 ≤ stA start i) :
    OkDo4 cs 0 9 0 0 ∧ OCells 93 cs (doC4 cs 0 9 0 0) 0 ∧ JM (doC4 cs 0 9 0 0) opn start 4 (r.set 1 0) (q.set 2 0) [doG4 cs 0 9 0] ∧ (goO false [⟨93, 4, r.set 1 0⟩] [doG4 cs 0 9 0]).is = true := by
  have hl := hc.len
  have hm := hc.mr
  have hs := hc.sb 0 (by decide)
  refine ⟨⟨.inl ⟨rfl, rfl, rfl⟩, by decide, by omega, by decide, by decide, by decide, by decide⟩, by rw [doC4_load]; exact hc.same _ _, ?_, ?_⟩
  · rw [doC4_load, doG4_load]
    have hx : cs.getD (Int.toNat 9) 0 = scC cs 0 := rfl
    rw [hx]
    have er : (r.set 1 0).getD 0 0 = r.getD 0 0 := getD_set_ne' (by decide)
    have eq : (q.set 2 0).getD 0 0 = q.getD 0 0 := getD_set_ne' (by decide)
    refine ⟨by rw [List.length_set]; exact h1, by rw [List.length_set]; exact h2, .inr ⟨_, rfl, hs.1, hs.2, .inr ⟨by rw [er, eq]; exact e, by rw [er]; exact w0, by rw [er]; omega, .inr (.inr ⟨rfl, by rw [er]; exact w1, 0, by decide, getD_set_eq (by omega), getD_set_eq (by omega), fun i hi => by omega, fun hop => ?_⟩)⟩⟩⟩
    have := ho 0 (by decide) hop
    exact .inr ⟨by omega, by omega⟩
  · rw [oA4, getD_set_eq (by omega), if_neg (by decide)]; rfl
theorem JM.step {cs : List Int} {opn : List Bool} {start : List Int} {k : Int} {r q got : List Int} (h : JM cs opn start k r q got) (hc : OC cs) (ho : ∀ i, i < 4 → opB opn i = true → scC cs i = stA start i + 1 ∧ 0 ≤ stA start i)
    (hi : (goO false [⟨93, k, r⟩] got).is = true) :
    ∃ n r' q' kd a b v, goO false [⟨93, k, r⟩] got = g4 93 n r' got kd a b v 0 ∧ goO true [⟨93, k, q⟩] got = g4 93 n q' got kd a b v 0 ∧ OkDo4 cs kd a b v ∧ OCells 93 cs (doC4 cs kd a b v) 0 ∧ JM (doC4 cs kd a b v) opn start n r' q' [doG4 cs kd a b] ∧
      ((goO false [⟨93, n, r'⟩] [doG4 cs kd a b]).is = false → ∃ s, (goO false [⟨93, n, r'⟩] [doG4 cs kd a b]) = gEnd4 [s] ∧ s ≤ mkC (doC4 cs kd a b v) ∧ ∀ i, i < 4 → opB opn i = true → s ≤ stA start i) := by
  obtain ⟨h1, h2, h⟩ := h
  have hl := hc.len
  have hf := hc.fr
  have hm := hc.mr
  have hoL : ∀ a : Int, 0 ≤ a → a < 771 → OkDo4 cs 0 a 0 0 := fun a a0 a1 => ⟨.inl ⟨rfl, rfl, rfl⟩, a0, by rw [hl]; exact a1, by decide, by decide, by decide, by decide⟩
  rcases h with ⟨rfl, rfl⟩ | ⟨x, rfl, x0, x1, ⟨rfl, x2⟩ | ⟨e, w0, w1, ⟨rfl, x2⟩ | ⟨rfl, x2⟩ | ⟨rfl, h4⟩⟩⟩
  · refine ⟨1, r, q, 0, 0, 0, 0, oM0 _ _ _, oM0 _ _ _, hoL 0 (by decide) (by decide), by rw [doC4_load]; exact hc.same _ _, ?_, fun q => by rw [doG4_load, oM1] at q; cases q⟩
    rw [doC4_load, doG4_load]
    have hx : cs.getD (Int.toNat 0) 0 = frC cs := rfl
    rw [hx]
    exact ⟨h1, h2, .inr ⟨_, rfl, by omega, by omega, .inl ⟨rfl, Int.le_refl _⟩⟩⟩
  · refine ⟨2, r.set 0 x, q.set 0 x, 0, 3, 0, 0, oM1 _ _ _, oM1 _ _ _, hoL 3 (by decide) (by decide), by rw [doC4_load]; exact hc.same _ _, ?_, fun q => ?_⟩
    · rw [doC4_load, doG4_load]
      have hx : cs.getD (Int.toNat 3) 0 = mkC cs := rfl
      have er : (r.set 0 x).getD 0 0 = x := getD_set_eq (by omega)
      have eq : (q.set 0 x).getD 0 0 = x := getD_set_eq (by omega)
      rw [hx]
      exact ⟨by rw [List.length_set]; exact h1, by rw [List.length_set]; exact h2, .inr ⟨_, rfl, hm.1, by omega, .inr ⟨by rw [er, eq], by rw [er]; exact x0, by rw [er]; exact x2, .inl ⟨rfl, Int.le_refl _⟩⟩⟩⟩
    · rw [doG4_load, oA2] at q
      split at q <;> cases q
  · by_cases hlt : x < r.getD 0 0
    · refine ⟨3, r, q.set 1 x, 2, 3, x, r.getD 0 0, by rw [oA2, if_pos hlt], by rw [oC2, ← e, if_pos hlt], ⟨.inr (.inr (.inl rfl)), by decide, by omega, by omega, by omega, by omega, by omega⟩, ?_, ?_, fun q => ?_⟩
      · rw [doC4_cas]
        split
        · rename_i hb
          have hmk : mkC (cs.set (Int.toNat 3) (r.getD 0 0)) = r.getD 0 0 := getD_set_eq (by omega)
          have hfr : frC (cs.set (Int.toNat 3) (r.getD 0 0)) = frC cs := getD_set_ne' (by decide)
          have hsc : ∀ i, scC (cs.set (Int.toNat 3) (r.getD 0 0)) i = scC cs i := fun i => getD_set_ne' (by omega)
          have hb : mkC cs = x := hb
          exact ⟨by rw [List.length_set]; exact hl, cellsOK_set hc.ok (by omega), hfr, by rw [hmk]; omega, fun i _ => hsc i, fun i hi => by rw [hsc]; exact hc.sb i hi⟩
        · exact hc.same _ _
      · rw [doC4_cas, doG4_cas]
        have eq : (q.set 1 x).getD 0 0 = q.getD 0 0 := getD_set_ne' (by decide)
        split
        · have hmk : mkC (cs.set (Int.toNat 3) (r.getD 0 0)) = r.getD 0 0 := getD_set_eq (by omega)
          have hfr : frC (cs.set (Int.toNat 3) (r.getD 0 0)) = frC cs := getD_set_ne' (by decide)
          exact ⟨h1, by rw [List.length_set]; exact h2, .inr ⟨_, rfl, by decide, by omega, .inr ⟨by rw [eq]; exact e, w0, by rw [hfr]; exact w1, .inr (.inl ⟨rfl, .inr (by rw [hmk]; exact Int.le_refl _)⟩)⟩⟩⟩
        · exact ⟨h1, by rw [List.length_set]; exact h2, .inr ⟨_, rfl, by decide, by omega, .inr ⟨by rw [eq]; exact e, w0, w1, .inr (.inl ⟨rfl, .inl rfl⟩)⟩⟩⟩
      · rw [oA3] at q
        split at q <;> cases q
    · obtain ⟨a1, a2, a3, a4⟩ := JM.look h1 h2 e w0 (by omega) hc ho
      refine ⟨4, r.set 1 0, q.set 2 0, 0, 9, 0, 0, by rw [oA2, if_neg hlt], by rw [oC2, ← e, if_neg hlt], a1, a2, a3, fun q => by rw [a4] at q; cases q⟩
  · by_cases hx : x = 0
    · refine ⟨2, r, q, 0, 3, 0, 0, by rw [oA3, if_pos hx], by rw [oC3, if_pos hx], hoL 3 (by decide) (by decide), by rw [doC4_load]; exact hc.same _ _, ?_, fun q => ?_⟩
      · rw [doC4_load, doG4_load]
        have hx : cs.getD (Int.toNat 3) 0 = mkC cs := rfl
        rw [hx]
        exact ⟨h1, h2, .inr ⟨_, rfl, hm.1, by omega, .inr ⟨e, w0, w1, .inl ⟨rfl, Int.le_refl _⟩⟩⟩⟩
      · rw [doG4_load, oA2] at q
        split at q <;> cases q
    · obtain ⟨a1, a2, a3, a4⟩ := JM.look h1 h2 e w0 (by omega) hc ho
      exact ⟨4, r.set 1 0, q.set 2 0, 0, 9, 0, 0, by rw [oA3, if_neg hx], by rw [oC3, if_neg hx], a1, a2, a3, fun q => by rw [a4] at q; cases q⟩
  · obtain ⟨w2, j, j3, e1, e2, hj, hx⟩ := h4
    rw [oA4] at hi
    split at hi
    · cases hi
    rename_i hne
    have hj3 : j ≤ 2 := by omega
    have t1 : (r.getD 1 0).toNat = j := by omega
    have t2 : (q.getD 2 0).toNat = j := by omega
    have hr0 : ((r.set (2 + j) x).set 1 ((j : Int) + 1)).getD 0 0 = r.getD 0 0 := by rw [getD_set_ne' (by decide), getD_set_ne' (by omega)]
    have hq0 : ((q.set (3 + j) x).set 2 ((j : Int) + 1)).getD 0 0 = q.getD 0 0 := by rw [getD_set_ne' (by decide), getD_set_ne' (by omega)]
    have hr1 : ((r.set (2 + j) x).set 1 ((j : Int) + 1)).getD 1 0 = j + 1 := getD_set_eq (by rw [List.length_set]; omega)
    have hq2 : ((q.set (3 + j) x).set 2 ((j : Int) + 1)).getD 2 0 = j + 1 := getD_set_eq (by rw [List.length_set]; omega)
    have hri : ∀ i, ((r.set (2 + j) x).set 1 ((j : Int) + 1)).getD (2 + i) 0 = if i = j then x else r.getD (2 + i) 0 := fun i => by
      rw [getD_set_ne' (by omega), getD_set _ _ _ _ _ (by omega)]
      by_cases e : i = j
      · rw [if_pos (by omega), if_pos e]
      · rw [if_neg (by omega), if_neg e]
    have hqi : ∀ i, ((q.set (3 + j) x).set 2 ((j : Int) + 1)).getD (3 + i) 0 = if i = j then x else q.getD (3 + i) 0 := fun i => by
      rw [getD_set_ne' (by omega), getD_set _ _ _ _ _ (by omega)]
      by_cases e : i = j
      · rw [if_pos (by omega), if_pos e]
      · rw [if_neg (by omega), if_neg e]
    have hsb := hc.sb (j + 1) (by omega)
    have hvx : cs.getD (10 + (j : Int)).toNat 0 = scC cs (j + 1) := by unfold scC; congr 1; omega
    have hsaw : ∀ i, i < j + 1 → SawIt opn start (r.getD 0 0) i (if i = j then x else r.getD (2 + i) 0) := fun i hi => by
      by_cases e : i = j
      · rw [if_pos e, e]; exact hx
      · rw [if_neg e]; exact (hj i (by omega)).2.2.2
    have hlast : SawIt opn start (r.getD 0 0) (j + 1) (scC cs (j + 1)) := fun hop => by
      have := ho (j + 1) (by omega) hop
      exact .inr ⟨by omega, by omega⟩
    refine ⟨4, (r.set (2 + j) x).set 1 (j + 1), (q.set (3 + j) x).set 2 (j + 1), 0, 10 + j, 0, 0, by rw [oA4, if_neg hne, t1, e1], by rw [oC4, if_neg (by omega), t2, e2], hoL _ (by omega) (by omega), by rw [doC4_load]; exact hc.same _ _, ?_, fun q => ?_⟩
    · rw [doC4_load, doG4_load, hvx]
      refine ⟨by rw [List.length_set, List.length_set]; exact h1, by rw [List.length_set, List.length_set]; exact h2, .inr ⟨_, rfl, hsb.1, hsb.2, .inr ⟨by rw [hr0, hq0]; exact e, by rw [hr0]; exact w0, by rw [hr0]; exact w1, .inr (.inr ⟨rfl, by rw [hr0]; exact w2, j + 1, by omega, by rw [hr1]; simp, by rw [hq2]; simp, fun i hi => ?_, by rw [hr0]; exact hlast⟩)⟩⟩⟩
      rw [hri, hqi, hr0]
      refine ⟨?_, ?_, ?_, hsaw i hi⟩
      · by_cases e : i = j
        · rw [if_pos e, if_pos e]
        · rw [if_neg e, if_neg e]; exact (hj i (by omega)).1
      · by_cases e : i = j
        · rw [if_pos e]; exact x0
        · rw [if_neg e]; exact (hj i (by omega)).2.1
      · by_cases e : i = j
        · rw [if_pos e]; exact x1
        · rw [if_neg e]; exact (hj i (by omega)).2.2.1
    · rw [doC4_load]
      rw [doG4_load, hvx, oA4, hr1, hr0] at q ⊢
      split at q
      · rename_i h3
        rw [if_pos h3]
        have hjj : j = 2 := by omega
        refine ⟨_, rfl, Int.le_trans (flo_le _ _) w2, fun i hi hop => ?_⟩
        have k2 : ((r.set (2 + j) x).set 1 ((j : Int) + 1)).getD 2 0 = if (0 : Nat) = j then x else r.getD 2 0 := hri 0
        have k3 : ((r.set (2 + j) x).set 1 ((j : Int) + 1)).getD 3 0 = if (1 : Nat) = j then x else r.getD 3 0 := hri 1
        have k4 : ((r.set (2 + j) x).set 1 ((j : Int) + 1)).getD 4 0 = if (2 : Nat) = j then x else r.getD 4 0 := hri 2
        have s : ∃ v, v ∈ [((r.set (2 + j) x).set 1 ((j : Int) + 1)).getD 2 0, ((r.set (2 + j) x).set 1 ((j : Int) + 1)).getD 3 0, ((r.set (2 + j) x).set 1 ((j : Int) + 1)).getD 4 0, scC cs (j + 1)] ∧ SawIt opn start (r.getD 0 0) i v := by
          rw [k2, k3, k4]
          obtain rfl | rfl | rfl | rfl : i = 0 ∨ i = 1 ∨ i = 2 ∨ i = 3 := by omega
          · exact ⟨_, by simp, hsaw 0 (by omega)⟩
          · exact ⟨_, by simp, hsaw 1 (by omega)⟩
          · exact ⟨_, by simp, hsaw 2 (by omega)⟩
          · exact ⟨scC cs (j + 1), by simp, by have := hlast; rwa [hjj] at this ⊢⟩
        obtain ⟨v, hv, hs⟩ := s
        rcases hs hop with h | ⟨v0, h⟩
        · exact Int.le_trans (flo_le _ _) h
        · exact Int.le_trans (flo_saw _ _ v hv v0) h
      · cases q
end Go.Ev
