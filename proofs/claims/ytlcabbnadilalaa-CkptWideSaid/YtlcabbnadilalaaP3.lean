/-
  CkptWide returns true for any disk, number, state, sector and bytes, and they read behind the call as before. (text 4 of 7)
-/
import Derived.Test.YtlcabbnadilalaaP2
import Derived.KernelRfl
namespace Go.Ev
open Go.Proofs
set_option maxRecDepth 100000
set_option linter.unusedVariables false
set_option linter.unusedSimpArgs false
noncomputable def p0 : Fns RC := noFns Try.prog 84 (fun f => Nat.beq f 34)
theorem p0_laws : FLaws Try.prog s07 p0 := noFns_laws (by kernel_rfl)
structure rowRl_St where
  c : Bool
  l : List Sector
  i : Nat
def rowRl_c (c : Bool) (l : List Sector) (i : Nat) : Env RC := [(0, .sl (C := RC) .sector c l), (2, .bool false), (3, .int .i64 (i : Int))]
def rowRl_o (c : Bool) (l : List Sector) (i : Nat) : List (Obj RC) := []
noncomputable def rowRl_r (c : Bool) (l : List Sector) (i : Nat) := rndO s07 p0 26 4 40 0 [0, 2, 3] [2] [] (rowRl_c c l i) (rowRl_o c l i)
theorem rowRl_eq (c : Bool) (l : List Sector) (i : Nat) : rowRl_r c l i = (bif lenOK l.length then bif decide ((↑i : Int) < (↑l.length : Int)) then bif decide ((0 : Int) ≤ (↑i : Int) ∧ (↑i : Int) < (↑l.length : Int)) then bif decide (Sector.n (List.getD l (↑i : Int).toNat (Sector.mk (0 : Int) [])) < (0 : Int)) then some ((X.ret, [((2 : Nat), D.bool false)]), []) else bif decide ((0 : Int) ≤ (↑i : Int) ∧ (↑i : Int) < (↑l.length : Int)) then bif decide ((1048575 : Int) < Sector.n (List.getD l (↑i : Int).toNat (Sector.mk (0 : Int) []))) then some ((X.ret, [((2 : Nat), D.bool false)]), []) else bif decide ((0 : Int) ≤ (↑i : Int) ∧ (↑i : Int) < (↑l.length : Int)) then bif lenOK (Sector.b (List.getD l (↑i : Int).toNat (Sector.mk (0 : Int) []))).length then bif decide ((640 : Int) < (↑(Sector.b (List.getD l (↑i : Int).toNat (Sector.mk (0 : Int) []))).length : Int)) then some ((X.ret, [((2 : Nat), D.bool false)]), []) else bif decide ((0 : Int) ≤ (↑i : Int) ∧ (↑i : Int) < (↑l.length : Int)) then bif Sector.n (List.getD l (↑i : Int).toNat (Sector.mk (0 : Int) [])) == (0 : Int) then bif decide ((0 : Int) ≤ (↑i : Int) ∧ (↑i : Int) < (↑l.length : Int)) then bif !Sector.b (List.getD l (↑i : Int).toNat (Sector.mk (0 : Int) [])) == Array.toList #[] then some ((X.ret, [((2 : Nat), D.bool false)]), []) else some ((X.normal, [((0 : Nat), D.sl RTy.sector c l), ((2 : Nat), D.bool false), ((3 : Nat), D.int .i64 (IntKind.wrap .i64 ((↑i : Int) + (1 : Int))))]), []) else none else some ((X.normal, [((0 : Nat), D.sl RTy.sector c l), ((2 : Nat), D.bool false), ((3 : Nat), D.int .i64 (IntKind.wrap .i64 ((↑i : Int) + (1 : Int))))]), []) else none else none else none else none else none else some ((X.exit (0 : Nat), [((2 : Nat), D.bool false)]), []) else none) := by kernel_rfl
def rowRl_fin (c : Bool) (l : List Sector) (i : Nat) : RT RC := .br (l.drop i |>.all maySec) (.leaf (.exit 0) [(2, .bool false)] []) (.leaf .ret [(2, .bool false)] [])
def rowRl_Inv (c : Bool) (l : List Sector) (i : Nat) : Prop := i ≤ l.length ∧ goodL l = true
def rowRl_S : LoopR RC rowRl_St where
  k := 0
  canon q := rowRl_c q.c q.l q.i
  objs q := rowRl_o q.c q.l q.i
  fin q := rowRl_fin q.c q.l q.i
  Inv q := rowRl_Inv q.c q.l q.i
  μ q := q.l.length - q.i
theorem rowRl_round (c : Bool) (l : List Sector) (i : Nat) (hI : rowRl_Inv c l i) : Leaf (rowRl_r c l i) (LedR rowRl_S ⟨c, l, i⟩) := by
  rw [rowRl_eq]
  unfold rowRl_Inv at hI
  obtain ⟨h1, hg⟩ := hI
  have h2 := (goodL_iff.1 hg).1
  have hlk0 : lenOK l.length = true := lenOK_of h2
  by_cases hlt : i < l.length
  · have w_succ : IntKind.i64.wrap ((i : Int) + 1) = ((i + 1 : Nat) : Int) := by rw [wrap_id (by omega) (by omega)]; simp
    have d_lt : decide ((i : Int) < l.length) = true := by simp; omega
    have d_in : decide (0 ≤ (i : Int) ∧ (i : Int) < l.length) = true := by simp; omega
    have t_nat : ((i : Int)).toNat = i := by simp
    simp only [w_succ, d_lt, d_in, t_nat, cond_true]
    have hlk := goodL_at hg i hlt (⟨0, []⟩ : Sector)
    have hst := all_drop_step l maySec i hlt (⟨0, []⟩ : Sector)
    generalize l.getD i (⟨0, []⟩ : Sector) = x at hst hlk ⊢
    simp only [hlk0, hlk, cond_true]
    have hgo : maySec x = true → Leaf (some ((X.normal, rowRl_c c l (i + 1)), [])) (LedR rowRl_S ⟨c, l, i⟩) := fun e =>
      leafR_go ⟨c, l, i + 1⟩ ⟨hlt, hg⟩ (by simp only [rowRl_S]; omega) (by simp [rowRl_S, rowRl_fin, hst, e]) rfl rfl
    have hno : maySec x = false → Leaf (some ((X.ret, [(2, D.bool false)]), [])) (LedR rowRl_S ⟨c, l, i⟩) := fun e => leafR_ret [] (by simp [rowRl_S, rowRl_fin, hst, e, RT.val]) rfl
    have hm : maySec x = (decide (0 ≤ x.n) && decide (x.n ≤ 1048575) && decide (x.b.length ≤ 640) && (decide (0 < x.n) || x.b == [])) := rfl
    rw [hm] at hgo hno
    repeat' (refine leaf_cond.2 ⟨fun hc_ => ?_, fun hc_ => ?_⟩)
    all_goals first | exact hno (by clear hgo hno hst hm; simp_all <;> omega) | exact hgo (by clear hgo hno hst hm; simp_all <;> omega)
  · have hi : i = l.length := by omega
    have c1 : decide ((i : Int) < l.length) = false := by simp; omega
    rw [hlk0, c1]
    exact leafR_exit [] (by simp [rowRl_S, rowRl_fin, hi, RT.val]) rfl
def rowRl_d (env : Env RC) (os : List (Obj RC)) : Option (Bool × rowRl_St) := match env, os with
  | [(0, .sl .sector c l), (2, .bool false), (3, .int .i64 x0)], [] => staticD (true) (decide (x0 = 0) && goodL l, ⟨c, l, 0⟩)
  | _, _ => none
noncomputable def ua_1 := p0.addLoop 26 4 (sumR s07 [] [0, 2, 3] rowRl_S rowRl_d)
theorem ua_1_laws : FLaws Try.prog s07 ua_1 := by
  refine p0_laws.addRoundsR s07_laws (by kernel_rfl) rowRl_S 40 [0, 2, 3] [2] [] [0, 2, 3] rowRl_d (fun q hI => ?_) ?_
  · obtain ⟨c, l, i⟩ := q
    refine ⟨?_, ?_, rowRl_round c l i hI⟩
    · simp_all [RefsOK, rowRl_S, rowRl_c, rowRl_o, rowRl_Inv, D.refs, Obj.refs, rEnc]
    · simp_all [rowRl_S, rowRl_fin, rowRl_o, rowRl_Inv, RT.refsOK, RefsOK, D.refs, Obj.refs, rEnc]
  · intro env os b q hd_ hb
    unfold rowRl_d at hd_
    split at hd_
    · obtain ⟨hs, hd_⟩ := staticD_some hd_
      cases hd_
      simp only [Bool.and_eq_true, decide_eq_true_eq] at hb
      obtain ⟨rfl, hl⟩ := hb
      exact ⟨⟨Nat.zero_le _, hl⟩, rfl, rfl⟩
    · cases hd_
def rowRf_s (c : Bool) (l : List Sector) : Option (Bool × D RC) := some (goodL l, .bool (rowOK l))
def rowRf_sp : List (D RC) → Option (Bool × D RC)
  | [.sl .sector c l] => rowRf_s c l
  | _ => none
noncomputable def rowRf_e (c : Bool) (l : List Sector) := evF s07 ua_1 40 26 [.sl (C := RC) .sector c l]
theorem rowRf_eq (c : Bool) (l : List Sector) : rowRf_e c l = (bif lenOK l.length then bif (↑l.length : Int) != (33 : Int) then some (D.bool false) else bif goodL l then bif List.all (List.drop (0 : Nat) l) maySec then some (D.bool true) else some (D.bool false) else none else none) := by kernel_rfl
theorem rowRf_ok (c : Bool) (l : List Sector) (h : (goodL l) = true) : rowRf_e c l = some (.bool (rowOK l)) := by
  rw [rowRf_eq]
  have hl := (goodL_iff.1 h).1
  have lk := lenOK_of hl
  simp only [h, lk, rowOK, cond_true, List.drop_zero]
  by_cases e : l.length = 33
  · have e2 : ((l.length : Int) != 33) = false := by simp [e]
    cases hm : l.all maySec <;> simp [e, hm]
  · have e2 : ((l.length : Int) != 33) = true := by simp [bne]; omega
    simp [e, e2]
noncomputable def ua_2 := ua_1.addSpec 26 rowRf_sp
theorem ua_2_laws : FLaws Try.prog s07 ua_2 := ua_1_laws.addEv s07_laws fun args d h => by
  unfold rowRf_sp at h
  split at h
  · unfold rowRf_s at h
    have h1 := congrArg Prod.fst (Option.some.inj h)
    obtain rfl : _ = d := congrArg Prod.snd (Option.some.inj h)
    exact ⟨by simp [D.refs], 40, rowRf_ok _ _ h1⟩
  · cases h
structure chkRl_St where
  c : Bool
  now : List Sector
  d : Bool
  sure : List Sector
  i : Nat
def chkRl_c (c : Bool) (now : List Sector) (d : Bool) (sure : List Sector) (i : Nat) : Env RC := [(1, .ptr 0 []), (2, .int .i64 0), (3, .int .i64 (i : Int))]
def chkRl_o (c : Bool) (now : List Sector) (d : Bool) (sure : List Sector) (i : Nat) : List (Obj RC) := [.var 24 (.acons (.sl (C := RC) .sector c now) (.acons (.sl (C := RC) .sector d sure) .anil))]
noncomputable def chkRl_r (c : Bool) (now : List Sector) (d : Bool) (sure : List Sector) (i : Nat) := rndO s07 ua_2 10 4 40 1 [1, 2, 3] [2] [.slot 1 0] (chkRl_c c now d sure i) (chkRl_o c now d sure i)
theorem chkRl_eq (c : Bool) (now : List Sector) (d : Bool) (sure : List Sector) (i : Nat) : chkRl_r c now d sure i = (bif lenOK now.length then bif decide ((↑i : Int) < (↑now.length : Int)) then bif decide ((0 : Int) ≤ (↑i : Int) ∧ (↑i : Int) < (↑sure.length : Int)) then bif decide ((0 : Int) ≤ (↑i : Int) ∧ (↑i : Int) < (↑now.length : Int)) then bif decide (Sector.n (List.getD now (↑i : Int).toNat (Sector.mk (0 : Int) [])) < Sector.n (List.getD sure (↑i : Int).toNat (Sector.mk (0 : Int) []))) then some ((X.ret, [((2 : Nat), D.int .i64 (2 : Int))]), [some (Obj.var (24 : Nat) (.acons (D.sl RTy.sector c now) (.acons (D.sl RTy.sector d sure) .anil)))]) else some ((X.normal, [((1 : Nat), D.ptr (0 : Nat) []), ((2 : Nat), D.int .i64 (0 : Int)), ((3 : Nat), D.int .i64 (IntKind.wrap .i64 ((↑i : Int) + (1 : Int))))]), [some (Obj.var (24 : Nat) (.acons (D.sl RTy.sector c now) (.acons (D.sl RTy.sector d sure) .anil)))]) else none else none else some ((X.exit (0 : Nat), [((2 : Nat), D.int .i64 (0 : Int))]), [some (Obj.var (24 : Nat) (.acons (D.sl RTy.sector c now) (.acons (D.sl RTy.sector d sure) .anil)))]) else none) := by kernel_rfl
def chkRl_fin (c : Bool) (now : List Sector) (d : Bool) (sure : List Sector) (i : Nat) : RT RC := .br (lowAt now sure i) (.leaf (.exit 0) [(2, .int .i64 0)] (chkRl_o c now d sure i)) (.leaf .ret [(2, .int .i64 2)] (chkRl_o c now d sure i))
def chkRl_Inv (c : Bool) (now : List Sector) (d : Bool) (sure : List Sector) (i : Nat) : Prop := i ≤ now.length ∧ now.length ≤ 9223372036854775807 ∧ now.length = sure.length
def chkRl_S : LoopR RC chkRl_St where
  k := 1
  canon q := chkRl_c q.c q.now q.d q.sure q.i
  objs q := chkRl_o q.c q.now q.d q.sure q.i
  fin q := chkRl_fin q.c q.now q.d q.sure q.i
  Inv q := chkRl_Inv q.c q.now q.d q.sure q.i
  μ q := q.now.length - q.i
theorem chkRl_round (c : Bool) (now : List Sector) (d : Bool) (sure : List Sector) (i : Nat) (hI : chkRl_Inv c now d sure i) : Leaf (chkRl_r c now d sure i) (LedR chkRl_S ⟨c, now, d, sure, i⟩) := by
  rw [chkRl_eq]
  unfold chkRl_Inv at hI
  obtain ⟨h1, h2, h3⟩ := hI
  have hlk0 : lenOK now.length = true := lenOK_of h2
  by_cases hlt : i < now.length
  · have w_succ : IntKind.i64.wrap ((i : Int) + 1) = ((i + 1 : Nat) : Int) := by rw [wrap_id (by omega) (by omega)]; simp
    have d_lt : decide ((i : Int) < now.length) = true := by simp; omega
    have d_in : decide (0 ≤ (i : Int) ∧ (i : Int) < now.length) = true := by simp; omega
    have t_nat : ((i : Int)).toNat = i := by simp
    simp only [w_succ, d_lt, d_in, t_nat, cond_true]
    have hlt2 : i < sure.length := by omega
    have d_in2 : decide (0 ≤ (i : Int) ∧ (i : Int) < sure.length) = true := by simp; omega
    simp only [d_in2, hlk0, cond_true]
    have hst := lowAt_step (now := now) (sure := sure) i hlt (by omega) (⟨0, []⟩ : Sector)
    generalize now.getD i (⟨0, []⟩ : Sector) = x at hst ⊢
    generalize sure.getD i (⟨0, []⟩ : Sector) = y at hst ⊢
    cases a1 : decide (y.n ≤ x.n)
    · have a2 : decide (x.n < y.n) = true := by simp at a1 ⊢; exact a1
      simp only [a2, cond_true]
      exact leafR_ret (chkRl_o c now d sure i) (by simp [chkRl_S, chkRl_fin, hst, a1, RT.val]) rfl
    · have a2 : decide (x.n < y.n) = false := by simp at a1 ⊢; exact a1
      simp only [a2, cond_false]
      exact leafR_go ⟨c, now, d, sure, i + 1⟩ ⟨hlt, h2, h3⟩ (by simp only [chkRl_S]; omega) (by simp [chkRl_S, chkRl_fin, hst, a1]; rfl) rfl rfl
  · have hi : i = now.length := by omega
    have c1 : decide ((i : Int) < now.length) = false := by simp; omega
    rw [hlk0, c1]
    exact leafR_exit (chkRl_o c now d sure i) (by simp [chkRl_S, chkRl_fin, hi, lowAt_end, RT.val]) rfl
def chkRl_d (env : Env RC) (os : List (Obj RC)) : Option (Bool × chkRl_St) := match env, os with
  | [(1, .ptr 0 []), (2, .int .i64 0), (3, .int .i64 x0)], [.var 24 (.acons (.sl .sector c now) (.acons (.sl .sector d sure) .anil))] => staticD (true) (decide (x0 = 0) && decide (now.length ≤ 9223372036854775807 ∧ now.length = sure.length), ⟨c, now, d, sure, 0⟩)
  | _, _ => none
noncomputable def ua_3 := ua_2.addLoop 10 4 (sumR s07 [.slot 1 0] [1, 2, 3] chkRl_S chkRl_d)
theorem ua_3_laws : FLaws Try.prog s07 ua_3 := by
  refine ua_2_laws.addRoundsR s07_laws (by kernel_rfl) chkRl_S 40 [1, 2, 3] [2] [.slot 1 0] [1, 2, 3] chkRl_d (fun q hI => ?_) ?_
  · obtain ⟨c, now, d, sure, i⟩ := q
    refine ⟨?_, ?_, chkRl_round c now d sure i hI⟩
    · simp_all [RefsOK, chkRl_S, chkRl_c, chkRl_o, chkRl_Inv, D.refs, Obj.refs, rEnc]
    · simp_all [chkRl_S, chkRl_fin, chkRl_o, chkRl_Inv, RT.refsOK, RefsOK, D.refs, Obj.refs, rEnc]
  · intro env os b q hd_ hb
    unfold chkRl_d at hd_
    split at hd_
    · obtain ⟨hs, hd_⟩ := staticD_some hd_
      cases hd_
      simp only [Bool.and_eq_true, decide_eq_true_eq] at hb
      obtain ⟨rfl, hl⟩ := hb
      exact ⟨⟨Nat.zero_le _, hl⟩, rfl, rfl⟩
    · cases hd_
def checkR_s (c : Bool) (now : List Sector) (d : Bool) (sure : List Sector) : Option (Bool × D RC) := some (goodL now && goodL sure, .int .i64 (bif diskOK now sure then 0 else 2))
def checkR_sp : List (D RC) → Option (Bool × D RC)
  | [.acons (.sl .sector c now) (.acons (.sl .sector d sure) .anil)] => checkR_s c now d sure
  | _ => none
noncomputable def checkR_e (c : Bool) (now : List Sector) (d : Bool) (sure : List Sector) := evF s07 ua_3 40 10 [.acons (.sl (C := RC) .sector c now) (.acons (.sl (C := RC) .sector d sure) .anil)]
theorem checkR_eq (c : Bool) (now : List Sector) (d : Bool) (sure : List Sector) : checkR_e c now d sure = (bif goodL now then bif !rowOK now then some (D.int .i64 (2 : Int)) else bif goodL sure then bif !rowOK sure then some (D.int .i64 (2 : Int)) else bif decide (List.length now ≤ (9223372036854775807 : Nat) ∧ List.length now = List.length sure) then bif lowAt now sure (0 : Nat) then some (D.int .i64 (0 : Int)) else some (D.int .i64 (2 : Int)) else none else none else none) := by kernel_rfl
theorem checkR_ok (c : Bool) (now : List Sector) (d : Bool) (sure : List Sector) (h : (goodL now && goodL sure) = true) : checkR_e c now d sure = some (.int .i64 (bif diskOK now sure then 0 else 2)) := by
  rw [checkR_eq]
  rw [Bool.and_eq_true] at h
  obtain ⟨hg, hgs⟩ := h
  have hl := (goodL_iff.1 hg).1
  simp only [hg, hgs, cond_true, diskOK]
  cases h1 : rowOK now
  · rfl
  cases h2 : rowOK sure
  · rfl
  have l1 := rowOK_len h1
  have l2 := rowOK_len h2
  have e : decide (now.length ≤ 9223372036854775807 ∧ now.length = sure.length) = true := by simp; omega
  cases h3 : lowAt now sure 0 <;> simp [e]
noncomputable def ua_4 := ua_3.addSpec 10 checkR_sp
theorem ua_4_laws : FLaws Try.prog s07 ua_4 := ua_3_laws.addEv s07_laws fun args d h => by
  unfold checkR_sp at h
  split at h
  · unfold checkR_s at h
    have h1 := congrArg Prod.fst (Option.some.inj h)
    obtain rfl : _ = d := congrArg Prod.snd (Option.some.inj h)
    exact ⟨by simp [D.refs], 40, checkR_ok _ _ _ _ h1⟩
  · cases h
structure secRl_St where
  c : Bool
  l : List Sector
  d : Bool
  m : List Sector
  i : Nat
def secRl_c (c : Bool) (l : List Sector) (d : Bool) (m : List Sector) (i : Nat) : Env RC := [(0, .sl (C := RC) .sector c l), (1, .sl (C := RC) .sector d m), (4, .bool false), (5, .int .i64 (i : Int))]
def secRl_o (c : Bool) (l : List Sector) (d : Bool) (m : List Sector) (i : Nat) : List (Obj RC) := []
noncomputable def secRl_r (c : Bool) (l : List Sector) (d : Bool) (m : List Sector) (i : Nat) := rndO s07 ua_4 35 4 40 0 [0, 1, 4, 5] [4] [] (secRl_c c l d m i) (secRl_o c l d m i)
theorem secRl_eq (c : Bool) (l : List Sector) (d : Bool) (m : List Sector) (i : Nat) : secRl_r c l d m i = (bif lenOK l.length then bif decide ((↑i : Int) < (↑l.length : Int)) then bif decide ((0 : Int) ≤ (↑i : Int) ∧ (↑i : Int) < (↑l.length : Int)) then bif decide ((0 : Int) ≤ (↑i : Int) ∧ (↑i : Int) < (↑m.length : Int)) then bif !(Sector.n (List.getD l (↑i : Int).toNat (Sector.mk (0 : Int) [])) == Sector.n (List.getD m (↑i : Int).toNat (Sector.mk (0 : Int) [])) && (Sector.b (List.getD l (↑i : Int).toNat (Sector.mk (0 : Int) [])) == Sector.b (List.getD m (↑i : Int).toNat (Sector.mk (0 : Int) [])) && true)) then some ((X.ret, [((4 : Nat), D.bool false)]), []) else some ((X.normal, [((0 : Nat), D.sl RTy.sector c l), ((1 : Nat), D.sl RTy.sector d m), ((4 : Nat), D.bool false), ((5 : Nat), D.int .i64 (IntKind.wrap .i64 ((↑i : Int) + (1 : Int))))]), []) else none else none else some ((X.exit (0 : Nat), [((4 : Nat), D.bool false)]), []) else none) := by kernel_rfl
def secRl_fin (c : Bool) (l : List Sector) (d : Bool) (m : List Sector) (i : Nat) : RT RC := .br (decide (l.drop i = m.drop i)) (.leaf (.exit 0) [(4, .bool false)] []) (.leaf .ret [(4, .bool false)] [])
def secRl_Inv (c : Bool) (l : List Sector) (d : Bool) (m : List Sector) (i : Nat) : Prop := i ≤ l.length ∧ l.length ≤ 9223372036854775807 ∧ l.length = m.length
def secRl_S : LoopR RC secRl_St where
  k := 0
  canon q := secRl_c q.c q.l q.d q.m q.i
  objs q := secRl_o q.c q.l q.d q.m q.i
  fin q := secRl_fin q.c q.l q.d q.m q.i
  Inv q := secRl_Inv q.c q.l q.d q.m q.i
  μ q := q.l.length - q.i
theorem secRl_round (c : Bool) (l : List Sector) (d : Bool) (m : List Sector) (i : Nat) (hI : secRl_Inv c l d m i) : Leaf (secRl_r c l d m i) (LedR secRl_S ⟨c, l, d, m, i⟩) := by
  rw [secRl_eq]
  unfold secRl_Inv at hI
  obtain ⟨h1, h2, h3⟩ := hI
  have hlk0 : lenOK l.length = true := lenOK_of h2
  by_cases hlt : i < l.length
  · have w_succ : IntKind.i64.wrap ((i : Int) + 1) = ((i + 1 : Nat) : Int) := by rw [wrap_id (by omega) (by omega)]; simp
    have d_lt : decide ((i : Int) < l.length) = true := by simp; omega
    have d_in : decide (0 ≤ (i : Int) ∧ (i : Int) < l.length) = true := by simp; omega
    have t_nat : ((i : Int)).toNat = i := by simp
    simp only [w_succ, d_lt, d_in, t_nat, cond_true]
    have hlt2 : i < m.length := by omega
    have d_in2 : decide (0 ≤ (i : Int) ∧ (i : Int) < m.length) = true := by simp; omega
    simp only [d_in2, hlk0, cond_true, eqSector]
    have hst := drops_step l m i (⟨0, []⟩ : Sector) hlt h3
    generalize l.getD i (⟨0, []⟩ : Sector) = x at hst ⊢
    generalize m.getD i (⟨0, []⟩ : Sector) = y at hst ⊢
    by_cases hxy : x = y
    · simp only [hxy, decide_true, Bool.not_true, cond_false]
      exact leafR_go ⟨c, l, d, m, i + 1⟩ ⟨hlt, h2, h3⟩ (by simp only [secRl_S]; omega) (by simp only [secRl_S, secRl_fin, hst, hxy, decide_true, Bool.true_and]) rfl rfl
    · simp only [hxy, decide_false, Bool.not_false, cond_true]
      exact leafR_ret [] (by simp [secRl_S, secRl_fin, hst, hxy, RT.val]) rfl
  · have hi : i = l.length := by omega
    have c1 : decide ((i : Int) < l.length) = false := by simp; omega
    rw [hlk0, c1]
    exact leafR_exit [] (by simp only [secRl_S, secRl_fin, drops_end l m i (by omega) (by omega), RT.val, cond_true]) rfl
def secRl_d (env : Env RC) (os : List (Obj RC)) : Option (Bool × secRl_St) := match env, os with
  | [(0, .sl .sector c l), (1, .sl .sector d m), (4, .bool false), (5, .int .i64 x0)], [] => staticD (true) (decide (x0 = 0) && decide (l.length ≤ 9223372036854775807 ∧ l.length = m.length), ⟨c, l, d, m, 0⟩)
  | _, _ => none
noncomputable def ua_5 := ua_4.addLoop 35 4 (sumR s07 [] [0, 1, 4, 5] secRl_S secRl_d)
theorem ua_5_laws : FLaws Try.prog s07 ua_5 := by
  refine ua_4_laws.addRoundsR s07_laws (by kernel_rfl) secRl_S 40 [0, 1, 4, 5] [4] [] [0, 1, 4, 5] secRl_d (fun q hI => ?_) ?_
  · obtain ⟨c, l, d, m, i⟩ := q
    refine ⟨?_, ?_, secRl_round c l d m i hI⟩
    · simp_all [RefsOK, secRl_S, secRl_c, secRl_o, secRl_Inv, D.refs, Obj.refs, rEnc]
    · simp_all [secRl_S, secRl_fin, secRl_o, secRl_Inv, RT.refsOK, RefsOK, D.refs, Obj.refs, rEnc]
  · intro env os b q hd_ hb
    unfold secRl_d at hd_
    split at hd_
    · obtain ⟨hs, hd_⟩ := staticD_some hd_
      cases hd_
      simp only [Bool.and_eq_true, decide_eq_true_eq] at hb
      obtain ⟨rfl, hl⟩ := hb
      exact ⟨⟨Nat.zero_le _, hl⟩, rfl, rfl⟩
    · cases hd_
def secRf_s (c : Bool) (l : List Sector) (d : Bool) (m : List Sector) : Option (Bool × D RC) := some (lenOK l.length && lenOK m.length, .bool (decide (l = m)))
def secRf_sp : List (D RC) → Option (Bool × D RC)
  | [.sl .sector c l, .sl .sector d m] => secRf_s c l d m
  | _ => none
noncomputable def secRf_e (c : Bool) (l : List Sector) (d : Bool) (m : List Sector) := evF s07 ua_5 40 35 [.sl (C := RC) .sector c l, .sl (C := RC) .sector d m]
theorem secRf_eq (c : Bool) (l : List Sector) (d : Bool) (m : List Sector) : secRf_e c l d m = (bif lenOK l.length then bif lenOK m.length then bif (↑l.length : Int) != (↑m.length : Int) then some (D.bool false) else bif decide (List.length l ≤ (9223372036854775807 : Nat) ∧ List.length l = List.length m) then bif decide (List.drop (0 : Nat) l = List.drop (0 : Nat) m) then some (D.bool true) else some (D.bool false) else none else none else none) := by kernel_rfl
theorem secRf_ok (c : Bool) (l : List Sector) (d : Bool) (m : List Sector) (h : (lenOK l.length && lenOK m.length) = true) : secRf_e c l d m = some (.bool (decide (l = m))) := by
  rw [secRf_eq]
  rw [Bool.and_eq_true] at h
  obtain ⟨a1, a2⟩ := h
  have hl := lenOK_le a1
  simp only [a1, a2, cond_true]
  by_cases h0 : l.length = m.length
  · have e1 : ((l.length : Int) != (m.length : Int)) = false := by simp [h0]
    have e2 : decide (l.length ≤ 9223372036854775807 ∧ l.length = m.length) = true := decide_eq_true ⟨hl, h0⟩
    rw [e1, e2]
    by_cases h8 : l = m <;> simp [h8]
  · have e1 : ((l.length : Int) != (m.length : Int)) = true := by simp; omega
    have h8 : ¬ l = m := fun e => h0 (by rw [e])
    rw [e1]
    simp [h8]
noncomputable def ua_6 := ua_5.addSpec 35 secRf_sp
theorem ua_6_laws : FLaws Try.prog s07 ua_6 := ua_5_laws.addEv s07_laws fun args d h => by
  unfold secRf_sp at h
  split at h
  · unfold secRf_s at h
    have h1 := congrArg Prod.fst (Option.some.inj h)
    obtain rfl : _ = d := congrArg Prod.snd (Option.some.inj h)
    exact ⟨by simp [D.refs], 40, secRf_ok _ _ _ _ h1⟩
  · cases h
structure gr1R_St where
  c : Bool
  now : List Sector
  r : D RC
  i : Nat
def gr1R_c (c : Bool) (now : List Sector) (r : D RC) (i : Nat) : Env RC := [(1, .ptr 0 []), (2, .bool false), (3, .int .i64 (i : Int))]
def gr1R_o (c : Bool) (now : List Sector) (r : D RC) (i : Nat) : List (Obj RC) := [.var 24 (.acons (.sl (C := RC) .sector c now) r)]
noncomputable def gr1R_r (c : Bool) (now : List Sector) (r : D RC) (i : Nat) := rndO s07 ua_6 8 4 40 1 [1, 2, 3] [2] [.slot 1 0] (gr1R_c c now r i) (gr1R_o c now r i)
theorem gr1R_eq (c : Bool) (now : List Sector) (r : D RC) (i : Nat) : gr1R_r c now r i = (bif lenOK now.length then bif decide ((↑i : Int) < (↑now.length : Int)) then bif decide ((0 : Int) ≤ (↑i : Int) ∧ (↑i : Int) < (↑now.length : Int)) then bif lenOK (Sector.b (List.getD now (↑i : Int).toNat (Sector.mk (0 : Int) []))).length then bif decide ((3000 : Int) < (↑(Sector.b (List.getD now (↑i : Int).toNat (Sector.mk (0 : Int) []))).length : Int)) then some ((X.ret, [((2 : Nat), D.bool true)]), [some (Obj.var (24 : Nat) (.acons (D.sl RTy.sector c now) r))]) else some ((X.normal, [((1 : Nat), D.ptr (0 : Nat) []), ((2 : Nat), D.bool false), ((3 : Nat), D.int .i64 (IntKind.wrap .i64 ((↑i : Int) + (1 : Int))))]), [some (Obj.var (24 : Nat) (.acons (D.sl RTy.sector c now) r))]) else none else none else some ((X.exit (0 : Nat), [((2 : Nat), D.bool false)]), [some (Obj.var (24 : Nat) (.acons (D.sl RTy.sector c now) r))]) else none) := by kernel_rfl
def gr1R_fin (c : Bool) (now : List Sector) (r : D RC) (i : Nat) : RT RC := .br (longAt now i) (.leaf .ret [(2, .bool true)] (gr1R_o c now r i)) (.leaf (.exit 0) [(2, .bool false)] (gr1R_o c now r i))
def gr1R_Inv (c : Bool) (now : List Sector) (r : D RC) (i : Nat) : Prop := r.refs = [] ∧ i ≤ now.length ∧ goodL now = true
def gr1R_S : LoopR RC gr1R_St where
  k := 1
  canon q := gr1R_c q.c q.now q.r q.i
  objs q := gr1R_o q.c q.now q.r q.i
  fin q := gr1R_fin q.c q.now q.r q.i
  Inv q := gr1R_Inv q.c q.now q.r q.i
  μ q := q.now.length - q.i
theorem gr1R_round (c : Bool) (now : List Sector) (r : D RC) (i : Nat) (hI : gr1R_Inv c now r i) : Leaf (gr1R_r c now r i) (LedR gr1R_S ⟨c, now, r, i⟩) := by
  rw [gr1R_eq]
  unfold gr1R_Inv at hI
  obtain ⟨h0, h1, hg⟩ := hI
  have h2 := (goodL_iff.1 hg).1
  have hlk0 : lenOK now.length = true := lenOK_of h2
  by_cases hlt : i < now.length
  · have w_succ : IntKind.i64.wrap ((i : Int) + 1) = ((i + 1 : Nat) : Int) := by rw [wrap_id (by omega) (by omega)]; simp
    have d_lt : decide ((i : Int) < now.length) = true := by simp; omega
    have d_in : decide (0 ≤ (i : Int) ∧ (i : Int) < now.length) = true := by simp; omega
    have t_nat : ((i : Int)).toNat = i := by simp
    simp only [w_succ, d_lt, d_in, t_nat, cond_true]
    have hlk := goodL_at hg i hlt (⟨0, []⟩ : Sector)
    have hst := longAt_step now i hlt (⟨0, []⟩ : Sector)
    generalize now.getD i (⟨0, []⟩ : Sector) = x at hst hlk ⊢
    simp only [hlk0, hlk, cond_true]
    cases a1 : decide (3000 < (x.b.length : Int))
    · simp only [cond_false]
      exact leafR_go ⟨c, now, r, i + 1⟩ ⟨h0, hlt, hg⟩ (by simp only [gr1R_S]; omega) (by simp [gr1R_S, gr1R_fin, hst, a1]; rfl) rfl rfl
    · simp only [cond_true]
      exact leafR_ret (gr1R_o c now r i) (by simp [gr1R_S, gr1R_fin, hst, a1, RT.val]) rfl
  · have hi : i = now.length := by omega
    have c1 : decide ((i : Int) < now.length) = false := by simp; omega
    rw [hlk0, c1]
    exact leafR_exit (gr1R_o c now r i) (by simp [gr1R_S, gr1R_fin, hi, longAt_end, RT.val]) rfl
def gr1R_d (env : Env RC) (os : List (Obj RC)) : Option (Bool × gr1R_St) := match env, os with
  | [(1, .ptr 0 []), (2, .bool false), (3, .int .i64 x0)], [.var 24 (.acons (.sl .sector c now) r)] => staticD (r.refs.isEmpty) (decide (x0 = 0) && goodL now, ⟨c, now, r, 0⟩)
  | _, _ => none
noncomputable def ua_7 := ua_6.addLoop 8 4 (sumR s07 [.slot 1 0] [1, 2, 3] gr1R_S gr1R_d)
theorem ua_7_laws : FLaws Try.prog s07 ua_7 := by
  refine ua_6_laws.addRoundsR s07_laws (by kernel_rfl) gr1R_S 40 [1, 2, 3] [2] [.slot 1 0] [1, 2, 3] gr1R_d (fun q hI => ?_) ?_
  · obtain ⟨c, now, r, i⟩ := q
    refine ⟨?_, ?_, gr1R_round c now r i hI⟩
    · simp_all [RefsOK, gr1R_S, gr1R_c, gr1R_o, gr1R_Inv, D.refs, Obj.refs, rEnc]
    · simp_all [gr1R_S, gr1R_fin, gr1R_o, gr1R_Inv, RT.refsOK, RefsOK, D.refs, Obj.refs, rEnc]
  · intro env os b q hd_ hb
    unfold gr1R_d at hd_
    split at hd_
    · obtain ⟨hs, hd_⟩ := staticD_some hd_
      cases hd_
      simp only [Bool.and_eq_true, decide_eq_true_eq] at hb
      obtain ⟨rfl, hl⟩ := hb
      exact ⟨⟨List.isEmpty_iff.1 hs, Nat.zero_le _, hl⟩, rfl, rfl⟩
    · cases hd_
structure gr2R_St where
  q : D RC
  c : Bool
  sure : List Sector
  i : Nat
def gr2R_c (q : D RC) (c : Bool) (sure : List Sector) (i : Nat) : Env RC := [(1, .ptr 0 []), (2, .bool false), (4, .int .i64 (i : Int))]
def gr2R_o (q : D RC) (c : Bool) (sure : List Sector) (i : Nat) : List (Obj RC) := [.var 24 (.acons q (.acons (.sl (C := RC) .sector c sure) .anil))]
noncomputable def gr2R_r (q : D RC) (c : Bool) (sure : List Sector) (i : Nat) := rndO s07 ua_7 8 9 40 1 [1, 2, 4] [2] [.slot 1 0] (gr2R_c q c sure i) (gr2R_o q c sure i)
theorem gr2R_eq (q : D RC) (c : Bool) (sure : List Sector) (i : Nat) : gr2R_r q c sure i = (bif lenOK sure.length then bif decide ((↑i : Int) < (↑sure.length : Int)) then bif decide ((0 : Int) ≤ (↑i : Int) ∧ (↑i : Int) < (↑sure.length : Int)) then bif lenOK (Sector.b (List.getD sure (↑i : Int).toNat (Sector.mk (0 : Int) []))).length then bif decide ((3000 : Int) < (↑(Sector.b (List.getD sure (↑i : Int).toNat (Sector.mk (0 : Int) []))).length : Int)) then some ((X.ret, [((2 : Nat), D.bool true)]), [some (Obj.var (24 : Nat) (.acons q (D.acons (D.sl RTy.sector c sure) .anil)))]) else some ((X.normal, [((1 : Nat), D.ptr (0 : Nat) []), ((2 : Nat), D.bool false), ((4 : Nat), D.int .i64 (IntKind.wrap .i64 ((↑i : Int) + (1 : Int))))]), [some (Obj.var (24 : Nat) (.acons q (D.acons (D.sl RTy.sector c sure) .anil)))]) else none else none else some ((X.exit (2 : Nat), [((2 : Nat), D.bool false)]), [some (Obj.var (24 : Nat) (.acons q (D.acons (D.sl RTy.sector c sure) .anil)))]) else none) := by kernel_rfl
def gr2R_fin (q : D RC) (c : Bool) (sure : List Sector) (i : Nat) : RT RC := .br (longAt sure i) (.leaf .ret [(2, .bool true)] (gr2R_o q c sure i)) (.leaf (.exit 2) [(2, .bool false)] (gr2R_o q c sure i))
def gr2R_Inv (q : D RC) (c : Bool) (sure : List Sector) (i : Nat) : Prop := q.refs = [] ∧ i ≤ sure.length ∧ goodL sure = true
def gr2R_S : LoopR RC gr2R_St where
  k := 1
  canon q := gr2R_c q.q q.c q.sure q.i
  objs q := gr2R_o q.q q.c q.sure q.i
  fin q := gr2R_fin q.q q.c q.sure q.i
  Inv q := gr2R_Inv q.q q.c q.sure q.i
  μ q := q.sure.length - q.i
theorem gr2R_round (q : D RC) (c : Bool) (sure : List Sector) (i : Nat) (hI : gr2R_Inv q c sure i) : Leaf (gr2R_r q c sure i) (LedR gr2R_S ⟨q, c, sure, i⟩) := by
  rw [gr2R_eq]
  unfold gr2R_Inv at hI
  obtain ⟨h0, h1, hg⟩ := hI
  have h2 := (goodL_iff.1 hg).1
  have hlk0 : lenOK sure.length = true := lenOK_of h2
  by_cases hlt : i < sure.length
  · have w_succ : IntKind.i64.wrap ((i : Int) + 1) = ((i + 1 : Nat) : Int) := by rw [wrap_id (by omega) (by omega)]; simp
    have d_lt : decide ((i : Int) < sure.length) = true := by simp; omega
    have d_in : decide (0 ≤ (i : Int) ∧ (i : Int) < sure.length) = true := by simp; omega
    have t_nat : ((i : Int)).toNat = i := by simp
    simp only [w_succ, d_lt, d_in, t_nat, cond_true]
    have hlk := goodL_at hg i hlt (⟨0, []⟩ : Sector)
    have hst := longAt_step sure i hlt (⟨0, []⟩ : Sector)
    generalize sure.getD i (⟨0, []⟩ : Sector) = x at hst hlk ⊢
    simp only [hlk0, hlk, cond_true]
    cases a1 : decide (3000 < (x.b.length : Int))
    · simp only [cond_false]
      exact leafR_go ⟨q, c, sure, i + 1⟩ ⟨h0, hlt, hg⟩ (by simp only [gr2R_S]; omega) (by simp [gr2R_S, gr2R_fin, hst, a1]; rfl) rfl rfl
    · simp only [cond_true]
      exact leafR_ret (gr2R_o q c sure i) (by simp [gr2R_S, gr2R_fin, hst, a1, RT.val]) rfl
  · have hi : i = sure.length := by omega
    have c1 : decide ((i : Int) < sure.length) = false := by simp; omega
    rw [hlk0, c1]
    exact leafR_exit (gr2R_o q c sure i) (by simp [gr2R_S, gr2R_fin, hi, longAt_end, RT.val]) rfl
def gr2R_d (env : Env RC) (os : List (Obj RC)) : Option (Bool × gr2R_St) := match env, os with
  | [(1, .ptr 0 []), (2, .bool false), (4, .int .i64 x0)], [.var 24 (.acons q (.acons (.sl .sector c sure) .anil))] => staticD (q.refs.isEmpty) (decide (x0 = 0) && goodL sure, ⟨q, c, sure, 0⟩)
  | _, _ => none
noncomputable def ua_8 := ua_7.addLoop 8 9 (sumR s07 [.slot 1 0] [1, 2, 4] gr2R_S gr2R_d)
theorem ua_8_laws : FLaws Try.prog s07 ua_8 := by
  refine ua_7_laws.addRoundsR s07_laws (by kernel_rfl) gr2R_S 40 [1, 2, 4] [2] [.slot 1 0] [1, 2, 4] gr2R_d (fun q hI => ?_) ?_
  · obtain ⟨q, c, sure, i⟩ := q
    refine ⟨?_, ?_, gr2R_round q c sure i hI⟩
    · simp_all [RefsOK, gr2R_S, gr2R_c, gr2R_o, gr2R_Inv, D.refs, Obj.refs, rEnc]
    · simp_all [gr2R_S, gr2R_fin, gr2R_o, gr2R_Inv, RT.refsOK, RefsOK, D.refs, Obj.refs, rEnc]
  · intro env os b q hd_ hb
    unfold gr2R_d at hd_
    split at hd_
    · obtain ⟨hs, hd_⟩ := staticD_some hd_
      cases hd_
      simp only [Bool.and_eq_true, decide_eq_true_eq] at hb
      obtain ⟨rfl, hl⟩ := hb
      exact ⟨⟨List.isEmpty_iff.1 hs, Nat.zero_le _, hl⟩, rfl, rfl⟩
    · cases hd_
def greatR_s (c : Bool) (now : List Sector) (d : Bool) (sure : List Sector) : Option (Bool × D RC) := some (goodL now && goodL sure, .bool (greatD now sure))
def greatR_sp : List (D RC) → Option (Bool × D RC)
  | [.acons (.sl .sector c now) (.acons (.sl .sector d sure) .anil)] => greatR_s c now d sure
  | _ => none
noncomputable def greatR_e (c : Bool) (now : List Sector) (d : Bool) (sure : List Sector) := evF s07 ua_8 40 8 [.acons (.sl (C := RC) .sector c now) (.acons (.sl (C := RC) .sector d sure) .anil)]
theorem greatR_eq (c : Bool) (now : List Sector) (d : Bool) (sure : List Sector) : greatR_e c now d sure = (bif lenOK now.length then bif decide ((60 : Int) < (↑now.length : Int)) then some (D.bool true) else bif lenOK sure.length then bif decide ((60 : Int) < (↑sure.length : Int)) then some (D.bool true) else bif goodL now then bif longAt now (0 : Nat) then some (D.bool true) else bif goodL sure then bif longAt sure (0 : Nat) then some (D.bool true) else some (D.bool false) else none else none else none else none) := by kernel_rfl
theorem greatR_ok (c : Bool) (now : List Sector) (d : Bool) (sure : List Sector) (h : (goodL now && goodL sure) = true) : greatR_e c now d sure = some (.bool (greatD now sure)) := by
  rw [greatR_eq]
  rw [Bool.and_eq_true] at h
  obtain ⟨hg, hgs⟩ := h
  have l1 := lenOK_of (goodL_iff.1 hg).1
  have l2 := lenOK_of (goodL_iff.1 hgs).1
  simp only [hg, hgs, l1, l2, cond_true, greatD]
  cases decide ((60 : Int) < now.length) <;> cases decide ((60 : Int) < sure.length) <;> cases longAt now 0 <;> cases longAt sure 0 <;> rfl
noncomputable def ua_9 := ua_8.addSpec 8 greatR_sp
theorem ua_9_laws : FLaws Try.prog s07 ua_9 := ua_8_laws.addEv s07_laws fun args d h => by
  unfold greatR_sp at h
  split at h
  · unfold greatR_s at h
    have h1 := congrArg Prod.fst (Option.some.inj h)
    obtain rfl : _ = d := congrArg Prod.snd (Option.some.inj h)
    exact ⟨by simp [D.refs], 40, greatR_ok _ _ _ _ h1⟩
  · cases h
def sameR3_s (c : Bool) (now : List Sector) (d : Bool) (sure : List Sector) (c' : Bool) (now' : List Sector) (d' : Bool) (sure' : List Sector) : Option (Bool × D RC) := some (lenOK now.length && lenOK now'.length && (lenOK sure.length && lenOK sure'.length), .bool (decide (now = now') && decide (sure = sure')))
def sameR3_sp : List (D RC) → Option (Bool × D RC)
  | [.acons (.sl .sector c now) (.acons (.sl .sector d sure) .anil), .acons (.sl .sector c' now') (.acons (.sl .sector d' sure') .anil)] => sameR3_s c now d sure c' now' d' sure'
  | _ => none
noncomputable def sameR3_e (c : Bool) (now : List Sector) (d : Bool) (sure : List Sector) (c' : Bool) (now' : List Sector) (d' : Bool) (sure' : List Sector) := evF s07 ua_9 40 17 [.acons (.sl (C := RC) .sector c now) (.acons (.sl (C := RC) .sector d sure) .anil), .acons (.sl (C := RC) .sector c' now') (.acons (.sl (C := RC) .sector d' sure') .anil)]
theorem sameR3_eq (c : Bool) (now : List Sector) (d : Bool) (sure : List Sector) (c' : Bool) (now' : List Sector) (d' : Bool) (sure' : List Sector) : sameR3_e c now d sure c' now' d' sure' = (bif lenOK now.length && lenOK now'.length then bif decide (now = now') then bif lenOK sure.length && lenOK sure'.length then some (D.bool (decide (sure = sure'))) else none else some (D.bool false) else none) := by kernel_rfl
theorem sameR3_ok (c : Bool) (now : List Sector) (d : Bool) (sure : List Sector) (c' : Bool) (now' : List Sector) (d' : Bool) (sure' : List Sector) (h : (lenOK now.length && lenOK now'.length && (lenOK sure.length && lenOK sure'.length)) = true) : sameR3_e c now d sure c' now' d' sure' = some (.bool (decide (now = now') && decide (sure = sure'))) := by
  rw [sameR3_eq]
  rw [Bool.and_eq_true] at h
  rw [h.1, h.2]
  cases decide (now = now') <;> rfl
noncomputable def ua_10 := ua_9.addSpec 17 sameR3_sp
theorem ua_10_laws : FLaws Try.prog s07 ua_10 := ua_9_laws.addEv s07_laws fun args d h => by
  unfold sameR3_sp at h
  split at h
  · unfold sameR3_s at h
    have h1 := congrArg Prod.fst (Option.some.inj h)
    obtain rfl : _ = d := congrArg Prod.snd (Option.some.inj h)
    exact ⟨by simp [D.refs], 40, sameR3_ok _ _ _ _ _ _ _ _ h1⟩
  · cases h
def putR3_s (c : Bool) (now : List Sector) (d : Bool) (sure : List Sector) (k : Int) (n : Int) (b : List UInt8) : Option (Bool × D RC) := some (goodL now && goodL sure && lenOK b.length, .tup (.acons (.acons (.sl (C := RC) .sector (!okPut now sure k n b) (pNow now sure k n b)) (.acons (.sl (C := RC) .sector (!okPut now sure k n b) (pSure now sure k n b)) .anil)) (.acons (.int .i64 (bif okPut now sure k n b then 0 else 2)) .anil)))
def putR3_sp : List (D RC) → Option (Bool × D RC)
  | [.acons (.sl .sector c now) (.acons (.sl .sector d sure) .anil), .int .i64 k, .int .i64 n, .str b] => putR3_s c now d sure k n b
  | _ => none
noncomputable def putR3_e (c : Bool) (now : List Sector) (d : Bool) (sure : List Sector) (k : Int) (n : Int) (b : List UInt8) := evF s07 ua_10 40 18 [.acons (.sl (C := RC) .sector c now) (.acons (.sl (C := RC) .sector d sure) .anil), .int .i64 k, .int .i64 n, .str b]
theorem putR3_eq (c : Bool) (now : List Sector) (d : Bool) (sure : List Sector) (k : Int) (n : Int) (b : List UInt8) : putR3_e c now d sure k n b = (bif goodL now && goodL sure then bif (bif diskOK now sure then (0 : Int) else (2 : Int)) != (0 : Int) then some (D.tup (D.acons (D.acons (D.sl RTy.sector true []) (.acons (D.sl RTy.sector true []) .anil)) (.acons (D.int .i64 (2 : Int)) .anil))) else bif decide (k < (0 : Int)) then some (D.tup (D.acons (D.acons (D.sl RTy.sector true []) (.acons (D.sl RTy.sector true []) .anil)) (.acons (D.int .i64 (2 : Int)) .anil))) else bif decide ((33 : Int) ≤ k) then some (D.tup (D.acons (D.acons (D.sl RTy.sector true []) (.acons (D.sl RTy.sector true []) .anil)) (.acons (D.int .i64 (2 : Int)) .anil))) else bif decide (n < (1 : Int)) then some (D.tup (D.acons (D.acons (D.sl RTy.sector true []) (.acons (D.sl RTy.sector true []) .anil)) (.acons (D.int .i64 (2 : Int)) .anil))) else bif decide ((1048575 : Int) < n) then some (D.tup (D.acons (D.acons (D.sl RTy.sector true []) (.acons (D.sl RTy.sector true []) .anil)) (.acons (D.int .i64 (2 : Int)) .anil))) else bif b == Array.toList #[] then some (D.tup (D.acons (D.acons (D.sl RTy.sector true []) (.acons (D.sl RTy.sector true []) .anil)) (.acons (D.int .i64 (2 : Int)) .anil))) else bif lenOK b.length then bif decide ((640 : Int) < (↑b.length : Int)) then some (D.tup (D.acons (D.acons (D.sl RTy.sector true []) (.acons (D.sl RTy.sector true []) .anil)) (.acons (D.int .i64 (2 : Int)) .anil))) else bif sizeOK ((0 : Nat) + List.length now) (24 : Nat) then bif sizeOK ((0 : Nat) + List.length sure) (24 : Nat) then bif Nat.beq ((0 : Nat) + List.length now) (List.replicate (0 : Nat) (Sector.mk (0 : Int) []) ++ now).length && decide ((0 : Int) ≤ k ∧ k < (↑(List.replicate (0 : Nat) (Sector.mk (0 : Int) []) ++ now).length : Int)) then bif Nat.beq ((0 : Nat) + List.length now) (List.replicate (0 : Nat) (Sector.mk (0 : Int) []) ++ now).length then bif Nat.beq ((0 : Nat) + List.length now) (List.replicate (0 : Nat) (Sector.mk (0 : Int) []) ++ now).length then bif decide (Sector.n (List.getD (List.replicate (0 : Nat) (Sector.mk (0 : Int) []) ++ now) k.toNat (Sector.mk (0 : Int) [])) < n) then bif Nat.beq ((0 : Nat) + List.length now) (List.replicate (0 : Nat) (Sector.mk (0 : Int) []) ++ now).length && decide ((0 : Int) ≤ k ∧ k < (↑(List.replicate (0 : Nat) (Sector.mk (0 : Int) []) ++ now).length : Int)) then bif Nat.beq ((0 : Nat) + List.length now) (List.replicate (0 : Nat) (Sector.mk (0 : Int) []) ++ now).length then bif Nat.beq ((0 : Nat) + List.length now) (List.set (List.replicate (0 : Nat) (Sector.mk (0 : Int) []) ++ now) k.toNat (Sector.mk n b)).length then bif Nat.beq ((0 : Nat) + List.length sure) (List.replicate (0 : Nat) (Sector.mk (0 : Int) []) ++ sure).length then some (D.tup (D.acons (D.acons (D.sl RTy.sector false (List.set (List.replicate (0 : Nat) (Sector.mk (0 : Int) []) ++ now) k.toNat (Sector.mk n b))) (.acons (D.sl RTy.sector false (List.replicate (0 : Nat) (Sector.mk (0 : Int) []) ++ sure)) .anil)) (.acons (D.int .i64 (0 : Int)) .anil))) else none else none else none else none else bif Nat.beq ((0 : Nat) + List.length now) (List.replicate (0 : Nat) (Sector.mk (0 : Int) []) ++ now).length then bif Nat.beq ((0 : Nat) + List.length sure) (List.replicate (0 : Nat) (Sector.mk (0 : Int) []) ++ sure).length then some (D.tup (D.acons (D.acons (D.sl RTy.sector false (List.replicate (0 : Nat) (Sector.mk (0 : Int) []) ++ now)) (.acons (D.sl RTy.sector false (List.replicate (0 : Nat) (Sector.mk (0 : Int) []) ++ sure)) .anil)) (.acons (D.int .i64 (0 : Int)) .anil))) else none else none else none else none else none else none else none else none else none) := by kernel_rfl
theorem putR3_ok (c : Bool) (now : List Sector) (d : Bool) (sure : List Sector) (k : Int) (n : Int) (b : List UInt8) (h : (goodL now && goodL sure && lenOK b.length) = true) : putR3_e c now d sure k n b = some (.tup (.acons (.acons (.sl (C := RC) .sector (!okPut now sure k n b) (pNow now sure k n b)) (.acons (.sl (C := RC) .sector (!okPut now sure k n b) (pSure now sure k n b)) .anil)) (.acons (.int .i64 (bif okPut now sure k n b then 0 else 2)) .anil))) := by
  rw [putR3_eq]
  simp only [Bool.and_eq_true] at h
  obtain ⟨⟨hg, hgs⟩, hb⟩ := h
  have hgg : (goodL now && goodL sure) = true := by rw [hg, hgs]; rfl
  have no : okPut now sure k n b = false → some (D.tup (.acons (.acons (.sl (C := RC) .sector true []) (.acons (.sl (C := RC) .sector true []) .anil)) (.acons (.int .i64 2) .anil))) = some (.tup (.acons (.acons (.sl (C := RC) .sector (!okPut now sure k n b) (pNow now sure k n b)) (.acons (.sl (C := RC) .sector (!okPut now sure k n b) (pSure now sure k n b)) .anil)) (.acons (.int .i64 (bif okPut now sure k n b then 0 else 2)) .anil))) := fun e => by simp only [e, pNow, pSure]; rfl
  refine cond_of hgg ?_
  cases hd : diskOK now sure
  · exact cond_of rfl (no (okPut_not fun f => by rw [hd] at f; cases f.1))
  obtain ⟨l1, l2⟩ := diskOK_len hd
  refine cond_no rfl (cond_two (fun e => no (okPut_not fun f => by simp only [decide_eq_true_eq] at e; omega)) fun e1 => ?_)
  refine (cond_two (fun e => no (okPut_not fun f => by simp only [decide_eq_true_eq] at e; omega)) fun e2 => ?_)
  refine (cond_two (fun e => no (okPut_not fun f => by simp only [decide_eq_true_eq] at e; omega)) fun e3 => ?_)
  have mf : maySec ⟨n, b⟩ = true → n ≤ 1048575 ∧ b.length ≤ 640 := fun e => by simp only [maySec, Bool.and_eq_true, decide_eq_true_eq] at e; exact ⟨e.1.1.2, e.1.2⟩
  refine (cond_two (fun e => no (okPut_not fun f => by have := mf f.2.2.2.2.2; simp only [decide_eq_true_eq] at e; omega)) fun e4 => ?_)
  refine (cond_two (fun e => no (okPut_not fun f => f.2.2.2.2.1 (by simpa using e))) fun e5 => ?_)
  refine cond_of hb ?_
  refine (cond_two (fun e => no (okPut_not fun f => by have := mf f.2.2.2.2.2; simp only [decide_eq_true_eq] at e; omega)) fun e6 => ?_)
  simp only [decide_eq_false_iff_not] at e1 e2 e3 e4 e6
  have ok : okPut now sure k n b = true := by
    have d1 : 0 < n := by omega
    simp only [okPut, hd, maySec, Bool.true_and, Bool.and_eq_true, decide_eq_true_eq, d1, decide_true, Bool.true_or]
    exact ⟨⟨⟨⟨by omega, by omega⟩, by omega⟩, by simpa using e5⟩, ⟨⟨by omega, by omega⟩, by omega⟩, trivial⟩
  rw [ok]
  have r0 : ∀ l : List Sector, List.replicate 0 (⟨0, []⟩ : Sector) ++ l = l := fun l => rfl
  have eb : ∀ n : Nat, n.beq n = true := fun n => by simp
  have s1 : sizeOK now.length 24 = true := by simp [sizeOK]; omega
  have s2 : sizeOK sure.length 24 = true := by simp [sizeOK]; omega
  have dk : decide (0 ≤ k ∧ k < (now.length : Int)) = true := by simp; omega
  simp only [pNow, pSure, ok, cond_true, Bool.not_true, r0, Nat.zero_add, List.length_set, eb, s1, s2, dk, Bool.and_self]
  refine cond_two (fun e => ?_) fun e => ?_ <;> simp only [decide_eq_true_eq, decide_eq_false_iff_not] at e
  · have pn : putNow now k.toNat n b = now.set k.toNat ⟨n, b⟩ := if_pos e
    rw [pn]
  · have pn : putNow now k.toNat n b = now := if_neg e
    rw [pn]
noncomputable def ua_11 := ua_10.addSpec 18 putR3_sp
theorem ua_11_laws : FLaws Try.prog s07 ua_11 := ua_10_laws.addEv s07_laws fun args d h => by
  unfold putR3_sp at h
  split at h
  · unfold putR3_s at h
    have h1 := congrArg Prod.fst (Option.some.inj h)
    obtain rfl : _ = d := congrArg Prod.snd (Option.some.inj h)
    exact ⟨by simp [D.refs], 40, putR3_ok _ _ _ _ _ _ _ h1⟩
  · cases h
structure crashRl_St where
  lost : Int
  now : List Sector
  sure : List Sector
  i : Nat
def crashRl_c (lost : Int) (now : List Sector) (sure : List Sector) (i : Nat) : Env RC := [(1, .int .u64 lost), (6, .ptr 0 []), (7, .int .i64 (i : Int))]
def crashRl_o (lost : Int) (now : List Sector) (sure : List Sector) (i : Nat) : List (Obj RC) := [.var 24 (.acons (.vs 1 (now.length)) (.acons (.vs 2 (sure.length)) .anil)), .vec (C := RC) .sector true now, .vec (C := RC) .sector true sure]
noncomputable def crashRl_r (lost : Int) (now : List Sector) (sure : List Sector) (i : Nat) := rndO s07 ua_11 15 5 40 3 [1, 6, 7] [] [.slot 6 0, .path 0 [0], .path 0 [1]] (crashRl_c lost now sure i) (crashRl_o lost now sure i)
theorem crashRl_eq (lost : Int) (now : List Sector) (sure : List Sector) (i : Nat) : crashRl_r lost now sure i = (bif decide ((↑i : Int) < (33 : Int)) then bif bits IntKind.u64 (fun (x : Nat) (u v : BitVec x) => u &&& v) (Int.fdiv lost ((2 : Int) ^ min (IntKind.wrap IntKind.u64 (↑i : Int)).toNat (64 : Nat))) (1 : Int) == (1 : Int) then bif Nat.beq sure.length sure.length && decide ((0 : Int) ≤ (↑i : Int) ∧ (↑i : Int) < (↑sure.length : Int)) then bif Nat.beq sure.length sure.length then bif Nat.beq now.length now.length && decide ((0 : Int) ≤ (↑i : Int) ∧ (↑i : Int) < (↑now.length : Int)) then bif Nat.beq now.length now.length then some ((X.normal, [((1 : Nat), D.int IntKind.u64 lost), ((6 : Nat), D.ptr (0 : Nat) []), ((7 : Nat), D.int .i64 (IntKind.wrap .i64 ((↑i : Int) + (1 : Int))))]), [some (Obj.var (24 : Nat) (.acons (D.vs (1 : Nat) now.length) (.acons (D.vs (2 : Nat) sure.length) .anil))), some (Obj.vec RTy.sector true (List.set now (↑i : Int).toNat (Sector.mk (Sector.n (List.getD sure (↑i : Int).toNat (Sector.mk (0 : Int) []))) (Sector.b (List.getD sure (↑i : Int).toNat (Sector.mk (0 : Int) [])))))), some (Obj.vec RTy.sector true sure)]) else none else none else none else none else bif Nat.beq now.length now.length && decide ((0 : Int) ≤ (↑i : Int) ∧ (↑i : Int) < (↑now.length : Int)) then bif Nat.beq now.length now.length then bif Nat.beq sure.length sure.length && decide ((0 : Int) ≤ (↑i : Int) ∧ (↑i : Int) < (↑sure.length : Int)) then bif Nat.beq sure.length sure.length then some ((X.normal, [((1 : Nat), D.int IntKind.u64 lost), ((6 : Nat), D.ptr (0 : Nat) []), ((7 : Nat), D.int .i64 (IntKind.wrap .i64 ((↑i : Int) + (1 : Int))))]), [some (Obj.var (24 : Nat) (.acons (D.vs (1 : Nat) now.length) (.acons (D.vs (2 : Nat) sure.length) .anil))), some (Obj.vec RTy.sector true now), some (Obj.vec RTy.sector true (List.set sure (↑i : Int).toNat (Sector.mk (Sector.n (List.getD now (↑i : Int).toNat (Sector.mk (0 : Int) []))) (Sector.b (List.getD now (↑i : Int).toNat (Sector.mk (0 : Int) []))))))]) else none else none else none else none else some ((X.exit (0 : Nat), []), [some (Obj.var (24 : Nat) (.acons (D.vs (1 : Nat) now.length) (.acons (D.vs (2 : Nat) sure.length) .anil))), some (Obj.vec RTy.sector true now), some (Obj.vec RTy.sector true sure)])) := by kernel_rfl
def crashRl_fin (lost : Int) (now : List Sector) (sure : List Sector) (i : Nat) : RT RC := .leaf (.exit 0) [] [.var 24 (.acons (.vs 1 (crashF lost (33 - i) i now sure).1.length) (.acons (.vs 2 (crashF lost (33 - i) i now sure).2.length) .anil)), .vec (C := RC) .sector true (crashF lost (33 - i) i now sure).1, .vec (C := RC) .sector true (crashF lost (33 - i) i now sure).2]
def crashRl_Inv (lost : Int) (now : List Sector) (sure : List Sector) (i : Nat) : Prop := i ≤ 33 ∧ now.length = 33 ∧ sure.length = 33
def crashRl_S : LoopR RC crashRl_St where
  k := 3
  canon q := crashRl_c q.lost q.now q.sure q.i
  objs q := crashRl_o q.lost q.now q.sure q.i
  fin q := crashRl_fin q.lost q.now q.sure q.i
  Inv q := crashRl_Inv q.lost q.now q.sure q.i
  μ q := 33 - q.i
theorem crashRl_round (lost : Int) (now : List Sector) (sure : List Sector) (i : Nat) (hI : crashRl_Inv lost now sure i) : Leaf (crashRl_r lost now sure i) (LedR crashRl_S ⟨lost, now, sure, i⟩) := by
  rw [crashRl_eq]
  unfold crashRl_Inv at hI
  obtain ⟨h1, h2, h3⟩ := hI
  have eb : ∀ n : Nat, n.beq n = true := fun n => by simp
  by_cases hlt : (i : Int) < 33
  · have w_succ : IntKind.i64.wrap ((i : Int) + 1) = ((i + 1 : Nat) : Int) := by rw [wrap_id (by omega) (by omega)]; simp
    have d1 : decide ((i : Int) < 33) = true := by simp; omega
    have d2 : decide (0 ≤ (i : Int) ∧ (i : Int) < now.length) = true := by simp; omega
    have d3 : decide (0 ≤ (i : Int) ∧ (i : Int) < sure.length) = true := by simp; omega
    have t_nat : ((i : Int)).toNat = i := by simp
    have hs : 33 - i = (33 - (i + 1)) + 1 := by omega
    simp only [d1, d2, d3, eb, w_succ, t_nat, Bool.and_self, cond_true]
    refine leaf_cond.2 ⟨fun hb => ?_, fun hb => ?_⟩
    · have hb' : bitAt lost i = true := hb
      refine leafR_go ⟨lost, now.set i (sure.getD i sec0), sure, i + 1⟩ (by refine ⟨by show i + 1 ≤ 33; omega, ?_, h3⟩; rw [List.length_set]; exact h2) (by simp only [crashRl_S]; omega) ?_ (by simp [crashRl_S, crashRl_c]) (by simp [crashRl_S, crashRl_o, sec0])
      simp only [crashRl_S, crashRl_fin, hs, crashF, hb', if_true]
    · have hb' : bitAt lost i = false := hb
      refine leafR_go ⟨lost, now, sure.set i (now.getD i sec0), i + 1⟩ (by refine ⟨by show i + 1 ≤ 33; omega, h2, ?_⟩; rw [List.length_set]; exact h3) (by simp only [crashRl_S]; omega) ?_ (by simp [crashRl_S, crashRl_c]) (by simp [crashRl_S, crashRl_o, sec0])
      simp only [crashRl_S, crashRl_fin, hs, crashF, hb', Bool.false_eq_true, if_false]
  · have hi : i = 33 := by omega
    have d1 : decide ((i : Int) < 33) = false := by simp; omega
    rw [d1]
    exact leafR_exit (crashRl_o lost now sure i) (by simp [crashRl_S, crashRl_fin, crashRl_o, hi, crashF, RT.val]) rfl
def crashRl_d (env : Env RC) (os : List (Obj RC)) : Option (Bool × crashRl_St) := match env, os with
  | [(1, .int .u64 lost), (6, .ptr 0 []), (7, .int .i64 x0)], [.var 24 (.acons (.vs 1 x1) (.acons (.vs 2 x2) .anil)), .vec .sector true now, .vec .sector true sure] => staticD (true) (decide (x0 = 0) && decide (x1 = now.length) && decide (x2 = sure.length) && decide (now.length = 33 ∧ sure.length = 33), ⟨lost, now, sure, 0⟩)
  | _, _ => none
noncomputable def ua_12 := ua_11.addLoop 15 5 (sumR s07 [.slot 6 0, .path 0 [0], .path 0 [1]] [1, 6, 7] crashRl_S crashRl_d)
theorem ua_12_laws : FLaws Try.prog s07 ua_12 := by
  refine ua_11_laws.addRoundsR s07_laws (by kernel_rfl) crashRl_S 40 [1, 6, 7] [] [.slot 6 0, .path 0 [0], .path 0 [1]] [1, 6, 7] crashRl_d (fun q hI => ?_) ?_
  · obtain ⟨lost, now, sure, i⟩ := q
    refine ⟨?_, ?_, crashRl_round lost now sure i hI⟩
    · simp_all [RefsOK, crashRl_S, crashRl_c, crashRl_o, crashRl_Inv, D.refs, Obj.refs, rEnc]
    · simp_all [crashRl_S, crashRl_fin, crashRl_o, crashRl_Inv, RT.refsOK, RefsOK, D.refs, Obj.refs, rEnc]
  · intro env os b q hd_ hb
    unfold crashRl_d at hd_
    split at hd_
    · obtain ⟨hs, hd_⟩ := staticD_some hd_
      cases hd_
      simp only [Bool.and_eq_true, decide_eq_true_eq] at hb
      obtain ⟨⟨⟨rfl, rfl⟩, rfl⟩, hl⟩ := hb
      exact ⟨⟨Nat.zero_le _, hl⟩, rfl, rfl⟩
    · cases hd_
def crashR3_s (c : Bool) (now : List Sector) (d : Bool) (sure : List Sector) (lost : Int) : Option (Bool × D RC) := some (goodL now && goodL sure, .tup (.acons (.acons (.sl (C := RC) .sector (!diskOK now sure) (bif diskOK now sure then (crashF lost 33 0 now sure).1 else [])) (.acons (.sl (C := RC) .sector (!diskOK now sure) (bif diskOK now sure then (crashF lost 33 0 now sure).2 else [])) .anil)) (.acons (.int .i64 (bif diskOK now sure then 0 else 2)) .anil)))
def crashR3_sp : List (D RC) → Option (Bool × D RC)
  | [.acons (.sl .sector c now) (.acons (.sl .sector d sure) .anil), .int .u64 lost] => crashR3_s c now d sure lost
  | _ => none
noncomputable def crashR3_e (c : Bool) (now : List Sector) (d : Bool) (sure : List Sector) (lost : Int) := evF s07 ua_12 40 15 [.acons (.sl (C := RC) .sector c now) (.acons (.sl (C := RC) .sector d sure) .anil), .int .u64 lost]
theorem crashR3_eq (c : Bool) (now : List Sector) (d : Bool) (sure : List Sector) (lost : Int) : crashR3_e c now d sure lost = (bif goodL now && goodL sure then bif (bif diskOK now sure then (0 : Int) else (2 : Int)) != (0 : Int) then some (D.tup (D.acons (D.acons (D.sl RTy.sector true []) (.acons (D.sl RTy.sector true []) .anil)) (.acons (D.int .i64 (2 : Int)) .anil))) else bif sizeOK ((0 : Nat) + List.length now) (24 : Nat) then bif sizeOK ((0 : Nat) + List.length sure) (24 : Nat) then bif decide ((0 : Nat) + List.length now = List.length (List.replicate (0 : Nat) (Sector.mk (0 : Int) []) ++ now)) && decide ((0 : Nat) + List.length sure = List.length (List.replicate (0 : Nat) (Sector.mk (0 : Int) []) ++ sure)) && decide (List.length (List.replicate (0 : Nat) (Sector.mk (0 : Int) []) ++ now) = (33 : Nat) ∧ List.length (List.replicate (0 : Nat) (Sector.mk (0 : Int) []) ++ sure) = (33 : Nat)) then bif Nat.beq (crashF lost (33 : Nat) (0 : Nat) (List.replicate (0 : Nat) (Sector.mk (0 : Int) []) ++ now) (List.replicate (0 : Nat) (Sector.mk (0 : Int) []) ++ sure)).1.length (crashF lost (33 : Nat) (0 : Nat) (List.replicate (0 : Nat) (Sector.mk (0 : Int) []) ++ now) (List.replicate (0 : Nat) (Sector.mk (0 : Int) []) ++ sure)).1.length then bif Nat.beq (crashF lost (33 : Nat) (0 : Nat) (List.replicate (0 : Nat) (Sector.mk (0 : Int) []) ++ now) (List.replicate (0 : Nat) (Sector.mk (0 : Int) []) ++ sure)).2.length (crashF lost (33 : Nat) (0 : Nat) (List.replicate (0 : Nat) (Sector.mk (0 : Int) []) ++ now) (List.replicate (0 : Nat) (Sector.mk (0 : Int) []) ++ sure)).2.length then some (D.tup (D.acons (D.acons (D.sl RTy.sector false (crashF lost (33 : Nat) (0 : Nat) (List.replicate (0 : Nat) (Sector.mk (0 : Int) []) ++ now) (List.replicate (0 : Nat) (Sector.mk (0 : Int) []) ++ sure)).1) (.acons (D.sl RTy.sector false (crashF lost (33 : Nat) (0 : Nat) (List.replicate (0 : Nat) (Sector.mk (0 : Int) []) ++ now) (List.replicate (0 : Nat) (Sector.mk (0 : Int) []) ++ sure)).2) .anil)) (.acons (D.int .i64 (0 : Int)) .anil))) else none else none else none else none else none else none) := by kernel_rfl
theorem crashR3_ok (c : Bool) (now : List Sector) (d : Bool) (sure : List Sector) (lost : Int) (h : (goodL now && goodL sure) = true) : crashR3_e c now d sure lost = some (.tup (.acons (.acons (.sl (C := RC) .sector (!diskOK now sure) (bif diskOK now sure then (crashF lost 33 0 now sure).1 else [])) (.acons (.sl (C := RC) .sector (!diskOK now sure) (bif diskOK now sure then (crashF lost 33 0 now sure).2 else [])) .anil)) (.acons (.int .i64 (bif diskOK now sure then 0 else 2)) .anil))) := by
  rw [crashR3_eq]
  have hgg := h
  rw [Bool.and_eq_true] at h
  obtain ⟨hg, hgs⟩ := h
  refine cond_of hgg ?_
  cases hd : diskOK now sure
  · exact cond_of rfl rfl
  obtain ⟨l1, l2⟩ := diskOK_len hd
  have r0 : ∀ l : List Sector, List.replicate 0 (⟨0, []⟩ : Sector) ++ l = l := fun l => rfl
  have eb : ∀ n : Nat, n.beq n = true := fun n => by simp
  have s1 : sizeOK now.length 24 = true := by simp [sizeOK]; omega
  have s2 : sizeOK sure.length 24 = true := by simp [sizeOK]; omega
  have d3 : decide (now.length = 33 ∧ sure.length = 33) = true := decide_eq_true ⟨l1, l2⟩
  refine cond_no rfl ?_
  simp only [r0, eb, s1, s2, d3, Nat.zero_add, decide_true, Bool.and_self, cond_true, Bool.not_true]
noncomputable def ua_13 := ua_12.addSpec 15 crashR3_sp
theorem ua_13_laws : FLaws Try.prog s07 ua_13 := ua_12_laws.addEv s07_laws fun args d h => by
  unfold crashR3_sp at h
  split at h
  · unfold crashR3_s at h
    have h1 := congrArg Prod.fst (Option.some.inj h)
    obtain rfl : _ = d := congrArg Prod.snd (Option.some.inj h)
    exact ⟨by simp [D.refs], 40, crashR3_ok _ _ _ _ _ h1⟩
  · cases h
open Go.Proofs
def within_s (n : Int) (a : Int) (b : Int) : Option (Bool × D RC) := some (true, .bool (withinB n a b))
def within_sp : List (D RC) → Option (Bool × D RC)
  | [.int .i64 n, .int .i64 a, .int .i64 b] => within_s n a b
  | _ => none
noncomputable def within_e (n : Int) (a : Int) (b : Int) := evF s07 ua_13 20 67 [.int .i64 n, .int .i64 a, .int .i64 b]
theorem within_eq (n : Int) (a : Int) (b : Int) : within_e n a b = (bif decide (a ≤ n) then some (D.bool (decide (n ≤ b))) else some (D.bool false)) := by kernel_rfl
theorem within_ok (n : Int) (a : Int) (b : Int) (h : (true) = true) : within_e n a b = some (.bool (withinB n a b)) := by
  rw [within_eq]
  rw [withinB]
  cases decide (a ≤ n) <;> simp
noncomputable def ub_1 := ua_13.addSpec 67 within_sp
theorem ub_1_laws : FLaws Try.prog s07 ub_1 := ua_13_laws.addEv s07_laws fun args d h => by
  unfold within_sp at h
  split at h
  · unfold within_s at h
    have h1 := congrArg Prod.fst (Option.some.inj h)
    obtain rfl : _ = d := congrArg Prod.snd (Option.some.inj h)
    exact ⟨by simp [D.refs], 20, within_ok _ _ _ h1⟩
  · cases h
def twoI_s (a : Int) (b : Int) (c : Int) (d : Int) (e : Int) (f : Int) : Option (Bool × D RC) := some (true, .bool (twoIB ⟨a, b, c⟩ ⟨d, e, f⟩))
def twoI_sp : List (D RC) → Option (Bool × D RC)
  | [.acons (.int .i64 a) (.acons (.int .i64 b) (.acons (.int .i64 c) .anil)), .acons (.int .i64 d) (.acons (.int .i64 e) (.acons (.int .i64 f) .anil))] => twoI_s a b c d e f
  | _ => none
noncomputable def twoI_e (a : Int) (b : Int) (c : Int) (d : Int) (e : Int) (f : Int) := evF s07 ub_1 20 70 [.acons (.int .i64 a) (.acons (.int .i64 b) (.acons (.int .i64 c) .anil)), .acons (.int .i64 d) (.acons (.int .i64 e) (.acons (.int .i64 f) .anil))]
theorem twoI_eq (a : Int) (b : Int) (c : Int) (d : Int) (e : Int) (f : Int) : twoI_e a b c d e f = (some (D.bool (decide (a < d)))) := by kernel_rfl
theorem twoI_ok (a : Int) (b : Int) (c : Int) (d : Int) (e : Int) (f : Int) (h : (true) = true) : twoI_e a b c d e f = some (.bool (twoIB ⟨a, b, c⟩ ⟨d, e, f⟩)) := by
  rw [twoI_eq]
  rfl
noncomputable def ub_2 := ub_1.addSpec 70 twoI_sp
theorem ub_2_laws : FLaws Try.prog s07 ub_2 := ub_1_laws.addEv s07_laws fun args d h => by
  unfold twoI_sp at h
  split at h
  · unfold twoI_s at h
    have h1 := congrArg Prod.fst (Option.some.inj h)
    obtain rfl : _ = d := congrArg Prod.snd (Option.some.inj h)
    exact ⟨by simp [D.refs], 20, twoI_ok _ _ _ _ _ _ h1⟩
  · cases h
def twoL_s (a : Int) (b : Int) (c : Int) (d : Int) (e : Int) (a' : Int) (b' : Int) (c' : Int) (d' : Int) (e' : Int) : Option (Bool × D RC) := some (true, .bool (twoLB ⟨a, b, c, d, e⟩ ⟨a', b', c', d', e'⟩))
def twoL_sp : List (D RC) → Option (Bool × D RC)
  | [.acons (.int .i64 a) (.acons (.int .i64 b) (.acons (.int .i64 c) (.acons (.int .i64 d) (.acons (.int .i64 e) .anil)))), .acons (.int .i64 a') (.acons (.int .i64 b') (.acons (.int .i64 c') (.acons (.int .i64 d') (.acons (.int .i64 e') .anil))))] => twoL_s a b c d e a' b' c' d' e'
  | _ => none
noncomputable def twoL_e (a : Int) (b : Int) (c : Int) (d : Int) (e : Int) (a' : Int) (b' : Int) (c' : Int) (d' : Int) (e' : Int) := evF s07 ub_2 20 73 [.acons (.int .i64 a) (.acons (.int .i64 b) (.acons (.int .i64 c) (.acons (.int .i64 d) (.acons (.int .i64 e) .anil)))), .acons (.int .i64 a') (.acons (.int .i64 b') (.acons (.int .i64 c') (.acons (.int .i64 d') (.acons (.int .i64 e') .anil))))]
theorem twoL_eq (a : Int) (b : Int) (c : Int) (d : Int) (e : Int) (a' : Int) (b' : Int) (c' : Int) (d' : Int) (e' : Int) : twoL_e a b c d e a' b' c' d' e' = (bif a' == IntKind.wrap .i64 (a + (1 : Int)) then bif decide (b < b') then some (D.bool true) else bif b == b' then some (D.bool (decide (c < c'))) else some (D.bool false) else some (D.bool false)) := by kernel_rfl
theorem twoL_ok (a : Int) (b : Int) (c : Int) (d : Int) (e : Int) (a' : Int) (b' : Int) (c' : Int) (d' : Int) (e' : Int) (h : (true) = true) : twoL_e a b c d e a' b' c' d' e' = some (.bool (twoLB ⟨a, b, c, d, e⟩ ⟨a', b', c', d', e'⟩)) := by
  rw [twoL_eq]
  simp only [twoLB]
  cases (a' == IntKind.i64.wrap (a + 1)) <;> cases decide (b < b') <;> cases (b == b') <;> simp
noncomputable def ub_3 := ub_2.addSpec 73 twoL_sp
theorem ub_3_laws : FLaws Try.prog s07 ub_3 := ub_2_laws.addEv s07_laws fun args d h => by
  unfold twoL_sp at h
  split at h
  · unfold twoL_s at h
    have h1 := congrArg Prod.fst (Option.some.inj h)
    obtain rfl : _ = d := congrArg Prod.snd (Option.some.inj h)
    exact ⟨by simp [D.refs], 20, twoL_ok _ _ _ _ _ _ _ _ _ _ h1⟩
  · cases h
structure eachI_St where
  p : Int
  r : D RC
  c : Bool
  l : List Item
  i : Nat
def eachI_c (p : Int) (r : D RC) (c : Bool) (l : List Item) (i : Nat) : Env RC := [(0, .sl (C := RC) .item c l), (1, .fn 69 (.acons (.ptr 0 []) .anil)), (2, .fn 70 .anil), (6, .bool false), (9, .int .i64 (l.length)), (10, .int .i64 (i : Int))]
def eachI_o (p : Int) (r : D RC) (c : Bool) (l : List Item) (i : Nat) : List (Obj RC) := [.var 30 (.acons (.int .i64 p) r)]
noncomputable def eachI_r (p : Int) (r : D RC) (c : Bool) (l : List Item) (i : Nat) := rndO s07 ub_3 68 2 40 1 [0, 1, 2, 6, 9, 10] [6] [.slot 1 0] (eachI_c p r c l i) (eachI_o p r c l i)
theorem eachI_eq (p : Int) (r : D RC) (c : Bool) (l : List Item) (i : Nat) : eachI_r p r c l i = (bif decide ((↑i : Int) < (↑l.length : Int)) then bif decide ((0 : Int) ≤ (↑i : Int) ∧ (↑i : Int) < (↑l.length : Int)) then bif withinB (Item.key (List.getD l (↑i : Int).toNat (Item.mk (0 : Int) (0 : Int) (0 : Int)))) (0 : Int) (23 : Int) then bif withinB (Item.place (List.getD l (↑i : Int).toNat (Item.mk (0 : Int) (0 : Int) (0 : Int)))) (1 : Int) p then bif !withinB (Item.value (List.getD l (↑i : Int).toNat (Item.mk (0 : Int) (0 : Int) (0 : Int)))) (0 : Int) (255 : Int) then some ((X.ret, [((6 : Nat), D.bool false)]), [some (Obj.var (30 : Nat) (.acons (D.int .i64 p) r))]) else bif decide ((0 : Int) < (↑i : Int)) then bif decide ((0 : Int) ≤ IntKind.wrap .i64 ((↑i : Int) - (1 : Int)) ∧ IntKind.wrap .i64 ((↑i : Int) - (1 : Int)) < (↑l.length : Int)) then bif decide ((0 : Int) ≤ (↑i : Int) ∧ (↑i : Int) < (↑l.length : Int)) then bif !twoIB (Item.mk (Item.key (List.getD l (IntKind.wrap .i64 ((↑i : Int) - (1 : Int))).toNat (Item.mk (0 : Int) (0 : Int) (0 : Int)))) (Item.place (List.getD l (IntKind.wrap .i64 ((↑i : Int) - (1 : Int))).toNat (Item.mk (0 : Int) (0 : Int) (0 : Int)))) (Item.value (List.getD l (IntKind.wrap .i64 ((↑i : Int) - (1 : Int))).toNat (Item.mk (0 : Int) (0 : Int) (0 : Int))))) (Item.mk (Item.key (List.getD l (↑i : Int).toNat (Item.mk (0 : Int) (0 : Int) (0 : Int)))) (Item.place (List.getD l (↑i : Int).toNat (Item.mk (0 : Int) (0 : Int) (0 : Int)))) (Item.value (List.getD l (↑i : Int).toNat (Item.mk (0 : Int) (0 : Int) (0 : Int))))) then some ((X.ret, [((6 : Nat), D.bool false)]), [some (Obj.var (30 : Nat) (.acons (D.int .i64 p) r))]) else some ((X.normal, [((0 : Nat), D.sl RTy.item c l), ((1 : Nat), D.fn (69 : Nat) (.acons (D.ptr (0 : Nat) []) .anil)), ((2 : Nat), D.fn (70 : Nat) .anil), ((6 : Nat), D.bool false), ((9 : Nat), D.int .i64 (↑l.length : Int)), ((10 : Nat), D.int .i64 (IntKind.wrap .i64 ((↑i : Int) + (1 : Int))))]), [some (Obj.var (30 : Nat) (.acons (D.int .i64 p) r))]) else none else none else some ((X.normal, [((0 : Nat), D.sl RTy.item c l), ((1 : Nat), D.fn (69 : Nat) (.acons (D.ptr (0 : Nat) []) .anil)), ((2 : Nat), D.fn (70 : Nat) .anil), ((6 : Nat), D.bool false), ((9 : Nat), D.int .i64 (↑l.length : Int)), ((10 : Nat), D.int .i64 (IntKind.wrap .i64 ((↑i : Int) + (1 : Int))))]), [some (Obj.var (30 : Nat) (.acons (D.int .i64 p) r))]) else some ((X.ret, [((6 : Nat), D.bool false)]), [some (Obj.var (30 : Nat) (.acons (D.int .i64 p) r))]) else some ((X.ret, [((6 : Nat), D.bool false)]), [some (Obj.var (30 : Nat) (.acons (D.int .i64 p) r))]) else none else some ((X.exit (0 : Nat), [((6 : Nat), D.bool false)]), [some (Obj.var (30 : Nat) (.acons (D.int .i64 p) r))])) := by kernel_rfl
def eachI_fin (p : Int) (r : D RC) (c : Bool) (l : List Item) (i : Nat) : RT RC := .br (eachAt (oneIB p) twoIB l i) (.leaf (.exit 0) [(6, .bool false)] (eachI_o p r c l i)) (.leaf .ret [(6, .bool false)] (eachI_o p r c l i))
def eachI_Inv (p : Int) (r : D RC) (c : Bool) (l : List Item) (i : Nat) : Prop := r.refs = [] ∧ i ≤ l.length ∧ l.length ≤ 9223372036854775807
def eachI_S : LoopR RC eachI_St where
  k := 1
  canon q := eachI_c q.p q.r q.c q.l q.i
  objs q := eachI_o q.p q.r q.c q.l q.i
  fin q := eachI_fin q.p q.r q.c q.l q.i
  Inv q := eachI_Inv q.p q.r q.c q.l q.i
  μ q := q.l.length - q.i
theorem eachI_round (p : Int) (r : D RC) (c : Bool) (l : List Item) (i : Nat) (hI : eachI_Inv p r c l i) : Leaf (eachI_r p r c l i) (LedR eachI_S ⟨p, r, c, l, i⟩) := by
  rw [eachI_eq]
  unfold eachI_Inv at hI
  obtain ⟨h0, h1, h2⟩ := hI
  by_cases hlt : i < l.length
  · have w_succ : IntKind.i64.wrap ((i : Int) + 1) = ((i + 1 : Nat) : Int) := by rw [wrap_id (by omega) (by omega)]; simp
    have d_lt : decide ((i : Int) < l.length) = true := by simp; omega
    have d_in : decide (0 ≤ (i : Int) ∧ (i : Int) < l.length) = true := by simp; omega
    have t_nat : ((i : Int)).toNat = i := by simp
    have w_pred : IntKind.i64.wrap ((i : Int) - 1) = (i : Int) - 1 := wrap_id (by omega) (by omega)
    have t_natp : ((i : Int) - 1).toNat = i - 1 := by omega
    simp only [w_succ, d_lt, d_in, t_nat, w_pred, t_natp, cond_true]
    have hst := eachAt_step (oneIB p) twoIB l i (⟨0, 0, 0⟩ : Item) hlt
    generalize l.getD i (⟨0, 0, 0⟩ : Item) = x at hst ⊢
    generalize l.getD (i - 1) (⟨0, 0, 0⟩ : Item) = y at hst ⊢
    have hgo : eachAt (oneIB p) twoIB l (i + 1) = eachAt (oneIB p) twoIB l i → Leaf (some ((X.normal, eachI_c p r c l (i + 1)), [some (.var 30 (.acons (.int .i64 p) r))])) (LedR eachI_S ⟨p, r, c, l, i⟩) := fun he =>
      leafR_go ⟨p, r, c, l, i + 1⟩ ⟨h0, hlt, h2⟩ (by simp only [eachI_S]; omega) (by simp only [eachI_S, eachI_fin, he]; rfl) rfl rfl
    have hno : eachAt (oneIB p) twoIB l i = false → Leaf (some ((X.ret, [(6, D.bool false)]), [some (.var 30 (.acons (.int .i64 p) r))])) (LedR eachI_S ⟨p, r, c, l, i⟩) := fun he => leafR_ret (eachI_o p r c l i) (by simp [eachI_S, eachI_fin, he, RT.val]) rfl
    rw [hst] at hgo hno
    simp only [oneIB] at hgo hno
    have hty : twoIB ⟨y.key, y.place, y.value⟩ ⟨x.key, x.place, x.value⟩ = twoIB y x := rfl
    rw [hty]
    by_cases hi : i = 0
    · have d0 : decide (0 < (i : Int)) = false := by simp; omega
      simp only [d0, cond_false]
      repeat' (refine leaf_cond.2 ⟨fun _ => ?_, fun _ => ?_⟩)
      all_goals first | exact hno (by clear hgo hno hst; simp_all) | exact hgo (by clear hgo hno hst; simp_all)
    · have d_pos : decide (0 < (i : Int)) = true := by simp; omega
      have d_inp : decide (0 ≤ (i : Int) - 1 ∧ (i : Int) - 1 < l.length) = true := by simp; omega
      simp only [d_pos, d_inp, cond_true]
      repeat' (refine leaf_cond.2 ⟨fun _ => ?_, fun _ => ?_⟩)
      all_goals first | exact hno (by clear hgo hno hst; simp_all) | exact hgo (by clear hgo hno hst; simp_all)
  · have hi : i = l.length := by omega
    have c1 : decide ((i : Int) < l.length) = false := by simp; omega
    rw [c1]
    exact leafR_exit (eachI_o p r c l i) (by simp [eachI_S, eachI_fin, hi, eachAt_end, RT.val]) rfl
def eachI_d (env : Env RC) (os : List (Obj RC)) : Option (Bool × eachI_St) := match env, os with
  | [(0, .sl .item c l), (1, .fn 69 (.acons (.ptr 0 []) .anil)), (2, .fn 70 .anil), (6, .bool false), (9, .int .i64 x0), (10, .int .i64 x1)], [.var 30 (.acons (.int .i64 p) r)] => staticD (r.refs.isEmpty) (decide (x0 = l.length) && decide (x1 = 0) && decide (l.length ≤ 9223372036854775807), ⟨p, r, c, l, 0⟩)
  | _, _ => none
noncomputable def ub_4 := ub_3.addLoop 68 2 (sumR s07 [.slot 1 0] [0, 1, 2, 6, 9, 10] eachI_S eachI_d)
theorem ub_4_laws : FLaws Try.prog s07 ub_4 := by
  refine ub_3_laws.addRoundsR s07_laws (by kernel_rfl) eachI_S 40 [0, 1, 2, 6, 9, 10] [6] [.slot 1 0] [0, 1, 2, 6, 9, 10] eachI_d (fun q hI => ?_) ?_
  · obtain ⟨p, r, c, l, i⟩ := q
    refine ⟨?_, ?_, eachI_round p r c l i hI⟩
    · simp_all [RefsOK, eachI_S, eachI_c, eachI_o, eachI_Inv, D.refs, Obj.refs, rEnc]
    · simp_all [eachI_S, eachI_fin, eachI_o, eachI_Inv, RT.refsOK, RefsOK, D.refs, Obj.refs, rEnc]
  · intro env os b q hd_ hb
    unfold eachI_d at hd_
    split at hd_
    · obtain ⟨hs, hd_⟩ := staticD_some hd_
      cases hd_
      simp only [Bool.and_eq_true, decide_eq_true_eq] at hb
      obtain ⟨⟨rfl, rfl⟩, hl⟩ := hb
      exact ⟨⟨List.isEmpty_iff.1 hs, Nat.zero_le _, hl⟩, rfl, rfl⟩
    · cases hd_
structure eachL_St where
  p : Int
  r : D RC
  c : Bool
  l : List Line
  i : Nat
def eachL_c (p : Int) (r : D RC) (c : Bool) (l : List Line) (i : Nat) : Env RC := [(0, .sl (C := RC) .line c l), (1, .fn 72 (.acons (.ptr 0 []) .anil)), (2, .fn 73 .anil), (6, .bool false), (9, .int .i64 (l.length)), (10, .int .i64 (i : Int))]
def eachL_o (p : Int) (r : D RC) (c : Bool) (l : List Line) (i : Nat) : List (Obj RC) := [.var 30 (.acons (.int .i64 p) r)]
noncomputable def eachL_r (p : Int) (r : D RC) (c : Bool) (l : List Line) (i : Nat) := rndO s07 ub_4 71 2 40 1 [0, 1, 2, 6, 9, 10] [6] [.slot 1 0] (eachL_c p r c l i) (eachL_o p r c l i)
theorem eachL_eq (p : Int) (r : D RC) (c : Bool) (l : List Line) (i : Nat) : eachL_r p r c l i = (bif decide ((↑i : Int) < (↑l.length : Int)) then bif decide ((0 : Int) ≤ (↑i : Int) ∧ (↑i : Int) < (↑l.length : Int)) then bif withinB (Line.offset (List.getD l (↑i : Int).toNat (Line.mk (0 : Int) (0 : Int) (0 : Int) (0 : Int) (0 : Int)))) (0 : Int) (4194303 : Int) then bif withinB (Line.place (List.getD l (↑i : Int).toNat (Line.mk (0 : Int) (0 : Int) (0 : Int) (0 : Int) (0 : Int)))) (1 : Int) p then bif withinB (Line.j (List.getD l (↑i : Int).toNat (Line.mk (0 : Int) (0 : Int) (0 : Int) (0 : Int) (0 : Int)))) (0 : Int) (3 : Int) then bif withinB (Line.key (List.getD l (↑i : Int).toNat (Line.mk (0 : Int) (0 : Int) (0 : Int) (0 : Int) (0 : Int)))) (0 : Int) (7 : Int) then bif !withinB (Line.value (List.getD l (↑i : Int).toNat (Line.mk (0 : Int) (0 : Int) (0 : Int) (0 : Int) (0 : Int)))) (0 : Int) (255 : Int) then some ((X.ret, [((6 : Nat), D.bool false)]), [some (Obj.var (30 : Nat) (.acons (D.int .i64 p) r))]) else bif decide ((0 : Int) < (↑i : Int)) then bif decide ((0 : Int) ≤ IntKind.wrap .i64 ((↑i : Int) - (1 : Int)) ∧ IntKind.wrap .i64 ((↑i : Int) - (1 : Int)) < (↑l.length : Int)) then bif decide ((0 : Int) ≤ (↑i : Int) ∧ (↑i : Int) < (↑l.length : Int)) then bif !twoLB (Line.mk (Line.offset (List.getD l (IntKind.wrap .i64 ((↑i : Int) - (1 : Int))).toNat (Line.mk (0 : Int) (0 : Int) (0 : Int) (0 : Int) (0 : Int)))) (Line.place (List.getD l (IntKind.wrap .i64 ((↑i : Int) - (1 : Int))).toNat (Line.mk (0 : Int) (0 : Int) (0 : Int) (0 : Int) (0 : Int)))) (Line.j (List.getD l (IntKind.wrap .i64 ((↑i : Int) - (1 : Int))).toNat (Line.mk (0 : Int) (0 : Int) (0 : Int) (0 : Int) (0 : Int)))) (Line.key (List.getD l (IntKind.wrap .i64 ((↑i : Int) - (1 : Int))).toNat (Line.mk (0 : Int) (0 : Int) (0 : Int) (0 : Int) (0 : Int)))) (Line.value (List.getD l (IntKind.wrap .i64 ((↑i : Int) - (1 : Int))).toNat (Line.mk (0 : Int) (0 : Int) (0 : Int) (0 : Int) (0 : Int))))) (Line.mk (Line.offset (List.getD l (↑i : Int).toNat (Line.mk (0 : Int) (0 : Int) (0 : Int) (0 : Int) (0 : Int)))) (Line.place (List.getD l (↑i : Int).toNat (Line.mk (0 : Int) (0 : Int) (0 : Int) (0 : Int) (0 : Int)))) (Line.j (List.getD l (↑i : Int).toNat (Line.mk (0 : Int) (0 : Int) (0 : Int) (0 : Int) (0 : Int)))) (Line.key (List.getD l (↑i : Int).toNat (Line.mk (0 : Int) (0 : Int) (0 : Int) (0 : Int) (0 : Int)))) (Line.value (List.getD l (↑i : Int).toNat (Line.mk (0 : Int) (0 : Int) (0 : Int) (0 : Int) (0 : Int))))) then some ((X.ret, [((6 : Nat), D.bool false)]), [some (Obj.var (30 : Nat) (.acons (D.int .i64 p) r))]) else some ((X.normal, [((0 : Nat), D.sl RTy.line c l), ((1 : Nat), D.fn (72 : Nat) (.acons (D.ptr (0 : Nat) []) .anil)), ((2 : Nat), D.fn (73 : Nat) .anil), ((6 : Nat), D.bool false), ((9 : Nat), D.int .i64 (↑l.length : Int)), ((10 : Nat), D.int .i64 (IntKind.wrap .i64 ((↑i : Int) + (1 : Int))))]), [some (Obj.var (30 : Nat) (.acons (D.int .i64 p) r))]) else none else none else some ((X.normal, [((0 : Nat), D.sl RTy.line c l), ((1 : Nat), D.fn (72 : Nat) (.acons (D.ptr (0 : Nat) []) .anil)), ((2 : Nat), D.fn (73 : Nat) .anil), ((6 : Nat), D.bool false), ((9 : Nat), D.int .i64 (↑l.length : Int)), ((10 : Nat), D.int .i64 (IntKind.wrap .i64 ((↑i : Int) + (1 : Int))))]), [some (Obj.var (30 : Nat) (.acons (D.int .i64 p) r))]) else some ((X.ret, [((6 : Nat), D.bool false)]), [some (Obj.var (30 : Nat) (.acons (D.int .i64 p) r))]) else some ((X.ret, [((6 : Nat), D.bool false)]), [some (Obj.var (30 : Nat) (.acons (D.int .i64 p) r))]) else some ((X.ret, [((6 : Nat), D.bool false)]), [some (Obj.var (30 : Nat) (.acons (D.int .i64 p) r))]) else some ((X.ret, [((6 : Nat), D.bool false)]), [some (Obj.var (30 : Nat) (.acons (D.int .i64 p) r))]) else none else some ((X.exit (0 : Nat), [((6 : Nat), D.bool false)]), [some (Obj.var (30 : Nat) (.acons (D.int .i64 p) r))])) := by kernel_rfl
def eachL_fin (p : Int) (r : D RC) (c : Bool) (l : List Line) (i : Nat) : RT RC := .br (eachAt (oneLB p) twoLB l i) (.leaf (.exit 0) [(6, .bool false)] (eachL_o p r c l i)) (.leaf .ret [(6, .bool false)] (eachL_o p r c l i))
def eachL_Inv (p : Int) (r : D RC) (c : Bool) (l : List Line) (i : Nat) : Prop := r.refs = [] ∧ i ≤ l.length ∧ l.length ≤ 9223372036854775807
def eachL_S : LoopR RC eachL_St where
  k := 1
  canon q := eachL_c q.p q.r q.c q.l q.i
  objs q := eachL_o q.p q.r q.c q.l q.i
  fin q := eachL_fin q.p q.r q.c q.l q.i
  Inv q := eachL_Inv q.p q.r q.c q.l q.i
  μ q := q.l.length - q.i
theorem eachL_round (p : Int) (r : D RC) (c : Bool) (l : List Line) (i : Nat) (hI : eachL_Inv p r c l i) : Leaf (eachL_r p r c l i) (LedR eachL_S ⟨p, r, c, l, i⟩) := by
  rw [eachL_eq]
  unfold eachL_Inv at hI
  obtain ⟨h0, h1, h2⟩ := hI
  by_cases hlt : i < l.length
  · have w_succ : IntKind.i64.wrap ((i : Int) + 1) = ((i + 1 : Nat) : Int) := by rw [wrap_id (by omega) (by omega)]; simp
    have d_lt : decide ((i : Int) < l.length) = true := by simp; omega
    have d_in : decide (0 ≤ (i : Int) ∧ (i : Int) < l.length) = true := by simp; omega
    have t_nat : ((i : Int)).toNat = i := by simp
    have w_pred : IntKind.i64.wrap ((i : Int) - 1) = (i : Int) - 1 := wrap_id (by omega) (by omega)
    have t_natp : ((i : Int) - 1).toNat = i - 1 := by omega
    simp only [w_succ, d_lt, d_in, t_nat, w_pred, t_natp, cond_true]
    have hst := eachAt_step (oneLB p) twoLB l i (⟨0, 0, 0, 0, 0⟩ : Line) hlt
    generalize l.getD i (⟨0, 0, 0, 0, 0⟩ : Line) = x at hst ⊢
    generalize l.getD (i - 1) (⟨0, 0, 0, 0, 0⟩ : Line) = y at hst ⊢
    have hgo : eachAt (oneLB p) twoLB l (i + 1) = eachAt (oneLB p) twoLB l i → Leaf (some ((X.normal, eachL_c p r c l (i + 1)), [some (.var 30 (.acons (.int .i64 p) r))])) (LedR eachL_S ⟨p, r, c, l, i⟩) := fun he =>
      leafR_go ⟨p, r, c, l, i + 1⟩ ⟨h0, hlt, h2⟩ (by simp only [eachL_S]; omega) (by simp only [eachL_S, eachL_fin, he]; rfl) rfl rfl
    have hno : eachAt (oneLB p) twoLB l i = false → Leaf (some ((X.ret, [(6, D.bool false)]), [some (.var 30 (.acons (.int .i64 p) r))])) (LedR eachL_S ⟨p, r, c, l, i⟩) := fun he => leafR_ret (eachL_o p r c l i) (by simp [eachL_S, eachL_fin, he, RT.val]) rfl
    rw [hst] at hgo hno
    simp only [oneLB] at hgo hno
    have hty : twoLB ⟨y.offset, y.place, y.j, y.key, y.value⟩ ⟨x.offset, x.place, x.j, x.key, x.value⟩ = twoLB y x := rfl
    rw [hty]
    by_cases hi : i = 0
    · have d0 : decide (0 < (i : Int)) = false := by simp; omega
      simp only [d0, cond_false]
      repeat' (refine leaf_cond.2 ⟨fun _ => ?_, fun _ => ?_⟩)
      all_goals first | exact hno (by clear hgo hno hst; simp_all) | exact hgo (by clear hgo hno hst; simp_all)
    · have d_pos : decide (0 < (i : Int)) = true := by simp; omega
      have d_inp : decide (0 ≤ (i : Int) - 1 ∧ (i : Int) - 1 < l.length) = true := by simp; omega
      simp only [d_pos, d_inp, cond_true]
      repeat' (refine leaf_cond.2 ⟨fun _ => ?_, fun _ => ?_⟩)
      all_goals first | exact hno (by clear hgo hno hst; simp_all) | exact hgo (by clear hgo hno hst; simp_all)
  · have hi : i = l.length := by omega
    have c1 : decide ((i : Int) < l.length) = false := by simp; omega
    rw [c1]
    exact leafR_exit (eachL_o p r c l i) (by simp [eachL_S, eachL_fin, hi, eachAt_end, RT.val]) rfl
def eachL_d (env : Env RC) (os : List (Obj RC)) : Option (Bool × eachL_St) := match env, os with
  | [(0, .sl .line c l), (1, .fn 72 (.acons (.ptr 0 []) .anil)), (2, .fn 73 .anil), (6, .bool false), (9, .int .i64 x0), (10, .int .i64 x1)], [.var 30 (.acons (.int .i64 p) r)] => staticD (r.refs.isEmpty) (decide (x0 = l.length) && decide (x1 = 0) && decide (l.length ≤ 9223372036854775807), ⟨p, r, c, l, 0⟩)
  | _, _ => none
noncomputable def ub_5 := ub_4.addLoop 71 2 (sumR s07 [.slot 1 0] [0, 1, 2, 6, 9, 10] eachL_S eachL_d)
theorem ub_5_laws : FLaws Try.prog s07 ub_5 := by
  refine ub_4_laws.addRoundsR s07_laws (by kernel_rfl) eachL_S 40 [0, 1, 2, 6, 9, 10] [6] [.slot 1 0] [0, 1, 2, 6, 9, 10] eachL_d (fun q hI => ?_) ?_
  · obtain ⟨p, r, c, l, i⟩ := q
    refine ⟨?_, ?_, eachL_round p r c l i hI⟩
    · simp_all [RefsOK, eachL_S, eachL_c, eachL_o, eachL_Inv, D.refs, Obj.refs, rEnc]
    · simp_all [eachL_S, eachL_fin, eachL_o, eachL_Inv, RT.refsOK, RefsOK, D.refs, Obj.refs, rEnc]
  · intro env os b q hd_ hb
    unfold eachL_d at hd_
    split at hd_
    · obtain ⟨hs, hd_⟩ := staticD_some hd_
      cases hd_
      simp only [Bool.and_eq_true, decide_eq_true_eq] at hb
      obtain ⟨⟨rfl, rfl⟩, hl⟩ := hb
      exact ⟨⟨List.isEmpty_iff.1 hs, Nat.zero_le _, hl⟩, rfl, rfl⟩
    · cases hd_
open Go.Proofs
def put_s (c : Bool) (b : List UInt8) (n : Int) (w : Int) : Option (Bool × D RC) := staticD (w == 1 || w == 2 || w == 3 || w == 6) (decide (b.length ≤ 1000000000), .tup (.acons (.sl (C := RC) .u8 (!fitsB n w.toNat) (putL b n w.toNat)) (.acons (.int .i64 (bif fitsB n w.toNat then 0 else 2)) .anil)))
def put_sp : List (D RC) → Option (Bool × D RC)
  | [.sl .u8 c b, .int .i64 n, .int .i64 w] => put_s c b n w
  | _ => none
noncomputable def put_e (c : Bool) (b : List UInt8) (n : Int) (w : Int) := evF s07 ub_5 40 54 [.sl (C := RC) .u8 c b, .int .i64 n, .int .i64 w]
theorem put1_eq (c : Bool) (b : List UInt8) (n : Int) : put_e c b n 1 = (bif decide ((0 : Int) ≤ n) then bif !Int.fdiv n (256 : Int) == (0 : Int) then some (D.tup (D.acons (D.sl RTy.u8 true []) (.acons (D.int .i64 (2 : Int)) .anil))) else bif lenOK b.length then bif lenOK b.length then bif decide ((0 : Int) ≤ (0 : Int) ∧ (0 : Int) ≤ (↑b.length : Int) ∧ (↑b.length : Int) ≤ (↑b.length : Int) ∧ (↑b.length : Int) = (↑b.length : Int)) then bif sizeOK (List.length (List.drop (0 : Nat) (List.take (↑b.length : Int).toNat b)) + List.length [UInt8.ofNat (IntKind.wrap IntKind.u8 n).toNat]) (1 : Nat) then bif Nat.beq (List.length (List.drop (0 : Nat) (List.take (↑b.length : Int).toNat b)) + List.length [UInt8.ofNat (IntKind.wrap IntKind.u8 n).toNat]) (List.drop (0 : Nat) (List.take (↑b.length : Int).toNat b) ++ [UInt8.ofNat (IntKind.wrap IntKind.u8 n).toNat]).length then some (D.tup (D.acons (D.sl RTy.u8 false (List.drop (0 : Nat) (List.take (↑b.length : Int).toNat b) ++ [UInt8.ofNat (IntKind.wrap IntKind.u8 n).toNat])) (.acons (D.int .i64 (0 : Int)) .anil))) else none else none else none else none else none else some (D.tup (D.acons (D.sl RTy.u8 true []) (.acons (D.int .i64 (2 : Int)) .anil)))) := by kernel_rfl
theorem put2_eq (c : Bool) (b : List UInt8) (n : Int) : put_e c b n 2 = (bif decide ((0 : Int) ≤ n) then bif !Int.fdiv n (65536 : Int) == (0 : Int) then some (D.tup (D.acons (D.sl RTy.u8 true []) (.acons (D.int .i64 (2 : Int)) .anil))) else bif lenOK b.length then bif lenOK b.length then bif decide ((0 : Int) ≤ (0 : Int) ∧ (0 : Int) ≤ (↑b.length : Int) ∧ (↑b.length : Int) ≤ (↑b.length : Int) ∧ (↑b.length : Int) = (↑b.length : Int)) then bif sizeOK (List.length (List.drop (0 : Nat) (List.take (↑b.length : Int).toNat b)) + List.length [UInt8.ofNat (IntKind.wrap IntKind.u8 n).toNat]) (1 : Nat) then bif Nat.beq (List.length (List.drop (0 : Nat) (List.take (↑b.length : Int).toNat b)) + List.length [UInt8.ofNat (IntKind.wrap IntKind.u8 n).toNat]) (List.drop (0 : Nat) (List.take (↑b.length : Int).toNat b) ++ [UInt8.ofNat (IntKind.wrap IntKind.u8 n).toNat]).length && sizeOK (List.length (List.drop (0 : Nat) (List.take (↑b.length : Int).toNat b)) + List.length [UInt8.ofNat (IntKind.wrap IntKind.u8 n).toNat] + List.length [UInt8.ofNat (IntKind.wrap IntKind.u8 (Int.fdiv n (256 : Int))).toNat]) (1 : Nat) then bif Nat.beq (List.length (List.drop (0 : Nat) (List.take (↑b.length : Int).toNat b) ++ [UInt8.ofNat (IntKind.wrap IntKind.u8 n).toNat]) + List.length [UInt8.ofNat (IntKind.wrap IntKind.u8 (Int.fdiv n (256 : Int))).toNat]) (List.drop (0 : Nat) (List.take (↑b.length : Int).toNat b) ++ [UInt8.ofNat (IntKind.wrap IntKind.u8 n).toNat] ++ [UInt8.ofNat (IntKind.wrap IntKind.u8 (Int.fdiv n (256 : Int))).toNat]).length then some (D.tup (D.acons (D.sl RTy.u8 false (List.drop (0 : Nat) (List.take (↑b.length : Int).toNat b) ++ [UInt8.ofNat (IntKind.wrap IntKind.u8 n).toNat] ++ [UInt8.ofNat (IntKind.wrap IntKind.u8 (Int.fdiv n (256 : Int))).toNat])) (.acons (D.int .i64 (0 : Int)) .anil))) else none else none else none else none else none else none else some (D.tup (D.acons (D.sl RTy.u8 true []) (.acons (D.int .i64 (2 : Int)) .anil)))) := by kernel_rfl
theorem put3_eq (c : Bool) (b : List UInt8) (n : Int) : put_e c b n 3 = (bif decide ((0 : Int) ≤ n) then bif !Int.fdiv n (16777216 : Int) == (0 : Int) then some (D.tup (D.acons (D.sl RTy.u8 true []) (.acons (D.int .i64 (2 : Int)) .anil))) else bif lenOK b.length then bif lenOK b.length then bif decide ((0 : Int) ≤ (0 : Int) ∧ (0 : Int) ≤ (↑b.length : Int) ∧ (↑b.length : Int) ≤ (↑b.length : Int) ∧ (↑b.length : Int) = (↑b.length : Int)) then bif sizeOK (List.length (List.drop (0 : Nat) (List.take (↑b.length : Int).toNat b)) + List.length [UInt8.ofNat (IntKind.wrap IntKind.u8 n).toNat]) (1 : Nat) then bif Nat.beq (List.length (List.drop (0 : Nat) (List.take (↑b.length : Int).toNat b)) + List.length [UInt8.ofNat (IntKind.wrap IntKind.u8 n).toNat]) (List.drop (0 : Nat) (List.take (↑b.length : Int).toNat b) ++ [UInt8.ofNat (IntKind.wrap IntKind.u8 n).toNat]).length && sizeOK (List.length (List.drop (0 : Nat) (List.take (↑b.length : Int).toNat b)) + List.length [UInt8.ofNat (IntKind.wrap IntKind.u8 n).toNat] + List.length [UInt8.ofNat (IntKind.wrap IntKind.u8 (Int.fdiv n (256 : Int))).toNat]) (1 : Nat) then bif Nat.beq (List.length (List.drop (0 : Nat) (List.take (↑b.length : Int).toNat b) ++ [UInt8.ofNat (IntKind.wrap IntKind.u8 n).toNat]) + List.length [UInt8.ofNat (IntKind.wrap IntKind.u8 (Int.fdiv n (256 : Int))).toNat]) (List.drop (0 : Nat) (List.take (↑b.length : Int).toNat b) ++ [UInt8.ofNat (IntKind.wrap IntKind.u8 n).toNat] ++ [UInt8.ofNat (IntKind.wrap IntKind.u8 (Int.fdiv n (256 : Int))).toNat]).length && sizeOK (List.length (List.drop (0 : Nat) (List.take (↑b.length : Int).toNat b) ++ [UInt8.ofNat (IntKind.wrap IntKind.u8 n).toNat]) + List.length [UInt8.ofNat (IntKind.wrap IntKind.u8 (Int.fdiv n (256 : Int))).toNat] + List.length [UInt8.ofNat (IntKind.wrap IntKind.u8 (Int.fdiv (Int.fdiv n (256 : Int)) (256 : Int))).toNat]) (1 : Nat) then bif Nat.beq (List.length (List.drop (0 : Nat) (List.take (↑b.length : Int).toNat b) ++ [UInt8.ofNat (IntKind.wrap IntKind.u8 n).toNat] ++ [UInt8.ofNat (IntKind.wrap IntKind.u8 (Int.fdiv n (256 : Int))).toNat]) + List.length [UInt8.ofNat (IntKind.wrap IntKind.u8 (Int.fdiv (Int.fdiv n (256 : Int)) (256 : Int))).toNat]) (List.drop (0 : Nat) (List.take (↑b.length : Int).toNat b) ++ [UInt8.ofNat (IntKind.wrap IntKind.u8 n).toNat] ++ [UInt8.ofNat (IntKind.wrap IntKind.u8 (Int.fdiv n (256 : Int))).toNat] ++ [UInt8.ofNat (IntKind.wrap IntKind.u8 (Int.fdiv (Int.fdiv n (256 : Int)) (256 : Int))).toNat]).length then some (D.tup (D.acons (D.sl RTy.u8 false (List.drop (0 : Nat) (List.take (↑b.length : Int).toNat b) ++ [UInt8.ofNat (IntKind.wrap IntKind.u8 n).toNat] ++ [UInt8.ofNat (IntKind.wrap IntKind.u8 (Int.fdiv n (256 : Int))).toNat] ++ [UInt8.ofNat (IntKind.wrap IntKind.u8 (Int.fdiv (Int.fdiv n (256 : Int)) (256 : Int))).toNat])) (.acons (D.int .i64 (0 : Int)) .anil))) else none else none else none else none else none else none else none else some (D.tup (D.acons (D.sl RTy.u8 true []) (.acons (D.int .i64 (2 : Int)) .anil)))) := by kernel_rfl
set_option maxHeartbeats 4000000 in
theorem put6_eq (c : Bool) (b : List UInt8) (n : Int) : put_e c b n 6 = (bif decide ((0 : Int) ≤ n) then bif !Int.fdiv n (281474976710656 : Int) == (0 : Int) then some (D.tup (D.acons (D.sl RTy.u8 true []) (.acons (D.int .i64 (2 : Int)) .anil))) else bif lenOK b.length then bif lenOK b.length then bif decide ((0 : Int) ≤ (0 : Int) ∧ (0 : Int) ≤ (↑b.length : Int) ∧ (↑b.length : Int) ≤ (↑b.length : Int) ∧ (↑b.length : Int) = (↑b.length : Int)) then bif sizeOK (List.length (List.drop (0 : Nat) (List.take (↑b.length : Int).toNat b)) + List.length [UInt8.ofNat (IntKind.wrap IntKind.u8 n).toNat]) (1 : Nat) then bif Nat.beq (List.length (List.drop (0 : Nat) (List.take (↑b.length : Int).toNat b)) + List.length [UInt8.ofNat (IntKind.wrap IntKind.u8 n).toNat]) (List.drop (0 : Nat) (List.take (↑b.length : Int).toNat b) ++ [UInt8.ofNat (IntKind.wrap IntKind.u8 n).toNat]).length && sizeOK (List.length (List.drop (0 : Nat) (List.take (↑b.length : Int).toNat b)) + List.length [UInt8.ofNat (IntKind.wrap IntKind.u8 n).toNat] + List.length [UInt8.ofNat (IntKind.wrap IntKind.u8 (Int.fdiv n (256 : Int))).toNat]) (1 : Nat) then bif Nat.beq (List.length (List.drop (0 : Nat) (List.take (↑b.length : Int).toNat b) ++ [UInt8.ofNat (IntKind.wrap IntKind.u8 n).toNat]) + List.length [UInt8.ofNat (IntKind.wrap IntKind.u8 (Int.fdiv n (256 : Int))).toNat]) (List.drop (0 : Nat) (List.take (↑b.length : Int).toNat b) ++ [UInt8.ofNat (IntKind.wrap IntKind.u8 n).toNat] ++ [UInt8.ofNat (IntKind.wrap IntKind.u8 (Int.fdiv n (256 : Int))).toNat]).length && sizeOK (List.length (List.drop (0 : Nat) (List.take (↑b.length : Int).toNat b) ++ [UInt8.ofNat (IntKind.wrap IntKind.u8 n).toNat]) + List.length [UInt8.ofNat (IntKind.wrap IntKind.u8 (Int.fdiv n (256 : Int))).toNat] + List.length [UInt8.ofNat (IntKind.wrap IntKind.u8 (Int.fdiv (Int.fdiv n (256 : Int)) (256 : Int))).toNat]) (1 : Nat) then bif Nat.beq (List.length (List.drop (0 : Nat) (List.take (↑b.length : Int).toNat b) ++ [UInt8.ofNat (IntKind.wrap IntKind.u8 n).toNat] ++ [UInt8.ofNat (IntKind.wrap IntKind.u8 (Int.fdiv n (256 : Int))).toNat]) + List.length [UInt8.ofNat (IntKind.wrap IntKind.u8 (Int.fdiv (Int.fdiv n (256 : Int)) (256 : Int))).toNat]) (List.drop (0 : Nat) (List.take (↑b.length : Int).toNat b) ++ [UInt8.ofNat (IntKind.wrap IntKind.u8 n).toNat] ++ [UInt8.ofNat (IntKind.wrap IntKind.u8 (Int.fdiv n (256 : Int))).toNat] ++ [UInt8.ofNat (IntKind.wrap IntKind.u8 (Int.fdiv (Int.fdiv n (256 : Int)) (256 : Int))).toNat]).length && sizeOK (List.length (List.drop (0 : Nat) (List.take (↑b.length : Int).toNat b) ++ [UInt8.ofNat (IntKind.wrap IntKind.u8 n).toNat] ++ [UInt8.ofNat (IntKind.wrap IntKind.u8 (Int.fdiv n (256 : Int))).toNat]) + List.length [UInt8.ofNat (IntKind.wrap IntKind.u8 (Int.fdiv (Int.fdiv n (256 : Int)) (256 : Int))).toNat] + List.length [UInt8.ofNat (IntKind.wrap IntKind.u8 (Int.fdiv (Int.fdiv (Int.fdiv n (256 : Int)) (256 : Int)) (256 : Int))).toNat]) (1 : Nat) then bif Nat.beq (List.length (List.drop (0 : Nat) (List.take (↑b.length : Int).toNat b) ++ [UInt8.ofNat (IntKind.wrap IntKind.u8 n).toNat] ++ [UInt8.ofNat (IntKind.wrap IntKind.u8 (Int.fdiv n (256 : Int))).toNat] ++ [UInt8.ofNat (IntKind.wrap IntKind.u8 (Int.fdiv (Int.fdiv n (256 : Int)) (256 : Int))).toNat]) + List.length [UInt8.ofNat (IntKind.wrap IntKind.u8 (Int.fdiv (Int.fdiv (Int.fdiv n (256 : Int)) (256 : Int)) (256 : Int))).toNat]) (List.drop (0 : Nat) (List.take (↑b.length : Int).toNat b) ++ [UInt8.ofNat (IntKind.wrap IntKind.u8 n).toNat] ++ [UInt8.ofNat (IntKind.wrap IntKind.u8 (Int.fdiv n (256 : Int))).toNat] ++ [UInt8.ofNat (IntKind.wrap IntKind.u8 (Int.fdiv (Int.fdiv n (256 : Int)) (256 : Int))).toNat] ++ [UInt8.ofNat (IntKind.wrap IntKind.u8 (Int.fdiv (Int.fdiv (Int.fdiv n (256 : Int)) (256 : Int)) (256 : Int))).toNat]).length && sizeOK (List.length (List.drop (0 : Nat) (List.take (↑b.length : Int).toNat b) ++ [UInt8.ofNat (IntKind.wrap IntKind.u8 n).toNat] ++ [UInt8.ofNat (IntKind.wrap IntKind.u8 (Int.fdiv n (256 : Int))).toNat] ++ [UInt8.ofNat (IntKind.wrap IntKind.u8 (Int.fdiv (Int.fdiv n (256 : Int)) (256 : Int))).toNat]) + List.length [UInt8.ofNat (IntKind.wrap IntKind.u8 (Int.fdiv (Int.fdiv (Int.fdiv n (256 : Int)) (256 : Int)) (256 : Int))).toNat] + List.length [UInt8.ofNat (IntKind.wrap IntKind.u8 (Int.fdiv (Int.fdiv (Int.fdiv (Int.fdiv n (256 : Int)) (256 : Int)) (256 : Int)) (256 : Int))).toNat]) (1 : Nat) then bif Nat.beq (List.length (List.drop (0 : Nat) (List.take (↑b.length : Int).toNat b) ++ [UInt8.ofNat (IntKind.wrap IntKind.u8 n).toNat] ++ [UInt8.ofNat (IntKind.wrap IntKind.u8 (Int.fdiv n (256 : Int))).toNat] ++ [UInt8.ofNat (IntKind.wrap IntKind.u8 (Int.fdiv (Int.fdiv n (256 : Int)) (256 : Int))).toNat] ++ [UInt8.ofNat (IntKind.wrap IntKind.u8 (Int.fdiv (Int.fdiv (Int.fdiv n (256 : Int)) (256 : Int)) (256 : Int))).toNat]) + List.length [UInt8.ofNat (IntKind.wrap IntKind.u8 (Int.fdiv (Int.fdiv (Int.fdiv (Int.fdiv n (256 : Int)) (256 : Int)) (256 : Int)) (256 : Int))).toNat]) (List.drop (0 : Nat) (List.take (↑b.length : Int).toNat b) ++ [UInt8.ofNat (IntKind.wrap IntKind.u8 n).toNat] ++ [UInt8.ofNat (IntKind.wrap IntKind.u8 (Int.fdiv n (256 : Int))).toNat] ++ [UInt8.ofNat (IntKind.wrap IntKind.u8 (Int.fdiv (Int.fdiv n (256 : Int)) (256 : Int))).toNat] ++ [UInt8.ofNat (IntKind.wrap IntKind.u8 (Int.fdiv (Int.fdiv (Int.fdiv n (256 : Int)) (256 : Int)) (256 : Int))).toNat] ++ [UInt8.ofNat (IntKind.wrap IntKind.u8 (Int.fdiv (Int.fdiv (Int.fdiv (Int.fdiv n (256 : Int)) (256 : Int)) (256 : Int)) (256 : Int))).toNat]).length && sizeOK (List.length (List.drop (0 : Nat) (List.take (↑b.length : Int).toNat b) ++ [UInt8.ofNat (IntKind.wrap IntKind.u8 n).toNat] ++ [UInt8.ofNat (IntKind.wrap IntKind.u8 (Int.fdiv n (256 : Int))).toNat] ++ [UInt8.ofNat (IntKind.wrap IntKind.u8 (Int.fdiv (Int.fdiv n (256 : Int)) (256 : Int))).toNat] ++ [UInt8.ofNat (IntKind.wrap IntKind.u8 (Int.fdiv (Int.fdiv (Int.fdiv n (256 : Int)) (256 : Int)) (256 : Int))).toNat]) + List.length [UInt8.ofNat (IntKind.wrap IntKind.u8 (Int.fdiv (Int.fdiv (Int.fdiv (Int.fdiv n (256 : Int)) (256 : Int)) (256 : Int)) (256 : Int))).toNat] + List.length [UInt8.ofNat (IntKind.wrap IntKind.u8 (Int.fdiv (Int.fdiv (Int.fdiv (Int.fdiv (Int.fdiv n (256 : Int)) (256 : Int)) (256 : Int)) (256 : Int)) (256 : Int))).toNat]) (1 : Nat) then bif Nat.beq (List.length (List.drop (0 : Nat) (List.take (↑b.length : Int).toNat b) ++ [UInt8.ofNat (IntKind.wrap IntKind.u8 n).toNat] ++ [UInt8.ofNat (IntKind.wrap IntKind.u8 (Int.fdiv n (256 : Int))).toNat] ++ [UInt8.ofNat (IntKind.wrap IntKind.u8 (Int.fdiv (Int.fdiv n (256 : Int)) (256 : Int))).toNat] ++ [UInt8.ofNat (IntKind.wrap IntKind.u8 (Int.fdiv (Int.fdiv (Int.fdiv n (256 : Int)) (256 : Int)) (256 : Int))).toNat] ++ [UInt8.ofNat (IntKind.wrap IntKind.u8 (Int.fdiv (Int.fdiv (Int.fdiv (Int.fdiv n (256 : Int)) (256 : Int)) (256 : Int)) (256 : Int))).toNat]) + List.length [UInt8.ofNat (IntKind.wrap IntKind.u8 (Int.fdiv (Int.fdiv (Int.fdiv (Int.fdiv (Int.fdiv n (256 : Int)) (256 : Int)) (256 : Int)) (256 : Int)) (256 : Int))).toNat]) (List.drop (0 : Nat) (List.take (↑b.length : Int).toNat b) ++ [UInt8.ofNat (IntKind.wrap IntKind.u8 n).toNat] ++ [UInt8.ofNat (IntKind.wrap IntKind.u8 (Int.fdiv n (256 : Int))).toNat] ++ [UInt8.ofNat (IntKind.wrap IntKind.u8 (Int.fdiv (Int.fdiv n (256 : Int)) (256 : Int))).toNat] ++ [UInt8.ofNat (IntKind.wrap IntKind.u8 (Int.fdiv (Int.fdiv (Int.fdiv n (256 : Int)) (256 : Int)) (256 : Int))).toNat] ++ [UInt8.ofNat (IntKind.wrap IntKind.u8 (Int.fdiv (Int.fdiv (Int.fdiv (Int.fdiv n (256 : Int)) (256 : Int)) (256 : Int)) (256 : Int))).toNat] ++ [UInt8.ofNat (IntKind.wrap IntKind.u8 (Int.fdiv (Int.fdiv (Int.fdiv (Int.fdiv (Int.fdiv n (256 : Int)) (256 : Int)) (256 : Int)) (256 : Int)) (256 : Int))).toNat]).length then some (D.tup (D.acons (D.sl RTy.u8 false (List.drop (0 : Nat) (List.take (↑b.length : Int).toNat b) ++ [UInt8.ofNat (IntKind.wrap IntKind.u8 n).toNat] ++ [UInt8.ofNat (IntKind.wrap IntKind.u8 (Int.fdiv n (256 : Int))).toNat] ++ [UInt8.ofNat (IntKind.wrap IntKind.u8 (Int.fdiv (Int.fdiv n (256 : Int)) (256 : Int))).toNat] ++ [UInt8.ofNat (IntKind.wrap IntKind.u8 (Int.fdiv (Int.fdiv (Int.fdiv n (256 : Int)) (256 : Int)) (256 : Int))).toNat] ++ [UInt8.ofNat (IntKind.wrap IntKind.u8 (Int.fdiv (Int.fdiv (Int.fdiv (Int.fdiv n (256 : Int)) (256 : Int)) (256 : Int)) (256 : Int))).toNat] ++ [UInt8.ofNat (IntKind.wrap IntKind.u8 (Int.fdiv (Int.fdiv (Int.fdiv (Int.fdiv (Int.fdiv n (256 : Int)) (256 : Int)) (256 : Int)) (256 : Int)) (256 : Int))).toNat])) (.acons (D.int .i64 (0 : Int)) .anil))) else none else none else none else none else none else none else none else none else none else none else some (D.tup (D.acons (D.sl RTy.u8 true []) (.acons (D.int .i64 (2 : Int)) .anil)))) := by kernel_rfl
theorem put_ok (c : Bool) (b : List UInt8) (n : Int) (w : Int) (hs : (w == 1 || w == 2 || w == 3 || w == 6) = true) (h : (decide (b.length ≤ 1000000000)) = true) : put_e c b n w = some (.tup (.acons (.sl (C := RC) .u8 (!fitsB n w.toNat) (putL b n w.toNat)) (.acons (.int .i64 (bif fitsB n w.toNat then 0 else 2)) .anil))) := by
  have hl := of_decide_eq_true h
  have hl' : lenOK b.length = true := lenOK_of (by omega)
  have hle : ∀ m, 1000000000 ≤ m → (b.length ≤ m) := fun m hm => by omega
  have hz : ∀ (k : Nat) (m : Int), 0 ≤ n → m = 256 ^ k → 0 < m → ((n.fdiv m == 0) = fitsB n k) := by
    intro k m h0 hm hp
    rw [Int.fdiv_eq_ediv_of_nonneg _ (by omega), fitsB, ← hm]
    have : (n / m = 0) ↔ n < m := Int.ediv_eq_zero_iff_of_pos' h0 hp
    rw [Bool.eq_iff_iff]; simp [this, h0]
  simp only [Bool.or_eq_true, beq_iff_eq] at hs
  rcases hs with ((rfl | rfl) | rfl) | rfl
  · rw [put1_eq]
    show _ = some (D.tup (.acons (.sl (C := RC) .u8 (!fitsB n 1) (putL b n 1)) (.acons (.int .i64 (bif fitsB n 1 then 0 else 2)) .anil)))
    by_cases h0 : 0 ≤ n
    · simp only [h0, decide_true, cond_true, hz 1 256 h0 (by decide) (by omega)]
      cases hf : fitsB n 1
      · simp [putL, hf]
      · simp [putL, hf, hl', sizeOK, leB, byteOf, hle]
    · have hf : fitsB n 1 = false := by simp [fitsB, h0]
      simp [h0, hf, putL]
  · rw [put2_eq]
    show _ = some (D.tup (.acons (.sl (C := RC) .u8 (!fitsB n 2) (putL b n 2)) (.acons (.int .i64 (bif fitsB n 2 then 0 else 2)) .anil)))
    by_cases h0 : 0 ≤ n
    · simp only [h0, decide_true, cond_true, hz 2 65536 h0 (by decide) (by omega)]
      cases hf : fitsB n 2
      · simp [putL, hf]
      · simp [putL, hf, hl', sizeOK, leB, byteOf, hle]
    · have hf : fitsB n 2 = false := by simp [fitsB, h0]
      simp [h0, hf, putL]
  · rw [put3_eq]
    show _ = some (D.tup (.acons (.sl (C := RC) .u8 (!fitsB n 3) (putL b n 3)) (.acons (.int .i64 (bif fitsB n 3 then 0 else 2)) .anil)))
    by_cases h0 : 0 ≤ n
    · simp only [h0, decide_true, cond_true, hz 3 16777216 h0 (by decide) (by omega)]
      cases hf : fitsB n 3
      · simp [putL, hf]
      · simp [putL, hf, hl', sizeOK, leB, byteOf, hle]
    · have hf : fitsB n 3 = false := by simp [fitsB, h0]
      simp [h0, hf, putL]
  · rw [put6_eq]
    show _ = some (D.tup (.acons (.sl (C := RC) .u8 (!fitsB n 6) (putL b n 6)) (.acons (.int .i64 (bif fitsB n 6 then 0 else 2)) .anil)))
    by_cases h0 : 0 ≤ n
    · simp only [h0, decide_true, cond_true, hz 6 281474976710656 h0 (by decide) (by omega)]
      cases hf : fitsB n 6
      · simp [putL, hf]
      · simp [putL, hf, hl', sizeOK, leB, byteOf, hle]
    · have hf : fitsB n 6 = false := by simp [fitsB, h0]
      simp [h0, hf, putL]
noncomputable def uc_1 := ub_5.addSpec 54 put_sp
theorem uc_1_laws : FLaws Try.prog s07 uc_1 := ub_5_laws.addEv s07_laws fun args d h => by
  unfold put_sp at h
  split at h
  · unfold put_s at h
    obtain ⟨hs, h⟩ := staticD_some h
    obtain ⟨h1, h2⟩ := Prod.mk.inj h
    obtain rfl : _ = d := h2
    exact ⟨by simp [D.refs], 40, put_ok _ _ _ _ hs h1⟩
  · cases h
structure getLoop_St where
  c : Bool
  l : List UInt8
  i : Nat
def getLoop_c (c : Bool) (l : List UInt8) (i : Nat) : Env RC := [(40, .sl (C := RC) .u8 c l), (41, .int .i64 (l.length)), (42, .int .i64 (i : Int)), (8, .int .i64 ((leVal (l.take i) : Int)))]
def getLoop_o (c : Bool) (l : List UInt8) (i : Nat) : List (Obj RC) := []
noncomputable def getLoop_r (c : Bool) (l : List UInt8) (i : Nat) := rndO s07 uc_1 66 7 40 0 [40, 41, 42, 8] [8] [] (getLoop_c c l i) (getLoop_o c l i)
theorem getLoop_eq (c : Bool) (l : List UInt8) (i : Nat) : getLoop_r c l i = (bif decide ((↑i : Int) < (↑l.length : Int)) then bif decide ((0 : Int) ≤ (↑i : Int) ∧ (↑i : Int) < (↑l.length : Int)) then bif decide (IntKind.wrap .i64 ((8 : Int) * (↑i : Int)) < (0 : Int)) then none else some ((X.normal, [((40 : Nat), D.sl RTy.u8 c l), ((41 : Nat), D.int .i64 (↑l.length : Int)), ((42 : Nat), D.int .i64 (IntKind.wrap .i64 ((↑i : Int) + (1 : Int)))), ((8 : Nat), D.int .i64 (bits .i64 (fun (x : Nat) (u v : BitVec x) => u ||| v) (↑(leVal (List.take i l)) : Int) (IntKind.wrap .i64 (IntKind.wrap .i64 (↑(UInt8.toNat (List.getD l (↑i : Int).toNat (UInt8.ofBitVec (BitVec.ofNat (8 : Nat) (nat_lit 0))))) : Int) * (2 : Int) ^ min (IntKind.wrap .i64 ((8 : Int) * (↑i : Int))).toNat (64 : Nat)))))]), []) else none else some ((X.exit (1 : Nat), [((8 : Nat), D.int .i64 (↑(leVal (List.take i l)) : Int))]), [])) := by kernel_rfl
def getLoop_fin (c : Bool) (l : List UInt8) (i : Nat) : RT RC := .leaf (.exit 1) [(8, .int .i64 (leVal l : Int))] []
def getLoop_Inv (c : Bool) (l : List UInt8) (i : Nat) : Prop := i ≤ l.length ∧ l.length ≤ 6
def getLoop_S : LoopR RC getLoop_St where
  k := 0
  canon q := getLoop_c q.c q.l q.i
  objs q := getLoop_o q.c q.l q.i
  fin q := getLoop_fin q.c q.l q.i
  Inv q := getLoop_Inv q.c q.l q.i
  μ q := q.l.length - q.i
theorem getLoop_round (c : Bool) (l : List UInt8) (i : Nat) (hI : getLoop_Inv c l i) : Leaf (getLoop_r c l i) (LedR getLoop_S ⟨c, l, i⟩) := by
  rw [getLoop_eq]
  unfold getLoop_Inv at hI
  obtain ⟨h1, h2⟩ := hI
  by_cases hlt : i < l.length
  · have w_succ : IntKind.i64.wrap ((i : Int) + 1) = ((i + 1 : Nat) : Int) := by rw [wrap_id (by omega) (by omega)]; simp
    have d_lt : decide ((i : Int) < l.length) = true := by simp; omega
    have d_in : decide (0 ≤ (i : Int) ∧ (i : Int) < l.length) = true := by simp; omega
    have t_nat : ((i : Int)).toNat = i := by simp
    simp only [w_succ, d_lt, d_in, t_nat, cond_true]
    have hw8 : IntKind.i64.wrap (8 * (i : Int)) = 8 * (i : Int) := wrap_id (by omega) (by omega)
    have hd8 : decide (IntKind.i64.wrap (8 * (i : Int)) < 0) = false := by rw [hw8]; simp; omega
    have hlen : (l.take i).length = i := by simp; omega
    have hv : leVal (l.take i) < 256 ^ i := by have := leVal_lt (l.take i); rwa [hlen] at this
    have hval : leVal (l.take (i + 1)) = leVal (l.take i) + (l.getD i 0).toNat * 256 ^ i := by
      rw [List.take_add_one, leVal_append, hlen]
      simp [hlt, leVal, Nat.mul_comm]
    simp only [hd8, cond_false]
    refine leafR_go ⟨c, l, i + 1⟩ ⟨hlt, h2⟩ (by simp only [getLoop_S]; omega) (by simp only [getLoop_S, getLoop_fin]) ?_ rfl
    simp only [getLoop_S, getLoop_c, hval]
    exact congrArg (fun z => [(40, D.sl (C := RC) .u8 c l), (41, .int .i64 (l.length : Int)), (42, .int .i64 ((i + 1 : Nat) : Int)), (8, .int .i64 z)]) (bits_or_shift' _ _ _ hv (by omega))
  · have hi : i = l.length := by omega
    have c1 : decide ((i : Int) < l.length) = false := by simp; omega
    rw [c1]
    exact leafR_exit [] (by simp [getLoop_S, getLoop_fin, hi, RT.val]) rfl
def getLoop_d (env : Env RC) (os : List (Obj RC)) : Option (Bool × getLoop_St) := match env, os with
  | [(40, .sl .u8 c l), (41, .int .i64 x0), (42, .int .i64 x1), (8, .int .i64 x2)], [] => staticD (true) (decide (x0 = l.length) && decide (x1 = 0) && decide (x2 = 0) && decide (l.length ≤ 6), ⟨c, l, 0⟩)
  | _, _ => none
noncomputable def uc_2 := uc_1.addLoop 66 7 (sumR s07 [] [40, 41, 42, 8] getLoop_S getLoop_d)
theorem uc_2_laws : FLaws Try.prog s07 uc_2 := by
  refine uc_1_laws.addRoundsR s07_laws (by kernel_rfl) getLoop_S 40 [40, 41, 42, 8] [8] [] [40, 41, 42, 8] getLoop_d (fun q hI => ?_) ?_
  · obtain ⟨c, l, i⟩ := q
    refine ⟨?_, ?_, getLoop_round c l i hI⟩
    · simp_all [RefsOK, getLoop_S, getLoop_c, getLoop_o, getLoop_Inv, D.refs, Obj.refs, rEnc]
    · simp_all [getLoop_S, getLoop_fin, getLoop_o, getLoop_Inv, RT.refsOK, RefsOK, D.refs, Obj.refs, rEnc]
  · intro env os b q hd_ hb
    unfold getLoop_d at hd_
    split at hd_
    · obtain ⟨hs, hd_⟩ := staticD_some hd_
      cases hd_
      simp only [Bool.and_eq_true, decide_eq_true_eq] at hb
      obtain ⟨⟨⟨rfl, rfl⟩, rfl⟩, hl⟩ := hb
      exact ⟨⟨Nat.zero_le _, hl⟩, rfl, rfl⟩
    · cases hd_
def get_s (c : Bool) (b : List UInt8) (a : Int) (w : Int) : Option (Bool × D RC) := some (decide (b.length ≤ 1000000000000), .tup (.acons (.int .i64 (getP b a w).1) (.acons (.int .i64 (getP b a w).2) .anil)))
def get_sp : List (D RC) → Option (Bool × D RC)
  | [.sl .u8 c b, .int .i64 a, .int .i64 w] => get_s c b a w
  | _ => none
noncomputable def get_e (c : Bool) (b : List UInt8) (a : Int) (w : Int) := evF s07 uc_2 40 66 [.sl (C := RC) .u8 c b, .int .i64 a, .int .i64 w]
theorem get_eq (c : Bool) (b : List UInt8) (a : Int) (w : Int) : get_e c b a w = (bif decide (w < (1 : Int)) then some (D.tup (D.acons (D.int .i64 (0 : Int)) (.acons (D.int .i64 (2 : Int)) .anil))) else bif decide ((6 : Int) < w) then some (D.tup (D.acons (D.int .i64 (0 : Int)) (.acons (D.int .i64 (2 : Int)) .anil))) else bif decide (a < (0 : Int)) then some (D.tup (D.acons (D.int .i64 (0 : Int)) (.acons (D.int .i64 (50 : Int)) .anil))) else bif lenOK b.length then bif decide ((↑b.length : Int) < a) then some (D.tup (D.acons (D.int .i64 (0 : Int)) (.acons (D.int .i64 (50 : Int)) .anil))) else bif lenOK b.length then bif decide (IntKind.wrap .i64 ((↑b.length : Int) - a) < w) then some (D.tup (D.acons (D.int .i64 (0 : Int)) (.acons (D.int .i64 (50 : Int)) .anil))) else bif decide ((0 : Int) ≤ a ∧ a ≤ IntKind.wrap .i64 (a + w) ∧ IntKind.wrap .i64 (a + w) ≤ (↑b.length : Int)) then bif lenOK (List.drop a.toNat (List.take (IntKind.wrap .i64 (a + w)).toNat b)).length then bif decide ((↑(List.drop a.toNat (List.take (IntKind.wrap .i64 (a + w)).toNat b)).length : Int) = (↑(List.drop a.toNat (List.take (IntKind.wrap .i64 (a + w)).toNat b)).length : Int)) && true && true && decide (List.length (List.drop a.toNat (List.take (IntKind.wrap .i64 (a + w)).toNat b)) ≤ (6 : Nat)) then some (D.tup (D.acons (D.int .i64 (↑(leVal (List.drop a.toNat (List.take (IntKind.wrap .i64 (a + w)).toNat b))) : Int)) (.acons (D.int .i64 (0 : Int)) .anil))) else none else none else none else none else none) := by kernel_rfl
theorem get_ok (c : Bool) (b : List UInt8) (a : Int) (w : Int) (h : (decide (b.length ≤ 1000000000000)) = true) : get_e c b a w = some (.tup (.acons (.int .i64 (getP b a w).1) (.acons (.int .i64 (getP b a w).2) .anil))) := by
  rw [get_eq]
  have hl := of_decide_eq_true h
  have hl' : lenOK b.length = true := lenOK_of (by omega)
  rw [hl']
  by_cases hw : 1 ≤ w ∧ w ≤ 6
  · have w1 : decide (w < 1) = false := by simp; omega
    have w2 : decide (6 < w) = false := by simp; omega
    have w3 : (decide (1 ≤ w) && decide (w ≤ 6)) = true := by simp; omega
    simp only [w1, w2, cond_false, cond_true, getP, w3]
    by_cases ha : 0 ≤ a ∧ a + w ≤ b.length
    · have a1 : decide (a < 0) = false := by simp; omega
      have a2 : decide ((b.length : Int) < a) = false := by simp; omega
      have e1 : IntKind.i64.wrap ((b.length : Int) - a) = b.length - a := wrap_id (by omega) (by omega)
      have e2 : IntKind.i64.wrap (a + w) = a + w := wrap_id (by omega) (by omega)
      have a3 : decide ((b.length : Int) - a < w) = false := by simp; omega
      have a4 : decide (0 ≤ a ∧ a ≤ a + w ∧ a + w ≤ (b.length : Int)) = true := by simp; omega
      have a5 : (decide (0 ≤ a) && decide (a + w ≤ (b.length : Int))) = true := by simp; omega
      have e3 : (List.drop a.toNat (List.take (a + w).toNat b)) = List.take w.toNat (List.drop a.toNat b) := by
        rw [List.drop_take]; congr 1; omega
      have e4 : (List.take w.toNat (List.drop a.toNat b)).length = w.toNat := by simp; omega
      simp only [a1, a2, e1, e2, a3, a4, a5, e3, e4, cond_false, cond_true]
      have a6 : lenOK w.toNat = true := lenOK_of (by omega)
      have a7 : w.toNat ≤ 6 := by omega
      simp [a6, a7]
    · have a5 : (decide (0 ≤ a) && decide (a + w ≤ (b.length : Int))) = false := by simp; omega
      simp only [a5, cond_false]
      by_cases a1 : a < 0
      · simp [a1]
      · by_cases a2 : (b.length : Int) < a
        · simp [a1, a2]
        · have e1 : IntKind.i64.wrap ((b.length : Int) - a) = b.length - a := wrap_id (by omega) (by omega)
          have a3 : decide ((b.length : Int) - a < w) = true := by simp; omega
          simp [a1, a2, e1, a3]
  · have w3 : (decide (1 ≤ w) && decide (w ≤ 6)) = false := by simp; omega
    simp only [getP, w3]
    by_cases w1 : w < 1
    · simp [w1]
    · have w2 : 6 < w := by omega
      simp [w1, w2]
noncomputable def uc_3 := uc_2.addSpec 66 get_sp
theorem uc_3_laws : FLaws Try.prog s07 uc_3 := uc_2_laws.addEv s07_laws fun args d h => by
  unfold get_sp at h
  split at h
  · unfold get_s at h
    have h1 := congrArg Prod.fst (Option.some.inj h)
    obtain rfl : _ = d := congrArg Prod.snd (Option.some.inj h)
    exact ⟨by simp [D.refs], 40, get_ok _ _ _ _ h1⟩
  · cases h
open Go.Proofs
def stands_s (p : Int) (ci : Bool) (items : List Item) (k0 : Bool) (k1 : Bool) (k2 : Bool) (l0 : List Line) (l1 : List Line) (l2 : List Line) (c0 : Int) (c1 : Int) (c2 : Int) : Option (Bool × D RC) := some (decide (items.length ≤ 9223372036854775807 ∧ l0.length ≤ 9223372036854775807 ∧ l1.length ≤ 9223372036854775807 ∧ l2.length ≤ 9223372036854775807), .bool (standsOK ⟨p, items, l0, l1, l2, c0, c1, c2⟩))
def stands_sp : List (D RC) → Option (Bool × D RC)
  | [.acons (.int .i64 p) (.acons (.sl .item ci items) (.acons (.acons (.sl .line k0 l0) (.acons (.sl .line k1 l1) (.acons (.sl .line k2 l2) .anil))) (.acons (.arr .int 3 [c0, c1, c2]) .anil)))] => stands_s p ci items k0 k1 k2 l0 l1 l2 c0 c1 c2
  | _ => none
noncomputable def stands_e (p : Int) (ci : Bool) (items : List Item) (k0 : Bool) (k1 : Bool) (k2 : Bool) (l0 : List Line) (l1 : List Line) (l2 : List Line) (c0 : Int) (c1 : Int) (c2 : Int) := evF s07 uc_3 30 52 [.acons (.int .i64 p) (.acons (.sl (C := RC) .item ci items) (.acons (.acons (.sl (C := RC) .line k0 l0) (.acons (.sl (C := RC) .line k1 l1) (.acons (.sl (C := RC) .line k2 l2) .anil))) (.acons (.arr (C := RC) .int 3 [c0, c1, c2]) .anil)))]
theorem stands_eq (p : Int) (ci : Bool) (items : List Item) (k0 : Bool) (k1 : Bool) (k2 : Bool) (l0 : List Line) (l1 : List Line) (l2 : List Line) (c0 : Int) (c1 : Int) (c2 : Int) : stands_e p ci items k0 k1 k2 l0 l1 l2 c0 c1 c2 = (bif !withinB p (0 : Int) (1048575 : Int) then some (D.bool false) else bif lenOK items.length then bif decide ((↑items.length : Int) = (↑items.length : Int)) && true && decide (List.length items ≤ (9223372036854775807 : Nat)) then bif eachAt (oneIB p) twoIB items (0 : Nat) then bif !withinB c0 (0 : Int) p then some (D.bool false) else bif lenOK l0.length then bif decide ((16 : Int) < (↑l0.length : Int)) then some (D.bool false) else bif lenOK l0.length then bif decide ((0 : Int) < (↑l0.length : Int)) then bif decide ((0 : Int) ≤ (0 : Int) ∧ (0 : Int) < (↑l0.length : Int)) then bif decide (Line.place (List.getD l0 (0 : Nat) (Line.mk (0 : Int) (0 : Int) (0 : Int) (0 : Int) (0 : Int))) ≤ c0) then some (D.bool false) else bif lenOK l0.length then bif decide ((↑l0.length : Int) = (↑l0.length : Int)) && true && decide (List.length l0 ≤ (9223372036854775807 : Nat)) then bif eachAt (oneLB p) twoLB l0 (0 : Nat) then bif !withinB c1 (0 : Int) p then some (D.bool false) else bif lenOK l1.length then bif decide ((16 : Int) < (↑l1.length : Int)) then some (D.bool false) else bif lenOK l1.length then bif decide ((0 : Int) < (↑l1.length : Int)) then bif decide ((0 : Int) ≤ (0 : Int) ∧ (0 : Int) < (↑l1.length : Int)) then bif decide (Line.place (List.getD l1 (0 : Nat) (Line.mk (0 : Int) (0 : Int) (0 : Int) (0 : Int) (0 : Int))) ≤ c1) then some (D.bool false) else bif lenOK l1.length then bif decide ((↑l1.length : Int) = (↑l1.length : Int)) && true && decide (List.length l1 ≤ (9223372036854775807 : Nat)) then bif eachAt (oneLB p) twoLB l1 (0 : Nat) then bif !withinB c2 (0 : Int) p then some (D.bool false) else bif lenOK l2.length then bif decide ((16 : Int) < (↑l2.length : Int)) then some (D.bool false) else bif lenOK l2.length then bif decide ((0 : Int) < (↑l2.length : Int)) then bif decide ((0 : Int) ≤ (0 : Int) ∧ (0 : Int) < (↑l2.length : Int)) then bif decide (Line.place (List.getD l2 (0 : Nat) (Line.mk (0 : Int) (0 : Int) (0 : Int) (0 : Int) (0 : Int))) ≤ c2) then some (D.bool false) else bif lenOK l2.length then bif decide ((↑l2.length : Int) = (↑l2.length : Int)) && true && decide (List.length l2 ≤ (9223372036854775807 : Nat)) then bif eachAt (oneLB p) twoLB l2 (0 : Nat) then some (D.bool true) else some (D.bool false) else none else none else none else bif lenOK l2.length then bif decide ((↑l2.length : Int) = (↑l2.length : Int)) && true && decide (List.length l2 ≤ (9223372036854775807 : Nat)) then bif eachAt (oneLB p) twoLB l2 (0 : Nat) then some (D.bool true) else some (D.bool false) else none else none else none else none else some (D.bool false) else none else none else none else bif lenOK l1.length then bif decide ((↑l1.length : Int) = (↑l1.length : Int)) && true && decide (List.length l1 ≤ (9223372036854775807 : Nat)) then bif eachAt (oneLB p) twoLB l1 (0 : Nat) then bif !withinB c2 (0 : Int) p then some (D.bool false) else bif lenOK l2.length then bif decide ((16 : Int) < (↑l2.length : Int)) then some (D.bool false) else bif lenOK l2.length then bif decide ((0 : Int) < (↑l2.length : Int)) then bif decide ((0 : Int) ≤ (0 : Int) ∧ (0 : Int) < (↑l2.length : Int)) then bif decide (Line.place (List.getD l2 (0 : Nat) (Line.mk (0 : Int) (0 : Int) (0 : Int) (0 : Int) (0 : Int))) ≤ c2) then some (D.bool false) else bif lenOK l2.length then bif decide ((↑l2.length : Int) = (↑l2.length : Int)) && true && decide (List.length l2 ≤ (9223372036854775807 : Nat)) then bif eachAt (oneLB p) twoLB l2 (0 : Nat) then some (D.bool true) else some (D.bool false) else none else none else none else bif lenOK l2.length then bif decide ((↑l2.length : Int) = (↑l2.length : Int)) && true && decide (List.length l2 ≤ (9223372036854775807 : Nat)) then bif eachAt (oneLB p) twoLB l2 (0 : Nat) then some (D.bool true) else some (D.bool false) else none else none else none else none else some (D.bool false) else none else none else none else none else some (D.bool false) else none else none else none else bif lenOK l0.length then bif decide ((↑l0.length : Int) = (↑l0.length : Int)) && true && decide (List.length l0 ≤ (9223372036854775807 : Nat)) then bif eachAt (oneLB p) twoLB l0 (0 : Nat) then bif !withinB c1 (0 : Int) p then some (D.bool false) else bif lenOK l1.length then bif decide ((16 : Int) < (↑l1.length : Int)) then some (D.bool false) else bif lenOK l1.length then bif decide ((0 : Int) < (↑l1.length : Int)) then bif decide ((0 : Int) ≤ (0 : Int) ∧ (0 : Int) < (↑l1.length : Int)) then bif decide (Line.place (List.getD l1 (0 : Nat) (Line.mk (0 : Int) (0 : Int) (0 : Int) (0 : Int) (0 : Int))) ≤ c1) then some (D.bool false) else bif lenOK l1.length then bif decide ((↑l1.length : Int) = (↑l1.length : Int)) && true && decide (List.length l1 ≤ (9223372036854775807 : Nat)) then bif eachAt (oneLB p) twoLB l1 (0 : Nat) then bif !withinB c2 (0 : Int) p then some (D.bool false) else bif lenOK l2.length then bif decide ((16 : Int) < (↑l2.length : Int)) then some (D.bool false) else bif lenOK l2.length then bif decide ((0 : Int) < (↑l2.length : Int)) then bif decide ((0 : Int) ≤ (0 : Int) ∧ (0 : Int) < (↑l2.length : Int)) then bif decide (Line.place (List.getD l2 (0 : Nat) (Line.mk (0 : Int) (0 : Int) (0 : Int) (0 : Int) (0 : Int))) ≤ c2) then some (D.bool false) else bif lenOK l2.length then bif decide ((↑l2.length : Int) = (↑l2.length : Int)) && true && decide (List.length l2 ≤ (9223372036854775807 : Nat)) then bif eachAt (oneLB p) twoLB l2 (0 : Nat) then some (D.bool true) else some (D.bool false) else none else none else none else bif lenOK l2.length then bif decide ((↑l2.length : Int) = (↑l2.length : Int)) && true && decide (List.length l2 ≤ (9223372036854775807 : Nat)) then bif eachAt (oneLB p) twoLB l2 (0 : Nat) then some (D.bool true) else some (D.bool false) else none else none else none else none else some (D.bool false) else none else none else none else bif lenOK l1.length then bif decide ((↑l1.length : Int) = (↑l1.length : Int)) && true && decide (List.length l1 ≤ (9223372036854775807 : Nat)) then bif eachAt (oneLB p) twoLB l1 (0 : Nat) then bif !withinB c2 (0 : Int) p then some (D.bool false) else bif lenOK l2.length then bif decide ((16 : Int) < (↑l2.length : Int)) then some (D.bool false) else bif lenOK l2.length then bif decide ((0 : Int) < (↑l2.length : Int)) then bif decide ((0 : Int) ≤ (0 : Int) ∧ (0 : Int) < (↑l2.length : Int)) then bif decide (Line.place (List.getD l2 (0 : Nat) (Line.mk (0 : Int) (0 : Int) (0 : Int) (0 : Int) (0 : Int))) ≤ c2) then some (D.bool false) else bif lenOK l2.length then bif decide ((↑l2.length : Int) = (↑l2.length : Int)) && true && decide (List.length l2 ≤ (9223372036854775807 : Nat)) then bif eachAt (oneLB p) twoLB l2 (0 : Nat) then some (D.bool true) else some (D.bool false) else none else none else none else bif lenOK l2.length then bif decide ((↑l2.length : Int) = (↑l2.length : Int)) && true && decide (List.length l2 ≤ (9223372036854775807 : Nat)) then bif eachAt (oneLB p) twoLB l2 (0 : Nat) then some (D.bool true) else some (D.bool false) else none else none else none else none else some (D.bool false) else none else none else none else none else some (D.bool false) else none else none else none else none else some (D.bool false) else none else none) := by kernel_rfl
theorem stands_ok (p : Int) (ci : Bool) (items : List Item) (k0 : Bool) (k1 : Bool) (k2 : Bool) (l0 : List Line) (l1 : List Line) (l2 : List Line) (c0 : Int) (c1 : Int) (c2 : Int) (h : (decide (items.length ≤ 9223372036854775807 ∧ l0.length ≤ 9223372036854775807 ∧ l1.length ≤ 9223372036854775807 ∧ l2.length ≤ 9223372036854775807)) = true) : stands_e p ci items k0 k1 k2 l0 l1 l2 c0 c1 c2 = some (.bool (standsOK ⟨p, items, l0, l1, l2, c0, c1, c2⟩)) := by
  rw [stands_eq]
  obtain ⟨h, h0, h1, h2⟩ := of_decide_eq_true h
  have b := lenOK_of h
  have b0 := lenOK_of h0
  have b1 := lenOK_of h1
  have b2 := lenOK_of h2
  have i0 : ∀ l : List Line, decide (0 ≤ (0 : Int) ∧ (0 : Int) < l.length) = !l.isEmpty := fun l => by cases l <;> simp
  have n0 : ∀ l : List Line, decide (0 < (l.length : Int)) = !l.isEmpty := fun l => by cases l <;> simp
  have n16 : ∀ l : List Line, decide (16 < (l.length : Int)) = !decide (l.length ≤ 16) := fun l => by
    by_cases h : l.length ≤ 16 <;> simp [h]
    · omega
    · omega
  have nle : ∀ a b : Int, decide (a ≤ b) = !decide (b < a) := fun a b => by
    by_cases h : b < a <;> simp [h] <;> omega
  simp only [standsOK, partOK, b, b0, b1, b2, h, h0, h1, h2, decide_true, cond_true, i0, n0, n16, nle (Line.place _)]
  generalize withinB p 0 1048575 = x1
  generalize eachAt (oneIB p) twoIB items 0 = x2
  generalize withinB c0 0 p = x3
  generalize withinB c1 0 p = x4
  generalize withinB c2 0 p = x5
  generalize eachAt (oneLB p) twoLB l0 0 = x6
  generalize eachAt (oneLB p) twoLB l1 0 = x7
  generalize eachAt (oneLB p) twoLB l2 0 = x8
  generalize decide (l0.length ≤ 16) = x9
  generalize decide (l1.length ≤ 16) = x10
  generalize decide (l2.length ≤ 16) = x11
  generalize decide (c0 < (l0.getD 0 ⟨0, 0, 0, 0, 0⟩).place) = x12
  generalize decide (c1 < (l1.getD 0 ⟨0, 0, 0, 0, 0⟩).place) = x13
  generalize decide (c2 < (l2.getD 0 ⟨0, 0, 0, 0, 0⟩).place) = x14
  generalize l0.isEmpty = x15
  generalize l1.isEmpty = x16
  generalize l2.isEmpty = x17
  cases x1; · rfl
  cases x2; · rfl
  cases x3; · rfl
  cases x9; · rfl
  cases x6
  · cases x15 <;> cases x12 <;> rfl
  cases x4; · cases x15 <;> cases x12 <;> rfl
  cases x10; · cases x15 <;> cases x12 <;> rfl
  cases x7; · cases x15 <;> cases x12 <;> cases x16 <;> cases x13 <;> rfl
  cases x5; · cases x15 <;> cases x12 <;> cases x16 <;> cases x13 <;> rfl
  cases x11; · cases x15 <;> cases x12 <;> cases x16 <;> cases x13 <;> rfl
  cases x15 <;> cases x12 <;> cases x16 <;> cases x13 <;> cases x17 <;> cases x14 <;> cases x8 <;> rfl
noncomputable def ud_1 := uc_3.addSpec 52 stands_sp
theorem ud_1_laws : FLaws Try.prog s07 ud_1 := uc_3_laws.addEv s07_laws fun args d h => by
  unfold stands_sp at h
  split at h
  · unfold stands_s at h
    have h1 := congrArg Prod.fst (Option.some.inj h)
    obtain rfl : _ = d := congrArg Prod.snd (Option.some.inj h)
    exact ⟨by simp [D.refs], 30, stands_ok _ _ _ _ _ _ _ _ _ _ _ _ h1⟩
  · cases h
open Go.Proofs
structure sbItems_St where
  cp : Bool
  bs : List UInt8
  c : Bool
  l : List Item
  i : Nat
def sbItems_c (cp : Bool) (bs : List UInt8) (c : Bool) (l : List Item) (i : Nat) : Env RC := [(4, .ptr 0 []), (27, .sl (C := RC) .item c l), (28, .int .i64 (l.length)), (29, .int .i64 (i : Int))]
def sbItems_o (cp : Bool) (bs : List UInt8) (c : Bool) (l : List Item) (i : Nat) : List (Obj RC) := [.var 91 (.acons (.sl (C := RC) .u8 cp bs) .anil)]
noncomputable def sbItems_r (cp : Bool) (bs : List UInt8) (c : Bool) (l : List Item) (i : Nat) := rndO s07 ud_1 38 7 40 1 [4, 27, 28, 29] [] [.slot 4 0] (sbItems_c cp bs c l i) (sbItems_o cp bs c l i)
theorem sbItems_eq (cp : Bool) (bs : List UInt8) (c : Bool) (l : List Item) (i : Nat) : sbItems_r cp bs c l i = (bif decide ((↑i : Int) < (↑l.length : Int)) then bif decide ((0 : Int) ≤ (↑i : Int) ∧ (↑i : Int) < (↑l.length : Int)) then bif decide (List.length bs ≤ (1000000000 : Nat)) then bif decide (List.length (putL bs (Item.key (List.getD l (↑i : Int).toNat (Item.mk (0 : Int) (0 : Int) (0 : Int)))) (1 : Nat)) ≤ (1000000000 : Nat)) then bif decide (List.length (putL (putL bs (Item.key (List.getD l (↑i : Int).toNat (Item.mk (0 : Int) (0 : Int) (0 : Int)))) (1 : Nat)) (Item.place (List.getD l (↑i : Int).toNat (Item.mk (0 : Int) (0 : Int) (0 : Int)))) (3 : Nat)) ≤ (1000000000 : Nat)) then some ((X.normal, [((4 : Nat), D.ptr (0 : Nat) []), ((27 : Nat), D.sl RTy.item c l), ((28 : Nat), D.int .i64 (↑l.length : Int)), ((29 : Nat), D.int .i64 (IntKind.wrap .i64 ((↑i : Int) + (1 : Int))))]), [some (Obj.var (91 : Nat) (.acons (D.sl RTy.u8 (!fitsB (Item.value (List.getD l (↑i : Int).toNat (Item.mk (0 : Int) (0 : Int) (0 : Int)))) (1 : Nat)) (putL (putL (putL bs (Item.key (List.getD l (↑i : Int).toNat (Item.mk (0 : Int) (0 : Int) (0 : Int)))) (1 : Nat)) (Item.place (List.getD l (↑i : Int).toNat (Item.mk (0 : Int) (0 : Int) (0 : Int)))) (3 : Nat)) (Item.value (List.getD l (↑i : Int).toNat (Item.mk (0 : Int) (0 : Int) (0 : Int)))) (1 : Nat))) .anil))]) else none else none else none else none else some ((X.exit (0 : Nat), []), [some (Obj.var (91 : Nat) (.acons (D.sl RTy.u8 cp bs) .anil))])) := by kernel_rfl
def sbItems_fin (cp : Bool) (bs : List UInt8) (c : Bool) (l : List Item) (i : Nat) : RT RC := .leaf (.exit 0) [] [.var 91 (.acons (.sl (C := RC) .u8 (cp && (l.drop i).isEmpty) (bs ++ (l.drop i).flatMap iBytes)) .anil)]
def sbItems_Inv (cp : Bool) (bs : List UInt8) (c : Bool) (l : List Item) (i : Nat) : Prop := i ≤ l.length ∧ l.length ≤ 1000000 ∧ bs.length ≤ 1000000 + 5 * i ∧ l.all fitI = true
def sbItems_S : LoopR RC sbItems_St where
  k := 1
  canon q := sbItems_c q.cp q.bs q.c q.l q.i
  objs q := sbItems_o q.cp q.bs q.c q.l q.i
  fin q := sbItems_fin q.cp q.bs q.c q.l q.i
  Inv q := sbItems_Inv q.cp q.bs q.c q.l q.i
  μ q := q.l.length - q.i
theorem sbItems_round (cp : Bool) (bs : List UInt8) (c : Bool) (l : List Item) (i : Nat) (hI : sbItems_Inv cp bs c l i) : Leaf (sbItems_r cp bs c l i) (LedR sbItems_S ⟨cp, bs, c, l, i⟩) := by
  rw [sbItems_eq]
  unfold sbItems_Inv at hI
  obtain ⟨h1, h2, h3, h4⟩ := hI
  by_cases hlt : i < l.length
  · have w_succ : IntKind.i64.wrap ((i : Int) + 1) = ((i + 1 : Nat) : Int) := by rw [wrap_id (by omega) (by omega)]; simp
    have d_lt : decide ((i : Int) < l.length) = true := by simp; omega
    have d_in : decide (0 ≤ (i : Int) ∧ (i : Int) < l.length) = true := by simp; omega
    have t_nat : ((i : Int)).toNat = i := by simp
    simp only [w_succ, d_lt, d_in, t_nat, cond_true]
    have hf := all_getD h4 hlt (⟨0, 0, 0⟩ : Item)
    have hd : (l.drop i).flatMap iBytes = _ := flatMap_drop_succ l i iBytes hlt (⟨0, 0, 0⟩ : Item)
    have he : (l.drop i).isEmpty = false := by simp; omega
    generalize l.getD i (⟨0, 0, 0⟩ : Item) = x at hf hd ⊢
    simp only [fitI, Bool.and_eq_true] at hf
    obtain ⟨⟨f1, f2⟩, f3⟩ := hf
    have n1 : decide (bs.length ≤ 1000000000) = true := decide_eq_true (by omega)
    have n2 : decide ((bs ++ leB x.key 1).length ≤ 1000000000) = true := decide_eq_true (by simp [leB_length]; omega)
    have n3 : decide ((bs ++ leB x.key 1 ++ leB x.place 3).length ≤ 1000000000) = true := decide_eq_true (by simp [leB_length]; omega)
    simp only [Int.toNat_one, show Int.toNat 3 = 3 from rfl, putL_fits (fits1 f1), putL_fits (fits3 f2), putL_fits (fits1 f3), fits1 f1, fits3 f2, fits1 f3, n1, n2, n3, cond_true, Bool.not_true]
    refine leafR_go ⟨false, bs ++ leB x.key 1 ++ leB x.place 3 ++ leB x.value 1, c, l, i + 1⟩ ⟨hlt, h2, by simp [leB_length]; omega, h4⟩ (by simp only [sbItems_S]; omega) ?_ rfl rfl
    simp [sbItems_S, sbItems_fin, hd, he, iBytes, RT.val]
  · have hi : i = l.length := by omega
    have c1 : decide ((i : Int) < l.length) = false := by simp; omega
    rw [c1]
    exact leafR_exit (sbItems_o cp bs c l i) (by simp [sbItems_S, sbItems_fin, sbItems_o, hi, RT.val]) rfl
def sbItems_d (env : Env RC) (os : List (Obj RC)) : Option (Bool × sbItems_St) := match env, os with
  | [(4, .ptr 0 []), (27, .sl .item c l), (28, .int .i64 x0), (29, .int .i64 x1)], [.var 91 (.acons (.sl .u8 cp bs) .anil)] => staticD (true) (decide (x0 = l.length) && decide (x1 = 0) && decide (l.length ≤ 1000000 ∧ bs.length ≤ 1000000) && l.all fitI, ⟨cp, bs, c, l, 0⟩)
  | _, _ => none
noncomputable def ue_1 := ud_1.addLoop 38 7 (sumR s07 [.slot 4 0] [4, 27, 28, 29] sbItems_S sbItems_d)
theorem ue_1_laws : FLaws Try.prog s07 ue_1 := by
  refine ud_1_laws.addRoundsR s07_laws (by kernel_rfl) sbItems_S 40 [4, 27, 28, 29] [] [.slot 4 0] [4, 27, 28, 29] sbItems_d (fun q hI => ?_) ?_
  · obtain ⟨cp, bs, c, l, i⟩ := q
    refine ⟨?_, ?_, sbItems_round cp bs c l i hI⟩
    · simp_all [RefsOK, sbItems_S, sbItems_c, sbItems_o, sbItems_Inv, D.refs, Obj.refs, rEnc]
    · simp_all [sbItems_S, sbItems_fin, sbItems_o, sbItems_Inv, RT.refsOK, RefsOK, D.refs, Obj.refs, rEnc]
  · intro env os b q hd_ hb
    unfold sbItems_d at hd_
    split at hd_
    · obtain ⟨hs, hd_⟩ := staticD_some hd_
      cases hd_
      simp only [Bool.and_eq_true, decide_eq_true_eq] at hb
      obtain ⟨⟨⟨rfl, rfl⟩, hl⟩, ha⟩ := hb
      exact ⟨⟨Nat.zero_le _, hl.1, Nat.le_trans hl.2 (Nat.le_add_right _ _), ha⟩, rfl, rfl⟩
    · cases hd_
structure sbLines_St where
  cp : Bool
  bs : List UInt8
  c : Bool
  l : List Line
  i : Nat
def sbLines_c (cp : Bool) (bs : List UInt8) (c : Bool) (l : List Line) (i : Nat) : Env RC := [(4, .ptr 0 []), (72, .sl (C := RC) .line c l), (73, .int .i64 (l.length)), (74, .int .i64 (i : Int))]
def sbLines_o (cp : Bool) (bs : List UInt8) (c : Bool) (l : List Line) (i : Nat) : List (Obj RC) := [.var 91 (.acons (.sl (C := RC) .u8 cp bs) .anil)]
noncomputable def sbLines_r (cp : Bool) (bs : List UInt8) (c : Bool) (l : List Line) (i : Nat) := rndO s07 ue_1 38 23 40 1 [4, 72, 73, 74] [] [.slot 4 0] (sbLines_c cp bs c l i) (sbLines_o cp bs c l i)
theorem sbLines_eq (cp : Bool) (bs : List UInt8) (c : Bool) (l : List Line) (i : Nat) : sbLines_r cp bs c l i = (bif decide ((↑i : Int) < (↑l.length : Int)) then bif decide ((0 : Int) ≤ (↑i : Int) ∧ (↑i : Int) < (↑l.length : Int)) then bif decide (List.length bs ≤ (1000000000 : Nat)) then bif decide (List.length (putL bs (Line.place (List.getD l (↑i : Int).toNat (Line.mk (0 : Int) (0 : Int) (0 : Int) (0 : Int) (0 : Int)))) (3 : Nat)) ≤ (1000000000 : Nat)) then bif decide (List.length (putL (putL bs (Line.place (List.getD l (↑i : Int).toNat (Line.mk (0 : Int) (0 : Int) (0 : Int) (0 : Int) (0 : Int)))) (3 : Nat)) (bits .i64 (fun (x : Nat) (u v : BitVec x) => u ||| v) (IntKind.wrap .i64 (Line.key (List.getD l (↑i : Int).toNat (Line.mk (0 : Int) (0 : Int) (0 : Int) (0 : Int) (0 : Int))) * (16 : Int))) (Line.j (List.getD l (↑i : Int).toNat (Line.mk (0 : Int) (0 : Int) (0 : Int) (0 : Int) (0 : Int))))) (1 : Nat)) ≤ (1000000000 : Nat)) then some ((X.normal, [((4 : Nat), D.ptr (0 : Nat) []), ((72 : Nat), D.sl RTy.line c l), ((73 : Nat), D.int .i64 (↑l.length : Int)), ((74 : Nat), D.int .i64 (IntKind.wrap .i64 ((↑i : Int) + (1 : Int))))]), [some (Obj.var (91 : Nat) (.acons (D.sl RTy.u8 (!fitsB (Line.value (List.getD l (↑i : Int).toNat (Line.mk (0 : Int) (0 : Int) (0 : Int) (0 : Int) (0 : Int)))) (1 : Nat)) (putL (putL (putL bs (Line.place (List.getD l (↑i : Int).toNat (Line.mk (0 : Int) (0 : Int) (0 : Int) (0 : Int) (0 : Int)))) (3 : Nat)) (bits .i64 (fun (x : Nat) (u v : BitVec x) => u ||| v) (IntKind.wrap .i64 (Line.key (List.getD l (↑i : Int).toNat (Line.mk (0 : Int) (0 : Int) (0 : Int) (0 : Int) (0 : Int))) * (16 : Int))) (Line.j (List.getD l (↑i : Int).toNat (Line.mk (0 : Int) (0 : Int) (0 : Int) (0 : Int) (0 : Int))))) (1 : Nat)) (Line.value (List.getD l (↑i : Int).toNat (Line.mk (0 : Int) (0 : Int) (0 : Int) (0 : Int) (0 : Int)))) (1 : Nat))) .anil))]) else none else none else none else none else some ((X.exit (4 : Nat), []), [some (Obj.var (91 : Nat) (.acons (D.sl RTy.u8 cp bs) .anil))])) := by kernel_rfl
def sbLines_fin (cp : Bool) (bs : List UInt8) (c : Bool) (l : List Line) (i : Nat) : RT RC := .leaf (.exit 4) [] [.var 91 (.acons (.sl (C := RC) .u8 (cp && (l.drop i).isEmpty) (bs ++ (l.drop i).flatMap lBytes)) .anil)]
def sbLines_Inv (cp : Bool) (bs : List UInt8) (c : Bool) (l : List Line) (i : Nat) : Prop := i ≤ l.length ∧ l.length ≤ 1000000 ∧ bs.length ≤ 1000000 + 5 * i ∧ l.all fitLn = true
def sbLines_S : LoopR RC sbLines_St where
  k := 1
  canon q := sbLines_c q.cp q.bs q.c q.l q.i
  objs q := sbLines_o q.cp q.bs q.c q.l q.i
  fin q := sbLines_fin q.cp q.bs q.c q.l q.i
  Inv q := sbLines_Inv q.cp q.bs q.c q.l q.i
  μ q := q.l.length - q.i
theorem sbLines_round (cp : Bool) (bs : List UInt8) (c : Bool) (l : List Line) (i : Nat) (hI : sbLines_Inv cp bs c l i) : Leaf (sbLines_r cp bs c l i) (LedR sbLines_S ⟨cp, bs, c, l, i⟩) := by
  rw [sbLines_eq]
  unfold sbLines_Inv at hI
  obtain ⟨h1, h2, h3, h4⟩ := hI
  by_cases hlt : i < l.length
  · have w_succ : IntKind.i64.wrap ((i : Int) + 1) = ((i + 1 : Nat) : Int) := by rw [wrap_id (by omega) (by omega)]; simp
    have d_lt : decide ((i : Int) < l.length) = true := by simp; omega
    have d_in : decide (0 ≤ (i : Int) ∧ (i : Int) < l.length) = true := by simp; omega
    have t_nat : ((i : Int)).toNat = i := by simp
    simp only [w_succ, d_lt, d_in, t_nat, cond_true]
    have hf := all_getD h4 hlt (⟨0, 0, 0, 0, 0⟩ : Line)
    have hd : (l.drop i).flatMap lBytes = _ := flatMap_drop_succ l i lBytes hlt (⟨0, 0, 0, 0, 0⟩ : Line)
    have he : (l.drop i).isEmpty = false := by simp; omega
    generalize l.getD i (⟨0, 0, 0, 0, 0⟩ : Line) = x at hf hd ⊢
    simp only [fitLn, Bool.and_eq_true] at hf
    obtain ⟨⟨⟨f1, f2⟩, f3⟩, f4⟩ := hf
    have f5 : withinB (x.key * 16 + x.j) 0 255 = true := by rw [withinB_iff] at f2 f3 ⊢; omega
    have n1 : decide (bs.length ≤ 1000000000) = true := decide_eq_true (by omega)
    have n2 : decide ((bs ++ leB x.place 3).length ≤ 1000000000) = true := decide_eq_true (by simp [leB_length]; omega)
    have n3 : decide ((bs ++ leB x.place 3 ++ leB (x.key * 16 + x.j) 1).length ≤ 1000000000) = true := decide_eq_true (by simp [leB_length]; omega)
    have hb : bits .i64 (fun _ u v => u ||| v) (IntKind.i64.wrap (x.key * 16)) x.j = x.key * 16 + x.j := bits_or_low f2 f3
    simp only [hb, Int.toNat_one, show Int.toNat 3 = 3 from rfl, putL_fits (fits3 f1), putL_fits (fits1 f5), putL_fits (fits1 f4), fits3 f1, fits1 f5, fits1 f4, n1, n2, n3, cond_true, Bool.not_true]
    refine leafR_go ⟨false, bs ++ leB x.place 3 ++ leB (x.key * 16 + x.j) 1 ++ leB x.value 1, c, l, i + 1⟩ ⟨hlt, h2, by simp [leB_length]; omega, h4⟩ (by simp only [sbLines_S]; omega) ?_ rfl rfl
    simp [sbLines_S, sbLines_fin, hd, he, lBytes, RT.val]
  · have hi : i = l.length := by omega
    have c1 : decide ((i : Int) < l.length) = false := by simp; omega
    rw [c1]
    exact leafR_exit (sbLines_o cp bs c l i) (by simp [sbLines_S, sbLines_fin, sbLines_o, hi, RT.val]) rfl
def sbLines_d (env : Env RC) (os : List (Obj RC)) : Option (Bool × sbLines_St) := match env, os with
  | [(4, .ptr 0 []), (72, .sl .line c l), (73, .int .i64 x0), (74, .int .i64 x1)], [.var 91 (.acons (.sl .u8 cp bs) .anil)] => staticD (true) (decide (x0 = l.length) && decide (x1 = 0) && decide (l.length ≤ 1000000 ∧ bs.length ≤ 1000000) && l.all fitLn, ⟨cp, bs, c, l, 0⟩)
  | _, _ => none
noncomputable def ue_2 := ue_1.addLoop 38 23 (sumR s07 [.slot 4 0] [4, 72, 73, 74] sbLines_S sbLines_d)
theorem ue_2_laws : FLaws Try.prog s07 ue_2 := by
  refine ue_1_laws.addRoundsR s07_laws (by kernel_rfl) sbLines_S 40 [4, 72, 73, 74] [] [.slot 4 0] [4, 72, 73, 74] sbLines_d (fun q hI => ?_) ?_
  · obtain ⟨cp, bs, c, l, i⟩ := q
    refine ⟨?_, ?_, sbLines_round cp bs c l i hI⟩
    · simp_all [RefsOK, sbLines_S, sbLines_c, sbLines_o, sbLines_Inv, D.refs, Obj.refs, rEnc]
    · simp_all [sbLines_S, sbLines_fin, sbLines_o, sbLines_Inv, RT.refsOK, RefsOK, D.refs, Obj.refs, rEnc]
  · intro env os b q hd_ hb
    unfold sbLines_d at hd_
    split at hd_
    · obtain ⟨hs, hd_⟩ := staticD_some hd_
      cases hd_
      simp only [Bool.and_eq_true, decide_eq_true_eq] at hb
      obtain ⟨⟨⟨rfl, rfl⟩, hl⟩, ha⟩ := hb
      exact ⟨⟨Nat.zero_le _, hl.1, Nat.le_trans hl.2 (Nat.le_add_right _ _), ha⟩, rfl, rfl⟩
    · cases hd_
def stateBytes_s (p : Int) (ci : Bool) (items : List Item) (k0 : Bool) (k1 : Bool) (k2 : Bool) (l0 : List Line) (l1 : List Line) (l2 : List Line) (c0 : Int) (c1 : Int) (c2 : Int) : Option (Bool × D RC) := some (decide (items.length ≤ 9223372036854775807 ∧ l0.length ≤ 9223372036854775807 ∧ l1.length ≤ 9223372036854775807 ∧ l2.length ≤ 9223372036854775807), .tup (.acons (.sl (C := RC) .u8 (!standsOK ⟨p, items, l0, l1, l2, c0, c1, c2⟩) (bif standsOK ⟨p, items, l0, l1, l2, c0, c1, c2⟩ then stBytes ⟨p, items, l0, l1, l2, c0, c1, c2⟩ else [])) (.acons (.int .i64 (bif standsOK ⟨p, items, l0, l1, l2, c0, c1, c2⟩ then 0 else 2)) .anil)))
def stateBytes_sp : List (D RC) → Option (Bool × D RC)
  | [.acons (.int .i64 p) (.acons (.sl .item ci items) (.acons (.acons (.sl .line k0 l0) (.acons (.sl .line k1 l1) (.acons (.sl .line k2 l2) .anil))) (.acons (.arr .int 3 [c0, c1, c2]) .anil)))] => stateBytes_s p ci items k0 k1 k2 l0 l1 l2 c0 c1 c2
  | _ => none
noncomputable def stateBytes_e (p : Int) (ci : Bool) (items : List Item) (k0 : Bool) (k1 : Bool) (k2 : Bool) (l0 : List Line) (l1 : List Line) (l2 : List Line) (c0 : Int) (c1 : Int) (c2 : Int) := evF s07 ue_2 40 38 [.acons (.int .i64 p) (.acons (.sl (C := RC) .item ci items) (.acons (.acons (.sl (C := RC) .line k0 l0) (.acons (.sl (C := RC) .line k1 l1) (.acons (.sl (C := RC) .line k2 l2) .anil))) (.acons (.arr (C := RC) .int 3 [c0, c1, c2]) .anil)))]
set_option maxHeartbeats 4000000 in
theorem stateBytes_eq (p : Int) (ci : Bool) (items : List Item) (k0 : Bool) (k1 : Bool) (k2 : Bool) (l0 : List Line) (l1 : List Line) (l2 : List Line) (c0 : Int) (c1 : Int) (c2 : Int) : stateBytes_e p ci items k0 k1 k2 l0 l1 l2 c0 c1 c2 = (bif decide (List.length items ≤ (9223372036854775807 : Nat) ∧ List.length l0 ≤ (9223372036854775807 : Nat) ∧ List.length l1 ≤ (9223372036854775807 : Nat) ∧ List.length l2 ≤ (9223372036854775807 : Nat)) then bif !standsOK (St.mk p items l0 l1 l2 c0 c1 c2) then some (D.tup (D.acons (D.sl RTy.u8 true []) (.acons (D.int .i64 (2 : Int)) .anil))) else bif lenOK items.length then bif decide (List.length (putL [] p (3 : Nat)) ≤ (1000000000 : Nat)) then bif lenOK items.length then bif decide ((↑items.length : Int) = (↑items.length : Int)) && true && decide (List.length items ≤ (1000000 : Nat) ∧ List.length (putL (putL [] p (3 : Nat)) (↑items.length : Int) (1 : Nat)) ≤ (1000000 : Nat)) && List.all items fitI then bif lenOK l0.length then bif decide ((0 : Int) < (↑l0.length : Int)) then bif decide ((0 : Int) ≤ (0 : Int) ∧ (0 : Int) < (↑l0.length : Int)) then bif decide (List.length (putL (putL [] p (3 : Nat)) (↑items.length : Int) (1 : Nat) ++ List.flatMap iBytes (List.drop (0 : Nat) items)) ≤ (1000000000 : Nat)) then bif lenOK l0.length then bif decide (List.length (putL (putL (putL [] p (3 : Nat)) (↑items.length : Int) (1 : Nat) ++ List.flatMap iBytes (List.drop (0 : Nat) items)) c0 (3 : Nat)) ≤ (1000000000 : Nat)) then bif decide (List.length (putL (putL (putL (putL [] p (3 : Nat)) (↑items.length : Int) (1 : Nat) ++ List.flatMap iBytes (List.drop (0 : Nat) items)) c0 (3 : Nat)) (↑l0.length : Int) (1 : Nat)) ≤ (1000000000 : Nat)) then bif lenOK l0.length then bif decide ((↑l0.length : Int) = (↑l0.length : Int)) && true && decide (List.length l0 ≤ (1000000 : Nat) ∧ List.length (putL (putL (putL (putL (putL [] p (3 : Nat)) (↑items.length : Int) (1 : Nat) ++ List.flatMap iBytes (List.drop (0 : Nat) items)) c0 (3 : Nat)) (↑l0.length : Int) (1 : Nat)) (Line.offset (List.getD l0 (0 : Nat) (Line.mk (0 : Int) (0 : Int) (0 : Int) (0 : Int) (0 : Int)))) (3 : Nat)) ≤ (1000000 : Nat)) && List.all l0 fitLn then bif lenOK l1.length then bif decide ((0 : Int) < (↑l1.length : Int)) then bif decide ((0 : Int) ≤ (0 : Int) ∧ (0 : Int) < (↑l1.length : Int)) then bif decide (List.length (putL (putL (putL (putL (putL [] p (3 : Nat)) (↑items.length : Int) (1 : Nat) ++ List.flatMap iBytes (List.drop (0 : Nat) items)) c0 (3 : Nat)) (↑l0.length : Int) (1 : Nat)) (Line.offset (List.getD l0 (0 : Nat) (Line.mk (0 : Int) (0 : Int) (0 : Int) (0 : Int) (0 : Int)))) (3 : Nat) ++ List.flatMap lBytes (List.drop (0 : Nat) l0)) ≤ (1000000000 : Nat)) then bif lenOK l1.length then bif decide (List.length (putL (putL (putL (putL (putL (putL [] p (3 : Nat)) (↑items.length : Int) (1 : Nat) ++ List.flatMap iBytes (List.drop (0 : Nat) items)) c0 (3 : Nat)) (↑l0.length : Int) (1 : Nat)) (Line.offset (List.getD l0 (0 : Nat) (Line.mk (0 : Int) (0 : Int) (0 : Int) (0 : Int) (0 : Int)))) (3 : Nat) ++ List.flatMap lBytes (List.drop (0 : Nat) l0)) c1 (3 : Nat)) ≤ (1000000000 : Nat)) then bif decide (List.length (putL (putL (putL (putL (putL (putL (putL [] p (3 : Nat)) (↑items.length : Int) (1 : Nat) ++ List.flatMap iBytes (List.drop (0 : Nat) items)) c0 (3 : Nat)) (↑l0.length : Int) (1 : Nat)) (Line.offset (List.getD l0 (0 : Nat) (Line.mk (0 : Int) (0 : Int) (0 : Int) (0 : Int) (0 : Int)))) (3 : Nat) ++ List.flatMap lBytes (List.drop (0 : Nat) l0)) c1 (3 : Nat)) (↑l1.length : Int) (1 : Nat)) ≤ (1000000000 : Nat)) then bif lenOK l1.length then bif decide ((↑l1.length : Int) = (↑l1.length : Int)) && true && decide (List.length l1 ≤ (1000000 : Nat) ∧ List.length (putL (putL (putL (putL (putL (putL (putL (putL [] p (3 : Nat)) (↑items.length : Int) (1 : Nat) ++ List.flatMap iBytes (List.drop (0 : Nat) items)) c0 (3 : Nat)) (↑l0.length : Int) (1 : Nat)) (Line.offset (List.getD l0 (0 : Nat) (Line.mk (0 : Int) (0 : Int) (0 : Int) (0 : Int) (0 : Int)))) (3 : Nat) ++ List.flatMap lBytes (List.drop (0 : Nat) l0)) c1 (3 : Nat)) (↑l1.length : Int) (1 : Nat)) (Line.offset (List.getD l1 (0 : Nat) (Line.mk (0 : Int) (0 : Int) (0 : Int) (0 : Int) (0 : Int)))) (3 : Nat)) ≤ (1000000 : Nat)) && List.all l1 fitLn then bif lenOK l2.length then bif decide ((0 : Int) < (↑l2.length : Int)) then bif decide ((0 : Int) ≤ (0 : Int) ∧ (0 : Int) < (↑l2.length : Int)) then bif decide (List.length (putL (putL (putL (putL (putL (putL (putL (putL [] p (3 : Nat)) (↑items.length : Int) (1 : Nat) ++ List.flatMap iBytes (List.drop (0 : Nat) items)) c0 (3 : Nat)) (↑l0.length : Int) (1 : Nat)) (Line.offset (List.getD l0 (0 : Nat) (Line.mk (0 : Int) (0 : Int) (0 : Int) (0 : Int) (0 : Int)))) (3 : Nat) ++ List.flatMap lBytes (List.drop (0 : Nat) l0)) c1 (3 : Nat)) (↑l1.length : Int) (1 : Nat)) (Line.offset (List.getD l1 (0 : Nat) (Line.mk (0 : Int) (0 : Int) (0 : Int) (0 : Int) (0 : Int)))) (3 : Nat) ++ List.flatMap lBytes (List.drop (0 : Nat) l1)) ≤ (1000000000 : Nat)) then bif lenOK l2.length then bif decide (List.length (putL (putL (putL (putL (putL (putL (putL (putL (putL [] p (3 : Nat)) (↑items.length : Int) (1 : Nat) ++ List.flatMap iBytes (List.drop (0 : Nat) items)) c0 (3 : Nat)) (↑l0.length : Int) (1 : Nat)) (Line.offset (List.getD l0 (0 : Nat) (Line.mk (0 : Int) (0 : Int) (0 : Int) (0 : Int) (0 : Int)))) (3 : Nat) ++ List.flatMap lBytes (List.drop (0 : Nat) l0)) c1 (3 : Nat)) (↑l1.length : Int) (1 : Nat)) (Line.offset (List.getD l1 (0 : Nat) (Line.mk (0 : Int) (0 : Int) (0 : Int) (0 : Int) (0 : Int)))) (3 : Nat) ++ List.flatMap lBytes (List.drop (0 : Nat) l1)) c2 (3 : Nat)) ≤ (1000000000 : Nat)) then bif decide (List.length (putL (putL (putL (putL (putL (putL (putL (putL (putL (putL [] p (3 : Nat)) (↑items.length : Int) (1 : Nat) ++ List.flatMap iBytes (List.drop (0 : Nat) items)) c0 (3 : Nat)) (↑l0.length : Int) (1 : Nat)) (Line.offset (List.getD l0 (0 : Nat) (Line.mk (0 : Int) (0 : Int) (0 : Int) (0 : Int) (0 : Int)))) (3 : Nat) ++ List.flatMap lBytes (List.drop (0 : Nat) l0)) c1 (3 : Nat)) (↑l1.length : Int) (1 : Nat)) (Line.offset (List.getD l1 (0 : Nat) (Line.mk (0 : Int) (0 : Int) (0 : Int) (0 : Int) (0 : Int)))) (3 : Nat) ++ List.flatMap lBytes (List.drop (0 : Nat) l1)) c2 (3 : Nat)) (↑l2.length : Int) (1 : Nat)) ≤ (1000000000 : Nat)) then bif lenOK l2.length then bif decide ((↑l2.length : Int) = (↑l2.length : Int)) && true && decide (List.length l2 ≤ (1000000 : Nat) ∧ List.length (putL (putL (putL (putL (putL (putL (putL (putL (putL (putL (putL [] p (3 : Nat)) (↑items.length : Int) (1 : Nat) ++ List.flatMap iBytes (List.drop (0 : Nat) items)) c0 (3 : Nat)) (↑l0.length : Int) (1 : Nat)) (Line.offset (List.getD l0 (0 : Nat) (Line.mk (0 : Int) (0 : Int) (0 : Int) (0 : Int) (0 : Int)))) (3 : Nat) ++ List.flatMap lBytes (List.drop (0 : Nat) l0)) c1 (3 : Nat)) (↑l1.length : Int) (1 : Nat)) (Line.offset (List.getD l1 (0 : Nat) (Line.mk (0 : Int) (0 : Int) (0 : Int) (0 : Int) (0 : Int)))) (3 : Nat) ++ List.flatMap lBytes (List.drop (0 : Nat) l1)) c2 (3 : Nat)) (↑l2.length : Int) (1 : Nat)) (Line.offset (List.getD l2 (0 : Nat) (Line.mk (0 : Int) (0 : Int) (0 : Int) (0 : Int) (0 : Int)))) (3 : Nat)) ≤ (1000000 : Nat)) && List.all l2 fitLn then some (D.tup (D.acons (D.sl RTy.u8 (!fitsB (Line.offset (List.getD l2 (0 : Nat) (Line.mk (0 : Int) (0 : Int) (0 : Int) (0 : Int) (0 : Int)))) (3 : Nat) && List.isEmpty (List.drop (0 : Nat) l2)) (putL (putL (putL (putL (putL (putL (putL (putL (putL (putL (putL [] p (3 : Nat)) (↑items.length : Int) (1 : Nat) ++ List.flatMap iBytes (List.drop (0 : Nat) items)) c0 (3 : Nat)) (↑l0.length : Int) (1 : Nat)) (Line.offset (List.getD l0 (0 : Nat) (Line.mk (0 : Int) (0 : Int) (0 : Int) (0 : Int) (0 : Int)))) (3 : Nat) ++ List.flatMap lBytes (List.drop (0 : Nat) l0)) c1 (3 : Nat)) (↑l1.length : Int) (1 : Nat)) (Line.offset (List.getD l1 (0 : Nat) (Line.mk (0 : Int) (0 : Int) (0 : Int) (0 : Int) (0 : Int)))) (3 : Nat) ++ List.flatMap lBytes (List.drop (0 : Nat) l1)) c2 (3 : Nat)) (↑l2.length : Int) (1 : Nat)) (Line.offset (List.getD l2 (0 : Nat) (Line.mk (0 : Int) (0 : Int) (0 : Int) (0 : Int) (0 : Int)))) (3 : Nat) ++ List.flatMap lBytes (List.drop (0 : Nat) l2))) (.acons (D.int .i64 (0 : Int)) .anil))) else none else none else none else none else none else none else none else bif decide (List.length (putL (putL (putL (putL (putL (putL (putL (putL [] p (3 : Nat)) (↑items.length : Int) (1 : Nat) ++ List.flatMap iBytes (List.drop (0 : Nat) items)) c0 (3 : Nat)) (↑l0.length : Int) (1 : Nat)) (Line.offset (List.getD l0 (0 : Nat) (Line.mk (0 : Int) (0 : Int) (0 : Int) (0 : Int) (0 : Int)))) (3 : Nat) ++ List.flatMap lBytes (List.drop (0 : Nat) l0)) c1 (3 : Nat)) (↑l1.length : Int) (1 : Nat)) (Line.offset (List.getD l1 (0 : Nat) (Line.mk (0 : Int) (0 : Int) (0 : Int) (0 : Int) (0 : Int)))) (3 : Nat) ++ List.flatMap lBytes (List.drop (0 : Nat) l1)) ≤ (1000000000 : Nat)) then bif lenOK l2.length then bif decide (List.length (putL (putL (putL (putL (putL (putL (putL (putL (putL [] p (3 : Nat)) (↑items.length : Int) (1 : Nat) ++ List.flatMap iBytes (List.drop (0 : Nat) items)) c0 (3 : Nat)) (↑l0.length : Int) (1 : Nat)) (Line.offset (List.getD l0 (0 : Nat) (Line.mk (0 : Int) (0 : Int) (0 : Int) (0 : Int) (0 : Int)))) (3 : Nat) ++ List.flatMap lBytes (List.drop (0 : Nat) l0)) c1 (3 : Nat)) (↑l1.length : Int) (1 : Nat)) (Line.offset (List.getD l1 (0 : Nat) (Line.mk (0 : Int) (0 : Int) (0 : Int) (0 : Int) (0 : Int)))) (3 : Nat) ++ List.flatMap lBytes (List.drop (0 : Nat) l1)) c2 (3 : Nat)) ≤ (1000000000 : Nat)) then bif decide (List.length (putL (putL (putL (putL (putL (putL (putL (putL (putL (putL [] p (3 : Nat)) (↑items.length : Int) (1 : Nat) ++ List.flatMap iBytes (List.drop (0 : Nat) items)) c0 (3 : Nat)) (↑l0.length : Int) (1 : Nat)) (Line.offset (List.getD l0 (0 : Nat) (Line.mk (0 : Int) (0 : Int) (0 : Int) (0 : Int) (0 : Int)))) (3 : Nat) ++ List.flatMap lBytes (List.drop (0 : Nat) l0)) c1 (3 : Nat)) (↑l1.length : Int) (1 : Nat)) (Line.offset (List.getD l1 (0 : Nat) (Line.mk (0 : Int) (0 : Int) (0 : Int) (0 : Int) (0 : Int)))) (3 : Nat) ++ List.flatMap lBytes (List.drop (0 : Nat) l1)) c2 (3 : Nat)) (↑l2.length : Int) (1 : Nat)) ≤ (1000000000 : Nat)) then bif lenOK l2.length then bif decide ((↑l2.length : Int) = (↑l2.length : Int)) && true && decide (List.length l2 ≤ (1000000 : Nat) ∧ List.length (putL (putL (putL (putL (putL (putL (putL (putL (putL (putL (putL [] p (3 : Nat)) (↑items.length : Int) (1 : Nat) ++ List.flatMap iBytes (List.drop (0 : Nat) items)) c0 (3 : Nat)) (↑l0.length : Int) (1 : Nat)) (Line.offset (List.getD l0 (0 : Nat) (Line.mk (0 : Int) (0 : Int) (0 : Int) (0 : Int) (0 : Int)))) (3 : Nat) ++ List.flatMap lBytes (List.drop (0 : Nat) l0)) c1 (3 : Nat)) (↑l1.length : Int) (1 : Nat)) (Line.offset (List.getD l1 (0 : Nat) (Line.mk (0 : Int) (0 : Int) (0 : Int) (0 : Int) (0 : Int)))) (3 : Nat) ++ List.flatMap lBytes (List.drop (0 : Nat) l1)) c2 (3 : Nat)) (↑l2.length : Int) (1 : Nat)) (0 : Int) (3 : Nat)) ≤ (1000000 : Nat)) && List.all l2 fitLn then some (D.tup (D.acons (D.sl RTy.u8 (false && List.isEmpty (List.drop (0 : Nat) l2)) (putL (putL (putL (putL (putL (putL (putL (putL (putL (putL (putL [] p (3 : Nat)) (↑items.length : Int) (1 : Nat) ++ List.flatMap iBytes (List.drop (0 : Nat) items)) c0 (3 : Nat)) (↑l0.length : Int) (1 : Nat)) (Line.offset (List.getD l0 (0 : Nat) (Line.mk (0 : Int) (0 : Int) (0 : Int) (0 : Int) (0 : Int)))) (3 : Nat) ++ List.flatMap lBytes (List.drop (0 : Nat) l0)) c1 (3 : Nat)) (↑l1.length : Int) (1 : Nat)) (Line.offset (List.getD l1 (0 : Nat) (Line.mk (0 : Int) (0 : Int) (0 : Int) (0 : Int) (0 : Int)))) (3 : Nat) ++ List.flatMap lBytes (List.drop (0 : Nat) l1)) c2 (3 : Nat)) (↑l2.length : Int) (1 : Nat)) (0 : Int) (3 : Nat) ++ List.flatMap lBytes (List.drop (0 : Nat) l2))) (.acons (D.int .i64 (0 : Int)) .anil))) else none else none else none else none else none else none else none else none else none else none else none else none else none else none else bif decide (List.length (putL (putL (putL (putL (putL [] p (3 : Nat)) (↑items.length : Int) (1 : Nat) ++ List.flatMap iBytes (List.drop (0 : Nat) items)) c0 (3 : Nat)) (↑l0.length : Int) (1 : Nat)) (Line.offset (List.getD l0 (0 : Nat) (Line.mk (0 : Int) (0 : Int) (0 : Int) (0 : Int) (0 : Int)))) (3 : Nat) ++ List.flatMap lBytes (List.drop (0 : Nat) l0)) ≤ (1000000000 : Nat)) then bif lenOK l1.length then bif decide (List.length (putL (putL (putL (putL (putL (putL [] p (3 : Nat)) (↑items.length : Int) (1 : Nat) ++ List.flatMap iBytes (List.drop (0 : Nat) items)) c0 (3 : Nat)) (↑l0.length : Int) (1 : Nat)) (Line.offset (List.getD l0 (0 : Nat) (Line.mk (0 : Int) (0 : Int) (0 : Int) (0 : Int) (0 : Int)))) (3 : Nat) ++ List.flatMap lBytes (List.drop (0 : Nat) l0)) c1 (3 : Nat)) ≤ (1000000000 : Nat)) then bif decide (List.length (putL (putL (putL (putL (putL (putL (putL [] p (3 : Nat)) (↑items.length : Int) (1 : Nat) ++ List.flatMap iBytes (List.drop (0 : Nat) items)) c0 (3 : Nat)) (↑l0.length : Int) (1 : Nat)) (Line.offset (List.getD l0 (0 : Nat) (Line.mk (0 : Int) (0 : Int) (0 : Int) (0 : Int) (0 : Int)))) (3 : Nat) ++ List.flatMap lBytes (List.drop (0 : Nat) l0)) c1 (3 : Nat)) (↑l1.length : Int) (1 : Nat)) ≤ (1000000000 : Nat)) then bif lenOK l1.length then bif decide ((↑l1.length : Int) = (↑l1.length : Int)) && true && decide (List.length l1 ≤ (1000000 : Nat) ∧ List.length (putL (putL (putL (putL (putL (putL (putL (putL [] p (3 : Nat)) (↑items.length : Int) (1 : Nat) ++ List.flatMap iBytes (List.drop (0 : Nat) items)) c0 (3 : Nat)) (↑l0.length : Int) (1 : Nat)) (Line.offset (List.getD l0 (0 : Nat) (Line.mk (0 : Int) (0 : Int) (0 : Int) (0 : Int) (0 : Int)))) (3 : Nat) ++ List.flatMap lBytes (List.drop (0 : Nat) l0)) c1 (3 : Nat)) (↑l1.length : Int) (1 : Nat)) (0 : Int) (3 : Nat)) ≤ (1000000 : Nat)) && List.all l1 fitLn then bif lenOK l2.length then bif decide ((0 : Int) < (↑l2.length : Int)) then bif decide ((0 : Int) ≤ (0 : Int) ∧ (0 : Int) < (↑l2.length : Int)) then bif decide (List.length (putL (putL (putL (putL (putL (putL (putL (putL [] p (3 : Nat)) (↑items.length : Int) (1 : Nat) ++ List.flatMap iBytes (List.drop (0 : Nat) items)) c0 (3 : Nat)) (↑l0.length : Int) (1 : Nat)) (Line.offset (List.getD l0 (0 : Nat) (Line.mk (0 : Int) (0 : Int) (0 : Int) (0 : Int) (0 : Int)))) (3 : Nat) ++ List.flatMap lBytes (List.drop (0 : Nat) l0)) c1 (3 : Nat)) (↑l1.length : Int) (1 : Nat)) (0 : Int) (3 : Nat) ++ List.flatMap lBytes (List.drop (0 : Nat) l1)) ≤ (1000000000 : Nat)) then bif lenOK l2.length then bif decide (List.length (putL (putL (putL (putL (putL (putL (putL (putL (putL [] p (3 : Nat)) (↑items.length : Int) (1 : Nat) ++ List.flatMap iBytes (List.drop (0 : Nat) items)) c0 (3 : Nat)) (↑l0.length : Int) (1 : Nat)) (Line.offset (List.getD l0 (0 : Nat) (Line.mk (0 : Int) (0 : Int) (0 : Int) (0 : Int) (0 : Int)))) (3 : Nat) ++ List.flatMap lBytes (List.drop (0 : Nat) l0)) c1 (3 : Nat)) (↑l1.length : Int) (1 : Nat)) (0 : Int) (3 : Nat) ++ List.flatMap lBytes (List.drop (0 : Nat) l1)) c2 (3 : Nat)) ≤ (1000000000 : Nat)) then bif decide (List.length (putL (putL (putL (putL (putL (putL (putL (putL (putL (putL [] p (3 : Nat)) (↑items.length : Int) (1 : Nat) ++ List.flatMap iBytes (List.drop (0 : Nat) items)) c0 (3 : Nat)) (↑l0.length : Int) (1 : Nat)) (Line.offset (List.getD l0 (0 : Nat) (Line.mk (0 : Int) (0 : Int) (0 : Int) (0 : Int) (0 : Int)))) (3 : Nat) ++ List.flatMap lBytes (List.drop (0 : Nat) l0)) c1 (3 : Nat)) (↑l1.length : Int) (1 : Nat)) (0 : Int) (3 : Nat) ++ List.flatMap lBytes (List.drop (0 : Nat) l1)) c2 (3 : Nat)) (↑l2.length : Int) (1 : Nat)) ≤ (1000000000 : Nat)) then bif lenOK l2.length then bif decide ((↑l2.length : Int) = (↑l2.length : Int)) && true && decide (List.length l2 ≤ (1000000 : Nat) ∧ List.length (putL (putL (putL (putL (putL (putL (putL (putL (putL (putL (putL [] p (3 : Nat)) (↑items.length : Int) (1 : Nat) ++ List.flatMap iBytes (List.drop (0 : Nat) items)) c0 (3 : Nat)) (↑l0.length : Int) (1 : Nat)) (Line.offset (List.getD l0 (0 : Nat) (Line.mk (0 : Int) (0 : Int) (0 : Int) (0 : Int) (0 : Int)))) (3 : Nat) ++ List.flatMap lBytes (List.drop (0 : Nat) l0)) c1 (3 : Nat)) (↑l1.length : Int) (1 : Nat)) (0 : Int) (3 : Nat) ++ List.flatMap lBytes (List.drop (0 : Nat) l1)) c2 (3 : Nat)) (↑l2.length : Int) (1 : Nat)) (Line.offset (List.getD l2 (0 : Nat) (Line.mk (0 : Int) (0 : Int) (0 : Int) (0 : Int) (0 : Int)))) (3 : Nat)) ≤ (1000000 : Nat)) && List.all l2 fitLn then some (D.tup (D.acons (D.sl RTy.u8 (!fitsB (Line.offset (List.getD l2 (0 : Nat) (Line.mk (0 : Int) (0 : Int) (0 : Int) (0 : Int) (0 : Int)))) (3 : Nat) && List.isEmpty (List.drop (0 : Nat) l2)) (putL (putL (putL (putL (putL (putL (putL (putL (putL (putL (putL [] p (3 : Nat)) (↑items.length : Int) (1 : Nat) ++ List.flatMap iBytes (List.drop (0 : Nat) items)) c0 (3 : Nat)) (↑l0.length : Int) (1 : Nat)) (Line.offset (List.getD l0 (0 : Nat) (Line.mk (0 : Int) (0 : Int) (0 : Int) (0 : Int) (0 : Int)))) (3 : Nat) ++ List.flatMap lBytes (List.drop (0 : Nat) l0)) c1 (3 : Nat)) (↑l1.length : Int) (1 : Nat)) (0 : Int) (3 : Nat) ++ List.flatMap lBytes (List.drop (0 : Nat) l1)) c2 (3 : Nat)) (↑l2.length : Int) (1 : Nat)) (Line.offset (List.getD l2 (0 : Nat) (Line.mk (0 : Int) (0 : Int) (0 : Int) (0 : Int) (0 : Int)))) (3 : Nat) ++ List.flatMap lBytes (List.drop (0 : Nat) l2))) (.acons (D.int .i64 (0 : Int)) .anil))) else none else none else none else none else none else none else none else bif decide (List.length (putL (putL (putL (putL (putL (putL (putL (putL [] p (3 : Nat)) (↑items.length : Int) (1 : Nat) ++ List.flatMap iBytes (List.drop (0 : Nat) items)) c0 (3 : Nat)) (↑l0.length : Int) (1 : Nat)) (Line.offset (List.getD l0 (0 : Nat) (Line.mk (0 : Int) (0 : Int) (0 : Int) (0 : Int) (0 : Int)))) (3 : Nat) ++ List.flatMap lBytes (List.drop (0 : Nat) l0)) c1 (3 : Nat)) (↑l1.length : Int) (1 : Nat)) (0 : Int) (3 : Nat) ++ List.flatMap lBytes (List.drop (0 : Nat) l1)) ≤ (1000000000 : Nat)) then bif lenOK l2.length then bif decide (List.length (putL (putL (putL (putL (putL (putL (putL (putL (putL [] p (3 : Nat)) (↑items.length : Int) (1 : Nat) ++ List.flatMap iBytes (List.drop (0 : Nat) items)) c0 (3 : Nat)) (↑l0.length : Int) (1 : Nat)) (Line.offset (List.getD l0 (0 : Nat) (Line.mk (0 : Int) (0 : Int) (0 : Int) (0 : Int) (0 : Int)))) (3 : Nat) ++ List.flatMap lBytes (List.drop (0 : Nat) l0)) c1 (3 : Nat)) (↑l1.length : Int) (1 : Nat)) (0 : Int) (3 : Nat) ++ List.flatMap lBytes (List.drop (0 : Nat) l1)) c2 (3 : Nat)) ≤ (1000000000 : Nat)) then bif decide (List.length (putL (putL (putL (putL (putL (putL (putL (putL (putL (putL [] p (3 : Nat)) (↑items.length : Int) (1 : Nat) ++ List.flatMap iBytes (List.drop (0 : Nat) items)) c0 (3 : Nat)) (↑l0.length : Int) (1 : Nat)) (Line.offset (List.getD l0 (0 : Nat) (Line.mk (0 : Int) (0 : Int) (0 : Int) (0 : Int) (0 : Int)))) (3 : Nat) ++ List.flatMap lBytes (List.drop (0 : Nat) l0)) c1 (3 : Nat)) (↑l1.length : Int) (1 : Nat)) (0 : Int) (3 : Nat) ++ List.flatMap lBytes (List.drop (0 : Nat) l1)) c2 (3 : Nat)) (↑l2.length : Int) (1 : Nat)) ≤ (1000000000 : Nat)) then bif lenOK l2.length then bif decide ((↑l2.length : Int) = (↑l2.length : Int)) && true && decide (List.length l2 ≤ (1000000 : Nat) ∧ List.length (putL (putL (putL (putL (putL (putL (putL (putL (putL (putL (putL [] p (3 : Nat)) (↑items.length : Int) (1 : Nat) ++ List.flatMap iBytes (List.drop (0 : Nat) items)) c0 (3 : Nat)) (↑l0.length : Int) (1 : Nat)) (Line.offset (List.getD l0 (0 : Nat) (Line.mk (0 : Int) (0 : Int) (0 : Int) (0 : Int) (0 : Int)))) (3 : Nat) ++ List.flatMap lBytes (List.drop (0 : Nat) l0)) c1 (3 : Nat)) (↑l1.length : Int) (1 : Nat)) (0 : Int) (3 : Nat) ++ List.flatMap lBytes (List.drop (0 : Nat) l1)) c2 (3 : Nat)) (↑l2.length : Int) (1 : Nat)) (0 : Int) (3 : Nat)) ≤ (1000000 : Nat)) && List.all l2 fitLn then some (D.tup (D.acons (D.sl RTy.u8 (false && List.isEmpty (List.drop (0 : Nat) l2)) (putL (putL (putL (putL (putL (putL (putL (putL (putL (putL (putL [] p (3 : Nat)) (↑items.length : Int) (1 : Nat) ++ List.flatMap iBytes (List.drop (0 : Nat) items)) c0 (3 : Nat)) (↑l0.length : Int) (1 : Nat)) (Line.offset (List.getD l0 (0 : Nat) (Line.mk (0 : Int) (0 : Int) (0 : Int) (0 : Int) (0 : Int)))) (3 : Nat) ++ List.flatMap lBytes (List.drop (0 : Nat) l0)) c1 (3 : Nat)) (↑l1.length : Int) (1 : Nat)) (0 : Int) (3 : Nat) ++ List.flatMap lBytes (List.drop (0 : Nat) l1)) c2 (3 : Nat)) (↑l2.length : Int) (1 : Nat)) (0 : Int) (3 : Nat) ++ List.flatMap lBytes (List.drop (0 : Nat) l2))) (.acons (D.int .i64 (0 : Int)) .anil))) else none else none else none else none else none else none else none else none else none else none else none else none else none else none else none else none else none else none else none else none else none else bif decide (List.length (putL (putL [] p (3 : Nat)) (↑items.length : Int) (1 : Nat) ++ List.flatMap iBytes (List.drop (0 : Nat) items)) ≤ (1000000000 : Nat)) then bif lenOK l0.length then bif decide (List.length (putL (putL (putL [] p (3 : Nat)) (↑items.length : Int) (1 : Nat) ++ List.flatMap iBytes (List.drop (0 : Nat) items)) c0 (3 : Nat)) ≤ (1000000000 : Nat)) then bif decide (List.length (putL (putL (putL (putL [] p (3 : Nat)) (↑items.length : Int) (1 : Nat) ++ List.flatMap iBytes (List.drop (0 : Nat) items)) c0 (3 : Nat)) (↑l0.length : Int) (1 : Nat)) ≤ (1000000000 : Nat)) then bif lenOK l0.length then bif decide ((↑l0.length : Int) = (↑l0.length : Int)) && true && decide (List.length l0 ≤ (1000000 : Nat) ∧ List.length (putL (putL (putL (putL (putL [] p (3 : Nat)) (↑items.length : Int) (1 : Nat) ++ List.flatMap iBytes (List.drop (0 : Nat) items)) c0 (3 : Nat)) (↑l0.length : Int) (1 : Nat)) (0 : Int) (3 : Nat)) ≤ (1000000 : Nat)) && List.all l0 fitLn then bif lenOK l1.length then bif decide ((0 : Int) < (↑l1.length : Int)) then bif decide ((0 : Int) ≤ (0 : Int) ∧ (0 : Int) < (↑l1.length : Int)) then bif decide (List.length (putL (putL (putL (putL (putL [] p (3 : Nat)) (↑items.length : Int) (1 : Nat) ++ List.flatMap iBytes (List.drop (0 : Nat) items)) c0 (3 : Nat)) (↑l0.length : Int) (1 : Nat)) (0 : Int) (3 : Nat) ++ List.flatMap lBytes (List.drop (0 : Nat) l0)) ≤ (1000000000 : Nat)) then bif lenOK l1.length then bif decide (List.length (putL (putL (putL (putL (putL (putL [] p (3 : Nat)) (↑items.length : Int) (1 : Nat) ++ List.flatMap iBytes (List.drop (0 : Nat) items)) c0 (3 : Nat)) (↑l0.length : Int) (1 : Nat)) (0 : Int) (3 : Nat) ++ List.flatMap lBytes (List.drop (0 : Nat) l0)) c1 (3 : Nat)) ≤ (1000000000 : Nat)) then bif decide (List.length (putL (putL (putL (putL (putL (putL (putL [] p (3 : Nat)) (↑items.length : Int) (1 : Nat) ++ List.flatMap iBytes (List.drop (0 : Nat) items)) c0 (3 : Nat)) (↑l0.length : Int) (1 : Nat)) (0 : Int) (3 : Nat) ++ List.flatMap lBytes (List.drop (0 : Nat) l0)) c1 (3 : Nat)) (↑l1.length : Int) (1 : Nat)) ≤ (1000000000 : Nat)) then bif lenOK l1.length then bif decide ((↑l1.length : Int) = (↑l1.length : Int)) && true && decide (List.length l1 ≤ (1000000 : Nat) ∧ List.length (putL (putL (putL (putL (putL (putL (putL (putL [] p (3 : Nat)) (↑items.length : Int) (1 : Nat) ++ List.flatMap iBytes (List.drop (0 : Nat) items)) c0 (3 : Nat)) (↑l0.length : Int) (1 : Nat)) (0 : Int) (3 : Nat) ++ List.flatMap lBytes (List.drop (0 : Nat) l0)) c1 (3 : Nat)) (↑l1.length : Int) (1 : Nat)) (Line.offset (List.getD l1 (0 : Nat) (Line.mk (0 : Int) (0 : Int) (0 : Int) (0 : Int) (0 : Int)))) (3 : Nat)) ≤ (1000000 : Nat)) && List.all l1 fitLn then bif lenOK l2.length then bif decide ((0 : Int) < (↑l2.length : Int)) then bif decide ((0 : Int) ≤ (0 : Int) ∧ (0 : Int) < (↑l2.length : Int)) then bif decide (List.length (putL (putL (putL (putL (putL (putL (putL (putL [] p (3 : Nat)) (↑items.length : Int) (1 : Nat) ++ List.flatMap iBytes (List.drop (0 : Nat) items)) c0 (3 : Nat)) (↑l0.length : Int) (1 : Nat)) (0 : Int) (3 : Nat) ++ List.flatMap lBytes (List.drop (0 : Nat) l0)) c1 (3 : Nat)) (↑l1.length : Int) (1 : Nat)) (Line.offset (List.getD l1 (0 : Nat) (Line.mk (0 : Int) (0 : Int) (0 : Int) (0 : Int) (0 : Int)))) (3 : Nat) ++ List.flatMap lBytes (List.drop (0 : Nat) l1)) ≤ (1000000000 : Nat)) then bif lenOK l2.length then bif decide (List.length (putL (putL (putL (putL (putL (putL (putL (putL (putL [] p (3 : Nat)) (↑items.length : Int) (1 : Nat) ++ List.flatMap iBytes (List.drop (0 : Nat) items)) c0 (3 : Nat)) (↑l0.length : Int) (1 : Nat)) (0 : Int) (3 : Nat) ++ List.flatMap lBytes (List.drop (0 : Nat) l0)) c1 (3 : Nat)) (↑l1.length : Int) (1 : Nat)) (Line.offset (List.getD l1 (0 : Nat) (Line.mk (0 : Int) (0 : Int) (0 : Int) (0 : Int) (0 : Int)))) (3 : Nat) ++ List.flatMap lBytes (List.drop (0 : Nat) l1)) c2 (3 : Nat)) ≤ (1000000000 : Nat)) then bif decide (List.length (putL (putL (putL (putL (putL (putL (putL (putL (putL (putL [] p (3 : Nat)) (↑items.length : Int) (1 : Nat) ++ List.flatMap iBytes (List.drop (0 : Nat) items)) c0 (3 : Nat)) (↑l0.length : Int) (1 : Nat)) (0 : Int) (3 : Nat) ++ List.flatMap lBytes (List.drop (0 : Nat) l0)) c1 (3 : Nat)) (↑l1.length : Int) (1 : Nat)) (Line.offset (List.getD l1 (0 : Nat) (Line.mk (0 : Int) (0 : Int) (0 : Int) (0 : Int) (0 : Int)))) (3 : Nat) ++ List.flatMap lBytes (List.drop (0 : Nat) l1)) c2 (3 : Nat)) (↑l2.length : Int) (1 : Nat)) ≤ (1000000000 : Nat)) then bif lenOK l2.length then bif decide ((↑l2.length : Int) = (↑l2.length : Int)) && true && decide (List.length l2 ≤ (1000000 : Nat) ∧ List.length (putL (putL (putL (putL (putL (putL (putL (putL (putL (putL (putL [] p (3 : Nat)) (↑items.length : Int) (1 : Nat) ++ List.flatMap iBytes (List.drop (0 : Nat) items)) c0 (3 : Nat)) (↑l0.length : Int) (1 : Nat)) (0 : Int) (3 : Nat) ++ List.flatMap lBytes (List.drop (0 : Nat) l0)) c1 (3 : Nat)) (↑l1.length : Int) (1 : Nat)) (Line.offset (List.getD l1 (0 : Nat) (Line.mk (0 : Int) (0 : Int) (0 : Int) (0 : Int) (0 : Int)))) (3 : Nat) ++ List.flatMap lBytes (List.drop (0 : Nat) l1)) c2 (3 : Nat)) (↑l2.length : Int) (1 : Nat)) (Line.offset (List.getD l2 (0 : Nat) (Line.mk (0 : Int) (0 : Int) (0 : Int) (0 : Int) (0 : Int)))) (3 : Nat)) ≤ (1000000 : Nat)) && List.all l2 fitLn then some (D.tup (D.acons (D.sl RTy.u8 (!fitsB (Line.offset (List.getD l2 (0 : Nat) (Line.mk (0 : Int) (0 : Int) (0 : Int) (0 : Int) (0 : Int)))) (3 : Nat) && List.isEmpty (List.drop (0 : Nat) l2)) (putL (putL (putL (putL (putL (putL (putL (putL (putL (putL (putL [] p (3 : Nat)) (↑items.length : Int) (1 : Nat) ++ List.flatMap iBytes (List.drop (0 : Nat) items)) c0 (3 : Nat)) (↑l0.length : Int) (1 : Nat)) (0 : Int) (3 : Nat) ++ List.flatMap lBytes (List.drop (0 : Nat) l0)) c1 (3 : Nat)) (↑l1.length : Int) (1 : Nat)) (Line.offset (List.getD l1 (0 : Nat) (Line.mk (0 : Int) (0 : Int) (0 : Int) (0 : Int) (0 : Int)))) (3 : Nat) ++ List.flatMap lBytes (List.drop (0 : Nat) l1)) c2 (3 : Nat)) (↑l2.length : Int) (1 : Nat)) (Line.offset (List.getD l2 (0 : Nat) (Line.mk (0 : Int) (0 : Int) (0 : Int) (0 : Int) (0 : Int)))) (3 : Nat) ++ List.flatMap lBytes (List.drop (0 : Nat) l2))) (.acons (D.int .i64 (0 : Int)) .anil))) else none else none else none else none else none else none else none else bif decide (List.length (putL (putL (putL (putL (putL (putL (putL (putL [] p (3 : Nat)) (↑items.length : Int) (1 : Nat) ++ List.flatMap iBytes (List.drop (0 : Nat) items)) c0 (3 : Nat)) (↑l0.length : Int) (1 : Nat)) (0 : Int) (3 : Nat) ++ List.flatMap lBytes (List.drop (0 : Nat) l0)) c1 (3 : Nat)) (↑l1.length : Int) (1 : Nat)) (Line.offset (List.getD l1 (0 : Nat) (Line.mk (0 : Int) (0 : Int) (0 : Int) (0 : Int) (0 : Int)))) (3 : Nat) ++ List.flatMap lBytes (List.drop (0 : Nat) l1)) ≤ (1000000000 : Nat)) then bif lenOK l2.length then bif decide (List.length (putL (putL (putL (putL (putL (putL (putL (putL (putL [] p (3 : Nat)) (↑items.length : Int) (1 : Nat) ++ List.flatMap iBytes (List.drop (0 : Nat) items)) c0 (3 : Nat)) (↑l0.length : Int) (1 : Nat)) (0 : Int) (3 : Nat) ++ List.flatMap lBytes (List.drop (0 : Nat) l0)) c1 (3 : Nat)) (↑l1.length : Int) (1 : Nat)) (Line.offset (List.getD l1 (0 : Nat) (Line.mk (0 : Int) (0 : Int) (0 : Int) (0 : Int) (0 : Int)))) (3 : Nat) ++ List.flatMap lBytes (List.drop (0 : Nat) l1)) c2 (3 : Nat)) ≤ (1000000000 : Nat)) then bif decide (List.length (putL (putL (putL (putL (putL (putL (putL (putL (putL (putL [] p (3 : Nat)) (↑items.length : Int) (1 : Nat) ++ List.flatMap iBytes (List.drop (0 : Nat) items)) c0 (3 : Nat)) (↑l0.length : Int) (1 : Nat)) (0 : Int) (3 : Nat) ++ List.flatMap lBytes (List.drop (0 : Nat) l0)) c1 (3 : Nat)) (↑l1.length : Int) (1 : Nat)) (Line.offset (List.getD l1 (0 : Nat) (Line.mk (0 : Int) (0 : Int) (0 : Int) (0 : Int) (0 : Int)))) (3 : Nat) ++ List.flatMap lBytes (List.drop (0 : Nat) l1)) c2 (3 : Nat)) (↑l2.length : Int) (1 : Nat)) ≤ (1000000000 : Nat)) then bif lenOK l2.length then bif decide ((↑l2.length : Int) = (↑l2.length : Int)) && true && decide (List.length l2 ≤ (1000000 : Nat) ∧ List.length (putL (putL (putL (putL (putL (putL (putL (putL (putL (putL (putL [] p (3 : Nat)) (↑items.length : Int) (1 : Nat) ++ List.flatMap iBytes (List.drop (0 : Nat) items)) c0 (3 : Nat)) (↑l0.length : Int) (1 : Nat)) (0 : Int) (3 : Nat) ++ List.flatMap lBytes (List.drop (0 : Nat) l0)) c1 (3 : Nat)) (↑l1.length : Int) (1 : Nat)) (Line.offset (List.getD l1 (0 : Nat) (Line.mk (0 : Int) (0 : Int) (0 : Int) (0 : Int) (0 : Int)))) (3 : Nat) ++ List.flatMap lBytes (List.drop (0 : Nat) l1)) c2 (3 : Nat)) (↑l2.length : Int) (1 : Nat)) (0 : Int) (3 : Nat)) ≤ (1000000 : Nat)) && List.all l2 fitLn then some (D.tup (D.acons (D.sl RTy.u8 (false && List.isEmpty (List.drop (0 : Nat) l2)) (putL (putL (putL (putL (putL (putL (putL (putL (putL (putL (putL [] p (3 : Nat)) (↑items.length : Int) (1 : Nat) ++ List.flatMap iBytes (List.drop (0 : Nat) items)) c0 (3 : Nat)) (↑l0.length : Int) (1 : Nat)) (0 : Int) (3 : Nat) ++ List.flatMap lBytes (List.drop (0 : Nat) l0)) c1 (3 : Nat)) (↑l1.length : Int) (1 : Nat)) (Line.offset (List.getD l1 (0 : Nat) (Line.mk (0 : Int) (0 : Int) (0 : Int) (0 : Int) (0 : Int)))) (3 : Nat) ++ List.flatMap lBytes (List.drop (0 : Nat) l1)) c2 (3 : Nat)) (↑l2.length : Int) (1 : Nat)) (0 : Int) (3 : Nat) ++ List.flatMap lBytes (List.drop (0 : Nat) l2))) (.acons (D.int .i64 (0 : Int)) .anil))) else none else none else none else none else none else none else none else none else none else none else none else none else none else none else bif decide (List.length (putL (putL (putL (putL (putL [] p (3 : Nat)) (↑items.length : Int) (1 : Nat) ++ List.flatMap iBytes (List.drop (0 : Nat) items)) c0 (3 : Nat)) (↑l0.length : Int) (1 : Nat)) (0 : Int) (3 : Nat) ++ List.flatMap lBytes (List.drop (0 : Nat) l0)) ≤ (1000000000 : Nat)) then bif lenOK l1.length then bif decide (List.length (putL (putL (putL (putL (putL (putL [] p (3 : Nat)) (↑items.length : Int) (1 : Nat) ++ List.flatMap iBytes (List.drop (0 : Nat) items)) c0 (3 : Nat)) (↑l0.length : Int) (1 : Nat)) (0 : Int) (3 : Nat) ++ List.flatMap lBytes (List.drop (0 : Nat) l0)) c1 (3 : Nat)) ≤ (1000000000 : Nat)) then bif decide (List.length (putL (putL (putL (putL (putL (putL (putL [] p (3 : Nat)) (↑items.length : Int) (1 : Nat) ++ List.flatMap iBytes (List.drop (0 : Nat) items)) c0 (3 : Nat)) (↑l0.length : Int) (1 : Nat)) (0 : Int) (3 : Nat) ++ List.flatMap lBytes (List.drop (0 : Nat) l0)) c1 (3 : Nat)) (↑l1.length : Int) (1 : Nat)) ≤ (1000000000 : Nat)) then bif lenOK l1.length then bif decide ((↑l1.length : Int) = (↑l1.length : Int)) && true && decide (List.length l1 ≤ (1000000 : Nat) ∧ List.length (putL (putL (putL (putL (putL (putL (putL (putL [] p (3 : Nat)) (↑items.length : Int) (1 : Nat) ++ List.flatMap iBytes (List.drop (0 : Nat) items)) c0 (3 : Nat)) (↑l0.length : Int) (1 : Nat)) (0 : Int) (3 : Nat) ++ List.flatMap lBytes (List.drop (0 : Nat) l0)) c1 (3 : Nat)) (↑l1.length : Int) (1 : Nat)) (0 : Int) (3 : Nat)) ≤ (1000000 : Nat)) && List.all l1 fitLn then bif lenOK l2.length then bif decide ((0 : Int) < (↑l2.length : Int)) then bif decide ((0 : Int) ≤ (0 : Int) ∧ (0 : Int) < (↑l2.length : Int)) then bif decide (List.length (putL (putL (putL (putL (putL (putL (putL (putL [] p (3 : Nat)) (↑items.length : Int) (1 : Nat) ++ List.flatMap iBytes (List.drop (0 : Nat) items)) c0 (3 : Nat)) (↑l0.length : Int) (1 : Nat)) (0 : Int) (3 : Nat) ++ List.flatMap lBytes (List.drop (0 : Nat) l0)) c1 (3 : Nat)) (↑l1.length : Int) (1 : Nat)) (0 : Int) (3 : Nat) ++ List.flatMap lBytes (List.drop (0 : Nat) l1)) ≤ (1000000000 : Nat)) then bif lenOK l2.length then bif decide (List.length (putL (putL (putL (putL (putL (putL (putL (putL (putL [] p (3 : Nat)) (↑items.length : Int) (1 : Nat) ++ List.flatMap iBytes (List.drop (0 : Nat) items)) c0 (3 : Nat)) (↑l0.length : Int) (1 : Nat)) (0 : Int) (3 : Nat) ++ List.flatMap lBytes (List.drop (0 : Nat) l0)) c1 (3 : Nat)) (↑l1.length : Int) (1 : Nat)) (0 : Int) (3 : Nat) ++ List.flatMap lBytes (List.drop (0 : Nat) l1)) c2 (3 : Nat)) ≤ (1000000000 : Nat)) then bif decide (List.length (putL (putL (putL (putL (putL (putL (putL (putL (putL (putL [] p (3 : Nat)) (↑items.length : Int) (1 : Nat) ++ List.flatMap iBytes (List.drop (0 : Nat) items)) c0 (3 : Nat)) (↑l0.length : Int) (1 : Nat)) (0 : Int) (3 : Nat) ++ List.flatMap lBytes (List.drop (0 : Nat) l0)) c1 (3 : Nat)) (↑l1.length : Int) (1 : Nat)) (0 : Int) (3 : Nat) ++ List.flatMap lBytes (List.drop (0 : Nat) l1)) c2 (3 : Nat)) (↑l2.length : Int) (1 : Nat)) ≤ (1000000000 : Nat)) then bif lenOK l2.length then bif decide ((↑l2.length : Int) = (↑l2.length : Int)) && true && decide (List.length l2 ≤ (1000000 : Nat) ∧ List.length (putL (putL (putL (putL (putL (putL (putL (putL (putL (putL (putL [] p (3 : Nat)) (↑items.length : Int) (1 : Nat) ++ List.flatMap iBytes (List.drop (0 : Nat) items)) c0 (3 : Nat)) (↑l0.length : Int) (1 : Nat)) (0 : Int) (3 : Nat) ++ List.flatMap lBytes (List.drop (0 : Nat) l0)) c1 (3 : Nat)) (↑l1.length : Int) (1 : Nat)) (0 : Int) (3 : Nat) ++ List.flatMap lBytes (List.drop (0 : Nat) l1)) c2 (3 : Nat)) (↑l2.length : Int) (1 : Nat)) (Line.offset (List.getD l2 (0 : Nat) (Line.mk (0 : Int) (0 : Int) (0 : Int) (0 : Int) (0 : Int)))) (3 : Nat)) ≤ (1000000 : Nat)) && List.all l2 fitLn then some (D.tup (D.acons (D.sl RTy.u8 (!fitsB (Line.offset (List.getD l2 (0 : Nat) (Line.mk (0 : Int) (0 : Int) (0 : Int) (0 : Int) (0 : Int)))) (3 : Nat) && List.isEmpty (List.drop (0 : Nat) l2)) (putL (putL (putL (putL (putL (putL (putL (putL (putL (putL (putL [] p (3 : Nat)) (↑items.length : Int) (1 : Nat) ++ List.flatMap iBytes (List.drop (0 : Nat) items)) c0 (3 : Nat)) (↑l0.length : Int) (1 : Nat)) (0 : Int) (3 : Nat) ++ List.flatMap lBytes (List.drop (0 : Nat) l0)) c1 (3 : Nat)) (↑l1.length : Int) (1 : Nat)) (0 : Int) (3 : Nat) ++ List.flatMap lBytes (List.drop (0 : Nat) l1)) c2 (3 : Nat)) (↑l2.length : Int) (1 : Nat)) (Line.offset (List.getD l2 (0 : Nat) (Line.mk (0 : Int) (0 : Int) (0 : Int) (0 : Int) (0 : Int)))) (3 : Nat) ++ List.flatMap lBytes (List.drop (0 : Nat) l2))) (.acons (D.int .i64 (0 : Int)) .anil))) else none else none else none else none else none else none else none else bif decide (List.length (putL (putL (putL (putL (putL (putL (putL (putL [] p (3 : Nat)) (↑items.length : Int) (1 : Nat) ++ List.flatMap iBytes (List.drop (0 : Nat) items)) c0 (3 : Nat)) (↑l0.length : Int) (1 : Nat)) (0 : Int) (3 : Nat) ++ List.flatMap lBytes (List.drop (0 : Nat) l0)) c1 (3 : Nat)) (↑l1.length : Int) (1 : Nat)) (0 : Int) (3 : Nat) ++ List.flatMap lBytes (List.drop (0 : Nat) l1)) ≤ (1000000000 : Nat)) then bif lenOK l2.length then bif decide (List.length (putL (putL (putL (putL (putL (putL (putL (putL (putL [] p (3 : Nat)) (↑items.length : Int) (1 : Nat) ++ List.flatMap iBytes (List.drop (0 : Nat) items)) c0 (3 : Nat)) (↑l0.length : Int) (1 : Nat)) (0 : Int) (3 : Nat) ++ List.flatMap lBytes (List.drop (0 : Nat) l0)) c1 (3 : Nat)) (↑l1.length : Int) (1 : Nat)) (0 : Int) (3 : Nat) ++ List.flatMap lBytes (List.drop (0 : Nat) l1)) c2 (3 : Nat)) ≤ (1000000000 : Nat)) then bif decide (List.length (putL (putL (putL (putL (putL (putL (putL (putL (putL (putL [] p (3 : Nat)) (↑items.length : Int) (1 : Nat) ++ List.flatMap iBytes (List.drop (0 : Nat) items)) c0 (3 : Nat)) (↑l0.length : Int) (1 : Nat)) (0 : Int) (3 : Nat) ++ List.flatMap lBytes (List.drop (0 : Nat) l0)) c1 (3 : Nat)) (↑l1.length : Int) (1 : Nat)) (0 : Int) (3 : Nat) ++ List.flatMap lBytes (List.drop (0 : Nat) l1)) c2 (3 : Nat)) (↑l2.length : Int) (1 : Nat)) ≤ (1000000000 : Nat)) then bif lenOK l2.length then bif decide ((↑l2.length : Int) = (↑l2.length : Int)) && true && decide (List.length l2 ≤ (1000000 : Nat) ∧ List.length (putL (putL (putL (putL (putL (putL (putL (putL (putL (putL (putL [] p (3 : Nat)) (↑items.length : Int) (1 : Nat) ++ List.flatMap iBytes (List.drop (0 : Nat) items)) c0 (3 : Nat)) (↑l0.length : Int) (1 : Nat)) (0 : Int) (3 : Nat) ++ List.flatMap lBytes (List.drop (0 : Nat) l0)) c1 (3 : Nat)) (↑l1.length : Int) (1 : Nat)) (0 : Int) (3 : Nat) ++ List.flatMap lBytes (List.drop (0 : Nat) l1)) c2 (3 : Nat)) (↑l2.length : Int) (1 : Nat)) (0 : Int) (3 : Nat)) ≤ (1000000 : Nat)) && List.all l2 fitLn then some (D.tup (D.acons (D.sl RTy.u8 (false && List.isEmpty (List.drop (0 : Nat) l2)) (putL (putL (putL (putL (putL (putL (putL (putL (putL (putL (putL [] p (3 : Nat)) (↑items.length : Int) (1 : Nat) ++ List.flatMap iBytes (List.drop (0 : Nat) items)) c0 (3 : Nat)) (↑l0.length : Int) (1 : Nat)) (0 : Int) (3 : Nat) ++ List.flatMap lBytes (List.drop (0 : Nat) l0)) c1 (3 : Nat)) (↑l1.length : Int) (1 : Nat)) (0 : Int) (3 : Nat) ++ List.flatMap lBytes (List.drop (0 : Nat) l1)) c2 (3 : Nat)) (↑l2.length : Int) (1 : Nat)) (0 : Int) (3 : Nat) ++ List.flatMap lBytes (List.drop (0 : Nat) l2))) (.acons (D.int .i64 (0 : Int)) .anil))) else none else none else none else none else none else none else none else none else none else none else none else none else none else none else none else none else none else none else none else none else none else none else none else none else none else none) := by kernel_rfl
theorem stateBytes_ok (p : Int) (ci : Bool) (items : List Item) (k0 : Bool) (k1 : Bool) (k2 : Bool) (l0 : List Line) (l1 : List Line) (l2 : List Line) (c0 : Int) (c1 : Int) (c2 : Int) (h : (decide (items.length ≤ 9223372036854775807 ∧ l0.length ≤ 9223372036854775807 ∧ l1.length ≤ 9223372036854775807 ∧ l2.length ≤ 9223372036854775807)) = true) : stateBytes_e p ci items k0 k1 k2 l0 l1 l2 c0 c1 c2 = some (.tup (.acons (.sl (C := RC) .u8 (!standsOK ⟨p, items, l0, l1, l2, c0, c1, c2⟩) (bif standsOK ⟨p, items, l0, l1, l2, c0, c1, c2⟩ then stBytes ⟨p, items, l0, l1, l2, c0, c1, c2⟩ else [])) (.acons (.int .i64 (bif standsOK ⟨p, items, l0, l1, l2, c0, c1, c2⟩ then 0 else 2)) .anil))) := by
  rw [stateBytes_eq]
  rw [h]
  cases hm : standsOK ⟨p, items, l0, l1, l2, c0, c1, c2⟩
  · rfl
  · obtain ⟨hp, hil, hif, ⟨k0, m0, w0, o0⟩, ⟨k1, m1, w1, o1⟩, ⟨k2, m2, w2, o2⟩⟩ := stands_facts hm
    have b := lenOK_of (show items.length ≤ 9223372036854775807 by omega)
    have b0 := lenOK_of (show l0.length ≤ 9223372036854775807 by omega)
    have b1 := lenOK_of (show l1.length ≤ 9223372036854775807 by omega)
    have b2 := lenOK_of (show l2.length ≤ 9223372036854775807 by omega)
    have fp : fitsB p 3 = true := fits3 (by rw [withinB_iff]; omega)
    have fi : fitsB (items.length : Int) 1 = true := fits1 (by rw [withinB_iff]; omega)
    have fc0 : fitsB c0 3 = true := fits3 (by rw [withinB_iff]; omega)
    have fc1 : fitsB c1 3 = true := fits3 (by rw [withinB_iff]; omega)
    have fc2 : fitsB c2 3 = true := fits3 (by rw [withinB_iff]; omega)
    have fl0 : fitsB (l0.length : Int) 1 = true := fits1 (by rw [withinB_iff]; omega)
    have fl1 : fitsB (l1.length : Int) 1 = true := fits1 (by rw [withinB_iff]; omega)
    have fl2 : fitsB (l2.length : Int) 1 = true := fits1 (by rw [withinB_iff]; omega)
    have fo0 : fitsB (l0.getD 0 ⟨0, 0, 0, 0, 0⟩).offset 3 = true := fits3 (by rw [withinB_iff]; unfold firstOff at o0; omega)
    have fo1 : fitsB (l1.getD 0 ⟨0, 0, 0, 0, 0⟩).offset 3 = true := fits3 (by rw [withinB_iff]; unfold firstOff at o1; omega)
    have fo2 : fitsB (l2.getD 0 ⟨0, 0, 0, 0, 0⟩).offset 3 = true := fits3 (by rw [withinB_iff]; unfold firstOff at o2; omega)
    have f0 : fitsB 0 3 = true := rfl
    have L : ∀ b : List UInt8, b.length ≤ 100000 → decide (b.length ≤ 1000000000) = true := fun b hb => decide_eq_true (by omega)
    have L2 : ∀ (b : List UInt8) (n : Nat), n ≤ 24 → b.length ≤ 100000 → decide (n ≤ 1000000 ∧ b.length ≤ 1000000) = true := fun b n hn hb => by simp; omega
    have i0 : ∀ l : List Line, decide (0 ≤ (0 : Int) ∧ (0 : Int) < l.length) = decide (0 < (l.length : Int)) := fun l => by simp
    have sI := flatMap_len items iBytes 5 iBytes_len
    have s0 := flatMap_len l0 lBytes 5 lBytes_len
    have s1 := flatMap_len l1 lBytes 5 lBytes_len
    have s2 := flatMap_len l2 lBytes 5 lBytes_len
    simp only [b, b0, b1, b2, show Int.toNat 1 = 1 from rfl, show Int.toNat 3 = 3 from rfl, putL_fits fp, putL_fits fi, putL_fits fc0, putL_fits fc1, putL_fits fc2, putL_fits fl0, putL_fits fl1, putL_fits fl2, putL_fits fo0, putL_fits fo1, putL_fits fo2, putL_fits f0, fp, fi, fc0, fc1, fc2, fl0, fl1, fl2, fo0, fo1, fo2, f0, hif, w0, w1, w2, cond_true, cond_false, Bool.not_true, Bool.not_false, Bool.and_true, Bool.true_and, decide_true, List.drop_zero, Bool.false_and, i0]
    simp (disch := first | omega | (simp only [List.length_append, leB_length, List.length_nil, sI, s0, s1, s2]; omega)) only [L, L2, cond_true]
    have hx : ∀ l : List Line, ¬ (0 < l.length) → (l.getD 0 ⟨0, 0, 0, 0, 0⟩).offset = 0 := fun l hl => by
      have : l = [] := by cases l with
        | nil => rfl
        | cons _ _ => simp at hl
      rw [this]; rfl
    simp only [stBytes, partBytes, firstOff]
    simp only [Int.natCast_pos]
    by_cases e0 : 0 < l0.length <;> by_cases e1 : 0 < l1.length <;> by_cases e2 : 0 < l2.length <;> simp only [e0, e1, e2, decide_true, decide_false, cond_true, cond_false] <;> simp [e0, e1, e2, hx]
noncomputable def ue_3 := ue_2.addSpec 38 stateBytes_sp
theorem ue_3_laws : FLaws Try.prog s07 ue_3 := ue_2_laws.addEv s07_laws fun args d h => by
  unfold stateBytes_sp at h
  split at h
  · unfold stateBytes_s at h
    have h1 := congrArg Prod.fst (Option.some.inj h)
    obtain rfl : _ = d := congrArg Prod.snd (Option.some.inj h)
    exact ⟨by simp [D.refs], 40, stateBytes_ok _ _ _ _ _ _ _ _ _ _ _ _ h1⟩
  · cases h
open Go.Proofs
structure sameLinesR_St where
  c : Bool
  l : List Line
  d : Bool
  m : List Line
  i : Nat
def sameLinesR_c (c : Bool) (l : List Line) (d : Bool) (m : List Line) (i : Nat) : Env RC := [(0, .sl (C := RC) .line c l), (1, .sl (C := RC) .line d m), (4, .bool false), (5, .int .i64 (i : Int))]
def sameLinesR_o (c : Bool) (l : List Line) (d : Bool) (m : List Line) (i : Nat) : List (Obj RC) := []
noncomputable def sameLinesR_r (c : Bool) (l : List Line) (d : Bool) (m : List Line) (i : Nat) := rndO s07 ue_3 33 4 40 0 [0, 1, 4, 5] [4] [] (sameLinesR_c c l d m i) (sameLinesR_o c l d m i)
theorem sameLinesR_eq (c : Bool) (l : List Line) (d : Bool) (m : List Line) (i : Nat) : sameLinesR_r c l d m i = (bif lenOK l.length then bif decide ((↑i : Int) < (↑l.length : Int)) then bif decide ((0 : Int) ≤ (↑i : Int) ∧ (↑i : Int) < (↑l.length : Int)) then bif decide ((0 : Int) ≤ (↑i : Int) ∧ (↑i : Int) < (↑m.length : Int)) then bif !(Line.offset (List.getD l (↑i : Int).toNat (Line.mk (0 : Int) (0 : Int) (0 : Int) (0 : Int) (0 : Int))) == Line.offset (List.getD m (↑i : Int).toNat (Line.mk (0 : Int) (0 : Int) (0 : Int) (0 : Int) (0 : Int))) && (Line.place (List.getD l (↑i : Int).toNat (Line.mk (0 : Int) (0 : Int) (0 : Int) (0 : Int) (0 : Int))) == Line.place (List.getD m (↑i : Int).toNat (Line.mk (0 : Int) (0 : Int) (0 : Int) (0 : Int) (0 : Int))) && (Line.j (List.getD l (↑i : Int).toNat (Line.mk (0 : Int) (0 : Int) (0 : Int) (0 : Int) (0 : Int))) == Line.j (List.getD m (↑i : Int).toNat (Line.mk (0 : Int) (0 : Int) (0 : Int) (0 : Int) (0 : Int))) && (Line.key (List.getD l (↑i : Int).toNat (Line.mk (0 : Int) (0 : Int) (0 : Int) (0 : Int) (0 : Int))) == Line.key (List.getD m (↑i : Int).toNat (Line.mk (0 : Int) (0 : Int) (0 : Int) (0 : Int) (0 : Int))) && (Line.value (List.getD l (↑i : Int).toNat (Line.mk (0 : Int) (0 : Int) (0 : Int) (0 : Int) (0 : Int))) == Line.value (List.getD m (↑i : Int).toNat (Line.mk (0 : Int) (0 : Int) (0 : Int) (0 : Int) (0 : Int))) && true))))) then some ((X.ret, [((4 : Nat), D.bool false)]), []) else some ((X.normal, [((0 : Nat), D.sl RTy.line c l), ((1 : Nat), D.sl RTy.line d m), ((4 : Nat), D.bool false), ((5 : Nat), D.int .i64 (IntKind.wrap .i64 ((↑i : Int) + (1 : Int))))]), []) else none else none else some ((X.exit (0 : Nat), [((4 : Nat), D.bool false)]), []) else none) := by kernel_rfl
def sameLinesR_fin (c : Bool) (l : List Line) (d : Bool) (m : List Line) (i : Nat) : RT RC := .br (decide (l.drop i = m.drop i)) (.leaf (.exit 0) [(4, .bool false)] []) (.leaf .ret [(4, .bool false)] [])
def sameLinesR_Inv (c : Bool) (l : List Line) (d : Bool) (m : List Line) (i : Nat) : Prop := i ≤ l.length ∧ l.length ≤ 9223372036854775807 ∧ l.length = m.length
def sameLinesR_S : LoopR RC sameLinesR_St where
  k := 0
  canon q := sameLinesR_c q.c q.l q.d q.m q.i
  objs q := sameLinesR_o q.c q.l q.d q.m q.i
  fin q := sameLinesR_fin q.c q.l q.d q.m q.i
  Inv q := sameLinesR_Inv q.c q.l q.d q.m q.i
  μ q := q.l.length - q.i
theorem sameLinesR_round (c : Bool) (l : List Line) (d : Bool) (m : List Line) (i : Nat) (hI : sameLinesR_Inv c l d m i) : Leaf (sameLinesR_r c l d m i) (LedR sameLinesR_S ⟨c, l, d, m, i⟩) := by
  rw [sameLinesR_eq]
  unfold sameLinesR_Inv at hI
  obtain ⟨h1, h2, h3⟩ := hI
  have hlk := lenOK_of h2
  by_cases hlt : i < l.length
  · have w_succ : IntKind.i64.wrap ((i : Int) + 1) = ((i + 1 : Nat) : Int) := by rw [wrap_id (by omega) (by omega)]; simp
    have d_lt : decide ((i : Int) < l.length) = true := by simp; omega
    have d_in : decide (0 ≤ (i : Int) ∧ (i : Int) < l.length) = true := by simp; omega
    have t_nat : ((i : Int)).toNat = i := by simp
    simp only [w_succ, d_lt, d_in, t_nat, cond_true]
    have hlt' : i < m.length := by omega
    have d_in' : decide (0 ≤ (i : Int) ∧ (i : Int) < m.length) = true := by simp; omega
    have hst := drops_step l m i (⟨0, 0, 0, 0, 0⟩ : Line) hlt h3
    simp only [d_in', cond_true, hlk, eqLine]
    generalize l.getD i (⟨0, 0, 0, 0, 0⟩ : Line) = x at hst ⊢
    generalize m.getD i (⟨0, 0, 0, 0, 0⟩ : Line) = y at hst ⊢
    by_cases hxy : x = y
    · simp only [hxy, decide_true, Bool.not_true, cond_false]
      exact leafR_go ⟨c, l, d, m, i + 1⟩ ⟨hlt, h2, h3⟩ (by simp only [sameLinesR_S]; omega) (by simp only [sameLinesR_S, sameLinesR_fin, hst, hxy, decide_true, Bool.true_and]) rfl rfl
    · simp only [hxy, decide_false, Bool.not_false, cond_true]
      exact leafR_ret [] (by simp [sameLinesR_S, sameLinesR_fin, hst, hxy, RT.val]) rfl
  · have hi : i = l.length := by omega
    have c1 : decide ((i : Int) < l.length) = false := by simp; omega
    simp only [hlk, cond_true, c1, cond_false]
    exact leafR_exit [] (by simp only [sameLinesR_S, sameLinesR_fin, drops_end l m i (by omega) (by omega), RT.val, cond_true]) rfl
def sameLinesR_d (env : Env RC) (os : List (Obj RC)) : Option (Bool × sameLinesR_St) := match env, os with
  | [(0, .sl .line c l), (1, .sl .line d m), (4, .bool false), (5, .int .i64 x0)], [] => staticD (true) (decide (x0 = 0) && decide (l.length ≤ 9223372036854775807 ∧ l.length = m.length), ⟨c, l, d, m, 0⟩)
  | _, _ => none
noncomputable def uh_1 := ue_3.addLoop 33 4 (sumR s07 [] [0, 1, 4, 5] sameLinesR_S sameLinesR_d)
theorem uh_1_laws : FLaws Try.prog s07 uh_1 := by
  refine ue_3_laws.addRoundsR s07_laws (by kernel_rfl) sameLinesR_S 40 [0, 1, 4, 5] [4] [] [0, 1, 4, 5] sameLinesR_d (fun q hI => ?_) ?_
  · obtain ⟨c, l, d, m, i⟩ := q
    refine ⟨?_, ?_, sameLinesR_round c l d m i hI⟩
    · simp_all [RefsOK, sameLinesR_S, sameLinesR_c, sameLinesR_o, sameLinesR_Inv, D.refs, Obj.refs, rEnc]
    · simp_all [sameLinesR_S, sameLinesR_fin, sameLinesR_o, sameLinesR_Inv, RT.refsOK, RefsOK, D.refs, Obj.refs, rEnc]
  · intro env os b q hd_ hb
    unfold sameLinesR_d at hd_
    split at hd_
    · obtain ⟨hs, hd_⟩ := staticD_some hd_
      cases hd_
      simp only [Bool.and_eq_true, decide_eq_true_eq] at hb
      obtain ⟨rfl, hl⟩ := hb
      exact ⟨⟨Nat.zero_le _, hl.1, hl.2⟩, rfl, rfl⟩
    · cases hd_
def sameLinesRf_s (c : Bool) (l : List Line) (d : Bool) (m : List Line) : Option (Bool × D RC) := some (lenOK l.length && lenOK m.length, .bool (decide (l = m)))
def sameLinesRf_sp : List (D RC) → Option (Bool × D RC)
  | [.sl .line c l, .sl .line d m] => sameLinesRf_s c l d m
  | _ => none
noncomputable def sameLinesRf_e (c : Bool) (l : List Line) (d : Bool) (m : List Line) := evF s07 uh_1 40 33 [.sl (C := RC) .line c l, .sl (C := RC) .line d m]
theorem sameLinesRf_eq (c : Bool) (l : List Line) (d : Bool) (m : List Line) : sameLinesRf_e c l d m = (bif lenOK l.length then bif lenOK m.length then bif (↑l.length : Int) != (↑m.length : Int) then some (D.bool false) else bif decide (List.length l ≤ (9223372036854775807 : Nat) ∧ List.length l = List.length m) then bif decide (List.drop (0 : Nat) l = List.drop (0 : Nat) m) then some (D.bool true) else some (D.bool false) else none else none else none) := by kernel_rfl
theorem sameLinesRf_ok (c : Bool) (l : List Line) (d : Bool) (m : List Line) (h : (lenOK l.length && lenOK m.length) = true) : sameLinesRf_e c l d m = some (.bool (decide (l = m))) := by
  rw [sameLinesRf_eq]
  simp only [Bool.and_eq_true] at h
  have h1 : l.length ≤ 9223372036854775807 := lenOK_le h.1
  simp only [h.1, h.2, cond_true]
  by_cases hl : l.length = m.length
  · have e1 : ((l.length : Int) != (m.length : Int)) = false := by simp [hl]
    have e2 : (l.length ≤ 9223372036854775807 ∧ l.length = m.length) := ⟨h1, hl⟩
    rw [e1, decide_eq_true e2]
    simp only [cond_true, cond_false, List.drop_zero]
    cases decide (l = m) <;> rfl
  · have e1 : ((l.length : Int) != (m.length : Int)) = true := by simp; omega
    have : ¬ l = m := fun e => hl (by rw [e])
    simp [e1, this]
noncomputable def uh_2 := uh_1.addSpec 33 sameLinesRf_sp
theorem uh_2_laws : FLaws Try.prog s07 uh_2 := uh_1_laws.addEv s07_laws fun args d h => by
  unfold sameLinesRf_sp at h
  split at h
  · unfold sameLinesRf_s at h
    have h1 := congrArg Prod.fst (Option.some.inj h)
    obtain rfl : _ = d := congrArg Prod.snd (Option.some.inj h)
    exact ⟨by simp [D.refs], 40, sameLinesRf_ok _ _ _ _ h1⟩
  · cases h
structure sameStRl_St where
  p : Int
  ci : Bool
  items : List Item
  k0 : Bool
  k1 : Bool
  k2 : Bool
  l0 : List Line
  l1 : List Line
  l2 : List Line
  c0 : Int
  c1 : Int
  c2 : Int
  q : Int
  di : Bool
  jtems : List Item
  j0 : Bool
  j1 : Bool
  j2 : Bool
  m0 : List Line
  m1 : List Line
  m2 : List Line
  d0 : Int
  d1 : Int
  d2 : Int
  i : Nat
def sameStRl_c (p : Int) (ci : Bool) (items : List Item) (k0 : Bool) (k1 : Bool) (k2 : Bool) (l0 : List Line) (l1 : List Line) (l2 : List Line) (c0 : Int) (c1 : Int) (c2 : Int) (q : Int) (di : Bool) (jtems : List Item) (j0 : Bool) (j1 : Bool) (j2 : Bool) (m0 : List Line) (m1 : List Line) (m2 : List Line) (d0 : Int) (d1 : Int) (d2 : Int) (i : Nat) : Env RC := [(2, .ptr 0 []), (3, .ptr 1 []), (4, .bool false), (5, .int .i64 (i : Int))]
def sameStRl_o (p : Int) (ci : Bool) (items : List Item) (k0 : Bool) (k1 : Bool) (k2 : Bool) (l0 : List Line) (l1 : List Line) (l2 : List Line) (c0 : Int) (c1 : Int) (c2 : Int) (q : Int) (di : Bool) (jtems : List Item) (j0 : Bool) (j1 : Bool) (j2 : Bool) (m0 : List Line) (m1 : List Line) (m2 : List Line) (d0 : Int) (d1 : Int) (d2 : Int) (i : Nat) : List (Obj RC) := [.var 30 (.acons (.int .i64 p) (.acons (.sl (C := RC) .item ci items) (.acons (.acons (.sl (C := RC) .line k0 l0) (.acons (.sl (C := RC) .line k1 l1) (.acons (.sl (C := RC) .line k2 l2) .anil))) (.acons (.arr (C := RC) .int 3 [c0, c1, c2]) .anil)))), .var 30 (.acons (.int .i64 q) (.acons (.sl (C := RC) .item di jtems) (.acons (.acons (.sl (C := RC) .line j0 m0) (.acons (.sl (C := RC) .line j1 m1) (.acons (.sl (C := RC) .line j2 m2) .anil))) (.acons (.arr (C := RC) .int 3 [d0, d1, d2]) .anil))))]
noncomputable def sameStRl_r (p : Int) (ci : Bool) (items : List Item) (k0 : Bool) (k1 : Bool) (k2 : Bool) (l0 : List Line) (l1 : List Line) (l2 : List Line) (c0 : Int) (c1 : Int) (c2 : Int) (q : Int) (di : Bool) (jtems : List Item) (j0 : Bool) (j1 : Bool) (j2 : Bool) (m0 : List Line) (m1 : List Line) (m2 : List Line) (d0 : Int) (d1 : Int) (d2 : Int) (i : Nat) := rndO s07 uh_2 14 4 40 2 [2, 3, 4, 5] [4] [.slot 2 0, .slot 3 0] (sameStRl_c p ci items k0 k1 k2 l0 l1 l2 c0 c1 c2 q di jtems j0 j1 j2 m0 m1 m2 d0 d1 d2 i) (sameStRl_o p ci items k0 k1 k2 l0 l1 l2 c0 c1 c2 q di jtems j0 j1 j2 m0 m1 m2 d0 d1 d2 i)
theorem sameStRl_eq (p : Int) (ci : Bool) (items : List Item) (k0 : Bool) (k1 : Bool) (k2 : Bool) (l0 : List Line) (l1 : List Line) (l2 : List Line) (c0 : Int) (c1 : Int) (c2 : Int) (q : Int) (di : Bool) (jtems : List Item) (j0 : Bool) (j1 : Bool) (j2 : Bool) (m0 : List Line) (m1 : List Line) (m2 : List Line) (d0 : Int) (d1 : Int) (d2 : Int) (i : Nat) : sameStRl_r p ci items k0 k1 k2 l0 l1 l2 c0 c1 c2 q di jtems j0 j1 j2 m0 m1 m2 d0 d1 d2 i = (bif lenOK items.length then bif decide ((↑i : Int) < (↑items.length : Int)) then bif decide ((0 : Int) ≤ (↑i : Int) ∧ (↑i : Int) < (↑items.length : Int)) then bif decide ((0 : Int) ≤ (↑i : Int) ∧ (↑i : Int) < (↑jtems.length : Int)) then bif !(Item.key (List.getD items (↑i : Int).toNat (Item.mk (0 : Int) (0 : Int) (0 : Int))) == Item.key (List.getD jtems (↑i : Int).toNat (Item.mk (0 : Int) (0 : Int) (0 : Int))) && (Item.place (List.getD items (↑i : Int).toNat (Item.mk (0 : Int) (0 : Int) (0 : Int))) == Item.place (List.getD jtems (↑i : Int).toNat (Item.mk (0 : Int) (0 : Int) (0 : Int))) && (Item.value (List.getD items (↑i : Int).toNat (Item.mk (0 : Int) (0 : Int) (0 : Int))) == Item.value (List.getD jtems (↑i : Int).toNat (Item.mk (0 : Int) (0 : Int) (0 : Int))) && true))) then some ((X.ret, [((4 : Nat), D.bool false)]), [some (Obj.var (30 : Nat) (.acons (D.int .i64 p) (.acons (D.sl RTy.item ci items) (.acons (D.acons (D.sl RTy.line k0 l0) (.acons (D.sl RTy.line k1 l1) (.acons (D.sl RTy.line k2 l2) .anil))) (.acons (D.arr RTy.int (3 : Nat) [c0, c1, c2]) .anil))))), some (Obj.var (30 : Nat) (.acons (D.int .i64 q) (.acons (D.sl RTy.item di jtems) (.acons (D.acons (D.sl RTy.line j0 m0) (.acons (D.sl RTy.line j1 m1) (.acons (D.sl RTy.line j2 m2) .anil))) (.acons (D.arr RTy.int (3 : Nat) [d0, d1, d2]) .anil)))))]) else some ((X.normal, [((2 : Nat), D.ptr (0 : Nat) []), ((3 : Nat), D.ptr (1 : Nat) []), ((4 : Nat), D.bool false), ((5 : Nat), D.int .i64 (IntKind.wrap .i64 ((↑i : Int) + (1 : Int))))]), [some (Obj.var (30 : Nat) (.acons (D.int .i64 p) (.acons (D.sl RTy.item ci items) (.acons (D.acons (D.sl RTy.line k0 l0) (.acons (D.sl RTy.line k1 l1) (.acons (D.sl RTy.line k2 l2) .anil))) (.acons (D.arr RTy.int (3 : Nat) [c0, c1, c2]) .anil))))), some (Obj.var (30 : Nat) (.acons (D.int .i64 q) (.acons (D.sl RTy.item di jtems) (.acons (D.acons (D.sl RTy.line j0 m0) (.acons (D.sl RTy.line j1 m1) (.acons (D.sl RTy.line j2 m2) .anil))) (.acons (D.arr RTy.int (3 : Nat) [d0, d1, d2]) .anil)))))]) else none else none else some ((X.exit (0 : Nat), [((4 : Nat), D.bool false)]), [some (Obj.var (30 : Nat) (.acons (D.int .i64 p) (.acons (D.sl RTy.item ci items) (.acons (D.acons (D.sl RTy.line k0 l0) (.acons (D.sl RTy.line k1 l1) (.acons (D.sl RTy.line k2 l2) .anil))) (.acons (D.arr RTy.int (3 : Nat) [c0, c1, c2]) .anil))))), some (Obj.var (30 : Nat) (.acons (D.int .i64 q) (.acons (D.sl RTy.item di jtems) (.acons (D.acons (D.sl RTy.line j0 m0) (.acons (D.sl RTy.line j1 m1) (.acons (D.sl RTy.line j2 m2) .anil))) (.acons (D.arr RTy.int (3 : Nat) [d0, d1, d2]) .anil)))))]) else none) := by kernel_rfl
def sameStRl_fin (p : Int) (ci : Bool) (items : List Item) (k0 : Bool) (k1 : Bool) (k2 : Bool) (l0 : List Line) (l1 : List Line) (l2 : List Line) (c0 : Int) (c1 : Int) (c2 : Int) (q : Int) (di : Bool) (jtems : List Item) (j0 : Bool) (j1 : Bool) (j2 : Bool) (m0 : List Line) (m1 : List Line) (m2 : List Line) (d0 : Int) (d1 : Int) (d2 : Int) (i : Nat) : RT RC := .br (decide (items.drop i = jtems.drop i)) (.leaf (.exit 0) [(4, .bool false)] (sameStRl_o p ci items k0 k1 k2 l0 l1 l2 c0 c1 c2 q di jtems j0 j1 j2 m0 m1 m2 d0 d1 d2 i)) (.leaf .ret [(4, .bool false)] (sameStRl_o p ci items k0 k1 k2 l0 l1 l2 c0 c1 c2 q di jtems j0 j1 j2 m0 m1 m2 d0 d1 d2 i))
def sameStRl_Inv (p : Int) (ci : Bool) (items : List Item) (k0 : Bool) (k1 : Bool) (k2 : Bool) (l0 : List Line) (l1 : List Line) (l2 : List Line) (c0 : Int) (c1 : Int) (c2 : Int) (q : Int) (di : Bool) (jtems : List Item) (j0 : Bool) (j1 : Bool) (j2 : Bool) (m0 : List Line) (m1 : List Line) (m2 : List Line) (d0 : Int) (d1 : Int) (d2 : Int) (i : Nat) : Prop := i ≤ items.length ∧ items.length ≤ 9223372036854775807 ∧ items.length = jtems.length
def sameStRl_S : LoopR RC sameStRl_St where
  k := 2
  canon q := sameStRl_c q.p q.ci q.items q.k0 q.k1 q.k2 q.l0 q.l1 q.l2 q.c0 q.c1 q.c2 q.q q.di q.jtems q.j0 q.j1 q.j2 q.m0 q.m1 q.m2 q.d0 q.d1 q.d2 q.i
  objs q := sameStRl_o q.p q.ci q.items q.k0 q.k1 q.k2 q.l0 q.l1 q.l2 q.c0 q.c1 q.c2 q.q q.di q.jtems q.j0 q.j1 q.j2 q.m0 q.m1 q.m2 q.d0 q.d1 q.d2 q.i
  fin q := sameStRl_fin q.p q.ci q.items q.k0 q.k1 q.k2 q.l0 q.l1 q.l2 q.c0 q.c1 q.c2 q.q q.di q.jtems q.j0 q.j1 q.j2 q.m0 q.m1 q.m2 q.d0 q.d1 q.d2 q.i
  Inv q := sameStRl_Inv q.p q.ci q.items q.k0 q.k1 q.k2 q.l0 q.l1 q.l2 q.c0 q.c1 q.c2 q.q q.di q.jtems q.j0 q.j1 q.j2 q.m0 q.m1 q.m2 q.d0 q.d1 q.d2 q.i
  μ q := q.items.length - q.i
theorem sameStRl_round (p : Int) (ci : Bool) (items : List Item) (k0 : Bool) (k1 : Bool) (k2 : Bool) (l0 : List Line) (l1 : List Line) (l2 : List Line) (c0 : Int) (c1 : Int) (c2 : Int) (q : Int) (di : Bool) (jtems : List Item) (j0 : Bool) (j1 : Bool) (j2 : Bool) (m0 : List Line) (m1 : List Line) (m2 : List Line) (d0 : Int) (d1 : Int) (d2 : Int) (i : Nat) (hI : sameStRl_Inv p ci items k0 k1 k2 l0 l1 l2 c0 c1 c2 q di jtems j0 j1 j2 m0 m1 m2 d0 d1 d2 i) : Leaf (sameStRl_r p ci items k0 k1 k2 l0 l1 l2 c0 c1 c2 q di jtems j0 j1 j2 m0 m1 m2 d0 d1 d2 i) (LedR sameStRl_S ⟨p, ci, items, k0, k1, k2, l0, l1, l2, c0, c1, c2, q, di, jtems, j0, j1, j2, m0, m1, m2, d0, d1, d2, i⟩) := by
  rw [sameStRl_eq]
  unfold sameStRl_Inv at hI
  obtain ⟨h1, h2, h3⟩ := hI
  have hlk := lenOK_of h2
  by_cases hlt : i < items.length
  · have w_succ : IntKind.i64.wrap ((i : Int) + 1) = ((i + 1 : Nat) : Int) := by rw [wrap_id (by omega) (by omega)]; simp
    have d_lt : decide ((i : Int) < items.length) = true := by simp; omega
    have d_in : decide (0 ≤ (i : Int) ∧ (i : Int) < items.length) = true := by simp; omega
    have t_nat : ((i : Int)).toNat = i := by simp
    simp only [w_succ, d_lt, d_in, t_nat, cond_true]
    have hlt' : i < jtems.length := by omega
    have d_in' : decide (0 ≤ (i : Int) ∧ (i : Int) < jtems.length) = true := by simp; omega
    have hst := drops_step items jtems i (⟨0, 0, 0⟩ : Item) hlt h3
    simp only [d_in', cond_true, hlk, eqItem]
    generalize items.getD i (⟨0, 0, 0⟩ : Item) = x at hst ⊢
    generalize jtems.getD i (⟨0, 0, 0⟩ : Item) = w at hst ⊢
    by_cases hxy : x = w
    · simp only [hxy, decide_true, Bool.not_true, cond_false]
      exact leafR_go ⟨p, ci, items, k0, k1, k2, l0, l1, l2, c0, c1, c2, q, di, jtems, j0, j1, j2, m0, m1, m2, d0, d1, d2, i + 1⟩ ⟨hlt, h2, h3⟩ (by simp only [sameStRl_S]; omega) (by simp only [sameStRl_S, sameStRl_fin, sameStRl_o, hst, hxy, decide_true, Bool.true_and]) rfl rfl
    · simp only [hxy, decide_false, Bool.not_false, cond_true]
      exact leafR_ret (sameStRl_o p ci items k0 k1 k2 l0 l1 l2 c0 c1 c2 q di jtems j0 j1 j2 m0 m1 m2 d0 d1 d2 i) (by simp [sameStRl_S, sameStRl_fin, hst, hxy, RT.val]) rfl
  · have hi : i = items.length := by omega
    have c1 : decide ((i : Int) < items.length) = false := by simp; omega
    simp only [hlk, cond_true, c1, cond_false]
    exact leafR_exit (sameStRl_o p ci items k0 k1 k2 l0 l1 l2 c0 _ c2 q di jtems j0 j1 j2 m0 m1 m2 d0 d1 d2 i) (by simp only [sameStRl_S, sameStRl_fin, drops_end items jtems i (by omega) (by omega), RT.val, cond_true]) rfl
def sameStRl_d (env : Env RC) (os : List (Obj RC)) : Option (Bool × sameStRl_St) := match env, os with
  | [(2, .ptr 0 []), (3, .ptr 1 []), (4, .bool false), (5, .int .i64 x0)], [.var 30 (.acons (.int .i64 p) (.acons (.sl .item ci items) (.acons (.acons (.sl .line k0 l0) (.acons (.sl .line k1 l1) (.acons (.sl .line k2 l2) .anil))) (.acons (.arr .int 3 [c0, c1, c2]) .anil)))), .var 30 (.acons (.int .i64 q) (.acons (.sl .item di jtems) (.acons (.acons (.sl .line j0 m0) (.acons (.sl .line j1 m1) (.acons (.sl .line j2 m2) .anil))) (.acons (.arr .int 3 [d0, d1, d2]) .anil))))] => staticD (true) (decide (x0 = 0) && decide (items.length ≤ 9223372036854775807 ∧ items.length = jtems.length), ⟨p, ci, items, k0, k1, k2, l0, l1, l2, c0, c1, c2, q, di, jtems, j0, j1, j2, m0, m1, m2, d0, d1, d2, 0⟩)
  | _, _ => none
noncomputable def uh_3 := uh_2.addLoop 14 4 (sumR s07 [.slot 2 0, .slot 3 0] [2, 3, 4, 5] sameStRl_S sameStRl_d)
theorem uh_3_laws : FLaws Try.prog s07 uh_3 := by
  refine uh_2_laws.addRoundsR s07_laws (by kernel_rfl) sameStRl_S 40 [2, 3, 4, 5] [4] [.slot 2 0, .slot 3 0] [2, 3, 4, 5] sameStRl_d (fun q hI => ?_) ?_
  · obtain ⟨p, ci, items, k0, k1, k2, l0, l1, l2, c0, c1, c2, q, di, jtems, j0, j1, j2, m0, m1, m2, d0, d1, d2, i⟩ := q
    refine ⟨?_, ?_, sameStRl_round p ci items k0 k1 k2 l0 l1 l2 c0 c1 c2 q di jtems j0 j1 j2 m0 m1 m2 d0 d1 d2 i hI⟩
    · simp_all [RefsOK, sameStRl_S, sameStRl_c, sameStRl_o, sameStRl_Inv, D.refs, Obj.refs, rEnc]
    · simp_all [sameStRl_S, sameStRl_fin, sameStRl_o, sameStRl_Inv, RT.refsOK, RefsOK, D.refs, Obj.refs, rEnc]
  · intro env os b q hd_ hb
    unfold sameStRl_d at hd_
    split at hd_
    · obtain ⟨hs, hd_⟩ := staticD_some hd_
      cases hd_
      simp only [Bool.and_eq_true, decide_eq_true_eq] at hb
      obtain ⟨rfl, hl⟩ := hb
      exact ⟨⟨Nat.zero_le _, hl.1, hl.2⟩, rfl, rfl⟩
    · cases hd_
def sameStR_s (p : Int) (ci : Bool) (items : List Item) (k0 : Bool) (k1 : Bool) (k2 : Bool) (l0 : List Line) (l1 : List Line) (l2 : List Line) (c0 : Int) (c1 : Int) (c2 : Int) (q : Int) (di : Bool) (jtems : List Item) (j0 : Bool) (j1 : Bool) (j2 : Bool) (m0 : List Line) (m1 : List Line) (m2 : List Line) (d0 : Int) (d1 : Int) (d2 : Int) : Option (Bool × D RC) := some (lenOK items.length && lenOK jtems.length && (lenOK l0.length && lenOK m0.length) && (lenOK l1.length && lenOK m1.length) && (lenOK l2.length && lenOK m2.length), .bool (decide ((⟨p, items, l0, l1, l2, c0, c1, c2⟩ : St) = ⟨q, jtems, m0, m1, m2, d0, d1, d2⟩)))
def sameStR_sp : List (D RC) → Option (Bool × D RC)
  | [.acons (.int .i64 p) (.acons (.sl .item ci items) (.acons (.acons (.sl .line k0 l0) (.acons (.sl .line k1 l1) (.acons (.sl .line k2 l2) .anil))) (.acons (.arr .int 3 [c0, c1, c2]) .anil))), .acons (.int .i64 q) (.acons (.sl .item di jtems) (.acons (.acons (.sl .line j0 m0) (.acons (.sl .line j1 m1) (.acons (.sl .line j2 m2) .anil))) (.acons (.arr .int 3 [d0, d1, d2]) .anil)))] => sameStR_s p ci items k0 k1 k2 l0 l1 l2 c0 c1 c2 q di jtems j0 j1 j2 m0 m1 m2 d0 d1 d2
  | _ => none
noncomputable def sameStR_e (p : Int) (ci : Bool) (items : List Item) (k0 : Bool) (k1 : Bool) (k2 : Bool) (l0 : List Line) (l1 : List Line) (l2 : List Line) (c0 : Int) (c1 : Int) (c2 : Int) (q : Int) (di : Bool) (jtems : List Item) (j0 : Bool) (j1 : Bool) (j2 : Bool) (m0 : List Line) (m1 : List Line) (m2 : List Line) (d0 : Int) (d1 : Int) (d2 : Int) := evF s07 uh_3 40 14 [.acons (.int .i64 p) (.acons (.sl (C := RC) .item ci items) (.acons (.acons (.sl (C := RC) .line k0 l0) (.acons (.sl (C := RC) .line k1 l1) (.acons (.sl (C := RC) .line k2 l2) .anil))) (.acons (.arr (C := RC) .int 3 [c0, c1, c2]) .anil))), .acons (.int .i64 q) (.acons (.sl (C := RC) .item di jtems) (.acons (.acons (.sl (C := RC) .line j0 m0) (.acons (.sl (C := RC) .line j1 m1) (.acons (.sl (C := RC) .line j2 m2) .anil))) (.acons (.arr (C := RC) .int 3 [d0, d1, d2]) .anil)))]
theorem sameStR_eq (p : Int) (ci : Bool) (items : List Item) (k0 : Bool) (k1 : Bool) (k2 : Bool) (l0 : List Line) (l1 : List Line) (l2 : List Line) (c0 : Int) (c1 : Int) (c2 : Int) (q : Int) (di : Bool) (jtems : List Item) (j0 : Bool) (j1 : Bool) (j2 : Bool) (m0 : List Line) (m1 : List Line) (m2 : List Line) (d0 : Int) (d1 : Int) (d2 : Int) : sameStR_e p ci items k0 k1 k2 l0 l1 l2 c0 c1 c2 q di jtems j0 j1 j2 m0 m1 m2 d0 d1 d2 = (bif p != q then some (D.bool false) else bif !(c0 == d0 && (c1 == d1 && (c2 == d2 && true))) then some (D.bool false) else bif lenOK items.length then bif lenOK jtems.length then bif (↑items.length : Int) != (↑jtems.length : Int) then some (D.bool false) else bif decide (List.length items ≤ (9223372036854775807 : Nat) ∧ List.length items = List.length jtems) then bif decide (List.drop (0 : Nat) items = List.drop (0 : Nat) jtems) then bif lenOK l0.length && lenOK m0.length then bif !decide (l0 = m0) then some (D.bool false) else bif lenOK l1.length && lenOK m1.length then bif !decide (l1 = m1) then some (D.bool false) else bif lenOK l2.length && lenOK m2.length then bif !decide (l2 = m2) then some (D.bool false) else some (D.bool true) else none else none else none else some (D.bool false) else none else none else none) := by kernel_rfl
theorem sameStR_ok (p : Int) (ci : Bool) (items : List Item) (k0 : Bool) (k1 : Bool) (k2 : Bool) (l0 : List Line) (l1 : List Line) (l2 : List Line) (c0 : Int) (c1 : Int) (c2 : Int) (q : Int) (di : Bool) (jtems : List Item) (j0 : Bool) (j1 : Bool) (j2 : Bool) (m0 : List Line) (m1 : List Line) (m2 : List Line) (d0 : Int) (d1 : Int) (d2 : Int) (h : (lenOK items.length && lenOK jtems.length && (lenOK l0.length && lenOK m0.length) && (lenOK l1.length && lenOK m1.length) && (lenOK l2.length && lenOK m2.length)) = true) : sameStR_e p ci items k0 k1 k2 l0 l1 l2 c0 c1 c2 q di jtems j0 j1 j2 m0 m1 m2 d0 d1 d2 = some (.bool (decide ((⟨p, items, l0, l1, l2, c0, c1, c2⟩ : St) = ⟨q, jtems, m0, m1, m2, d0, d1, d2⟩))) := by
  rw [sameStR_eq]
  simp only [Bool.and_eq_true] at h
  obtain ⟨⟨⟨⟨a1, a2⟩, b1, b2⟩, b3, b4⟩, b5, b6⟩ := h
  have hl := lenOK_le a1
  simp only [a1, a2, b1, b2, b3, b4, b5, b6, Bool.and_true, cond_true]
  by_cases h0 : items.length = jtems.length
  · have e1 : ((items.length : Int) != (jtems.length : Int)) = false := by simp [h0]
    have e2 : (items.length ≤ 9223372036854775807 ∧ items.length = jtems.length) := ⟨hl, h0⟩
    rw [e1, decide_eq_true e2]
    by_cases h1 : l0 = m0 <;> by_cases h2 : l1 = m1 <;> by_cases h3 : l2 = m2 <;> by_cases h4 : p = q <;> by_cases h5 : c0 = d0 <;> by_cases h6 : c1 = d1 <;> by_cases h7 : c2 = d2 <;> by_cases h8 : items = jtems <;> simp [h1, h2, h3, h4, h5, h6, h7, h8, bne, beqD]
  · have e1 : ((items.length : Int) != (jtems.length : Int)) = true := by simp; omega
    have h8 : ¬ items = jtems := fun e => h0 (by rw [e])
    rw [e1]
    by_cases h4 : p = q <;> by_cases h5 : c0 = d0 <;> by_cases h6 : c1 = d1 <;> by_cases h7 : c2 = d2 <;> simp [h4, h5, h6, h7, h8, bne, beqD]
noncomputable def uh_4 := uh_3.addSpec 14 sameStR_sp
theorem uh_4_laws : FLaws Try.prog s07 uh_4 := uh_3_laws.addEv s07_laws fun args d h => by
  unfold sameStR_sp at h
  split at h
  · unfold sameStR_s at h
    have h1 := congrArg Prod.fst (Option.some.inj h)
    obtain rfl : _ = d := congrArg Prod.snd (Option.some.inj h)
    exact ⟨by simp [D.refs], 40, sameStR_ok _ _ _ _ _ _ _ _ _ _ _ _ _ _ _ _ _ _ _ _ _ _ _ _ h1⟩
  · cases h
structure Rd where
  c : Bool
  b : List UInt8
  bad : Bool
def rget (w : Nat) (r : Rd) : Int × Rd := if w ≤ r.b.length then ((leVal (r.b.take w) : Int), ⟨r.c, r.b.drop w, r.bad⟩) else (0, ⟨true, [], true⟩)
theorem rget_ok {w : Nat} {c bad : Bool} {b : List UInt8} (h : w ≤ b.length) : rget w ⟨c, b, bad⟩ = ((leVal (b.take w) : Int), ⟨c, b.drop w, bad⟩) := by simp [rget, h]
theorem rget_no {w : Nat} {c bad : Bool} {b : List UInt8} (h : b.length < w) : rget w ⟨c, b, bad⟩ = (0, ⟨true, [], true⟩) := by simp [rget, Nat.not_le.2 h]
theorem getP_snd1 (b : List UInt8) : ((getP b 0 1).2 != 0) = decide (b.length < 1) := by
  by_cases h : b.length < 1
  · have : ¬ ((1 : Int) ≤ b.length) := by omega
    simp only [getP, h]; simp [this]
  · have : ((1 : Int) ≤ b.length) := by omega
    simp only [getP, h]; simp [this]
theorem getP_snd3 (b : List UInt8) : ((getP b 0 3).2 != 0) = decide (b.length < 3) := by
  by_cases h : b.length < 3
  · have : ¬ ((3 : Int) ≤ b.length) := by omega
    simp only [getP, h]; simp [this]
  · have : ((3 : Int) ≤ b.length) := by omega
    simp only [getP, h]; simp [this]
theorem getP_fst1 {b : List UInt8} (h : ¬ b.length < 1) : (getP b 0 1).1 = (leVal (b.take 1) : Int) := by
  have : ((1 : Int) ≤ b.length) := by omega
  simp only [getP]; simp [this]
theorem getP_fst3 {b : List UInt8} (h : ¬ b.length < 3) : (getP b 0 3).1 = (leVal (b.take 3) : Int) := by
  have : ((3 : Int) ≤ b.length) := by omega
  simp only [getP]; simp [this]
theorem leVal_take1 {b : List UInt8} (h : 1 ≤ b.length) : leVal (b.take 1) = (b.getD 0 0).toNat := by
  cases b with
  | nil => simp at h
  | cons x t => simp [leVal]
theorem rget_bad {w : Nat} {r : Rd} (h : r.bad = true) : (rget w r).2.bad = true := by
  unfold rget; split <;> simp [h]
def sget (w : Nat) (b : List UInt8) : Option (Int × List UInt8) := if w ≤ b.length then some ((leVal (b.take w) : Int), b.drop w) else none
def sItems : Nat → List UInt8 → Option (List Item × List UInt8)
  | 0, b => some ([], b)
  | n + 1, b => (sget 1 b).bind fun k => (sget 3 k.2).bind fun p => (sget 1 p.2).bind fun v => (sItems n v.2).bind fun q => some (⟨k.1, p.1, v.1⟩ :: q.1, q.2)
def sLines : Nat → Int → List UInt8 → Option (List Line × List UInt8)
  | 0, _, b => some ([], b)
  | n + 1, o, b => (sget 3 b).bind fun p => (sget 1 p.2).bind fun x => (sget 1 x.2).bind fun v => (sLines n (o + 1) v.2).bind fun q => some (⟨o, p.1, x.1 % 16, x.1 / 16, v.1⟩ :: q.1, q.2)
def sPart (b : List UInt8) : Option ((Int × List Line) × List UInt8) :=
  (sget 3 b).bind fun c => (sget 1 c.2).bind fun n => (sget 3 n.2).bind fun f => if n.1 = 0 ∧ f.1 ≠ 0 then none else (sLines n.1.toNat f.1 f.2).bind fun q => some ((c.1, q.1), q.2)
def readS (b : List UInt8) : Option St :=
  (sget 3 b).bind fun p => (sget 1 p.2).bind fun n => (sItems n.1.toNat n.2).bind fun it => (sPart it.2).bind fun x => (sPart x.2).bind fun y => (sPart y.2).bind fun z =>
    if z.2 = [] ∧ standsOK ⟨p.1, it.1, x.1.2, y.1.2, z.1.2, x.1.1, y.1.1, z.1.1⟩ = true then some ⟨p.1, it.1, x.1.2, y.1.2, z.1.2, x.1.1, y.1.1, z.1.1⟩ else none
structure Rdr (σ : Type) where
  get : Nat → σ → Int × σ
  bad : σ → Bool
  rem : σ → List UInt8
structure RdrOK {σ : Type} (R : Rdr σ) : Prop where
  ok : ∀ w s, 1 ≤ w → R.bad s = false → w ≤ (R.rem s).length → (R.get w s).1 = (leVal ((R.rem s).take w) : Int) ∧ R.rem (R.get w s).2 = (R.rem s).drop w ∧ R.bad (R.get w s).2 = false
  no : ∀ w s, R.bad s = false → (R.rem s).length < w → R.bad (R.get w s).2 = true
  stay : ∀ w s, R.bad s = true → R.bad (R.get w s).2 = true
section
variable {σ : Type} (R : Rdr σ)
def Agree {α : Type} (o : Option (α × List UInt8)) (v : α) (s : σ) : Prop := match o with
  | some q => v = q.1 ∧ R.rem s = q.2 ∧ R.bad s = false
  | none => R.bad s = true
variable {R} (K : RdrOK R)
include K
theorem agree_get (w : Nat) (s : σ) (h : R.bad s = false) (h1 : 1 ≤ w := by decide) : Agree R (sget w (R.rem s)) (R.get w s).1 (R.get w s).2 := by
  unfold sget
  by_cases hw : w ≤ (R.rem s).length
  · rw [if_pos hw]; exact K.ok w s h1 h hw
  · rw [if_neg hw]; exact K.no w s h (by omega)
omit K in
theorem agree_bind {α β : Type} {o : Option (α × List UInt8)} {v : α} {s s' : σ} {w : β} (f : α × List UInt8 → Option (β × List UInt8)) (h : Agree R o v s) (hs : R.bad s = true → R.bad s' = true) (hf : R.bad s = false → Agree R (f (v, R.rem s)) w s') : Agree R (o.bind f) w s' := by
  cases o with
  | none => exact hs h
  | some q =>
    obtain ⟨h1, h2, h3⟩ := h
    have := hf h3
    rw [h1, h2] at this
    exact this
def gItems (R : Rdr σ) (stop : Bool) : Nat → σ → σ × List Item
  | 0, s => (s, [])
  | n + 1, s => bif stop && R.bad s then (s, []) else
    let k := R.get 1 s
    let p := R.get 3 k.2
    let v := R.get 1 p.2
    let q := gItems R stop n v.2
    (q.1, ⟨k.1, p.1, v.1⟩ :: q.2)
def gLines (R : Rdr σ) (stop : Bool) : Nat → Int → σ → σ × List Line
  | 0, _, s => (s, [])
  | n + 1, o, s => bif stop && R.bad s then (s, []) else
    let p := R.get 3 s
    let x := R.get 1 p.2
    let v := R.get 1 x.2
    let q := gLines R stop n (o + 1) v.2
    (q.1, ⟨o, p.1, x.1 % 16, x.1 / 16, v.1⟩ :: q.2)
theorem gItems_stay (stop : Bool) : ∀ (n : Nat) (s : σ), R.bad s = true → R.bad (gItems R stop n s).1 = true
  | 0, s, h => h
  | n + 1, s, h => by
    cases stop with
    | true => simp [gItems, h]
    | false =>
      simp only [gItems, Bool.false_and, cond_false]
      exact gItems_stay false n _ (K.stay _ _ (K.stay _ _ (K.stay _ _ h)))
theorem gLines_stay (stop : Bool) : ∀ (n : Nat) (o : Int) (s : σ), R.bad s = true → R.bad (gLines R stop n o s).1 = true
  | 0, o, s, h => h
  | n + 1, o, s, h => by
    cases stop with
    | true => simp [gLines, h]
    | false =>
      simp only [gLines, Bool.false_and, cond_false]
      exact gLines_stay false n _ _ (K.stay _ _ (K.stay _ _ (K.stay _ _ h)))
theorem gItems_agree (stop : Bool) : ∀ (n : Nat) (s : σ), R.bad s = false → Agree R (sItems n (R.rem s)) (gItems R stop n s).2 (gItems R stop n s).1
  | 0, s, h => ⟨rfl, rfl, h⟩
  | n + 1, s, h => by
    have e : gItems R stop (n + 1) s = ((gItems R stop n (R.get 1 (R.get 3 (R.get 1 s).2).2).2).1, ⟨(R.get 1 s).1, (R.get 3 (R.get 1 s).2).1, (R.get 1 (R.get 3 (R.get 1 s).2).2).1⟩ :: (gItems R stop n (R.get 1 (R.get 3 (R.get 1 s).2).2).2).2) := by
      simp [gItems, h]
    rw [e, sItems]
    refine agree_bind _ (agree_get K 1 s h) (fun hb => gItems_stay K stop n _ (K.stay _ _ (K.stay _ _ hb))) fun h1 => ?_
    refine agree_bind _ (agree_get K 3 _ h1) (fun hb => gItems_stay K stop n _ (K.stay _ _ hb)) fun h2 => ?_
    refine agree_bind _ (agree_get K 1 _ h2) (fun hb => gItems_stay K stop n _ hb) fun h3 => ?_
    refine agree_bind _ (gItems_agree stop n _ h3) (fun hb => hb) fun h4 => ?_
    exact ⟨rfl, rfl, h4⟩
theorem gLines_agree (stop : Bool) : ∀ (n : Nat) (o : Int) (s : σ), R.bad s = false → Agree R (sLines n o (R.rem s)) (gLines R stop n o s).2 (gLines R stop n o s).1
  | 0, o, s, h => ⟨rfl, rfl, h⟩
  | n + 1, o, s, h => by
    have e : gLines R stop (n + 1) o s = ((gLines R stop n (o + 1) (R.get 1 (R.get 1 (R.get 3 s).2).2).2).1, ⟨o, (R.get 3 s).1, (R.get 1 (R.get 3 s).2).1 % 16, (R.get 1 (R.get 3 s).2).1 / 16, (R.get 1 (R.get 1 (R.get 3 s).2).2).1⟩ :: (gLines R stop n (o + 1) (R.get 1 (R.get 1 (R.get 3 s).2).2).2).2) := by
      simp [gLines, h]
    rw [e, sLines]
    refine agree_bind _ (agree_get K 3 s h) (fun hb => gLines_stay K stop n _ _ (K.stay _ _ (K.stay _ _ hb))) fun h1 => ?_
    refine agree_bind _ (agree_get K 1 _ h1) (fun hb => gLines_stay K stop n _ _ (K.stay _ _ hb)) fun h2 => ?_
    refine agree_bind _ (agree_get K 1 _ h2) (fun hb => gLines_stay K stop n _ _ hb) fun h3 => ?_
    refine agree_bind _ (gLines_agree stop n _ _ h3) (fun hb => hb) fun h4 => ?_
    exact ⟨rfl, rfl, h4⟩
def gPart (R : Rdr σ) (stop : Bool) (mark : σ → σ) (s : σ) : σ × Int × List Line :=
  let c := R.get 3 s
  let n := R.get 1 c.2
  let f := R.get 3 n.2
  let q := gLines R stop n.1.toNat f.1 (bif n.1 == 0 && f.1 != 0 then mark f.2 else f.2)
  (q.1, c.1, q.2)
theorem gPart_stay (stop : Bool) (mark : σ → σ) (hm : ∀ s, R.bad (mark s) = true) (s : σ) (h : R.bad s = true) : R.bad (gPart R stop mark s).1 = true := by
  unfold gPart
  refine gLines_stay K stop _ _ _ ?_
  cases ((R.get 1 (R.get 3 s).2).1 == 0 && (R.get 3 (R.get 1 (R.get 3 s).2).2).1 != 0) with
  | true => exact hm _
  | false => exact K.stay _ _ (K.stay _ _ (K.stay _ _ h))
theorem gPart_agree (stop : Bool) (mark : σ → σ) (hm : ∀ s, R.bad (mark s) = true) (s : σ) (h : R.bad s = false) : Agree R (sPart (R.rem s)) (gPart R stop mark s).2 (gPart R stop mark s).1 := by
  have st : ∀ x : σ, R.bad x = true → ∀ b : Bool, R.bad (bif b then mark x else x) = true := fun x hx b => by cases b; exact hx; exact hm x
  unfold sPart gPart
  refine agree_bind _ (agree_get K 3 s h) (fun hb => gLines_stay K stop _ _ _ (st _ (K.stay _ _ (K.stay _ _ hb)) _)) fun h1 => ?_
  refine agree_bind _ (agree_get K 1 _ h1) (fun hb => gLines_stay K stop _ _ _ (st _ (K.stay _ _ hb) _)) fun h2 => ?_
  refine agree_bind _ (agree_get K 3 _ h2) (fun hb => gLines_stay K stop _ _ _ (st _ hb _)) fun h3 => ?_
  by_cases hc : (R.get 1 (R.get 3 s).2).1 = 0 ∧ (R.get 3 (R.get 1 (R.get 3 s).2).2).1 ≠ 0
  · have e : ((R.get 1 (R.get 3 s).2).1 == 0 && (R.get 3 (R.get 1 (R.get 3 s).2).2).1 != 0) = true := by simp [hc.1, hc.2]
    simp only [if_pos hc, e, cond_true]
    exact gLines_stay K stop _ _ _ (hm _)
  · have e : ((R.get 1 (R.get 3 s).2).1 == 0 && (R.get 3 (R.get 1 (R.get 3 s).2).2).1 != 0) = false := by
      cases hq : ((R.get 1 (R.get 3 s).2).1 == 0 && (R.get 3 (R.get 1 (R.get 3 s).2).2).1 != 0) with
      | false => rfl
      | true => simp only [Bool.and_eq_true, beq_iff_eq, bne_iff_ne, ne_eq] at hq; exact (hc hq).elim
    simp only [if_neg hc, e, cond_false]
    refine agree_bind _ (gLines_agree K stop _ _ _ h3) (fun hb => hb) fun h4 => ?_
    exact ⟨rfl, rfl, h4⟩
def gState (R : Rdr σ) (stop : Bool) (mark : σ → σ) (s : σ) : σ × St :=
  let p := R.get 3 s
  let n := R.get 1 p.2
  let it := gItems R stop n.1.toNat n.2
  let x := gPart R stop mark it.1
  let y := gPart R stop mark x.1
  let z := gPart R stop mark y.1
  (z.1, ⟨p.1, it.2, x.2.2, y.2.2, z.2.2, x.2.1, y.2.1, z.2.1⟩)
def sState (b : List UInt8) : Option (St × List UInt8) :=
  (sget 3 b).bind fun p => (sget 1 p.2).bind fun n => (sItems n.1.toNat n.2).bind fun it => (sPart it.2).bind fun x => (sPart x.2).bind fun y => (sPart y.2).bind fun z =>
    some (⟨p.1, it.1, x.1.2, y.1.2, z.1.2, x.1.1, y.1.1, z.1.1⟩, z.2)
theorem gState_agree (stop : Bool) (mark : σ → σ) (hm : ∀ s, R.bad (mark s) = true) (s : σ) (h : R.bad s = false) : Agree R (sState (R.rem s)) (gState R stop mark s).2 (gState R stop mark s).1 := by
  have ps := gPart_stay K stop mark hm
  unfold sState gState
  refine agree_bind _ (agree_get K 3 s h) (fun hb => ps _ (ps _ (ps _ (gItems_stay K stop _ _ (K.stay _ _ hb))))) fun h1 => ?_
  refine agree_bind _ (agree_get K 1 _ h1) (fun hb => ps _ (ps _ (ps _ (gItems_stay K stop _ _ hb)))) fun h2 => ?_
  refine agree_bind _ (gItems_agree K stop _ _ h2) (fun hb => ps _ (ps _ (ps _ hb))) fun h3 => ?_
  refine agree_bind _ (gPart_agree K stop mark hm _ h3) (fun hb => ps _ (ps _ hb)) fun h4 => ?_
  refine agree_bind _ (gPart_agree K stop mark hm _ h4) (fun hb => ps _ hb) fun h5 => ?_
  refine agree_bind _ (gPart_agree K stop mark hm _ h5) (fun hb => hb) fun h6 => ?_
  exact ⟨rfl, rfl, h6⟩
omit K in
theorem readS_eq (b : List UInt8) : readS b = match sState b with
    | some q => if q.2 = [] ∧ standsOK q.1 = true then some q.1 else none
    | none => none := by
  unfold readS sState
  cases sget 3 b with
  | none => rfl
  | some p =>
    simp only [Option.bind_some]
    cases sget 1 p.2 with
    | none => rfl
    | some n =>
      simp only [Option.bind_some]
      cases sItems n.1.toNat n.2 with
      | none => rfl
      | some it =>
        simp only [Option.bind_some]
        cases sPart it.2 with
        | none => rfl
        | some x =>
          simp only [Option.bind_some]
          cases sPart x.2 with
          | none => rfl
          | some y =>
            simp only [Option.bind_some]
            cases sPart y.2 with
            | none => rfl
            | some z => rfl
theorem gState_read (stop : Bool) (mark : σ → σ) (hm : ∀ s, R.bad (mark s) = true) (s : σ) (h : R.bad s = false) :
    readS (R.rem s) = if R.bad (gState R stop mark s).1 = false ∧ R.rem (gState R stop mark s).1 = [] ∧ standsOK (gState R stop mark s).2 = true then some (gState R stop mark s).2 else none := by
  have := gState_agree K stop mark hm s h
  rw [readS_eq]
  cases hq : sState (R.rem s) with
  | none =>
    rw [hq] at this
    have hb : R.bad (gState R stop mark s).1 = true := this
    simp [hb]
  | some q =>
    rw [hq] at this
    obtain ⟨h1, h2, h3⟩ := this
    rw [h1, h2, h3]
    simp
end
def rdP : Rdr Rd := ⟨rget, Rd.bad, Rd.b⟩
theorem rdP_ok : RdrOK rdP where
  ok w s h1 h hw := by
    obtain ⟨c, b, bad⟩ := s
    simp only [rdP] at h hw ⊢
    subst h
    rw [rget_ok hw]; exact ⟨rfl, rfl, rfl⟩
  no w s h hw := by
    obtain ⟨c, b, bad⟩ := s
    simp only [rdP] at hw ⊢
    rw [rget_no hw]
  stay w s h := rget_bad h
structure Rn where
  pos : Nat
  short : Bool
def addL {α : Type} (q k : Int) (l x : List α) : List α := if q = k then l ++ x else l
structure QS (σ : Type) where
  r : σ
  l0 : List Line
  l1 : List Line
  l2 : List Line
  c0 : Int
  c1 : Int
  c2 : Int
section
variable {σ : Type} (R : Rdr σ) (stop : Bool) (mark : σ → σ)
def part0 (s : QS σ) : QS σ := { s with r := (gPart R stop mark s.r).1, l0 := s.l0 ++ (gPart R stop mark s.r).2.2, c0 := (gPart R stop mark s.r).2.1 }
def part1 (s : QS σ) : QS σ := { s with r := (gPart R stop mark s.r).1, l1 := s.l1 ++ (gPart R stop mark s.r).2.2, c1 := (gPart R stop mark s.r).2.1 }
def part2 (s : QS σ) : QS σ := { s with r := (gPart R stop mark s.r).1, l2 := s.l2 ++ (gPart R stop mark s.r).2.2, c2 := (gPart R stop mark s.r).2.1 }
def runQ : Nat → QS σ → QS σ
  | 0, s => part2 R stop mark (part1 R stop mark (part0 R stop mark s))
  | 1, s => part2 R stop mark (part1 R stop mark s)
  | 2, s => part2 R stop mark s
  | _, s => s
end
def markP (r : Rd) : Rd := ⟨r.c, r.b, true⟩
theorem gLines_len {σ : Type} (R : Rdr σ) (stop : Bool) : ∀ (n : Nat) (o : Int) (s : σ), (gLines R stop n o s).2.length ≤ n
  | 0, _, _ => Nat.le_refl _
  | n + 1, o, s => by
    simp only [gLines]
    cases stop && R.bad s with
    | true => simp
    | false => have := gLines_len R stop n (o + 1) (R.get 1 (R.get 1 (R.get 3 s).2).2).2; simp; omega
theorem and15 (m : Nat) (hm : m < 2 ^ 63) : bits .i64 (fun _ u v => u &&& v) (m : Int) 15 = (m : Int) % 16 := by
  unfold bits
  have h1 : ∀ x : Nat, x < 2 ^ 64 → (BitVec.ofInt IntKind.i64.bits (x : Int)).toNat = x := by
    intro x hx
    rw [BitVec.toNat_ofInt]
    simp only [IntKind.bits]
    omega
  have e : (15 : Int) = ((15 : Nat) : Int) := rfl
  rw [e, BitVec.toNat_and, h1 _ (by omega), h1 _ (by omega)]
  have h2 : m &&& 15 = m % 16 := Nat.and_two_pow_sub_one_eq_mod m 4
  rw [h2, wrap_id (by omega) (by omega)]
  omega
theorem gItemsP_succ (k : Nat) (s : Rd) : gItems rdP false (k + 1) s = ((gItems rdP false k (rget 1 (rget 3 (rget 1 s).2).2).2).1, ⟨(rget 1 s).1, (rget 3 (rget 1 s).2).1, (rget 1 (rget 3 (rget 1 s).2).2).1⟩ :: (gItems rdP false k (rget 1 (rget 3 (rget 1 s).2).2).2).2) := rfl
theorem gLinesP_succ (k : Nat) (o : Int) (s : Rd) : gLines rdP false (k + 1) o s = ((gLines rdP false k (o + 1) (rget 1 (rget 1 (rget 3 s).2).2).2).1, ⟨o, (rget 3 s).1, (rget 1 (rget 3 s).2).1 % 16, (rget 1 (rget 3 s).2).1 / 16, (rget 1 (rget 1 (rget 3 s).2).2).1⟩ :: (gLines rdP false k (o + 1) (rget 1 (rget 1 (rget 3 s).2).2).2).2) := rfl
end Go.Ev
