/-
  WalTail returns true for any disk and place, and they read behind the call as before. No condition beyond the given statement. (text 5)
-/
import Derived.Test.YtbflnilnlangpaaP3
import Derived.OpenShut
import Derived.ReadAgain
import Derived.WalkKit
import Derived.ProofKit
import Derived.Test.YtbflnilnlangpaaRows
namespace Go.Ev
open Go.Proofs
set_option maxRecDepth 100000
set_option linter.unusedVariables false
set_option linter.unusedSimpArgs false
structure rowRl_St where
  c : Bool
  l : List Sector
  i : Nat
def rowRl_c (c : Bool) (l : List Sector) (i : Nat) : Env RC := [(0, .sl (C := RC) .sector c l), (2, .bool false), (3, .int .i64 (i : Int))]
def rowRl_o (c : Bool) (l : List Sector) (i : Nat) : List (Obj RC) := []
noncomputable def rowRl_r (c : Bool) (l : List Sector) (i : Nat) := rndO s06 uu_8 63 4 40 0 [0, 2, 3] [2] [] (rowRl_c c l i) (rowRl_o c l i)
theorem rowRl_eq (c : Bool) (l : List Sector) (i : Nat) : rowRl_r c l i = (let Z0 : Int := (↑i : Int); let Z1 : Bool := decide ((0 : Int) ≤ Z0 ∧ Z0 < (↑l.length : Int)); let Z2 : Sector := List.getD l Z0.toNat (Sector.mk (0 : Int) []); let Z3 : Int := Sector.n Z2; let Z4 : RO_ := some ((X.ret, [(2, D.bool false)]), []); let Z5 : Nat := List.length (Sector.b Z2); let Z6 : RO_ := some ((X.normal, [(0, D.sl RTy.sector c l), (2, D.bool false), (3, D.int .i64 (IntKind.wrap .i64 (Z0 + (1 : Int))))]), []); bif lenOK l.length then bif decide (Z0 < (↑l.length : Int)) then bif Z1 then bif decide (Z3 < (0 : Int)) then Z4 else bif Z1 then bif decide ((1048575 : Int) < Z3) then Z4 else bif Z1 then bif lenOK Z5 then bif decide ((640 : Int) < (↑Z5 : Int)) then Z4 else bif Z1 then bif Z3 == (0 : Int) then bif Z1 then bif !Sector.b Z2 == Array.toList #[] then Z4 else Z6 else none else Z6 else none else none else none else none else none else some ((X.exit (0 : Nat), [(2, D.bool false)]), []) else none) := by kernel_rfl
def rowRl_fin (c : Bool) (l : List Sector) (i : Nat) : RT RC := .br (l.drop i |>.all maySec) (.leaf (.exit 0) [(2, .bool false)] []) (.leaf .ret [(2, .bool false)] [])
def rowRl_Inv (c : Bool) (l : List Sector) (i : Nat) : Prop := i ≤ l.length ∧ goodL l = true
def rowRl_S : LoopR RC rowRl_St where
  k := 0
  canon q := rowRl_c q.c q.l q.i
  objs q := rowRl_o q.c q.l q.i
  fin q := rowRl_fin q.c q.l q.i
  Inv q := rowRl_Inv q.c q.l q.i
  μ q := q.l.length - q.i
theorem rowRl_round (c : Bool) (l : List Sector) (i : Nat) (hI : rowRl_Inv c l i) : Leaf (rowRl_r c l i) (LedR rowRl_S ⟨c, l, i⟩) := by
  (rw [rowRl_eq]; conv => zeta)
  unfold rowRl_Inv at hI
  obtain ⟨h1, hg⟩ := hI
  have h2 := (goodL_iff.1 hg).1
  have hlk0 : lenOK l.length = true := lenOK_of h2
  by_cases hlt : i < l.length
  · have w_succ : IntKind.i64.wrap ((i : Int) + 1) = ((i + 1 : Nat) : Int) := by rw [wrap_id (by omega) (by omega)]; simp
    have d_lt : decide ((i : Int) < l.length) = true := by simp; omega
    have d_in : decide (0 ≤ (i : Int) ∧ (i : Int) < l.length) = true := by simp; omega
    have t_nat : ((i : Int)).toNat = i := by simp
    simp only [w_succ, d_lt, d_in, t_nat, cond_true]
    have hlk := goodL_at hg i hlt (⟨0, []⟩ : Sector)
    have hst := all_drop_step l maySec i hlt (⟨0, []⟩ : Sector)
    generalize l.getD i (⟨0, []⟩ : Sector) = x at hst hlk ⊢
    simp only [hlk0, hlk, cond_true]
    have hgo : maySec x = true → Leaf (some ((X.normal, rowRl_c c l (i + 1)), [])) (LedR rowRl_S ⟨c, l, i⟩) := fun e =>
      leafR_go ⟨c, l, i + 1⟩ ⟨hlt, hg⟩ (by simp only [rowRl_S]; omega) (by simp [rowRl_S, rowRl_fin, hst, e]) rfl rfl
    have hno : maySec x = false → Leaf (some ((X.ret, [(2, D.bool false)]), [])) (LedR rowRl_S ⟨c, l, i⟩) := fun e => leafR_ret [] (by simp [rowRl_S, rowRl_fin, hst, e, RT.val]) rfl
    have hm : maySec x = (decide (0 ≤ x.n) && decide (x.n ≤ 1048575) && decide (x.b.length ≤ 640) && (decide (0 < x.n) || x.b == [])) := rfl
    rw [hm] at hgo hno
    repeat' (refine leaf_cond.2 ⟨fun hc_ => ?_, fun hc_ => ?_⟩)
    all_goals first | exact hno (by clear hgo hno hst hm; simp_all <;> omega) | exact hgo (by clear hgo hno hst hm; simp_all <;> omega)
  · have hi : i = l.length := by omega
    have c1 : decide ((i : Int) < l.length) = false := by simp; omega
    rw [hlk0, c1]
    exact leafR_exit [] (by simp [rowRl_S, rowRl_fin, hi, RT.val]) rfl
def rowRl_d (env : Env RC) (os : List (Obj RC)) : Option (Bool × rowRl_St) := match env, os with
  | [(0, .sl .sector c l), (2, .bool false), (3, .int .i64 x0)], [] => staticD (true) (decide (x0 = 0) && goodL l, ⟨c, l, 0⟩)
  | _, _ => none
noncomputable def uu2_1 := uu_8.addLoop 63 4 (sumR s06 [] [0, 2, 3] rowRl_S rowRl_d)
theorem uu2_1_laws : FLaws Try.prog s06 uu2_1 := by
  refine uu_8_laws.addRoundsR s06_laws (by kernel_rfl) rowRl_S 40 [0, 2, 3] [2] [] [0, 2, 3] rowRl_d (fun q hI => ?_) ?_
  · obtain ⟨c, l, i⟩ := q
    refine ⟨?_, ?_, rowRl_round c l i hI⟩
    · simp_all [RefsOK, rowRl_S, rowRl_c, rowRl_o, rowRl_Inv, D.refs, Obj.refs, rEnc]
    · simp_all [rowRl_S, rowRl_fin, rowRl_o, rowRl_Inv, RT.refsOK, RefsOK, D.refs, Obj.refs, rEnc]
  · intro env os b q hd_ hb
    unfold rowRl_d at hd_
    split at hd_
    · obtain ⟨hs, hd_⟩ := staticD_some hd_
      cases hd_
      simp only [Bool.and_eq_true, decide_eq_true_eq] at hb
      obtain ⟨rfl, hl⟩ := hb
      exact ⟨⟨Nat.zero_le _, hl⟩, rfl, rfl⟩
    · cases hd_
def rowRf_s (c : Bool) (l : List Sector) : Option (Bool × D RC) := some (goodL l, .bool (rowOK l))
def rowRf_sp : List (D RC) → Option (Bool × D RC)
  | [.sl .sector c l] => rowRf_s c l
  | _ => none
noncomputable def rowRf_e (c : Bool) (l : List Sector) := evF s06 uu2_1 40 63 [.sl (C := RC) .sector c l]
theorem rowRf_eq (c : Bool) (l : List Sector) : rowRf_e c l = (bif lenOK l.length then bif (↑l.length : Int) != (33 : Int) then some (D.bool false) else bif goodL l then bif List.all (List.drop (0 : Nat) l) maySec then some (D.bool true) else some (D.bool false) else none else none) := by kernel_rfl
theorem rowRf_ok (c : Bool) (l : List Sector) (h : (goodL l) = true) : rowRf_e c l = some (.bool (rowOK l)) := by
  rw [rowRf_eq]
  have hl := (goodL_iff.1 h).1
  have lk := lenOK_of hl
  simp only [h, lk, rowOK, cond_true, List.drop_zero]
  by_cases e : l.length = 33
  · have e2 : ((l.length : Int) != 33) = false := by simp [e]
    cases hm : l.all maySec <;> simp [e, hm]
  · have e2 : ((l.length : Int) != 33) = true := by simp [bne]; omega
    simp [e, e2]
noncomputable def uu2_2 := uu2_1.addSpec 63 rowRf_sp
theorem uu2_2_laws : FLaws Try.prog s06 uu2_2 := uu2_1_laws.addEv s06_laws fun args d h => by
  unfold rowRf_sp at h
  split at h
  · unfold rowRf_s at h
    have h1 := congrArg Prod.fst (Option.some.inj h)
    obtain rfl : _ = d := congrArg Prod.snd (Option.some.inj h)
    exact ⟨by simp [D.refs], 40, rowRf_ok _ _ h1⟩
  · cases h
structure chkRl_St where
  c : Bool
  now : List Sector
  d : Bool
  sure : List Sector
  i : Nat
def chkRl_c (c : Bool) (now : List Sector) (d : Bool) (sure : List Sector) (i : Nat) : Env RC := [(1, .ptr 0 []), (2, .int .i64 0), (3, .int .i64 (i : Int))]
def chkRl_o (c : Bool) (now : List Sector) (d : Bool) (sure : List Sector) (i : Nat) : List (Obj RC) := [.var 24 (.acons (.sl (C := RC) .sector c now) (.acons (.sl (C := RC) .sector d sure) .anil))]
noncomputable def chkRl_r (c : Bool) (now : List Sector) (d : Bool) (sure : List Sector) (i : Nat) := rndO s06 uu2_2 39 4 40 1 [1, 2, 3] [2] [.slot 1 0] (chkRl_c c now d sure i) (chkRl_o c now d sure i)
theorem chkRl_eq (c : Bool) (now : List Sector) (d : Bool) (sure : List Sector) (i : Nat) : chkRl_r c now d sure i = (let Z0 : Int := (↑i : Int); let Z1 : List (Option (Obj RC)) := [some (Obj.var 24 (.acons (D.sl RTy.sector c now) (.acons (D.sl RTy.sector d sure) .anil)))]; let Z2 : Nat × D RC := (2, D.int .i64 0); bif lenOK now.length then bif decide (Z0 < (↑now.length : Int)) then bif decide ((0 : Int) ≤ Z0 ∧ Z0 < (↑sure.length : Int)) then bif decide ((0 : Int) ≤ Z0 ∧ Z0 < (↑now.length : Int)) then bif decide (Sector.n (List.getD now Z0.toNat (Sector.mk (0 : Int) [])) < Sector.n (List.getD sure Z0.toNat (Sector.mk (0 : Int) []))) then some ((X.ret, [(2, D.int .i64 2)]), Z1) else some ((X.normal, [(1, D.ptr 0 []), Z2, (3, D.int .i64 (IntKind.wrap .i64 (Z0 + (1 : Int))))]), Z1) else none else none else some ((X.exit (0 : Nat), [Z2]), Z1) else none) := by kernel_rfl
def chkRl_fin (c : Bool) (now : List Sector) (d : Bool) (sure : List Sector) (i : Nat) : RT RC := .br (lowAt now sure i) (.leaf (.exit 0) [(2, .int .i64 0)] (chkRl_o c now d sure i)) (.leaf .ret [(2, .int .i64 2)] (chkRl_o c now d sure i))
def chkRl_Inv (c : Bool) (now : List Sector) (d : Bool) (sure : List Sector) (i : Nat) : Prop := i ≤ now.length ∧ now.length ≤ 9223372036854775807 ∧ now.length = sure.length
def chkRl_S : LoopR RC chkRl_St where
  k := 1
  canon q := chkRl_c q.c q.now q.d q.sure q.i
  objs q := chkRl_o q.c q.now q.d q.sure q.i
  fin q := chkRl_fin q.c q.now q.d q.sure q.i
  Inv q := chkRl_Inv q.c q.now q.d q.sure q.i
  μ q := q.now.length - q.i
theorem chkRl_round (c : Bool) (now : List Sector) (d : Bool) (sure : List Sector) (i : Nat) (hI : chkRl_Inv c now d sure i) : Leaf (chkRl_r c now d sure i) (LedR chkRl_S ⟨c, now, d, sure, i⟩) := by
  (rw [chkRl_eq]; conv => zeta)
  unfold chkRl_Inv at hI
  obtain ⟨h1, h2, h3⟩ := hI
  have hlk0 : lenOK now.length = true := lenOK_of h2
  by_cases hlt : i < now.length
  · have w_succ : IntKind.i64.wrap ((i : Int) + 1) = ((i + 1 : Nat) : Int) := by rw [wrap_id (by omega) (by omega)]; simp
    have d_lt : decide ((i : Int) < now.length) = true := by simp; omega
    have d_in : decide (0 ≤ (i : Int) ∧ (i : Int) < now.length) = true := by simp; omega
    have t_nat : ((i : Int)).toNat = i := by simp
    simp only [w_succ, d_lt, d_in, t_nat, cond_true]
    have hlt2 : i < sure.length := by omega
    have d_in2 : decide (0 ≤ (i : Int) ∧ (i : Int) < sure.length) = true := by simp; omega
    simp only [d_in2, hlk0, cond_true]
    have hst := lowAt_step (now := now) (sure := sure) i hlt (by omega) (⟨0, []⟩ : Sector)
    generalize now.getD i (⟨0, []⟩ : Sector) = x at hst ⊢
    generalize sure.getD i (⟨0, []⟩ : Sector) = y at hst ⊢
    cases a1 : decide (y.n ≤ x.n)
    · have a2 : decide (x.n < y.n) = true := by simp at a1 ⊢; exact a1
      simp only [a2, cond_true]
      exact leafR_ret (chkRl_o c now d sure i) (by simp [chkRl_S, chkRl_fin, hst, a1, RT.val]) rfl
    · have a2 : decide (x.n < y.n) = false := by simp at a1 ⊢; exact a1
      simp only [a2, cond_false]
      exact leafR_go ⟨c, now, d, sure, i + 1⟩ ⟨hlt, h2, h3⟩ (by simp only [chkRl_S]; omega) (by simp [chkRl_S, chkRl_fin, hst, a1]; rfl) rfl rfl
  · have hi : i = now.length := by omega
    have c1 : decide ((i : Int) < now.length) = false := by simp; omega
    rw [hlk0, c1]
    exact leafR_exit (chkRl_o c now d sure i) (by simp [chkRl_S, chkRl_fin, hi, lowAt_end, RT.val]) rfl
def chkRl_d (env : Env RC) (os : List (Obj RC)) : Option (Bool × chkRl_St) := match env, os with
  | [(1, .ptr 0 []), (2, .int .i64 0), (3, .int .i64 x0)], [.var 24 (.acons (.sl .sector c now) (.acons (.sl .sector d sure) .anil))] => staticD (true) (decide (x0 = 0) && decide (now.length ≤ 9223372036854775807 ∧ now.length = sure.length), ⟨c, now, d, sure, 0⟩)
  | _, _ => none
noncomputable def uu2_3 := uu2_2.addLoop 39 4 (sumR s06 [.slot 1 0] [1, 2, 3] chkRl_S chkRl_d)
theorem uu2_3_laws : FLaws Try.prog s06 uu2_3 := by
  refine uu2_2_laws.addRoundsR s06_laws (by kernel_rfl) chkRl_S 40 [1, 2, 3] [2] [.slot 1 0] [1, 2, 3] chkRl_d (fun q hI => ?_) ?_
  · obtain ⟨c, now, d, sure, i⟩ := q
    refine ⟨?_, ?_, chkRl_round c now d sure i hI⟩
    · simp_all [RefsOK, chkRl_S, chkRl_c, chkRl_o, chkRl_Inv, D.refs, Obj.refs, rEnc]
    · simp_all [chkRl_S, chkRl_fin, chkRl_o, chkRl_Inv, RT.refsOK, RefsOK, D.refs, Obj.refs, rEnc]
  · intro env os b q hd_ hb
    unfold chkRl_d at hd_
    split at hd_
    · obtain ⟨hs, hd_⟩ := staticD_some hd_
      cases hd_
      simp only [Bool.and_eq_true, decide_eq_true_eq] at hb
      obtain ⟨rfl, hl⟩ := hb
      exact ⟨⟨Nat.zero_le _, hl⟩, rfl, rfl⟩
    · cases hd_
def checkR_s (c : Bool) (now : List Sector) (d : Bool) (sure : List Sector) : Option (Bool × D RC) := some (goodL now && goodL sure, .int .i64 (bif diskOK now sure then 0 else 2))
def checkR_sp : List (D RC) → Option (Bool × D RC)
  | [.acons (.sl .sector c now) (.acons (.sl .sector d sure) .anil)] => checkR_s c now d sure
  | _ => none
noncomputable def checkR_e (c : Bool) (now : List Sector) (d : Bool) (sure : List Sector) := evF s06 uu2_3 40 39 [.acons (.sl (C := RC) .sector c now) (.acons (.sl (C := RC) .sector d sure) .anil)]
theorem checkR_eq (c : Bool) (now : List Sector) (d : Bool) (sure : List Sector) : checkR_e c now d sure = (let Z0 : DO_ := some (D.int .i64 2); bif goodL now then bif !rowOK now then Z0 else bif goodL sure then bif !rowOK sure then Z0 else bif decide (List.length now ≤ (9223372036854775807 : Nat) ∧ List.length now = List.length sure) then bif lowAt now sure (0 : Nat) then some (D.int .i64 0) else Z0 else none else none else none) := by kernel_rfl
theorem checkR_ok (c : Bool) (now : List Sector) (d : Bool) (sure : List Sector) (h : (goodL now && goodL sure) = true) : checkR_e c now d sure = some (.int .i64 (bif diskOK now sure then 0 else 2)) := by
  (rw [checkR_eq]; conv => zeta)
  rw [Bool.and_eq_true] at h
  obtain ⟨hg, hgs⟩ := h
  have hl := (goodL_iff.1 hg).1
  simp only [hg, hgs, cond_true, diskOK]
  cases h1 : rowOK now
  · rfl
  cases h2 : rowOK sure
  · rfl
  have l1 := rowOK_len h1
  have l2 := rowOK_len h2
  have e : decide (now.length ≤ 9223372036854775807 ∧ now.length = sure.length) = true := by simp; omega
  cases h3 : lowAt now sure 0 <;> simp [e]
noncomputable def uu2_4 := uu2_3.addSpec 39 checkR_sp
theorem uu2_4_laws : FLaws Try.prog s06 uu2_4 := uu2_3_laws.addEv s06_laws fun args d h => by
  unfold checkR_sp at h
  split at h
  · unfold checkR_s at h
    have h1 := congrArg Prod.fst (Option.some.inj h)
    obtain rfl : _ = d := congrArg Prod.snd (Option.some.inj h)
    exact ⟨by simp [D.refs], 40, checkR_ok _ _ _ _ h1⟩
  · cases h
structure secRl_St where
  c : Bool
  l : List Sector
  d : Bool
  m : List Sector
  i : Nat
def secRl_c (c : Bool) (l : List Sector) (d : Bool) (m : List Sector) (i : Nat) : Env RC := [(0, .sl (C := RC) .sector c l), (1, .sl (C := RC) .sector d m), (4, .bool false), (5, .int .i64 (i : Int))]
def secRl_o (c : Bool) (l : List Sector) (d : Bool) (m : List Sector) (i : Nat) : List (Obj RC) := []
noncomputable def secRl_r (c : Bool) (l : List Sector) (d : Bool) (m : List Sector) (i : Nat) := rndO s06 uu2_4 47 4 40 0 [0, 1, 4, 5] [4] [] (secRl_c c l d m i) (secRl_o c l d m i)
theorem secRl_eq (c : Bool) (l : List Sector) (d : Bool) (m : List Sector) (i : Nat) : secRl_r c l d m i = (let Z0 : Int := (↑i : Int); let Z1 : Sector := List.getD l Z0.toNat (Sector.mk (0 : Int) []); let Z2 : Sector := List.getD m Z0.toNat (Sector.mk (0 : Int) []); bif lenOK l.length then bif decide (Z0 < (↑l.length : Int)) then bif decide ((0 : Int) ≤ Z0 ∧ Z0 < (↑l.length : Int)) then bif decide ((0 : Int) ≤ Z0 ∧ Z0 < (↑m.length : Int)) then bif !(Sector.n Z1 == Sector.n Z2 && (Sector.b Z1 == Sector.b Z2 && true)) then some ((X.ret, [(4, D.bool false)]), []) else some ((X.normal, [(0, D.sl RTy.sector c l), (1, D.sl RTy.sector d m), (4, D.bool false), (5, D.int .i64 (IntKind.wrap .i64 (Z0 + (1 : Int))))]), []) else none else none else some ((X.exit (0 : Nat), [(4, D.bool false)]), []) else none) := by kernel_rfl
def secRl_fin (c : Bool) (l : List Sector) (d : Bool) (m : List Sector) (i : Nat) : RT RC := .br (decide (l.drop i = m.drop i)) (.leaf (.exit 0) [(4, .bool false)] []) (.leaf .ret [(4, .bool false)] [])
def secRl_Inv (c : Bool) (l : List Sector) (d : Bool) (m : List Sector) (i : Nat) : Prop := i ≤ l.length ∧ l.length ≤ 9223372036854775807 ∧ l.length = m.length
def secRl_S : LoopR RC secRl_St where
  k := 0
  canon q := secRl_c q.c q.l q.d q.m q.i
  objs q := secRl_o q.c q.l q.d q.m q.i
  fin q := secRl_fin q.c q.l q.d q.m q.i
  Inv q := secRl_Inv q.c q.l q.d q.m q.i
  μ q := q.l.length - q.i
theorem secRl_round (c : Bool) (l : List Sector) (d : Bool) (m : List Sector) (i : Nat) (hI : secRl_Inv c l d m i) : Leaf (secRl_r c l d m i) (LedR secRl_S ⟨c, l, d, m, i⟩) := by
  (rw [secRl_eq]; conv => zeta)
  unfold secRl_Inv at hI
  obtain ⟨h1, h2, h3⟩ := hI
  have hlk0 : lenOK l.length = true := lenOK_of h2
  by_cases hlt : i < l.length
  · have w_succ : IntKind.i64.wrap ((i : Int) + 1) = ((i + 1 : Nat) : Int) := by rw [wrap_id (by omega) (by omega)]; simp
    have d_lt : decide ((i : Int) < l.length) = true := by simp; omega
    have d_in : decide (0 ≤ (i : Int) ∧ (i : Int) < l.length) = true := by simp; omega
    have t_nat : ((i : Int)).toNat = i := by simp
    simp only [w_succ, d_lt, d_in, t_nat, cond_true]
    have hlt2 : i < m.length := by omega
    have d_in2 : decide (0 ≤ (i : Int) ∧ (i : Int) < m.length) = true := by simp; omega
    simp only [d_in2, hlk0, cond_true, eqSector]
    have hst := drops_step l m i (⟨0, []⟩ : Sector) hlt h3
    generalize l.getD i (⟨0, []⟩ : Sector) = x at hst ⊢
    generalize m.getD i (⟨0, []⟩ : Sector) = y at hst ⊢
    by_cases hxy : x = y
    · simp only [hxy, decide_true, Bool.not_true, cond_false]
      exact leafR_go ⟨c, l, d, m, i + 1⟩ ⟨hlt, h2, h3⟩ (by simp only [secRl_S]; omega) (by simp only [secRl_S, secRl_fin, hst, hxy, decide_true, Bool.true_and]) rfl rfl
    · simp only [hxy, decide_false, Bool.not_false, cond_true]
      exact leafR_ret [] (by simp [secRl_S, secRl_fin, hst, hxy, RT.val]) rfl
  · have hi : i = l.length := by omega
    have c1 : decide ((i : Int) < l.length) = false := by simp; omega
    rw [hlk0, c1]
    exact leafR_exit [] (by simp only [secRl_S, secRl_fin, drops_end l m i (by omega) (by omega), RT.val, cond_true]) rfl
def secRl_d (env : Env RC) (os : List (Obj RC)) : Option (Bool × secRl_St) := match env, os with
  | [(0, .sl .sector c l), (1, .sl .sector d m), (4, .bool false), (5, .int .i64 x0)], [] => staticD (true) (decide (x0 = 0) && decide (l.length ≤ 9223372036854775807 ∧ l.length = m.length), ⟨c, l, d, m, 0⟩)
  | _, _ => none
noncomputable def uu2_5 := uu2_4.addLoop 47 4 (sumR s06 [] [0, 1, 4, 5] secRl_S secRl_d)
theorem uu2_5_laws : FLaws Try.prog s06 uu2_5 := by
  refine uu2_4_laws.addRoundsR s06_laws (by kernel_rfl) secRl_S 40 [0, 1, 4, 5] [4] [] [0, 1, 4, 5] secRl_d (fun q hI => ?_) ?_
  · obtain ⟨c, l, d, m, i⟩ := q
    refine ⟨?_, ?_, secRl_round c l d m i hI⟩
    · simp_all [RefsOK, secRl_S, secRl_c, secRl_o, secRl_Inv, D.refs, Obj.refs, rEnc]
    · simp_all [secRl_S, secRl_fin, secRl_o, secRl_Inv, RT.refsOK, RefsOK, D.refs, Obj.refs, rEnc]
  · intro env os b q hd_ hb
    unfold secRl_d at hd_
    split at hd_
    · obtain ⟨hs, hd_⟩ := staticD_some hd_
      cases hd_
      simp only [Bool.and_eq_true, decide_eq_true_eq] at hb
      obtain ⟨rfl, hl⟩ := hb
      exact ⟨⟨Nat.zero_le _, hl⟩, rfl, rfl⟩
    · cases hd_
def secRf_s (c : Bool) (l : List Sector) (d : Bool) (m : List Sector) : Option (Bool × D RC) := some (lenOK l.length && lenOK m.length, .bool (decide (l = m)))
def secRf_sp : List (D RC) → Option (Bool × D RC)
  | [.sl .sector c l, .sl .sector d m] => secRf_s c l d m
  | _ => none
noncomputable def secRf_e (c : Bool) (l : List Sector) (d : Bool) (m : List Sector) := evF s06 uu2_5 40 47 [.sl (C := RC) .sector c l, .sl (C := RC) .sector d m]
theorem secRf_eq (c : Bool) (l : List Sector) (d : Bool) (m : List Sector) : secRf_e c l d m = (let Z0 : Nat := List.length l; let Z1 : Nat := List.length m; bif lenOK Z0 then bif lenOK Z1 then bif (↑Z0 : Int) != (↑Z1 : Int) then some (D.bool false) else bif decide (Z0 ≤ (9223372036854775807 : Nat) ∧ Z0 = Z1) then bif decide (List.drop (0 : Nat) l = List.drop (0 : Nat) m) then some (D.bool true) else some (D.bool false) else none else none else none) := by kernel_rfl
theorem secRf_ok (c : Bool) (l : List Sector) (d : Bool) (m : List Sector) (h : (lenOK l.length && lenOK m.length) = true) : secRf_e c l d m = some (.bool (decide (l = m))) := by
  (rw [secRf_eq]; conv => zeta)
  rw [Bool.and_eq_true] at h
  obtain ⟨a1, a2⟩ := h
  have hl := lenOK_le a1
  simp only [a1, a2, cond_true]
  by_cases h0 : l.length = m.length
  · have e1 : ((l.length : Int) != (m.length : Int)) = false := by simp [h0]
    have e2 : decide (l.length ≤ 9223372036854775807 ∧ l.length = m.length) = true := decide_eq_true ⟨hl, h0⟩
    rw [e1, e2]
    by_cases h8 : l = m <;> simp [h8]
  · have e1 : ((l.length : Int) != (m.length : Int)) = true := by simp; omega
    have h8 : ¬ l = m := fun e => h0 (by rw [e])
    rw [e1]
    simp [h8]
noncomputable def uu2_6 := uu2_5.addSpec 47 secRf_sp
theorem uu2_6_laws : FLaws Try.prog s06 uu2_6 := uu2_5_laws.addEv s06_laws fun args d h => by
  unfold secRf_sp at h
  split at h
  · unfold secRf_s at h
    have h1 := congrArg Prod.fst (Option.some.inj h)
    obtain rfl : _ = d := congrArg Prod.snd (Option.some.inj h)
    exact ⟨by simp [D.refs], 40, secRf_ok _ _ _ _ h1⟩
  · cases h
structure gr1R_St where
  c : Bool
  now : List Sector
  r : D RC
  i : Nat
def gr1R_c (c : Bool) (now : List Sector) (r : D RC) (i : Nat) : Env RC := [(1, .ptr 0 []), (2, .bool false), (3, .int .i64 (i : Int))]
def gr1R_o (c : Bool) (now : List Sector) (r : D RC) (i : Nat) : List (Obj RC) := [.var 24 (.acons (.sl (C := RC) .sector c now) r)]
noncomputable def gr1R_r (c : Bool) (now : List Sector) (r : D RC) (i : Nat) := rndO s06 uu2_6 6 4 40 1 [1, 2, 3] [2] [.slot 1 0] (gr1R_c c now r i) (gr1R_o c now r i)
theorem gr1R_eq (c : Bool) (now : List Sector) (r : D RC) (i : Nat) : gr1R_r c now r i = (let Z0 : Int := (↑i : Int); let Z1 : Nat := List.length (Sector.b (List.getD now Z0.toNat (Sector.mk (0 : Int) []))); let Z2 : List (Option (Obj RC)) := [some (Obj.var 24 (.acons (D.sl RTy.sector c now) r))]; bif lenOK now.length then bif decide (Z0 < (↑now.length : Int)) then bif decide ((0 : Int) ≤ Z0 ∧ Z0 < (↑now.length : Int)) then bif lenOK Z1 then bif decide ((3000 : Int) < (↑Z1 : Int)) then some ((X.ret, [(2, D.bool true)]), Z2) else some ((X.normal, [(1, D.ptr 0 []), (2, D.bool false), (3, D.int .i64 (IntKind.wrap .i64 (Z0 + (1 : Int))))]), Z2) else none else none else some ((X.exit (0 : Nat), [(2, D.bool false)]), Z2) else none) := by kernel_rfl
def gr1R_fin (c : Bool) (now : List Sector) (r : D RC) (i : Nat) : RT RC := .br (longAt now i) (.leaf .ret [(2, .bool true)] (gr1R_o c now r i)) (.leaf (.exit 0) [(2, .bool false)] (gr1R_o c now r i))
def gr1R_Inv (c : Bool) (now : List Sector) (r : D RC) (i : Nat) : Prop := r.refs = [] ∧ i ≤ now.length ∧ goodL now = true
def gr1R_S : LoopR RC gr1R_St where
  k := 1
  canon q := gr1R_c q.c q.now q.r q.i
  objs q := gr1R_o q.c q.now q.r q.i
  fin q := gr1R_fin q.c q.now q.r q.i
  Inv q := gr1R_Inv q.c q.now q.r q.i
  μ q := q.now.length - q.i
theorem gr1R_round (c : Bool) (now : List Sector) (r : D RC) (i : Nat) (hI : gr1R_Inv c now r i) : Leaf (gr1R_r c now r i) (LedR gr1R_S ⟨c, now, r, i⟩) := by
  (rw [gr1R_eq]; conv => zeta)
  unfold gr1R_Inv at hI
  obtain ⟨h0, h1, hg⟩ := hI
  have h2 := (goodL_iff.1 hg).1
  have hlk0 : lenOK now.length = true := lenOK_of h2
  by_cases hlt : i < now.length
  · have w_succ : IntKind.i64.wrap ((i : Int) + 1) = ((i + 1 : Nat) : Int) := by rw [wrap_id (by omega) (by omega)]; simp
    have d_lt : decide ((i : Int) < now.length) = true := by simp; omega
    have d_in : decide (0 ≤ (i : Int) ∧ (i : Int) < now.length) = true := by simp; omega
    have t_nat : ((i : Int)).toNat = i := by simp
    simp only [w_succ, d_lt, d_in, t_nat, cond_true]
    have hlk := goodL_at hg i hlt (⟨0, []⟩ : Sector)
    have hst := longAt_step now i hlt (⟨0, []⟩ : Sector)
    generalize now.getD i (⟨0, []⟩ : Sector) = x at hst hlk ⊢
    simp only [hlk0, hlk, cond_true]
    cases a1 : decide (3000 < (x.b.length : Int))
    · simp only [cond_false]
      exact leafR_go ⟨c, now, r, i + 1⟩ ⟨h0, hlt, hg⟩ (by simp only [gr1R_S]; omega) (by simp [gr1R_S, gr1R_fin, hst, a1]; rfl) rfl rfl
    · simp only [cond_true]
      exact leafR_ret (gr1R_o c now r i) (by simp [gr1R_S, gr1R_fin, hst, a1, RT.val]) rfl
  · have hi : i = now.length := by omega
    have c1 : decide ((i : Int) < now.length) = false := by simp; omega
    rw [hlk0, c1]
    exact leafR_exit (gr1R_o c now r i) (by simp [gr1R_S, gr1R_fin, hi, longAt_end, RT.val]) rfl
def gr1R_d (env : Env RC) (os : List (Obj RC)) : Option (Bool × gr1R_St) := match env, os with
  | [(1, .ptr 0 []), (2, .bool false), (3, .int .i64 x0)], [.var 24 (.acons (.sl .sector c now) r)] => staticD (r.refs.isEmpty) (decide (x0 = 0) && goodL now, ⟨c, now, r, 0⟩)
  | _, _ => none
noncomputable def uu2_7 := uu2_6.addLoop 6 4 (sumR s06 [.slot 1 0] [1, 2, 3] gr1R_S gr1R_d)
theorem uu2_7_laws : FLaws Try.prog s06 uu2_7 := by
  refine uu2_6_laws.addRoundsR s06_laws (by kernel_rfl) gr1R_S 40 [1, 2, 3] [2] [.slot 1 0] [1, 2, 3] gr1R_d (fun q hI => ?_) ?_
  · obtain ⟨c, now, r, i⟩ := q
    refine ⟨?_, ?_, gr1R_round c now r i hI⟩
    · simp_all [RefsOK, gr1R_S, gr1R_c, gr1R_o, gr1R_Inv, D.refs, Obj.refs, rEnc]
    · simp_all [gr1R_S, gr1R_fin, gr1R_o, gr1R_Inv, RT.refsOK, RefsOK, D.refs, Obj.refs, rEnc]
  · intro env os b q hd_ hb
    unfold gr1R_d at hd_
    split at hd_
    · obtain ⟨hs, hd_⟩ := staticD_some hd_
      cases hd_
      simp only [Bool.and_eq_true, decide_eq_true_eq] at hb
      obtain ⟨rfl, hl⟩ := hb
      exact ⟨⟨List.isEmpty_iff.1 hs, Nat.zero_le _, hl⟩, rfl, rfl⟩
    · cases hd_
structure gr2R_St where
  q : D RC
  c : Bool
  sure : List Sector
  i : Nat
def gr2R_c (q : D RC) (c : Bool) (sure : List Sector) (i : Nat) : Env RC := [(1, .ptr 0 []), (2, .bool false), (4, .int .i64 (i : Int))]
def gr2R_o (q : D RC) (c : Bool) (sure : List Sector) (i : Nat) : List (Obj RC) := [.var 24 (.acons q (.acons (.sl (C := RC) .sector c sure) .anil))]
noncomputable def gr2R_r (q : D RC) (c : Bool) (sure : List Sector) (i : Nat) := rndO s06 uu2_7 6 9 40 1 [1, 2, 4] [2] [.slot 1 0] (gr2R_c q c sure i) (gr2R_o q c sure i)
theorem gr2R_eq (q : D RC) (c : Bool) (sure : List Sector) (i : Nat) : gr2R_r q c sure i = (let Z0 : Int := (↑i : Int); let Z1 : Nat := List.length (Sector.b (List.getD sure Z0.toNat (Sector.mk (0 : Int) []))); let Z2 : List (Option (Obj RC)) := [some (Obj.var 24 (.acons q (D.acons (D.sl RTy.sector c sure) .anil)))]; bif lenOK sure.length then bif decide (Z0 < (↑sure.length : Int)) then bif decide ((0 : Int) ≤ Z0 ∧ Z0 < (↑sure.length : Int)) then bif lenOK Z1 then bif decide ((3000 : Int) < (↑Z1 : Int)) then some ((X.ret, [(2, D.bool true)]), Z2) else some ((X.normal, [(1, D.ptr 0 []), (2, D.bool false), (4, D.int .i64 (IntKind.wrap .i64 (Z0 + (1 : Int))))]), Z2) else none else none else some ((X.exit (2 : Nat), [(2, D.bool false)]), Z2) else none) := by kernel_rfl
def gr2R_fin (q : D RC) (c : Bool) (sure : List Sector) (i : Nat) : RT RC := .br (longAt sure i) (.leaf .ret [(2, .bool true)] (gr2R_o q c sure i)) (.leaf (.exit 2) [(2, .bool false)] (gr2R_o q c sure i))
def gr2R_Inv (q : D RC) (c : Bool) (sure : List Sector) (i : Nat) : Prop := q.refs = [] ∧ i ≤ sure.length ∧ goodL sure = true
def gr2R_S : LoopR RC gr2R_St where
  k := 1
  canon q := gr2R_c q.q q.c q.sure q.i
  objs q := gr2R_o q.q q.c q.sure q.i
  fin q := gr2R_fin q.q q.c q.sure q.i
  Inv q := gr2R_Inv q.q q.c q.sure q.i
  μ q := q.sure.length - q.i
theorem gr2R_round (q : D RC) (c : Bool) (sure : List Sector) (i : Nat) (hI : gr2R_Inv q c sure i) : Leaf (gr2R_r q c sure i) (LedR gr2R_S ⟨q, c, sure, i⟩) := by
  (rw [gr2R_eq]; conv => zeta)
  unfold gr2R_Inv at hI
  obtain ⟨h0, h1, hg⟩ := hI
  have h2 := (goodL_iff.1 hg).1
  have hlk0 : lenOK sure.length = true := lenOK_of h2
  by_cases hlt : i < sure.length
  · have w_succ : IntKind.i64.wrap ((i : Int) + 1) = ((i + 1 : Nat) : Int) := by rw [wrap_id (by omega) (by omega)]; simp
    have d_lt : decide ((i : Int) < sure.length) = true := by simp; omega
    have d_in : decide (0 ≤ (i : Int) ∧ (i : Int) < sure.length) = true := by simp; omega
    have t_nat : ((i : Int)).toNat = i := by simp
    simp only [w_succ, d_lt, d_in, t_nat, cond_true]
    have hlk := goodL_at hg i hlt (⟨0, []⟩ : Sector)
    have hst := longAt_step sure i hlt (⟨0, []⟩ : Sector)
    generalize sure.getD i (⟨0, []⟩ : Sector) = x at hst hlk ⊢
    simp only [hlk0, hlk, cond_true]
    cases a1 : decide (3000 < (x.b.length : Int))
    · simp only [cond_false]
      exact leafR_go ⟨q, c, sure, i + 1⟩ ⟨h0, hlt, hg⟩ (by simp only [gr2R_S]; omega) (by simp [gr2R_S, gr2R_fin, hst, a1]; rfl) rfl rfl
    · simp only [cond_true]
      exact leafR_ret (gr2R_o q c sure i) (by simp [gr2R_S, gr2R_fin, hst, a1, RT.val]) rfl
  · have hi : i = sure.length := by omega
    have c1 : decide ((i : Int) < sure.length) = false := by simp; omega
    rw [hlk0, c1]
    exact leafR_exit (gr2R_o q c sure i) (by simp [gr2R_S, gr2R_fin, hi, longAt_end, RT.val]) rfl
def gr2R_d (env : Env RC) (os : List (Obj RC)) : Option (Bool × gr2R_St) := match env, os with
  | [(1, .ptr 0 []), (2, .bool false), (4, .int .i64 x0)], [.var 24 (.acons q (.acons (.sl .sector c sure) .anil))] => staticD (q.refs.isEmpty) (decide (x0 = 0) && goodL sure, ⟨q, c, sure, 0⟩)
  | _, _ => none
noncomputable def uu2_8 := uu2_7.addLoop 6 9 (sumR s06 [.slot 1 0] [1, 2, 4] gr2R_S gr2R_d)
theorem uu2_8_laws : FLaws Try.prog s06 uu2_8 := by
  refine uu2_7_laws.addRoundsR s06_laws (by kernel_rfl) gr2R_S 40 [1, 2, 4] [2] [.slot 1 0] [1, 2, 4] gr2R_d (fun q hI => ?_) ?_
  · obtain ⟨q, c, sure, i⟩ := q
    refine ⟨?_, ?_, gr2R_round q c sure i hI⟩
    · simp_all [RefsOK, gr2R_S, gr2R_c, gr2R_o, gr2R_Inv, D.refs, Obj.refs, rEnc]
    · simp_all [gr2R_S, gr2R_fin, gr2R_o, gr2R_Inv, RT.refsOK, RefsOK, D.refs, Obj.refs, rEnc]
  · intro env os b q hd_ hb
    unfold gr2R_d at hd_
    split at hd_
    · obtain ⟨hs, hd_⟩ := staticD_some hd_
      cases hd_
      simp only [Bool.and_eq_true, decide_eq_true_eq] at hb
      obtain ⟨rfl, hl⟩ := hb
      exact ⟨⟨List.isEmpty_iff.1 hs, Nat.zero_le _, hl⟩, rfl, rfl⟩
    · cases hd_
def greatR_s (c : Bool) (now : List Sector) (d : Bool) (sure : List Sector) : Option (Bool × D RC) := some (goodL now && goodL sure, .bool (greatD now sure))
def greatR_sp : List (D RC) → Option (Bool × D RC)
  | [.acons (.sl .sector c now) (.acons (.sl .sector d sure) .anil)] => greatR_s c now d sure
  | _ => none
noncomputable def greatR_e (c : Bool) (now : List Sector) (d : Bool) (sure : List Sector) := evF s06 uu2_8 40 6 [.acons (.sl (C := RC) .sector c now) (.acons (.sl (C := RC) .sector d sure) .anil)]
theorem greatR_eq (c : Bool) (now : List Sector) (d : Bool) (sure : List Sector) : greatR_e c now d sure = (let Z0 : DO_ := some (D.bool true); bif lenOK now.length then bif decide ((60 : Int) < (↑now.length : Int)) then Z0 else bif lenOK sure.length then bif decide ((60 : Int) < (↑sure.length : Int)) then Z0 else bif goodL now then bif longAt now (0 : Nat) then Z0 else bif goodL sure then bif longAt sure (0 : Nat) then Z0 else some (D.bool false) else none else none else none else none) := by kernel_rfl
theorem greatR_ok (c : Bool) (now : List Sector) (d : Bool) (sure : List Sector) (h : (goodL now && goodL sure) = true) : greatR_e c now d sure = some (.bool (greatD now sure)) := by
  (rw [greatR_eq]; conv => zeta)
  rw [Bool.and_eq_true] at h
  obtain ⟨hg, hgs⟩ := h
  have l1 := lenOK_of (goodL_iff.1 hg).1
  have l2 := lenOK_of (goodL_iff.1 hgs).1
  simp only [hg, hgs, l1, l2, cond_true, greatD]
  cases decide ((60 : Int) < now.length) <;> cases decide ((60 : Int) < sure.length) <;> cases longAt now 0 <;> cases longAt sure 0 <;> rfl
noncomputable def uu2_9 := uu2_8.addSpec 6 greatR_sp
theorem uu2_9_laws : FLaws Try.prog s06 uu2_9 := uu2_8_laws.addEv s06_laws fun args d h => by
  unfold greatR_sp at h
  split at h
  · unfold greatR_s at h
    have h1 := congrArg Prod.fst (Option.some.inj h)
    obtain rfl : _ = d := congrArg Prod.snd (Option.some.inj h)
    exact ⟨by simp [D.refs], 40, greatR_ok _ _ _ _ h1⟩
  · cases h
def sameR3_s (c : Bool) (now : List Sector) (d : Bool) (sure : List Sector) (c' : Bool) (now' : List Sector) (d' : Bool) (sure' : List Sector) : Option (Bool × D RC) := some (lenOK now.length && lenOK now'.length && (lenOK sure.length && lenOK sure'.length), .bool (decide (now = now') && decide (sure = sure')))
def sameR3_sp : List (D RC) → Option (Bool × D RC)
  | [.acons (.sl .sector c now) (.acons (.sl .sector d sure) .anil), .acons (.sl .sector c' now') (.acons (.sl .sector d' sure') .anil)] => sameR3_s c now d sure c' now' d' sure'
  | _ => none
noncomputable def sameR3_e (c : Bool) (now : List Sector) (d : Bool) (sure : List Sector) (c' : Bool) (now' : List Sector) (d' : Bool) (sure' : List Sector) := evF s06 uu2_9 40 23 [.acons (.sl (C := RC) .sector c now) (.acons (.sl (C := RC) .sector d sure) .anil), .acons (.sl (C := RC) .sector c' now') (.acons (.sl (C := RC) .sector d' sure') .anil)]
theorem sameR3_eq (c : Bool) (now : List Sector) (d : Bool) (sure : List Sector) (c' : Bool) (now' : List Sector) (d' : Bool) (sure' : List Sector) : sameR3_e c now d sure c' now' d' sure' = (bif lenOK now.length && lenOK now'.length then bif decide (now = now') then bif lenOK sure.length && lenOK sure'.length then some (D.bool (decide (sure = sure'))) else none else some (D.bool false) else none) := by kernel_rfl
theorem sameR3_ok (c : Bool) (now : List Sector) (d : Bool) (sure : List Sector) (c' : Bool) (now' : List Sector) (d' : Bool) (sure' : List Sector) (h : (lenOK now.length && lenOK now'.length && (lenOK sure.length && lenOK sure'.length)) = true) : sameR3_e c now d sure c' now' d' sure' = some (.bool (decide (now = now') && decide (sure = sure'))) := by
  rw [sameR3_eq]
  rw [Bool.and_eq_true] at h
  rw [h.1, h.2]
  cases decide (now = now') <;> rfl
noncomputable def uu2_10 := uu2_9.addSpec 23 sameR3_sp
theorem uu2_10_laws : FLaws Try.prog s06 uu2_10 := uu2_9_laws.addEv s06_laws fun args d h => by
  unfold sameR3_sp at h
  split at h
  · unfold sameR3_s at h
    have h1 := congrArg Prod.fst (Option.some.inj h)
    obtain rfl : _ = d := congrArg Prod.snd (Option.some.inj h)
    exact ⟨by simp [D.refs], 40, sameR3_ok _ _ _ _ _ _ _ _ h1⟩
  · cases h
def putR3_s (c : Bool) (now : List Sector) (d : Bool) (sure : List Sector) (k : Int) (n : Int) (b : List UInt8) : Option (Bool × D RC) := some (goodL now && goodL sure && lenOK b.length, .tup (.acons (.acons (.sl (C := RC) .sector (!okPut now sure k n b) (pNow now sure k n b)) (.acons (.sl (C := RC) .sector (!okPut now sure k n b) (pSure now sure k n b)) .anil)) (.acons (.int .i64 (bif okPut now sure k n b then 0 else 2)) .anil)))
def putR3_sp : List (D RC) → Option (Bool × D RC)
  | [.acons (.sl .sector c now) (.acons (.sl .sector d sure) .anil), .int .i64 k, .int .i64 n, .str b] => putR3_s c now d sure k n b
  | _ => none
noncomputable def putR3_e (c : Bool) (now : List Sector) (d : Bool) (sure : List Sector) (k : Int) (n : Int) (b : List UInt8) := evF s06 uu2_10 40 45 [.acons (.sl (C := RC) .sector c now) (.acons (.sl (C := RC) .sector d sure) .anil), .int .i64 k, .int .i64 n, .str b]
theorem putR3_eq (c : Bool) (now : List Sector) (d : Bool) (sure : List Sector) (k : Int) (n : Int) (b : List UInt8) : putR3_e c now d sure k n b = (let Z0 : D RC := D.sl RTy.sector true []; let Z1 : DO_ := some (D.tup (D.acons (D.acons Z0 (D.acons Z0 .anil)) (.acons (D.int .i64 2) .anil))); let Z2 : Nat := (0 : Nat) + List.length now; let Z3 : Nat := (0 : Nat) + List.length sure; let Z4 : List Sector := List.replicate (0 : Nat) (Sector.mk (0 : Int) []); let Z5 : Nat := List.length (Z4 ++ now); let Z6 : Bool := Nat.beq Z2 Z5; let Z7 : Bool := Z6 && decide ((0 : Int) ≤ k ∧ k < (↑Z5 : Int)); let Z8 : List Sector := List.set (Z4 ++ now) k.toNat (Sector.mk n b); let Z9 : Bool := Nat.beq Z3 (Z4 ++ sure).length; let Z10 : D RC := D.acons (D.sl RTy.sector false (Z4 ++ sure)) .anil; let Z11 : D RC := D.acons (D.int .i64 0) .anil; let Z12 : DO_ := none; bif goodL now && goodL sure then bif (bif diskOK now sure then (0 : Int) else (2 : Int)) != (0 : Int) then Z1 else bif decide (k < (0 : Int)) then Z1 else bif decide ((33 : Int) ≤ k) then Z1 else bif decide (n < (1 : Int)) then Z1 else bif decide ((1048575 : Int) < n) then Z1 else bif b == Array.toList #[] then Z1 else bif lenOK b.length then bif decide ((640 : Int) < (↑b.length : Int)) then Z1 else bif sizeOK Z2 (24 : Nat) then bif sizeOK Z3 (24 : Nat) then bif Z7 then bif Z6 then bif Z6 then bif decide (Sector.n (List.getD (Z4 ++ now) k.toNat (Sector.mk (0 : Int) [])) < n) then bif Z7 then bif Z6 then bif Nat.beq Z2 Z8.length then bif Z9 then some (D.tup (D.acons (D.acons (D.sl RTy.sector false Z8) Z10) Z11)) else Z12 else Z12 else Z12 else Z12 else bif Z6 then bif Z9 then some (D.tup (D.acons (D.acons (D.sl RTy.sector false (Z4 ++ now)) Z10) Z11)) else Z12 else Z12 else Z12 else Z12 else Z12 else Z12 else Z12 else Z12 else Z12) := by kernel_rfl
theorem putR3_ok (c : Bool) (now : List Sector) (d : Bool) (sure : List Sector) (k : Int) (n : Int) (b : List UInt8) (h : (goodL now && goodL sure && lenOK b.length) = true) : putR3_e c now d sure k n b = some (.tup (.acons (.acons (.sl (C := RC) .sector (!okPut now sure k n b) (pNow now sure k n b)) (.acons (.sl (C := RC) .sector (!okPut now sure k n b) (pSure now sure k n b)) .anil)) (.acons (.int .i64 (bif okPut now sure k n b then 0 else 2)) .anil))) := by
  (rw [putR3_eq]; conv => zeta)
  simp only [Bool.and_eq_true] at h
  obtain ⟨⟨hg, hgs⟩, hb⟩ := h
  have hgg : (goodL now && goodL sure) = true := by rw [hg, hgs]; rfl
  have no : okPut now sure k n b = false → some (D.tup (.acons (.acons (.sl (C := RC) .sector true []) (.acons (.sl (C := RC) .sector true []) .anil)) (.acons (.int .i64 2) .anil))) = some (.tup (.acons (.acons (.sl (C := RC) .sector (!okPut now sure k n b) (pNow now sure k n b)) (.acons (.sl (C := RC) .sector (!okPut now sure k n b) (pSure now sure k n b)) .anil)) (.acons (.int .i64 (bif okPut now sure k n b then 0 else 2)) .anil))) := fun e => by simp only [e, pNow, pSure]; rfl
  refine cond_of hgg ?_
  cases hd : diskOK now sure
  · exact cond_of rfl (no (okPut_not fun f => by rw [hd] at f; cases f.1))
  obtain ⟨l1, l2⟩ := diskOK_len hd
  refine cond_no rfl (cond_two (fun e => no (okPut_not fun f => by simp only [decide_eq_true_eq] at e; omega)) fun e1 => ?_)
  refine (cond_two (fun e => no (okPut_not fun f => by simp only [decide_eq_true_eq] at e; omega)) fun e2 => ?_)
  refine (cond_two (fun e => no (okPut_not fun f => by simp only [decide_eq_true_eq] at e; omega)) fun e3 => ?_)
  have mf : maySec ⟨n, b⟩ = true → n ≤ 1048575 ∧ b.length ≤ 640 := fun e => by simp only [maySec, Bool.and_eq_true, decide_eq_true_eq] at e; exact ⟨e.1.1.2, e.1.2⟩
  refine (cond_two (fun e => no (okPut_not fun f => by have := mf f.2.2.2.2.2; simp only [decide_eq_true_eq] at e; omega)) fun e4 => ?_)
  refine (cond_two (fun e => no (okPut_not fun f => f.2.2.2.2.1 (by simpa using e))) fun e5 => ?_)
  refine cond_of hb ?_
  refine (cond_two (fun e => no (okPut_not fun f => by have := mf f.2.2.2.2.2; simp only [decide_eq_true_eq] at e; omega)) fun e6 => ?_)
  simp only [decide_eq_false_iff_not] at e1 e2 e3 e4 e6
  have ok : okPut now sure k n b = true := by
    have d1 : 0 < n := by omega
    simp only [okPut, hd, maySec, Bool.true_and, Bool.and_eq_true, decide_eq_true_eq, d1, decide_true, Bool.true_or]
    exact ⟨⟨⟨⟨by omega, by omega⟩, by omega⟩, by simpa using e5⟩, ⟨⟨by omega, by omega⟩, by omega⟩, trivial⟩
  rw [ok]
  have r0 : ∀ l : List Sector, List.replicate 0 (⟨0, []⟩ : Sector) ++ l = l := fun l => rfl
  have eb : ∀ n : Nat, n.beq n = true := fun n => by simp
  have s1 : sizeOK now.length 24 = true := by simp [sizeOK]; omega
  have s2 : sizeOK sure.length 24 = true := by simp [sizeOK]; omega
  have dk : decide (0 ≤ k ∧ k < (now.length : Int)) = true := by simp; omega
  simp only [pNow, pSure, ok, cond_true, Bool.not_true, r0, Nat.zero_add, List.length_set, eb, s1, s2, dk, Bool.and_self]
  refine cond_two (fun e => ?_) fun e => ?_ <;> simp only [decide_eq_true_eq, decide_eq_false_iff_not] at e
  · have pn : putNow now k.toNat n b = now.set k.toNat ⟨n, b⟩ := if_pos e
    rw [pn]
  · have pn : putNow now k.toNat n b = now := if_neg e
    rw [pn]
noncomputable def uu2_11 := uu2_10.addSpec 45 putR3_sp
theorem uu2_11_laws : FLaws Try.prog s06 uu2_11 := uu2_10_laws.addEv s06_laws fun args d h => by
  unfold putR3_sp at h
  split at h
  · unfold putR3_s at h
    have h1 := congrArg Prod.fst (Option.some.inj h)
    obtain rfl : _ = d := congrArg Prod.snd (Option.some.inj h)
    exact ⟨by simp [D.refs], 40, putR3_ok _ _ _ _ _ _ _ h1⟩
  · cases h
structure crashRl_St where
  lost : Int
  now : List Sector
  sure : List Sector
  i : Nat
def crashRl_c (lost : Int) (now : List Sector) (sure : List Sector) (i : Nat) : Env RC := [(1, .int .u64 lost), (6, .ptr 0 []), (7, .int .i64 (i : Int))]
def crashRl_o (lost : Int) (now : List Sector) (sure : List Sector) (i : Nat) : List (Obj RC) := [.var 24 (.acons (.vs 1 (now.length)) (.acons (.vs 2 (sure.length)) .anil)), .vec (C := RC) .sector true now, .vec (C := RC) .sector true sure]
noncomputable def crashRl_r (lost : Int) (now : List Sector) (sure : List Sector) (i : Nat) := rndO s06 uu2_11 27 5 40 3 [1, 6, 7] [] [.slot 6 0, .path 0 [0], .path 0 [1]] (crashRl_c lost now sure i) (crashRl_o lost now sure i)
theorem crashRl_eq (lost : Int) (now : List Sector) (sure : List Sector) (i : Nat) : crashRl_r lost now sure i = (let Z0 : Int := (↑i : Int); let Z1 : Nat := List.length sure; let Z2 : Bool := Nat.beq Z1 Z1; let Z3 : Bool := Z2 && decide ((0 : Int) ≤ Z0 ∧ Z0 < (↑Z1 : Int)); let Z4 : Nat := List.length now; let Z5 : Bool := Nat.beq Z4 Z4; let Z6 : Bool := Z5 && decide ((0 : Int) ≤ Z0 ∧ Z0 < (↑Z4 : Int)); let Z7 : X × Env RC := (X.normal, [(1, D.int IntKind.u64 lost), (6, D.ptr 0 []), (7, D.int .i64 (IntKind.wrap .i64 (Z0 + (1 : Int))))]); let Z8 : Option (Obj RC) := some (Obj.var 24 (.acons (D.vs 1 Z4) (.acons (D.vs 2 Z1) .anil))); let Z9 : Nat := Int.toNat Z0; let Z10 : Sector := List.getD sure Z9 (Sector.mk (0 : Int) []); let Z11 : Sector := List.getD now Z9 (Sector.mk (0 : Int) []); bif decide (Z0 < (33 : Int)) then bif bits IntKind.u64 (fun (x : Nat) (u v : BitVec x) => u &&& v) (Int.fdiv lost ((2 : Int) ^ min (IntKind.wrap IntKind.u64 Z0).toNat (64 : Nat))) (1 : Int) == (1 : Int) then bif Z3 then bif Z2 then bif Z6 then bif Z5 then some (Z7, [Z8, some (Obj.vec RTy.sector true (List.set now Z9 (Sector.mk (Sector.n Z10) (Sector.b Z10)))), some (Obj.vec RTy.sector true sure)]) else none else none else none else none else bif Z6 then bif Z5 then bif Z3 then bif Z2 then some (Z7, [Z8, some (Obj.vec RTy.sector true now), some (Obj.vec RTy.sector true (List.set sure Z9 (Sector.mk (Sector.n Z11) (Sector.b Z11))))]) else none else none else none else none else some ((X.exit (0 : Nat), []), [Z8, some (Obj.vec RTy.sector true now), some (Obj.vec RTy.sector true sure)])) := by kernel_rfl
def crashRl_fin (lost : Int) (now : List Sector) (sure : List Sector) (i : Nat) : RT RC := .leaf (.exit 0) [] [.var 24 (.acons (.vs 1 (crashF lost (33 - i) i now sure).1.length) (.acons (.vs 2 (crashF lost (33 - i) i now sure).2.length) .anil)), .vec (C := RC) .sector true (crashF lost (33 - i) i now sure).1, .vec (C := RC) .sector true (crashF lost (33 - i) i now sure).2]
def crashRl_Inv (lost : Int) (now : List Sector) (sure : List Sector) (i : Nat) : Prop := i ≤ 33 ∧ now.length = 33 ∧ sure.length = 33
def crashRl_S : LoopR RC crashRl_St where
  k := 3
  canon q := crashRl_c q.lost q.now q.sure q.i
  objs q := crashRl_o q.lost q.now q.sure q.i
  fin q := crashRl_fin q.lost q.now q.sure q.i
  Inv q := crashRl_Inv q.lost q.now q.sure q.i
  μ q := 33 - q.i
theorem crashRl_round (lost : Int) (now : List Sector) (sure : List Sector) (i : Nat) (hI : crashRl_Inv lost now sure i) : Leaf (crashRl_r lost now sure i) (LedR crashRl_S ⟨lost, now, sure, i⟩) := by
  (rw [crashRl_eq]; conv => zeta)
  unfold crashRl_Inv at hI
  obtain ⟨h1, h2, h3⟩ := hI
  have eb : ∀ n : Nat, n.beq n = true := fun n => by simp
  by_cases hlt : (i : Int) < 33
  · have w_succ : IntKind.i64.wrap ((i : Int) + 1) = ((i + 1 : Nat) : Int) := by rw [wrap_id (by omega) (by omega)]; simp
    have d1 : decide ((i : Int) < 33) = true := by simp; omega
    have d2 : decide (0 ≤ (i : Int) ∧ (i : Int) < now.length) = true := by simp; omega
    have d3 : decide (0 ≤ (i : Int) ∧ (i : Int) < sure.length) = true := by simp; omega
    have t_nat : ((i : Int)).toNat = i := by simp
    have hs : 33 - i = (33 - (i + 1)) + 1 := by omega
    simp only [d1, d2, d3, eb, w_succ, t_nat, Bool.and_self, cond_true]
    refine leaf_cond.2 ⟨fun hb => ?_, fun hb => ?_⟩
    · have hb' : bitAt lost i = true := hb
      refine leafR_go ⟨lost, now.set i (sure.getD i sec0), sure, i + 1⟩ (by refine ⟨by show i + 1 ≤ 33; omega, ?_, h3⟩; rw [List.length_set]; exact h2) (by simp only [crashRl_S]; omega) ?_ (by simp [crashRl_S, crashRl_c]) (by simp [crashRl_S, crashRl_o, sec0])
      simp only [crashRl_S, crashRl_fin, hs, crashF, hb', if_true]
    · have hb' : bitAt lost i = false := hb
      refine leafR_go ⟨lost, now, sure.set i (now.getD i sec0), i + 1⟩ (by refine ⟨by show i + 1 ≤ 33; omega, h2, ?_⟩; rw [List.length_set]; exact h3) (by simp only [crashRl_S]; omega) ?_ (by simp [crashRl_S, crashRl_c]) (by simp [crashRl_S, crashRl_o, sec0])
      simp only [crashRl_S, crashRl_fin, hs, crashF, hb', Bool.false_eq_true, if_false]
  · have hi : i = 33 := by omega
    have d1 : decide ((i : Int) < 33) = false := by simp; omega
    rw [d1]
    exact leafR_exit (crashRl_o lost now sure i) (by simp [crashRl_S, crashRl_fin, crashRl_o, hi, crashF, RT.val]) rfl
def crashRl_d (env : Env RC) (os : List (Obj RC)) : Option (Bool × crashRl_St) := match env, os with
  | [(1, .int .u64 lost), (6, .ptr 0 []), (7, .int .i64 x0)], [.var 24 (.acons (.vs 1 x1) (.acons (.vs 2 x2) .anil)), .vec .sector true now, .vec .sector true sure] => staticD (true) (decide (x0 = 0) && decide (x1 = now.length) && decide (x2 = sure.length) && decide (now.length = 33 ∧ sure.length = 33), ⟨lost, now, sure, 0⟩)
  | _, _ => none
noncomputable def uu2_12 := uu2_11.addLoop 27 5 (sumR s06 [.slot 6 0, .path 0 [0], .path 0 [1]] [1, 6, 7] crashRl_S crashRl_d)
theorem uu2_12_laws : FLaws Try.prog s06 uu2_12 := by
  refine uu2_11_laws.addRoundsR s06_laws (by kernel_rfl) crashRl_S 40 [1, 6, 7] [] [.slot 6 0, .path 0 [0], .path 0 [1]] [1, 6, 7] crashRl_d (fun q hI => ?_) ?_
  · obtain ⟨lost, now, sure, i⟩ := q
    refine ⟨?_, ?_, crashRl_round lost now sure i hI⟩
    · simp_all [RefsOK, crashRl_S, crashRl_c, crashRl_o, crashRl_Inv, D.refs, Obj.refs, rEnc]
    · simp_all [crashRl_S, crashRl_fin, crashRl_o, crashRl_Inv, RT.refsOK, RefsOK, D.refs, Obj.refs, rEnc]
  · intro env os b q hd_ hb
    unfold crashRl_d at hd_
    split at hd_
    · obtain ⟨hs, hd_⟩ := staticD_some hd_
      cases hd_
      simp only [Bool.and_eq_true, decide_eq_true_eq] at hb
      obtain ⟨⟨⟨rfl, rfl⟩, rfl⟩, hl⟩ := hb
      exact ⟨⟨Nat.zero_le _, hl⟩, rfl, rfl⟩
    · cases hd_
def crashR3_s (c : Bool) (now : List Sector) (d : Bool) (sure : List Sector) (lost : Int) : Option (Bool × D RC) := some (goodL now && goodL sure, .tup (.acons (.acons (.sl (C := RC) .sector (!diskOK now sure) (bif diskOK now sure then (crashF lost 33 0 now sure).1 else [])) (.acons (.sl (C := RC) .sector (!diskOK now sure) (bif diskOK now sure then (crashF lost 33 0 now sure).2 else [])) .anil)) (.acons (.int .i64 (bif diskOK now sure then 0 else 2)) .anil)))
def crashR3_sp : List (D RC) → Option (Bool × D RC)
  | [.acons (.sl .sector c now) (.acons (.sl .sector d sure) .anil), .int .u64 lost] => crashR3_s c now d sure lost
  | _ => none
noncomputable def crashR3_e (c : Bool) (now : List Sector) (d : Bool) (sure : List Sector) (lost : Int) := evF s06 uu2_12 40 27 [.acons (.sl (C := RC) .sector c now) (.acons (.sl (C := RC) .sector d sure) .anil), .int .u64 lost]
theorem crashR3_eq (c : Bool) (now : List Sector) (d : Bool) (sure : List Sector) (lost : Int) : crashR3_e c now d sure lost = (let Z0 : D RC := D.sl RTy.sector true []; let Z1 : Nat := (0 : Nat) + List.length now; let Z2 : Nat := (0 : Nat) + List.length sure; let Z3 : List Sector := List.replicate (0 : Nat) (Sector.mk (0 : Int) []); let Z4 : Nat := List.length (Z3 ++ now); let Z5 : Nat := List.length (Z3 ++ sure); let Z6 : List Sector × List Sector := crashF lost (33 : Nat) (0 : Nat) (Z3 ++ now) (Z3 ++ sure); let Z7 : Nat := List.length Z6.1; let Z8 : Nat := List.length Z6.2; bif goodL now && goodL sure then bif (bif diskOK now sure then (0 : Int) else (2 : Int)) != (0 : Int) then some (D.tup (D.acons (D.acons Z0 (D.acons Z0 .anil)) (.acons (D.int .i64 2) .anil))) else bif sizeOK Z1 (24 : Nat) then bif sizeOK Z2 (24 : Nat) then bif decide (Z1 = Z4) && decide (Z2 = Z5) && decide (Z4 = (33 : Nat) ∧ Z5 = (33 : Nat)) then bif Nat.beq Z7 Z7 then bif Nat.beq Z8 Z8 then some (D.tup (D.acons (D.acons (D.sl RTy.sector false Z6.1) (.acons (D.sl RTy.sector false Z6.2) .anil)) (.acons (D.int .i64 0) .anil))) else none else none else none else none else none else none) := by kernel_rfl
theorem crashR3_ok (c : Bool) (now : List Sector) (d : Bool) (sure : List Sector) (lost : Int) (h : (goodL now && goodL sure) = true) : crashR3_e c now d sure lost = some (.tup (.acons (.acons (.sl (C := RC) .sector (!diskOK now sure) (bif diskOK now sure then (crashF lost 33 0 now sure).1 else [])) (.acons (.sl (C := RC) .sector (!diskOK now sure) (bif diskOK now sure then (crashF lost 33 0 now sure).2 else [])) .anil)) (.acons (.int .i64 (bif diskOK now sure then 0 else 2)) .anil))) := by
  (rw [crashR3_eq]; conv => zeta)
  have hgg := h
  rw [Bool.and_eq_true] at h
  obtain ⟨hg, hgs⟩ := h
  refine cond_of hgg ?_
  cases hd : diskOK now sure
  · exact cond_of rfl rfl
  obtain ⟨l1, l2⟩ := diskOK_len hd
  have r0 : ∀ l : List Sector, List.replicate 0 (⟨0, []⟩ : Sector) ++ l = l := fun l => rfl
  have eb : ∀ n : Nat, n.beq n = true := fun n => by simp
  have s1 : sizeOK now.length 24 = true := by simp [sizeOK]; omega
  have s2 : sizeOK sure.length 24 = true := by simp [sizeOK]; omega
  have d3 : decide (now.length = 33 ∧ sure.length = 33) = true := decide_eq_true ⟨l1, l2⟩
  refine cond_no rfl ?_
  simp only [r0, eb, s1, s2, d3, Nat.zero_add, decide_true, Bool.and_self, cond_true, Bool.not_true]
noncomputable def uu2_13 := uu2_12.addSpec 27 crashR3_sp
theorem uu2_13_laws : FLaws Try.prog s06 uu2_13 := uu2_12_laws.addEv s06_laws fun args d h => by
  unfold crashR3_sp at h
  split at h
  · unfold crashR3_s at h
    have h1 := congrArg Prod.fst (Option.some.inj h)
    obtain rfl : _ = d := congrArg Prod.snd (Option.some.inj h)
    exact ⟨by simp [D.refs], 40, crashR3_ok _ _ _ _ _ h1⟩
  · cases h
theorem readR_may {b : List UInt8} {r : Rec} (h : readR b = some r) : mayB r = true := by
  unfold readR at h
  split at h
  · rename_i q; cases h; exact q.2.2.2
  · cases h
theorem bytesR_len {r : Rec} (h : mayB r = true) : (bytesR r).length ≤ 13 := by
  obtain ⟨p, y, l⟩ := r
  obtain ⟨hp, hl, hw⟩ := may_facts h
  simp only [bytesR, List.length_append, leB_length, flatMap_len l wBytes 2 wBytes_len]
  omega
def frN (b : List UInt8) : Int := ((readF b).getD (0, [])).1
def frL (b : List UInt8) : List UInt8 := ((readF b).getD (0, [])).2
theorem getP_in {b : List UInt8} {a w : Int} (h1 : 1 ≤ w) (h2 : w ≤ 6) (h3 : 0 ≤ a) (h4 : a + w ≤ b.length) : getP b a w = ((leVal ((b.drop a.toNat).take w.toNat) : Int), 0) := by simp [getP, h1, h2, h3, h4]
theorem getP_out {b : List UInt8} {a w : Int} (h1 : 1 ≤ w) (h2 : w ≤ 6) (h4 : b.length < a + w) : getP b a w = (0, 50) := by
  have : ¬ a + w ≤ (b.length : Int) := by omega
  simp [getP, h1, h2, this]
theorem okF_not {n : Int} {l : List UInt8} (h : ¬ (1 ≤ n ∧ n ≤ 1048575 ∧ l.length ≤ 600)) : okF n l = false := by
  cases e : okF n l
  · rfl
  · simp only [okF, Bool.and_eq_true, decide_eq_true_eq] at e; exact absurd ⟨e.1.1, e.1.2, e.2⟩ h
def ofF (s : Sector) : Option (List UInt8) := (readF s.b).bind fun p => if p.1 = s.n then some p.2 else none
theorem ofF_len (s : Sector) : ((ofF s).getD []).length ≤ s.b.length := by
  unfold ofF
  cases h : readF s.b with
  | none => simp
  | some p =>
    obtain ⟨n, l⟩ := p
    have h2 := congrArg List.length (readF_ok h).2
    rw [frameB_len] at h2
    by_cases e : n = s.n
    · simp [e]; omega
    · simp [e]
open Go.Proofs
def frSize_s (n : Int) : Option (Bool × D RC) := some (decide (n ≤ 1000000), .int .i64 (bif decide (n < 0) || decide (600 < n) then 0 else n + 12))
def frSize_sp : List (D RC) → Option (Bool × D RC)
  | [.int .i64 n] => frSize_s n
  | _ => none
noncomputable def frSize_e (n : Int) := evF s06 uu2_13 40 53 [.int .i64 n]
theorem frSize_eq (n : Int) : frSize_e n = (let Z0 : DO_ := some (D.int .i64 0); bif decide (n < (0 : Int)) then Z0 else bif decide ((600 : Int) < n) then Z0 else some (D.int .i64 (IntKind.wrap .i64 (IntKind.wrap .i64 ((8 : Int) + n) + (4 : Int))))) := by kernel_rfl
theorem frSize_ok (n : Int) (h : (decide (n ≤ 1000000)) = true) : frSize_e n = some (.int .i64 (bif decide (n < 0) || decide (600 < n) then 0 else n + 12)) := by
  (rw [frSize_eq]; conv => zeta)
  have hl := of_decide_eq_true h
  by_cases h0 : n < 0
  · simp [h0]
  by_cases h6 : 600 < n
  · simp [h0, h6]
  have w1 : IntKind.i64.wrap (8 + n) = 8 + n := wrap_id (by omega) (by omega)
  have w2 : IntKind.i64.wrap (8 + n + 4) = 8 + n + 4 := wrap_id (by omega) (by omega)
  simp [h0, h6, w1, w2]
  omega
noncomputable def uv_1 := uu2_13.addSpec 53 frSize_sp
theorem uv_1_laws : FLaws Try.prog s06 uv_1 := uu2_13_laws.addEv s06_laws fun args d h => by
  unfold frSize_sp at h
  split at h
  · unfold frSize_s at h
    have h1 := congrArg Prod.fst (Option.some.inj h)
    obtain rfl : _ = d := congrArg Prod.snd (Option.some.inj h)
    exact ⟨by simp [D.refs], 40, frSize_ok _ h1⟩
  · cases h
def frBytes_s (n : Int) (b : List UInt8) : Option (Bool × D RC) := some (decide (b.length ≤ 1000000), .tup (.acons (.str (bif okF n b then frameB n b else [])) (.acons (.int .i64 (bif okF n b then 0 else 2)) .anil)))
def frBytes_sp : List (D RC) → Option (Bool × D RC)
  | [.int .i64 n, .str b] => frBytes_s n b
  | _ => none
noncomputable def frBytes_e (n : Int) (b : List UInt8) := evF s06 uv_1 60 29 [.int .i64 n, .str b]
theorem frBytes_eq (n : Int) (b : List UInt8) : frBytes_e n b = (let Z0 : DO_ := some (D.tup (D.acons (D.str (Array.toList #[])) (.acons (D.int .i64 2) .anil))); let Z1 : Nat := List.length b; let Z2 : Int := (↑Z1 : Int); let Z3 : Nat := (0 : Nat) + List.length (putL [] n (6 : Nat)); let Z4 : Nat := List.length ([] ++ putL [] n (6 : Nat)); let Z5 : Nat := List.length (putL [] Z2 (2 : Nat)); let Z6 : List UInt8 := [] ++ putL [] n (6 : Nat) ++ putL [] Z2 (2 : Nat); let Z7 : Nat := List.length (Z6 ++ b); let Z8 : DO_ := none; bif (bif fitsB n (6 : Nat) then (0 : Int) else (2 : Int)) != (0 : Int) then Z0 else bif decide (n < (1 : Int)) then Z0 else bif decide ((1048575 : Int) < n) then Z0 else bif lenOK Z1 then bif decide (Z2 ≤ (1000000 : Int)) then bif (bif decide (Z2 < (0 : Int)) || decide ((600 : Int) < Z2) then (0 : Int) else Z2 + (12 : Int)) == (0 : Int) then Z0 else bif lenOK Z1 then bif sizeOK Z1 (1 : Nat) then bif sizeOK Z3 (1 : Nat) then bif Nat.beq Z3 Z4 && sizeOK (Z3 + Z5) (1 : Nat) then bif Nat.beq (Z4 + Z5) Z6.length && sizeOK (Z4 + Z5 + Z1) (1 : Nat) then bif Nat.beq (List.length Z6 + Z1) Z7 then bif decide (Z7 ≤ (1000000 : Nat)) then some (D.tup (D.acons (D.str (sealL (Z6 ++ b))) (.acons (D.int .i64 0) .anil))) else Z8 else Z8 else Z8 else Z8 else Z8 else Z8 else Z8 else Z8 else Z8) := by kernel_rfl
theorem frBytes_ok (n : Int) (b : List UInt8) (h : (decide (b.length ≤ 1000000)) = true) : frBytes_e n b = some (.tup (.acons (.str (bif okF n b then frameB n b else [])) (.acons (.int .i64 (bif okF n b then 0 else 2)) .anil))) := by
  (rw [frBytes_eq]; conv => zeta)
  have hl := of_decide_eq_true h
  have lb : lenOK b.length = true := lenOK_of (by omega)
  have ld : decide ((b.length : Int) ≤ 1000000) = true := by simp; omega
  have no : okF n b = false → some (D.tup (.acons (.str []) (.acons (.int .i64 2) .anil))) = some (.tup (.acons (.str (bif okF n b then frameB n b else [])) (.acons (.int .i64 (bif okF n b then 0 else 2)) .anil)) : D RC) := fun e => by rw [e]; rfl
  refine cond_two (fun e => no (okF_not fun f => by rw [show fitsB n 6 = true by rw [fitsB_iff]; omega] at e; cases e)) fun e0 => ?_
  refine cond_two (fun e => no (okF_not fun f => by simp only [decide_eq_true_eq] at e; omega)) fun e1 => ?_
  refine cond_two (fun e => no (okF_not fun f => by simp only [decide_eq_true_eq] at e; omega)) fun e2 => ?_
  refine cond_of lb (cond_of ld ?_)
  simp only [decide_eq_false_iff_not] at e1 e2
  by_cases h6 : 600 < (b.length : Int)
  · refine cond_of ?_ (no (okF_not fun f => by omega))
    simp [h6]
  refine cond_no ?_ ?_
  · have : ¬ (b.length : Int) < 0 := by omega
    simp [this, h6]; omega
  have ok : okF n b = true := by simp only [okF, Bool.and_eq_true, decide_eq_true_eq]; omega
  have f6 : fitsB n 6 = true := by rw [fitsB_iff]; omega
  have f2 : fitsB (b.length : Int) 2 = true := by rw [fitsB_iff]; omega
  have p6 : putL [] n 6 = leB n 6 := (putL_fits f6).trans (List.nil_append _)
  have p2 : putL [] (b.length : Int) 2 = leB b.length 2 := (putL_fits f2).trans (List.nil_append _)
  simp only [p6, p2, List.nil_append, leB_length, List.length_append, Nat.zero_add]
  have hb6 : b.length ≤ 600 := by omega
  have es : ∀ k : Nat, k ≤ 700 → sizeOK k 1 = true := fun k hk => sizeT (by omega)
  have eb : ∀ n : Nat, n.beq n = true := fun n => by simp
  have ed : decide (6 + 2 + b.length ≤ 1000000) = true := by simp; omega
  simp (disch := omega) only [es, eb, lb, ed, Bool.and_self, cond_true]
  rw [ok]
  rfl
noncomputable def uv_2 := uv_1.addSpec 29 frBytes_sp
theorem uv_2_laws : FLaws Try.prog s06 uv_2 := uv_1_laws.addEv s06_laws fun args d h => by
  unfold frBytes_sp at h
  split at h
  · unfold frBytes_s at h
    have h1 := congrArg Prod.fst (Option.some.inj h)
    obtain rfl : _ = d := congrArg Prod.snd (Option.some.inj h)
    exact ⟨by simp [D.refs], 60, frBytes_ok _ _ h1⟩
  · cases h
def frRead_s (b : List UInt8) : Option (Bool × D RC) := some (decide (b.length ≤ 1000000), .tup (.acons (.int .i64 (frN b)) (.acons (.str (frL b)) (.acons (.int .i64 (bif (readF b).isNone then 50 else 0)) .anil))))
def frRead_sp : List (D RC) → Option (Bool × D RC)
  | [.str b] => frRead_s b
  | _ => none
noncomputable def frRead_e (b : List UInt8) := evF s06 uv_2 60 60 [.str b]
theorem frRead_eq (b : List UInt8) : frRead_e b = (let Z0 : List UInt8 := (fun (l : List UInt8) => l) b; let Z1 : List UInt8 := Option.getD (openL Z0) []; let Z2 : Nat := List.length Z1; let Z3 : Bool := decide (Z2 ≤ (1000000000000 : Nat)); let Z4 : D RC := D.int .i64 0; let Z5 : DO_ := some (D.tup (D.acons Z4 (D.acons (D.str (Array.toList #[])) (.acons (D.int .i64 50) .anil)))); let Z6 : Int × Int := getP Z1 (6 : Int) (2 : Int); let Z7 : Int := (↑Z2 : Int); let Z8 : Int := Prod.fst (getP Z1 (0 : Int) (6 : Int)); bif sizeOK b.length (1 : Nat) then bif decide (List.length Z0 ≤ (1000000 : Nat)) then bif Z3 then bif Z3 then bif (bif Option.isNone (openL Z0) then (50 : Int) else (0 : Int)) != (0 : Int) then Z5 else bif Prod.snd Z6 != (0 : Int) then Z5 else bif lenOK Z2 then bif bif Prod.fst Z6 != IntKind.wrap .i64 (IntKind.wrap .i64 (Z7 - (6 : Int)) - (2 : Int)) then true else bif decide ((600 : Int) < Prod.fst Z6) then true else bif decide (Z8 < (1 : Int)) then true else decide ((1048575 : Int) < Z8) then Z5 else bif lenOK Z2 then bif lenOK Z2 then bif decide ((0 : Int) ≤ (8 : Int) ∧ (8 : Int) ≤ Z7 ∧ Z7 ≤ Z7 ∧ Z7 = Z7) then some (D.tup (D.acons (D.int .i64 Z8) (.acons (D.str (List.drop (8 : Nat) (List.take Z7.toNat Z1))) (.acons Z4 .anil)))) else none else none else none else none else none else none else none else none) := by kernel_rfl
theorem frRead_ok (b : List UInt8) (h : (decide (b.length ≤ 1000000)) = true) : frRead_e b = some (.tup (.acons (.int .i64 (frN b)) (.acons (.str (frL b)) (.acons (.int .i64 (bif (readF b).isNone then 50 else 0)) .anil)))) := by
  (rw [frRead_eq]; conv => zeta)
  have hl := of_decide_eq_true h
  have hs : sizeOK b.length 1 = true := sizeT (by omega)
  cases hq : openL b with
  | none =>
    have hr : readF b = none := by simp [readF, hq]
    simp [hs, hl, hq, hr, frN, frL]
  | some x =>
    have hx := openL_len hq
    have lk : lenOK x.length = true := lenOK_of (by omega)
    have d1 : x.length ≤ 1000000000000 := by omega
    have hr : readF b = if 8 ≤ x.length ∧ leVal ((x.drop 6).take 2) + 8 = x.length ∧ x.length ≤ 608 ∧ 1 ≤ leVal (x.take 6) ∧ leVal (x.take 6) ≤ 1048575 then some ((leVal (x.take 6) : Int), x.drop 8) else none := by simp only [readF, hq]
    by_cases h8 : x.length < 8
    · have g2 : getP x 6 2 = (0, 50) := getP_out (by omega) (by omega) (by omega)
      have hr' : readF b = none := by rw [hr, if_neg (by omega)]
      simp [hs, hl, hq, hr', g2, d1, frN, frL]
    · have g2 : getP x 6 2 = ((leVal ((x.drop 6).take 2) : Int), 0) := getP_in (by omega) (by omega) (by omega) (by omega)
      have g6 : getP x 0 6 = ((leVal (x.take 6) : Int), 0) := getP_in (by omega) (by omega) (by omega) (by omega)
      have w1 : IntKind.i64.wrap ((x.length : Int) - 6) = x.length - 6 := wrap_id (by omega) (by omega)
      have w2 : IntKind.i64.wrap ((x.length : Int) - 6 - 2) = x.length - 6 - 2 := wrap_id (by omega) (by omega)
      have dd : (0 : Int) ≤ 8 ∧ 8 ≤ (x.length : Int) ∧ (x.length : Int) ≤ x.length ∧ (x.length : Int) = x.length := by omega
      generalize leVal ((x.drop 6).take 2) = v2 at hr g2
      generalize leVal (x.take 6) = v6 at hr g6
      by_cases C : 8 ≤ x.length ∧ v2 + 8 = x.length ∧ x.length ≤ 608 ∧ 1 ≤ v6 ∧ v6 ≤ 1048575
      · rw [if_pos C] at hr
        have c1 : ((v2 : Int) != (x.length : Int) - 6 - 2) = false := by simp [bne]; omega
        have c2 : ¬ 600 < (v2 : Int) := by omega
        have c3 : ¬ (v6 : Int) < 1 := by omega
        have c4 : ¬ 1048575 < (v6 : Int) := by omega
        have dx : (8 : Int) ≤ x.length := by omega
        simp [hs, hl, hq, hr, g2, g6, d1, frN, frL, lk, w1, w2, c1, c2, c3, c4, dx]
      · rw [if_neg C] at hr
        have c5 : (bif ((v2 : Int) != (x.length : Int) - 6 - 2) then true else bif decide (600 < (v2 : Int)) then true else bif decide ((v6 : Int) < 1) then true else decide (1048575 < (v6 : Int))) = true := by
          cases c1 : ((v2 : Int) != (x.length : Int) - 6 - 2)
          · simp [bne] at c1
            by_cases c2 : 600 < (v2 : Int)
            · simp [c2]
            by_cases c3 : (v6 : Int) < 1
            · simp [c3]
            by_cases c4 : 1048575 < (v6 : Int)
            · simp [c4]
            · exact absurd ⟨by omega, by omega, by omega, by omega, by omega⟩ C
          · rfl
        simp only [hs, hl, hq, hr, g2, g6, d1, frN, frL, lk, w1, w2, c5, Option.getD_some, Option.getD_none, Option.isNone_some, Option.isNone_none, cond_true, cond_false, decide_true]
        rfl
noncomputable def uv_3 := uv_2.addSpec 60 frRead_sp
theorem uv_3_laws : FLaws Try.prog s06 uv_3 := uv_2_laws.addEv s06_laws fun args d h => by
  unfold frRead_sp at h
  split at h
  · unfold frRead_s at h
    have h1 := congrArg Prod.fst (Option.some.inj h)
    obtain rfl : _ = d := congrArg Prod.snd (Option.some.inj h)
    exact ⟨by simp [D.refs], 60, frRead_ok _ h1⟩
  · cases h
def frOf_s (n : Int) (b : List UInt8) : Option (Bool × D RC) := some (decide (b.length ≤ 1000000), .tup (.acons (.str ((ofF ⟨n, b⟩).getD [])) (.acons (.bool (ofF ⟨n, b⟩).isSome) .anil)))
def frOf_sp : List (D RC) → Option (Bool × D RC)
  | [.acons (.int .i64 n) (.acons (.str b) .anil)] => frOf_s n b
  | _ => none
noncomputable def frOf_e (n : Int) (b : List UInt8) := evF s06 uv_3 40 36 [.acons (.int .i64 n) (.acons (.str b) .anil)]
theorem frOf_eq (n : Int) (b : List UInt8) : frOf_e n b = (let Z0 : DO_ := some (D.tup (D.acons (D.str (Array.toList #[])) (.acons (D.bool false) .anil))); bif decide (List.length b ≤ (1000000 : Nat)) then bif (bif Option.isNone (readF b) then (50 : Int) else (0 : Int)) != (0 : Int) then Z0 else bif frN b != n then Z0 else some (D.tup (D.acons (D.str (frL b)) (.acons (D.bool true) .anil))) else none) := by kernel_rfl
theorem frOf_ok (n : Int) (b : List UInt8) (h : (decide (b.length ≤ 1000000)) = true) : frOf_e n b = some (.tup (.acons (.str ((ofF ⟨n, b⟩).getD [])) (.acons (.bool (ofF ⟨n, b⟩).isSome) .anil))) := by
  (rw [frOf_eq]; conv => zeta)
  rw [h]
  simp only [frN, frL, ofF, cond_true]
  cases hr : readF b with
  | none => rfl
  | some p =>
    obtain ⟨m, l⟩ := p
    by_cases e : m = n
    · subst e; simp [bne]
    · have e2 : (m != n) = true := by simpa [bne] using e
      simp [e, e2]
noncomputable def uv_4 := uv_3.addSpec 36 frOf_sp
theorem uv_4_laws : FLaws Try.prog s06 uv_4 := uv_3_laws.addEv s06_laws fun args d h => by
  unfold frOf_sp at h
  split at h
  · unfold frOf_s at h
    have h1 := congrArg Prod.fst (Option.some.inj h)
    obtain rfl : _ = d := congrArg Prod.snd (Option.some.inj h)
    exact ⟨by simp [D.refs], 40, frOf_ok _ _ h1⟩
  · cases h
open Go.Proofs
def r4Bytes_s (n : Int) (b : List UInt8) : Option (Bool × D RC) := some (decide (b.length ≤ 1000000), .tup (.acons (.str (bif okF n b then frameB n b else [])) (.acons (.int .i64 (bif okF n b then 0 else 2)) .anil)))
def r4Bytes_sp : List (D RC) → Option (Bool × D RC)
  | [.int .i64 n, .str b] => r4Bytes_s n b
  | _ => none
noncomputable def r4Bytes_e (n : Int) (b : List UInt8) := evF s06 uv_4 60 31 [.int .i64 n, .str b]
theorem r4Bytes_eq (n : Int) (b : List UInt8) : r4Bytes_e n b = (let Z0 : DO_ := some (D.tup (D.acons (D.str (Array.toList #[])) (.acons (D.int .i64 2) .anil))); let Z1 : Bool := lenOK b.length; let Z2 : Int := (↑b.length : Int); let Z3 : List UInt8 := [] ++ [] ++ leB n (6 : Nat); let Z4 : Nat := List.length ([] ++ Z3); let Z5 : List UInt8 := [] ++ Z3 ++ leB Z2 (2 : Nat); let Z6 : Nat := List.length Z5; let Z7 : List UInt8 := (fun (l : List UInt8) => l) b; let Z8 : Nat := List.length (Z5 ++ Z7); let Z9 : DO_ := none; bif decide (n < (1 : Int)) then Z0 else bif decide ((1048575 : Int) < n) then Z0 else bif Z1 then bif decide ((600 : Int) < Z2) then Z0 else bif decide (n ≤ (9223372036854775807 : Int) ∧ (1 : Int) ≤ (6 : Int) ∧ (6 : Int) ≤ (6 : Int)) && fitsB n (6 : Nat) then bif decide ((0 : Int) ≤ n ∧ n ≤ (9223372036854775807 : Int) ∧ (0 : Int) ≤ (6 : Int) ∧ (6 : Int) ≤ (6 : Int) ∧ (0 : Nat) ≤ (1000000 : Nat)) then bif Z1 then bif decide (Z2 ≤ (9223372036854775807 : Int) ∧ (1 : Int) ≤ (2 : Int) ∧ (2 : Int) ≤ (6 : Int)) && fitsB Z2 (2 : Nat) then bif decide ((0 : Nat) + List.length Z3 = Z4) && true && decide ((0 : Int) ≤ Z2 ∧ Z2 ≤ (9223372036854775807 : Int) ∧ (0 : Int) ≤ (2 : Int) ∧ (2 : Int) ≤ (6 : Int) ∧ Z4 ≤ (1000000 : Nat)) then bif Nat.beq Z6 Z6 && sizeOK (Z6 + List.length Z7) (1 : Nat) then bif Nat.beq (Z6 + List.length Z7) Z8 then bif decide (Z8 ≤ (1000000 : Nat)) then some (D.tup (D.acons (D.str (sealL (Z5 ++ Z7))) (.acons (D.int .i64 0) .anil))) else Z9 else Z9 else Z9 else Z9 else Z9 else Z9 else Z9 else Z9 else Z9) := by kernel_rfl
theorem r4Bytes_ok (n : Int) (b : List UInt8) (h : (decide (b.length ≤ 1000000)) = true) : r4Bytes_e n b = some (.tup (.acons (.str (bif okF n b then frameB n b else [])) (.acons (.int .i64 (bif okF n b then 0 else 2)) .anil))) := by
  (rw [r4Bytes_eq]; conv => zeta)
  have hl := of_decide_eq_true h
  have lb : lenOK b.length = true := lenOK_of (by omega)
  have no : okF n b = false → some (D.tup (.acons (.str []) (.acons (.int .i64 2) .anil))) = some (.tup (.acons (.str (bif okF n b then frameB n b else [])) (.acons (.int .i64 (bif okF n b then 0 else 2)) .anil)) : D RC) := fun e => by rw [e]; rfl
  refine cond_two (fun e => no (okF_not fun f => by simp only [decide_eq_true_eq] at e; omega)) fun e1 => ?_
  refine cond_two (fun e => no (okF_not fun f => by simp only [decide_eq_true_eq] at e; omega)) fun e2 => ?_
  refine cond_of lb (cond_two (fun e => no (okF_not fun f => by simp only [decide_eq_true_eq] at e; omega)) fun e3 => ?_)
  simp only [decide_eq_false_iff_not] at e1 e2 e3
  have ok : okF n b = true := by simp only [okF, Bool.and_eq_true, decide_eq_true_eq]; omega
  have f6 : fitsB n 6 = true := by rw [fitsB_iff]; omega
  have f2 : fitsB (b.length : Int) 2 = true := by rw [fitsB_iff]; omega
  have eb : ∀ n : Nat, n.beq n = true := fun n => by simp
  have s1 : sizeOK (6 + 2 + b.length) 1 = true := sizeT (by omega)
  have g1 : decide (n ≤ 9223372036854775807 ∧ (1 : Int) ≤ 6 ∧ (6 : Int) ≤ 6) = true := decide_eq_true (by omega)
  have g2 : decide (0 ≤ n ∧ n ≤ 9223372036854775807 ∧ (0 : Int) ≤ 6 ∧ (6 : Int) ≤ 6 ∧ 0 ≤ 1000000) = true := decide_eq_true (by omega)
  have g3 : decide ((b.length : Int) ≤ 9223372036854775807 ∧ (1 : Int) ≤ 2 ∧ (2 : Int) ≤ 6) = true := decide_eq_true (by omega)
  have g4 : decide (0 ≤ (b.length : Int) ∧ (b.length : Int) ≤ 9223372036854775807 ∧ (0 : Int) ≤ 2 ∧ (2 : Int) ≤ 6 ∧ 6 ≤ 1000000) = true := decide_eq_true (by omega)
  have g5 : decide (6 + 2 + b.length ≤ 1000000) = true := decide_eq_true (by omega)
  simp only [List.nil_append, leB_length, List.length_append, f6, f2, eb, lb, s1, Nat.zero_add, Bool.and_self, cond_true]
  refine cond_of (by rw [g1]; rfl) (cond_of g2 (cond_of (by rw [g3]; rfl) (cond_of (by rw [g4]; rfl) (cond_of g5 ?_))))
  rw [ok]
  rfl
noncomputable def uy_1 := uv_4.addSpec 31 r4Bytes_sp
theorem uy_1_laws : FLaws Try.prog s06 uy_1 := uv_4_laws.addEv s06_laws fun args d h => by
  unfold r4Bytes_sp at h
  split at h
  · unfold r4Bytes_s at h
    have h1 := congrArg Prod.fst (Option.some.inj h)
    obtain rfl : _ = d := congrArg Prod.snd (Option.some.inj h)
    exact ⟨by simp [D.refs], 60, r4Bytes_ok _ _ h1⟩
  · cases h
def r4Read_s (b : List UInt8) : Option (Bool × D RC) := some (decide (b.length ≤ 1000000), .tup (.acons (.int .i64 (frN b)) (.acons (.str (frL b)) (.acons (.int .i64 (bif (readF b).isNone then 50 else 0)) .anil))))
def r4Read_sp : List (D RC) → Option (Bool × D RC)
  | [.str b] => r4Read_s b
  | _ => none
noncomputable def r4Read_e (b : List UInt8) := evF s06 uy_1 60 64 [.str b]
theorem r4Read_eq (b : List UInt8) : r4Read_e b = (let Z0 : Nat := List.length b; let Z1 : D RC := D.int .i64 0; let Z2 : DO_ := some (D.tup (D.acons Z1 (D.acons (D.str (Array.toList #[])) (.acons (D.int .i64 50) .anil)))); let Z3 : List UInt8 := (fun (l : List UInt8) => l) b; let Z4 : List UInt8 := Option.getD (openL Z3) []; let Z5 : Nat := List.length Z4; let Z6 : List (RA RTy.u8) := (fun (l : List (RA RTy.u8)) => l) (List.drop (8 : Nat) Z4); let Z7 : Int := Prod.fst (getP Z4 (0 : Int) (6 : Int)); bif lenOK Z0 then bif decide ((612 : Int) < (↑Z0 : Int)) then Z2 else bif sizeOK Z0 (1 : Nat) then bif decide (List.length Z3 ≤ (1000000 : Nat)) then bif (bif Option.isNone (openL Z3) then (50 : Int) else (0 : Int)) != (0 : Int) then Z2 else bif lenOK Z5 then bif decide ((↑Z5 : Int) < (8 : Int)) then Z2 else bif decide (Z5 ≤ (1000000000000 : Nat)) then bif decide ((0 : Int) ≤ (8 : Int) ∧ (8 : Int) ≤ (↑Z5 : Int)) then bif decide (List.length Z6 ≤ (1000000 : Nat)) then bif (bif okF Z7 Z6 then (0 : Int) else (2 : Int)) != (0 : Int) then Z2 else bif !(bif okF Z7 Z6 then frameB Z7 Z6 else []) == b then Z2 else some (D.tup (D.acons (D.int .i64 Z7) (.acons (D.str (List.drop (8 : Nat) Z4)) (.acons Z1 .anil)))) else none else none else none else none else none else none else none) := by kernel_rfl
theorem r4Read_ok (b : List UInt8) (h : (decide (b.length ≤ 1000000)) = true) : r4Read_e b = some (.tup (.acons (.int .i64 (frN b)) (.acons (.str (frL b)) (.acons (.int .i64 (bif (readF b).isNone then 50 else 0)) .anil)))) := by
  (rw [r4Read_eq]; conv => zeta)
  have hl := of_decide_eq_true h
  have lb : lenOK b.length = true := lenOK_of (by omega)
  have hs : sizeOK b.length 1 = true := sizeT (by omega)
  have no : readF b = none → some (D.tup (.acons (.int .i64 0) (.acons (.str []) (.acons (.int .i64 50) .anil)))) = some (.tup (.acons (.int .i64 (frN b)) (.acons (.str (frL b)) (.acons (.int .i64 (bif (readF b).isNone then 50 else 0)) .anil))) : D RC) := fun e => by simp only [frN, frL, e]; rfl
  have big : readF b = none ∨ ∃ p, readF b = some p ∧ okF p.1 p.2 = true ∧ frameB p.1 p.2 = b := by
    cases hr : readF b with
    | none => exact .inl rfl
    | some p => exact .inr ⟨p, rfl, readF_ok (n := p.1) (load := p.2) hr⟩
  refine cond_of lb (cond_two (fun e => no ?_) fun e => ?_)
  · rcases big with q | ⟨p, q1, q2, q3⟩
    · exact q
    · have := congrArg List.length q3
      rw [frameB_len] at this
      simp only [okF, Bool.and_eq_true, decide_eq_true_eq] at q2 e
      omega
  refine cond_of hs (cond_of h ?_)
  cases hq : openL b with
  | none => exact cond_of rfl (no (by simp [readF, hq]))
  | some x =>
    have hx := openL_len hq
    have hr : readF b = if 8 ≤ x.length ∧ leVal ((x.drop 6).take 2) + 8 = x.length ∧ x.length ≤ 608 ∧ 1 ≤ leVal (x.take 6) ∧ leVal (x.take 6) ≤ 1048575 then some ((leVal (x.take 6) : Int), x.drop 8) else none := by simp only [readF, hq]
    refine cond_no rfl ?_
    simp only [Option.getD_some]
    refine cond_of (lenOK_of (by omega)) (cond_two (fun e => no (by rw [hr, if_neg (by simp only [decide_eq_true_eq] at e; omega)])) fun e8 => ?_)
    simp only [decide_eq_false_iff_not] at e8
    have g6 : getP x 0 6 = ((leVal (x.take 6) : Int), 0) := getP_in (by omega) (by omega) (by omega) (by omega)
    refine cond_of (decide_eq_true (by omega)) (cond_of (decide_eq_true (by omega)) (cond_of (decide_eq_true (by simp; omega)) ?_))
    simp only [g6]
    cases ho : okF (leVal (x.take 6) : Int) (x.drop 8)
    · refine cond_of rfl (no ?_)
      rcases big with q | ⟨p, q1, q2, q3⟩
      · exact q
      · rw [hr] at q1
        split at q1
        · cases q1; rw [ho] at q2; cases q2
        · cases q1
    refine cond_no rfl ?_
    simp only [cond_true]
    by_cases hb : frameB (leVal (x.take 6) : Int) (x.drop 8) = b
    · have hr2 : readF b = some ((leVal (x.take 6) : Int), x.drop 8) := by rw [← hb]; exact readF_frame ho
      refine cond_no (by rw [hb]; simp) ?_
      simp only [frN, frL, hr2]; rfl
    · refine cond_of (by simpa using hb) (no ?_)
      rcases big with q | ⟨p, q1, q2, q3⟩
      · exact q
      · rw [hr] at q1
        split at q1
        · cases q1; exact absurd q3 hb
        · cases q1
noncomputable def uy_2 := uy_1.addSpec 64 r4Read_sp
theorem uy_2_laws : FLaws Try.prog s06 uy_2 := uy_1_laws.addEv s06_laws fun args d h => by
  unfold r4Read_sp at h
  split at h
  · unfold r4Read_s at h
    have h1 := congrArg Prod.fst (Option.some.inj h)
    obtain rfl : _ = d := congrArg Prod.snd (Option.some.inj h)
    exact ⟨by simp [D.refs], 60, r4Read_ok _ h1⟩
  · cases h
theorem rowOK_all {l : List Sector} (h : rowOK l = true) : ∀ s ∈ l, maySec s = true := by
  simp only [rowOK, Bool.and_eq_true] at h
  exact List.all_eq_true.1 h.2
theorem rowOK_of {l : List Sector} (h1 : l.length = 33) (h2 : ∀ s ∈ l, maySec s = true) : rowOK l = true := by
  simp only [rowOK, Bool.and_eq_true, decide_eq_true_eq]
  exact ⟨h1, List.all_eq_true.2 h2⟩
theorem rowOK_good {l : List Sector} (h : rowOK l = true) : goodL l = true := by
  have h1 := rowOK_len h
  rw [goodL_iff]
  refine ⟨by omega, fun s hs => lenOK_of ?_⟩
  have := rowOK_all h s hs
  simp only [maySec, Bool.and_eq_true, decide_eq_true_eq] at this
  omega
theorem diskOK_parts {now sure : List Sector} (h : diskOK now sure = true) : rowOK now = true ∧ rowOK sure = true ∧ lowAt now sure 0 = true := by
  simp only [diskOK, Bool.and_eq_true] at h; exact ⟨h.1.1, h.1.2, h.2⟩
theorem low_iff {now sure : List Sector} (hl : now.length = sure.length) : lowAt now sure 0 = true ↔ ∀ i, i < now.length → (sure.getD i sec0).n ≤ (now.getD i sec0).n := by
  unfold lowAt
  rw [List.drop_zero, List.all_eq_true]
  constructor
  · intro h i hi
    have hz : i < (now.zip sure).length := by simp; omega
    have h3 := h _ (List.getElem_mem hz)
    simp only [List.getElem_zip, decide_eq_true_eq] at h3
    have hi2 : i < sure.length := by omega
    simpa [hi, hi2] using h3
  · intro h p hp
    obtain ⟨i, hi, rfl⟩ := List.getElem_of_mem hp
    have h1 : i < now.length := by simp at hi; omega
    have h2 : i < sure.length := by omega
    have := h i h1
    simp only [List.getElem_zip, decide_eq_true_eq]
    simpa [h1, h2] using this
theorem diskOK_good {now sure : List Sector} (h : diskOK now sure = true) : goodL now = true ∧ goodL sure = true :=
  ⟨rowOK_good (diskOK_parts h).1, rowOK_good (diskOK_parts h).2.1⟩
theorem putNow_mem {now : List Sector} {k : Nat} {n : Int} {b : List UInt8} {s : Sector} (h : s ∈ putNow now k n b) : s ∈ now ∨ s = ⟨n, b⟩ := by
  unfold putNow at h
  split at h
  · exact List.mem_or_eq_of_mem_set h
  · exact .inl h
theorem putNow_at {now : List Sector} {k : Nat} {n : Int} {b : List UInt8} (hk : k < now.length) (j : Nat) : (putNow now k n b).getD j sec0 = if j = k ∧ (now.getD k sec0).n < n then ⟨n, b⟩ else now.getD j sec0 := by
  unfold putNow
  by_cases h : (now.getD k sec0).n < n
  · rw [if_pos h]
    by_cases hj : j = k
    · subst hj
      rw [if_pos ⟨rfl, h⟩]
      simp [hk]
    · rw [if_neg (fun q => hj q.1)]
      simp only [List.getD_eq_getElem?_getD]
      rw [List.getElem?_set_ne (fun q => hj q.symm)]
  · rw [if_neg h, if_neg (fun q => h q.2)]
theorem okPut_disk {now sure : List Sector} {k n : Int} {b : List UInt8} (h : okPut now sure k n b = true) : diskOK (pNow now sure k n b) (pSure now sure k n b) = true := by
  obtain ⟨hd, h0, h1, h2, h3, h4⟩ := okPut_facts h
  obtain ⟨d1, d2, d3⟩ := diskOK_parts hd
  obtain ⟨l1, l2⟩ := diskOK_len hd
  simp only [pNow, pSure, h, cond_true, diskOK, Bool.and_eq_true]
  have hk : k.toNat < now.length := by omega
  refine ⟨⟨rowOK_of (by rw [putNow_len]; exact l1) fun s hs => ?_, d2⟩, ?_⟩
  · rcases putNow_mem hs with q | rfl
    · exact rowOK_all d1 s q
    · exact h4
  · rw [low_iff (by rw [putNow_len]; omega)]
    intro i hi
    rw [putNow_len] at hi
    have := (low_iff (by omega)).1 d3 i hi
    rw [putNow_at hk]
    split
    · rename_i q
      obtain ⟨rfl, q⟩ := q
      have h5 : (sure.getD k.toNat sec0).n ≤ (now.getD k.toNat sec0).n := this
      show (sure.getD k.toNat sec0).n ≤ n
      omega
    · exact this
theorem pNow_good (now sure : List Sector) (k n : Int) (b : List UInt8) : goodL (pNow now sure k n b) = true ∧ goodL (pSure now sure k n b) = true := by
  cases h : okPut now sure k n b
  · simp only [pNow, pSure, h, cond_false]; exact ⟨rfl, rfl⟩
  · exact diskOK_good (okPut_disk h)
def secI (p : Int) : Int := if p < 0 then 0 else p % 32
def roomB (p c : Int) : Bool := decide (0 ≤ p ∧ p ≤ 1048575 ∧ 0 ≤ c ∧ c ≤ 1048575 ∧ p ≤ c + 32)
def entL (r : Rec) : List UInt8 := bif mayB r then frameB r.place (bytesR r) else []
def atS (s : Sector) (p : Int) : Option Rec := if s.n = p then (ofF s).bind fun l => (readR l).bind fun r => if r.place = p then some r else none else none
def atF (now sure : List Sector) (p : Int) : Option Rec := if diskOK now sure = true ∧ 1 ≤ p ∧ p ≤ 1048575 then atS (now.getD (secI p).toNat sec0) p else none
def preL (now sure : List Sector) : Nat → Int → List Rec
  | 0, _ => []
  | n + 1, p => match atF now sure p with
    | some r => r :: preL now sure n (p + 1)
    | none => []
def preF (now sure : List Sector) (b : Int) : List Rec := bif diskOK now sure && decide (0 ≤ b ∧ b ≤ 1048575) then preL now sure 32 (b + 1) else []
def preE (now sure : List Sector) (b : Int) : Int := bif diskOK now sure && decide (0 ≤ b ∧ b ≤ 1048575) then 0 else 2
theorem secI_bound (p : Int) : 0 ≤ secI p ∧ secI p < 32 := by
  unfold secI; split <;> omega
theorem preL_len (now sure : List Sector) : ∀ (n : Nat) (p : Int), (preL now sure n p).length ≤ n
  | 0, p => by simp [preL]
  | n + 1, p => by
    unfold preL
    split
    · have := preL_len now sure n (p + 1); simp; omega
    · simp
theorem atF_may {now sure : List Sector} {p : Int} {r : Rec} (h : atF now sure p = some r) : mayB r = true ∧ r.place = p ∧ diskOK now sure = true ∧ 1 ≤ p ∧ p ≤ 1048575 := by
  unfold atF at h
  split at h
  · rename_i q
    unfold atS at h
    split at h
    · rw [Option.bind_eq_some_iff] at h
      obtain ⟨w, _, h⟩ := h
      rw [Option.bind_eq_some_iff] at h
      obtain ⟨r', h1, h⟩ := h
      split at h
      · rename_i e
        cases h
        exact ⟨readR_may h1, e, q⟩
      · cases h
    · cases h
  · cases h
theorem may_len {r : Rec} (h : mayB r = true) : r.writes.length ≤ 4 := (may_facts (p := r.place) (y := r.yes) (l := r.writes) h).2.1
theorem preL_at {now sure : List Sector} : ∀ (n : Nat) (p : Int) (i : Nat) (d : Rec), i < (preL now sure n p).length → atF now sure (p + (i : Int)) = some ((preL now sure n p).getD i d)
  | 0, p, i, d, h => by simp [preL] at h
  | n + 1, p, i, d, h => by
    unfold preL at h ⊢
    split at h
    · rename_i r hr
      cases i with
      | zero => simpa using hr
      | succ i =>
        have := preL_at (now := now) (sure := sure) n (p + 1) i d (by simpa using h)
        rw [show p + ((i + 1 : Nat) : Int) = p + 1 + (i : Int) by omega, this]
        simp
    · simp at h
theorem preL_stop {now sure : List Sector} : ∀ (n : Nat) (p : Int), (preL now sure n p).length < n → atF now sure (p + ((preL now sure n p).length : Int)) = none
  | 0, p, h => by omega
  | n + 1, p, h => by
    unfold preL at h ⊢
    cases hr : atF now sure p with
    | none => simpa using hr
    | some r =>
      rw [hr] at h
      simp only [List.length_cons] at h
      have := preL_stop (now := now) (sure := sure) n (p + 1) (by omega)
      simp only [List.length_cons]
      rw [show p + (((preL now sure n (p + 1)).length + 1 : Nat) : Int) = p + 1 + ((preL now sure n (p + 1)).length : Int) by omega]
      exact this
theorem preL_take {now sure : List Sector} : ∀ (n : Nat) (p : Int), (preL now sure (n + 1) p).take (preL now sure n p).length = preL now sure n p ∧ (preL now sure n p).length ≤ (preL now sure (n + 1) p).length
  | 0, p => by simp [preL]
  | n + 1, p => by
    cases hr : atF now sure p with
    | none =>
      have e : ∀ k, preL now sure k p = [] := fun k => by cases k with
        | zero => rfl
        | succ k => unfold preL; rw [hr]
      rw [e, e]; simp
    | some r =>
      have e : ∀ k, preL now sure (k + 1) p = r :: preL now sure k (p + 1) := fun k => by
        conv => lhs; unfold preL
        rw [hr]
      obtain ⟨h1, h2⟩ := preL_take (now := now) (sure := sure) n (p + 1)
      rw [e, e]
      simp only [List.length_cons, List.take_succ_cons, h1, true_and]
      omega
theorem atG_len (now sure : List Sector) (p : Int) : lenOK (recG (atF now sure p)).writes.length = true := by
  cases h : atF now sure p with
  | none => rfl
  | some r => exact lenOK_of (Nat.le_trans (may_len (atF_may h).1) (by decide))
theorem preL_may (now sure : List Sector) : ∀ (n : Nat) (p : Int), ∀ r ∈ preL now sure n p, mayB r = true
  | 0, p, r, h => by simp [preL] at h
  | n + 1, p, r, h => by
    unfold preL at h
    split at h
    · rename_i r' h'
      rcases List.mem_cons.1 h with rfl | h
      · exact (atF_may h').1
      · exact preL_may now sure n (p + 1) r h
    · simp at h
theorem preF_len (now sure : List Sector) (b : Int) : (preF now sure b).length ≤ 32 := by
  unfold preF
  cases diskOK now sure && decide (0 ≤ b ∧ b ≤ 1048575)
  · simp
  · exact preL_len _ _ _ _
theorem preF_lk (now sure : List Sector) (b : Int) : lenOK (preF now sure b).length = true := lenOK_of (Nat.le_trans (preF_len now sure b) (by decide))
theorem preF_may (now sure : List Sector) (b : Int) : ∀ r ∈ preF now sure b, mayB r = true := by
  unfold preF
  cases diskOK now sure && decide (0 ≤ b ∧ b ≤ 1048575)
  · simp
  · exact preL_may _ _ _ _
open Go.Proofs
def entE (r : Rec) : Int := bif mayB r then 0 else 2
theorem maxWrap (p : Int) : (if p < 0 then 0 else p).tmod 32 = secI p := by
  unfold secI
  split
  · rfl
  · rw [Int.tmod_eq_emod_of_nonneg (by omega)]
theorem ent_ok {r : Rec} (h : mayB r = true) : okF r.place (bytesR r) = true ∧ (bytesR r).length ≤ 13 := by
  have h1 := bytesR_len h
  have h2 := (may_facts (p := r.place) (y := r.yes) (l := r.writes) h).1
  refine ⟨?_, h1⟩
  simp only [okF, Bool.and_eq_true, decide_eq_true_eq]
  omega
theorem atF_bad {now sure : List Sector} {p : Int} (h : diskOK now sure = false) : atF now sure p = none := if_neg (by rw [h]; simp)
theorem atF_out {now sure : List Sector} {p : Int} (h : ¬ (1 ≤ p ∧ p ≤ 1048575)) : atF now sure p = none := if_neg (fun e => h e.2)
theorem sec_b {now sure : List Sector} (h : diskOK now sure = true) (k : Nat) : (now.getD k sec0).b.length ≤ 640 := by
  by_cases hk : k < now.length
  · have e : now.getD k sec0 = now[k] := by simp [hk]
    have := rowOK_all (diskOK_parts h).1 _ (List.getElem_mem hk)
    rw [e]
    simp only [maySec, Bool.and_eq_true, decide_eq_true_eq] at this
    exact this.1.2
  · have e : now.getD k sec0 = sec0 := by simp [hk]
    rw [e]; simp [sec0]
def sectorP_s (p : Int) : Option (Bool × D RC) := some (true, .int .i64 (secI p))
def sectorP_sp : List (D RC) → Option (Bool × D RC)
  | [.int .i64 p] => sectorP_s p
  | _ => none
noncomputable def sectorP_e (p : Int) := evF s06 uy_2 20 17 [.int .i64 p]
theorem sectorP_eq (p : Int) : sectorP_e p = (some (D.int .i64 (Int.tmod (if p < (0 : Int) then (0 : Int) else p) (32 : Int)))) := by kernel_rfl
theorem sectorP_ok (p : Int) (h : (true) = true) : sectorP_e p = some (.int .i64 (secI p)) := by
  rw [sectorP_eq]
  rw [maxWrap]
noncomputable def uz_1 := uy_2.addSpec 17 sectorP_sp
theorem uz_1_laws : FLaws Try.prog s06 uz_1 := uy_2_laws.addEv s06_laws fun args d h => by
  unfold sectorP_sp at h
  split at h
  · unfold sectorP_s at h
    have h1 := congrArg Prod.fst (Option.some.inj h)
    obtain rfl : _ = d := congrArg Prod.snd (Option.some.inj h)
    exact ⟨by simp [D.refs], 20, sectorP_ok _ h1⟩
  · cases h
def sectorR_s (p : Int) : Option (Bool × D RC) := some (true, .int .i64 (secI p))
def sectorR_sp : List (D RC) → Option (Bool × D RC)
  | [.int .i64 p] => sectorR_s p
  | _ => none
noncomputable def sectorR_e (p : Int) := evF s06 uz_1 20 18 [.int .i64 p]
theorem sectorR_eq (p : Int) : sectorR_e p = (bif decide (p < (0 : Int)) then some (D.int .i64 0) else some (D.int .i64 (Int.tmod p (32 : Int)))) := by kernel_rfl
theorem sectorR_ok (p : Int) (h : (true) = true) : sectorR_e p = some (.int .i64 (secI p)) := by
  rw [sectorR_eq]
  refine cond_two (fun e => ?_) fun e => ?_
  · simp only [decide_eq_true_eq] at e; rw [secI, if_pos e]
  · simp only [decide_eq_false_iff_not] at e; rw [secI, if_neg e, Int.tmod_eq_emod_of_nonneg (by omega)]
noncomputable def uz_2 := uz_1.addSpec 18 sectorR_sp
theorem uz_2_laws : FLaws Try.prog s06 uz_2 := uz_1_laws.addEv s06_laws fun args d h => by
  unfold sectorR_sp at h
  split at h
  · unfold sectorR_s at h
    have h1 := congrArg Prod.fst (Option.some.inj h)
    obtain rfl : _ = d := congrArg Prod.snd (Option.some.inj h)
    exact ⟨by simp [D.refs], 20, sectorR_ok _ h1⟩
  · cases h
def roomP_s (p : Int) (c : Int) : Option (Bool × D RC) := some (true, .bool (roomB p c))
def roomP_sp : List (D RC) → Option (Bool × D RC)
  | [.int .i64 p, .int .i64 c] => roomP_s p c
  | _ => none
noncomputable def roomP_e (p : Int) (c : Int) := evF s06 uz_2 20 19 [.int .i64 p, .int .i64 c]
theorem roomP_eq (p : Int) (c : Int) : roomP_e p c = (let Z0 : DO_ := some (D.bool false); bif decide ((0 : Int) ≤ p) then bif decide (p ≤ (1048575 : Int)) then bif decide ((0 : Int) ≤ c) then bif decide (c ≤ (1048575 : Int)) then some (D.bool (decide (p ≤ IntKind.wrap .i64 (c + (32 : Int))))) else Z0 else Z0 else Z0 else Z0) := by kernel_rfl
theorem roomP_ok (p : Int) (c : Int) (h : (true) = true) : roomP_e p c = some (.bool (roomB p c)) := by
  (rw [roomP_eq]; conv => zeta)
  by_cases q : 0 ≤ p ∧ p ≤ 1048575 ∧ 0 ≤ c ∧ c ≤ 1048575
  · obtain ⟨q1, q2, q3, q4⟩ := q
    have w1 : IntKind.i64.wrap (c + 32) = c + 32 := wrap_id (by omega) (by omega)
    have w2 : IntKind.i64.wrap (p - 32) = p - 32 := wrap_id (by omega) (by omega)
    simp only [decide_eq_true q1, decide_eq_true q2, decide_eq_true q3, decide_eq_true q4, decide_true, cond_true, w1, w2, roomB, q1, q2, q3, q4, true_and]
  · have e : roomB p c = false := decide_eq_false (by omega)
    rw [e]
    cases h1 : decide (0 ≤ p)
    · rfl
    cases h2 : decide (p ≤ 1048575)
    · rfl
    cases h3 : decide (0 ≤ c)
    · rfl
    cases h4 : decide (c ≤ 1048575)
    · rfl
    simp only [decide_eq_true_eq] at h1 h2 h3 h4
    exact absurd ⟨h1, h2, h3, h4⟩ q
noncomputable def uz_3 := uz_2.addSpec 19 roomP_sp
theorem uz_3_laws : FLaws Try.prog s06 uz_3 := uz_2_laws.addEv s06_laws fun args d h => by
  unfold roomP_sp at h
  split at h
  · unfold roomP_s at h
    have h1 := congrArg Prod.fst (Option.some.inj h)
    obtain rfl : _ = d := congrArg Prod.snd (Option.some.inj h)
    exact ⟨by simp [D.refs], 20, roomP_ok _ _ h1⟩
  · cases h
def roomR_s (p : Int) (c : Int) : Option (Bool × D RC) := some (true, .bool (roomB p c))
def roomR_sp : List (D RC) → Option (Bool × D RC)
  | [.int .i64 p, .int .i64 c] => roomR_s p c
  | _ => none
noncomputable def roomR_e (p : Int) (c : Int) := evF s06 uz_3 20 20 [.int .i64 p, .int .i64 c]
theorem roomR_eq (p : Int) (c : Int) : roomR_e p c = (let Z0 : DO_ := some (D.bool false); bif decide ((0 : Int) ≤ p) then bif decide (p ≤ (1048575 : Int)) then bif decide ((0 : Int) ≤ c) then bif decide (c ≤ (1048575 : Int)) then some (D.bool (decide (IntKind.wrap .i64 (p - (32 : Int)) ≤ c))) else Z0 else Z0 else Z0 else Z0) := by kernel_rfl
theorem roomR_ok (p : Int) (c : Int) (h : (true) = true) : roomR_e p c = some (.bool (roomB p c)) := by
  (rw [roomR_eq]; conv => zeta)
  by_cases q : 0 ≤ p ∧ p ≤ 1048575 ∧ 0 ≤ c ∧ c ≤ 1048575
  · obtain ⟨q1, q2, q3, q4⟩ := q
    have w1 : IntKind.i64.wrap (c + 32) = c + 32 := wrap_id (by omega) (by omega)
    have w2 : IntKind.i64.wrap (p - 32) = p - 32 := wrap_id (by omega) (by omega)
    simp only [decide_eq_true q1, decide_eq_true q2, decide_eq_true q3, decide_eq_true q4, decide_true, cond_true, w1, w2, roomB, q1, q2, q3, q4, true_and]
    congr 2
    rw [decide_eq_decide]; omega
  · have e : roomB p c = false := decide_eq_false (by omega)
    rw [e]
    cases h1 : decide (0 ≤ p)
    · rfl
    cases h2 : decide (p ≤ 1048575)
    · rfl
    cases h3 : decide (0 ≤ c)
    · rfl
    cases h4 : decide (c ≤ 1048575)
    · rfl
    simp only [decide_eq_true_eq] at h1 h2 h3 h4
    exact absurd ⟨h1, h2, h3, h4⟩ q
noncomputable def uz_4 := uz_3.addSpec 20 roomR_sp
theorem uz_4_laws : FLaws Try.prog s06 uz_4 := uz_3_laws.addEv s06_laws fun args d h => by
  unfold roomR_sp at h
  split at h
  · unfold roomR_s at h
    have h1 := congrArg Prod.fst (Option.some.inj h)
    obtain rfl : _ = d := congrArg Prod.snd (Option.some.inj h)
    exact ⟨by simp [D.refs], 20, roomR_ok _ _ h1⟩
  · cases h
def r4Of_s (n : Int) (b : List UInt8) : Option (Bool × D RC) := some (decide (b.length ≤ 1000000), .tup (.acons (.str ((ofF ⟨n, b⟩).getD [])) (.acons (.bool (ofF ⟨n, b⟩).isSome) .anil)))
def r4Of_sp : List (D RC) → Option (Bool × D RC)
  | [.acons (.int .i64 n) (.acons (.str b) .anil)] => r4Of_s n b
  | _ => none
noncomputable def r4Of_e (n : Int) (b : List UInt8) := evF s06 uz_4 40 41 [.acons (.int .i64 n) (.acons (.str b) .anil)]
theorem r4Of_eq (n : Int) (b : List UInt8) : r4Of_e n b = (let Z0 : DO_ := some (D.tup (D.acons (D.str (Array.toList #[])) (.acons (D.bool false) .anil))); bif decide (List.length b ≤ (1000000 : Nat)) then bif (bif Option.isNone (readF b) then (50 : Int) else (0 : Int)) != (0 : Int) then Z0 else bif frN b != n then Z0 else some (D.tup (D.acons (D.str (frL b)) (.acons (D.bool true) .anil))) else none) := by kernel_rfl
theorem r4Of_ok (n : Int) (b : List UInt8) (h : (decide (b.length ≤ 1000000)) = true) : r4Of_e n b = some (.tup (.acons (.str ((ofF ⟨n, b⟩).getD [])) (.acons (.bool (ofF ⟨n, b⟩).isSome) .anil))) := by
  (rw [r4Of_eq]; conv => zeta)
  rw [h]
  simp only [frN, frL, ofF, cond_true]
  cases hr : readF b with
  | none => rfl
  | some p =>
    obtain ⟨m, l⟩ := p
    by_cases e : m = n
    · subst e; simp [bne]
    · have e2 : (m != n) = true := by simpa [bne] using e
      simp [e, e2]
noncomputable def uz_5 := uz_4.addSpec 41 r4Of_sp
theorem uz_5_laws : FLaws Try.prog s06 uz_5 := uz_4_laws.addEv s06_laws fun args d h => by
  unfold r4Of_sp at h
  split at h
  · unfold r4Of_s at h
    have h1 := congrArg Prod.fst (Option.some.inj h)
    obtain rfl : _ = d := congrArg Prod.snd (Option.some.inj h)
    exact ⟨by simp [D.refs], 40, r4Of_ok _ _ h1⟩
  · cases h
def entryP_s (p : Int) (y : Bool) (c : Bool) (l : List Write) : Option (Bool × D RC) := some (lenOK l.length, .tup (.acons (.str (entL ⟨p, y, l⟩)) (.acons (.int .i64 (entE ⟨p, y, l⟩)) .anil)))
def entryP_sp : List (D RC) → Option (Bool × D RC)
  | [.acons (.int .i64 p) (.acons (.bool y) (.acons (.sl .write c l) .anil))] => entryP_s p y c l
  | _ => none
noncomputable def entryP_e (p : Int) (y : Bool) (c : Bool) (l : List Write) := evF s06 uz_5 20 9 [.acons (.int .i64 p) (.acons (.bool y) (.acons (.sl (C := RC) .write c l) .anil))]
theorem entryP_eq (p : Int) (y : Bool) (c : Bool) (l : List Write) : entryP_e p y c l = (let Z0 : List (RA RTy.u8) := (fun (l : List (RA RTy.u8)) => l) (bif mayB (Rec.mk p y l) then bytesR (Rec.mk p y l) else []); bif lenOK l.length then bif (bif mayB (Rec.mk p y l) then (0 : Int) else (2 : Int)) != (0 : Int) then some (D.tup (D.acons (D.str (Array.toList #[])) (.acons (D.int .i64 2) .anil))) else bif decide (List.length Z0 ≤ (1000000 : Nat)) then some (D.tup (D.acons (D.str (bif okF p Z0 then frameB p Z0 else [])) (.acons (D.int .i64 (bif okF p Z0 then (0 : Int) else (2 : Int))) .anil))) else none else none) := by kernel_rfl
theorem entryP_ok (p : Int) (y : Bool) (c : Bool) (l : List Write) (h : (lenOK l.length) = true) : entryP_e p y c l = some (.tup (.acons (.str (entL ⟨p, y, l⟩)) (.acons (.int .i64 (entE ⟨p, y, l⟩)) .anil))) := by
  (rw [entryP_eq]; conv => zeta)
  refine cond_of h ?_
  cases hm : mayB ⟨p, y, l⟩
  · simp only [entL, entE, hm]; rfl
  · obtain ⟨h1, h2⟩ := ent_ok hm
    have h3 : decide ((bytesR ⟨p, y, l⟩).length ≤ 1000000) = true := decide_eq_true (by omega)
    simp only [entL, entE, hm, h1, h3, cond_true, cond_false, Bool.not_true]
    rfl
noncomputable def uz_6 := uz_5.addSpec 9 entryP_sp
theorem uz_6_laws : FLaws Try.prog s06 uz_6 := uz_5_laws.addEv s06_laws fun args d h => by
  unfold entryP_sp at h
  split at h
  · unfold entryP_s at h
    have h1 := congrArg Prod.fst (Option.some.inj h)
    obtain rfl : _ = d := congrArg Prod.snd (Option.some.inj h)
    exact ⟨by simp [D.refs], 20, entryP_ok _ _ _ _ h1⟩
  · cases h
def entryR_s (p : Int) (y : Bool) (c : Bool) (l : List Write) : Option (Bool × D RC) := some (lenOK l.length, .tup (.acons (.str (entL ⟨p, y, l⟩)) (.acons (.int .i64 (entE ⟨p, y, l⟩)) .anil)))
def entryR_sp : List (D RC) → Option (Bool × D RC)
  | [.acons (.int .i64 p) (.acons (.bool y) (.acons (.sl .write c l) .anil))] => entryR_s p y c l
  | _ => none
noncomputable def entryR_e (p : Int) (y : Bool) (c : Bool) (l : List Write) := evF s06 uz_6 20 10 [.acons (.int .i64 p) (.acons (.bool y) (.acons (.sl (C := RC) .write c l) .anil))]
theorem entryR_eq (p : Int) (y : Bool) (c : Bool) (l : List Write) : entryR_e p y c l = (let Z0 : List (RA RTy.u8) := (fun (l : List (RA RTy.u8)) => l) (bif mayB (Rec.mk p y l) then bytesR (Rec.mk p y l) else []); bif lenOK l.length then bif (bif mayB (Rec.mk p y l) then (0 : Int) else (2 : Int)) != (0 : Int) then some (D.tup (D.acons (D.str (Array.toList #[])) (.acons (D.int .i64 2) .anil))) else bif decide (List.length Z0 ≤ (1000000 : Nat)) then some (D.tup (D.acons (D.str (bif okF p Z0 then frameB p Z0 else [])) (.acons (D.int .i64 (bif okF p Z0 then (0 : Int) else (2 : Int))) .anil))) else none else none) := by kernel_rfl
theorem entryR_ok (p : Int) (y : Bool) (c : Bool) (l : List Write) (h : (lenOK l.length) = true) : entryR_e p y c l = some (.tup (.acons (.str (entL ⟨p, y, l⟩)) (.acons (.int .i64 (entE ⟨p, y, l⟩)) .anil))) := by
  (rw [entryR_eq]; conv => zeta)
  refine cond_of h ?_
  cases hm : mayB ⟨p, y, l⟩
  · simp only [entL, entE, hm]; rfl
  · obtain ⟨h1, h2⟩ := ent_ok hm
    have h3 : decide ((bytesR ⟨p, y, l⟩).length ≤ 1000000) = true := decide_eq_true (by omega)
    simp only [entL, entE, hm, h1, h3, cond_true, cond_false, Bool.not_true]
    rfl
noncomputable def uz_7 := uz_6.addSpec 10 entryR_sp
theorem uz_7_laws : FLaws Try.prog s06 uz_7 := uz_6_laws.addEv s06_laws fun args d h => by
  unfold entryR_sp at h
  split at h
  · unfold entryR_s at h
    have h1 := congrArg Prod.fst (Option.some.inj h)
    obtain rfl : _ = d := congrArg Prod.snd (Option.some.inj h)
    exact ⟨by simp [D.refs], 20, entryR_ok _ _ _ _ h1⟩
  · cases h
def atP_s (c : Bool) (now : List Sector) (d : Bool) (sure : List Sector) (p : Int) : Option (Bool × D RC) := some (goodL now && goodL sure, .tup (.acons (.acons (.int .i64 (recG (atF now sure p)).place) (.acons (.bool (recG (atF now sure p)).yes) (.acons (.sl (C := RC) .write (atF now sure p).isNone (recG (atF now sure p)).writes) .anil))) (.acons (.bool (atF now sure p).isSome) .anil)))
def atP_sp : List (D RC) → Option (Bool × D RC)
  | [.acons (.sl .sector c now) (.acons (.sl .sector d sure) .anil), .int .i64 p] => atP_s c now d sure p
  | _ => none
noncomputable def atP_e (c : Bool) (now : List Sector) (d : Bool) (sure : List Sector) (p : Int) := evF s06 uz_7 60 11 [.acons (.sl (C := RC) .sector c now) (.acons (.sl (C := RC) .sector d sure) .anil), .int .i64 p]
theorem atP_eq (c : Bool) (now : List Sector) (d : Bool) (sure : List Sector) (p : Int) : atP_e c now d sure p = (let Z0 : DO_ := some (D.tup (D.acons (D.acons (D.int .i64 0) (.acons (D.bool false) (.acons (D.sl RTy.write true []) .anil))) (.acons (D.bool false) .anil))); let Z1 : Sector := List.getD now (secI p).toNat (Sector.mk (0 : Int) []); let Z2 : Option (List UInt8) := ofF (Sector.mk (Sector.n Z1) (Sector.b Z1)); let Z3 : List UInt8 := (fun (l : List UInt8) => l) (Option.getD Z2 []); let Z4 : Bool := Option.isNone (readR Z3); let Z5 : Rec := recG (readR Z3); bif goodL now && goodL sure then bif (bif diskOK now sure then (0 : Int) else (2 : Int)) != (0 : Int) then Z0 else bif decide (p < (1 : Int)) then Z0 else bif decide ((0 : Int) ≤ p) then bif !decide (p ≤ (1048575 : Int)) then Z0 else bif decide ((0 : Int) ≤ secI p ∧ secI p < (↑now.length : Int)) then bif !Sector.n Z1 == p then Z0 else bif decide (List.length (Sector.b Z1) ≤ (1000000 : Nat)) then bif !Option.isSome Z2 then Z0 else bif sizeOK (Option.getD Z2 []).length (1 : Nat) then bif decide (List.length Z3 ≤ (1000000 : Nat)) then bif (bif Z4 then (50 : Int) else (0 : Int)) == (0 : Int) then bif !Rec.place Z5 == p then Z0 else some (D.tup (D.acons (D.acons (D.int .i64 Z5.place) (.acons (D.bool Z5.yes) (.acons (D.sl RTy.write Z4 Z5.writes) .anil))) (.acons (D.bool true) .anil))) else Z0 else none else none else none else none else Z0 else none) := by kernel_rfl
theorem atP_ok (c : Bool) (now : List Sector) (d : Bool) (sure : List Sector) (p : Int) (h : (goodL now && goodL sure) = true) : atP_e c now d sure p = some (.tup (.acons (.acons (.int .i64 (recG (atF now sure p)).place) (.acons (.bool (recG (atF now sure p)).yes) (.acons (.sl (C := RC) .write (atF now sure p).isNone (recG (atF now sure p)).writes) .anil))) (.acons (.bool (atF now sure p).isSome) .anil))) := by
  (rw [atP_eq]; conv => zeta)
  have no : atF now sure p = none → some (D.tup (.acons (.acons (.int .i64 0) (.acons (.bool false) (.acons (.sl (C := RC) .write true []) .anil))) (.acons (.bool false) .anil))) = some (.tup (.acons (.acons (.int .i64 (recG (atF now sure p)).place) (.acons (.bool (recG (atF now sure p)).yes) (.acons (.sl (C := RC) .write (atF now sure p).isNone (recG (atF now sure p)).writes) .anil))) (.acons (.bool (atF now sure p).isSome) .anil))) := fun e => by simp only [e]; rfl
  refine cond_of h ?_
  cases hd : diskOK now sure
  · exact cond_of rfl (no (atF_bad hd))
  obtain ⟨l1, l2⟩ := diskOK_len hd
  refine cond_no rfl ?_
  refine cond_two (fun e => no (atF_out (by simp only [decide_eq_true_eq] at e; omega))) fun e1 => ?_
  simp only [decide_eq_false_iff_not] at e1
  refine cond_of (decide_eq_true (by omega)) ?_
  refine cond_two (fun e => no (atF_out (by simp only [Bool.not_eq_true', decide_eq_false_iff_not] at e; omega))) fun e2 => ?_
  simp only [Bool.not_eq_false', decide_eq_true_eq] at e2
  obtain ⟨s0, s1⟩ := secI_bound p
  refine cond_of (decide_eq_true (by omega)) ?_
  have hb := sec_b hd (secI p).toNat
  have eq : atF now sure p = atS (now.getD (secI p).toNat sec0) p := if_pos ⟨hd, by omega, e2⟩
  have e0 : (⟨0, []⟩ : Sector) = sec0 := rfl
  rw [e0]
  generalize now.getD (secI p).toNat sec0 = s at hb eq ⊢
  obtain ⟨n, b⟩ := s
  dsimp only at hb eq ⊢
  have hf := ofF_len ⟨n, b⟩
  dsimp only at hf
  rcases Decidable.em (n = p) with hn | hn
  rotate_left
  · exact cond_of (by rw [ibeqF hn]; rfl) (no (eq.trans (if_neg hn)))
  refine cond_no (by rw [ibeqT hn]; rfl) ?_
  have eq := eq.trans (if_pos hn)
  refine cond_of (decide_eq_true (by omega)) ?_
  cases ho : ofF ⟨n, b⟩ with
  | none => exact cond_of rfl (no (by rw [eq, ho]; rfl))
  | some w =>
    rw [ho] at hf eq
    simp only [Option.getD_some, Option.bind_some] at hf eq
    refine cond_no rfl ?_
    simp only [Option.getD_some]
    refine cond_of (sizeT (by omega)) ?_
    refine cond_of (decide_eq_true (by show w.length ≤ 1000000; omega)) ?_
    have hr : readR w = none ∨ ∃ r, readR w = some r := by cases readR w <;> simp
    rcases hr with hr | ⟨r, hr⟩
    · rw [hr] at eq ⊢
      exact cond_no rfl (no eq)
    · rw [hr] at eq ⊢
      refine cond_of rfl ?_
      simp only [Option.bind_some] at eq
      by_cases hp : r.place = p
      · refine cond_no (by show (!(r.place == p)) = false; rw [ibeqT hp]; rfl) ?_
        rw [eq.trans (if_pos hp)]
        rfl
      · exact cond_of (by show (!(r.place == p)) = true; rw [ibeqF hp]; rfl) (no (eq.trans (if_neg hp)))
noncomputable def uz_8 := uz_7.addSpec 11 atP_sp
theorem uz_8_laws : FLaws Try.prog s06 uz_8 := uz_7_laws.addEv s06_laws fun args d h => by
  unfold atP_sp at h
  split at h
  · unfold atP_s at h
    have h1 := congrArg Prod.fst (Option.some.inj h)
    obtain rfl : _ = d := congrArg Prod.snd (Option.some.inj h)
    exact ⟨by simp [D.refs], 60, atP_ok _ _ _ _ _ h1⟩
  · cases h
def atR_s (c : Bool) (now : List Sector) (d : Bool) (sure : List Sector) (p : Int) : Option (Bool × D RC) := some (goodL now && goodL sure, .tup (.acons (.acons (.int .i64 (recG (atF now sure p)).place) (.acons (.bool (recG (atF now sure p)).yes) (.acons (.sl (C := RC) .write (atF now sure p).isNone (recG (atF now sure p)).writes) .anil))) (.acons (.bool (atF now sure p).isSome) .anil)))
def atR_sp : List (D RC) → Option (Bool × D RC)
  | [.acons (.sl .sector c now) (.acons (.sl .sector d sure) .anil), .int .i64 p] => atR_s c now d sure p
  | _ => none
noncomputable def atR_e (c : Bool) (now : List Sector) (d : Bool) (sure : List Sector) (p : Int) := evF s06 uz_8 60 12 [.acons (.sl (C := RC) .sector c now) (.acons (.sl (C := RC) .sector d sure) .anil), .int .i64 p]
theorem atR_eq (c : Bool) (now : List Sector) (d : Bool) (sure : List Sector) (p : Int) : atR_e c now d sure p = (let Z0 : DO_ := some (D.tup (D.acons (D.acons (D.int .i64 0) (.acons (D.bool false) (.acons (D.sl RTy.write true []) .anil))) (.acons (D.bool false) .anil))); let Z1 : Sector := List.getD now (secI p).toNat (Sector.mk (0 : Int) []); let Z2 : Option (List UInt8) := ofF (Sector.mk (Sector.n Z1) (Sector.b Z1)); let Z3 : List UInt8 := (fun (l : List UInt8) => l) (Option.getD Z2 []); let Z4 : Bool := Option.isNone (readR Z3); let Z5 : Rec := recG (readR Z3); bif goodL now && goodL sure then bif (bif diskOK now sure then (0 : Int) else (2 : Int)) != (0 : Int) then Z0 else bif decide (p < (1 : Int)) then Z0 else bif decide ((0 : Int) ≤ p) then bif !decide (p ≤ (1048575 : Int)) then Z0 else bif decide ((0 : Int) ≤ secI p ∧ secI p < (↑now.length : Int)) then bif decide (List.length (Sector.b Z1) ≤ (1000000 : Nat)) then bif !Option.isSome Z2 then Z0 else bif Sector.n Z1 != p then Z0 else bif sizeOK (Option.getD Z2 []).length (1 : Nat) then bif decide (List.length Z3 ≤ (1000000 : Nat)) then bif (bif Z4 then (50 : Int) else (0 : Int)) != (0 : Int) then Z0 else bif Rec.place Z5 != p then Z0 else some (D.tup (D.acons (D.acons (D.int .i64 Z5.place) (.acons (D.bool Z5.yes) (.acons (D.sl RTy.write Z4 Z5.writes) .anil))) (.acons (D.bool true) .anil))) else none else none else none else none else Z0 else none) := by kernel_rfl
theorem atR_ok (c : Bool) (now : List Sector) (d : Bool) (sure : List Sector) (p : Int) (h : (goodL now && goodL sure) = true) : atR_e c now d sure p = some (.tup (.acons (.acons (.int .i64 (recG (atF now sure p)).place) (.acons (.bool (recG (atF now sure p)).yes) (.acons (.sl (C := RC) .write (atF now sure p).isNone (recG (atF now sure p)).writes) .anil))) (.acons (.bool (atF now sure p).isSome) .anil))) := by
  (rw [atR_eq]; conv => zeta)
  have no : atF now sure p = none → some (D.tup (.acons (.acons (.int .i64 0) (.acons (.bool false) (.acons (.sl (C := RC) .write true []) .anil))) (.acons (.bool false) .anil))) = some (.tup (.acons (.acons (.int .i64 (recG (atF now sure p)).place) (.acons (.bool (recG (atF now sure p)).yes) (.acons (.sl (C := RC) .write (atF now sure p).isNone (recG (atF now sure p)).writes) .anil))) (.acons (.bool (atF now sure p).isSome) .anil))) := fun e => by simp only [e]; rfl
  refine cond_of h ?_
  cases hd : diskOK now sure
  · exact cond_of rfl (no (atF_bad hd))
  obtain ⟨l1, l2⟩ := diskOK_len hd
  refine cond_no rfl ?_
  refine cond_two (fun e => no (atF_out (by simp only [decide_eq_true_eq] at e; omega))) fun e1 => ?_
  simp only [decide_eq_false_iff_not] at e1
  refine cond_of (decide_eq_true (by omega)) ?_
  refine cond_two (fun e => no (atF_out (by simp only [Bool.not_eq_true', decide_eq_false_iff_not] at e; omega))) fun e2 => ?_
  simp only [Bool.not_eq_false', decide_eq_true_eq] at e2
  obtain ⟨s0, s1⟩ := secI_bound p
  refine cond_of (decide_eq_true (by omega)) ?_
  have hb := sec_b hd (secI p).toNat
  have eq : atF now sure p = atS (now.getD (secI p).toNat sec0) p := if_pos ⟨hd, by omega, e2⟩
  have e0 : (⟨0, []⟩ : Sector) = sec0 := rfl
  rw [e0]
  generalize now.getD (secI p).toNat sec0 = s at hb eq ⊢
  obtain ⟨n, b⟩ := s
  dsimp only at hb eq ⊢
  have hf := ofF_len ⟨n, b⟩
  dsimp only at hf
  refine cond_of (decide_eq_true (by omega)) ?_
  cases ho : ofF ⟨n, b⟩ with
  | none => exact cond_of rfl (no (by rw [eq, atS]; split <;> simp [ho]))
  | some w =>
    rw [ho] at hf
    simp only [Option.getD_some] at hf
    refine cond_no rfl ?_
    simp only [Option.getD_some]
    rcases Decidable.em (n = p) with hn | hn
    rotate_left
    · exact cond_of (ibneT hn) (no (eq.trans (if_neg hn)))
    refine cond_no (ibneF hn) ?_
    have eq := eq.trans (if_pos hn)
    rw [ho] at eq
    simp only [Option.bind_some] at eq
    refine cond_of (sizeT (by omega)) ?_
    refine cond_of (decide_eq_true (by show w.length ≤ 1000000; omega)) ?_
    have hr : readR w = none ∨ ∃ r, readR w = some r := by cases readR w <;> simp
    rcases hr with hr | ⟨r, hr⟩
    · rw [hr] at eq ⊢
      exact cond_of rfl (no eq)
    · rw [hr] at eq ⊢
      refine cond_no rfl ?_
      simp only [Option.bind_some] at eq
      by_cases hp : r.place = p
      · refine cond_no (ibneF hp) ?_
        rw [eq.trans (if_pos hp)]
        rfl
      · exact cond_of (ibneT hp) (no (eq.trans (if_neg hp)))
noncomputable def uz_9 := uz_8.addSpec 12 atR_sp
theorem uz_9_laws : FLaws Try.prog s06 uz_9 := uz_8_laws.addEv s06_laws fun args d h => by
  unfold atR_sp at h
  split at h
  · unfold atR_s at h
    have h1 := congrArg Prod.fst (Option.some.inj h)
    obtain rfl : _ = d := congrArg Prod.snd (Option.some.inj h)
    exact ⟨by simp [D.refs], 60, atR_ok _ _ _ _ _ h1⟩
  · cases h
def putW_s (c : Bool) (now : List Sector) (d : Bool) (sure : List Sector) (p : Int) (y : Bool) (cw : Bool) (l : List Write) : Option (Bool × D RC) := some (goodL now && goodL sure && lenOK l.length, .tup (.acons (.acons (.sl (C := RC) .sector (!okPut now sure (secI p) p (entL ⟨p, y, l⟩)) (pNow now sure (secI p) p (entL ⟨p, y, l⟩))) (.acons (.sl (C := RC) .sector (!okPut now sure (secI p) p (entL ⟨p, y, l⟩)) (pSure now sure (secI p) p (entL ⟨p, y, l⟩))) .anil)) (.acons (.int .i64 (bif okPut now sure (secI p) p (entL ⟨p, y, l⟩) then 0 else 2)) .anil)))
def putW_sp : List (D RC) → Option (Bool × D RC)
  | [.acons (.sl .sector c now) (.acons (.sl .sector d sure) .anil), .acons (.int .i64 p) (.acons (.bool y) (.acons (.sl .write cw l) .anil))] => putW_s c now d sure p y cw l
  | _ => none
noncomputable def putW_e (c : Bool) (now : List Sector) (d : Bool) (sure : List Sector) (p : Int) (y : Bool) (cw : Bool) (l : List Write) := evF s06 uz_9 60 15 [.acons (.sl (C := RC) .sector c now) (.acons (.sl (C := RC) .sector d sure) .anil), .acons (.int .i64 p) (.acons (.bool y) (.acons (.sl (C := RC) .write cw l) .anil))]
theorem putW_eq (c : Bool) (now : List Sector) (d : Bool) (sure : List Sector) (p : Int) (y : Bool) (cw : Bool) (l : List Write) : putW_e c now d sure p y cw l = (let Z0 : D RC := D.sl RTy.sector true []; let Z1 : List UInt8 := entL (Rec.mk p y l); let Z2 : Bool := okPut now sure (secI p) p Z1; bif lenOK l.length then bif entE (Rec.mk p y l) != (0 : Int) then some (D.tup (D.acons (D.acons Z0 (D.acons Z0 .anil)) (.acons (D.int .i64 (entE (Rec.mk p y l))) .anil))) else bif goodL now && goodL sure && lenOK Z1.length then some (D.tup (D.acons (D.acons (D.sl RTy.sector (!Z2) (pNow now sure (secI p) p Z1)) (.acons (D.sl RTy.sector (!Z2) (pSure now sure (secI p) p Z1)) .anil)) (.acons (D.int .i64 (bif Z2 then (0 : Int) else (2 : Int))) .anil))) else none else none) := by kernel_rfl
theorem putW_ok (c : Bool) (now : List Sector) (d : Bool) (sure : List Sector) (p : Int) (y : Bool) (cw : Bool) (l : List Write) (h : (goodL now && goodL sure && lenOK l.length) = true) : putW_e c now d sure p y cw l = some (.tup (.acons (.acons (.sl (C := RC) .sector (!okPut now sure (secI p) p (entL ⟨p, y, l⟩)) (pNow now sure (secI p) p (entL ⟨p, y, l⟩))) (.acons (.sl (C := RC) .sector (!okPut now sure (secI p) p (entL ⟨p, y, l⟩)) (pSure now sure (secI p) p (entL ⟨p, y, l⟩))) .anil)) (.acons (.int .i64 (bif okPut now sure (secI p) p (entL ⟨p, y, l⟩) then 0 else 2)) .anil))) := by
  (rw [putW_eq]; conv => zeta)
  simp only [Bool.and_eq_true] at h
  obtain ⟨⟨hg, hgs⟩, hl⟩ := h
  refine cond_of hl ?_
  cases hm : mayB ⟨p, y, l⟩
  · have e1 : entL ⟨p, y, l⟩ = [] := by simp only [entL, hm]; rfl
    have e2 : okPut now sure (secI p) p [] = false := okPut_not fun f => f.2.2.2.2.1 rfl
    rw [e1, e2]
    simp only [entE, hm, pNow, pSure, e2]
    rfl
  · have e3 : lenOK (entL ⟨p, y, l⟩).length = true := by
      have := (ent_ok hm).2
      simp only [entL, hm, cond_true, frameB_len]
      exact lenOK_of (by omega)
    simp only [entE, hm, hg, hgs, e3, Bool.and_self, cond_true]
    rfl
noncomputable def uz_10 := uz_9.addSpec 15 putW_sp
theorem uz_10_laws : FLaws Try.prog s06 uz_10 := uz_9_laws.addEv s06_laws fun args d h => by
  unfold putW_sp at h
  split at h
  · unfold putW_s at h
    have h1 := congrArg Prod.fst (Option.some.inj h)
    obtain rfl : _ = d := congrArg Prod.snd (Option.some.inj h)
    exact ⟨by simp [D.refs], 60, putW_ok _ _ _ _ _ _ _ _ h1⟩
  · cases h
def putWR_s (c : Bool) (now : List Sector) (d : Bool) (sure : List Sector) (p : Int) (y : Bool) (cw : Bool) (l : List Write) : Option (Bool × D RC) := some (goodL now && goodL sure && lenOK l.length, .tup (.acons (.acons (.sl (C := RC) .sector (!okPut now sure (secI p) p (entL ⟨p, y, l⟩)) (pNow now sure (secI p) p (entL ⟨p, y, l⟩))) (.acons (.sl (C := RC) .sector (!okPut now sure (secI p) p (entL ⟨p, y, l⟩)) (pSure now sure (secI p) p (entL ⟨p, y, l⟩))) .anil)) (.acons (.int .i64 (bif okPut now sure (secI p) p (entL ⟨p, y, l⟩) then 0 else 2)) .anil)))
def putWR_sp : List (D RC) → Option (Bool × D RC)
  | [.acons (.sl .sector c now) (.acons (.sl .sector d sure) .anil), .acons (.int .i64 p) (.acons (.bool y) (.acons (.sl .write cw l) .anil))] => putWR_s c now d sure p y cw l
  | _ => none
noncomputable def putWR_e (c : Bool) (now : List Sector) (d : Bool) (sure : List Sector) (p : Int) (y : Bool) (cw : Bool) (l : List Write) := evF s06 uz_10 60 16 [.acons (.sl (C := RC) .sector c now) (.acons (.sl (C := RC) .sector d sure) .anil), .acons (.int .i64 p) (.acons (.bool y) (.acons (.sl (C := RC) .write cw l) .anil))]
theorem putWR_eq (c : Bool) (now : List Sector) (d : Bool) (sure : List Sector) (p : Int) (y : Bool) (cw : Bool) (l : List Write) : putWR_e c now d sure p y cw l = (let Z0 : D RC := D.sl RTy.sector true []; let Z1 : DO_ := some (D.tup (D.acons (D.acons Z0 (D.acons Z0 .anil)) (.acons (D.int .i64 2) .anil))); let Z2 : Bool := goodL now && goodL sure; let Z3 : List UInt8 := entL (Rec.mk p y l); let Z4 : Bool := okPut now sure (secI p) p Z3; bif lenOK l.length then bif entE (Rec.mk p y l) != (0 : Int) then Z1 else bif Z2 then bif (bif diskOK now sure then (0 : Int) else (2 : Int)) != (0 : Int) then Z1 else bif Z2 && lenOK Z3.length then some (D.tup (D.acons (D.acons (D.sl RTy.sector (!Z4) (pNow now sure (secI p) p Z3)) (.acons (D.sl RTy.sector (!Z4) (pSure now sure (secI p) p Z3)) .anil)) (.acons (D.int .i64 (bif Z4 then (0 : Int) else (2 : Int))) .anil))) else none else none else none) := by kernel_rfl
theorem putWR_ok (c : Bool) (now : List Sector) (d : Bool) (sure : List Sector) (p : Int) (y : Bool) (cw : Bool) (l : List Write) (h : (goodL now && goodL sure && lenOK l.length) = true) : putWR_e c now d sure p y cw l = some (.tup (.acons (.acons (.sl (C := RC) .sector (!okPut now sure (secI p) p (entL ⟨p, y, l⟩)) (pNow now sure (secI p) p (entL ⟨p, y, l⟩))) (.acons (.sl (C := RC) .sector (!okPut now sure (secI p) p (entL ⟨p, y, l⟩)) (pSure now sure (secI p) p (entL ⟨p, y, l⟩))) .anil)) (.acons (.int .i64 (bif okPut now sure (secI p) p (entL ⟨p, y, l⟩) then 0 else 2)) .anil))) := by
  (rw [putWR_eq]; conv => zeta)
  simp only [Bool.and_eq_true] at h
  obtain ⟨⟨hg, hgs⟩, hl⟩ := h
  refine cond_of hl ?_
  cases hm : mayB ⟨p, y, l⟩
  · have e1 : entL ⟨p, y, l⟩ = [] := by simp only [entL, hm]; rfl
    have e2 : okPut now sure (secI p) p [] = false := okPut_not fun f => f.2.2.2.2.1 rfl
    rw [e1, e2]
    simp only [entE, hm, pNow, pSure, e2]
    rfl
  · have e3 : lenOK (entL ⟨p, y, l⟩).length = true := by
      have := (ent_ok hm).2
      simp only [entL, hm, cond_true, frameB_len]
      exact lenOK_of (by omega)
    refine cond_no (by simp only [entE, hm]; rfl) ?_
    rw [hg, hgs, e3]
    cases hd : diskOK now sure
    · have e2 : okPut now sure (secI p) p (entL ⟨p, y, l⟩) = false := okPut_not fun f => by rw [hd] at f; cases f.1
      simp only [pNow, pSure, e2]
      rfl
    · rfl
noncomputable def uz_11 := uz_10.addSpec 16 putWR_sp
theorem uz_11_laws : FLaws Try.prog s06 uz_11 := uz_10_laws.addEv s06_laws fun args d h => by
  unfold putWR_sp at h
  split at h
  · unfold putWR_s at h
    have h1 := congrArg Prod.fst (Option.some.inj h)
    obtain rfl : _ = d := congrArg Prod.snd (Option.some.inj h)
    exact ⟨by simp [D.refs], 60, putWR_ok _ _ _ _ _ _ _ _ h1⟩
  · cases h
open Go.Proofs
def eR (o : Option Rec) : Rec := ⟨(recG o).place, (recG o).yes, (recG o).writes⟩
def resP (e : Bool) (l : List Rec) : Option (D RC) := some (.tup (.acons (.sl (C := RC) .recd e l) (.acons (.int .i64 0) .anil)))
def preT (now sure : List Sector) (b : Int) : Nat → Nat → Bool → List Rec → Option (D RC)
  | 0, _, e, acc => resP e acc
  | n + 1, i, e, acc => bif goodL now && goodL sure then (bif !(atF now sure (IntKind.i64.wrap (b + (i : Int)))).isSome then resP e acc else preT now sure b n (i + 1) false (acc ++ [eR (atF now sure (IntKind.i64.wrap (b + (i : Int))))])) else none
theorem preL_some {now sure : List Sector} {n : Nat} {p : Int} {r : Rec} (h : atF now sure p = some r) : preL now sure (n + 1) p = r :: preL now sure n (p + 1) := by
  conv => lhs; unfold preL
  rw [h]
theorem preL_none {now sure : List Sector} {n : Nat} {p : Int} (h : atF now sure p = none) : preL now sure n p = [] := by
  cases n with
  | zero => rfl
  | succ n => unfold preL; rw [h]
theorem preT_ok {now sure : List Sector} {b : Int} (hg : (goodL now && goodL sure) = true) (h0 : 0 ≤ b) (h1 : b ≤ 1048575) : ∀ (n i : Nat) (e : Bool) (acc : List Rec), i + n ≤ 1000 →
    preT now sure b n i e acc = resP (e && (preL now sure n (b + (i : Int))).isEmpty) (acc ++ preL now sure n (b + (i : Int)))
  | 0, i, e, acc, _ => by simp [preT, preL]
  | n + 1, i, e, acc, h => by
    have w : IntKind.i64.wrap (b + (i : Int)) = b + (i : Int) := wrap_id (by omega) (by omega)
    unfold preT
    rw [hg, w]
    cases ha : atF now sure (b + (i : Int)) with
    | none => simp [preL, ha]
    | some r =>
      have e1 : b + ((i + 1 : Nat) : Int) = b + (i : Int) + 1 := by omega
      have := preT_ok hg h0 h1 n (i + 1) false (acc ++ [eR (some r)]) (by omega)
      rw [e1] at this
      simp only [Option.isSome_some, Bool.not_true, cond_true, cond_false, this]
      rw [preL_some ha]
      simp [eR, recG]
def preW (now sure : List Sector) (b : Int) : Option (D RC) :=
  bif goodL now && goodL sure then (bif (bif diskOK now sure then (0 : Int) else 2) != 0 then some (.tup (.acons (.sl (C := RC) .recd true []) (.acons (.int .i64 2) .anil))) else bif decide (0 ≤ b) then (bif !decide (b ≤ 1048575) then some (.tup (.acons (.sl (C := RC) .recd true []) (.acons (.int .i64 2) .anil))) else preT now sure b 32 1 true []) else some (.tup (.acons (.sl (C := RC) .recd true []) (.acons (.int .i64 2) .anil)))) else none
theorem preW_ok {now sure : List Sector} {b : Int} (h : (goodL now && goodL sure) = true) : preW now sure b = some (.tup (.acons (.sl (C := RC) .recd (preF now sure b).isEmpty (preF now sure b)) (.acons (.int .i64 (preE now sure b)) .anil))) := by
  unfold preW preF preE
  rw [h]
  cases hd : diskOK now sure
  · rfl
  by_cases q : 0 ≤ b ∧ b ≤ 1048575
  · have t := preT_ok h q.1 q.2 32 1 true [] (by omega)
    rw [decide_eq_true q, decide_eq_true q.1, decide_eq_true q.2, t]
    rfl
  · rw [decide_eq_false q]
    cases h1 : decide (0 ≤ b)
    · rfl
    cases h2 : decide (b ≤ 1048575)
    · rfl
    simp only [decide_eq_true_eq] at h1 h2
    exact absurd ⟨h1, h2⟩ q
def goodRs (l : List Rec) : Bool := l.all fun r => lenOK r.writes.length
theorem goodRs_at {l : List Rec} (h : goodRs l = true) (i : Nat) (hi : i < l.length) (d : Rec) : lenOK (l.getD i d).writes.length = true := by
  have e : l.getD i d = l[i] := by simp [hi]
  rw [e]; exact List.all_eq_true.1 h _ (List.getElem_mem hi)
def prefP_s (c : Bool) (now : List Sector) (d : Bool) (sure : List Sector) (b : Int) : Option (Bool × D RC) := some (goodL now && goodL sure, .tup (.acons (.sl (C := RC) .recd (preF now sure b).isEmpty (preF now sure b)) (.acons (.int .i64 (preE now sure b)) .anil)))
def prefP_sp : List (D RC) → Option (Bool × D RC)
  | [.acons (.sl .sector c now) (.acons (.sl .sector d sure) .anil), .int .i64 b] => prefP_s c now d sure b
  | _ => none
noncomputable def prefP_e (c : Bool) (now : List Sector) (d : Bool) (sure : List Sector) (b : Int) := evF s06 uz_11 800 13 [.acons (.sl (C := RC) .sector c now) (.acons (.sl (C := RC) .sector d sure) .anil), .int .i64 b]
theorem prefP_t (c : Bool) (now : List Sector) (d : Bool) (sure : List Sector) (b : Int) : prefP_e c now d sure b = preW now sure b := by kernel_rfl
theorem prefP_ok (c : Bool) (now : List Sector) (d : Bool) (sure : List Sector) (b : Int) (h : (goodL now && goodL sure) = true) : prefP_e c now d sure b = some (.tup (.acons (.sl (C := RC) .recd (preF now sure b).isEmpty (preF now sure b)) (.acons (.int .i64 (preE now sure b)) .anil))) := by
  rw [prefP_t]
  exact preW_ok h
noncomputable def u1_1 := uz_11.addSpec 13 prefP_sp
theorem u1_1_laws : FLaws Try.prog s06 u1_1 := uz_11_laws.addEv s06_laws fun args d h => by
  unfold prefP_sp at h
  split at h
  · unfold prefP_s at h
    have h1 := congrArg Prod.fst (Option.some.inj h)
    obtain rfl : _ = d := congrArg Prod.snd (Option.some.inj h)
    exact ⟨by simp [D.refs], 800, prefP_ok _ _ _ _ _ h1⟩
  · cases h
def prefR_s (c : Bool) (now : List Sector) (d : Bool) (sure : List Sector) (b : Int) : Option (Bool × D RC) := some (goodL now && goodL sure, .tup (.acons (.sl (C := RC) .recd (preF now sure b).isEmpty (preF now sure b)) (.acons (.int .i64 (preE now sure b)) .anil)))
def prefR_sp : List (D RC) → Option (Bool × D RC)
  | [.acons (.sl .sector c now) (.acons (.sl .sector d sure) .anil), .int .i64 b] => prefR_s c now d sure b
  | _ => none
noncomputable def prefR_e (c : Bool) (now : List Sector) (d : Bool) (sure : List Sector) (b : Int) := evF s06 u1_1 800 14 [.acons (.sl (C := RC) .sector c now) (.acons (.sl (C := RC) .sector d sure) .anil), .int .i64 b]
theorem prefR_t (c : Bool) (now : List Sector) (d : Bool) (sure : List Sector) (b : Int) : prefR_e c now d sure b = preW now sure b := by kernel_rfl
theorem prefR_ok (c : Bool) (now : List Sector) (d : Bool) (sure : List Sector) (b : Int) (h : (goodL now && goodL sure) = true) : prefR_e c now d sure b = some (.tup (.acons (.sl (C := RC) .recd (preF now sure b).isEmpty (preF now sure b)) (.acons (.int .i64 (preE now sure b)) .anil))) := by
  rw [prefR_t]
  exact preW_ok h
noncomputable def u1_2 := u1_1.addSpec 14 prefR_sp
theorem u1_2_laws : FLaws Try.prog s06 u1_2 := u1_1_laws.addEv s06_laws fun args d h => by
  unfold prefR_sp at h
  split at h
  · unfold prefR_s at h
    have h1 := congrArg Prod.fst (Option.some.inj h)
    obtain rfl : _ = d := congrArg Prod.snd (Option.some.inj h)
    exact ⟨by simp [D.refs], 800, prefR_ok _ _ _ _ _ h1⟩
  · cases h
structure sameQl_St where
  c : Bool
  l : List Rec
  d : Bool
  m : List Rec
  i : Nat
def sameQl_c (c : Bool) (l : List Rec) (d : Bool) (m : List Rec) (i : Nat) : Env RC := [(0, .sl (C := RC) .recd c l), (1, .sl (C := RC) .recd d m), (4, .bool false), (5, .int .i64 (i : Int))]
def sameQl_o (c : Bool) (l : List Rec) (d : Bool) (m : List Rec) (i : Nat) : List (Obj RC) := []
noncomputable def sameQl_r (c : Bool) (l : List Rec) (d : Bool) (m : List Rec) (i : Nat) := rndO s06 u1_2 22 4 40 0 [0, 1, 4, 5] [4] [] (sameQl_c c l d m i) (sameQl_o c l d m i)
theorem sameQl_eq (c : Bool) (l : List Rec) (d : Bool) (m : List Rec) (i : Nat) : sameQl_r c l d m i = (let Z0 : Int := (↑i : Int); let Z1 : Rec := Rec.mk (0 : Int) false []; let Z2 : Rec := List.getD l Z0.toNat Z1; let Z3 : Rec := List.getD m Z0.toNat Z1; bif lenOK l.length then bif decide (Z0 < (↑l.length : Int)) then bif decide ((0 : Int) ≤ Z0 ∧ Z0 < (↑l.length : Int)) then bif decide ((0 : Int) ≤ Z0 ∧ Z0 < (↑m.length : Int)) then bif lenOK Z2.writes.length && lenOK Z3.writes.length then bif !decide (Rec.mk Z2.place Z2.yes Z2.writes = Rec.mk Z3.place Z3.yes Z3.writes) then some ((X.ret, [(4, D.bool false)]), []) else some ((X.normal, [(0, D.sl RTy.recd c l), (1, D.sl RTy.recd d m), (4, D.bool false), (5, D.int .i64 (IntKind.wrap .i64 (Z0 + (1 : Int))))]), []) else none else none else none else some ((X.exit (0 : Nat), [(4, D.bool false)]), []) else none) := by kernel_rfl
def sameQl_fin (c : Bool) (l : List Rec) (d : Bool) (m : List Rec) (i : Nat) : RT RC := .br (decide (l.drop i = m.drop i)) (.leaf (.exit 0) [(4, .bool false)] []) (.leaf .ret [(4, .bool false)] [])
def sameQl_Inv (c : Bool) (l : List Rec) (d : Bool) (m : List Rec) (i : Nat) : Prop := i ≤ l.length ∧ l.length ≤ 9223372036854775807 ∧ l.length = m.length ∧ goodRs l = true ∧ goodRs m = true
def sameQl_S : LoopR RC sameQl_St where
  k := 0
  canon q := sameQl_c q.c q.l q.d q.m q.i
  objs q := sameQl_o q.c q.l q.d q.m q.i
  fin q := sameQl_fin q.c q.l q.d q.m q.i
  Inv q := sameQl_Inv q.c q.l q.d q.m q.i
  μ q := q.l.length - q.i
theorem sameQl_round (c : Bool) (l : List Rec) (d : Bool) (m : List Rec) (i : Nat) (hI : sameQl_Inv c l d m i) : Leaf (sameQl_r c l d m i) (LedR sameQl_S ⟨c, l, d, m, i⟩) := by
  (rw [sameQl_eq]; conv => zeta)
  unfold sameQl_Inv at hI
  obtain ⟨h1, h2, h3, g1, g2⟩ := hI
  have hlk0 : lenOK l.length = true := lenOK_of h2
  by_cases hlt : i < l.length
  · have w_succ : IntKind.i64.wrap ((i : Int) + 1) = ((i + 1 : Nat) : Int) := by rw [wrap_id (by omega) (by omega)]; simp
    have d_lt : decide ((i : Int) < l.length) = true := by simp; omega
    have d_in : decide (0 ≤ (i : Int) ∧ (i : Int) < l.length) = true := by simp; omega
    have t_nat : ((i : Int)).toNat = i := by simp
    simp only [w_succ, d_lt, d_in, t_nat, cond_true]
    have hlt2 : i < m.length := by omega
    have d_in2 : decide (0 ≤ (i : Int) ∧ (i : Int) < m.length) = true := by simp; omega
    have k1 := goodRs_at g1 i hlt (⟨0, false, []⟩ : Rec)
    have k2 := goodRs_at g2 i hlt2 (⟨0, false, []⟩ : Rec)
    simp only [d_in2, hlk0, cond_true]
    have hst := drops_step l m i (⟨0, false, []⟩ : Rec) hlt h3
    generalize l.getD i (⟨0, false, []⟩ : Rec) = x at hst k1 ⊢
    generalize m.getD i (⟨0, false, []⟩ : Rec) = y at hst k2 ⊢
    obtain ⟨p, yy, w⟩ := x
    obtain ⟨q, z, v⟩ := y
    simp only at k1 k2
    simp only [k1, k2, Bool.and_self, cond_true]
    by_cases hxy : (⟨p, yy, w⟩ : Rec) = ⟨q, z, v⟩
    · simp only [hxy, decide_true, Bool.not_true, cond_false]
      exact leafR_go ⟨c, l, d, m, i + 1⟩ ⟨hlt, h2, h3, g1, g2⟩ (by simp only [sameQl_S]; omega) (by simp only [sameQl_S, sameQl_fin, hst, hxy, decide_true, Bool.true_and]) rfl rfl
    · simp only [hxy, decide_false, Bool.not_false, cond_true]
      exact leafR_ret [] (by simp [sameQl_S, sameQl_fin, hst, hxy, RT.val]) rfl
  · have hi : i = l.length := by omega
    have c1 : decide ((i : Int) < l.length) = false := by simp; omega
    rw [hlk0, c1]
    exact leafR_exit [] (by simp only [sameQl_S, sameQl_fin, drops_end l m i (by omega) (by omega), RT.val, cond_true]) rfl
def sameQl_d (env : Env RC) (os : List (Obj RC)) : Option (Bool × sameQl_St) := match env, os with
  | [(0, .sl .recd c l), (1, .sl .recd d m), (4, .bool false), (5, .int .i64 x0)], [] => staticD (true) (decide (x0 = 0) && decide (l.length ≤ 9223372036854775807 ∧ l.length = m.length) && (goodRs l && goodRs m), ⟨c, l, d, m, 0⟩)
  | _, _ => none
noncomputable def u1_3 := u1_2.addLoop 22 4 (sumR s06 [] [0, 1, 4, 5] sameQl_S sameQl_d)
theorem u1_3_laws : FLaws Try.prog s06 u1_3 := by
  refine u1_2_laws.addRoundsR s06_laws (by kernel_rfl) sameQl_S 40 [0, 1, 4, 5] [4] [] [0, 1, 4, 5] sameQl_d (fun q hI => ?_) ?_
  · obtain ⟨c, l, d, m, i⟩ := q
    refine ⟨?_, ?_, sameQl_round c l d m i hI⟩
    · simp_all [RefsOK, sameQl_S, sameQl_c, sameQl_o, sameQl_Inv, D.refs, Obj.refs, rEnc]
    · simp_all [sameQl_S, sameQl_fin, sameQl_o, sameQl_Inv, RT.refsOK, RefsOK, D.refs, Obj.refs, rEnc]
  · intro env os b q hd_ hb
    unfold sameQl_d at hd_
    split at hd_
    · obtain ⟨hs, hd_⟩ := staticD_some hd_
      cases hd_
      simp only [Bool.and_eq_true, decide_eq_true_eq] at hb
      obtain ⟨⟨rfl, hl⟩, hg⟩ := hb
      exact ⟨⟨Nat.zero_le _, hl.1, hl.2, hg.1, hg.2⟩, rfl, rfl⟩
    · cases hd_
def sameQs_s (c : Bool) (l : List Rec) (d : Bool) (m : List Rec) : Option (Bool × D RC) := some (lenOK l.length && lenOK m.length && (goodRs l && goodRs m), .bool (decide (l = m)))
def sameQs_sp : List (D RC) → Option (Bool × D RC)
  | [.sl .recd c l, .sl .recd d m] => sameQs_s c l d m
  | _ => none
noncomputable def sameQs_e (c : Bool) (l : List Rec) (d : Bool) (m : List Rec) := evF s06 u1_3 40 22 [.sl (C := RC) .recd c l, .sl (C := RC) .recd d m]
theorem sameQs_eq (c : Bool) (l : List Rec) (d : Bool) (m : List Rec) : sameQs_e c l d m = (let Z0 : Nat := List.length l; let Z1 : Nat := List.length m; bif lenOK Z0 then bif lenOK Z1 then bif (↑Z0 : Int) != (↑Z1 : Int) then some (D.bool false) else bif decide (Z0 ≤ (9223372036854775807 : Nat) ∧ Z0 = Z1) && (goodRs l && goodRs m) then bif decide (List.drop (0 : Nat) l = List.drop (0 : Nat) m) then some (D.bool true) else some (D.bool false) else none else none else none) := by kernel_rfl
theorem sameQs_ok (c : Bool) (l : List Rec) (d : Bool) (m : List Rec) (h : (lenOK l.length && lenOK m.length && (goodRs l && goodRs m)) = true) : sameQs_e c l d m = some (.bool (decide (l = m))) := by
  (rw [sameQs_eq]; conv => zeta)
  simp only [Bool.and_eq_true] at h
  obtain ⟨⟨a1, a2⟩, g1, g2⟩ := h
  have hl := lenOK_le a1
  simp only [a1, a2, cond_true]
  by_cases h0 : l.length = m.length
  · have e1 : ((l.length : Int) != (m.length : Int)) = false := by simp [h0]
    have e2 : decide (l.length ≤ 9223372036854775807 ∧ l.length = m.length) = true := decide_eq_true ⟨hl, h0⟩
    rw [e1, e2, g1, g2]
    by_cases h8 : l = m <;> simp [h8]
  · have e1 : ((l.length : Int) != (m.length : Int)) = true := by simp; omega
    have h8 : ¬ l = m := fun e => h0 (by rw [e])
    rw [e1]
    simp [h8]
noncomputable def u1_4 := u1_3.addSpec 22 sameQs_sp
theorem u1_4_laws : FLaws Try.prog s06 u1_4 := u1_3_laws.addEv s06_laws fun args d h => by
  unfold sameQs_sp at h
  split at h
  · unfold sameQs_s at h
    have h1 := congrArg Prod.fst (Option.some.inj h)
    obtain rfl : _ = d := congrArg Prod.snd (Option.some.inj h)
    exact ⟨by simp [D.refs], 40, sameQs_ok _ _ _ _ h1⟩
  · cases h
def wakes06_s  : Option (Bool × D RC) := some (true, .bool true)
def wakes06_sp : List (D RC) → Option (Bool × D RC)
  | [] => wakes06_s 
  | _ => none
noncomputable def wakes06_e  := evF s06 u1_4 1000 8 []
theorem wakes06_ok  (h : (true) = true) : wakes06_e  = some (.bool true) := by
  kernel_rfl
noncomputable def u1_5 := u1_4.addSpec 8 wakes06_sp
theorem u1_5_laws : FLaws Try.prog s06 u1_5 := u1_4_laws.addEv s06_laws fun args d h => by
  unfold wakes06_sp at h
  split at h
  · unfold wakes06_s at h
    have h1 := congrArg Prod.fst (Option.some.inj h)
    obtain rfl : _ = d := congrArg Prod.snd (Option.some.inj h)
    exact ⟨by simp [D.refs], 1000, wakes06_ok  h1⟩
  · cases h
open Go.Proofs
theorem may_goodRs {l : List Rec} (h : ∀ r ∈ l, mayB r = true) : goodRs l = true := by
  unfold goodRs
  rw [List.all_eq_true]
  exact fun r hr => lenOK_of (Nat.le_trans (may_len (h r hr)) (by decide))
theorem preF_good (now sure : List Sector) (b : Int) : goodRs (preF now sure b) = true := may_goodRs (preF_may now sure b)
def tells06_s (c : Bool) (now : List Sector) (d : Bool) (sure : List Sector) (q : Int) (y : Bool) (cw : Bool) (l : List Write) (p : Int) (k : Int) : Option (Bool × D RC) := some (goodL now && goodL sure && lenOK l.length, .bool true)
def tells06_sp : List (D RC) → Option (Bool × D RC)
  | [.acons (.sl .sector c now) (.acons (.sl .sector d sure) .anil), .acons (.int .i64 q) (.acons (.bool y) (.acons (.sl .write cw l) .anil)), .int .i64 p, .int .i64 k] => tells06_s c now d sure q y cw l p k
  | _ => none
noncomputable def tells06_e (c : Bool) (now : List Sector) (d : Bool) (sure : List Sector) (q : Int) (y : Bool) (cw : Bool) (l : List Write) (p : Int) (k : Int) := evF s06 u1_5 100 3 [.acons (.sl (C := RC) .sector c now) (.acons (.sl (C := RC) .sector d sure) .anil), .acons (.int .i64 q) (.acons (.bool y) (.acons (.sl (C := RC) .write cw l) .anil)), .int .i64 p, .int .i64 k]
theorem tells06_eq (c : Bool) (now : List Sector) (d : Bool) (sure : List Sector) (q : Int) (y : Bool) (cw : Bool) (l : List Write) (p : Int) (k : Int) : tells06_e c now d sure q y cw l p k = (let Z0 : Bool := goodL now && goodL sure; let Z1 : DO_ := some (D.bool true); let Z2 : Bool := lenOK l.length; let Z3 : List UInt8 := entL (Rec.mk q y l); let Z4 : Rec := recG (atF now sure p); let Z5 : Bool := lenOK Z4.writes.length; let Z6 : Rec := Rec.mk Z4.place Z4.yes Z4.writes; let Z7 : Bool := Option.isSome (atF now sure p); let Z8 : List Rec := preF now sure p; let Z9 : Bool := lenOK Z8.length; let Z10 : List Sector := pNow now sure (secI q) q Z3; let Z11 : List Sector := pSure now sure (secI q) q Z3; let Z12 : Int := bif okPut now sure (secI q) q Z3 then (0 : Int) else (2 : Int); let Z13 : DO_ := some (D.bool false); let Z14 : DO_ := none; bif Z0 then bif greatD now sure then Z1 else bif Z2 then bif decide ((40 : Int) < (↑l.length : Int)) then Z1 else bif Z2 then bif Z2 then bif Z0 then bif Z0 then bif Z0 then bif Z0 then bif Z0 && Z2 then bif Z0 && Z2 then bif secI p == secI p then bif roomB p k == roomB p k then bif Z3 == Z3 then bif entE (Rec.mk q y l) == entE (Rec.mk q y l) then bif Z5 && Z5 then bif decide (Z6 = Z6) then bif Z7 == Z7 then bif Z9 && Z9 && (goodRs Z8 && goodRs Z8) then bif decide (Z8 = Z8) then bif preE now sure p == preE now sure p then bif lenOK Z10.length && lenOK Z10.length && (lenOK Z11.length && lenOK Z11.length) then bif decide (Z10 = Z10) && decide (Z11 = Z11) then bif Z12 == Z12 then Z1 else Z13 else Z13 else Z14 else Z13 else Z13 else Z14 else Z13 else Z13 else Z14 else Z13 else Z13 else Z13 else Z13 else Z14 else Z14 else Z14 else Z14 else Z14 else Z14 else Z14 else Z14 else Z14 else Z14) := by kernel_rfl
theorem tells06_ok (c : Bool) (now : List Sector) (d : Bool) (sure : List Sector) (q : Int) (y : Bool) (cw : Bool) (l : List Write) (p : Int) (k : Int) (h : (goodL now && goodL sure && lenOK l.length) = true) : tells06_e c now d sure q y cw l p k = some (.bool true) := by
  (rw [tells06_eq]; conv => zeta)
  rw [Bool.and_eq_true, Bool.and_eq_true] at h
  obtain ⟨⟨h1, h2⟩, h3⟩ := h
  have hp := pNow_good now sure (secI q) q (entL ⟨q, y, l⟩)
  have k1 := lenOK_of (goodL_iff.1 hp.1).1
  have k2 := lenOK_of (goodL_iff.1 hp.2).1
  simp only [h1, h2, h3, k1, k2, atG_len, preF_lk, preF_good, beq_self_eq_true, decide_true, Bool.and_self, cond_true]
  cases greatD now sure <;> cases decide ((40 : Int) < (l.length : Int)) <;> rfl
noncomputable def u2_1 := u1_5.addSpec 3 tells06_sp
theorem u2_1_laws : FLaws Try.prog s06 u2_1 := u1_5_laws.addEv s06_laws fun args d h => by
  unfold tells06_sp at h
  split at h
  · unfold tells06_s at h
    have h1 := congrArg Prod.fst (Option.some.inj h)
    obtain rfl : _ = d := congrArg Prod.snd (Option.some.inj h)
    exact ⟨by simp [D.refs], 100, tells06_ok _ _ _ _ _ _ _ _ _ _ h1⟩
  · cases h
open Go.Proofs
structure tailL_St where
  c : Bool
  now : List Sector
  d : Bool
  sure : List Sector
  b : Int
  cl : Bool
  l : List Rec
  i : Nat
def tailL_c (c : Bool) (now : List Sector) (d : Bool) (sure : List Sector) (b : Int) (cl : Bool) (l : List Rec) (i : Nat) : Env RC := [(1, .int .i64 b), (2, .ptr 0 []), (4, .bool false), (5, .sl (C := RC) .recd cl l), (7, .int .i64 (i : Int))]
def tailL_o (c : Bool) (now : List Sector) (d : Bool) (sure : List Sector) (b : Int) (cl : Bool) (l : List Rec) (i : Nat) : List (Obj RC) := [.var 24 (.acons (.sl (C := RC) .sector c now) (.acons (.sl (C := RC) .sector d sure) .anil))]
noncomputable def tailL_r (c : Bool) (now : List Sector) (d : Bool) (sure : List Sector) (b : Int) (cl : Bool) (l : List Rec) (i : Nat) := rndO s06 u2_1 5 9 60 1 [1, 2, 4, 5, 7] [4] [.slot 2 0] (tailL_c c now d sure b cl l i) (tailL_o c now d sure b cl l i)
theorem tailL_eq (c : Bool) (now : List Sector) (d : Bool) (sure : List Sector) (b : Int) (cl : Bool) (l : List Rec) (i : Nat) : tailL_r c now d sure b cl l i = (let Z0 : Int := (↑i : Int); let Z1 : Int := IntKind.wrap .i64 (IntKind.wrap .i64 (b + (1 : Int)) + Z0); let Z2 : List (Option (Obj RC)) := [some (Obj.var 24 (.acons (D.sl RTy.sector c now) (.acons (D.sl RTy.sector d sure) .anil)))]; let Z3 : RO_ := some ((X.ret, [(4, D.bool false)]), Z2); let Z4 : Bool := decide ((0 : Int) ≤ Z0 ∧ Z0 < (↑l.length : Int)); let Z5 : Rec := List.getD l Z0.toNat (Rec.mk (0 : Int) false []); let Z6 : Rec := recG (atF now sure Z1); bif lenOK l.length then bif decide (Z0 < (↑l.length : Int)) then bif goodL now && goodL sure then bif !Option.isSome (atF now sure Z1) then Z3 else bif Z4 then bif Rec.place Z5 != Z1 then Z3 else bif Z4 then bif lenOK Z6.writes.length && lenOK Z5.writes.length then bif !decide (Rec.mk Z6.place Z6.yes Z6.writes = Rec.mk Z5.place Z5.yes Z5.writes) then Z3 else some ((X.normal, [(1, D.int .i64 b), (2, D.ptr 0 []), (4, D.bool false), (5, D.sl RTy.recd cl l), (7, D.int .i64 (IntKind.wrap .i64 (Z0 + (1 : Int))))]), Z2) else none else none else none else none else some ((X.exit (0 : Nat), [(4, D.bool false)]), Z2) else none) := by kernel_rfl
def tailL_fin (c : Bool) (now : List Sector) (d : Bool) (sure : List Sector) (b : Int) (cl : Bool) (l : List Rec) (i : Nat) : RT RC := .leaf (.exit 0) [(4, .bool false)] (tailL_o c now d sure b cl l i)
def tailL_Inv (c : Bool) (now : List Sector) (d : Bool) (sure : List Sector) (b : Int) (cl : Bool) (l : List Rec) (i : Nat) : Prop := i ≤ l.length ∧ l = preL now sure 32 (b + 1) ∧ (goodL now && goodL sure) = true ∧ 0 ≤ b ∧ b ≤ 1048575
def tailL_S : LoopR RC tailL_St where
  k := 1
  canon q := tailL_c q.c q.now q.d q.sure q.b q.cl q.l q.i
  objs q := tailL_o q.c q.now q.d q.sure q.b q.cl q.l q.i
  fin q := tailL_fin q.c q.now q.d q.sure q.b q.cl q.l q.i
  Inv q := tailL_Inv q.c q.now q.d q.sure q.b q.cl q.l q.i
  μ q := q.l.length - q.i
theorem tailL_round (c : Bool) (now : List Sector) (d : Bool) (sure : List Sector) (b : Int) (cl : Bool) (l : List Rec) (i : Nat) (hI : tailL_Inv c now d sure b cl l i) : Leaf (tailL_r c now d sure b cl l i) (LedR tailL_S ⟨c, now, d, sure, b, cl, l, i⟩) := by
  (rw [tailL_eq]; conv => zeta)
  unfold tailL_Inv at hI
  obtain ⟨h1, hl, hg, b0, b1⟩ := hI
  have hlen : l.length ≤ 32 := by rw [hl]; exact preL_len _ _ _ _
  have hlk0 : lenOK l.length = true := lenOK_of (by omega)
  by_cases hlt : i < l.length
  · have w_succ : IntKind.i64.wrap ((i : Int) + 1) = ((i + 1 : Nat) : Int) := by rw [wrap_id (by omega) (by omega)]; simp
    have d_lt : decide ((i : Int) < l.length) = true := by simp; omega
    have d_in : decide (0 ≤ (i : Int) ∧ (i : Int) < l.length) = true := by simp; omega
    have t_nat : ((i : Int)).toNat = i := by simp
    simp only [w_succ, d_lt, d_in, t_nat, cond_true]
    have ha : atF now sure (b + 1 + (i : Int)) = some (l.getD i ⟨0, false, []⟩) := by
      have := preL_at (now := now) (sure := sure) 32 (b + 1) i (⟨0, false, []⟩ : Rec) (by rw [← hl]; exact hlt)
      rw [← hl] at this; exact this
    have hm := (atF_may ha).1
    have hpl := (atF_may ha).2.1
    have wl := lenOK_of (Nat.le_trans (may_len hm) (by decide : 4 ≤ 9223372036854775807))
    have w1 : IntKind.i64.wrap (b + 1) = b + 1 := wrap_id (by omega) (by omega)
    have w2 : IntKind.i64.wrap (b + 1 + (i : Int)) = b + 1 + (i : Int) := wrap_id (by omega) (by omega)
    generalize l.getD i (⟨0, false, []⟩ : Rec) = x at ha hm hpl wl ⊢
    simp only [hlk0, hg, w1, w2, ha, cond_true]
    simp only [recG, Option.getD_some, Option.isSome_some, Bool.not_true, cond_false, ibneF hpl, wl, Bool.and_self, cond_true, decide_true]
    exact leafR_go (S := tailL_S) (s := ⟨c, now, d, sure, b, cl, l, i⟩) ⟨c, now, d, sure, b, cl, l, i + 1⟩ ⟨hlt, hl, hg, b0, b1⟩ (by simp only [tailL_S]; omega) rfl rfl rfl
  · have hi : i = l.length := by omega
    have c1 : decide ((i : Int) < l.length) = false := by simp; omega
    rw [hlk0, c1]
    exact leafR_exit (tailL_o c now d sure b cl l i) rfl rfl
def tailL_d (env : Env RC) (os : List (Obj RC)) : Option (Bool × tailL_St) := match env, os with
  | [(1, .int .i64 b), (2, .ptr 0 []), (4, .bool false), (5, .sl .recd cl l), (7, .int .i64 x0)], [.var 24 (.acons (.sl .sector c now) (.acons (.sl .sector d sure) .anil))] => staticD (true) (decide (x0 = 0) && decide (l = preL now sure 32 (b + 1)) && (goodL now && goodL sure) && decide (0 ≤ b ∧ b ≤ 1048575), ⟨c, now, d, sure, b, cl, l, 0⟩)
  | _, _ => none
noncomputable def u3_1 := u2_1.addLoop 5 9 (sumR s06 [.slot 2 0] [1, 2, 4, 5, 7] tailL_S tailL_d)
theorem u3_1_laws : FLaws Try.prog s06 u3_1 := by
  refine u2_1_laws.addRoundsR s06_laws (by kernel_rfl) tailL_S 60 [1, 2, 4, 5, 7] [4] [.slot 2 0] [1, 2, 4, 5, 7] tailL_d (fun q hI => ?_) ?_
  · obtain ⟨c, now, d, sure, b, cl, l, i⟩ := q
    refine ⟨?_, ?_, tailL_round c now d sure b cl l i hI⟩
    · simp_all [RefsOK, tailL_S, tailL_c, tailL_o, tailL_Inv, D.refs, Obj.refs, rEnc]
    · simp_all [tailL_S, tailL_fin, tailL_o, tailL_Inv, RT.refsOK, RefsOK, D.refs, Obj.refs, rEnc]
  · intro env os b q hd_ hb
    unfold tailL_d at hd_
    split at hd_
    · obtain ⟨hs, hd_⟩ := staticD_some hd_
      cases hd_
      simp only [Bool.and_eq_true, decide_eq_true_eq] at hb
      obtain ⟨⟨⟨rfl, e1⟩, e2⟩, e3⟩ := hb
      exact ⟨⟨Nat.zero_le _, e1, by rw [e2.1, e2.2]; rfl, e3⟩, rfl, rfl⟩
    · cases hd_
noncomputable def tail06_e (c : Bool) (now : List Sector) (d : Bool) (sure : List Sector) (b : Int) := evF s06 u3_1 100 5 [.acons (.sl (C := RC) .sector c now) (.acons (.sl (C := RC) .sector d sure) .anil), .int .i64 b]
theorem tail06_eq (c : Bool) (now : List Sector) (d : Bool) (sure : List Sector) (b : Int) : tail06_e c now d sure b = (let Z0 : Bool := goodL now && goodL sure; let Z1 : DO_ := some (D.bool true); let Z2 : List Rec := preF now sure b; let Z3 : Bool := lenOK Z2.length; let Z4 : Int := (↑Z2.length : Int); let Z5 : DO_ := some (D.bool false); let Z6 : DO_ := none; let Z7 : Int := IntKind.wrap .i64 (b + (1 : Int)); let Z8 : Bool := !Option.isSome (atF now sure (IntKind.wrap .i64 (Z7 + Z4))); let Z9 : Nat := List.length (preF now sure Z7); let Z10 : Int := IntKind.wrap .i64 (Z4 - (1 : Int)); let Z11 : List Rec := List.drop (0 : Nat) (List.take Z10.toNat (preF now sure Z7)); let Z12 : List Rec := List.drop (1 : Nat) Z2; let Z13 : DO_ := bif lenOK Z9 then bif Z3 then bif decide (Z10 ≤ (↑Z9 : Int)) then bif Z3 then bif decide ((0 : Int) ≤ (0 : Int) ∧ (0 : Int) ≤ Z10 ∧ Z10 ≤ (↑Z9 : Int)) then bif decide ((0 : Int) ≤ (1 : Int) ∧ (1 : Int) ≤ Z4) then bif lenOK Z11.length && lenOK Z12.length && (goodRs Z11 && goodRs Z12) then bif decide (Z11 = Z12) then Z1 else Z5 else Z6 else Z6 else Z6 else Z6 else Z5 else Z6 else Z6; bif Z0 then bif greatD now sure then Z1 else bif Z0 then bif preE now sure b != (0 : Int) then bif Z3 then bif Z4 == (0 : Int) then Z1 else Z5 else Z6 else bif Z3 then bif decide ((32 : Int) < Z4) then Z5 else bif decide (Z2 = preL now sure (32 : Nat) (b + (1 : Int))) && Z0 && decide ((0 : Int) ≤ b ∧ b ≤ (1048575 : Int)) then bif Z3 then bif Z0 then bif Z3 then bif Z4 == (0 : Int) then bif Z8 then Z1 else Z5 else bif Z0 then bif preE now sure Z7 == (0 : Int) then bif Z3 then bif Z4 == (32 : Int) then Z13 else bif Z8 then Z13 else Z5 else Z6 else Z5 else Z6 else Z6 else Z6 else Z6 else Z6 else Z6 else Z6 else Z6) := by kernel_rfl
theorem tail06_ok (c : Bool) (now : List Sector) (d : Bool) (sure : List Sector) (b : Int) (h : (goodL now && goodL sure) = true) : tail06_e c now d sure b = some (.bool true) := by
  (rw [tail06_eq]; conv => zeta)
  simp only [h, cond_true, preF_lk]
  cases hgr : greatD now sure
  rotate_left
  · rfl
  simp only [cond_false]
  cases hq : diskOK now sure && decide (0 ≤ b ∧ b ≤ 1048575)
  · have e1 : preE now sure b = 2 := by unfold preE; rw [hq]; rfl
    have e2 : preF now sure b = [] := by unfold preF; rw [hq]; rfl
    rw [e1, e2]
    rfl
  have e1 : preE now sure b = 0 := by unfold preE; rw [hq]; rfl
  have e2 : preF now sure b = preL now sure 32 (b + 1) := by unfold preF; rw [hq]; rfl
  rw [Bool.and_eq_true, decide_eq_true_eq] at hq
  obtain ⟨hd, b0, b1⟩ := hq
  have hlen := preL_len now sure 32 (b + 1)
  have hst := preL_stop (now := now) (sure := sure) 32 (b + 1)
  have w1 : IntKind.i64.wrap (b + 1) = b + 1 := wrap_id (by omega) (by omega)
  have w2 : IntKind.i64.wrap (b + 1 + ((preL now sure 32 (b + 1)).length : Int)) = b + 1 + ((preL now sure 32 (b + 1)).length : Int) := wrap_id (by omega) (by omega)
  have d1 : decide ((32 : Int) < ((preL now sure 32 (b + 1)).length : Int)) = false := decide_eq_false (by omega)
  have d2 : decide (0 ≤ b ∧ b ≤ 1048575) = true := decide_eq_true ⟨b0, b1⟩
  rw [e1, e2]
  simp only [w1, w2, d1, d2, decide_true, Bool.and_self, cond_true, cond_false, bne_self_eq_false]
  cases hr : atF now sure (b + 1) with
  | none =>
    have e3 : preL now sure 32 (b + 1) = [] := preL_none hr
    rw [e3]
    have e4 : b + 1 + (([] : List Rec).length : Int) = b + 1 := by simp
    rw [e4, hr]
    rfl
  | some r =>
    have hL : preL now sure 32 (b + 1) = r :: preL now sure 31 (b + 1 + 1) := preL_some hr
    have hbb := (atF_may hr).2.2.2.2
    have e5 : preE now sure (b + 1) = 0 := by unfold preE; rw [hd, decide_eq_true (show 0 ≤ b + 1 ∧ b + 1 ≤ 1048575 by omega)]; rfl
    have e6 : preF now sure (b + 1) = preL now sure 32 (b + 1 + 1) := by unfold preF; rw [hd, decide_eq_true (show 0 ≤ b + 1 ∧ b + 1 ≤ 1048575 by omega)]; rfl
    obtain ⟨t1, t2⟩ := preL_take (now := now) (sure := sure) 31 (b + 1 + 1)
    have gN : goodRs (preL now sure 31 (b + 1 + 1)) = true := may_goodRs (preL_may now sure 31 (b + 1 + 1))
    have lM := preL_len now sure 32 (b + 1 + 1)
    rw [hL] at hlen hst
    rw [e5, e6, hL]
    generalize preL now sure 31 (b + 1 + 1) = N at *
    generalize preL now sure 32 (b + 1 + 1) = M at *
    simp only [List.length_cons] at hlen hst ⊢
    have w3 : IntKind.i64.wrap (((N.length + 1 : Nat) : Int) - 1) = (N.length : Int) := by rw [wrap_id (by omega) (by omega)]; omega
    have n1 : ((N.length : Int)).toNat = N.length := by simp
    have kM : lenOK M.length = true := lenOK_of (by omega)
    have kN : lenOK N.length = true := lenOK_of (by omega)
    have d3 : ((((N.length + 1 : Nat) : Int)) == 0) = false := ibeqF (by omega)
    have d4 : decide ((N.length : Int) ≤ (M.length : Int)) = true := decide_eq_true (by omega)
    have d5 : decide ((0 : Int) ≤ 0 ∧ (0 : Int) ≤ (N.length : Int) ∧ (N.length : Int) ≤ (M.length : Int)) = true := decide_eq_true ⟨by omega, by omega, by omega⟩
    have d6 : decide ((0 : Int) ≤ 1 ∧ (1 : Int) ≤ ((N.length + 1 : Nat) : Int)) = true := decide_eq_true ⟨by omega, by omega⟩
    have tail : (bif lenOK (List.drop 0 (List.take N.length M)).length && lenOK (List.drop 1 (r :: N)).length && (goodRs (List.drop 0 (List.take N.length M)) && goodRs (List.drop 1 (r :: N))) then (bif decide (List.drop 0 (List.take N.length M) = List.drop 1 (r :: N)) then some (D.bool (C := RC) true) else some (D.bool false)) else none) = some (D.bool true) := by
      simp only [List.drop_zero, List.drop_succ_cons, t1, kN, gN, Bool.and_self, cond_true, decide_true]
    simp only [w3, n1, kM, d3, d4, d5, d6, cond_true, cond_false, beq_self_eq_true]
    by_cases h32 : N.length + 1 = 32
    · rw [show ((((N.length + 1 : Nat) : Int)) == 32) = true from ibeqT (by omega)]
      exact tail
    · rw [show ((((N.length + 1 : Nat) : Int)) == 32) = false from ibeqF (by omega)]
      rw [hst (by omega)]
      exact tail
open Go.ChangeShapes Go.WideShapes Go.RowKit
section
variable {C : Cdc}
def good (gA : (t : C.Ty) → C.A t → Prop) : D C → Prop
  | .int k n => k.min ≤ n ∧ n ≤ k.max
  | .str s => s.length ≤ maxLen
  | .acons d ds => good gA d ∧ good gA ds
  | .arr t n l => l.length = n ∧ ∀ x ∈ l, gA t x
  | .sl t _ l => l.length ≤ maxLen ∧ ∀ x ∈ l, gA t x
  | _ => True
def plainT (T : Tab C) : Nat → TypeId → Bool
  | 0, _ => false
  | k + 1, t => match T.ty t with
    | .bool | .int _ | .str => true
    | .struct _ fs => fs.all (plainT T k)
    | .arr _ e _ => plainT T k e
    | .sl e _ => plainT T k e
    | _ => false
structure Dec (T : Tab C) (gA : (t : C.Ty) → C.A t → Prop) : Prop where
  dec : ∀ t d, fit T d (.inl (T.ety t)) = true → d.refs = [] → good gA d → (∃ k u, T.ty u = T.ty (T.ety t) ∧ plainT T k u = true) → ∃ x, T.dec t d = some x ∧ gA t x
variable {P : Program} {T : Tab C} {gA : (t : C.Ty) → C.A t → Prop}
def X0 (W : World) : Cx := ⟨W, fun _ => none, fun _ _ => False⟩
theorem X0_free (W : World) (b o : Nat) : (X0 W).free b o := ⟨fun h => h, fun ⟨_, _, h, _⟩ => by simp [X0] at h⟩
theorem arr_R {X : Cx} (t : C.Ty) (sz : Nat) : ∀ (n : Nat) (cs : List Value), cs.length = n * sz → (∀ i, i < n → ∃ x : C.A t, R T X false (T.enc t x) ((cs.drop (i * sz)).take sz) ∧ gA t x) →
    ∃ l : List (C.A t), R T X false (.arr t n l) cs ∧ l.length = n ∧ ∀ x ∈ l, gA t x
  | 0, cs, hl, _ => by
    obtain rfl : cs = [] := by simpa using hl
    exact ⟨[], .arr0 _, rfl, by simp⟩
  | n + 1, cs, hl, h => by
    obtain ⟨x, hx, gx⟩ := h 0 (by omega)
    obtain ⟨l, hr, hn, gl⟩ := arr_R t sz n (cs.drop sz) (by rw [List.length_drop, hl, Nat.succ_mul]; omega) fun i hi => by
      obtain ⟨y, hy, gy⟩ := h (i + 1) (by omega)
      refine ⟨y, ?_, gy⟩
      rw [List.drop_drop]
      rw [show sz + i * sz = (i + 1) * sz by rw [Nat.succ_mul]; omega]
      exact hy
    refine ⟨x :: l, ?_, by simp [hn], by simpa using ⟨gx, gl⟩⟩
    have := R.arrS hx hr
    simpa using this
theorem sl_R {W : World} (t : C.Ty) (b sz : Nat) : ∀ (n off : Nat), (∀ i, i < n → ∃ (x : C.A t) (ci : List Value), R T (X0 W) false (T.enc t x) ci ∧ ci.length = sz ∧ (∀ j, j < sz → W.cell? ⟨b, off + i * sz + j, none⟩ = ci[j]?) ∧ gA t x) →
    ∃ (l : List (C.A t)) (cs : List Value), R T (X0 W) false (.arr t n l) cs ∧ l.length = n ∧ (X0 W).at b off cs ∧ ∀ x ∈ l, gA t x
  | 0, off, _ => ⟨[], [], .arr0 _, rfl, fun j v h => by simp at h, by simp⟩
  | n + 1, off, h => by
    obtain ⟨x, ci, hx, hlen, hc, gx⟩ := h 0 (by omega)
    obtain ⟨l, cs, hr, hn, hat, gl⟩ := sl_R t b sz n (off + sz) fun i hi => by
      obtain ⟨y, c2, hy, h2, h3, gy⟩ := h (i + 1) (by omega)
      refine ⟨y, c2, hy, h2, fun j hj => ?_, gy⟩
      have := h3 j hj
      rwa [show off + (i + 1) * sz + j = off + sz + i * sz + j by rw [Nat.succ_mul]; omega] at this
    refine ⟨x :: l, ci ++ cs, .arrS hx hr, by simp [hn], fun j v hj => ⟨?_, X0_free _ _ _⟩, by simpa using ⟨gx, gl⟩⟩
    by_cases hlt : j < ci.length
    · rw [List.getElem?_append_left hlt] at hj
      have := hc j (by omega)
      simp only [Nat.zero_mul, Nat.add_zero] at this
      exact this.trans hj
    · rw [List.getElem?_append_right (by omega)] at hj
      have := (hat _ _ hj).1
      rwa [show off + sz + (j - ci.length) = off + j by omega] at this
theorem st_R {X : Cx} : ∀ (fs : List TypeId) (cs : List Value), (∀ i f, fs[i]? = some f → ∃ d, R T X false d ((cs.drop (sumSz T (fs.take i))).take (T.size f)) ∧ fit T d (.inl f) = true ∧ good gA d ∧ d.refs = []) →
    ∃ d, R T X false d (cs.take (sumSz T fs)) ∧ fit T d (.inr fs) = true ∧ good gA d ∧ d.refs = [] ∧ d.isRow = true ∧ (∀ t a, T.ty t = .struct a fs → fit T d (.inl t) = true)
  | [], cs, _ => ⟨.anil, by simpa [sumSz] using R.anil, rfl, trivial, rfl, rfl, fun t a ht => by simp [fit, ht]⟩
  | f :: fs, cs, h => by
    obtain ⟨d, hd, fd, gd, rd⟩ := h 0 f rfl
    obtain ⟨ds, hr, fr, gr, rr, _, _⟩ := st_R fs (cs.drop (T.size f)) fun i g hg => by
      obtain ⟨e, he, h2⟩ := h (i + 1) g (by simpa using hg)
      refine ⟨e, ?_, h2⟩
      simpa [sumSz, List.drop_drop] using he
    refine ⟨.acons d ds, ?_, by simp [fit, fd, fr], ⟨gd, gr⟩, by simp [D.refs, rd, rr], rfl, fun t a ht => by simp [fit, ht, fd, fr]⟩
    have := R.acons hd hr
    simpa [sumSz, List.take_add] using this
theorem cellsOf_info {t : TypeId} {i : TypeInfo} (h : P.info? t = some i) : P.cellsOf t = i.size := by
  simp [Program.cellsOf, h]
theorem trod_R (K : PLaws P T) (hd : Dec T gA) {H : Type} {enc : TypeId × Value → H} {W : World} : ∀ (k : Nat) (t : TypeId), plainT T k t = true → ∀ (fuel : Nat) (cs : List Value) (x : DataW H × List MemPlace), DataW.trod enc P W 0 (fun _ => true) true fuel t cs = some x →
    ∃ d, R T (X0 W) false d cs ∧ fit T d (.inl t) = true ∧ good gA d ∧ d.refs = [] := by
  intro k
  induction k with
  | zero => intro t h; simp [plainT] at h
  | succ k ih =>
    intro t hp fuel cs x h
    unfold plainT at hp
    split at hp
    · rename_i ht
      obtain ⟨b, rfl, _⟩ := DataW.trod_bool (K.uBool t ht) h
      exact ⟨.bool b, .bool b, by simp [fit, ht], trivial, rfl⟩
    · rename_i kd ht
      obtain ⟨n, rfl, _, hw⟩ := DataW.trod_int (K.uInt t kd ht) h
      have hw' : kd.min ≤ n ∧ n ≤ kd.max := by simpa [Lit.wf] using hw
      exact ⟨.int kd n, .int hw', by simp [fit, ht], hw', rfl⟩
    · rename_i ht
      obtain ⟨s, rfl, _, hs⟩ := DataW.trod_string (K.uStr t ht) h
      exact ⟨.str s.data.toList, .str s.data.toList, by simp [fit, ht], by simpa [good] using hs, rfl⟩
    · rename_i isA fs ht
      cases isA with
      | true =>
        obtain ⟨el, hu, hfs, hpos, inf, hi1, hi2⟩ := K.uRow t fs ht
        obtain ⟨xs, m, _, _, hlen, hxs, hel⟩ := DataW.trod_array hu h
        have hget : ∀ i f, fs[i]? = some f → f = el ∧ i < fs.length := fun i f hf => by
          have := (List.getElem?_eq_some_iff.1 hf).1
          rw [hfs, List.getElem?_replicate] at hf
          simp at hf
          exact ⟨hf.2.symm, this⟩
        have hsum : ∀ i, i ≤ fs.length → sumSz T (fs.take i) = i * T.size el := by
          intro i hi
          rw [hfs, List.take_replicate, Nat.min_eq_left hi]
          clear hi
          induction i with
          | zero => simp [sumSz]
          | succ i ih => simp only [List.replicate_succ, sumSz, ih]; rw [Nat.succ_mul]; omega
        obtain ⟨d, hr, _, gd, rd, _, hfit⟩ := st_R (T := T) (X := X0 W) (gA := gA) fs cs fun i f hf => by
          obtain ⟨rfl, hi⟩ := hget i f hf
          have := hel i hi
          rw [cellsOf_info hi1, hi2] at this
          have hx : xs[i]? = some xs[i] := by simp [hxs, hi]
          rw [hx] at this
          obtain ⟨d, h1, h2, h3, h4⟩ := ih f (List.all_eq_true.1 hp _ (List.mem_of_getElem? hf)) m _ _ this
          refine ⟨d, ?_, h2, h3, h4⟩
          rw [hsum i (by omega)]; exact h1
        obtain ⟨inf, hi1, hi2⟩ := K.info t d (hfit t _ ht)
        rw [cellsOf_info hi1, hi2, K.base.szStruct t _ fs ht] at hlen
        rw [← hlen, List.take_length] at hr
        exact ⟨d, hr, hfit t _ ht, gd, rd⟩
      | false =>
        obtain ⟨fields, hu, hfs, hoff, _⟩ := K.uStruct t fs ht
        obtain ⟨xs, n, _, _, hlen, hxs, hel⟩ := DataW.trod_struct hu h
        obtain ⟨d, hr, _, gd, rd, _, hfit⟩ := st_R (T := T) (X := X0 W) (gA := gA) fs cs fun i f hf => by
          rw [← hfs, List.getElem?_map] at hf
          cases hfi : fields.toList[i]? with
          | none => simp [hfi] at hf
          | some fld =>
            simp only [hfi, Option.map_some, Option.some.injEq] at hf
            have hfa : fields[i]? = some fld := by rw [← Array.getElem?_toList]; exact hfi
            have := hel i fld hfa
            have hx : ∃ y, xs[i]? = some y := by
              have : i < fields.size := (Array.getElem?_eq_some_iff.1 hfa).1
              exact ⟨xs[i], by simp [hxs, this]⟩
            obtain ⟨y, hy⟩ := hx
            rw [hy] at this
            subst hf
            have hmem : fld.type ∈ fs := by rw [← hfs]; exact List.mem_map.2 ⟨fld, by exact List.mem_of_getElem? hfi, rfl⟩
            obtain ⟨d, h1, h2, h3, h4⟩ := ih fld.type (List.all_eq_true.1 hp _ hmem) n _ _ this
            obtain ⟨inf, hi1, hi2, _⟩ := K.uField t fs fld.type ht hmem
            refine ⟨d, ?_, h2, h3, h4⟩
            rw [hoff i fld hfa, cellsOf_info hi1, hi2] at h1
            exact h1
        obtain ⟨inf, hi1, hi2⟩ := K.info t d (hfit t _ ht)
        rw [cellsOf_info hi1, hi2, K.base.szStruct t _ fs ht] at hlen
        rw [← hlen, List.take_length] at hr
        exact ⟨d, hr, hfit t _ ht, gd, rd⟩
    · rename_i n e ct ht
      obtain ⟨hu, _⟩ := K.uArr t n e ct ht
      obtain ⟨xs, m, _, _, hlen, hxs, hel⟩ := DataW.trod_array hu h
      obtain ⟨inf, z, hi1, hi2, _⟩ := K.uElem t e ct (.inl ⟨n, ht⟩)
      obtain ⟨it, hj1, hj2⟩ := K.info t (.arr ct n []) (by simp [fit, ht])
      obtain ⟨hs1, hs2, hs3⟩ := K.base.szArr t n e ct ht
      rw [cellsOf_info hj1, hj2, hs1] at hlen
      obtain ⟨l, hr, hn, gl⟩ := arr_R (T := T) (X := X0 W) (gA := gA) ct (T.size e) n cs hlen fun i hi => by
        have := hel i hi
        rw [cellsOf_info hi1, hi2] at this
        have hx : xs[i]? = some xs[i] := by simp [hxs, hi]
        rw [hx] at this
        obtain ⟨d, h1, h2, h3, h4⟩ := ih e hp m _ _ this
        obtain ⟨x, h5, h6⟩ := hd.dec ct d (by rw [← fit_congr hs2]; exact h2) h4 h3 ⟨k, e, hs2, hp⟩
        exact ⟨x, K.base.decR _ _ _ _ _ h5 h1, h6⟩
      exact ⟨.arr ct n l, hr, by simp [fit, ht], ⟨hn, gl⟩, rfl⟩
    · rename_i e ct ht
      have hu := K.uSl t e ct ht
      obtain ⟨inf, z, hi1, hi2, _, _, hpos, _⟩ := K.uElem t e ct (.inr ht)
      obtain ⟨hs1, hs2, hs3⟩ := K.base.szSl t e ct ht
      rcases DataW.trod_slice hu h with ⟨rfl, _⟩ | ⟨a, len, cap, elems, rest, m, _, rfl, _, _, hlc, hcm, hel, he, hrest, _⟩
      · exact ⟨.sl ct false [], .sl0 _ _ _, by simp [fit, ht], by simp [good], rfl⟩
      · by_cases hc0 : cap = 0
        · subst hc0
          obtain rfl : len = 0 := by omega
          exact ⟨.sl ct false [], .sl0 _ _ _, by simp [fit, ht], by simp [good], rfl⟩
        · have hspot : a.spot = none := by
            have key : ∀ i y, i = 0 → (W.cells? 0 (a.add (i * P.cellsOf e)) (P.cellsOf e)).bind (DataW.trod enc P W 0 (fun _ => true) true m e) = some y → a.spot = none := by
              intro i y hi0 hy
              subst hi0
              rw [cellsOf_info hi1, hi2] at hy
              cases hcs : W.cells? 0 (a.add (0 * T.size e)) (T.size e) with
              | none => rw [hcs] at hy; cases hy
              | some ci =>
                obtain ⟨_, h2, h3⟩ := World.cells?_some hcs
                have h4 := h3 0 hpos
                have h5 : ci[0]? = some ci[0] := by simp
                rw [h5] at h4
                have := World.cell?_spot h4
                simpa [Addr.add] using this
            by_cases hl0 : 0 < len
            · have := he 0 hl0
              have hx : elems[0]? = some elems[0] := by simp
              exact key 0 _ rfl (this.trans hx)
            · have hr2 := hrest rfl
              have := hr2.2 0 (by omega)
              have h0 : 0 < rest.length := by omega
              have hx : rest[0]? = some rest[0] := by simp
              exact key _ _ (by omega) (this.trans hx)
          obtain ⟨b, off, sp⟩ := a
          simp only at hspot
          subst hspot
          obtain ⟨l, cs, hr, hn, hat, gl⟩ := sl_R (T := T) (W := W) (gA := gA) ct b (T.size e) len off fun i hi => by
            have := he i hi
            have hx : elems[i]? = some elems[i] := by simp [hel, hi]
            rw [hx, cellsOf_info hi1, hi2] at this
            cases hcs : W.cells? 0 ((⟨b, off, none⟩ : Addr).add (i * T.size e)) (T.size e) with
            | none => simp [hcs] at this
            | some ci =>
              simp only [hcs, Option.bind_some] at this
              obtain ⟨_, h2, h3⟩ := World.cells?_some hcs
              obtain ⟨d, k1, k2, k3, k4⟩ := ih e hp m _ _ this
              obtain ⟨x, k5, k6⟩ := hd.dec ct d (by rw [← fit_congr hs2]; exact k2) k4 k3 ⟨k, e, hs2, hp⟩
              refine ⟨x, ci, K.base.decR _ _ _ _ _ k5 k1, h2, fun j hj => ?_, k6⟩
              have := h3 j hj
              rwa [add_plain, add_plain] at this
          subst hn
          exact ⟨.sl ct false l, .sl hat hr hlc (by simp), by simp [fit, ht], ⟨by omega, gl⟩, rfl⟩
    · cases hp
theorem okWide_row (K : PLaws P T) {W : World} {r : Reach} {base : Nat} {t : TypeId} {v : Value} {d : D C} (hv : Value.okWide P W r base t v) (hp : ∃ k, plainT T k t = true) (hf : fit T d (.inl t) = true) (hr : R T (X0 W) false d v.cells.toList) (hrf : d.refs = []) : RV T (X0 W) d v := by
  obtain ⟨k, hp⟩ := hp
  cases k with
  | zero => simp [plainT] at hp
  | succ k =>
    unfold plainT at hp
    split at hp
    · rename_i ht
      obtain ⟨b, rfl⟩ := okWide_bool (K.uBool t ht) hv
      refine .inr ⟨?_, by simpa [Value.cells] using hr⟩
      cases d <;> simp [fit, ht] at hf <;> rfl
    · rename_i kd ht
      obtain ⟨b, rfl⟩ := okWide_int (K.uInt t kd ht) hv
      refine .inr ⟨?_, by simpa [Value.cells] using hr⟩
      cases d <;> simp [fit, ht] at hf <;> rfl
    · rename_i ht
      obtain ⟨b, rfl⟩ := okWide_string (K.uStr t ht) hv
      refine .inr ⟨?_, by simpa [Value.cells] using hr⟩
      cases d <;> simp [fit, ht] at hf <;> rfl
    · rename_i isA fs ht
      have : ∃ cs, v = .agg cs := by
        cases isA with
        | false =>
          obtain ⟨fields, hu, _⟩ := K.uStruct t fs ht
          obtain ⟨cs, rfl, _⟩ := okWide_struct hu hv
          exact ⟨cs, rfl⟩
        | true =>
          obtain ⟨el, hu, _⟩ := K.uRow t fs ht
          simp only [Value.okWide, hu] at hv
          obtain ⟨cs, rfl, _⟩ := hv
          exact ⟨cs, rfl⟩
      obtain ⟨cs, rfl⟩ := this
      refine .inl ⟨?_, cs.toList, by simpa [Value.cells] using hr, rfl⟩
      cases d <;> simp [fit, ht] at hf <;> rfl
    · rename_i n e ct ht
      obtain ⟨hu, _⟩ := K.uArr t n e ct ht
      have : ∃ cs, v = .agg cs := by
        simp only [Value.okWide, hu] at hv
        obtain ⟨cs, rfl, _⟩ := hv
        exact ⟨cs, rfl⟩
      obtain ⟨cs, rfl⟩ := this
      refine .inl ⟨?_, cs.toList, by simpa [Value.cells] using hr, rfl⟩
      cases d <;> simp [fit, ht] at hf <;> rfl
    · rename_i e ct ht
      obtain ⟨a, len, cap, rfl⟩ := okWide_slice (K.uSl t e ct ht) hv
      refine .inr ⟨?_, by simpa [Value.cells] using hr⟩
      cases d <;> simp [fit, ht] at hf <;> rfl
    · cases hp
inductive Fits (T : Tab C) (gA : (t : C.Ty) → C.A t → Prop) : List TypeId → List (D C) → Prop
  | nil : Fits T gA [] []
  | cons {t : TypeId} {ts : List TypeId} {d : D C} {ds : List (D C)} (hf : fit T d (.inl t) = true) (hg : good gA d) (hr : d.refs = []) (h : Fits T gA ts ds) : Fits T gA (t :: ts) (d :: ds)
theorem Fits.refs {ts : List TypeId} {ds : List (D C)} (h : Fits T gA ts ds) : ∀ a ∈ ds, D.refs a = [] := by
  induction h with
  | nil => simp
  | cons _ _ hr _ ih => simpa using ⟨hr, ih⟩
theorem trodAll_R (K : PLaws P T) (hd : Dec T gA) {H : Type} {enc : TypeId × Value → H} {W : World} {r : Reach} {base : Nat} : ∀ (ts : List TypeId) (vs : List Value) (ds : List (DataW H)) (ps : List MemPlace), (∀ t ∈ ts, ∃ k, plainT T k t = true) →
    (∀ (j : Nat) t v, ts[j]? = some t → vs[j]? = some v → Value.okWide P W r base t v) → DataW.TrodAll enc P W 0 (fun _ => true) true ts vs ds ps → ∃ al, Fits T gA ts al ∧ RVs T (X0 W) al vs
  | [], vs, ds, ps, _, _, h => by
    obtain ⟨rfl, rfl, rfl⟩ := trodAll_nil h
    exact ⟨[], .nil, .nil⟩
  | t :: ts, vs, ds, ps, hp, hv, h => by
    obtain ⟨v, vs1, d, ds1, p, q, rfl, rfl, rfl, ⟨fuel, h1⟩, h2⟩ := trodAll_cons h
    obtain ⟨al, f1, r1⟩ := trodAll_R K hd ts vs1 ds1 q (fun t ht => hp t (by simp [ht])) (fun j t v a b => hv (j + 1) t v (by simpa using a) (by simpa using b)) h2
    obtain ⟨k, hk⟩ := hp t (by simp)
    obtain ⟨a, k1, k2, k3, k4⟩ := trod_R K hd k t hk fuel _ _ h1
    exact ⟨a :: al, .cons k2 k3 k4 f1, .cons (okWide_row K (hv 0 t v rfl rfl) ⟨k, hk⟩ k2 k1 k4) r1⟩
theorem stays (hl : laidOutB P = true) {H : Type} {enc : TypeId × Value → H} {W W' : World} {sp : Nat → Bool} : ∀ (ts : List TypeId) (vs : List Value) (ds : List (DataW H)) (ps : List MemPlace), (∀ t ∈ ts, P.readableRec t = true ∧ t < P.types.size) →
    DataW.TrodAll enc P W 0 (fun _ => true) true ts vs ds ps → (∀ p ∈ ps, W.sameAt W' p) → (∀ p ∈ ps, sp p.block = true) → DataW.TrodAll enc P W' 0 sp true ts vs ds ps
  | [], vs, ds, ps, _, h, _, _ => by
    obtain ⟨rfl, rfl, rfl⟩ := trodAll_nil h
    exact trodAll_mk0
  | t :: ts, vs, ds, ps, ht, h, h3, h4 => by
    obtain ⟨v, vs1, d, ds1, p, q, rfl, rfl, rfl, h1, h2⟩ := trodAll_cons h
    exact trodAll_cons_mk (WideElems.Trod_stays hl (ht t (by simp)).1 (ht t (by simp)).2 h1 (fun x hx => h3 x (by simp [hx])) (fun x hx => h4 x (by simp [hx])))
      (stays hl ts vs1 ds1 q (fun t h => ht t (by simp [h])) h2 (fun x hx => h3 x (by simp [hx])) (fun x hx => h4 x (by simp [hx])))
theorem post_same_old {H : Type} {enc : TypeId × Value → H} {f : Func} {s : ChangeSpec} {apart fresh handsOn again : Bool} {W W' : World} {args : Array Value} {v : Value} {ds gs : List (DataW H)} {before pa pv : List MemPlace}
    (hW : DataW.Whole enc P f.params.toList s.vars apart W args.toList ds gs before)
    (hres : ∀ (b : Nat) (sp : Nat → Bool) (hd : Bool), DataW.TrodAll enc P W' b sp hd f.resultTypes.toList (v.resultList f.resultTypes.size) (s.fn H (ds ++ gs)).results [])
    (hargs : ∀ sp : Nat → Bool, (∀ p ∈ before, sp p.block = true) → DataW.TrodAll enc P W' 0 sp true f.params.toList args.toList (s.fn H (ds ++ gs)).args pa)
    (hvars : ∀ sp : Nat → Bool, (∀ p ∈ before, sp p.block = true) → DataW.TrodVars enc P W' sp s.vars (s.fn H (ds ++ gs)).vars pv)
    (hps : before = pa ++ pv) (hk : W.keptBut W' (· ∈ before)) (hfz : ∀ a : Addr, a.block < W.heap.size → W'.frozen? a = W.frozen? a)
    (hok : ∀ (j : Nat) (t : TypeId) (r : Value), f.resultTypes[j]? = some t → (v.resultList f.resultTypes.size)[j]? = some r → Value.okWide P W' .any 0 t r) :
    s.post enc P f apart fresh handsOn again W args v W' := by
  have hold : ∀ p ∈ before, (fun b => decide (b < W.heap.size)) p.block = true := fun p hp => by simpa using hW.lt p hp
  refine ⟨ds, gs, before, [], pa, pv, hW, hres _ _ _, hargs _ hold, hvars _ hold, World.keptBut_mono (fun p hp => ⟨hp, ?_⟩) hk, fun _ => ?_⟩
  · rw [hps, List.mem_append] at hp
    exact Or.inr hp
  · have hlt := hW.lt
    obtain ⟨_, _, _, _, _, hz, hn⟩ := hW
    refine ⟨hok, _, _, ([] ++ pa) ++ pv, ⟨[] ++ pa, pv, trodAll_append (hargs _ (fun _ _ => rfl)) (hres _ _ _), hvars _ (fun _ _ => rfl), rfl, ?_, ?_⟩, ?_⟩
    · intro b off hp
      have hb : MemPlace.cell b off ∈ before := by rw [hps]; simpa using hp
      rw [hfz _ (by simpa [MemPlace.block] using hlt _ hb)]
      exact hz b off hb
    · intro ha
      have := hn ha
      rw [hps] at this
      simpa using this
    · intro p hp _
      rw [hps]
      simpa using hp
theorem contract_of (K : PLaws P T) {Φ : Fns C} (F : FLaws P T Φ) (hd : Dec T gA) (hl : laidOutB P = true) {f : FuncId} {fn : Func} {s : ChangeSpec} {tb : TypeId} {m : Nat}
    (hres : fn.resultTypes = #[tb]) (hb : P.underlying tb = some .bool) (hvars : s.vars = [])
    (hts : fn.params.toList.all (fun t => plainT T m t && P.readableRec t && Nat.blt t P.types.size) = true)
    (hspec : ∀ (H : Type) (ds : List (DataW H)), ds.length = fn.params.toList.length → s.fn H ds = { results := [.lit (.bool true)], args := ds })
    (hev : ∀ ds : List (D C), Fits T gA fn.params.toList ds → ∃ n, evF T Φ n f ds = some (.bool true))
    (H : Type) (enc : TypeId × Value → H) (W : World) (base : Nat) (args : Array Value) (ds gs : List (DataW H)) (before : List MemPlace)
    (hval : ∀ (j : Nat) t v, fn.params[j]? = some t → args[j]? = some v → Value.okWide P W .any base t v)
    (hW : DataW.Whole enc P fn.params.toList s.vars false W args.toList ds gs before) :
    Calls P f args W fun e W' => ∃ v, e = .returned v ∧ s.post enc P fn false true false false W args v W' := by
  have hts' : ∀ t ∈ fn.params.toList, plainT T m t = true ∧ P.readableRec t = true ∧ t < P.types.size := by
    intro t ht
    have := List.all_eq_true.1 hts t ht
    simp only [Bool.and_eq_true] at this
    exact ⟨this.1.1, this.1.2, by simpa [Nat.blt_eq] using this.2⟩
  have hW' := hW
  obtain ⟨p, q, hA, hV, rfl, hfz, hnd⟩ := hW
  rw [hvars] at hV
  obtain ⟨rfl, rfl⟩ := trodVars_none hV
  obtain ⟨al, hf, hr⟩ := trodAll_R (gA := gA) K hd (r := .any) (base := base) _ _ _ _ (fun t ht => ⟨m, (hts' t ht).1⟩) (fun j t v a b => hval j t v (by rw [← Array.getElem?_toList]; exact a) (by rw [← Array.getElem?_toList]; exact b)) hA
  obtain ⟨n, hn⟩ := hev al hf
  have hc := (evF_calls K F hn hf.refs W (fun _ _ => False) (fun _ _ h => h.elim) (vs := args.toList) hr).2
  have ea : (⟨args.toList⟩ : Array Value) = args := by simp
  rw [ea] at hc
  refine hc.mono fun e W' hp => ?_
  obtain ⟨v, ρ, rfl, rv, a1, a2, a3, a4, a5, a6⟩ := hp
  obtain rfl := rv.bool
  have hlen : ds.length = fn.params.toList.length := by
    have : ∀ (ts : List TypeId) (vs : List Value) (ds : List (DataW H)) (ps : List MemPlace), DataW.TrodAll enc P W 0 (fun _ => true) true ts vs ds ps → ds.length = ts.length := by
      intro ts
      induction ts with
      | nil => intro vs ds ps h; obtain ⟨rfl, rfl, rfl⟩ := trodAll_nil h; rfl
      | cons t ts ih =>
        intro vs ds ps h
        obtain ⟨v, vs1, d, ds1, p, q, rfl, rfl, rfl, h1, h2⟩ := trodAll_cons h
        simp [ih _ _ _ h2]
    exact this _ _ _ _ hA
  have hs := hspec H ds hlen
  have hbel : Below W.heap.size W W' := ⟨a3, a4, a5, a1, a2⟩
  have hlt : ∀ x ∈ p, x.block < W.heap.size := fun x hx => by simpa using hW'.lt x (by simpa using hx)
  refine ⟨_, rfl, post_same_old (pa := p) (pv := []) hW' ?_ ?_ ?_ (by simp) (hbel.frame _) a6 ?_⟩
  · intro b sp hd
    simp only [List.append_nil]
    rw [hs, hres]
    exact trodAll_cons_mk (p := []) (p' := []) (shut_bool hb _) trodAll_mk0
  · intro sp hsp
    simp only [List.append_nil] at hsp ⊢
    rw [hs]
    exact stays hl _ _ _ _ (fun t ht => (hts' t ht).2) hA (fun x hx => hbel.same (hlt x hx)) hsp
  · intro sp hsp
    simp only [List.append_nil]
    rw [hs, hvars]
    rfl
  · exact ok_one hres rfl (okWide_bool_mk hb _)
end
def i64 (n : Int) : Prop := -9223372036854775808 ≤ n ∧ n ≤ 9223372036854775807
def inK (k : IntKind) (n : Int) : Prop := k.min ≤ n ∧ n ≤ k.max
theorem i64_of {n : Int} (h : IntKind.i64.min ≤ n ∧ n ≤ IntKind.i64.max) : i64 n := by
  simpa [i64, IntKind.min, IntKind.max, IntKind.signed, IntKind.bits] using h
section
variable {C : Cdc} {T : Tab C} {d : D C} {u : TypeId}
theorem fit_int {k : IntKind} (hu : T.ty u = .int k) (hf : fit T d (.inl u) = true) : ∃ n, d = .int k n := by
  cases d <;> simp [fit, hu] at hf
  subst hf; exact ⟨_, rfl⟩
theorem fit_bool (hu : T.ty u = .bool) (hf : fit T d (.inl u) = true) : ∃ n, d = .bool n := by
  cases d <;> simp [fit, hu] at hf
  exact ⟨_, rfl⟩
theorem fit_str (hu : T.ty u = .str) (hf : fit T d (.inl u) = true) : ∃ n, d = .str n := by
  cases d <;> simp [fit, hu] at hf
  exact ⟨_, rfl⟩
theorem fit_sl {e : TypeId} {t : C.Ty} (hu : T.ty u = .sl e t) (hf : fit T d (.inl u) = true) (hr : d.refs = []) : ∃ c l, d = .sl t c l := by
  cases d <;> simp [fit, hu] at hf
  · subst hf; exact ⟨_, _, rfl⟩
  · simp [D.refs] at hr
  · simp [D.refs] at hr
theorem fit_st {a : Bool} {f : TypeId} {fs : List TypeId} (hu : T.ty u = .struct a (f :: fs)) (hf : fit T d (.inl u) = true) : ∃ x y, d = .acons x y ∧ fit T x (.inl f) = true ∧ fit T y (.inr fs) = true := by
  cases d <;> simp [fit, hu] at hf
  exact ⟨_, _, rfl, hf.1, hf.2⟩
theorem fit_more {f : TypeId} {fs : List TypeId} (hf : fit T d (.inr (f :: fs)) = true) : ∃ a b, d = .acons a b ∧ fit T a (.inl f) = true ∧ fit T b (.inr fs) = true := by
  cases d <;> simp [fit] at hf
  exact ⟨_, _, rfl, hf.1, hf.2⟩
theorem fit_end (hf : fit T d (.inr []) = true) : d = .anil := by
  cases d <;> simp [fit] at hf
  rfl
end
open Go.Proofs Go.ChangeShapes Go.WideShapes Go.ChangeAt Go.RowKit
def goodSector (x : Sector) : Prop := i64 (x.n) ∧ (x.b).length ≤ maxLen
def goodWrite (x : Write) : Prop := i64 (x.key) ∧ i64 (x.value)
def goodRec (x : Rec) : Prop := i64 (x.place) ∧ True ∧ ((x.writes).length ≤ maxLen ∧ ∀ y ∈ (x.writes), goodWrite (y))
def goodActS (x : ActS) : Prop := i64 (x.do_) ∧ True ∧ ((x.w).length ≤ maxLen ∧ ∀ y ∈ (x.w), goodWrite (y)) ∧ inK .u64 (x.lost) ∧ i64 (x.n)
def goodDisk (x : Disk) : Prop := ((x.now).length ≤ maxLen ∧ ∀ y ∈ (x.now), goodSector (y)) ∧ ((x.sure).length ≤ maxLen ∧ ∀ y ∈ (x.sure), goodSector (y))
def rGood : (t : RTy) → RA t → Prop
  | .actS => fun (x : ActS) => goodActS (x)
  | .l_u8 => fun (x : List (UInt8)) => ((x).length ≤ maxLen ∧ ∀ y ∈ (x), True)
  | .recd => fun (x : Rec) => goodRec (x)
  | .sector => fun (x : Sector) => goodSector (x)
  | .u8 => fun (x : UInt8) => True
  | .write => fun (x : Write) => goodWrite (x)
theorem ty58 : s06.ty 58 = .struct false [3, 9] := by kernel_rfl
theorem ty3 : s06.ty 3 = .int .i64 := by kernel_rfl
theorem ty9 : s06.ty 9 = .str := by kernel_rfl
theorem asSector {d : D RC} (hf : fit s06 d (.inl 58) = true) (hg : good rGood d) (hr : d.refs = []) : ∃ x : Sector, d = eSector x ∧ goodSector x := by
  obtain ⟨d0, r0, rfl, f0, hf⟩ := fit_st ty58 hf
  obtain ⟨d1, r1, rfl, f1, hf⟩ := fit_more hf
  obtain rfl := fit_end hf
  simp only [D.refs, List.append_eq_nil_iff] at hr
  obtain ⟨g0, g1, _⟩ := hg
  obtain ⟨q0, q1, _⟩ := hr
  obtain ⟨n0, rfl⟩ := fit_int ty3 f0
  obtain ⟨n1, rfl⟩ := fit_str ty9 f1
  exact ⟨⟨n0, n1⟩, rfl, i64_of g0, g1⟩
theorem dSector_e (x : Sector) (hx : goodSector x) : dSector (eSector x) = some x := by
  simp only [goodSector] at hx
  simp [dSector, eSector, D.asList, asArrN, hx]
theorem ty60 : s06.ty 60 = .struct false [3, 3] := by kernel_rfl
theorem asWrite {d : D RC} (hf : fit s06 d (.inl 60) = true) (hg : good rGood d) (hr : d.refs = []) : ∃ x : Write, d = eWrite x ∧ goodWrite x := by
  obtain ⟨d0, r0, rfl, f0, hf⟩ := fit_st ty60 hf
  obtain ⟨d1, r1, rfl, f1, hf⟩ := fit_more hf
  obtain rfl := fit_end hf
  simp only [D.refs, List.append_eq_nil_iff] at hr
  obtain ⟨g0, g1, _⟩ := hg
  obtain ⟨q0, q1, _⟩ := hr
  obtain ⟨n0, rfl⟩ := fit_int ty3 f0
  obtain ⟨n1, rfl⟩ := fit_int ty3 f1
  exact ⟨⟨n0, n1⟩, rfl, i64_of g0, i64_of g1⟩
theorem dWrite_e (x : Write) (hx : goodWrite x) : dWrite (eWrite x) = some x := by
  simp only [goodWrite] at hx
  simp [dWrite, eWrite, D.asList, asArrN, hx]
theorem ty27 : s06.ty 27 = .struct false [3, 4, 25] := by kernel_rfl
theorem ty4 : s06.ty 4 = .bool := by kernel_rfl
theorem ty25 : s06.ty 25 = .sl 60 .write := by kernel_rfl
theorem asRec {d : D RC} (hf : fit s06 d (.inl 27) = true) (hg : good rGood d) (hr : d.refs = []) : ∃ (x : Rec) (c0 : Bool), d = eRecC x c0 ∧ goodRec x := by
  obtain ⟨d0, r0, rfl, f0, hf⟩ := fit_st ty27 hf
  obtain ⟨d1, r1, rfl, f1, hf⟩ := fit_more hf
  obtain ⟨d2, r2, rfl, f2, hf⟩ := fit_more hf
  obtain rfl := fit_end hf
  simp only [D.refs, List.append_eq_nil_iff] at hr
  obtain ⟨g0, g1, g2, _⟩ := hg
  obtain ⟨q0, q1, q2, _⟩ := hr
  obtain ⟨n0, rfl⟩ := fit_int ty3 f0
  obtain ⟨n1, rfl⟩ := fit_bool ty4 f1
  obtain ⟨k2, n2, rfl⟩ := fit_sl ty25 f2 q2
  exact ⟨⟨n0, n1, n2⟩, k2, rfl, i64_of g0, trivial, g2⟩
theorem dRec_e (x : Rec) (c0 : Bool) (hx : goodRec x) : dRec (eRecC x c0) = some x := by
  simp only [goodRec] at hx
  simp [dRec, eRecC, D.asList, asArrN, hx]
theorem ty51 : s06.ty 51 = .struct false [3, 4, 25, 49, 3] := by kernel_rfl
theorem ty49 : s06.ty 49 = .int .u64 := by kernel_rfl
theorem asActS {d : D RC} (hf : fit s06 d (.inl 51) = true) (hg : good rGood d) (hr : d.refs = []) : ∃ (x : ActS) (c0 : Bool), d = eActSC x c0 ∧ goodActS x := by
  obtain ⟨d0, r0, rfl, f0, hf⟩ := fit_st ty51 hf
  obtain ⟨d1, r1, rfl, f1, hf⟩ := fit_more hf
  obtain ⟨d2, r2, rfl, f2, hf⟩ := fit_more hf
  obtain ⟨d3, r3, rfl, f3, hf⟩ := fit_more hf
  obtain ⟨d4, r4, rfl, f4, hf⟩ := fit_more hf
  obtain rfl := fit_end hf
  simp only [D.refs, List.append_eq_nil_iff] at hr
  obtain ⟨g0, g1, g2, g3, g4, _⟩ := hg
  obtain ⟨q0, q1, q2, q3, q4, _⟩ := hr
  obtain ⟨n0, rfl⟩ := fit_int ty3 f0
  obtain ⟨n1, rfl⟩ := fit_bool ty4 f1
  obtain ⟨k2, n2, rfl⟩ := fit_sl ty25 f2 q2
  obtain ⟨n3, rfl⟩ := fit_int ty49 f3
  obtain ⟨n4, rfl⟩ := fit_int ty3 f4
  exact ⟨⟨n0, n1, n2, n3, n4⟩, k2, rfl, i64_of g0, trivial, g2, g3, i64_of g4⟩
theorem dActS_e (x : ActS) (c0 : Bool) (hx : goodActS x) : dActS (eActSC x c0) = some x := by
  simp only [goodActS] at hx
  simp [dActS, eActSC, D.asList, asArrN, hx]
theorem ty24 : s06.ty 24 = .struct false [22, 22] := by kernel_rfl
theorem ty22 : s06.ty 22 = .sl 58 .sector := by kernel_rfl
theorem asDisk {d : D RC} (hf : fit s06 d (.inl 24) = true) (hg : good rGood d) (hr : d.refs = []) : ∃ (x : Disk) (c0 c1 : Bool), d = eDiskC x c0 c1 ∧ goodDisk x := by
  obtain ⟨d0, r0, rfl, f0, hf⟩ := fit_st ty24 hf
  obtain ⟨d1, r1, rfl, f1, hf⟩ := fit_more hf
  obtain rfl := fit_end hf
  simp only [D.refs, List.append_eq_nil_iff] at hr
  obtain ⟨g0, g1, _⟩ := hg
  obtain ⟨q0, q1, _⟩ := hr
  obtain ⟨k0, n0, rfl⟩ := fit_sl ty22 f0 q0
  obtain ⟨k1, n1, rfl⟩ := fit_sl ty22 f1 q1
  exact ⟨⟨n0, n1⟩, k0, k1, rfl, g0, g1⟩
theorem ty61 : s06.ty 61 = .sl 5 .u8 := by kernel_rfl
theorem ty5 : s06.ty 5 = .int .u8 := by kernel_rfl
theorem decs : Dec s06 rGood where
  dec t d hf hr hg _ := by
    cases t with
    | actS =>
      obtain ⟨x, c0, rfl, hx⟩ := asActS hf hg hr
      exact ⟨x, dActS_e x c0 hx, hx⟩
    | l_u8 =>
      obtain ⟨c, n, rfl⟩ := fit_sl ty61 hf hr
      exact ⟨n, by simp [s06, mkTab, rCod, rDec, D.asList], hg⟩
    | recd =>
      obtain ⟨x, c0, rfl, hx⟩ := asRec hf hg hr
      exact ⟨x, dRec_e x c0 hx, hx⟩
    | sector =>
      obtain ⟨x, rfl, hx⟩ := asSector hf hg hr
      exact ⟨x, dSector_e x hx, hx⟩
    | u8 =>
      obtain ⟨n, rfl⟩ := fit_int ty5 hf
      exact ⟨_, rfl, trivial⟩
    | write =>
      obtain ⟨x, rfl, hx⟩ := asWrite hf hg hr
      exact ⟨x, dWrite_e x hx, hx⟩
theorem own : ownKnob Try.prog.godebug = none := by kernel_rfl
theorem laidOut : laidOutB Try.prog = true := by kernel_rfl
end Go.Ev

namespace Go.Proofs.Ytbflnilnlangpaa
open Go.ChangeShapes Go.WideShapes Go.ChangeAt Go.RowKit Go.Ev
set_option linter.unusedVariables false
set_option maxRecDepth 100000
namespace walTail
theorem ev (ds : List (D RC)) (h : Fits s06 rGood Try.f5.params.toList ds) : ∃ n, evF s06 u3_1 n 5 ds = some (.bool true) := by
  rw [Try.params5] at h
  cases h with
  | cons hf0 hg0 hr0 h =>
  cases h with
  | cons hf1 hg1 hr1 h =>
  cases h with
  | nil =>
    obtain ⟨x, x0, x1, rfl, ox⟩ := asDisk hf0 hg0 hr0
    obtain ⟨n, rfl⟩ := fit_int (show s06.ty 3 = .int .i64 by kernel_rfl) hf1
    have key := tail06_ok x0 x.now x1 x.sure n ?_
    · unfold tail06_e at key
      refine ⟨100, ?_⟩
      simp only [eDiskC]
      exact key
    have g1 : goodL x.now = true := goodL_iff.2 ⟨ox.1.1, fun y hy => lenOK_of (ox.1.2 y hy).2⟩
    have g2 : goodL x.sure = true := goodL_iff.2 ⟨ox.2.1, fun y hy => lenOK_of (ox.2.2 y hy).2⟩
    simp only [g1, g2, Bool.and_self]
theorem lifted (os : Os) (started : os.Started) (H : Type) (enc : TypeId × Value → H) :
    ReturnsInHanded {} Try.checked os 5 .any (Rows.walTailSpec.pre6 enc Try.prog Try.f5 Rows.walTailRow.domain false) (Rows.walTailSpec.post enc Try.prog Try.f5 false true false false) := by
  refine returnsInHanded_of_change (C := Try.checked) own started (by kernel_rfl) Try.func5
    (ChangeSpec.witness6 (enc := enc) (C := Try.checked) false ⟨#[], #[.agg #[.slice none 0 0, .slice none 0 0], .int .i64 0], []⟩ 8 (by kernel_rfl) (by kernel_rfl) (by kernel_rfl) (by kernel_rfl)) ?_
  intro W base args ds gs before hval hW _ _
  refine contract_of (gA := rGood) (m := 8) s06_laws u3_1_laws decs laidOut (tb := 4) (by kernel_rfl) Try.underlying4 rfl (by kernel_rfl) ?_ ev H enc W base args ds gs before hval hW
  intro H ds h
  rw [Try.params5] at h
  match ds, h with
  | [d0, d1], _ => rfl
theorem over : Rows.walTailRow.holds Try.pinned (OpenSpec.ofChange Rows.walTailSpec) :=
  OpenClaim.holds_of_wide 5 Try.f5 rfl rfl rfl rfl rfl rfl rfl ⟨rfl, rfl, rfl, rfl, rfl⟩ rfl rfl rfl rfl rfl (by kernel_rfl) Try.func5 (by kernel_rfl)
    (of_decide_eq_true (by kernel_rfl)) (by unfold Func.isWrapper; first | (rw [if_pos (by decide +kernel)]; kernel_rfl) | (rw [if_neg (by decide +kernel)]; exact ⟨rfl, rfl⟩))
    (fun os started H enc _ => lifted os started H enc)
theorem proved : Rows.WalTailSaid := over
end walTail
#print axioms walTail.proved
end Go.Proofs.Ytbflnilnlangpaa
