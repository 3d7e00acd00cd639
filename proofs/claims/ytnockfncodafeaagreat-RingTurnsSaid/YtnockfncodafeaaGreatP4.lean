/-
  RingTurns returns true for any numbers, and they read behind the call as before. No condition beyond the given statement. (text 5)
-/
import Derived.Test.YtnockfncodafeaaGreatP3
import Derived.KernelRfl
import Derived.OpenShut
import Derived.ReadAgain
import Derived.WalkKit
import Derived.ProofKit
import Derived.Test.YtnockfncodafeaaGreatRows
namespace Go.Ev
open Go.Proofs
set_option maxRecDepth 100000
set_option linter.unusedVariables false
set_option linter.unusedSimpArgs false
structure holesL_St where
  c : Bool
  l : List Pick
  i : Nat
  w : Int
  now : List Sector
  sure : List Sector
  cs : List Int
  ts : List Task
  busy : List Bool
  m : Int
  has : List Int
  told : List Int
  gl : List (Int × Int)
  last : Int
def holesL_c (c : Bool) (l : List Pick) (i : Nat) (w : Int) (now : List Sector) (sure : List Sector) (cs : List Int) (ts : List Task) (busy : List Bool) (m : Int) (has : List Int) (told : List Int) (gl : List (Int × Int)) (last : Int) : Env RC := [(5, .ptr 0 []), (6, .mp 3), (7, .int .i64 last), (32, .sl (C := RC) .pick c l), (33, .int .i64 (l.length)), (34, .int .i64 (i : Int))]
def holesL_o (c : Bool) (l : List Pick) (i : Nat) (w : Int) (now : List Sector) (sure : List Sector) (cs : List Int) (ts : List Task) (busy : List Bool) (m : Int) (has : List Int) (told : List Int) (gl : List (Int × Int)) (last : Int) : List (Obj RC) := [.var 31 (.acons (.ptr 1 []) (.acons (.int .i64 w) (.acons (.int .i64 m) (.acons (.arr (C := RC) .int 4 has) (.acons (.vs 2 (told.length)) .anil))))), .var 47 (.acons (.acons (.sl (C := RC) .int false cs) (.acons (.acons (.sl (C := RC) .sector false now) (.acons (.sl (C := RC) .sector false sure) .anil)) .anil)) (.acons (.arr (C := RC) .task 4 ts) (.acons (.arr (C := RC) .task 4 ((ts))) (.acons (.arr (C := RC) .bool 4 busy) .anil)))), .vec .int true told, .map .int .int gl]
noncomputable def holesL_r (c : Bool) (l : List Pick) (i : Nat) (w : Int) (now : List Sector) (sure : List Sector) (cs : List Int) (ts : List Task) (busy : List Bool) (m : Int) (has : List Int) (told : List Int) (gl : List (Int × Int)) (last : Int) := rndO s17 ui_4 3 7 60 4 [5, 6, 7, 32, 33, 34] [] [.slot 5 0, .path 0 [0], .path 0 [4], .slot 6 0] (holesL_c c l i w now sure cs ts busy m has told gl last) (holesL_o c l i w now sure cs ts busy m has told gl last)
theorem holesL_eq (c : Bool) (l : List Pick) (i : Nat) (w : Int) (now : List Sector) (sure : List Sector) (cs : List Int) (ts : List Task) (busy : List Bool) (m : Int) (has : List Int) (told : List Int) (gl : List (Int × Int)) (last : Int) : holesL_r c l i w now sure cs ts busy m has told gl last = (let Z0 : Int := (↑i : Int); let Z1 : Int := (↑l.length : Int); let Z2 : Nat := List.length told; let Z3 : GS := GS.mk cs ts busy m has told; let Z4 : Pick := List.getD l Z0.toNat (Pick.mk (0 : Int) (0 : Int)); let Z5 : Int := Pick.client Z4; let Z6 : GS := pickG w Z3 Z5 (Pick.do_ Z4); let Z7 : List Int := GS.cs Z6; let Z8 : Int := (↑Z7.length : Int); let Z9 : Int := List.getD Z7 (0 : Nat) (0 : Int); let Z10 : Nat := List.length (GS.told Z6); let Z11 : Bool := decide (GS.ts Z6 = GS.ts Z6); let Z12 : Int := topG w Z7; let Z13 : D RC := .anil; let Z14 : D RC := D.acons (D.acons (D.sl RTy.sector false now) (.acons (D.sl RTy.sector false sure) Z13)) Z13; let Z15 : D RC := D.arr RTy.task (4 : Nat) (GS.ts Z6); let Z16 : List (Option (Obj RC)) := [some (Obj.var 31 (.acons (D.ptr 1 []) (.acons (D.int .i64 w) (.acons (D.int .i64 (GS.n Z6)) (.acons (D.arr RTy.int (4 : Nat) (GS.has Z6)) (.acons (D.vs 2 Z10) Z13)))))), some (Obj.var 47 (.acons (D.acons (D.sl RTy.int false Z7) Z14) (.acons Z15 (D.acons Z15 (D.acons (D.arr RTy.bool (4 : Nat) (GS.busy Z6)) Z13))))), some (Obj.vec RTy.int true (GS.told Z6)), some (Obj.map RTy.int RTy.int (seeG w Z7 gl))]; let Z17 : RO_ := some ((X.ret, []), Z16); let Z18 : Int := List.getD Z7 (1 : Nat) (0 : Int); let Z19 : Int := List.getD (GS.told Z6) (↑Z2 : Int).toNat (0 : Int); let Z20 : Int := Int.tmod (IntKind.wrap .i64 (Int.tmod Z5 (4 : Int) + (4 : Int))) (4 : Int); let Z21 : RO_ := some ((X.normal, [(5, D.ptr 0 []), (6, D.mp (3 : Nat)), (7, D.int .i64 Z12), (32, D.sl RTy.pick c l), (33, D.int .i64 Z1), (34, D.int .i64 (IntKind.wrap .i64 (Z0 + (1 : Int))))]), Z16); let Z22 : D RC := D.arr RTy.task (4 : Nat) ts; bif decide (Z0 < Z1) then bif decide ((0 : Int) ≤ Z0 ∧ Z0 < Z1) then bif lenOK Z2 then bif decide (Z2 = Z2) && decide (ts = ts) && cdec (OkPick w Z3 now sure (Z5 % (4 : Int))) then bif decide ((0 : Int) ≤ (0 : Int) ∧ (0 : Int) < Z8) then bif decide ((0 : Int) ≤ (1 : Int) ∧ (1 : Int) < Z8) then bif decide (Z9 = Z9) && decide (Z10 = Z10) && Z11 && decide (Z7 = Z7) && decide (now = now) && decide (sure = sure) && cdec (∃ (hs : List Int), SeenI w Z7 hs gl Z9) then bif decide (Z12 < last) then Z17 else bif decide (IntKind.wrap .i64 (last + (1 : Int)) < Z12) then Z17 else bif decide (IntKind.wrap .i64 (Z12 + (1 : Int)) < Z18) then Z17 else bif decide (Z18 < Z12) then Z17 else bif decide (Z18 < (1 : Int)) then Z17 else bif decide (Z10 = Z10) && Z11 && decide (Z7 = Z7) && decide (now = now) && decide (sure = sure) && cdec (∃ (hs : List Int), RW w Z7 hs ∧ Z12 = (↑hs.length : Int)) then bif lenOK Z10 then bif decide ((↑Z2 : Int) < (↑Z10 : Int)) then bif Nat.beq Z10 Z10 && decide ((0 : Int) ≤ (↑Z2 : Int) ∧ (↑Z2 : Int) < (↑Z10 : Int)) then bif Nat.beq Z10 Z10 then bif decide (Z19 < (1 : Int)) then Z17 else bif decide (Z12 < Z19) then Z17 else bif decide ((0 : Int) ≤ Z20 ∧ Z20 < (4 : Int)) then bif Option.getD (mget (keyEq s17 RTy.int) Z19 (seeG w Z7 gl)) (0 : Int) != List.getD (GS.has Z6) Z20.toNat (0 : Int) then Z17 else Z21 else none else none else none else Z21 else none else none else none else none else none else none else none else none else some ((X.exit (0 : Nat), []), [some (Obj.var 31 (.acons (D.ptr 1 []) (.acons (D.int .i64 w) (.acons (D.int .i64 m) (.acons (D.arr RTy.int (4 : Nat) has) (.acons (D.vs 2 Z2) Z13)))))), some (Obj.var 47 (.acons (D.acons (D.sl RTy.int false cs) Z14) (.acons Z22 (D.acons Z22 (D.acons (D.arr RTy.bool (4 : Nat) busy) Z13))))), some (Obj.vec RTy.int true told), some (Obj.map RTy.int RTy.int gl)])) := by kernel_rfl
noncomputable def holesL_fin (c : Bool) (l : List Pick) (i : Nat) (w : Int) (now : List Sector) (sure : List Sector) (cs : List Int) (ts : List Task) (busy : List Bool) (m : Int) (has : List Int) (told : List Int) (gl : List (Int × Int)) (last : Int) : RT RC := .leaf (.exit 0) [] (holesL_o c l i w now sure (runH w (l.drop i) (⟨cs, ts, busy, m, has, told⟩, gl)).1.cs (runH w (l.drop i) (⟨cs, ts, busy, m, has, told⟩, gl)).1.ts (runH w (l.drop i) (⟨cs, ts, busy, m, has, told⟩, gl)).1.busy (runH w (l.drop i) (⟨cs, ts, busy, m, has, told⟩, gl)).1.n (runH w (l.drop i) (⟨cs, ts, busy, m, has, told⟩, gl)).1.has (runH w (l.drop i) (⟨cs, ts, busy, m, has, told⟩, gl)).1.told (runH w (l.drop i) (⟨cs, ts, busy, m, has, told⟩, gl)).2 last)
def holesL_Inv (c : Bool) (l : List Pick) (i : Nat) (w : Int) (now : List Sector) (sure : List Sector) (cs : List Int) (ts : List Task) (busy : List Bool) (m : Int) (has : List Int) (told : List Int) (gl : List (Int × Int)) (last : Int) : Prop := i ≤ l.length ∧ l.length ≤ 400 ∧ (diskOK now sure = true ∧ goodL now = true ∧ goodL sure = true) ∧ ∃ hs, HI w ⟨cs, ts, busy, m, has, told⟩ hs gl last i
noncomputable def holesL_S : LoopR RC holesL_St where
  k := 4
  canon q := holesL_c q.c q.l q.i q.w q.now q.sure q.cs q.ts q.busy q.m q.has q.told q.gl q.last
  objs q := holesL_o q.c q.l q.i q.w q.now q.sure q.cs q.ts q.busy q.m q.has q.told q.gl q.last
  fin q := holesL_fin q.c q.l q.i q.w q.now q.sure q.cs q.ts q.busy q.m q.has q.told q.gl q.last
  Inv q := holesL_Inv q.c q.l q.i q.w q.now q.sure q.cs q.ts q.busy q.m q.has q.told q.gl q.last
  μ q := q.l.length - q.i
theorem holesL_round (c : Bool) (l : List Pick) (i : Nat) (w : Int) (now : List Sector) (sure : List Sector) (cs : List Int) (ts : List Task) (busy : List Bool) (m : Int) (has : List Int) (told : List Int) (gl : List (Int × Int)) (last : Int) (hI : holesL_Inv c l i w now sure cs ts busy m has told gl last) : Leaf (holesL_r c l i w now sure cs ts busy m has told gl last) (LedR holesL_S ⟨c, l, i, w, now, sure, cs, ts, busy, m, has, told, gl, last⟩) := by
  (rw [holesL_eq]; conv => zeta)
  unfold holesL_Inv at hI
  obtain ⟨h1, h2, ⟨hd, hg1, hg2⟩, hs, hI⟩ := hI
  by_cases hlt : i < l.length
  · have t_nat0 : ((i : Int)).toNat = i := by simp
    rw [t_nat0]
    have w_succ : IntKind.i64.wrap ((i : Int) + 1) = ((i + 1 : Nat) : Int) := by rw [wrap_id (by omega) (by omega)]; simp
    have d_lt : decide ((i : Int) < l.length) = true := by simp; omega
    have d_in : decide (0 ≤ (i : Int) ∧ (i : Int) < l.length) = true := by simp; omega
    have t_nat : ((i : Int)).toNat = i := by simp
    simp only [w_succ, d_lt, d_in, t_nat, cond_true]
    have hrun := runH_step w l i hlt (⟨cs, ts, busy, m, has, told⟩, gl) (⟨0, 0⟩ : Pick)
    have hfin : ∀ q, runH w (l.drop i) (⟨cs, ts, busy, m, has, told⟩, gl) = q → holesL_fin c l i w now sure cs ts busy m has told gl last = .leaf (.exit 0) [] (holesL_o c l i w now sure q.1.cs q.1.ts q.1.busy q.1.n q.1.has q.1.told q.2 last) := fun q hq => by unfold holesL_fin; rw [hq]
    have hfin := hfin _ hrun
    clear hrun
    generalize l.getD i (⟨0, 0⟩ : Pick) = x at hfin ⊢
    have hok := hI.ri.ok (by omega) hd hg1 hg2 x.client
    obtain ⟨hs', hR, hP, hS, hsee⟩ := hI.seen (by omega) x.client x.do_
    have hnext := hI.next hR hsee
    have hT := hR.rw.topG
    have htold : told.length = (⟨cs, ts, busy, m, has, told⟩ : GS).told.length := rfl
    have ht0 : (told.length : Int) ≤ i := hI.ri.tk
    have ht1 := hR.tk
    have hlc := hR.rw.lc
    have hTt := hR.rw.Tt
    have htT := hR.rw.tT
    have hone := hR.rw.t1
    have hTk := hR.rw.Tk
    have hlast := hI.last
    have hext : (hs.length : Int) ≤ hs'.length ∧ (hs'.length : Int) ≤ hs.length + 1 := by
      rcases hP.ext with e | ⟨d, e⟩
      · rw [e]; omega
      · rw [e, List.length_append, List.length_singleton]; omega
    have htl := hP.told
    have ht2 : ∀ p ∈ (pickG w ⟨cs, ts, busy, m, has, told⟩ x.client x.do_).told, 1 ≤ p ∧ p ≤ hs'.length := hR.told1
    have hmg := mget_gm hs' hs'.length
    rw [← hsee] at hmg
    have hsd : stH w (⟨cs, ts, busy, m, has, told⟩, gl) x = (pickG w ⟨cs, ts, busy, m, has, told⟩ x.client x.do_, seeG w (pickG w ⟨cs, ts, busy, m, has, told⟩ x.client x.do_).cs gl) := rfl
    rw [hsd] at hfin
    generalize pickG w ⟨cs, ts, busy, m, has, told⟩ x.client x.do_ = s' at *
    have c1 : lenOK told.length = true := lenOK_of (by omega)
    have c2 : lenOK s'.told.length = true := lenOK_of (by omega)
    have c3 : decide ((0 : Int) ≤ 0 ∧ (0 : Int) < (s'.cs.length : Int)) = true := decide_eq_true ⟨by omega, by omega⟩
    have c4 : decide ((0 : Int) ≤ 1 ∧ (1 : Int) < (s'.cs.length : Int)) = true := decide_eq_true ⟨by omega, by omega⟩
    have v1 : IntKind.i64.wrap (last + 1) = last + 1 := wrap_id (by omega) (by omega)
    have v2 : IntKind.i64.wrap (topG w s'.cs + 1) = topG w s'.cs + 1 := wrap_id (by omega) (by omega)
    have k1 : cdec (OkPick w ⟨cs, ts, busy, m, has, told⟩ now sure (x.client % 4)) = true := cdec_true hok
    have k2 : cdec (∃ hs, SeenI w s'.cs hs gl (s'.cs.getD 0 0)) = true := cdec_true ⟨hs', hS⟩
    have k3 : cdec (∃ hs : List Int, RW w s'.cs hs ∧ topG w s'.cs = hs.length) = true := cdec_true ⟨hs', hR.rw, hT⟩
    have d1 : decide (topG w s'.cs < last) = false := decide_eq_false (by omega)
    have d2 : decide (last + 1 < topG w s'.cs) = false := decide_eq_false (by omega)
    have d3 : decide (topG w s'.cs + 1 < s'.cs.getD 1 0) = false := decide_eq_false (by omega)
    have d4 : decide (s'.cs.getD 1 0 < topG w s'.cs) = false := decide_eq_false (by omega)
    have d5 : decide (s'.cs.getD 1 0 < 1) = false := decide_eq_false (by omega)
    simp only [c1, c2, c3, c4, v1, v2, k1, k2, k3, d1, d2, d3, d4, d5, decide_true, Bool.and_self, cond_true, cond_false, mod4, keyEq_int17]
    have hgo := leafR_go (S := holesL_S) (s := ⟨c, l, i, w, now, sure, cs, ts, busy, m, has, told, gl, last⟩) ⟨c, l, i + 1, w, now, sure, s'.cs, s'.ts, s'.busy, s'.n, s'.has, s'.told, seeG w s'.cs gl, topG w s'.cs⟩ ⟨hlt, h2, ⟨hd, hg1, hg2⟩, hs', by rw [show (((i + 1 : Nat)) : Int) = (i : Int) + 1 by simp]; exact hnext⟩ (by simp only [holesL_S]; omega) (by show (holesL_fin c l (i + 1) w now sure s'.cs s'.ts s'.busy s'.n s'.has s'.told (seeG w s'.cs gl) (topG w s'.cs)).val = (holesL_fin c l i w now sure cs ts busy m has told gl last).val; rw [hfin]; rfl) rfl rfl
    rcases htl with e | ⟨p, e, p1, p2, p3⟩
    · have e : s'.told = told := e
      have d6 : decide ((told.length : Int) < (s'.told.length : Int)) = false := decide_eq_false (by rw [e]; omega)
      rw [d6]
      exact hgo
    · have e : s'.told = told ++ [p] := e
      have hl : s'.told.length = told.length + 1 := by rw [e]; simp
      have d6 : decide ((told.length : Int) < (s'.told.length : Int)) = true := decide_eq_true (by omega)
      have d7 : (Nat.beq s'.told.length s'.told.length && decide ((0 : Int) ≤ (told.length : Int) ∧ (told.length : Int) < (s'.told.length : Int))) = true := by
        rw [nbeqT rfl, decide_eq_true ⟨by omega, by omega⟩]; rfl
      have d8 : s'.told.getD ((told.length : Int)).toNat 0 = p := by
        rw [show ((told.length : Int)).toNat = told.length by omega, e]; exact getD_end
      have d9 : decide (p < 1) = false := decide_eq_false (by omega)
      have d0 : decide (topG w s'.cs < p) = false := decide_eq_false (by omega)
      have c0 : 0 ≤ x.client % 4 := Int.emod_nonneg _ (by decide)
      have c9 : x.client % 4 < 4 := Int.emod_lt_of_pos _ (by decide)
      have f0 : decide ((0 : Int) ≤ x.client % 4 ∧ x.client % 4 < 4) = true := decide_eq_true ⟨c0, c9⟩
      rw [d6]
      simp only [d7, d8, d9, d0, f0, hmg, cond_true, cond_false]
      rw [if_pos ⟨p1, p2⟩, p3]
      have b1 : (s'.has.getD (x.client % 4).toNat 0 != s'.has.getD (x.client % 4).toNat 0) = false := ibneF rfl
      simp only [Option.getD_some, b1, cond_false, nbeqT rfl, cond_true]
      exact hgo
  · have hi : i = l.length := by omega
    have c1 : decide ((i : Int) < l.length) = false := by simp; omega
    rw [c1]
    exact leafR_exit (holesL_o c l i w now sure cs ts busy m has told gl last) (by show (holesL_fin c l i w now sure cs ts busy m has told gl last).val = _; unfold holesL_fin; rw [hi, List.drop_length]; rfl) rfl
noncomputable def holesL_d (env : Env RC) (os : List (Obj RC)) : Option (Bool × holesL_St) := match env, os with
  | [(5, .ptr 0 []), (6, .mp 3), (7, .int .i64 last), (32, .sl .pick c l), (33, .int .i64 x0), (34, .int .i64 x1)], [.var 31 (.acons (.ptr 1 []) (.acons (.int .i64 w) (.acons (.int .i64 m) (.acons (.arr .int 4 has) (.acons (.vs 2 x2) .anil))))), .var 47 (.acons (.acons (.sl .int false cs) (.acons (.acons (.sl .sector false now) (.acons (.sl .sector false sure) .anil)) .anil)) (.acons (.arr .task 4 ts) (.acons (.arr .task 4 x3) (.acons (.arr .bool 4 busy) .anil)))), .vec .int true told, .map .int .int gl] => staticD (true) (decide (x0 = l.length) && decide (x1 = 0) && decide (x2 = told.length) && decide (x3 = (ts)) && cdec (l.length ≤ 400 ∧ (diskOK now sure = true ∧ goodL now = true ∧ goodL sure = true) ∧ ∃ hs, HI w ⟨cs, ts, busy, m, has, told⟩ hs gl last 0), ⟨c, l, 0, w, now, sure, cs, ts, busy, m, has, told, gl, last⟩)
  | _, _ => none
noncomputable def uj_1 := ui_4.addLoop 3 7 (sumR s17 [.slot 5 0, .path 0 [0], .path 0 [4], .slot 6 0] [5, 6, 7, 32, 33, 34] holesL_S holesL_d)
theorem uj_1_laws : FLaws Tryz.prog s17 uj_1 := by
  refine ui_4_laws.addRoundsR s17_laws (by kernel_rfl) holesL_S 60 [5, 6, 7, 32, 33, 34] [] [.slot 5 0, .path 0 [0], .path 0 [4], .slot 6 0] [5, 6, 7, 32, 33, 34] holesL_d (fun q hI => ?_) ?_
  · obtain ⟨c, l, i, w, now, sure, cs, ts, busy, m, has, told, gl, last⟩ := q
    refine ⟨?_, ?_, holesL_round c l i w now sure cs ts busy m has told gl last hI⟩
    · simp_all [RefsOK, holesL_S, holesL_c, holesL_o, holesL_Inv, D.refs, Obj.refs, rEnc]
    · simp_all [holesL_S, holesL_fin, holesL_o, holesL_Inv, RT.refsOK, RefsOK, D.refs, Obj.refs, rEnc]
  · intro env os b q hd_ hb
    unfold holesL_d at hd_
    split at hd_
    · obtain ⟨hs, hd_⟩ := staticD_some hd_
      cases hd_
      simp only [Bool.and_eq_true, decide_eq_true_eq] at hb
      obtain ⟨⟨⟨⟨e0, e1⟩, e2⟩, e3⟩, e7⟩ := hb
      obtain ⟨e4, e5, e6⟩ := cdec_iff.1 e7
      subst e0
      subst e1
      subst e2
      subst e3
      exact ⟨⟨Nat.zero_le _, e4, e5, e6⟩, rfl, rfl⟩
    · cases hd_
def gs0 : GS := ⟨newCells, List.replicate 4 ⟨0, [], [], false⟩, List.replicate 4 false, 0, List.replicate 4 0, []⟩
theorem newCells_len : newCells.length = 771 := by kernel_rfl
theorem newCells_all : (newCells.all fun x => decide (-1 ≤ x) && decide (x ≤ 1)) = true := by kernel_rfl
theorem newCells_ring : ((newCells.drop 13).take 8).all (fun x => x == 0) = true := by kernel_rfl
theorem newCells_fit (i : Nat) : -1 ≤ newCells.getD i 0 ∧ newCells.getD i 0 ≤ 1 := by
  by_cases h : i < newCells.length
  · have e : newCells.getD i 0 = newCells[i] := getD_at h
    rw [e]
    have := List.all_eq_true.1 newCells_all _ (List.getElem_mem h)
    simpa using this
  · have e : newCells.getD i 0 = 0 := by
      rw [List.getD_eq_getElem?_getD, List.getElem?_eq_none (by omega)]; rfl
    rw [e]; decide
theorem newCells_cell (j : Nat) (h : j < 8) : newCells.getD (13 + j) 0 = 0 := by
  have hl := newCells_len
  have e : newCells.getD (13 + j) 0 = newCells[13 + j] := getD_at (by omega)
  have hm : newCells[13 + j] ∈ (newCells.drop 13).take 8 := by
    refine List.mem_iff_getElem.2 ⟨j, by rw [List.length_take, List.length_drop]; omega, ?_⟩
    rw [List.getElem_take, List.getElem_drop]
  have := List.all_eq_true.1 newCells_ring _ hm
  rw [e]; simpa using this
theorem RW.init {w : Int} (h0 : 2 ≤ w) (h1 : w ≤ 8) : RW w newCells [] := by
  have a0 : newCells.getD 0 0 = 0 := by kernel_rfl
  have a1 : newCells.getD 1 0 = 1 := by kernel_rfl
  have a4 : newCells.getD 4 0 = 0 := by kernel_rfl
  refine ⟨h0, h1, newCells_len, fun i => ?_, by rw [a4]; decide, by rw [a4, a0]; decide, by rw [a0]; decide, by rw [a0]; show (0 : Int) ≤ 0 + w; omega, by rw [a1]; decide, by rw [a1]; decide, by rw [a1]; decide, fun d hd => by simp at hd, by decide, by rw [a4]; decide, fun p hp hp2 => ?_⟩
  · have := newCells_fit i; omega
  · have hm := mod_range (p := p) (w := w) (by omega)
    have hp2 : p ≤ 0 := hp2
    rw [wd, if_pos hp2, show (13 + p % w).toNat = 13 + (p % w).toNat by omega]
    exact newCells_cell _ (by omega)
theorem RI.init {w : Int} (h0 : 2 ≤ w) (h1 : w ≤ 8) : RI w gs0 [] 0 := by
  refine ⟨RW.init h0 h1, rfl, rfl, rfl, Int.le_refl _, Int.le_refl _, Int.le_refl _, Int.le_refl _, fun d hd => by simp at hd, fun c c0 c3 hb => ?_, fun p hp => by simp [gs0] at hp, by simp [gs0], fun p hp => by simp [gs0] at hp⟩
  exfalso
  have hc : c = 0 ∨ c = 1 ∨ c = 2 ∨ c = 3 := by omega
  rcases hc with rfl | rfl | rfl | rfl <;> simp [isBusy, gs0] at hb
theorem HI.init {w : Int} (h0 : 2 ≤ w) (h1 : w ≤ 8) : HI w gs0 [] [] 0 0 := ⟨RI.init h0 h1, rfl, rfl⟩
open Go.Proofs
def wakes17_s  : Option (Bool × D RC) := some (true, .bool true)
def wakes17_sp : List (D RC) → Option (Bool × D RC)
  | [] => wakes17_s 
  | _ => none
noncomputable def wakes17_e  := evF s17 uj_1 100 7 []
theorem wakes17_ok  (h : (true) = true) : wakes17_e  = some (.bool true) := by
  kernel_rfl
noncomputable def uk_1 := uj_1.addSpec 7 wakes17_sp
theorem uk_1_laws : FLaws Tryz.prog s17 uk_1 := uj_1_laws.addEv s17_laws fun args d h => by
  unfold wakes17_sp at h
  split at h
  · unfold wakes17_s at h
    have h1 := congrArg Prod.fst (Option.some.inj h)
    obtain rfl : _ = d := congrArg Prod.snd (Option.some.inj h)
    exact ⟨by simp [D.refs], 100, wakes17_ok  h1⟩
  · cases h
def width17_s (n : Int) : Option (Bool × D RC) := some (true, .int .i64 (2 + n % 7))
def width17_sp : List (D RC) → Option (Bool × D RC)
  | [.int .i64 n] => width17_s n
  | _ => none
noncomputable def width17_e (n : Int) := evF s17 uk_1 20 9 [.int .i64 n]
theorem width17_eq (n : Int) : width17_e n = (some (D.int .i64 (IntKind.wrap .i64 ((2 : Int) + Int.tmod (IntKind.wrap .i64 (IntKind.wrap .i64 (Int.tmod n (7 : Int) + (8 : Int)) - (1 : Int))) (7 : Int))))) := by kernel_rfl
theorem width17_ok (n : Int) (h : (true) = true) : width17_e n = some (.int .i64 (2 + n % 7)) := by
  rw [width17_eq]
  have h1 : -7 < Int.tmod n 7 := Int.lt_tmod_of_pos _ (by decide)
  have h2 : Int.tmod n 7 < 7 := Int.tmod_lt_of_pos _ (by decide)
  have h3 : n = 7 * (n.tdiv 7) + n.tmod 7 := (Int.mul_tdiv_add_tmod n 7).symm
  rw [wrap_id (n := Int.tmod n 7 + 8) (by omega) (by omega), wrap_id (n := Int.tmod n 7 + 8 - 1) (by omega) (by omega), Int.tmod_eq_emod_of_nonneg (by omega), wrap_id (by omega) (by omega)]
  have : (n.tmod 7 + 8 - 1) % 7 = n % 7 := by omega
  rw [this]
noncomputable def uk_2 := uk_1.addSpec 9 width17_sp
theorem uk_2_laws : FLaws Tryz.prog s17 uk_2 := uk_1_laws.addEv s17_laws fun args d h => by
  unfold width17_sp at h
  split at h
  · unfold width17_s at h
    have h1 := congrArg Prod.fst (Option.some.inj h)
    obtain rfl : _ = d := congrArg Prod.snd (Option.some.inj h)
    exact ⟨by simp [D.refs], 20, width17_ok _ h1⟩
  · cases h
def holes17_s (c : Bool) (l : List Pick) (n : Int) : Option (Bool × D RC) := some (lenOK l.length, .bool true)
def holes17_sp : List (D RC) → Option (Bool × D RC)
  | [.sl .pick c l, .int .i64 n] => holes17_s c l n
  | _ => none
noncomputable def holes17_e (c : Bool) (l : List Pick) (n : Int) := evF s17 uk_2 100 3 [.sl (C := RC) .pick c l, .int .i64 n]
theorem holes17_eq (c : Bool) (l : List Pick) (n : Int) : holes17_e c l n = (let Z0 : Nat := List.length l; let Z1 : Int := (↑Z0 : Int); let Z2 : Int := (2 : Int) + n % (7 : Int); let Z3 : GS := GS.mk newCells (List.replicate (4 : Nat) (rDflt RTy.task)) (List.replicate (4 : Nat) false) (0 : Int) (List.replicate (4 : Nat) (0 : Int)) []; let Z4 : List Int := GS.told (runH Z2 (List.drop (0 : Nat) l) (Z3, [])).1; let Z5 : Nat := List.length Z4; bif lenOK Z0 then bif decide ((400 : Int) < Z1) then some (D.bool true) else bif lenOK Z0 then bif decide (Z1 = Z1) && true && true && true && cdec (Z0 ≤ (400 : Nat) ∧ (true = true ∧ true = true ∧ true = true) ∧ ∃ (hs : List Int), HI Z2 Z3 hs [] (0 : Int) (0 : Int)) then bif lenOK Z5 then bif decide (Z5 = Z5) && decide ((↑Z5 : Int) = (↑Z5 : Int)) && true && decide (List.Nodup Z4 ∧ Z5 ≤ (1000 : Nat) ∧ (0 : Nat) = (0 : Nat)) then some (D.bool true) else none else none else none else none else none) := by kernel_rfl
theorem holes17_ok (c : Bool) (l : List Pick) (n : Int) (h : (lenOK l.length) = true) : holes17_e c l n = some (.bool true) := by
  (rw [holes17_eq]; conv => zeta)
  have hw : 0 ≤ n % 7 ∧ n % 7 < 7 := ⟨Int.emod_nonneg _ (by decide), Int.emod_lt_of_pos _ (by decide)⟩
  rw [h]
  simp only [cond_true]
  by_cases h4 : l.length ≤ 400
  · have d1 : decide ((400 : Int) < (l.length : Int)) = false := decide_eq_false (by omega)
    have hI : HI (2 + n % 7) gs0 [] [] 0 0 := HI.init (by omega) (by omega)
    have k1 : cdec (l.length ≤ 400 ∧ (True ∧ True ∧ True) ∧ ∃ hs, HI (2 + n % 7) ⟨newCells, List.replicate 4 (rDflt RTy.task), List.replicate 4 false, 0, List.replicate 4 0, []⟩ hs [] 0 0) = true := cdec_true ⟨h4, ⟨trivial, trivial, trivial⟩, [], hI⟩
    obtain ⟨hs, hR⟩ := runH_told (w := 2 + n % 7) l (gs0, []) 0 (by omega) ⟨[], RI.init (by omega) (by omega)⟩
    have hN : (runH (2 + n % 7) l (gs0, [])).1.told.Nodup := hR.toldN
    have hL := hR.tk
    have hl : (runH (2 + n % 7) l (gs0, [])).1.told.length ≤ 1000 := by omega
    have l1 : lenOK (runH (2 + n % 7) l (gs0, [])).1.told.length = true := lenOK_of (by omega)
    rw [d1, k1]
    simp only [decide_true, Bool.and_self, Bool.and_true, Bool.true_and, cond_true, cond_false, List.drop_zero]
    show (bif lenOK (runH (2 + n % 7) l (gs0, [])).1.told.length then bif decide ((runH (2 + n % 7) l (gs0, [])).1.told.Nodup ∧ (runH (2 + n % 7) l (gs0, [])).1.told.length ≤ 1000 ∧ True) then some (D.bool true) else none else none) = _
    rw [l1, decide_eq_true ⟨hN, hl, trivial⟩]
    rfl
  · have d1 : decide ((400 : Int) < (l.length : Int)) = true := decide_eq_true (by omega)
    rw [d1]
    rfl
noncomputable def uk_3 := uk_2.addSpec 3 holes17_sp
theorem uk_3_laws : FLaws Tryz.prog s17 uk_3 := uk_2_laws.addEv s17_laws fun args d h => by
  unfold holes17_sp at h
  split at h
  · unfold holes17_s at h
    have h1 := congrArg Prod.fst (Option.some.inj h)
    obtain rfl : _ = d := congrArg Prod.snd (Option.some.inj h)
    exact ⟨by simp [D.refs], 100, holes17_ok _ _ _ h1⟩
  · cases h
structure AS (w c d B : Int) (s : GS) (hs : List Int) (k : Int) (r got : List Int) : Prop where
  c0 : 0 ≤ c
  c3 : c ≤ 3
  hd : 256 ≤ d ∧ d ≤ 262143
  lt : s.ts.length = 4
  tk : tkC s.ts c = mkT c k r got
  rw : RW w s.cs hs
  ci : CI w (s.cs.getD 0 0) (s.cs.getD 1 0) (s.cs.getD 4 0) hs d k r got
  hk : (hs.length : Int) + B ≤ 90000
  B0 : 0 ≤ B
def GoodA (w f q next : Int) (a : List Int) : Prop := a = [0, next] ∧ next ≤ f + w ∧ next - 32 ≤ q ∨ a = [170] ∧ f + w < next ∨ a = [171] ∧ next ≤ f + w ∧ q < next - 32
inductive Path (w c f q next : Int) (now sure : List Sector) : Nat → GS → Prop
  | stop {m : Nat} {s : GS} : s.ts.length = 4 → OkStep s.cs (tkC s.ts c) now sure → (stE s.cs (tkC s.ts c)).is = false → GoodA w f q next (stE s.cs (tkC s.ts c)).got → ((stE s.cs (tkC s.ts c)).got.length = 2 → topG w (stepS s c).cs = next) → Path w c f q next now sure m s
  | go {m : Nat} {s : GS} : s.ts.length = 4 → OkStep s.cs (tkC s.ts c) now sure → (stE s.cs (tkC s.ts c)).is = true → Path w c f q next now sure m (stepS s c) → Path w c f q next now sure (m + 1) s
section
variable {w c d B : Int} {s : GS} {hs : List Int} {k : Int} {r got : List Int} {now sure : List Sector}
theorem mkT_inj {c k k' : Int} {r r' got got' : List Int} (h : mkT c k r got = mkT c k' r' got') : k = k' ∧ r = r' ∧ got = got' := by
  unfold mkT at h
  simpa [and_assoc] using h
theorem AS.step (h : AS w c d B s hs k r got) (hd' : diskOK now sure = true) (hg1 : goodL now = true) (hg2 : goodL sure = true) {cs' : List Int} {k' x' : Int} {r' : List Int} {E : GoR} (e : StepR s.cs (mkT c k r got) cs' (mkT c k' r' [x']) E) :
    OkStep s.cs (tkC s.ts c) now sure ∧ (stE s.cs (tkC s.ts c)) = E ∧ E = goF k' r' [x'] x' ∧ (stepS s c).cs = cs' ∧ (1 ≤ B → E.is = true → ∃ hs', (hs' = hs ∨ hs' = hs ++ [d]) ∧ AS w c d (B - 1) (stepS s c) hs' k' r' [x']) := by
  have hB := h.B0
  have hk := h.hk
  obtain ⟨ext, hext, cs2, t2, E2, e1, e2, e3, e4, e5, e6, e7, k2, r2, x2, e8, e9, e10, hcame⟩ := h.rw.step h.c0 h.c3 h.hd (by omega) h.ci
  have q1 : cs2 = cs' := e1.hcs.symm.trans e.hcs
  have q2 : t2 = mkT c k' r' [x'] := e1.ht.symm.trans e.ht
  have q3 : E2 = E := e1.hE.symm.trans e.hE
  subst q1 q3
  rw [e8] at q2
  obtain ⟨rfl, rfl, q4⟩ := mkT_inj q2
  have q4 : x2 = x' := by simpa using q4
  subst q4
  have hS : (stepS s c).cs = cs2 := by unfold stepS; rw [h.tk]; exact e1.hcs
  have hok : OkStep s.cs (tkC s.ts c) now sure := by
    rw [h.tk]
    refine ⟨e6, rfl, h.ci.2.2.2.2.2.1, e7, h.rw.cellsOK, hd', hg1, hg2, ?_⟩
    have ht := e1.ht
    rw [e8] at ht
    have h1 : (stG (mkT c k r got)).st = [⟨68, k2, r2⟩] := congrArg Task.stack ht
    have h2 : [stX s.cs (mkT c k r got)] = [x2] := congrArg Task.got ht
    rw [h1, h2]
    exact e10
  refine ⟨hok, by rw [h.tk]; exact e1.hE, e9, hS, fun hB1 hi => ⟨hs ++ ext, ?_, ?_⟩⟩
  · rcases hext with rfl | ⟨rfl, _⟩
    · exact .inl (List.append_nil _)
    · exact .inr rfl
  have hci : CI w (cs2.getD 0 0) (cs2.getD 1 0) (cs2.getD 4 0) (hs ++ ext) d k2 r2 [x2] := by
    rcases hcame with ⟨_, hc⟩ | ⟨hf, _⟩ | ⟨hf, _⟩
    · exact hc
    · rw [hi] at hf; cases hf
    · rw [hi] at hf; cases hf
  have hlen : ((hs ++ ext).length : Int) ≤ hs.length + 1 := by
    rcases hext with rfl | ⟨rfl, _⟩
    · rw [List.append_nil]; omega
    · rw [List.length_append, List.length_singleton]; omega
  have htk : tkC (stepS s c).ts c = mkT c k2 r2 [x2] := by
    show tkC (s.ts.set c.toNat (stT s.cs (tkC s.ts c))) c = _
    rw [tkC_set h.lt h.c0 h.c3 h.c0, if_pos rfl, h.tk, e1.ht, e8]
  exact ⟨h.c0, h.c3, h.hd, by show (s.ts.set c.toNat _).length = 4; rw [List.length_set]; exact h.lt, htk, by rw [hS]; exact e2, by rw [hS]; exact hci, by omega, by omega⟩
variable (hd' : diskOK now sure = true) (hg1 : goodL now = true) (hg2 : goodL sure = true) {f q next : Int}
include hd' hg1 hg2
theorem AS.p6 (h : AS w c d B s hs 6 r [1]) (h2 : r.getD 2 0 = next) (hn : (hs.length : Int) = next) (h3 : next ≤ f + w) (h4 : next - 32 ≤ q) : Path w c f q next now sure 0 s := by
  obtain ⟨a1, a2, _, a4, _⟩ := h.step hd' hg1 hg2 (step_cas (cs := s.cs) (c := c) (k := 6) (r := r) (got := [1]) (r' := r) (n := 7) (cell := 1) (b := r.getD 2 0) (v := r.getD 2 0 + 1) rfl)
  refine .stop h.lt a1 (by rw [a2]; rfl) ?_ fun _ => ?_
  · rw [a2]
    exact .inl ⟨by rw [← h2]; rfl, h3, h4⟩
  · rw [a4]
    split
    · rename_i e
      have t := (h.rw.tail e (by omega)).topG
      exact t.trans hn
    · rw [h.rw.topG]; exact hn
theorem AS.p4 (h : AS w c d B s hs 4 r [s.cs.getD (13 + r.getD 2 0 % w).toNat 0]) (hB : 1 ≤ B) (h2 : r.getD 2 0 = next) (hn : next = hs.length + 1) (h3 : next ≤ f + w) (h4 : next - 32 ≤ q) : Path w c f q next now sure 1 s := by
  have hci := h.ci
  obtain ⟨a1, b2, b3, b4, b5, b6, hi⟩ := hci
  have hle := (h.rw.read_le (r.getD 2 0)).2.2
  have hw := h.rw.w0
  have hw1 := h.rw.w1
  have hk := h.hk
  have hp4 : 1 ≤ r.getD 2 0 ∧ r.getD 2 0 ≤ s.cs.getD 0 0 + w ∧ r.getD 2 0 - 32 ≤ s.cs.getD 4 0 := by
    rcases hi with ⟨q, _⟩ | ⟨x, _, _, q | q | q | q | q | q⟩
    · cases q
    · cases q.1
    · cases q.1
    · cases q.1
    · exact ⟨q.2.1, q.2.2.1, q.2.2.2.1⟩
    · cases q.1
    · cases q.1
  obtain ⟨g1, g2⟩ := h.rw.give (d := d) hp4.1 b5 hp4.2.1 (by omega) h.hd (by omega) hp4.2.2
  generalize hx : s.cs.getD (13 + r.getD 2 0 % w).toNat 0 = x at *
  have hg := goF4 r [x] x
  rw [if_neg (by omega), if_neg (by omega), b2, b3, lRing_eq' b4 hw hw1] at hg
  have hwd : wordN (r.getD 2 0) d = r.getD 2 0 * 1048576 + d := by
    have := h.hd
    rw [wordN, if_pos]; exact ⟨by omega, by omega, .inl h.hd⟩
  rw [hwd] at hg
  have hst := step_cas (cs := s.cs) (c := c) (k := 4) (r := r) (got := [x]) hg
  simp only [if_pos hx] at hst
  obtain ⟨a1, a2, a3, a4, a5⟩ := h.step hd' hg1 hg2 hst
  have hE : (goF 6 (r.set 3 x) [1] 1).is = true := rfl
  obtain ⟨hs', _, h'⟩ := a5 hB hE
  have hl : (hs'.length : Int) = next := by
    have t1 := h'.rw.topG
    rw [a4, g2.topG, List.length_append, List.length_singleton] at t1
    omega
  exact .go h.lt a1 (by rw [a2]; exact hE) (h'.p6 hd' hg1 hg2 (by rw [getD_set_ne' (by decide)]; exact h2) hl h3 h4)
omit hd' hg1 hg2 in
theorem RW.same {cs hs' : List Int} (h : RW w cs hs) (h' : RW w cs hs') (e : hs' = hs ∨ hs' = hs ++ [d]) : hs' = hs := by
  rcases e with e | e
  · exact e
  · exfalso
    have h1 := h.topG
    have h2 := h'.topG
    rw [h1, e, List.length_append, List.length_singleton] at h2
    omega
theorem AS.load (h : AS w c d B s hs k r got) {r' : List Int} {n cell : Int} (e : goF k r got (got.headD 0) = gLoad r' got n cell) :
    OkStep s.cs (tkC s.ts c) now sure ∧ stE s.cs (tkC s.ts c) = goF n r' [s.cs.getD cell.toNat 0] (s.cs.getD cell.toNat 0) ∧ (stepS s c).cs = s.cs ∧
      (1 ≤ B → (goF n r' [s.cs.getD cell.toNat 0] (s.cs.getD cell.toNat 0)).is = true → AS w c d (B - 1) (stepS s c) hs n r' [s.cs.getD cell.toNat 0]) := by
  obtain ⟨a1, a2, a3, a4, a5⟩ := h.step hd' hg1 hg2 (step_load e)
  refine ⟨a1, a2, a4, fun hB hE => ?_⟩
  obtain ⟨hs', e', h'⟩ := a5 hB hE
  have hrw := h'.rw
  rw [a4] at hrw
  have := h.rw.same hrw e'
  subst this
  exact h'
theorem AS.p3 (h : AS w c d B s hs 3 r [q]) (hB : 2 ≤ B) (h2 : r.getD 2 0 = next) (hn : next = hs.length + 1) (h3 : next ≤ f + w) (h4 : next - 32 ≤ q) : Path w c f q next now sure 2 s := by
  obtain ⟨a1, b2, b3, b4, b5, b6, hi⟩ := h.ci
  obtain ⟨_, e3⟩ := goF_is3 b6
  rw [b2, lRing_eq' b4 h.rw.w0 h.rw.w1] at e3
  obtain ⟨a1, a2, a4, a5⟩ := h.load hd' hg1 hg2 (r' := r) (n := 4) (cell := 13 + r.getD 2 0 % w) e3
  have hE := goF4_is r [s.cs.getD (13 + r.getD 2 0 % w).toNat 0] (s.cs.getD (13 + r.getD 2 0 % w).toNat 0)
  have h' := a5 (by omega) hE
  refine .go h.lt a1 (by rw [a2]; exact hE) ?_
  have h' : AS w c d (B - 1) (stepS s c) hs 4 r [(stepS s c).cs.getD (13 + r.getD 2 0 % w).toNat 0] := by rw [a4]; exact h'
  exact h'.p4 hd' hg1 hg2 (by omega) h2 hn h3 h4
theorem AS.p2 (h : AS w c d B s hs 2 r [f]) (hB : 3 ≤ B) (hq : s.cs.getD 4 0 = q) (h2 : r.getD 2 0 = next) (hn : next = hs.length + 1) : Path w c f q next now sure 3 s := by
  obtain ⟨b1, b2, b3, b4, b5, b6, hi⟩ := h.ci
  obtain ⟨e1, e2, e3⟩ := goF_is2 b6
  have e1 : r.getD 2 0 ≤ f + r.getD 0 0 := e1
  obtain ⟨a1, a2, a4, a5⟩ := h.load hd' hg1 hg2 (r' := r) (n := 3) (cell := 4) e3
  have hc : s.cs.getD (Int.toNat 4) 0 = q := hq
  rw [hc] at a2 a5
  by_cases hL : q < next - 32
  · have hg : goF 3 r [q] q = gEnd [171] := by rw [goF3, if_pos (by omega)]
    refine .stop h.lt a1 (by rw [a2, hg]; rfl) ?_ ?_ <;> rw [a2, hg]
    · exact .inr (.inr ⟨rfl, by omega, hL⟩)
    · exact fun q => absurd q (by decide)
  · have hE : (goF 3 r [q] q).is = true := by rw [goF3, if_neg (by omega)]; rfl
    exact .go h.lt a1 (by rw [a2]; exact hE) ((a5 (by omega) hE).p3 hd' hg1 hg2 (by omega) h2 hn (by omega) (by omega))
theorem AS.p1 (h : AS w c d B s hs 1 r [next]) (hB : 4 ≤ B) (hf : s.cs.getD 0 0 = f) (hq : s.cs.getD 4 0 = q) (hn : next = hs.length + 1) : Path w c f q next now sure 4 s := by
  obtain ⟨b1, b2, b3, b4, b5, b6, hi⟩ := h.ci
  have hTk := h.rw.Tk
  obtain ⟨a1, a2, a4, a5⟩ := h.load hd' hg1 hg2 (r' := r.set 2 next) (n := 2) (cell := 0) rfl
  have hc : s.cs.getD (Int.toNat 0) 0 = f := hf
  rw [hc] at a2 a5
  have g2 : (r.set 2 next).getD 2 0 = next := getD_set_eq (by omega)
  have g0 : (r.set 2 next).getD 0 0 = w := by rw [getD_set_ne' (by decide)]; exact b2
  by_cases hF : f + w < next
  · have hg : goF 2 (r.set 2 next) [f] f = gEnd [170] := by rw [goF2, if_pos (by rw [g0, g2]; exact hF)]
    refine .stop h.lt a1 (by rw [a2, hg]; rfl) ?_ ?_ <;> rw [a2, hg]
    · exact .inr (.inl ⟨rfl, hF⟩)
    · exact fun q => absurd q (by decide)
  · have hE : (goF 2 (r.set 2 next) [f] f).is = true := by rw [goF2, if_neg (by rw [g0, g2]; exact hF), if_neg (by rw [g2]; omega)]; rfl
    exact .go h.lt a1 (by rw [a2]; exact hE) ((a5 (by omega) hE).p2 hd' hg1 hg2 (by omega) (by rw [a4]; exact hq) g2 hn)
theorem AS.m5 {x : Int} (h : AS w c d B s hs 5 r [x]) (hB : 5 ≤ B) (hf : s.cs.getD 0 0 = f) (hq : s.cs.getD 4 0 = q) (hn : next = hs.length + 1) (ht : s.cs.getD 1 0 = next) : Path w c f q next now sure 5 s := by
  obtain ⟨a1, a2, a4, a5⟩ := h.load hd' hg1 hg2 (r' := r) (n := 1) (cell := 1) rfl
  have hc : s.cs.getD (Int.toNat 1) 0 = next := ht
  rw [hc] at a2 a5
  exact .go h.lt a1 (by rw [a2]; rfl) ((a5 (by omega) rfl).p1 hd' hg1 hg2 (by omega) (by rw [a4]; exact hf) (by rw [a4]; exact hq) hn)
theorem AS.m4 (h : AS w c d B s hs 4 r [s.cs.getD (13 + r.getD 2 0 % w).toNat 0]) (hB : 6 ≤ B) (hf : s.cs.getD 0 0 = f) (hq : s.cs.getD 4 0 = q) (hn : next = hs.length + 1) (h2 : r.getD 2 0 = hs.length) (h1 : 1 ≤ (hs.length : Int)) (ht : s.cs.getD 1 0 = hs.length) : Path w c f q next now sure 6 s := by
  obtain ⟨b1, b2, b3, b4, b5, b6, hi⟩ := h.ci
  have hlc := h.rw.lc
  have hw0 := h.rw.w0
  have hp : plc (s.cs.getD (13 + r.getD 2 0 % w).toNat 0) = r.getD 2 0 := by
    have := h.rw.ring hs.length (by omega) (Int.le_refl _)
    rw [h2, this, (plc_wd h.rw.hv (Int.le_refl _) h.rw.Tk (by omega)).1]
  generalize s.cs.getD (13 + r.getD 2 0 % w).toNat 0 = x at *
  have hg := goF4 r [x] x
  rw [if_pos hp] at hg
  have hst := step_cas (cs := s.cs) (c := c) (k := 4) (r := r) (got := [x]) hg
  have hc : s.cs.getD (Int.toNat 1) 0 = r.getD 2 0 := by rw [h2]; exact ht
  simp only [if_pos hc] at hst
  obtain ⟨a1, a2, a3, a4, a5⟩ := h.step hd' hg1 hg2 hst
  have hE : (goF 5 (r.set 3 x) [1] 1).is = true := rfl
  obtain ⟨hs', e', h'⟩ := a5 (by omega) hE
  have hrw := h'.rw
  rw [a4] at hrw
  have h1' : RW w (s.cs.set (Int.toNat 1) (r.getD 2 0 + 1)) hs := h.rw.tail hc (by omega)
  have := h1'.same hrw e'
  subst this
  refine .go h.lt a1 (by rw [a2]; exact hE) (h'.m5 hd' hg1 hg2 (by omega) ?_ ?_ hn ?_)
  · rw [a4, getD_set_ne' (by decide)]; exact hf
  · rw [a4, getD_set_ne' (by decide)]; exact hq
  · rw [a4]
    have : (s.cs.set (Int.toNat 1) (r.getD 2 0 + 1)).getD 1 0 = r.getD 2 0 + 1 := getD_set_eq (i := 1) (by omega)
    rw [this, h2, hn]
theorem AS.m3 {x : Int} (h : AS w c d B s hs 3 r [x]) (hB : 7 ≤ B) (hf : s.cs.getD 0 0 = f) (hq : s.cs.getD 4 0 = q) (hn : next = hs.length + 1) (h2 : r.getD 2 0 = hs.length) (h1 : 1 ≤ (hs.length : Int)) (ht : s.cs.getD 1 0 = hs.length) : Path w c f q next now sure 7 s := by
  obtain ⟨a1, b2, b3, b4, b5, b6, hi⟩ := h.ci
  obtain ⟨_, e3⟩ := goF_is3 b6
  rw [b2, lRing_eq' b4 h.rw.w0 h.rw.w1] at e3
  obtain ⟨a1, a2, a4, a5⟩ := h.load hd' hg1 hg2 (r' := r) (n := 4) (cell := 13 + r.getD 2 0 % w) e3
  have hE := goF4_is r [s.cs.getD (13 + r.getD 2 0 % w).toNat 0] (s.cs.getD (13 + r.getD 2 0 % w).toNat 0)
  have h' := a5 (by omega) hE
  refine .go h.lt a1 (by rw [a2]; exact hE) ?_
  have h' : AS w c d (B - 1) (stepS s c) hs 4 r [(stepS s c).cs.getD (13 + r.getD 2 0 % w).toNat 0] := by rw [a4]; exact h'
  exact h'.m4 hd' hg1 hg2 (by omega) (by rw [a4]; exact hf) (by rw [a4]; exact hq) hn h2 h1 (by rw [a4]; exact ht)
theorem AS.m2 (h : AS w c d B s hs 2 r [f]) (hB : 8 ≤ B) (hf : s.cs.getD 0 0 = f) (hq : s.cs.getD 4 0 = q) (hn : next = hs.length + 1) (h2 : r.getD 2 0 = hs.length) (h1 : 1 ≤ (hs.length : Int)) (ht : s.cs.getD 1 0 = hs.length) : Path w c f q next now sure 8 s := by
  obtain ⟨b1, b2, b3, b4, b5, b6, hi⟩ := h.ci
  obtain ⟨e1, e2, e3⟩ := goF_is2 b6
  have hTL := h.rw.TL
  obtain ⟨a1, a2, a4, a5⟩ := h.load hd' hg1 hg2 (r' := r) (n := 3) (cell := 4) e3
  have hc : s.cs.getD (Int.toNat 4) 0 = q := hq
  rw [hc] at a2 a5
  have hE : (goF 3 r [q] q).is = true := by rw [goF3, if_neg (by omega)]; rfl
  exact .go h.lt a1 (by rw [a2]; exact hE) ((a5 (by omega) hE).m3 hd' hg1 hg2 (by omega) (by rw [a4]; exact hf) (by rw [a4]; exact hq) hn h2 h1 (by rw [a4]; exact ht))
theorem AS.m1 (h : AS w c d B s hs 1 r [(hs.length : Int)]) (hB : 9 ≤ B) (hf : s.cs.getD 0 0 = f) (hq : s.cs.getD 4 0 = q) (hn : next = hs.length + 1) (h1 : 1 ≤ (hs.length : Int)) (ht : s.cs.getD 1 0 = hs.length) : Path w c f q next now sure 9 s := by
  obtain ⟨b1, b2, b3, b4, b5, b6, hi⟩ := h.ci
  have hTk := h.rw.Tk
  have hTf := h.rw.Tf
  obtain ⟨a1, a2, a4, a5⟩ := h.load hd' hg1 hg2 (r' := r.set 2 hs.length) (n := 2) (cell := 0) rfl
  have hc : s.cs.getD (Int.toNat 0) 0 = f := hf
  rw [hc] at a2 a5
  have g2 : (r.set 2 (hs.length : Int)).getD 2 0 = hs.length := getD_set_eq (by omega)
  have g0 : (r.set 2 (hs.length : Int)).getD 0 0 = w := by rw [getD_set_ne' (by decide)]; exact b2
  have hE : (goF 2 (r.set 2 (hs.length : Int)) [f] f).is = true := by rw [goF2, if_neg (by rw [g0, g2]; omega), if_neg (by rw [g2]; omega)]; rfl
  exact .go h.lt a1 (by rw [a2]; exact hE) ((a5 (by omega) hE).m2 hd' hg1 hg2 (by omega) (by rw [a4]; exact hf) (by rw [a4]; exact hq) hn g2 h1 (by rw [a4]; exact ht))
omit hd' hg1 hg2 in
theorem Path.more {m : Nat} {s : GS} (h : Path w c f q next now sure m s) : ∀ {m' : Nat}, m ≤ m' → Path w c f q next now sure m' s := by
  induction h with
  | stop h1 h2 h3 h4 h5 => intro m' _; exact .stop h1 h2 h3 h4 h5
  | go h1 h2 h3 _ ih =>
    intro m' hm
    obtain ⟨j, rfl⟩ : ∃ j, m' = j + 1 := ⟨m' - 1, by omega⟩
    exact .go h1 h2 h3 (ih (by omega))
theorem AS.p0 (h : AS w c d B s hs 0 r []) (hB : 10 ≤ B) : Path w c (s.cs.getD 0 0) (s.cs.getD 4 0) (hs.length + 1) now sure 10 s := by
  have h1 := h.rw.Tt
  have h2 := h.rw.tT
  have h3 := h.rw.t1
  obtain ⟨a1, a2, a4, a5⟩ := h.load hd' hg1 hg2 (r' := r) (n := 1) (cell := 1) rfl
  have hE : (goF 1 r [s.cs.getD (Int.toNat 1) 0] (s.cs.getD (Int.toNat 1) 0)).is = true := rfl
  have h' := a5 (by omega) hE
  by_cases ht : s.cs.getD 1 0 = hs.length + 1
  · have hc : s.cs.getD (Int.toNat 1) 0 = hs.length + 1 := ht
    rw [hc] at h'
    have hp := h'.p1 hd' hg1 hg2 (by omega) (by rw [a4]) (by rw [a4]) rfl
    exact (Path.go h.lt a1 (by rw [a2]; exact hE) hp).more (by decide)
  · have ht' : s.cs.getD 1 0 = hs.length := by omega
    have hc : s.cs.getD (Int.toNat 1) 0 = hs.length := ht'
    rw [hc] at h'
    exact .go h.lt a1 (by rw [a2]; exact hE) (h'.m1 hd' hg1 hg2 (by omega) (by rw [a4]) (by rw [a4]) rfl (by omega) (by rw [a4]; exact ht'))
end
def runA (w : Int) (l : List Pick) (s : GS) : GS := l.foldl (fun s x => pickG w s x.client x.do_) s
theorem runA_step (w : Int) (l : List Pick) (i : Nat) (h : i < l.length) (s : GS) (d : Pick) : runA w (l.drop i) s = runA w (l.drop (i + 1)) (pickG w s (l.getD i d).client (l.getD i d).do_) := by
  have e : l.getD i d = l[i] := by simp [h]
  unfold runA
  rw [List.drop_eq_getElem_cons h, List.foldl_cons, e]
theorem runA_RI {w : Int} : ∀ (l : List Pick) (s : GS) (kk : Int), kk + l.length ≤ 900 → (∃ hs, RI w s hs kk) → ∃ hs, RI w (runA w l s) hs (kk + l.length)
  | [], s, kk, _, h => by simpa [runA] using h
  | x :: l, s, kk, hk, ⟨hs, h⟩ => by
    simp only [List.length_cons] at hk
    obtain ⟨hs', h1, _⟩ := h.pick (by omega) x.client x.do_
    obtain ⟨hs2, h2⟩ := runA_RI l (pickG w s x.client x.do_) (kk + 1) (by omega) ⟨hs', h1⟩
    refine ⟨hs2, ?_⟩
    have : kk + ((x :: l).length : Int) = kk + 1 + l.length := by simp only [List.length_cons]; omega
    rw [this]
    exact h2
def aloneR (c : Int) : Nat → GS → GS
  | 0, s => s
  | n + 1, s => if (stE s.cs (tkC s.ts c)).is = true then aloneR c n (stepS s c) else stepS s c
theorem aloneR_go {c : Int} {n : Nat} {s : GS} (h : (stE s.cs (tkC s.ts c)).is = true) (hn : n < 14) : aloneR c (14 - n) s = aloneR c (14 - (n + 1)) (stepS s c) := by
  rw [show 14 - n = (14 - (n + 1)) + 1 by omega, aloneR, if_pos h]
theorem aloneR_stop {c : Int} {n : Nat} {s : GS} (h : (stE s.cs (tkC s.ts c)).is = false) (hn : n < 14) : aloneR c (14 - n) s = stepS s c := by
  rw [show 14 - n = (14 - (n + 1)) + 1 by omega, aloneR, if_neg (by rw [h]; simp)]
open Go.Proofs
structure al1_St where
  c : Bool
  l : List Pick
  i : Nat
  w : Int
  now : List Sector
  sure : List Sector
  cs : List Int
  ts : List Task
  busy : List Bool
  m : Int
  has : List Int
  told : List Int
def al1_c (c : Bool) (l : List Pick) (i : Nat) (w : Int) (now : List Sector) (sure : List Sector) (cs : List Int) (ts : List Task) (busy : List Bool) (m : Int) (has : List Int) (told : List Int) : Env RC := [(7, .ptr 0 []), (28, .sl (C := RC) .pick c l), (29, .int .i64 (l.length)), (30, .int .i64 (i : Int))]
def al1_o (c : Bool) (l : List Pick) (i : Nat) (w : Int) (now : List Sector) (sure : List Sector) (cs : List Int) (ts : List Task) (busy : List Bool) (m : Int) (has : List Int) (told : List Int) : List (Obj RC) := [.var 31 (.acons (.ptr 1 []) (.acons (.int .i64 w) (.acons (.int .i64 m) (.acons (.arr (C := RC) .int 4 has) (.acons (.vs 2 (told.length)) .anil))))), .var 47 (.acons (.acons (.sl (C := RC) .int false cs) (.acons (.acons (.sl (C := RC) .sector false now) (.acons (.sl (C := RC) .sector false sure) .anil)) .anil)) (.acons (.arr (C := RC) .task 4 ts) (.acons (.arr (C := RC) .task 4 ((ts))) (.acons (.arr (C := RC) .bool 4 busy) .anil)))), .vec .int true told]
noncomputable def al1_r (c : Bool) (l : List Pick) (i : Nat) (w : Int) (now : List Sector) (sure : List Sector) (cs : List Int) (ts : List Task) (busy : List Bool) (m : Int) (has : List Int) (told : List Int) := rndO s17 uk_3 4 5 60 3 [7, 28, 29, 30] [] [.slot 7 0, .path 0 [0], .path 0 [4]] (al1_c c l i w now sure cs ts busy m has told) (al1_o c l i w now sure cs ts busy m has told)
theorem al1_eq (c : Bool) (l : List Pick) (i : Nat) (w : Int) (now : List Sector) (sure : List Sector) (cs : List Int) (ts : List Task) (busy : List Bool) (m : Int) (has : List Int) (told : List Int) : al1_r c l i w now sure cs ts busy m has told = (let Z0 : Int := (↑i : Int); let Z1 : Int := (↑l.length : Int); let Z2 : Nat := List.length told; let Z3 : GS := GS.mk cs ts busy m has told; let Z4 : Pick := List.getD l Z0.toNat (Pick.mk (0 : Int) (0 : Int)); let Z5 : GS := pickG w Z3 (Pick.client Z4) (Pick.do_ Z4); let Z6 : D RC := .anil; let Z7 : D RC := D.acons (D.acons (D.sl RTy.sector false now) (.acons (D.sl RTy.sector false sure) Z6)) Z6; let Z8 : D RC := D.arr RTy.task (4 : Nat) (GS.ts Z5); let Z9 : D RC := D.arr RTy.task (4 : Nat) ts; bif decide (Z0 < Z1) then bif decide ((0 : Int) ≤ Z0 ∧ Z0 < Z1) then bif decide (Z2 = Z2) && decide (ts = ts) && cdec (OkPick w Z3 now sure (Pick.client Z4 % (4 : Int))) then some ((X.normal, [(7, D.ptr 0 []), (28, D.sl RTy.pick c l), (29, D.int .i64 Z1), (30, D.int .i64 (IntKind.wrap .i64 (Z0 + (1 : Int))))]), [some (Obj.var 31 (.acons (D.ptr 1 []) (.acons (D.int .i64 w) (.acons (D.int .i64 (GS.n Z5)) (.acons (D.arr RTy.int (4 : Nat) (GS.has Z5)) (.acons (D.vs 2 (GS.told Z5).length) Z6)))))), some (Obj.var 47 (.acons (D.acons (D.sl RTy.int false (GS.cs Z5)) Z7) (.acons Z8 (D.acons Z8 (D.acons (D.arr RTy.bool (4 : Nat) (GS.busy Z5)) Z6))))), some (Obj.vec RTy.int true (GS.told Z5))]) else none else none else some ((X.exit (0 : Nat), []), [some (Obj.var 31 (.acons (D.ptr 1 []) (.acons (D.int .i64 w) (.acons (D.int .i64 m) (.acons (D.arr RTy.int (4 : Nat) has) (.acons (D.vs 2 Z2) Z6)))))), some (Obj.var 47 (.acons (D.acons (D.sl RTy.int false cs) Z7) (.acons Z9 (D.acons Z9 (D.acons (D.arr RTy.bool (4 : Nat) busy) Z6))))), some (Obj.vec RTy.int true told)])) := by kernel_rfl
noncomputable def al1_fin (c : Bool) (l : List Pick) (i : Nat) (w : Int) (now : List Sector) (sure : List Sector) (cs : List Int) (ts : List Task) (busy : List Bool) (m : Int) (has : List Int) (told : List Int) : RT RC := .leaf (.exit 0) [] (al1_o c l i w now sure (runA w (l.drop i) ⟨cs, ts, busy, m, has, told⟩).cs (runA w (l.drop i) ⟨cs, ts, busy, m, has, told⟩).ts (runA w (l.drop i) ⟨cs, ts, busy, m, has, told⟩).busy (runA w (l.drop i) ⟨cs, ts, busy, m, has, told⟩).n (runA w (l.drop i) ⟨cs, ts, busy, m, has, told⟩).has (runA w (l.drop i) ⟨cs, ts, busy, m, has, told⟩).told)
def al1_Inv (c : Bool) (l : List Pick) (i : Nat) (w : Int) (now : List Sector) (sure : List Sector) (cs : List Int) (ts : List Task) (busy : List Bool) (m : Int) (has : List Int) (told : List Int) : Prop := i ≤ l.length ∧ l.length ≤ 400 ∧ (diskOK now sure = true ∧ goodL now = true ∧ goodL sure = true) ∧ ∃ hs, RI w ⟨cs, ts, busy, m, has, told⟩ hs i
noncomputable def al1_S : LoopR RC al1_St where
  k := 3
  canon q := al1_c q.c q.l q.i q.w q.now q.sure q.cs q.ts q.busy q.m q.has q.told
  objs q := al1_o q.c q.l q.i q.w q.now q.sure q.cs q.ts q.busy q.m q.has q.told
  fin q := al1_fin q.c q.l q.i q.w q.now q.sure q.cs q.ts q.busy q.m q.has q.told
  Inv q := al1_Inv q.c q.l q.i q.w q.now q.sure q.cs q.ts q.busy q.m q.has q.told
  μ q := q.l.length - q.i
theorem al1_round (c : Bool) (l : List Pick) (i : Nat) (w : Int) (now : List Sector) (sure : List Sector) (cs : List Int) (ts : List Task) (busy : List Bool) (m : Int) (has : List Int) (told : List Int) (hI : al1_Inv c l i w now sure cs ts busy m has told) : Leaf (al1_r c l i w now sure cs ts busy m has told) (LedR al1_S ⟨c, l, i, w, now, sure, cs, ts, busy, m, has, told⟩) := by
  (rw [al1_eq]; conv => zeta)
  unfold al1_Inv at hI
  obtain ⟨h1, h2, ⟨hd, hg1, hg2⟩, hs, hI⟩ := hI
  by_cases hlt : i < l.length
  · have t_nat0 : ((i : Int)).toNat = i := by simp
    rw [t_nat0]
    have w_succ : IntKind.i64.wrap ((i : Int) + 1) = ((i + 1 : Nat) : Int) := by rw [wrap_id (by omega) (by omega)]; simp
    have d_lt : decide ((i : Int) < l.length) = true := by simp; omega
    have d_in : decide (0 ≤ (i : Int) ∧ (i : Int) < l.length) = true := by simp; omega
    have t_nat : ((i : Int)).toNat = i := by simp
    simp only [w_succ, d_lt, d_in, t_nat, cond_true]
    have hrun := runA_step w l i hlt ⟨cs, ts, busy, m, has, told⟩ (⟨0, 0⟩ : Pick)
    have hfin : ∀ s, runA w (l.drop i) ⟨cs, ts, busy, m, has, told⟩ = s → al1_fin c l i w now sure cs ts busy m has told = .leaf (.exit 0) [] (al1_o c l i w now sure s.cs s.ts s.busy s.n s.has s.told) := fun s hs => by unfold al1_fin; rw [hs]
    have hfin := hfin _ hrun
    clear hrun
    generalize l.getD i (⟨0, 0⟩ : Pick) = x at hfin ⊢
    have hok := hI.ok (by omega) hd hg1 hg2 x.client
    obtain ⟨hs', hR, hP⟩ := hI.pick (by omega) x.client x.do_
    generalize pickG w ⟨cs, ts, busy, m, has, told⟩ x.client x.do_ = s' at *
    have k1 : cdec (OkPick w ⟨cs, ts, busy, m, has, told⟩ now sure (x.client % 4)) = true := cdec_true hok
    simp only [k1, decide_true, Bool.and_self, Bool.not_true, cond_true, cond_false]
    exact leafR_go ⟨c, l, i + 1, w, now, sure, s'.cs, s'.ts, s'.busy, s'.n, s'.has, s'.told⟩ ⟨hlt, h2, ⟨hd, hg1, hg2⟩, hs', by rw [show (((i + 1 : Nat)) : Int) = (i : Int) + 1 by simp]; exact hR⟩ (by simp only [al1_S]; omega) (by show (al1_fin c l (i + 1) w now sure s'.cs s'.ts s'.busy s'.n s'.has s'.told).val = (al1_fin c l i w now sure cs ts busy m has told).val; rw [hfin]; rfl) rfl rfl
  · have hi : i = l.length := by omega
    have c1 : decide ((i : Int) < l.length) = false := by simp; omega
    rw [c1]
    exact leafR_exit (al1_o c l i w now sure cs ts busy m has told) (by show (al1_fin c l i w now sure cs ts busy m has told).val = _; unfold al1_fin; rw [hi, List.drop_length]; rfl) rfl
noncomputable def al1_d (env : Env RC) (os : List (Obj RC)) : Option (Bool × al1_St) := match env, os with
  | [(7, .ptr 0 []), (28, .sl .pick c l), (29, .int .i64 x0), (30, .int .i64 x1)], [.var 31 (.acons (.ptr 1 []) (.acons (.int .i64 w) (.acons (.int .i64 m) (.acons (.arr .int 4 has) (.acons (.vs 2 x2) .anil))))), .var 47 (.acons (.acons (.sl .int false cs) (.acons (.acons (.sl .sector false now) (.acons (.sl .sector false sure) .anil)) .anil)) (.acons (.arr .task 4 ts) (.acons (.arr .task 4 x3) (.acons (.arr .bool 4 busy) .anil)))), .vec .int true told] => staticD (true) (decide (x0 = l.length) && decide (x1 = 0) && decide (x2 = told.length) && decide (x3 = (ts)) && cdec (l.length ≤ 400 ∧ (diskOK now sure = true ∧ goodL now = true ∧ goodL sure = true) ∧ ∃ hs, RI w ⟨cs, ts, busy, m, has, told⟩ hs 0), ⟨c, l, 0, w, now, sure, cs, ts, busy, m, has, told⟩)
  | _, _ => none
noncomputable def ul_1 := uk_3.addLoop 4 5 (sumR s17 [.slot 7 0, .path 0 [0], .path 0 [4]] [7, 28, 29, 30] al1_S al1_d)
theorem ul_1_laws : FLaws Tryz.prog s17 ul_1 := by
  refine uk_3_laws.addRoundsR s17_laws (by kernel_rfl) al1_S 60 [7, 28, 29, 30] [] [.slot 7 0, .path 0 [0], .path 0 [4]] [7, 28, 29, 30] al1_d (fun q hI => ?_) ?_
  · obtain ⟨c, l, i, w, now, sure, cs, ts, busy, m, has, told⟩ := q
    refine ⟨?_, ?_, al1_round c l i w now sure cs ts busy m has told hI⟩
    · simp_all [RefsOK, al1_S, al1_c, al1_o, al1_Inv, D.refs, Obj.refs, rEnc]
    · simp_all [al1_S, al1_fin, al1_o, al1_Inv, RT.refsOK, RefsOK, D.refs, Obj.refs, rEnc]
  · intro env os b q hd_ hb
    unfold al1_d at hd_
    split at hd_
    · obtain ⟨hs, hd_⟩ := staticD_some hd_
      cases hd_
      simp only [Bool.and_eq_true, decide_eq_true_eq] at hb
      obtain ⟨⟨⟨⟨e0, e00⟩, e1⟩, e2⟩, e7⟩ := hb
      obtain ⟨e4, e5, e6⟩ := cdec_iff.1 e7
      subst e0
      subst e00
      subst e1
      subst e2
      exact ⟨⟨Nat.zero_le _, e4, e5, e6⟩, rfl, rfl⟩
    · cases hd_
structure nextL_St where
  w : Int
  now : List Sector
  sure : List Sector
  cs : List Int
  ts : List Task
  busy : List Bool
  m : Int
  has : List Int
  told : List Int
  nx : Int
def nextL_c (w : Int) (now : List Sector) (sure : List Sector) (cs : List Int) (ts : List Task) (busy : List Bool) (m : Int) (has : List Int) (told : List Int) (nx : Int) : Env RC := [(7, .ptr 0 []), (11, .ptr 3 []), (12, .int .i64 (cs.getD 0 0)), (14, .int .i64 nx)]
def nextL_o (w : Int) (now : List Sector) (sure : List Sector) (cs : List Int) (ts : List Task) (busy : List Bool) (m : Int) (has : List Int) (told : List Int) (nx : Int) : List (Obj RC) := [.var 31 (.acons (.ptr 1 []) (.acons (.int .i64 w) (.acons (.int .i64 m) (.acons (.arr (C := RC) .int 4 has) (.acons (.vs 2 (told.length)) .anil))))), .var 47 (.acons (.acons (.sl (C := RC) .int false cs) (.acons (.acons (.sl (C := RC) .sector false now) (.acons (.sl (C := RC) .sector false sure) .anil)) .anil)) (.acons (.arr (C := RC) .task 4 ts) (.acons (.arr (C := RC) .task 4 ((ts))) (.acons (.arr (C := RC) .bool 4 busy) .anil)))), .vec .int true told, .var 40 (.acons (.sl (C := RC) .int false ((cs))) (.acons (.acons (.sl (C := RC) .sector false ((now))) (.acons (.sl (C := RC) .sector false ((sure))) .anil)) .anil))]
noncomputable def nextL_r (w : Int) (now : List Sector) (sure : List Sector) (cs : List Int) (ts : List Task) (busy : List Bool) (m : Int) (has : List Int) (told : List Int) (nx : Int) := rndO s17 ul_1 4 15 60 4 [7, 11, 12, 14] [14] [.slot 7 0, .path 0 [0], .path 0 [4], .slot 11 0] (nextL_c w now sure cs ts busy m has told nx) (nextL_o w now sure cs ts busy m has told nx)
theorem nextL_eq (w : Int) (now : List Sector) (sure : List Sector) (cs : List Int) (ts : List Task) (busy : List Bool) (m : Int) (has : List Int) (told : List Int) (nx : Int) : nextL_r w now sure cs ts busy m has told nx = (let Z0 : Int := List.getD cs (0 : Nat) (0 : Int); let Z1 : Int := lRing nx w; let Z2 : D RC := D.acons (D.sl RTy.int false cs) (.acons (D.acons (D.sl RTy.sector false now) (.acons (D.sl RTy.sector false sure) .anil)) .anil); let Z3 : D RC := D.arr RTy.task (4 : Nat) ts; let Z4 : List (Option (Obj RC)) := [some (Obj.var 31 (.acons (D.ptr 1 []) (.acons (D.int .i64 w) (.acons (D.int .i64 m) (.acons (D.arr RTy.int (4 : Nat) has) (.acons (D.vs 2 told.length) .anil)))))), some (Obj.var 47 (.acons Z2 (D.acons Z3 (D.acons Z3 (D.acons (D.arr RTy.bool (4 : Nat) busy) .anil))))), some (Obj.vec RTy.int true told), some (Obj.var 40 Z2)]; let Z5 : RO_ := some ((X.exit (2 : Nat), [(14, D.int .i64 nx)]), Z4); bif decide (nx ≤ IntKind.wrap .i64 (Z0 + w)) then bif decide ((0 : Int) ≤ Z1 ∧ Z1 < (↑cs.length : Int)) then bif plc (List.getD cs Z1.toNat (0 : Int)) == nx then some ((X.normal, [(7, D.ptr 0 []), (11, D.ptr 3 []), (12, D.int .i64 Z0), (14, D.int .i64 (IntKind.wrap .i64 (nx + (1 : Int))))]), Z4) else Z5 else none else Z5) := by kernel_rfl
noncomputable def nextL_fin (w : Int) (now : List Sector) (sure : List Sector) (cs : List Int) (ts : List Task) (busy : List Bool) (m : Int) (has : List Int) (told : List Int) (nx : Int) : RT RC := .leaf (.exit 2) [(14, .int .i64 (topG w cs + 1))] (nextL_o w now sure cs ts busy m has told nx)
def nextL_Inv (w : Int) (now : List Sector) (sure : List Sector) (cs : List Int) (ts : List Task) (busy : List Bool) (m : Int) (has : List Int) (told : List Int) (nx : Int) : Prop := ∃ hs, RW w cs hs ∧ cs.getD 0 0 + 1 ≤ nx ∧ nx ≤ hs.length + 1
noncomputable def nextL_S : LoopR RC nextL_St where
  k := 4
  canon q := nextL_c q.w q.now q.sure q.cs q.ts q.busy q.m q.has q.told q.nx
  objs q := nextL_o q.w q.now q.sure q.cs q.ts q.busy q.m q.has q.told q.nx
  fin q := nextL_fin q.w q.now q.sure q.cs q.ts q.busy q.m q.has q.told q.nx
  Inv q := nextL_Inv q.w q.now q.sure q.cs q.ts q.busy q.m q.has q.told q.nx
  μ q := (topG q.w q.cs + 1 - q.nx).toNat
theorem nextL_round (w : Int) (now : List Sector) (sure : List Sector) (cs : List Int) (ts : List Task) (busy : List Bool) (m : Int) (has : List Int) (told : List Int) (nx : Int) (hI : nextL_Inv w now sure cs ts busy m has told nx) : Leaf (nextL_r w now sure cs ts busy m has told nx) (LedR nextL_S ⟨w, now, sure, cs, ts, busy, m, has, told, nx⟩) := by
  (rw [nextL_eq]; conv => zeta)
  unfold nextL_Inv at hI
  obtain ⟨hs, hR, h1, h2⟩ := hI
  have hT := hR.topG
  have h3 := hR.q0
  have h4 := hR.qf
  have h5 := hR.Tk
  have h6 := hR.w0
  have h7 := hR.w1
  have hl := hR.lc
  have v1 : IntKind.i64.wrap (nx + 1) = nx + 1 := wrap_id (by omega) (by omega)
  have v2 : IntKind.i64.wrap (cs.getD 0 0 + w) = cs.getD 0 0 + w := wrap_id (by omega) (by omega)
  have hr := lRing_in (p := nx) (by omega) ⟨h6, h7⟩
  have c1 : decide ((0 : Int) ≤ lRing nx w ∧ lRing nx w < (cs.length : Int)) = true := decide_eq_true ⟨by omega, by omega⟩
  simp only [v1, v2, c1, cond_true]
  have hat : cs.getD (lRing nx w).toNat 0 = atRing w cs nx := rfl
  rw [hat]
  have hnx := hR.at_next (top := nx - 1) (by omega) (by omega)
  rw [show nx - 1 + 1 = nx by omega] at hnx
  by_cases hlt : nx ≤ hs.length
  · obtain ⟨p1, p2⟩ := hnx.2 (by omega)
    rw [decide_eq_true (show nx ≤ cs.getD 0 0 + w by omega), ibeqT p2]
    exact leafR_go ⟨w, now, sure, cs, ts, busy, m, has, told, nx + 1⟩ ⟨hs, hR, by show cs.getD 0 0 + 1 ≤ nx + 1; omega, by show nx + 1 ≤ (hs.length : Int) + 1; omega⟩ (by show (topG w cs + 1 - (nx + 1)).toNat < (topG w cs + 1 - nx).toNat; omega) rfl rfl rfl
  · have e : nx = topG w cs + 1 := by omega
    have hexit := leafR_exit (S := nextL_S) (s := ⟨w, now, sure, cs, ts, busy, m, has, told, nx⟩) (i := 2) (env := [(14, .int .i64 nx)]) (nextL_o w now sure cs ts busy m has told nx) (by show (nextL_fin w now sure cs ts busy m has told nx).val = _; unfold nextL_fin; rw [← e]; rfl) rfl
    have hn : ¬ (nx - 1 < cs.getD 0 0 + w ∧ plc (atRing w cs nx) = nx) := fun q => hlt (by have := hnx.1 q; omega)
    by_cases a : nx ≤ cs.getD 0 0 + w
    · rw [decide_eq_true a, ibeqF (fun q => hn ⟨by omega, q⟩)]
      exact hexit
    · rw [decide_eq_false a]
      exact hexit
noncomputable def nextL_d (env : Env RC) (os : List (Obj RC)) : Option (Bool × nextL_St) := match env, os with
  | [(7, .ptr 0 []), (11, .ptr 3 []), (12, .int .i64 x0), (14, .int .i64 nx)], [.var 31 (.acons (.ptr 1 []) (.acons (.int .i64 w) (.acons (.int .i64 m) (.acons (.arr .int 4 has) (.acons (.vs 2 x1) .anil))))), .var 47 (.acons (.acons (.sl .int false cs) (.acons (.acons (.sl .sector false now) (.acons (.sl .sector false sure) .anil)) .anil)) (.acons (.arr .task 4 ts) (.acons (.arr .task 4 x2) (.acons (.arr .bool 4 busy) .anil)))), .vec .int true told, .var 40 (.acons (.sl .int false x3) (.acons (.acons (.sl .sector false x4) (.acons (.sl .sector false x5) .anil)) .anil))] => staticD (true) (decide (x0 = cs.getD 0 0) && decide (x1 = told.length) && decide (x2 = (ts)) && decide (x3 = (cs)) && decide (x4 = (now)) && decide (x5 = (sure)) && cdec (∃ hs : List Int, RW w cs hs ∧ cs.getD 0 0 + 1 ≤ nx ∧ nx ≤ hs.length + 1), ⟨w, now, sure, cs, ts, busy, m, has, told, nx⟩)
  | _, _ => none
noncomputable def ul_2 := ul_1.addLoop 4 15 (sumR s17 [.slot 7 0, .path 0 [0], .path 0 [4], .slot 11 0] [7, 11, 12, 14] nextL_S nextL_d)
theorem ul_2_laws : FLaws Tryz.prog s17 ul_2 := by
  refine ul_1_laws.addRoundsR s17_laws (by kernel_rfl) nextL_S 60 [7, 11, 12, 14] [14] [.slot 7 0, .path 0 [0], .path 0 [4], .slot 11 0] [7, 11, 12, 14] nextL_d (fun q hI => ?_) ?_
  · obtain ⟨w, now, sure, cs, ts, busy, m, has, told, nx⟩ := q
    refine ⟨?_, ?_, nextL_round w now sure cs ts busy m has told nx hI⟩
    · simp_all [RefsOK, nextL_S, nextL_c, nextL_o, nextL_Inv, D.refs, Obj.refs, rEnc]
    · simp_all [nextL_S, nextL_fin, nextL_o, nextL_Inv, RT.refsOK, RefsOK, D.refs, Obj.refs, rEnc]
  · intro env os b q hd_ hb
    unfold nextL_d at hd_
    split at hd_
    · obtain ⟨hs, hd_⟩ := staticD_some hd_
      cases hd_
      simp only [Bool.and_eq_true, decide_eq_true_eq] at hb
      obtain ⟨⟨⟨⟨⟨⟨e0, e1⟩, e2⟩, e3⟩, e4⟩, e5⟩, e6⟩ := hb
      subst e2
      subst e3
      subst e4
      subst e5
      subst e0
      subst e1
      exact ⟨cdec_iff.1 e6, rfl, rfl⟩
    · cases hd_
structure aloneL_St where
  c : Int
  f : Int
  q : Int
  nx : Int
  i : Nat
  w : Int
  now : List Sector
  sure : List Sector
  cs : List Int
  ts : List Task
  busy : List Bool
  m : Int
  has : List Int
  told : List Int
def aloneL_c (c : Int) (f : Int) (q : Int) (nx : Int) (i : Nat) (w : Int) (now : List Sector) (sure : List Sector) (cs : List Int) (ts : List Task) (busy : List Bool) (m : Int) (has : List Int) (told : List Int) : Env RC := [(7, .ptr 0 []), (10, .int .i64 c), (12, .int .i64 f), (13, .int .i64 q), (14, .int .i64 nx), (15, .int .i64 (i : Int))]
def aloneL_o (c : Int) (f : Int) (q : Int) (nx : Int) (i : Nat) (w : Int) (now : List Sector) (sure : List Sector) (cs : List Int) (ts : List Task) (busy : List Bool) (m : Int) (has : List Int) (told : List Int) : List (Obj RC) := [.var 31 (.acons (.ptr 1 []) (.acons (.int .i64 w) (.acons (.int .i64 m) (.acons (.arr (C := RC) .int 4 has) (.acons (.vs 2 (told.length)) .anil))))), .var 47 (.acons (.acons (.sl (C := RC) .int false cs) (.acons (.acons (.sl (C := RC) .sector false now) (.acons (.sl (C := RC) .sector false sure) .anil)) .anil)) (.acons (.arr (C := RC) .task 4 ts) (.acons (.arr (C := RC) .task 4 ((ts))) (.acons (.arr (C := RC) .bool 4 busy) .anil)))), .vec .int true told]
noncomputable def aloneL_r (c : Int) (f : Int) (q : Int) (nx : Int) (i : Nat) (w : Int) (now : List Sector) (sure : List Sector) (cs : List Int) (ts : List Task) (busy : List Bool) (m : Int) (has : List Int) (told : List Int) := rndO s17 ul_2 4 19 60 3 [7, 10, 12, 13, 14, 15] [6] [.slot 7 0, .path 0 [0], .path 0 [4]] (aloneL_c c f q nx i w now sure cs ts busy m has told) (aloneL_o c f q nx i w now sure cs ts busy m has told)
theorem aloneL_eq (c : Int) (f : Int) (q : Int) (nx : Int) (i : Nat) (w : Int) (now : List Sector) (sure : List Sector) (cs : List Int) (ts : List Task) (busy : List Bool) (m : Int) (has : List Int) (told : List Int) : aloneL_r c f q nx i w now sure cs ts busy m has told = (let Z0 : Task := tkC ts c; let Z1 : Bool := GoR.is (stE cs Z0); let Z2 : D RC := .anil; let Z3 : Option (Obj RC) := some (Obj.var 31 (.acons (D.ptr 1 []) (.acons (D.int .i64 w) (.acons (D.int .i64 m) (.acons (D.arr RTy.int (4 : Nat) has) (.acons (D.vs 2 told.length) Z2)))))); let Z4 : D RC := D.acons (D.acons (D.sl RTy.sector false now) (.acons (D.sl RTy.sector false sure) Z2)) Z2; let Z5 : D RC := D.arr RTy.task (4 : Nat) (List.set ts c.toNat (stT cs Z0)); let Z6 : List (Option (Obj RC)) := [Z3, some (Obj.var 47 (.acons (D.acons (D.sl RTy.int false (stCs cs Z0)) Z4) (.acons Z5 (D.acons Z5 (D.acons (D.arr RTy.bool (4 : Nat) (bif Z1 then busy else List.set busy c.toNat false)) Z2))))), some (Obj.vec RTy.int true told)]; let Z7 : List Int := bif Z1 then [] else GoR.got (stE cs Z0); let Z8 : Bool := lenOK Z7.length; let Z9 : Int := (↑Z7.length : Int); let Z10 : Bool := decide ((0 : Int) ≤ (0 : Int) ∧ (0 : Int) < Z9); let Z11 : Int := List.getD Z7 (0 : Nat) (0 : Int); let Z12 : Int := IntKind.wrap .i64 (f + w); let Z13 : Int := IntKind.wrap .i64 (nx - (32 : Int)); let Z14 : RO_ := some ((X.ret, [(6, D.bool true)]), Z6); let Z15 : RO_ := some ((X.ret, [(6, D.bool false)]), Z6); let Z16 : RO_ := bif Z10 then bif Z11 == (171 : Int) then bif decide (nx ≤ Z12) then bif decide (q < Z13) then Z14 else Z15 else Z15 else Z15 else none; let Z17 : D RC := D.arr RTy.task (4 : Nat) ts; bif decide ((↑i : Int) < (14 : Int)) then bif decide (ts = ts) && decide ((0 : Int) ≤ c ∧ c ≤ (3 : Int) ∧ List.length ts = (4 : Nat) ∧ OkStep cs Z0 now sure) then bif !!Z1 then some ((X.normal, [(7, D.ptr 0 []), (10, D.int .i64 c), (12, D.int .i64 f), (13, D.int .i64 q), (14, D.int .i64 nx), (15, D.int .i64 (IntKind.wrap .i64 ((↑i : Int) + (1 : Int))))]), Z6) else bif Z8 then bif Z9 == (2 : Int) then bif Z10 then bif Z11 == (0 : Int) then bif decide ((0 : Int) ≤ (1 : Int) ∧ (1 : Int) < Z9) then bif List.getD Z7 (1 : Nat) (0 : Int) == nx then bif decide (nx ≤ Z12) then bif decide (Z13 ≤ q) then Z14 else Z15 else Z15 else Z15 else none else Z15 else none else bif Z8 then bif Z9 == (1 : Int) then bif Z10 then bif Z11 == (170 : Int) then bif decide (Z12 < nx) then Z14 else Z16 else Z16 else none else Z15 else none else none else none else some ((X.exit (4 : Nat), [(6, D.top)]), [Z3, some (Obj.var 47 (.acons (D.acons (D.sl RTy.int false cs) Z4) (.acons Z17 (D.acons Z17 (D.acons (D.arr RTy.bool (4 : Nat) busy) Z2))))), some (Obj.vec RTy.int true told)])) := by kernel_rfl
noncomputable def aloneL_fin (c : Int) (f : Int) (q : Int) (nx : Int) (i : Nat) (w : Int) (now : List Sector) (sure : List Sector) (cs : List Int) (ts : List Task) (busy : List Bool) (m : Int) (has : List Int) (told : List Int) : RT RC := .leaf .ret [(6, .bool true)] (aloneL_o c f q nx i w now sure (aloneR c (14 - i) ⟨cs, ts, busy, m, has, told⟩).cs (aloneR c (14 - i) ⟨cs, ts, busy, m, has, told⟩).ts (aloneR c (14 - i) ⟨cs, ts, busy, m, has, told⟩).busy m has told)
def aloneL_Inv (c : Int) (f : Int) (q : Int) (nx : Int) (i : Nat) (w : Int) (now : List Sector) (sure : List Sector) (cs : List Int) (ts : List Task) (busy : List Bool) (m : Int) (has : List Int) (told : List Int) : Prop := (0 ≤ c ∧ c ≤ 3 ∧ -100 ≤ f ∧ f ≤ 1000000 ∧ 2 ≤ w ∧ w ≤ 8 ∧ -100 ≤ nx ∧ nx ≤ 1000000) ∧ ∃ k : Nat, i + k ≤ 13 ∧ Path w c f q nx now sure k ⟨cs, ts, busy, m, has, told⟩
noncomputable def aloneL_S : LoopR RC aloneL_St where
  k := 3
  canon q := aloneL_c q.c q.f q.q q.nx q.i q.w q.now q.sure q.cs q.ts q.busy q.m q.has q.told
  objs q := aloneL_o q.c q.f q.q q.nx q.i q.w q.now q.sure q.cs q.ts q.busy q.m q.has q.told
  fin q := aloneL_fin q.c q.f q.q q.nx q.i q.w q.now q.sure q.cs q.ts q.busy q.m q.has q.told
  Inv q := aloneL_Inv q.c q.f q.q q.nx q.i q.w q.now q.sure q.cs q.ts q.busy q.m q.has q.told
  μ q := 20 - q.i
theorem aloneL_round (c : Int) (f : Int) (q : Int) (nx : Int) (i : Nat) (w : Int) (now : List Sector) (sure : List Sector) (cs : List Int) (ts : List Task) (busy : List Bool) (m : Int) (has : List Int) (told : List Int) (hI : aloneL_Inv c f q nx i w now sure cs ts busy m has told) : Leaf (aloneL_r c f q nx i w now sure cs ts busy m has told) (LedR aloneL_S ⟨c, f, q, nx, i, w, now, sure, cs, ts, busy, m, has, told⟩) := by
  (rw [aloneL_eq]; conv => zeta)
  unfold aloneL_Inv at hI
  obtain ⟨⟨hc0, hc3, f0, f1, w0, w1, x0, x1⟩, k, hk, hp⟩ := hI
  have hi : i < 14 := by omega
  have c1 : decide ((i : Int) < 14) = true := decide_eq_true (by omega)
  have v1 : IntKind.i64.wrap ((i : Int) + 1) = ((i + 1 : Nat) : Int) := by rw [wrap_id (by omega) (by omega)]; simp
  have v2 : IntKind.i64.wrap (f + w) = f + w := wrap_id (by omega) (by omega)
  have v3 : IntKind.i64.wrap (nx - 32) = nx - 32 := wrap_id (by omega) (by omega)
  have hfin : ∀ s : GS, aloneR c (14 - i) ⟨cs, ts, busy, m, has, told⟩ = s → aloneL_fin c f q nx i w now sure cs ts busy m has told = .leaf .ret [(6, .bool true)] (aloneL_o c f q nx i w now sure s.cs s.ts s.busy m has told) := fun s hs => by unfold aloneL_fin; rw [hs]
  cases hp with
  | stop h1 h2 h3 h4 h5 =>
    have e1 : decide (0 ≤ c ∧ c ≤ 3 ∧ ts.length = 4 ∧ OkStep cs (tkC ts c) now sure) = true := decide_eq_true ⟨hc0, hc3, h1, h2⟩
    have hfin := hfin _ (aloneR_stop h3 hi)
    have h3 : (stE cs (tkC ts c)).is = false := h3
    have h4 : GoodA w f q nx (stE cs (tkC ts c)).got := h4
    have hS : stepS ⟨cs, ts, busy, m, has, told⟩ c = ⟨stCs cs (tkC ts c), ts.set c.toNat (stT cs (tkC ts c)), busy.set c.toNat false, m, has, told⟩ := by
      unfold stepS; simp only; rw [h3]; rfl
    rw [hS] at hfin
    simp only [c1, e1, v1, v2, v3, h3, decide_true, Bool.and_self, Bool.not_false, Bool.not_true, cond_true, cond_false]
    have hret := leafR_ret (S := aloneL_S) (s := ⟨c, f, q, nx, i, w, now, sure, cs, ts, busy, m, has, told⟩) (env := [(6, .bool true)]) (aloneL_o c f q nx i w now sure (stCs cs (tkC ts c)) (ts.set c.toNat (stT cs (tkC ts c))) (busy.set c.toNat false) m has told) (by show (aloneL_fin c f q nx i w now sure cs ts busy m has told).val = _; rw [hfin]; rfl) rfl
    rcases h4 with ⟨e, a, b⟩ | ⟨e, a⟩ | ⟨e, a, b⟩
    · have g1 : (([0, nx].getD 1 0 : Int) == nx) = true := ibeqT rfl
      have g2 : (([0, nx].getD 0 0 : Int) == 0) = true := rfl
      have g3 : ((([0, nx] : List Int).length : Int) == 2) = true := rfl
      have g4 : decide ((0 : Int) ≤ 0 ∧ (0 : Int) < (([0, nx] : List Int).length : Int)) = true := rfl
      have g5 : decide ((0 : Int) ≤ 1 ∧ (1 : Int) < (([0, nx] : List Int).length : Int)) = true := rfl
      have g6 : lenOK ([0, nx] : List Int).length = true := rfl
      rw [e, g1, g2, g3, g4, g5, g6, decide_eq_true a, decide_eq_true b]
      exact hret
    · rw [e, decide_eq_true a]
      exact hret
    · rw [e, decide_eq_false (show ¬ (f + w < nx) by omega), decide_eq_true a, decide_eq_true b]
      exact hret
  | @go j _ h1 h2 h3 h4 =>
    have e1 : decide (0 ≤ c ∧ c ≤ 3 ∧ ts.length = 4 ∧ OkStep cs (tkC ts c) now sure) = true := decide_eq_true ⟨hc0, hc3, h1, h2⟩
    have hfin := hfin _ (aloneR_go h3 hi)
    have h3 : (stE cs (tkC ts c)).is = true := h3
    have hS : stepS ⟨cs, ts, busy, m, has, told⟩ c = ⟨stCs cs (tkC ts c), ts.set c.toNat (stT cs (tkC ts c)), busy, m, has, told⟩ := by
      unfold stepS; simp only; rw [h3]; rfl
    rw [hS] at hfin h4
    simp only [c1, e1, v1, h3, decide_true, Bool.and_self, Bool.not_false, Bool.not_true, cond_true, cond_false]
    exact leafR_go ⟨c, f, q, nx, i + 1, w, now, sure, stCs cs (tkC ts c), ts.set c.toNat (stT cs (tkC ts c)), busy, m, has, told⟩ ⟨⟨hc0, hc3, f0, f1, w0, w1, x0, x1⟩, j, show i + 1 + j ≤ 13 by omega, h4⟩ (by simp only [aloneL_S]; omega) (by show (aloneL_fin c f q nx (i + 1) w now sure (stCs cs (tkC ts c)) (ts.set c.toNat (stT cs (tkC ts c))) busy m has told).val = (aloneL_fin c f q nx i w now sure cs ts busy m has told).val; rw [hfin]; rfl) rfl rfl
noncomputable def aloneL_d (env : Env RC) (os : List (Obj RC)) : Option (Bool × aloneL_St) := match env, os with
  | [(7, .ptr 0 []), (10, .int .i64 c), (12, .int .i64 f), (13, .int .i64 q), (14, .int .i64 nx), (15, .int .i64 x0)], [.var 31 (.acons (.ptr 1 []) (.acons (.int .i64 w) (.acons (.int .i64 m) (.acons (.arr .int 4 has) (.acons (.vs 2 x1) .anil))))), .var 47 (.acons (.acons (.sl .int false cs) (.acons (.acons (.sl .sector false now) (.acons (.sl .sector false sure) .anil)) .anil)) (.acons (.arr .task 4 ts) (.acons (.arr .task 4 x2) (.acons (.arr .bool 4 busy) .anil)))), .vec .int true told] => staticD (true) (decide (x0 = 0) && decide (x1 = told.length) && decide (x2 = (ts)) && cdec ((0 ≤ c ∧ c ≤ 3 ∧ -100 ≤ f ∧ f ≤ 1000000 ∧ 2 ≤ w ∧ w ≤ 8 ∧ -100 ≤ nx ∧ nx ≤ 1000000) ∧ Path w c f q nx now sure 10 ⟨cs, ts, busy, m, has, told⟩), ⟨c, f, q, nx, 0, w, now, sure, cs, ts, busy, m, has, told⟩)
  | _, _ => none
noncomputable def ul_3 := ul_2.addLoop 4 19 (sumR s17 [.slot 7 0, .path 0 [0], .path 0 [4]] [7, 10, 12, 13, 14, 15] aloneL_S aloneL_d)
theorem ul_3_laws : FLaws Tryz.prog s17 ul_3 := by
  refine ul_2_laws.addRoundsR s17_laws (by kernel_rfl) aloneL_S 60 [7, 10, 12, 13, 14, 15] [6] [.slot 7 0, .path 0 [0], .path 0 [4]] [7, 10, 12, 13, 14, 15] aloneL_d (fun q hI => ?_) ?_
  · obtain ⟨c, f, q, nx, i, w, now, sure, cs, ts, busy, m, has, told⟩ := q
    refine ⟨?_, ?_, aloneL_round c f q nx i w now sure cs ts busy m has told hI⟩
    · simp_all [RefsOK, aloneL_S, aloneL_c, aloneL_o, aloneL_Inv, D.refs, Obj.refs, rEnc]
    · simp_all [aloneL_S, aloneL_fin, aloneL_o, aloneL_Inv, RT.refsOK, RefsOK, D.refs, Obj.refs, rEnc]
  · intro env os b q hd_ hb
    unfold aloneL_d at hd_
    split at hd_
    · obtain ⟨hs, hd_⟩ := staticD_some hd_
      cases hd_
      simp only [Bool.and_eq_true, decide_eq_true_eq] at hb
      obtain ⟨⟨⟨e0, e1⟩, e2⟩, e7⟩ := hb
      obtain ⟨e4, e5⟩ := cdec_iff.1 e7
      subst e0
      subst e1
      subst e2
      exact ⟨⟨e4, 10, show (0 : Nat) + 10 ≤ 13 by decide, e5⟩, rfl, rfl⟩
    · cases hd_
def alBegin (w : Int) (s : GS) (c : Int) : GS := { s with ts := s.ts.set c.toNat ⟨c, [⟨68, 0, regs' w (256000 + c)⟩], [], false⟩, busy := (s.busy.set c.toNat false).set c.toNat true }
theorem alone_path {w : Int} {s : GS} {hs : List Int} {kk : Int} (h : RI w s hs kk) (hkk : kk ≤ 900) {now sure : List Sector} (hd : diskOK now sure = true) (hg1 : goodL now = true) (hg2 : goodL sure = true) {c : Int} (c0 : 0 ≤ c) (c3 : c ≤ 3) :
    Path w c (s.cs.getD 0 0) (s.cs.getD 4 0) (topG w s.cs + 1) now sure 10 (alBegin w s c) := by
  have hk := h.hk
  have hnk := h.nk
  have hnew : 256000 + c ∉ hs := fun hm => by
    obtain ⟨m, c', m1, m2, d0, d3, e⟩ := h.hn _ hm
    have := (hnd_in (c := c') (m := m) d0 d3 m1 (by omega)).1
    omega
  have h1 := h.rw.t1
  have hA : AS w c (256000 + c) 10 (alBegin w s c) hs 0 (regs' w (256000 + c)) [] :=
    ⟨c0, c3, ⟨by omega, by omega⟩, by show (s.ts.set c.toNat _).length = 4; rw [List.length_set]; exact h.lt,
      by show tkC (s.ts.set c.toNat _) c = _; rw [tkC_set h.lt c0 c3 c0, if_pos rfl]; rfl, h.rw,
      ⟨rfl, rfl, rfl, Int.le_refl _, by show (0 : Int) ≤ s.cs.getD 1 0; omega, rfl, .inl ⟨rfl, rfl, hnew⟩⟩, by omega, by decide⟩
  rw [h.rw.topG]
  exact hA.p0 hd hg1 hg2 (by decide)
open Go.Proofs
def alone17_s (c : Bool) (l : List Pick) (n : Int) (x : Int) : Option (Bool × D RC) := some (lenOK l.length, .bool true)
def alone17_sp : List (D RC) → Option (Bool × D RC)
  | [.sl .pick c l, .int .i64 n, .int .i64 x] => alone17_s c l n x
  | _ => none
noncomputable def alone17_e (c : Bool) (l : List Pick) (n : Int) (x : Int) := evF s17 ul_3 100 4 [.sl (C := RC) .pick c l, .int .i64 n, .int .i64 x]
theorem alone17_eq (c : Bool) (l : List Pick) (n : Int) (x : Int) : alone17_e c l n x = (let Z0 : Nat := List.length l; let Z1 : Int := (↑Z0 : Int); let Z2 : DO_ := some (D.bool true); let Z3 : Int := (2 : Int) + n % (7 : Int); let Z4 : GS := GS.mk newCells (List.replicate (4 : Nat) (rDflt RTy.task)) (List.replicate (4 : Nat) false) (0 : Int) (List.replicate (4 : Nat) (0 : Int)) []; let Z5 : Int := Int.tmod (IntKind.wrap .i64 (Int.tmod x (4 : Int) + (4 : Int))) (4 : Int); let Z6 : Bool := decide ((0 : Int) ≤ Z5 ∧ Z5 < (4 : Int)); let Z7 : GS := runA Z3 (List.drop (0 : Nat) l) Z4; let Z8 : List Int := GS.cs Z7; let Z9 : Int := (↑Z8.length : Int); let Z10 : Int := List.getD Z8 (0 : Nat) (0 : Int); let Z11 : Nat := List.length (GS.told Z7); let Z12 : Bool := decide (Z11 = Z11); let Z13 : Bool := decide (GS.ts Z7 = GS.ts Z7); let Z14 : Int := IntKind.wrap .i64 (Z10 + (1 : Int)); let Z15 : Nat := Int.toNat Z5; let Z16 : List Bool := List.set (GS.busy Z7) Z15 false; let Z17 : Int := topG Z3 Z8 + (1 : Int); let Z18 : Int := List.getD Z8 (4 : Nat) (0 : Int); let Z19 : DO_ := none; let Z20 : List Task := List.set (GS.ts Z7) Z15 (Task.mk Z5 [Frame.mk (68 : Int) (0 : Int) (regs Z3 (IntKind.wrap .i64 ((256000 : Int) + Z5)))] [] false); bif lenOK Z0 then bif decide ((400 : Int) < Z1) then Z2 else bif lenOK Z0 then bif decide (Z1 = Z1) && true && true && true && cdec (Z0 ≤ (400 : Nat) ∧ (true = true ∧ true = true ∧ true = true) ∧ ∃ (hs : List Int), RI Z3 Z4 hs (0 : Int)) then bif Z6 then bif decide ((0 : Int) ≤ (0 : Int) ∧ (0 : Int) < Z9) then bif decide ((0 : Int) ≤ (4 : Int) ∧ (4 : Int) < Z9) then bif decide (Z10 = Z10) && Z12 && Z13 && decide (Z8 = Z8) && true && true && cdec (∃ (hs : List Int), RW Z3 Z8 hs ∧ Z10 + (1 : Int) ≤ Z14 ∧ Z14 ≤ (↑hs.length : Int) + (1 : Int)) then bif decide ((0 : Int) ≤ Z5 ∧ Z5 ≤ (3 : Int)) then bif Z6 then bif List.getD Z16 Z15 false then bif Z12 && Z13 && cdec (((0 : Int) ≤ Z5 ∧ Z5 ≤ (3 : Int) ∧ (-100 : Int) ≤ Z10 ∧ Z10 ≤ (1000000 : Int) ∧ (2 : Int) ≤ Z3 ∧ Z3 ≤ (8 : Int) ∧ (-100 : Int) ≤ Z17 ∧ Z17 ≤ (1000000 : Int)) ∧ Path Z3 Z5 Z10 Z18 Z17 emptyDisk emptyDisk (10 : Nat) (GS.mk Z8 (GS.ts Z7) Z16 (GS.n Z7) (GS.has Z7) (GS.told Z7))) then Z2 else Z19 else bif Z6 then bif Z6 then bif Z6 then bif Z12 && decide (Z20 = Z20) && cdec (((0 : Int) ≤ Z5 ∧ Z5 ≤ (3 : Int) ∧ (-100 : Int) ≤ Z10 ∧ Z10 ≤ (1000000 : Int) ∧ (2 : Int) ≤ Z3 ∧ Z3 ≤ (8 : Int) ∧ (-100 : Int) ≤ Z17 ∧ Z17 ≤ (1000000 : Int)) ∧ Path Z3 Z5 Z10 Z18 Z17 emptyDisk emptyDisk (10 : Nat) (GS.mk Z8 Z20 (List.set Z16 Z15 true) (GS.n Z7) (GS.has Z7) (GS.told Z7))) then Z2 else Z19 else Z19 else Z19 else Z19 else Z19 else Z19 else Z19 else Z19 else Z19 else Z19 else Z19 else Z19 else Z19) := by kernel_rfl
theorem alone17_ok (c : Bool) (l : List Pick) (n : Int) (x : Int) (h : (lenOK l.length) = true) : alone17_e c l n x = some (.bool true) := by
  (rw [alone17_eq]; conv => zeta)
  have hw : 0 ≤ n % 7 ∧ n % 7 < 7 := ⟨Int.emod_nonneg _ (by decide), Int.emod_lt_of_pos _ (by decide)⟩
  by_cases h4 : l.length ≤ 400
  · have d1 : decide ((400 : Int) < (l.length : Int)) = false := decide_eq_false (by omega)
    have hg : (⟨newCells, List.replicate 4 (rDflt RTy.task), List.replicate 4 false, 0, List.replicate 4 0, []⟩ : GS) = gs0 := rfl
    have k1 : cdec (l.length ≤ 400 ∧ (true = true ∧ true = true ∧ true = true) ∧ ∃ hs, RI (2 + n % 7) gs0 hs 0) = true := cdec_true ⟨h4, ⟨rfl, rfl, rfl⟩, [], RI.init (by omega) (by omega)⟩
    obtain ⟨hs, hR⟩ := runA_RI (w := 2 + n % 7) l gs0 0 (by omega) ⟨[], RI.init (by omega) (by omega)⟩
    rw [h, d1, hg, k1, List.drop_zero]
    have c0 : 0 ≤ x % 4 := Int.emod_nonneg _ (by decide)
    have c4 : x % 4 < 4 := Int.emod_lt_of_pos _ (by decide)
    have hP := alone_path hR (by omega) (now := emptyDisk) (sure := emptyDisk) (by kernel_rfl) (by kernel_rfl) (by kernel_rfl) c0 (show x % 4 ≤ 3 by omega)
    generalize runA (2 + n % 7) l gs0 = s at *
    have hl := hR.rw.lc
    have hT := hR.rw.topG
    have hTk := hR.rw.Tk
    have hfT := hR.rw.fT
    have hq0 := hR.rw.q0
    have hqf := hR.rw.qf
    have e1 : decide ((0 : Int) ≤ x % 4 ∧ x % 4 < 4) = true := decide_eq_true ⟨c0, c4⟩
    have e2 : decide ((0 : Int) ≤ x % 4 ∧ x % 4 ≤ 3) = true := decide_eq_true ⟨c0, by omega⟩
    have e3 : decide ((0 : Int) ≤ 0 ∧ (0 : Int) < (s.cs.length : Int)) = true := decide_eq_true ⟨by omega, by omega⟩
    have e4 : decide ((0 : Int) ≤ 4 ∧ (4 : Int) < (s.cs.length : Int)) = true := decide_eq_true ⟨by omega, by omega⟩
    have v1 : IntKind.i64.wrap (s.cs.getD 0 0 + 1) = s.cs.getD 0 0 + 1 := wrap_id (by omega) (by omega)
    have v2 : IntKind.i64.wrap (256000 + x % 4) = 256000 + x % 4 := wrap_id (by omega) (by omega)
    have g : (s.busy.set (x % 4).toNat false).getD (x % 4).toNat false = false := by rw [busy_set hR.lb c0 (by omega) c0, if_pos rfl]
    have k2 : cdec (∃ hs : List Int, RW (2 + n % 7) s.cs hs ∧ s.cs.getD 0 0 + 1 ≤ s.cs.getD 0 0 + 1 ∧ s.cs.getD 0 0 + 1 ≤ (hs.length : Int) + 1) = true := cdec_true ⟨hs, hR.rw, Int.le_refl _, by omega⟩
    have k3 : cdec ((0 ≤ x % 4 ∧ x % 4 ≤ 3 ∧ -100 ≤ s.cs.getD 0 0 ∧ s.cs.getD 0 0 ≤ 1000000 ∧ 2 ≤ 2 + n % 7 ∧ 2 + n % 7 ≤ 8 ∧ -100 ≤ topG (2 + n % 7) s.cs + 1 ∧ topG (2 + n % 7) s.cs + 1 ≤ 1000000) ∧ Path (2 + n % 7) (x % 4) (s.cs.getD 0 0) (s.cs.getD 4 0) (topG (2 + n % 7) s.cs + 1) emptyDisk emptyDisk 10 ⟨s.cs, s.ts.set (x % 4).toNat ⟨x % 4, [⟨68, 0, regs (2 + n % 7) (256000 + x % 4)⟩], [], false⟩, (s.busy.set (x % 4).toNat false).set (x % 4).toNat true, s.n, s.has, s.told⟩) = true :=
      cdec_true ⟨⟨c0, by omega, by omega, by omega, by omega, by omega, by omega, by omega⟩, hP⟩
    rw [mod4, v1, v2, e1, e2, e3, e4, g, k2, k3]
    simp only [decide_true, Bool.and_self, Bool.and_true, Bool.true_and, cond_true, cond_false]
  · have d1 : decide ((400 : Int) < (l.length : Int)) = true := decide_eq_true (by omega)
    rw [h, d1]
    rfl
noncomputable def um_1 := ul_3.addSpec 4 alone17_sp
theorem um_1_laws : FLaws Tryz.prog s17 um_1 := ul_3_laws.addEv s17_laws fun args d h => by
  unfold alone17_sp at h
  split at h
  · unfold alone17_s at h
    have h1 := congrArg Prod.fst (Option.some.inj h)
    obtain rfl : _ = d := congrArg Prod.snd (Option.some.inj h)
    exact ⟨by simp [D.refs], 100, alone17_ok _ _ _ _ h1⟩
  · cases h
theorem Path.congr {w c f q next : Int} {now sure : List Sector} {m : Nat} {s : GS} (h : Path w c f q next now sure m s) : ∀ {s2 : GS}, s2.cs = s.cs → s2.ts = s.ts → Path w c f q next now sure m s2 := by
  induction h with
  | stop h1 h2 h3 h4 h5 =>
    intro s2 e1 e2
    exact .stop (by rw [e2]; exact h1) (by rw [e1, e2]; exact h2) (by rw [e1, e2]; exact h3) (by rw [e1, e2]; exact h4) (by
      have e3 : (stepS s2 c).cs = stCs s2.cs (tkC s2.ts c) := rfl
      rw [e3, e1, e2]
      exact h5)
  | go h1 h2 h3 _ ih =>
    intro s2 e1 e2
    refine .go (by rw [e2]; exact h1) (by rw [e1, e2]; exact h2) (by rw [e1, e2]; exact h3) (ih ?_ ?_)
    · unfold stepS; simp only; rw [e1, e2]
    · unfold stepS; simp only; rw [e1, e2]
theorem stepP_low {w : Int} {s : GS} {hs : List Int} {kk : Int} (h : RI w s hs kk) (hkk : kk < 900) {c : Int} (c0 : 0 ≤ c) (c3 : c ≤ 3) (hb : isBusy s c = true) : (stepP s c).cs.getD 0 0 = s.cs.getD 0 0 ∧ (stepP s c).cs.getD 4 0 = s.cs.getD 4 0 := by
  obtain ⟨k, r, got, m, q1, q2, q3, q4, q5⟩ := h.cl c c0 c3 hb
  have hnk := h.nk
  have hv := hnd_in (c := c) (m := m) c0 c3 q2 (by omega)
  rw [← q4] at hv
  obtain ⟨ext, hext, cs', t', E, e1, e2, e3, e4, e5, _⟩ := h.rw.step c0 c3 hv.2 (by have := h.hk; omega) q5
  have : (stepP s c).cs = cs' := by
    unfold stepP
    rw [if_pos hb]
    show stCs s.cs (tkC s.ts c) = cs'
    rw [q1, e1.hcs]
  rw [this]
  exact ⟨e3, e4⟩
theorem turn_step {w c i : Int} {s : GS} {m : Nat} {now sure : List Sector} (hl : s.busy.length = 4) (c0 : 0 ≤ c) (c3 : c ≤ 3) (hb : isBusy s c = true) (hp : Path w c i 0 (i + 1) now sure m s) (i0 : 0 ≤ i) (i9 : i ≤ 29) (hw : 2 ≤ w) :
    (isBusy (stepP s c) c = true ∧ (stepP s c).told = s.told ∧ ∃ m', m = m' + 1 ∧ Path w c i 0 (i + 1) now sure m' (stepP s c)) ∨ (isBusy (stepP s c) c = false ∧ (stepP s c).told = s.told ++ [i + 1] ∧ topG w (stepP s c).cs = i + 1) := by
  have hP : stepP s c = { stepS s c with told := s.told ++ newTold s c } := by unfold stepP; rw [if_pos hb]
  cases hp with
  | stop h1 h2 h3 h4 h5 =>
    refine .inr ?_
    rcases h4 with ⟨e, _⟩ | ⟨_, e⟩ | ⟨_, _, e⟩
    · have hN : newTold s c = [i + 1] := by
        unfold newTold
        rw [if_pos ⟨h3, by rw [e]; rfl, by rw [e]; rfl⟩, e]; rfl
      rw [hP, hN]
      refine ⟨?_, rfl, h5 (by rw [e]; rfl)⟩
      show (bif (stE s.cs (tkC s.ts c)).is then s.busy else s.busy.set c.toNat false).getD c.toNat false = false
      rw [h3]
      simp only [cond_false]
      rw [busy_set hl c0 c3 c0, if_pos rfl]
    · omega
    · omega
  | go h1 h2 h3 h4 =>
    refine .inl ?_
    have hN : newTold s c = [] := by
      unfold newTold
      rw [if_neg (fun q => by rw [h3] at q; cases q.1)]
    rw [hP, hN, List.append_nil]
    refine ⟨?_, rfl, _, rfl, h4.congr rfl rfl⟩
    show (bif (stE s.cs (tkC s.ts c)).is then s.busy else s.busy.set c.toNat false).getD c.toNat false = true
    rw [h3]
    exact hb
def turnS (c : Int) : Nat → GS → GS
  | 0, s => s
  | n + 1, s => if isBusy s c = true then turnS c n (stepP s c) else s
structure TI (w : Int) (s : GS) (hs : List Int) (kk i : Int) : Prop where
  ri : RI w s hs kk
  hl : (hs.length : Int) = i
  f : s.cs.getD 0 0 = i
  q : s.cs.getD 4 0 = 0
  idle : ∀ c, 0 ≤ c → c ≤ 3 → isBusy s c = false
  tl : (s.told.length : Int) = i
structure TA (w : Int) (s : GS) (kk i c : Int) (m : Nat) (now sure : List Sector) : Prop where
  ri : ∃ hs, RI w s hs kk
  f : s.cs.getD 0 0 = i
  q : s.cs.getD 4 0 = 0
  idle : ∀ c', 0 ≤ c' → c' ≤ 3 → c' ≠ c → isBusy s c' = false
  tl : (s.told.length : Int) = i
  busy : isBusy s c = true
  path : Path w c i 0 (i + 1) now sure m s
structure TB (w : Int) (s : GS) (kk i c : Int) : Prop where
  ri : ∃ hs, RI w s hs kk ∧ (hs.length : Int) = i + 1
  f : s.cs.getD 0 0 = i
  q : s.cs.getD 4 0 = 0
  idle : ∀ c', 0 ≤ c' → c' ≤ 3 → isBusy s c' = false
  tl : (s.told.length : Int) = i + 1
  last : s.told.getD i.toNat 0 = i + 1
theorem stepP_busy {s : GS} {c c' : Int} (hl : s.busy.length = 4) (c0 : 0 ≤ c) (c3 : c ≤ 3) (d0 : 0 ≤ c') (hne : c' ≠ c) (hb : isBusy s c = true) : isBusy (stepP s c) c' = isBusy s c' := by
  have hP : stepP s c = { stepS s c with told := s.told ++ newTold s c } := by unfold stepP; rw [if_pos hb]
  rw [hP]
  show (bif (stE s.cs (tkC s.ts c)).is then s.busy else s.busy.set c.toNat false).getD c'.toNat false = s.busy.getD c'.toNat false
  cases (stE s.cs (tkC s.ts c)).is with
  | true => rfl
  | false =>
    simp only [cond_false]
    rw [busy_set hl c0 c3 d0, if_neg (fun e => hne e.symm)]
theorem TA.step {w : Int} {s : GS} {kk i c : Int} {m : Nat} {now sure : List Sector} (h : TA w s kk i c m now sure) (hkk : kk < 900) (c0 : 0 ≤ c) (c3 : c ≤ 3) (i0 : 0 ≤ i) (i9 : i ≤ 29) :
    (∃ m', m = m' + 1 ∧ TA w (stepP s c) (kk + 1) i c m' now sure) ∨ TB w (stepP s c) (kk + 1) i c := by
  obtain ⟨hs, hr⟩ := h.ri
  obtain ⟨hs', hR, _⟩ := hr.step hkk c0 c3 h.busy
  obtain ⟨l0, l4⟩ := stepP_low hr hkk c0 c3 h.busy
  have hidle : ∀ c', 0 ≤ c' → c' ≤ 3 → c' ≠ c → isBusy (stepP s c) c' = false := fun c' d0 d3 hne => by
    rw [stepP_busy hr.lb c0 c3 d0 hne h.busy]; exact h.idle c' d0 d3 hne
  rcases turn_step hr.lb c0 c3 h.busy h.path i0 i9 hr.rw.w0 with ⟨b, t, m', e, p⟩ | ⟨b, t, p⟩
  · exact .inl ⟨m', e, ⟨hs', hR⟩, by rw [l0]; exact h.f, by rw [l4]; exact h.q, hidle, by rw [t]; exact h.tl, b, p⟩
  · refine .inr ⟨⟨hs', hR, ?_⟩, by rw [l0]; exact h.f, by rw [l4]; exact h.q, fun c' d0 d3 => ?_, ?_, ?_⟩
    · have := hR.rw.topG
      rw [p] at this
      exact this.symm
    · by_cases e : c' = c
      · rw [e]; exact b
      · exact hidle c' d0 d3 e
    · rw [t, List.length_append, List.length_singleton]
      have := h.tl
      omega
    · have htl := h.tl
      rw [t, show i.toNat = s.told.length by omega]
      exact getD_end
theorem TB.stop {w : Int} {s : GS} {kk i c : Int} (h : TB w s kk i c) (c0 : 0 ≤ c) (c3 : c ≤ 3) : ∀ n, turnS c n s = s
  | 0 => rfl
  | n + 1 => by rw [turnS, if_neg (by rw [h.idle c c0 c3]; simp)]
theorem TA.end {w i c : Int} {now sure : List Sector} (c0 : 0 ≤ c) (c3 : c ≤ 3) (i0 : 0 ≤ i) (i9 : i ≤ 29) : ∀ (m n : Nat) (s : GS) (kk : Int), m < n → kk + m < 900 → TA w s kk i c m now sure → ∃ kk', kk' ≤ kk + m + 1 ∧ TB w (turnS c n s) kk' i c := by
  intro m
  induction m with
  | zero =>
    intro n s kk hn hk h
    obtain ⟨n, rfl⟩ : ∃ j, n = j + 1 := ⟨n - 1, by omega⟩
    rw [turnS, if_pos h.busy]
    rcases h.step (by omega) c0 c3 i0 i9 with ⟨m', e, _⟩ | hB
    · omega
    · rw [hB.stop c0 c3]; exact ⟨_, by simp, hB⟩
  | succ m ih =>
    intro n s kk hn hk h
    obtain ⟨n, rfl⟩ : ∃ j, n = j + 1 := ⟨n - 1, by omega⟩
    rw [turnS, if_pos h.busy]
    rcases h.step (by omega) c0 c3 i0 i9 with ⟨m', e, hA⟩ | hB
    · have : m' = m := by omega
      subst this
      obtain ⟨kk', h1, h2⟩ := ih n _ (kk + 1) (by omega) (by omega) hA
      exact ⟨kk', by omega, h2⟩
    · rw [hB.stop c0 c3]; exact ⟨_, by omega, hB⟩
theorem TI.begin {w : Int} {s : GS} {hs : List Int} {kk i c : Int} {now sure : List Sector} (h : TI w s hs kk i) (hkk : kk < 900) (hd : diskOK now sure = true) (hg1 : goodL now = true) (hg2 : goodL sure = true) (c0 : 0 ≤ c) (c3 : c ≤ 3) :
    TA w (beginP w s c) (kk + 1) i c 10 now sure := by
  have hb := h.idle c c0 c3
  have hB := h.ri.begin hkk c0 c3 hb
  have hP : beginP w s c = beginG w { s with n := s.n + 1, has := s.has.set c.toNat (hnd c (s.n + 1)) } c (hnd c (s.n + 1)) := by
    unfold beginP; rw [if_neg (by rw [hb]; simp)]
  rw [hP]
  have hbusy : isBusy (beginG w { s with n := s.n + 1, has := s.has.set c.toNat (hnd c (s.n + 1)) } c (hnd c (s.n + 1))) c = true := by
    show (s.busy.set c.toNat true).getD c.toNat false = true
    rw [busy_set h.ri.lb c0 c3 c0, if_pos rfl]
  have htk : tkC (beginG w { s with n := s.n + 1, has := s.has.set c.toNat (hnd c (s.n + 1)) } c (hnd c (s.n + 1))).ts c = mkT c 0 (regs' w (hnd c (s.n + 1))) [] := by
    show tkC (s.ts.set c.toNat _) c = _
    rw [tkC_set h.ri.lt c0 c3 c0, if_pos rfl]; rfl
  obtain ⟨k, r, got, m, q1, q2, q3, q4, q5⟩ := hB.cl c c0 c3 hbusy
  rw [htk] at q1
  obtain ⟨rfl, rfl, rfl⟩ := mkT_inj q1
  have hn := hB.nk
  have hv := hnd_in (c := c) (m := m) c0 c3 q2 (by omega)
  rw [← q4] at hv
  have hl := h.ri.hk
  have hA0 : AS w c ((beginG w { s with n := s.n + 1, has := s.has.set c.toNat (hnd c (s.n + 1)) } c (hnd c (s.n + 1))).has.getD c.toNat 0) 10 (beginG w { s with n := s.n + 1, has := s.has.set c.toNat (hnd c (s.n + 1)) } c (hnd c (s.n + 1))) hs 0 (regs' w (hnd c (s.n + 1))) [] := ⟨c0, c3, hv.2, hB.lt, htk, hB.rw, q5, by omega, by decide⟩
  have hA := hA0.p0 hd hg1 hg2 (by decide)
  have hf := h.f
  have hq := h.q
  have hh := h.hl
  refine ⟨⟨hs, hB⟩, hf, hq, fun c' d0 d3 hne => ?_, h.tl, hbusy, ?_⟩
  · show (s.busy.set c.toNat true).getD c'.toNat false = false
    rw [busy_set h.ri.lb c0 c3 d0, if_neg (fun e => hne e.symm)]
    exact h.idle c' d0 d3
  · have e1 : (beginG w { s with n := s.n + 1, has := s.has.set c.toNat (hnd c (s.n + 1)) } c (hnd c (s.n + 1))).cs.getD 0 0 = i := hf
    have e2 : (beginG w { s with n := s.n + 1, has := s.has.set c.toNat (hnd c (s.n + 1)) } c (hnd c (s.n + 1))).cs.getD 4 0 = 0 := hq
    rw [e1, e2, hh] at hA
    exact hA
theorem TB.done {w : Int} {s : GS} {kk i c : Int} (h : TB w s kk i c) (i0 : 0 ≤ i) : ∃ hs, TI w (doneP w s) hs (kk + 1) (i + 1) := by
  obtain ⟨hs, hR, hl⟩ := h.ri
  have hf := h.f
  have hlc := hR.rw.lc
  have hplc : plc (s.cs.getD (lRing (frontG s + 1) w).toNat 0) = frontG s + 1 := by
    have := (hR.rw.at_next (top := i) (by omega) (by omega)).2 (by omega)
    have e : frontG s = i := hf
    rw [e]
    exact this.2
  have hP : doneP w s = { s with cs := s.cs.set 0 (frontG s + 1) } := by unfold doneP; rw [if_pos hplc]
  have g0 : (s.cs.set 0 (frontG s + 1)).getD 0 0 = frontG s + 1 := getD_set_eq (by omega)
  have g1 : (s.cs.set 0 (frontG s + 1)).getD 1 0 = s.cs.getD 1 0 := getD_set_ne' (by decide)
  have g4 : (s.cs.set 0 (frontG s + 1)).getD 4 0 = s.cs.getD 4 0 := getD_set_ne' (by decide)
  have e : frontG s = i := hf
  rw [hP]
  exact ⟨hs, (hR.cells (hR.rw.done hplc) (by rw [show s.cs.getD 0 0 = frontG s from rfl, g0]; omega) (show s.cs.getD 1 0 ≤ (s.cs.set 0 (frontG s + 1)).getD 1 0 by rw [g1]; exact Int.le_refl _) (show s.cs.getD 4 0 ≤ (s.cs.set 0 (frontG s + 1)).getD 4 0 by rw [g4]; exact Int.le_refl _)).more (by omega), hl, by rw [g0, e], by rw [g4]; exact h.q, h.idle, h.tl⟩
def oneT (w : Int) (i : Nat) (s : GS) : GS := doneP w (turnS (i % 4 : Nat) 12 (beginP w s (i % 4 : Nat)))
def allT (w : Int) : Nat → Nat → GS → GS
  | 0, _, s => s
  | m + 1, i, s => allT w m (i + 1) (oneT w i s)
open Go.Proofs
structure turnL_St where
  c : Int
  k : Nat
  i : Int
  w : Int
  now : List Sector
  sure : List Sector
  cs : List Int
  ts : List Task
  busy : List Bool
  m : Int
  has : List Int
  told : List Int
def turnL_c (c : Int) (k : Nat) (i : Int) (w : Int) (now : List Sector) (sure : List Sector) (cs : List Int) (ts : List Task) (busy : List Bool) (m : Int) (has : List Int) (told : List Int) : Env RC := [(5, .ptr 0 []), (6, .int .i64 i), (7, .int .i64 c), (8, .int .i64 (k : Int))]
def turnL_o (c : Int) (k : Nat) (i : Int) (w : Int) (now : List Sector) (sure : List Sector) (cs : List Int) (ts : List Task) (busy : List Bool) (m : Int) (has : List Int) (told : List Int) : List (Obj RC) := [.var 31 (.acons (.ptr 1 []) (.acons (.int .i64 w) (.acons (.int .i64 m) (.acons (.arr (C := RC) .int 4 has) (.acons (.vs 2 (told.length)) .anil))))), .var 47 (.acons (.acons (.sl (C := RC) .int false cs) (.acons (.acons (.sl (C := RC) .sector false now) (.acons (.sl (C := RC) .sector false sure) .anil)) .anil)) (.acons (.arr (C := RC) .task 4 ts) (.acons (.arr (C := RC) .task 4 ((ts))) (.acons (.arr (C := RC) .bool 4 busy) .anil)))), .vec .int true told]
noncomputable def turnL_r (c : Int) (k : Nat) (i : Int) (w : Int) (now : List Sector) (sure : List Sector) (cs : List Int) (ts : List Task) (busy : List Bool) (m : Int) (has : List Int) (told : List Int) := rndO s17 um_1 6 10 60 3 [5, 6, 7, 8] [] [.slot 5 0, .path 0 [0], .path 0 [4]] (turnL_c c k i w now sure cs ts busy m has told) (turnL_o c k i w now sure cs ts busy m has told)
theorem turnL_eq (c : Int) (k : Nat) (i : Int) (w : Int) (now : List Sector) (sure : List Sector) (cs : List Int) (ts : List Task) (busy : List Bool) (m : Int) (has : List Int) (told : List Int) : turnL_r c k i w now sure cs ts busy m has told = (let Z0 : Nat := List.length told; let Z1 : GS := GS.mk cs ts busy m has told; let Z2 : GS := pickG w Z1 c (1 : Int); let Z3 : D RC := .anil; let Z4 : D RC := D.acons (D.acons (D.sl RTy.sector false now) (.acons (D.sl RTy.sector false sure) Z3)) Z3; let Z5 : D RC := D.arr RTy.task (4 : Nat) (GS.ts Z2); let Z6 : List (Option (Obj RC)) := [some (Obj.var 31 (.acons (D.ptr 1 []) (.acons (D.int .i64 w) (.acons (D.int .i64 (GS.n Z2)) (.acons (D.arr RTy.int (4 : Nat) (GS.has Z2)) (.acons (D.vs 2 (GS.told Z2).length) Z3)))))), some (Obj.var 47 (.acons (D.acons (D.sl RTy.int false (GS.cs Z2)) Z4) (.acons Z5 (D.acons Z5 (D.acons (D.arr RTy.bool (4 : Nat) (GS.busy Z2)) Z3))))), some (Obj.vec RTy.int true (GS.told Z2))]; let Z7 : D RC := D.arr RTy.task (4 : Nat) ts; bif decide ((0 : Int) ≤ c ∧ c < (4 : Int)) then bif List.getD busy c.toNat false then bif decide (Z0 = Z0) && decide (ts = ts) && cdec (OkPick w Z1 now sure (c % (4 : Int))) then bif decide ((14 : Int) < (↑k : Int)) then some ((X.ret, []), Z6) else some ((X.normal, [(5, D.ptr 0 []), (6, D.int .i64 i), (7, D.int .i64 c), (8, D.int .i64 (IntKind.wrap .i64 ((↑k : Int) + (1 : Int))))]), Z6) else none else some ((X.exit (2 : Nat), []), [some (Obj.var 31 (.acons (D.ptr 1 []) (.acons (D.int .i64 w) (.acons (D.int .i64 m) (.acons (D.arr RTy.int (4 : Nat) has) (.acons (D.vs 2 Z0) Z3)))))), some (Obj.var 47 (.acons (D.acons (D.sl RTy.int false cs) Z4) (.acons Z7 (D.acons Z7 (D.acons (D.arr RTy.bool (4 : Nat) busy) Z3))))), some (Obj.vec RTy.int true told)]) else none) := by kernel_rfl
noncomputable def turnL_fin (c : Int) (k : Nat) (i : Int) (w : Int) (now : List Sector) (sure : List Sector) (cs : List Int) (ts : List Task) (busy : List Bool) (m : Int) (has : List Int) (told : List Int) : RT RC := .leaf (.exit 2) [] (turnL_o c k i w now sure (turnS c (12 - k) ⟨cs, ts, busy, m, has, told⟩).cs (turnS c (12 - k) ⟨cs, ts, busy, m, has, told⟩).ts (turnS c (12 - k) ⟨cs, ts, busy, m, has, told⟩).busy (turnS c (12 - k) ⟨cs, ts, busy, m, has, told⟩).n (turnS c (12 - k) ⟨cs, ts, busy, m, has, told⟩).has (turnS c (12 - k) ⟨cs, ts, busy, m, has, told⟩).told)
def turnL_Inv (c : Int) (k : Nat) (i : Int) (w : Int) (now : List Sector) (sure : List Sector) (cs : List Int) (ts : List Task) (busy : List Bool) (m : Int) (has : List Int) (told : List Int) : Prop := (0 ≤ c ∧ c ≤ 3 ∧ 1 ≤ i ∧ i ≤ 30 ∧ (diskOK now sure = true ∧ goodL now = true ∧ goodL sure = true)) ∧ ((∃ (kk : Int) (j : Nat), kk + j < 890 ∧ k + j ≤ 10 ∧ TA w ⟨cs, ts, busy, m, has, told⟩ kk (i - 1) c j now sure) ∨ k ≤ 11 ∧ ∃ kk, TB w ⟨cs, ts, busy, m, has, told⟩ kk (i - 1) c)
noncomputable def turnL_S : LoopR RC turnL_St where
  k := 3
  canon q := turnL_c q.c q.k q.i q.w q.now q.sure q.cs q.ts q.busy q.m q.has q.told
  objs q := turnL_o q.c q.k q.i q.w q.now q.sure q.cs q.ts q.busy q.m q.has q.told
  fin q := turnL_fin q.c q.k q.i q.w q.now q.sure q.cs q.ts q.busy q.m q.has q.told
  Inv q := turnL_Inv q.c q.k q.i q.w q.now q.sure q.cs q.ts q.busy q.m q.has q.told
  μ q := 20 - q.k
theorem turnL_round (c : Int) (k : Nat) (i : Int) (w : Int) (now : List Sector) (sure : List Sector) (cs : List Int) (ts : List Task) (busy : List Bool) (m : Int) (has : List Int) (told : List Int) (hI : turnL_Inv c k i w now sure cs ts busy m has told) : Leaf (turnL_r c k i w now sure cs ts busy m has told) (LedR turnL_S ⟨c, k, i, w, now, sure, cs, ts, busy, m, has, told⟩) := by
  (rw [turnL_eq]; conv => zeta)
  unfold turnL_Inv at hI
  obtain ⟨⟨c0, c3, i1, i30, hd, hg1, hg2⟩, hI⟩ := hI
  have hc : decide ((0 : Int) ≤ c ∧ c < 4) = true := decide_eq_true ⟨c0, by omega⟩
  have hcm : c % 4 = c := Int.emod_eq_of_lt c0 (by omega)
  rw [hc, hcm]
  simp only [cond_true]
  have hfin : ∀ s : GS, turnS c (12 - k) ⟨cs, ts, busy, m, has, told⟩ = s → turnL_fin c k i w now sure cs ts busy m has told = .leaf (.exit 2) [] (turnL_o c k i w now sure s.cs s.ts s.busy s.n s.has s.told) := fun s hs => by unfold turnL_fin; rw [hs]
  rcases hI with ⟨kk, j, hkk, hkj, hA⟩ | ⟨hk, kk, hB⟩
  · have hb : busy.getD c.toNat false = true := hA.busy
    obtain ⟨hs, hr⟩ := hA.ri
    have hok := hr.ok (by omega) hd hg1 hg2 c
    rw [hcm] at hok
    have k1 : cdec (OkPick w ⟨cs, ts, busy, m, has, told⟩ now sure c) = true := cdec_true hok
    have c1 : decide ((14 : Int) < (k : Int)) = false := decide_eq_false (by omega)
    have v1 : IntKind.i64.wrap ((k : Int) + 1) = ((k + 1 : Nat) : Int) := by rw [wrap_id (by omega) (by omega)]; simp
    have hP : pickG w ⟨cs, ts, busy, m, has, told⟩ c 1 = stepP ⟨cs, ts, busy, m, has, told⟩ c := by
      show stepP _ (c % 4) = _; rw [hcm]
    have hT : turnS c (12 - k) ⟨cs, ts, busy, m, has, told⟩ = turnS c (12 - (k + 1)) (stepP ⟨cs, ts, busy, m, has, told⟩ c) := by
      rw [show 12 - k = (12 - (k + 1)) + 1 by omega, turnS, if_pos hA.busy]
    have hfin := hfin _ hT
    have hst := hA.step (by omega) c0 c3 (by omega) (by omega)
    rw [hb, k1, c1, v1, hP]
    simp only [decide_true, Bool.and_self, cond_true, cond_false]
    generalize stepP ⟨cs, ts, busy, m, has, told⟩ c = s' at *
    refine leafR_go ⟨c, k + 1, i, w, now, sure, s'.cs, s'.ts, s'.busy, s'.n, s'.has, s'.told⟩ ⟨⟨c0, c3, i1, i30, hd, hg1, hg2⟩, ?_⟩ (by simp only [turnL_S]; omega) (by show (turnL_fin c (k + 1) i w now sure s'.cs s'.ts s'.busy s'.n s'.has s'.told).val = (turnL_fin c k i w now sure cs ts busy m has told).val; rw [hfin]; rfl) rfl rfl
    rcases hst with ⟨j', e, hA'⟩ | hB'
    · exact .inl ⟨kk + 1, j', by omega, by show k + 1 + j' ≤ 10; omega, hA'⟩
    · exact .inr ⟨by show k + 1 ≤ 11; omega, kk + 1, hB'⟩
  · have hb : busy.getD c.toNat false = false := hB.idle c c0 c3
    have hfin := hfin _ (hB.stop c0 c3 (12 - k))
    rw [hb]
    simp only [cond_false]
    exact leafR_exit (turnL_o c k i w now sure cs ts busy m has told) (by show (turnL_fin c k i w now sure cs ts busy m has told).val = _; rw [hfin]; rfl) rfl
noncomputable def turnL_d (env : Env RC) (os : List (Obj RC)) : Option (Bool × turnL_St) := match env, os with
  | [(5, .ptr 0 []), (6, .int .i64 i), (7, .int .i64 c), (8, .int .i64 x0)], [.var 31 (.acons (.ptr 1 []) (.acons (.int .i64 w) (.acons (.int .i64 m) (.acons (.arr .int 4 has) (.acons (.vs 2 x1) .anil))))), .var 47 (.acons (.acons (.sl .int false cs) (.acons (.acons (.sl .sector false now) (.acons (.sl .sector false sure) .anil)) .anil)) (.acons (.arr .task 4 ts) (.acons (.arr .task 4 x2) (.acons (.arr .bool 4 busy) .anil)))), .vec .int true told] => staticD (true) (decide (x0 = 0) && decide (x1 = told.length) && decide (x2 = (ts)) && cdec ((0 ≤ c ∧ c ≤ 3 ∧ 1 ≤ i ∧ i ≤ 30 ∧ (diskOK now sure = true ∧ goodL now = true ∧ goodL sure = true)) ∧ ∃ kk : Int, kk < 880 ∧ TA w ⟨cs, ts, busy, m, has, told⟩ kk (i - 1) c 10 now sure), ⟨c, 0, i, w, now, sure, cs, ts, busy, m, has, told⟩)
  | _, _ => none
noncomputable def un_1 := um_1.addLoop 6 10 (sumR s17 [.slot 5 0, .path 0 [0], .path 0 [4]] [5, 6, 7, 8] turnL_S turnL_d)
theorem un_1_laws : FLaws Tryz.prog s17 un_1 := by
  refine um_1_laws.addRoundsR s17_laws (by kernel_rfl) turnL_S 60 [5, 6, 7, 8] [] [.slot 5 0, .path 0 [0], .path 0 [4]] [5, 6, 7, 8] turnL_d (fun q hI => ?_) ?_
  · obtain ⟨c, k, i, w, now, sure, cs, ts, busy, m, has, told⟩ := q
    refine ⟨?_, ?_, turnL_round c k i w now sure cs ts busy m has told hI⟩
    · simp_all [RefsOK, turnL_S, turnL_c, turnL_o, turnL_Inv, D.refs, Obj.refs, rEnc]
    · simp_all [turnL_S, turnL_fin, turnL_o, turnL_Inv, RT.refsOK, RefsOK, D.refs, Obj.refs, rEnc]
  · intro env os b q hd_ hb
    unfold turnL_d at hd_
    split at hd_
    · obtain ⟨hs, hd_⟩ := staticD_some hd_
      cases hd_
      simp only [Bool.and_eq_true, decide_eq_true_eq] at hb
      obtain ⟨⟨⟨e0, e1⟩, e2⟩, e7⟩ := hb
      obtain ⟨e4, kk, e5, e6⟩ := cdec_iff.1 e7
      subst e0
      subst e1
      subst e2
      exact ⟨⟨e4, .inl ⟨kk, 10, by omega, show (0 : Nat) + 10 ≤ 10 by decide, e6⟩⟩, rfl, rfl⟩
    · cases hd_
structure outL_St where
  n : Nat
  i : Nat
  w : Int
  now : List Sector
  sure : List Sector
  cs : List Int
  ts : List Task
  busy : List Bool
  m : Int
  has : List Int
  told : List Int
def outL_c (n : Nat) (i : Nat) (w : Int) (now : List Sector) (sure : List Sector) (cs : List Int) (ts : List Task) (busy : List Bool) (m : Int) (has : List Int) (told : List Int) : Env RC := [(0, .int .i64 (n : Int)), (5, .ptr 0 []), (6, .int .i64 (i : Int))]
def outL_o (n : Nat) (i : Nat) (w : Int) (now : List Sector) (sure : List Sector) (cs : List Int) (ts : List Task) (busy : List Bool) (m : Int) (has : List Int) (told : List Int) : List (Obj RC) := [.var 31 (.acons (.ptr 1 []) (.acons (.int .i64 w) (.acons (.int .i64 m) (.acons (.arr (C := RC) .int 4 has) (.acons (.vs 2 (told.length)) .anil))))), .var 47 (.acons (.acons (.sl (C := RC) .int false cs) (.acons (.acons (.sl (C := RC) .sector false now) (.acons (.sl (C := RC) .sector false sure) .anil)) .anil)) (.acons (.arr (C := RC) .task 4 ts) (.acons (.arr (C := RC) .task 4 ((ts))) (.acons (.arr (C := RC) .bool 4 busy) .anil)))), .vec .int true told]
noncomputable def outL_r (n : Nat) (i : Nat) (w : Int) (now : List Sector) (sure : List Sector) (cs : List Int) (ts : List Task) (busy : List Bool) (m : Int) (has : List Int) (told : List Int) := rndO s17 un_1 6 4 60 3 [0, 5, 6] [] [.slot 5 0, .path 0 [0], .path 0 [4]] (outL_c n i w now sure cs ts busy m has told) (outL_o n i w now sure cs ts busy m has told)
theorem outL_eq (n : Nat) (i : Nat) (w : Int) (now : List Sector) (sure : List Sector) (cs : List Int) (ts : List Task) (busy : List Bool) (m : Int) (has : List Int) (told : List Int) : outL_r n i w now sure cs ts busy m has told = (let Z0 : Int := (↑i : Int); let Z1 : Nat := List.length told; let Z2 : GS := GS.mk cs ts busy m has told; let Z3 : Int := Int.tmod Z0 (4 : Int); let Z4 : GS := pickG w Z2 Z3 (0 : Int); let Z5 : Nat := List.length (GS.told Z4); let Z6 : GS := GS.mk (GS.cs Z4) (GS.ts Z4) (GS.busy Z4) (GS.n Z4) (GS.has Z4) (GS.told Z4); let Z7 : GS := turnS Z3 (12 : Nat) Z6; let Z8 : List Int := GS.told Z7; let Z9 : Nat := List.length Z8; let Z10 : D RC := D.ptr 1 []; let Z11 : D RC := D.int .i64 w; let Z12 : D RC := .anil; let Z13 : D RC := D.acons (D.acons (D.sl RTy.sector false now) (.acons (D.sl RTy.sector false sure) Z12)) Z12; let Z14 : D RC := D.arr RTy.task (4 : Nat) (GS.ts Z7); let Z15 : RO_ := some ((X.ret, []), [some (Obj.var 31 (.acons Z10 (D.acons Z11 (D.acons (D.int .i64 (GS.n Z7)) (.acons (D.arr RTy.int (4 : Nat) (GS.has Z7)) (.acons (D.vs 2 Z9) Z12)))))), some (Obj.var 47 (.acons (D.acons (D.sl RTy.int false (GS.cs Z7)) Z13) (.acons Z14 (D.acons Z14 (D.acons (D.arr RTy.bool (4 : Nat) (GS.busy Z7)) Z12))))), some (Obj.vec RTy.int true Z8)]); let Z16 : Int := IntKind.wrap .i64 (Z0 - (1 : Int)); let Z17 : GS := GS.mk (GS.cs Z7) (GS.ts Z7) (GS.busy Z7) (GS.n Z7) (GS.has Z7) Z8; let Z18 : GS := pickG w Z17 (0 : Int) (2 : Int); let Z19 : D RC := D.arr RTy.task (4 : Nat) (GS.ts Z18); let Z20 : List (Option (Obj RC)) := [some (Obj.var 31 (.acons Z10 (D.acons Z11 (D.acons (D.int .i64 (GS.n Z18)) (.acons (D.arr RTy.int (4 : Nat) (GS.has Z18)) (.acons (D.vs 2 (GS.told Z18).length) Z12)))))), some (Obj.var 47 (.acons (D.acons (D.sl RTy.int false (GS.cs Z18)) Z13) (.acons Z19 (D.acons Z19 (D.acons (D.arr RTy.bool (4 : Nat) (GS.busy Z18)) Z12))))), some (Obj.vec RTy.int true (GS.told Z18))]; let Z21 : D RC := D.arr RTy.task (4 : Nat) ts; bif decide (Z0 ≤ (↑n : Int)) then bif decide (Z1 = Z1) && decide (ts = ts) && cdec (OkPick w Z2 now sure (Z3 % (4 : Int))) then bif decide (Z5 = Z5) && decide (GS.ts Z4 = GS.ts Z4) && cdec (((0 : Int) ≤ Z3 ∧ Z3 ≤ (3 : Int) ∧ (1 : Int) ≤ Z0 ∧ Z0 ≤ (30 : Int) ∧ diskOK now sure = true ∧ goodL now = true ∧ goodL sure = true) ∧ ∃ (kk : Int), kk < (880 : Int) ∧ TA w Z6 kk (Z0 - (1 : Int)) Z3 (10 : Nat) now sure) then bif lenOK Z9 then bif (↑Z9 : Int) != Z0 then Z15 else bif Nat.beq Z9 Z9 && decide ((0 : Int) ≤ Z16 ∧ Z16 < (↑Z9 : Int)) then bif Nat.beq Z9 Z9 then bif List.getD Z8 Z16.toNat (0 : Int) != Z0 then Z15 else bif decide (Z9 = Z9) && decide (GS.ts Z7 = GS.ts Z7) && cdec (OkPick w Z17 now sure (0 : Int)) then bif decide ((0 : Int) ≤ (0 : Int) ∧ (0 : Int) < (↑(GS.cs Z18).length : Int)) then bif List.getD (GS.cs Z18) (0 : Nat) (0 : Int) != Z0 then some ((X.ret, []), Z20) else some ((X.normal, [(0, D.int .i64 (↑n : Int)), (5, D.ptr 0 []), (6, D.int .i64 (IntKind.wrap .i64 (Z0 + (1 : Int))))]), Z20) else none else none else none else none else none else none else none else some ((X.exit (0 : Nat), []), [some (Obj.var 31 (.acons Z10 (D.acons Z11 (D.acons (D.int .i64 m) (.acons (D.arr RTy.int (4 : Nat) has) (.acons (D.vs 2 Z1) Z12)))))), some (Obj.var 47 (.acons (D.acons (D.sl RTy.int false cs) Z13) (.acons Z21 (D.acons Z21 (D.acons (D.arr RTy.bool (4 : Nat) busy) Z12))))), some (Obj.vec RTy.int true told)])) := by kernel_rfl
noncomputable def outL_fin (n : Nat) (i : Nat) (w : Int) (now : List Sector) (sure : List Sector) (cs : List Int) (ts : List Task) (busy : List Bool) (m : Int) (has : List Int) (told : List Int) : RT RC := .leaf (.exit 0) [] (outL_o n i w now sure (allT w (n + 1 - i) i ⟨cs, ts, busy, m, has, told⟩).cs (allT w (n + 1 - i) i ⟨cs, ts, busy, m, has, told⟩).ts (allT w (n + 1 - i) i ⟨cs, ts, busy, m, has, told⟩).busy (allT w (n + 1 - i) i ⟨cs, ts, busy, m, has, told⟩).n (allT w (n + 1 - i) i ⟨cs, ts, busy, m, has, told⟩).has (allT w (n + 1 - i) i ⟨cs, ts, busy, m, has, told⟩).told)
def outL_Inv (n : Nat) (i : Nat) (w : Int) (now : List Sector) (sure : List Sector) (cs : List Int) (ts : List Task) (busy : List Bool) (m : Int) (has : List Int) (told : List Int) : Prop := 1 ≤ i ∧ i ≤ n + 1 ∧ n ≤ 29 ∧ (diskOK now sure = true ∧ goodL now = true ∧ goodL sure = true) ∧ ∃ hs kk, kk ≤ 14 * (i - 1 : Int) ∧ TI w ⟨cs, ts, busy, m, has, told⟩ hs kk (i - 1 : Int)
noncomputable def outL_S : LoopR RC outL_St where
  k := 3
  canon q := outL_c q.n q.i q.w q.now q.sure q.cs q.ts q.busy q.m q.has q.told
  objs q := outL_o q.n q.i q.w q.now q.sure q.cs q.ts q.busy q.m q.has q.told
  fin q := outL_fin q.n q.i q.w q.now q.sure q.cs q.ts q.busy q.m q.has q.told
  Inv q := outL_Inv q.n q.i q.w q.now q.sure q.cs q.ts q.busy q.m q.has q.told
  μ q := q.n + 1 - q.i
theorem outL_round (n : Nat) (i : Nat) (w : Int) (now : List Sector) (sure : List Sector) (cs : List Int) (ts : List Task) (busy : List Bool) (m : Int) (has : List Int) (told : List Int) (hI : outL_Inv n i w now sure cs ts busy m has told) : Leaf (outL_r n i w now sure cs ts busy m has told) (LedR outL_S ⟨n, i, w, now, sure, cs, ts, busy, m, has, told⟩) := by
  (rw [outL_eq]; conv => zeta)
  unfold outL_Inv at hI
  obtain ⟨i1, i2, n29, ⟨hd, hg1, hg2⟩, hs, kk, hkk, hI⟩ := hI
  have eta : ∀ s : GS, GS.mk s.cs s.ts s.busy s.n s.has s.told = s := fun _ => rfl
  by_cases hlt : i ≤ n
  · have e0 : decide ((i : Int) ≤ (n : Int)) = true := decide_eq_true (by omega)
    have hc : Int.tmod (i : Int) 4 = ((i % 4 : Nat) : Int) := by rw [Int.tmod_eq_emod_of_nonneg (by omega)]; omega
    have c0 : (0 : Int) ≤ ((i % 4 : Nat) : Int) := by omega
    have c3 : ((i % 4 : Nat) : Int) ≤ 3 := by omega
    have hcm : ((i % 4 : Nat) : Int) % 4 = ((i % 4 : Nat) : Int) := Int.emod_eq_of_lt c0 (by omega)
    have v1 : IntKind.i64.wrap ((i : Int) + 1) = ((i + 1 : Nat) : Int) := by rw [wrap_id (by omega) (by omega)]; simp
    have v2 : IntKind.i64.wrap ((i : Int) - 1) = (i : Int) - 1 := wrap_id (by omega) (by omega)
    have hall : allT w (n + 1 - i) i ⟨cs, ts, busy, m, has, told⟩ = allT w (n + 1 - (i + 1)) (i + 1) (doneP w (turnS (i % 4 : Nat) 12 (beginP w ⟨cs, ts, busy, m, has, told⟩ (i % 4 : Nat)))) := by
      rw [show n + 1 - i = (n + 1 - (i + 1)) + 1 by omega, allT]; rfl
    have hfin : ∀ s : GS, allT w (n + 1 - i) i ⟨cs, ts, busy, m, has, told⟩ = s → outL_fin n i w now sure cs ts busy m has told = .leaf (.exit 0) [] (outL_o n i w now sure s.cs s.ts s.busy s.n s.has s.told) := fun s hs => by unfold outL_fin; rw [hs]
    have hfin := hfin _ hall
    clear hall
    have hP0 : pickG w ⟨cs, ts, busy, m, has, told⟩ ((i % 4 : Nat) : Int) 0 = beginP w ⟨cs, ts, busy, m, has, told⟩ ((i % 4 : Nat) : Int) := by
      show beginP w _ (((i % 4 : Nat) : Int) % 4) = _; rw [hcm]
    have ok0 := hI.ri.ok (by omega) hd hg1 hg2 ((i % 4 : Nat) : Int)
    have hA := hI.begin (by omega) hd hg1 hg2 c0 c3
    simp only [hc, v1, v2, hP0, e0, eta, cond_true]
    generalize beginP w ⟨cs, ts, busy, m, has, told⟩ ((i % 4 : Nat) : Int) = B at *
    obtain ⟨kk', hkk', hB⟩ := TA.end c0 c3 (by omega) (by omega) 10 12 B (kk + 1) (by decide) (by omega) hA
    obtain ⟨hs2, hR2, _⟩ := hB.ri
    have ok2 := hR2.ok (by omega) hd hg1 hg2 0
    obtain ⟨hs3, hT3⟩ := hB.done (by omega)
    have hP2 : ∀ s : GS, pickG w s 0 2 = doneP w s := fun s => rfl
    have htl := hB.tl
    have hlast := hB.last
    simp only [show (12 - 0 : Nat) = 12 from rfl, hP2]
    generalize turnS ((i % 4 : Nat) : Int) 12 B = T at *
    have hf3 := hT3.f
    have hl3 := hT3.ri.rw.lc
    generalize doneP w T = E at *
    have e5 : List.length T.told = i := by omega
    have k1 : cdec (OkPick w ⟨cs, ts, busy, m, has, told⟩ now sure (((i % 4 : Nat) : Int) % 4)) = true := cdec_true ok0
    have k2 : cdec ((0 ≤ ((i % 4 : Nat) : Int) ∧ ((i % 4 : Nat) : Int) ≤ 3 ∧ 1 ≤ (i : Int) ∧ (i : Int) ≤ 30 ∧ diskOK now sure = true ∧ goodL now = true ∧ goodL sure = true) ∧ ∃ kk : Int, kk < 880 ∧ TA w B kk ((i : Int) - 1) ((i % 4 : Nat) : Int) 10 now sure) = true :=
      cdec_true ⟨⟨c0, c3, by omega, by omega, hd, hg1, hg2⟩, kk + 1, by omega, hA⟩
    have k3 : cdec (OkPick w T now sure 0) = true := cdec_true (show OkPick w T now sure 0 from ok2)
    have d1 : lenOK (List.length T.told) = true := lenOK_of (by omega)
    have d2 : ((List.length T.told : Int) != (i : Int)) = false := ibneF (by omega)
    have d3 : decide ((0 : Int) ≤ (i : Int) - 1 ∧ (i : Int) - 1 < (List.length T.told : Int)) = true := decide_eq_true ⟨by omega, by omega⟩
    have d4 : (List.getD T.told (Int.toNat ((i : Int) - 1)) 0 != (i : Int)) = false := ibneF (by rw [hlast]; omega)
    have d5 : decide ((0 : Int) ≤ 0 ∧ (0 : Int) < (List.length E.cs : Int)) = true := decide_eq_true ⟨by omega, by omega⟩
    have d6 : (List.getD E.cs 0 0 != (i : Int)) = false := ibneF (by rw [hf3]; omega)
    simp only [k1, k2, k3, d1, d2, d3, d4, d5, d6, nbeqT rfl, decide_true, Bool.and_self, Bool.not_true, Bool.not_false, cond_true, cond_false]
    exact leafR_go (S := outL_S) (s := ⟨n, i, w, now, sure, cs, ts, busy, m, has, told⟩) ⟨n, i + 1, w, now, sure, E.cs, E.ts, E.busy, E.n, E.has, E.told⟩ ⟨by show 1 ≤ i + 1; omega, by show i + 1 ≤ n + 1; omega, n29, ⟨hd, hg1, hg2⟩, hs3, kk' + 1, by show kk' + 1 ≤ 14 * (((i + 1 : Nat) : Int) - 1); omega, by
      have e : ((i + 1 : Nat) : Int) - 1 = (i : Int) - 1 + 1 := by omega
      show TI w E hs3 (kk' + 1) (((i + 1 : Nat) : Int) - 1)
      rw [e]; exact hT3⟩ (by simp only [outL_S]; omega) (by show (outL_fin n (i + 1) w now sure E.cs E.ts E.busy E.n E.has E.told).val = (outL_fin n i w now sure cs ts busy m has told).val; rw [hfin]; rfl) rfl rfl
  · have hi : i = n + 1 := by omega
    have e0 : decide ((i : Int) ≤ (n : Int)) = false := decide_eq_false (by omega)
    rw [e0]
    simp only [cond_false]
    exact leafR_exit (outL_o n i w now sure cs ts busy m has told) (by show (outL_fin n i w now sure cs ts busy m has told).val = _; unfold outL_fin; rw [hi, show n + 1 - (n + 1) = 0 by omega]; rfl) rfl
noncomputable def outL_d (env : Env RC) (os : List (Obj RC)) : Option (Bool × outL_St) := match env, os with
  | [(0, .int .i64 x0), (5, .ptr 0 []), (6, .int .i64 x1)], [.var 31 (.acons (.ptr 1 []) (.acons (.int .i64 w) (.acons (.int .i64 m) (.acons (.arr .int 4 has) (.acons (.vs 2 x2) .anil))))), .var 47 (.acons (.acons (.sl .int false cs) (.acons (.acons (.sl .sector false now) (.acons (.sl .sector false sure) .anil)) .anil)) (.acons (.arr .task 4 ts) (.acons (.arr .task 4 x3) (.acons (.arr .bool 4 busy) .anil)))), .vec .int true told] => staticD (true) (decide (x0 = (x0).toNat) && decide (x1 = 1) && decide (x2 = told.length) && decide (x3 = (ts)) && cdec ((x0).toNat ≤ 29 ∧ (diskOK now sure = true ∧ goodL now = true ∧ goodL sure = true) ∧ ∃ hs, TI w ⟨cs, ts, busy, m, has, told⟩ hs 0 0), ⟨(x0).toNat, 1, w, now, sure, cs, ts, busy, m, has, told⟩)
  | _, _ => none
noncomputable def un_2 := un_1.addLoop 6 4 (sumR s17 [.slot 5 0, .path 0 [0], .path 0 [4]] [0, 5, 6] outL_S outL_d)
theorem un_2_laws : FLaws Tryz.prog s17 un_2 := by
  refine un_1_laws.addRoundsR s17_laws (by kernel_rfl) outL_S 60 [0, 5, 6] [] [.slot 5 0, .path 0 [0], .path 0 [4]] [0, 5, 6] outL_d (fun q hI => ?_) ?_
  · obtain ⟨n, i, w, now, sure, cs, ts, busy, m, has, told⟩ := q
    refine ⟨?_, ?_, outL_round n i w now sure cs ts busy m has told hI⟩
    · simp_all [RefsOK, outL_S, outL_c, outL_o, outL_Inv, D.refs, Obj.refs, rEnc]
    · simp_all [outL_S, outL_fin, outL_o, outL_Inv, RT.refsOK, RefsOK, D.refs, Obj.refs, rEnc]
  · intro env os b q hd_ hb
    unfold outL_d at hd_
    split at hd_
    · obtain ⟨hs, hd_⟩ := staticD_some hd_
      cases hd_
      simp only [Bool.and_eq_true, decide_eq_true_eq] at hb
      obtain ⟨⟨⟨⟨e0, e1⟩, e2⟩, e3⟩, e7⟩ := hb
      obtain ⟨e4, e5, hs, e6⟩ := cdec_iff.1 e7
      subst e1
      subst e2
      subst e3
      exact ⟨⟨show (1 : Nat) ≤ 1 from Nat.le_refl _, show (1 : Nat) ≤ _ + 1 from Nat.le_add_left _ _, e4, e5, hs, 0, show (0 : Int) ≤ 14 * (((1 : Nat) : Int) - 1) by decide, e6⟩, by simp [outL_S, outL_c, ← e0], rfl⟩
    · cases hd_
open Go.Proofs
noncomputable def turns17_e (n : Int) (x : Int) := evF s17 un_2 100 6 [.int .i64 n, .int .i64 x]
theorem turns17_eq (n : Int) (x : Int) : turns17_e n x = (let Z0 : Int := Int.tmod (IntKind.wrap .i64 (Int.tmod n (30 : Int) + (30 : Int))) (30 : Int); bif decide (Z0 = (↑Z0.toNat : Int)) && true && true && true && cdec (Int.toNat Z0 ≤ (29 : Nat) ∧ (true = true ∧ true = true ∧ true = true) ∧ ∃ (hs : List Int), TI ((2 : Int) + x % (7 : Int)) (GS.mk newCells (List.replicate (4 : Nat) (rDflt RTy.task)) (List.replicate (4 : Nat) false) (0 : Int) (List.replicate (4 : Nat) (0 : Int)) []) hs (0 : Int) (0 : Int)) then some (D.bool true) else none) := by kernel_rfl
theorem turns17_ok (n : Int) (x : Int) (h : (true) = true) : turns17_e n x = some (.bool true) := by
  (rw [turns17_eq]; conv => zeta)
  have hw : 0 ≤ x % 7 ∧ x % 7 < 7 := ⟨Int.emod_nonneg _ (by decide), Int.emod_lt_of_pos _ (by decide)⟩
  have h1 : -30 < Int.tmod n 30 := Int.lt_tmod_of_pos _ (by decide)
  have h2 : Int.tmod n 30 < 30 := Int.tmod_lt_of_pos _ (by decide)
  have hN : Int.tmod (IntKind.i64.wrap (Int.tmod n 30 + 30)) 30 = (((Int.tmod n 30 + 30) % 30).toNat : Int) := by
    rw [wrap_id (by omega) (by omega), Int.tmod_eq_emod_of_nonneg (by omega)]; omega
  have hR : RI (2 + x % 7) gs0 [] 0 := RI.init (by omega) (by omega)
  have hT : TI (2 + x % 7) gs0 [] 0 0 := ⟨hR, rfl, by kernel_rfl, by kernel_rfl, fun c c0 c3 => by
    obtain rfl | rfl | rfl | rfl : c = 0 ∨ c = 1 ∨ c = 2 ∨ c = 3 := by omega
    all_goals rfl, rfl⟩
  have hg : (⟨newCells, List.replicate 4 (rDflt RTy.task), List.replicate 4 false, 0, List.replicate 4 0, []⟩ : GS) = gs0 := rfl
  rw [hN, hg]
  generalize hq : ((Int.tmod n 30 + 30) % 30).toNat = q
  have k1 : cdec (((q : Int)).toNat ≤ 29 ∧ (true = true ∧ true = true ∧ true = true) ∧ ∃ hs, TI (2 + x % 7) gs0 hs 0 0) = true := cdec_true ⟨by omega, ⟨rfl, rfl, rfl⟩, [], hT⟩
  have e1 : decide ((q : Int) = ((((q : Int)).toNat : Nat) : Int)) = true := decide_eq_true (by omega)
  rw [k1, e1]
  simp only [decide_true, Bool.and_self, Bool.and_true, Bool.true_and, cond_true, cond_false]
open Go.ChangeShapes Go.WideShapes Go.RowKit
section
variable {C : Cdc}
def good (gA : (t : C.Ty) → C.A t → Prop) : D C → Prop
  | .int k n => k.min ≤ n ∧ n ≤ k.max
  | .str s => s.length ≤ maxLen
  | .acons d ds => good gA d ∧ good gA ds
  | .arr t n l => l.length = n ∧ ∀ x ∈ l, gA t x
  | .sl t _ l => l.length ≤ maxLen ∧ ∀ x ∈ l, gA t x
  | _ => True
def plainT (T : Tab C) : Nat → TypeId → Bool
  | 0, _ => false
  | k + 1, t => match T.ty t with
    | .bool | .int _ | .str => true
    | .struct _ fs => fs.all (plainT T k)
    | .arr _ e _ => plainT T k e
    | .sl e _ => plainT T k e
    | _ => false
structure Dec (T : Tab C) (gA : (t : C.Ty) → C.A t → Prop) : Prop where
  dec : ∀ t d, fit T d (.inl (T.ety t)) = true → d.refs = [] → good gA d → (∃ k u, T.ty u = T.ty (T.ety t) ∧ plainT T k u = true) → ∃ x, T.dec t d = some x ∧ gA t x
variable {P : Program} {T : Tab C} {gA : (t : C.Ty) → C.A t → Prop}
def X0 (W : World) : Cx := ⟨W, fun _ => none, fun _ _ => False⟩
theorem X0_free (W : World) (b o : Nat) : (X0 W).free b o := ⟨fun h => h, fun ⟨_, _, h, _⟩ => by simp [X0] at h⟩
theorem arr_R {X : Cx} (t : C.Ty) (sz : Nat) : ∀ (n : Nat) (cs : List Value), cs.length = n * sz → (∀ i, i < n → ∃ x : C.A t, R T X false (T.enc t x) ((cs.drop (i * sz)).take sz) ∧ gA t x) →
    ∃ l : List (C.A t), R T X false (.arr t n l) cs ∧ l.length = n ∧ ∀ x ∈ l, gA t x
  | 0, cs, hl, _ => by
    obtain rfl : cs = [] := by simpa using hl
    exact ⟨[], .arr0 _, rfl, by simp⟩
  | n + 1, cs, hl, h => by
    obtain ⟨x, hx, gx⟩ := h 0 (by omega)
    obtain ⟨l, hr, hn, gl⟩ := arr_R t sz n (cs.drop sz) (by rw [List.length_drop, hl, Nat.succ_mul]; omega) fun i hi => by
      obtain ⟨y, hy, gy⟩ := h (i + 1) (by omega)
      refine ⟨y, ?_, gy⟩
      rw [List.drop_drop]
      rw [show sz + i * sz = (i + 1) * sz by rw [Nat.succ_mul]; omega]
      exact hy
    refine ⟨x :: l, ?_, by simp [hn], by simpa using ⟨gx, gl⟩⟩
    have := R.arrS hx hr
    simpa using this
theorem sl_R {W : World} (t : C.Ty) (b sz : Nat) : ∀ (n off : Nat), (∀ i, i < n → ∃ (x : C.A t) (ci : List Value), R T (X0 W) false (T.enc t x) ci ∧ ci.length = sz ∧ (∀ j, j < sz → W.cell? ⟨b, off + i * sz + j, none⟩ = ci[j]?) ∧ gA t x) →
    ∃ (l : List (C.A t)) (cs : List Value), R T (X0 W) false (.arr t n l) cs ∧ l.length = n ∧ (X0 W).at b off cs ∧ ∀ x ∈ l, gA t x
  | 0, off, _ => ⟨[], [], .arr0 _, rfl, fun j v h => by simp at h, by simp⟩
  | n + 1, off, h => by
    obtain ⟨x, ci, hx, hlen, hc, gx⟩ := h 0 (by omega)
    obtain ⟨l, cs, hr, hn, hat, gl⟩ := sl_R t b sz n (off + sz) fun i hi => by
      obtain ⟨y, c2, hy, h2, h3, gy⟩ := h (i + 1) (by omega)
      refine ⟨y, c2, hy, h2, fun j hj => ?_, gy⟩
      have := h3 j hj
      rwa [show off + (i + 1) * sz + j = off + sz + i * sz + j by rw [Nat.succ_mul]; omega] at this
    refine ⟨x :: l, ci ++ cs, .arrS hx hr, by simp [hn], fun j v hj => ⟨?_, X0_free _ _ _⟩, by simpa using ⟨gx, gl⟩⟩
    by_cases hlt : j < ci.length
    · rw [List.getElem?_append_left hlt] at hj
      have := hc j (by omega)
      simp only [Nat.zero_mul, Nat.add_zero] at this
      exact this.trans hj
    · rw [List.getElem?_append_right (by omega)] at hj
      have := (hat _ _ hj).1
      rwa [show off + sz + (j - ci.length) = off + j by omega] at this
theorem st_R {X : Cx} : ∀ (fs : List TypeId) (cs : List Value), (∀ i f, fs[i]? = some f → ∃ d, R T X false d ((cs.drop (sumSz T (fs.take i))).take (T.size f)) ∧ fit T d (.inl f) = true ∧ good gA d ∧ d.refs = []) →
    ∃ d, R T X false d (cs.take (sumSz T fs)) ∧ fit T d (.inr fs) = true ∧ good gA d ∧ d.refs = [] ∧ d.isRow = true ∧ (∀ t a, T.ty t = .struct a fs → fit T d (.inl t) = true)
  | [], cs, _ => ⟨.anil, by simpa [sumSz] using R.anil, rfl, trivial, rfl, rfl, fun t a ht => by simp [fit, ht]⟩
  | f :: fs, cs, h => by
    obtain ⟨d, hd, fd, gd, rd⟩ := h 0 f rfl
    obtain ⟨ds, hr, fr, gr, rr, _, _⟩ := st_R fs (cs.drop (T.size f)) fun i g hg => by
      obtain ⟨e, he, h2⟩ := h (i + 1) g (by simpa using hg)
      refine ⟨e, ?_, h2⟩
      simpa [sumSz, List.drop_drop] using he
    refine ⟨.acons d ds, ?_, by simp [fit, fd, fr], ⟨gd, gr⟩, by simp [D.refs, rd, rr], rfl, fun t a ht => by simp [fit, ht, fd, fr]⟩
    have := R.acons hd hr
    simpa [sumSz, List.take_add] using this
theorem cellsOf_info {t : TypeId} {i : TypeInfo} (h : P.info? t = some i) : P.cellsOf t = i.size := by
  simp [Program.cellsOf, h]
theorem trod_R (K : PLaws P T) (hd : Dec T gA) {H : Type} {enc : TypeId × Value → H} {W : World} : ∀ (k : Nat) (t : TypeId), plainT T k t = true → ∀ (fuel : Nat) (cs : List Value) (x : DataW H × List MemPlace), DataW.trod enc P W 0 (fun _ => true) true fuel t cs = some x →
    ∃ d, R T (X0 W) false d cs ∧ fit T d (.inl t) = true ∧ good gA d ∧ d.refs = [] := by
  intro k
  induction k with
  | zero => intro t h; simp [plainT] at h
  | succ k ih =>
    intro t hp fuel cs x h
    unfold plainT at hp
    split at hp
    · rename_i ht
      obtain ⟨b, rfl, _⟩ := DataW.trod_bool (K.uBool t ht) h
      exact ⟨.bool b, .bool b, by simp [fit, ht], trivial, rfl⟩
    · rename_i kd ht
      obtain ⟨n, rfl, _, hw⟩ := DataW.trod_int (K.uInt t kd ht) h
      have hw' : kd.min ≤ n ∧ n ≤ kd.max := by simpa [Lit.wf] using hw
      exact ⟨.int kd n, .int hw', by simp [fit, ht], hw', rfl⟩
    · rename_i ht
      obtain ⟨s, rfl, _, hs⟩ := DataW.trod_string (K.uStr t ht) h
      exact ⟨.str s.data.toList, .str s.data.toList, by simp [fit, ht], by simpa [good] using hs, rfl⟩
    · rename_i isA fs ht
      cases isA with
      | true =>
        obtain ⟨el, hu, hfs, hpos, inf, hi1, hi2⟩ := K.uRow t fs ht
        obtain ⟨xs, m, _, _, hlen, hxs, hel⟩ := DataW.trod_array hu h
        have hget : ∀ i f, fs[i]? = some f → f = el ∧ i < fs.length := fun i f hf => by
          have := (List.getElem?_eq_some_iff.1 hf).1
          rw [hfs, List.getElem?_replicate] at hf
          simp at hf
          exact ⟨hf.2.symm, this⟩
        have hsum : ∀ i, i ≤ fs.length → sumSz T (fs.take i) = i * T.size el := by
          intro i hi
          rw [hfs, List.take_replicate, Nat.min_eq_left hi]
          clear hi
          induction i with
          | zero => simp [sumSz]
          | succ i ih => simp only [List.replicate_succ, sumSz, ih]; rw [Nat.succ_mul]; omega
        obtain ⟨d, hr, _, gd, rd, _, hfit⟩ := st_R (T := T) (X := X0 W) (gA := gA) fs cs fun i f hf => by
          obtain ⟨rfl, hi⟩ := hget i f hf
          have := hel i hi
          rw [cellsOf_info hi1, hi2] at this
          have hx : xs[i]? = some xs[i] := by simp [hxs, hi]
          rw [hx] at this
          obtain ⟨d, h1, h2, h3, h4⟩ := ih f (List.all_eq_true.1 hp _ (List.mem_of_getElem? hf)) m _ _ this
          refine ⟨d, ?_, h2, h3, h4⟩
          rw [hsum i (by omega)]; exact h1
        obtain ⟨inf, hi1, hi2⟩ := K.info t d (hfit t _ ht)
        rw [cellsOf_info hi1, hi2, K.base.szStruct t _ fs ht] at hlen
        rw [← hlen, List.take_length] at hr
        exact ⟨d, hr, hfit t _ ht, gd, rd⟩
      | false =>
        obtain ⟨fields, hu, hfs, hoff, _⟩ := K.uStruct t fs ht
        obtain ⟨xs, n, _, _, hlen, hxs, hel⟩ := DataW.trod_struct hu h
        obtain ⟨d, hr, _, gd, rd, _, hfit⟩ := st_R (T := T) (X := X0 W) (gA := gA) fs cs fun i f hf => by
          rw [← hfs, List.getElem?_map] at hf
          cases hfi : fields.toList[i]? with
          | none => simp [hfi] at hf
          | some fld =>
            simp only [hfi, Option.map_some, Option.some.injEq] at hf
            have hfa : fields[i]? = some fld := by rw [← Array.getElem?_toList]; exact hfi
            have := hel i fld hfa
            have hx : ∃ y, xs[i]? = some y := by
              have : i < fields.size := (Array.getElem?_eq_some_iff.1 hfa).1
              exact ⟨xs[i], by simp [hxs, this]⟩
            obtain ⟨y, hy⟩ := hx
            rw [hy] at this
            subst hf
            have hmem : fld.type ∈ fs := by rw [← hfs]; exact List.mem_map.2 ⟨fld, by exact List.mem_of_getElem? hfi, rfl⟩
            obtain ⟨d, h1, h2, h3, h4⟩ := ih fld.type (List.all_eq_true.1 hp _ hmem) n _ _ this
            obtain ⟨inf, hi1, hi2, _⟩ := K.uField t fs fld.type ht hmem
            refine ⟨d, ?_, h2, h3, h4⟩
            rw [hoff i fld hfa, cellsOf_info hi1, hi2] at h1
            exact h1
        obtain ⟨inf, hi1, hi2⟩ := K.info t d (hfit t _ ht)
        rw [cellsOf_info hi1, hi2, K.base.szStruct t _ fs ht] at hlen
        rw [← hlen, List.take_length] at hr
        exact ⟨d, hr, hfit t _ ht, gd, rd⟩
    · rename_i n e ct ht
      obtain ⟨hu, _⟩ := K.uArr t n e ct ht
      obtain ⟨xs, m, _, _, hlen, hxs, hel⟩ := DataW.trod_array hu h
      obtain ⟨inf, z, hi1, hi2, _⟩ := K.uElem t e ct (.inl ⟨n, ht⟩)
      obtain ⟨it, hj1, hj2⟩ := K.info t (.arr ct n []) (by simp [fit, ht])
      obtain ⟨hs1, hs2, hs3⟩ := K.base.szArr t n e ct ht
      rw [cellsOf_info hj1, hj2, hs1] at hlen
      obtain ⟨l, hr, hn, gl⟩ := arr_R (T := T) (X := X0 W) (gA := gA) ct (T.size e) n cs hlen fun i hi => by
        have := hel i hi
        rw [cellsOf_info hi1, hi2] at this
        have hx : xs[i]? = some xs[i] := by simp [hxs, hi]
        rw [hx] at this
        obtain ⟨d, h1, h2, h3, h4⟩ := ih e hp m _ _ this
        obtain ⟨x, h5, h6⟩ := hd.dec ct d (by rw [← fit_congr hs2]; exact h2) h4 h3 ⟨k, e, hs2, hp⟩
        exact ⟨x, K.base.decR _ _ _ _ _ h5 h1, h6⟩
      exact ⟨.arr ct n l, hr, by simp [fit, ht], ⟨hn, gl⟩, rfl⟩
    · rename_i e ct ht
      have hu := K.uSl t e ct ht
      obtain ⟨inf, z, hi1, hi2, _, _, hpos, _⟩ := K.uElem t e ct (.inr ht)
      obtain ⟨hs1, hs2, hs3⟩ := K.base.szSl t e ct ht
      rcases DataW.trod_slice hu h with ⟨rfl, _⟩ | ⟨a, len, cap, elems, rest, m, _, rfl, _, _, hlc, hcm, hel, he, hrest, _⟩
      · exact ⟨.sl ct false [], .sl0 _ _ _, by simp [fit, ht], by simp [good], rfl⟩
      · by_cases hc0 : cap = 0
        · subst hc0
          obtain rfl : len = 0 := by omega
          exact ⟨.sl ct false [], .sl0 _ _ _, by simp [fit, ht], by simp [good], rfl⟩
        · have hspot : a.spot = none := by
            have key : ∀ i y, i = 0 → (W.cells? 0 (a.add (i * P.cellsOf e)) (P.cellsOf e)).bind (DataW.trod enc P W 0 (fun _ => true) true m e) = some y → a.spot = none := by
              intro i y hi0 hy
              subst hi0
              rw [cellsOf_info hi1, hi2] at hy
              cases hcs : W.cells? 0 (a.add (0 * T.size e)) (T.size e) with
              | none => rw [hcs] at hy; cases hy
              | some ci =>
                obtain ⟨_, h2, h3⟩ := World.cells?_some hcs
                have h4 := h3 0 hpos
                have h5 : ci[0]? = some ci[0] := by simp
                rw [h5] at h4
                have := World.cell?_spot h4
                simpa [Addr.add] using this
            by_cases hl0 : 0 < len
            · have := he 0 hl0
              have hx : elems[0]? = some elems[0] := by simp
              exact key 0 _ rfl (this.trans hx)
            · have hr2 := hrest rfl
              have := hr2.2 0 (by omega)
              have h0 : 0 < rest.length := by omega
              have hx : rest[0]? = some rest[0] := by simp
              exact key _ _ (by omega) (this.trans hx)
          obtain ⟨b, off, sp⟩ := a
          simp only at hspot
          subst hspot
          obtain ⟨l, cs, hr, hn, hat, gl⟩ := sl_R (T := T) (W := W) (gA := gA) ct b (T.size e) len off fun i hi => by
            have := he i hi
            have hx : elems[i]? = some elems[i] := by simp [hel, hi]
            rw [hx, cellsOf_info hi1, hi2] at this
            cases hcs : W.cells? 0 ((⟨b, off, none⟩ : Addr).add (i * T.size e)) (T.size e) with
            | none => simp [hcs] at this
            | some ci =>
              simp only [hcs, Option.bind_some] at this
              obtain ⟨_, h2, h3⟩ := World.cells?_some hcs
              obtain ⟨d, k1, k2, k3, k4⟩ := ih e hp m _ _ this
              obtain ⟨x, k5, k6⟩ := hd.dec ct d (by rw [← fit_congr hs2]; exact k2) k4 k3 ⟨k, e, hs2, hp⟩
              refine ⟨x, ci, K.base.decR _ _ _ _ _ k5 k1, h2, fun j hj => ?_, k6⟩
              have := h3 j hj
              rwa [add_plain, add_plain] at this
          subst hn
          exact ⟨.sl ct false l, .sl hat hr hlc (by simp), by simp [fit, ht], ⟨by omega, gl⟩, rfl⟩
    · cases hp
theorem okWide_row (K : PLaws P T) {W : World} {r : Reach} {base : Nat} {t : TypeId} {v : Value} {d : D C} (hv : Value.okWide P W r base t v) (hp : ∃ k, plainT T k t = true) (hf : fit T d (.inl t) = true) (hr : R T (X0 W) false d v.cells.toList) (hrf : d.refs = []) : RV T (X0 W) d v := by
  obtain ⟨k, hp⟩ := hp
  cases k with
  | zero => simp [plainT] at hp
  | succ k =>
    unfold plainT at hp
    split at hp
    · rename_i ht
      obtain ⟨b, rfl⟩ := okWide_bool (K.uBool t ht) hv
      refine .inr ⟨?_, by simpa [Value.cells] using hr⟩
      cases d <;> simp [fit, ht] at hf <;> rfl
    · rename_i kd ht
      obtain ⟨b, rfl⟩ := okWide_int (K.uInt t kd ht) hv
      refine .inr ⟨?_, by simpa [Value.cells] using hr⟩
      cases d <;> simp [fit, ht] at hf <;> rfl
    · rename_i ht
      obtain ⟨b, rfl⟩ := okWide_string (K.uStr t ht) hv
      refine .inr ⟨?_, by simpa [Value.cells] using hr⟩
      cases d <;> simp [fit, ht] at hf <;> rfl
    · rename_i isA fs ht
      have : ∃ cs, v = .agg cs := by
        cases isA with
        | false =>
          obtain ⟨fields, hu, _⟩ := K.uStruct t fs ht
          obtain ⟨cs, rfl, _⟩ := okWide_struct hu hv
          exact ⟨cs, rfl⟩
        | true =>
          obtain ⟨el, hu, _⟩ := K.uRow t fs ht
          simp only [Value.okWide, hu] at hv
          obtain ⟨cs, rfl, _⟩ := hv
          exact ⟨cs, rfl⟩
      obtain ⟨cs, rfl⟩ := this
      refine .inl ⟨?_, cs.toList, by simpa [Value.cells] using hr, rfl⟩
      cases d <;> simp [fit, ht] at hf <;> rfl
    · rename_i n e ct ht
      obtain ⟨hu, _⟩ := K.uArr t n e ct ht
      have : ∃ cs, v = .agg cs := by
        simp only [Value.okWide, hu] at hv
        obtain ⟨cs, rfl, _⟩ := hv
        exact ⟨cs, rfl⟩
      obtain ⟨cs, rfl⟩ := this
      refine .inl ⟨?_, cs.toList, by simpa [Value.cells] using hr, rfl⟩
      cases d <;> simp [fit, ht] at hf <;> rfl
    · rename_i e ct ht
      obtain ⟨a, len, cap, rfl⟩ := okWide_slice (K.uSl t e ct ht) hv
      refine .inr ⟨?_, by simpa [Value.cells] using hr⟩
      cases d <;> simp [fit, ht] at hf <;> rfl
    · cases hp
inductive Fits (T : Tab C) (gA : (t : C.Ty) → C.A t → Prop) : List TypeId → List (D C) → Prop
  | nil : Fits T gA [] []
  | cons {t : TypeId} {ts : List TypeId} {d : D C} {ds : List (D C)} (hf : fit T d (.inl t) = true) (hg : good gA d) (hr : d.refs = []) (h : Fits T gA ts ds) : Fits T gA (t :: ts) (d :: ds)
theorem Fits.refs {ts : List TypeId} {ds : List (D C)} (h : Fits T gA ts ds) : ∀ a ∈ ds, D.refs a = [] := by
  induction h with
  | nil => simp
  | cons _ _ hr _ ih => simpa using ⟨hr, ih⟩
theorem trodAll_R (K : PLaws P T) (hd : Dec T gA) {H : Type} {enc : TypeId × Value → H} {W : World} {r : Reach} {base : Nat} : ∀ (ts : List TypeId) (vs : List Value) (ds : List (DataW H)) (ps : List MemPlace), (∀ t ∈ ts, ∃ k, plainT T k t = true) →
    (∀ (j : Nat) t v, ts[j]? = some t → vs[j]? = some v → Value.okWide P W r base t v) → DataW.TrodAll enc P W 0 (fun _ => true) true ts vs ds ps → ∃ al, Fits T gA ts al ∧ RVs T (X0 W) al vs
  | [], vs, ds, ps, _, _, h => by
    obtain ⟨rfl, rfl, rfl⟩ := trodAll_nil h
    exact ⟨[], .nil, .nil⟩
  | t :: ts, vs, ds, ps, hp, hv, h => by
    obtain ⟨v, vs1, d, ds1, p, q, rfl, rfl, rfl, ⟨fuel, h1⟩, h2⟩ := trodAll_cons h
    obtain ⟨al, f1, r1⟩ := trodAll_R K hd ts vs1 ds1 q (fun t ht => hp t (by simp [ht])) (fun j t v a b => hv (j + 1) t v (by simpa using a) (by simpa using b)) h2
    obtain ⟨k, hk⟩ := hp t (by simp)
    obtain ⟨a, k1, k2, k3, k4⟩ := trod_R K hd k t hk fuel _ _ h1
    exact ⟨a :: al, .cons k2 k3 k4 f1, .cons (okWide_row K (hv 0 t v rfl rfl) ⟨k, hk⟩ k2 k1 k4) r1⟩
theorem stays (hl : laidOutB P = true) {H : Type} {enc : TypeId × Value → H} {W W' : World} {sp : Nat → Bool} : ∀ (ts : List TypeId) (vs : List Value) (ds : List (DataW H)) (ps : List MemPlace), (∀ t ∈ ts, P.readableRec t = true ∧ t < P.types.size) →
    DataW.TrodAll enc P W 0 (fun _ => true) true ts vs ds ps → (∀ p ∈ ps, W.sameAt W' p) → (∀ p ∈ ps, sp p.block = true) → DataW.TrodAll enc P W' 0 sp true ts vs ds ps
  | [], vs, ds, ps, _, h, _, _ => by
    obtain ⟨rfl, rfl, rfl⟩ := trodAll_nil h
    exact trodAll_mk0
  | t :: ts, vs, ds, ps, ht, h, h3, h4 => by
    obtain ⟨v, vs1, d, ds1, p, q, rfl, rfl, rfl, h1, h2⟩ := trodAll_cons h
    exact trodAll_cons_mk (WideElems.Trod_stays hl (ht t (by simp)).1 (ht t (by simp)).2 h1 (fun x hx => h3 x (by simp [hx])) (fun x hx => h4 x (by simp [hx])))
      (stays hl ts vs1 ds1 q (fun t h => ht t (by simp [h])) h2 (fun x hx => h3 x (by simp [hx])) (fun x hx => h4 x (by simp [hx])))
theorem post_same_old {H : Type} {enc : TypeId × Value → H} {f : Func} {s : ChangeSpec} {apart fresh handsOn again : Bool} {W W' : World} {args : Array Value} {v : Value} {ds gs : List (DataW H)} {before pa pv : List MemPlace}
    (hW : DataW.Whole enc P f.params.toList s.vars apart W args.toList ds gs before)
    (hres : ∀ (b : Nat) (sp : Nat → Bool) (hd : Bool), DataW.TrodAll enc P W' b sp hd f.resultTypes.toList (v.resultList f.resultTypes.size) (s.fn H (ds ++ gs)).results [])
    (hargs : ∀ sp : Nat → Bool, (∀ p ∈ before, sp p.block = true) → DataW.TrodAll enc P W' 0 sp true f.params.toList args.toList (s.fn H (ds ++ gs)).args pa)
    (hvars : ∀ sp : Nat → Bool, (∀ p ∈ before, sp p.block = true) → DataW.TrodVars enc P W' sp s.vars (s.fn H (ds ++ gs)).vars pv)
    (hps : before = pa ++ pv) (hk : W.keptBut W' (· ∈ before)) (hfz : ∀ a : Addr, a.block < W.heap.size → W'.frozen? a = W.frozen? a)
    (hok : ∀ (j : Nat) (t : TypeId) (r : Value), f.resultTypes[j]? = some t → (v.resultList f.resultTypes.size)[j]? = some r → Value.okWide P W' .any 0 t r) :
    s.post enc P f apart fresh handsOn again W args v W' := by
  have hold : ∀ p ∈ before, (fun b => decide (b < W.heap.size)) p.block = true := fun p hp => by simpa using hW.lt p hp
  refine ⟨ds, gs, before, [], pa, pv, hW, hres _ _ _, hargs _ hold, hvars _ hold, World.keptBut_mono (fun p hp => ⟨hp, ?_⟩) hk, fun _ => ?_⟩
  · rw [hps, List.mem_append] at hp
    exact Or.inr hp
  · have hlt := hW.lt
    obtain ⟨_, _, _, _, _, hz, hn⟩ := hW
    refine ⟨hok, _, _, ([] ++ pa) ++ pv, ⟨[] ++ pa, pv, trodAll_append (hargs _ (fun _ _ => rfl)) (hres _ _ _), hvars _ (fun _ _ => rfl), rfl, ?_, ?_⟩, ?_⟩
    · intro b off hp
      have hb : MemPlace.cell b off ∈ before := by rw [hps]; simpa using hp
      rw [hfz _ (by simpa [MemPlace.block] using hlt _ hb)]
      exact hz b off hb
    · intro ha
      have := hn ha
      rw [hps] at this
      simpa using this
    · intro p hp _
      rw [hps]
      simpa using hp
theorem contract_of (K : PLaws P T) {Φ : Fns C} (F : FLaws P T Φ) (hd : Dec T gA) (hl : laidOutB P = true) {f : FuncId} {fn : Func} {s : ChangeSpec} {tb : TypeId} {m : Nat}
    (hres : fn.resultTypes = #[tb]) (hb : P.underlying tb = some .bool) (hvars : s.vars = [])
    (hts : fn.params.toList.all (fun t => plainT T m t && P.readableRec t && Nat.blt t P.types.size) = true)
    (hspec : ∀ (H : Type) (ds : List (DataW H)), ds.length = fn.params.toList.length → s.fn H ds = { results := [.lit (.bool true)], args := ds })
    (hev : ∀ ds : List (D C), Fits T gA fn.params.toList ds → ∃ n, evF T Φ n f ds = some (.bool true))
    (H : Type) (enc : TypeId × Value → H) (W : World) (base : Nat) (args : Array Value) (ds gs : List (DataW H)) (before : List MemPlace)
    (hval : ∀ (j : Nat) t v, fn.params[j]? = some t → args[j]? = some v → Value.okWide P W .any base t v)
    (hW : DataW.Whole enc P fn.params.toList s.vars false W args.toList ds gs before) :
    Calls P f args W fun e W' => ∃ v, e = .returned v ∧ s.post enc P fn false true false false W args v W' := by
  have hts' : ∀ t ∈ fn.params.toList, plainT T m t = true ∧ P.readableRec t = true ∧ t < P.types.size := by
    intro t ht
    have := List.all_eq_true.1 hts t ht
    simp only [Bool.and_eq_true] at this
    exact ⟨this.1.1, this.1.2, by simpa [Nat.blt_eq] using this.2⟩
  have hW' := hW
  obtain ⟨p, q, hA, hV, rfl, hfz, hnd⟩ := hW
  rw [hvars] at hV
  obtain ⟨rfl, rfl⟩ := trodVars_none hV
  obtain ⟨al, hf, hr⟩ := trodAll_R (gA := gA) K hd (r := .any) (base := base) _ _ _ _ (fun t ht => ⟨m, (hts' t ht).1⟩) (fun j t v a b => hval j t v (by rw [← Array.getElem?_toList]; exact a) (by rw [← Array.getElem?_toList]; exact b)) hA
  obtain ⟨n, hn⟩ := hev al hf
  have hc := (evF_calls K F hn hf.refs W (fun _ _ => False) (fun _ _ h => h.elim) (vs := args.toList) hr).2
  have ea : (⟨args.toList⟩ : Array Value) = args := by simp
  rw [ea] at hc
  refine hc.mono fun e W' hp => ?_
  obtain ⟨v, ρ, rfl, rv, a1, a2, a3, a4, a5, a6⟩ := hp
  obtain rfl := rv.bool
  have hlen : ds.length = fn.params.toList.length := by
    have : ∀ (ts : List TypeId) (vs : List Value) (ds : List (DataW H)) (ps : List MemPlace), DataW.TrodAll enc P W 0 (fun _ => true) true ts vs ds ps → ds.length = ts.length := by
      intro ts
      induction ts with
      | nil => intro vs ds ps h; obtain ⟨rfl, rfl, rfl⟩ := trodAll_nil h; rfl
      | cons t ts ih =>
        intro vs ds ps h
        obtain ⟨v, vs1, d, ds1, p, q, rfl, rfl, rfl, h1, h2⟩ := trodAll_cons h
        simp [ih _ _ _ h2]
    exact this _ _ _ _ hA
  have hs := hspec H ds hlen
  have hbel : Below W.heap.size W W' := ⟨a3, a4, a5, a1, a2⟩
  have hlt : ∀ x ∈ p, x.block < W.heap.size := fun x hx => by simpa using hW'.lt x (by simpa using hx)
  refine ⟨_, rfl, post_same_old (pa := p) (pv := []) hW' ?_ ?_ ?_ (by simp) (hbel.frame _) a6 ?_⟩
  · intro b sp hd
    simp only [List.append_nil]
    rw [hs, hres]
    exact trodAll_cons_mk (p := []) (p' := []) (shut_bool hb _) trodAll_mk0
  · intro sp hsp
    simp only [List.append_nil] at hsp ⊢
    rw [hs]
    exact stays hl _ _ _ _ (fun t ht => (hts' t ht).2) hA (fun x hx => hbel.same (hlt x hx)) hsp
  · intro sp hsp
    simp only [List.append_nil]
    rw [hs, hvars]
    rfl
  · exact ok_one hres rfl (okWide_bool_mk hb _)
end
def i64 (n : Int) : Prop := -9223372036854775808 ≤ n ∧ n ≤ 9223372036854775807
def inK (k : IntKind) (n : Int) : Prop := k.min ≤ n ∧ n ≤ k.max
theorem i64_of {n : Int} (h : IntKind.i64.min ≤ n ∧ n ≤ IntKind.i64.max) : i64 n := by
  simpa [i64, IntKind.min, IntKind.max, IntKind.signed, IntKind.bits] using h
section
variable {C : Cdc} {T : Tab C} {d : D C} {u : TypeId}
theorem fit_int {k : IntKind} (hu : T.ty u = .int k) (hf : fit T d (.inl u) = true) : ∃ n, d = .int k n := by
  cases d <;> simp [fit, hu] at hf
  subst hf; exact ⟨_, rfl⟩
theorem fit_bool (hu : T.ty u = .bool) (hf : fit T d (.inl u) = true) : ∃ n, d = .bool n := by
  cases d <;> simp [fit, hu] at hf
  exact ⟨_, rfl⟩
theorem fit_str (hu : T.ty u = .str) (hf : fit T d (.inl u) = true) : ∃ n, d = .str n := by
  cases d <;> simp [fit, hu] at hf
  exact ⟨_, rfl⟩
theorem fit_sl {e : TypeId} {t : C.Ty} (hu : T.ty u = .sl e t) (hf : fit T d (.inl u) = true) (hr : d.refs = []) : ∃ c l, d = .sl t c l := by
  cases d <;> simp [fit, hu] at hf
  · subst hf; exact ⟨_, _, rfl⟩
  · simp [D.refs] at hr
theorem fit_arr {e : TypeId} {t : C.Ty} {n : Nat} (hu : T.ty u = .arr n e t) (hf : fit T d (.inl u) = true) : ∃ l, d = .arr t n l := by
  cases d <;> simp [fit, hu] at hf
  obtain ⟨h1, h2⟩ := hf
  subst h1; subst h2; exact ⟨_, rfl⟩
theorem fit_st {a : Bool} {f : TypeId} {fs : List TypeId} (hu : T.ty u = .struct a (f :: fs)) (hf : fit T d (.inl u) = true) : ∃ x y, d = .acons x y ∧ fit T x (.inl f) = true ∧ fit T y (.inr fs) = true := by
  cases d <;> simp [fit, hu] at hf
  exact ⟨_, _, rfl, hf.1, hf.2⟩
theorem fit_more {f : TypeId} {fs : List TypeId} (hf : fit T d (.inr (f :: fs)) = true) : ∃ a b, d = .acons a b ∧ fit T a (.inl f) = true ∧ fit T b (.inr fs) = true := by
  cases d <;> simp [fit] at hf
  exact ⟨_, _, rfl, hf.1, hf.2⟩
theorem fit_end (hf : fit T d (.inr []) = true) : d = .anil := by
  cases d <;> simp [fit] at hf
  rfl
end
open Go.Proofs Go.ChangeShapes Go.WideShapes Go.ChangeAt Go.RowKit
def goodPick (x : Pick) : Prop := i64 (x.client) ∧ i64 (x.do_)
def goodSector (x : Sector) : Prop := i64 (x.n) ∧ (x.b).length ≤ maxLen
def goodFrame (x : Frame) : Prop := inK .i8 (x.prog) ∧ i64 (x.at') ∧ ((x.r).length = 96 ∧ ∀ y ∈ (x.r), i64 (y))
def goodTask (x : Task) : Prop := i64 (x.client) ∧ ((x.stack).length ≤ maxLen ∧ ∀ y ∈ (x.stack), goodFrame (y)) ∧ ((x.got).length ≤ maxLen ∧ ∀ y ∈ (x.got), i64 (y)) ∧ True
def rGood : (t : RTy) → RA t → Prop
  | .bool => fun (x : Bool) => True
  | .frame => fun (x : Frame) => goodFrame (x)
  | .int => fun (x : Int) => i64 (x)
  | .pick => fun (x : Pick) => goodPick (x)
  | .sector => fun (x : Sector) => goodSector (x)
  | .task => fun (x : Task) => goodTask (x)
theorem ty34 : s17.ty 34 = .struct false [3, 3] := by kernel_rfl
theorem ty3 : s17.ty 3 = .int .i64 := by kernel_rfl
theorem asPick {d : D RC} (hf : fit s17 d (.inl 34) = true) (hg : good rGood d) (hr : d.refs = []) : ∃ x : Pick, d = ePick x ∧ goodPick x := by
  obtain ⟨d0, r0, rfl, f0, hf⟩ := fit_st ty34 hf
  obtain ⟨d1, r1, rfl, f1, hf⟩ := fit_more hf
  obtain rfl := fit_end hf
  simp only [D.refs, List.append_eq_nil_iff] at hr
  obtain ⟨g0, g1, _⟩ := hg
  obtain ⟨q0, q1, _⟩ := hr
  obtain ⟨n0, rfl⟩ := fit_int ty3 f0
  obtain ⟨n1, rfl⟩ := fit_int ty3 f1
  exact ⟨⟨n0, n1⟩, rfl, i64_of g0, i64_of g1⟩
theorem dPick_e (x : Pick) (hx : goodPick x) : dPick (ePick x) = some x := by
  simp only [goodPick] at hx
  simp [dPick, ePick, D.asList, asArrN, hx]
theorem ty116 : s17.ty 116 = .struct false [3, 9] := by kernel_rfl
theorem ty9 : s17.ty 9 = .str := by kernel_rfl
theorem asSector {d : D RC} (hf : fit s17 d (.inl 116) = true) (hg : good rGood d) (hr : d.refs = []) : ∃ x : Sector, d = eSector x ∧ goodSector x := by
  obtain ⟨d0, r0, rfl, f0, hf⟩ := fit_st ty116 hf
  obtain ⟨d1, r1, rfl, f1, hf⟩ := fit_more hf
  obtain rfl := fit_end hf
  simp only [D.refs, List.append_eq_nil_iff] at hr
  obtain ⟨g0, g1, _⟩ := hg
  obtain ⟨q0, q1, _⟩ := hr
  obtain ⟨n0, rfl⟩ := fit_int ty3 f0
  obtain ⟨n1, rfl⟩ := fit_str ty9 f1
  exact ⟨⟨n0, n1⟩, rfl, i64_of g0, g1⟩
theorem dSector_e (x : Sector) (hx : goodSector x) : dSector (eSector x) = some x := by
  simp only [goodSector] at hx
  simp [dSector, eSector, D.asList, asArrN, hx]
theorem ty60 : s17.ty 60 = .struct false [52, 3, 58] := by kernel_rfl
theorem ty52 : s17.ty 52 = .int .i8 := by kernel_rfl
theorem ty58 : s17.ty 58 = .arr 96 3 .int := by kernel_rfl
theorem asFrame {d : D RC} (hf : fit s17 d (.inl 60) = true) (hg : good rGood d) (hr : d.refs = []) : ∃ x : Frame, d = eFrame x ∧ goodFrame x := by
  obtain ⟨d0, r0, rfl, f0, hf⟩ := fit_st ty60 hf
  obtain ⟨d1, r1, rfl, f1, hf⟩ := fit_more hf
  obtain ⟨d2, r2, rfl, f2, hf⟩ := fit_more hf
  obtain rfl := fit_end hf
  simp only [D.refs, List.append_eq_nil_iff] at hr
  obtain ⟨g0, g1, g2, _⟩ := hg
  obtain ⟨q0, q1, q2, _⟩ := hr
  obtain ⟨n0, rfl⟩ := fit_int ty52 f0
  obtain ⟨n1, rfl⟩ := fit_int ty3 f1
  obtain ⟨n2, rfl⟩ := fit_arr ty58 f2
  exact ⟨⟨n0, n1, n2⟩, rfl, g0, i64_of g1, g2⟩
theorem dFrame_e (x : Frame) (hx : goodFrame x) : dFrame (eFrame x) = some x := by
  simp only [goodFrame] at hx
  simp [dFrame, eFrame, D.asList, asArrN, hx]
theorem ty43 : s17.ty 43 = .struct false [3, 41, 29, 4] := by kernel_rfl
theorem ty41 : s17.ty 41 = .sl 60 .frame := by kernel_rfl
theorem ty29 : s17.ty 29 = .sl 3 .int := by kernel_rfl
theorem ty4 : s17.ty 4 = .bool := by kernel_rfl
theorem asTask {d : D RC} (hf : fit s17 d (.inl 43) = true) (hg : good rGood d) (hr : d.refs = []) : ∃ (x : Task) (c0 c1 : Bool), d = eTaskC x c0 c1 ∧ goodTask x := by
  obtain ⟨d0, r0, rfl, f0, hf⟩ := fit_st ty43 hf
  obtain ⟨d1, r1, rfl, f1, hf⟩ := fit_more hf
  obtain ⟨d2, r2, rfl, f2, hf⟩ := fit_more hf
  obtain ⟨d3, r3, rfl, f3, hf⟩ := fit_more hf
  obtain rfl := fit_end hf
  simp only [D.refs, List.append_eq_nil_iff] at hr
  obtain ⟨g0, g1, g2, g3, _⟩ := hg
  obtain ⟨q0, q1, q2, q3, _⟩ := hr
  obtain ⟨n0, rfl⟩ := fit_int ty3 f0
  obtain ⟨k1, n1, rfl⟩ := fit_sl ty41 f1 q1
  obtain ⟨k2, n2, rfl⟩ := fit_sl ty29 f2 q2
  obtain ⟨n3, rfl⟩ := fit_bool ty4 f3
  exact ⟨⟨n0, n1, n2, n3⟩, k1, k2, rfl, i64_of g0, g1, g2, trivial⟩
theorem dTask_e (x : Task) (c0 c1 : Bool) (hx : goodTask x) : dTask (eTaskC x c0 c1) = some x := by
  simp only [goodTask] at hx
  simp [dTask, eTaskC, D.asList, asArrN, hx]
theorem decs : Dec s17 rGood where
  dec t d hf hr hg _ := by
    cases t with
    | bool =>
      obtain ⟨n, rfl⟩ := fit_bool ty4 hf
      exact ⟨n, rfl, trivial⟩
    | frame =>
      obtain ⟨x, rfl, hx⟩ := asFrame hf hg hr
      exact ⟨x, dFrame_e x hx, hx⟩
    | int =>
      obtain ⟨n, rfl⟩ := fit_int ty3 hf
      exact ⟨n, by simp [s17, mkTab, rCod, rDec, dIntK], i64_of hg⟩
    | pick =>
      obtain ⟨x, rfl, hx⟩ := asPick hf hg hr
      exact ⟨x, dPick_e x hx, hx⟩
    | sector =>
      obtain ⟨x, rfl, hx⟩ := asSector hf hg hr
      exact ⟨x, dSector_e x hx, hx⟩
    | task =>
      obtain ⟨x, c0, c1, rfl, hx⟩ := asTask hf hg hr
      exact ⟨x, dTask_e x c0 c1 hx, hx⟩
theorem own : ownKnob Tryz.prog.godebug = none := by kernel_rfl
theorem laidOut : laidOutB Tryz.prog = true := by kernel_rfl
end Go.Ev

namespace Go.Proofs.YtnockfncodafeaaGreat
open Go.ChangeShapes Go.WideShapes Go.ChangeAt Go.RowKit Go.Ev
set_option linter.unusedVariables false
set_option maxRecDepth 100000
namespace ringTurns
theorem ev (ds : List (D RC)) (h : Fits s17 rGood Tryz.f6.params.toList ds) : ∃ n, evF s17 un_2 n 6 ds = some (.bool true) := by
  rw [Tryz.params6] at h
  cases h with
  | cons hf0 hg0 hr0 h =>
  cases h with
  | cons hf1 hg1 hr1 h =>
  cases h with
  | nil =>
    obtain ⟨n, rfl⟩ := fit_int (show s17.ty 3 = .int .i64 by kernel_rfl) hf0
    obtain ⟨x, rfl⟩ := fit_int (show s17.ty 3 = .int .i64 by kernel_rfl) hf1
    have key := turns17_ok n x rfl
    unfold turns17_e at key
    exact ⟨100, key⟩
theorem lifted (os : Os) (started : os.Started) (H : Type) (enc : TypeId × Value → H) :
    ReturnsInHanded {} Tryz.checked os 6 .any (Rows.ringTurnsSpec.pre6 enc Tryz.prog Tryz.f6 Rows.ringTurnsRow.domain false) (Rows.ringTurnsSpec.post enc Tryz.prog Tryz.f6 false true false false) := by
  refine returnsInHanded_of_change (C := Tryz.checked) own started (by kernel_rfl) Tryz.func6
    (ChangeSpec.witness6 (enc := enc) (C := Tryz.checked) false ⟨#[], #[.int .i64 0, .int .i64 0], []⟩ 8 (by kernel_rfl) (by kernel_rfl) (by kernel_rfl) (by kernel_rfl)) ?_
  intro W base args ds gs before hval hW _ _
  refine contract_of (gA := rGood) (m := 8) s17_laws un_2_laws decs laidOut (tb := 4) (by kernel_rfl) Tryz.underlying4 rfl (by kernel_rfl) ?_ ev H enc W base args ds gs before hval hW
  intro H ds h
  rw [Tryz.params6] at h
  match ds, h with
  | [d0, d1], _ => rfl
theorem over : Rows.ringTurnsRow.holds Tryz.pinned (OpenSpec.ofChange Rows.ringTurnsSpec) :=
  OpenClaim.holds_of_wide 6 Tryz.f6 rfl rfl rfl rfl rfl rfl rfl ⟨rfl, rfl, rfl, rfl, rfl⟩ rfl rfl rfl rfl rfl (by kernel_rfl) Tryz.func6 (by kernel_rfl)
    (of_decide_eq_true (by kernel_rfl)) (by unfold Func.isWrapper; first | (rw [if_pos (by decide +kernel)]; kernel_rfl) | (rw [if_neg (by decide +kernel)]; exact ⟨rfl, rfl⟩))
    (fun os started H enc _ => lifted os started H enc)
theorem proved : Rows.RingTurnsSaid := over
end ringTurns
#print axioms ringTurns.proved
end Go.Proofs.YtnockfncodafeaaGreat
