/-
  A part of the proof of a statement of this seat: the model is run over values by content, proved sound; what the functions come to. No condition beyond the given statements. (text 5)
-/
import Derived.Test.YtbflnilnlangpaaP3
namespace Go.Ev
open Go.Proofs
set_option maxRecDepth 100000
set_option linter.unusedVariables false
set_option linter.unusedSimpArgs false
noncomputable def stepP_s (n : Int) : Option (Bool × D RC) := some (rng n, .int .u32 (crcS n))
noncomputable def stepP_sp : List (D RC) → Option (Bool × D RC)
  | [.int .u32 n] => stepP_s n
  | _ => none
noncomputable def stepP_e (n : Int) := evF s06 uk_4 40 88 [.int .u32 n]
theorem stepP_eq (n : Int) : stepP_e n = (some (D.int IntKind.u32 (bits IntKind.u32 (fun (x : Nat) (u v : BitVec x) => u ^^^ v) (Int.fdiv n (2 : Int)) (IntKind.wrap IntKind.u32 (bits IntKind.u32 (fun (x : Nat) (u v : BitVec x) => u &&& v) n (1 : Int) * (3988292384 : Int)))))) := by kernel_rfl
theorem stepP_ok (n : Int) (h : (rng n) = true) : stepP_e n = some (.int .u32 (crcS n)) := by
  rw [stepP_eq]
  have hr := rng_iff.1 h
  rw [and1 hr, half hr.1]
  congr 2
  unfold crcS
  split
  · rename_i e
    rw [e, u32_wrap]; rfl
  · rename_i e
    have e0 : n % 2 = 0 := by omega
    rw [e0, u32_wrap]
    exact xor32_zero (by omega)
noncomputable def ut_1 := uk_4.addSpec 88 stepP_sp
theorem ut_1_laws : FLaws Try.prog s06 ut_1 := uk_4_laws.addEv s06_laws fun args d h => by
  unfold stepP_sp at h
  split at h
  · unfold stepP_s at h
    have h1 := congrArg Prod.fst (Option.some.inj h)
    obtain rfl : _ = d := congrArg Prod.snd (Option.some.inj h)
    exact ⟨by simp [D.refs], 40, stepP_ok _ h1⟩
  · cases h
noncomputable def stepR_s (n : Int) : Option (Bool × D RC) := some (rng n, .int .u32 (crcS n))
noncomputable def stepR_sp : List (D RC) → Option (Bool × D RC)
  | [.int .u32 n] => stepR_s n
  | _ => none
noncomputable def stepR_e (n : Int) := evF s06 ut_1 40 87 [.int .u32 n]
theorem stepR_eq (n : Int) : stepR_e n = (let Z0 : Int := Int.fdiv n (2 : Int); bif bits IntKind.u32 (fun (x : Nat) (u v : BitVec x) => u &&& v) n (1 : Int) == (1 : Int) then some (D.int IntKind.u32 (bits IntKind.u32 (fun (x : Nat) (u v : BitVec x) => u ^^^ v) Z0 (3988292384 : Int))) else some (D.int IntKind.u32 Z0)) := by kernel_rfl
theorem stepR_ok (n : Int) (h : (rng n) = true) : stepR_e n = some (.int .u32 (crcS n)) := by
  (rw [stepR_eq]; conv => zeta)
  have hr := rng_iff.1 h
  rw [and1 hr, half hr.1]
  unfold crcS
  by_cases e : n % 2 = 1
  · rw [if_pos e, ibeqT e]; rfl
  · rw [if_neg e, ibeqF e]; rfl
noncomputable def ut_2 := ut_1.addSpec 87 stepR_sp
theorem ut_2_laws : FLaws Try.prog s06 ut_2 := ut_1_laws.addEv s06_laws fun args d h => by
  unfold stepR_sp at h
  split at h
  · unfold stepR_s at h
    have h1 := congrArg Prod.fst (Option.some.inj h)
    obtain rfl : _ = d := congrArg Prod.snd (Option.some.inj h)
    exact ⟨by simp [D.refs], 40, stepR_ok _ h1⟩
  · cases h
structure on8P_St where
  n : Int
  i : Nat
noncomputable def on8P_c (n : Int) (i : Nat) : Env RC := [(0, .int .u32 n), (17, .int .i64 (i : Int))]
def on8P_o (n : Int) (i : Nat) : List (Obj RC) := []
noncomputable def on8P_r (n : Int) (i : Nat) := rndO s06 ut_2 86 6 60 0 [0, 17] [0] [] (on8P_c n i) (on8P_o n i)
theorem on8P_eq (n : Int) (i : Nat) : on8P_r n i = (bif decide ((↑i : Int) < (8 : Int)) then bif rng n then some ((X.normal, [(0, D.int IntKind.u32 (crcS n)), (17, D.int .i64 (IntKind.wrap .i64 ((↑i : Int) + (1 : Int))))]), []) else none else some ((X.exit (2 : Nat), [(0, D.int IntKind.u32 n)]), [])) := by kernel_rfl
noncomputable def on8P_fin (n : Int) (i : Nat) : RT RC := .leaf (.exit 2) [(0, .int .u32 (iterS (8 - i) n))] []
def on8P_Inv (n : Int) (i : Nat) : Prop := i ≤ 8 ∧ rng n = true
noncomputable def on8P_S : LoopR RC on8P_St where
  k := 0
  canon q := on8P_c q.n q.i
  objs q := on8P_o q.n q.i
  fin q := on8P_fin q.n q.i
  Inv q := on8P_Inv q.n q.i
  μ q := 8 - q.i
theorem on8P_round (n : Int) (i : Nat) (hI : on8P_Inv n i) : Leaf (on8P_r n i) (LedR on8P_S ⟨n, i⟩) := by
  rw [on8P_eq]
  unfold on8P_Inv at hI
  obtain ⟨h1, h2⟩ := hI
  by_cases hlt : i < 8
  · have c1 : decide ((i : Int) < 8) = true := by simp; omega
    have w_succ : IntKind.i64.wrap ((i : Int) + 1) = ((i + 1 : Nat) : Int) := by rw [wrap_id (by omega) (by omega)]; simp
    rw [c1, h2, w_succ]
    refine leafR_go ⟨crcS n, i + 1⟩ ⟨hlt, rng_s h2⟩ (by simp only [on8P_S]; omega) ?_ rfl rfl
    simp only [on8P_S, on8P_fin, show 8 - i = (8 - (i + 1)) + 1 by omega, iterS]
  · have hi : i = 8 := by omega
    have c1 : decide ((i : Int) < 8) = false := by simp; omega
    rw [c1]
    exact leafR_exit [] (by simp only [on8P_S, on8P_fin, hi, Nat.sub_self, iterS, RT.val]) rfl
noncomputable def on8P_d (env : Env RC) (os : List (Obj RC)) : Option (Bool × on8P_St) := match env, os with
  | [(0, .int .u32 n), (17, .int .i64 x0)], [] => staticD (true) (decide (x0 = 0) && rng n, ⟨n, 0⟩)
  | _, _ => none
noncomputable def ut_3 := ut_2.addLoop 86 6 (sumR s06 [] [0, 17] on8P_S on8P_d)
theorem ut_3_laws : FLaws Try.prog s06 ut_3 := by
  refine ut_2_laws.addRoundsR s06_laws (by kernel_rfl) on8P_S 60 [0, 17] [0] [] [0, 17] on8P_d (fun q hI => ?_) ?_
  · obtain ⟨n, i⟩ := q
    refine ⟨?_, ?_, on8P_round n i hI⟩
    · simp_all [RefsOK, on8P_S, on8P_c, on8P_o, on8P_Inv, D.refs, Obj.refs, rEnc]
    · simp_all [on8P_S, on8P_fin, on8P_o, on8P_Inv, RT.refsOK, RefsOK, D.refs, Obj.refs, rEnc]
  · intro env os b q hd_ hb
    unfold on8P_d at hd_
    split at hd_
    · obtain ⟨hs, hd_⟩ := staticD_some hd_
      cases hd_
      simp only [Bool.and_eq_true, decide_eq_true_eq] at hb
      obtain ⟨rfl, h⟩ := hb
      exact ⟨⟨Nat.zero_le _, h⟩, rfl, rfl⟩
    · cases hd_
structure on8R_St where
  n : Int
  i : Nat
noncomputable def on8R_c (n : Int) (i : Nat) : Env RC := [(0, .int .u32 n), (6, .int .i64 (i : Int))]
def on8R_o (n : Int) (i : Nat) : List (Obj RC) := []
noncomputable def on8R_r (n : Int) (i : Nat) := rndO s06 ut_3 84 6 60 0 [0, 6] [0] [] (on8R_c n i) (on8R_o n i)
theorem on8R_eq (n : Int) (i : Nat) : on8R_r n i = (bif decide ((↑i : Int) < (8 : Int)) then bif rng n then some ((X.normal, [(0, D.int IntKind.u32 (crcS n)), (6, D.int .i64 (IntKind.wrap .i64 ((↑i : Int) + (1 : Int))))]), []) else none else some ((X.exit (2 : Nat), [(0, D.int IntKind.u32 n)]), [])) := by kernel_rfl
noncomputable def on8R_fin (n : Int) (i : Nat) : RT RC := .leaf (.exit 2) [(0, .int .u32 (iterS (8 - i) n))] []
def on8R_Inv (n : Int) (i : Nat) : Prop := i ≤ 8 ∧ rng n = true
noncomputable def on8R_S : LoopR RC on8R_St where
  k := 0
  canon q := on8R_c q.n q.i
  objs q := on8R_o q.n q.i
  fin q := on8R_fin q.n q.i
  Inv q := on8R_Inv q.n q.i
  μ q := 8 - q.i
theorem on8R_round (n : Int) (i : Nat) (hI : on8R_Inv n i) : Leaf (on8R_r n i) (LedR on8R_S ⟨n, i⟩) := by
  rw [on8R_eq]
  unfold on8R_Inv at hI
  obtain ⟨h1, h2⟩ := hI
  by_cases hlt : i < 8
  · have c1 : decide ((i : Int) < 8) = true := by simp; omega
    have w_succ : IntKind.i64.wrap ((i : Int) + 1) = ((i + 1 : Nat) : Int) := by rw [wrap_id (by omega) (by omega)]; simp
    rw [c1, h2, w_succ]
    refine leafR_go ⟨crcS n, i + 1⟩ ⟨hlt, rng_s h2⟩ (by simp only [on8R_S]; omega) ?_ rfl rfl
    simp only [on8R_S, on8R_fin, show 8 - i = (8 - (i + 1)) + 1 by omega, iterS]
  · have hi : i = 8 := by omega
    have c1 : decide ((i : Int) < 8) = false := by simp; omega
    rw [c1]
    exact leafR_exit [] (by simp only [on8R_S, on8R_fin, hi, Nat.sub_self, iterS, RT.val]) rfl
noncomputable def on8R_d (env : Env RC) (os : List (Obj RC)) : Option (Bool × on8R_St) := match env, os with
  | [(0, .int .u32 n), (6, .int .i64 x0)], [] => staticD (true) (decide (x0 = 0) && rng n, ⟨n, 0⟩)
  | _, _ => none
noncomputable def ut_4 := ut_3.addLoop 84 6 (sumR s06 [] [0, 6] on8R_S on8R_d)
theorem ut_4_laws : FLaws Try.prog s06 ut_4 := by
  refine ut_3_laws.addRoundsR s06_laws (by kernel_rfl) on8R_S 60 [0, 6] [0] [] [0, 6] on8R_d (fun q hI => ?_) ?_
  · obtain ⟨n, i⟩ := q
    refine ⟨?_, ?_, on8R_round n i hI⟩
    · simp_all [RefsOK, on8R_S, on8R_c, on8R_o, on8R_Inv, D.refs, Obj.refs, rEnc]
    · simp_all [on8R_S, on8R_fin, on8R_o, on8R_Inv, RT.refsOK, RefsOK, D.refs, Obj.refs, rEnc]
  · intro env os b q hd_ hb
    unfold on8R_d at hd_
    split at hd_
    · obtain ⟨hs, hd_⟩ := staticD_some hd_
      cases hd_
      simp only [Bool.and_eq_true, decide_eq_true_eq] at hb
      obtain ⟨rfl, h⟩ := hb
      exact ⟨⟨Nat.zero_le _, h⟩, rfl, rfl⟩
    · cases hd_
structure onPl_St where
  n : Int
  c : Bool
  b : List UInt8
  i : Nat
noncomputable def onPl_c (n : Int) (c : Bool) (b : List UInt8) (i : Nat) : Env RC := [(0, .int .u32 n), (7, .sl (C := RC) .u8 c b), (8, .int .i64 (b.length)), (9, .int .i64 (i : Int))]
def onPl_o (n : Int) (c : Bool) (b : List UInt8) (i : Nat) : List (Obj RC) := []
noncomputable def onPl_r (n : Int) (c : Bool) (b : List UInt8) (i : Nat) := rndO s06 ut_4 86 2 60 0 [0, 7, 8, 9] [0] [] (onPl_c n c b i) (onPl_o n c b i)
theorem onPl_eq (n : Int) (c : Bool) (b : List UInt8) (i : Nat) : onPl_r n c b i = (let Z0 : Int := (↑i : Int); let Z1 : Int := (↑b.length : Int); let Z2 : Int := bits IntKind.u32 (fun (x : Nat) (u v : BitVec x) => u ^^^ v) n (IntKind.wrap IntKind.u32 (↑(UInt8.toNat (List.getD b Z0.toNat (UInt8.ofBitVec (BitVec.ofNat (8 : Nat) (nat_lit 0))))) : Int)); bif decide (Z0 < Z1) then bif decide ((0 : Int) ≤ Z0 ∧ Z0 < Z1) then bif rng Z2 then some ((X.normal, [(0, D.int IntKind.u32 (iterS (8 : Nat) Z2)), (7, D.sl RTy.u8 c b), (8, D.int .i64 Z1), (9, D.int .i64 (IntKind.wrap .i64 (Z0 + (1 : Int))))]), []) else none else none else some ((X.exit (0 : Nat), [(0, D.int IntKind.u32 n)]), [])) := by kernel_rfl
noncomputable def onPl_fin (n : Int) (c : Bool) (b : List UInt8) (i : Nat) : RT RC := .leaf (.exit 0) [(0, .int .u32 (crcOn n (b.drop i)))] []
def onPl_Inv (n : Int) (c : Bool) (b : List UInt8) (i : Nat) : Prop := i ≤ b.length ∧ b.length ≤ 1000000
noncomputable def onPl_S : LoopR RC onPl_St where
  k := 0
  canon q := onPl_c q.n q.c q.b q.i
  objs q := onPl_o q.n q.c q.b q.i
  fin q := onPl_fin q.n q.c q.b q.i
  Inv q := onPl_Inv q.n q.c q.b q.i
  μ q := q.b.length - q.i
theorem onPl_round (n : Int) (c : Bool) (b : List UInt8) (i : Nat) (hI : onPl_Inv n c b i) : Leaf (onPl_r n c b i) (LedR onPl_S ⟨n, c, b, i⟩) := by
  (rw [onPl_eq]; conv => zeta)
  unfold onPl_Inv at hI
  obtain ⟨h1, h2⟩ := hI
  by_cases hlt : i < b.length
  · have w_succ : IntKind.i64.wrap ((i : Int) + 1) = ((i + 1 : Nat) : Int) := by rw [wrap_id (by omega) (by omega)]; simp
    have d_lt : decide ((i : Int) < b.length) = true := by simp; omega
    have d_in : decide (0 ≤ (i : Int) ∧ (i : Int) < b.length) = true := by simp; omega
    have t_nat : ((i : Int)).toNat = i := by simp
    simp only [w_succ, d_lt, d_in, t_nat, cond_true]
    have hx : ∀ x : Int, rng (bits .u32 (fun _ u v => u ^^^ v) n x) = true := fun x => rng_x n x
    simp only [u8_u32, hx, cond_true]
    refine leafR_go ⟨crc8 (xor32 n ((b.getD i 0).toNat : Int)), c, b, i + 1⟩ ⟨hlt, h2⟩ (by simp only [onPl_S]; omega) ?_ rfl rfl
    simp only [onPl_S, onPl_fin, crcOn_step b i n hlt 0]
  · have hi : i = b.length := by omega
    have c1 : decide ((i : Int) < b.length) = false := by simp; omega
    rw [c1]
    exact leafR_exit [] (by simp only [onPl_S, onPl_fin, hi, List.drop_length, crcOn_nil, RT.val]) rfl
noncomputable def onPl_d (env : Env RC) (os : List (Obj RC)) : Option (Bool × onPl_St) := match env, os with
  | [(0, .int .u32 n), (7, .sl .u8 c b), (8, .int .i64 x0), (9, .int .i64 x1)], [] => staticD (true) (decide (x0 = b.length) && decide (x1 = 0) && decide (b.length ≤ 1000000), ⟨n, c, b, 0⟩)
  | _, _ => none
noncomputable def ut_5 := ut_4.addLoop 86 2 (sumR s06 [] [0, 7, 8, 9] onPl_S onPl_d)
theorem ut_5_laws : FLaws Try.prog s06 ut_5 := by
  refine ut_4_laws.addRoundsR s06_laws (by kernel_rfl) onPl_S 60 [0, 7, 8, 9] [0] [] [0, 7, 8, 9] onPl_d (fun q hI => ?_) ?_
  · obtain ⟨n, c, b, i⟩ := q
    refine ⟨?_, ?_, onPl_round n c b i hI⟩
    · simp_all [RefsOK, onPl_S, onPl_c, onPl_o, onPl_Inv, D.refs, Obj.refs, rEnc]
    · simp_all [onPl_S, onPl_fin, onPl_o, onPl_Inv, RT.refsOK, RefsOK, D.refs, Obj.refs, rEnc]
  · intro env os b q hd_ hb
    unfold onPl_d at hd_
    split at hd_
    · obtain ⟨hs, hd_⟩ := staticD_some hd_
      cases hd_
      simp only [Bool.and_eq_true, decide_eq_true_eq] at hb
      obtain ⟨⟨rfl, rfl⟩, h⟩ := hb
      exact ⟨⟨Nat.zero_le _, h⟩, rfl, rfl⟩
    · cases hd_
structure onRl_St where
  n : Int
  c : Bool
  b : List UInt8
  i : Nat
noncomputable def onRl_c (n : Int) (c : Bool) (b : List UInt8) (i : Nat) : Env RC := [(0, .int .u32 n), (1, .sl (C := RC) .u8 c b), (5, .int .i64 (i : Int))]
def onRl_o (n : Int) (c : Bool) (b : List UInt8) (i : Nat) : List (Obj RC) := []
noncomputable def onRl_r (n : Int) (c : Bool) (b : List UInt8) (i : Nat) := rndO s06 ut_5 84 2 60 0 [0, 1, 5] [0] [] (onRl_c n c b i) (onRl_o n c b i)
theorem onRl_eq (n : Int) (c : Bool) (b : List UInt8) (i : Nat) : onRl_r n c b i = (let Z0 : Int := (↑i : Int); let Z1 : Int := bits IntKind.u32 (fun (x : Nat) (u v : BitVec x) => u ^^^ v) n (IntKind.wrap IntKind.u32 (↑(UInt8.toNat (List.getD b Z0.toNat (UInt8.ofBitVec (BitVec.ofNat (8 : Nat) (nat_lit 0))))) : Int)); bif lenOK b.length then bif decide (Z0 < (↑b.length : Int)) then bif decide ((0 : Int) ≤ Z0 ∧ Z0 < (↑b.length : Int)) then bif rng Z1 then some ((X.normal, [(0, D.int IntKind.u32 (iterS (8 : Nat) Z1)), (1, D.sl RTy.u8 c b), (5, D.int .i64 (IntKind.wrap .i64 (Z0 + (1 : Int))))]), []) else none else none else some ((X.exit (0 : Nat), [(0, D.int IntKind.u32 n)]), []) else none) := by kernel_rfl
noncomputable def onRl_fin (n : Int) (c : Bool) (b : List UInt8) (i : Nat) : RT RC := .leaf (.exit 0) [(0, .int .u32 (crcOn n (b.drop i)))] []
def onRl_Inv (n : Int) (c : Bool) (b : List UInt8) (i : Nat) : Prop := i ≤ b.length ∧ b.length ≤ 1000000
noncomputable def onRl_S : LoopR RC onRl_St where
  k := 0
  canon q := onRl_c q.n q.c q.b q.i
  objs q := onRl_o q.n q.c q.b q.i
  fin q := onRl_fin q.n q.c q.b q.i
  Inv q := onRl_Inv q.n q.c q.b q.i
  μ q := q.b.length - q.i
theorem onRl_round (n : Int) (c : Bool) (b : List UInt8) (i : Nat) (hI : onRl_Inv n c b i) : Leaf (onRl_r n c b i) (LedR onRl_S ⟨n, c, b, i⟩) := by
  (rw [onRl_eq]; conv => zeta)
  unfold onRl_Inv at hI
  obtain ⟨h1, h2⟩ := hI
  have hlk : lenOK b.length = true := lenOK_of (by omega)
  by_cases hlt : i < b.length
  · have w_succ : IntKind.i64.wrap ((i : Int) + 1) = ((i + 1 : Nat) : Int) := by rw [wrap_id (by omega) (by omega)]; simp
    have d_lt : decide ((i : Int) < b.length) = true := by simp; omega
    have d_in : decide (0 ≤ (i : Int) ∧ (i : Int) < b.length) = true := by simp; omega
    have t_nat : ((i : Int)).toNat = i := by simp
    simp only [w_succ, d_lt, d_in, t_nat, cond_true]
    have hx : ∀ x : Int, rng (bits .u32 (fun _ u v => u ^^^ v) n x) = true := fun x => rng_x n x
    simp only [u8_u32, hx, hlk, cond_true]
    refine leafR_go ⟨crc8 (xor32 n ((b.getD i 0).toNat : Int)), c, b, i + 1⟩ ⟨hlt, h2⟩ (by simp only [onRl_S]; omega) ?_ rfl rfl
    simp only [onRl_S, onRl_fin, crcOn_step b i n hlt 0]
  · have hi : i = b.length := by omega
    have c1 : decide ((i : Int) < b.length) = false := by simp; omega
    rw [hlk, c1]
    exact leafR_exit [] (by simp only [onRl_S, onRl_fin, hi, List.drop_length, crcOn_nil, RT.val]) rfl
noncomputable def onRl_d (env : Env RC) (os : List (Obj RC)) : Option (Bool × onRl_St) := match env, os with
  | [(0, .int .u32 n), (1, .sl .u8 c b), (5, .int .i64 x0)], [] => staticD (true) (decide (x0 = 0) && decide (b.length ≤ 1000000), ⟨n, c, b, 0⟩)
  | _, _ => none
noncomputable def ut_6 := ut_5.addLoop 84 2 (sumR s06 [] [0, 1, 5] onRl_S onRl_d)
theorem ut_6_laws : FLaws Try.prog s06 ut_6 := by
  refine ut_5_laws.addRoundsR s06_laws (by kernel_rfl) onRl_S 60 [0, 1, 5] [0] [] [0, 1, 5] onRl_d (fun q hI => ?_) ?_
  · obtain ⟨n, c, b, i⟩ := q
    refine ⟨?_, ?_, onRl_round n c b i hI⟩
    · simp_all [RefsOK, onRl_S, onRl_c, onRl_o, onRl_Inv, D.refs, Obj.refs, rEnc]
    · simp_all [onRl_S, onRl_fin, onRl_o, onRl_Inv, RT.refsOK, RefsOK, D.refs, Obj.refs, rEnc]
  · intro env os b q hd_ hb
    unfold onRl_d at hd_
    split at hd_
    · obtain ⟨hs, hd_⟩ := staticD_some hd_
      cases hd_
      simp only [Bool.and_eq_true, decide_eq_true_eq] at hb
      obtain ⟨rfl, h⟩ := hb
      exact ⟨⟨Nat.zero_le _, h⟩, rfl, rfl⟩
    · cases hd_
def onP_s (n : Int) (c : Bool) (b : List UInt8) : Option (Bool × D RC) := some (decide (b.length ≤ 1000000), .int .u32 (crcOn n b))
def onP_sp : List (D RC) → Option (Bool × D RC)
  | [.int .u32 n, .sl .u8 c b] => onP_s n c b
  | _ => none
noncomputable def onP_e (n : Int) (c : Bool) (b : List UInt8) := evF s06 ut_6 60 86 [.int .u32 n, .sl (C := RC) .u8 c b]
theorem onP_eq (n : Int) (c : Bool) (b : List UInt8) : onP_e n c b = (let Z0 : Nat := List.length b; bif lenOK Z0 then bif decide ((↑Z0 : Int) = (↑Z0 : Int)) && true && decide (Z0 ≤ (1000000 : Nat)) then some (D.int IntKind.u32 (crcOn n (List.drop (0 : Nat) b))) else none else none) := by kernel_rfl
theorem onP_ok (n : Int) (c : Bool) (b : List UInt8) (h : (decide (b.length ≤ 1000000)) = true) : onP_e n c b = some (.int .u32 (crcOn n b)) := by
  (rw [onP_eq]; conv => zeta)
  have hl := of_decide_eq_true h
  rw [lenOK_of (by omega), h]
  simp
noncomputable def ut_7 := ut_6.addSpec 86 onP_sp
theorem ut_7_laws : FLaws Try.prog s06 ut_7 := ut_6_laws.addEv s06_laws fun args d h => by
  unfold onP_sp at h
  split at h
  · unfold onP_s at h
    have h1 := congrArg Prod.fst (Option.some.inj h)
    obtain rfl : _ = d := congrArg Prod.snd (Option.some.inj h)
    exact ⟨by simp [D.refs], 60, onP_ok _ _ _ h1⟩
  · cases h
def onR_s (n : Int) (c : Bool) (b : List UInt8) : Option (Bool × D RC) := some (decide (b.length ≤ 1000000), .int .u32 (crcOn n b))
def onR_sp : List (D RC) → Option (Bool × D RC)
  | [.int .u32 n, .sl .u8 c b] => onR_s n c b
  | _ => none
noncomputable def onR_e (n : Int) (c : Bool) (b : List UInt8) := evF s06 ut_7 60 84 [.int .u32 n, .sl (C := RC) .u8 c b]
theorem onR_eq (n : Int) (c : Bool) (b : List UInt8) : onR_e n c b = (bif decide (List.length b ≤ (1000000 : Nat)) then some (D.int IntKind.u32 (crcOn n (List.drop (0 : Nat) b))) else none) := by kernel_rfl
theorem onR_ok (n : Int) (c : Bool) (b : List UInt8) (h : (decide (b.length ≤ 1000000)) = true) : onR_e n c b = some (.int .u32 (crcOn n b)) := by
  rw [onR_eq]
  have hl := of_decide_eq_true h
  rw [h]
  simp
noncomputable def ut_8 := ut_7.addSpec 84 onR_sp
theorem ut_8_laws : FLaws Try.prog s06 ut_8 := ut_7_laws.addEv s06_laws fun args d h => by
  unfold onR_sp at h
  split at h
  · unfold onR_s at h
    have h1 := congrArg Prod.fst (Option.some.inj h)
    obtain rfl : _ = d := congrArg Prod.snd (Option.some.inj h)
    exact ⟨by simp [D.refs], 60, onR_ok _ _ _ h1⟩
  · cases h
def sumP_s (c : Bool) (b : List UInt8) : Option (Bool × D RC) := some (decide (b.length ≤ 1000000), .int .u32 (crcOf b))
def sumP_sp : List (D RC) → Option (Bool × D RC)
  | [.sl .u8 c b] => sumP_s c b
  | _ => none
noncomputable def sumP_e (c : Bool) (b : List UInt8) := evF s06 ut_8 60 72 [.sl (C := RC) .u8 c b]
theorem sumP_eq (c : Bool) (b : List UInt8) : sumP_e c b = (bif decide (List.length b ≤ (1000000 : Nat)) then some (D.int IntKind.u32 (bits IntKind.u32 (fun (x : Nat) (u v : BitVec x) => u ^^^ v) (4294967295 : Int) (crcOn (4294967295 : Int) b))) else none) := by kernel_rfl
theorem sumP_ok (c : Bool) (b : List UInt8) (h : (decide (b.length ≤ 1000000)) = true) : sumP_e c b = some (.int .u32 (crcOf b)) := by
  rw [sumP_eq]
  rw [h]; rfl
noncomputable def ut_9 := ut_8.addSpec 72 sumP_sp
theorem ut_9_laws : FLaws Try.prog s06 ut_9 := ut_8_laws.addEv s06_laws fun args d h => by
  unfold sumP_sp at h
  split at h
  · unfold sumP_s at h
    have h1 := congrArg Prod.fst (Option.some.inj h)
    obtain rfl : _ = d := congrArg Prod.snd (Option.some.inj h)
    exact ⟨by simp [D.refs], 60, sumP_ok _ _ h1⟩
  · cases h
def sumR_s (c : Bool) (b : List UInt8) : Option (Bool × D RC) := some (decide (b.length ≤ 1000000), .int .u32 (crcOf b))
def sumR_sp : List (D RC) → Option (Bool × D RC)
  | [.sl .u8 c b] => sumR_s c b
  | _ => none
noncomputable def sumR_e (c : Bool) (b : List UInt8) := evF s06 ut_9 60 74 [.sl (C := RC) .u8 c b]
theorem sumR_eq (c : Bool) (b : List UInt8) : sumR_e c b = (bif decide (List.length b ≤ (1000000 : Nat)) then some (D.int IntKind.u32 (bits IntKind.u32 (fun (x : Nat) (u v : BitVec x) => u ^^^ v) (4294967295 : Int) (crcOn (4294967295 : Int) b))) else none) := by kernel_rfl
theorem sumR_ok (c : Bool) (b : List UInt8) (h : (decide (b.length ≤ 1000000)) = true) : sumR_e c b = some (.int .u32 (crcOf b)) := by
  rw [sumR_eq]
  rw [h]; rfl
noncomputable def ut_10 := ut_9.addSpec 74 sumR_sp
theorem ut_10_laws : FLaws Try.prog s06 ut_10 := ut_9_laws.addEv s06_laws fun args d h => by
  unfold sumR_sp at h
  split at h
  · unfold sumR_s at h
    have h1 := congrArg Prod.fst (Option.some.inj h)
    obtain rfl : _ = d := congrArg Prod.snd (Option.some.inj h)
    exact ⟨by simp [D.refs], 60, sumR_ok _ _ h1⟩
  · cases h
def sealP_s (c : Bool) (b : List UInt8) : Option (Bool × D RC) := some (decide (b.length ≤ 1000000), .sl (C := RC) .u8 false (sealL b))
def sealP_sp : List (D RC) → Option (Bool × D RC)
  | [.sl .u8 c b] => sealP_s c b
  | _ => none
noncomputable def sealP_e (c : Bool) (b : List UInt8) := evF s06 ut_10 60 54 [.sl (C := RC) .u8 c b]
theorem sealP_eq (c : Bool) (b : List UInt8) : sealP_e c b = (let Z0 : Nat := List.length b; let Z1 : Int := (↑Z0 : Int); let Z2 : Int := IntKind.wrap .i64 (Z1 + (4 : Int)); let Z3 : Nat := Int.toNat Z1; let Z4 : List UInt8 := List.replicate Z3 (UInt8.ofBitVec (BitVec.ofNat (8 : Nat) (nat_lit 0))); let Z5 : List UInt8 := List.take Z4.length b ++ List.drop Z0 Z4; let Z6 : List UInt8 := [UInt8.ofNat (IntKind.wrap IntKind.u8 (crcOf b)).toNat]; let Z7 : Nat := List.length Z5 + List.length Z6; let Z8 : Nat := List.length (Z5 ++ Z6); let Z9 : Int := Int.fdiv (crcOf b) (256 : Int); let Z10 : List UInt8 := [UInt8.ofNat (IntKind.wrap IntKind.u8 Z9).toNat]; let Z11 : Nat := List.length (Z5 ++ Z6 ++ Z10); let Z12 : Int := Int.fdiv Z9 (256 : Int); let Z13 : List UInt8 := [UInt8.ofNat (IntKind.wrap IntKind.u8 Z12).toNat]; let Z14 : Nat := List.length (Z5 ++ Z6 ++ Z10 ++ Z13); let Z15 : List UInt8 := [UInt8.ofNat (IntKind.wrap IntKind.u8 (Int.fdiv Z12 (256 : Int))).toNat]; bif lenOK Z0 then bif lenOK Z0 then bif decide ((0 : Int) ≤ Z1 ∧ Z1 ≤ Z2) && sizeOK Z2.toNat (1 : Nat) then bif Nat.beq Z3 Z4.length && lenOK Z3 then bif decide (Z0 ≤ (1000000 : Nat)) then bif Nat.beq Z3 Z5.length && sizeOK (Z3 + List.length Z6) (1 : Nat) then bif Nat.beq Z7 Z8 && sizeOK (Z7 + List.length Z10) (1 : Nat) then bif Nat.beq (Z8 + List.length Z10) Z11 && sizeOK (Z8 + List.length Z10 + List.length Z13) (1 : Nat) then bif Nat.beq (Z11 + List.length Z13) Z14 && sizeOK (Z11 + List.length Z13 + List.length Z15) (1 : Nat) then bif Nat.beq (Z14 + List.length Z15) (Z5 ++ Z6 ++ Z10 ++ Z13 ++ Z15).length then some (D.sl RTy.u8 false (Z5 ++ Z6 ++ Z10 ++ Z13 ++ Z15)) else none else none else none else none else none else none else none else none else none else none) := by kernel_rfl
theorem sealP_ok (c : Bool) (b : List UInt8) (h : (decide (b.length ≤ 1000000)) = true) : sealP_e c b = some (.sl (C := RC) .u8 false (sealL b)) := by
  (rw [sealP_eq]; conv => zeta)
  have hl := of_decide_eq_true h
  have t1 : ((b.length : Int)).toNat = b.length := by simp
  have t2 : b.take (List.replicate b.length (⟨0#8⟩ : UInt8)).length = b := by simp
  have t3 : (List.replicate b.length (⟨0#8⟩ : UInt8)).drop b.length = [] := by simp
  have w4 : IntKind.i64.wrap ((b.length : Int) + 4) = (b.length : Int) + 4 := wrap_id (by omega) (by omega)
  have t4 : ((b.length : Int) + 4).toNat = b.length + 4 := by omega
  simp only [t1, t2, t3, t4, w4, List.append_nil, byteOf_wrap, List.append_assoc, List.cons_append, List.nil_append, List.length_cons, List.length_nil, List.length_append, List.length_replicate, List.take_length, Nat.zero_add, Nat.reduceAdd, Nat.add_assoc]
  have eb : ∀ n : Nat, n.beq n = true := fun n => by simp
  have es : ∀ k : Nat, k ≤ 10 → sizeOK (b.length + k) 1 = true := fun k hk => sizeT (by omega)
  simp only [eb, es, Nat.reduceLeDiff, Bool.and_self, Bool.true_and, cond_true]
  repeat (refine cond_of (by first | assumption | exact lenOK_of (by omega) | exact sizeT (by omega) | (simp; done) | (simp; omega) | (simp [sizeOK]; omega)) ?_)
  rfl
noncomputable def ut_11 := ut_10.addSpec 54 sealP_sp
theorem ut_11_laws : FLaws Try.prog s06 ut_11 := ut_10_laws.addEv s06_laws fun args d h => by
  unfold sealP_sp at h
  split at h
  · unfold sealP_s at h
    have h1 := congrArg Prod.fst (Option.some.inj h)
    obtain rfl : _ = d := congrArg Prod.snd (Option.some.inj h)
    exact ⟨by simp [D.refs], 60, sealP_ok _ _ h1⟩
  · cases h
def sealR_s (c : Bool) (b : List UInt8) : Option (Bool × D RC) := some (decide (b.length ≤ 1000000), .sl (C := RC) .u8 false (sealL b))
def sealR_sp : List (D RC) → Option (Bool × D RC)
  | [.sl .u8 c b] => sealR_s c b
  | _ => none
noncomputable def sealR_e (c : Bool) (b : List UInt8) := evF s06 ut_11 60 57 [.sl (C := RC) .u8 c b]
theorem sealR_eq (c : Bool) (b : List UInt8) : sealR_e c b = (let Z0 : Nat := (0 : Nat) + List.length b; let Z1 : Nat := List.length ([] ++ b); let Z2 : Int := crcOf b; let Z3 : List UInt8 := [UInt8.ofNat (IntKind.wrap IntKind.u8 (bits IntKind.u32 (fun (x : Nat) (u v : BitVec x) => u &&& v) Z2 (255 : Int))).toNat, UInt8.ofNat (IntKind.wrap IntKind.u8 (bits IntKind.u32 (fun (x : Nat) (u v : BitVec x) => u &&& v) (Int.fdiv Z2 (256 : Int)) (255 : Int))).toNat, UInt8.ofNat (IntKind.wrap IntKind.u8 (bits IntKind.u32 (fun (x : Nat) (u v : BitVec x) => u &&& v) (Int.fdiv Z2 (65536 : Int)) (255 : Int))).toNat, UInt8.ofNat (IntKind.wrap IntKind.u8 (Int.fdiv Z2 (16777216 : Int))).toNat]; bif decide (List.length b ≤ (1000000 : Nat)) then bif sizeOK Z0 (1 : Nat) then bif Nat.beq Z0 Z1 && sizeOK (Z0 + List.length Z3) (1 : Nat) then bif Nat.beq (Z1 + List.length Z3) ([] ++ b ++ Z3).length then some (D.sl RTy.u8 false ([] ++ b ++ Z3)) else none else none else none else none) := by kernel_rfl
theorem sealR_ok (c : Bool) (b : List UInt8) (h : (decide (b.length ≤ 1000000)) = true) : sealR_e c b = some (.sl (C := RC) .u8 false (sealL b)) := by
  (rw [sealR_eq]; conv => zeta)
  have hl := of_decide_eq_true h
  have hr := crcOf_range b
  have f8 : (crcOf b).fdiv 256 = crcOf b / 256 := Int.fdiv_eq_ediv_of_nonneg _ (by omega)
  have f16 : (crcOf b).fdiv 65536 = crcOf b / 65536 := Int.fdiv_eq_ediv_of_nonneg _ (by omega)
  have f24 : (crcOf b).fdiv 16777216 = crcOf b / 16777216 := Int.fdiv_eq_ediv_of_nonneg _ (by omega)
  have g1 : ((crcOf b).fdiv 256).fdiv 256 = crcOf b / 65536 := by rw [f8, Int.fdiv_eq_ediv_of_nonneg _ (by omega)]; omega
  have g2 : (((crcOf b).fdiv 256).fdiv 256).fdiv 256 = crcOf b / 16777216 := by rw [g1, Int.fdiv_eq_ediv_of_nonneg _ (by omega)]; omega
  simp only [f8, f16, f24, and255 hr, and255 (n := crcOf b / 256) (by omega), and255 (n := crcOf b / 65536) (by omega), byteOf_wrap, byteOf_mod, List.nil_append, List.length_cons, List.length_nil, List.length_append]
  iterate 4 refine cond_of (by first | exact lenOK_of (by simp; omega) | exact lenOK_of (by omega) | (simp [sizeOK]; done) | (simp [sizeOK]; omega) | omega) ?_
  rw [sealL, leB4, g2, g1, f8]
noncomputable def ut_12 := ut_11.addSpec 57 sealR_sp
theorem ut_12_laws : FLaws Try.prog s06 ut_12 := ut_11_laws.addEv s06_laws fun args d h => by
  unfold sealR_sp at h
  split at h
  · unfold sealR_s at h
    have h1 := congrArg Prod.fst (Option.some.inj h)
    obtain rfl : _ = d := congrArg Prod.snd (Option.some.inj h)
    exact ⟨by simp [D.refs], 60, sealR_ok _ _ h1⟩
  · cases h
def openP_s (c : Bool) (b : List UInt8) : Option (Bool × D RC) := some (decide (b.length ≤ 1000000), .tup (.acons (.sl (C := RC) .u8 (openL b).isNone ((openL b).getD [])) (.acons (.int .i64 (bif (openL b).isNone then 50 else 0)) .anil)))
def openP_sp : List (D RC) → Option (Bool × D RC)
  | [.sl .u8 c b] => openP_s c b
  | _ => none
noncomputable def openP_e (c : Bool) (b : List UInt8) := evF s06 ut_12 60 77 [.sl (C := RC) .u8 c b]
theorem openP_eq (c : Bool) (b : List UInt8) : openP_e c b = (let Z0 : Nat := List.length b; let Z1 : Int := IntKind.wrap .i64 ((↑Z0 : Int) - (4 : Int)); let Z2 : DO_ := some (D.tup (D.acons (D.sl RTy.u8 true []) (.acons (D.int .i64 50) .anil))); let Z3 : Nat := Int.toNat Z1; let Z4 : List UInt8 := List.drop (0 : Nat) (List.take Z3 b); let Z5 : List UInt8 := List.replicate Z3 (UInt8.ofBitVec (BitVec.ofNat (8 : Nat) (nat_lit 0))); let Z6 : List UInt8 := List.take Z5.length b ++ List.drop Z0 Z5; bif lenOK Z0 then bif decide (Z1 < (0 : Int)) then Z2 else bif decide ((0 : Int) ≤ (0 : Int) ∧ (0 : Int) ≤ Z1 ∧ Z1 ≤ (↑Z0 : Int) ∧ Z1 = Z1) then bif decide (List.length Z4 ≤ (1000000 : Nat)) then bif decide ((0 : Int) ≤ Z1 ∧ Z1 ≤ (↑(sealL Z4).length : Int)) then bif decide ((0 : Int) ≤ Z1 ∧ Z1 ≤ (↑Z0 : Int)) then bif !(fun (l : List (RA RTy.u8)) => l) (List.drop Z3 (sealL Z4)) == (fun (l : List (RA RTy.u8)) => l) (List.drop Z3 b) then Z2 else bif decide ((0 : Int) ≤ Z1 ∧ Z1 ≤ Z1) && sizeOK Z3 (1 : Nat) then bif Nat.beq Z3 Z5.length && lenOK Z3 then bif Nat.beq Z3 Z6.length then some (D.tup (D.acons (D.sl RTy.u8 false Z6) (.acons (D.int .i64 0) .anil))) else none else none else none else none else none else none else none else none) := by kernel_rfl
theorem openP_ok (c : Bool) (b : List UInt8) (h : (decide (b.length ≤ 1000000)) = true) : openP_e c b = some (.tup (.acons (.sl (C := RC) .u8 (openL b).isNone ((openL b).getD [])) (.acons (.int .i64 (bif (openL b).isNone then 50 else 0)) .anil))) := by
  (rw [openP_eq]; conv => zeta)
  have hl := of_decide_eq_true h
  have wm : IntKind.i64.wrap ((b.length : Int) - 4) = (b.length : Int) - 4 := wrap_id (by omega) (by omega)
  have tm : ((b.length : Int) - 4).toNat = b.length - 4 := by omega
  have ts : (b.take (b.length - 4)).length = b.length - 4 := by simp
  simp only [wm, tm, List.drop_zero]
  refine cond_of (lenOK_of (by omega)) ?_
  refine cond_two (fun h0 => ?_) fun h0 => ?_ <;> simp only [decide_eq_true_eq, decide_eq_false_iff_not] at h0
  · have e : openL b = none := by unfold openL; rw [if_neg (by omega)]
    rw [e]; rfl
  iterate 2 refine cond_of (by first | exact lenOK_of (by simp; omega) | exact lenOK_of (by omega) | (simp [sizeOK]; done) | (simp [sizeOK]; omega) | omega) ?_
  refine cond_of (by simp [sealL_len, ts]; omega) ?_
  iterate 1 refine cond_of (by first | exact lenOK_of (by simp; omega) | exact lenOK_of (by omega) | (simp [sizeOK]; done) | (simp [sizeOK]; omega) | omega) ?_
  have ht := openL_test b (by omega)
  by_cases hq : sealL (b.take (b.length - 4)) = b
  · have e : openL b = some (b.take (b.length - 4)) := by unfold openL; rw [if_pos ⟨by omega, hq⟩]
    rw [ht.2 hq, e]
    have tr : b.take (List.replicate (b.length - 4) (⟨0#8⟩ : UInt8)).length = b.take (b.length - 4) := by rw [List.length_replicate]
    have td : (List.replicate (b.length - 4) (⟨0#8⟩ : UInt8)).drop b.length = [] := by simp
    simp only [beq_self_eq_true, Bool.not_true, cond_false, tr, td, List.append_nil, List.length_replicate, ts]
    have lk : lenOK (b.length - 4) = true := lenOK_of (by omega)
    have eb : ∀ n : Nat, n.beq n = true := fun n => by simp
    simp only [lk, eb, Bool.and_self, cond_true]
    repeat (refine cond_of (by first | assumption | exact lenOK_of (by omega) | exact sizeT (by omega) | (simp; done) | (simp; omega) | (simp [sizeOK]; omega)) ?_)
    rfl
  · have e : openL b = none := by unfold openL; rw [if_neg (fun q => hq q.2)]
    rw [e, show ((sealL (b.take (b.length - 4))).drop (b.length - 4) == b.drop (b.length - 4)) = false by simpa using fun q => hq (ht.1 q)]
    rfl
noncomputable def ut_13 := ut_12.addSpec 77 openP_sp
theorem ut_13_laws : FLaws Try.prog s06 ut_13 := ut_12_laws.addEv s06_laws fun args d h => by
  unfold openP_sp at h
  split at h
  · unfold openP_s at h
    have h1 := congrArg Prod.fst (Option.some.inj h)
    obtain rfl : _ = d := congrArg Prod.snd (Option.some.inj h)
    exact ⟨by simp [D.refs], 60, openP_ok _ _ h1⟩
  · cases h
def openR_s (c : Bool) (b : List UInt8) : Option (Bool × D RC) := some (decide (b.length ≤ 1000000), .tup (.acons (.sl (C := RC) .u8 (openL b).isNone ((openL b).getD [])) (.acons (.int .i64 (bif (openL b).isNone then 50 else 0)) .anil)))
def openR_sp : List (D RC) → Option (Bool × D RC)
  | [.sl .u8 c b] => openR_s c b
  | _ => none
noncomputable def openR_e (c : Bool) (b : List UInt8) := evF s06 ut_13 60 79 [.sl (C := RC) .u8 c b]
theorem openR_eq (c : Bool) (b : List UInt8) : openR_e c b = (let Z0 : Int := (↑b.length : Int); let Z1 : Int := IntKind.wrap .i64 (Z0 - (4 : Int)); let Z2 : DO_ := some (D.tup (D.acons (D.sl RTy.u8 true []) (.acons (D.int .i64 50) .anil))); let Z3 : Bool := decide ((0 : Int) ≤ (0 : Int) ∧ (0 : Int) ≤ Z1 ∧ Z1 ≤ Z0); let Z4 : List UInt8 := List.drop (0 : Nat) (List.take Z1.toNat b); let Z5 : Nat := (0 : Nat) + List.length Z4; bif lenOK b.length then bif decide (Z1 < (0 : Int)) then Z2 else bif Z3 then bif decide (List.length Z4 ≤ (1000000 : Nat)) then bif !(fun (l : List (RA RTy.u8)) => l) (sealL Z4) == (fun (l : List (RA RTy.u8)) => l) b then Z2 else bif Z3 then bif sizeOK Z5 (1 : Nat) then bif Nat.beq Z5 ([] ++ Z4).length then some (D.tup (D.acons (D.sl RTy.u8 false ([] ++ Z4)) (.acons (D.int .i64 0) .anil))) else none else none else none else none else none else none) := by kernel_rfl
theorem openR_ok (c : Bool) (b : List UInt8) (h : (decide (b.length ≤ 1000000)) = true) : openR_e c b = some (.tup (.acons (.sl (C := RC) .u8 (openL b).isNone ((openL b).getD [])) (.acons (.int .i64 (bif (openL b).isNone then 50 else 0)) .anil))) := by
  (rw [openR_eq]; conv => zeta)
  have hl := of_decide_eq_true h
  have wm : IntKind.i64.wrap ((b.length : Int) - 4) = (b.length : Int) - 4 := wrap_id (by omega) (by omega)
  have tm : ((b.length : Int) - 4).toNat = b.length - 4 := by omega
  have ts : (b.take (b.length - 4)).length = b.length - 4 := by simp
  simp only [wm, tm, List.drop_zero, List.nil_append]
  refine cond_of (lenOK_of (by omega)) ?_
  refine cond_two (fun h0 => ?_) fun h0 => ?_ <;> simp only [decide_eq_true_eq, decide_eq_false_iff_not] at h0
  · have e : openL b = none := by unfold openL; rw [if_neg (by omega)]
    rw [e]; rfl
  iterate 2 refine cond_of (by first | exact lenOK_of (by simp; omega) | exact lenOK_of (by omega) | (simp [sizeOK]; done) | (simp [sizeOK]; omega) | omega) ?_
  by_cases hq : sealL (b.take (b.length - 4)) = b
  · have e : openL b = some (b.take (b.length - 4)) := by unfold openL; rw [if_pos ⟨by omega, hq⟩]
    rw [hq, e]
    simp only [beq_self_eq_true, Bool.not_true, cond_false]
    iterate 3 refine cond_of (by first | exact lenOK_of (by simp; omega) | exact lenOK_of (by omega) | (simp [sizeOK]; done) | (simp [sizeOK]; omega) | omega) ?_
    rfl
  · have e : openL b = none := by unfold openL; rw [if_neg (fun q => hq q.2)]
    rw [e, show (sealL (b.take (b.length - 4)) == b) = false by simpa using hq]
    rfl
noncomputable def ut_14 := ut_13.addSpec 79 openR_sp
theorem ut_14_laws : FLaws Try.prog s06 ut_14 := ut_13_laws.addEv s06_laws fun args d h => by
  unfold openR_sp at h
  split at h
  · unfold openR_s at h
    have h1 := congrArg Prod.fst (Option.some.inj h)
    obtain rfl : _ = d := congrArg Prod.snd (Option.some.inj h)
    exact ⟨by simp [D.refs], 60, openR_ok _ _ h1⟩
  · cases h
def maySec (s : Sector) : Bool := decide (0 ≤ s.n) && decide (s.n ≤ 1048575) && decide (s.b.length ≤ 640) && (decide (0 < s.n) || s.b == [])
def rowOK (l : List Sector) : Bool := decide (l.length = 33) && l.all maySec
def lowAt (now sure : List Sector) (i : Nat) : Bool := ((now.zip sure).drop i).all fun p => decide (p.2.n ≤ p.1.n)
def diskOK (now sure : List Sector) : Bool := rowOK now && rowOK sure && lowAt now sure 0
theorem diskOK_len {now sure : List Sector} (h : diskOK now sure = true) : now.length = 33 ∧ sure.length = 33 := by
  simp only [diskOK, rowOK, Bool.and_eq_true, decide_eq_true_eq] at h; exact ⟨h.1.1.1, h.1.2.1⟩
def sec0 : Sector := ⟨0, []⟩
theorem all_drop_step {α : Type} (l : List α) (p : α → Bool) (i : Nat) (h : i < l.length) (d : α) : (l.drop i).all p = (p (l.getD i d) && (l.drop (i + 1)).all p) := by
  have e : l.getD i d = l[i] := by simp [h]
  rw [List.drop_eq_getElem_cons h, e, List.all_cons]
theorem lowAt_step {now sure : List Sector} (i : Nat) (h1 : i < now.length) (h2 : i < sure.length) (d : Sector) : lowAt now sure i = (decide ((sure.getD i d).n ≤ (now.getD i d).n) && lowAt now sure (i + 1)) := by
  unfold lowAt
  rw [all_drop_step _ _ i (by simp; omega) (d, d)]
  have e : (now.zip sure).getD i (d, d) = (now.getD i d, sure.getD i d) := by
    have hz : i < (now.zip sure).length := by simp; omega
    simp [List.getD_eq_getElem?_getD, List.getElem?_eq_getElem hz, h1, h2]
  rw [e]
theorem lowAt_end {now sure : List Sector} (i : Nat) (h : now.length ≤ i) : lowAt now sure i = true := by
  unfold lowAt
  rw [List.drop_eq_nil_of_le (by simp; omega)]; rfl
def badAt (l : List Sector) (i : Nat) : Nat := i + (l.drop i).findIdx fun s => !maySec s
def okPut (now sure : List Sector) (k n : Int) (b : List UInt8) : Bool := diskOK now sure && (decide (0 ≤ k) && decide (k < 33) && decide (1 ≤ n) && !(b == []) && maySec ⟨n, b⟩)
def putNow (now : List Sector) (k : Nat) (n : Int) (b : List UInt8) : List Sector := if (now.getD k sec0).n < n then now.set k ⟨n, b⟩ else now
def longAt (l : List Sector) (i : Nat) : Bool := (l.drop i).any fun s => decide (3000 < (s.b.length : Int))
def greatD (now sure : List Sector) : Bool := decide ((60 : Int) < now.length) || decide ((60 : Int) < sure.length) || longAt now 0 || longAt sure 0
def emptyDisk : List Sector := List.replicate 33 ⟨0, []⟩
theorem set_eq {α : Type} (l : List α) (k : Nat) (x : α) (h : k < l.length) : l.take k ++ [x] ++ l.drop (k + 1) = l.set k x := by
  rw [List.set_eq_take_append_cons_drop, if_pos h]; simp
theorem rowOK_len {l : List Sector} (h : rowOK l = true) : l.length = 33 := by simp only [rowOK, Bool.and_eq_true, decide_eq_true_eq] at h; exact h.1
theorem badAt_ge (l : List Sector) (i : Nat) : i ≤ badAt l i := Nat.le_add_right _ _
theorem badAt_step (l : List Sector) (i : Nat) (h : i < l.length) (d : Sector) : badAt l i = if maySec (l.getD i d) = true then badAt l (i + 1) else i := by
  have e : l.getD i d = l[i] := by simp [h]
  unfold badAt
  rw [List.drop_eq_getElem_cons h, e, List.findIdx_cons]
  cases maySec l[i] <;> simp; omega
def pNow (now sure : List Sector) (k n : Int) (b : List UInt8) : List Sector := bif okPut now sure k n b then putNow now k.toNat n b else []
def pSure (now sure : List Sector) (k n : Int) (b : List UInt8) : List Sector := bif okPut now sure k n b then sure else []
theorem longAt_step (l : List Sector) (i : Nat) (h : i < l.length) (d : Sector) : longAt l i = (decide (3000 < ((l.getD i d).b.length : Int)) || longAt l (i + 1)) := by
  have e : l.getD i d = l[i] := by simp [h]
  unfold longAt
  rw [List.drop_eq_getElem_cons h, e, List.any_cons]
theorem longAt_end (l : List Sector) : longAt l l.length = false := by simp [longAt]
theorem eqSector (x y : Sector) : (x.n == y.n && (x.b == y.b && true)) = decide (x = y) := by
  rw [Bool.eq_iff_iff]; cases x; cases y; simp
def bitAt (lost : Int) (i : Nat) : Bool := bits .u64 (fun _ u v => u &&& v) (lost.fdiv (2 ^ min (IntKind.u64.wrap (i : Int)).toNat 64)) 1 == 1
def crashF (lost : Int) : Nat → Nat → List Sector → List Sector → List Sector × List Sector
  | 0, _, n, s => (n, s)
  | k + 1, i, n, s => if bitAt lost i = true then crashF lost k (i + 1) (n.set i (s.getD i sec0)) s else crashF lost k (i + 1) n (s.set i (n.getD i sec0))
theorem crashF_len (lost : Int) : ∀ (k i : Nat) (n s : List Sector), (crashF lost k i n s).1.length = n.length ∧ (crashF lost k i n s).2.length = s.length
  | 0, i, n, s => ⟨rfl, rfl⟩
  | k + 1, i, n, s => by
    unfold crashF
    split
    · have := crashF_len lost k (i + 1) (n.set i (s.getD i sec0)) s
      rw [List.length_set] at this; exact this
    · have := crashF_len lost k (i + 1) n (s.set i (n.getD i sec0))
      rw [List.length_set] at this; exact this
def goodL (l : List Sector) : Bool := decide (l.length ≤ 9223372036854775807) && l.all fun s => lenOK s.b.length
theorem goodL_iff {l : List Sector} : goodL l = true ↔ l.length ≤ 9223372036854775807 ∧ ∀ s ∈ l, lenOK s.b.length = true := by simp [goodL]
theorem goodL_at {l : List Sector} (h : goodL l = true) (i : Nat) (hi : i < l.length) (d : Sector) : lenOK (l.getD i d).b.length = true := by
  have e : l.getD i d = l[i] := by simp [hi]
  rw [e]; exact (goodL_iff.1 h).2 _ (List.getElem_mem hi)
theorem okPut_facts {now sure : List Sector} {k n : Int} {b : List UInt8} (h : okPut now sure k n b = true) : diskOK now sure = true ∧ 0 ≤ k ∧ k < 33 ∧ 1 ≤ n ∧ b ≠ [] ∧ maySec ⟨n, b⟩ = true := by
  simp only [okPut, Bool.and_eq_true, decide_eq_true_eq] at h
  obtain ⟨h1, ⟨⟨⟨h2, h3⟩, h4⟩, h5⟩, h6⟩ := h
  exact ⟨h1, h2, h3, h4, by simpa using h5, h6⟩
theorem okPut_not {now sure : List Sector} {k n : Int} {b : List UInt8} (h : ¬ (diskOK now sure = true ∧ 0 ≤ k ∧ k < 33 ∧ 1 ≤ n ∧ b ≠ [] ∧ maySec ⟨n, b⟩ = true)) : okPut now sure k n b = false := by
  cases e : okPut now sure k n b
  · rfl
  · exact absurd (okPut_facts e) h
open Go.Proofs
def mayF_s (n : Int) (b : List UInt8) : Option (Bool × D RC) := some (lenOK b.length, .bool (maySec ⟨n, b⟩))
def mayF_sp : List (D RC) → Option (Bool × D RC)
  | [.acons (.int .i64 n) (.acons (.str b) .anil)] => mayF_s n b
  | _ => none
noncomputable def mayF_e (n : Int) (b : List UInt8) := evF s06 ut_14 40 59 [.acons (.int .i64 n) (.acons (.str b) .anil)]
theorem mayF_eq (n : Int) (b : List UInt8) : mayF_e n b = (let Z0 : DO_ := some (D.bool false); bif decide ((0 : Int) ≤ n) then bif decide (n ≤ (1048575 : Int)) then bif lenOK b.length then bif decide ((↑b.length : Int) ≤ (640 : Int)) then bif decide ((0 : Int) < n) then some (D.bool true) else some (D.bool (b == Array.toList #[])) else Z0 else none else Z0 else Z0) := by kernel_rfl
theorem mayF_ok (n : Int) (b : List UInt8) (h : (lenOK b.length) = true) : mayF_e n b = some (.bool (maySec ⟨n, b⟩)) := by
  (rw [mayF_eq]; conv => zeta)
  have hb : decide (((b.length : Nat) : Int) ≤ 640) = decide (b.length ≤ 640) := by rw [decide_eq_decide]; omega
  simp only [maySec, h, hb, cond_true]
  cases decide (0 ≤ n) <;> cases decide (n ≤ 1048575) <;> cases decide (b.length ≤ 640) <;> cases decide (0 < n) <;> cases b <;> rfl
noncomputable def uu_1 := ut_14.addSpec 59 mayF_sp
theorem uu_1_laws : FLaws Try.prog s06 uu_1 := ut_14_laws.addEv s06_laws fun args d h => by
  unfold mayF_sp at h
  split at h
  · unfold mayF_s at h
    have h1 := congrArg Prod.fst (Option.some.inj h)
    obtain rfl : _ = d := congrArg Prod.snd (Option.some.inj h)
    exact ⟨by simp [D.refs], 40, mayF_ok _ _ h1⟩
  · cases h
structure idxS_St where
  c : Bool
  l : List Sector
  i : Nat
def idxS_c (c : Bool) (l : List Sector) (i : Nat) : Env RC := [(0, .sl (C := RC) .sector c l), (1, .fn 76 (.acons (.ptr 0 []) .anil)), (4, .int .i64 0), (7, .int .i64 (l.length)), (8, .int .i64 (i : Int))]
def idxS_o (c : Bool) (l : List Sector) (i : Nat) : List (Obj RC) := [.var 88 (.fn 59 .anil)]
noncomputable def idxS_r (c : Bool) (l : List Sector) (i : Nat) := rndO s06 uu_1 85 2 40 1 [0, 1, 4, 7, 8] [4] [.slot 1 0] (idxS_c c l i) (idxS_o c l i)
theorem idxS_eq (c : Bool) (l : List Sector) (i : Nat) : idxS_r c l i = (let Z0 : Int := (↑i : Int); let Z1 : Int := (↑l.length : Int); let Z2 : Sector := List.getD l Z0.toNat (Sector.mk (0 : Int) []); let Z3 : List (Option (Obj RC)) := [some (Obj.var 88 (D.fn (59 : Nat) .anil))]; let Z4 : Nat × D RC := (4, D.int .i64 0); bif decide (Z0 < Z1) then bif decide ((0 : Int) ≤ Z0 ∧ Z0 < Z1) then bif lenOK (Sector.b Z2).length then bif !maySec (Sector.mk (Sector.n Z2) (Sector.b Z2)) then some ((X.ret, [(4, D.int .i64 Z0)]), Z3) else some ((X.normal, [(0, D.sl RTy.sector c l), (1, D.fn (76 : Nat) (.acons (D.ptr 0 []) .anil)), Z4, (7, D.int .i64 Z1), (8, D.int .i64 (IntKind.wrap .i64 (Z0 + (1 : Int))))]), Z3) else none else none else some ((X.exit (0 : Nat), [Z4]), Z3)) := by kernel_rfl
def idxS_fin (c : Bool) (l : List Sector) (i : Nat) : RT RC := .br (l.drop i |>.all maySec) (.leaf (.exit 0) [(4, .int .i64 0)] (idxS_o c l i)) (.leaf .ret [(4, .int .i64 (badAt l i))] (idxS_o c l i))
def idxS_Inv (c : Bool) (l : List Sector) (i : Nat) : Prop := i ≤ l.length ∧ goodL l = true
def idxS_S : LoopR RC idxS_St where
  k := 1
  canon q := idxS_c q.c q.l q.i
  objs q := idxS_o q.c q.l q.i
  fin q := idxS_fin q.c q.l q.i
  Inv q := idxS_Inv q.c q.l q.i
  μ q := q.l.length - q.i
theorem idxS_round (c : Bool) (l : List Sector) (i : Nat) (hI : idxS_Inv c l i) : Leaf (idxS_r c l i) (LedR idxS_S ⟨c, l, i⟩) := by
  (rw [idxS_eq]; conv => zeta)
  unfold idxS_Inv at hI
  obtain ⟨h1, hg⟩ := hI
  have h2 := (goodL_iff.1 hg).1
  by_cases hlt : i < l.length
  · have w_succ : IntKind.i64.wrap ((i : Int) + 1) = ((i + 1 : Nat) : Int) := by rw [wrap_id (by omega) (by omega)]; simp
    have d_lt : decide ((i : Int) < l.length) = true := by simp; omega
    have d_in : decide (0 ≤ (i : Int) ∧ (i : Int) < l.length) = true := by simp; omega
    have t_nat : ((i : Int)).toNat = i := by simp
    have w_pred : IntKind.i64.wrap ((i : Int) - 1) = (i : Int) - 1 := wrap_id (by omega) (by omega)
    have t_natp : ((i : Int) - 1).toNat = i - 1 := by omega
    simp only [w_succ, d_lt, d_in, t_nat, w_pred, t_natp, cond_true]
    have hlk := goodL_at hg i hlt (⟨0, []⟩ : Sector)
    have hst := all_drop_step l maySec i hlt (⟨0, []⟩ : Sector)
    have hb := badAt_step l i hlt (⟨0, []⟩ : Sector)
    generalize l.getD i (⟨0, []⟩ : Sector) = x at hst hb hlk ⊢
    simp only [hlk, cond_true]
    cases a1 : maySec x
    · exact leafR_ret (idxS_o c l i) (by simp [idxS_S, idxS_fin, hst, hb, a1, RT.val]) rfl
    · exact leafR_go ⟨c, l, i + 1⟩ ⟨hlt, hg⟩ (by simp only [idxS_S]; omega) (by simp [idxS_S, idxS_fin, hst, hb, a1]; rfl) rfl rfl
  · have hi : i = l.length := by omega
    have c1 : decide ((i : Int) < l.length) = false := by simp; omega
    rw [c1]
    exact leafR_exit (idxS_o c l i) (by simp [idxS_S, idxS_fin, hi, RT.val]) rfl
def idxS_d (env : Env RC) (os : List (Obj RC)) : Option (Bool × idxS_St) := match env, os with
  | [(0, .sl .sector c l), (1, .fn 76 (.acons (.ptr 0 []) .anil)), (4, .int .i64 0), (7, .int .i64 x0), (8, .int .i64 x1)], [.var 88 (.fn 59 .anil)] => staticD (true) (decide (x0 = l.length) && decide (x1 = 0) && goodL l, ⟨c, l, 0⟩)
  | _, _ => none
noncomputable def uu_2 := uu_1.addLoop 85 2 (sumR s06 [.slot 1 0] [0, 1, 4, 7, 8] idxS_S idxS_d)
theorem uu_2_laws : FLaws Try.prog s06 uu_2 := by
  refine uu_1_laws.addRoundsR s06_laws (by kernel_rfl) idxS_S 40 [0, 1, 4, 7, 8] [4] [.slot 1 0] [0, 1, 4, 7, 8] idxS_d (fun q hI => ?_) ?_
  · obtain ⟨c, l, i⟩ := q
    refine ⟨?_, ?_, idxS_round c l i hI⟩
    · simp_all [RefsOK, idxS_S, idxS_c, idxS_o, idxS_Inv, D.refs, Obj.refs, rEnc]
    · simp_all [idxS_S, idxS_fin, idxS_o, idxS_Inv, RT.refsOK, RefsOK, D.refs, Obj.refs, rEnc]
  · intro env os b q hd_ hb
    unfold idxS_d at hd_
    split at hd_
    · obtain ⟨hs, hd_⟩ := staticD_some hd_
      cases hd_
      simp only [Bool.and_eq_true, decide_eq_true_eq] at hb
      obtain ⟨⟨rfl, rfl⟩, hl⟩ := hb
      exact ⟨⟨Nat.zero_le _, hl⟩, rfl, rfl⟩
    · cases hd_
def allF_s (c : Bool) (l : List Sector) : Option (Bool × D RC) := some (goodL l, .bool (rowOK l))
def allF_sp : List (D RC) → Option (Bool × D RC)
  | [.sl .sector c l, .int .i64 33, .fn 59 .anil] => allF_s c l
  | _ => none
noncomputable def allF_e (c : Bool) (l : List Sector) := evF s06 uu_2 40 58 [.sl (C := RC) .sector c l, .int .i64 33, .fn 59 .anil]
theorem allF_eq (c : Bool) (l : List Sector) : allF_e c l = (let Z0 : Bool := lenOK l.length; let Z1 : Int := (↑l.length : Int); bif Z0 then bif Z1 == (33 : Int) then bif Z0 then bif decide (Z1 = Z1) && true && goodL l then bif List.all (List.drop (0 : Nat) l) maySec then some (D.bool true) else some (D.bool !decide ((0 : Int) ≤ (↑(badAt l (0 : Nat)) : Int))) else none else none else some (D.bool false) else none) := by kernel_rfl
theorem allF_ok (c : Bool) (l : List Sector) (h : (goodL l) = true) : allF_e c l = some (.bool (rowOK l)) := by
  (rw [allF_eq]; conv => zeta)
  have hl := (goodL_iff.1 h).1
  have lk := lenOK_of hl
  have hb := badAt_ge l 0
  simp only [h, lk, rowOK, cond_true, List.drop_zero]
  by_cases e : l.length = 33
  · have e2 : ((l.length : Int) == 33) = true := by simp [e]
    cases hm : l.all maySec <;> simp [e, hm] <;> omega
  · have e2 : ((l.length : Int) == 33) = false := by simp; omega
    simp [e, e2]
noncomputable def uu_3 := uu_2.addSpec 58 allF_sp
theorem uu_3_laws : FLaws Try.prog s06 uu_3 := uu_2_laws.addEv s06_laws fun args d h => by
  unfold allF_sp at h
  split at h
  · unfold allF_s at h
    have h1 := congrArg Prod.fst (Option.some.inj h)
    obtain rfl : _ = d := congrArg Prod.snd (Option.some.inj h)
    exact ⟨by simp [D.refs], 40, allF_ok _ _ h1⟩
  · cases h
structure chkD_St where
  c : Bool
  now : List Sector
  r : D RC
  d : Bool
  sure : List Sector
  i : Nat
def chkD_c (c : Bool) (now : List Sector) (r : D RC) (d : Bool) (sure : List Sector) (i : Nat) : Env RC := [(1, .ptr 0 []), (2, .int .i64 0), (16, .sl (C := RC) .sector c now), (17, .int .i64 (now.length)), (18, .int .i64 (i : Int))]
def chkD_o (c : Bool) (now : List Sector) (r : D RC) (d : Bool) (sure : List Sector) (i : Nat) : List (Obj RC) := [.var 24 (.acons r (.acons (.sl (C := RC) .sector d sure) .anil))]
noncomputable def chkD_r (c : Bool) (now : List Sector) (r : D RC) (d : Bool) (sure : List Sector) (i : Nat) := rndO s06 uu_3 32 4 40 1 [1, 2, 16, 17, 18] [2] [.slot 1 0] (chkD_c c now r d sure i) (chkD_o c now r d sure i)
theorem chkD_eq (c : Bool) (now : List Sector) (r : D RC) (d : Bool) (sure : List Sector) (i : Nat) : chkD_r c now r d sure i = (let Z0 : Int := (↑i : Int); let Z1 : Int := (↑now.length : Int); let Z2 : List (Option (Obj RC)) := [some (Obj.var 24 (.acons r (D.acons (D.sl RTy.sector d sure) .anil)))]; let Z3 : Nat × D RC := (2, D.int .i64 0); bif decide (Z0 < Z1) then bif decide ((0 : Int) ≤ Z0 ∧ Z0 < Z1) then bif decide ((0 : Int) ≤ Z0 ∧ Z0 < (↑sure.length : Int)) then bif decide (Sector.n (List.getD now Z0.toNat (Sector.mk (0 : Int) [])) < Sector.n (List.getD sure Z0.toNat (Sector.mk (0 : Int) []))) then some ((X.ret, [(2, D.int .i64 2)]), Z2) else some ((X.normal, [(1, D.ptr 0 []), Z3, (16, D.sl RTy.sector c now), (17, D.int .i64 Z1), (18, D.int .i64 (IntKind.wrap .i64 (Z0 + (1 : Int))))]), Z2) else none else none else some ((X.exit (0 : Nat), [Z3]), Z2)) := by kernel_rfl
def chkD_fin (c : Bool) (now : List Sector) (r : D RC) (d : Bool) (sure : List Sector) (i : Nat) : RT RC := .br (lowAt now sure i) (.leaf (.exit 0) [(2, .int .i64 0)] (chkD_o c now r d sure i)) (.leaf .ret [(2, .int .i64 2)] (chkD_o c now r d sure i))
def chkD_Inv (c : Bool) (now : List Sector) (r : D RC) (d : Bool) (sure : List Sector) (i : Nat) : Prop := r.refs = [] ∧ i ≤ now.length ∧ now.length ≤ 9223372036854775807 ∧ now.length = sure.length
def chkD_S : LoopR RC chkD_St where
  k := 1
  canon q := chkD_c q.c q.now q.r q.d q.sure q.i
  objs q := chkD_o q.c q.now q.r q.d q.sure q.i
  fin q := chkD_fin q.c q.now q.r q.d q.sure q.i
  Inv q := chkD_Inv q.c q.now q.r q.d q.sure q.i
  μ q := q.now.length - q.i
theorem chkD_round (c : Bool) (now : List Sector) (r : D RC) (d : Bool) (sure : List Sector) (i : Nat) (hI : chkD_Inv c now r d sure i) : Leaf (chkD_r c now r d sure i) (LedR chkD_S ⟨c, now, r, d, sure, i⟩) := by
  (rw [chkD_eq]; conv => zeta)
  unfold chkD_Inv at hI
  obtain ⟨h0, h1, h2, h3⟩ := hI
  by_cases hlt : i < now.length
  · have w_succ : IntKind.i64.wrap ((i : Int) + 1) = ((i + 1 : Nat) : Int) := by rw [wrap_id (by omega) (by omega)]; simp
    have d_lt : decide ((i : Int) < now.length) = true := by simp; omega
    have d_in : decide (0 ≤ (i : Int) ∧ (i : Int) < now.length) = true := by simp; omega
    have t_nat : ((i : Int)).toNat = i := by simp
    have w_pred : IntKind.i64.wrap ((i : Int) - 1) = (i : Int) - 1 := wrap_id (by omega) (by omega)
    have t_natp : ((i : Int) - 1).toNat = i - 1 := by omega
    simp only [w_succ, d_lt, d_in, t_nat, w_pred, t_natp, cond_true]
    have hlt2 : i < sure.length := by omega
    have d_in2 : decide (0 ≤ (i : Int) ∧ (i : Int) < sure.length) = true := by simp; omega
    simp only [d_in2, cond_true]
    have hst := lowAt_step (now := now) (sure := sure) i hlt (by omega) (⟨0, []⟩ : Sector)
    generalize now.getD i (⟨0, []⟩ : Sector) = x at hst ⊢
    generalize sure.getD i (⟨0, []⟩ : Sector) = y at hst ⊢
    cases a1 : decide (y.n ≤ x.n)
    · have a2 : decide (x.n < y.n) = true := by simp at a1 ⊢; exact a1
      simp only [a2, cond_true]
      exact leafR_ret (chkD_o c now r d sure i) (by simp [chkD_S, chkD_fin, hst, a1, RT.val]) rfl
    · have a2 : decide (x.n < y.n) = false := by simp at a1 ⊢; exact a1
      simp only [a2, cond_false]
      exact leafR_go ⟨c, now, r, d, sure, i + 1⟩ ⟨h0, hlt, h2, h3⟩ (by simp only [chkD_S]; omega) (by simp [chkD_S, chkD_fin, hst, a1]; rfl) rfl rfl
  · have hi : i = now.length := by omega
    have c1 : decide ((i : Int) < now.length) = false := by simp; omega
    rw [c1]
    exact leafR_exit (chkD_o c now r d sure i) (by simp [chkD_S, chkD_fin, hi, lowAt_end, RT.val]) rfl
def chkD_d (env : Env RC) (os : List (Obj RC)) : Option (Bool × chkD_St) := match env, os with
  | [(1, .ptr 0 []), (2, .int .i64 0), (16, .sl .sector c now), (17, .int .i64 x0), (18, .int .i64 x1)], [.var 24 (.acons r (.acons (.sl .sector d sure) .anil))] => staticD (r.refs.isEmpty) (decide (x0 = now.length) && decide (x1 = 0) && decide (now.length ≤ 9223372036854775807 ∧ now.length = sure.length), ⟨c, now, r, d, sure, 0⟩)
  | _, _ => none
noncomputable def uu_4 := uu_3.addLoop 32 4 (sumR s06 [.slot 1 0] [1, 2, 16, 17, 18] chkD_S chkD_d)
theorem uu_4_laws : FLaws Try.prog s06 uu_4 := by
  refine uu_3_laws.addRoundsR s06_laws (by kernel_rfl) chkD_S 40 [1, 2, 16, 17, 18] [2] [.slot 1 0] [1, 2, 16, 17, 18] chkD_d (fun q hI => ?_) ?_
  · obtain ⟨c, now, r, d, sure, i⟩ := q
    refine ⟨?_, ?_, chkD_round c now r d sure i hI⟩
    · simp_all [RefsOK, chkD_S, chkD_c, chkD_o, chkD_Inv, D.refs, Obj.refs, rEnc]
    · simp_all [chkD_S, chkD_fin, chkD_o, chkD_Inv, RT.refsOK, RefsOK, D.refs, Obj.refs, rEnc]
  · intro env os b q hd_ hb
    unfold chkD_d at hd_
    split at hd_
    · obtain ⟨hs, hd_⟩ := staticD_some hd_
      cases hd_
      simp only [Bool.and_eq_true, decide_eq_true_eq] at hb
      obtain ⟨⟨rfl, rfl⟩, hl⟩ := hb
      exact ⟨⟨List.isEmpty_iff.1 hs, Nat.zero_le _, hl⟩, rfl, rfl⟩
    · cases hd_
def checkD_s (c : Bool) (now : List Sector) (d : Bool) (sure : List Sector) : Option (Bool × D RC) := some (goodL now && goodL sure, .int .i64 (bif diskOK now sure then 0 else 2))
def checkD_sp : List (D RC) → Option (Bool × D RC)
  | [.acons (.sl .sector c now) (.acons (.sl .sector d sure) .anil)] => checkD_s c now d sure
  | _ => none
noncomputable def checkD_e (c : Bool) (now : List Sector) (d : Bool) (sure : List Sector) := evF s06 uu_4 40 32 [.acons (.sl (C := RC) .sector c now) (.acons (.sl (C := RC) .sector d sure) .anil)]
theorem checkD_eq (c : Bool) (now : List Sector) (d : Bool) (sure : List Sector) : checkD_e c now d sure = (let Z0 : DO_ := some (D.int .i64 2); let Z1 : Nat := List.length now; bif goodL now then bif !rowOK now then Z0 else bif goodL sure then bif !rowOK sure then Z0 else bif lenOK Z1 then bif decide ((↑Z1 : Int) = (↑Z1 : Int)) && true && decide (Z1 ≤ (9223372036854775807 : Nat) ∧ Z1 = List.length sure) then bif lowAt now sure (0 : Nat) then some (D.int .i64 0) else Z0 else none else none else none else none) := by kernel_rfl
theorem checkD_ok (c : Bool) (now : List Sector) (d : Bool) (sure : List Sector) (h : (goodL now && goodL sure) = true) : checkD_e c now d sure = some (.int .i64 (bif diskOK now sure then 0 else 2)) := by
  (rw [checkD_eq]; conv => zeta)
  rw [Bool.and_eq_true] at h
  obtain ⟨hg, hgs⟩ := h
  have hl := (goodL_iff.1 hg).1
  have hs := (goodL_iff.1 hgs).1
  have lk := lenOK_of hl
  simp only [hg, hgs, lk, Bool.and_self, cond_true, diskOK]
  cases h1 : rowOK now
  · rfl
  cases h2 : rowOK sure
  · rfl
  have l1 := rowOK_len h1
  have l2 := rowOK_len h2
  have e : decide (now.length ≤ 9223372036854775807 ∧ now.length = sure.length) = true := by simp; omega
  cases h3 : lowAt now sure 0 <;> simp [e]
noncomputable def uu_5 := uu_4.addSpec 32 checkD_sp
theorem uu_5_laws : FLaws Try.prog s06 uu_5 := uu_4_laws.addEv s06_laws fun args d h => by
  unfold checkD_sp at h
  split at h
  · unfold checkD_s at h
    have h1 := congrArg Prod.fst (Option.some.inj h)
    obtain rfl : _ = d := congrArg Prod.snd (Option.some.inj h)
    exact ⟨by simp [D.refs], 40, checkD_ok _ _ _ _ h1⟩
  · cases h
def cloneS_s (c : Bool) (l : List Sector) : Option (Bool × D RC) := some (decide (0 < l.length ∧ l.length ≤ 1000000), .sl (C := RC) .sector false l)
def cloneS_sp : List (D RC) → Option (Bool × D RC)
  | [.sl .sector c l] => cloneS_s c l
  | _ => none
noncomputable def cloneS_e (c : Bool) (l : List Sector) := evF s06 uu_5 40 67 [.sl (C := RC) .sector c l]
theorem cloneS_eq (c : Bool) (l : List Sector) : cloneS_e c l = (let Z0 : Nat := (0 : Nat) + List.length l; let Z1 : List Sector := List.replicate (0 : Nat) (Sector.mk (0 : Int) []) ++ l; bif List.isEmpty l then none else bif sizeOK Z0 (24 : Nat) then bif Nat.beq Z0 Z1.length then some (D.sl RTy.sector false Z1) else none else none) := by kernel_rfl
theorem cloneS_ok (c : Bool) (l : List Sector) (h : (decide (0 < l.length ∧ l.length ≤ 1000000)) = true) : cloneS_e c l = some (.sl (C := RC) .sector false l) := by
  (rw [cloneS_eq]; conv => zeta)
  obtain ⟨h1, h2⟩ := of_decide_eq_true h
  have e0 : l.isEmpty = false := by cases l <;> simp_all
  have e1 : sizeOK l.length 24 = true := by simp [sizeOK]; omega
  have eb : ∀ n : Nat, n.beq n = true := fun n => by simp
  simp only [e0, e1, cond_false, cond_true, List.replicate, List.nil_append, Nat.zero_add, eb]
noncomputable def uu_6 := uu_5.addSpec 67 cloneS_sp
theorem uu_6_laws : FLaws Try.prog s06 uu_6 := uu_5_laws.addEv s06_laws fun args d h => by
  unfold cloneS_sp at h
  split at h
  · unfold cloneS_s at h
    have h1 := congrArg Prod.fst (Option.some.inj h)
    obtain rfl : _ = d := congrArg Prod.snd (Option.some.inj h)
    exact ⟨by simp [D.refs], 40, cloneS_ok _ _ h1⟩
  · cases h
def withF_s (c : Bool) (l : List Sector) (k : Int) (n : Int) (b : List UInt8) : Option (Bool × D RC) := some (decide (0 ≤ k ∧ k < l.length ∧ l.length ≤ 1000000), .sl (C := RC) .sector false (l.set k.toNat ⟨n, b⟩))
def withF_sp : List (D RC) → Option (Bool × D RC)
  | [.sl .sector c l, .int .i64 k, .acons (.int .i64 n) (.acons (.str b) .anil)] => withF_s c l k n b
  | _ => none
noncomputable def withF_e (c : Bool) (l : List Sector) (k : Int) (n : Int) (b : List UInt8) := evF s06 uu_6 40 68 [.sl (C := RC) .sector c l, .int .i64 k, .acons (.int .i64 n) (.acons (.str b) .anil)]
theorem withF_eq (c : Bool) (l : List Sector) (k : Int) (n : Int) (b : List UInt8) : withF_e c l k n b = (let Z0 : Int := (↑l.length : Int); let Z1 : List Sector := List.drop (0 : Nat) (List.take k.toNat l); let Z2 : Nat := List.length Z1 + List.length [Sector.mk n b]; let Z3 : Int := IntKind.wrap .i64 (k + (1 : Int)); let Z4 : Nat := List.length (Z1 ++ [Sector.mk n b]); let Z5 : Nat := List.length (List.drop Z3.toNat l); let Z6 : List Sector := Z1 ++ [Sector.mk n b] ++ List.drop Z3.toNat l; bif decide ((0 : Int) ≤ (0 : Int) ∧ (0 : Int) ≤ k ∧ k ≤ Z0 ∧ k = k) then bif sizeOK Z2 (24 : Nat) then bif decide ((0 : Int) ≤ Z3 ∧ Z3 ≤ Z0) then bif Nat.beq Z2 Z4 && sizeOK (Z2 + Z5) (24 : Nat) then bif Nat.beq (Z4 + Z5) Z6.length then some (D.sl RTy.sector false Z6) else none else none else none else none else none) := by kernel_rfl
theorem withF_ok (c : Bool) (l : List Sector) (k : Int) (n : Int) (b : List UInt8) (h : (decide (0 ≤ k ∧ k < l.length ∧ l.length ≤ 1000000)) = true) : withF_e c l k n b = some (.sl (C := RC) .sector false (l.set k.toNat ⟨n, b⟩)) := by
  (rw [withF_eq]; conv => zeta)
  obtain ⟨h0, h1, h2⟩ := of_decide_eq_true h
  have w1 : IntKind.i64.wrap (k + 1) = k + 1 := wrap_id (by omega) (by omega)
  have t1 : (k + 1).toNat = k.toNat + 1 := by omega
  have hk : k.toNat < l.length := by omega
  have e0 := set_eq l k.toNat (⟨n, b⟩ : Sector) hk
  have m1 : min k.toNat l.length = k.toNat := by omega
  simp only [w1, t1, List.drop_zero, List.length_take, List.length_cons, List.length_nil, List.length_append, List.length_drop, m1, Nat.zero_add]
  repeat (refine cond_of (by first | assumption | exact lenOK_of (by omega) | exact sizeT (by omega) | (simp; done) | (simp; omega) | (simp [sizeOK]; omega)) ?_)
  rw [e0]
noncomputable def uu_7 := uu_6.addSpec 68 withF_sp
theorem uu_7_laws : FLaws Try.prog s06 uu_7 := uu_6_laws.addEv s06_laws fun args d h => by
  unfold withF_sp at h
  split at h
  · unfold withF_s at h
    have h1 := congrArg Prod.fst (Option.some.inj h)
    obtain rfl : _ = d := congrArg Prod.snd (Option.some.inj h)
    exact ⟨by simp [D.refs], 40, withF_ok _ _ _ _ _ h1⟩
  · cases h
def putD_s (c : Bool) (now : List Sector) (d : Bool) (sure : List Sector) (k : Int) (n : Int) (b : List UInt8) : Option (Bool × D RC) := some (goodL now && goodL sure && lenOK b.length, .tup (.acons (.acons (.sl (C := RC) .sector (!okPut now sure k n b) (pNow now sure k n b)) (.acons (.sl (C := RC) .sector (!okPut now sure k n b) (pSure now sure k n b)) .anil)) (.acons (.int .i64 (bif okPut now sure k n b then 0 else 2)) .anil)))
def putD_sp : List (D RC) → Option (Bool × D RC)
  | [.acons (.sl .sector c now) (.acons (.sl .sector d sure) .anil), .int .i64 k, .int .i64 n, .str b] => putD_s c now d sure k n b
  | _ => none
noncomputable def putD_e (c : Bool) (now : List Sector) (d : Bool) (sure : List Sector) (k : Int) (n : Int) (b : List UInt8) := evF s06 uu_7 40 44 [.acons (.sl (C := RC) .sector c now) (.acons (.sl (C := RC) .sector d sure) .anil), .int .i64 k, .int .i64 n, .str b]
theorem putD_eq (c : Bool) (now : List Sector) (d : Bool) (sure : List Sector) (k : Int) (n : Int) (b : List UInt8) : putD_e c now d sure k n b = (let Z0 : D RC := D.sl RTy.sector true []; let Z1 : DO_ := some (D.tup (D.acons (D.acons Z0 (D.acons Z0 .anil)) (.acons (D.int .i64 2) .anil))); let Z2 : Nat := List.length now; let Z3 : D RC := D.acons (D.sl RTy.sector false sure) .anil; let Z4 : D RC := D.acons (D.int .i64 0) .anil; bif goodL now && goodL sure then bif (bif diskOK now sure then (0 : Int) else (2 : Int)) != (0 : Int) then Z1 else bif decide (k < (0 : Int)) then Z1 else bif decide ((33 : Int) ≤ k) then Z1 else bif decide (n < (1 : Int)) then Z1 else bif b == Array.toList #[] then Z1 else bif lenOK b.length then bif !maySec (Sector.mk n b) then Z1 else bif decide ((0 : Nat) < Z2 ∧ Z2 ≤ (1000000 : Nat)) then bif decide ((0 : Nat) < List.length sure ∧ List.length sure ≤ (1000000 : Nat)) then bif decide ((0 : Int) ≤ k ∧ k < (↑Z2 : Int)) then bif decide (Sector.n (List.getD now k.toNat (Sector.mk (0 : Int) [])) < n) then bif decide ((0 : Int) ≤ k ∧ k < (↑Z2 : Int) ∧ Z2 ≤ (1000000 : Nat)) then some (D.tup (D.acons (D.acons (D.sl RTy.sector false (List.set now k.toNat (Sector.mk n b))) Z3) Z4)) else none else some (D.tup (D.acons (D.acons (D.sl RTy.sector false now) Z3) Z4)) else none else none else none else none else none) := by kernel_rfl
theorem putD_ok (c : Bool) (now : List Sector) (d : Bool) (sure : List Sector) (k : Int) (n : Int) (b : List UInt8) (h : (goodL now && goodL sure && lenOK b.length) = true) : putD_e c now d sure k n b = some (.tup (.acons (.acons (.sl (C := RC) .sector (!okPut now sure k n b) (pNow now sure k n b)) (.acons (.sl (C := RC) .sector (!okPut now sure k n b) (pSure now sure k n b)) .anil)) (.acons (.int .i64 (bif okPut now sure k n b then 0 else 2)) .anil))) := by
  (rw [putD_eq]; conv => zeta)
  simp only [Bool.and_eq_true] at h
  obtain ⟨⟨hg, hgs⟩, hb⟩ := h
  have hgg : (goodL now && goodL sure) = true := by rw [hg, hgs]; rfl
  have no : okPut now sure k n b = false → some (D.tup (.acons (.acons (.sl (C := RC) .sector true []) (.acons (.sl (C := RC) .sector true []) .anil)) (.acons (.int .i64 2) .anil))) = some (.tup (.acons (.acons (.sl (C := RC) .sector (!okPut now sure k n b) (pNow now sure k n b)) (.acons (.sl (C := RC) .sector (!okPut now sure k n b) (pSure now sure k n b)) .anil)) (.acons (.int .i64 (bif okPut now sure k n b then 0 else 2)) .anil))) := fun e => by simp only [e, pNow, pSure]; rfl
  refine cond_of hgg ?_
  cases hd : diskOK now sure
  · exact cond_of rfl (no (okPut_not fun f => by rw [hd] at f; cases f.1))
  obtain ⟨l1, l2⟩ := diskOK_len hd
  refine cond_no rfl (cond_two (fun e => no (okPut_not fun f => by simp only [decide_eq_true_eq] at e; omega)) fun e1 => ?_)
  refine (cond_two (fun e => no (okPut_not fun f => by simp only [decide_eq_true_eq] at e; omega)) fun e2 => ?_)
  refine (cond_two (fun e => no (okPut_not fun f => by simp only [decide_eq_true_eq] at e; omega)) fun e3 => ?_)
  refine (cond_two (fun e => no (okPut_not fun f => f.2.2.2.2.1 (by simpa using e))) fun e4 => ?_)
  refine cond_of hb ?_
  refine (cond_two (fun e => no (okPut_not fun f => by rw [f.2.2.2.2.2] at e; cases e)) fun e5 => ?_)
  simp only [decide_eq_false_iff_not] at e1 e2 e3
  have ok : okPut now sure k n b = true := by
    simp only [okPut, hd, Bool.true_and, Bool.and_eq_true, decide_eq_true_eq]
    exact ⟨⟨⟨⟨by omega, by omega⟩, by omega⟩, by simpa using e4⟩, by simpa using e5⟩
  rw [ok]
  simp only [pNow, pSure, ok, cond_true, Bool.not_true]
  repeat (refine cond_of (by first | assumption | exact lenOK_of (by omega) | exact sizeT (by omega) | (simp; done) | (simp; omega) | (simp [sizeOK]; omega)) ?_)
  refine cond_two (fun e => ?_) fun e => ?_ <;> simp only [decide_eq_true_eq, decide_eq_false_iff_not] at e
  · have pn : putNow now k.toNat n b = now.set k.toNat ⟨n, b⟩ := if_pos e
    rw [pn]
    repeat (refine cond_of (by first | assumption | exact lenOK_of (by omega) | exact sizeT (by omega) | (simp; done) | (simp; omega) | (simp [sizeOK]; omega)) ?_)
    rfl
  · have pn : putNow now k.toNat n b = now := if_neg e
    rw [pn]
noncomputable def uu_8 := uu_7.addSpec 44 putD_sp
theorem uu_8_laws : FLaws Try.prog s06 uu_8 := uu_7_laws.addEv s06_laws fun args d h => by
  unfold putD_sp at h
  split at h
  · unfold putD_s at h
    have h1 := congrArg Prod.fst (Option.some.inj h)
    obtain rfl : _ = d := congrArg Prod.snd (Option.some.inj h)
    exact ⟨by simp [D.refs], 40, putD_ok _ _ _ _ _ _ _ h1⟩
  · cases h
open Go.Proofs
structure rowRl_St where
  c : Bool
  l : List Sector
  i : Nat
def rowRl_c (c : Bool) (l : List Sector) (i : Nat) : Env RC := [(0, .sl (C := RC) .sector c l), (2, .bool false), (3, .int .i64 (i : Int))]
def rowRl_o (c : Bool) (l : List Sector) (i : Nat) : List (Obj RC) := []
noncomputable def rowRl_r (c : Bool) (l : List Sector) (i : Nat) := rndO s06 uu_8 63 4 40 0 [0, 2, 3] [2] [] (rowRl_c c l i) (rowRl_o c l i)
theorem rowRl_eq (c : Bool) (l : List Sector) (i : Nat) : rowRl_r c l i = (let Z0 : Int := (↑i : Int); let Z1 : Bool := decide ((0 : Int) ≤ Z0 ∧ Z0 < (↑l.length : Int)); let Z2 : Sector := List.getD l Z0.toNat (Sector.mk (0 : Int) []); let Z3 : Int := Sector.n Z2; let Z4 : RO_ := some ((X.ret, [(2, D.bool false)]), []); let Z5 : Nat := List.length (Sector.b Z2); let Z6 : RO_ := some ((X.normal, [(0, D.sl RTy.sector c l), (2, D.bool false), (3, D.int .i64 (IntKind.wrap .i64 (Z0 + (1 : Int))))]), []); bif lenOK l.length then bif decide (Z0 < (↑l.length : Int)) then bif Z1 then bif decide (Z3 < (0 : Int)) then Z4 else bif Z1 then bif decide ((1048575 : Int) < Z3) then Z4 else bif Z1 then bif lenOK Z5 then bif decide ((640 : Int) < (↑Z5 : Int)) then Z4 else bif Z1 then bif Z3 == (0 : Int) then bif Z1 then bif !Sector.b Z2 == Array.toList #[] then Z4 else Z6 else none else Z6 else none else none else none else none else none else some ((X.exit (0 : Nat), [(2, D.bool false)]), []) else none) := by kernel_rfl
def rowRl_fin (c : Bool) (l : List Sector) (i : Nat) : RT RC := .br (l.drop i |>.all maySec) (.leaf (.exit 0) [(2, .bool false)] []) (.leaf .ret [(2, .bool false)] [])
def rowRl_Inv (c : Bool) (l : List Sector) (i : Nat) : Prop := i ≤ l.length ∧ goodL l = true
def rowRl_S : LoopR RC rowRl_St where
  k := 0
  canon q := rowRl_c q.c q.l q.i
  objs q := rowRl_o q.c q.l q.i
  fin q := rowRl_fin q.c q.l q.i
  Inv q := rowRl_Inv q.c q.l q.i
  μ q := q.l.length - q.i
theorem rowRl_round (c : Bool) (l : List Sector) (i : Nat) (hI : rowRl_Inv c l i) : Leaf (rowRl_r c l i) (LedR rowRl_S ⟨c, l, i⟩) := by
  (rw [rowRl_eq]; conv => zeta)
  unfold rowRl_Inv at hI
  obtain ⟨h1, hg⟩ := hI
  have h2 := (goodL_iff.1 hg).1
  have hlk0 : lenOK l.length = true := lenOK_of h2
  by_cases hlt : i < l.length
  · have w_succ : IntKind.i64.wrap ((i : Int) + 1) = ((i + 1 : Nat) : Int) := by rw [wrap_id (by omega) (by omega)]; simp
    have d_lt : decide ((i : Int) < l.length) = true := by simp; omega
    have d_in : decide (0 ≤ (i : Int) ∧ (i : Int) < l.length) = true := by simp; omega
    have t_nat : ((i : Int)).toNat = i := by simp
    simp only [w_succ, d_lt, d_in, t_nat, cond_true]
    have hlk := goodL_at hg i hlt (⟨0, []⟩ : Sector)
    have hst := all_drop_step l maySec i hlt (⟨0, []⟩ : Sector)
    generalize l.getD i (⟨0, []⟩ : Sector) = x at hst hlk ⊢
    simp only [hlk0, hlk, cond_true]
    have hgo : maySec x = true → Leaf (some ((X.normal, rowRl_c c l (i + 1)), [])) (LedR rowRl_S ⟨c, l, i⟩) := fun e =>
      leafR_go ⟨c, l, i + 1⟩ ⟨hlt, hg⟩ (by simp only [rowRl_S]; omega) (by simp [rowRl_S, rowRl_fin, hst, e]) rfl rfl
    have hno : maySec x = false → Leaf (some ((X.ret, [(2, D.bool false)]), [])) (LedR rowRl_S ⟨c, l, i⟩) := fun e => leafR_ret [] (by simp [rowRl_S, rowRl_fin, hst, e, RT.val]) rfl
    have hm : maySec x = (decide (0 ≤ x.n) && decide (x.n ≤ 1048575) && decide (x.b.length ≤ 640) && (decide (0 < x.n) || x.b == [])) := rfl
    rw [hm] at hgo hno
    repeat' (refine leaf_cond.2 ⟨fun hc_ => ?_, fun hc_ => ?_⟩)
    all_goals first | exact hno (by clear hgo hno hst hm; simp_all <;> omega) | exact hgo (by clear hgo hno hst hm; simp_all <;> omega)
  · have hi : i = l.length := by omega
    have c1 : decide ((i : Int) < l.length) = false := by simp; omega
    rw [hlk0, c1]
    exact leafR_exit [] (by simp [rowRl_S, rowRl_fin, hi, RT.val]) rfl
def rowRl_d (env : Env RC) (os : List (Obj RC)) : Option (Bool × rowRl_St) := match env, os with
  | [(0, .sl .sector c l), (2, .bool false), (3, .int .i64 x0)], [] => staticD (true) (decide (x0 = 0) && goodL l, ⟨c, l, 0⟩)
  | _, _ => none
noncomputable def uu2_1 := uu_8.addLoop 63 4 (sumR s06 [] [0, 2, 3] rowRl_S rowRl_d)
theorem uu2_1_laws : FLaws Try.prog s06 uu2_1 := by
  refine uu_8_laws.addRoundsR s06_laws (by kernel_rfl) rowRl_S 40 [0, 2, 3] [2] [] [0, 2, 3] rowRl_d (fun q hI => ?_) ?_
  · obtain ⟨c, l, i⟩ := q
    refine ⟨?_, ?_, rowRl_round c l i hI⟩
    · simp_all [RefsOK, rowRl_S, rowRl_c, rowRl_o, rowRl_Inv, D.refs, Obj.refs, rEnc]
    · simp_all [rowRl_S, rowRl_fin, rowRl_o, rowRl_Inv, RT.refsOK, RefsOK, D.refs, Obj.refs, rEnc]
  · intro env os b q hd_ hb
    unfold rowRl_d at hd_
    split at hd_
    · obtain ⟨hs, hd_⟩ := staticD_some hd_
      cases hd_
      simp only [Bool.and_eq_true, decide_eq_true_eq] at hb
      obtain ⟨rfl, hl⟩ := hb
      exact ⟨⟨Nat.zero_le _, hl⟩, rfl, rfl⟩
    · cases hd_
def rowRf_s (c : Bool) (l : List Sector) : Option (Bool × D RC) := some (goodL l, .bool (rowOK l))
def rowRf_sp : List (D RC) → Option (Bool × D RC)
  | [.sl .sector c l] => rowRf_s c l
  | _ => none
noncomputable def rowRf_e (c : Bool) (l : List Sector) := evF s06 uu2_1 40 63 [.sl (C := RC) .sector c l]
theorem rowRf_eq (c : Bool) (l : List Sector) : rowRf_e c l = (bif lenOK l.length then bif (↑l.length : Int) != (33 : Int) then some (D.bool false) else bif goodL l then bif List.all (List.drop (0 : Nat) l) maySec then some (D.bool true) else some (D.bool false) else none else none) := by kernel_rfl
theorem rowRf_ok (c : Bool) (l : List Sector) (h : (goodL l) = true) : rowRf_e c l = some (.bool (rowOK l)) := by
  rw [rowRf_eq]
  have hl := (goodL_iff.1 h).1
  have lk := lenOK_of hl
  simp only [h, lk, rowOK, cond_true, List.drop_zero]
  by_cases e : l.length = 33
  · have e2 : ((l.length : Int) != 33) = false := by simp [e]
    cases hm : l.all maySec <;> simp [e, hm]
  · have e2 : ((l.length : Int) != 33) = true := by simp [bne]; omega
    simp [e, e2]
noncomputable def uu2_2 := uu2_1.addSpec 63 rowRf_sp
theorem uu2_2_laws : FLaws Try.prog s06 uu2_2 := uu2_1_laws.addEv s06_laws fun args d h => by
  unfold rowRf_sp at h
  split at h
  · unfold rowRf_s at h
    have h1 := congrArg Prod.fst (Option.some.inj h)
    obtain rfl : _ = d := congrArg Prod.snd (Option.some.inj h)
    exact ⟨by simp [D.refs], 40, rowRf_ok _ _ h1⟩
  · cases h
structure chkRl_St where
  c : Bool
  now : List Sector
  d : Bool
  sure : List Sector
  i : Nat
def chkRl_c (c : Bool) (now : List Sector) (d : Bool) (sure : List Sector) (i : Nat) : Env RC := [(1, .ptr 0 []), (2, .int .i64 0), (3, .int .i64 (i : Int))]
def chkRl_o (c : Bool) (now : List Sector) (d : Bool) (sure : List Sector) (i : Nat) : List (Obj RC) := [.var 24 (.acons (.sl (C := RC) .sector c now) (.acons (.sl (C := RC) .sector d sure) .anil))]
noncomputable def chkRl_r (c : Bool) (now : List Sector) (d : Bool) (sure : List Sector) (i : Nat) := rndO s06 uu2_2 39 4 40 1 [1, 2, 3] [2] [.slot 1 0] (chkRl_c c now d sure i) (chkRl_o c now d sure i)
theorem chkRl_eq (c : Bool) (now : List Sector) (d : Bool) (sure : List Sector) (i : Nat) : chkRl_r c now d sure i = (let Z0 : Int := (↑i : Int); let Z1 : List (Option (Obj RC)) := [some (Obj.var 24 (.acons (D.sl RTy.sector c now) (.acons (D.sl RTy.sector d sure) .anil)))]; let Z2 : Nat × D RC := (2, D.int .i64 0); bif lenOK now.length then bif decide (Z0 < (↑now.length : Int)) then bif decide ((0 : Int) ≤ Z0 ∧ Z0 < (↑sure.length : Int)) then bif decide ((0 : Int) ≤ Z0 ∧ Z0 < (↑now.length : Int)) then bif decide (Sector.n (List.getD now Z0.toNat (Sector.mk (0 : Int) [])) < Sector.n (List.getD sure Z0.toNat (Sector.mk (0 : Int) []))) then some ((X.ret, [(2, D.int .i64 2)]), Z1) else some ((X.normal, [(1, D.ptr 0 []), Z2, (3, D.int .i64 (IntKind.wrap .i64 (Z0 + (1 : Int))))]), Z1) else none else none else some ((X.exit (0 : Nat), [Z2]), Z1) else none) := by kernel_rfl
def chkRl_fin (c : Bool) (now : List Sector) (d : Bool) (sure : List Sector) (i : Nat) : RT RC := .br (lowAt now sure i) (.leaf (.exit 0) [(2, .int .i64 0)] (chkRl_o c now d sure i)) (.leaf .ret [(2, .int .i64 2)] (chkRl_o c now d sure i))
def chkRl_Inv (c : Bool) (now : List Sector) (d : Bool) (sure : List Sector) (i : Nat) : Prop := i ≤ now.length ∧ now.length ≤ 9223372036854775807 ∧ now.length = sure.length
def chkRl_S : LoopR RC chkRl_St where
  k := 1
  canon q := chkRl_c q.c q.now q.d q.sure q.i
  objs q := chkRl_o q.c q.now q.d q.sure q.i
  fin q := chkRl_fin q.c q.now q.d q.sure q.i
  Inv q := chkRl_Inv q.c q.now q.d q.sure q.i
  μ q := q.now.length - q.i
theorem chkRl_round (c : Bool) (now : List Sector) (d : Bool) (sure : List Sector) (i : Nat) (hI : chkRl_Inv c now d sure i) : Leaf (chkRl_r c now d sure i) (LedR chkRl_S ⟨c, now, d, sure, i⟩) := by
  (rw [chkRl_eq]; conv => zeta)
  unfold chkRl_Inv at hI
  obtain ⟨h1, h2, h3⟩ := hI
  have hlk0 : lenOK now.length = true := lenOK_of h2
  by_cases hlt : i < now.length
  · have w_succ : IntKind.i64.wrap ((i : Int) + 1) = ((i + 1 : Nat) : Int) := by rw [wrap_id (by omega) (by omega)]; simp
    have d_lt : decide ((i : Int) < now.length) = true := by simp; omega
    have d_in : decide (0 ≤ (i : Int) ∧ (i : Int) < now.length) = true := by simp; omega
    have t_nat : ((i : Int)).toNat = i := by simp
    simp only [w_succ, d_lt, d_in, t_nat, cond_true]
    have hlt2 : i < sure.length := by omega
    have d_in2 : decide (0 ≤ (i : Int) ∧ (i : Int) < sure.length) = true := by simp; omega
    simp only [d_in2, hlk0, cond_true]
    have hst := lowAt_step (now := now) (sure := sure) i hlt (by omega) (⟨0, []⟩ : Sector)
    generalize now.getD i (⟨0, []⟩ : Sector) = x at hst ⊢
    generalize sure.getD i (⟨0, []⟩ : Sector) = y at hst ⊢
    cases a1 : decide (y.n ≤ x.n)
    · have a2 : decide (x.n < y.n) = true := by simp at a1 ⊢; exact a1
      simp only [a2, cond_true]
      exact leafR_ret (chkRl_o c now d sure i) (by simp [chkRl_S, chkRl_fin, hst, a1, RT.val]) rfl
    · have a2 : decide (x.n < y.n) = false := by simp at a1 ⊢; exact a1
      simp only [a2, cond_false]
      exact leafR_go ⟨c, now, d, sure, i + 1⟩ ⟨hlt, h2, h3⟩ (by simp only [chkRl_S]; omega) (by simp [chkRl_S, chkRl_fin, hst, a1]; rfl) rfl rfl
  · have hi : i = now.length := by omega
    have c1 : decide ((i : Int) < now.length) = false := by simp; omega
    rw [hlk0, c1]
    exact leafR_exit (chkRl_o c now d sure i) (by simp [chkRl_S, chkRl_fin, hi, lowAt_end, RT.val]) rfl
def chkRl_d (env : Env RC) (os : List (Obj RC)) : Option (Bool × chkRl_St) := match env, os with
  | [(1, .ptr 0 []), (2, .int .i64 0), (3, .int .i64 x0)], [.var 24 (.acons (.sl .sector c now) (.acons (.sl .sector d sure) .anil))] => staticD (true) (decide (x0 = 0) && decide (now.length ≤ 9223372036854775807 ∧ now.length = sure.length), ⟨c, now, d, sure, 0⟩)
  | _, _ => none
noncomputable def uu2_3 := uu2_2.addLoop 39 4 (sumR s06 [.slot 1 0] [1, 2, 3] chkRl_S chkRl_d)
theorem uu2_3_laws : FLaws Try.prog s06 uu2_3 := by
  refine uu2_2_laws.addRoundsR s06_laws (by kernel_rfl) chkRl_S 40 [1, 2, 3] [2] [.slot 1 0] [1, 2, 3] chkRl_d (fun q hI => ?_) ?_
  · obtain ⟨c, now, d, sure, i⟩ := q
    refine ⟨?_, ?_, chkRl_round c now d sure i hI⟩
    · simp_all [RefsOK, chkRl_S, chkRl_c, chkRl_o, chkRl_Inv, D.refs, Obj.refs, rEnc]
    · simp_all [chkRl_S, chkRl_fin, chkRl_o, chkRl_Inv, RT.refsOK, RefsOK, D.refs, Obj.refs, rEnc]
  · intro env os b q hd_ hb
    unfold chkRl_d at hd_
    split at hd_
    · obtain ⟨hs, hd_⟩ := staticD_some hd_
      cases hd_
      simp only [Bool.and_eq_true, decide_eq_true_eq] at hb
      obtain ⟨rfl, hl⟩ := hb
      exact ⟨⟨Nat.zero_le _, hl⟩, rfl, rfl⟩
    · cases hd_
def checkR_s (c : Bool) (now : List Sector) (d : Bool) (sure : List Sector) : Option (Bool × D RC) := some (goodL now && goodL sure, .int .i64 (bif diskOK now sure then 0 else 2))
def checkR_sp : List (D RC) → Option (Bool × D RC)
  | [.acons (.sl .sector c now) (.acons (.sl .sector d sure) .anil)] => checkR_s c now d sure
  | _ => none
noncomputable def checkR_e (c : Bool) (now : List Sector) (d : Bool) (sure : List Sector) := evF s06 uu2_3 40 39 [.acons (.sl (C := RC) .sector c now) (.acons (.sl (C := RC) .sector d sure) .anil)]
theorem checkR_eq (c : Bool) (now : List Sector) (d : Bool) (sure : List Sector) : checkR_e c now d sure = (let Z0 : DO_ := some (D.int .i64 2); bif goodL now then bif !rowOK now then Z0 else bif goodL sure then bif !rowOK sure then Z0 else bif decide (List.length now ≤ (9223372036854775807 : Nat) ∧ List.length now = List.length sure) then bif lowAt now sure (0 : Nat) then some (D.int .i64 0) else Z0 else none else none else none) := by kernel_rfl
theorem checkR_ok (c : Bool) (now : List Sector) (d : Bool) (sure : List Sector) (h : (goodL now && goodL sure) = true) : checkR_e c now d sure = some (.int .i64 (bif diskOK now sure then 0 else 2)) := by
  (rw [checkR_eq]; conv => zeta)
  rw [Bool.and_eq_true] at h
  obtain ⟨hg, hgs⟩ := h
  have hl := (goodL_iff.1 hg).1
  simp only [hg, hgs, cond_true, diskOK]
  cases h1 : rowOK now
  · rfl
  cases h2 : rowOK sure
  · rfl
  have l1 := rowOK_len h1
  have l2 := rowOK_len h2
  have e : decide (now.length ≤ 9223372036854775807 ∧ now.length = sure.length) = true := by simp; omega
  cases h3 : lowAt now sure 0 <;> simp [e]
noncomputable def uu2_4 := uu2_3.addSpec 39 checkR_sp
theorem uu2_4_laws : FLaws Try.prog s06 uu2_4 := uu2_3_laws.addEv s06_laws fun args d h => by
  unfold checkR_sp at h
  split at h
  · unfold checkR_s at h
    have h1 := congrArg Prod.fst (Option.some.inj h)
    obtain rfl : _ = d := congrArg Prod.snd (Option.some.inj h)
    exact ⟨by simp [D.refs], 40, checkR_ok _ _ _ _ h1⟩
  · cases h
structure secRl_St where
  c : Bool
  l : List Sector
  d : Bool
  m : List Sector
  i : Nat
def secRl_c (c : Bool) (l : List Sector) (d : Bool) (m : List Sector) (i : Nat) : Env RC := [(0, .sl (C := RC) .sector c l), (1, .sl (C := RC) .sector d m), (4, .bool false), (5, .int .i64 (i : Int))]
def secRl_o (c : Bool) (l : List Sector) (d : Bool) (m : List Sector) (i : Nat) : List (Obj RC) := []
noncomputable def secRl_r (c : Bool) (l : List Sector) (d : Bool) (m : List Sector) (i : Nat) := rndO s06 uu2_4 47 4 40 0 [0, 1, 4, 5] [4] [] (secRl_c c l d m i) (secRl_o c l d m i)
theorem secRl_eq (c : Bool) (l : List Sector) (d : Bool) (m : List Sector) (i : Nat) : secRl_r c l d m i = (let Z0 : Int := (↑i : Int); let Z1 : Sector := List.getD l Z0.toNat (Sector.mk (0 : Int) []); let Z2 : Sector := List.getD m Z0.toNat (Sector.mk (0 : Int) []); bif lenOK l.length then bif decide (Z0 < (↑l.length : Int)) then bif decide ((0 : Int) ≤ Z0 ∧ Z0 < (↑l.length : Int)) then bif decide ((0 : Int) ≤ Z0 ∧ Z0 < (↑m.length : Int)) then bif !(Sector.n Z1 == Sector.n Z2 && (Sector.b Z1 == Sector.b Z2 && true)) then some ((X.ret, [(4, D.bool false)]), []) else some ((X.normal, [(0, D.sl RTy.sector c l), (1, D.sl RTy.sector d m), (4, D.bool false), (5, D.int .i64 (IntKind.wrap .i64 (Z0 + (1 : Int))))]), []) else none else none else some ((X.exit (0 : Nat), [(4, D.bool false)]), []) else none) := by kernel_rfl
def secRl_fin (c : Bool) (l : List Sector) (d : Bool) (m : List Sector) (i : Nat) : RT RC := .br (decide (l.drop i = m.drop i)) (.leaf (.exit 0) [(4, .bool false)] []) (.leaf .ret [(4, .bool false)] [])
def secRl_Inv (c : Bool) (l : List Sector) (d : Bool) (m : List Sector) (i : Nat) : Prop := i ≤ l.length ∧ l.length ≤ 9223372036854775807 ∧ l.length = m.length
def secRl_S : LoopR RC secRl_St where
  k := 0
  canon q := secRl_c q.c q.l q.d q.m q.i
  objs q := secRl_o q.c q.l q.d q.m q.i
  fin q := secRl_fin q.c q.l q.d q.m q.i
  Inv q := secRl_Inv q.c q.l q.d q.m q.i
  μ q := q.l.length - q.i
theorem secRl_round (c : Bool) (l : List Sector) (d : Bool) (m : List Sector) (i : Nat) (hI : secRl_Inv c l d m i) : Leaf (secRl_r c l d m i) (LedR secRl_S ⟨c, l, d, m, i⟩) := by
  (rw [secRl_eq]; conv => zeta)
  unfold secRl_Inv at hI
  obtain ⟨h1, h2, h3⟩ := hI
  have hlk0 : lenOK l.length = true := lenOK_of h2
  by_cases hlt : i < l.length
  · have w_succ : IntKind.i64.wrap ((i : Int) + 1) = ((i + 1 : Nat) : Int) := by rw [wrap_id (by omega) (by omega)]; simp
    have d_lt : decide ((i : Int) < l.length) = true := by simp; omega
    have d_in : decide (0 ≤ (i : Int) ∧ (i : Int) < l.length) = true := by simp; omega
    have t_nat : ((i : Int)).toNat = i := by simp
    simp only [w_succ, d_lt, d_in, t_nat, cond_true]
    have hlt2 : i < m.length := by omega
    have d_in2 : decide (0 ≤ (i : Int) ∧ (i : Int) < m.length) = true := by simp; omega
    simp only [d_in2, hlk0, cond_true, eqSector]
    have hst := drops_step l m i (⟨0, []⟩ : Sector) hlt h3
    generalize l.getD i (⟨0, []⟩ : Sector) = x at hst ⊢
    generalize m.getD i (⟨0, []⟩ : Sector) = y at hst ⊢
    by_cases hxy : x = y
    · simp only [hxy, decide_true, Bool.not_true, cond_false]
      exact leafR_go ⟨c, l, d, m, i + 1⟩ ⟨hlt, h2, h3⟩ (by simp only [secRl_S]; omega) (by simp only [secRl_S, secRl_fin, hst, hxy, decide_true, Bool.true_and]) rfl rfl
    · simp only [hxy, decide_false, Bool.not_false, cond_true]
      exact leafR_ret [] (by simp [secRl_S, secRl_fin, hst, hxy, RT.val]) rfl
  · have hi : i = l.length := by omega
    have c1 : decide ((i : Int) < l.length) = false := by simp; omega
    rw [hlk0, c1]
    exact leafR_exit [] (by simp only [secRl_S, secRl_fin, drops_end l m i (by omega) (by omega), RT.val, cond_true]) rfl
def secRl_d (env : Env RC) (os : List (Obj RC)) : Option (Bool × secRl_St) := match env, os with
  | [(0, .sl .sector c l), (1, .sl .sector d m), (4, .bool false), (5, .int .i64 x0)], [] => staticD (true) (decide (x0 = 0) && decide (l.length ≤ 9223372036854775807 ∧ l.length = m.length), ⟨c, l, d, m, 0⟩)
  | _, _ => none
noncomputable def uu2_5 := uu2_4.addLoop 47 4 (sumR s06 [] [0, 1, 4, 5] secRl_S secRl_d)
theorem uu2_5_laws : FLaws Try.prog s06 uu2_5 := by
  refine uu2_4_laws.addRoundsR s06_laws (by kernel_rfl) secRl_S 40 [0, 1, 4, 5] [4] [] [0, 1, 4, 5] secRl_d (fun q hI => ?_) ?_
  · obtain ⟨c, l, d, m, i⟩ := q
    refine ⟨?_, ?_, secRl_round c l d m i hI⟩
    · simp_all [RefsOK, secRl_S, secRl_c, secRl_o, secRl_Inv, D.refs, Obj.refs, rEnc]
    · simp_all [secRl_S, secRl_fin, secRl_o, secRl_Inv, RT.refsOK, RefsOK, D.refs, Obj.refs, rEnc]
  · intro env os b q hd_ hb
    unfold secRl_d at hd_
    split at hd_
    · obtain ⟨hs, hd_⟩ := staticD_some hd_
      cases hd_
      simp only [Bool.and_eq_true, decide_eq_true_eq] at hb
      obtain ⟨rfl, hl⟩ := hb
      exact ⟨⟨Nat.zero_le _, hl⟩, rfl, rfl⟩
    · cases hd_
def secRf_s (c : Bool) (l : List Sector) (d : Bool) (m : List Sector) : Option (Bool × D RC) := some (lenOK l.length && lenOK m.length, .bool (decide (l = m)))
def secRf_sp : List (D RC) → Option (Bool × D RC)
  | [.sl .sector c l, .sl .sector d m] => secRf_s c l d m
  | _ => none
noncomputable def secRf_e (c : Bool) (l : List Sector) (d : Bool) (m : List Sector) := evF s06 uu2_5 40 47 [.sl (C := RC) .sector c l, .sl (C := RC) .sector d m]
theorem secRf_eq (c : Bool) (l : List Sector) (d : Bool) (m : List Sector) : secRf_e c l d m = (let Z0 : Nat := List.length l; let Z1 : Nat := List.length m; bif lenOK Z0 then bif lenOK Z1 then bif (↑Z0 : Int) != (↑Z1 : Int) then some (D.bool false) else bif decide (Z0 ≤ (9223372036854775807 : Nat) ∧ Z0 = Z1) then bif decide (List.drop (0 : Nat) l = List.drop (0 : Nat) m) then some (D.bool true) else some (D.bool false) else none else none else none) := by kernel_rfl
theorem secRf_ok (c : Bool) (l : List Sector) (d : Bool) (m : List Sector) (h : (lenOK l.length && lenOK m.length) = true) : secRf_e c l d m = some (.bool (decide (l = m))) := by
  (rw [secRf_eq]; conv => zeta)
  rw [Bool.and_eq_true] at h
  obtain ⟨a1, a2⟩ := h
  have hl := lenOK_le a1
  simp only [a1, a2, cond_true]
  by_cases h0 : l.length = m.length
  · have e1 : ((l.length : Int) != (m.length : Int)) = false := by simp [h0]
    have e2 : decide (l.length ≤ 9223372036854775807 ∧ l.length = m.length) = true := decide_eq_true ⟨hl, h0⟩
    rw [e1, e2]
    by_cases h8 : l = m <;> simp [h8]
  · have e1 : ((l.length : Int) != (m.length : Int)) = true := by simp; omega
    have h8 : ¬ l = m := fun e => h0 (by rw [e])
    rw [e1]
    simp [h8]
noncomputable def uu2_6 := uu2_5.addSpec 47 secRf_sp
theorem uu2_6_laws : FLaws Try.prog s06 uu2_6 := uu2_5_laws.addEv s06_laws fun args d h => by
  unfold secRf_sp at h
  split at h
  · unfold secRf_s at h
    have h1 := congrArg Prod.fst (Option.some.inj h)
    obtain rfl : _ = d := congrArg Prod.snd (Option.some.inj h)
    exact ⟨by simp [D.refs], 40, secRf_ok _ _ _ _ h1⟩
  · cases h
structure gr1R_St where
  c : Bool
  now : List Sector
  r : D RC
  i : Nat
def gr1R_c (c : Bool) (now : List Sector) (r : D RC) (i : Nat) : Env RC := [(1, .ptr 0 []), (2, .bool false), (3, .int .i64 (i : Int))]
def gr1R_o (c : Bool) (now : List Sector) (r : D RC) (i : Nat) : List (Obj RC) := [.var 24 (.acons (.sl (C := RC) .sector c now) r)]
noncomputable def gr1R_r (c : Bool) (now : List Sector) (r : D RC) (i : Nat) := rndO s06 uu2_6 6 4 40 1 [1, 2, 3] [2] [.slot 1 0] (gr1R_c c now r i) (gr1R_o c now r i)
theorem gr1R_eq (c : Bool) (now : List Sector) (r : D RC) (i : Nat) : gr1R_r c now r i = (let Z0 : Int := (↑i : Int); let Z1 : Nat := List.length (Sector.b (List.getD now Z0.toNat (Sector.mk (0 : Int) []))); let Z2 : List (Option (Obj RC)) := [some (Obj.var 24 (.acons (D.sl RTy.sector c now) r))]; bif lenOK now.length then bif decide (Z0 < (↑now.length : Int)) then bif decide ((0 : Int) ≤ Z0 ∧ Z0 < (↑now.length : Int)) then bif lenOK Z1 then bif decide ((3000 : Int) < (↑Z1 : Int)) then some ((X.ret, [(2, D.bool true)]), Z2) else some ((X.normal, [(1, D.ptr 0 []), (2, D.bool false), (3, D.int .i64 (IntKind.wrap .i64 (Z0 + (1 : Int))))]), Z2) else none else none else some ((X.exit (0 : Nat), [(2, D.bool false)]), Z2) else none) := by kernel_rfl
def gr1R_fin (c : Bool) (now : List Sector) (r : D RC) (i : Nat) : RT RC := .br (longAt now i) (.leaf .ret [(2, .bool true)] (gr1R_o c now r i)) (.leaf (.exit 0) [(2, .bool false)] (gr1R_o c now r i))
def gr1R_Inv (c : Bool) (now : List Sector) (r : D RC) (i : Nat) : Prop := r.refs = [] ∧ i ≤ now.length ∧ goodL now = true
def gr1R_S : LoopR RC gr1R_St where
  k := 1
  canon q := gr1R_c q.c q.now q.r q.i
  objs q := gr1R_o q.c q.now q.r q.i
  fin q := gr1R_fin q.c q.now q.r q.i
  Inv q := gr1R_Inv q.c q.now q.r q.i
  μ q := q.now.length - q.i
theorem gr1R_round (c : Bool) (now : List Sector) (r : D RC) (i : Nat) (hI : gr1R_Inv c now r i) : Leaf (gr1R_r c now r i) (LedR gr1R_S ⟨c, now, r, i⟩) := by
  (rw [gr1R_eq]; conv => zeta)
  unfold gr1R_Inv at hI
  obtain ⟨h0, h1, hg⟩ := hI
  have h2 := (goodL_iff.1 hg).1
  have hlk0 : lenOK now.length = true := lenOK_of h2
  by_cases hlt : i < now.length
  · have w_succ : IntKind.i64.wrap ((i : Int) + 1) = ((i + 1 : Nat) : Int) := by rw [wrap_id (by omega) (by omega)]; simp
    have d_lt : decide ((i : Int) < now.length) = true := by simp; omega
    have d_in : decide (0 ≤ (i : Int) ∧ (i : Int) < now.length) = true := by simp; omega
    have t_nat : ((i : Int)).toNat = i := by simp
    simp only [w_succ, d_lt, d_in, t_nat, cond_true]
    have hlk := goodL_at hg i hlt (⟨0, []⟩ : Sector)
    have hst := longAt_step now i hlt (⟨0, []⟩ : Sector)
    generalize now.getD i (⟨0, []⟩ : Sector) = x at hst hlk ⊢
    simp only [hlk0, hlk, cond_true]
    cases a1 : decide (3000 < (x.b.length : Int))
    · simp only [cond_false]
      exact leafR_go ⟨c, now, r, i + 1⟩ ⟨h0, hlt, hg⟩ (by simp only [gr1R_S]; omega) (by simp [gr1R_S, gr1R_fin, hst, a1]; rfl) rfl rfl
    · simp only [cond_true]
      exact leafR_ret (gr1R_o c now r i) (by simp [gr1R_S, gr1R_fin, hst, a1, RT.val]) rfl
  · have hi : i = now.length := by omega
    have c1 : decide ((i : Int) < now.length) = false := by simp; omega
    rw [hlk0, c1]
    exact leafR_exit (gr1R_o c now r i) (by simp [gr1R_S, gr1R_fin, hi, longAt_end, RT.val]) rfl
def gr1R_d (env : Env RC) (os : List (Obj RC)) : Option (Bool × gr1R_St) := match env, os with
  | [(1, .ptr 0 []), (2, .bool false), (3, .int .i64 x0)], [.var 24 (.acons (.sl .sector c now) r)] => staticD (r.refs.isEmpty) (decide (x0 = 0) && goodL now, ⟨c, now, r, 0⟩)
  | _, _ => none
noncomputable def uu2_7 := uu2_6.addLoop 6 4 (sumR s06 [.slot 1 0] [1, 2, 3] gr1R_S gr1R_d)
theorem uu2_7_laws : FLaws Try.prog s06 uu2_7 := by
  refine uu2_6_laws.addRoundsR s06_laws (by kernel_rfl) gr1R_S 40 [1, 2, 3] [2] [.slot 1 0] [1, 2, 3] gr1R_d (fun q hI => ?_) ?_
  · obtain ⟨c, now, r, i⟩ := q
    refine ⟨?_, ?_, gr1R_round c now r i hI⟩
    · simp_all [RefsOK, gr1R_S, gr1R_c, gr1R_o, gr1R_Inv, D.refs, Obj.refs, rEnc]
    · simp_all [gr1R_S, gr1R_fin, gr1R_o, gr1R_Inv, RT.refsOK, RefsOK, D.refs, Obj.refs, rEnc]
  · intro env os b q hd_ hb
    unfold gr1R_d at hd_
    split at hd_
    · obtain ⟨hs, hd_⟩ := staticD_some hd_
      cases hd_
      simp only [Bool.and_eq_true, decide_eq_true_eq] at hb
      obtain ⟨rfl, hl⟩ := hb
      exact ⟨⟨List.isEmpty_iff.1 hs, Nat.zero_le _, hl⟩, rfl, rfl⟩
    · cases hd_
structure gr2R_St where
  q : D RC
  c : Bool
  sure : List Sector
  i : Nat
def gr2R_c (q : D RC) (c : Bool) (sure : List Sector) (i : Nat) : Env RC := [(1, .ptr 0 []), (2, .bool false), (4, .int .i64 (i : Int))]
def gr2R_o (q : D RC) (c : Bool) (sure : List Sector) (i : Nat) : List (Obj RC) := [.var 24 (.acons q (.acons (.sl (C := RC) .sector c sure) .anil))]
noncomputable def gr2R_r (q : D RC) (c : Bool) (sure : List Sector) (i : Nat) := rndO s06 uu2_7 6 9 40 1 [1, 2, 4] [2] [.slot 1 0] (gr2R_c q c sure i) (gr2R_o q c sure i)
theorem gr2R_eq (q : D RC) (c : Bool) (sure : List Sector) (i : Nat) : gr2R_r q c sure i = (let Z0 : Int := (↑i : Int); let Z1 : Nat := List.length (Sector.b (List.getD sure Z0.toNat (Sector.mk (0 : Int) []))); let Z2 : List (Option (Obj RC)) := [some (Obj.var 24 (.acons q (D.acons (D.sl RTy.sector c sure) .anil)))]; bif lenOK sure.length then bif decide (Z0 < (↑sure.length : Int)) then bif decide ((0 : Int) ≤ Z0 ∧ Z0 < (↑sure.length : Int)) then bif lenOK Z1 then bif decide ((3000 : Int) < (↑Z1 : Int)) then some ((X.ret, [(2, D.bool true)]), Z2) else some ((X.normal, [(1, D.ptr 0 []), (2, D.bool false), (4, D.int .i64 (IntKind.wrap .i64 (Z0 + (1 : Int))))]), Z2) else none else none else some ((X.exit (2 : Nat), [(2, D.bool false)]), Z2) else none) := by kernel_rfl
def gr2R_fin (q : D RC) (c : Bool) (sure : List Sector) (i : Nat) : RT RC := .br (longAt sure i) (.leaf .ret [(2, .bool true)] (gr2R_o q c sure i)) (.leaf (.exit 2) [(2, .bool false)] (gr2R_o q c sure i))
def gr2R_Inv (q : D RC) (c : Bool) (sure : List Sector) (i : Nat) : Prop := q.refs = [] ∧ i ≤ sure.length ∧ goodL sure = true
def gr2R_S : LoopR RC gr2R_St where
  k := 1
  canon q := gr2R_c q.q q.c q.sure q.i
  objs q := gr2R_o q.q q.c q.sure q.i
  fin q := gr2R_fin q.q q.c q.sure q.i
  Inv q := gr2R_Inv q.q q.c q.sure q.i
  μ q := q.sure.length - q.i
theorem gr2R_round (q : D RC) (c : Bool) (sure : List Sector) (i : Nat) (hI : gr2R_Inv q c sure i) : Leaf (gr2R_r q c sure i) (LedR gr2R_S ⟨q, c, sure, i⟩) := by
  (rw [gr2R_eq]; conv => zeta)
  unfold gr2R_Inv at hI
  obtain ⟨h0, h1, hg⟩ := hI
  have h2 := (goodL_iff.1 hg).1
  have hlk0 : lenOK sure.length = true := lenOK_of h2
  by_cases hlt : i < sure.length
  · have w_succ : IntKind.i64.wrap ((i : Int) + 1) = ((i + 1 : Nat) : Int) := by rw [wrap_id (by omega) (by omega)]; simp
    have d_lt : decide ((i : Int) < sure.length) = true := by simp; omega
    have d_in : decide (0 ≤ (i : Int) ∧ (i : Int) < sure.length) = true := by simp; omega
    have t_nat : ((i : Int)).toNat = i := by simp
    simp only [w_succ, d_lt, d_in, t_nat, cond_true]
    have hlk := goodL_at hg i hlt (⟨0, []⟩ : Sector)
    have hst := longAt_step sure i hlt (⟨0, []⟩ : Sector)
    generalize sure.getD i (⟨0, []⟩ : Sector) = x at hst hlk ⊢
    simp only [hlk0, hlk, cond_true]
    cases a1 : decide (3000 < (x.b.length : Int))
    · simp only [cond_false]
      exact leafR_go ⟨q, c, sure, i + 1⟩ ⟨h0, hlt, hg⟩ (by simp only [gr2R_S]; omega) (by simp [gr2R_S, gr2R_fin, hst, a1]; rfl) rfl rfl
    · simp only [cond_true]
      exact leafR_ret (gr2R_o q c sure i) (by simp [gr2R_S, gr2R_fin, hst, a1, RT.val]) rfl
  · have hi : i = sure.length := by omega
    have c1 : decide ((i : Int) < sure.length) = false := by simp; omega
    rw [hlk0, c1]
    exact leafR_exit (gr2R_o q c sure i) (by simp [gr2R_S, gr2R_fin, hi, longAt_end, RT.val]) rfl
def gr2R_d (env : Env RC) (os : List (Obj RC)) : Option (Bool × gr2R_St) := match env, os with
  | [(1, .ptr 0 []), (2, .bool false), (4, .int .i64 x0)], [.var 24 (.acons q (.acons (.sl .sector c sure) .anil))] => staticD (q.refs.isEmpty) (decide (x0 = 0) && goodL sure, ⟨q, c, sure, 0⟩)
  | _, _ => none
noncomputable def uu2_8 := uu2_7.addLoop 6 9 (sumR s06 [.slot 1 0] [1, 2, 4] gr2R_S gr2R_d)
theorem uu2_8_laws : FLaws Try.prog s06 uu2_8 := by
  refine uu2_7_laws.addRoundsR s06_laws (by kernel_rfl) gr2R_S 40 [1, 2, 4] [2] [.slot 1 0] [1, 2, 4] gr2R_d (fun q hI => ?_) ?_
  · obtain ⟨q, c, sure, i⟩ := q
    refine ⟨?_, ?_, gr2R_round q c sure i hI⟩
    · simp_all [RefsOK, gr2R_S, gr2R_c, gr2R_o, gr2R_Inv, D.refs, Obj.refs, rEnc]
    · simp_all [gr2R_S, gr2R_fin, gr2R_o, gr2R_Inv, RT.refsOK, RefsOK, D.refs, Obj.refs, rEnc]
  · intro env os b q hd_ hb
    unfold gr2R_d at hd_
    split at hd_
    · obtain ⟨hs, hd_⟩ := staticD_some hd_
      cases hd_
      simp only [Bool.and_eq_true, decide_eq_true_eq] at hb
      obtain ⟨rfl, hl⟩ := hb
      exact ⟨⟨List.isEmpty_iff.1 hs, Nat.zero_le _, hl⟩, rfl, rfl⟩
    · cases hd_
def greatR_s (c : Bool) (now : List Sector) (d : Bool) (sure : List Sector) : Option (Bool × D RC) := some (goodL now && goodL sure, .bool (greatD now sure))
def greatR_sp : List (D RC) → Option (Bool × D RC)
  | [.acons (.sl .sector c now) (.acons (.sl .sector d sure) .anil)] => greatR_s c now d sure
  | _ => none
noncomputable def greatR_e (c : Bool) (now : List Sector) (d : Bool) (sure : List Sector) := evF s06 uu2_8 40 6 [.acons (.sl (C := RC) .sector c now) (.acons (.sl (C := RC) .sector d sure) .anil)]
theorem greatR_eq (c : Bool) (now : List Sector) (d : Bool) (sure : List Sector) : greatR_e c now d sure = (let Z0 : DO_ := some (D.bool true); bif lenOK now.length then bif decide ((60 : Int) < (↑now.length : Int)) then Z0 else bif lenOK sure.length then bif decide ((60 : Int) < (↑sure.length : Int)) then Z0 else bif goodL now then bif longAt now (0 : Nat) then Z0 else bif goodL sure then bif longAt sure (0 : Nat) then Z0 else some (D.bool false) else none else none else none else none) := by kernel_rfl
theorem greatR_ok (c : Bool) (now : List Sector) (d : Bool) (sure : List Sector) (h : (goodL now && goodL sure) = true) : greatR_e c now d sure = some (.bool (greatD now sure)) := by
  (rw [greatR_eq]; conv => zeta)
  rw [Bool.and_eq_true] at h
  obtain ⟨hg, hgs⟩ := h
  have l1 := lenOK_of (goodL_iff.1 hg).1
  have l2 := lenOK_of (goodL_iff.1 hgs).1
  simp only [hg, hgs, l1, l2, cond_true, greatD]
  cases decide ((60 : Int) < now.length) <;> cases decide ((60 : Int) < sure.length) <;> cases longAt now 0 <;> cases longAt sure 0 <;> rfl
noncomputable def uu2_9 := uu2_8.addSpec 6 greatR_sp
theorem uu2_9_laws : FLaws Try.prog s06 uu2_9 := uu2_8_laws.addEv s06_laws fun args d h => by
  unfold greatR_sp at h
  split at h
  · unfold greatR_s at h
    have h1 := congrArg Prod.fst (Option.some.inj h)
    obtain rfl : _ = d := congrArg Prod.snd (Option.some.inj h)
    exact ⟨by simp [D.refs], 40, greatR_ok _ _ _ _ h1⟩
  · cases h
def sameR3_s (c : Bool) (now : List Sector) (d : Bool) (sure : List Sector) (c' : Bool) (now' : List Sector) (d' : Bool) (sure' : List Sector) : Option (Bool × D RC) := some (lenOK now.length && lenOK now'.length && (lenOK sure.length && lenOK sure'.length), .bool (decide (now = now') && decide (sure = sure')))
def sameR3_sp : List (D RC) → Option (Bool × D RC)
  | [.acons (.sl .sector c now) (.acons (.sl .sector d sure) .anil), .acons (.sl .sector c' now') (.acons (.sl .sector d' sure') .anil)] => sameR3_s c now d sure c' now' d' sure'
  | _ => none
noncomputable def sameR3_e (c : Bool) (now : List Sector) (d : Bool) (sure : List Sector) (c' : Bool) (now' : List Sector) (d' : Bool) (sure' : List Sector) := evF s06 uu2_9 40 23 [.acons (.sl (C := RC) .sector c now) (.acons (.sl (C := RC) .sector d sure) .anil), .acons (.sl (C := RC) .sector c' now') (.acons (.sl (C := RC) .sector d' sure') .anil)]
theorem sameR3_eq (c : Bool) (now : List Sector) (d : Bool) (sure : List Sector) (c' : Bool) (now' : List Sector) (d' : Bool) (sure' : List Sector) : sameR3_e c now d sure c' now' d' sure' = (bif lenOK now.length && lenOK now'.length then bif decide (now = now') then bif lenOK sure.length && lenOK sure'.length then some (D.bool (decide (sure = sure'))) else none else some (D.bool false) else none) := by kernel_rfl
theorem sameR3_ok (c : Bool) (now : List Sector) (d : Bool) (sure : List Sector) (c' : Bool) (now' : List Sector) (d' : Bool) (sure' : List Sector) (h : (lenOK now.length && lenOK now'.length && (lenOK sure.length && lenOK sure'.length)) = true) : sameR3_e c now d sure c' now' d' sure' = some (.bool (decide (now = now') && decide (sure = sure'))) := by
  rw [sameR3_eq]
  rw [Bool.and_eq_true] at h
  rw [h.1, h.2]
  cases decide (now = now') <;> rfl
noncomputable def uu2_10 := uu2_9.addSpec 23 sameR3_sp
theorem uu2_10_laws : FLaws Try.prog s06 uu2_10 := uu2_9_laws.addEv s06_laws fun args d h => by
  unfold sameR3_sp at h
  split at h
  · unfold sameR3_s at h
    have h1 := congrArg Prod.fst (Option.some.inj h)
    obtain rfl : _ = d := congrArg Prod.snd (Option.some.inj h)
    exact ⟨by simp [D.refs], 40, sameR3_ok _ _ _ _ _ _ _ _ h1⟩
  · cases h
def putR3_s (c : Bool) (now : List Sector) (d : Bool) (sure : List Sector) (k : Int) (n : Int) (b : List UInt8) : Option (Bool × D RC) := some (goodL now && goodL sure && lenOK b.length, .tup (.acons (.acons (.sl (C := RC) .sector (!okPut now sure k n b) (pNow now sure k n b)) (.acons (.sl (C := RC) .sector (!okPut now sure k n b) (pSure now sure k n b)) .anil)) (.acons (.int .i64 (bif okPut now sure k n b then 0 else 2)) .anil)))
def putR3_sp : List (D RC) → Option (Bool × D RC)
  | [.acons (.sl .sector c now) (.acons (.sl .sector d sure) .anil), .int .i64 k, .int .i64 n, .str b] => putR3_s c now d sure k n b
  | _ => none
noncomputable def putR3_e (c : Bool) (now : List Sector) (d : Bool) (sure : List Sector) (k : Int) (n : Int) (b : List UInt8) := evF s06 uu2_10 40 45 [.acons (.sl (C := RC) .sector c now) (.acons (.sl (C := RC) .sector d sure) .anil), .int .i64 k, .int .i64 n, .str b]
theorem putR3_eq (c : Bool) (now : List Sector) (d : Bool) (sure : List Sector) (k : Int) (n : Int) (b : List UInt8) : putR3_e c now d sure k n b = (let Z0 : D RC := D.sl RTy.sector true []; let Z1 : DO_ := some (D.tup (D.acons (D.acons Z0 (D.acons Z0 .anil)) (.acons (D.int .i64 2) .anil))); let Z2 : Nat := (0 : Nat) + List.length now; let Z3 : Nat := (0 : Nat) + List.length sure; let Z4 : List Sector := List.replicate (0 : Nat) (Sector.mk (0 : Int) []); let Z5 : Nat := List.length (Z4 ++ now); let Z6 : Bool := Nat.beq Z2 Z5; let Z7 : Bool := Z6 && decide ((0 : Int) ≤ k ∧ k < (↑Z5 : Int)); let Z8 : List Sector := List.set (Z4 ++ now) k.toNat (Sector.mk n b); let Z9 : Bool := Nat.beq Z3 (Z4 ++ sure).length; let Z10 : D RC := D.acons (D.sl RTy.sector false (Z4 ++ sure)) .anil; let Z11 : D RC := D.acons (D.int .i64 0) .anil; let Z12 : DO_ := none; bif goodL now && goodL sure then bif (bif diskOK now sure then (0 : Int) else (2 : Int)) != (0 : Int) then Z1 else bif decide (k < (0 : Int)) then Z1 else bif decide ((33 : Int) ≤ k) then Z1 else bif decide (n < (1 : Int)) then Z1 else bif decide ((1048575 : Int) < n) then Z1 else bif b == Array.toList #[] then Z1 else bif lenOK b.length then bif decide ((640 : Int) < (↑b.length : Int)) then Z1 else bif sizeOK Z2 (24 : Nat) then bif sizeOK Z3 (24 : Nat) then bif Z7 then bif Z6 then bif Z6 then bif decide (Sector.n (List.getD (Z4 ++ now) k.toNat (Sector.mk (0 : Int) [])) < n) then bif Z7 then bif Z6 then bif Nat.beq Z2 Z8.length then bif Z9 then some (D.tup (D.acons (D.acons (D.sl RTy.sector false Z8) Z10) Z11)) else Z12 else Z12 else Z12 else Z12 else bif Z6 then bif Z9 then some (D.tup (D.acons (D.acons (D.sl RTy.sector false (Z4 ++ now)) Z10) Z11)) else Z12 else Z12 else Z12 else Z12 else Z12 else Z12 else Z12 else Z12 else Z12) := by kernel_rfl
theorem putR3_ok (c : Bool) (now : List Sector) (d : Bool) (sure : List Sector) (k : Int) (n : Int) (b : List UInt8) (h : (goodL now && goodL sure && lenOK b.length) = true) : putR3_e c now d sure k n b = some (.tup (.acons (.acons (.sl (C := RC) .sector (!okPut now sure k n b) (pNow now sure k n b)) (.acons (.sl (C := RC) .sector (!okPut now sure k n b) (pSure now sure k n b)) .anil)) (.acons (.int .i64 (bif okPut now sure k n b then 0 else 2)) .anil))) := by
  (rw [putR3_eq]; conv => zeta)
  simp only [Bool.and_eq_true] at h
  obtain ⟨⟨hg, hgs⟩, hb⟩ := h
  have hgg : (goodL now && goodL sure) = true := by rw [hg, hgs]; rfl
  have no : okPut now sure k n b = false → some (D.tup (.acons (.acons (.sl (C := RC) .sector true []) (.acons (.sl (C := RC) .sector true []) .anil)) (.acons (.int .i64 2) .anil))) = some (.tup (.acons (.acons (.sl (C := RC) .sector (!okPut now sure k n b) (pNow now sure k n b)) (.acons (.sl (C := RC) .sector (!okPut now sure k n b) (pSure now sure k n b)) .anil)) (.acons (.int .i64 (bif okPut now sure k n b then 0 else 2)) .anil))) := fun e => by simp only [e, pNow, pSure]; rfl
  refine cond_of hgg ?_
  cases hd : diskOK now sure
  · exact cond_of rfl (no (okPut_not fun f => by rw [hd] at f; cases f.1))
  obtain ⟨l1, l2⟩ := diskOK_len hd
  refine cond_no rfl (cond_two (fun e => no (okPut_not fun f => by simp only [decide_eq_true_eq] at e; omega)) fun e1 => ?_)
  refine (cond_two (fun e => no (okPut_not fun f => by simp only [decide_eq_true_eq] at e; omega)) fun e2 => ?_)
  refine (cond_two (fun e => no (okPut_not fun f => by simp only [decide_eq_true_eq] at e; omega)) fun e3 => ?_)
  have mf : maySec ⟨n, b⟩ = true → n ≤ 1048575 ∧ b.length ≤ 640 := fun e => by simp only [maySec, Bool.and_eq_true, decide_eq_true_eq] at e; exact ⟨e.1.1.2, e.1.2⟩
  refine (cond_two (fun e => no (okPut_not fun f => by have := mf f.2.2.2.2.2; simp only [decide_eq_true_eq] at e; omega)) fun e4 => ?_)
  refine (cond_two (fun e => no (okPut_not fun f => f.2.2.2.2.1 (by simpa using e))) fun e5 => ?_)
  refine cond_of hb ?_
  refine (cond_two (fun e => no (okPut_not fun f => by have := mf f.2.2.2.2.2; simp only [decide_eq_true_eq] at e; omega)) fun e6 => ?_)
  simp only [decide_eq_false_iff_not] at e1 e2 e3 e4 e6
  have ok : okPut now sure k n b = true := by
    have d1 : 0 < n := by omega
    simp only [okPut, hd, maySec, Bool.true_and, Bool.and_eq_true, decide_eq_true_eq, d1, decide_true, Bool.true_or]
    exact ⟨⟨⟨⟨by omega, by omega⟩, by omega⟩, by simpa using e5⟩, ⟨⟨by omega, by omega⟩, by omega⟩, trivial⟩
  rw [ok]
  have r0 : ∀ l : List Sector, List.replicate 0 (⟨0, []⟩ : Sector) ++ l = l := fun l => rfl
  have eb : ∀ n : Nat, n.beq n = true := fun n => by simp
  have s1 : sizeOK now.length 24 = true := by simp [sizeOK]; omega
  have s2 : sizeOK sure.length 24 = true := by simp [sizeOK]; omega
  have dk : decide (0 ≤ k ∧ k < (now.length : Int)) = true := by simp; omega
  simp only [pNow, pSure, ok, cond_true, Bool.not_true, r0, Nat.zero_add, List.length_set, eb, s1, s2, dk, Bool.and_self]
  refine cond_two (fun e => ?_) fun e => ?_ <;> simp only [decide_eq_true_eq, decide_eq_false_iff_not] at e
  · have pn : putNow now k.toNat n b = now.set k.toNat ⟨n, b⟩ := if_pos e
    rw [pn]
  · have pn : putNow now k.toNat n b = now := if_neg e
    rw [pn]
noncomputable def uu2_11 := uu2_10.addSpec 45 putR3_sp
theorem uu2_11_laws : FLaws Try.prog s06 uu2_11 := uu2_10_laws.addEv s06_laws fun args d h => by
  unfold putR3_sp at h
  split at h
  · unfold putR3_s at h
    have h1 := congrArg Prod.fst (Option.some.inj h)
    obtain rfl : _ = d := congrArg Prod.snd (Option.some.inj h)
    exact ⟨by simp [D.refs], 40, putR3_ok _ _ _ _ _ _ _ h1⟩
  · cases h
structure crashRl_St where
  lost : Int
  now : List Sector
  sure : List Sector
  i : Nat
def crashRl_c (lost : Int) (now : List Sector) (sure : List Sector) (i : Nat) : Env RC := [(1, .int .u64 lost), (6, .ptr 0 []), (7, .int .i64 (i : Int))]
def crashRl_o (lost : Int) (now : List Sector) (sure : List Sector) (i : Nat) : List (Obj RC) := [.var 24 (.acons (.vs 1 (now.length)) (.acons (.vs 2 (sure.length)) .anil)), .vec (C := RC) .sector true now, .vec (C := RC) .sector true sure]
noncomputable def crashRl_r (lost : Int) (now : List Sector) (sure : List Sector) (i : Nat) := rndO s06 uu2_11 27 5 40 3 [1, 6, 7] [] [.slot 6 0, .path 0 [0], .path 0 [1]] (crashRl_c lost now sure i) (crashRl_o lost now sure i)
theorem crashRl_eq (lost : Int) (now : List Sector) (sure : List Sector) (i : Nat) : crashRl_r lost now sure i = (let Z0 : Int := (↑i : Int); let Z1 : Nat := List.length sure; let Z2 : Bool := Nat.beq Z1 Z1; let Z3 : Bool := Z2 && decide ((0 : Int) ≤ Z0 ∧ Z0 < (↑Z1 : Int)); let Z4 : Nat := List.length now; let Z5 : Bool := Nat.beq Z4 Z4; let Z6 : Bool := Z5 && decide ((0 : Int) ≤ Z0 ∧ Z0 < (↑Z4 : Int)); let Z7 : X × Env RC := (X.normal, [(1, D.int IntKind.u64 lost), (6, D.ptr 0 []), (7, D.int .i64 (IntKind.wrap .i64 (Z0 + (1 : Int))))]); let Z8 : Option (Obj RC) := some (Obj.var 24 (.acons (D.vs 1 Z4) (.acons (D.vs 2 Z1) .anil))); let Z9 : Nat := Int.toNat Z0; let Z10 : Sector := List.getD sure Z9 (Sector.mk (0 : Int) []); let Z11 : Sector := List.getD now Z9 (Sector.mk (0 : Int) []); bif decide (Z0 < (33 : Int)) then bif bits IntKind.u64 (fun (x : Nat) (u v : BitVec x) => u &&& v) (Int.fdiv lost ((2 : Int) ^ min (IntKind.wrap IntKind.u64 Z0).toNat (64 : Nat))) (1 : Int) == (1 : Int) then bif Z3 then bif Z2 then bif Z6 then bif Z5 then some (Z7, [Z8, some (Obj.vec RTy.sector true (List.set now Z9 (Sector.mk (Sector.n Z10) (Sector.b Z10)))), some (Obj.vec RTy.sector true sure)]) else none else none else none else none else bif Z6 then bif Z5 then bif Z3 then bif Z2 then some (Z7, [Z8, some (Obj.vec RTy.sector true now), some (Obj.vec RTy.sector true (List.set sure Z9 (Sector.mk (Sector.n Z11) (Sector.b Z11))))]) else none else none else none else none else some ((X.exit (0 : Nat), []), [Z8, some (Obj.vec RTy.sector true now), some (Obj.vec RTy.sector true sure)])) := by kernel_rfl
def crashRl_fin (lost : Int) (now : List Sector) (sure : List Sector) (i : Nat) : RT RC := .leaf (.exit 0) [] [.var 24 (.acons (.vs 1 (crashF lost (33 - i) i now sure).1.length) (.acons (.vs 2 (crashF lost (33 - i) i now sure).2.length) .anil)), .vec (C := RC) .sector true (crashF lost (33 - i) i now sure).1, .vec (C := RC) .sector true (crashF lost (33 - i) i now sure).2]
def crashRl_Inv (lost : Int) (now : List Sector) (sure : List Sector) (i : Nat) : Prop := i ≤ 33 ∧ now.length = 33 ∧ sure.length = 33
def crashRl_S : LoopR RC crashRl_St where
  k := 3
  canon q := crashRl_c q.lost q.now q.sure q.i
  objs q := crashRl_o q.lost q.now q.sure q.i
  fin q := crashRl_fin q.lost q.now q.sure q.i
  Inv q := crashRl_Inv q.lost q.now q.sure q.i
  μ q := 33 - q.i
theorem crashRl_round (lost : Int) (now : List Sector) (sure : List Sector) (i : Nat) (hI : crashRl_Inv lost now sure i) : Leaf (crashRl_r lost now sure i) (LedR crashRl_S ⟨lost, now, sure, i⟩) := by
  (rw [crashRl_eq]; conv => zeta)
  unfold crashRl_Inv at hI
  obtain ⟨h1, h2, h3⟩ := hI
  have eb : ∀ n : Nat, n.beq n = true := fun n => by simp
  by_cases hlt : (i : Int) < 33
  · have w_succ : IntKind.i64.wrap ((i : Int) + 1) = ((i + 1 : Nat) : Int) := by rw [wrap_id (by omega) (by omega)]; simp
    have d1 : decide ((i : Int) < 33) = true := by simp; omega
    have d2 : decide (0 ≤ (i : Int) ∧ (i : Int) < now.length) = true := by simp; omega
    have d3 : decide (0 ≤ (i : Int) ∧ (i : Int) < sure.length) = true := by simp; omega
    have t_nat : ((i : Int)).toNat = i := by simp
    have hs : 33 - i = (33 - (i + 1)) + 1 := by omega
    simp only [d1, d2, d3, eb, w_succ, t_nat, Bool.and_self, cond_true]
    refine leaf_cond.2 ⟨fun hb => ?_, fun hb => ?_⟩
    · have hb' : bitAt lost i = true := hb
      refine leafR_go ⟨lost, now.set i (sure.getD i sec0), sure, i + 1⟩ (by refine ⟨by show i + 1 ≤ 33; omega, ?_, h3⟩; rw [List.length_set]; exact h2) (by simp only [crashRl_S]; omega) ?_ (by simp [crashRl_S, crashRl_c]) (by simp [crashRl_S, crashRl_o, sec0])
      simp only [crashRl_S, crashRl_fin, hs, crashF, hb', if_true]
    · have hb' : bitAt lost i = false := hb
      refine leafR_go ⟨lost, now, sure.set i (now.getD i sec0), i + 1⟩ (by refine ⟨by show i + 1 ≤ 33; omega, h2, ?_⟩; rw [List.length_set]; exact h3) (by simp only [crashRl_S]; omega) ?_ (by simp [crashRl_S, crashRl_c]) (by simp [crashRl_S, crashRl_o, sec0])
      simp only [crashRl_S, crashRl_fin, hs, crashF, hb', Bool.false_eq_true, if_false]
  · have hi : i = 33 := by omega
    have d1 : decide ((i : Int) < 33) = false := by simp; omega
    rw [d1]
    exact leafR_exit (crashRl_o lost now sure i) (by simp [crashRl_S, crashRl_fin, crashRl_o, hi, crashF, RT.val]) rfl
def crashRl_d (env : Env RC) (os : List (Obj RC)) : Option (Bool × crashRl_St) := match env, os with
  | [(1, .int .u64 lost), (6, .ptr 0 []), (7, .int .i64 x0)], [.var 24 (.acons (.vs 1 x1) (.acons (.vs 2 x2) .anil)), .vec .sector true now, .vec .sector true sure] => staticD (true) (decide (x0 = 0) && decide (x1 = now.length) && decide (x2 = sure.length) && decide (now.length = 33 ∧ sure.length = 33), ⟨lost, now, sure, 0⟩)
  | _, _ => none
noncomputable def uu2_12 := uu2_11.addLoop 27 5 (sumR s06 [.slot 6 0, .path 0 [0], .path 0 [1]] [1, 6, 7] crashRl_S crashRl_d)
theorem uu2_12_laws : FLaws Try.prog s06 uu2_12 := by
  refine uu2_11_laws.addRoundsR s06_laws (by kernel_rfl) crashRl_S 40 [1, 6, 7] [] [.slot 6 0, .path 0 [0], .path 0 [1]] [1, 6, 7] crashRl_d (fun q hI => ?_) ?_
  · obtain ⟨lost, now, sure, i⟩ := q
    refine ⟨?_, ?_, crashRl_round lost now sure i hI⟩
    · simp_all [RefsOK, crashRl_S, crashRl_c, crashRl_o, crashRl_Inv, D.refs, Obj.refs, rEnc]
    · simp_all [crashRl_S, crashRl_fin, crashRl_o, crashRl_Inv, RT.refsOK, RefsOK, D.refs, Obj.refs, rEnc]
  · intro env os b q hd_ hb
    unfold crashRl_d at hd_
    split at hd_
    · obtain ⟨hs, hd_⟩ := staticD_some hd_
      cases hd_
      simp only [Bool.and_eq_true, decide_eq_true_eq] at hb
      obtain ⟨⟨⟨rfl, rfl⟩, rfl⟩, hl⟩ := hb
      exact ⟨⟨Nat.zero_le _, hl⟩, rfl, rfl⟩
    · cases hd_
def crashR3_s (c : Bool) (now : List Sector) (d : Bool) (sure : List Sector) (lost : Int) : Option (Bool × D RC) := some (goodL now && goodL sure, .tup (.acons (.acons (.sl (C := RC) .sector (!diskOK now sure) (bif diskOK now sure then (crashF lost 33 0 now sure).1 else [])) (.acons (.sl (C := RC) .sector (!diskOK now sure) (bif diskOK now sure then (crashF lost 33 0 now sure).2 else [])) .anil)) (.acons (.int .i64 (bif diskOK now sure then 0 else 2)) .anil)))
def crashR3_sp : List (D RC) → Option (Bool × D RC)
  | [.acons (.sl .sector c now) (.acons (.sl .sector d sure) .anil), .int .u64 lost] => crashR3_s c now d sure lost
  | _ => none
noncomputable def crashR3_e (c : Bool) (now : List Sector) (d : Bool) (sure : List Sector) (lost : Int) := evF s06 uu2_12 40 27 [.acons (.sl (C := RC) .sector c now) (.acons (.sl (C := RC) .sector d sure) .anil), .int .u64 lost]
theorem crashR3_eq (c : Bool) (now : List Sector) (d : Bool) (sure : List Sector) (lost : Int) : crashR3_e c now d sure lost = (let Z0 : D RC := D.sl RTy.sector true []; let Z1 : Nat := (0 : Nat) + List.length now; let Z2 : Nat := (0 : Nat) + List.length sure; let Z3 : List Sector := List.replicate (0 : Nat) (Sector.mk (0 : Int) []); let Z4 : Nat := List.length (Z3 ++ now); let Z5 : Nat := List.length (Z3 ++ sure); let Z6 : List Sector × List Sector := crashF lost (33 : Nat) (0 : Nat) (Z3 ++ now) (Z3 ++ sure); let Z7 : Nat := List.length Z6.1; let Z8 : Nat := List.length Z6.2; bif goodL now && goodL sure then bif (bif diskOK now sure then (0 : Int) else (2 : Int)) != (0 : Int) then some (D.tup (D.acons (D.acons Z0 (D.acons Z0 .anil)) (.acons (D.int .i64 2) .anil))) else bif sizeOK Z1 (24 : Nat) then bif sizeOK Z2 (24 : Nat) then bif decide (Z1 = Z4) && decide (Z2 = Z5) && decide (Z4 = (33 : Nat) ∧ Z5 = (33 : Nat)) then bif Nat.beq Z7 Z7 then bif Nat.beq Z8 Z8 then some (D.tup (D.acons (D.acons (D.sl RTy.sector false Z6.1) (.acons (D.sl RTy.sector false Z6.2) .anil)) (.acons (D.int .i64 0) .anil))) else none else none else none else none else none else none) := by kernel_rfl
theorem crashR3_ok (c : Bool) (now : List Sector) (d : Bool) (sure : List Sector) (lost : Int) (h : (goodL now && goodL sure) = true) : crashR3_e c now d sure lost = some (.tup (.acons (.acons (.sl (C := RC) .sector (!diskOK now sure) (bif diskOK now sure then (crashF lost 33 0 now sure).1 else [])) (.acons (.sl (C := RC) .sector (!diskOK now sure) (bif diskOK now sure then (crashF lost 33 0 now sure).2 else [])) .anil)) (.acons (.int .i64 (bif diskOK now sure then 0 else 2)) .anil))) := by
  (rw [crashR3_eq]; conv => zeta)
  have hgg := h
  rw [Bool.and_eq_true] at h
  obtain ⟨hg, hgs⟩ := h
  refine cond_of hgg ?_
  cases hd : diskOK now sure
  · exact cond_of rfl rfl
  obtain ⟨l1, l2⟩ := diskOK_len hd
  have r0 : ∀ l : List Sector, List.replicate 0 (⟨0, []⟩ : Sector) ++ l = l := fun l => rfl
  have eb : ∀ n : Nat, n.beq n = true := fun n => by simp
  have s1 : sizeOK now.length 24 = true := by simp [sizeOK]; omega
  have s2 : sizeOK sure.length 24 = true := by simp [sizeOK]; omega
  have d3 : decide (now.length = 33 ∧ sure.length = 33) = true := decide_eq_true ⟨l1, l2⟩
  refine cond_no rfl ?_
  simp only [r0, eb, s1, s2, d3, Nat.zero_add, decide_true, Bool.and_self, cond_true, Bool.not_true]
noncomputable def uu2_13 := uu2_12.addSpec 27 crashR3_sp
theorem uu2_13_laws : FLaws Try.prog s06 uu2_13 := uu2_12_laws.addEv s06_laws fun args d h => by
  unfold crashR3_sp at h
  split at h
  · unfold crashR3_s at h
    have h1 := congrArg Prod.fst (Option.some.inj h)
    obtain rfl : _ = d := congrArg Prod.snd (Option.some.inj h)
    exact ⟨by simp [D.refs], 40, crashR3_ok _ _ _ _ _ h1⟩
  · cases h
theorem pairs_put : ∀ (l : List Write), l.all fitW = true → pairsN l.length (l.flatMap wBytes) = l
  | [], _ => rfl
  | w :: l, h => by
    simp only [List.all_cons, Bool.and_eq_true] at h
    have hw := h.1
    simp only [fitW, Bool.and_eq_true] at hw
    simp [pairsN, wBytes, byteOf_fit hw.1, byteOf_fit hw.2, pairs_put l h.2]
theorem readR_put {r : Rec} (h : mayB r = true) : readR (bytesR r) = some r := by
  obtain ⟨p, y, l⟩ := r
  obtain ⟨hp, hl, hw⟩ := may_facts h
  have e0 : bytesR ⟨p, y, l⟩ = byteOf p :: byteOf (p.fdiv 256) :: byteOf ((p.fdiv 256).fdiv 256) :: byteOf (bif y then 1 else 0) :: byteOf l.length :: l.flatMap wBytes := by simp [bytesR, leB3, leB1]
  have e1 : (leVal [byteOf p, byteOf (p.fdiv 256), byteOf ((p.fdiv 256).fdiv 256)] : Int) = p := leVal_leB 3 p (by omega) (by omega)
  have e2 : ((byteOf (l.length : Int)).toNat : Int) = l.length := byteOf_fit (by rw [withinB_iff]; omega)
  have e3 : (byteOf (l.length : Int)).toNat = l.length := by omega
  have e4 : (byteOf (bif y then 1 else 0)).toNat = bif y then 1 else 0 := by cases y <;> decide
  have e5 : ((bif y then 1 else 0) == 1) = y := by cases y <;> rfl
  have e6 : (bif y then 1 else 0) ≤ 1 := by cases y <;> decide
  have e7 : (l.flatMap wBytes).length = 2 * l.length := flatMap_len l wBytes 2 wBytes_len
  rw [e0, readR]
  have t3 : ∀ (a b c d e : UInt8) (t : List UInt8), (a :: b :: c :: d :: e :: t).take 3 = [a, b, c] := fun _ _ _ _ _ _ => rfl
  have d5 : ∀ (a b c d e : UInt8) (t : List UInt8), (a :: b :: c :: d :: e :: t).drop 5 = t := fun _ _ _ _ _ _ => rfl
  have g3 : ∀ (a b c d e : UInt8) (t : List UInt8), (a :: b :: c :: d :: e :: t).getD 3 0 = d := fun _ _ _ _ _ _ => rfl
  have g4 : ∀ (a b c d e : UInt8) (t : List UInt8), (a :: b :: c :: d :: e :: t).getD 4 0 = e := fun _ _ _ _ _ _ => rfl
  simp only [t3, d5, g3, g4, e1, e3, e4, e5, pairs_put l hw, h, List.length_cons, e7]
  rw [if_pos ⟨by omega, e6, by omega, trivial⟩]
theorem bytesR_len {r : Rec} (h : mayB r = true) : (bytesR r).length ≤ 13 := by
  obtain ⟨p, y, l⟩ := r
  obtain ⟨hp, hl, hw⟩ := may_facts h
  simp only [bytesR, List.length_append, leB_length, flatMap_len l wBytes 2 wBytes_len]
  omega
def frN (b : List UInt8) : Int := ((readF b).getD (0, [])).1
def frL (b : List UInt8) : List UInt8 := ((readF b).getD (0, [])).2
theorem getP_in {b : List UInt8} {a w : Int} (h1 : 1 ≤ w) (h2 : w ≤ 6) (h3 : 0 ≤ a) (h4 : a + w ≤ b.length) : getP b a w = ((leVal ((b.drop a.toNat).take w.toNat) : Int), 0) := by simp [getP, h1, h2, h3, h4]
theorem getP_out {b : List UInt8} {a w : Int} (h1 : 1 ≤ w) (h2 : w ≤ 6) (h4 : b.length < a + w) : getP b a w = (0, 50) := by
  have : ¬ a + w ≤ (b.length : Int) := by omega
  simp [getP, h1, h2, this]
theorem okF_not {n : Int} {l : List UInt8} (h : ¬ (1 ≤ n ∧ n ≤ 1048575 ∧ l.length ≤ 600)) : okF n l = false := by
  cases e : okF n l
  · rfl
  · simp only [okF, Bool.and_eq_true, decide_eq_true_eq] at e; exact absurd ⟨e.1.1, e.1.2, e.2⟩ h
def ofF (s : Sector) : Option (List UInt8) := (readF s.b).bind fun p => if p.1 = s.n then some p.2 else none
theorem ofF_frame {n : Int} {l : List UInt8} (h : okF n l = true) : ofF ⟨n, frameB n l⟩ = some l := by
  simp [ofF, readF_frame h]
theorem ofF_len (s : Sector) : ((ofF s).getD []).length ≤ s.b.length := by
  unfold ofF
  cases h : readF s.b with
  | none => simp
  | some p =>
    obtain ⟨n, l⟩ := p
    have h2 := congrArg List.length (readF_ok h).2
    rw [frameB_len] at h2
    by_cases e : n = s.n
    · simp [e]; omega
    · simp [e]
open Go.Proofs
def frSize_s (n : Int) : Option (Bool × D RC) := some (decide (n ≤ 1000000), .int .i64 (bif decide (n < 0) || decide (600 < n) then 0 else n + 12))
def frSize_sp : List (D RC) → Option (Bool × D RC)
  | [.int .i64 n] => frSize_s n
  | _ => none
noncomputable def frSize_e (n : Int) := evF s06 uu2_13 40 53 [.int .i64 n]
theorem frSize_eq (n : Int) : frSize_e n = (let Z0 : DO_ := some (D.int .i64 0); bif decide (n < (0 : Int)) then Z0 else bif decide ((600 : Int) < n) then Z0 else some (D.int .i64 (IntKind.wrap .i64 (IntKind.wrap .i64 ((8 : Int) + n) + (4 : Int))))) := by kernel_rfl
theorem frSize_ok (n : Int) (h : (decide (n ≤ 1000000)) = true) : frSize_e n = some (.int .i64 (bif decide (n < 0) || decide (600 < n) then 0 else n + 12)) := by
  (rw [frSize_eq]; conv => zeta)
  have hl := of_decide_eq_true h
  by_cases h0 : n < 0
  · simp [h0]
  by_cases h6 : 600 < n
  · simp [h0, h6]
  have w1 : IntKind.i64.wrap (8 + n) = 8 + n := wrap_id (by omega) (by omega)
  have w2 : IntKind.i64.wrap (8 + n + 4) = 8 + n + 4 := wrap_id (by omega) (by omega)
  simp [h0, h6, w1, w2]
  omega
noncomputable def uv_1 := uu2_13.addSpec 53 frSize_sp
theorem uv_1_laws : FLaws Try.prog s06 uv_1 := uu2_13_laws.addEv s06_laws fun args d h => by
  unfold frSize_sp at h
  split at h
  · unfold frSize_s at h
    have h1 := congrArg Prod.fst (Option.some.inj h)
    obtain rfl : _ = d := congrArg Prod.snd (Option.some.inj h)
    exact ⟨by simp [D.refs], 40, frSize_ok _ h1⟩
  · cases h
def frBytes_s (n : Int) (b : List UInt8) : Option (Bool × D RC) := some (decide (b.length ≤ 1000000), .tup (.acons (.str (bif okF n b then frameB n b else [])) (.acons (.int .i64 (bif okF n b then 0 else 2)) .anil)))
def frBytes_sp : List (D RC) → Option (Bool × D RC)
  | [.int .i64 n, .str b] => frBytes_s n b
  | _ => none
noncomputable def frBytes_e (n : Int) (b : List UInt8) := evF s06 uv_1 60 29 [.int .i64 n, .str b]
theorem frBytes_eq (n : Int) (b : List UInt8) : frBytes_e n b = (let Z0 : DO_ := some (D.tup (D.acons (D.str (Array.toList #[])) (.acons (D.int .i64 2) .anil))); let Z1 : Nat := List.length b; let Z2 : Int := (↑Z1 : Int); let Z3 : Nat := (0 : Nat) + List.length (putL [] n (6 : Nat)); let Z4 : Nat := List.length ([] ++ putL [] n (6 : Nat)); let Z5 : Nat := List.length (putL [] Z2 (2 : Nat)); let Z6 : List UInt8 := [] ++ putL [] n (6 : Nat) ++ putL [] Z2 (2 : Nat); let Z7 : Nat := List.length (Z6 ++ b); let Z8 : DO_ := none; bif (bif fitsB n (6 : Nat) then (0 : Int) else (2 : Int)) != (0 : Int) then Z0 else bif decide (n < (1 : Int)) then Z0 else bif decide ((1048575 : Int) < n) then Z0 else bif lenOK Z1 then bif decide (Z2 ≤ (1000000 : Int)) then bif (bif decide (Z2 < (0 : Int)) || decide ((600 : Int) < Z2) then (0 : Int) else Z2 + (12 : Int)) == (0 : Int) then Z0 else bif lenOK Z1 then bif sizeOK Z1 (1 : Nat) then bif sizeOK Z3 (1 : Nat) then bif Nat.beq Z3 Z4 && sizeOK (Z3 + Z5) (1 : Nat) then bif Nat.beq (Z4 + Z5) Z6.length && sizeOK (Z4 + Z5 + Z1) (1 : Nat) then bif Nat.beq (List.length Z6 + Z1) Z7 then bif decide (Z7 ≤ (1000000 : Nat)) then some (D.tup (D.acons (D.str (sealL (Z6 ++ b))) (.acons (D.int .i64 0) .anil))) else Z8 else Z8 else Z8 else Z8 else Z8 else Z8 else Z8 else Z8 else Z8) := by kernel_rfl
theorem frBytes_ok (n : Int) (b : List UInt8) (h : (decide (b.length ≤ 1000000)) = true) : frBytes_e n b = some (.tup (.acons (.str (bif okF n b then frameB n b else [])) (.acons (.int .i64 (bif okF n b then 0 else 2)) .anil))) := by
  (rw [frBytes_eq]; conv => zeta)
  have hl := of_decide_eq_true h
  have lb : lenOK b.length = true := lenOK_of (by omega)
  have ld : decide ((b.length : Int) ≤ 1000000) = true := by simp; omega
  have no : okF n b = false → some (D.tup (.acons (.str []) (.acons (.int .i64 2) .anil))) = some (.tup (.acons (.str (bif okF n b then frameB n b else [])) (.acons (.int .i64 (bif okF n b then 0 else 2)) .anil)) : D RC) := fun e => by rw [e]; rfl
  refine cond_two (fun e => no (okF_not fun f => by rw [show fitsB n 6 = true by rw [fitsB_iff]; omega] at e; cases e)) fun e0 => ?_
  refine cond_two (fun e => no (okF_not fun f => by simp only [decide_eq_true_eq] at e; omega)) fun e1 => ?_
  refine cond_two (fun e => no (okF_not fun f => by simp only [decide_eq_true_eq] at e; omega)) fun e2 => ?_
  refine cond_of lb (cond_of ld ?_)
  simp only [decide_eq_false_iff_not] at e1 e2
  by_cases h6 : 600 < (b.length : Int)
  · refine cond_of ?_ (no (okF_not fun f => by omega))
    simp [h6]
  refine cond_no ?_ ?_
  · have : ¬ (b.length : Int) < 0 := by omega
    simp [this, h6]; omega
  have ok : okF n b = true := by simp only [okF, Bool.and_eq_true, decide_eq_true_eq]; omega
  have f6 : fitsB n 6 = true := by rw [fitsB_iff]; omega
  have f2 : fitsB (b.length : Int) 2 = true := by rw [fitsB_iff]; omega
  have p6 : putL [] n 6 = leB n 6 := (putL_fits f6).trans (List.nil_append _)
  have p2 : putL [] (b.length : Int) 2 = leB b.length 2 := (putL_fits f2).trans (List.nil_append _)
  simp only [p6, p2, List.nil_append, leB_length, List.length_append, Nat.zero_add]
  have hb6 : b.length ≤ 600 := by omega
  have es : ∀ k : Nat, k ≤ 700 → sizeOK k 1 = true := fun k hk => sizeT (by omega)
  have eb : ∀ n : Nat, n.beq n = true := fun n => by simp
  have ed : decide (6 + 2 + b.length ≤ 1000000) = true := by simp; omega
  simp (disch := omega) only [es, eb, lb, ed, Bool.and_self, cond_true]
  rw [ok]
  rfl
noncomputable def uv_2 := uv_1.addSpec 29 frBytes_sp
theorem uv_2_laws : FLaws Try.prog s06 uv_2 := uv_1_laws.addEv s06_laws fun args d h => by
  unfold frBytes_sp at h
  split at h
  · unfold frBytes_s at h
    have h1 := congrArg Prod.fst (Option.some.inj h)
    obtain rfl : _ = d := congrArg Prod.snd (Option.some.inj h)
    exact ⟨by simp [D.refs], 60, frBytes_ok _ _ h1⟩
  · cases h
def frRead_s (b : List UInt8) : Option (Bool × D RC) := some (decide (b.length ≤ 1000000), .tup (.acons (.int .i64 (frN b)) (.acons (.str (frL b)) (.acons (.int .i64 (bif (readF b).isNone then 50 else 0)) .anil))))
def frRead_sp : List (D RC) → Option (Bool × D RC)
  | [.str b] => frRead_s b
  | _ => none
noncomputable def frRead_e (b : List UInt8) := evF s06 uv_2 60 60 [.str b]
theorem frRead_eq (b : List UInt8) : frRead_e b = (let Z0 : List UInt8 := (fun (l : List UInt8) => l) b; let Z1 : List UInt8 := Option.getD (openL Z0) []; let Z2 : Nat := List.length Z1; let Z3 : Bool := decide (Z2 ≤ (1000000000000 : Nat)); let Z4 : D RC := D.int .i64 0; let Z5 : DO_ := some (D.tup (D.acons Z4 (D.acons (D.str (Array.toList #[])) (.acons (D.int .i64 50) .anil)))); let Z6 : Int × Int := getP Z1 (6 : Int) (2 : Int); let Z7 : Int := (↑Z2 : Int); let Z8 : Int := Prod.fst (getP Z1 (0 : Int) (6 : Int)); bif sizeOK b.length (1 : Nat) then bif decide (List.length Z0 ≤ (1000000 : Nat)) then bif Z3 then bif Z3 then bif (bif Option.isNone (openL Z0) then (50 : Int) else (0 : Int)) != (0 : Int) then Z5 else bif Prod.snd Z6 != (0 : Int) then Z5 else bif lenOK Z2 then bif bif Prod.fst Z6 != IntKind.wrap .i64 (IntKind.wrap .i64 (Z7 - (6 : Int)) - (2 : Int)) then true else bif decide ((600 : Int) < Prod.fst Z6) then true else bif decide (Z8 < (1 : Int)) then true else decide ((1048575 : Int) < Z8) then Z5 else bif lenOK Z2 then bif lenOK Z2 then bif decide ((0 : Int) ≤ (8 : Int) ∧ (8 : Int) ≤ Z7 ∧ Z7 ≤ Z7 ∧ Z7 = Z7) then some (D.tup (D.acons (D.int .i64 Z8) (.acons (D.str (List.drop (8 : Nat) (List.take Z7.toNat Z1))) (.acons Z4 .anil)))) else none else none else none else none else none else none else none else none) := by kernel_rfl
theorem frRead_ok (b : List UInt8) (h : (decide (b.length ≤ 1000000)) = true) : frRead_e b = some (.tup (.acons (.int .i64 (frN b)) (.acons (.str (frL b)) (.acons (.int .i64 (bif (readF b).isNone then 50 else 0)) .anil)))) := by
  (rw [frRead_eq]; conv => zeta)
  have hl := of_decide_eq_true h
  have hs : sizeOK b.length 1 = true := sizeT (by omega)
  cases hq : openL b with
  | none =>
    have hr : readF b = none := by simp [readF, hq]
    simp [hs, hl, hq, hr, frN, frL]
  | some x =>
    have hx := openL_len hq
    have lk : lenOK x.length = true := lenOK_of (by omega)
    have d1 : x.length ≤ 1000000000000 := by omega
    have hr : readF b = if 8 ≤ x.length ∧ leVal ((x.drop 6).take 2) + 8 = x.length ∧ x.length ≤ 608 ∧ 1 ≤ leVal (x.take 6) ∧ leVal (x.take 6) ≤ 1048575 then some ((leVal (x.take 6) : Int), x.drop 8) else none := by simp only [readF, hq]
    by_cases h8 : x.length < 8
    · have g2 : getP x 6 2 = (0, 50) := getP_out (by omega) (by omega) (by omega)
      have hr' : readF b = none := by rw [hr, if_neg (by omega)]
      simp [hs, hl, hq, hr', g2, d1, frN, frL]
    · have g2 : getP x 6 2 = ((leVal ((x.drop 6).take 2) : Int), 0) := getP_in (by omega) (by omega) (by omega) (by omega)
      have g6 : getP x 0 6 = ((leVal (x.take 6) : Int), 0) := getP_in (by omega) (by omega) (by omega) (by omega)
      have w1 : IntKind.i64.wrap ((x.length : Int) - 6) = x.length - 6 := wrap_id (by omega) (by omega)
      have w2 : IntKind.i64.wrap ((x.length : Int) - 6 - 2) = x.length - 6 - 2 := wrap_id (by omega) (by omega)
      have dd : (0 : Int) ≤ 8 ∧ 8 ≤ (x.length : Int) ∧ (x.length : Int) ≤ x.length ∧ (x.length : Int) = x.length := by omega
      generalize leVal ((x.drop 6).take 2) = v2 at hr g2
      generalize leVal (x.take 6) = v6 at hr g6
      by_cases C : 8 ≤ x.length ∧ v2 + 8 = x.length ∧ x.length ≤ 608 ∧ 1 ≤ v6 ∧ v6 ≤ 1048575
      · rw [if_pos C] at hr
        have c1 : ((v2 : Int) != (x.length : Int) - 6 - 2) = false := by simp [bne]; omega
        have c2 : ¬ 600 < (v2 : Int) := by omega
        have c3 : ¬ (v6 : Int) < 1 := by omega
        have c4 : ¬ 1048575 < (v6 : Int) := by omega
        have dx : (8 : Int) ≤ x.length := by omega
        simp [hs, hl, hq, hr, g2, g6, d1, frN, frL, lk, w1, w2, c1, c2, c3, c4, dx]
      · rw [if_neg C] at hr
        have c5 : (bif ((v2 : Int) != (x.length : Int) - 6 - 2) then true else bif decide (600 < (v2 : Int)) then true else bif decide ((v6 : Int) < 1) then true else decide (1048575 < (v6 : Int))) = true := by
          cases c1 : ((v2 : Int) != (x.length : Int) - 6 - 2)
          · simp [bne] at c1
            by_cases c2 : 600 < (v2 : Int)
            · simp [c2]
            by_cases c3 : (v6 : Int) < 1
            · simp [c3]
            by_cases c4 : 1048575 < (v6 : Int)
            · simp [c4]
            · exact absurd ⟨by omega, by omega, by omega, by omega, by omega⟩ C
          · rfl
        simp only [hs, hl, hq, hr, g2, g6, d1, frN, frL, lk, w1, w2, c5, Option.getD_some, Option.getD_none, Option.isNone_some, Option.isNone_none, cond_true, cond_false, decide_true]
        rfl
noncomputable def uv_3 := uv_2.addSpec 60 frRead_sp
theorem uv_3_laws : FLaws Try.prog s06 uv_3 := uv_2_laws.addEv s06_laws fun args d h => by
  unfold frRead_sp at h
  split at h
  · unfold frRead_s at h
    have h1 := congrArg Prod.fst (Option.some.inj h)
    obtain rfl : _ = d := congrArg Prod.snd (Option.some.inj h)
    exact ⟨by simp [D.refs], 60, frRead_ok _ h1⟩
  · cases h
def frOf_s (n : Int) (b : List UInt8) : Option (Bool × D RC) := some (decide (b.length ≤ 1000000), .tup (.acons (.str ((ofF ⟨n, b⟩).getD [])) (.acons (.bool (ofF ⟨n, b⟩).isSome) .anil)))
def frOf_sp : List (D RC) → Option (Bool × D RC)
  | [.acons (.int .i64 n) (.acons (.str b) .anil)] => frOf_s n b
  | _ => none
noncomputable def frOf_e (n : Int) (b : List UInt8) := evF s06 uv_3 40 36 [.acons (.int .i64 n) (.acons (.str b) .anil)]
theorem frOf_eq (n : Int) (b : List UInt8) : frOf_e n b = (let Z0 : DO_ := some (D.tup (D.acons (D.str (Array.toList #[])) (.acons (D.bool false) .anil))); bif decide (List.length b ≤ (1000000 : Nat)) then bif (bif Option.isNone (readF b) then (50 : Int) else (0 : Int)) != (0 : Int) then Z0 else bif frN b != n then Z0 else some (D.tup (D.acons (D.str (frL b)) (.acons (D.bool true) .anil))) else none) := by kernel_rfl
theorem frOf_ok (n : Int) (b : List UInt8) (h : (decide (b.length ≤ 1000000)) = true) : frOf_e n b = some (.tup (.acons (.str ((ofF ⟨n, b⟩).getD [])) (.acons (.bool (ofF ⟨n, b⟩).isSome) .anil))) := by
  (rw [frOf_eq]; conv => zeta)
  rw [h]
  simp only [frN, frL, ofF, cond_true]
  cases hr : readF b with
  | none => rfl
  | some p =>
    obtain ⟨m, l⟩ := p
    by_cases e : m = n
    · subst e; simp [bne]
    · have e2 : (m != n) = true := by simpa [bne] using e
      simp [e, e2]
noncomputable def uv_4 := uv_3.addSpec 36 frOf_sp
theorem uv_4_laws : FLaws Try.prog s06 uv_4 := uv_3_laws.addEv s06_laws fun args d h => by
  unfold frOf_sp at h
  split at h
  · unfold frOf_s at h
    have h1 := congrArg Prod.fst (Option.some.inj h)
    obtain rfl : _ = d := congrArg Prod.snd (Option.some.inj h)
    exact ⟨by simp [D.refs], 40, frOf_ok _ _ h1⟩
  · cases h
open Go.Proofs
def r4Bytes_s (n : Int) (b : List UInt8) : Option (Bool × D RC) := some (decide (b.length ≤ 1000000), .tup (.acons (.str (bif okF n b then frameB n b else [])) (.acons (.int .i64 (bif okF n b then 0 else 2)) .anil)))
def r4Bytes_sp : List (D RC) → Option (Bool × D RC)
  | [.int .i64 n, .str b] => r4Bytes_s n b
  | _ => none
noncomputable def r4Bytes_e (n : Int) (b : List UInt8) := evF s06 uv_4 60 31 [.int .i64 n, .str b]
theorem r4Bytes_eq (n : Int) (b : List UInt8) : r4Bytes_e n b = (let Z0 : DO_ := some (D.tup (D.acons (D.str (Array.toList #[])) (.acons (D.int .i64 2) .anil))); let Z1 : Bool := lenOK b.length; let Z2 : Int := (↑b.length : Int); let Z3 : List UInt8 := [] ++ [] ++ leB n (6 : Nat); let Z4 : Nat := List.length ([] ++ Z3); let Z5 : List UInt8 := [] ++ Z3 ++ leB Z2 (2 : Nat); let Z6 : Nat := List.length Z5; let Z7 : List UInt8 := (fun (l : List UInt8) => l) b; let Z8 : Nat := List.length (Z5 ++ Z7); let Z9 : DO_ := none; bif decide (n < (1 : Int)) then Z0 else bif decide ((1048575 : Int) < n) then Z0 else bif Z1 then bif decide ((600 : Int) < Z2) then Z0 else bif decide (n ≤ (9223372036854775807 : Int) ∧ (1 : Int) ≤ (6 : Int) ∧ (6 : Int) ≤ (6 : Int)) && fitsB n (6 : Nat) then bif decide ((0 : Int) ≤ n ∧ n ≤ (9223372036854775807 : Int) ∧ (0 : Int) ≤ (6 : Int) ∧ (6 : Int) ≤ (6 : Int) ∧ (0 : Nat) ≤ (1000000 : Nat)) then bif Z1 then bif decide (Z2 ≤ (9223372036854775807 : Int) ∧ (1 : Int) ≤ (2 : Int) ∧ (2 : Int) ≤ (6 : Int)) && fitsB Z2 (2 : Nat) then bif decide ((0 : Nat) + List.length Z3 = Z4) && true && decide ((0 : Int) ≤ Z2 ∧ Z2 ≤ (9223372036854775807 : Int) ∧ (0 : Int) ≤ (2 : Int) ∧ (2 : Int) ≤ (6 : Int) ∧ Z4 ≤ (1000000 : Nat)) then bif Nat.beq Z6 Z6 && sizeOK (Z6 + List.length Z7) (1 : Nat) then bif Nat.beq (Z6 + List.length Z7) Z8 then bif decide (Z8 ≤ (1000000 : Nat)) then some (D.tup (D.acons (D.str (sealL (Z5 ++ Z7))) (.acons (D.int .i64 0) .anil))) else Z9 else Z9 else Z9 else Z9 else Z9 else Z9 else Z9 else Z9 else Z9) := by kernel_rfl
theorem r4Bytes_ok (n : Int) (b : List UInt8) (h : (decide (b.length ≤ 1000000)) = true) : r4Bytes_e n b = some (.tup (.acons (.str (bif okF n b then frameB n b else [])) (.acons (.int .i64 (bif okF n b then 0 else 2)) .anil))) := by
  (rw [r4Bytes_eq]; conv => zeta)
  have hl := of_decide_eq_true h
  have lb : lenOK b.length = true := lenOK_of (by omega)
  have no : okF n b = false → some (D.tup (.acons (.str []) (.acons (.int .i64 2) .anil))) = some (.tup (.acons (.str (bif okF n b then frameB n b else [])) (.acons (.int .i64 (bif okF n b then 0 else 2)) .anil)) : D RC) := fun e => by rw [e]; rfl
  refine cond_two (fun e => no (okF_not fun f => by simp only [decide_eq_true_eq] at e; omega)) fun e1 => ?_
  refine cond_two (fun e => no (okF_not fun f => by simp only [decide_eq_true_eq] at e; omega)) fun e2 => ?_
  refine cond_of lb (cond_two (fun e => no (okF_not fun f => by simp only [decide_eq_true_eq] at e; omega)) fun e3 => ?_)
  simp only [decide_eq_false_iff_not] at e1 e2 e3
  have ok : okF n b = true := by simp only [okF, Bool.and_eq_true, decide_eq_true_eq]; omega
  have f6 : fitsB n 6 = true := by rw [fitsB_iff]; omega
  have f2 : fitsB (b.length : Int) 2 = true := by rw [fitsB_iff]; omega
  have eb : ∀ n : Nat, n.beq n = true := fun n => by simp
  have s1 : sizeOK (6 + 2 + b.length) 1 = true := sizeT (by omega)
  have g1 : decide (n ≤ 9223372036854775807 ∧ (1 : Int) ≤ 6 ∧ (6 : Int) ≤ 6) = true := decide_eq_true (by omega)
  have g2 : decide (0 ≤ n ∧ n ≤ 9223372036854775807 ∧ (0 : Int) ≤ 6 ∧ (6 : Int) ≤ 6 ∧ 0 ≤ 1000000) = true := decide_eq_true (by omega)
  have g3 : decide ((b.length : Int) ≤ 9223372036854775807 ∧ (1 : Int) ≤ 2 ∧ (2 : Int) ≤ 6) = true := decide_eq_true (by omega)
  have g4 : decide (0 ≤ (b.length : Int) ∧ (b.length : Int) ≤ 9223372036854775807 ∧ (0 : Int) ≤ 2 ∧ (2 : Int) ≤ 6 ∧ 6 ≤ 1000000) = true := decide_eq_true (by omega)
  have g5 : decide (6 + 2 + b.length ≤ 1000000) = true := decide_eq_true (by omega)
  simp only [List.nil_append, leB_length, List.length_append, f6, f2, eb, lb, s1, Nat.zero_add, Bool.and_self, cond_true]
  refine cond_of (by rw [g1]; rfl) (cond_of g2 (cond_of (by rw [g3]; rfl) (cond_of (by rw [g4]; rfl) (cond_of g5 ?_))))
  rw [ok]
  rfl
noncomputable def uy_1 := uv_4.addSpec 31 r4Bytes_sp
theorem uy_1_laws : FLaws Try.prog s06 uy_1 := uv_4_laws.addEv s06_laws fun args d h => by
  unfold r4Bytes_sp at h
  split at h
  · unfold r4Bytes_s at h
    have h1 := congrArg Prod.fst (Option.some.inj h)
    obtain rfl : _ = d := congrArg Prod.snd (Option.some.inj h)
    exact ⟨by simp [D.refs], 60, r4Bytes_ok _ _ h1⟩
  · cases h
def r4Read_s (b : List UInt8) : Option (Bool × D RC) := some (decide (b.length ≤ 1000000), .tup (.acons (.int .i64 (frN b)) (.acons (.str (frL b)) (.acons (.int .i64 (bif (readF b).isNone then 50 else 0)) .anil))))
def r4Read_sp : List (D RC) → Option (Bool × D RC)
  | [.str b] => r4Read_s b
  | _ => none
noncomputable def r4Read_e (b : List UInt8) := evF s06 uy_1 60 64 [.str b]
theorem r4Read_eq (b : List UInt8) : r4Read_e b = (let Z0 : Nat := List.length b; let Z1 : D RC := D.int .i64 0; let Z2 : DO_ := some (D.tup (D.acons Z1 (D.acons (D.str (Array.toList #[])) (.acons (D.int .i64 50) .anil)))); let Z3 : List UInt8 := (fun (l : List UInt8) => l) b; let Z4 : List UInt8 := Option.getD (openL Z3) []; let Z5 : Nat := List.length Z4; let Z6 : List (RA RTy.u8) := (fun (l : List (RA RTy.u8)) => l) (List.drop (8 : Nat) Z4); let Z7 : Int := Prod.fst (getP Z4 (0 : Int) (6 : Int)); bif lenOK Z0 then bif decide ((612 : Int) < (↑Z0 : Int)) then Z2 else bif sizeOK Z0 (1 : Nat) then bif decide (List.length Z3 ≤ (1000000 : Nat)) then bif (bif Option.isNone (openL Z3) then (50 : Int) else (0 : Int)) != (0 : Int) then Z2 else bif lenOK Z5 then bif decide ((↑Z5 : Int) < (8 : Int)) then Z2 else bif decide (Z5 ≤ (1000000000000 : Nat)) then bif decide ((0 : Int) ≤ (8 : Int) ∧ (8 : Int) ≤ (↑Z5 : Int)) then bif decide (List.length Z6 ≤ (1000000 : Nat)) then bif (bif okF Z7 Z6 then (0 : Int) else (2 : Int)) != (0 : Int) then Z2 else bif !(bif okF Z7 Z6 then frameB Z7 Z6 else []) == b then Z2 else some (D.tup (D.acons (D.int .i64 Z7) (.acons (D.str (List.drop (8 : Nat) Z4)) (.acons Z1 .anil)))) else none else none else none else none else none else none else none) := by kernel_rfl
theorem r4Read_ok (b : List UInt8) (h : (decide (b.length ≤ 1000000)) = true) : r4Read_e b = some (.tup (.acons (.int .i64 (frN b)) (.acons (.str (frL b)) (.acons (.int .i64 (bif (readF b).isNone then 50 else 0)) .anil)))) := by
  (rw [r4Read_eq]; conv => zeta)
  have hl := of_decide_eq_true h
  have lb : lenOK b.length = true := lenOK_of (by omega)
  have hs : sizeOK b.length 1 = true := sizeT (by omega)
  have no : readF b = none → some (D.tup (.acons (.int .i64 0) (.acons (.str []) (.acons (.int .i64 50) .anil)))) = some (.tup (.acons (.int .i64 (frN b)) (.acons (.str (frL b)) (.acons (.int .i64 (bif (readF b).isNone then 50 else 0)) .anil))) : D RC) := fun e => by simp only [frN, frL, e]; rfl
  have big : readF b = none ∨ ∃ p, readF b = some p ∧ okF p.1 p.2 = true ∧ frameB p.1 p.2 = b := by
    cases hr : readF b with
    | none => exact .inl rfl
    | some p => exact .inr ⟨p, rfl, readF_ok (n := p.1) (load := p.2) hr⟩
  refine cond_of lb (cond_two (fun e => no ?_) fun e => ?_)
  · rcases big with q | ⟨p, q1, q2, q3⟩
    · exact q
    · have := congrArg List.length q3
      rw [frameB_len] at this
      simp only [okF, Bool.and_eq_true, decide_eq_true_eq] at q2 e
      omega
  refine cond_of hs (cond_of h ?_)
  cases hq : openL b with
  | none => exact cond_of rfl (no (by simp [readF, hq]))
  | some x =>
    have hx := openL_len hq
    have hr : readF b = if 8 ≤ x.length ∧ leVal ((x.drop 6).take 2) + 8 = x.length ∧ x.length ≤ 608 ∧ 1 ≤ leVal (x.take 6) ∧ leVal (x.take 6) ≤ 1048575 then some ((leVal (x.take 6) : Int), x.drop 8) else none := by simp only [readF, hq]
    refine cond_no rfl ?_
    simp only [Option.getD_some]
    refine cond_of (lenOK_of (by omega)) (cond_two (fun e => no (by rw [hr, if_neg (by simp only [decide_eq_true_eq] at e; omega)])) fun e8 => ?_)
    simp only [decide_eq_false_iff_not] at e8
    have g6 : getP x 0 6 = ((leVal (x.take 6) : Int), 0) := getP_in (by omega) (by omega) (by omega) (by omega)
    refine cond_of (decide_eq_true (by omega)) (cond_of (decide_eq_true (by omega)) (cond_of (decide_eq_true (by simp; omega)) ?_))
    simp only [g6]
    cases ho : okF (leVal (x.take 6) : Int) (x.drop 8)
    · refine cond_of rfl (no ?_)
      rcases big with q | ⟨p, q1, q2, q3⟩
      · exact q
      · rw [hr] at q1
        split at q1
        · cases q1; rw [ho] at q2; cases q2
        · cases q1
    refine cond_no rfl ?_
    simp only [cond_true]
    by_cases hb : frameB (leVal (x.take 6) : Int) (x.drop 8) = b
    · have hr2 : readF b = some ((leVal (x.take 6) : Int), x.drop 8) := by rw [← hb]; exact readF_frame ho
      refine cond_no (by rw [hb]; simp) ?_
      simp only [frN, frL, hr2]; rfl
    · refine cond_of (by simpa using hb) (no ?_)
      rcases big with q | ⟨p, q1, q2, q3⟩
      · exact q
      · rw [hr] at q1
        split at q1
        · cases q1; exact absurd q3 hb
        · cases q1
noncomputable def uy_2 := uy_1.addSpec 64 r4Read_sp
theorem uy_2_laws : FLaws Try.prog s06 uy_2 := uy_1_laws.addEv s06_laws fun args d h => by
  unfold r4Read_sp at h
  split at h
  · unfold r4Read_s at h
    have h1 := congrArg Prod.fst (Option.some.inj h)
    obtain rfl : _ = d := congrArg Prod.snd (Option.some.inj h)
    exact ⟨by simp [D.refs], 60, r4Read_ok _ h1⟩
  · cases h
theorem rowOK_all {l : List Sector} (h : rowOK l = true) : ∀ s ∈ l, maySec s = true := by
  simp only [rowOK, Bool.and_eq_true] at h
  exact List.all_eq_true.1 h.2
theorem rowOK_of {l : List Sector} (h1 : l.length = 33) (h2 : ∀ s ∈ l, maySec s = true) : rowOK l = true := by
  simp only [rowOK, Bool.and_eq_true, decide_eq_true_eq]
  exact ⟨h1, List.all_eq_true.2 h2⟩
theorem rowOK_good {l : List Sector} (h : rowOK l = true) : goodL l = true := by
  have h1 := rowOK_len h
  rw [goodL_iff]
  refine ⟨by omega, fun s hs => lenOK_of ?_⟩
  have := rowOK_all h s hs
  simp only [maySec, Bool.and_eq_true, decide_eq_true_eq] at this
  omega
theorem diskOK_parts {now sure : List Sector} (h : diskOK now sure = true) : rowOK now = true ∧ rowOK sure = true ∧ lowAt now sure 0 = true := by
  simp only [diskOK, Bool.and_eq_true] at h; exact ⟨h.1.1, h.1.2, h.2⟩
theorem low_iff {now sure : List Sector} (hl : now.length = sure.length) : lowAt now sure 0 = true ↔ ∀ i, i < now.length → (sure.getD i sec0).n ≤ (now.getD i sec0).n := by
  unfold lowAt
  rw [List.drop_zero, List.all_eq_true]
  constructor
  · intro h i hi
    have hz : i < (now.zip sure).length := by simp; omega
    have h3 := h _ (List.getElem_mem hz)
    simp only [List.getElem_zip, decide_eq_true_eq] at h3
    have hi2 : i < sure.length := by omega
    simpa [hi, hi2] using h3
  · intro h p hp
    obtain ⟨i, hi, rfl⟩ := List.getElem_of_mem hp
    have h1 : i < now.length := by simp at hi; omega
    have h2 : i < sure.length := by omega
    have := h i h1
    simp only [List.getElem_zip, decide_eq_true_eq]
    simpa [h1, h2] using this
theorem diskOK_good {now sure : List Sector} (h : diskOK now sure = true) : goodL now = true ∧ goodL sure = true :=
  ⟨rowOK_good (diskOK_parts h).1, rowOK_good (diskOK_parts h).2.1⟩
theorem crashF_at (lost : Int) : ∀ (k i : Nat) (n s : List Sector), i + k ≤ n.length → i + k ≤ s.length → ∀ j, (crashF lost k i n s).1.getD j sec0 = (if i ≤ j ∧ j < i + k then (if bitAt lost j = true then s.getD j sec0 else n.getD j sec0) else n.getD j sec0) ∧ (crashF lost k i n s).2.getD j sec0 = (if i ≤ j ∧ j < i + k then (if bitAt lost j = true then s.getD j sec0 else n.getD j sec0) else s.getD j sec0)
  | 0, i, n, s, _, _, j => by
    rw [if_neg (by omega), if_neg (by omega)]; exact ⟨rfl, rfl⟩
  | k + 1, i, n, s, h1, h2, j => by
    unfold crashF
    have hset : ∀ (l : List Sector) (x : Sector), i < l.length → (l.set i x).getD j sec0 = if j = i then x else l.getD j sec0 := by
      intro l x hl
      by_cases e : j = i
      · subst e; simp [hl]
      · rw [if_neg e]; simp only [List.getD_eq_getElem?_getD]; rw [List.getElem?_set_ne (fun q => e q.symm)]
    by_cases hb : bitAt lost i = true
    · rw [if_pos hb]
      obtain ⟨q1, q2⟩ := crashF_at lost k (i + 1) (n.set i (s.getD i sec0)) s (by rw [List.length_set]; omega) (by omega) j
      rw [q1, q2, hset _ _ (by omega)]
      by_cases e : j = i
      · subst e
        have f1 : ¬ (j + 1 ≤ j ∧ j < j + 1 + k) := by omega
        have f2 : j ≤ j ∧ j < j + (k + 1) := by omega
        simp only [f1, f2, hb, if_true, if_false, and_self, Bool.false_eq_true]
      · by_cases e2 : i + 1 ≤ j ∧ j < i + 1 + k
        · have f2 : i ≤ j ∧ j < i + (k + 1) := by omega
          simp only [e, e2, f2, if_true, if_false, and_self]
        · have f2 : ¬ (i ≤ j ∧ j < i + (k + 1)) := by omega
          simp only [e, e2, f2, if_true, if_false, and_self]
    · rw [if_neg hb]
      obtain ⟨q1, q2⟩ := crashF_at lost k (i + 1) n (s.set i (n.getD i sec0)) (by omega) (by rw [List.length_set]; omega) j
      rw [q1, q2, hset _ _ (by omega)]
      by_cases e : j = i
      · subst e
        have f1 : ¬ (j + 1 ≤ j ∧ j < j + 1 + k) := by omega
        have f2 : j ≤ j ∧ j < j + (k + 1) := by omega
        simp only [f1, f2, hb, if_true, if_false, and_self, Bool.false_eq_true]
      · by_cases e2 : i + 1 ≤ j ∧ j < i + 1 + k
        · have f2 : i ≤ j ∧ j < i + (k + 1) := by omega
          simp only [e, e2, f2, if_true, if_false, and_self]
        · have f2 : ¬ (i ≤ j ∧ j < i + (k + 1)) := by omega
          simp only [e, e2, f2, if_true, if_false, and_self]
theorem ext_getD {l m : List Sector} (h : l.length = m.length) (hg : ∀ j, l.getD j sec0 = m.getD j sec0) : l = m := by
  refine List.ext_getElem h fun i h1 h2 => ?_
  have := hg i
  simpa [h1, h2] using this
theorem mem_getD {l : List Sector} {s : Sector} (h : s ∈ l) : ∃ j, j < l.length ∧ s = l.getD j sec0 := by
  obtain ⟨i, hi, rfl⟩ := List.getElem_of_mem h
  exact ⟨i, hi, by simp [hi]⟩
theorem crash_ok {now sure : List Sector} (lost : Int) (h : diskOK now sure = true) : (crashF lost 33 0 now sure).1 = (crashF lost 33 0 now sure).2 ∧ diskOK (crashF lost 33 0 now sure).1 (crashF lost 33 0 now sure).2 = true ∧ ((crashF lost 33 0 now sure).1.getD 32 sec0 = now.getD 32 sec0 ∨ (crashF lost 33 0 now sure).1.getD 32 sec0 = sure.getD 32 sec0) := by
  obtain ⟨d1, d2, d3⟩ := diskOK_parts h
  obtain ⟨l1, l2⟩ := diskOK_len h
  obtain ⟨c1, c2⟩ := crashF_len lost 33 0 now sure
  have ha := crashF_at lost 33 0 now sure (by omega) (by omega)
  have he : (crashF lost 33 0 now sure).1 = (crashF lost 33 0 now sure).2 := ext_getD (by omega) fun j => by
    obtain ⟨q1, q2⟩ := ha j
    rw [q1, q2]
    by_cases e : 0 ≤ j ∧ j < 0 + 33
    · rw [if_pos e, if_pos e]
    · rw [if_neg e, if_neg e]
      have n1 : now.length ≤ j := by omega
      have n2 : sure.length ≤ j := by omega
      simp [n1, n2]
  have hr : rowOK (crashF lost 33 0 now sure).1 = true := rowOK_of (by omega) fun s hs => by
    obtain ⟨j, hj, rfl⟩ := mem_getD hs
    rw [(ha j).1, if_pos (by omega)]
    have m1 : maySec (sure.getD j sec0) = true := rowOK_all d2 _ (by have q : j < sure.length := by omega
                                                                     simp [q])
    have m2 : maySec (now.getD j sec0) = true := rowOK_all d1 _ (by have q : j < now.length := by omega
                                                                    simp [q])
    split
    · exact m1
    · exact m2
  refine ⟨he, ?_, ?_⟩
  · rw [← he]
    simp only [diskOK, hr, Bool.true_and]
    rw [low_iff rfl]
    intro i _; exact Int.le_refl _
  · rw [(ha 32).1, if_pos (by omega)]
    split
    · exact .inr rfl
    · exact .inl rfl
theorem diskOK_same {l : List Sector} (h : rowOK l = true) : diskOK l l = true := by
  simp only [diskOK, h, Bool.true_and]
  rw [low_iff rfl]
  intro i _; exact Int.le_refl _
def secI (p : Int) : Int := if p < 0 then 0 else p % 32
def roomB (p c : Int) : Bool := decide (0 ≤ p ∧ p ≤ 1048575 ∧ 0 ≤ c ∧ c ≤ 1048575 ∧ p ≤ c + 32)
def entL (r : Rec) : List UInt8 := bif mayB r then frameB r.place (bytesR r) else []
def atS (s : Sector) (p : Int) : Option Rec := if s.n = p then (ofF s).bind fun l => (readR l).bind fun r => if r.place = p then some r else none else none
def atF (now sure : List Sector) (p : Int) : Option Rec := if diskOK now sure = true ∧ 1 ≤ p ∧ p ≤ 1048575 then atS (now.getD (secI p).toNat sec0) p else none
def preL (now sure : List Sector) : Nat → Int → List Rec
  | 0, _ => []
  | n + 1, p => match atF now sure p with
    | some r => r :: preL now sure n (p + 1)
    | none => []
def preF (now sure : List Sector) (b : Int) : List Rec := bif diskOK now sure && decide (0 ≤ b ∧ b ≤ 1048575) then preL now sure 32 (b + 1) else []
def preE (now sure : List Sector) (b : Int) : Int := bif diskOK now sure && decide (0 ≤ b ∧ b ≤ 1048575) then 0 else 2
theorem secI_bound (p : Int) : 0 ≤ secI p ∧ secI p < 32 := by
  unfold secI; split <;> omega
theorem may_len {r : Rec} (h : mayB r = true) : r.writes.length ≤ 4 := (may_facts (p := r.place) (y := r.yes) (l := r.writes) h).2.1
open Go.Proofs
def entE (r : Rec) : Int := bif mayB r then 0 else 2
theorem maxWrap (p : Int) : (if p < 0 then 0 else p).tmod 32 = secI p := by
  unfold secI
  split
  · rfl
  · rw [Int.tmod_eq_emod_of_nonneg (by omega)]
theorem ent_ok {r : Rec} (h : mayB r = true) : okF r.place (bytesR r) = true ∧ (bytesR r).length ≤ 13 := by
  have h1 := bytesR_len h
  have h2 := (may_facts (p := r.place) (y := r.yes) (l := r.writes) h).1
  refine ⟨?_, h1⟩
  simp only [okF, Bool.and_eq_true, decide_eq_true_eq]
  omega
theorem atF_bad {now sure : List Sector} {p : Int} (h : diskOK now sure = false) : atF now sure p = none := if_neg (by rw [h]; simp)
theorem atF_out {now sure : List Sector} {p : Int} (h : ¬ (1 ≤ p ∧ p ≤ 1048575)) : atF now sure p = none := if_neg (fun e => h e.2)
theorem sec_b {now sure : List Sector} (h : diskOK now sure = true) (k : Nat) : (now.getD k sec0).b.length ≤ 640 := by
  by_cases hk : k < now.length
  · have e : now.getD k sec0 = now[k] := by simp [hk]
    have := rowOK_all (diskOK_parts h).1 _ (List.getElem_mem hk)
    rw [e]
    simp only [maySec, Bool.and_eq_true, decide_eq_true_eq] at this
    exact this.1.2
  · have e : now.getD k sec0 = sec0 := by simp [hk]
    rw [e]; simp [sec0]
def sectorP_s (p : Int) : Option (Bool × D RC) := some (true, .int .i64 (secI p))
def sectorP_sp : List (D RC) → Option (Bool × D RC)
  | [.int .i64 p] => sectorP_s p
  | _ => none
noncomputable def sectorP_e (p : Int) := evF s06 uy_2 20 17 [.int .i64 p]
theorem sectorP_eq (p : Int) : sectorP_e p = (some (D.int .i64 (Int.tmod (if p < (0 : Int) then (0 : Int) else p) (32 : Int)))) := by kernel_rfl
theorem sectorP_ok (p : Int) (h : (true) = true) : sectorP_e p = some (.int .i64 (secI p)) := by
  rw [sectorP_eq]
  rw [maxWrap]
noncomputable def uz_1 := uy_2.addSpec 17 sectorP_sp
theorem uz_1_laws : FLaws Try.prog s06 uz_1 := uy_2_laws.addEv s06_laws fun args d h => by
  unfold sectorP_sp at h
  split at h
  · unfold sectorP_s at h
    have h1 := congrArg Prod.fst (Option.some.inj h)
    obtain rfl : _ = d := congrArg Prod.snd (Option.some.inj h)
    exact ⟨by simp [D.refs], 20, sectorP_ok _ h1⟩
  · cases h
def sectorR_s (p : Int) : Option (Bool × D RC) := some (true, .int .i64 (secI p))
def sectorR_sp : List (D RC) → Option (Bool × D RC)
  | [.int .i64 p] => sectorR_s p
  | _ => none
noncomputable def sectorR_e (p : Int) := evF s06 uz_1 20 18 [.int .i64 p]
theorem sectorR_eq (p : Int) : sectorR_e p = (bif decide (p < (0 : Int)) then some (D.int .i64 0) else some (D.int .i64 (Int.tmod p (32 : Int)))) := by kernel_rfl
theorem sectorR_ok (p : Int) (h : (true) = true) : sectorR_e p = some (.int .i64 (secI p)) := by
  rw [sectorR_eq]
  refine cond_two (fun e => ?_) fun e => ?_
  · simp only [decide_eq_true_eq] at e; rw [secI, if_pos e]
  · simp only [decide_eq_false_iff_not] at e; rw [secI, if_neg e, Int.tmod_eq_emod_of_nonneg (by omega)]
noncomputable def uz_2 := uz_1.addSpec 18 sectorR_sp
theorem uz_2_laws : FLaws Try.prog s06 uz_2 := uz_1_laws.addEv s06_laws fun args d h => by
  unfold sectorR_sp at h
  split at h
  · unfold sectorR_s at h
    have h1 := congrArg Prod.fst (Option.some.inj h)
    obtain rfl : _ = d := congrArg Prod.snd (Option.some.inj h)
    exact ⟨by simp [D.refs], 20, sectorR_ok _ h1⟩
  · cases h
def roomP_s (p : Int) (c : Int) : Option (Bool × D RC) := some (true, .bool (roomB p c))
def roomP_sp : List (D RC) → Option (Bool × D RC)
  | [.int .i64 p, .int .i64 c] => roomP_s p c
  | _ => none
noncomputable def roomP_e (p : Int) (c : Int) := evF s06 uz_2 20 19 [.int .i64 p, .int .i64 c]
theorem roomP_eq (p : Int) (c : Int) : roomP_e p c = (let Z0 : DO_ := some (D.bool false); bif decide ((0 : Int) ≤ p) then bif decide (p ≤ (1048575 : Int)) then bif decide ((0 : Int) ≤ c) then bif decide (c ≤ (1048575 : Int)) then some (D.bool (decide (p ≤ IntKind.wrap .i64 (c + (32 : Int))))) else Z0 else Z0 else Z0 else Z0) := by kernel_rfl
theorem roomP_ok (p : Int) (c : Int) (h : (true) = true) : roomP_e p c = some (.bool (roomB p c)) := by
  (rw [roomP_eq]; conv => zeta)
  by_cases q : 0 ≤ p ∧ p ≤ 1048575 ∧ 0 ≤ c ∧ c ≤ 1048575
  · obtain ⟨q1, q2, q3, q4⟩ := q
    have w1 : IntKind.i64.wrap (c + 32) = c + 32 := wrap_id (by omega) (by omega)
    have w2 : IntKind.i64.wrap (p - 32) = p - 32 := wrap_id (by omega) (by omega)
    simp only [decide_eq_true q1, decide_eq_true q2, decide_eq_true q3, decide_eq_true q4, decide_true, cond_true, w1, w2, roomB, q1, q2, q3, q4, true_and]
  · have e : roomB p c = false := decide_eq_false (by omega)
    rw [e]
    cases h1 : decide (0 ≤ p)
    · rfl
    cases h2 : decide (p ≤ 1048575)
    · rfl
    cases h3 : decide (0 ≤ c)
    · rfl
    cases h4 : decide (c ≤ 1048575)
    · rfl
    simp only [decide_eq_true_eq] at h1 h2 h3 h4
    exact absurd ⟨h1, h2, h3, h4⟩ q
noncomputable def uz_3 := uz_2.addSpec 19 roomP_sp
theorem uz_3_laws : FLaws Try.prog s06 uz_3 := uz_2_laws.addEv s06_laws fun args d h => by
  unfold roomP_sp at h
  split at h
  · unfold roomP_s at h
    have h1 := congrArg Prod.fst (Option.some.inj h)
    obtain rfl : _ = d := congrArg Prod.snd (Option.some.inj h)
    exact ⟨by simp [D.refs], 20, roomP_ok _ _ h1⟩
  · cases h
def roomR_s (p : Int) (c : Int) : Option (Bool × D RC) := some (true, .bool (roomB p c))
def roomR_sp : List (D RC) → Option (Bool × D RC)
  | [.int .i64 p, .int .i64 c] => roomR_s p c
  | _ => none
noncomputable def roomR_e (p : Int) (c : Int) := evF s06 uz_3 20 20 [.int .i64 p, .int .i64 c]
theorem roomR_eq (p : Int) (c : Int) : roomR_e p c = (let Z0 : DO_ := some (D.bool false); bif decide ((0 : Int) ≤ p) then bif decide (p ≤ (1048575 : Int)) then bif decide ((0 : Int) ≤ c) then bif decide (c ≤ (1048575 : Int)) then some (D.bool (decide (IntKind.wrap .i64 (p - (32 : Int)) ≤ c))) else Z0 else Z0 else Z0 else Z0) := by kernel_rfl
theorem roomR_ok (p : Int) (c : Int) (h : (true) = true) : roomR_e p c = some (.bool (roomB p c)) := by
  (rw [roomR_eq]; conv => zeta)
  by_cases q : 0 ≤ p ∧ p ≤ 1048575 ∧ 0 ≤ c ∧ c ≤ 1048575
  · obtain ⟨q1, q2, q3, q4⟩ := q
    have w1 : IntKind.i64.wrap (c + 32) = c + 32 := wrap_id (by omega) (by omega)
    have w2 : IntKind.i64.wrap (p - 32) = p - 32 := wrap_id (by omega) (by omega)
    simp only [decide_eq_true q1, decide_eq_true q2, decide_eq_true q3, decide_eq_true q4, decide_true, cond_true, w1, w2, roomB, q1, q2, q3, q4, true_and]
    congr 2
    rw [decide_eq_decide]; omega
  · have e : roomB p c = false := decide_eq_false (by omega)
    rw [e]
    cases h1 : decide (0 ≤ p)
    · rfl
    cases h2 : decide (p ≤ 1048575)
    · rfl
    cases h3 : decide (0 ≤ c)
    · rfl
    cases h4 : decide (c ≤ 1048575)
    · rfl
    simp only [decide_eq_true_eq] at h1 h2 h3 h4
    exact absurd ⟨h1, h2, h3, h4⟩ q
noncomputable def uz_4 := uz_3.addSpec 20 roomR_sp
theorem uz_4_laws : FLaws Try.prog s06 uz_4 := uz_3_laws.addEv s06_laws fun args d h => by
  unfold roomR_sp at h
  split at h
  · unfold roomR_s at h
    have h1 := congrArg Prod.fst (Option.some.inj h)
    obtain rfl : _ = d := congrArg Prod.snd (Option.some.inj h)
    exact ⟨by simp [D.refs], 20, roomR_ok _ _ h1⟩
  · cases h
def r4Of_s (n : Int) (b : List UInt8) : Option (Bool × D RC) := some (decide (b.length ≤ 1000000), .tup (.acons (.str ((ofF ⟨n, b⟩).getD [])) (.acons (.bool (ofF ⟨n, b⟩).isSome) .anil)))
def r4Of_sp : List (D RC) → Option (Bool × D RC)
  | [.acons (.int .i64 n) (.acons (.str b) .anil)] => r4Of_s n b
  | _ => none
noncomputable def r4Of_e (n : Int) (b : List UInt8) := evF s06 uz_4 40 41 [.acons (.int .i64 n) (.acons (.str b) .anil)]
theorem r4Of_eq (n : Int) (b : List UInt8) : r4Of_e n b = (let Z0 : DO_ := some (D.tup (D.acons (D.str (Array.toList #[])) (.acons (D.bool false) .anil))); bif decide (List.length b ≤ (1000000 : Nat)) then bif (bif Option.isNone (readF b) then (50 : Int) else (0 : Int)) != (0 : Int) then Z0 else bif frN b != n then Z0 else some (D.tup (D.acons (D.str (frL b)) (.acons (D.bool true) .anil))) else none) := by kernel_rfl
theorem r4Of_ok (n : Int) (b : List UInt8) (h : (decide (b.length ≤ 1000000)) = true) : r4Of_e n b = some (.tup (.acons (.str ((ofF ⟨n, b⟩).getD [])) (.acons (.bool (ofF ⟨n, b⟩).isSome) .anil))) := by
  (rw [r4Of_eq]; conv => zeta)
  rw [h]
  simp only [frN, frL, ofF, cond_true]
  cases hr : readF b with
  | none => rfl
  | some p =>
    obtain ⟨m, l⟩ := p
    by_cases e : m = n
    · subst e; simp [bne]
    · have e2 : (m != n) = true := by simpa [bne] using e
      simp [e, e2]
noncomputable def uz_5 := uz_4.addSpec 41 r4Of_sp
theorem uz_5_laws : FLaws Try.prog s06 uz_5 := uz_4_laws.addEv s06_laws fun args d h => by
  unfold r4Of_sp at h
  split at h
  · unfold r4Of_s at h
    have h1 := congrArg Prod.fst (Option.some.inj h)
    obtain rfl : _ = d := congrArg Prod.snd (Option.some.inj h)
    exact ⟨by simp [D.refs], 40, r4Of_ok _ _ h1⟩
  · cases h
def entryP_s (p : Int) (y : Bool) (c : Bool) (l : List Write) : Option (Bool × D RC) := some (lenOK l.length, .tup (.acons (.str (entL ⟨p, y, l⟩)) (.acons (.int .i64 (entE ⟨p, y, l⟩)) .anil)))
def entryP_sp : List (D RC) → Option (Bool × D RC)
  | [.acons (.int .i64 p) (.acons (.bool y) (.acons (.sl .write c l) .anil))] => entryP_s p y c l
  | _ => none
noncomputable def entryP_e (p : Int) (y : Bool) (c : Bool) (l : List Write) := evF s06 uz_5 20 9 [.acons (.int .i64 p) (.acons (.bool y) (.acons (.sl (C := RC) .write c l) .anil))]
theorem entryP_eq (p : Int) (y : Bool) (c : Bool) (l : List Write) : entryP_e p y c l = (let Z0 : List (RA RTy.u8) := (fun (l : List (RA RTy.u8)) => l) (bif mayB (Rec.mk p y l) then bytesR (Rec.mk p y l) else []); bif lenOK l.length then bif (bif mayB (Rec.mk p y l) then (0 : Int) else (2 : Int)) != (0 : Int) then some (D.tup (D.acons (D.str (Array.toList #[])) (.acons (D.int .i64 2) .anil))) else bif decide (List.length Z0 ≤ (1000000 : Nat)) then some (D.tup (D.acons (D.str (bif okF p Z0 then frameB p Z0 else [])) (.acons (D.int .i64 (bif okF p Z0 then (0 : Int) else (2 : Int))) .anil))) else none else none) := by kernel_rfl
theorem entryP_ok (p : Int) (y : Bool) (c : Bool) (l : List Write) (h : (lenOK l.length) = true) : entryP_e p y c l = some (.tup (.acons (.str (entL ⟨p, y, l⟩)) (.acons (.int .i64 (entE ⟨p, y, l⟩)) .anil))) := by
  (rw [entryP_eq]; conv => zeta)
  refine cond_of h ?_
  cases hm : mayB ⟨p, y, l⟩
  · simp only [entL, entE, hm]; rfl
  · obtain ⟨h1, h2⟩ := ent_ok hm
    have h3 : decide ((bytesR ⟨p, y, l⟩).length ≤ 1000000) = true := decide_eq_true (by omega)
    simp only [entL, entE, hm, h1, h3, cond_true, cond_false, Bool.not_true]
    rfl
noncomputable def uz_6 := uz_5.addSpec 9 entryP_sp
theorem uz_6_laws : FLaws Try.prog s06 uz_6 := uz_5_laws.addEv s06_laws fun args d h => by
  unfold entryP_sp at h
  split at h
  · unfold entryP_s at h
    have h1 := congrArg Prod.fst (Option.some.inj h)
    obtain rfl : _ = d := congrArg Prod.snd (Option.some.inj h)
    exact ⟨by simp [D.refs], 20, entryP_ok _ _ _ _ h1⟩
  · cases h
def entryR_s (p : Int) (y : Bool) (c : Bool) (l : List Write) : Option (Bool × D RC) := some (lenOK l.length, .tup (.acons (.str (entL ⟨p, y, l⟩)) (.acons (.int .i64 (entE ⟨p, y, l⟩)) .anil)))
def entryR_sp : List (D RC) → Option (Bool × D RC)
  | [.acons (.int .i64 p) (.acons (.bool y) (.acons (.sl .write c l) .anil))] => entryR_s p y c l
  | _ => none
noncomputable def entryR_e (p : Int) (y : Bool) (c : Bool) (l : List Write) := evF s06 uz_6 20 10 [.acons (.int .i64 p) (.acons (.bool y) (.acons (.sl (C := RC) .write c l) .anil))]
theorem entryR_eq (p : Int) (y : Bool) (c : Bool) (l : List Write) : entryR_e p y c l = (let Z0 : List (RA RTy.u8) := (fun (l : List (RA RTy.u8)) => l) (bif mayB (Rec.mk p y l) then bytesR (Rec.mk p y l) else []); bif lenOK l.length then bif (bif mayB (Rec.mk p y l) then (0 : Int) else (2 : Int)) != (0 : Int) then some (D.tup (D.acons (D.str (Array.toList #[])) (.acons (D.int .i64 2) .anil))) else bif decide (List.length Z0 ≤ (1000000 : Nat)) then some (D.tup (D.acons (D.str (bif okF p Z0 then frameB p Z0 else [])) (.acons (D.int .i64 (bif okF p Z0 then (0 : Int) else (2 : Int))) .anil))) else none else none) := by kernel_rfl
theorem entryR_ok (p : Int) (y : Bool) (c : Bool) (l : List Write) (h : (lenOK l.length) = true) : entryR_e p y c l = some (.tup (.acons (.str (entL ⟨p, y, l⟩)) (.acons (.int .i64 (entE ⟨p, y, l⟩)) .anil))) := by
  (rw [entryR_eq]; conv => zeta)
  refine cond_of h ?_
  cases hm : mayB ⟨p, y, l⟩
  · simp only [entL, entE, hm]; rfl
  · obtain ⟨h1, h2⟩ := ent_ok hm
    have h3 : decide ((bytesR ⟨p, y, l⟩).length ≤ 1000000) = true := decide_eq_true (by omega)
    simp only [entL, entE, hm, h1, h3, cond_true, cond_false, Bool.not_true]
    rfl
noncomputable def uz_7 := uz_6.addSpec 10 entryR_sp
theorem uz_7_laws : FLaws Try.prog s06 uz_7 := uz_6_laws.addEv s06_laws fun args d h => by
  unfold entryR_sp at h
  split at h
  · unfold entryR_s at h
    have h1 := congrArg Prod.fst (Option.some.inj h)
    obtain rfl : _ = d := congrArg Prod.snd (Option.some.inj h)
    exact ⟨by simp [D.refs], 20, entryR_ok _ _ _ _ h1⟩
  · cases h
def atP_s (c : Bool) (now : List Sector) (d : Bool) (sure : List Sector) (p : Int) : Option (Bool × D RC) := some (goodL now && goodL sure, .tup (.acons (.acons (.int .i64 (recG (atF now sure p)).place) (.acons (.bool (recG (atF now sure p)).yes) (.acons (.sl (C := RC) .write (atF now sure p).isNone (recG (atF now sure p)).writes) .anil))) (.acons (.bool (atF now sure p).isSome) .anil)))
def atP_sp : List (D RC) → Option (Bool × D RC)
  | [.acons (.sl .sector c now) (.acons (.sl .sector d sure) .anil), .int .i64 p] => atP_s c now d sure p
  | _ => none
noncomputable def atP_e (c : Bool) (now : List Sector) (d : Bool) (sure : List Sector) (p : Int) := evF s06 uz_7 60 11 [.acons (.sl (C := RC) .sector c now) (.acons (.sl (C := RC) .sector d sure) .anil), .int .i64 p]
theorem atP_eq (c : Bool) (now : List Sector) (d : Bool) (sure : List Sector) (p : Int) : atP_e c now d sure p = (let Z0 : DO_ := some (D.tup (D.acons (D.acons (D.int .i64 0) (.acons (D.bool false) (.acons (D.sl RTy.write true []) .anil))) (.acons (D.bool false) .anil))); let Z1 : Sector := List.getD now (secI p).toNat (Sector.mk (0 : Int) []); let Z2 : Option (List UInt8) := ofF (Sector.mk (Sector.n Z1) (Sector.b Z1)); let Z3 : List UInt8 := (fun (l : List UInt8) => l) (Option.getD Z2 []); let Z4 : Bool := Option.isNone (readR Z3); let Z5 : Rec := recG (readR Z3); bif goodL now && goodL sure then bif (bif diskOK now sure then (0 : Int) else (2 : Int)) != (0 : Int) then Z0 else bif decide (p < (1 : Int)) then Z0 else bif decide ((0 : Int) ≤ p) then bif !decide (p ≤ (1048575 : Int)) then Z0 else bif decide ((0 : Int) ≤ secI p ∧ secI p < (↑now.length : Int)) then bif !Sector.n Z1 == p then Z0 else bif decide (List.length (Sector.b Z1) ≤ (1000000 : Nat)) then bif !Option.isSome Z2 then Z0 else bif sizeOK (Option.getD Z2 []).length (1 : Nat) then bif decide (List.length Z3 ≤ (1000000 : Nat)) then bif (bif Z4 then (50 : Int) else (0 : Int)) == (0 : Int) then bif !Rec.place Z5 == p then Z0 else some (D.tup (D.acons (D.acons (D.int .i64 Z5.place) (.acons (D.bool Z5.yes) (.acons (D.sl RTy.write Z4 Z5.writes) .anil))) (.acons (D.bool true) .anil))) else Z0 else none else none else none else none else Z0 else none) := by kernel_rfl
theorem atP_ok (c : Bool) (now : List Sector) (d : Bool) (sure : List Sector) (p : Int) (h : (goodL now && goodL sure) = true) : atP_e c now d sure p = some (.tup (.acons (.acons (.int .i64 (recG (atF now sure p)).place) (.acons (.bool (recG (atF now sure p)).yes) (.acons (.sl (C := RC) .write (atF now sure p).isNone (recG (atF now sure p)).writes) .anil))) (.acons (.bool (atF now sure p).isSome) .anil))) := by
  (rw [atP_eq]; conv => zeta)
  have no : atF now sure p = none → some (D.tup (.acons (.acons (.int .i64 0) (.acons (.bool false) (.acons (.sl (C := RC) .write true []) .anil))) (.acons (.bool false) .anil))) = some (.tup (.acons (.acons (.int .i64 (recG (atF now sure p)).place) (.acons (.bool (recG (atF now sure p)).yes) (.acons (.sl (C := RC) .write (atF now sure p).isNone (recG (atF now sure p)).writes) .anil))) (.acons (.bool (atF now sure p).isSome) .anil))) := fun e => by simp only [e]; rfl
  refine cond_of h ?_
  cases hd : diskOK now sure
  · exact cond_of rfl (no (atF_bad hd))
  obtain ⟨l1, l2⟩ := diskOK_len hd
  refine cond_no rfl ?_
  refine cond_two (fun e => no (atF_out (by simp only [decide_eq_true_eq] at e; omega))) fun e1 => ?_
  simp only [decide_eq_false_iff_not] at e1
  refine cond_of (decide_eq_true (by omega)) ?_
  refine cond_two (fun e => no (atF_out (by simp only [Bool.not_eq_true', decide_eq_false_iff_not] at e; omega))) fun e2 => ?_
  simp only [Bool.not_eq_false', decide_eq_true_eq] at e2
  obtain ⟨s0, s1⟩ := secI_bound p
  refine cond_of (decide_eq_true (by omega)) ?_
  have hb := sec_b hd (secI p).toNat
  have eq : atF now sure p = atS (now.getD (secI p).toNat sec0) p := if_pos ⟨hd, by omega, e2⟩
  have e0 : (⟨0, []⟩ : Sector) = sec0 := rfl
  rw [e0]
  generalize now.getD (secI p).toNat sec0 = s at hb eq ⊢
  obtain ⟨n, b⟩ := s
  dsimp only at hb eq ⊢
  have hf := ofF_len ⟨n, b⟩
  dsimp only at hf
  rcases Decidable.em (n = p) with hn | hn
  rotate_left
  · exact cond_of (by rw [ibeqF hn]; rfl) (no (eq.trans (if_neg hn)))
  refine cond_no (by rw [ibeqT hn]; rfl) ?_
  have eq := eq.trans (if_pos hn)
  refine cond_of (decide_eq_true (by omega)) ?_
  cases ho : ofF ⟨n, b⟩ with
  | none => exact cond_of rfl (no (by rw [eq, ho]; rfl))
  | some w =>
    rw [ho] at hf eq
    simp only [Option.getD_some, Option.bind_some] at hf eq
    refine cond_no rfl ?_
    simp only [Option.getD_some]
    refine cond_of (sizeT (by omega)) ?_
    refine cond_of (decide_eq_true (by show w.length ≤ 1000000; omega)) ?_
    have hr : readR w = none ∨ ∃ r, readR w = some r := by cases readR w <;> simp
    rcases hr with hr | ⟨r, hr⟩
    · rw [hr] at eq ⊢
      exact cond_no rfl (no eq)
    · rw [hr] at eq ⊢
      refine cond_of rfl ?_
      simp only [Option.bind_some] at eq
      by_cases hp : r.place = p
      · refine cond_no (by show (!(r.place == p)) = false; rw [ibeqT hp]; rfl) ?_
        rw [eq.trans (if_pos hp)]
        rfl
      · exact cond_of (by show (!(r.place == p)) = true; rw [ibeqF hp]; rfl) (no (eq.trans (if_neg hp)))
noncomputable def uz_8 := uz_7.addSpec 11 atP_sp
theorem uz_8_laws : FLaws Try.prog s06 uz_8 := uz_7_laws.addEv s06_laws fun args d h => by
  unfold atP_sp at h
  split at h
  · unfold atP_s at h
    have h1 := congrArg Prod.fst (Option.some.inj h)
    obtain rfl : _ = d := congrArg Prod.snd (Option.some.inj h)
    exact ⟨by simp [D.refs], 60, atP_ok _ _ _ _ _ h1⟩
  · cases h
def atR_s (c : Bool) (now : List Sector) (d : Bool) (sure : List Sector) (p : Int) : Option (Bool × D RC) := some (goodL now && goodL sure, .tup (.acons (.acons (.int .i64 (recG (atF now sure p)).place) (.acons (.bool (recG (atF now sure p)).yes) (.acons (.sl (C := RC) .write (atF now sure p).isNone (recG (atF now sure p)).writes) .anil))) (.acons (.bool (atF now sure p).isSome) .anil)))
def atR_sp : List (D RC) → Option (Bool × D RC)
  | [.acons (.sl .sector c now) (.acons (.sl .sector d sure) .anil), .int .i64 p] => atR_s c now d sure p
  | _ => none
noncomputable def atR_e (c : Bool) (now : List Sector) (d : Bool) (sure : List Sector) (p : Int) := evF s06 uz_8 60 12 [.acons (.sl (C := RC) .sector c now) (.acons (.sl (C := RC) .sector d sure) .anil), .int .i64 p]
theorem atR_eq (c : Bool) (now : List Sector) (d : Bool) (sure : List Sector) (p : Int) : atR_e c now d sure p = (let Z0 : DO_ := some (D.tup (D.acons (D.acons (D.int .i64 0) (.acons (D.bool false) (.acons (D.sl RTy.write true []) .anil))) (.acons (D.bool false) .anil))); let Z1 : Sector := List.getD now (secI p).toNat (Sector.mk (0 : Int) []); let Z2 : Option (List UInt8) := ofF (Sector.mk (Sector.n Z1) (Sector.b Z1)); let Z3 : List UInt8 := (fun (l : List UInt8) => l) (Option.getD Z2 []); let Z4 : Bool := Option.isNone (readR Z3); let Z5 : Rec := recG (readR Z3); bif goodL now && goodL sure then bif (bif diskOK now sure then (0 : Int) else (2 : Int)) != (0 : Int) then Z0 else bif decide (p < (1 : Int)) then Z0 else bif decide ((0 : Int) ≤ p) then bif !decide (p ≤ (1048575 : Int)) then Z0 else bif decide ((0 : Int) ≤ secI p ∧ secI p < (↑now.length : Int)) then bif decide (List.length (Sector.b Z1) ≤ (1000000 : Nat)) then bif !Option.isSome Z2 then Z0 else bif Sector.n Z1 != p then Z0 else bif sizeOK (Option.getD Z2 []).length (1 : Nat) then bif decide (List.length Z3 ≤ (1000000 : Nat)) then bif (bif Z4 then (50 : Int) else (0 : Int)) != (0 : Int) then Z0 else bif Rec.place Z5 != p then Z0 else some (D.tup (D.acons (D.acons (D.int .i64 Z5.place) (.acons (D.bool Z5.yes) (.acons (D.sl RTy.write Z4 Z5.writes) .anil))) (.acons (D.bool true) .anil))) else none else none else none else none else Z0 else none) := by kernel_rfl
theorem atR_ok (c : Bool) (now : List Sector) (d : Bool) (sure : List Sector) (p : Int) (h : (goodL now && goodL sure) = true) : atR_e c now d sure p = some (.tup (.acons (.acons (.int .i64 (recG (atF now sure p)).place) (.acons (.bool (recG (atF now sure p)).yes) (.acons (.sl (C := RC) .write (atF now sure p).isNone (recG (atF now sure p)).writes) .anil))) (.acons (.bool (atF now sure p).isSome) .anil))) := by
  (rw [atR_eq]; conv => zeta)
  have no : atF now sure p = none → some (D.tup (.acons (.acons (.int .i64 0) (.acons (.bool false) (.acons (.sl (C := RC) .write true []) .anil))) (.acons (.bool false) .anil))) = some (.tup (.acons (.acons (.int .i64 (recG (atF now sure p)).place) (.acons (.bool (recG (atF now sure p)).yes) (.acons (.sl (C := RC) .write (atF now sure p).isNone (recG (atF now sure p)).writes) .anil))) (.acons (.bool (atF now sure p).isSome) .anil))) := fun e => by simp only [e]; rfl
  refine cond_of h ?_
  cases hd : diskOK now sure
  · exact cond_of rfl (no (atF_bad hd))
  obtain ⟨l1, l2⟩ := diskOK_len hd
  refine cond_no rfl ?_
  refine cond_two (fun e => no (atF_out (by simp only [decide_eq_true_eq] at e; omega))) fun e1 => ?_
  simp only [decide_eq_false_iff_not] at e1
  refine cond_of (decide_eq_true (by omega)) ?_
  refine cond_two (fun e => no (atF_out (by simp only [Bool.not_eq_true', decide_eq_false_iff_not] at e; omega))) fun e2 => ?_
  simp only [Bool.not_eq_false', decide_eq_true_eq] at e2
  obtain ⟨s0, s1⟩ := secI_bound p
  refine cond_of (decide_eq_true (by omega)) ?_
  have hb := sec_b hd (secI p).toNat
  have eq : atF now sure p = atS (now.getD (secI p).toNat sec0) p := if_pos ⟨hd, by omega, e2⟩
  have e0 : (⟨0, []⟩ : Sector) = sec0 := rfl
  rw [e0]
  generalize now.getD (secI p).toNat sec0 = s at hb eq ⊢
  obtain ⟨n, b⟩ := s
  dsimp only at hb eq ⊢
  have hf := ofF_len ⟨n, b⟩
  dsimp only at hf
  refine cond_of (decide_eq_true (by omega)) ?_
  cases ho : ofF ⟨n, b⟩ with
  | none => exact cond_of rfl (no (by rw [eq, atS]; split <;> simp [ho]))
  | some w =>
    rw [ho] at hf
    simp only [Option.getD_some] at hf
    refine cond_no rfl ?_
    simp only [Option.getD_some]
    rcases Decidable.em (n = p) with hn | hn
    rotate_left
    · exact cond_of (ibneT hn) (no (eq.trans (if_neg hn)))
    refine cond_no (ibneF hn) ?_
    have eq := eq.trans (if_pos hn)
    rw [ho] at eq
    simp only [Option.bind_some] at eq
    refine cond_of (sizeT (by omega)) ?_
    refine cond_of (decide_eq_true (by show w.length ≤ 1000000; omega)) ?_
    have hr : readR w = none ∨ ∃ r, readR w = some r := by cases readR w <;> simp
    rcases hr with hr | ⟨r, hr⟩
    · rw [hr] at eq ⊢
      exact cond_of rfl (no eq)
    · rw [hr] at eq ⊢
      refine cond_no rfl ?_
      simp only [Option.bind_some] at eq
      by_cases hp : r.place = p
      · refine cond_no (ibneF hp) ?_
        rw [eq.trans (if_pos hp)]
        rfl
      · exact cond_of (ibneT hp) (no (eq.trans (if_neg hp)))
noncomputable def uz_9 := uz_8.addSpec 12 atR_sp
theorem uz_9_laws : FLaws Try.prog s06 uz_9 := uz_8_laws.addEv s06_laws fun args d h => by
  unfold atR_sp at h
  split at h
  · unfold atR_s at h
    have h1 := congrArg Prod.fst (Option.some.inj h)
    obtain rfl : _ = d := congrArg Prod.snd (Option.some.inj h)
    exact ⟨by simp [D.refs], 60, atR_ok _ _ _ _ _ h1⟩
  · cases h
def putW_s (c : Bool) (now : List Sector) (d : Bool) (sure : List Sector) (p : Int) (y : Bool) (cw : Bool) (l : List Write) : Option (Bool × D RC) := some (goodL now && goodL sure && lenOK l.length, .tup (.acons (.acons (.sl (C := RC) .sector (!okPut now sure (secI p) p (entL ⟨p, y, l⟩)) (pNow now sure (secI p) p (entL ⟨p, y, l⟩))) (.acons (.sl (C := RC) .sector (!okPut now sure (secI p) p (entL ⟨p, y, l⟩)) (pSure now sure (secI p) p (entL ⟨p, y, l⟩))) .anil)) (.acons (.int .i64 (bif okPut now sure (secI p) p (entL ⟨p, y, l⟩) then 0 else 2)) .anil)))
def putW_sp : List (D RC) → Option (Bool × D RC)
  | [.acons (.sl .sector c now) (.acons (.sl .sector d sure) .anil), .acons (.int .i64 p) (.acons (.bool y) (.acons (.sl .write cw l) .anil))] => putW_s c now d sure p y cw l
  | _ => none
noncomputable def putW_e (c : Bool) (now : List Sector) (d : Bool) (sure : List Sector) (p : Int) (y : Bool) (cw : Bool) (l : List Write) := evF s06 uz_9 60 15 [.acons (.sl (C := RC) .sector c now) (.acons (.sl (C := RC) .sector d sure) .anil), .acons (.int .i64 p) (.acons (.bool y) (.acons (.sl (C := RC) .write cw l) .anil))]
theorem putW_eq (c : Bool) (now : List Sector) (d : Bool) (sure : List Sector) (p : Int) (y : Bool) (cw : Bool) (l : List Write) : putW_e c now d sure p y cw l = (let Z0 : D RC := D.sl RTy.sector true []; let Z1 : List UInt8 := entL (Rec.mk p y l); let Z2 : Bool := okPut now sure (secI p) p Z1; bif lenOK l.length then bif entE (Rec.mk p y l) != (0 : Int) then some (D.tup (D.acons (D.acons Z0 (D.acons Z0 .anil)) (.acons (D.int .i64 (entE (Rec.mk p y l))) .anil))) else bif goodL now && goodL sure && lenOK Z1.length then some (D.tup (D.acons (D.acons (D.sl RTy.sector (!Z2) (pNow now sure (secI p) p Z1)) (.acons (D.sl RTy.sector (!Z2) (pSure now sure (secI p) p Z1)) .anil)) (.acons (D.int .i64 (bif Z2 then (0 : Int) else (2 : Int))) .anil))) else none else none) := by kernel_rfl
theorem putW_ok (c : Bool) (now : List Sector) (d : Bool) (sure : List Sector) (p : Int) (y : Bool) (cw : Bool) (l : List Write) (h : (goodL now && goodL sure && lenOK l.length) = true) : putW_e c now d sure p y cw l = some (.tup (.acons (.acons (.sl (C := RC) .sector (!okPut now sure (secI p) p (entL ⟨p, y, l⟩)) (pNow now sure (secI p) p (entL ⟨p, y, l⟩))) (.acons (.sl (C := RC) .sector (!okPut now sure (secI p) p (entL ⟨p, y, l⟩)) (pSure now sure (secI p) p (entL ⟨p, y, l⟩))) .anil)) (.acons (.int .i64 (bif okPut now sure (secI p) p (entL ⟨p, y, l⟩) then 0 else 2)) .anil))) := by
  (rw [putW_eq]; conv => zeta)
  simp only [Bool.and_eq_true] at h
  obtain ⟨⟨hg, hgs⟩, hl⟩ := h
  refine cond_of hl ?_
  cases hm : mayB ⟨p, y, l⟩
  · have e1 : entL ⟨p, y, l⟩ = [] := by simp only [entL, hm]; rfl
    have e2 : okPut now sure (secI p) p [] = false := okPut_not fun f => f.2.2.2.2.1 rfl
    rw [e1, e2]
    simp only [entE, hm, pNow, pSure, e2]
    rfl
  · have e3 : lenOK (entL ⟨p, y, l⟩).length = true := by
      have := (ent_ok hm).2
      simp only [entL, hm, cond_true, frameB_len]
      exact lenOK_of (by omega)
    simp only [entE, hm, hg, hgs, e3, Bool.and_self, cond_true]
    rfl
noncomputable def uz_10 := uz_9.addSpec 15 putW_sp
theorem uz_10_laws : FLaws Try.prog s06 uz_10 := uz_9_laws.addEv s06_laws fun args d h => by
  unfold putW_sp at h
  split at h
  · unfold putW_s at h
    have h1 := congrArg Prod.fst (Option.some.inj h)
    obtain rfl : _ = d := congrArg Prod.snd (Option.some.inj h)
    exact ⟨by simp [D.refs], 60, putW_ok _ _ _ _ _ _ _ _ h1⟩
  · cases h
def putWR_s (c : Bool) (now : List Sector) (d : Bool) (sure : List Sector) (p : Int) (y : Bool) (cw : Bool) (l : List Write) : Option (Bool × D RC) := some (goodL now && goodL sure && lenOK l.length, .tup (.acons (.acons (.sl (C := RC) .sector (!okPut now sure (secI p) p (entL ⟨p, y, l⟩)) (pNow now sure (secI p) p (entL ⟨p, y, l⟩))) (.acons (.sl (C := RC) .sector (!okPut now sure (secI p) p (entL ⟨p, y, l⟩)) (pSure now sure (secI p) p (entL ⟨p, y, l⟩))) .anil)) (.acons (.int .i64 (bif okPut now sure (secI p) p (entL ⟨p, y, l⟩) then 0 else 2)) .anil)))
def putWR_sp : List (D RC) → Option (Bool × D RC)
  | [.acons (.sl .sector c now) (.acons (.sl .sector d sure) .anil), .acons (.int .i64 p) (.acons (.bool y) (.acons (.sl .write cw l) .anil))] => putWR_s c now d sure p y cw l
  | _ => none
noncomputable def putWR_e (c : Bool) (now : List Sector) (d : Bool) (sure : List Sector) (p : Int) (y : Bool) (cw : Bool) (l : List Write) := evF s06 uz_10 60 16 [.acons (.sl (C := RC) .sector c now) (.acons (.sl (C := RC) .sector d sure) .anil), .acons (.int .i64 p) (.acons (.bool y) (.acons (.sl (C := RC) .write cw l) .anil))]
theorem putWR_eq (c : Bool) (now : List Sector) (d : Bool) (sure : List Sector) (p : Int) (y : Bool) (cw : Bool) (l : List Write) : putWR_e c now d sure p y cw l = (let Z0 : D RC := D.sl RTy.sector true []; let Z1 : DO_ := some (D.tup (D.acons (D.acons Z0 (D.acons Z0 .anil)) (.acons (D.int .i64 2) .anil))); let Z2 : Bool := goodL now && goodL sure; let Z3 : List UInt8 := entL (Rec.mk p y l); let Z4 : Bool := okPut now sure (secI p) p Z3; bif lenOK l.length then bif entE (Rec.mk p y l) != (0 : Int) then Z1 else bif Z2 then bif (bif diskOK now sure then (0 : Int) else (2 : Int)) != (0 : Int) then Z1 else bif Z2 && lenOK Z3.length then some (D.tup (D.acons (D.acons (D.sl RTy.sector (!Z4) (pNow now sure (secI p) p Z3)) (.acons (D.sl RTy.sector (!Z4) (pSure now sure (secI p) p Z3)) .anil)) (.acons (D.int .i64 (bif Z4 then (0 : Int) else (2 : Int))) .anil))) else none else none else none) := by kernel_rfl
theorem putWR_ok (c : Bool) (now : List Sector) (d : Bool) (sure : List Sector) (p : Int) (y : Bool) (cw : Bool) (l : List Write) (h : (goodL now && goodL sure && lenOK l.length) = true) : putWR_e c now d sure p y cw l = some (.tup (.acons (.acons (.sl (C := RC) .sector (!okPut now sure (secI p) p (entL ⟨p, y, l⟩)) (pNow now sure (secI p) p (entL ⟨p, y, l⟩))) (.acons (.sl (C := RC) .sector (!okPut now sure (secI p) p (entL ⟨p, y, l⟩)) (pSure now sure (secI p) p (entL ⟨p, y, l⟩))) .anil)) (.acons (.int .i64 (bif okPut now sure (secI p) p (entL ⟨p, y, l⟩) then 0 else 2)) .anil))) := by
  (rw [putWR_eq]; conv => zeta)
  simp only [Bool.and_eq_true] at h
  obtain ⟨⟨hg, hgs⟩, hl⟩ := h
  refine cond_of hl ?_
  cases hm : mayB ⟨p, y, l⟩
  · have e1 : entL ⟨p, y, l⟩ = [] := by simp only [entL, hm]; rfl
    have e2 : okPut now sure (secI p) p [] = false := okPut_not fun f => f.2.2.2.2.1 rfl
    rw [e1, e2]
    simp only [entE, hm, pNow, pSure, e2]
    rfl
  · have e3 : lenOK (entL ⟨p, y, l⟩).length = true := by
      have := (ent_ok hm).2
      simp only [entL, hm, cond_true, frameB_len]
      exact lenOK_of (by omega)
    refine cond_no (by simp only [entE, hm]; rfl) ?_
    rw [hg, hgs, e3]
    cases hd : diskOK now sure
    · have e2 : okPut now sure (secI p) p (entL ⟨p, y, l⟩) = false := okPut_not fun f => by rw [hd] at f; cases f.1
      simp only [pNow, pSure, e2]
      rfl
    · rfl
noncomputable def uz_11 := uz_10.addSpec 16 putWR_sp
theorem uz_11_laws : FLaws Try.prog s06 uz_11 := uz_10_laws.addEv s06_laws fun args d h => by
  unfold putWR_sp at h
  split at h
  · unfold putWR_s at h
    have h1 := congrArg Prod.fst (Option.some.inj h)
    obtain rfl : _ = d := congrArg Prod.snd (Option.some.inj h)
    exact ⟨by simp [D.refs], 60, putWR_ok _ _ _ _ _ _ _ _ h1⟩
  · cases h
open Go.Proofs
def eR (o : Option Rec) : Rec := ⟨(recG o).place, (recG o).yes, (recG o).writes⟩
def resP (e : Bool) (l : List Rec) : Option (D RC) := some (.tup (.acons (.sl (C := RC) .recd e l) (.acons (.int .i64 0) .anil)))
def preT (now sure : List Sector) (b : Int) : Nat → Nat → Bool → List Rec → Option (D RC)
  | 0, _, e, acc => resP e acc
  | n + 1, i, e, acc => bif goodL now && goodL sure then (bif !(atF now sure (IntKind.i64.wrap (b + (i : Int)))).isSome then resP e acc else preT now sure b n (i + 1) false (acc ++ [eR (atF now sure (IntKind.i64.wrap (b + (i : Int))))])) else none
theorem preL_some {now sure : List Sector} {n : Nat} {p : Int} {r : Rec} (h : atF now sure p = some r) : preL now sure (n + 1) p = r :: preL now sure n (p + 1) := by
  conv => lhs; unfold preL
  rw [h]
theorem preT_ok {now sure : List Sector} {b : Int} (hg : (goodL now && goodL sure) = true) (h0 : 0 ≤ b) (h1 : b ≤ 1048575) : ∀ (n i : Nat) (e : Bool) (acc : List Rec), i + n ≤ 1000 →
    preT now sure b n i e acc = resP (e && (preL now sure n (b + (i : Int))).isEmpty) (acc ++ preL now sure n (b + (i : Int)))
  | 0, i, e, acc, _ => by simp [preT, preL]
  | n + 1, i, e, acc, h => by
    have w : IntKind.i64.wrap (b + (i : Int)) = b + (i : Int) := wrap_id (by omega) (by omega)
    unfold preT
    rw [hg, w]
    cases ha : atF now sure (b + (i : Int)) with
    | none => simp [preL, ha]
    | some r =>
      have e1 : b + ((i + 1 : Nat) : Int) = b + (i : Int) + 1 := by omega
      have := preT_ok hg h0 h1 n (i + 1) false (acc ++ [eR (some r)]) (by omega)
      rw [e1] at this
      simp only [Option.isSome_some, Bool.not_true, cond_true, cond_false, this]
      rw [preL_some ha]
      simp [eR, recG]
def preW (now sure : List Sector) (b : Int) : Option (D RC) :=
  bif goodL now && goodL sure then (bif (bif diskOK now sure then (0 : Int) else 2) != 0 then some (.tup (.acons (.sl (C := RC) .recd true []) (.acons (.int .i64 2) .anil))) else bif decide (0 ≤ b) then (bif !decide (b ≤ 1048575) then some (.tup (.acons (.sl (C := RC) .recd true []) (.acons (.int .i64 2) .anil))) else preT now sure b 32 1 true []) else some (.tup (.acons (.sl (C := RC) .recd true []) (.acons (.int .i64 2) .anil)))) else none
theorem preW_ok {now sure : List Sector} {b : Int} (h : (goodL now && goodL sure) = true) : preW now sure b = some (.tup (.acons (.sl (C := RC) .recd (preF now sure b).isEmpty (preF now sure b)) (.acons (.int .i64 (preE now sure b)) .anil))) := by
  unfold preW preF preE
  rw [h]
  cases hd : diskOK now sure
  · rfl
  by_cases q : 0 ≤ b ∧ b ≤ 1048575
  · have t := preT_ok h q.1 q.2 32 1 true [] (by omega)
    rw [decide_eq_true q, decide_eq_true q.1, decide_eq_true q.2, t]
    rfl
  · rw [decide_eq_false q]
    cases h1 : decide (0 ≤ b)
    · rfl
    cases h2 : decide (b ≤ 1048575)
    · rfl
    simp only [decide_eq_true_eq] at h1 h2
    exact absurd ⟨h1, h2⟩ q
def goodRs (l : List Rec) : Bool := l.all fun r => lenOK r.writes.length
theorem goodRs_at {l : List Rec} (h : goodRs l = true) (i : Nat) (hi : i < l.length) (d : Rec) : lenOK (l.getD i d).writes.length = true := by
  have e : l.getD i d = l[i] := by simp [hi]
  rw [e]; exact List.all_eq_true.1 h _ (List.getElem_mem hi)
def prefP_s (c : Bool) (now : List Sector) (d : Bool) (sure : List Sector) (b : Int) : Option (Bool × D RC) := some (goodL now && goodL sure, .tup (.acons (.sl (C := RC) .recd (preF now sure b).isEmpty (preF now sure b)) (.acons (.int .i64 (preE now sure b)) .anil)))
def prefP_sp : List (D RC) → Option (Bool × D RC)
  | [.acons (.sl .sector c now) (.acons (.sl .sector d sure) .anil), .int .i64 b] => prefP_s c now d sure b
  | _ => none
noncomputable def prefP_e (c : Bool) (now : List Sector) (d : Bool) (sure : List Sector) (b : Int) := evF s06 uz_11 800 13 [.acons (.sl (C := RC) .sector c now) (.acons (.sl (C := RC) .sector d sure) .anil), .int .i64 b]
theorem prefP_t (c : Bool) (now : List Sector) (d : Bool) (sure : List Sector) (b : Int) : prefP_e c now d sure b = preW now sure b := by kernel_rfl
theorem prefP_ok (c : Bool) (now : List Sector) (d : Bool) (sure : List Sector) (b : Int) (h : (goodL now && goodL sure) = true) : prefP_e c now d sure b = some (.tup (.acons (.sl (C := RC) .recd (preF now sure b).isEmpty (preF now sure b)) (.acons (.int .i64 (preE now sure b)) .anil))) := by
  rw [prefP_t]
  exact preW_ok h
noncomputable def u1_1 := uz_11.addSpec 13 prefP_sp
theorem u1_1_laws : FLaws Try.prog s06 u1_1 := uz_11_laws.addEv s06_laws fun args d h => by
  unfold prefP_sp at h
  split at h
  · unfold prefP_s at h
    have h1 := congrArg Prod.fst (Option.some.inj h)
    obtain rfl : _ = d := congrArg Prod.snd (Option.some.inj h)
    exact ⟨by simp [D.refs], 800, prefP_ok _ _ _ _ _ h1⟩
  · cases h
def prefR_s (c : Bool) (now : List Sector) (d : Bool) (sure : List Sector) (b : Int) : Option (Bool × D RC) := some (goodL now && goodL sure, .tup (.acons (.sl (C := RC) .recd (preF now sure b).isEmpty (preF now sure b)) (.acons (.int .i64 (preE now sure b)) .anil)))
def prefR_sp : List (D RC) → Option (Bool × D RC)
  | [.acons (.sl .sector c now) (.acons (.sl .sector d sure) .anil), .int .i64 b] => prefR_s c now d sure b
  | _ => none
noncomputable def prefR_e (c : Bool) (now : List Sector) (d : Bool) (sure : List Sector) (b : Int) := evF s06 u1_1 800 14 [.acons (.sl (C := RC) .sector c now) (.acons (.sl (C := RC) .sector d sure) .anil), .int .i64 b]
theorem prefR_t (c : Bool) (now : List Sector) (d : Bool) (sure : List Sector) (b : Int) : prefR_e c now d sure b = preW now sure b := by kernel_rfl
theorem prefR_ok (c : Bool) (now : List Sector) (d : Bool) (sure : List Sector) (b : Int) (h : (goodL now && goodL sure) = true) : prefR_e c now d sure b = some (.tup (.acons (.sl (C := RC) .recd (preF now sure b).isEmpty (preF now sure b)) (.acons (.int .i64 (preE now sure b)) .anil))) := by
  rw [prefR_t]
  exact preW_ok h
noncomputable def u1_2 := u1_1.addSpec 14 prefR_sp
theorem u1_2_laws : FLaws Try.prog s06 u1_2 := u1_1_laws.addEv s06_laws fun args d h => by
  unfold prefR_sp at h
  split at h
  · unfold prefR_s at h
    have h1 := congrArg Prod.fst (Option.some.inj h)
    obtain rfl : _ = d := congrArg Prod.snd (Option.some.inj h)
    exact ⟨by simp [D.refs], 800, prefR_ok _ _ _ _ _ h1⟩
  · cases h
structure sameQl_St where
  c : Bool
  l : List Rec
  d : Bool
  m : List Rec
  i : Nat
def sameQl_c (c : Bool) (l : List Rec) (d : Bool) (m : List Rec) (i : Nat) : Env RC := [(0, .sl (C := RC) .recd c l), (1, .sl (C := RC) .recd d m), (4, .bool false), (5, .int .i64 (i : Int))]
def sameQl_o (c : Bool) (l : List Rec) (d : Bool) (m : List Rec) (i : Nat) : List (Obj RC) := []
noncomputable def sameQl_r (c : Bool) (l : List Rec) (d : Bool) (m : List Rec) (i : Nat) := rndO s06 u1_2 22 4 40 0 [0, 1, 4, 5] [4] [] (sameQl_c c l d m i) (sameQl_o c l d m i)
theorem sameQl_eq (c : Bool) (l : List Rec) (d : Bool) (m : List Rec) (i : Nat) : sameQl_r c l d m i = (let Z0 : Int := (↑i : Int); let Z1 : Rec := Rec.mk (0 : Int) false []; let Z2 : Rec := List.getD l Z0.toNat Z1; let Z3 : Rec := List.getD m Z0.toNat Z1; bif lenOK l.length then bif decide (Z0 < (↑l.length : Int)) then bif decide ((0 : Int) ≤ Z0 ∧ Z0 < (↑l.length : Int)) then bif decide ((0 : Int) ≤ Z0 ∧ Z0 < (↑m.length : Int)) then bif lenOK Z2.writes.length && lenOK Z3.writes.length then bif !decide (Rec.mk Z2.place Z2.yes Z2.writes = Rec.mk Z3.place Z3.yes Z3.writes) then some ((X.ret, [(4, D.bool false)]), []) else some ((X.normal, [(0, D.sl RTy.recd c l), (1, D.sl RTy.recd d m), (4, D.bool false), (5, D.int .i64 (IntKind.wrap .i64 (Z0 + (1 : Int))))]), []) else none else none else none else some ((X.exit (0 : Nat), [(4, D.bool false)]), []) else none) := by kernel_rfl
def sameQl_fin (c : Bool) (l : List Rec) (d : Bool) (m : List Rec) (i : Nat) : RT RC := .br (decide (l.drop i = m.drop i)) (.leaf (.exit 0) [(4, .bool false)] []) (.leaf .ret [(4, .bool false)] [])
def sameQl_Inv (c : Bool) (l : List Rec) (d : Bool) (m : List Rec) (i : Nat) : Prop := i ≤ l.length ∧ l.length ≤ 9223372036854775807 ∧ l.length = m.length ∧ goodRs l = true ∧ goodRs m = true
def sameQl_S : LoopR RC sameQl_St where
  k := 0
  canon q := sameQl_c q.c q.l q.d q.m q.i
  objs q := sameQl_o q.c q.l q.d q.m q.i
  fin q := sameQl_fin q.c q.l q.d q.m q.i
  Inv q := sameQl_Inv q.c q.l q.d q.m q.i
  μ q := q.l.length - q.i
theorem sameQl_round (c : Bool) (l : List Rec) (d : Bool) (m : List Rec) (i : Nat) (hI : sameQl_Inv c l d m i) : Leaf (sameQl_r c l d m i) (LedR sameQl_S ⟨c, l, d, m, i⟩) := by
  (rw [sameQl_eq]; conv => zeta)
  unfold sameQl_Inv at hI
  obtain ⟨h1, h2, h3, g1, g2⟩ := hI
  have hlk0 : lenOK l.length = true := lenOK_of h2
  by_cases hlt : i < l.length
  · have w_succ : IntKind.i64.wrap ((i : Int) + 1) = ((i + 1 : Nat) : Int) := by rw [wrap_id (by omega) (by omega)]; simp
    have d_lt : decide ((i : Int) < l.length) = true := by simp; omega
    have d_in : decide (0 ≤ (i : Int) ∧ (i : Int) < l.length) = true := by simp; omega
    have t_nat : ((i : Int)).toNat = i := by simp
    simp only [w_succ, d_lt, d_in, t_nat, cond_true]
    have hlt2 : i < m.length := by omega
    have d_in2 : decide (0 ≤ (i : Int) ∧ (i : Int) < m.length) = true := by simp; omega
    have k1 := goodRs_at g1 i hlt (⟨0, false, []⟩ : Rec)
    have k2 := goodRs_at g2 i hlt2 (⟨0, false, []⟩ : Rec)
    simp only [d_in2, hlk0, cond_true]
    have hst := drops_step l m i (⟨0, false, []⟩ : Rec) hlt h3
    generalize l.getD i (⟨0, false, []⟩ : Rec) = x at hst k1 ⊢
    generalize m.getD i (⟨0, false, []⟩ : Rec) = y at hst k2 ⊢
    obtain ⟨p, yy, w⟩ := x
    obtain ⟨q, z, v⟩ := y
    simp only at k1 k2
    simp only [k1, k2, Bool.and_self, cond_true]
    by_cases hxy : (⟨p, yy, w⟩ : Rec) = ⟨q, z, v⟩
    · simp only [hxy, decide_true, Bool.not_true, cond_false]
      exact leafR_go ⟨c, l, d, m, i + 1⟩ ⟨hlt, h2, h3, g1, g2⟩ (by simp only [sameQl_S]; omega) (by simp only [sameQl_S, sameQl_fin, hst, hxy, decide_true, Bool.true_and]) rfl rfl
    · simp only [hxy, decide_false, Bool.not_false, cond_true]
      exact leafR_ret [] (by simp [sameQl_S, sameQl_fin, hst, hxy, RT.val]) rfl
  · have hi : i = l.length := by omega
    have c1 : decide ((i : Int) < l.length) = false := by simp; omega
    rw [hlk0, c1]
    exact leafR_exit [] (by simp only [sameQl_S, sameQl_fin, drops_end l m i (by omega) (by omega), RT.val, cond_true]) rfl
def sameQl_d (env : Env RC) (os : List (Obj RC)) : Option (Bool × sameQl_St) := match env, os with
  | [(0, .sl .recd c l), (1, .sl .recd d m), (4, .bool false), (5, .int .i64 x0)], [] => staticD (true) (decide (x0 = 0) && decide (l.length ≤ 9223372036854775807 ∧ l.length = m.length) && (goodRs l && goodRs m), ⟨c, l, d, m, 0⟩)
  | _, _ => none
noncomputable def u1_3 := u1_2.addLoop 22 4 (sumR s06 [] [0, 1, 4, 5] sameQl_S sameQl_d)
theorem u1_3_laws : FLaws Try.prog s06 u1_3 := by
  refine u1_2_laws.addRoundsR s06_laws (by kernel_rfl) sameQl_S 40 [0, 1, 4, 5] [4] [] [0, 1, 4, 5] sameQl_d (fun q hI => ?_) ?_
  · obtain ⟨c, l, d, m, i⟩ := q
    refine ⟨?_, ?_, sameQl_round c l d m i hI⟩
    · simp_all [RefsOK, sameQl_S, sameQl_c, sameQl_o, sameQl_Inv, D.refs, Obj.refs, rEnc]
    · simp_all [sameQl_S, sameQl_fin, sameQl_o, sameQl_Inv, RT.refsOK, RefsOK, D.refs, Obj.refs, rEnc]
  · intro env os b q hd_ hb
    unfold sameQl_d at hd_
    split at hd_
    · obtain ⟨hs, hd_⟩ := staticD_some hd_
      cases hd_
      simp only [Bool.and_eq_true, decide_eq_true_eq] at hb
      obtain ⟨⟨rfl, hl⟩, hg⟩ := hb
      exact ⟨⟨Nat.zero_le _, hl.1, hl.2, hg.1, hg.2⟩, rfl, rfl⟩
    · cases hd_
def sameQs_s (c : Bool) (l : List Rec) (d : Bool) (m : List Rec) : Option (Bool × D RC) := some (lenOK l.length && lenOK m.length && (goodRs l && goodRs m), .bool (decide (l = m)))
def sameQs_sp : List (D RC) → Option (Bool × D RC)
  | [.sl .recd c l, .sl .recd d m] => sameQs_s c l d m
  | _ => none
noncomputable def sameQs_e (c : Bool) (l : List Rec) (d : Bool) (m : List Rec) := evF s06 u1_3 40 22 [.sl (C := RC) .recd c l, .sl (C := RC) .recd d m]
theorem sameQs_eq (c : Bool) (l : List Rec) (d : Bool) (m : List Rec) : sameQs_e c l d m = (let Z0 : Nat := List.length l; let Z1 : Nat := List.length m; bif lenOK Z0 then bif lenOK Z1 then bif (↑Z0 : Int) != (↑Z1 : Int) then some (D.bool false) else bif decide (Z0 ≤ (9223372036854775807 : Nat) ∧ Z0 = Z1) && (goodRs l && goodRs m) then bif decide (List.drop (0 : Nat) l = List.drop (0 : Nat) m) then some (D.bool true) else some (D.bool false) else none else none else none) := by kernel_rfl
theorem sameQs_ok (c : Bool) (l : List Rec) (d : Bool) (m : List Rec) (h : (lenOK l.length && lenOK m.length && (goodRs l && goodRs m)) = true) : sameQs_e c l d m = some (.bool (decide (l = m))) := by
  (rw [sameQs_eq]; conv => zeta)
  simp only [Bool.and_eq_true] at h
  obtain ⟨⟨a1, a2⟩, g1, g2⟩ := h
  have hl := lenOK_le a1
  simp only [a1, a2, cond_true]
  by_cases h0 : l.length = m.length
  · have e1 : ((l.length : Int) != (m.length : Int)) = false := by simp [h0]
    have e2 : decide (l.length ≤ 9223372036854775807 ∧ l.length = m.length) = true := decide_eq_true ⟨hl, h0⟩
    rw [e1, e2, g1, g2]
    by_cases h8 : l = m <;> simp [h8]
  · have e1 : ((l.length : Int) != (m.length : Int)) = true := by simp; omega
    have h8 : ¬ l = m := fun e => h0 (by rw [e])
    rw [e1]
    simp [h8]
noncomputable def u1_4 := u1_3.addSpec 22 sameQs_sp
theorem u1_4_laws : FLaws Try.prog s06 u1_4 := u1_3_laws.addEv s06_laws fun args d h => by
  unfold sameQs_sp at h
  split at h
  · unfold sameQs_s at h
    have h1 := congrArg Prod.fst (Option.some.inj h)
    obtain rfl : _ = d := congrArg Prod.snd (Option.some.inj h)
    exact ⟨by simp [D.refs], 40, sameQs_ok _ _ _ _ h1⟩
  · cases h
def wakes06_s  : Option (Bool × D RC) := some (true, .bool true)
def wakes06_sp : List (D RC) → Option (Bool × D RC)
  | [] => wakes06_s 
  | _ => none
noncomputable def wakes06_e  := evF s06 u1_4 1000 8 []
theorem wakes06_ok  (h : (true) = true) : wakes06_e  = some (.bool true) := by
  kernel_rfl
noncomputable def u1_5 := u1_4.addSpec 8 wakes06_sp
theorem u1_5_laws : FLaws Try.prog s06 u1_5 := u1_4_laws.addEv s06_laws fun args d h => by
  unfold wakes06_sp at h
  split at h
  · unfold wakes06_s at h
    have h1 := congrArg Prod.fst (Option.some.inj h)
    obtain rfl : _ = d := congrArg Prod.snd (Option.some.inj h)
    exact ⟨by simp [D.refs], 1000, wakes06_ok  h1⟩
  · cases h
def rec0 : Rec := ⟨0, false, []⟩
def putSec (d : List Sector) (r : Rec) : List Sector := d.set (secI r.place).toNat ⟨r.place, entL r⟩
def layW (l : List Rec) : List Sector := l.foldl putSec emptyDisk
def seqW (l : List Rec) : Prop := ∀ i, i < l.length → (l.getD i rec0).place = (i : Int) + 1 ∧ mayB (l.getD i rec0) = true
theorem layW_snoc (l : List Rec) (r : Rec) : layW (l ++ [r]) = putSec (layW l) r := by simp [layW]
theorem seqW_snoc {l : List Rec} {r : Rec} (h : seqW l) (hp : r.place = (l.length : Int) + 1) (hm : mayB r = true) : seqW (l ++ [r]) := by
  intro i hi
  simp only [List.length_append, List.length_singleton] at hi
  by_cases e : i < l.length
  · have : (l ++ [r]).getD i rec0 = l.getD i rec0 := by simp [List.getD_eq_getElem?_getD, List.getElem?_append_left e]
    rw [this]; exact h i e
  · have e2 : i = l.length := by omega
    subst e2
    have : (l ++ [r]).getD l.length rec0 = r := by simp [List.getD_eq_getElem?_getD]
    rw [this]; exact ⟨hp, hm⟩
theorem seqW_take {l : List Rec} (h : seqW l) (n : Nat) : seqW (l.take n) := by
  intro i hi
  rw [List.length_take] at hi
  have : (l.take n).getD i rec0 = l.getD i rec0 := by
    simp only [List.getD_eq_getElem?_getD]; rw [List.getElem?_take_of_lt (by omega)]
  rw [this]; exact h i (by omega)
theorem snoc_ind {p : List Rec → Prop} (h0 : p []) (h1 : ∀ l r, p l → p (l ++ [r])) (l : List Rec) : p l := by
  have : ∀ n (l : List Rec), l.length = n → p l := by
    intro n
    induction n with
    | zero => intro l hl; rw [List.length_eq_zero_iff.1 hl]; exact h0
    | succ n ih =>
      intro l hl
      have hne : l ≠ [] := by intro e; subst e; simp at hl
      rw [← List.dropLast_concat_getLast hne]
      exact h1 _ _ (ih _ (by simp [hl]))
  exact this _ l rfl
theorem layW_len (l : List Rec) : (layW l).length = 33 := by
  refine snoc_ind (p := fun l => (layW l).length = 33) rfl (fun l r h => ?_) l
  rw [layW_snoc, putSec, List.length_set, h]
theorem seqW_pre {l : List Rec} {r : Rec} (h : seqW (l ++ [r])) : seqW l ∧ r.place = (l.length : Int) + 1 ∧ mayB r = true := by
  refine ⟨?_, ?_⟩
  · have := seqW_take h l.length
    simpa using this
  · have := h l.length (by simp)
    simpa [List.getD_eq_getElem?_getD] using this
theorem getD_set {d : List Sector} {k : Nat} (x : Sector) (hk : k < d.length) (j : Nat) : (d.set k x).getD j sec0 = if j = k then x else d.getD j sec0 := by
  by_cases e : j = k
  · subst e; simp [hk]
  · rw [if_neg e]; simp only [List.getD_eq_getElem?_getD]; rw [List.getElem?_set_ne (fun q => e q.symm)]
def secN (p : Nat) : Nat := p % 32
theorem secI_nat (p : Nat) : secI (p : Int) = (secN p : Int) ∧ (secI (p : Int)).toNat = secN p := by
  unfold secI secN
  rw [if_neg (by omega)]
  omega
structure LayI (l : List Rec) : Prop where
  top : ∀ p : Nat, 1 ≤ p → p ≤ l.length → l.length < p + 32 → (layW l).getD (secN p) sec0 = ⟨(p : Int), entL (l.getD (p - 1) rec0)⟩
  up : ∀ p : Nat, 1 ≤ p → p ≤ l.length → (p : Int) ≤ ((layW l).getD (secN p) sec0).n
  all : ∀ j, (layW l).getD j sec0 = sec0 ∨ ∃ p : Nat, 1 ≤ p ∧ p ≤ l.length ∧ (layW l).getD j sec0 = ⟨(p : Int), entL (l.getD (p - 1) rec0)⟩
theorem layI {l : List Rec} : seqW l → LayI l := by
  refine snoc_ind (p := fun l => seqW l → LayI l) (fun _ => ⟨fun p h1 h2 => by simp at h2; omega, fun p h1 h2 => by simp at h2; omega, fun j => .inl ?_⟩) (fun l r ih h => ?_) l
  · show (List.replicate 33 sec0).getD j sec0 = sec0
    simp only [List.getD_eq_getElem?_getD, List.getElem?_replicate]
    split <;> rfl
  · obtain ⟨h1, hp, hm⟩ := seqW_pre h
    have ih := ih h1
    have hk : (secI r.place).toNat = secN (l.length + 1) := by rw [hp]; exact (secI_nat (l.length + 1)).2
    have hk2 : secN (l.length + 1) < (layW l).length := by rw [layW_len]; unfold secN; omega
    have hat : ∀ j, (layW (l ++ [r])).getD j sec0 = if j = secN (l.length + 1) then ⟨r.place, entL r⟩ else (layW l).getD j sec0 := by
      intro j; rw [layW_snoc, putSec, hk]; exact getD_set _ hk2 j
    have hold : ∀ p : Nat, 1 ≤ p → p ≤ l.length → (l ++ [r]).getD (p - 1) rec0 = l.getD (p - 1) rec0 := by
      intro p q1 q2; simp only [List.getD_eq_getElem?_getD]; rw [List.getElem?_append_left (by omega)]
    have hnew : (l ++ [r]).getD (l.length + 1 - 1) rec0 = r := by simp [List.getD_eq_getElem?_getD]
    have hlen : (l ++ [r]).length = l.length + 1 := by simp
    refine ⟨fun p q1 q2 q3 => ?_, fun p q1 q2 => ?_, fun j => ?_⟩
    · rw [hat]
      by_cases e : p = l.length + 1
      · subst e; rw [if_pos rfl, hnew, hp]; simp
      · have hne : secN p ≠ secN (l.length + 1) := by unfold secN; omega
        rw [if_neg hne, hold p q1 (by omega)]
        exact ih.top p q1 (by omega) (by omega)
    · rw [hat]
      split
      · show (p : Int) ≤ r.place
        rw [hp]; omega
      · rename_i hne
        exact ih.up p q1 (by have : p ≠ l.length + 1 := fun e => hne (by rw [e]); omega)
    · rw [hat]
      split
      · exact .inr ⟨l.length + 1, by omega, by omega, by rw [hnew, hp]; simp⟩
      · rcases ih.all j with q | ⟨p, q1, q2, q3⟩
        · exact .inl q
        · exact .inr ⟨p, q1, by omega, by rw [q3, hold p q1 q2]⟩
theorem entL_ok {r : Rec} (h : mayB r = true) : entL r = frameB r.place (bytesR r) ∧ okF r.place (bytesR r) = true ∧ (entL r).length ≤ 25 ∧ entL r ≠ [] := by
  have h1 := bytesR_len h
  have h2 := (may_facts (p := r.place) (y := r.yes) (l := r.writes) h).1
  have e : entL r = frameB r.place (bytesR r) := by simp only [entL, h, cond_true]
  refine ⟨e, ?_, ?_, ?_⟩
  · simp only [okF, Bool.and_eq_true, decide_eq_true_eq]; omega
  · rw [e, frameB_len]; omega
  · rw [e]; intro q; have := congrArg List.length q; rw [frameB_len] at this; simp at this
theorem LayI.n_le {l : List Rec} (h : LayI l) (j : Nat) : 0 ≤ ((layW l).getD j sec0).n ∧ ((layW l).getD j sec0).n ≤ l.length := by
  rcases h.all j with q | ⟨p, q1, q2, q3⟩
  · rw [q]; simp [sec0]
  · rw [q3]; simp only; omega
theorem layW_row {l : List Rec} (h : seqW l) (hl : l.length ≤ 1000) : rowOK (layW l) = true := by
  refine rowOK_of (layW_len l) fun s hs => ?_
  obtain ⟨j, hj, rfl⟩ := mem_getD hs
  rcases (layI h).all j with q | ⟨p, q1, q2, q3⟩
  · rw [q]; rfl
  · rw [q3]
    have := (entL_ok (h (p - 1) (by omega)).2).2.2.1
    simp only [maySec, Bool.and_eq_true, decide_eq_true_eq, Bool.or_eq_true]
    exact ⟨⟨⟨by omega, by omega⟩, by omega⟩, .inl (by omega)⟩
theorem layW_disk {l : List Rec} (h : seqW l) (hl : l.length ≤ 1000) {s : Nat} (hs : s ≤ l.length) (hs2 : l.length ≤ s + 1) : diskOK (layW l) (layW (l.take s)) = true := by
  have r1 := layW_row h hl
  have r2 := layW_row (seqW_take h s) (by rw [List.length_take]; omega)
  simp only [diskOK, r1, r2, Bool.true_and]
  rw [low_iff (by rw [layW_len, layW_len])]
  intro i hi
  by_cases e : s = l.length
  · rw [e, List.take_length]; exact Int.le_refl _
  · have hne : l ≠ [] := by intro q; subst q; simp at e hs; omega
    obtain ⟨l', r, rfl⟩ : ∃ l' r, l = l' ++ [r] := ⟨_, _, (List.dropLast_concat_getLast hne).symm⟩
    simp only [List.length_append, List.length_singleton] at *
    have e1 : s = l'.length := by omega
    subst e1
    obtain ⟨h1, hp, hm⟩ := seqW_pre h
    rw [List.take_left', layW_snoc, putSec]
    · have hk : (secI r.place).toNat = secN (l'.length + 1) := by rw [hp]; exact (secI_nat (l'.length + 1)).2
      have hk2 : secN (l'.length + 1) < (layW l').length := by rw [layW_len]; unfold secN; omega
      rw [hk, getD_set _ hk2]
      have := ((layI h1).n_le i).2
      split
      · simp only; omega
      · exact Int.le_refl _
    · rfl
theorem put_new {l : List Rec} {r : Rec} (h : seqW l) (hl : l.length < 1000) (hp : r.place = (l.length : Int) + 1) (hm : mayB r = true) {sure : List Sector} (hd : diskOK (layW l) sure = true) :
    okPut (layW l) sure (secI r.place) r.place (entL r) = true ∧ pNow (layW l) sure (secI r.place) r.place (entL r) = layW (l ++ [r]) ∧ pSure (layW l) sure (secI r.place) r.place (entL r) = sure := by
  obtain ⟨e1, e2, e3, e4⟩ := entL_ok hm
  have hb := secI_bound r.place
  have ho : okPut (layW l) sure (secI r.place) r.place (entL r) = true := by
    have e5 : (entL r == []) = false := by rw [beq_eq_false_iff_ne]; exact e4
    have e6 : maySec ⟨r.place, entL r⟩ = true := by
      simp only [maySec, Bool.and_eq_true, decide_eq_true_eq, Bool.or_eq_true]
      exact ⟨⟨⟨by omega, by omega⟩, by omega⟩, .inl (by omega)⟩
    simp only [okPut, hd, e5, e6, Bool.true_and, Bool.and_true, Bool.not_false, Bool.and_eq_true, decide_eq_true_eq]
    omega
  refine ⟨ho, ?_, by simp only [pSure, ho, cond_true]⟩
  simp only [pNow, ho, cond_true, putNow]
  rw [if_pos (by have := ((layI h).n_le (secI r.place).toNat).2; omega), layW_snoc]
  rfl
theorem put_old {l : List Rec} (h : seqW l) (hl : l.length ≤ 1000) {k : Nat} (hk : k < l.length) {sure : List Sector} (hd : diskOK (layW l) sure = true) :
    okPut (layW l) sure (secI (l.getD k rec0).place) (l.getD k rec0).place (entL (l.getD k rec0)) = true ∧ pNow (layW l) sure (secI (l.getD k rec0).place) (l.getD k rec0).place (entL (l.getD k rec0)) = layW l ∧
    pSure (layW l) sure (secI (l.getD k rec0).place) (l.getD k rec0).place (entL (l.getD k rec0)) = sure := by
  obtain ⟨hp, hm⟩ := h k hk
  generalize l.getD k rec0 = r at hp hm ⊢
  obtain ⟨e1, e2, e3, e4⟩ := entL_ok hm
  have hb := secI_bound r.place
  have ho : okPut (layW l) sure (secI r.place) r.place (entL r) = true := by
    have e5 : (entL r == []) = false := by rw [beq_eq_false_iff_ne]; exact e4
    have e6 : maySec ⟨r.place, entL r⟩ = true := by
      simp only [maySec, Bool.and_eq_true, decide_eq_true_eq, Bool.or_eq_true]
      exact ⟨⟨⟨by omega, by omega⟩, by omega⟩, .inl (by omega)⟩
    simp only [okPut, hd, e5, e6, Bool.true_and, Bool.and_true, Bool.not_false, Bool.and_eq_true, decide_eq_true_eq]
    omega
  refine ⟨ho, ?_, by simp only [pSure, ho, cond_true]⟩
  simp only [pNow, ho, cond_true, putNow]
  have hs : (secI r.place).toNat = secN (k + 1) := by rw [hp]; exact (secI_nat (k + 1)).2
  rw [if_neg (by rw [hs]; have := (layI h).up (k + 1) (by omega) (by omega); omega)]
theorem crash_lay {l : List Rec} (h : seqW l) (hl : l.length ≤ 1000) {s : Nat} (hs : s ≤ l.length) (hs2 : l.length ≤ s + 1) (lost : Int) :
    ∃ m, (m = l.length ∨ m = s) ∧ crashF lost 33 0 (layW l) (layW (l.take s)) = (layW (l.take m), layW (l.take m)) := by
  have hd := layW_disk h hl hs hs2
  obtain ⟨c1, _, _⟩ := crash_ok lost hd
  have hlen := crashF_len lost 33 0 (layW l) (layW (l.take s))
  have ha := crashF_at lost 33 0 (layW l) (layW (l.take s)) (by rw [layW_len]; omega) (by rw [layW_len]; omega)
  have key : ∀ m, (∀ j, (if bitAt lost j = true then (layW (l.take s)).getD j sec0 else (layW l).getD j sec0) = (layW (l.take m)).getD j sec0) → crashF lost 33 0 (layW l) (layW (l.take s)) = (layW (l.take m), layW (l.take m)) := by
    intro m hm
    have e1 : (crashF lost 33 0 (layW l) (layW (l.take s))).1 = layW (l.take m) := ext_getD (by rw [hlen.1, layW_len, layW_len]) fun j => by
      rw [(ha j).1]
      by_cases e : 0 ≤ j ∧ j < 0 + 33
      · rw [if_pos e]; exact hm j
      · rw [if_neg e]
        have out : ∀ x, (layW x).getD j sec0 = sec0 := fun x => by
          have : (layW x).length ≤ j := by rw [layW_len]; omega
          simp [List.getD_eq_getElem?_getD, List.getElem?_eq_none this]
        rw [out, out]
    rw [← e1]
    exact Prod.ext rfl c1.symm
  by_cases e : s = l.length
  · refine ⟨s, .inr rfl, key s fun j => ?_⟩
    rw [e, List.take_length]; simp
  · have hne : l ≠ [] := by intro q; subst q; simp at e hs; omega
    obtain ⟨l', r, rfl⟩ : ∃ l' r, l = l' ++ [r] := ⟨_, _, (List.dropLast_concat_getLast hne).symm⟩
    simp only [List.length_append, List.length_singleton] at *
    have e1 : s = l'.length := by omega
    subst e1
    obtain ⟨h1, hp, hm⟩ := seqW_pre h
    have ht : (l' ++ [r]).take l'.length = l' := List.take_left' rfl
    have hk : (secI r.place).toNat = secN (l'.length + 1) := by rw [hp]; exact (secI_nat (l'.length + 1)).2
    have hk2 : secN (l'.length + 1) < (layW l').length := by rw [layW_len]; unfold secN; omega
    have hat : ∀ j, (layW (l' ++ [r])).getD j sec0 = if j = secN (l'.length + 1) then ⟨r.place, entL r⟩ else (layW l').getD j sec0 := by
      intro j; rw [layW_snoc, putSec, hk]; exact getD_set _ hk2 j
    by_cases hb : bitAt lost (secN (l'.length + 1)) = true
    · refine ⟨l'.length, .inr rfl, key _ fun j => ?_⟩
      rw [ht, hat]
      by_cases ej : j = secN (l'.length + 1)
      · rw [ej, hb, if_pos rfl]
      · rw [if_neg ej]; simp
    · refine ⟨l'.length + 1, .inl rfl, key _ fun j => ?_⟩
      rw [ht, show (l' ++ [r]).take (l'.length + 1) = l' ++ [r] from List.take_of_length_le (by simp), hat]
      by_cases ej : j = secN (l'.length + 1)
      · subst ej; rw [if_neg hb]
      · rw [if_neg ej]; simp
theorem at_lay {l : List Rec} (h : seqW l) (hl : l.length ≤ 1000) {sure : List Sector} (hd : diskOK (layW l) sure = true) {i : Nat} (hi : i < l.length) (hw : l.length ≤ i + 32) : atF (layW l) sure ((i : Int) + 1) = some (l.getD i rec0) := by
  obtain ⟨hp, hm⟩ := h i hi
  obtain ⟨e1, e2, e3, e4⟩ := entL_ok hm
  have hs : (secI ((i : Int) + 1)).toNat = secN (i + 1) := (secI_nat (i + 1)).2
  have ht := (layI h).top (i + 1) (by omega) (by omega) (by omega)
  simp only [Nat.add_sub_cancel] at ht
  unfold atF
  rw [if_pos ⟨hd, by omega, by omega⟩, hs, ht]
  generalize l.getD i rec0 = r at *
  unfold atS
  rw [if_pos (by simp)]
  have hn : ((i + 1 : Nat) : Int) = r.place := by omega
  rw [hn, e1, ofF_frame e2]
  simp only [Option.bind_some, readR_put hm]
  rw [if_pos (by omega)]
theorem at_next {l : List Rec} (h : seqW l) {sure : List Sector} : atF (layW l) sure ((l.length : Int) + 1) = none := by
  unfold atF
  split
  · have hs : (secI ((l.length : Int) + 1)).toNat = secN (l.length + 1) := (secI_nat (l.length + 1)).2
    have := ((layI h).n_le (secN (l.length + 1))).2
    unfold atS
    rw [hs, if_neg (by omega)]
  · rfl
theorem preL_lay {l : List Rec} (h : seqW l) (hl : l.length ≤ 1000) {sure : List Sector} (hd : diskOK (layW l) sure = true) : ∀ (k i : Nat), i ≤ l.length → l.length ≤ i + k → l.length ≤ i + 32 → preL (layW l) sure k ((i : Int) + 1) = l.drop i
  | 0, i, h1, h2, _ => by rw [List.drop_eq_nil_of_le (by omega)]; rfl
  | k + 1, i, h1, h2, h3 => by
    unfold preL
    by_cases e : i < l.length
    · rw [at_lay h hl hd e h3]
      have ih := preL_lay h hl hd k (i + 1) e (by omega) (by omega)
      have e2 : ((i + 1 : Nat) : Int) + 1 = (i : Int) + 1 + 1 := by omega
      rw [e2] at ih
      simp only [ih]
      rw [List.drop_eq_getElem_cons e]
      simp [List.getD_eq_getElem?_getD, e]
    · have e2 : i = l.length := by omega
      subst e2
      rw [at_next h]
      simp
theorem pre_lay {l : List Rec} (h : seqW l) (hl : l.length ≤ 1000) {sure : List Sector} (hd : diskOK (layW l) sure = true) {b : Nat} (h1 : b ≤ l.length) (h2 : l.length ≤ b + 32) : preF (layW l) sure (b : Int) = l.drop b ∧ preE (layW l) sure (b : Int) = 0 := by
  have hb : decide (0 ≤ (b : Int) ∧ (b : Int) ≤ 1048575) = true := decide_eq_true (by omega)
  simp only [preF, preE, hd, hb, Bool.and_self, cond_true, and_true]
  exact preL_lay h hl hd 32 b h1 h2 h2
section
variable {C : Cdc} {P : Program} {T : Tab C} {Φ : Fns C}
open Pg (Ex)
structure FunR (C : Cdc) (σ : Type) where
  k : Nat
  args : σ → List (D C)
  objs : σ → List (Obj C)
  fin : σ → RT C
  Inv : σ → Prop
theorem EnvOK.args (K : PLaws P T) {X : Cx} {nx : Nat} {lim : Lim} {args : List (D C)} {vs : List Value} (h : RVs T X args vs) (hr : ∀ a ∈ args, ∀ id ∈ D.refs a, old nx lim id) : EnvOK T X nx lim (eargs 0 args) (⟨vs⟩ : Array Value) := by
  intro t
  rw [eargs_get]
  simp only [Nat.zero_le, if_true, Nat.sub_zero]
  refine ⟨?_, ?_⟩
  · have := h.get t
    have e : (⟨vs⟩ : Array Value).getD t undef = vs.getD t undef := by simp [Array.getD_eq_getD_getElem?]
    rw [e]; exact this
  · by_cases ht : t < args.length
    · exact hr _ (by simp [List.getD_eq_getElem?_getD, ht])
    · have : args.getD t .top = .top := by
        simp only [List.getD_eq_getElem?_getD]
        rw [List.getElem?_eq_none (by omega)]; rfl
      rw [this]; simp [D.refs]
end
end Go.Ev
