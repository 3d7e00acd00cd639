/-
  A part of the proof of a statement of this seat: the model is run over values by content, proved sound; what the functions come to. No condition beyond the given statements. (text 5)
-/
import Derived.Test.YtkmlajifcoomcaaGreatP3
namespace Go.Ev
open Go.Proofs
set_option maxRecDepth 100000
set_option linter.unusedVariables false
set_option linter.unusedSimpArgs false
def regsAt (l : List Int) (i : Nat) : List Int := l.take i ++ List.replicate (96 - i) 0
theorem regsAt_len {l : List Int} {i : Nat} (h : i ≤ l.length) (h2 : l.length ≤ 96) : (regsAt l i).length = 96 := by
  simp only [regsAt, List.length_append, List.length_take, List.length_replicate]; omega
theorem regsAt_set {l : List Int} {i : Nat} (h : i < l.length) (h2 : l.length ≤ 96) (d : Int) : (regsAt l i).set i (l.getD i d) = regsAt l (i + 1) := by
  apply List.ext_getElem
  · rw [List.length_set, regsAt_len (by omega) h2, regsAt_len (by omega) h2]
  · intro n h3 h4
    rw [regsAt_len (by omega) h2] at h4
    rw [List.getElem_set]
    have e : l.getD i d = l[i] := by simp [h]
    simp only [regsAt, List.getElem_append, List.length_take, List.getElem_take, List.getElem_replicate]
    split
    · rename_i q; subst q; rw [e, dif_pos (by omega)]
    · split <;> split <;> first | rfl | omega
theorem regsAt_end {l : List Int} : regsAt l l.length = regs1 l := by
  unfold regsAt regs1; rw [List.take_length]
structure frm10l_St where
  c : Bool
  l : List Int
  p : Int
  r : List Int
  i : Nat
def frm10l_c (c : Bool) (l : List Int) (p : Int) (r : List Int) (i : Nat) : Env RC := [(1, .sl (C := RC) .int c l), (5, .ptr 0 []), (6, .int .i64 (i : Int))]
def frm10l_o (c : Bool) (l : List Int) (p : Int) (r : List Int) (i : Nat) : List (Obj RC) := [.var 73 (.acons (.int .i8 p) (.acons (.int .i64 0) (.acons (.arr (C := RC) .int 96 r) .anil)))]
noncomputable def frm10l_r (c : Bool) (l : List Int) (p : Int) (r : List Int) (i : Nat) := rndO s19 ub_1 88 3 40 1 [1, 5, 6] [] [.slot 5 0] (frm10l_c c l p r i) (frm10l_o c l p r i)
theorem frm10l_eq (c : Bool) (l : List Int) (p : Int) (r : List Int) (i : Nat) : frm10l_r c l p r i = (let Z0 : Int := (↑i : Int); let Z1 : D RC := D.int .i64 0; bif lenOK l.length then bif decide (Z0 < (↑l.length : Int)) then bif decide ((0 : Int) ≤ Z0 ∧ Z0 < (↑l.length : Int)) then bif decide ((0 : Int) ≤ Z0 ∧ Z0 < (96 : Int)) then some ((X.normal, [(1, D.sl RTy.int c l), (5, D.ptr 0 []), (6, D.int .i64 (IntKind.wrap .i64 (Z0 + (1 : Int))))]), [some (Obj.var 73 (.acons (D.int IntKind.i8 p) (.acons Z1 (D.acons (D.arr RTy.int (96 : Nat) (List.set r Z0.toNat (List.getD l Z0.toNat (0 : Int)))) .anil))))]) else none else none else some ((X.exit (0 : Nat), []), [some (Obj.var 73 (.acons (D.int IntKind.i8 p) (.acons Z1 (D.acons (D.arr RTy.int (96 : Nat) r) .anil))))]) else none) := by kernel_rfl
def frm10l_fin (c : Bool) (l : List Int) (p : Int) (r : List Int) (i : Nat) : RT RC := .leaf (.exit 0) [] (frm10l_o c l p (regs1 l) i)
def frm10l_Inv (c : Bool) (l : List Int) (p : Int) (r : List Int) (i : Nat) : Prop := i ≤ l.length ∧ l.length ≤ 96 ∧ r = regsAt l i
def frm10l_S : LoopR RC frm10l_St where
  k := 1
  canon q := frm10l_c q.c q.l q.p q.r q.i
  objs q := frm10l_o q.c q.l q.p q.r q.i
  fin q := frm10l_fin q.c q.l q.p q.r q.i
  Inv q := frm10l_Inv q.c q.l q.p q.r q.i
  μ q := q.l.length - q.i
theorem frm10l_round (c : Bool) (l : List Int) (p : Int) (r : List Int) (i : Nat) (hI : frm10l_Inv c l p r i) : Leaf (frm10l_r c l p r i) (LedR frm10l_S ⟨c, l, p, r, i⟩) := by
  (rw [frm10l_eq]; conv => zeta)
  unfold frm10l_Inv at hI
  obtain ⟨h1, h2, rfl⟩ := hI
  have hlk := lenOK_of (n := l.length) (by omega)
  by_cases hlt : i < l.length
  · have w_succ : IntKind.i64.wrap ((i : Int) + 1) = ((i + 1 : Nat) : Int) := by rw [wrap_id (by omega) (by omega)]; simp
    have d_lt : decide ((i : Int) < l.length) = true := by simp; omega
    have d_in : decide (0 ≤ (i : Int) ∧ (i : Int) < l.length) = true := by simp; omega
    have t_nat : ((i : Int)).toNat = i := by simp
    simp only [w_succ, d_lt, d_in, t_nat, cond_true]
    have d1 : decide (0 ≤ (i : Int) ∧ (i : Int) < 96) = true := decide_eq_true ⟨by omega, by omega⟩
    simp only [hlk, d1, cond_true, regsAt_set hlt h2]
    exact leafR_go (S := frm10l_S) ⟨c, l, p, regsAt l (i + 1), i + 1⟩ ⟨hlt, h2, rfl⟩ (by simp only [frm10l_S]; omega) rfl rfl rfl
  · have hi : i = l.length := by omega
    have c1 : decide ((i : Int) < l.length) = false := by simp; omega
    rw [hlk, c1]
    simp only [cond_true, cond_false]
    exact leafR_exit (frm10l_o c l p (regs1 l) i) rfl (by rw [hi, regsAt_end]; rfl)
def frm10l_d (env : Env RC) (os : List (Obj RC)) : Option (Bool × frm10l_St) := match env, os with
  | [(1, .sl .int c l), (5, .ptr 0 []), (6, .int .i64 x0)], [.var 73 (.acons (.int .i8 p) (.acons (.int .i64 0) (.acons (.arr .int 96 r) .anil)))] => staticD (true) (decide (x0 = 0) && decide (l.length ≤ 96) && decide (r = List.replicate 96 0), ⟨c, l, p, r, 0⟩)
  | _, _ => none
noncomputable def uc_1 := ub_1.addLoop 88 3 (sumR s19 [.slot 5 0] [1, 5, 6] frm10l_S frm10l_d)
theorem uc_1_laws : FLaws Tryz.prog s19 uc_1 := by
  refine ub_1_laws.addRoundsR s19_laws (by kernel_rfl) frm10l_S 40 [1, 5, 6] [] [.slot 5 0] [1, 5, 6] frm10l_d (fun q hI => ?_) ?_
  · obtain ⟨c, l, p, r, i⟩ := q
    refine ⟨?_, ?_, frm10l_round c l p r i hI⟩
    · simp_all [RefsOK, frm10l_S, frm10l_c, frm10l_o, frm10l_Inv, D.refs, Obj.refs, rEnc]
    · simp_all [frm10l_S, frm10l_fin, frm10l_o, frm10l_Inv, RT.refsOK, RefsOK, D.refs, Obj.refs, rEnc]
  · intro env os b q hd_ hb
    unfold frm10l_d at hd_
    split at hd_
    · obtain ⟨hs, hd_⟩ := staticD_some hd_
      cases hd_
      simp only [Bool.and_eq_true, decide_eq_true_eq] at hb
      obtain ⟨⟨e0, e1⟩, e2⟩ := hb
      subst e0
      exact ⟨⟨Nat.zero_le _, e1, e2⟩, rfl, rfl⟩
    · cases hd_
def frm10_s (p : Int) (c : Bool) (l : List Int) : Option (Bool × D RC) := some (decide (l.length ≤ 96), .acons (.int .i8 p) (.acons (.int .i64 0) (.acons (.arr (C := RC) .int 96 (regs1 l)) .anil)))
def frm10_sp : List (D RC) → Option (Bool × D RC)
  | [.int .i8 p, .sl .int c l] => frm10_s p c l
  | _ => none
noncomputable def frm10_e (p : Int) (c : Bool) (l : List Int) := evF s19 uc_1 60 88 [.int .i8 p, .sl (C := RC) .int c l]
theorem frm10_eq (p : Int) (c : Bool) (l : List Int) : frm10_e p c l = (bif decide (List.length l ≤ (96 : Nat)) && true then some (D.acons (D.int IntKind.i8 p) (.acons (D.int .i64 0) (.acons (D.arr RTy.int (96 : Nat) (regs1 l)) .anil))) else none) := by kernel_rfl
theorem frm10_ok (p : Int) (c : Bool) (l : List Int) (h : (decide (l.length ≤ 96)) = true) : frm10_e p c l = some (.acons (.int .i8 p) (.acons (.int .i64 0) (.acons (.arr (C := RC) .int 96 (regs1 l)) .anil))) := by
  rw [frm10_eq]
  simp only [h, decide_true, Bool.and_self, cond_true]
noncomputable def uc_2 := uc_1.addSpec 88 frm10_sp
theorem uc_2_laws : FLaws Tryz.prog s19 uc_2 := uc_1_laws.addEv s19_laws fun args d h => by
  unfold frm10_sp at h
  split at h
  · unfold frm10_s at h
    have h1 := congrArg Prod.fst (Option.some.inj h)
    obtain rfl : _ = d := congrArg Prod.snd (Option.some.inj h)
    exact ⟨by simp [D.refs], 60, frm10_ok _ _ _ h1⟩
  · cases h
def frmR (f : Frame) : D RC := .acons (.int .i8 f.prog) (.acons (.int .i64 f.at') (.acons (.arr (C := RC) .int 96 f.r) .anil))
def actR (a : Action) (fl : Bool) : D RC := .acons (.int .i8 a.kind) (.acons (.int .i64 a.a) (.acons (.int .i64 a.b) (.acons (.int .i64 a.v) (.acons (.int .i64 a.gen) (.acons (.str a.text) (.acons (.sl (C := RC) .int fl a.args) .anil))))))
def new9_s (c : Int) (p : Int) (ca : Bool) (l : List Int) : Option (Bool × D RC) := some (decide (0 ≤ c ∧ c ≤ 3 ∧ 0 ≤ p ∧ l.length ≤ 96), .tup (.acons (.acons (.int .i64 c) (.acons (.sl (C := RC) .frame true [⟨p, 0, regs1 l⟩]) (.acons (.sl (C := RC) .int true []) (.acons (.bool false) .anil)))) (.acons (.int .i64 0) .anil)))
def new9_sp : List (D RC) → Option (Bool × D RC)
  | [.int .i64 c, .int .i8 p, .sl .int ca l] => new9_s c p ca l
  | _ => none
noncomputable def new9_e (c : Int) (p : Int) (ca : Bool) (l : List Int) := evF s19 uc_2 60 53 [.int .i64 c, .int .i8 p, .sl (C := RC) .int ca l]
theorem new9_eq (c : Int) (p : Int) (ca : Bool) (l : List Int) : new9_e c p ca l = (let Z0 : D RC := D.int .i64 0; let Z1 : D RC := D.acons (D.sl RTy.int true []) (.acons (D.bool false) .anil); let Z2 : DO_ := some (D.tup (D.acons (D.acons Z0 (D.acons (D.sl RTy.frame true []) Z1)) (.acons (D.int .i64 2) .anil))); let Z3 : Nat := List.length l; bif decide (c < (0 : Int)) then Z2 else bif decide ((4 : Int) ≤ c) then Z2 else bif decide (p < (0 : Int)) then Z2 else bif lenOK Z3 then bif decide ((96 : Int) < (↑Z3 : Int)) then Z2 else bif decide (Z3 ≤ (96 : Nat)) then some (D.tup (D.acons (D.acons (D.int .i64 c) (.acons (D.sl RTy.frame true [Frame.mk p (0 : Int) (regs1 l)]) Z1)) (.acons Z0 .anil))) else none else none) := by kernel_rfl
theorem new9_ok (c : Int) (p : Int) (ca : Bool) (l : List Int) (h : (decide (0 ≤ c ∧ c ≤ 3 ∧ 0 ≤ p ∧ l.length ≤ 96)) = true) : new9_e c p ca l = some (.tup (.acons (.acons (.int .i64 c) (.acons (.sl (C := RC) .frame true [⟨p, 0, regs1 l⟩]) (.acons (.sl (C := RC) .int true []) (.acons (.bool false) .anil)))) (.acons (.int .i64 0) .anil))) := by
  (rw [new9_eq]; conv => zeta)
  rw [decide_eq_true_eq] at h
  have c1 : decide (c < 0) = false := decide_eq_false (by omega)
  have c2 : decide (4 ≤ c) = false := decide_eq_false (by omega)
  have c3 : decide (p < 0) = false := decide_eq_false (by omega)
  have c4 : decide ((96 : Int) < (l.length : Int)) = false := decide_eq_false (by omega)
  have c5 : lenOK l.length = true := lenOK_of (by omega)
  have c6 : decide (l.length ≤ 96) = true := decide_eq_true (by omega)
  simp only [c1, c2, c3, c4, c5, c6, cond_true, cond_false]
noncomputable def uc_3 := uc_2.addSpec 53 new9_sp
theorem uc_3_laws : FLaws Tryz.prog s19 uc_3 := uc_2_laws.addEv s19_laws fun args d h => by
  unfold new9_sp at h
  split at h
  · unfold new9_s at h
    have h1 := congrArg Prod.fst (Option.some.inj h)
    obtain rfl : _ = d := congrArg Prod.snd (Option.some.inj h)
    exact ⟨by simp [D.refs], 60, new9_ok _ _ _ _ h1⟩
  · cases h
def top9_s (c : Int) (fs : Bool) (st : List Frame) (e : Bool) (got : List Int) (over : Bool) : Option (Bool × D RC) := some (lenOK st.length, .tup (.acons (.acons (.int .i8 (topF st).prog) (.acons (.int .i64 (topF st).at') (.acons (.arr (C := RC) .int 96 (topF st).r) .anil))) (.acons (.bool (decide (st ≠ []))) .anil)))
def top9_sp : List (D RC) → Option (Bool × D RC)
  | [.acons (.int .i64 c) (.acons (.sl .frame fs st) (.acons (.sl .int e got) (.acons (.bool over) .anil)))] => top9_s c fs st e got over
  | _ => none
noncomputable def top9_e (c : Int) (fs : Bool) (st : List Frame) (e : Bool) (got : List Int) (over : Bool) := evF s19 uc_3 40 89 [.acons (.int .i64 c) (.acons (.sl (C := RC) .frame fs st) (.acons (.sl (C := RC) .int e got) (.acons (.bool over) .anil)))]
theorem top9_eq (c : Int) (fs : Bool) (st : List Frame) (e : Bool) (got : List Int) (over : Bool) : top9_e c fs st e got over = (let Z0 : Bool := lenOK st.length; let Z1 : Int := (↑st.length : Int); let Z2 : List Int := List.replicate (96 : Nat) (0 : Int); let Z3 : Int := IntKind.wrap .i64 (Z1 - (1 : Int)); let Z4 : Frame := List.getD st Z3.toNat (Frame.mk (0 : Int) (0 : Int) Z2); bif Z0 then bif Z1 == (0 : Int) then some (D.tup (D.acons (D.acons (D.int IntKind.i8 (0 : Int)) (.acons (D.int .i64 0) (.acons (D.arr RTy.int (96 : Nat) Z2) .anil))) (.acons (D.bool false) .anil))) else bif Z0 then bif decide ((0 : Int) ≤ Z3 ∧ Z3 < Z1) then some (D.tup (D.acons (D.acons (D.int IntKind.i8 (Frame.prog Z4)) (.acons (D.int .i64 (Frame.at' Z4)) (.acons (D.arr RTy.int (96 : Nat) (Frame.r Z4)) .anil))) (.acons (D.bool true) .anil))) else none else none else none) := by kernel_rfl
theorem top9_ok (c : Int) (fs : Bool) (st : List Frame) (e : Bool) (got : List Int) (over : Bool) (h : (lenOK st.length) = true) : top9_e c fs st e got over = some (.tup (.acons (.acons (.int .i8 (topF st).prog) (.acons (.int .i64 (topF st).at') (.acons (.arr (C := RC) .int 96 (topF st).r) .anil))) (.acons (.bool (decide (st ≠ []))) .anil))) := by
  (rw [top9_eq]; conv => zeta)
  simp only [h, cond_true]
  by_cases e : st = []
  · subst e; rfl
  · have l0 : 1 ≤ st.length := List.length_pos_iff.2 e
    have l1 : st.length ≤ 9223372036854775807 := lenOK_le h
    have c1 : (((st.length : Nat) : Int) == 0) = false := ibeqF (by omega)
    have w1 : IntKind.i64.wrap ((st.length : Int) - 1) = (st.length : Int) - 1 := wrap_id (by omega) (by omega)
    have t1 : ((st.length : Int) - 1).toNat = st.length - 1 := by omega
    have d1 : decide (0 ≤ (st.length : Int) - 1 ∧ (st.length : Int) - 1 < (st.length : Int)) = true := decide_eq_true ⟨by omega, by omega⟩
    have e1 : st.getD (st.length - 1) ⟨0, 0, List.replicate 96 0⟩ = topF st := by
      unfold topF frm0
      rw [List.getLastD_eq_getLast?, List.getLast?_eq_getElem?, List.getD_eq_getElem?_getD]
    simp only [c1, w1, t1, d1, e1, cond_true, cond_false, decide_eq_true (show st ≠ [] from e)]
noncomputable def uc_4 := uc_3.addSpec 89 top9_sp
theorem uc_4_laws : FLaws Tryz.prog s19 uc_4 := uc_3_laws.addEv s19_laws fun args d h => by
  unfold top9_sp at h
  split at h
  · unfold top9_s at h
    have h1 := congrArg Prod.fst (Option.some.inj h)
    obtain rfl : _ = d := congrArg Prod.snd (Option.some.inj h)
    exact ⟨by simp [D.refs], 40, top9_ok _ _ _ _ _ _ h1⟩
  · cases h
theorem wrap_i8 {n : Int} (h1 : 0 ≤ n) (h2 : n ≤ 127) : IntKind.i8.wrap n = n := by
  simp only [IntKind.wrap, IntKind.bits, IntKind.signed]
  simp
  omega
def OkTk (c : Int) (st : List Frame) (got : List Int) (a : Action) : Prop := 0 ≤ c ∧ c ≤ 3 ∧ got.length ≤ 96 ∧ 1 ≤ st.length ∧ st.length ≤ 6 ∧ mayN a = true ∧ 0 ≤ a.kind ∧ a.kind ≤ 7 ∧ (a.kind = 6 → st.length < 6)
theorem mayN_len {a : Action} (h : mayN a = true) : a.text.length ≤ 640 ∧ a.args.length ≤ 96 ∧ 0 ≤ a.a ∧ a.a ≤ 4095 ∧ (a.kind = 6 → a.a ≤ 127) := by
  have h := of_decide_eq_true h
  have h2 := h
  obtain ⟨_, _, _, _, _, _, h3, h4, h5, h6, h7⟩ := h
  refine ⟨h4, h3, h5, h6, fun e => ?_⟩
  rw [e] at h2
  exact (MayA.k6.1 h2).2.1
noncomputable def take9_s (c : Int) (fs : Bool) (st : List Frame) (e : Bool) (got : List Int) (over : Bool) (p : Int) (at' : Int) (r : List Int) (k : Int) (a : Int) (b : Int) (v : Int) (g : Int) (tx : List UInt8) (ca : Bool) (ar : List Int) : Option (Bool × D RC) := some (cdec (OkTk c st got ⟨k, a, b, v, g, tx, ar⟩) && !over, .tup (.acons (.acons (.int .i64 c) (.acons (.sl (C := RC) .frame false (tkSt st ⟨p, at', r⟩ ⟨k, a, b, v, g, tx, ar⟩)) (.acons (.sl (C := RC) .int (tkFl e ⟨k, a, b, v, g, tx, ar⟩) (tkGot got ⟨k, a, b, v, g, tx, ar⟩)) (.acons (.bool (decide (tkSt st ⟨p, at', r⟩ ⟨k, a, b, v, g, tx, ar⟩ = []))) .anil)))) (.acons (.bool (decide (k < 6))) (.acons (.int .i64 0) .anil))))
noncomputable def take9_sp : List (D RC) → Option (Bool × D RC)
  | [.acons (.int .i64 c) (.acons (.sl .frame fs st) (.acons (.sl .int e got) (.acons (.bool over) .anil))), .acons (.int .i8 p) (.acons (.int .i64 at') (.acons (.arr .int 96 r) .anil)), .acons (.int .i8 k) (.acons (.int .i64 a) (.acons (.int .i64 b) (.acons (.int .i64 v) (.acons (.int .i64 g) (.acons (.str tx) (.acons (.sl .int ca ar) .anil))))))] => take9_s c fs st e got over p at' r k a b v g tx ca ar
  | _ => none
noncomputable def take9_e (c : Int) (fs : Bool) (st : List Frame) (e : Bool) (got : List Int) (over : Bool) (p : Int) (at' : Int) (r : List Int) (k : Int) (a : Int) (b : Int) (v : Int) (g : Int) (tx : List UInt8) (ca : Bool) (ar : List Int) := evF s19 uc_4 60 91 [.acons (.int .i64 c) (.acons (.sl (C := RC) .frame fs st) (.acons (.sl (C := RC) .int e got) (.acons (.bool over) .anil))), .acons (.int .i8 p) (.acons (.int .i64 at') (.acons (.arr (C := RC) .int 96 r) .anil)), .acons (.int .i8 k) (.acons (.int .i64 a) (.acons (.int .i64 b) (.acons (.int .i64 v) (.acons (.int .i64 g) (.acons (.str tx) (.acons (.sl (C := RC) .int ca ar) .anil))))))]
theorem take9_0 (c : Int) (fs : Bool) (st : List Frame) (e : Bool) (got : List Int) (p at' : Int) (r : List Int) (a b v g : Int) (tx : List UInt8) (ca : Bool) (ar : List Int) : take9_e c fs st e got false p at' r 0 a b v g tx ca ar = (let Z0 : D RC := D.int .i64 0; let Z1 : D RC := D.bool false; let Z2 : DO_ := some (D.tup (D.acons (D.acons Z0 (D.acons (D.sl RTy.frame true []) (.acons (D.sl RTy.int true []) (.acons Z1 .anil)))) (.acons Z1 (D.acons (D.int .i64 2) .anil)))); let Z3 : Bool := lenOK st.length; let Z4 : Int := (↑st.length : Int); let Z5 : Bool := lenOK tx.length && lenOK ar.length; let Z6 : Bool := mayA8 (0 : Int) a b v g tx ar; let Z7 : Int := IntKind.wrap .i64 (Z4 - (1 : Int)); let Z8 : List Frame := List.drop (0 : Nat) (List.take Z7.toNat st); let Z9 : Nat := (0 : Nat) + List.length Z8; let Z10 : Nat := List.length [Frame.mk p at' r]; let Z11 : List Frame := [] ++ Z8 ++ [Frame.mk p at' r]; let Z12 : Bool := Nat.beq (List.length ([] ++ Z8) + Z10) Z11.length; let Z13 : DO_ := none; let Z14 : Nat := (0 : Nat) + List.length ar; bif decide (c < (0 : Int)) then Z2 else bif decide ((4 : Int) ≤ c) then Z2 else bif lenOK got.length then bif decide ((96 : Int) < (↑got.length : Int)) then Z2 else bif Z3 then bif decide ((1 : Int) ≤ Z4) then bif Z3 then bif !decide (Z4 ≤ (6 : Int)) then Z2 else bif Z5 then bif !Z6 then Z2 else bif Z3 then bif decide ((0 : Int) ≤ (0 : Int) ∧ (0 : Int) ≤ Z7 ∧ Z7 ≤ Z4) then bif sizeOK Z9 (784 : Nat) then bif Nat.beq Z9 ([] ++ Z8).length && sizeOK (Z9 + Z10) (784 : Nat) then bif Z5 then bif Z6 then bif Z12 then some (D.tup (D.acons (D.acons (D.int .i64 c) (.acons (D.sl RTy.frame false Z11) (.acons (D.sl RTy.int e got) (.acons Z1 .anil)))) (.acons (D.bool true) (.acons Z0 .anil)))) else Z13 else bif Z12 then bif decide ((0 : Int) ≤ (0 : Int) ∧ (0 : Int) ≤ Z7 ∧ Z7 ≤ (↑Z11.length : Int)) then bif sizeOK Z14 (8 : Nat) then bif Nat.beq Z14 ([] ++ ar).length then some (D.tup (D.acons (D.acons (D.int .i64 c) (.acons (D.sl RTy.frame false (List.drop (0 : Nat) (List.take Z7.toNat Z11))) (.acons (D.sl RTy.int false ([] ++ ar)) (.acons (D.bool (Z7 == (0 : Int))) .anil)))) (.acons Z1 (D.acons Z0 .anil)))) else Z13 else Z13 else Z13 else Z13 else Z13 else Z13 else Z13 else Z13 else Z13 else Z13 else Z13 else Z2 else Z13 else Z13) := by kernel_rfl
theorem take9_1 (c : Int) (fs : Bool) (st : List Frame) (e : Bool) (got : List Int) (p at' : Int) (r : List Int) (a b v g : Int) (tx : List UInt8) (ca : Bool) (ar : List Int) : take9_e c fs st e got false p at' r 1 a b v g tx ca ar = (let Z0 : D RC := D.int .i64 0; let Z1 : D RC := D.bool false; let Z2 : DO_ := some (D.tup (D.acons (D.acons Z0 (D.acons (D.sl RTy.frame true []) (.acons (D.sl RTy.int true []) (.acons Z1 .anil)))) (.acons Z1 (D.acons (D.int .i64 2) .anil)))); let Z3 : Bool := lenOK st.length; let Z4 : Int := (↑st.length : Int); let Z5 : Bool := lenOK tx.length && lenOK ar.length; let Z6 : Bool := mayA8 (1 : Int) a b v g tx ar; let Z7 : Int := IntKind.wrap .i64 (Z4 - (1 : Int)); let Z8 : List Frame := List.drop (0 : Nat) (List.take Z7.toNat st); let Z9 : Nat := (0 : Nat) + List.length Z8; let Z10 : Nat := List.length [Frame.mk p at' r]; let Z11 : List Frame := [] ++ Z8 ++ [Frame.mk p at' r]; let Z12 : Bool := Nat.beq (List.length ([] ++ Z8) + Z10) Z11.length; let Z13 : DO_ := none; let Z14 : Nat := (0 : Nat) + List.length ar; bif decide (c < (0 : Int)) then Z2 else bif decide ((4 : Int) ≤ c) then Z2 else bif lenOK got.length then bif decide ((96 : Int) < (↑got.length : Int)) then Z2 else bif Z3 then bif decide ((1 : Int) ≤ Z4) then bif Z3 then bif !decide (Z4 ≤ (6 : Int)) then Z2 else bif Z5 then bif !Z6 then Z2 else bif Z3 then bif decide ((0 : Int) ≤ (0 : Int) ∧ (0 : Int) ≤ Z7 ∧ Z7 ≤ Z4) then bif sizeOK Z9 (784 : Nat) then bif Nat.beq Z9 ([] ++ Z8).length && sizeOK (Z9 + Z10) (784 : Nat) then bif Z5 then bif Z6 then bif Z12 then some (D.tup (D.acons (D.acons (D.int .i64 c) (.acons (D.sl RTy.frame false Z11) (.acons (D.sl RTy.int e got) (.acons Z1 .anil)))) (.acons (D.bool true) (.acons Z0 .anil)))) else Z13 else bif Z12 then bif decide ((0 : Int) ≤ (0 : Int) ∧ (0 : Int) ≤ Z7 ∧ Z7 ≤ (↑Z11.length : Int)) then bif sizeOK Z14 (8 : Nat) then bif Nat.beq Z14 ([] ++ ar).length then some (D.tup (D.acons (D.acons (D.int .i64 c) (.acons (D.sl RTy.frame false (List.drop (0 : Nat) (List.take Z7.toNat Z11))) (.acons (D.sl RTy.int false ([] ++ ar)) (.acons (D.bool (Z7 == (0 : Int))) .anil)))) (.acons Z1 (D.acons Z0 .anil)))) else Z13 else Z13 else Z13 else Z13 else Z13 else Z13 else Z13 else Z13 else Z13 else Z13 else Z13 else Z2 else Z13 else Z13) := by kernel_rfl
theorem take9_2 (c : Int) (fs : Bool) (st : List Frame) (e : Bool) (got : List Int) (p at' : Int) (r : List Int) (a b v g : Int) (tx : List UInt8) (ca : Bool) (ar : List Int) : take9_e c fs st e got false p at' r 2 a b v g tx ca ar = (let Z0 : D RC := D.int .i64 0; let Z1 : D RC := D.bool false; let Z2 : DO_ := some (D.tup (D.acons (D.acons Z0 (D.acons (D.sl RTy.frame true []) (.acons (D.sl RTy.int true []) (.acons Z1 .anil)))) (.acons Z1 (D.acons (D.int .i64 2) .anil)))); let Z3 : Bool := lenOK st.length; let Z4 : Int := (↑st.length : Int); let Z5 : Bool := lenOK tx.length && lenOK ar.length; let Z6 : Bool := mayA8 (2 : Int) a b v g tx ar; let Z7 : Int := IntKind.wrap .i64 (Z4 - (1 : Int)); let Z8 : List Frame := List.drop (0 : Nat) (List.take Z7.toNat st); let Z9 : Nat := (0 : Nat) + List.length Z8; let Z10 : Nat := List.length [Frame.mk p at' r]; let Z11 : List Frame := [] ++ Z8 ++ [Frame.mk p at' r]; let Z12 : Bool := Nat.beq (List.length ([] ++ Z8) + Z10) Z11.length; let Z13 : DO_ := none; let Z14 : Nat := (0 : Nat) + List.length ar; bif decide (c < (0 : Int)) then Z2 else bif decide ((4 : Int) ≤ c) then Z2 else bif lenOK got.length then bif decide ((96 : Int) < (↑got.length : Int)) then Z2 else bif Z3 then bif decide ((1 : Int) ≤ Z4) then bif Z3 then bif !decide (Z4 ≤ (6 : Int)) then Z2 else bif Z5 then bif !Z6 then Z2 else bif Z3 then bif decide ((0 : Int) ≤ (0 : Int) ∧ (0 : Int) ≤ Z7 ∧ Z7 ≤ Z4) then bif sizeOK Z9 (784 : Nat) then bif Nat.beq Z9 ([] ++ Z8).length && sizeOK (Z9 + Z10) (784 : Nat) then bif Z5 then bif Z6 then bif Z12 then some (D.tup (D.acons (D.acons (D.int .i64 c) (.acons (D.sl RTy.frame false Z11) (.acons (D.sl RTy.int e got) (.acons Z1 .anil)))) (.acons (D.bool true) (.acons Z0 .anil)))) else Z13 else bif Z12 then bif decide ((0 : Int) ≤ (0 : Int) ∧ (0 : Int) ≤ Z7 ∧ Z7 ≤ (↑Z11.length : Int)) then bif sizeOK Z14 (8 : Nat) then bif Nat.beq Z14 ([] ++ ar).length then some (D.tup (D.acons (D.acons (D.int .i64 c) (.acons (D.sl RTy.frame false (List.drop (0 : Nat) (List.take Z7.toNat Z11))) (.acons (D.sl RTy.int false ([] ++ ar)) (.acons (D.bool (Z7 == (0 : Int))) .anil)))) (.acons Z1 (D.acons Z0 .anil)))) else Z13 else Z13 else Z13 else Z13 else Z13 else Z13 else Z13 else Z13 else Z13 else Z13 else Z13 else Z2 else Z13 else Z13) := by kernel_rfl
theorem take9_3 (c : Int) (fs : Bool) (st : List Frame) (e : Bool) (got : List Int) (p at' : Int) (r : List Int) (a b v g : Int) (tx : List UInt8) (ca : Bool) (ar : List Int) : take9_e c fs st e got false p at' r 3 a b v g tx ca ar = (let Z0 : D RC := D.int .i64 0; let Z1 : D RC := D.bool false; let Z2 : DO_ := some (D.tup (D.acons (D.acons Z0 (D.acons (D.sl RTy.frame true []) (.acons (D.sl RTy.int true []) (.acons Z1 .anil)))) (.acons Z1 (D.acons (D.int .i64 2) .anil)))); let Z3 : Bool := lenOK st.length; let Z4 : Int := (↑st.length : Int); let Z5 : Bool := lenOK tx.length && lenOK ar.length; let Z6 : Bool := mayA8 (3 : Int) a b v g tx ar; let Z7 : Int := IntKind.wrap .i64 (Z4 - (1 : Int)); let Z8 : List Frame := List.drop (0 : Nat) (List.take Z7.toNat st); let Z9 : Nat := (0 : Nat) + List.length Z8; let Z10 : Nat := List.length [Frame.mk p at' r]; let Z11 : List Frame := [] ++ Z8 ++ [Frame.mk p at' r]; let Z12 : Bool := Nat.beq (List.length ([] ++ Z8) + Z10) Z11.length; let Z13 : DO_ := none; let Z14 : Nat := (0 : Nat) + List.length ar; bif decide (c < (0 : Int)) then Z2 else bif decide ((4 : Int) ≤ c) then Z2 else bif lenOK got.length then bif decide ((96 : Int) < (↑got.length : Int)) then Z2 else bif Z3 then bif decide ((1 : Int) ≤ Z4) then bif Z3 then bif !decide (Z4 ≤ (6 : Int)) then Z2 else bif Z5 then bif !Z6 then Z2 else bif Z3 then bif decide ((0 : Int) ≤ (0 : Int) ∧ (0 : Int) ≤ Z7 ∧ Z7 ≤ Z4) then bif sizeOK Z9 (784 : Nat) then bif Nat.beq Z9 ([] ++ Z8).length && sizeOK (Z9 + Z10) (784 : Nat) then bif Z5 then bif Z6 then bif Z12 then some (D.tup (D.acons (D.acons (D.int .i64 c) (.acons (D.sl RTy.frame false Z11) (.acons (D.sl RTy.int e got) (.acons Z1 .anil)))) (.acons (D.bool true) (.acons Z0 .anil)))) else Z13 else bif Z12 then bif decide ((0 : Int) ≤ (0 : Int) ∧ (0 : Int) ≤ Z7 ∧ Z7 ≤ (↑Z11.length : Int)) then bif sizeOK Z14 (8 : Nat) then bif Nat.beq Z14 ([] ++ ar).length then some (D.tup (D.acons (D.acons (D.int .i64 c) (.acons (D.sl RTy.frame false (List.drop (0 : Nat) (List.take Z7.toNat Z11))) (.acons (D.sl RTy.int false ([] ++ ar)) (.acons (D.bool (Z7 == (0 : Int))) .anil)))) (.acons Z1 (D.acons Z0 .anil)))) else Z13 else Z13 else Z13 else Z13 else Z13 else Z13 else Z13 else Z13 else Z13 else Z13 else Z13 else Z2 else Z13 else Z13) := by kernel_rfl
theorem take9_4 (c : Int) (fs : Bool) (st : List Frame) (e : Bool) (got : List Int) (p at' : Int) (r : List Int) (a b v g : Int) (tx : List UInt8) (ca : Bool) (ar : List Int) : take9_e c fs st e got false p at' r 4 a b v g tx ca ar = (let Z0 : D RC := D.int .i64 0; let Z1 : D RC := D.bool false; let Z2 : DO_ := some (D.tup (D.acons (D.acons Z0 (D.acons (D.sl RTy.frame true []) (.acons (D.sl RTy.int true []) (.acons Z1 .anil)))) (.acons Z1 (D.acons (D.int .i64 2) .anil)))); let Z3 : Bool := lenOK st.length; let Z4 : Int := (↑st.length : Int); let Z5 : Bool := lenOK tx.length && lenOK ar.length; let Z6 : Bool := mayA8 (4 : Int) a b v g tx ar; let Z7 : Int := IntKind.wrap .i64 (Z4 - (1 : Int)); let Z8 : List Frame := List.drop (0 : Nat) (List.take Z7.toNat st); let Z9 : Nat := (0 : Nat) + List.length Z8; let Z10 : Nat := List.length [Frame.mk p at' r]; let Z11 : List Frame := [] ++ Z8 ++ [Frame.mk p at' r]; let Z12 : Bool := Nat.beq (List.length ([] ++ Z8) + Z10) Z11.length; let Z13 : DO_ := none; let Z14 : Nat := (0 : Nat) + List.length ar; bif decide (c < (0 : Int)) then Z2 else bif decide ((4 : Int) ≤ c) then Z2 else bif lenOK got.length then bif decide ((96 : Int) < (↑got.length : Int)) then Z2 else bif Z3 then bif decide ((1 : Int) ≤ Z4) then bif Z3 then bif !decide (Z4 ≤ (6 : Int)) then Z2 else bif Z5 then bif !Z6 then Z2 else bif Z3 then bif decide ((0 : Int) ≤ (0 : Int) ∧ (0 : Int) ≤ Z7 ∧ Z7 ≤ Z4) then bif sizeOK Z9 (784 : Nat) then bif Nat.beq Z9 ([] ++ Z8).length && sizeOK (Z9 + Z10) (784 : Nat) then bif Z5 then bif Z6 then bif Z12 then some (D.tup (D.acons (D.acons (D.int .i64 c) (.acons (D.sl RTy.frame false Z11) (.acons (D.sl RTy.int e got) (.acons Z1 .anil)))) (.acons (D.bool true) (.acons Z0 .anil)))) else Z13 else bif Z12 then bif decide ((0 : Int) ≤ (0 : Int) ∧ (0 : Int) ≤ Z7 ∧ Z7 ≤ (↑Z11.length : Int)) then bif sizeOK Z14 (8 : Nat) then bif Nat.beq Z14 ([] ++ ar).length then some (D.tup (D.acons (D.acons (D.int .i64 c) (.acons (D.sl RTy.frame false (List.drop (0 : Nat) (List.take Z7.toNat Z11))) (.acons (D.sl RTy.int false ([] ++ ar)) (.acons (D.bool (Z7 == (0 : Int))) .anil)))) (.acons Z1 (D.acons Z0 .anil)))) else Z13 else Z13 else Z13 else Z13 else Z13 else Z13 else Z13 else Z13 else Z13 else Z13 else Z13 else Z2 else Z13 else Z13) := by kernel_rfl
theorem take9_5 (c : Int) (fs : Bool) (st : List Frame) (e : Bool) (got : List Int) (p at' : Int) (r : List Int) (a b v g : Int) (tx : List UInt8) (ca : Bool) (ar : List Int) : take9_e c fs st e got false p at' r 5 a b v g tx ca ar = (let Z0 : D RC := D.int .i64 0; let Z1 : D RC := D.bool false; let Z2 : DO_ := some (D.tup (D.acons (D.acons Z0 (D.acons (D.sl RTy.frame true []) (.acons (D.sl RTy.int true []) (.acons Z1 .anil)))) (.acons Z1 (D.acons (D.int .i64 2) .anil)))); let Z3 : Bool := lenOK st.length; let Z4 : Int := (↑st.length : Int); let Z5 : Bool := lenOK tx.length && lenOK ar.length; let Z6 : Bool := mayA8 (5 : Int) a b v g tx ar; let Z7 : Int := IntKind.wrap .i64 (Z4 - (1 : Int)); let Z8 : List Frame := List.drop (0 : Nat) (List.take Z7.toNat st); let Z9 : Nat := (0 : Nat) + List.length Z8; let Z10 : Nat := List.length [Frame.mk p at' r]; let Z11 : List Frame := [] ++ Z8 ++ [Frame.mk p at' r]; let Z12 : Bool := Nat.beq (List.length ([] ++ Z8) + Z10) Z11.length; let Z13 : DO_ := none; let Z14 : Nat := (0 : Nat) + List.length ar; bif decide (c < (0 : Int)) then Z2 else bif decide ((4 : Int) ≤ c) then Z2 else bif lenOK got.length then bif decide ((96 : Int) < (↑got.length : Int)) then Z2 else bif Z3 then bif decide ((1 : Int) ≤ Z4) then bif Z3 then bif !decide (Z4 ≤ (6 : Int)) then Z2 else bif Z5 then bif !Z6 then Z2 else bif Z3 then bif decide ((0 : Int) ≤ (0 : Int) ∧ (0 : Int) ≤ Z7 ∧ Z7 ≤ Z4) then bif sizeOK Z9 (784 : Nat) then bif Nat.beq Z9 ([] ++ Z8).length && sizeOK (Z9 + Z10) (784 : Nat) then bif Z5 then bif Z6 then bif Z12 then some (D.tup (D.acons (D.acons (D.int .i64 c) (.acons (D.sl RTy.frame false Z11) (.acons (D.sl RTy.int e got) (.acons Z1 .anil)))) (.acons (D.bool true) (.acons Z0 .anil)))) else Z13 else bif Z12 then bif decide ((0 : Int) ≤ (0 : Int) ∧ (0 : Int) ≤ Z7 ∧ Z7 ≤ (↑Z11.length : Int)) then bif sizeOK Z14 (8 : Nat) then bif Nat.beq Z14 ([] ++ ar).length then some (D.tup (D.acons (D.acons (D.int .i64 c) (.acons (D.sl RTy.frame false (List.drop (0 : Nat) (List.take Z7.toNat Z11))) (.acons (D.sl RTy.int false ([] ++ ar)) (.acons (D.bool (Z7 == (0 : Int))) .anil)))) (.acons Z1 (D.acons Z0 .anil)))) else Z13 else Z13 else Z13 else Z13 else Z13 else Z13 else Z13 else Z13 else Z13 else Z13 else Z13 else Z2 else Z13 else Z13) := by kernel_rfl
theorem take9_6 (c : Int) (fs : Bool) (st : List Frame) (e : Bool) (got : List Int) (p at' : Int) (r : List Int) (a b v g : Int) (tx : List UInt8) (ca : Bool) (ar : List Int) : take9_e c fs st e got false p at' r 6 a b v g tx ca ar = (let Z0 : D RC := D.int .i64 0; let Z1 : D RC := D.bool false; let Z2 : D RC := D.acons (D.sl RTy.int true []) (.acons Z1 .anil); let Z3 : D RC := D.acons Z0 (D.acons (D.sl RTy.frame true []) Z2); let Z4 : DO_ := some (D.tup (D.acons Z3 (D.acons Z1 (D.acons (D.int .i64 2) .anil)))); let Z5 : Bool := lenOK st.length; let Z6 : Int := (↑st.length : Int); let Z7 : Bool := lenOK tx.length && lenOK ar.length; let Z8 : Bool := mayA8 (6 : Int) a b v g tx ar; let Z9 : Int := IntKind.wrap .i64 (Z6 - (1 : Int)); let Z10 : List Frame := List.drop (0 : Nat) (List.take Z9.toNat st); let Z11 : Nat := (0 : Nat) + List.length Z10; let Z12 : Nat := List.length ([] ++ Z10); let Z13 : Nat := List.length [Frame.mk p at' r]; let Z14 : Nat := Z12 + Z13; let Z15 : List Frame := [] ++ Z10 ++ [Frame.mk p at' r]; let Z16 : List Frame := [Frame.mk (IntKind.wrap IntKind.i8 a) (0 : Int) (regs1 ar)]; let Z17 : DO_ := none; let Z18 : DO_ := bif lenOK Z14 then bif decide ((6 : Int) ≤ (↑Z14 : Int)) then some (D.tup (D.acons Z3 (D.acons Z1 (D.acons (D.int .i64 3) .anil)))) else bif decide (List.length ar ≤ (96 : Nat)) then bif Nat.beq Z14 Z15.length && sizeOK (Z14 + List.length Z16) (784 : Nat) then bif Nat.beq (List.length Z15 + List.length Z16) (Z15 ++ Z16).length then some (D.tup (D.acons (D.acons (D.int .i64 c) (.acons (D.sl RTy.frame false (Z15 ++ Z16)) Z2)) (.acons Z1 (D.acons Z0 .anil)))) else Z17 else Z17 else Z17 else Z17; bif decide (c < (0 : Int)) then Z4 else bif decide ((4 : Int) ≤ c) then Z4 else bif lenOK got.length then bif decide ((96 : Int) < (↑got.length : Int)) then Z4 else bif Z5 then bif decide ((1 : Int) ≤ Z6) then bif Z5 then bif !decide (Z6 ≤ (6 : Int)) then Z4 else bif Z7 then bif !Z8 then Z4 else bif Z5 then bif decide ((0 : Int) ≤ (0 : Int) ∧ (0 : Int) ≤ Z9 ∧ Z9 ≤ Z6) then bif sizeOK Z11 (784 : Nat) then bif Nat.beq Z11 Z12 && sizeOK (Z11 + Z13) (784 : Nat) then bif Z7 then bif Z8 then Z18 else Z18 else Z17 else Z17 else Z17 else Z17 else Z17 else Z17 else Z17 else Z4 else Z17 else Z17) := by kernel_rfl
theorem take9_7 (c : Int) (fs : Bool) (st : List Frame) (e : Bool) (got : List Int) (p at' : Int) (r : List Int) (a b v g : Int) (tx : List UInt8) (ca : Bool) (ar : List Int) : take9_e c fs st e got false p at' r 7 a b v g tx ca ar = (let Z0 : D RC := D.int .i64 0; let Z1 : D RC := D.bool false; let Z2 : DO_ := some (D.tup (D.acons (D.acons Z0 (D.acons (D.sl RTy.frame true []) (.acons (D.sl RTy.int true []) (.acons Z1 .anil)))) (.acons Z1 (D.acons (D.int .i64 2) .anil)))); let Z3 : Bool := lenOK st.length; let Z4 : Int := (↑st.length : Int); let Z5 : Bool := lenOK tx.length && lenOK ar.length; let Z6 : Bool := mayA8 (7 : Int) a b v g tx ar; let Z7 : Int := IntKind.wrap .i64 (Z4 - (1 : Int)); let Z8 : List Frame := List.drop (0 : Nat) (List.take Z7.toNat st); let Z9 : Nat := (0 : Nat) + List.length Z8; let Z10 : Nat := List.length [Frame.mk p at' r]; let Z11 : List Frame := [] ++ Z8 ++ [Frame.mk p at' r]; let Z12 : Nat := (0 : Nat) + List.length ar; let Z13 : DO_ := none; let Z14 : DO_ := bif Nat.beq (List.length ([] ++ Z8) + Z10) Z11.length then bif decide ((0 : Int) ≤ (0 : Int) ∧ (0 : Int) ≤ Z7 ∧ Z7 ≤ (↑Z11.length : Int)) then bif sizeOK Z12 (8 : Nat) then bif Nat.beq Z12 ([] ++ ar).length then some (D.tup (D.acons (D.acons (D.int .i64 c) (.acons (D.sl RTy.frame false (List.drop (0 : Nat) (List.take Z7.toNat Z11))) (.acons (D.sl RTy.int false ([] ++ ar)) (.acons (D.bool (Z7 == (0 : Int))) .anil)))) (.acons Z1 (D.acons Z0 .anil)))) else Z13 else Z13 else Z13 else Z13; bif decide (c < (0 : Int)) then Z2 else bif decide ((4 : Int) ≤ c) then Z2 else bif lenOK got.length then bif decide ((96 : Int) < (↑got.length : Int)) then Z2 else bif Z3 then bif decide ((1 : Int) ≤ Z4) then bif Z3 then bif !decide (Z4 ≤ (6 : Int)) then Z2 else bif Z5 then bif !Z6 then Z2 else bif Z3 then bif decide ((0 : Int) ≤ (0 : Int) ∧ (0 : Int) ≤ Z7 ∧ Z7 ≤ Z4) then bif sizeOK Z9 (784 : Nat) then bif Nat.beq Z9 ([] ++ Z8).length && sizeOK (Z9 + Z10) (784 : Nat) then bif Z5 then bif Z6 then Z14 else Z14 else Z13 else Z13 else Z13 else Z13 else Z13 else Z13 else Z13 else Z2 else Z13 else Z13) := by kernel_rfl
theorem take9_ok (c : Int) (fs : Bool) (st : List Frame) (e : Bool) (got : List Int) (over : Bool) (p : Int) (at' : Int) (r : List Int) (k : Int) (a : Int) (b : Int) (v : Int) (g : Int) (tx : List UInt8) (ca : Bool) (ar : List Int) (h : (cdec (OkTk c st got ⟨k, a, b, v, g, tx, ar⟩) && !over) = true) : take9_e c fs st e got over p at' r k a b v g tx ca ar = some (.tup (.acons (.acons (.int .i64 c) (.acons (.sl (C := RC) .frame false (tkSt st ⟨p, at', r⟩ ⟨k, a, b, v, g, tx, ar⟩)) (.acons (.sl (C := RC) .int (tkFl e ⟨k, a, b, v, g, tx, ar⟩) (tkGot got ⟨k, a, b, v, g, tx, ar⟩)) (.acons (.bool (decide (tkSt st ⟨p, at', r⟩ ⟨k, a, b, v, g, tx, ar⟩ = []))) .anil)))) (.acons (.bool (decide (k < 6))) (.acons (.int .i64 0) .anil)))) := by
  rw [Bool.and_eq_true, Bool.not_eq_true'] at h
  obtain ⟨h, rfl⟩ := h
  obtain ⟨h1, h2, h3, h4, h5, h6, h7, h8, h9⟩ := cdec_iff.1 h
  have m1 : mayA8 k a b v g tx ar = true := h6
  obtain ⟨n1, n2, n3, n4, n5⟩ := mayN_len h6
  simp only at n1 n2 n3 n4 n5 h7 h8 h9
  have c1 : decide (c < 0) = false := decide_eq_false (by omega)
  have c2 : decide (4 ≤ c) = false := decide_eq_false (by omega)
  have c3 : decide ((96 : Int) < (got.length : Int)) = false := decide_eq_false (by omega)
  have c4 : lenOK got.length = true := lenOK_of (by omega)
  have c5 : lenOK st.length = true := lenOK_of (by omega)
  have c6 : decide ((1 : Int) ≤ (st.length : Int)) = true := decide_eq_true (by omega)
  have c7 : decide ((st.length : Int) ≤ 6) = true := decide_eq_true (by omega)
  have c8 : lenOK tx.length = true := lenOK_of (by omega)
  have c9 : lenOK ar.length = true := lenOK_of (by omega)
  have w1 : IntKind.i64.wrap ((st.length : Int) - 1) = (st.length : Int) - 1 := wrap_id (by omega) (by omega)
  have t1 : ((st.length : Int) - 1).toNat = st.length - 1 := by omega
  have e0 : List.take (st.length - 1) st = st.dropLast := (List.dropLast_eq_take ..).symm
  have e1 : st.dropLast.length = st.length - 1 := List.length_dropLast
  have e2 : ∀ x : Frame, List.take (st.length - 1) (st.dropLast ++ [x]) = st.dropLast := fun x => by rw [← e1, List.take_left]
  have f1 : decide ((0 : Int) ≤ 0 ∧ 0 ≤ (st.length : Int) - 1 ∧ (st.length : Int) - 1 ≤ (st.length : Int)) = true := decide_eq_true ⟨by omega, by omega, by omega⟩
  have f2 : sizeOK (0 + st.dropLast.length) 784 = true := sizeT (by omega)
  have f3 : Nat.beq (0 + st.dropLast.length) st.dropLast.length = true := nbeqT (by omega)
  have f4 : ∀ x : Frame, sizeOK (0 + st.dropLast.length + [x].length) 784 = true := fun x => sizeT (by simp only [List.length_cons, List.length_nil]; omega)
  have f5 : ∀ x : Frame, Nat.beq (st.dropLast.length + [x].length) (st.dropLast ++ [x]).length = true := fun x => nbeqT (by simp)
  have f6 : ∀ x : Frame, decide ((0 : Int) ≤ 0 ∧ 0 ≤ (st.length : Int) - 1 ∧ (st.length : Int) - 1 ≤ ((st.dropLast ++ [x]).length : Int)) = true := fun x => decide_eq_true ⟨by omega, by omega, by simp only [List.length_append, List.length_cons, List.length_nil, e1]; omega⟩
  have f7 : sizeOK (0 + ar.length) 8 = true := sizeT (by omega)
  have f8 : Nat.beq (0 + ar.length) ar.length = true := nbeqT (by omega)
  have f9 : ∀ x : Frame, lenOK (st.dropLast.length + [x].length) = true := fun x => lenOK_of (by simp only [List.length_cons, List.length_nil]; omega)
  have g1 : decide (ar.length ≤ 96) = true := decide_eq_true n2
  have g2 : ∀ x y : Frame, sizeOK (st.dropLast.length + [x].length + [y].length) 784 = true := fun x y => sizeT (by simp only [List.length_cons, List.length_nil]; omega)
  have g3 : ∀ x y : Frame, Nat.beq ((st.dropLast ++ [x]).length + [y].length) (st.dropLast ++ [x] ++ [y]).length = true := fun x y => nbeqT (by simp)
  have g4 : decide ((st.dropLast : List Frame) = []) = ((st.length : Int) - 1 == 0) := by
    by_cases q : st.length = 1
    · rw [decide_eq_true (List.eq_nil_of_length_eq_zero (by omega)), ibeqT (by omega)]
    · rw [decide_eq_false (fun e => q (by have := congrArg List.length e; simp only [e1, List.length_nil] at this; omega)), ibeqF (by omega)]
  have g5 : ∀ x : Frame, decide (st.dropLast ++ [x] = []) = false := fun x => decide_eq_false (by simp)
  have g6 : ∀ x y : Frame, decide (st.dropLast ++ [x, y] = []) = false := fun x y => decide_eq_false (by simp)
  have hs : k = 0 ∨ k = 1 ∨ k = 2 ∨ k = 3 ∨ k = 4 ∨ k = 5 ∨ k = 6 ∨ k = 7 := by omega
  rcases hs with rfl | rfl | rfl | rfl | rfl | rfl | rfl | rfl
  · (rw [take9_0]; conv => zeta)
    simp only [c1, c2, c3, c4, c5, c6, c7, c8, c9, w1, t1, m1, List.drop_zero, List.nil_append, e0, f1, f2, f3, f4, f5, cond_true, cond_false, Bool.not_true, Bool.and_self]
    rw [show tkSt st ⟨p, at', r⟩ ⟨0, a, b, v, g, tx, ar⟩ = st.dropLast ++ [⟨p, at', r⟩] from rfl, g5]
    rfl
  · (rw [take9_1]; conv => zeta)
    simp only [c1, c2, c3, c4, c5, c6, c7, c8, c9, w1, t1, m1, List.drop_zero, List.nil_append, e0, f1, f2, f3, f4, f5, cond_true, cond_false, Bool.not_true, Bool.and_self]
    rw [show tkSt st ⟨p, at', r⟩ ⟨1, a, b, v, g, tx, ar⟩ = st.dropLast ++ [⟨p, at', r⟩] from rfl, g5]
    rfl
  · (rw [take9_2]; conv => zeta)
    simp only [c1, c2, c3, c4, c5, c6, c7, c8, c9, w1, t1, m1, List.drop_zero, List.nil_append, e0, f1, f2, f3, f4, f5, cond_true, cond_false, Bool.not_true, Bool.and_self]
    rw [show tkSt st ⟨p, at', r⟩ ⟨2, a, b, v, g, tx, ar⟩ = st.dropLast ++ [⟨p, at', r⟩] from rfl, g5]
    rfl
  · (rw [take9_3]; conv => zeta)
    simp only [c1, c2, c3, c4, c5, c6, c7, c8, c9, w1, t1, m1, List.drop_zero, List.nil_append, e0, f1, f2, f3, f4, f5, cond_true, cond_false, Bool.not_true, Bool.and_self]
    rw [show tkSt st ⟨p, at', r⟩ ⟨3, a, b, v, g, tx, ar⟩ = st.dropLast ++ [⟨p, at', r⟩] from rfl, g5]
    rfl
  · (rw [take9_4]; conv => zeta)
    simp only [c1, c2, c3, c4, c5, c6, c7, c8, c9, w1, t1, m1, List.drop_zero, List.nil_append, e0, f1, f2, f3, f4, f5, cond_true, cond_false, Bool.not_true, Bool.and_self]
    rw [show tkSt st ⟨p, at', r⟩ ⟨4, a, b, v, g, tx, ar⟩ = st.dropLast ++ [⟨p, at', r⟩] from rfl, g5]
    rfl
  · (rw [take9_5]; conv => zeta)
    simp only [c1, c2, c3, c4, c5, c6, c7, c8, c9, w1, t1, m1, List.drop_zero, List.nil_append, e0, f1, f2, f3, f4, f5, cond_true, cond_false, Bool.not_true, Bool.and_self]
    rw [show tkSt st ⟨p, at', r⟩ ⟨5, a, b, v, g, tx, ar⟩ = st.dropLast ++ [⟨p, at', r⟩] from rfl, g5]
    rfl
  · have h9 := h9 rfl
    have n5 := n5 rfl
    have g7 : ∀ x : Frame, decide ((6 : Int) ≤ ((st.dropLast.length + [x].length : Nat) : Int)) = false := fun x => decide_eq_false (by simp only [List.length_cons, List.length_nil, e1]; omega)
    have g8 : IntKind.i8.wrap a = a := wrap_i8 n3 n5
    (rw [take9_6]; conv => zeta)
    simp only [c1, c2, c3, c4, c5, c6, c7, c8, c9, w1, t1, m1, List.drop_zero, List.nil_append, e0, f1, f2, f3, f4, f5, f9, g1, g2, g3, g7, g8, cond_true, cond_false, Bool.not_true, Bool.and_self]
    rw [show tkSt st ⟨p, at', r⟩ ⟨6, a, b, v, g, tx, ar⟩ = st.dropLast ++ [⟨p, at', r⟩, ⟨a, 0, regs1 ar⟩] from rfl, g6, List.append_assoc]
    rfl
  · (rw [take9_7]; conv => zeta)
    simp only [c1, c2, c3, c4, c5, c6, c7, c8, c9, w1, t1, m1, List.drop_zero, List.nil_append, e0, e2, f1, f2, f3, f4, f5, f6, f7, f8, cond_true, cond_false, Bool.not_true, Bool.and_self]
    rw [show tkSt st ⟨p, at', r⟩ ⟨7, a, b, v, g, tx, ar⟩ = st.dropLast from rfl, g4]
    rfl
noncomputable def uc_5 := uc_4.addSpec 91 take9_sp
theorem uc_5_laws : FLaws Tryz.prog s19 uc_5 := uc_4_laws.addEv s19_laws fun args d h => by
  unfold take9_sp at h
  split at h
  · unfold take9_s at h
    have h1 := congrArg Prod.fst (Option.some.inj h)
    obtain rfl : _ = d := congrArg Prod.snd (Option.some.inj h)
    exact ⟨by simp [D.refs], 60, take9_ok _ _ _ _ _ _ _ _ _ _ _ _ _ _ _ _ _ h1⟩
  · cases h
structure int10l_St where
  c : Bool
  l : List Int
  d : Bool
  m : List Int
  i : Nat
def int10l_c (c : Bool) (l : List Int) (d : Bool) (m : List Int) (i : Nat) : Env RC := [(0, .sl (C := RC) .int c l), (1, .sl (C := RC) .int d m), (4, .bool false), (5, .int .i64 (i : Int))]
def int10l_o (c : Bool) (l : List Int) (d : Bool) (m : List Int) (i : Nat) : List (Obj RC) := []
noncomputable def int10l_r (c : Bool) (l : List Int) (d : Bool) (m : List Int) (i : Nat) := rndO s19 uc_5 92 4 40 0 [0, 1, 4, 5] [4] [] (int10l_c c l d m i) (int10l_o c l d m i)
theorem int10l_eq (c : Bool) (l : List Int) (d : Bool) (m : List Int) (i : Nat) : int10l_r c l d m i = (let Z0 : Int := (↑i : Int); bif lenOK l.length then bif decide (Z0 < (↑l.length : Int)) then bif decide ((0 : Int) ≤ Z0 ∧ Z0 < (↑l.length : Int)) then bif decide ((0 : Int) ≤ Z0 ∧ Z0 < (↑m.length : Int)) then bif List.getD l Z0.toNat (0 : Int) != List.getD m Z0.toNat (0 : Int) then some ((X.ret, [(4, D.bool false)]), []) else some ((X.normal, [(0, D.sl RTy.int c l), (1, D.sl RTy.int d m), (4, D.bool false), (5, D.int .i64 (IntKind.wrap .i64 (Z0 + (1 : Int))))]), []) else none else none else some ((X.exit (0 : Nat), [(4, D.bool false)]), []) else none) := by kernel_rfl
def int10l_fin (c : Bool) (l : List Int) (d : Bool) (m : List Int) (i : Nat) : RT RC := .br (decide (l.drop i = m.drop i)) (.leaf (.exit 0) [(4, .bool false)] []) (.leaf .ret [(4, .bool false)] [])
def int10l_Inv (c : Bool) (l : List Int) (d : Bool) (m : List Int) (i : Nat) : Prop := i ≤ l.length ∧ l.length ≤ 9223372036854775807 ∧ l.length = m.length
def int10l_S : LoopR RC int10l_St where
  k := 0
  canon q := int10l_c q.c q.l q.d q.m q.i
  objs q := int10l_o q.c q.l q.d q.m q.i
  fin q := int10l_fin q.c q.l q.d q.m q.i
  Inv q := int10l_Inv q.c q.l q.d q.m q.i
  μ q := q.l.length - q.i
theorem int10l_round (c : Bool) (l : List Int) (d : Bool) (m : List Int) (i : Nat) (hI : int10l_Inv c l d m i) : Leaf (int10l_r c l d m i) (LedR int10l_S ⟨c, l, d, m, i⟩) := by
  (rw [int10l_eq]; conv => zeta)
  unfold int10l_Inv at hI
  obtain ⟨h1, h2, h3⟩ := hI
  have hlk := lenOK_of h2
  rw [hlk]
  simp only [cond_true]
  by_cases hlt : i < l.length
  · have w_succ : IntKind.i64.wrap ((i : Int) + 1) = ((i + 1 : Nat) : Int) := by rw [wrap_id (by omega) (by omega)]; simp
    have d_lt : decide ((i : Int) < l.length) = true := by simp; omega
    have d_in : decide (0 ≤ (i : Int) ∧ (i : Int) < l.length) = true := by simp; omega
    have t_nat : ((i : Int)).toNat = i := by simp
    simp only [w_succ, d_lt, d_in, t_nat, cond_true]
    have hlt' : i < m.length := by omega
    have d_in' : decide (0 ≤ (i : Int) ∧ (i : Int) < m.length) = true := by simp; omega
    have hst := drops_step l m i (0 : Int) hlt h3
    simp only [d_in', cond_true]
    generalize l.getD i (0 : Int) = x at hst ⊢
    generalize m.getD i (0 : Int) = y at hst ⊢
    by_cases hxy : x = y
    · simp only [ibneF hxy, cond_false]
      exact leafR_go ⟨c, l, d, m, i + 1⟩ ⟨hlt, h2, h3⟩ (by simp only [int10l_S]; omega) (by simp only [int10l_S, int10l_fin, hst, hxy, decide_true, Bool.true_and]) rfl rfl
    · simp only [ibneT hxy, cond_true]
      exact leafR_ret [] (by simp [int10l_S, int10l_fin, hst, hxy, RT.val]) rfl
  · have hi : i = l.length := by omega
    have c1 : decide ((i : Int) < l.length) = false := by simp; omega
    simp only [c1, cond_false]
    exact leafR_exit [] (by simp only [int10l_S, int10l_fin, drops_end l m i (by omega) (by omega), RT.val, cond_true]) rfl
def int10l_d (env : Env RC) (os : List (Obj RC)) : Option (Bool × int10l_St) := match env, os with
  | [(0, .sl .int c l), (1, .sl .int d m), (4, .bool false), (5, .int .i64 x0)], [] => staticD (true) (decide (x0 = 0) && decide (l.length ≤ 9223372036854775807 ∧ l.length = m.length), ⟨c, l, d, m, 0⟩)
  | _, _ => none
noncomputable def uc_6 := uc_5.addLoop 92 4 (sumR s19 [] [0, 1, 4, 5] int10l_S int10l_d)
theorem uc_6_laws : FLaws Tryz.prog s19 uc_6 := by
  refine uc_5_laws.addRoundsR s19_laws (by kernel_rfl) int10l_S 40 [0, 1, 4, 5] [4] [] [0, 1, 4, 5] int10l_d (fun q hI => ?_) ?_
  · obtain ⟨c, l, d, m, i⟩ := q
    refine ⟨?_, ?_, int10l_round c l d m i hI⟩
    · simp_all [RefsOK, int10l_S, int10l_c, int10l_o, int10l_Inv, D.refs, Obj.refs, rEnc]
    · simp_all [int10l_S, int10l_fin, int10l_o, int10l_Inv, RT.refsOK, RefsOK, D.refs, Obj.refs, rEnc]
  · intro env os b q hd_ hb
    unfold int10l_d at hd_
    split at hd_
    · obtain ⟨hs, hd_⟩ := staticD_some hd_
      cases hd_
      simp only [Bool.and_eq_true, decide_eq_true_eq] at hb
      obtain ⟨⟨rfl, rfl⟩, hl⟩ := hb
      exact ⟨⟨Nat.zero_le _, hl.1, hl.2⟩, rfl, rfl⟩
    · cases hd_
def int10_s (c : Bool) (l : List Int) (d : Bool) (m : List Int) : Option (Bool × D RC) := some (lenOK l.length && lenOK m.length, .bool (decide (l = m)))
def int10_sp : List (D RC) → Option (Bool × D RC)
  | [.sl .int c l, .sl .int d m] => int10_s c l d m
  | _ => none
noncomputable def int10_e (c : Bool) (l : List Int) (d : Bool) (m : List Int) := evF s19 uc_6 40 92 [.sl (C := RC) .int c l, .sl (C := RC) .int d m]
theorem int10_eq (c : Bool) (l : List Int) (d : Bool) (m : List Int) : int10_e c l d m = (let Z0 : Nat := List.length l; let Z1 : Nat := List.length m; bif lenOK Z0 then bif lenOK Z1 then bif (↑Z0 : Int) != (↑Z1 : Int) then some (D.bool false) else bif decide (Z0 ≤ (9223372036854775807 : Nat) ∧ Z0 = Z1) then bif decide (List.drop (0 : Nat) l = List.drop (0 : Nat) m) then some (D.bool true) else some (D.bool false) else none else none else none) := by kernel_rfl
theorem int10_ok (c : Bool) (l : List Int) (d : Bool) (m : List Int) (h : (lenOK l.length && lenOK m.length) = true) : int10_e c l d m = some (.bool (decide (l = m))) := by
  (rw [int10_eq]; conv => zeta)
  simp only [Bool.and_eq_true] at h
  have h1 : l.length ≤ 9223372036854775807 := lenOK_le h.1
  simp only [h.1, h.2, cond_true]
  by_cases hl : l.length = m.length
  · have e1 : ((l.length : Int) != (m.length : Int)) = false := by simp [hl]
    have e2 : (l.length ≤ 9223372036854775807 ∧ l.length = m.length) := ⟨h1, hl⟩
    rw [e1, decide_eq_true e2]
    simp only [cond_true, cond_false, List.drop_zero]
    cases decide (l = m) <;> rfl
  · have e1 : ((l.length : Int) != (m.length : Int)) = true := by simp; omega
    have : ¬ l = m := fun e => hl (by rw [e])
    simp [e1, this]
noncomputable def uc_7 := uc_6.addSpec 92 int10_sp
theorem uc_7_laws : FLaws Tryz.prog s19 uc_7 := uc_6_laws.addEv s19_laws fun args d h => by
  unfold int10_sp at h
  split at h
  · unfold int10_s at h
    have h1 := congrArg Prod.fst (Option.some.inj h)
    obtain rfl : _ = d := congrArg Prod.snd (Option.some.inj h)
    exact ⟨by simp [D.refs], 40, int10_ok _ _ _ _ h1⟩
  · cases h
def give_s (c : Int) (f : Bool) (st : List Frame) (e : Bool) (got : List Int) (over : Bool) (x : Int) : Option (Bool × D RC) := some (decide (0 ≤ c ∧ c ≤ 3 ∧ got.length ≤ 96 ∧ 1 ≤ st.length ∧ st.length ≤ 6) && !over, .tup (.acons (.acons (.int .i64 c) (.acons (.sl (C := RC) .frame f st) (.acons (.sl (C := RC) .int true [x]) (.acons (.bool over) .anil)))) (.acons (.int .i64 0) .anil)))
def give_sp : List (D RC) → Option (Bool × D RC)
  | [.acons (.int .i64 c) (.acons (.sl .frame f st) (.acons (.sl .int e got) (.acons (.bool over) .anil))), .int .i64 x] => give_s c f st e got over x
  | _ => none
noncomputable def give_e (c : Int) (f : Bool) (st : List Frame) (e : Bool) (got : List Int) (over : Bool) (x : Int) := evF s19 uc_7 40 58 [.acons (.int .i64 c) (.acons (.sl (C := RC) .frame f st) (.acons (.sl (C := RC) .int e got) (.acons (.bool over) .anil))), .int .i64 x]
theorem give_eq (c : Int) (f : Bool) (st : List Frame) (e : Bool) (got : List Int) (over : Bool) (x : Int) : give_e c f st e got over x = (let Z0 : D RC := D.int .i64 0; let Z1 : DO_ := some (D.tup (D.acons (D.acons Z0 (D.acons (D.sl RTy.frame true []) (.acons (D.sl RTy.int true []) (.acons (D.bool false) .anil)))) (.acons (D.int .i64 2) .anil))); let Z2 : Bool := lenOK st.length; let Z3 : Int := (↑st.length : Int); let Z4 : DO_ := bif over then Z1 else some (D.tup (D.acons (D.acons (D.int .i64 c) (.acons (D.sl RTy.frame f st) (.acons (D.sl RTy.int true [x]) (.acons (D.bool over) .anil)))) (.acons Z0 .anil))); bif decide (c < (0 : Int)) then Z1 else bif decide ((4 : Int) ≤ c) then Z1 else bif lenOK got.length then bif decide ((96 : Int) < (↑got.length : Int)) then Z1 else bif over then bif Z2 then bif !Z3 == (0 : Int) then Z1 else Z4 else none else bif Z2 then bif decide ((1 : Int) ≤ Z3) then bif Z2 then bif !decide (Z3 ≤ (6 : Int)) then Z1 else Z4 else none else Z1 else none else none) := by kernel_rfl
theorem give_ok (c : Int) (f : Bool) (st : List Frame) (e : Bool) (got : List Int) (over : Bool) (x : Int) (h : (decide (0 ≤ c ∧ c ≤ 3 ∧ got.length ≤ 96 ∧ 1 ≤ st.length ∧ st.length ≤ 6) && !over) = true) : give_e c f st e got over x = some (.tup (.acons (.acons (.int .i64 c) (.acons (.sl (C := RC) .frame f st) (.acons (.sl (C := RC) .int true [x]) (.acons (.bool over) .anil)))) (.acons (.int .i64 0) .anil))) := by
  (rw [give_eq]; conv => zeta)
  simp only [Bool.and_eq_true, decide_eq_true_eq, Bool.not_eq_true'] at h
  obtain ⟨⟨h1, h2, h3, h4, h5⟩, rfl⟩ := h
  have c1 : decide (c < 0) = false := by simp; omega
  have c2 : decide (4 ≤ c) = false := by simp; omega
  have c3 : decide ((96 : Int) < got.length) = false := by simp; omega
  have c4 : lenOK got.length = true := lenOK_of (by omega)
  have c5 : lenOK st.length = true := lenOK_of (by omega)
  have c6 : decide ((1 : Int) ≤ st.length) = true := by simp; omega
  have c7 : decide ((st.length : Int) ≤ 6) = true := by simp; omega
  simp only [c1, c2, c3, c4, c5, c6, c7, cond_true, cond_false, Bool.not_true]
noncomputable def uc_8 := uc_7.addSpec 58 give_sp
theorem uc_8_laws : FLaws Tryz.prog s19 uc_8 := uc_7_laws.addEv s19_laws fun args d h => by
  unfold give_sp at h
  split at h
  · unfold give_s at h
    have h1 := congrArg Prod.fst (Option.some.inj h)
    obtain rfl : _ = d := congrArg Prod.snd (Option.some.inj h)
    exact ⟨by simp [D.refs], 40, give_ok _ _ _ _ _ _ _ h1⟩
  · cases h
noncomputable def sameA9_s (k : Int) (a : Int) (b : Int) (v : Int) (g : Int) (tx : List UInt8) (ca : Bool) (ar : List Int) (k2 : Int) (a2 : Int) (b2 : Int) (v2 : Int) (g2 : Int) (tx2 : List UInt8) (cb : Bool) (ar2 : List Int) : Option (Bool × D RC) := some (lenOK ar.length && lenOK ar2.length, .bool (decide ((⟨k, a, b, v, g, tx, ar⟩ : Action) = ⟨k2, a2, b2, v2, g2, tx2, ar2⟩)))
noncomputable def sameA9_sp : List (D RC) → Option (Bool × D RC)
  | [.acons (.int .i8 k) (.acons (.int .i64 a) (.acons (.int .i64 b) (.acons (.int .i64 v) (.acons (.int .i64 g) (.acons (.str tx) (.acons (.sl .int ca ar) .anil)))))), .acons (.int .i8 k2) (.acons (.int .i64 a2) (.acons (.int .i64 b2) (.acons (.int .i64 v2) (.acons (.int .i64 g2) (.acons (.str tx2) (.acons (.sl .int cb ar2) .anil))))))] => sameA9_s k a b v g tx ca ar k2 a2 b2 v2 g2 tx2 cb ar2
  | _ => none
noncomputable def sameA9_e (k : Int) (a : Int) (b : Int) (v : Int) (g : Int) (tx : List UInt8) (ca : Bool) (ar : List Int) (k2 : Int) (a2 : Int) (b2 : Int) (v2 : Int) (g2 : Int) (tx2 : List UInt8) (cb : Bool) (ar2 : List Int) := evF s19 uc_8 60 55 [.acons (.int .i8 k) (.acons (.int .i64 a) (.acons (.int .i64 b) (.acons (.int .i64 v) (.acons (.int .i64 g) (.acons (.str tx) (.acons (.sl (C := RC) .int ca ar) .anil)))))), .acons (.int .i8 k2) (.acons (.int .i64 a2) (.acons (.int .i64 b2) (.acons (.int .i64 v2) (.acons (.int .i64 g2) (.acons (.str tx2) (.acons (.sl (C := RC) .int cb ar2) .anil))))))]
theorem sameA9_eq (k : Int) (a : Int) (b : Int) (v : Int) (g : Int) (tx : List UInt8) (ca : Bool) (ar : List Int) (k2 : Int) (a2 : Int) (b2 : Int) (v2 : Int) (g2 : Int) (tx2 : List UInt8) (cb : Bool) (ar2 : List Int) : sameA9_e k a b v g tx ca ar k2 a2 b2 v2 g2 tx2 cb ar2 = (let Z0 : DO_ := some (D.bool false); bif k == k2 then bif a == a2 then bif b == b2 then bif v == v2 then bif g == g2 then bif tx == tx2 then bif lenOK ar.length && lenOK ar2.length then some (D.bool (decide (ar = ar2))) else none else Z0 else Z0 else Z0 else Z0 else Z0 else Z0) := by kernel_rfl
theorem sameA9_ok (k : Int) (a : Int) (b : Int) (v : Int) (g : Int) (tx : List UInt8) (ca : Bool) (ar : List Int) (k2 : Int) (a2 : Int) (b2 : Int) (v2 : Int) (g2 : Int) (tx2 : List UInt8) (cb : Bool) (ar2 : List Int) (h : (lenOK ar.length && lenOK ar2.length) = true) : sameA9_e k a b v g tx ca ar k2 a2 b2 v2 g2 tx2 cb ar2 = some (.bool (decide ((⟨k, a, b, v, g, tx, ar⟩ : Action) = ⟨k2, a2, b2, v2, g2, tx2, ar2⟩))) := by
  (rw [sameA9_eq]; conv => zeta)
  rw [Bool.and_eq_true] at h
  obtain ⟨h1, h2⟩ := h
  have no : ¬ ((⟨k, a, b, v, g, tx, ar⟩ : Action) = ⟨k2, a2, b2, v2, g2, tx2, ar2⟩) → some (D.bool (C := RC) false) = some (.bool (decide ((⟨k, a, b, v, g, tx, ar⟩ : Action) = ⟨k2, a2, b2, v2, g2, tx2, ar2⟩))) := fun q => by rw [decide_eq_false q]
  simp only [Action.mk.injEq] at no ⊢
  refine cond2 (fun q1 => ?_) fun q => no (fun e => by rw [e.1] at q; simp at q)
  refine cond2 (fun q2 => ?_) fun q => no (fun e => by rw [e.2.1] at q; simp at q)
  refine cond2 (fun q3 => ?_) fun q => no (fun e => by rw [e.2.2.1] at q; simp at q)
  refine cond2 (fun q4 => ?_) fun q => no (fun e => by rw [e.2.2.2.1] at q; simp at q)
  refine cond2 (fun q5 => ?_) fun q => no (fun e => by rw [e.2.2.2.2.1] at q; simp at q)
  refine cond2 (fun q6 => ?_) fun q => no (fun e => by rw [e.2.2.2.2.2.1] at q; simp at q)
  simp only [h1, h2, Bool.and_self, cond_true]
  have q1 := eq_of_beq q1
  have q2 := eq_of_beq q2
  have q3 := eq_of_beq q3
  have q4 := eq_of_beq q4
  have q5 := eq_of_beq q5
  have q6 := eq_of_beq q6
  simp only [q1, q2, q3, q4, q5, q6, true_and]
noncomputable def uc_9 := uc_8.addSpec 55 sameA9_sp
theorem uc_9_laws : FLaws Tryz.prog s19 uc_9 := uc_8_laws.addEv s19_laws fun args d h => by
  unfold sameA9_sp at h
  split at h
  · unfold sameA9_s at h
    have h1 := congrArg Prod.fst (Option.some.inj h)
    obtain rfl : _ = d := congrArg Prod.snd (Option.some.inj h)
    exact ⟨by simp [D.refs], 60, sameA9_ok _ _ _ _ _ _ _ _ _ _ _ _ _ _ _ _ h1⟩
  · cases h
open Go.Proofs
theorem fdiv0 {n : Int} (k : Nat) (h : 0 ≤ n) : (n.fdiv (2 ^ k) == 0) = decide (n < 2 ^ k) := by
  have hp : (0 : Int) < 2 ^ k := Int.pow_pos (by decide)
  rw [Int.fdiv_eq_ediv_of_nonneg _ (Int.le_of_lt hp)]
  by_cases q : n < 2 ^ k
  · rw [decide_eq_true q, Int.ediv_eq_zero_of_lt h q]; rfl
  · rw [decide_eq_false q]
    have : n / 2 ^ k ≠ 0 := fun e => q (by
      have h1 := Int.ediv_mul_add_emod n (2 ^ k)
      have h2 := Int.emod_lt_of_pos n hp
      rw [e] at h1
      omega)
    simpa using this
theorem mayLn_not {o p j k v : Int} (h : ¬ (0 ≤ o ∧ o < 4194304 ∧ 1 ≤ p ∧ p ≤ 1048575 ∧ 0 ≤ j ∧ j ≤ 3 ∧ 0 ≤ k ∧ k ≤ 7 ∧ 0 ≤ v ∧ v ≤ 255)) : mayLn ⟨o, p, j, k, v⟩ = false := decide_eq_false h
theorem mayLn_yes {o p j k v : Int} (h : 0 ≤ o ∧ o < 4194304 ∧ 1 ≤ p ∧ p ≤ 1048575 ∧ 0 ≤ j ∧ j ≤ 3 ∧ 0 ≤ k ∧ k ≤ 7 ∧ 0 ≤ v ∧ v ≤ 255) : mayLn ⟨o, p, j, k, v⟩ = true := decide_eq_true h
def fitsF_s (n : Int) (a : Int) (b : Int) : Option (Bool × D RC) := some (decide (0 ≤ a ∧ 0 ≤ b ∧ b ≤ 63), .bool (decide (a ≤ n ∧ n < 2 ^ b.toNat)))
def fitsF_sp : List (D RC) → Option (Bool × D RC)
  | [.int .i64 n, .int .i64 a, .int .i64 b] => fitsF_s n a b
  | _ => none
noncomputable def fitsF_e (n : Int) (a : Int) (b : Int) := evF s19 uc_9 20 60 [.int .i64 n, .int .i64 a, .int .i64 b]
theorem fitsF_eq (n : Int) (a : Int) (b : Int) : fitsF_e n a b = (bif decide (a ≤ n) then bif decide (b < (0 : Int)) then none else some (D.bool (Int.fdiv n ((2 : Int) ^ min b.toNat (64 : Nat)) == (0 : Int))) else some (D.bool false)) := by kernel_rfl
theorem fitsF_ok (n : Int) (a : Int) (b : Int) (h : (decide (0 ≤ a ∧ 0 ≤ b ∧ b ≤ 63)) = true) : fitsF_e n a b = some (.bool (decide (a ≤ n ∧ n < 2 ^ b.toNat))) := by
  rw [fitsF_eq]
  obtain ⟨h1, h2, h3⟩ := of_decide_eq_true h
  have hm : min b.toNat 64 = b.toNat := by omega
  rw [decide_eq_false (show ¬ b < 0 by omega), hm]
  simp only [cond_false]
  refine cond_two (fun q => ?_) fun q => ?_
  · have q := of_decide_eq_true q
    rw [fdiv0 _ (by omega)]
    by_cases q2 : n < 2 ^ b.toNat
    · rw [decide_eq_true q2, decide_eq_true (show a ≤ n ∧ n < 2 ^ b.toNat from ⟨q, q2⟩)]
    · rw [decide_eq_false q2, decide_eq_false (fun e => q2 e.2)]
  · have q := of_decide_eq_false q
    rw [decide_eq_false (fun e => q e.1)]
noncomputable def ud_1 := uc_9.addSpec 60 fitsF_sp
theorem ud_1_laws : FLaws Tryz.prog s19 ud_1 := uc_9_laws.addEv s19_laws fun args d h => by
  unfold fitsF_sp at h
  split at h
  · unfold fitsF_s at h
    have h1 := congrArg Prod.fst (Option.some.inj h)
    obtain rfl : _ = d := congrArg Prod.snd (Option.some.inj h)
    exact ⟨by simp [D.refs], 20, fitsF_ok _ _ _ h1⟩
  · cases h
def lmayR_s (o : Int) (p : Int) (j : Int) (k : Int) (v : Int) : Option (Bool × D RC) := some (true, .bool (mayLn ⟨o, p, j, k, v⟩))
def lmayR_sp : List (D RC) → Option (Bool × D RC)
  | [.acons (.int .i64 o) (.acons (.int .i64 p) (.acons (.int .i64 j) (.acons (.int .i64 k) (.acons (.int .i64 v) .anil))))] => lmayR_s o p j k v
  | _ => none
noncomputable def lmayR_e (o : Int) (p : Int) (j : Int) (k : Int) (v : Int) := evF s19 ud_1 40 32 [.acons (.int .i64 o) (.acons (.int .i64 p) (.acons (.int .i64 j) (.acons (.int .i64 k) (.acons (.int .i64 v) .anil))))]
theorem lmayR_eq (o : Int) (p : Int) (j : Int) (k : Int) (v : Int) : lmayR_e o p j k v = (let Z0 : DO_ := some (D.bool false); bif decide ((0 : Int) ≤ o) then bif decide (o < (4194304 : Int)) then bif decide ((1 : Int) ≤ p) then bif decide (p ≤ (1048575 : Int)) then bif decide ((0 : Int) ≤ j) then bif decide (j < (4 : Int)) then bif decide ((0 : Int) ≤ k) then bif decide (k < (8 : Int)) then bif decide ((0 : Int) ≤ v) then some (D.bool (decide (v ≤ (255 : Int)))) else Z0 else Z0 else Z0 else Z0 else Z0 else Z0 else Z0 else Z0 else Z0) := by kernel_rfl
theorem lmayR_ok (o : Int) (p : Int) (j : Int) (k : Int) (v : Int) (h : (true) = true) : lmayR_e o p j k v = some (.bool (mayLn ⟨o, p, j, k, v⟩)) := by
  (rw [lmayR_eq]; conv => zeta)
  have no : (¬ (0 ≤ o ∧ o < 4194304 ∧ 1 ≤ p ∧ p ≤ 1048575 ∧ 0 ≤ j ∧ j ≤ 3 ∧ 0 ≤ k ∧ k ≤ 7 ∧ 0 ≤ v ∧ v ≤ 255)) → some (D.bool (C := RC) false) = some (.bool (mayLn ⟨o, p, j, k, v⟩)) := fun e => by rw [mayLn_not e]
  iterate 9
    refine cond_two (fun _ => ?_) fun e => no (by simp only [decide_eq_false_iff_not] at e; omega)
  simp only [decide_eq_true_eq] at *
  by_cases q : v ≤ 255
  · rw [decide_eq_true q, mayLn_yes (by omega)]
  · rw [decide_eq_false q]; exact no (by omega)
noncomputable def ud_2 := ud_1.addSpec 32 lmayR_sp
theorem ud_2_laws : FLaws Tryz.prog s19 ud_2 := ud_1_laws.addEv s19_laws fun args d h => by
  unfold lmayR_sp at h
  split at h
  · unfold lmayR_s at h
    have h1 := congrArg Prod.fst (Option.some.inj h)
    obtain rfl : _ = d := congrArg Prod.snd (Option.some.inj h)
    exact ⟨by simp [D.refs], 40, lmayR_ok _ _ _ _ _ h1⟩
  · cases h
def lwordP_s (o : Int) (p : Int) (j : Int) (k : Int) (v : Int) : Option (Bool × D RC) := some (true, .tup (.acons (.int .i64 (wordO ⟨o, p, j, k, v⟩)) (.acons (.int .i64 (bif mayLn ⟨o, p, j, k, v⟩ then 0 else 2)) .anil)))
def lwordP_sp : List (D RC) → Option (Bool × D RC)
  | [.acons (.int .i64 o) (.acons (.int .i64 p) (.acons (.int .i64 j) (.acons (.int .i64 k) (.acons (.int .i64 v) .anil))))] => lwordP_s o p j k v
  | _ => none
noncomputable def lwordP_e (o : Int) (p : Int) (j : Int) (k : Int) (v : Int) := evF s19 ud_2 60 14 [.acons (.int .i64 o) (.acons (.int .i64 p) (.acons (.int .i64 j) (.acons (.int .i64 k) (.acons (.int .i64 v) .anil))))]
theorem lwordP_eq (o : Int) (p : Int) (j : Int) (k : Int) (v : Int) : lwordP_e o p j k v = (let Z0 : D RC := D.int .i64 0; let Z1 : DO_ := some (D.tup (D.acons Z0 (D.acons (D.int .i64 2) .anil))); bif decide ((0 : Int) ≤ o ∧ o < (4194304 : Int)) then bif decide ((1 : Int) ≤ p ∧ p < (1048576 : Int)) then bif decide ((0 : Int) ≤ j ∧ j < (4 : Int)) then bif decide ((0 : Int) ≤ k ∧ k < (8 : Int)) then bif !decide ((0 : Int) ≤ v ∧ v < (256 : Int)) then Z1 else some (D.tup (D.acons (D.int .i64 (bits .i64 (fun (x : Nat) (u v : BitVec x) => u ||| v) (bits .i64 (fun (x : Nat) (u v : BitVec x) => u ||| v) (bits .i64 (fun (x : Nat) (u v : BitVec x) => u ||| v) (bits .i64 (fun (x : Nat) (u v : BitVec x) => u ||| v) (IntKind.wrap .i64 (IntKind.wrap .i64 (o + (1 : Int)) * (8589934592 : Int))) (IntKind.wrap .i64 (p * (8192 : Int)))) (IntKind.wrap .i64 (j * (2048 : Int)))) (IntKind.wrap .i64 (k * (256 : Int)))) v)) (.acons Z0 .anil))) else Z1 else Z1 else Z1 else Z1) := by kernel_rfl
theorem lwordP_ok (o : Int) (p : Int) (j : Int) (k : Int) (v : Int) (h : (true) = true) : lwordP_e o p j k v = some (.tup (.acons (.int .i64 (wordO ⟨o, p, j, k, v⟩)) (.acons (.int .i64 (bif mayLn ⟨o, p, j, k, v⟩ then 0 else 2)) .anil))) := by
  (rw [lwordP_eq]; conv => zeta)
  have no : (¬ (0 ≤ o ∧ o < 4194304 ∧ 1 ≤ p ∧ p ≤ 1048575 ∧ 0 ≤ j ∧ j ≤ 3 ∧ 0 ≤ k ∧ k ≤ 7 ∧ 0 ≤ v ∧ v ≤ 255)) → some (D.tup (C := RC) (.acons (.int .i64 0) (.acons (.int .i64 2) .anil))) = some (.tup (.acons (.int .i64 (wordO ⟨o, p, j, k, v⟩)) (.acons (.int .i64 (bif mayLn ⟨o, p, j, k, v⟩ then 0 else 2)) .anil))) := fun e => by simp only [wordO, mayLn_not e]; rfl
  iterate 4
    refine cond_two (fun _ => ?_) fun e => no (by simp only [decide_eq_false_iff_not] at e; omega)
  refine cond_two (fun e => no (by simp only [Bool.not_eq_true', decide_eq_false_iff_not] at e; omega)) fun e => ?_
  simp only [Bool.not_eq_false', decide_eq_true_eq] at *
  have hm : mayLn ⟨o, p, j, k, v⟩ = true := mayLn_yes (by omega)
  have w1 : IntKind.i64.wrap (o + 1) = o + 1 := wrap_id (by omega) (by omega)
  have w2 : IntKind.i64.wrap ((o + 1) * 8589934592) = (o + 1) * 8589934592 := wrap_id (by omega) (by omega)
  have w3 : IntKind.i64.wrap (p * 8192) = p * 8192 := wrap_id (by omega) (by omega)
  have w4 : IntKind.i64.wrap (j * 2048) = j * 2048 := wrap_id (by omega) (by omega)
  have w5 : IntKind.i64.wrap (k * 256) = k * 256 := wrap_id (by omega) (by omega)
  simp only [wordO, hm, w1, w2, w3, w4, w5, cond_true, wordL_or hm]
noncomputable def ud_3 := ud_2.addSpec 14 lwordP_sp
theorem ud_3_laws : FLaws Tryz.prog s19 ud_3 := ud_2_laws.addEv s19_laws fun args d h => by
  unfold lwordP_sp at h
  split at h
  · unfold lwordP_s at h
    have h1 := congrArg Prod.fst (Option.some.inj h)
    obtain rfl : _ = d := congrArg Prod.snd (Option.some.inj h)
    exact ⟨by simp [D.refs], 60, lwordP_ok _ _ _ _ _ h1⟩
  · cases h
def lwordR_s (o : Int) (p : Int) (j : Int) (k : Int) (v : Int) : Option (Bool × D RC) := some (true, .tup (.acons (.int .i64 (wordO ⟨o, p, j, k, v⟩)) (.acons (.int .i64 (bif mayLn ⟨o, p, j, k, v⟩ then 0 else 2)) .anil)))
def lwordR_sp : List (D RC) → Option (Bool × D RC)
  | [.acons (.int .i64 o) (.acons (.int .i64 p) (.acons (.int .i64 j) (.acons (.int .i64 k) (.acons (.int .i64 v) .anil))))] => lwordR_s o p j k v
  | _ => none
noncomputable def lwordR_e (o : Int) (p : Int) (j : Int) (k : Int) (v : Int) := evF s19 ud_3 60 15 [.acons (.int .i64 o) (.acons (.int .i64 p) (.acons (.int .i64 j) (.acons (.int .i64 k) (.acons (.int .i64 v) .anil))))]
theorem lwordR_eq (o : Int) (p : Int) (j : Int) (k : Int) (v : Int) : lwordR_e o p j k v = (let Z0 : D RC := D.int .i64 0; bif !mayLn (Line.mk o p j k v) then some (D.tup (D.acons Z0 (D.acons (D.int .i64 2) .anil))) else some (D.tup (D.acons (D.int .i64 (IntKind.wrap .i64 (IntKind.wrap .i64 (IntKind.wrap .i64 (IntKind.wrap .i64 (IntKind.wrap .i64 (IntKind.wrap .i64 (IntKind.wrap .i64 (o + (1 : Int)) * (1048576 : Int)) + p) * (8192 : Int)) + IntKind.wrap .i64 (j * (2048 : Int))) + IntKind.wrap .i64 (k * (256 : Int))) + v))) (.acons Z0 .anil)))) := by kernel_rfl
theorem lwordR_ok (o : Int) (p : Int) (j : Int) (k : Int) (v : Int) (h : (true) = true) : lwordR_e o p j k v = some (.tup (.acons (.int .i64 (wordO ⟨o, p, j, k, v⟩)) (.acons (.int .i64 (bif mayLn ⟨o, p, j, k, v⟩ then 0 else 2)) .anil))) := by
  (rw [lwordR_eq]; conv => zeta)
  by_cases q : 0 ≤ o ∧ o < 4194304 ∧ 1 ≤ p ∧ p ≤ 1048575 ∧ 0 ≤ j ∧ j ≤ 3 ∧ 0 ≤ k ∧ k ≤ 7 ∧ 0 ≤ v ∧ v ≤ 255
  · have hm := mayLn_yes q
    have w1 : IntKind.i64.wrap (o + 1) = o + 1 := wrap_id (by omega) (by omega)
    have w2 : IntKind.i64.wrap ((o + 1) * 1048576) = (o + 1) * 1048576 := wrap_id (by omega) (by omega)
    have w3 : IntKind.i64.wrap ((o + 1) * 1048576 + p) = (o + 1) * 1048576 + p := wrap_id (by omega) (by omega)
    have w4 : IntKind.i64.wrap (((o + 1) * 1048576 + p) * 8192) = ((o + 1) * 1048576 + p) * 8192 := wrap_id (by omega) (by omega)
    have w5 : IntKind.i64.wrap (j * 2048) = j * 2048 := wrap_id (by omega) (by omega)
    have w6 : IntKind.i64.wrap (((o + 1) * 1048576 + p) * 8192 + j * 2048) = ((o + 1) * 1048576 + p) * 8192 + j * 2048 := wrap_id (by omega) (by omega)
    have w7 : IntKind.i64.wrap (k * 256) = k * 256 := wrap_id (by omega) (by omega)
    have w8 : IntKind.i64.wrap (((o + 1) * 1048576 + p) * 8192 + j * 2048 + k * 256) = ((o + 1) * 1048576 + p) * 8192 + j * 2048 + k * 256 := wrap_id (by omega) (by omega)
    have w9 : IntKind.i64.wrap (((o + 1) * 1048576 + p) * 8192 + j * 2048 + k * 256 + v) = wordL ⟨o, p, j, k, v⟩ := by rw [wrap_id (by omega) (by omega)]; unfold wordL; simp only; omega
    simp only [wordO, hm, w1, w2, w3, w4, w5, w6, w7, w8, w9, cond_true, Bool.not_true, cond_false]
  · have hm := mayLn_not q
    simp only [wordO, hm, Bool.not_false, cond_true, cond_false]
noncomputable def ud_4 := ud_3.addSpec 15 lwordR_sp
theorem ud_4_laws : FLaws Tryz.prog s19 ud_4 := ud_3_laws.addEv s19_laws fun args d h => by
  unfold lwordR_sp at h
  split at h
  · unfold lwordR_s at h
    have h1 := congrArg Prod.fst (Option.some.inj h)
    obtain rfl : _ = d := congrArg Prod.snd (Option.some.inj h)
    exact ⟨by simp [D.refs], 60, lwordR_ok _ _ _ _ _ h1⟩
  · cases h
theorem read_and {w : Int} (h0 : 0 ≤ w) (h1 : w < 9223372036854775808) :
    IntKind.i64.wrap (w.fdiv 8589934592 - 1) = (lineW w).offset ∧ bits .i64 (fun _ u v => u &&& v) (w.fdiv 8192) 1048575 = (lineW w).place ∧ bits .i64 (fun _ u v => u &&& v) (w.fdiv 2048) 3 = (lineW w).j ∧
    bits .i64 (fun _ u v => u &&& v) (w.fdiv 256) 7 = (lineW w).key ∧ bits .i64 (fun _ u v => u &&& v) w 255 = (lineW w).value := by
  have f1 : w.fdiv 8589934592 = w / 8589934592 := Int.fdiv_eq_ediv_of_nonneg _ (by decide)
  have f2 : w.fdiv 8192 = w / 8192 := Int.fdiv_eq_ediv_of_nonneg _ (by decide)
  have f3 : w.fdiv 2048 = w / 2048 := Int.fdiv_eq_ediv_of_nonneg _ (by decide)
  have f4 : w.fdiv 256 = w / 256 := Int.fdiv_eq_ediv_of_nonneg _ (by decide)
  rw [f1, f2, f3, f4]
  refine ⟨wrap_id (by omega) (by omega), ?_, ?_, ?_, ?_⟩
  · exact bits_and_mask' _ 1048575 20 (by decide) (by omega) (by omega) (by decide)
  · exact bits_and_mask' _ 3 2 (by decide) (by omega) (by omega) (by decide)
  · exact bits_and_mask' _ 7 3 (by decide) (by omega) (by omega) (by decide)
  · exact bits_and_mask' _ 255 8 (by decide) (by omega) (by omega) (by decide)
theorem readW_neg {w : Int} (h : w < 0) : readW w = none := if_neg (fun e => by omega)
theorem readW_yes {w : Int} (h : 0 ≤ w) (hm : mayLn (lineW w) = true) : readW w = some (lineW w) := if_pos ⟨h, hm⟩
theorem readW_no {w : Int} (hm : mayLn (lineW w) = false) : readW w = none := if_neg (fun e => by rw [hm] at e; cases e.2)
def lreadP_s (w : Int) : Option (Bool × D RC) := some (decide (w < 9223372036854775808), .tup (.acons (.acons (.int .i64 (readO w).offset) (.acons (.int .i64 (readO w).place) (.acons (.int .i64 (readO w).j) (.acons (.int .i64 (readO w).key) (.acons (.int .i64 (readO w).value) .anil))))) (.acons (.bool (readW w).isSome) .anil)))
def lreadP_sp : List (D RC) → Option (Bool × D RC)
  | [.int .i64 w] => lreadP_s w
  | _ => none
noncomputable def lreadP_e (w : Int) := evF s19 ud_4 60 16 [.int .i64 w]
theorem lreadP_eq (w : Int) : lreadP_e w = (let Z0 : D RC := D.int .i64 0; let Z1 : DO_ := some (D.tup (D.acons (D.acons Z0 (D.acons Z0 (D.acons Z0 (D.acons Z0 (D.acons Z0 .anil))))) (.acons (D.bool false) .anil))); let Z2 : Int := IntKind.wrap .i64 (Int.fdiv w (8589934592 : Int) - (1 : Int)); let Z3 : Int := bits .i64 (fun (x : Nat) (u v : BitVec x) => u &&& v) (Int.fdiv w (8192 : Int)) (1048575 : Int); let Z4 : Int := bits .i64 (fun (x : Nat) (u v : BitVec x) => u &&& v) (Int.fdiv w (2048 : Int)) (3 : Int); let Z5 : Int := bits .i64 (fun (x : Nat) (u v : BitVec x) => u &&& v) (Int.fdiv w (256 : Int)) (7 : Int); let Z6 : Int := bits .i64 (fun (x : Nat) (u v : BitVec x) => u &&& v) w (255 : Int); bif decide (w < (0 : Int)) then Z1 else bif decide ((0 : Int) ≤ Z2 ∧ Z2 < (4194304 : Int)) then bif decide ((1 : Int) ≤ Z3 ∧ Z3 < (1048576 : Int)) then bif decide ((0 : Int) ≤ Z4 ∧ Z4 < (4 : Int)) then bif decide ((0 : Int) ≤ Z5 ∧ Z5 < (8 : Int)) then bif !decide ((0 : Int) ≤ Z6 ∧ Z6 < (256 : Int)) then Z1 else some (D.tup (D.acons (D.acons (D.int .i64 Z2) (.acons (D.int .i64 Z3) (.acons (D.int .i64 Z4) (.acons (D.int .i64 Z5) (.acons (D.int .i64 Z6) .anil))))) (.acons (D.bool true) .anil))) else Z1 else Z1 else Z1 else Z1) := by kernel_rfl
theorem lreadP_ok (w : Int) (h : (decide (w < 9223372036854775808)) = true) : lreadP_e w = some (.tup (.acons (.acons (.int .i64 (readO w).offset) (.acons (.int .i64 (readO w).place) (.acons (.int .i64 (readO w).j) (.acons (.int .i64 (readO w).key) (.acons (.int .i64 (readO w).value) .anil))))) (.acons (.bool (readW w).isSome) .anil))) := by
  (rw [lreadP_eq]; conv => zeta)
  have h1 := of_decide_eq_true h
  have no : readW w = none → some (D.tup (C := RC) (.acons (.acons (.int .i64 0) (.acons (.int .i64 0) (.acons (.int .i64 0) (.acons (.int .i64 0) (.acons (.int .i64 0) .anil))))) (.acons (.bool false) .anil))) = some (.tup (.acons (.acons (.int .i64 (readO w).offset) (.acons (.int .i64 (readO w).place) (.acons (.int .i64 (readO w).j) (.acons (.int .i64 (readO w).key) (.acons (.int .i64 (readO w).value) .anil))))) (.acons (.bool (readW w).isSome) .anil))) := fun e => by simp only [readO, e]; rfl
  refine cond_two (fun q => no (readW_neg (of_decide_eq_true q))) fun q => ?_
  have q := of_decide_eq_false q
  obtain ⟨a1, a2, a3, a4, a5⟩ := read_and (by omega) h1
  rw [a1, a2, a3, a4, a5]
  generalize hl : lineW w = l
  have no2 : mayLn l = false → readW w = none := fun e => readW_no (by rw [hl]; exact e)
  obtain ⟨o, p, j, k, v⟩ := l
  have no3 : ¬ (0 ≤ o ∧ o < 4194304 ∧ 1 ≤ p ∧ p ≤ 1048575 ∧ 0 ≤ j ∧ j ≤ 3 ∧ 0 ≤ k ∧ k ≤ 7 ∧ 0 ≤ v ∧ v ≤ 255) → readW w = none := fun e => no2 (mayLn_not e)
  simp only
  iterate 4
    refine cond_two (fun _ => ?_) fun e => no (no3 (by simp only [decide_eq_false_iff_not] at e; omega))
  refine cond_two (fun e => no (no3 (by simp only [Bool.not_eq_true', decide_eq_false_iff_not] at e; omega))) fun e => ?_
  simp only [Bool.not_eq_false', decide_eq_true_eq] at *
  have hm : mayLn (lineW w) = true := by rw [hl]; exact mayLn_yes (by omega)
  simp only [readO, readW_yes (by omega) hm, Option.getD_some, hl]
  rfl
noncomputable def ud_5 := ud_4.addSpec 16 lreadP_sp
theorem ud_5_laws : FLaws Tryz.prog s19 ud_5 := ud_4_laws.addEv s19_laws fun args d h => by
  unfold lreadP_sp at h
  split at h
  · unfold lreadP_s at h
    have h1 := congrArg Prod.fst (Option.some.inj h)
    obtain rfl : _ = d := congrArg Prod.snd (Option.some.inj h)
    exact ⟨by simp [D.refs], 60, lreadP_ok _ h1⟩
  · cases h
def lreadR_s (w : Int) : Option (Bool × D RC) := some (decide (w < 9223372036854775808), .tup (.acons (.acons (.int .i64 (readO w).offset) (.acons (.int .i64 (readO w).place) (.acons (.int .i64 (readO w).j) (.acons (.int .i64 (readO w).key) (.acons (.int .i64 (readO w).value) .anil))))) (.acons (.bool (readW w).isSome) .anil)))
def lreadR_sp : List (D RC) → Option (Bool × D RC)
  | [.int .i64 w] => lreadR_s w
  | _ => none
noncomputable def lreadR_e (w : Int) := evF s19 ud_5 60 17 [.int .i64 w]
theorem lreadR_eq (w : Int) : lreadR_e w = (let Z0 : D RC := D.int .i64 0; let Z1 : DO_ := some (D.tup (D.acons (D.acons Z0 (D.acons Z0 (D.acons Z0 (D.acons Z0 (D.acons Z0 .anil))))) (.acons (D.bool false) .anil))); let Z2 : Int := IntKind.wrap .i64 (Int.fdiv w (8589934592 : Int) - (1 : Int)); let Z3 : Int := bits .i64 (fun (x : Nat) (u v : BitVec x) => u &&& v) (Int.fdiv w (8192 : Int)) (1048575 : Int); let Z4 : Int := bits .i64 (fun (x : Nat) (u v : BitVec x) => u &&& v) (Int.fdiv w (2048 : Int)) (3 : Int); let Z5 : Int := bits .i64 (fun (x : Nat) (u v : BitVec x) => u &&& v) (Int.fdiv w (256 : Int)) (7 : Int); let Z6 : Int := bits .i64 (fun (x : Nat) (u v : BitVec x) => u &&& v) w (255 : Int); bif decide (w < (0 : Int)) then Z1 else bif !mayLn (Line.mk Z2 Z3 Z4 Z5 Z6) then Z1 else some (D.tup (D.acons (D.acons (D.int .i64 Z2) (.acons (D.int .i64 Z3) (.acons (D.int .i64 Z4) (.acons (D.int .i64 Z5) (.acons (D.int .i64 Z6) .anil))))) (.acons (D.bool true) .anil)))) := by kernel_rfl
theorem lreadR_ok (w : Int) (h : (decide (w < 9223372036854775808)) = true) : lreadR_e w = some (.tup (.acons (.acons (.int .i64 (readO w).offset) (.acons (.int .i64 (readO w).place) (.acons (.int .i64 (readO w).j) (.acons (.int .i64 (readO w).key) (.acons (.int .i64 (readO w).value) .anil))))) (.acons (.bool (readW w).isSome) .anil))) := by
  (rw [lreadR_eq]; conv => zeta)
  have h1 := of_decide_eq_true h
  have no : readW w = none → some (D.tup (C := RC) (.acons (.acons (.int .i64 0) (.acons (.int .i64 0) (.acons (.int .i64 0) (.acons (.int .i64 0) (.acons (.int .i64 0) .anil))))) (.acons (.bool false) .anil))) = some (.tup (.acons (.acons (.int .i64 (readO w).offset) (.acons (.int .i64 (readO w).place) (.acons (.int .i64 (readO w).j) (.acons (.int .i64 (readO w).key) (.acons (.int .i64 (readO w).value) .anil))))) (.acons (.bool (readW w).isSome) .anil))) := fun e => by simp only [readO, e]; rfl
  refine cond_two (fun q => no (readW_neg (of_decide_eq_true q))) fun q => ?_
  have q := of_decide_eq_false q
  obtain ⟨a1, a2, a3, a4, a5⟩ := read_and (by omega) h1
  rw [a1, a2, a3, a4, a5]
  cases hm : mayLn (lineW w)
  · exact cond_of rfl (no (readW_no hm))
  refine cond_no rfl ?_
  simp only [readO, readW_yes (by omega) hm]
  rfl
noncomputable def ud_6 := ud_5.addSpec 17 lreadR_sp
theorem ud_6_laws : FLaws Tryz.prog s19 ud_6 := ud_5_laws.addEv s19_laws fun args d h => by
  unfold lreadR_sp at h
  split at h
  · unfold lreadR_s at h
    have h1 := congrArg Prod.fst (Option.some.inj h)
    obtain rfl : _ = d := congrArg Prod.snd (Option.some.inj h)
    exact ⟨by simp [D.refs], 60, lreadR_ok _ h1⟩
  · cases h
def sQ (r : List Int) : Int := r.getD 2 0 / 8
def aPut (r : List Int) : NA := naCs 76 6 r (lStream (sQ r) (r.getD 4 0)) (r.getD 5 0) (wordO ⟨r.getD 4 0, r.getD 0 0, r.getD 1 0, r.getD 2 0 % 8, r.getD 3 0⟩) 0
def aCnt (r : List Int) : NA := naLd 76 1 r (lRow 45 (sQ r) 3) 0
def aCut (r : List Int) : NA := naLd 76 5 r (lRow 48 (sQ r) 3) 0
def aOn (n : Int) (r : List Int) : NA := naCs 76 n r (lRow 45 (sQ r) 3) (r.getD 4 0) (r.getD 4 0 + 1) 0
def nApp (k : Int) (r : List Int) (x : Int) : NA :=
  if k = 0 ∨ k = 3 then aCnt r
  else if k = 1 then naLd 76 2 (r.set 4 x) (lStream (sQ r) x) 0
  else if k = 2 then (if (readW x).isSome = true ∧ (readO x).offset = r.getD 4 0 then aOn 3 (r.set 5 x)
    else if r.getD 4 0 = 0 then aPut (r.set 5 x)
    else naLd 76 4 (r.set 5 x) (lStream (sQ r) (r.getD 4 0 - 1)) 0)
  else if k = 4 then (if r.getD 0 0 < (readO x).place ∨ (readO x).place = r.getD 0 0 ∧ r.getD 1 0 ≤ (readO x).j then naEn 76 4 r [] true
    else if (readW x).isSome = false ∨ (readO x).offset ≠ r.getD 4 0 - 1 then aCnt r
    else if r.getD 5 0 = 0 then aPut r
    else aCut r)
  else if k = 5 then (if x < (readO (r.getD 5 0)).place then naCs 76 8 r (lRow 48 (sQ r) 3) x (readO (r.getD 5 0)).place 0 else aPut r)
  else if k = 6 then (if x = 0 then aCnt r else aOn 7 r)
  else if k = 7 then naEn 76 7 r [] true
  else aCut r
def fCnt (r : List Int) : NA := naLd 77 1 r (lRow 45 (r.getD 0 0) 3) 0
def fCut (r : List Int) : NA := naLd 77 3 r (lRow 48 (r.getD 0 0) 3) 0
def fPick (fr to : Int) (l : List Int) : List Int := l.reverse.filter fun w => decide (fr < (readO w).place ∧ (readO w).place ≤ to)
def fNxA (r : List Int) : NA := if r.getD 3 0 < 0 ∨ r.getD 4 0 = 16 then fCut r else naLd 77 2 r (lStream (r.getD 0 0) (r.getD 3 0)) 0
def fNxB (r : List Int) : NA := if 0 ≤ r.getD 4 0 ∧ r.getD 5 0 < 16 then naLd 77 2 r (lStream (r.getD 0 0) (r.getD 4 0)) 0 else fCut r
def fEnd (r : List Int) (l : List Int) : NA := naEn 77 3 r (0 :: fPick (r.getD 1 0) (r.getD 2 0) l) false
def fA (k : Int) (r : List Int) (x : Int) : NA :=
  if k = 0 ∨ k = 4 then fCnt r
  else if k = 1 then fNxA ((r.set 3 (x - 1)).set 4 0)
  else if k = 2 then (if x = 0 then fCut r
    else if (readW x).isSome = true ∧ (readO x).offset = r.getD 3 0 + r.getD 4 0 + 1 then naCs 77 4 r (lRow 45 (r.getD 0 0) 3) (r.getD 3 0 + r.getD 4 0 + 1) (r.getD 3 0 + r.getD 4 0 + 1 + 1) 0
    else if (readW x).isSome = false ∨ (readO x).offset ≠ r.getD 3 0 then fCnt r
    else fNxA (((r.set (5 + (r.getD 4 0).toNat) x).set 4 (r.getD 4 0 + 1)).set 3 (r.getD 3 0 - 1)))
  else if r.getD 1 0 < x then naEn 77 3 r [190] true else fEnd r ((r.drop 5).take (r.getD 4 0).toNat)
def fB (k : Int) (r : List Int) (x : Int) : NA :=
  if k = 0 ∨ k = 4 then fCnt r
  else if k = 1 then fNxB (((r.set 3 x).set 4 (x - 1)).set 5 0)
  else if k = 2 then (if x = 0 then fCut r
    else if (readW x).isSome = true ∧ (readO x).offset = r.getD 3 0 then naCs 77 4 r (lRow 45 (r.getD 0 0) 3) (r.getD 3 0) (r.getD 3 0 + 1) 0
    else if (readW x).isSome = false ∨ (readO x).offset ≠ r.getD 4 0 then fCnt r
    else fNxB (((r.set (6 + (r.getD 5 0).toNat) x).set 5 (r.getD 5 0 + 1)).set 4 (r.getD 4 0 - 1)))
  else if r.getD 1 0 < x then naEn 77 3 r [190] true else fEnd r ((r.drop 6).take (r.getD 5 0).toNat)
def nStr (own : Bool) (f : Frame) (got : List Int) : NA := if f.prog = 76 then nApp f.at' f.r (got.headD 0) else bif own then fB f.at' f.r (got.headD 0) else fA f.at' f.r (got.headD 0)
def bigW : Int := 72057594037927936
def okAp (k : Int) (r got : List Int) : Prop :=
  0 ≤ r.getD 2 0 ∧ r.getD 2 0 ≤ 23 ∧ (k = 0 ∧ got = [] ∨ ∃ x, got = [x] ∧ 1 ≤ k ∧ k ≤ 8 ∧ 0 ≤ x ∧ x ≤ bigW ∧ (k = 1 → x ≤ 1000000) ∧ (2 ≤ k → 0 ≤ r.getD 4 0 ∧ r.getD 4 0 ≤ 1000000) ∧ (3 ≤ k → 0 ≤ r.getD 5 0 ∧ r.getD 5 0 ≤ bigW))
def okFe (own : Bool) (k : Int) (r got : List Int) : Prop :=
  0 ≤ r.getD 0 0 ∧ r.getD 0 0 ≤ 2 ∧ (k = 0 ∧ got = [] ∨ ∃ x, got = [x] ∧ 1 ≤ k ∧ k ≤ 4 ∧ 0 ≤ x ∧ x ≤ bigW ∧ (k = 1 → x ≤ 1000000) ∧
    (k = 2 → bif own then 0 ≤ r.getD 3 0 ∧ r.getD 3 0 ≤ 1000000 ∧ 0 ≤ r.getD 4 0 ∧ r.getD 4 0 ≤ 1000000 ∧ 0 ≤ r.getD 5 0 ∧ r.getD 5 0 ≤ 15 else 0 ≤ r.getD 3 0 ∧ r.getD 3 0 ≤ 1000000 ∧ 0 ≤ r.getD 4 0 ∧ r.getD 4 0 ≤ 15) ∧
    (k = 3 → bif own then 0 ≤ r.getD 5 0 ∧ r.getD 5 0 ≤ 16 else 0 ≤ r.getD 4 0 ∧ r.getD 4 0 ≤ 16))
def okStr (own : Bool) (f : Frame) (got : List Int) : Prop :=
  f.r.length = 96 ∧ (∀ v ∈ f.r, v < 9223372036854775808) ∧ (f.prog = 76 ∧ okAp f.at' f.r got ∨ f.prog = 77 ∧ okFe own f.at' f.r got)
theorem wordO_range (l : Line) : 0 ≤ wordO l ∧ wordO l ≤ bigW := by
  unfold wordO bigW
  cases h : mayLn l
  · simp
  · obtain ⟨o, p, j, k, v⟩ := l
    unfold mayLn at h
    rw [decide_eq_true_eq] at h
    unfold wordL
    simp only at h ⊢
    simp only [cond_true]
    omega
open Go.Proofs
def rfC : Code → Option (Code × Code)
  | .rangeFunc _ _ a b => some (a, b)
  | .seq a b => (match rfC a with | some x => some x | none => rfC b)
  | .cond _ a b => (match rfC a with | some x => some x | none => rfC b)
  | .block _ b => rfC b
  | .loop b => rfC b
  | .scope b => rfC b
  | _ => none
noncomputable def rfF (f : Nat) : Code × Code := match p0.fn f with
  | some fn => (match fn.body with
    | some b => (match rfC b with | some x => x | none => (.skip, .skip))
    | none => (.skip, .skip))
  | none => (.skip, .skip)
noncomputable def fetA : Code := (rfF 50).1
noncomputable def fetB : Code := (rfF 50).2
theorem fPick_step {r l : List Int} {fr to i : Int} {b : Nat} (h0 : 0 ≤ i) (h : b + i.toNat < r.length) :
    l ++ fPick fr to ((r.drop b).take (i + 1).toNat) = (bif decide (fr < (readO (r.getD (b + i.toNat) 0)).place) && decide ((readO (r.getD (b + i.toNat) 0)).place ≤ to) then l ++ [r.getD (b + i.toNat) 0] else l) ++ fPick fr to ((r.drop b).take i.toNat) := by
  have e : (i + 1).toNat = i.toNat + 1 := by omega
  have e2 : (r.drop b).take (i.toNat + 1) = (r.drop b).take i.toNat ++ [r.getD (b + i.toNat) 0] := by
    rw [List.take_add_one, List.getElem?_drop, List.getElem?_eq_getElem h]
    simp [List.getD_eq_getElem?_getD, List.getElem?_eq_getElem h]
  rw [e, e2]
  unfold fPick
  simp only [List.reverse_append, List.reverse_singleton, List.singleton_append, List.filter_cons]
  generalize r.getD (b + i.toNat) 0 = x
  by_cases c1 : fr < (readO x).place <;> by_cases c2 : (readO x).place ≤ to <;> simp [c1, c2]
theorem getD_mem {r : List Int} {n : Nat} {P : Int → Prop} (h : ∀ v ∈ r, P v) (hn : n < r.length) : P (r.getD n 0) := by
  rw [List.getD_eq_getElem?_getD, List.getElem?_eq_getElem hn]; exact h _ (List.getElem_mem hn)
def OkFt (r l : List Int) (i : Int) : Prop := -1 ≤ i ∧ i ≤ 15 ∧ r.length = 96 ∧ (∀ v ∈ r, v < 9223372036854775808) ∧ (l.length : Int) + i ≤ 100
structure fetRl_St where
  p : Int
  k : Int
  r : List Int
  l : List Int
  i : Int
noncomputable def fetRl_c (p : Int) (k : Int) (r : List Int) (l : List Int) (i : Int) : Env RC := [(2, .ptr 0 []), (10, .vs 1 (l.length)), (11, .int .i64 i)]
def fetRl_o (p : Int) (k : Int) (r : List Int) (l : List Int) (i : Int) : List (Obj RC) := [.var 73 (.acons (.int .i8 p) (.acons (.int .i64 k) (.acons (.arr (C := RC) .int 96 r) .anil))), .vec .int false l]
noncomputable def fetRl_r (p : Int) (k : Int) (r : List Int) (l : List Int) (i : Int) := rndO s19 ud_6 119 32 60 2 [2, 10, 11] [10] [.slot 2 0, .slot 10 0] (fetRl_c p k r l i) (fetRl_o p k r l i)
theorem fetRl_eq (p : Int) (k : Int) (r : List Int) (l : List Int) (i : Int) : fetRl_r p k r l i = (let Z0 : Int := IntKind.wrap .i64 ((6 : Int) + i); let Z1 : Bool := decide ((0 : Int) ≤ Z0 ∧ Z0 < (96 : Int)); let Z2 : Int := List.getD r Z0.toNat (0 : Int); let Z3 : Int := Line.place (readO Z2); let Z4 : Nat := List.length l; let Z5 : Nat := Z4 + List.length [Z2]; let Z6 : Nat × D RC := (2, D.ptr 0 []); let Z7 : List (Nat × D RC) := [(11, D.int .i64 (IntKind.wrap .i64 (i - (1 : Int))))]; let Z8 : Option (Obj RC) := some (Obj.var 73 (.acons (D.int IntKind.i8 p) (.acons (D.int .i64 k) (.acons (D.arr RTy.int (96 : Nat) r) .anil)))); let Z9 : Nat × D RC := (10, D.vs 1 Z4); let Z10 : RO_ := some ((X.normal, Z6 :: Z9 :: Z7), [Z8, some (Obj.vec RTy.int false l)]); bif decide ((0 : Int) ≤ i) then bif Z1 then bif decide (Z2 < (9223372036854775808 : Int)) then bif decide (List.getD r (1 : Nat) (0 : Int) < Z3) then bif decide (Z3 ≤ List.getD r (2 : Nat) (0 : Int)) then bif Z1 then bif Nat.beq Z4 Z4 && sizeOK Z5 (8 : Nat) then some ((X.normal, Z6 :: (10, D.vs 1 Z5) :: Z7), [Z8, some (Obj.vec RTy.int false (l ++ [Z2]))]) else none else none else Z10 else Z10 else none else none else some ((X.exit (1 : Nat), [Z9]), [Z8, some (Obj.vec RTy.int false l)])) := by kernel_rfl
noncomputable def fetRl_fin (p : Int) (k : Int) (r : List Int) (l : List Int) (i : Int) : RT RC := .leaf (.exit 1) [(10, .vs 1 (l ++ fPick (r.getD 1 0) (r.getD 2 0) ((r.drop 6).take (i + 1).toNat)).length)] (fetRl_o p k r (l ++ fPick (r.getD 1 0) (r.getD 2 0) ((r.drop 6).take (i + 1).toNat)) i)
def fetRl_Inv (p : Int) (k : Int) (r : List Int) (l : List Int) (i : Int) : Prop := OkFt r l i
noncomputable def fetRl_S : LoopR RC fetRl_St where
  k := 2
  canon q := fetRl_c q.p q.k q.r q.l q.i
  objs q := fetRl_o q.p q.k q.r q.l q.i
  fin q := fetRl_fin q.p q.k q.r q.l q.i
  Inv q := fetRl_Inv q.p q.k q.r q.l q.i
  μ q := (q.i + 1).toNat
theorem fetRl_round (p : Int) (k : Int) (r : List Int) (l : List Int) (i : Int) (hI : fetRl_Inv p k r l i) : Leaf (fetRl_r p k r l i) (LedR fetRl_S ⟨p, k, r, l, i⟩) := by
  (rw [fetRl_eq]; conv => zeta)
  unfold fetRl_Inv at hI
  have hI' := hI
  obtain ⟨h1, h2, h3, h4, h5⟩ := hI
  have hlo : 1 ≤ i ∨ True := .inr trivial
  by_cases hi : 0 ≤ i
  · have w1 : IntKind.i64.wrap (6 + i) = 6 + i := wrap_id (by omega) (by omega)
    have w2 : IntKind.i64.wrap (i - 1) = i - 1 := wrap_id (by omega) (by omega)
    have t1 : (6 + i).toNat = 6 + i.toNat := by omega
    have d1 : decide (0 ≤ 6 + i ∧ 6 + i < 96) = true := decide_eq_true ⟨by omega, by omega⟩
    have d2 : decide (r.getD (6 + i.toNat) 0 < 9223372036854775808) = true := decide_eq_true (getD_mem h4 (by omega))
    have hst := fPick_step (l := l) (fr := r.getD 1 0) (to := r.getD 2 0) (b := 6) hi (by omega : 6 + i.toNat < r.length)
    have e1 : (i - 1 + 1).toNat = i.toNat := by omega
    simp only [w1, w2, t1, d1, d2, decide_eq_true hi, nbeqT rfl, cond_true]
    generalize r.getD (6 + i.toNat) 0 = x at hst d2 ⊢
    have hgo : ∀ l' : List Int, l'.length ≤ l.length + 1 → l ++ fPick (r.getD 1 0) (r.getD 2 0) ((r.drop 6).take (i + 1).toNat) = l' ++ fPick (r.getD 1 0) (r.getD 2 0) ((r.drop 6).take i.toNat) → Leaf (some ((X.normal, fetRl_c p k r l' (i - 1)), (fetRl_o p k r l' (i - 1)).map some)) (LedR fetRl_S ⟨p, k, r, l, i⟩) := fun l' hl e => by
      have hO : OkFt r l' (i - 1) := ⟨by omega, by omega, h3, h4, by omega⟩
      refine leafR_go (S := fetRl_S) ⟨p, k, r, l', i - 1⟩ hO (by simp only [fetRl_S]; omega) ?_ rfl rfl
      simp only [fetRl_S, fetRl_fin, fetRl_o, e1, e]
    cases c1 : decide (r.getD 1 0 < (readO x).place)
    · simp only [c1, Bool.false_and, cond_false] at hst ⊢
      exact hgo l (by omega) hst
    · cases c2 : decide ((readO x).place ≤ r.getD 2 0)
      · simp only [c1, c2, Bool.and_false, cond_false, cond_true] at hst ⊢
        exact hgo l (by omega) hst
      · have d3 : sizeOK (l.length + [x].length) 8 = true := sizeT (by simp only [List.length_cons, List.length_nil]; omega)
        simp only [c1, c2, d3, Bool.and_self, cond_true] at hst ⊢
        have e2 : l.length + [x].length = (l ++ [x]).length := by simp
        rw [e2]
        exact hgo (l ++ [x]) (by simp) hst
  · have e : i = -1 := by omega
    rw [decide_eq_false hi]
    subst e
    have e0 : l ++ fPick (r.getD 1 0) (r.getD 2 0) ((r.drop 6).take ((-1 : Int) + 1).toNat) = l := by
      rw [show ((-1 : Int) + 1).toNat = 0 from rfl]; simp [fPick]
    exact leafR_exit (fetRl_o p k r l (-1)) (by show (fetRl_fin p k r l (-1)).val = _; unfold fetRl_fin; rw [e0]; rfl) rfl
noncomputable def fetRl_d (env : Env RC) (os : List (Obj RC)) : Option (Bool × fetRl_St) := match env, os with
  | [(2, .ptr 0 []), (10, .vs 1 x0), (11, .int .i64 i)], [.var 73 (.acons (.int .i8 p) (.acons (.int .i64 k) (.acons (.arr .int 96 r) .anil))), .vec .int false l] => staticD (true) (decide (x0 = l.length) && cdec (OkFt r l i), ⟨p, k, r, l, i⟩)
  | _, _ => none
noncomputable def ue_1 := ud_6.addLoop 119 32 (sumR s19 [.slot 2 0, .slot 10 0] [2, 10, 11] fetRl_S fetRl_d)
theorem ue_1_laws : FLaws Tryz.prog s19 ue_1 := by
  refine ud_6_laws.addRoundsR s19_laws (by kernel_rfl) fetRl_S 60 [2, 10, 11] [10] [.slot 2 0, .slot 10 0] [2, 10, 11] fetRl_d (fun q hI => ?_) ?_
  · obtain ⟨p, k, r, l, i⟩ := q
    refine ⟨?_, ?_, fetRl_round p k r l i hI⟩
    · simp_all [RefsOK, fetRl_S, fetRl_c, fetRl_o, fetRl_Inv, D.refs, Obj.refs, rEnc]
    · simp_all [fetRl_S, fetRl_fin, fetRl_o, fetRl_Inv, RT.refsOK, RefsOK, D.refs, Obj.refs, rEnc]
  · intro env os b q hd_ hb
    unfold fetRl_d at hd_
    split at hd_
    · obtain ⟨hs, hd_⟩ := staticD_some hd_
      cases hd_
      simp only [Bool.and_eq_true, decide_eq_true_eq] at hb
      obtain ⟨e1, e2⟩ := hb
      subst e1
      exact ⟨cdec_iff.1 e2, rfl, rfl⟩
    · cases hd_
structure fetPl_St where
  p : Int
  k : Int
  r : List Int
  gc : Bool
  got : List Int
  x : Int
  l : List Int
  i : Int
  m : Nat
noncomputable def fetPl_c (p : Int) (k : Int) (r : List Int) (gc : Bool) (got : List Int) (x : Int) (l : List Int) (i : Int) (m : Nat) : Env RC := [(0, .yl 75 [4, 1] [39, 40] (fetA) (fetB) (.acons (.ptr 2 []) (.acons (.ptr 0 []) .anil))), (1, .ptr 4 []), (3, .int .i64 i)]
def fetPl_o (p : Int) (k : Int) (r : List Int) (gc : Bool) (got : List Int) (x : Int) (l : List Int) (i : Int) (m : Nat) : List (Obj RC) := [.var 97 (.ptr 1 []), .var 111 (.acons (.acons (.int .i8 p) (.acons (.int .i64 k) (.acons (.arr (C := RC) .int 96 r) .anil))) (.acons (.sl (C := RC) .int gc got) (.acons (.int .i64 x) .anil))), .var 36 (.vs 3 (l.length)), .vec .int false l, .var 36 (.asl 71 1 [0, 2] 5 m)]
noncomputable def fetPl_r (p : Int) (k : Int) (r : List Int) (gc : Bool) (got : List Int) (x : Int) (l : List Int) (i : Int) (m : Nat) := rndO s19 ue_1 98 1 100 5 [0, 1, 3] [] [.slot 0 1, .path 0 [], .slot 0 0, .path 2 [], .slot 1 0] (fetPl_c p k r gc got x l i m) (fetPl_o p k r gc got x l i m)
theorem fetPl_eq (p : Int) (k : Int) (r : List Int) (gc : Bool) (got : List Int) (x : Int) (l : List Int) (i : Int) (m : Nat) : fetPl_r p k r gc got x l i m = (let Z0 : Int := List.getD r ((5 : Nat) + Int.toNat i) (0 : Int); let Z1 : Int := Line.place (readO Z0); let Z2 : Nat := List.length l; let Z3 : Nat := Z2 + List.length [Z0]; let Z4 : X × Env RC := (X.normal, [(0, D.yl (75 : Nat) [(4 : Nat), (1 : Nat)] [(39 : Nat), (40 : Nat)] fetA fetB (D.acons (D.ptr 2 []) (.acons (D.ptr 0 []) .anil))), (1, D.ptr 4 []), (3, D.int .i64 (IntKind.wrap .i64 (i - (1 : Int))))]); let Z5 : Option (Obj RC) := some (Obj.var 97 (D.ptr 1 [])); let Z6 : Option (Obj RC) := some (Obj.var 111 (.acons (D.acons (D.int IntKind.i8 p) (.acons (D.int .i64 k) (.acons (D.arr RTy.int (96 : Nat) r) .anil))) (.acons (D.sl RTy.int gc got) (.acons (D.int .i64 x) .anil)))); let Z7 : List (Option (Obj RC)) := [some (Obj.var 36 (D.asl (71 : Nat) (1 : Nat) [(0 : Nat), (2 : Nat)] (5 : Nat) m))]; let Z8 : List (Option (Obj RC)) := Z5 :: Z6 :: some (Obj.var 36 (D.vs 3 Z2)) :: some (Obj.vec RTy.int false l) :: Z7; bif decide ((0 : Int) ≤ i) then bif decide ((0 : Int) ≤ i ∧ i < (↑m : Int)) then bif decide (Z0 < (9223372036854775808 : Int)) then bif decide (List.getD r (1 : Nat) (0 : Int) < Z1) then bif decide (Z1 ≤ List.getD r (2 : Nat) (0 : Int)) then bif Nat.beq Z2 Z2 && sizeOK Z3 (8 : Nat) then some (Z4, Z5 :: Z6 :: some (Obj.var 36 (D.vs 3 Z3)) :: some (Obj.vec RTy.int false (l ++ [Z0])) :: Z7) else none else some (Z4, Z8) else some (Z4, Z8) else none else none else some ((X.exit (0 : Nat), []), Z8)) := by kernel_rfl
noncomputable def fetPl_fin (p : Int) (k : Int) (r : List Int) (gc : Bool) (got : List Int) (x : Int) (l : List Int) (i : Int) (m : Nat) : RT RC := .leaf (.exit 0) [] (fetPl_o p k r gc got x (l ++ fPick (r.getD 1 0) (r.getD 2 0) ((r.drop 5).take (i + 1).toNat)) i m)
def fetPl_Inv (p : Int) (k : Int) (r : List Int) (gc : Bool) (got : List Int) (x : Int) (l : List Int) (i : Int) (m : Nat) : Prop := OkFt r l i ∧ i < m ∧ m ≤ 16
noncomputable def fetPl_S : LoopR RC fetPl_St where
  k := 5
  canon q := fetPl_c q.p q.k q.r q.gc q.got q.x q.l q.i q.m
  objs q := fetPl_o q.p q.k q.r q.gc q.got q.x q.l q.i q.m
  fin q := fetPl_fin q.p q.k q.r q.gc q.got q.x q.l q.i q.m
  Inv q := fetPl_Inv q.p q.k q.r q.gc q.got q.x q.l q.i q.m
  μ q := (q.i + 1).toNat
theorem fetPl_round (p : Int) (k : Int) (r : List Int) (gc : Bool) (got : List Int) (x : Int) (l : List Int) (i : Int) (m : Nat) (hI : fetPl_Inv p k r gc got x l i m) : Leaf (fetPl_r p k r gc got x l i m) (LedR fetPl_S ⟨p, k, r, gc, got, x, l, i, m⟩) := by
  (rw [fetPl_eq]; conv => zeta)
  unfold fetPl_Inv at hI
  obtain ⟨⟨h1, h2, h3, h4, h5⟩, h6, h7⟩ := hI
  by_cases hi : 0 ≤ i
  · have w2 : IntKind.i64.wrap (i - 1) = i - 1 := wrap_id (by omega) (by omega)
    have d1 : decide (0 ≤ i ∧ i < (m : Int)) = true := decide_eq_true ⟨by omega, by omega⟩
    have d2 : decide (r.getD (5 + i.toNat) 0 < 9223372036854775808) = true := decide_eq_true (getD_mem h4 (by omega))
    have hst := fPick_step (l := l) (fr := r.getD 1 0) (to := r.getD 2 0) (b := 5) hi (by omega : 5 + i.toNat < r.length)
    have e1 : (i - 1 + 1).toNat = i.toNat := by omega
    simp only [w2, d1, d2, decide_eq_true hi, nbeqT rfl, cond_true]
    generalize r.getD (5 + i.toNat) 0 = y at hst d2 ⊢
    have hgo : ∀ l' : List Int, l'.length ≤ l.length + 1 → l ++ fPick (r.getD 1 0) (r.getD 2 0) ((r.drop 5).take (i + 1).toNat) = l' ++ fPick (r.getD 1 0) (r.getD 2 0) ((r.drop 5).take i.toNat) → Leaf (some ((X.normal, fetPl_c p k r gc got x l' (i - 1) m), (fetPl_o p k r gc got x l' (i - 1) m).map some)) (LedR fetPl_S ⟨p, k, r, gc, got, x, l, i, m⟩) := fun l' hl e => by
      have hO : OkFt r l' (i - 1) ∧ i - 1 < (m : Int) ∧ m ≤ 16 := ⟨⟨by omega, by omega, h3, h4, by omega⟩, by omega, h7⟩
      refine leafR_go (S := fetPl_S) ⟨p, k, r, gc, got, x, l', i - 1, m⟩ hO (by simp only [fetPl_S]; omega) ?_ rfl rfl
      simp only [fetPl_S, fetPl_fin, fetPl_o, e1, e]
    cases c1 : decide (r.getD 1 0 < (readO y).place)
    · simp only [c1, Bool.false_and, cond_false] at hst ⊢
      exact hgo l (by omega) hst
    · cases c2 : decide ((readO y).place ≤ r.getD 2 0)
      · simp only [c1, c2, Bool.and_false, cond_false, cond_true] at hst ⊢
        exact hgo l (by omega) hst
      · have d3 : sizeOK (l.length + [y].length) 8 = true := sizeT (by simp only [List.length_cons, List.length_nil]; omega)
        simp only [c1, c2, d3, Bool.and_self, cond_true] at hst ⊢
        have e2 : l.length + [y].length = (l ++ [y]).length := by simp
        rw [e2]
        exact hgo (l ++ [y]) (by simp) hst
  · have e : i = -1 := by omega
    rw [decide_eq_false hi]
    subst e
    have e0 : l ++ fPick (r.getD 1 0) (r.getD 2 0) ((r.drop 5).take ((-1 : Int) + 1).toNat) = l := by
      rw [show ((-1 : Int) + 1).toNat = 0 from rfl]; simp [fPick]
    exact leafR_exit (fetPl_o p k r gc got x l (-1) m) (by show (fetPl_fin p k r gc got x l (-1) m).val = _; unfold fetPl_fin; rw [e0]; rfl) rfl
noncomputable def fetPl_d (env : Env RC) (os : List (Obj RC)) : Option (Bool × fetPl_St) := match env, os with
  | [(0, .yl 75 [4, 1] [39, 40] x0 x1 (.acons (.ptr 2 []) (.acons (.ptr 0 []) .anil))), (1, .ptr 4 []), (3, .int .i64 i)], [.var 97 (.ptr 1 []), .var 111 (.acons (.acons (.int .i8 p) (.acons (.int .i64 k) (.acons (.arr .int 96 r) .anil))) (.acons (.sl .int gc got) (.acons (.int .i64 x) .anil))), .var 36 (.vs 3 x2), .vec .int false l, .var 36 (.asl 71 1 [0, 2] 5 m)] => staticD (true) (cdec (x0 = fetA) && cdec (x1 = fetB) && decide (x2 = l.length) && cdec (OkFt r l i ∧ i < m ∧ m ≤ 16), ⟨p, k, r, gc, got, x, l, i, m⟩)
  | _, _ => none
noncomputable def ue_2 := ue_1.addLoop 98 1 (sumR s19 [.slot 0 1, .path 0 [], .slot 0 0, .path 2 [], .slot 1 0] [0, 1, 3] fetPl_S fetPl_d)
theorem ue_2_laws : FLaws Tryz.prog s19 ue_2 := by
  refine ue_1_laws.addRoundsR s19_laws (by kernel_rfl) fetPl_S 100 [0, 1, 3] [] [.slot 0 1, .path 0 [], .slot 0 0, .path 2 [], .slot 1 0] [0, 1, 3] fetPl_d (fun q hI => ?_) ?_
  · obtain ⟨p, k, r, gc, got, x, l, i, m⟩ := q
    refine ⟨?_, ?_, fetPl_round p k r gc got x l i m hI⟩
    · simp_all [RefsOK, fetPl_S, fetPl_c, fetPl_o, fetPl_Inv, D.refs, Obj.refs, rEnc]
    · simp_all [fetPl_S, fetPl_fin, fetPl_o, fetPl_Inv, RT.refsOK, RefsOK, D.refs, Obj.refs, rEnc]
  · intro env os b q hd_ hb
    unfold fetPl_d at hd_
    split at hd_
    · obtain ⟨hs, hd_⟩ := staticD_some hd_
      cases hd_
      simp only [Bool.and_eq_true, decide_eq_true_eq] at hb
      obtain ⟨⟨⟨e1, e2⟩, e3⟩, e4⟩ := hb
      have e1 := cdec_iff.1 e1
      have e2 := cdec_iff.1 e2
      subst e1
      subst e2
      subst e3
      exact ⟨cdec_iff.1 e4, rfl, rfl⟩
    · cases hd_
open Go.Proofs
def naR (n : NA) : D RC := .tup (.acons (frmR n.f) (.acons (actR n.a n.fl) .anil))
theorem naR_refs (n : NA) : (naR n).refs = [] := rfl
noncomputable def nxStrP_s (p : Int) (k : Int) (r : List Int) (gc : Bool) (got : List Int) : Option (Bool × D RC) := some (cdec (okStr false ⟨p, k, r⟩ got), naR (nStr false ⟨p, k, r⟩ got))
noncomputable def nxStrP_sp : List (D RC) → Option (Bool × D RC)
  | [.acons (.int .i8 p) (.acons (.int .i64 k) (.acons (.arr .int 96 r) .anil)), .sl .int gc got] => nxStrP_s p k r gc got
  | _ => none
noncomputable def nxStrP_e (p : Int) (k : Int) (r : List Int) (gc : Bool) (got : List Int) := evF s19 ue_2 120 24 [.acons (.int .i8 p) (.acons (.int .i64 k) (.acons (.arr (C := RC) .int 96 r) .anil)), .sl (C := RC) .int gc got]
theorem nxStrP_76_0 (r : List Int) (gc : Bool) : nxStrP_e 76 0 r gc [] = (let Z0 : D RC := D.int .i64 0; some (D.tup (D.acons (D.acons (D.int IntKind.i8 (76 : Int)) (.acons (D.int .i64 1) (.acons (D.arr RTy.int (96 : Nat) r) .anil))) (.acons (D.acons (D.int IntKind.i8 (0 : Int)) (.acons (D.int .i64 (lRow (45 : Int) (IntKind.wrap .i64 (Int.tdiv (List.getD r (2 : Nat) (0 : Int)) (8 : Int))) (3 : Int))) (.acons Z0 (D.acons Z0 (D.acons Z0 (D.acons (D.str []) (.acons (D.sl RTy.int true []) .anil))))))) .anil)))) := by kernel_rfl
theorem nxStrP_76_1 (x : Int) (r : List Int) (gc : Bool) : nxStrP_e 76 1 r gc [x] = (let Z0 : List Int := List.set r (4 : Nat) x; let Z1 : D RC := D.int .i64 0; some (D.tup (D.acons (D.acons (D.int IntKind.i8 (76 : Int)) (.acons (D.int .i64 2) (.acons (D.arr RTy.int (96 : Nat) Z0) .anil))) (.acons (D.acons (D.int IntKind.i8 (0 : Int)) (.acons (D.int .i64 (lStream (IntKind.wrap .i64 (Int.tdiv (List.getD Z0 (2 : Nat) (0 : Int)) (8 : Int))) (IntKind.wrap .i64 (List.getD Z0 (4 : Nat) (0 : Int) - (0 : Int))))) (.acons Z1 (D.acons Z1 (D.acons Z1 (D.acons (D.str []) (.acons (D.sl RTy.int true []) .anil))))))) .anil)))) := by kernel_rfl
theorem nxStrP_76_2 (x : Int) (r : List Int) (gc : Bool) : nxStrP_e 76 2 r gc [x] = (let Z0 : List Int := List.set r (5 : Nat) x; let Z1 : Int := List.getD Z0 (4 : Nat) (0 : Int); let Z2 : D RC := D.int IntKind.i8 (76 : Int); let Z3 : D RC := .anil; let Z4 : D RC := D.acons (D.arr RTy.int (96 : Nat) Z0) Z3; let Z5 : D RC := D.int IntKind.i8 (2 : Int); let Z6 : Int := List.getD Z0 (2 : Nat) (0 : Int); let Z7 : Int := IntKind.wrap .i64 (Int.tdiv Z6 (8 : Int)); let Z8 : D RC := D.int .i64 0; let Z9 : D RC := D.acons Z8 (D.acons (D.str []) (.acons (D.sl RTy.int true []) Z3)); let Z10 : DO_ := bif Z1 == (0 : Int) then some (D.tup (D.acons (D.acons Z2 (D.acons (D.int .i64 6) Z4)) (.acons (D.acons Z5 (D.acons (D.int .i64 (lStream Z7 (IntKind.wrap .i64 (Z1 - (0 : Int))))) (.acons (D.int .i64 (List.getD Z0 (5 : Nat) (0 : Int))) (.acons (D.int .i64 (wordO (Line.mk Z1 (List.getD Z0 (0 : Nat) (0 : Int)) (List.getD Z0 (1 : Nat) (0 : Int)) (Int.tmod Z6 (8 : Int)) (List.getD Z0 (3 : Nat) (0 : Int))))) Z9)))) Z3))) else some (D.tup (D.acons (D.acons Z2 (D.acons (D.int .i64 4) Z4)) (.acons (D.acons (D.int IntKind.i8 (0 : Int)) (.acons (D.int .i64 (lStream Z7 (IntKind.wrap .i64 (Z1 - (1 : Int))))) (.acons Z8 (D.acons Z8 Z9)))) Z3))); bif decide (x < (9223372036854775808 : Int)) then bif Option.isSome (readW x) then bif Line.offset (readO x) == Z1 then some (D.tup (D.acons (D.acons Z2 (D.acons (D.int .i64 3) Z4)) (.acons (D.acons Z5 (D.acons (D.int .i64 (lRow (45 : Int) Z7 (3 : Int))) (.acons (D.int .i64 Z1) (.acons (D.int .i64 (IntKind.wrap .i64 (Z1 + (1 : Int)))) Z9)))) Z3))) else Z10 else Z10 else none) := by kernel_rfl
theorem nxStrP_76_3 (x : Int) (r : List Int) (gc : Bool) : nxStrP_e 76 3 r gc [x] = (let Z0 : D RC := D.int .i64 0; some (D.tup (D.acons (D.acons (D.int IntKind.i8 (76 : Int)) (.acons (D.int .i64 1) (.acons (D.arr RTy.int (96 : Nat) r) .anil))) (.acons (D.acons (D.int IntKind.i8 (0 : Int)) (.acons (D.int .i64 (lRow (45 : Int) (IntKind.wrap .i64 (Int.tdiv (List.getD r (2 : Nat) (0 : Int)) (8 : Int))) (3 : Int))) (.acons Z0 (D.acons Z0 (D.acons Z0 (D.acons (D.str []) (.acons (D.sl RTy.int true []) .anil))))))) .anil)))) := by kernel_rfl
theorem nxStrP_76_4 (x : Int) (r : List Int) (gc : Bool) : nxStrP_e 76 4 r gc [x] = (let Z0 : Int := List.getD r (0 : Nat) (0 : Int); let Z1 : Int := Line.place (readO x); let Z2 : D RC := D.int IntKind.i8 (76 : Int); let Z3 : D RC := .anil; let Z4 : D RC := D.acons (D.arr RTy.int (96 : Nat) r) Z3; let Z5 : D RC := D.int .i64 0; let Z6 : D RC := D.acons Z5 (D.acons (D.str []) (.acons (D.sl RTy.int true []) Z3)); let Z7 : D RC := D.acons Z5 (D.acons Z5 Z6); let Z8 : DO_ := some (D.tup (D.acons (D.acons Z2 (D.acons (D.int .i64 4) Z4)) (.acons (D.acons (D.int IntKind.i8 (7 : Int)) (.acons Z5 Z7)) Z3))); let Z9 : Int := List.getD r (1 : Nat) (0 : Int); let Z10 : D RC := D.int IntKind.i8 (0 : Int); let Z11 : Int := List.getD r (2 : Nat) (0 : Int); let Z12 : Int := IntKind.wrap .i64 (Int.tdiv Z11 (8 : Int)); let Z13 : DO_ := some (D.tup (D.acons (D.acons Z2 (D.acons (D.int .i64 1) Z4)) (.acons (D.acons Z10 (D.acons (D.int .i64 (lRow (45 : Int) Z12 (3 : Int))) Z7)) Z3))); let Z14 : Int := List.getD r (4 : Nat) (0 : Int); let Z15 : Int := List.getD r (5 : Nat) (0 : Int); let Z16 : DO_ := bif !Option.isSome (readW x) then Z13 else bif Line.offset (readO x) != IntKind.wrap .i64 (Z14 - (1 : Int)) then Z13 else bif Z15 == (0 : Int) then some (D.tup (D.acons (D.acons Z2 (D.acons (D.int .i64 6) Z4)) (.acons (D.acons (D.int IntKind.i8 (2 : Int)) (.acons (D.int .i64 (lStream Z12 (IntKind.wrap .i64 (Z14 - (0 : Int))))) (.acons (D.int .i64 Z15) (.acons (D.int .i64 (wordO (Line.mk Z14 Z0 Z9 (Int.tmod Z11 (8 : Int)) (List.getD r (3 : Nat) (0 : Int))))) Z6)))) Z3))) else some (D.tup (D.acons (D.acons Z2 (D.acons (D.int .i64 5) Z4)) (.acons (D.acons Z10 (D.acons (D.int .i64 (lRow (48 : Int) Z12 (3 : Int))) Z7)) Z3))); bif decide (x < (9223372036854775808 : Int)) then bif decide (Z0 < Z1) then Z8 else bif Z1 == Z0 then bif decide (Z9 ≤ Line.j (readO x)) then Z8 else Z16 else Z16 else none) := by kernel_rfl
theorem nxStrP_76_5 (x : Int) (r : List Int) (gc : Bool) : nxStrP_e 76 5 r gc [x] = (let Z0 : Int := List.getD r (5 : Nat) (0 : Int); let Z1 : Int := Line.place (readO Z0); let Z2 : D RC := D.int IntKind.i8 (76 : Int); let Z3 : D RC := D.acons (D.arr RTy.int (96 : Nat) r) .anil; let Z4 : D RC := D.int IntKind.i8 (2 : Int); let Z5 : Int := List.getD r (2 : Nat) (0 : Int); let Z6 : Int := IntKind.wrap .i64 (Int.tdiv Z5 (8 : Int)); let Z7 : D RC := D.acons (D.int .i64 0) (.acons (D.str []) (.acons (D.sl RTy.int true []) .anil)); let Z8 : Int := List.getD r (4 : Nat) (0 : Int); bif decide (Z0 < (9223372036854775808 : Int)) then bif decide (x < Z1) then some (D.tup (D.acons (D.acons Z2 (D.acons (D.int .i64 8) Z3)) (.acons (D.acons Z4 (D.acons (D.int .i64 (lRow (48 : Int) Z6 (3 : Int))) (.acons (D.int .i64 x) (.acons (D.int .i64 Z1) Z7)))) .anil))) else some (D.tup (D.acons (D.acons Z2 (D.acons (D.int .i64 6) Z3)) (.acons (D.acons Z4 (D.acons (D.int .i64 (lStream Z6 (IntKind.wrap .i64 (Z8 - (0 : Int))))) (.acons (D.int .i64 Z0) (.acons (D.int .i64 (wordO (Line.mk Z8 (List.getD r (0 : Nat) (0 : Int)) (List.getD r (1 : Nat) (0 : Int)) (Int.tmod Z5 (8 : Int)) (List.getD r (3 : Nat) (0 : Int))))) Z7)))) .anil))) else none) := by kernel_rfl
theorem nxStrP_76_6 (x : Int) (r : List Int) (gc : Bool) : nxStrP_e 76 6 r gc [x] = (let Z0 : D RC := D.int IntKind.i8 (76 : Int); let Z1 : D RC := D.acons (D.arr RTy.int (96 : Nat) r) .anil; let Z2 : D RC := D.int .i64 (lRow (45 : Int) (IntKind.wrap .i64 (Int.tdiv (List.getD r (2 : Nat) (0 : Int)) (8 : Int))) (3 : Int)); let Z3 : D RC := D.int .i64 0; let Z4 : D RC := D.acons Z3 (D.acons (D.str []) (.acons (D.sl RTy.int true []) .anil)); let Z5 : Int := List.getD r (4 : Nat) (0 : Int); bif x == (0 : Int) then some (D.tup (D.acons (D.acons Z0 (D.acons (D.int .i64 1) Z1)) (.acons (D.acons (D.int IntKind.i8 (0 : Int)) (.acons Z2 (D.acons Z3 (D.acons Z3 Z4)))) .anil))) else some (D.tup (D.acons (D.acons Z0 (D.acons (D.int .i64 7) Z1)) (.acons (D.acons (D.int IntKind.i8 (2 : Int)) (.acons Z2 (D.acons (D.int .i64 Z5) (.acons (D.int .i64 (IntKind.wrap .i64 (Z5 + (1 : Int)))) Z4)))) .anil)))) := by kernel_rfl
theorem nxStrP_76_7 (x : Int) (r : List Int) (gc : Bool) : nxStrP_e 76 7 r gc [x] = (let Z0 : D RC := D.int .i64 0; some (D.tup (D.acons (D.acons (D.int IntKind.i8 (76 : Int)) (.acons (D.int .i64 7) (.acons (D.arr RTy.int (96 : Nat) r) .anil))) (.acons (D.acons (D.int IntKind.i8 (7 : Int)) (.acons Z0 (D.acons Z0 (D.acons Z0 (D.acons Z0 (D.acons (D.str []) (.acons (D.sl RTy.int true []) .anil))))))) .anil)))) := by kernel_rfl
theorem nxStrP_76_8 (x : Int) (r : List Int) (gc : Bool) : nxStrP_e 76 8 r gc [x] = (let Z0 : D RC := D.int .i64 0; some (D.tup (D.acons (D.acons (D.int IntKind.i8 (76 : Int)) (.acons (D.int .i64 5) (.acons (D.arr RTy.int (96 : Nat) r) .anil))) (.acons (D.acons (D.int IntKind.i8 (0 : Int)) (.acons (D.int .i64 (lRow (48 : Int) (IntKind.wrap .i64 (Int.tdiv (List.getD r (2 : Nat) (0 : Int)) (8 : Int))) (3 : Int))) (.acons Z0 (D.acons Z0 (D.acons Z0 (D.acons (D.str []) (.acons (D.sl RTy.int true []) .anil))))))) .anil)))) := by kernel_rfl
theorem nxStrP_77_0 (r : List Int) (gc : Bool) : nxStrP_e 77 0 r gc [] = (let Z0 : D RC := D.int .i64 0; some (D.tup (D.acons (D.acons (D.int IntKind.i8 (77 : Int)) (.acons (D.int .i64 1) (.acons (D.arr RTy.int (96 : Nat) r) .anil))) (.acons (D.acons (D.int IntKind.i8 (0 : Int)) (.acons (D.int .i64 (lRow (45 : Int) (List.getD r (0 : Nat) (0 : Int)) (3 : Int))) (.acons Z0 (D.acons Z0 (D.acons Z0 (D.acons (D.str []) (.acons (D.sl RTy.int true []) .anil))))))) .anil)))) := by kernel_rfl
theorem nxStrP_77_1 (x : Int) (r : List Int) (gc : Bool) : nxStrP_e 77 1 r gc [x] = (let Z0 : List Int := List.set (List.set r (3 : Nat) (IntKind.wrap .i64 (x - (1 : Int)))) (4 : Nat) (0 : Int); let Z1 : Int := List.getD Z0 (3 : Nat) (0 : Int); let Z2 : D RC := D.int IntKind.i8 (77 : Int); let Z3 : D RC := D.acons (D.arr RTy.int (96 : Nat) Z0) .anil; let Z4 : D RC := D.int IntKind.i8 (0 : Int); let Z5 : Int := List.getD Z0 (0 : Nat) (0 : Int); let Z6 : D RC := D.int .i64 0; let Z7 : D RC := D.acons Z6 (D.acons Z6 (D.acons Z6 (D.acons (D.str []) (.acons (D.sl RTy.int true []) .anil)))); let Z8 : DO_ := some (D.tup (D.acons (D.acons Z2 (D.acons (D.int .i64 3) Z3)) (.acons (D.acons Z4 (D.acons (D.int .i64 (lRow (48 : Int) Z5 (3 : Int))) Z7)) .anil))); bif decide (Z1 < (0 : Int)) then Z8 else bif List.getD Z0 (4 : Nat) (0 : Int) == (16 : Int) then Z8 else some (D.tup (D.acons (D.acons Z2 (D.acons (D.int .i64 2) Z3)) (.acons (D.acons Z4 (D.acons (D.int .i64 (lStream Z5 Z1)) Z7)) .anil)))) := by kernel_rfl
theorem nxStrP_77_2 (x : Int) (r : List Int) (gc : Bool) : nxStrP_e 77 2 r gc [x] = (let Z0 : D RC := D.int IntKind.i8 (77 : Int); let Z1 : D RC := D.int .i64 3; let Z2 : D RC := .anil; let Z3 : D RC := D.acons (D.arr RTy.int (96 : Nat) r) Z2; let Z4 : D RC := D.int IntKind.i8 (0 : Int); let Z5 : Int := List.getD r (0 : Nat) (0 : Int); let Z6 : D RC := D.int .i64 0; let Z7 : D RC := D.acons Z6 (D.acons (D.str []) (.acons (D.sl RTy.int true []) Z2)); let Z8 : D RC := D.acons Z6 (D.acons Z6 Z7); let Z9 : Bool := decide (x < (9223372036854775808 : Int)); let Z10 : Int := List.getD r (3 : Nat) (0 : Int); let Z11 : Int := List.getD r (4 : Nat) (0 : Int); let Z12 : Int := IntKind.wrap .i64 (IntKind.wrap .i64 (Z10 + Z11) + (1 : Int)); let Z13 : D RC := D.int .i64 (lRow (45 : Int) Z5 (3 : Int)); let Z14 : DO_ := some (D.tup (D.acons (D.acons Z0 (D.acons (D.int .i64 1) Z3)) (.acons (D.acons Z4 (D.acons Z13 Z8)) Z2))); let Z15 : Int := IntKind.wrap .i64 ((5 : Int) + Z11); let Z16 : List Int := List.set r Z15.toNat x; let Z17 : List Int := List.set Z16 (4 : Nat) (IntKind.wrap .i64 (List.getD Z16 (4 : Nat) (0 : Int) + (1 : Int))); let Z18 : List Int := List.set Z17 (3 : Nat) (IntKind.wrap .i64 (List.getD Z17 (3 : Nat) (0 : Int) - (1 : Int))); let Z19 : Int := List.getD Z18 (3 : Nat) (0 : Int); let Z20 : D RC := D.acons (D.arr RTy.int (96 : Nat) Z18) Z2; let Z21 : Int := List.getD Z18 (0 : Nat) (0 : Int); let Z22 : DO_ := some (D.tup (D.acons (D.acons Z0 (D.acons Z1 Z20)) (.acons (D.acons Z4 (D.acons (D.int .i64 (lRow (48 : Int) Z21 (3 : Int))) Z8)) Z2))); let Z23 : DO_ := bif Z9 then bif !Option.isSome (readW x) then Z14 else bif Line.offset (readO x) != Z10 then Z14 else bif decide ((0 : Int) ≤ Z15 ∧ Z15 < (96 : Int)) then bif decide (Z19 < (0 : Int)) then Z22 else bif List.getD Z18 (4 : Nat) (0 : Int) == (16 : Int) then Z22 else some (D.tup (D.acons (D.acons Z0 (D.acons (D.int .i64 2) Z20)) (.acons (D.acons Z4 (D.acons (D.int .i64 (lStream Z21 Z19)) Z8)) Z2))) else none else none; bif x == (0 : Int) then some (D.tup (D.acons (D.acons Z0 (D.acons Z1 Z3)) (.acons (D.acons Z4 (D.acons (D.int .i64 (lRow (48 : Int) Z5 (3 : Int))) Z8)) Z2))) else bif Z9 then bif Option.isSome (readW x) then bif Line.offset (readO x) == Z12 then some (D.tup (D.acons (D.acons Z0 (D.acons (D.int .i64 4) Z3)) (.acons (D.acons (D.int IntKind.i8 (2 : Int)) (.acons Z13 (D.acons (D.int .i64 Z12) (.acons (D.int .i64 (IntKind.wrap .i64 (Z12 + (1 : Int)))) Z7)))) Z2))) else Z23 else Z23 else none) := by kernel_rfl
theorem nxStrP_77_4 (x : Int) (r : List Int) (gc : Bool) : nxStrP_e 77 4 r gc [x] = (let Z0 : D RC := D.int .i64 0; some (D.tup (D.acons (D.acons (D.int IntKind.i8 (77 : Int)) (.acons (D.int .i64 1) (.acons (D.arr RTy.int (96 : Nat) r) .anil))) (.acons (D.acons (D.int IntKind.i8 (0 : Int)) (.acons (D.int .i64 (lRow (45 : Int) (List.getD r (0 : Nat) (0 : Int)) (3 : Int))) (.acons Z0 (D.acons Z0 (D.acons Z0 (D.acons (D.str []) (.acons (D.sl RTy.int true []) .anil))))))) .anil)))) := by kernel_rfl
theorem nxStrP_77_3 (x : Int) (r : List Int) (gc : Bool) (hr : r.length = 96) (hv : ∀ v ∈ r, v < 9223372036854775808) (hm : 0 ≤ r.getD 4 0 ∧ r.getD 4 0 ≤ 16) : nxStrP_e 77 3 r gc [x] = some (naR (nStr false ⟨77, 3, r⟩ [x])) := by
  have e : nxStrP_e 77 3 r gc [x] = (bif decide (r.getD 1 0 < x) then some (naR (naEn 77 3 r [190] true)) else bif decide ((0 : Int) ≤ 5 ∧ (5 : Int) < 96 ∧ (5 : Int) ≤ IntKind.i64.wrap (5 + r.getD 4 0) ∧ IntKind.i64.wrap (5 + r.getD 4 0) ≤ 96) then
      bif lenOK (IntKind.i64.wrap (5 + r.getD 4 0) - 5).toNat then
        bif (cdec (fetA = fetA) && cdec (fetB = fetB) && true && cdec (OkFt r [0] (IntKind.i64.wrap (((IntKind.i64.wrap (5 + r.getD 4 0) - 5).toNat : Int) - 1)) ∧ IntKind.i64.wrap (((IntKind.i64.wrap (5 + r.getD 4 0) - 5).toNat : Int) - 1) < ((IntKind.i64.wrap (5 + r.getD 4 0) - 5).toNat : Int) ∧ (IntKind.i64.wrap (5 + r.getD 4 0) - 5).toNat ≤ 16)) then
          bif Nat.beq ([0] ++ fPick (r.getD 1 0) (r.getD 2 0) ((r.drop 5).take (IntKind.i64.wrap (((IntKind.i64.wrap (5 + r.getD 4 0) - 5).toNat : Int) - 1) + 1).toNat)).length ([0] ++ fPick (r.getD 1 0) (r.getD 2 0) ((r.drop 5).take (IntKind.i64.wrap (((IntKind.i64.wrap (5 + r.getD 4 0) - 5).toNat : Int) - 1) + 1).toNat)).length then
            some (naR (naEn 77 3 r ([0] ++ fPick (r.getD 1 0) (r.getD 2 0) ((r.drop 5).take (IntKind.i64.wrap (((IntKind.i64.wrap (5 + r.getD 4 0) - 5).toNat : Int) - 1) + 1).toNat)) false)) else none else none else none else none) := by kernel_rfl
  have w1 : IntKind.i64.wrap (5 + r.getD 4 0) = 5 + r.getD 4 0 := wrap_id (by omega) (by omega)
  have w2 : (5 + r.getD 4 0 - 5).toNat = (r.getD 4 0).toNat := by omega
  have w3 : IntKind.i64.wrap (((r.getD 4 0).toNat : Int) - 1) = r.getD 4 0 - 1 := by rw [wrap_id (by omega) (by omega)]; omega
  have w4 : (r.getD 4 0 - 1 + 1).toNat = (r.getD 4 0).toNat := by omega
  have d1 : decide ((0 : Int) ≤ 5 ∧ (5 : Int) < 96 ∧ (5 : Int) ≤ 5 + r.getD 4 0 ∧ 5 + r.getD 4 0 ≤ 96) = true := decide_eq_true ⟨by decide, by decide, by omega, by omega⟩
  have d2 : lenOK (r.getD 4 0).toNat = true := lenOK_of (by omega)
  have d3 : cdec (OkFt r [0] (r.getD 4 0 - 1) ∧ r.getD 4 0 - 1 < ((r.getD 4 0).toNat : Int) ∧ (r.getD 4 0).toNat ≤ 16) = true := cdec_true ⟨⟨by omega, by omega, hr, hv, by simp only [List.length_cons, List.length_nil]; omega⟩, by omega, by omega⟩
  have hk : nStr false ⟨77, 3, r⟩ [x] = if r.getD 1 0 < x then naEn 77 3 r [190] true else naEn 77 3 r ([0] ++ fPick (r.getD 1 0) (r.getD 2 0) ((r.drop 5).take (r.getD 4 0).toNat)) false := rfl
  rw [e, hk]
  simp only [w1, w2, w3, w4, d1, d2, d3, cdec_true trivial, nbeqT rfl, Bool.and_self, cond_true]
  by_cases z : r.getD 1 0 < x
  · rw [if_pos z, decide_eq_true z, cond_true]
  · rw [if_neg z, decide_eq_false z, cond_false]
theorem nxStrP_ok (p : Int) (k : Int) (r : List Int) (gc : Bool) (got : List Int) (h : (cdec (okStr false ⟨p, k, r⟩ got)) = true) : nxStrP_e p k r gc got = some (naR (nStr false ⟨p, k, r⟩ got)) := by
  obtain ⟨hr, hv, hp⟩ := cdec_iff.1 h
  simp only at hr hv hp
  rcases hp with ⟨rfl, q0, q23, hk⟩ | ⟨rfl, q0, q2, hk⟩
  · have e1 : IntKind.i64.wrap (Int.tdiv (r.getD 2 0) 8) = r.getD 2 0 / 8 := by rw [Int.tdiv_eq_ediv_of_nonneg q0, wrap_id (by omega) (by omega)]
    have e2 : Int.tmod (r.getD 2 0) 8 = r.getD 2 0 % 8 := tmod_nn q0
    rcases hk with ⟨rfl, rfl⟩ | ⟨x, rfl, k1, k8, x0, x1, y1, y2, y3⟩
    · (rw [nxStrP_76_0]; conv => zeta)
      simp only [e1]
      rfl
    · have d1 : decide (x < 9223372036854775808) = true := decide_eq_true (by unfold bigW at x1; omega)
      have wm : ∀ n : Int, 0 ≤ n → n ≤ 1000000 → IntKind.i64.wrap (n - 0) = n ∧ IntKind.i64.wrap (n - 1) = n - 1 ∧ IntKind.i64.wrap (n + 1) = n + 1 := fun n h1 h2 => ⟨by rw [Int.sub_zero]; exact wrap_id (by omega) (by omega), wrap_id (by omega) (by omega), wrap_id (by omega) (by omega)⟩
      have ks : k = 1 ∨ k = 2 ∨ k = 3 ∨ k = 4 ∨ k = 5 ∨ k = 6 ∨ k = 7 ∨ k = 8 := by omega
      rcases ks with rfl | rfl | rfl | rfl | rfl | rfl | rfl | rfl
      · have g2 : (r.set 4 x).getD 2 0 = r.getD 2 0 := getD_set_ne' (by decide)
        have g4 : (r.set 4 x).getD 4 0 = x := getD_set_eq (by omega)
        have w0 := (wm x x0 (y1 rfl)).1
        (rw [nxStrP_76_1]; conv => zeta)
        simp only [d1, g2, g4, e1, w0, cond_true]
        rfl
      · obtain ⟨b0, b1⟩ := y2 (by decide)
        obtain ⟨w0, w1, w2⟩ := wm _ b0 b1
        have g0 : (r.set 5 x).getD 0 0 = r.getD 0 0 := getD_set_ne' (by decide)
        have g1 : (r.set 5 x).getD 1 0 = r.getD 1 0 := getD_set_ne' (by decide)
        have g2 : (r.set 5 x).getD 2 0 = r.getD 2 0 := getD_set_ne' (by decide)
        have g3 : (r.set 5 x).getD 3 0 = r.getD 3 0 := getD_set_ne' (by decide)
        have g4 : (r.set 5 x).getD 4 0 = r.getD 4 0 := getD_set_ne' (by decide)
        have g5 : (r.set 5 x).getD 5 0 = x := getD_set_eq (by omega)
        have hk : nStr false ⟨76, 2, r⟩ [x] = if (readW x).isSome = true ∧ (readO x).offset = r.getD 4 0 then aOn 3 (r.set 5 x) else if r.getD 4 0 = 0 then aPut (r.set 5 x) else naLd 76 4 (r.set 5 x) (lStream (sQ r) (r.getD 4 0 - 1)) 0 := rfl
        rw [nxStrP_76_2, hk]
        cases hs : (readW x).isSome
        · by_cases z : r.getD 4 0 = 0
          · rw [if_neg (by simp), if_pos z]
            simp only [d1, g0, g1, g2, g3, g4, g5, e1, e2, w0, w1, w2, ibeqT z, naR, frmR, actR, aOn, aPut, aCnt, aCut, sQ, fCnt, fCut, naCs, naLd, naEn, cond_true, cond_false, Bool.not_true, Bool.not_false]
          · rw [if_neg (by simp), if_neg z]
            simp only [d1, g0, g1, g2, g3, g4, g5, e1, e2, w0, w1, w2, ibeqF z, naR, frmR, actR, aOn, aPut, aCnt, aCut, sQ, fCnt, fCut, naCs, naLd, naEn, cond_true, cond_false, Bool.not_true, Bool.not_false]
        · by_cases o : (readO x).offset = r.getD 4 0
          · rw [if_pos ⟨rfl, o⟩]
            simp only [d1, g0, g1, g2, g3, g4, g5, e1, e2, w0, w1, w2, ibeqT o, naR, frmR, actR, aOn, aPut, aCnt, aCut, sQ, fCnt, fCut, naCs, naLd, naEn, cond_true, cond_false, Bool.not_true, Bool.not_false]
          · by_cases z : r.getD 4 0 = 0
            · rw [if_neg (fun q => o q.2), if_pos z]
              simp only [d1, g0, g1, g2, g3, g4, g5, e1, e2, w0, w1, w2, ibeqF o, ibeqT z, naR, frmR, actR, aOn, aPut, aCnt, aCut, sQ, fCnt, fCut, naCs, naLd, naEn, cond_true, cond_false, Bool.not_true, Bool.not_false]
            · rw [if_neg (fun q => o q.2), if_neg z]
              simp only [d1, g0, g1, g2, g3, g4, g5, e1, e2, w0, w1, w2, ibeqF o, ibeqF z, naR, frmR, actR, aOn, aPut, aCnt, aCut, sQ, fCnt, fCut, naCs, naLd, naEn, cond_true, cond_false, Bool.not_true, Bool.not_false]
      · (rw [nxStrP_76_3]; conv => zeta)
        try simp only [e1, d1, cond_true]
        rfl
      · obtain ⟨b0, b1⟩ := y2 (by decide)
        obtain ⟨w0, w1, w2⟩ := wm _ b0 b1
        have hk : nStr false ⟨76, 4, r⟩ [x] = if r.getD 0 0 < (readO x).place ∨ (readO x).place = r.getD 0 0 ∧ r.getD 1 0 ≤ (readO x).j then naEn 76 4 r [] true
          else if (readW x).isSome = false ∨ (readO x).offset ≠ r.getD 4 0 - 1 then aCnt r else if r.getD 5 0 = 0 then aPut r else aCut r := rfl
        rw [nxStrP_76_4, hk]
        rcases Int.lt_trichotomy (r.getD 0 0) (readO x).place with a | a | a
        · rw [if_pos (.inl a)]
          simp only [d1, decide_eq_true a, decide_eq_false (show ¬ (readO x).place < r.getD 0 0 by omega), ibeqF (show ¬ (readO x).place = r.getD 0 0 by omega), naR, frmR, actR, aOn, aPut, aCnt, aCut, sQ, fCnt, fCut, naCs, naLd, naEn, cond_true, cond_false, Bool.not_true, Bool.not_false]
        · have c1 : decide (r.getD 0 0 < (readO x).place) = false := decide_eq_false (by omega)
          have c2 : decide ((readO x).place < r.getD 0 0) = false := decide_eq_false (by omega)
          have c3 : ((readO x).place == r.getD 0 0) = true := ibeqT a.symm
          by_cases b : r.getD 1 0 ≤ (readO x).j
          · have c4 : decide ((readO x).j < r.getD 1 0) = false := decide_eq_false (by omega)
            rw [if_pos (.inr ⟨a.symm, b⟩)]
            simp only [d1, c1, c2, c3, c4, decide_eq_true b, naR, frmR, actR, aOn, aPut, aCnt, aCut, sQ, fCnt, fCut, naCs, naLd, naEn, cond_true, cond_false, Bool.not_true, Bool.not_false]
          · have c4 : decide ((readO x).j < r.getD 1 0) = true := decide_eq_true (by omega)
            have c5 : decide (r.getD 1 0 ≤ (readO x).j) = false := decide_eq_false b
            rw [if_neg (fun q => q.elim (fun q => by omega) (fun q => b q.2))]
            cases hs : (readW x).isSome
            · rw [if_pos (.inl rfl)]
              simp only [d1, e1, e2, w0, w1, w2, c1, c2, c3, c4, c5, naR, frmR, actR, aOn, aPut, aCnt, aCut, sQ, fCnt, fCut, naCs, naLd, naEn, cond_true, cond_false, Bool.not_true, Bool.not_false]
            · by_cases o : (readO x).offset = r.getD 4 0 - 1
              · rw [if_neg (fun q => q.elim (fun q => by cases q) (fun q => q o))]
                by_cases z : r.getD 5 0 = 0
                · rw [if_pos z]
                  simp only [d1, e1, e2, w0, w1, w2, ibneF o, ibeqT z, c1, c2, c3, c4, c5, naR, frmR, actR, aOn, aPut, aCnt, aCut, sQ, fCnt, fCut, naCs, naLd, naEn, cond_true, cond_false, Bool.not_true, Bool.not_false]
                · rw [if_neg z]
                  simp only [d1, e1, e2, w0, w1, w2, ibneF o, ibeqF z, c1, c2, c3, c4, c5, naR, frmR, actR, aOn, aPut, aCnt, aCut, sQ, fCnt, fCut, naCs, naLd, naEn, cond_true, cond_false, Bool.not_true, Bool.not_false]
              · rw [if_pos (.inr o)]
                simp only [d1, e1, e2, w0, w1, w2, ibneT o, c1, c2, c3, c4, c5, naR, frmR, actR, aOn, aPut, aCnt, aCut, sQ, fCnt, fCut, naCs, naLd, naEn, cond_true, cond_false, Bool.not_true, Bool.not_false]
        · have c1 : decide (r.getD 0 0 < (readO x).place) = false := decide_eq_false (by omega)
          have c2 : decide ((readO x).place < r.getD 0 0) = true := decide_eq_true a
          have c3 : ((readO x).place == r.getD 0 0) = false := ibeqF (by omega)
          rw [if_neg (fun q => q.elim (fun q => by omega) (fun q => by omega))]
          cases hs : (readW x).isSome
          · rw [if_pos (.inl rfl)]
            simp only [d1, e1, e2, w0, w1, w2, c1, c2, c3, naR, frmR, actR, aOn, aPut, aCnt, aCut, sQ, fCnt, fCut, naCs, naLd, naEn, cond_true, cond_false, Bool.not_true, Bool.not_false]
          · by_cases o : (readO x).offset = r.getD 4 0 - 1
            · rw [if_neg (fun q => q.elim (fun q => by cases q) (fun q => q o))]
              by_cases z : r.getD 5 0 = 0
              · rw [if_pos z]
                simp only [d1, e1, e2, w0, w1, w2, ibneF o, ibeqT z, c1, c2, c3, naR, frmR, actR, aOn, aPut, aCnt, aCut, sQ, fCnt, fCut, naCs, naLd, naEn, cond_true, cond_false, Bool.not_true, Bool.not_false]
              · rw [if_neg z]
                simp only [d1, e1, e2, w0, w1, w2, ibneF o, ibeqF z, c1, c2, c3, naR, frmR, actR, aOn, aPut, aCnt, aCut, sQ, fCnt, fCut, naCs, naLd, naEn, cond_true, cond_false, Bool.not_true, Bool.not_false]
            · rw [if_pos (.inr o)]
              simp only [d1, e1, e2, w0, w1, w2, ibneT o, c1, c2, c3, naR, frmR, actR, aOn, aPut, aCnt, aCut, sQ, fCnt, fCut, naCs, naLd, naEn, cond_true, cond_false, Bool.not_true, Bool.not_false]
      · obtain ⟨b0, b1⟩ := y2 (by decide)
        obtain ⟨w0, w1, w2⟩ := wm _ b0 b1
        have d2 : decide (r.getD 5 0 < 9223372036854775808) = true := decide_eq_true (by have := (y3 (by decide)).2; unfold bigW at this; omega)
        have hk : nStr false ⟨76, 5, r⟩ [x] = if x < (readO (r.getD 5 0)).place then naCs 76 8 r (lRow 48 (sQ r) 3) x (readO (r.getD 5 0)).place 0 else aPut r := rfl
        rw [nxStrP_76_5, hk]
        by_cases z : x < (readO (r.getD 5 0)).place
        · rw [if_pos z]
          simp only [d1, d2, e1, e2, w0, w1, w2, decide_eq_true z, naR, frmR, actR, aOn, aPut, aCnt, aCut, sQ, fCnt, fCut, naCs, naLd, naEn, cond_true, cond_false, Bool.not_true, Bool.not_false]
        · rw [if_neg z]
          simp only [d1, d2, e1, e2, w0, w1, w2, decide_eq_false z, naR, frmR, actR, aOn, aPut, aCnt, aCut, sQ, fCnt, fCut, naCs, naLd, naEn, cond_true, cond_false, Bool.not_true, Bool.not_false]
      · obtain ⟨b0, b1⟩ := y2 (by decide)
        obtain ⟨w0, w1, w2⟩ := wm _ b0 b1
        have hk : nStr false ⟨76, 6, r⟩ [x] = if x = 0 then aCnt r else aOn 7 r := rfl
        rw [nxStrP_76_6, hk]
        by_cases z : x = 0
        · rw [if_pos z]
          simp only [d1, e1, e2, w0, w1, w2, ibeqT z, naR, frmR, actR, aOn, aPut, aCnt, aCut, sQ, fCnt, fCut, naCs, naLd, naEn, cond_true, cond_false, Bool.not_true, Bool.not_false]
        · rw [if_neg z]
          simp only [d1, e1, e2, w0, w1, w2, ibeqF z, naR, frmR, actR, aOn, aPut, aCnt, aCut, sQ, fCnt, fCut, naCs, naLd, naEn, cond_true, cond_false, Bool.not_true, Bool.not_false]
      · (rw [nxStrP_76_7]; conv => zeta)
        try simp only [d1, e1, cond_true]
        rfl
      · (rw [nxStrP_76_8]; conv => zeta)
        try simp only [d1, e1, cond_true]
        rfl
  · rcases hk with ⟨rfl, rfl⟩ | ⟨x, rfl, k1, k4, x0, x1, y1, y2, y3⟩
    · (rw [nxStrP_77_0]; conv => zeta)
      rfl
    · have d1 : decide (x < 9223372036854775808) = true := decide_eq_true (by unfold bigW at x1; omega)
      have ks : k = 1 ∨ k = 2 ∨ k = 3 ∨ k = 4 := by omega
      rcases ks with rfl | rfl | rfl | rfl
      · have y1 := y1 rfl
        have w1 : IntKind.i64.wrap (x - 1) = x - 1 := wrap_id (by omega) (by omega)
        have g3 : ((r.set 3 (x - 1)).set 4 0).getD 3 0 = x - 1 := by rw [getD_set_ne' (by decide), getD_set_eq (by omega)]
        have g4 : ((r.set 3 (x - 1)).set 4 0).getD 4 0 = 0 := getD_set_eq (by rw [List.length_set]; omega)
        have g0 : ((r.set 3 (x - 1)).set 4 0).getD 0 0 = r.getD 0 0 := by rw [getD_set_ne' (by decide), getD_set_ne' (by decide)]
        have hk : nStr false ⟨77, 1, r⟩ [x] = fNxA ((r.set 3 (x - 1)).set 4 0) := rfl
        have c16 : ((0 : Int) == 16) = false := rfl
        rw [nxStrP_77_1, hk, fNxA, g3, g4]
        by_cases z : x - 1 < 0
        · rw [if_pos (.inl z)]
          simp only [d1, w1, g0, g3, g4, c16, decide_eq_true z, naR, frmR, actR, aOn, aPut, aCnt, aCut, sQ, fCnt, fCut, naCs, naLd, naEn, cond_true, cond_false, Bool.not_true, Bool.not_false]
        · rw [if_neg (fun q => q.elim z (fun q => by cases q))]
          simp only [d1, w1, g0, g3, g4, c16, decide_eq_false z, naR, frmR, actR, aOn, aPut, aCnt, aCut, sQ, fCnt, fCut, naCs, naLd, naEn, cond_true, cond_false, Bool.not_true, Bool.not_false]
      · obtain ⟨a0, a1, m0, m1⟩ : 0 ≤ r.getD 3 0 ∧ r.getD 3 0 ≤ 1000000 ∧ 0 ≤ r.getD 4 0 ∧ r.getD 4 0 ≤ 15 := y2 rfl
        have v1 : IntKind.i64.wrap (r.getD 3 0 + r.getD 4 0) = r.getD 3 0 + r.getD 4 0 := wrap_id (by omega) (by omega)
        have v2 : IntKind.i64.wrap (r.getD 3 0 + r.getD 4 0 + 1) = r.getD 3 0 + r.getD 4 0 + 1 := wrap_id (by omega) (by omega)
        have v3 : IntKind.i64.wrap (r.getD 3 0 + r.getD 4 0 + 1 + 1) = r.getD 3 0 + r.getD 4 0 + 1 + 1 := wrap_id (by omega) (by omega)
        have v4 : IntKind.i64.wrap (5 + r.getD 4 0) = 5 + r.getD 4 0 := wrap_id (by omega) (by omega)
        have v5 : (5 + r.getD 4 0).toNat = 5 + (r.getD 4 0).toNat := by omega
        have v6 : IntKind.i64.wrap (r.getD 4 0 + 1) = r.getD 4 0 + 1 := wrap_id (by omega) (by omega)
        have v7 : IntKind.i64.wrap (r.getD 3 0 - 1) = r.getD 3 0 - 1 := wrap_id (by omega) (by omega)
        have v8 : decide (0 ≤ 5 + r.getD 4 0 ∧ 5 + r.getD 4 0 < 96) = true := decide_eq_true ⟨by omega, by omega⟩
        have u4 : (r.set (5 + (r.getD 4 0).toNat) x).getD 4 0 = r.getD 4 0 := getD_set_ne' (by omega)
        have u3 : ((r.set (5 + (r.getD 4 0).toNat) x).set 4 (r.getD 4 0 + 1)).getD 3 0 = r.getD 3 0 := by rw [getD_set_ne' (by omega), getD_set_ne' (by omega)]
        have hk : nStr false ⟨77, 2, r⟩ [x] = if x = 0 then fCut r else if (readW x).isSome = true ∧ (readO x).offset = r.getD 3 0 + r.getD 4 0 + 1 then naCs 77 4 r (lRow 45 (r.getD 0 0) 3) (r.getD 3 0 + r.getD 4 0 + 1) (r.getD 3 0 + r.getD 4 0 + 1 + 1) 0
          else if (readW x).isSome = false ∨ (readO x).offset ≠ r.getD 3 0 then fCnt r else fNxA (((r.set (5 + (r.getD 4 0).toNat) x).set 4 (r.getD 4 0 + 1)).set 3 (r.getD 3 0 - 1)) := rfl
        rw [nxStrP_77_2, hk]
        simp only [v1, v2, v3, v4, v5, u4, v6, u3, v7]
        have t3 : (((r.set (5 + (r.getD 4 0).toNat) x).set 4 (r.getD 4 0 + 1)).set 3 (r.getD 3 0 - 1)).getD 3 0 = r.getD 3 0 - 1 := getD_set_eq (by simp only [List.length_set]; omega)
        have t4 : (((r.set (5 + (r.getD 4 0).toNat) x).set 4 (r.getD 4 0 + 1)).set 3 (r.getD 3 0 - 1)).getD 4 0 = r.getD 4 0 + 1 := by rw [getD_set_ne' (by decide), getD_set_eq (by simp only [List.length_set]; omega)]
        have t0 : (((r.set (5 + (r.getD 4 0).toNat) x).set 4 (r.getD 4 0 + 1)).set 3 (r.getD 3 0 - 1)).getD 0 0 = r.getD 0 0 := by rw [getD_set_ne' (by decide), getD_set_ne' (by decide), getD_set_ne' (by omega)]
        generalize ((r.set (5 + (r.getD 4 0).toNat) x).set 4 (r.getD 4 0 + 1)).set 3 (r.getD 3 0 - 1) = R at t0 t3 t4 ⊢
        by_cases xz : x = 0
        · rw [if_pos xz]
          simp only [ibeqT xz, naR, frmR, actR, aOn, aPut, aCnt, aCut, sQ, fCnt, fCut, naCs, naLd, naEn, cond_true, cond_false, Bool.not_true, Bool.not_false]
        rw [if_neg xz]
        simp only [ibeqF xz, d1, v8, t0, t3, t4, cond_true, cond_false]
        cases hs : (readW x).isSome
        · rw [if_neg (by simp), if_pos (.inl rfl)]
          simp only [naR, frmR, actR, aOn, aPut, aCnt, aCut, sQ, fCnt, fCut, naCs, naLd, naEn, cond_true, cond_false, Bool.not_true, Bool.not_false]
        by_cases o : (readO x).offset = r.getD 3 0 + r.getD 4 0 + 1
        · rw [if_pos ⟨rfl, o⟩]
          simp only [ibeqT o, naR, frmR, actR, aOn, aPut, aCnt, aCut, sQ, fCnt, fCut, naCs, naLd, naEn, cond_true, cond_false, Bool.not_true, Bool.not_false]
        rw [if_neg (fun q => o q.2)]
        by_cases o2 : (readO x).offset = r.getD 3 0
        · rw [if_neg (fun q => q.elim (fun q => by cases q) (fun q => q o2)), fNxA, t3, t4]
          by_cases z : r.getD 3 0 - 1 < 0
          · rw [if_pos (.inl z)]
            simp only [ibeqF o, ibneF o2, decide_eq_true z, t0, naR, frmR, actR, aOn, aPut, aCnt, aCut, sQ, fCnt, fCut, naCs, naLd, naEn, cond_true, cond_false, Bool.not_true, Bool.not_false]
          · by_cases z2 : r.getD 4 0 + 1 = 16
            · rw [if_pos (.inr z2)]
              simp only [ibeqF o, ibneF o2, decide_eq_false z, ibeqT z2, t0, naR, frmR, actR, aOn, aPut, aCnt, aCut, sQ, fCnt, fCut, naCs, naLd, naEn, cond_true, cond_false, Bool.not_true, Bool.not_false]
            · rw [if_neg (fun q => q.elim z z2)]
              simp only [ibeqF o, ibneF o2, decide_eq_false z, ibeqF z2, t0, t3, naR, frmR, actR, aOn, aPut, aCnt, aCut, sQ, fCnt, fCut, naCs, naLd, naEn, cond_true, cond_false, Bool.not_true, Bool.not_false]
        · rw [if_pos (.inr o2)]
          simp only [ibeqF o, ibneT o2, naR, frmR, actR, aOn, aPut, aCnt, aCut, sQ, fCnt, fCut, naCs, naLd, naEn, cond_true, cond_false, Bool.not_true, Bool.not_false]
      · exact nxStrP_77_3 x r gc hr hv (y3 rfl)
      · (rw [nxStrP_77_4]; conv => zeta)
        try simp only [d1, cond_true]
        rfl
noncomputable def uf_1 := ue_2.addSpec 24 nxStrP_sp
theorem uf_1_laws : FLaws Tryz.prog s19 uf_1 := ue_2_laws.addEv s19_laws fun args d h => by
  unfold nxStrP_sp at h
  split at h
  · unfold nxStrP_s at h
    have h1 := congrArg Prod.fst (Option.some.inj h)
    obtain rfl : _ = d := congrArg Prod.snd (Option.some.inj h)
    exact ⟨by simp [D.refs, naR_refs], 120, nxStrP_ok _ _ _ _ _ h1⟩
  · cases h
noncomputable def nxStrR_s (p : Int) (k : Int) (r : List Int) (gc : Bool) (got : List Int) : Option (Bool × D RC) := some (cdec (okStr true ⟨p, k, r⟩ got), naR (nStr true ⟨p, k, r⟩ got))
noncomputable def nxStrR_sp : List (D RC) → Option (Bool × D RC)
  | [.acons (.int .i8 p) (.acons (.int .i64 k) (.acons (.arr .int 96 r) .anil)), .sl .int gc got] => nxStrR_s p k r gc got
  | _ => none
noncomputable def nxStrR_e (p : Int) (k : Int) (r : List Int) (gc : Bool) (got : List Int) := evF s19 uf_1 120 90 [.acons (.int .i8 p) (.acons (.int .i64 k) (.acons (.arr (C := RC) .int 96 r) .anil)), .sl (C := RC) .int gc got]
theorem nxStrR_76_0 (r : List Int) (gc : Bool) : nxStrR_e 76 0 r gc [] = (let Z0 : D RC := D.int .i64 0; some (D.tup (D.acons (D.acons (D.int IntKind.i8 (76 : Int)) (.acons (D.int .i64 1) (.acons (D.arr RTy.int (96 : Nat) r) .anil))) (.acons (D.acons (D.int IntKind.i8 (0 : Int)) (.acons (D.int .i64 (lRow (45 : Int) (IntKind.wrap .i64 (Int.tdiv (List.getD r (2 : Nat) (0 : Int)) (8 : Int))) (3 : Int))) (.acons Z0 (D.acons Z0 (D.acons Z0 (D.acons (D.str []) (.acons (D.sl RTy.int true []) .anil))))))) .anil)))) := by kernel_rfl
theorem nxStrR_76_1 (x : Int) (r : List Int) (gc : Bool) : nxStrR_e 76 1 r gc [x] = (let Z0 : D RC := D.int .i64 0; bif decide (x < (9223372036854775808 : Int)) then some (D.tup (D.acons (D.acons (D.int IntKind.i8 (76 : Int)) (.acons (D.int .i64 2) (.acons (D.arr RTy.int (96 : Nat) (List.set r (4 : Nat) x)) .anil))) (.acons (D.acons (D.int IntKind.i8 (0 : Int)) (.acons (D.int .i64 (lStream (IntKind.wrap .i64 (Int.tdiv (List.getD r (2 : Nat) (0 : Int)) (8 : Int))) x)) (.acons Z0 (D.acons Z0 (D.acons Z0 (D.acons (D.str []) (.acons (D.sl RTy.int true []) .anil))))))) .anil))) else none) := by kernel_rfl
theorem nxStrR_76_2 (x : Int) (r : List Int) (gc : Bool) : nxStrR_e 76 2 r gc [x] = (let Z0 : Int := List.getD r (4 : Nat) (0 : Int); let Z1 : D RC := D.int IntKind.i8 (76 : Int); let Z2 : D RC := .anil; let Z3 : D RC := D.acons (D.arr RTy.int (96 : Nat) (List.set r (5 : Nat) x)) Z2; let Z4 : D RC := D.int IntKind.i8 (2 : Int); let Z5 : Int := List.getD r (2 : Nat) (0 : Int); let Z6 : Int := IntKind.wrap .i64 (Int.tdiv Z5 (8 : Int)); let Z7 : D RC := D.int .i64 0; let Z8 : D RC := D.acons Z7 (D.acons (D.str []) (.acons (D.sl RTy.int true []) Z2)); let Z9 : DO_ := bif Z0 == (0 : Int) then some (D.tup (D.acons (D.acons Z1 (D.acons (D.int .i64 6) Z3)) (.acons (D.acons Z4 (D.acons (D.int .i64 (lStream Z6 Z0)) (.acons (D.int .i64 x) (.acons (D.int .i64 (wordO (Line.mk Z0 (List.getD r (0 : Nat) (0 : Int)) (List.getD r (1 : Nat) (0 : Int)) (Int.tmod Z5 (8 : Int)) (List.getD r (3 : Nat) (0 : Int))))) Z8)))) Z2))) else some (D.tup (D.acons (D.acons Z1 (D.acons (D.int .i64 4) Z3)) (.acons (D.acons (D.int IntKind.i8 (0 : Int)) (.acons (D.int .i64 (lStream Z6 (IntKind.wrap .i64 (Z0 - (1 : Int))))) (.acons Z7 (D.acons Z7 Z8)))) Z2))); bif decide (x < (9223372036854775808 : Int)) then bif Option.isSome (readW x) then bif Line.offset (readO x) == Z0 then some (D.tup (D.acons (D.acons Z1 (D.acons (D.int .i64 3) Z3)) (.acons (D.acons Z4 (D.acons (D.int .i64 (lRow (45 : Int) Z6 (3 : Int))) (.acons (D.int .i64 Z0) (.acons (D.int .i64 (IntKind.wrap .i64 (Z0 + (1 : Int)))) Z8)))) Z2))) else Z9 else Z9 else none) := by kernel_rfl
theorem nxStrR_76_3 (x : Int) (r : List Int) (gc : Bool) : nxStrR_e 76 3 r gc [x] = (let Z0 : D RC := D.int .i64 0; bif decide (x < (9223372036854775808 : Int)) then some (D.tup (D.acons (D.acons (D.int IntKind.i8 (76 : Int)) (.acons (D.int .i64 1) (.acons (D.arr RTy.int (96 : Nat) r) .anil))) (.acons (D.acons (D.int IntKind.i8 (0 : Int)) (.acons (D.int .i64 (lRow (45 : Int) (IntKind.wrap .i64 (Int.tdiv (List.getD r (2 : Nat) (0 : Int)) (8 : Int))) (3 : Int))) (.acons Z0 (D.acons Z0 (D.acons Z0 (D.acons (D.str []) (.acons (D.sl RTy.int true []) .anil))))))) .anil))) else none) := by kernel_rfl
theorem nxStrR_76_4 (x : Int) (r : List Int) (gc : Bool) : nxStrR_e 76 4 r gc [x] = (let Z0 : Int := Line.place (readO x); let Z1 : Int := List.getD r (0 : Nat) (0 : Int); let Z2 : D RC := D.int IntKind.i8 (76 : Int); let Z3 : D RC := .anil; let Z4 : D RC := D.acons (D.arr RTy.int (96 : Nat) r) Z3; let Z5 : D RC := D.int IntKind.i8 (0 : Int); let Z6 : Int := List.getD r (2 : Nat) (0 : Int); let Z7 : Int := IntKind.wrap .i64 (Int.tdiv Z6 (8 : Int)); let Z8 : D RC := D.int .i64 0; let Z9 : D RC := D.acons Z8 (D.acons (D.str []) (.acons (D.sl RTy.int true []) Z3)); let Z10 : D RC := D.acons Z8 (D.acons Z8 Z9); let Z11 : DO_ := some (D.tup (D.acons (D.acons Z2 (D.acons (D.int .i64 1) Z4)) (.acons (D.acons Z5 (D.acons (D.int .i64 (lRow (45 : Int) Z7 (3 : Int))) Z10)) Z3))); let Z12 : Int := List.getD r (4 : Nat) (0 : Int); let Z13 : Int := List.getD r (5 : Nat) (0 : Int); let Z14 : Int := List.getD r (1 : Nat) (0 : Int); let Z15 : DO_ := bif !Option.isSome (readW x) then Z11 else bif Line.offset (readO x) != IntKind.wrap .i64 (Z12 - (1 : Int)) then Z11 else bif Z13 == (0 : Int) then some (D.tup (D.acons (D.acons Z2 (D.acons (D.int .i64 6) Z4)) (.acons (D.acons (D.int IntKind.i8 (2 : Int)) (.acons (D.int .i64 (lStream Z7 Z12)) (.acons (D.int .i64 Z13) (.acons (D.int .i64 (wordO (Line.mk Z12 Z1 Z14 (Int.tmod Z6 (8 : Int)) (List.getD r (3 : Nat) (0 : Int))))) Z9)))) Z3))) else some (D.tup (D.acons (D.acons Z2 (D.acons (D.int .i64 5) Z4)) (.acons (D.acons Z5 (D.acons (D.int .i64 (lRow (48 : Int) Z7 (3 : Int))) Z10)) Z3))); let Z16 : DO_ := some (D.tup (D.acons (D.acons Z2 (D.acons (D.int .i64 4) Z4)) (.acons (D.acons (D.int IntKind.i8 (7 : Int)) (.acons Z8 Z10)) Z3))); bif decide (x < (9223372036854775808 : Int)) then bif decide (Z0 < Z1) then Z15 else bif Z0 == Z1 then bif !decide (Line.j (readO x) < Z14) then Z16 else Z15 else Z16 else none) := by kernel_rfl
theorem nxStrR_76_5 (x : Int) (r : List Int) (gc : Bool) : nxStrR_e 76 5 r gc [x] = (let Z0 : Int := List.getD r (5 : Nat) (0 : Int); let Z1 : Int := Line.place (readO Z0); let Z2 : D RC := D.int IntKind.i8 (76 : Int); let Z3 : D RC := D.acons (D.arr RTy.int (96 : Nat) r) .anil; let Z4 : D RC := D.int IntKind.i8 (2 : Int); let Z5 : Int := List.getD r (2 : Nat) (0 : Int); let Z6 : Int := IntKind.wrap .i64 (Int.tdiv Z5 (8 : Int)); let Z7 : D RC := D.acons (D.int .i64 0) (.acons (D.str []) (.acons (D.sl RTy.int true []) .anil)); let Z8 : Int := List.getD r (4 : Nat) (0 : Int); bif decide (x < (9223372036854775808 : Int)) then bif decide (Z0 < (9223372036854775808 : Int)) then bif decide (x < Z1) then some (D.tup (D.acons (D.acons Z2 (D.acons (D.int .i64 8) Z3)) (.acons (D.acons Z4 (D.acons (D.int .i64 (lRow (48 : Int) Z6 (3 : Int))) (.acons (D.int .i64 x) (.acons (D.int .i64 Z1) Z7)))) .anil))) else some (D.tup (D.acons (D.acons Z2 (D.acons (D.int .i64 6) Z3)) (.acons (D.acons Z4 (D.acons (D.int .i64 (lStream Z6 Z8)) (.acons (D.int .i64 Z0) (.acons (D.int .i64 (wordO (Line.mk Z8 (List.getD r (0 : Nat) (0 : Int)) (List.getD r (1 : Nat) (0 : Int)) (Int.tmod Z5 (8 : Int)) (List.getD r (3 : Nat) (0 : Int))))) Z7)))) .anil))) else none else none) := by kernel_rfl
theorem nxStrR_76_6 (x : Int) (r : List Int) (gc : Bool) : nxStrR_e 76 6 r gc [x] = (let Z0 : D RC := D.int IntKind.i8 (76 : Int); let Z1 : D RC := D.acons (D.arr RTy.int (96 : Nat) r) .anil; let Z2 : D RC := D.int .i64 (lRow (45 : Int) (IntKind.wrap .i64 (Int.tdiv (List.getD r (2 : Nat) (0 : Int)) (8 : Int))) (3 : Int)); let Z3 : D RC := D.int .i64 0; let Z4 : D RC := D.acons Z3 (D.acons (D.str []) (.acons (D.sl RTy.int true []) .anil)); let Z5 : Int := List.getD r (4 : Nat) (0 : Int); bif decide (x < (9223372036854775808 : Int)) then bif x == (0 : Int) then some (D.tup (D.acons (D.acons Z0 (D.acons (D.int .i64 1) Z1)) (.acons (D.acons (D.int IntKind.i8 (0 : Int)) (.acons Z2 (D.acons Z3 (D.acons Z3 Z4)))) .anil))) else some (D.tup (D.acons (D.acons Z0 (D.acons (D.int .i64 7) Z1)) (.acons (D.acons (D.int IntKind.i8 (2 : Int)) (.acons Z2 (D.acons (D.int .i64 Z5) (.acons (D.int .i64 (IntKind.wrap .i64 (Z5 + (1 : Int)))) Z4)))) .anil))) else none) := by kernel_rfl
theorem nxStrR_76_7 (x : Int) (r : List Int) (gc : Bool) : nxStrR_e 76 7 r gc [x] = (let Z0 : D RC := D.int .i64 0; bif decide (x < (9223372036854775808 : Int)) then some (D.tup (D.acons (D.acons (D.int IntKind.i8 (76 : Int)) (.acons (D.int .i64 7) (.acons (D.arr RTy.int (96 : Nat) r) .anil))) (.acons (D.acons (D.int IntKind.i8 (7 : Int)) (.acons Z0 (D.acons Z0 (D.acons Z0 (D.acons Z0 (D.acons (D.str []) (.acons (D.sl RTy.int true []) .anil))))))) .anil))) else none) := by kernel_rfl
theorem nxStrR_76_8 (x : Int) (r : List Int) (gc : Bool) : nxStrR_e 76 8 r gc [x] = (let Z0 : D RC := D.int .i64 0; bif decide (x < (9223372036854775808 : Int)) then some (D.tup (D.acons (D.acons (D.int IntKind.i8 (76 : Int)) (.acons (D.int .i64 5) (.acons (D.arr RTy.int (96 : Nat) r) .anil))) (.acons (D.acons (D.int IntKind.i8 (0 : Int)) (.acons (D.int .i64 (lRow (48 : Int) (IntKind.wrap .i64 (Int.tdiv (List.getD r (2 : Nat) (0 : Int)) (8 : Int))) (3 : Int))) (.acons Z0 (D.acons Z0 (D.acons Z0 (D.acons (D.str []) (.acons (D.sl RTy.int true []) .anil))))))) .anil))) else none) := by kernel_rfl
theorem nxStrR_77_0 (r : List Int) (gc : Bool) : nxStrR_e 77 0 r gc [] = (let Z0 : D RC := D.int .i64 0; some (D.tup (D.acons (D.acons (D.int IntKind.i8 (77 : Int)) (.acons (D.int .i64 1) (.acons (D.arr RTy.int (96 : Nat) r) .anil))) (.acons (D.acons (D.int IntKind.i8 (0 : Int)) (.acons (D.int .i64 (lRow (45 : Int) (List.getD r (0 : Nat) (0 : Int)) (3 : Int))) (.acons Z0 (D.acons Z0 (D.acons Z0 (D.acons (D.str []) (.acons (D.sl RTy.int true []) .anil))))))) .anil)))) := by kernel_rfl
theorem nxStrR_77_1 (x : Int) (r : List Int) (gc : Bool) : nxStrR_e 77 1 r gc [x] = (let Z0 : List Int := List.set (List.set (List.set r (3 : Nat) x) (4 : Nat) (IntKind.wrap .i64 (x - (1 : Int)))) (5 : Nat) (0 : Int); let Z1 : Int := List.getD Z0 (4 : Nat) (0 : Int); let Z2 : D RC := D.int IntKind.i8 (77 : Int); let Z3 : D RC := D.acons (D.arr RTy.int (96 : Nat) Z0) .anil; let Z4 : D RC := D.int IntKind.i8 (0 : Int); let Z5 : Int := List.getD r (0 : Nat) (0 : Int); let Z6 : D RC := D.int .i64 0; let Z7 : D RC := D.acons Z6 (D.acons Z6 (D.acons Z6 (D.acons (D.str []) (.acons (D.sl RTy.int true []) .anil)))); bif decide ((0 : Int) ≤ Z1) then some (D.tup (D.acons (D.acons Z2 (D.acons (D.int .i64 2) Z3)) (.acons (D.acons Z4 (D.acons (D.int .i64 (lStream Z5 Z1)) Z7)) .anil))) else some (D.tup (D.acons (D.acons Z2 (D.acons (D.int .i64 3) Z3)) (.acons (D.acons Z4 (D.acons (D.int .i64 (lRow (48 : Int) Z5 (3 : Int))) Z7)) .anil)))) := by kernel_rfl
theorem nxStrR_77_2 (x : Int) (r : List Int) (gc : Bool) : nxStrR_e 77 2 r gc [x] = (let Z0 : D RC := D.int IntKind.i8 (77 : Int); let Z1 : D RC := D.int .i64 3; let Z2 : D RC := .anil; let Z3 : D RC := D.acons (D.arr RTy.int (96 : Nat) r) Z2; let Z4 : D RC := D.int IntKind.i8 (0 : Int); let Z5 : Int := List.getD r (0 : Nat) (0 : Int); let Z6 : D RC := D.int .i64 0; let Z7 : D RC := D.acons Z6 (D.acons (D.str []) (.acons (D.sl RTy.int true []) Z2)); let Z8 : D RC := D.acons Z6 (D.acons Z6 Z7); let Z9 : D RC := D.acons (D.acons Z4 (D.acons (D.int .i64 (lRow (48 : Int) Z5 (3 : Int))) Z8)) Z2; let Z10 : Int := List.getD r (3 : Nat) (0 : Int); let Z11 : D RC := D.int .i64 (lRow (45 : Int) Z5 (3 : Int)); let Z12 : DO_ := some (D.tup (D.acons (D.acons Z0 (D.acons (D.int .i64 1) Z3)) (.acons (D.acons Z4 (D.acons Z11 Z8)) Z2))); let Z13 : Int := List.getD r (5 : Nat) (0 : Int); let Z14 : Int := IntKind.wrap .i64 ((6 : Int) + Z13); let Z15 : List Int := List.set (List.set r Z14.toNat x) (5 : Nat) (IntKind.wrap .i64 (Z13 + (1 : Int))); let Z16 : List Int := List.set Z15 (4 : Nat) (IntKind.wrap .i64 (List.getD Z15 (4 : Nat) (0 : Int) - (1 : Int))); let Z17 : Int := List.getD Z16 (4 : Nat) (0 : Int); let Z18 : D RC := D.acons (D.arr RTy.int (96 : Nat) Z16) Z2; let Z19 : DO_ := some (D.tup (D.acons (D.acons Z0 (D.acons Z1 Z18)) Z9)); let Z20 : DO_ := bif !Option.isSome (readW x) then Z12 else bif Line.offset (readO x) != List.getD r (4 : Nat) (0 : Int) then Z12 else bif decide ((16 : Int) ≤ Z13) then Z12 else bif decide ((0 : Int) ≤ Z14 ∧ Z14 < (96 : Int)) then bif decide ((0 : Int) ≤ Z17) then bif decide (List.getD Z16 (5 : Nat) (0 : Int) < (16 : Int)) then some (D.tup (D.acons (D.acons Z0 (D.acons (D.int .i64 2) Z18)) (.acons (D.acons Z4 (D.acons (D.int .i64 (lStream Z5 Z17)) Z8)) Z2))) else Z19 else Z19 else none; bif decide (x < (9223372036854775808 : Int)) then bif x == (0 : Int) then some (D.tup (D.acons (D.acons Z0 (D.acons Z1 Z3)) Z9)) else bif Option.isSome (readW x) then bif Line.offset (readO x) == Z10 then some (D.tup (D.acons (D.acons Z0 (D.acons (D.int .i64 4) Z3)) (.acons (D.acons (D.int IntKind.i8 (2 : Int)) (.acons Z11 (D.acons (D.int .i64 Z10) (.acons (D.int .i64 (IntKind.wrap .i64 (Z10 + (1 : Int)))) Z7)))) Z2))) else Z20 else Z20 else none) := by kernel_rfl
theorem nxStrR_77_4 (x : Int) (r : List Int) (gc : Bool) : nxStrR_e 77 4 r gc [x] = (let Z0 : D RC := D.int .i64 0; some (D.tup (D.acons (D.acons (D.int IntKind.i8 (77 : Int)) (.acons (D.int .i64 1) (.acons (D.arr RTy.int (96 : Nat) r) .anil))) (.acons (D.acons (D.int IntKind.i8 (0 : Int)) (.acons (D.int .i64 (lRow (45 : Int) (List.getD r (0 : Nat) (0 : Int)) (3 : Int))) (.acons Z0 (D.acons Z0 (D.acons Z0 (D.acons (D.str []) (.acons (D.sl RTy.int true []) .anil))))))) .anil)))) := by kernel_rfl
theorem nxStrR_77_3 (x : Int) (r : List Int) (gc : Bool) (hr : r.length = 96) (hv : ∀ v ∈ r, v < 9223372036854775808) (hm : 0 ≤ r.getD 5 0 ∧ r.getD 5 0 ≤ 16) : nxStrR_e 77 3 r gc [x] = some (naR (nStr true ⟨77, 3, r⟩ [x])) := by
  have e : nxStrR_e 77 3 r gc [x] = (bif decide (r.getD 1 0 < x) then some (naR (naEn 77 3 r [190] true)) else bif cdec (OkFt r [0] (IntKind.i64.wrap ((if 16 < r.getD 5 0 then 16 else r.getD 5 0) - 1))) then
          bif Nat.beq ([0] ++ fPick (r.getD 1 0) (r.getD 2 0) ((r.drop 6).take (IntKind.i64.wrap ((if 16 < r.getD 5 0 then 16 else r.getD 5 0) - 1) + 1).toNat)).length ([0] ++ fPick (r.getD 1 0) (r.getD 2 0) ((r.drop 6).take (IntKind.i64.wrap ((if 16 < r.getD 5 0 then 16 else r.getD 5 0) - 1) + 1).toNat)).length then
            some (naR (naEn 77 3 r ([0] ++ fPick (r.getD 1 0) (r.getD 2 0) ((r.drop 6).take (IntKind.i64.wrap ((if 16 < r.getD 5 0 then 16 else r.getD 5 0) - 1) + 1).toNat)) false)) else none else none) := by kernel_rfl
  have w1 : IntKind.i64.wrap ((if 16 < r.getD 5 0 then 16 else r.getD 5 0) - 1) = r.getD 5 0 - 1 := by rw [if_neg (by omega)]; exact wrap_id (by omega) (by omega)
  have w4 : (r.getD 5 0 - 1 + 1).toNat = (r.getD 5 0).toNat := by omega
  have d3 : cdec (OkFt r [0] (r.getD 5 0 - 1)) = true := cdec_true ⟨by omega, by omega, hr, hv, by simp only [List.length_cons, List.length_nil]; omega⟩
  have hk : nStr true ⟨77, 3, r⟩ [x] = if r.getD 1 0 < x then naEn 77 3 r [190] true else naEn 77 3 r ([0] ++ fPick (r.getD 1 0) (r.getD 2 0) ((r.drop 6).take (r.getD 5 0).toNat)) false := rfl
  rw [e, hk]
  simp only [w1, w4, d3, nbeqT rfl, cond_true]
  by_cases z : r.getD 1 0 < x
  · rw [if_pos z, decide_eq_true z, cond_true]
  · rw [if_neg z, decide_eq_false z, cond_false]
theorem nxStrR_ok (p : Int) (k : Int) (r : List Int) (gc : Bool) (got : List Int) (h : (cdec (okStr true ⟨p, k, r⟩ got)) = true) : nxStrR_e p k r gc got = some (naR (nStr true ⟨p, k, r⟩ got)) := by
  obtain ⟨hr, hv, hp⟩ := cdec_iff.1 h
  simp only at hr hv hp
  rcases hp with ⟨rfl, q0, q23, hk⟩ | ⟨rfl, q0, q2, hk⟩
  · have e1 : IntKind.i64.wrap (Int.tdiv (r.getD 2 0) 8) = r.getD 2 0 / 8 := by rw [Int.tdiv_eq_ediv_of_nonneg q0, wrap_id (by omega) (by omega)]
    have e2 : Int.tmod (r.getD 2 0) 8 = r.getD 2 0 % 8 := tmod_nn q0
    rcases hk with ⟨rfl, rfl⟩ | ⟨x, rfl, k1, k8, x0, x1, y1, y2, y3⟩
    · (rw [nxStrR_76_0]; conv => zeta)
      simp only [e1]
      rfl
    · have d1 : decide (x < 9223372036854775808) = true := decide_eq_true (by unfold bigW at x1; omega)
      have wm : ∀ n : Int, 0 ≤ n → n ≤ 1000000 → IntKind.i64.wrap (n - 0) = n ∧ IntKind.i64.wrap (n - 1) = n - 1 ∧ IntKind.i64.wrap (n + 1) = n + 1 := fun n h1 h2 => ⟨by rw [Int.sub_zero]; exact wrap_id (by omega) (by omega), wrap_id (by omega) (by omega), wrap_id (by omega) (by omega)⟩
      have ks : k = 1 ∨ k = 2 ∨ k = 3 ∨ k = 4 ∨ k = 5 ∨ k = 6 ∨ k = 7 ∨ k = 8 := by omega
      rcases ks with rfl | rfl | rfl | rfl | rfl | rfl | rfl | rfl
      · have g2 : (r.set 4 x).getD 2 0 = r.getD 2 0 := getD_set_ne' (by decide)
        have g4 : (r.set 4 x).getD 4 0 = x := getD_set_eq (by omega)
        have w0 := (wm x x0 (y1 rfl)).1
        (rw [nxStrR_76_1]; conv => zeta)
        simp only [d1, g2, g4, e1, w0, cond_true]
        rfl
      · obtain ⟨b0, b1⟩ := y2 (by decide)
        obtain ⟨w0, w1, w2⟩ := wm _ b0 b1
        have g0 : (r.set 5 x).getD 0 0 = r.getD 0 0 := getD_set_ne' (by decide)
        have g1 : (r.set 5 x).getD 1 0 = r.getD 1 0 := getD_set_ne' (by decide)
        have g2 : (r.set 5 x).getD 2 0 = r.getD 2 0 := getD_set_ne' (by decide)
        have g3 : (r.set 5 x).getD 3 0 = r.getD 3 0 := getD_set_ne' (by decide)
        have g4 : (r.set 5 x).getD 4 0 = r.getD 4 0 := getD_set_ne' (by decide)
        have g5 : (r.set 5 x).getD 5 0 = x := getD_set_eq (by omega)
        have hk : nStr true ⟨76, 2, r⟩ [x] = if (readW x).isSome = true ∧ (readO x).offset = r.getD 4 0 then aOn 3 (r.set 5 x) else if r.getD 4 0 = 0 then aPut (r.set 5 x) else naLd 76 4 (r.set 5 x) (lStream (sQ r) (r.getD 4 0 - 1)) 0 := rfl
        rw [nxStrR_76_2, hk]
        cases hs : (readW x).isSome
        · by_cases z : r.getD 4 0 = 0
          · rw [if_neg (by simp), if_pos z]
            simp only [d1, g0, g1, g2, g3, g4, g5, e1, e2, w0, w1, w2, ibeqT z, naR, frmR, actR, aOn, aPut, aCnt, aCut, sQ, fCnt, fCut, naCs, naLd, naEn, cond_true, cond_false, Bool.not_true, Bool.not_false]
          · rw [if_neg (by simp), if_neg z]
            simp only [d1, g0, g1, g2, g3, g4, g5, e1, e2, w0, w1, w2, ibeqF z, naR, frmR, actR, aOn, aPut, aCnt, aCut, sQ, fCnt, fCut, naCs, naLd, naEn, cond_true, cond_false, Bool.not_true, Bool.not_false]
        · by_cases o : (readO x).offset = r.getD 4 0
          · rw [if_pos ⟨rfl, o⟩]
            simp only [d1, g0, g1, g2, g3, g4, g5, e1, e2, w0, w1, w2, ibeqT o, naR, frmR, actR, aOn, aPut, aCnt, aCut, sQ, fCnt, fCut, naCs, naLd, naEn, cond_true, cond_false, Bool.not_true, Bool.not_false]
          · by_cases z : r.getD 4 0 = 0
            · rw [if_neg (fun q => o q.2), if_pos z]
              simp only [d1, g0, g1, g2, g3, g4, g5, e1, e2, w0, w1, w2, ibeqF o, ibeqT z, naR, frmR, actR, aOn, aPut, aCnt, aCut, sQ, fCnt, fCut, naCs, naLd, naEn, cond_true, cond_false, Bool.not_true, Bool.not_false]
            · rw [if_neg (fun q => o q.2), if_neg z]
              simp only [d1, g0, g1, g2, g3, g4, g5, e1, e2, w0, w1, w2, ibeqF o, ibeqF z, naR, frmR, actR, aOn, aPut, aCnt, aCut, sQ, fCnt, fCut, naCs, naLd, naEn, cond_true, cond_false, Bool.not_true, Bool.not_false]
      · (rw [nxStrR_76_3]; conv => zeta)
        try simp only [e1, d1, cond_true]
        rfl
      · obtain ⟨b0, b1⟩ := y2 (by decide)
        obtain ⟨w0, w1, w2⟩ := wm _ b0 b1
        have hk : nStr true ⟨76, 4, r⟩ [x] = if r.getD 0 0 < (readO x).place ∨ (readO x).place = r.getD 0 0 ∧ r.getD 1 0 ≤ (readO x).j then naEn 76 4 r [] true
          else if (readW x).isSome = false ∨ (readO x).offset ≠ r.getD 4 0 - 1 then aCnt r else if r.getD 5 0 = 0 then aPut r else aCut r := rfl
        rw [nxStrR_76_4, hk]
        rcases Int.lt_trichotomy (r.getD 0 0) (readO x).place with a | a | a
        · rw [if_pos (.inl a)]
          simp only [d1, decide_eq_true a, decide_eq_false (show ¬ (readO x).place < r.getD 0 0 by omega), ibeqF (show ¬ (readO x).place = r.getD 0 0 by omega), naR, frmR, actR, aOn, aPut, aCnt, aCut, sQ, fCnt, fCut, naCs, naLd, naEn, cond_true, cond_false, Bool.not_true, Bool.not_false]
        · have c1 : decide (r.getD 0 0 < (readO x).place) = false := decide_eq_false (by omega)
          have c2 : decide ((readO x).place < r.getD 0 0) = false := decide_eq_false (by omega)
          have c3 : ((readO x).place == r.getD 0 0) = true := ibeqT a.symm
          by_cases b : r.getD 1 0 ≤ (readO x).j
          · have c4 : decide ((readO x).j < r.getD 1 0) = false := decide_eq_false (by omega)
            rw [if_pos (.inr ⟨a.symm, b⟩)]
            simp only [d1, c1, c2, c3, c4, decide_eq_true b, naR, frmR, actR, aOn, aPut, aCnt, aCut, sQ, fCnt, fCut, naCs, naLd, naEn, cond_true, cond_false, Bool.not_true, Bool.not_false]
          · have c4 : decide ((readO x).j < r.getD 1 0) = true := decide_eq_true (by omega)
            have c5 : decide (r.getD 1 0 ≤ (readO x).j) = false := decide_eq_false b
            rw [if_neg (fun q => q.elim (fun q => by omega) (fun q => b q.2))]
            cases hs : (readW x).isSome
            · rw [if_pos (.inl rfl)]
              simp only [d1, e1, e2, w0, w1, w2, c1, c2, c3, c4, c5, naR, frmR, actR, aOn, aPut, aCnt, aCut, sQ, fCnt, fCut, naCs, naLd, naEn, cond_true, cond_false, Bool.not_true, Bool.not_false]
            · by_cases o : (readO x).offset = r.getD 4 0 - 1
              · rw [if_neg (fun q => q.elim (fun q => by cases q) (fun q => q o))]
                by_cases z : r.getD 5 0 = 0
                · rw [if_pos z]
                  simp only [d1, e1, e2, w0, w1, w2, ibneF o, ibeqT z, c1, c2, c3, c4, c5, naR, frmR, actR, aOn, aPut, aCnt, aCut, sQ, fCnt, fCut, naCs, naLd, naEn, cond_true, cond_false, Bool.not_true, Bool.not_false]
                · rw [if_neg z]
                  simp only [d1, e1, e2, w0, w1, w2, ibneF o, ibeqF z, c1, c2, c3, c4, c5, naR, frmR, actR, aOn, aPut, aCnt, aCut, sQ, fCnt, fCut, naCs, naLd, naEn, cond_true, cond_false, Bool.not_true, Bool.not_false]
              · rw [if_pos (.inr o)]
                simp only [d1, e1, e2, w0, w1, w2, ibneT o, c1, c2, c3, c4, c5, naR, frmR, actR, aOn, aPut, aCnt, aCut, sQ, fCnt, fCut, naCs, naLd, naEn, cond_true, cond_false, Bool.not_true, Bool.not_false]
        · have c1 : decide (r.getD 0 0 < (readO x).place) = false := decide_eq_false (by omega)
          have c2 : decide ((readO x).place < r.getD 0 0) = true := decide_eq_true a
          have c3 : ((readO x).place == r.getD 0 0) = false := ibeqF (by omega)
          rw [if_neg (fun q => q.elim (fun q => by omega) (fun q => by omega))]
          cases hs : (readW x).isSome
          · rw [if_pos (.inl rfl)]
            simp only [d1, e1, e2, w0, w1, w2, c1, c2, c3, naR, frmR, actR, aOn, aPut, aCnt, aCut, sQ, fCnt, fCut, naCs, naLd, naEn, cond_true, cond_false, Bool.not_true, Bool.not_false]
          · by_cases o : (readO x).offset = r.getD 4 0 - 1
            · rw [if_neg (fun q => q.elim (fun q => by cases q) (fun q => q o))]
              by_cases z : r.getD 5 0 = 0
              · rw [if_pos z]
                simp only [d1, e1, e2, w0, w1, w2, ibneF o, ibeqT z, c1, c2, c3, naR, frmR, actR, aOn, aPut, aCnt, aCut, sQ, fCnt, fCut, naCs, naLd, naEn, cond_true, cond_false, Bool.not_true, Bool.not_false]
              · rw [if_neg z]
                simp only [d1, e1, e2, w0, w1, w2, ibneF o, ibeqF z, c1, c2, c3, naR, frmR, actR, aOn, aPut, aCnt, aCut, sQ, fCnt, fCut, naCs, naLd, naEn, cond_true, cond_false, Bool.not_true, Bool.not_false]
            · rw [if_pos (.inr o)]
              simp only [d1, e1, e2, w0, w1, w2, ibneT o, c1, c2, c3, naR, frmR, actR, aOn, aPut, aCnt, aCut, sQ, fCnt, fCut, naCs, naLd, naEn, cond_true, cond_false, Bool.not_true, Bool.not_false]
      · obtain ⟨b0, b1⟩ := y2 (by decide)
        obtain ⟨w0, w1, w2⟩ := wm _ b0 b1
        have d2 : decide (r.getD 5 0 < 9223372036854775808) = true := decide_eq_true (by have := (y3 (by decide)).2; unfold bigW at this; omega)
        have hk : nStr true ⟨76, 5, r⟩ [x] = if x < (readO (r.getD 5 0)).place then naCs 76 8 r (lRow 48 (sQ r) 3) x (readO (r.getD 5 0)).place 0 else aPut r := rfl
        rw [nxStrR_76_5, hk]
        by_cases z : x < (readO (r.getD 5 0)).place
        · rw [if_pos z]
          simp only [d1, d2, e1, e2, w0, w1, w2, decide_eq_true z, naR, frmR, actR, aOn, aPut, aCnt, aCut, sQ, fCnt, fCut, naCs, naLd, naEn, cond_true, cond_false, Bool.not_true, Bool.not_false]
        · rw [if_neg z]
          simp only [d1, d2, e1, e2, w0, w1, w2, decide_eq_false z, naR, frmR, actR, aOn, aPut, aCnt, aCut, sQ, fCnt, fCut, naCs, naLd, naEn, cond_true, cond_false, Bool.not_true, Bool.not_false]
      · obtain ⟨b0, b1⟩ := y2 (by decide)
        obtain ⟨w0, w1, w2⟩ := wm _ b0 b1
        have hk : nStr true ⟨76, 6, r⟩ [x] = if x = 0 then aCnt r else aOn 7 r := rfl
        rw [nxStrR_76_6, hk]
        by_cases z : x = 0
        · rw [if_pos z]
          simp only [d1, e1, e2, w0, w1, w2, ibeqT z, naR, frmR, actR, aOn, aPut, aCnt, aCut, sQ, fCnt, fCut, naCs, naLd, naEn, cond_true, cond_false, Bool.not_true, Bool.not_false]
        · rw [if_neg z]
          simp only [d1, e1, e2, w0, w1, w2, ibeqF z, naR, frmR, actR, aOn, aPut, aCnt, aCut, sQ, fCnt, fCut, naCs, naLd, naEn, cond_true, cond_false, Bool.not_true, Bool.not_false]
      · (rw [nxStrR_76_7]; conv => zeta)
        try simp only [d1, e1, cond_true]
        rfl
      · (rw [nxStrR_76_8]; conv => zeta)
        try simp only [d1, e1, cond_true]
        rfl
  · rcases hk with ⟨rfl, rfl⟩ | ⟨x, rfl, k1, k4, x0, x1, y1, y2, y3⟩
    · (rw [nxStrR_77_0]; conv => zeta)
      rfl
    · have d1 : decide (x < 9223372036854775808) = true := decide_eq_true (by unfold bigW at x1; omega)
      have ks : k = 1 ∨ k = 2 ∨ k = 3 ∨ k = 4 := by omega
      rcases ks with rfl | rfl | rfl | rfl
      · have y1 := y1 rfl
        have w1 : IntKind.i64.wrap (x - 1) = x - 1 := wrap_id (by omega) (by omega)
        have g4 : (((r.set 3 x).set 4 (x - 1)).set 5 0).getD 4 0 = x - 1 := by rw [getD_set_ne' (by decide), getD_set_eq (by rw [List.length_set]; omega)]
        have g5 : (((r.set 3 x).set 4 (x - 1)).set 5 0).getD 5 0 = 0 := getD_set_eq (by simp only [List.length_set]; omega)
        have g0 : (((r.set 3 x).set 4 (x - 1)).set 5 0).getD 0 0 = r.getD 0 0 := by rw [getD_set_ne' (by decide), getD_set_ne' (by decide), getD_set_ne' (by decide)]
        have hk : nStr true ⟨77, 1, r⟩ [x] = fNxB (((r.set 3 x).set 4 (x - 1)).set 5 0) := rfl
        rw [nxStrR_77_1, hk, fNxB, g4, g5]
        by_cases z : 0 ≤ x - 1
        · rw [if_pos ⟨z, by decide⟩]
          simp only [d1, w1, g0, g4, g5, decide_eq_true z, naR, frmR, actR, aOn, aPut, aCnt, aCut, sQ, fCnt, fCut, naCs, naLd, naEn, cond_true, cond_false, Bool.not_true, Bool.not_false]
        · rw [if_neg (fun q => z q.1)]
          simp only [d1, w1, g0, g4, g5, decide_eq_false z, naR, frmR, actR, aOn, aPut, aCnt, aCut, sQ, fCnt, fCut, naCs, naLd, naEn, cond_true, cond_false, Bool.not_true, Bool.not_false]
      · obtain ⟨c0, c1, a0, a1, m0, m1⟩ : 0 ≤ r.getD 3 0 ∧ r.getD 3 0 ≤ 1000000 ∧ 0 ≤ r.getD 4 0 ∧ r.getD 4 0 ≤ 1000000 ∧ 0 ≤ r.getD 5 0 ∧ r.getD 5 0 ≤ 15 := y2 rfl
        have v3 : IntKind.i64.wrap (r.getD 3 0 + 1) = r.getD 3 0 + 1 := wrap_id (by omega) (by omega)
        have v4 : IntKind.i64.wrap (6 + r.getD 5 0) = 6 + r.getD 5 0 := wrap_id (by omega) (by omega)
        have v5 : (6 + r.getD 5 0).toNat = 6 + (r.getD 5 0).toNat := by omega
        have v6 : IntKind.i64.wrap (r.getD 5 0 + 1) = r.getD 5 0 + 1 := wrap_id (by omega) (by omega)
        have v7 : IntKind.i64.wrap (r.getD 4 0 - 1) = r.getD 4 0 - 1 := wrap_id (by omega) (by omega)
        have v8 : decide (0 ≤ 6 + r.getD 5 0 ∧ 6 + r.getD 5 0 < 96) = true := decide_eq_true ⟨by omega, by omega⟩
        have v9 : decide (16 ≤ r.getD 5 0) = false := decide_eq_false (by omega)
        have u4 : ((r.set (6 + (r.getD 5 0).toNat) x).set 5 (r.getD 5 0 + 1)).getD 4 0 = r.getD 4 0 := by rw [getD_set_ne' (by omega), getD_set_ne' (by omega)]
        have hk : nStr true ⟨77, 2, r⟩ [x] = if x = 0 then fCut r else if (readW x).isSome = true ∧ (readO x).offset = r.getD 3 0 then naCs 77 4 r (lRow 45 (r.getD 0 0) 3) (r.getD 3 0) (r.getD 3 0 + 1) 0
          else if (readW x).isSome = false ∨ (readO x).offset ≠ r.getD 4 0 then fCnt r else fNxB (((r.set (6 + (r.getD 5 0).toNat) x).set 5 (r.getD 5 0 + 1)).set 4 (r.getD 4 0 - 1)) := rfl
        rw [nxStrR_77_2, hk]
        simp only [v3, v4, v5, v6, u4, v7]
        have t5 : (((r.set (6 + (r.getD 5 0).toNat) x).set 5 (r.getD 5 0 + 1)).set 4 (r.getD 4 0 - 1)).getD 5 0 = r.getD 5 0 + 1 := by rw [getD_set_ne' (by decide), getD_set_eq (by simp only [List.length_set]; omega)]
        have t4 : (((r.set (6 + (r.getD 5 0).toNat) x).set 5 (r.getD 5 0 + 1)).set 4 (r.getD 4 0 - 1)).getD 4 0 = r.getD 4 0 - 1 := getD_set_eq (by simp only [List.length_set]; omega)
        have t0 : (((r.set (6 + (r.getD 5 0).toNat) x).set 5 (r.getD 5 0 + 1)).set 4 (r.getD 4 0 - 1)).getD 0 0 = r.getD 0 0 := by rw [getD_set_ne' (by decide), getD_set_ne' (by decide), getD_set_ne' (by omega)]
        generalize ((r.set (6 + (r.getD 5 0).toNat) x).set 5 (r.getD 5 0 + 1)).set 4 (r.getD 4 0 - 1) = R at t0 t4 t5 ⊢
        by_cases xz : x = 0
        · rw [if_pos xz]
          simp only [d1, ibeqT xz, naR, frmR, actR, aOn, aPut, aCnt, aCut, sQ, fCnt, fCut, naCs, naLd, naEn, cond_true, cond_false, Bool.not_true, Bool.not_false]
        rw [if_neg xz]
        simp only [ibeqF xz, d1, v8, v9, t4, t5, cond_true, cond_false]
        cases hs : (readW x).isSome
        · rw [if_neg (by simp), if_pos (.inl rfl)]
          simp only [naR, frmR, actR, aOn, aPut, aCnt, aCut, sQ, fCnt, fCut, naCs, naLd, naEn, cond_true, cond_false, Bool.not_true, Bool.not_false]
        by_cases o : (readO x).offset = r.getD 3 0
        · rw [if_pos ⟨rfl, o⟩]
          simp only [ibeqT o, naR, frmR, actR, aOn, aPut, aCnt, aCut, sQ, fCnt, fCut, naCs, naLd, naEn, cond_true, cond_false, Bool.not_true, Bool.not_false]
        rw [if_neg (fun q => o q.2)]
        by_cases o2 : (readO x).offset = r.getD 4 0
        · rw [if_neg (fun q => q.elim (fun q => by cases q) (fun q => q o2)), fNxB, t4, t5]
          by_cases z : 0 ≤ r.getD 4 0 - 1
          · by_cases z2 : r.getD 5 0 + 1 < 16
            · rw [if_pos ⟨z, z2⟩]
              simp only [ibeqF o, ibneF o2, decide_eq_true z, decide_eq_true z2, t0, t4, naR, frmR, actR, aOn, aPut, aCnt, aCut, sQ, fCnt, fCut, naCs, naLd, naEn, cond_true, cond_false, Bool.not_true, Bool.not_false]
            · rw [if_neg (fun q => z2 q.2)]
              simp only [ibeqF o, ibneF o2, decide_eq_true z, decide_eq_false z2, t0, naR, frmR, actR, aOn, aPut, aCnt, aCut, sQ, fCnt, fCut, naCs, naLd, naEn, cond_true, cond_false, Bool.not_true, Bool.not_false]
          · rw [if_neg (fun q => z q.1)]
            simp only [ibeqF o, ibneF o2, decide_eq_false z, t0, naR, frmR, actR, aOn, aPut, aCnt, aCut, sQ, fCnt, fCut, naCs, naLd, naEn, cond_true, cond_false, Bool.not_true, Bool.not_false]
        · rw [if_pos (.inr o2)]
          simp only [ibeqF o, ibneT o2, naR, frmR, actR, aOn, aPut, aCnt, aCut, sQ, fCnt, fCut, naCs, naLd, naEn, cond_true, cond_false, Bool.not_true, Bool.not_false]
      · exact nxStrR_77_3 x r gc hr hv (y3 rfl)
      · (rw [nxStrR_77_4]; conv => zeta)
        try simp only [d1, cond_true]
        rfl
noncomputable def uf_2 := uf_1.addSpec 90 nxStrR_sp
theorem uf_2_laws : FLaws Tryz.prog s19 uf_2 := uf_1_laws.addEv s19_laws fun args d h => by
  unfold nxStrR_sp at h
  split at h
  · unfold nxStrR_s at h
    have h1 := congrArg Prod.fst (Option.some.inj h)
    obtain rfl : _ = d := congrArg Prod.snd (Option.some.inj h)
    exact ⟨by simp [D.refs, naR_refs], 120, nxStrR_ok _ _ _ _ _ h1⟩
  · cases h
open Go.Proofs
def goGo (own : Bool) (n : Nat) (st : List Frame) (got : List Int) (e : Bool) : GoM := goN (nStr own) n st got e
def okGo (own : Bool) (n : Nat) (st : List Frame) (got : List Int) : Prop := OkN (nStr own) (okStr own) n st got
def tskR (c : Int) (sf : Bool) (st : List Frame) (gf : Bool) (got : List Int) (over : Bool) : D RC := .acons (.int .i64 c) (.acons (.sl (C := RC) .frame sf st) (.acons (.sl (C := RC) .int gf got) (.acons (.bool over) .anil)))
structure goesl_St where
  c : Int
  sf : Bool
  st : List Frame
  gf : Bool
  got : List Int
  over : Bool
  own : Bool
  i : Nat
noncomputable def goesl_c (c : Int) (sf : Bool) (st : List Frame) (gf : Bool) (got : List Int) (over : Bool) (own : Bool) (i : Nat) : Env RC := [(1, .bool own), (2, .ptr 0 []), (4, .ptr 1 []), (5, .ptr 2 []), (7, .int .i64 (i : Int))]
def goesl_o (c : Int) (sf : Bool) (st : List Frame) (gf : Bool) (got : List Int) (over : Bool) (own : Bool) (i : Nat) : List (Obj RC) := [.var 48 (.acons (.int .i64 c) (.acons (.sl (C := RC) .frame sf st) (.acons (.sl (C := RC) .int gf got) (.acons (.bool over) .anil)))), .var 48 (.acons (.int .i64 0) (.acons (.sl (C := RC) .frame true []) (.acons (.sl (C := RC) .int true []) (.acons (.bool false) .anil)))), .var 75 (.acons (.int .i8 0) (.acons (.int .i64 0) (.acons (.int .i64 0) (.acons (.int .i64 0) (.acons (.int .i64 0) (.acons (.str []) (.acons (.sl (C := RC) .int true []) .anil)))))))]
noncomputable def goesl_r (c : Int) (sf : Bool) (st : List Frame) (gf : Bool) (got : List Int) (over : Bool) (own : Bool) (i : Nat) := rndO s19 uf_2 54 2 120 3 [1, 2, 4, 5, 7] [6] [.slot 2 0, .slot 4 0, .slot 5 0] (goesl_c c sf st gf got over own i) (goesl_o c sf st gf got over own i)
theorem goesl_eq (c : Int) (sf : Bool) (st : List Frame) (gf : Bool) (got : List Int) (over : Bool) (own : Bool) (i : Nat) : goesl_r c sf st gf got over own i = (let Z0 : D RC := D.int .i64 c; let Z1 : D RC := .anil; let Z2 : Option (Obj RC) := some (Obj.var 48 (.acons Z0 (D.acons (D.sl RTy.frame sf st) (.acons (D.sl RTy.int gf got) (.acons (D.bool over) Z1))))); let Z3 : D RC := D.int .i64 0; let Z4 : List (Option (Obj RC)) := [some (Obj.var 75 (.acons (D.int IntKind.i8 (0 : Int)) (.acons Z3 (D.acons Z3 (D.acons Z3 (D.acons Z3 (D.acons (D.str []) (.acons (D.sl RTy.int true []) Z1))))))))]; let Z5 : Frame := Frame.mk (Frame.prog (topF st)) (Frame.at' (topF st)) (Frame.r (topF st)); let Z6 : NA := nStr true Z5 got; let Z7 : Action := NA.a Z6; let Z8 : Int := Action.kind Z7; let Z9 : Action := Action.mk Z8 (Action.a Z7) (Action.b Z7) (Action.v Z7) (Action.gen Z7) (Action.text Z7) (Action.args Z7); let Z10 : X × Env RC := (X.ret, [(6, D.bool true)]); let Z11 : List Frame := tkSt st (Frame.mk (Frame.prog (NA.f Z6)) (Frame.at' (NA.f Z6)) (Frame.r (NA.f Z6))) Z9; let Z12 : Option (Obj RC) := some (Obj.var 48 (.acons Z0 (D.acons (D.sl RTy.frame false Z11) (.acons (D.sl RTy.int (tkFl gf Z9) (tkGot got Z9)) (.acons (D.bool (decide (Z11 = []))) Z1))))); let Z13 : X × Env RC := (X.normal, [(1, D.bool own), (2, D.ptr 0 []), (4, D.ptr 1 []), (5, D.ptr 2 []), (7, D.int .i64 (IntKind.wrap .i64 ((↑i : Int) + (1 : Int))))]); let Z14 : List (Option (Obj RC)) := some (Obj.var 48 (.acons Z3 (D.acons (D.sl RTy.frame true []) (.acons (D.sl RTy.int true []) (.acons (D.bool false) Z1))))) :: Z4; let Z15 : NA := nStr false Z5 got; let Z16 : Action := NA.a Z15; let Z17 : Int := Action.kind Z16; let Z18 : Action := Action.mk Z17 (Action.a Z16) (Action.b Z16) (Action.v Z16) (Action.gen Z16) (Action.text Z16) (Action.args Z16); let Z19 : List Frame := tkSt st (Frame.mk (Frame.prog (NA.f Z15)) (Frame.at' (NA.f Z15)) (Frame.r (NA.f Z15))) Z18; let Z20 : Option (Obj RC) := some (Obj.var 48 (.acons Z0 (D.acons (D.sl RTy.frame false Z19) (.acons (D.sl RTy.int (tkFl gf Z18) (tkGot got Z18)) (.acons (D.bool (decide (Z19 = []))) Z1))))); bif decide ((↑i : Int) < (64 : Int)) then bif lenOK st.length then bif !decide (st ≠ []) then some ((X.ret, [(6, D.bool false)]), Z2 :: Z2 :: Z4) else bif own then bif cdec (okStr true Z5 got) then bif cdec (OkTk c st got Z9) && !over then bif decide (Z8 < (6 : Int)) then some (Z10, [Z12, Z12, some (Obj.var 75 (.acons (D.int IntKind.i8 Z8) (.acons (D.int .i64 (Action.a Z7)) (.acons (D.int .i64 (Action.b Z7)) (.acons (D.int .i64 (Action.v Z7)) (.acons (D.int .i64 (Action.gen Z7)) (.acons (D.str (Action.text Z7)) (.acons (D.sl RTy.int (NA.fl Z6) (Action.args Z7)) Z1))))))))]) else some (Z13, Z12 :: Z14) else none else none else bif cdec (okStr false Z5 got) then bif cdec (OkTk c st got Z18) && !over then bif decide (Z17 < (6 : Int)) then some (Z10, [Z20, Z20, some (Obj.var 75 (.acons (D.int IntKind.i8 Z17) (.acons (D.int .i64 (Action.a Z16)) (.acons (D.int .i64 (Action.b Z16)) (.acons (D.int .i64 (Action.v Z16)) (.acons (D.int .i64 (Action.gen Z16)) (.acons (D.str (Action.text Z16)) (.acons (D.sl RTy.int (NA.fl Z15) (Action.args Z16)) Z1))))))))]) else some (Z13, Z20 :: Z14) else none else none else none else some ((X.exit (0 : Nat), [(6, D.top)]), Z2 :: Z14)) := by kernel_rfl
noncomputable def goesl_fin (c : Int) (sf : Bool) (st : List Frame) (gf : Bool) (got : List Int) (over : Bool) (own : Bool) (i : Nat) : RT RC := .leaf .ret [(6, .bool (goGo own (64 - i) st got gf).is)] [.var 48 (tskR c false (goGo own (64 - i) st got gf).st (goGo own (64 - i) st got gf).gf (goGo own (64 - i) st got gf).got (decide ((goGo own (64 - i) st got gf).st = []))), .var 48 (tskR c false (goGo own (64 - i) st got gf).st (goGo own (64 - i) st got gf).gf (goGo own (64 - i) st got gf).got (decide ((goGo own (64 - i) st got gf).st = []))), .var 75 (actR (goGo own (64 - i) st got gf).a (goGo own (64 - i) st got gf).af)]
def goesl_Inv (c : Int) (sf : Bool) (st : List Frame) (gf : Bool) (got : List Int) (over : Bool) (own : Bool) (i : Nat) : Prop := 0 ≤ c ∧ c ≤ 3 ∧ i ≤ 64 ∧ over = decide (st = []) ∧ (st = [] → sf = false) ∧ okGo own (64 - i) st got
noncomputable def goesl_S : LoopR RC goesl_St where
  k := 3
  canon q := goesl_c q.c q.sf q.st q.gf q.got q.over q.own q.i
  objs q := goesl_o q.c q.sf q.st q.gf q.got q.over q.own q.i
  fin q := goesl_fin q.c q.sf q.st q.gf q.got q.over q.own q.i
  Inv q := goesl_Inv q.c q.sf q.st q.gf q.got q.over q.own q.i
  μ q := 64 - q.i
theorem goesl_round (c : Int) (sf : Bool) (st : List Frame) (gf : Bool) (got : List Int) (over : Bool) (own : Bool) (i : Nat) (hI : goesl_Inv c sf st gf got over own i) : Leaf (goesl_r c sf st gf got over own i) (LedR goesl_S ⟨c, sf, st, gf, got, over, own, i⟩) := by
  (rw [goesl_eq]; conv => zeta)
  unfold goesl_Inv at hI
  obtain ⟨c0, c3, hi, ho, hsf, hok⟩ := hI
  have feta : ∀ f : Frame, Frame.mk f.prog f.at' f.r = f := fun _ => rfl
  have aeta : ∀ a : Action, Action.mk a.kind a.a a.b a.v a.gen a.text a.args = a := fun _ => rfl
  simp only [feta, aeta]
  obtain ⟨m, hm⟩ : ∃ m, 64 - i = m + 1 := by
    cases hq : 64 - i with
    | zero => unfold okGo at hok; rw [hq] at hok; exact hok.elim
    | succ m => exact ⟨m, rfl⟩
  have hm2 : 64 - (i + 1) = m := by omega
  have d1 : decide ((i : Int) < 64) = true := decide_eq_true (by omega)
  unfold okGo at hok
  rw [hm] at hok
  have hfin : ∀ R : GoM, goN (nStr own) (m + 1) st got gf = R → (goesl_fin c sf st gf got over own i).val = some ((.ret, [(6, .bool R.is)]), [.var 48 (tskR c false R.st R.gf R.got (decide (R.st = []))), .var 48 (tskR c false R.st R.gf R.got (decide (R.st = []))), .var 75 (actR R.a R.af)]) := fun R hR => by
    unfold goesl_fin goGo; rw [hm, hR]; rfl
  rcases hok with rfl | ⟨hne, hl6, hg, hk, hmay, k0, k7, hnx⟩
  · have hsf := hsf rfl
    subst hsf
    have d2 : lenOK ([] : List Frame).length = true := rfl
    have d3 : decide (([] : List Frame) ≠ []) = false := decide_eq_false fun h => h rfl
    subst ho
    simp only [d1, d2, d3, Bool.not_false, cond_true]
    exact leafR_ret _ (hfin _ rfl) rfl
  · have l1 : 1 ≤ st.length := List.length_pos_iff.2 hne
    have d2 : lenOK st.length = true := lenOK_of (by omega)
    have d3 : decide (st ≠ []) = true := decide_eq_true hne
    have ho : over = false := by rw [ho]; exact decide_eq_false hne
    subst ho
    have e1 : cdec (okStr own (topF st) got) = true := cdec_true hk
    have e2 : cdec (OkTk c st got (nStr own (topF st) got).a) = true := cdec_true ⟨c0, c3, hg, l1, hl6, hmay, k0, k7, fun e => by
      rcases hnx with h | h
      · omega
      · exact h.1 e⟩
    have hR : goN (nStr own) (m + 1) st got gf = if (nStr own (topF st) got).a.kind < 6 then ⟨tkSt st (nStr own (topF st) got).f (nStr own (topF st) got).a, got, gf, (nStr own (topF st) got).a, (nStr own (topF st) got).fl, true⟩
        else goN (nStr own) m (tkSt st (nStr own (topF st) got).f (nStr own (topF st) got).a) (tkGot got (nStr own (topF st) got).a) (tkFl gf (nStr own (topF st) got).a) := by
      rw [goN, if_neg hne]
    have hgoal : ∀ N : NA, nStr own (topF st) got = N → Leaf (cond (decide (N.a.kind < 6)) (some ((X.ret, [(6, D.bool true)]), [some (Obj.var 48 (tskR c false (tkSt st N.f N.a) (tkFl gf N.a) (tkGot got N.a) (decide (tkSt st N.f N.a = [])))), some (Obj.var 48 (tskR c false (tkSt st N.f N.a) (tkFl gf N.a) (tkGot got N.a) (decide (tkSt st N.f N.a = [])))), some (Obj.var 75 (actR N.a N.fl))]))
        (some ((X.normal, goesl_c c false (tkSt st N.f N.a) (tkFl gf N.a) (tkGot got N.a) (decide (tkSt st N.f N.a = [])) own (i + 1)), (goesl_o c false (tkSt st N.f N.a) (tkFl gf N.a) (tkGot got N.a) (decide (tkSt st N.f N.a = [])) own (i + 1)).map some))) (LedR goesl_S ⟨c, sf, st, gf, got, false, own, i⟩) := fun N hN => by
      rw [hN] at hR hnx
      by_cases hk6 : N.a.kind < 6
      · rw [if_pos hk6] at hR
        rw [decide_eq_true hk6, cond_true]
        have t1 : tkGot got N.a = got := if_pos hk6
        have t2 : tkFl gf N.a = gf := if_pos hk6
        rw [t1, t2]
        exact leafR_ret _ (hfin _ hR) rfl
      · rw [if_neg hk6] at hR
        rw [decide_eq_false hk6, cond_false]
        refine leafR_go (S := goesl_S) ⟨c, false, tkSt st N.f N.a, tkFl gf N.a, tkGot got N.a, decide (tkSt st N.f N.a = []), own, i + 1⟩ ⟨c0, c3, by show i + 1 ≤ 64; omega, rfl, fun _ => rfl, ?_⟩ (by simp only [goesl_S]; omega) ?_ rfl rfl
        · show OkN (nStr own) (okStr own) (64 - (i + 1)) _ _
          rw [hm2]
          rcases hnx with h | h
          · exact absurd h hk6
          · exact h.2
        · show (goesl_fin c false (tkSt st N.f N.a) (tkFl gf N.a) (tkGot got N.a) (decide (tkSt st N.f N.a = [])) own (i + 1)).val = (goesl_fin c sf st gf got false own i).val
          rw [hfin _ hR]
          unfold goesl_fin goGo
          rw [hm2]
          rfl
    have w1 : IntKind.i64.wrap ((i : Int) + 1) = ((i + 1 : Nat) : Int) := by rw [wrap_id (by omega) (by omega)]; simp
    have q0 : ((0 : Int) != 0) = false := rfl
    cases own
    · simp only [d1, d2, d3, e1, e2, w1, q0, Bool.not_true, Bool.not_false, Bool.and_self, cond_true, cond_false]
      exact hgoal _ rfl
    · simp only [d1, d2, d3, e1, e2, w1, q0, Bool.not_true, Bool.not_false, Bool.and_self, cond_true, cond_false]
      exact hgoal _ rfl
noncomputable def goesl_d (env : Env RC) (os : List (Obj RC)) : Option (Bool × goesl_St) := match env, os with
  | [(1, .bool own), (2, .ptr 0 []), (4, .ptr 1 []), (5, .ptr 2 []), (7, .int .i64 x0)], [.var 48 (.acons (.int .i64 c) (.acons (.sl .frame sf st) (.acons (.sl .int gf got) (.acons (.bool over) .anil)))), .var 48 (.acons (.int .i64 0) (.acons (.sl .frame true []) (.acons (.sl .int true []) (.acons (.bool false) .anil)))), .var 75 (.acons (.int .i8 0) (.acons (.int .i64 0) (.acons (.int .i64 0) (.acons (.int .i64 0) (.acons (.int .i64 0) (.acons (.str []) (.acons (.sl .int true []) .anil)))))))] => staticD (true) (decide (x0 = 0) && cdec (0 ≤ c ∧ c ≤ 3 ∧ over = decide (st = []) ∧ (st = [] → sf = false) ∧ okGo own 64 st got), ⟨c, sf, st, gf, got, over, own, 0⟩)
  | _, _ => none
noncomputable def ug_1 := uf_2.addLoop 54 2 (sumR s19 [.slot 2 0, .slot 4 0, .slot 5 0] [1, 2, 4, 5, 7] goesl_S goesl_d)
theorem ug_1_laws : FLaws Tryz.prog s19 ug_1 := by
  refine uf_2_laws.addRoundsR s19_laws (by kernel_rfl) goesl_S 120 [1, 2, 4, 5, 7] [6] [.slot 2 0, .slot 4 0, .slot 5 0] [1, 2, 4, 5, 7] goesl_d (fun q hI => ?_) ?_
  · obtain ⟨c, sf, st, gf, got, over, own, i⟩ := q
    refine ⟨?_, ?_, goesl_round c sf st gf got over own i hI⟩
    · simp_all [RefsOK, goesl_S, goesl_c, goesl_o, goesl_Inv, D.refs, Obj.refs, rEnc]
    · simp_all [goesl_S, goesl_fin, goesl_o, goesl_Inv, RT.refsOK, RefsOK, D.refs, Obj.refs, rEnc, tskR, actR]
  · intro env os b q hd_ hb
    unfold goesl_d at hd_
    split at hd_
    · obtain ⟨hs, hd_⟩ := staticD_some hd_
      cases hd_
      simp only [Bool.and_eq_true, decide_eq_true_eq] at hb
      obtain ⟨e0, e1⟩ := hb
      subst e0
      obtain ⟨h1, h2, h3, h4, h5⟩ := cdec_iff.1 e1
      exact ⟨⟨h1, h2, Nat.zero_le _, h3, h4, h5⟩, rfl, rfl⟩
    · cases hd_
noncomputable def goes_s (c : Int) (sf : Bool) (st : List Frame) (gf : Bool) (got : List Int) (over : Bool) (own : Bool) : Option (Bool × D RC) := some (cdec (0 ≤ c ∧ c ≤ 3 ∧ over = decide (st = []) ∧ (st = [] → sf = false) ∧ okGo own 64 st got), .tup (.acons (tskR c false (goGo own 64 st got gf).st (goGo own 64 st got gf).gf (goGo own 64 st got gf).got (decide ((goGo own 64 st got gf).st = []))) (.acons (actR (goGo own 64 st got gf).a (goGo own 64 st got gf).af) (.acons (.bool (goGo own 64 st got gf).is) .anil))))
noncomputable def goes_sp : List (D RC) → Option (Bool × D RC)
  | [.acons (.int .i64 c) (.acons (.sl .frame sf st) (.acons (.sl .int gf got) (.acons (.bool over) .anil))), .bool own] => goes_s c sf st gf got over own
  | _ => none
noncomputable def goes_e (c : Int) (sf : Bool) (st : List Frame) (gf : Bool) (got : List Int) (over : Bool) (own : Bool) := evF s19 ug_1 120 54 [.acons (.int .i64 c) (.acons (.sl (C := RC) .frame sf st) (.acons (.sl (C := RC) .int gf got) (.acons (.bool over) .anil))), .bool own]
theorem goes_eq (c : Int) (sf : Bool) (st : List Frame) (gf : Bool) (got : List Int) (over : Bool) (own : Bool) : goes_e c sf st gf got over own = (let Z0 : GoM := goGo own (64 : Nat) st got gf; let Z1 : Action := GoM.a Z0; bif cdec ((0 : Int) ≤ c ∧ c ≤ (3 : Int) ∧ over = decide (st = []) ∧ (st = [] → sf = false) ∧ okGo own (64 : Nat) st got) then some (D.tup (D.acons (D.acons (D.int .i64 c) (.acons (D.sl RTy.frame false (GoM.st Z0)) (.acons (D.sl RTy.int (GoM.gf Z0) (GoM.got Z0)) (.acons (D.bool (decide (GoM.st Z0 = []))) .anil)))) (.acons (D.acons (D.int IntKind.i8 (Action.kind Z1)) (.acons (D.int .i64 (Action.a Z1)) (.acons (D.int .i64 (Action.b Z1)) (.acons (D.int .i64 (Action.v Z1)) (.acons (D.int .i64 (Action.gen Z1)) (.acons (D.str (Action.text Z1)) (.acons (D.sl RTy.int (GoM.af Z0) (Action.args Z1)) .anil))))))) (.acons (D.bool (GoM.is Z0)) .anil)))) else none) := by kernel_rfl
theorem goes_ok (c : Int) (sf : Bool) (st : List Frame) (gf : Bool) (got : List Int) (over : Bool) (own : Bool) (h : (cdec (0 ≤ c ∧ c ≤ 3 ∧ over = decide (st = []) ∧ (st = [] → sf = false) ∧ okGo own 64 st got)) = true) : goes_e c sf st gf got over own = some (.tup (.acons (tskR c false (goGo own 64 st got gf).st (goGo own 64 st got gf).gf (goGo own 64 st got gf).got (decide ((goGo own 64 st got gf).st = []))) (.acons (actR (goGo own 64 st got gf).a (goGo own 64 st got gf).af) (.acons (.bool (goGo own 64 st got gf).is) .anil)))) := by
  (rw [goes_eq]; conv => zeta)
  simp only [h, decide_true, Bool.and_self, cond_true]
  rfl
noncomputable def ug_2 := ug_1.addSpec 54 goes_sp
theorem ug_2_laws : FLaws Tryz.prog s19 ug_2 := ug_1_laws.addEv s19_laws fun args d h => by
  unfold goes_sp at h
  split at h
  · unfold goes_s at h
    have h1 := congrArg Prod.fst (Option.some.inj h)
    obtain rfl : _ = d := congrArg Prod.snd (Option.some.inj h)
    exact ⟨by simp [D.refs], 120, goes_ok _ _ _ _ _ _ _ h1⟩
  · cases h
open Go.Proofs
structure rowRl_St where
  c : Bool
  l : List Sector
  i : Nat
def rowRl_c (c : Bool) (l : List Sector) (i : Nat) : Env RC := [(0, .sl (C := RC) .sector c l), (2, .bool false), (3, .int .i64 (i : Int))]
def rowRl_o (c : Bool) (l : List Sector) (i : Nat) : List (Obj RC) := []
noncomputable def rowRl_r (c : Bool) (l : List Sector) (i : Nat) := rndO s19 ug_2 153 4 40 0 [0, 2, 3] [2] [] (rowRl_c c l i) (rowRl_o c l i)
theorem rowRl_eq (c : Bool) (l : List Sector) (i : Nat) : rowRl_r c l i = (let Z0 : Int := (↑i : Int); let Z1 : Bool := decide ((0 : Int) ≤ Z0 ∧ Z0 < (↑l.length : Int)); let Z2 : Sector := List.getD l Z0.toNat (Sector.mk (0 : Int) []); let Z3 : Int := Sector.n Z2; let Z4 : RO_ := some ((X.ret, [(2, D.bool false)]), []); let Z5 : Nat := List.length (Sector.b Z2); let Z6 : RO_ := some ((X.normal, [(0, D.sl RTy.sector c l), (2, D.bool false), (3, D.int .i64 (IntKind.wrap .i64 (Z0 + (1 : Int))))]), []); bif lenOK l.length then bif decide (Z0 < (↑l.length : Int)) then bif Z1 then bif decide (Z3 < (0 : Int)) then Z4 else bif Z1 then bif decide ((1048575 : Int) < Z3) then Z4 else bif Z1 then bif lenOK Z5 then bif decide ((640 : Int) < (↑Z5 : Int)) then Z4 else bif Z1 then bif Z3 == (0 : Int) then bif Z1 then bif !Sector.b Z2 == Array.toList #[] then Z4 else Z6 else none else Z6 else none else none else none else none else none else some ((X.exit (0 : Nat), [(2, D.bool false)]), []) else none) := by kernel_rfl
def rowRl_fin (c : Bool) (l : List Sector) (i : Nat) : RT RC := .br (l.drop i |>.all maySec) (.leaf (.exit 0) [(2, .bool false)] []) (.leaf .ret [(2, .bool false)] [])
def rowRl_Inv (c : Bool) (l : List Sector) (i : Nat) : Prop := i ≤ l.length ∧ goodL l = true
def rowRl_S : LoopR RC rowRl_St where
  k := 0
  canon q := rowRl_c q.c q.l q.i
  objs q := rowRl_o q.c q.l q.i
  fin q := rowRl_fin q.c q.l q.i
  Inv q := rowRl_Inv q.c q.l q.i
  μ q := q.l.length - q.i
theorem rowRl_round (c : Bool) (l : List Sector) (i : Nat) (hI : rowRl_Inv c l i) : Leaf (rowRl_r c l i) (LedR rowRl_S ⟨c, l, i⟩) := by
  (rw [rowRl_eq]; conv => zeta)
  unfold rowRl_Inv at hI
  obtain ⟨h1, hg⟩ := hI
  have h2 := (goodL_iff.1 hg).1
  have hlk0 : lenOK l.length = true := lenOK_of h2
  by_cases hlt : i < l.length
  · have w_succ : IntKind.i64.wrap ((i : Int) + 1) = ((i + 1 : Nat) : Int) := by rw [wrap_id (by omega) (by omega)]; simp
    have d_lt : decide ((i : Int) < l.length) = true := by simp; omega
    have d_in : decide (0 ≤ (i : Int) ∧ (i : Int) < l.length) = true := by simp; omega
    have t_nat : ((i : Int)).toNat = i := by simp
    simp only [w_succ, d_lt, d_in, t_nat, cond_true]
    have hlk := goodL_at hg i hlt (⟨0, []⟩ : Sector)
    have hst := all_drop_step l maySec i hlt (⟨0, []⟩ : Sector)
    generalize l.getD i (⟨0, []⟩ : Sector) = x at hst hlk ⊢
    simp only [hlk0, hlk, cond_true]
    have hgo : maySec x = true → Leaf (some ((X.normal, rowRl_c c l (i + 1)), [])) (LedR rowRl_S ⟨c, l, i⟩) := fun e =>
      leafR_go ⟨c, l, i + 1⟩ ⟨hlt, hg⟩ (by simp only [rowRl_S]; omega) (by simp [rowRl_S, rowRl_fin, hst, e]) rfl rfl
    have hno : maySec x = false → Leaf (some ((X.ret, [(2, D.bool false)]), [])) (LedR rowRl_S ⟨c, l, i⟩) := fun e => leafR_ret [] (by simp [rowRl_S, rowRl_fin, hst, e, RT.val]) rfl
    have hm : maySec x = (decide (0 ≤ x.n) && decide (x.n ≤ 1048575) && decide (x.b.length ≤ 640) && (decide (0 < x.n) || x.b == [])) := rfl
    rw [hm] at hgo hno
    repeat' (refine leaf_cond.2 ⟨fun hc_ => ?_, fun hc_ => ?_⟩)
    all_goals first | exact hno (by clear hgo hno hst hm; simp_all <;> omega) | exact hgo (by clear hgo hno hst hm; simp_all <;> omega)
  · have hi : i = l.length := by omega
    have c1 : decide ((i : Int) < l.length) = false := by simp; omega
    rw [hlk0, c1]
    exact leafR_exit [] (by simp [rowRl_S, rowRl_fin, hi, RT.val]) rfl
def rowRl_d (env : Env RC) (os : List (Obj RC)) : Option (Bool × rowRl_St) := match env, os with
  | [(0, .sl .sector c l), (2, .bool false), (3, .int .i64 x0)], [] => staticD (true) (decide (x0 = 0) && goodL l, ⟨c, l, 0⟩)
  | _, _ => none
noncomputable def uh_1 := ug_2.addLoop 153 4 (sumR s19 [] [0, 2, 3] rowRl_S rowRl_d)
theorem uh_1_laws : FLaws Tryz.prog s19 uh_1 := by
  refine ug_2_laws.addRoundsR s19_laws (by kernel_rfl) rowRl_S 40 [0, 2, 3] [2] [] [0, 2, 3] rowRl_d (fun q hI => ?_) ?_
  · obtain ⟨c, l, i⟩ := q
    refine ⟨?_, ?_, rowRl_round c l i hI⟩
    · simp_all [RefsOK, rowRl_S, rowRl_c, rowRl_o, rowRl_Inv, D.refs, Obj.refs, rEnc]
    · simp_all [rowRl_S, rowRl_fin, rowRl_o, rowRl_Inv, RT.refsOK, RefsOK, D.refs, Obj.refs, rEnc]
  · intro env os b q hd_ hb
    unfold rowRl_d at hd_
    split at hd_
    · obtain ⟨hs, hd_⟩ := staticD_some hd_
      cases hd_
      simp only [Bool.and_eq_true, decide_eq_true_eq] at hb
      obtain ⟨rfl, hl⟩ := hb
      exact ⟨⟨Nat.zero_le _, hl⟩, rfl, rfl⟩
    · cases hd_
def rowRf_s (c : Bool) (l : List Sector) : Option (Bool × D RC) := some (goodL l, .bool (rowOK l))
def rowRf_sp : List (D RC) → Option (Bool × D RC)
  | [.sl .sector c l] => rowRf_s c l
  | _ => none
noncomputable def rowRf_e (c : Bool) (l : List Sector) := evF s19 uh_1 40 153 [.sl (C := RC) .sector c l]
theorem rowRf_eq (c : Bool) (l : List Sector) : rowRf_e c l = (bif lenOK l.length then bif (↑l.length : Int) != (33 : Int) then some (D.bool false) else bif goodL l then bif List.all (List.drop (0 : Nat) l) maySec then some (D.bool true) else some (D.bool false) else none else none) := by kernel_rfl
theorem rowRf_ok (c : Bool) (l : List Sector) (h : (goodL l) = true) : rowRf_e c l = some (.bool (rowOK l)) := by
  rw [rowRf_eq]
  have hl := (goodL_iff.1 h).1
  have lk := lenOK_of hl
  simp only [h, lk, rowOK, cond_true, List.drop_zero]
  by_cases e : l.length = 33
  · have e2 : ((l.length : Int) != 33) = false := by simp [e]
    cases hm : l.all maySec <;> simp [e, hm]
  · have e2 : ((l.length : Int) != 33) = true := by simp [bne]; omega
    simp [e, e2]
noncomputable def uh_2 := uh_1.addSpec 153 rowRf_sp
theorem uh_2_laws : FLaws Tryz.prog s19 uh_2 := uh_1_laws.addEv s19_laws fun args d h => by
  unfold rowRf_sp at h
  split at h
  · unfold rowRf_s at h
    have h1 := congrArg Prod.fst (Option.some.inj h)
    obtain rfl : _ = d := congrArg Prod.snd (Option.some.inj h)
    exact ⟨by simp [D.refs], 40, rowRf_ok _ _ h1⟩
  · cases h
structure chkRl_St where
  c : Bool
  now : List Sector
  d : Bool
  sure : List Sector
  i : Nat
def chkRl_c (c : Bool) (now : List Sector) (d : Bool) (sure : List Sector) (i : Nat) : Env RC := [(1, .ptr 0 []), (2, .int .i64 0), (3, .int .i64 (i : Int))]
def chkRl_o (c : Bool) (now : List Sector) (d : Bool) (sure : List Sector) (i : Nat) : List (Obj RC) := [.var 43 (.acons (.sl (C := RC) .sector c now) (.acons (.sl (C := RC) .sector d sure) .anil))]
noncomputable def chkRl_r (c : Bool) (now : List Sector) (d : Bool) (sure : List Sector) (i : Nat) := rndO s19 uh_2 125 4 40 1 [1, 2, 3] [2] [.slot 1 0] (chkRl_c c now d sure i) (chkRl_o c now d sure i)
theorem chkRl_eq (c : Bool) (now : List Sector) (d : Bool) (sure : List Sector) (i : Nat) : chkRl_r c now d sure i = (let Z0 : Int := (↑i : Int); let Z1 : List (Option (Obj RC)) := [some (Obj.var 43 (.acons (D.sl RTy.sector c now) (.acons (D.sl RTy.sector d sure) .anil)))]; let Z2 : Nat × D RC := (2, D.int .i64 0); bif lenOK now.length then bif decide (Z0 < (↑now.length : Int)) then bif decide ((0 : Int) ≤ Z0 ∧ Z0 < (↑sure.length : Int)) then bif decide ((0 : Int) ≤ Z0 ∧ Z0 < (↑now.length : Int)) then bif decide (Sector.n (List.getD now Z0.toNat (Sector.mk (0 : Int) [])) < Sector.n (List.getD sure Z0.toNat (Sector.mk (0 : Int) []))) then some ((X.ret, [(2, D.int .i64 2)]), Z1) else some ((X.normal, [(1, D.ptr 0 []), Z2, (3, D.int .i64 (IntKind.wrap .i64 (Z0 + (1 : Int))))]), Z1) else none else none else some ((X.exit (0 : Nat), [Z2]), Z1) else none) := by kernel_rfl
def chkRl_fin (c : Bool) (now : List Sector) (d : Bool) (sure : List Sector) (i : Nat) : RT RC := .br (lowAt now sure i) (.leaf (.exit 0) [(2, .int .i64 0)] (chkRl_o c now d sure i)) (.leaf .ret [(2, .int .i64 2)] (chkRl_o c now d sure i))
def chkRl_Inv (c : Bool) (now : List Sector) (d : Bool) (sure : List Sector) (i : Nat) : Prop := i ≤ now.length ∧ now.length ≤ 9223372036854775807 ∧ now.length = sure.length
def chkRl_S : LoopR RC chkRl_St where
  k := 1
  canon q := chkRl_c q.c q.now q.d q.sure q.i
  objs q := chkRl_o q.c q.now q.d q.sure q.i
  fin q := chkRl_fin q.c q.now q.d q.sure q.i
  Inv q := chkRl_Inv q.c q.now q.d q.sure q.i
  μ q := q.now.length - q.i
theorem chkRl_round (c : Bool) (now : List Sector) (d : Bool) (sure : List Sector) (i : Nat) (hI : chkRl_Inv c now d sure i) : Leaf (chkRl_r c now d sure i) (LedR chkRl_S ⟨c, now, d, sure, i⟩) := by
  (rw [chkRl_eq]; conv => zeta)
  unfold chkRl_Inv at hI
  obtain ⟨h1, h2, h3⟩ := hI
  have hlk0 : lenOK now.length = true := lenOK_of h2
  by_cases hlt : i < now.length
  · have w_succ : IntKind.i64.wrap ((i : Int) + 1) = ((i + 1 : Nat) : Int) := by rw [wrap_id (by omega) (by omega)]; simp
    have d_lt : decide ((i : Int) < now.length) = true := by simp; omega
    have d_in : decide (0 ≤ (i : Int) ∧ (i : Int) < now.length) = true := by simp; omega
    have t_nat : ((i : Int)).toNat = i := by simp
    simp only [w_succ, d_lt, d_in, t_nat, cond_true]
    have hlt2 : i < sure.length := by omega
    have d_in2 : decide (0 ≤ (i : Int) ∧ (i : Int) < sure.length) = true := by simp; omega
    simp only [d_in2, hlk0, cond_true]
    have hst := lowAt_step (now := now) (sure := sure) i hlt (by omega) (⟨0, []⟩ : Sector)
    generalize now.getD i (⟨0, []⟩ : Sector) = x at hst ⊢
    generalize sure.getD i (⟨0, []⟩ : Sector) = y at hst ⊢
    cases a1 : decide (y.n ≤ x.n)
    · have a2 : decide (x.n < y.n) = true := by simp at a1 ⊢; exact a1
      simp only [a2, cond_true]
      exact leafR_ret (chkRl_o c now d sure i) (by simp [chkRl_S, chkRl_fin, hst, a1, RT.val]) rfl
    · have a2 : decide (x.n < y.n) = false := by simp at a1 ⊢; exact a1
      simp only [a2, cond_false]
      exact leafR_go ⟨c, now, d, sure, i + 1⟩ ⟨hlt, h2, h3⟩ (by simp only [chkRl_S]; omega) (by simp [chkRl_S, chkRl_fin, hst, a1]; rfl) rfl rfl
  · have hi : i = now.length := by omega
    have c1 : decide ((i : Int) < now.length) = false := by simp; omega
    rw [hlk0, c1]
    exact leafR_exit (chkRl_o c now d sure i) (by simp [chkRl_S, chkRl_fin, hi, lowAt_end, RT.val]) rfl
def chkRl_d (env : Env RC) (os : List (Obj RC)) : Option (Bool × chkRl_St) := match env, os with
  | [(1, .ptr 0 []), (2, .int .i64 0), (3, .int .i64 x0)], [.var 43 (.acons (.sl .sector c now) (.acons (.sl .sector d sure) .anil))] => staticD (true) (decide (x0 = 0) && decide (now.length ≤ 9223372036854775807 ∧ now.length = sure.length), ⟨c, now, d, sure, 0⟩)
  | _, _ => none
noncomputable def uh_3 := uh_2.addLoop 125 4 (sumR s19 [.slot 1 0] [1, 2, 3] chkRl_S chkRl_d)
theorem uh_3_laws : FLaws Tryz.prog s19 uh_3 := by
  refine uh_2_laws.addRoundsR s19_laws (by kernel_rfl) chkRl_S 40 [1, 2, 3] [2] [.slot 1 0] [1, 2, 3] chkRl_d (fun q hI => ?_) ?_
  · obtain ⟨c, now, d, sure, i⟩ := q
    refine ⟨?_, ?_, chkRl_round c now d sure i hI⟩
    · simp_all [RefsOK, chkRl_S, chkRl_c, chkRl_o, chkRl_Inv, D.refs, Obj.refs, rEnc]
    · simp_all [chkRl_S, chkRl_fin, chkRl_o, chkRl_Inv, RT.refsOK, RefsOK, D.refs, Obj.refs, rEnc]
  · intro env os b q hd_ hb
    unfold chkRl_d at hd_
    split at hd_
    · obtain ⟨hs, hd_⟩ := staticD_some hd_
      cases hd_
      simp only [Bool.and_eq_true, decide_eq_true_eq] at hb
      obtain ⟨rfl, hl⟩ := hb
      exact ⟨⟨Nat.zero_le _, hl⟩, rfl, rfl⟩
    · cases hd_
def checkR_s (c : Bool) (now : List Sector) (d : Bool) (sure : List Sector) : Option (Bool × D RC) := some (goodL now && goodL sure, .int .i64 (bif diskOK now sure then 0 else 2))
def checkR_sp : List (D RC) → Option (Bool × D RC)
  | [.acons (.sl .sector c now) (.acons (.sl .sector d sure) .anil)] => checkR_s c now d sure
  | _ => none
noncomputable def checkR_e (c : Bool) (now : List Sector) (d : Bool) (sure : List Sector) := evF s19 uh_3 40 125 [.acons (.sl (C := RC) .sector c now) (.acons (.sl (C := RC) .sector d sure) .anil)]
theorem checkR_eq (c : Bool) (now : List Sector) (d : Bool) (sure : List Sector) : checkR_e c now d sure = (let Z0 : DO_ := some (D.int .i64 2); bif goodL now then bif !rowOK now then Z0 else bif goodL sure then bif !rowOK sure then Z0 else bif decide (List.length now ≤ (9223372036854775807 : Nat) ∧ List.length now = List.length sure) then bif lowAt now sure (0 : Nat) then some (D.int .i64 0) else Z0 else none else none else none) := by kernel_rfl
theorem checkR_ok (c : Bool) (now : List Sector) (d : Bool) (sure : List Sector) (h : (goodL now && goodL sure) = true) : checkR_e c now d sure = some (.int .i64 (bif diskOK now sure then 0 else 2)) := by
  (rw [checkR_eq]; conv => zeta)
  rw [Bool.and_eq_true] at h
  obtain ⟨hg, hgs⟩ := h
  have hl := (goodL_iff.1 hg).1
  simp only [hg, hgs, cond_true, diskOK]
  cases h1 : rowOK now
  · rfl
  cases h2 : rowOK sure
  · rfl
  have l1 := rowOK_len h1
  have l2 := rowOK_len h2
  have e : decide (now.length ≤ 9223372036854775807 ∧ now.length = sure.length) = true := by simp; omega
  cases h3 : lowAt now sure 0 <;> simp [e]
noncomputable def uh_4 := uh_3.addSpec 125 checkR_sp
theorem uh_4_laws : FLaws Tryz.prog s19 uh_4 := uh_3_laws.addEv s19_laws fun args d h => by
  unfold checkR_sp at h
  split at h
  · unfold checkR_s at h
    have h1 := congrArg Prod.fst (Option.some.inj h)
    obtain rfl : _ = d := congrArg Prod.snd (Option.some.inj h)
    exact ⟨by simp [D.refs], 40, checkR_ok _ _ _ _ h1⟩
  · cases h
def putR3_s (c : Bool) (now : List Sector) (d : Bool) (sure : List Sector) (k : Int) (n : Int) (b : List UInt8) : Option (Bool × D RC) := some (goodL now && goodL sure && lenOK b.length, .tup (.acons (.acons (.sl (C := RC) .sector (!okPut now sure k n b) (pNow now sure k n b)) (.acons (.sl (C := RC) .sector (!okPut now sure k n b) (pSure now sure k n b)) .anil)) (.acons (.int .i64 (bif okPut now sure k n b then 0 else 2)) .anil)))
def putR3_sp : List (D RC) → Option (Bool × D RC)
  | [.acons (.sl .sector c now) (.acons (.sl .sector d sure) .anil), .int .i64 k, .int .i64 n, .str b] => putR3_s c now d sure k n b
  | _ => none
noncomputable def putR3_e (c : Bool) (now : List Sector) (d : Bool) (sure : List Sector) (k : Int) (n : Int) (b : List UInt8) := evF s19 uh_4 40 94 [.acons (.sl (C := RC) .sector c now) (.acons (.sl (C := RC) .sector d sure) .anil), .int .i64 k, .int .i64 n, .str b]
theorem putR3_eq (c : Bool) (now : List Sector) (d : Bool) (sure : List Sector) (k : Int) (n : Int) (b : List UInt8) : putR3_e c now d sure k n b = (let Z0 : D RC := D.sl RTy.sector true []; let Z1 : DO_ := some (D.tup (D.acons (D.acons Z0 (D.acons Z0 .anil)) (.acons (D.int .i64 2) .anil))); let Z2 : Nat := (0 : Nat) + List.length now; let Z3 : Nat := (0 : Nat) + List.length sure; let Z4 : List Sector := List.replicate (0 : Nat) (Sector.mk (0 : Int) []); let Z5 : Nat := List.length (Z4 ++ now); let Z6 : Bool := Nat.beq Z2 Z5; let Z7 : Bool := Z6 && decide ((0 : Int) ≤ k ∧ k < (↑Z5 : Int)); let Z8 : List Sector := List.set (Z4 ++ now) k.toNat (Sector.mk n b); let Z9 : Bool := Nat.beq Z3 (Z4 ++ sure).length; let Z10 : D RC := D.acons (D.sl RTy.sector false (Z4 ++ sure)) .anil; let Z11 : D RC := D.acons (D.int .i64 0) .anil; let Z12 : DO_ := none; bif goodL now && goodL sure then bif (bif diskOK now sure then (0 : Int) else (2 : Int)) != (0 : Int) then Z1 else bif decide (k < (0 : Int)) then Z1 else bif decide ((33 : Int) ≤ k) then Z1 else bif decide (n < (1 : Int)) then Z1 else bif decide ((1048575 : Int) < n) then Z1 else bif b == Array.toList #[] then Z1 else bif lenOK b.length then bif decide ((640 : Int) < (↑b.length : Int)) then Z1 else bif sizeOK Z2 (24 : Nat) then bif sizeOK Z3 (24 : Nat) then bif Z7 then bif Z6 then bif Z6 then bif decide (Sector.n (List.getD (Z4 ++ now) k.toNat (Sector.mk (0 : Int) [])) < n) then bif Z7 then bif Z6 then bif Nat.beq Z2 Z8.length then bif Z9 then some (D.tup (D.acons (D.acons (D.sl RTy.sector false Z8) Z10) Z11)) else Z12 else Z12 else Z12 else Z12 else bif Z6 then bif Z9 then some (D.tup (D.acons (D.acons (D.sl RTy.sector false (Z4 ++ now)) Z10) Z11)) else Z12 else Z12 else Z12 else Z12 else Z12 else Z12 else Z12 else Z12 else Z12) := by kernel_rfl
theorem putR3_ok (c : Bool) (now : List Sector) (d : Bool) (sure : List Sector) (k : Int) (n : Int) (b : List UInt8) (h : (goodL now && goodL sure && lenOK b.length) = true) : putR3_e c now d sure k n b = some (.tup (.acons (.acons (.sl (C := RC) .sector (!okPut now sure k n b) (pNow now sure k n b)) (.acons (.sl (C := RC) .sector (!okPut now sure k n b) (pSure now sure k n b)) .anil)) (.acons (.int .i64 (bif okPut now sure k n b then 0 else 2)) .anil))) := by
  (rw [putR3_eq]; conv => zeta)
  simp only [Bool.and_eq_true] at h
  obtain ⟨⟨hg, hgs⟩, hb⟩ := h
  have hgg : (goodL now && goodL sure) = true := by rw [hg, hgs]; rfl
  have no : okPut now sure k n b = false → some (D.tup (.acons (.acons (.sl (C := RC) .sector true []) (.acons (.sl (C := RC) .sector true []) .anil)) (.acons (.int .i64 2) .anil))) = some (.tup (.acons (.acons (.sl (C := RC) .sector (!okPut now sure k n b) (pNow now sure k n b)) (.acons (.sl (C := RC) .sector (!okPut now sure k n b) (pSure now sure k n b)) .anil)) (.acons (.int .i64 (bif okPut now sure k n b then 0 else 2)) .anil))) := fun e => by simp only [e, pNow, pSure]; rfl
  refine cond_of hgg ?_
  cases hd : diskOK now sure
  · exact cond_of rfl (no (okPut_not fun f => by rw [hd] at f; cases f.1))
  obtain ⟨l1, l2⟩ := diskOK_len hd
  refine cond_no rfl (cond_two (fun e => no (okPut_not fun f => by simp only [decide_eq_true_eq] at e; omega)) fun e1 => ?_)
  refine (cond_two (fun e => no (okPut_not fun f => by simp only [decide_eq_true_eq] at e; omega)) fun e2 => ?_)
  refine (cond_two (fun e => no (okPut_not fun f => by simp only [decide_eq_true_eq] at e; omega)) fun e3 => ?_)
  have mf : maySec ⟨n, b⟩ = true → n ≤ 1048575 ∧ b.length ≤ 640 := fun e => by simp only [maySec, Bool.and_eq_true, decide_eq_true_eq] at e; exact ⟨e.1.1.2, e.1.2⟩
  refine (cond_two (fun e => no (okPut_not fun f => by have := mf f.2.2.2.2.2; simp only [decide_eq_true_eq] at e; omega)) fun e4 => ?_)
  refine (cond_two (fun e => no (okPut_not fun f => f.2.2.2.2.1 (by simpa using e))) fun e5 => ?_)
  refine cond_of hb ?_
  refine (cond_two (fun e => no (okPut_not fun f => by have := mf f.2.2.2.2.2; simp only [decide_eq_true_eq] at e; omega)) fun e6 => ?_)
  simp only [decide_eq_false_iff_not] at e1 e2 e3 e4 e6
  have ok : okPut now sure k n b = true := by
    have d1 : 0 < n := by omega
    simp only [okPut, hd, maySec, Bool.true_and, Bool.and_eq_true, decide_eq_true_eq, d1, decide_true, Bool.true_or]
    exact ⟨⟨⟨⟨by omega, by omega⟩, by omega⟩, by simpa using e5⟩, ⟨⟨by omega, by omega⟩, by omega⟩, trivial⟩
  rw [ok]
  have r0 : ∀ l : List Sector, List.replicate 0 (⟨0, []⟩ : Sector) ++ l = l := fun l => rfl
  have eb : ∀ n : Nat, n.beq n = true := fun n => by simp
  have s1 : sizeOK now.length 24 = true := by simp [sizeOK]; omega
  have s2 : sizeOK sure.length 24 = true := by simp [sizeOK]; omega
  have dk : decide (0 ≤ k ∧ k < (now.length : Int)) = true := by simp; omega
  simp only [pNow, pSure, ok, cond_true, Bool.not_true, r0, Nat.zero_add, List.length_set, eb, s1, s2, dk, Bool.and_self]
  refine cond_two (fun e => ?_) fun e => ?_ <;> simp only [decide_eq_true_eq, decide_eq_false_iff_not] at e
  · have pn : putNow now k.toNat n b = now.set k.toNat ⟨n, b⟩ := if_pos e
    rw [pn]
  · have pn : putNow now k.toNat n b = now := if_neg e
    rw [pn]
noncomputable def uh_5 := uh_4.addSpec 94 putR3_sp
theorem uh_5_laws : FLaws Tryz.prog s19 uh_5 := uh_4_laws.addEv s19_laws fun args d h => by
  unfold putR3_sp at h
  split at h
  · unfold putR3_s at h
    have h1 := congrArg Prod.fst (Option.some.inj h)
    obtain rfl : _ = d := congrArg Prod.snd (Option.some.inj h)
    exact ⟨by simp [D.refs], 40, putR3_ok _ _ _ _ _ _ _ h1⟩
  · cases h
open Go.Proofs
structure ints11l_St where
  c : Bool
  l : List Int
  d : Bool
  m : List Int
  i : Nat
def ints11l_c (c : Bool) (l : List Int) (d : Bool) (m : List Int) (i : Nat) : Env RC := [(0, .sl (C := RC) .int c l), (1, .sl (C := RC) .int d m), (4, .bool false), (5, .int .i64 (i : Int))]
def ints11l_o (c : Bool) (l : List Int) (d : Bool) (m : List Int) (i : Nat) : List (Obj RC) := []
noncomputable def ints11l_r (c : Bool) (l : List Int) (d : Bool) (m : List Int) (i : Nat) := rndO s19 uh_5 56 4 40 0 [0, 1, 4, 5] [4] [] (ints11l_c c l d m i) (ints11l_o c l d m i)
theorem ints11l_eq (c : Bool) (l : List Int) (d : Bool) (m : List Int) (i : Nat) : ints11l_r c l d m i = (let Z0 : Int := (↑i : Int); bif lenOK l.length then bif decide (Z0 < (↑l.length : Int)) then bif decide ((0 : Int) ≤ Z0 ∧ Z0 < (↑l.length : Int)) then bif decide ((0 : Int) ≤ Z0 ∧ Z0 < (↑m.length : Int)) then bif List.getD l Z0.toNat (0 : Int) != List.getD m Z0.toNat (0 : Int) then some ((X.ret, [(4, D.bool false)]), []) else some ((X.normal, [(0, D.sl RTy.int c l), (1, D.sl RTy.int d m), (4, D.bool false), (5, D.int .i64 (IntKind.wrap .i64 (Z0 + (1 : Int))))]), []) else none else none else some ((X.exit (0 : Nat), [(4, D.bool false)]), []) else none) := by kernel_rfl
def ints11l_fin (c : Bool) (l : List Int) (d : Bool) (m : List Int) (i : Nat) : RT RC := .br (decide (l.drop i = m.drop i)) (.leaf (.exit 0) [(4, .bool false)] []) (.leaf .ret [(4, .bool false)] [])
def ints11l_Inv (c : Bool) (l : List Int) (d : Bool) (m : List Int) (i : Nat) : Prop := i ≤ l.length ∧ l.length ≤ 9223372036854775807 ∧ l.length = m.length
def ints11l_S : LoopR RC ints11l_St where
  k := 0
  canon q := ints11l_c q.c q.l q.d q.m q.i
  objs q := ints11l_o q.c q.l q.d q.m q.i
  fin q := ints11l_fin q.c q.l q.d q.m q.i
  Inv q := ints11l_Inv q.c q.l q.d q.m q.i
  μ q := q.l.length - q.i
theorem ints11l_round (c : Bool) (l : List Int) (d : Bool) (m : List Int) (i : Nat) (hI : ints11l_Inv c l d m i) : Leaf (ints11l_r c l d m i) (LedR ints11l_S ⟨c, l, d, m, i⟩) := by
  (rw [ints11l_eq]; conv => zeta)
  unfold ints11l_Inv at hI
  obtain ⟨h1, h2, h3⟩ := hI
  have hlk := lenOK_of h2
  rw [hlk]
  simp only [cond_true]
  by_cases hlt : i < l.length
  · have w_succ : IntKind.i64.wrap ((i : Int) + 1) = ((i + 1 : Nat) : Int) := by rw [wrap_id (by omega) (by omega)]; simp
    have d_lt : decide ((i : Int) < l.length) = true := by simp; omega
    have d_in : decide (0 ≤ (i : Int) ∧ (i : Int) < l.length) = true := by simp; omega
    have t_nat : ((i : Int)).toNat = i := by simp
    simp only [w_succ, d_lt, d_in, t_nat, cond_true]
    have hlt' : i < m.length := by omega
    have d_in' : decide (0 ≤ (i : Int) ∧ (i : Int) < m.length) = true := by simp; omega
    have hst := drops_step l m i (0 : Int) hlt h3
    simp only [d_in', cond_true]
    generalize l.getD i (0 : Int) = x at hst ⊢
    generalize m.getD i (0 : Int) = y at hst ⊢
    by_cases hxy : x = y
    · simp only [ibneF hxy, cond_false]
      exact leafR_go ⟨c, l, d, m, i + 1⟩ ⟨hlt, h2, h3⟩ (by simp only [ints11l_S]; omega) (by simp only [ints11l_S, ints11l_fin, hst, hxy, decide_true, Bool.true_and]) rfl rfl
    · simp only [ibneT hxy, cond_true]
      exact leafR_ret [] (by simp [ints11l_S, ints11l_fin, hst, hxy, RT.val]) rfl
  · have hi : i = l.length := by omega
    have c1 : decide ((i : Int) < l.length) = false := by simp; omega
    simp only [c1, cond_false]
    exact leafR_exit [] (by simp only [ints11l_S, ints11l_fin, drops_end l m i (by omega) (by omega), RT.val, cond_true]) rfl
def ints11l_d (env : Env RC) (os : List (Obj RC)) : Option (Bool × ints11l_St) := match env, os with
  | [(0, .sl .int c l), (1, .sl .int d m), (4, .bool false), (5, .int .i64 x0)], [] => staticD (true) (decide (x0 = 0) && decide (l.length ≤ 9223372036854775807 ∧ l.length = m.length), ⟨c, l, d, m, 0⟩)
  | _, _ => none
noncomputable def ui_1 := uh_5.addLoop 56 4 (sumR s19 [] [0, 1, 4, 5] ints11l_S ints11l_d)
theorem ui_1_laws : FLaws Tryz.prog s19 ui_1 := by
  refine uh_5_laws.addRoundsR s19_laws (by kernel_rfl) ints11l_S 40 [0, 1, 4, 5] [4] [] [0, 1, 4, 5] ints11l_d (fun q hI => ?_) ?_
  · obtain ⟨c, l, d, m, i⟩ := q
    refine ⟨?_, ?_, ints11l_round c l d m i hI⟩
    · simp_all [RefsOK, ints11l_S, ints11l_c, ints11l_o, ints11l_Inv, D.refs, Obj.refs, rEnc]
    · simp_all [ints11l_S, ints11l_fin, ints11l_o, ints11l_Inv, RT.refsOK, RefsOK, D.refs, Obj.refs, rEnc]
  · intro env os b q hd_ hb
    unfold ints11l_d at hd_
    split at hd_
    · obtain ⟨hs, hd_⟩ := staticD_some hd_
      cases hd_
      simp only [Bool.and_eq_true, decide_eq_true_eq] at hb
      obtain ⟨⟨rfl, rfl⟩, hl⟩ := hb
      exact ⟨⟨Nat.zero_le _, hl.1, hl.2⟩, rfl, rfl⟩
    · cases hd_
def ints11_s (c : Bool) (l : List Int) (d : Bool) (m : List Int) : Option (Bool × D RC) := some (lenOK l.length && lenOK m.length, .bool (decide (l = m)))
def ints11_sp : List (D RC) → Option (Bool × D RC)
  | [.sl .int c l, .sl .int d m] => ints11_s c l d m
  | _ => none
noncomputable def ints11_e (c : Bool) (l : List Int) (d : Bool) (m : List Int) := evF s19 ui_1 40 56 [.sl (C := RC) .int c l, .sl (C := RC) .int d m]
theorem ints11_eq (c : Bool) (l : List Int) (d : Bool) (m : List Int) : ints11_e c l d m = (let Z0 : Nat := List.length l; let Z1 : Nat := List.length m; bif lenOK Z0 then bif lenOK Z1 then bif (↑Z0 : Int) != (↑Z1 : Int) then some (D.bool false) else bif decide (Z0 ≤ (9223372036854775807 : Nat) ∧ Z0 = Z1) then bif decide (List.drop (0 : Nat) l = List.drop (0 : Nat) m) then some (D.bool true) else some (D.bool false) else none else none else none) := by kernel_rfl
theorem ints11_ok (c : Bool) (l : List Int) (d : Bool) (m : List Int) (h : (lenOK l.length && lenOK m.length) = true) : ints11_e c l d m = some (.bool (decide (l = m))) := by
  (rw [ints11_eq]; conv => zeta)
  simp only [Bool.and_eq_true] at h
  have h1 : l.length ≤ 9223372036854775807 := lenOK_le h.1
  simp only [h.1, h.2, cond_true]
  by_cases hl : l.length = m.length
  · have e1 : ((l.length : Int) != (m.length : Int)) = false := by simp [hl]
    have e2 : (l.length ≤ 9223372036854775807 ∧ l.length = m.length) := ⟨h1, hl⟩
    rw [e1, decide_eq_true e2]
    simp only [cond_true, cond_false, List.drop_zero]
    cases decide (l = m) <;> rfl
  · have e1 : ((l.length : Int) != (m.length : Int)) = true := by simp; omega
    have : ¬ l = m := fun e => hl (by rw [e])
    simp [e1, this]
noncomputable def ui_2 := ui_1.addSpec 56 ints11_sp
theorem ui_2_laws : FLaws Tryz.prog s19 ui_2 := ui_1_laws.addEv s19_laws fun args d h => by
  unfold ints11_sp at h
  split at h
  · unfold ints11_s at h
    have h1 := congrArg Prod.fst (Option.some.inj h)
    obtain rfl : _ = d := congrArg Prod.snd (Option.some.inj h)
    exact ⟨by simp [D.refs], 40, ints11_ok _ _ _ _ h1⟩
  · cases h
structure chk09l_St where
  c : Bool
  l : List Int
  a : Bool
  now : List Sector
  b : Bool
  sure : List Sector
  i : Nat
def chk09l_c (c : Bool) (l : List Int) (a : Bool) (now : List Sector) (b : Bool) (sure : List Sector) (i : Nat) : Env RC := [(1, .ptr 0 []), (2, .int .i64 0), (3, .int .i64 (i : Int))]
def chk09l_o (c : Bool) (l : List Int) (a : Bool) (now : List Sector) (b : Bool) (sure : List Sector) (i : Nat) : List (Obj RC) := [.var 45 (.acons (.sl (C := RC) .int c l) (.acons (.acons (.sl (C := RC) .sector a now) (.acons (.sl (C := RC) .sector b sure) .anil)) .anil))]
noncomputable def chk09l_r (c : Bool) (l : List Int) (a : Bool) (now : List Sector) (b : Bool) (sure : List Sector) (i : Nat) := rndO s19 ui_2 123 4 40 1 [1, 2, 3] [2] [.slot 1 0] (chk09l_c c l a now b sure i) (chk09l_o c l a now b sure i)
theorem chk09l_eq (c : Bool) (l : List Int) (a : Bool) (now : List Sector) (b : Bool) (sure : List Sector) (i : Nat) : chk09l_r c l a now b sure i = (let Z0 : Int := (↑i : Int); let Z1 : Int := List.getD l Z0.toNat (0 : Int); let Z2 : List (Option (Obj RC)) := [some (Obj.var 45 (.acons (D.sl RTy.int c l) (.acons (D.acons (D.sl RTy.sector a now) (.acons (D.sl RTy.sector b sure) .anil)) .anil)))]; let Z3 : Nat × D RC := (2, D.int .i64 0); bif lenOK l.length then bif decide (Z0 < (↑l.length : Int)) then bif decide ((0 : Int) ≤ Z0 ∧ Z0 < (↑l.length : Int)) then bif decide ((-1152921504606846976 : Int) ≤ Z1) then bif !decide (Z1 ≤ (1152921504606846976 : Int)) then some ((X.ret, [(2, D.int .i64 2)]), Z2) else some ((X.normal, [(1, D.ptr 0 []), Z3, (3, D.int .i64 (IntKind.wrap .i64 (Z0 + (1 : Int))))]), Z2) else some ((X.ret, [(2, D.int .i64 2)]), Z2) else none else some ((X.exit (0 : Nat), [Z3]), Z2) else none) := by kernel_rfl
def chk09l_fin (c : Bool) (l : List Int) (a : Bool) (now : List Sector) (b : Bool) (sure : List Sector) (i : Nat) : RT RC := .br ((l.drop i).all fitsC) (.leaf (.exit 0) [(2, .int .i64 0)] (chk09l_o c l a now b sure i)) (.leaf .ret [(2, .int .i64 2)] (chk09l_o c l a now b sure i))
def chk09l_Inv (c : Bool) (l : List Int) (a : Bool) (now : List Sector) (b : Bool) (sure : List Sector) (i : Nat) : Prop := i ≤ l.length ∧ l.length ≤ 1024
def chk09l_S : LoopR RC chk09l_St where
  k := 1
  canon q := chk09l_c q.c q.l q.a q.now q.b q.sure q.i
  objs q := chk09l_o q.c q.l q.a q.now q.b q.sure q.i
  fin q := chk09l_fin q.c q.l q.a q.now q.b q.sure q.i
  Inv q := chk09l_Inv q.c q.l q.a q.now q.b q.sure q.i
  μ q := q.l.length - q.i
theorem chk09l_round (c : Bool) (l : List Int) (a : Bool) (now : List Sector) (b : Bool) (sure : List Sector) (i : Nat) (hI : chk09l_Inv c l a now b sure i) : Leaf (chk09l_r c l a now b sure i) (LedR chk09l_S ⟨c, l, a, now, b, sure, i⟩) := by
  (rw [chk09l_eq]; conv => zeta)
  unfold chk09l_Inv at hI
  obtain ⟨h1, h2⟩ := hI
  have hlk := lenOK_of (n := l.length) (by omega)
  by_cases hlt : i < l.length
  · have w_succ : IntKind.i64.wrap ((i : Int) + 1) = ((i + 1 : Nat) : Int) := by rw [wrap_id (by omega) (by omega)]; simp
    have d_lt : decide ((i : Int) < l.length) = true := by simp; omega
    have d_in : decide (0 ≤ (i : Int) ∧ (i : Int) < l.length) = true := by simp; omega
    have t_nat : ((i : Int)).toNat = i := by simp
    simp only [w_succ, d_lt, d_in, t_nat, cond_true]
    have hst := all_drop_step l fitsC i hlt (0 : Int)
    generalize l.getD i (0 : Int) = x at hst ⊢
    simp only [hlk, cond_true]
    have hgo : fitsC x = true → Leaf (some ((X.normal, chk09l_c c l a now b sure (i + 1)), (chk09l_o c l a now b sure (i + 1)).map some)) (LedR chk09l_S ⟨c, l, a, now, b, sure, i⟩) := fun e =>
      leafR_go ⟨c, l, a, now, b, sure, i + 1⟩ ⟨hlt, h2⟩ (by simp only [chk09l_S]; omega) (by simp [chk09l_S, chk09l_fin, hst, e]; rfl) rfl rfl
    have hno : fitsC x = false → Leaf (some ((X.ret, [(2, D.int .i64 2)]), (chk09l_o c l a now b sure i).map some)) (LedR chk09l_S ⟨c, l, a, now, b, sure, i⟩) := fun e => leafR_ret (chk09l_o c l a now b sure i) (by simp [chk09l_S, chk09l_fin, hst, e, RT.val]) rfl
    have hm : fitsC x = (decide (-1152921504606846976 ≤ x) && decide (x ≤ 1152921504606846976)) := rfl
    rw [hm] at hgo hno
    repeat' (refine leaf_cond.2 ⟨fun hc_ => ?_, fun hc_ => ?_⟩)
    all_goals first | exact hno (by clear hgo hno hst hm; simp_all <;> omega) | exact hgo (by clear hgo hno hst hm; simp_all <;> omega)
  · have hi : i = l.length := by omega
    have c1 : decide ((i : Int) < l.length) = false := by simp; omega
    rw [hlk, c1]
    exact leafR_exit (chk09l_o c l a now b sure i) (by simp [chk09l_S, chk09l_fin, hi, RT.val]) rfl
def chk09l_d (env : Env RC) (os : List (Obj RC)) : Option (Bool × chk09l_St) := match env, os with
  | [(1, .ptr 0 []), (2, .int .i64 0), (3, .int .i64 x0)], [.var 45 (.acons (.sl .int c l) (.acons (.acons (.sl .sector a now) (.acons (.sl .sector b sure) .anil)) .anil))] => staticD (true) (decide (x0 = 0) && decide (l.length ≤ 1024), ⟨c, l, a, now, b, sure, 0⟩)
  | _, _ => none
noncomputable def ui_3 := ui_2.addLoop 123 4 (sumR s19 [.slot 1 0] [1, 2, 3] chk09l_S chk09l_d)
theorem ui_3_laws : FLaws Tryz.prog s19 ui_3 := by
  refine ui_2_laws.addRoundsR s19_laws (by kernel_rfl) chk09l_S 40 [1, 2, 3] [2] [.slot 1 0] [1, 2, 3] chk09l_d (fun q hI => ?_) ?_
  · obtain ⟨c, l, a, now, b, sure, i⟩ := q
    refine ⟨?_, ?_, chk09l_round c l a now b sure i hI⟩
    · simp_all [RefsOK, chk09l_S, chk09l_c, chk09l_o, chk09l_Inv, D.refs, Obj.refs, rEnc]
    · simp_all [chk09l_S, chk09l_fin, chk09l_o, chk09l_Inv, RT.refsOK, RefsOK, D.refs, Obj.refs, rEnc]
  · intro env os b q hd_ hb
    unfold chk09l_d at hd_
    split at hd_
    · obtain ⟨hs, hd_⟩ := staticD_some hd_
      cases hd_
      simp only [Bool.and_eq_true, decide_eq_true_eq] at hb
      obtain ⟨rfl, hl⟩ := hb
      exact ⟨⟨Nat.zero_le _, hl⟩, rfl, rfl⟩
    · cases hd_
def chk09_s (c : Bool) (l : List Int) (a : Bool) (now : List Sector) (b : Bool) (sure : List Sector) : Option (Bool × D RC) := some (lenOK l.length && (goodL now && goodL sure), .int .i64 (bif cellsOK l && diskOK now sure then 0 else 2))
def chk09_sp : List (D RC) → Option (Bool × D RC)
  | [.acons (.sl .int c l) (.acons (.acons (.sl .sector a now) (.acons (.sl .sector b sure) .anil)) .anil)] => chk09_s c l a now b sure
  | _ => none
noncomputable def chk09_e (c : Bool) (l : List Int) (a : Bool) (now : List Sector) (b : Bool) (sure : List Sector) := evF s19 ui_3 40 123 [.acons (.sl (C := RC) .int c l) (.acons (.acons (.sl (C := RC) .sector a now) (.acons (.sl (C := RC) .sector b sure) .anil)) .anil)]
theorem chk09_eq (c : Bool) (l : List Int) (a : Bool) (now : List Sector) (b : Bool) (sure : List Sector) : chk09_e c l a now b sure = (let Z0 : Nat := List.length l; let Z1 : DO_ := some (D.int .i64 2); bif lenOK Z0 then bif decide ((1024 : Int) < (↑Z0 : Int)) then Z1 else bif decide (Z0 ≤ (1024 : Nat)) then bif List.all (List.drop (0 : Nat) l) fitsC then bif goodL now && goodL sure then some (D.int .i64 (bif diskOK now sure then (0 : Int) else (2 : Int))) else none else Z1 else none else none) := by kernel_rfl
theorem chk09_ok (c : Bool) (l : List Int) (a : Bool) (now : List Sector) (b : Bool) (sure : List Sector) (h : (lenOK l.length && (goodL now && goodL sure)) = true) : chk09_e c l a now b sure = some (.int .i64 (bif cellsOK l && diskOK now sure then 0 else 2)) := by
  (rw [chk09_eq]; conv => zeta)
  rw [Bool.and_eq_true] at h
  obtain ⟨h1, h2⟩ := h
  simp only [h1, h2, cond_true, List.drop_zero, cellsOK]
  by_cases hl : l.length ≤ 1024
  · have e1 : decide ((1024 : Int) < l.length) = false := by simp; omega
    simp only [e1, decide_eq_true hl, cond_false, cond_true, Bool.true_and]
    cases l.all fitsC <;> rfl
  · have e1 : decide ((1024 : Int) < l.length) = true := by simp; omega
    simp only [e1, decide_eq_false hl, cond_true, Bool.false_and, cond_false]
noncomputable def ui_4 := ui_3.addSpec 123 chk09_sp
theorem ui_4_laws : FLaws Tryz.prog s19 ui_4 := ui_3_laws.addEv s19_laws fun args d h => by
  unfold chk09_sp at h
  split at h
  · unfold chk09_s at h
    have h1 := congrArg Prod.fst (Option.some.inj h)
    obtain rfl : _ = d := congrArg Prod.snd (Option.some.inj h)
    exact ⟨by simp [D.refs], 40, chk09_ok _ _ _ _ _ _ h1⟩
  · cases h
def new03_s  : Option (Bool × D RC) := some (true, .acons (.sl (C := RC) .sector false emptyDisk) (.acons (.sl (C := RC) .sector false emptyDisk) .anil))
def new03_sp : List (D RC) → Option (Bool × D RC)
  | [] => new03_s 
  | _ => none
noncomputable def new03_e  := evF s19 ui_4 40 26 []
theorem new03_ok  (h : (true) = true) : new03_e  = some (.acons (.sl (C := RC) .sector false emptyDisk) (.acons (.sl (C := RC) .sector false emptyDisk) .anil)) := by
  kernel_rfl
noncomputable def ui_5 := ui_4.addSpec 26 new03_sp
theorem ui_5_laws : FLaws Tryz.prog s19 ui_5 := ui_4_laws.addEv s19_laws fun args d h => by
  unfold new03_sp at h
  split at h
  · unfold new03_s at h
    have h1 := congrArg Prod.fst (Option.some.inj h)
    obtain rfl : _ = d := congrArg Prod.snd (Option.some.inj h)
    exact ⟨by simp [D.refs], 40, new03_ok  h1⟩
  · cases h
noncomputable def do9_s (c : Bool) (l : List Int) (a : Bool) (now : List Sector) (b : Bool) (sure : List Sector) (k : Int) (ad : Int) (bb : Int) (v : Int) (g : Int) (tx : List UInt8) (ca : Bool) (ar : List Int) : Option (Bool × D RC) := some ((cdec (tx = [] ∧ ar = [] ∧ OkDo4 l k ad bb v) && decide (0 ≤ g)) && (cellsOK l && (diskOK now sure && (goodL now && goodL sure))), .tup (.acons (.acons (.sl (C := RC) .int false (doC4 l k ad bb v)) (.acons (.acons (.sl (C := RC) .sector a now) (.acons (.sl (C := RC) .sector b sure) .anil)) .anil)) (.acons (.int .i64 (doG4 l k ad bb)) (.acons (.int .i64 0) .anil))))
noncomputable def do9_sp : List (D RC) → Option (Bool × D RC)
  | [.acons (.sl .int c l) (.acons (.acons (.sl .sector a now) (.acons (.sl .sector b sure) .anil)) .anil), .acons (.int .i8 k) (.acons (.int .i64 ad) (.acons (.int .i64 bb) (.acons (.int .i64 v) (.acons (.int .i64 g) (.acons (.str tx) (.acons (.sl .int ca ar) .anil))))))] => do9_s c l a now b sure k ad bb v g tx ca ar
  | _ => none
noncomputable def do9_e (c : Bool) (l : List Int) (a : Bool) (now : List Sector) (b : Bool) (sure : List Sector) (k : Int) (ad : Int) (bb : Int) (v : Int) (g : Int) (tx : List UInt8) (ca : Bool) (ar : List Int) := evF s19 ui_5 80 57 [.acons (.sl (C := RC) .int c l) (.acons (.acons (.sl (C := RC) .sector a now) (.acons (.sl (C := RC) .sector b sure) .anil)) .anil), .acons (.int .i8 k) (.acons (.int .i64 ad) (.acons (.int .i64 bb) (.acons (.int .i64 v) (.acons (.int .i64 g) (.acons (.str tx) (.acons (.sl (C := RC) .int ca ar) .anil))))))]
theorem cellsOK_at {l : List Int} (h : cellsOK l = true) {i : Nat} (hi : i < l.length) : -1152921504606846976 ≤ l.getD i 0 ∧ l.getD i 0 ≤ 1152921504606846976 := by
  simp only [cellsOK, Bool.and_eq_true, List.all_eq_true] at h
  have := h.2 l[i] (List.getElem_mem hi)
  simp only [fitsC, Bool.and_eq_true, decide_eq_true_eq] at this
  rw [getD_at hi]
  exact this
theorem do9_eq0 (c : Bool) (l : List Int) (a : Bool) (now : List Sector) (b : Bool) (sure : List Sector) (ad g : Int) (ca : Bool) : do9_e c l a now b sure 0 ad 0 0 g [] ca [] = (let Z0 : Nat := List.length l; let Z1 : D RC := D.sl RTy.sector true []; let Z2 : D RC := .anil; let Z3 : D RC := D.int .i64 0; let Z4 : DO_ := some (D.tup (D.acons (D.acons (D.sl RTy.int true []) (.acons (D.acons Z1 (D.acons Z1 Z2)) Z2)) (.acons Z3 (D.acons (D.int .i64 2) Z2)))); let Z5 : List Int := List.replicate (0 : Nat) (0 : Int) ++ l; bif lenOK Z0 && (goodL now && goodL sure) then bif (bif cellsOK l && diskOK now sure then (0 : Int) else (2 : Int)) != (0 : Int) then Z4 else bif decide (g < (0 : Int)) then Z4 else bif decide (ad < (0 : Int)) then Z4 else bif lenOK Z0 then bif decide ((↑Z0 : Int) ≤ ad) then Z4 else bif sizeOK ((0 : Nat) + Z0) (8 : Nat) then bif Nat.beq ((0 : Nat) + Z0) Z5.length then bif decide ((0 : Int) ≤ ad ∧ ad < (↑Z5.length : Int)) then some (D.tup (D.acons (D.acons (D.sl RTy.int false Z5) (.acons (D.acons (D.sl RTy.sector a now) (.acons (D.sl RTy.sector b sure) Z2)) Z2)) (.acons (D.int .i64 (List.getD Z5 ad.toNat (0 : Int))) (.acons Z3 Z2)))) else none else none else none else none else none) := by kernel_rfl
theorem do9_eq1 (c : Bool) (l : List Int) (a : Bool) (now : List Sector) (b : Bool) (sure : List Sector) (ad v g : Int) (ca : Bool) : do9_e c l a now b sure 1 ad 0 v g [] ca [] = (let Z0 : Nat := List.length l; let Z1 : D RC := D.sl RTy.sector true []; let Z2 : D RC := .anil; let Z3 : D RC := D.int .i64 0; let Z4 : DO_ := some (D.tup (D.acons (D.acons (D.sl RTy.int true []) (.acons (D.acons Z1 (D.acons Z1 Z2)) Z2)) (.acons Z3 (D.acons (D.int .i64 2) Z2)))); let Z5 : Nat := (0 : Nat) + Z0; let Z6 : List Int := List.replicate (0 : Nat) (0 : Int) ++ l; let Z7 : Bool := Nat.beq Z5 Z6.length; let Z8 : List Int := List.set Z6 ad.toNat v; bif lenOK Z0 && (goodL now && goodL sure) then bif (bif cellsOK l && diskOK now sure then (0 : Int) else (2 : Int)) != (0 : Int) then Z4 else bif decide (g < (0 : Int)) then Z4 else bif decide (ad < (0 : Int)) then Z4 else bif lenOK Z0 then bif decide ((↑Z0 : Int) ≤ ad) then Z4 else bif decide ((-1152921504606846976 : Int) ≤ v) then bif !decide (v ≤ (1152921504606846976 : Int)) then Z4 else bif sizeOK Z5 (8 : Nat) then bif Z7 && decide ((0 : Int) ≤ ad ∧ ad < (↑Z6.length : Int)) then bif Z7 then bif Nat.beq Z5 Z8.length then some (D.tup (D.acons (D.acons (D.sl RTy.int false Z8) (.acons (D.acons (D.sl RTy.sector a now) (.acons (D.sl RTy.sector b sure) Z2)) Z2)) (.acons Z3 (D.acons Z3 Z2)))) else none else none else none else none else Z4 else none else none) := by kernel_rfl
theorem do9_eq2 (c : Bool) (l : List Int) (a : Bool) (now : List Sector) (b : Bool) (sure : List Sector) (ad bb v g : Int) (ca : Bool) : do9_e c l a now b sure 2 ad bb v g [] ca [] = (let Z0 : Nat := List.length l; let Z1 : D RC := D.sl RTy.sector true []; let Z2 : D RC := .anil; let Z3 : D RC := D.int .i64 0; let Z4 : DO_ := some (D.tup (D.acons (D.acons (D.sl RTy.int true []) (.acons (D.acons Z1 (D.acons Z1 Z2)) Z2)) (.acons Z3 (D.acons (D.int .i64 2) Z2)))); let Z5 : Int := (-1152921504606846976 : Int); let Z6 : Nat := (0 : Nat) + Z0; let Z7 : List Int := List.replicate (0 : Nat) (0 : Int) ++ l; let Z8 : Bool := Nat.beq Z6 Z7.length; let Z9 : Bool := Z8 && decide ((0 : Int) ≤ ad ∧ ad < (↑Z7.length : Int)); let Z10 : D RC := D.acons (D.acons (D.sl RTy.sector a now) (.acons (D.sl RTy.sector b sure) Z2)) Z2; let Z11 : List Int := List.set Z7 ad.toNat v; bif lenOK Z0 && (goodL now && goodL sure) then bif (bif cellsOK l && diskOK now sure then (0 : Int) else (2 : Int)) != (0 : Int) then Z4 else bif decide (g < (0 : Int)) then Z4 else bif decide (ad < (0 : Int)) then Z4 else bif lenOK Z0 then bif decide ((↑Z0 : Int) ≤ ad) then Z4 else bif decide (Z5 ≤ bb) then bif !decide (bb ≤ (1152921504606846976 : Int)) then Z4 else bif decide (Z5 ≤ v) then bif !decide (v ≤ (1152921504606846976 : Int)) then Z4 else bif sizeOK Z6 (8 : Nat) then bif Z9 then bif Z8 then bif List.getD Z7 ad.toNat (0 : Int) != bb then bif Z8 then some (D.tup (D.acons (D.acons (D.sl RTy.int false Z7) Z10) (.acons Z3 (D.acons Z3 Z2)))) else none else bif Z9 then bif Z8 then bif Nat.beq Z6 Z11.length then some (D.tup (D.acons (D.acons (D.sl RTy.int false Z11) Z10) (.acons (D.int .i64 1) (.acons Z3 Z2)))) else none else none else none else none else none else none else Z4 else Z4 else none else none) := by kernel_rfl
theorem do9_eq3 (c : Bool) (l : List Int) (a : Bool) (now : List Sector) (b : Bool) (sure : List Sector) (ad v g : Int) (ca : Bool) : do9_e c l a now b sure 3 ad 0 v g [] ca [] = (let Z0 : Nat := List.length l; let Z1 : D RC := D.sl RTy.sector true []; let Z2 : D RC := .anil; let Z3 : D RC := D.int .i64 0; let Z4 : DO_ := some (D.tup (D.acons (D.acons (D.sl RTy.int true []) (.acons (D.acons Z1 (D.acons Z1 Z2)) Z2)) (.acons Z3 (D.acons (D.int .i64 2) Z2)))); let Z5 : Int := (-1152921504606846976 : Int); let Z6 : Nat := (0 : Nat) + Z0; let Z7 : List Int := List.replicate (0 : Nat) (0 : Int) ++ l; let Z8 : Bool := Nat.beq Z6 Z7.length; let Z9 : Bool := Z8 && decide ((0 : Int) ≤ ad ∧ ad < (↑Z7.length : Int)); let Z10 : Int := List.getD Z7 ad.toNat (0 : Int); let Z11 : Int := IntKind.wrap .i64 (Z10 + v); let Z12 : Int := if (1152921504606846976 : Int) < Z11 then (1152921504606846976 : Int) else Z11; let Z13 : List Int := List.set Z7 ad.toNat (if Z12 < Z5 then Z5 else Z12); bif lenOK Z0 && (goodL now && goodL sure) then bif (bif cellsOK l && diskOK now sure then (0 : Int) else (2 : Int)) != (0 : Int) then Z4 else bif decide (g < (0 : Int)) then Z4 else bif decide (ad < (0 : Int)) then Z4 else bif lenOK Z0 then bif decide ((↑Z0 : Int) ≤ ad) then Z4 else bif decide (Z5 ≤ v) then bif !decide (v ≤ (1152921504606846976 : Int)) then Z4 else bif sizeOK Z6 (8 : Nat) then bif Z9 then bif Z8 then bif Z9 then bif Z8 then bif Nat.beq Z6 Z13.length then some (D.tup (D.acons (D.acons (D.sl RTy.int false Z13) (.acons (D.acons (D.sl RTy.sector a now) (.acons (D.sl RTy.sector b sure) Z2)) Z2)) (.acons (D.int .i64 Z10) (.acons Z3 Z2)))) else none else none else none else none else none else none else Z4 else none else none) := by kernel_rfl
theorem do9_ok (c : Bool) (l : List Int) (a : Bool) (now : List Sector) (b : Bool) (sure : List Sector) (k : Int) (ad : Int) (bb : Int) (v : Int) (g : Int) (tx : List UInt8) (ca : Bool) (ar : List Int) (h : ((cdec (tx = [] ∧ ar = [] ∧ OkDo4 l k ad bb v) && decide (0 ≤ g)) && (cellsOK l && (diskOK now sure && (goodL now && goodL sure)))) = true) : do9_e c l a now b sure k ad bb v g tx ca ar = some (.tup (.acons (.acons (.sl (C := RC) .int false (doC4 l k ad bb v)) (.acons (.acons (.sl (C := RC) .sector a now) (.acons (.sl (C := RC) .sector b sure) .anil)) .anil)) (.acons (.int .i64 (doG4 l k ad bb)) (.acons (.int .i64 0) .anil)))) := by
  simp only [Bool.and_eq_true, decide_eq_true_eq] at h
  obtain ⟨⟨ho, g0⟩, hc, hd, hg1, hg2⟩ := h
  obtain ⟨e01, e02, ho9⟩ := cdec_iff.1 ho
  subst e01
  subst e02
  obtain ⟨hk, a0, a1, b0, b1, v0, v1⟩ := ho9
  have hlen : l.length ≤ 1024 := by
    simp only [cellsOK, Bool.and_eq_true, decide_eq_true_eq] at hc; exact hc.1
  have e1 : lenOK l.length = true := lenOK_of (by omega)
  have e4 : decide (ad < 0) = false := by simp; omega
  have e5 : decide ((l.length : Int) ≤ ad) = false := by simp; omega
  have e6 : decide (0 ≤ ad ∧ ad < (l.length : Int)) = true := by simp; omega
  have e7 : sizeOK (0 + l.length) 8 = true := sizeT (by omega)
  have e8 : Nat.beq (0 + l.length) l.length = true := nbeqT (by omega)
  have e9 : decide (-1152921504606846976 ≤ bb) = true := by simp; omega
  have f0 : decide (bb ≤ 1152921504606846976) = true := by simp; omega
  have f1 : decide (-1152921504606846976 ≤ v) = true := by simp; omega
  have f2 : decide (v ≤ 1152921504606846976) = true := by simp; omega
  have f3 : decide (g < 0) = false := by simp; omega
  rcases hk with ⟨rfl, rfl, rfl⟩ | ⟨rfl, rfl⟩ | rfl | ⟨rfl, rfl⟩
  · (rw [do9_eq0]; conv => zeta)
    simp only [List.replicate_zero, List.nil_append, List.length_set, e1, hg1, hg2, hc, hd, Bool.and_self, cond_true, cond_false, bne_self_eq_false, e4, e5, e6, e7, e8, e9, f0, f1, f2, f3, Bool.not_true, decide_true]
    rfl
  · (rw [do9_eq1]; conv => zeta)
    simp only [List.replicate_zero, List.nil_append, List.length_set, e1, hg1, hg2, hc, hd, Bool.and_self, cond_true, cond_false, bne_self_eq_false, e4, e5, e6, e7, e8, e9, f0, f1, f2, f3, Bool.not_true, decide_true]
    rfl
  · (rw [do9_eq2]; conv => zeta)
    simp only [List.replicate_zero, List.nil_append, List.length_set, e1, hg1, hg2, hc, hd, Bool.and_self, cond_true, cond_false, bne_self_eq_false, e4, e5, e6, e7, e8, e9, f0, f1, f2, f3, Bool.not_true, decide_true]
    by_cases hb : l.getD ad.toNat 0 = bb
    · rw [ibneF hb]
      simp only [cond_false, doC4, doG4, hb, and_self, or_true, if_true]
      rfl
    · rw [ibneT hb]
      simp only [cond_true, doC4, doG4, hb, and_false, or_false, if_false]
      rfl
  · (rw [do9_eq3]; conv => zeta)
    simp only [List.replicate_zero, List.nil_append, List.length_set, e1, hg1, hg2, hc, hd, Bool.and_self, cond_true, cond_false, bne_self_eq_false, e4, e5, e6, e7, e8, e9, f0, f1, f2, f3, Bool.not_true, decide_true]
    have hn := cellsOK_at hc (i := ad.toNat) (by omega)
    have e : doC4 l 3 ad 0 v = l.set ad.toNat (addC (l.getD ad.toNat 0) v) := by simp [doC4]
    have e' : doG4 l 3 ad 0 = l.getD ad.toNat 0 := by simp [doG4]
    rw [e, e']
    generalize l.getD ad.toNat 0 = n at *
    have hw : IntKind.i64.wrap (n + v) = n + v := wrap_id (by omega) (by omega)
    have hA : addC n v = if (if 1152921504606846976 < n + v then 1152921504606846976 else n + v) < -1152921504606846976 then -1152921504606846976 else (if 1152921504606846976 < n + v then 1152921504606846976 else n + v) := by
      unfold addC
      repeat' split
      all_goals omega
    rw [hA, hw]
noncomputable def ui_6 := ui_5.addSpec 57 do9_sp
theorem ui_6_laws : FLaws Tryz.prog s19 ui_6 := ui_5_laws.addEv s19_laws fun args d h => by
  unfold do9_sp at h
  split at h
  · unfold do9_s at h
    have h1 := congrArg Prod.fst (Option.some.inj h)
    obtain rfl : _ = d := congrArg Prod.snd (Option.some.inj h)
    exact ⟨by simp [D.refs], 80, do9_ok _ _ _ _ _ _ _ _ _ _ _ _ _ _ h1⟩
  · cases h
end Go.Ev
