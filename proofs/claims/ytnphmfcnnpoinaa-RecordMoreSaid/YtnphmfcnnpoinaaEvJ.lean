/-
  Numbers, comparisons, conversions.
-/
import Derived.Test.YtnphmfcnnpoinaaEvI
namespace Go.Ev
set_option linter.unusedVariables false
set_option linter.unusedSimpArgs false

theorem wrap_range (k : IntKind) (n : Int) : k.min ≤ k.wrap n ∧ k.wrap n ≤ k.max := by
  unfold IntKind.wrap IntKind.min IntKind.max
  cases k <;> simp [IntKind.signed, IntKind.bits] <;> (try split) <;> omega

theorem min_le_zero (k : IntKind) : k.min ≤ 0 ∧ 0 ≤ k.max := by
  cases k <;> simp [IntKind.min, IntKind.max, IntKind.signed, IntKind.bits]

theorem tmod_le {a : Int} (h0 : 0 ≤ a) (b : Int) : a.tmod b ≤ a := by
  obtain ⟨m, rfl⟩ := Int.eq_ofNat_of_zero_le h0
  cases b with
  | ofNat n => exact Int.ofNat_le.2 (Nat.mod_le m n)
  | negSucc n => exact Int.ofNat_le.2 (Nat.mod_le m (n + 1))

theorem tmod_range {k : IntKind} {a : Int} (ha : k.min ≤ a ∧ a ≤ k.max) (b : Int) : k.min ≤ a.tmod b ∧ a.tmod b ≤ k.max := by
  have hz := min_le_zero k
  rcases Int.le_total 0 a with h0 | h0
  · have h1 := Int.tmod_nonneg b h0
    have h2 : a.tmod b ≤ a := tmod_le h0 b
    omega
  · have e : a.tmod b = -((-a).tmod b) := by rw [Int.neg_tmod, Int.neg_neg]
    have h1 := Int.tmod_nonneg b (by omega : 0 ≤ -a)
    have h2 : (-a).tmod b ≤ -a := tmod_le (by omega) b
    omega

theorem fdiv_range {k : IntKind} {a : Int} (ha : k.min ≤ a ∧ a ≤ k.max) (n : Nat) : k.min ≤ a.fdiv (2 ^ n) ∧ a.fdiv (2 ^ n) ≤ k.max := by
  have hz := min_le_zero k
  have hp : (0 : Int) < 2 ^ n := Int.pow_pos (by decide)
  rw [Int.fdiv_eq_ediv_of_nonneg _ (by omega)]
  rcases Int.le_total 0 a with h0 | h0
  · have h1 := Int.ediv_nonneg h0 (by omega : (0 : Int) ≤ 2 ^ n)
    have h2 := Int.ediv_le_self (2 ^ n) h0
    omega
  · have h1 : a / 2 ^ n ≤ 0 := Int.ediv_nonpos_of_nonpos_of_neg h0 (by omega)
    have h2 : a ≤ a / 2 ^ n := by
      rw [Int.le_ediv_iff_mul_le hp]
      have : a * 2 ^ n ≤ a * 1 := Int.mul_le_mul_of_nonpos_left h0 (by omega)
      omega
    omega

section
variable {C : Cdc} {P : Program} {T : Tab C} (K : PLaws P T)
open Pg (Ex)
variable {X : Cx} {h h' : Heap C} {nx nx' : Nat} {e : Pg.Lv} {lim : Lim} {tr : Tr} (g : G T X h nx lim)

include g
theorem binInt_ok {op : BinOp} {k k' : IntKind} {a b : Int} {d : D C} (t : TypeId) (x y : Operand) (ha : k.min ≤ a ∧ a ≤ k.max) (hk : isShift op = true ∨ k = k') (hx : Ex e (binInt op k a b) h nx d h' nx' tr) :
    Post P T X nx lim h' nx' d (do eqGuard op t x y (.int k a) (.int k' b); binOp op t (.int k a) (.int k' b)) := by
  have hb : ∀ (c : Bool), RO T X nx lim (.bool c) (.bool c) := fun c => RO.mk (.mk rfl (.bool c)) rfl
  have hi : ∀ (n : Int), k.min ≤ n ∧ n ≤ k.max → RO T X nx lim (.int k n) (.int k n) := fun n hn => RO.mk (.mk rfl (.int hn)) rfl
  have hw : ∀ n, RO T X nx lim (.int k (k.wrap n)) (.int k (k.wrap n)) := fun n => hi _ (wrap_range k n)
  cases op
  case shl =>
    rcases Ex.br hx with ⟨_, hx⟩ | ⟨hb0, hx⟩
    · exact (Ex.fail hx).elim
    · obtain ⟨rfl, rfl, rfl, rfl⟩ := Ex.ret hx
      exact Post.same g _ (by simp [eqGuard_at_int, binOp, Op.shift, show ¬ b < 0 by simpa using hb0]) (hw _)
  case shr =>
    rcases Ex.br hx with ⟨_, hx⟩ | ⟨hb0, hx⟩
    · exact (Ex.fail hx).elim
    · obtain ⟨rfl, rfl, rfl, rfl⟩ := Ex.ret hx
      exact Post.same g _ (by simp [eqGuard_at_int, binOp, Op.shift, show ¬ b < 0 by simpa using hb0]) (hi _ (fdiv_range ha _))
  all_goals
    have hk : k = k' := by simpa [isShift] using hk
    subst hk
  case quo =>
    rcases Ex.br hx with ⟨_, hx⟩ | ⟨hb0, hx⟩
    · exact (Ex.fail hx).elim
    · obtain ⟨rfl, rfl, rfl, rfl⟩ := Ex.ret hx
      exact Post.same g _ (by simp [eqGuard_at_int, binOp, Op.intDiv, show ¬ b = 0 by simpa using hb0]) (hw _)
  case rem =>
    rcases Ex.br hx with ⟨_, hx⟩ | ⟨hb0, hx⟩
    · exact (Ex.fail hx).elim
    · obtain ⟨rfl, rfl, rfl, rfl⟩ := Ex.ret hx
      exact Post.same g _ (by simp [eqGuard_at_int, binOp, Op.intDiv, show ¬ b = 0 by simpa using hb0]) (hi _ (tmod_range ha _))
  all_goals obtain ⟨rfl, rfl, rfl, rfl⟩ := Ex.ret hx
  case add | sub | mul => exact Post.same g _ (by simp [eqGuard_at_int, binOp, Op.intArith]) (hw _)
  case and | or | xor | andNot => exact Post.same g _ (by simp only [eqGuard_at_int, binOp_and, binOp_or, binOp_xor, binOp_andNot, Sem.run_bind, Sem.run_pure, Result.andThen_ok]; rfl) (hw _)
  all_goals exact Post.same g _ (by simp [eqGuard_at_int, binOp, Op.intCmp]) (hb _)

theorem binStr_ok {op : BinOp} {a b : List UInt8} {d : D C} (t : TypeId) (x y : Operand) (hx : Ex e (binStr op a b) h nx d h' nx' tr) :
    Post P T X nx lim h' nx' d (do eqGuard op t x y (.string ⟨⟨a⟩⟩) (.string ⟨⟨b⟩⟩); binOp op t (.string ⟨⟨a⟩⟩) (.string ⟨⟨b⟩⟩)) := by
  have hb : ∀ (c : Bool), RO T X nx lim (.bool c) (.bool c) := fun c => RO.mk (.mk rfl (.bool c)) rfl
  have hl : ∀ q : List UInt8, (⟨⟨q⟩⟩ : ByteArray).toList = q := fun q => by rw [ByteArray.toList_eq]
  cases op <;> simp only [binStr] at hx
  case eql =>
    obtain ⟨rfl, rfl, rfl, rfl⟩ := Ex.ret hx
    exact Post.same g _ (by simp [eqGuard_at_string, binOp, Op.stringOp, hl]) (hb _)
  case neq =>
    obtain ⟨rfl, rfl, rfl, rfl⟩ := Ex.ret hx
    exact Post.same g _ (by simp [eqGuard_at_string, binOp, Op.stringOp, hl]) (hb _)
  case add =>
    rcases Ex.br hx with ⟨hb0, hx⟩ | ⟨_, hx⟩
    · obtain ⟨rfl, rfl, rfl, rfl⟩ := Ex.ret hx
      have hle : a.length + b.length ≤ 1000000000 := by simpa using hb0
      refine Post.same g (.string ⟨⟨a ++ b⟩⟩) ?_ (RO.mk (.mk rfl (.str _)) rfl)
      have h1 : (⟨⟨a⟩⟩ : ByteArray).size = a.length := rfl
      have h2 : (⟨⟨b⟩⟩ : ByteArray).size = b.length := rfl
      have h3 : ¬ (((⟨⟨a⟩⟩ : ByteArray).size + (⟨⟨b⟩⟩ : ByteArray).size : Nat) : Int) > IntKind.i64.max := by rw [h1, h2, IntKind.max_i64]; omega
      have h4 : (⟨⟨a⟩⟩ : ByteArray) ++ ⟨⟨b⟩⟩ = ⟨⟨a ++ b⟩⟩ := by
        apply ByteArray.ext
        simp
      simp only [eqGuard_at_string, binOp, Op.stringOp, Sem.run_bind, Sem.run_pure, Result.andThen_ok]
      rw [if_neg h3, h4]; rfl
    · exact (Ex.fail hx).elim
  all_goals exact (Ex.fail hx).elim

include K in
omit g in
theorem eqS_ok {x y : D C} {b : Bool} {t : TypeId} {vx vy : Value} (he : eqS x y = some b) (hf : fit T x (.inl t) = true) (hx : RV T X x vx) (hy : RV T X y vy) (n : Nat) (w : World) :
    (Op.equalIn (n + 1) t vx vy).run P w = .ok b w := by
  have hl : ∀ q : List UInt8, (⟨⟨q⟩⟩ : ByteArray).toList = q := fun q => by rw [ByteArray.toList_eq]
  have ex : ∀ q : D C, (∃ c, eqS x y = some c ∧ x = q) → True := fun _ _ => trivial
  cases x <;> cases y <;> simp [eqS] at he
  case bool.bool a c =>
    rw [hx.bool, hy.bool]
    cases ht : T.ty t <;> simp [fit, ht] at hf
    rw [run_equalIn_bool w n t a c (K.uBool _ ht), ← he]
  case int.int k a k' c =>
    obtain ⟨rfl, rfl⟩ := he
    rw [hx.int.1, hy.int.1]
    cases ht : T.ty t <;> simp [fit, ht] at hf
    rw [run_equalIn_int w n t k _ a c (K.uInt _ _ ht)]
  case str.str a c =>
    rw [hx.str, hy.str]
    cases ht : T.ty t <;> simp [fit, ht] at hf
    rw [run_equalIn_string w n t _ _ (K.uStr _ ht), hl, hl, ← he]
  all_goals
    have q1 := hx.one rfl
    have q2 := hy.one rfl
    cases ht : T.ty t <;> simp [fit, ht] at hf
    cases q1
    cases q2
    subst he
    first
      | simp [Op.equalIn, run_underlying (K.uPtr _ _ ht)]
      | (obtain ⟨a, b, c, hu⟩ := K.uFn _ ht; simp [Op.equalIn, run_underlying hu])


def eqElems (d : Nat) (el : TypeId) (n : Nat) (xs ys : Array Value) : List Nat → Sem Bool
  | [] => pure true
  | i :: is => do
    let a ← part el xs (i * n)
    let b ← part el ys (i * n)
    let r ← Op.equalIn d el a b
    if (!r) = true then pure false else eqElems d el n xs ys is

omit g in
theorem run_equalIn_array (d : Nat) (t el : TypeId) (n len : Nat) (xs ys : Array Value) (ht : P.underlying t = some (.array len el)) (hn : ∀ w, (sizeOf el).run P w = .ok n w) (w : World) :
    (Op.equalIn (d + 1) t (.agg xs) (.agg ys)).run P w = (eqElems d el n xs ys (List.range' 0 len)).run P w := by
  simp only [Op.equalIn, Sem.run_bind, run_underlying ht, Result.andThen_ok, hn]
  rw [Std.Legacy.Range.forIn_eq_forIn_range']
  have hs : Std.Legacy.Range.size [:len] = len := by simp [Std.Legacy.Range.size]
  rw [hs]
  generalize List.range' 0 len = is
  show ((forIn (m := Sem) is _ _).run P w).andThen _ = _
  induction is generalizing w with
  | nil => simp [eqElems]
  | cons i is ih =>
    simp only [List.forIn_cons, eqElems, Sem.run_bind, Sem.run_ite]
    generalize (part el xs (i * n)).run P w = r1
    cases r1 with
    | ok a w1 =>
      simp only [Result.andThen_ok]
      generalize (part el ys (i * n)).run P w1 = r2
      cases r2 with
      | ok b w2 =>
        simp only [Result.andThen_ok]
        generalize (Op.equalIn d el a b).run P w2 = r3
        cases r3 with
        | ok r w3 =>
          cases r
          · simp only [Result.andThen_ok, Bool.not_false, if_true, Sem.run_pure]
          · simp only [Result.andThen_ok, Bool.not_true, Bool.false_eq_true, if_false, Sem.run_pure]
            exact ih w3
        | halt x w3 => simp [Result.andThen]
      | halt x w2 => simp [Result.andThen]
    | halt x w1 => simp [Result.andThen]

include K in
omit g in
theorem eqL_ok {ty : C.Ty} {t el : TypeId} {n : Nat} (ht : T.ty t = .arr n el ty) {l m : List (C.A ty)} {cx cy : List Value} (hx : R T X false (.arr ty n l) cx) (hy : R T X false (.arr ty n m) cy) (d : Nat) (w : World) :
    ∀ (j k : Nat) (b : Bool), j + k = n → eqL T (l.drop k) (m.drop k) = some b → (eqElems (d + 1) el (T.size el) ⟨cx⟩ ⟨cy⟩ (List.range' k j)).run P w = .ok b w := by
  have hlx := (hx.lenArr K.base).2
  have hly := (hy.lenArr K.base).2
  have hs := run_sizeElem K (.inl ⟨_, ht⟩) w
  intro j
  induction j with
  | zero =>
    intro k b hk he
    rw [List.drop_eq_nil_of_le (by omega), List.drop_eq_nil_of_le (by omega)] at he
    simp [eqL] at he
    subst he
    simp [eqElems]
  | succ j ih =>
    intro k b hk he
    have hkx : k < l.length := by omega
    have hky : k < m.length := by omega
    rw [List.drop_eq_getElem_cons hkx, List.drop_eq_getElem_cons hky] at he
    simp only [eqL] at he
    cases h1 : T.eqb ty l[k] m[k] with
    | none => rw [h1] at he; simp at he
    | some b1 =>
      cases h2 : eqL T (l.drop (k + 1)) (m.drop (k + 1)) with
      | none => rw [h1, h2] at he; simp at he
      | some b2 =>
        rw [h1, h2] at he
        simp at he
        subst he
        obtain ⟨c1, c2, c3, hc, hl, hr⟩ := hx.elem K.base k (by omega)
        obtain ⟨d1, d2, d3, hd, hl', hr'⟩ := hy.elem K.base k (by omega)
        have gx : l.getD k (T.dflt ty) = l[k] := by simp [hkx]
        have gy : m.getD k (T.dflt ty) = m[k] := by simp [hky]
        rw [gx] at hr
        rw [gy] at hr'
        have hfx : fit T (T.enc ty l[k]) (.inl el) = true := by rw [fit_congr hs.2.2]; exact K.base.encFit _ _
        have hfy : fit T (T.enc ty m[k]) (.inl el) = true := by rw [fit_congr hs.2.2]; exact K.base.encFit _ _
        obtain ⟨vx, hvx, hrx⟩ := run_part K (c1 := c1) (c3 := c3) hfx hr w
        obtain ⟨vy, hvy, hry⟩ := run_part K (c1 := d1) (c3 := d3) hfy hr' w
        rw [← hc, hl, ← hs.2.1] at hvx
        rw [← hd, hl', ← hs.2.1] at hvy
        have heq := eqS_ok K (K.eqb _ _ _ _ h1) hfx hrx hry d w
        have hih := ih (k + 1) b2 (by omega) h2
        simp only [List.range'_succ, eqElems, Sem.run_bind, hvx, Result.andThen_ok, hvy, heq]
        cases b1
        · simp
        · simp [hih]

include K in
omit g in
theorem eqD_ok (x : D C) : (∀ (y : D C) (b : Bool) (t : TypeId) (vx vy : Value) (n : Nat) (w : World), x.dep ≤ n → eqD T x y = some b → fit T x (.inl t) = true → fit T y (.inl t) = true → RV T X x vx → RV T X y vy →
      (Op.equalIn (n + 1) t vx vy).run P w = .ok b w) ∧
    (∀ (y : D C) (b : Bool) (fs : List TypeId) (fields : List Field) (px py cx cy : List Value) (n : Nat) (w : World), x.dep ≤ n → eqD T x y = some b → fit T x (.inr fs) = true → fit T y (.inr fs) = true →
      R T X false x cx → R T X false y cy → px.length = py.length → fields.map (·.type) = fs → (∀ (j : Nat) (f : Field), fields[j]? = some f → f.offset = px.length + sumSz T (fs.take j)) → (∀ f ∈ fields, f.name ≠ "_") →
      (Op.eqFields n ⟨px ++ cx⟩ ⟨py ++ cy⟩ fields).run P w = .ok b w) := by
  induction x with
  | acons d ds i1 i2 =>
    have row : ∀ (y : D C) (b : Bool) (fs : List TypeId) (fields : List Field) (px py cx cy : List Value) (n : Nat) (w : World), (D.acons d ds).dep ≤ n → eqD T (D.acons d ds) y = some b → fit T (D.acons d ds) (.inr fs) = true → fit T y (.inr fs) = true →
      R T X false (D.acons d ds) cx → R T X false y cy → px.length = py.length → fields.map (·.type) = fs → (∀ (j : Nat) (f : Field), fields[j]? = some f → f.offset = px.length + sumSz T (fs.take j)) → (∀ f ∈ fields, f.name ≠ "_") →
      (Op.eqFields n ⟨px ++ cx⟩ ⟨py ++ cy⟩ fields).run P w = .ok b w := by
      intro y b fs fields px py cx cy n w hn he hfx hfy hx hy hp hft hoff hnm
      cases y with
      | acons d' ds' =>
        simp only [eqD] at he
        cases h1 : eqD T d d' with
        | none => rw [h1] at he; simp at he
        | some b1 =>
          cases h2 : eqD T ds ds' with
          | none => rw [h1, h2] at he; simp at he
          | some b2 =>
            rw [h1, h2] at he
            simp at he; subst he
            cases fs with
            | nil => simp [fit] at hfx
            | cons f fs =>
              simp only [fit, Bool.and_eq_true] at hfx hfy
              cases fields with
              | nil => simp at hft
              | cons fd fields =>
                simp at hft
                obtain ⟨hf1, hf2⟩ := hft
                cases hx with
                | @acons _ _ c1 c2 hx1 hx2 =>
                  cases hy with
                  | @acons _ _ e1 e2 hy1 hy2 =>
                    have hdep : d.dep + 1 ≤ n ∧ ds.dep ≤ n := by simp [D.dep] at hn; omega
                    obtain ⟨m, rfl⟩ : ∃ m, n = m + 1 := ⟨n - 1, by omega⟩
                    have ho := hoff 0 fd rfl
                    simp [sumSz] at ho
                    rw [← hf1] at hfx hfy
                    obtain ⟨vx, hvx, hrx⟩ := run_part K (c1 := px) (c3 := c2) hfx.1 hx1 w
                    obtain ⟨vy, hvy, hry⟩ := run_part K (c1 := py) (c3 := e2) hfy.1 hy1 w
                    have heq := i1.1 d' b1 fd.type vx vy m w (by omega) h1 hfx.1 hfy.1 hrx hry
                    have hl1 := hx1.len K.base hfx.1
                    have hl2 := hy1.len K.base hfy.1
                    have hih := i2.2 ds' b2 fs fields (px ++ c1) (py ++ e1) c2 e2 (m + 1) w hdep.2 h2 hfx.2 hfy.2 hx2 hy2 (by simp; omega) hf2 (by
                      intro j f' hj
                      have := hoff (j + 1) f' (by simpa using hj)
                      rw [this]
                      simp [sumSz, hl1, hf1]; omega) (fun q hq => hnm q (by simp [hq]))
                    simp only [List.append_assoc] at hvx hvy hih
                    rw [← hp] at hvy
                    simp only [Op.eqFields, hnm fd (by simp), ne_eq, not_false_eq_true, if_true, Sem.run_bind, ho, hvx, Result.andThen_ok, hvy, heq]
                    cases b1
                    · simp
                    · simp [hih]
      | _ => simp [eqD, eqS] at he
    refine ⟨?_, row⟩
    intro y b t vx vy n w hn he hfx hfy hx hy
    cases ht : T.ty t with
    | struct fs =>
      obtain ⟨cx, hx2, rfl⟩ := hx.row rfl
      have hyr : y.isRow = true := (fit_agg hfy).2 (.inl ⟨fs, ht⟩)
      obtain ⟨cy, hy2, rfl⟩ := hy.row hyr
      obtain ⟨fields, hu, hm, ho, hst, _, hnm⟩ := K.uStruct _ _ ht
      have hfo : P.fieldsOf t = fields := by simp [Program.fieldsOf, hu]
      rw [run_equalIn_struct w n t _ _ (by rw [hfo]; exact hu) hst, hfo]
      have hyc : ∃ a b, y = .acons a b := by
        cases y <;> simp [eqD, eqS] at he
        exact ⟨_, _, rfl⟩
      refine row y b fs fields.toList [] [] cx cy n w hn he (by rw [← fit_row ht ⟨_, _, rfl⟩]; exact hfx) (by rw [← fit_row ht hyc]; exact hfy) hx2 hy2 rfl hm (fun j f hj => ?_) hnm
      simpa using ho j f (by simpa using hj)
    | _ => simp [fit, ht] at hfx
  | anil =>
    refine ⟨?_, ?_⟩
    · intro y b t vx vy n w hn he hfx hfy hx hy
      cases ht : T.ty t <;> simp [fit, ht] at hfx
      rename_i fs
      cases fs with
      | nil =>
        have := K.base.pos t (fun h => by simp [ht] at h)
        rw [K.base.szStruct _ _ ht] at this
        simp [sumSz] at this
      | cons => simp at hfx
    · intro y b fs fields px py cx cy n w hn he hfx hfy hx hy hp hft hoff hnm
      cases fs with
      | nil =>
        cases fields with
        | nil =>
          cases y <;> simp [eqD, eqS] at he
          subst he
          simp [Op.eqFields]
        | cons => simp at hft
      | cons => simp [fit] at hfx
  | arr ty m l =>
    refine ⟨?_, fun y b fs fields px py cx cy n w _ _ hf => by simp [fit] at hf⟩
    intro y b t vx vy n w hn he hfx hfy hx hy
    cases ht : T.ty t with
    | arr m2 el ty2 =>
      simp only [fit, ht, Bool.and_eq_true, Nat.beq_eq, decide_eq_true_eq] at hfx
      obtain ⟨rfl, rfl⟩ := hfx
      cases y with
      | arr ty3 m3 l3 =>
        simp only [fit, ht, Bool.and_eq_true, Nat.beq_eq, decide_eq_true_eq] at hfy
        obtain ⟨rfl, rfl⟩ := hfy
        simp [eqD] at he
        obtain ⟨cx, hx2, rfl⟩ := hx.row rfl
        obtain ⟨cy, hy2, rfl⟩ := hy.row rfl
        have hsz := fun w => (run_sizeElem K (.inl ⟨_, ht⟩) w).1
        obtain ⟨k, rfl⟩ : ∃ k, n = k + 1 := ⟨n - 1, by simp [D.dep] at hn; omega⟩
        rw [run_equalIn_array (k + 1) t el (T.size el) m2 _ _ (K.uArr _ _ _ _ ht).1 hsz]
        exact eqL_ok K ht hx2 hy2 k w m2 0 b (by omega) (by simpa using he)
      | _ => simp [eqD, eqS] at he
    | _ => simp [fit, ht] at hfx
  | _ =>
    refine ⟨?_, fun y b fs fields px py cx cy n w _ _ hf => by simp [fit] at hf⟩
    intro y b t vx vy n w hn he hfx hfy hx hy
    refine eqS_ok K (x := _) (y := y) ?_ hfx hx hy n w
    cases y <;> simpa [eqD] using he

include K
theorem binEq_ok {op : BinOp} {x y d : D C} {t : TypeId} {vx vy : Value} (ox oy : Operand) (hx : RO T X nx lim x vx) (hy : RO T X nx lim y vy) (hxi : ¬ ∃ k n, x = .int k n ∧ ∃ k n, y = .int k n) (hxs : ¬ ∃ s, x = .str s ∧ ∃ s, y = .str s)
    (hex : Ex e (binEq T op t x y) h nx d h' nx' tr) : Post P T X nx lim h' nx' d (do eqGuard op t ox oy vx vy; binOp op t vx vy) := by
  unfold binEq at hex
  cases hc : fit T x (.inl t) && fit T y (.inl t) && Nat.ble x.dep 1000 with
  | false => rw [hc] at hex; exact (Ex.fail hex).elim
  | true =>
    rw [hc] at hex
    simp only [cond_true] at hex
    simp only [Bool.and_eq_true] at hc
    obtain ⟨⟨hfx, hfy⟩, hdep⟩ := hc
    have hdep := Nat.le_of_ble_eq_true hdep
    have key : ∀ b, eqD T x y = some b → ∀ w, (Op.equalIn 10000 t vx vy).run P w = .ok b w := fun b hb w => (eqD_ok K x).1 y b t vx vy 9999 w (by omega) hb hfx hfy hx.1 hy.1
    have fin : (∀ w, (eqGuard op t ox oy vx vy).run P w = .ok () w) → (∀ b w, (Op.equalIn 10000 t vx vy).run P w = .ok b w → (binOp .eql t vx vy).run P w = .ok (.bool b) w ∧ (binOp .neq t vx vy).run P w = .ok (.bool !b) w) →
        Post P T X nx lim h' nx' d (do eqGuard op t ox oy vx vy; binOp op t vx vy) := by
      intro h1 h2
      cases op <;> simp only at hex
      case eql =>
        obtain ⟨b, h3, n3, t3, t4, he1, he2, _⟩ := Ex.bind hex
        obtain ⟨hb, rfl, rfl, rfl⟩ := Ex.ofOpt he1
        obtain ⟨rfl, rfl, rfl, rfl⟩ := Ex.ret he2
        refine Post.same g (.bool b) ?_ (RO.mk (.mk rfl (.bool b)) rfl)
        simp only [Sem.run_bind, h1, Result.andThen_ok]
        exact (h2 b _ (key b hb _)).1
      case neq =>
        obtain ⟨b, h3, n3, t3, t4, he1, he2, _⟩ := Ex.bind hex
        obtain ⟨hb, rfl, rfl, rfl⟩ := Ex.ofOpt he1
        obtain ⟨rfl, rfl, rfl, rfl⟩ := Ex.ret he2
        refine Post.same g (.bool !b) ?_ (RO.mk (.mk rfl (.bool !b)) rfl)
        simp only [Sem.run_bind, h1, Result.andThen_ok]
        exact (h2 b _ (key b hb _)).2
      all_goals exact (Ex.fail hex).elim
    have none : eqD T x y = none → False := by
      intro hn
      cases op <;> simp only at hex
      case eql => obtain ⟨b, _, _, _, _, he1, _⟩ := Ex.bind hex; rw [hn] at he1; exact Ex.fail he1
      case neq => obtain ⟨b, _, _, _, _, he1, _⟩ := Ex.bind hex; rw [hn] at he1; exact Ex.fail he1
      all_goals exact Ex.fail hex
    have aggs : ∀ cx cy : List Value, vx = .agg ⟨cx⟩ → vy = .agg ⟨cy⟩ → P.eqGuardType P.depth t = false → Post P T X nx lim h' nx' d (do eqGuard op t ox oy vx vy; binOp op t vx vy) := by
      rintro cx cy rfl rfl hg
      refine fin (fun w => ?_) (fun b w hb => ⟨by rw [run_eql_struct, hb]; rfl, by rw [run_neq_struct, hb]; rfl⟩)
      unfold eqGuard
      cases op <;> simp [hg]
    cases ht : T.ty t with
    | struct fs =>
      obtain ⟨cx, _, h1⟩ := hx.1.row ((fit_agg hfx).2 (.inl ⟨fs, ht⟩))
      obtain ⟨cy, _, h2⟩ := hy.1.row ((fit_agg hfy).2 (.inl ⟨fs, ht⟩))
      obtain ⟨_, _, _, _, _, hg, _⟩ := K.uStruct _ _ ht
      exact aggs cx cy h1 h2 hg
    | arr n el ty =>
      obtain ⟨cx, _, h1⟩ := hx.1.row ((fit_agg hfx).2 (.inr ⟨_, _, _, ht⟩))
      obtain ⟨cy, _, h2⟩ := hy.1.row ((fit_agg hfy).2 (.inr ⟨_, _, _, ht⟩))
      exact aggs cx cy h1 h2 (K.uArr _ _ _ _ ht).2
    | bool =>
      cases x <;> simp [fit, ht] at hfx
      cases y <;> simp [fit, ht] at hfy
      rw [hx.1.bool, hy.1.bool]
      rw [hx.1.bool, hy.1.bool] at fin
      refine fin (fun w => by rw [eqGuard_at_bool]; rfl) (fun b w hb => ?_)
      constructor <;> simp only [binOp, Op.equal, Op.maxDepth, Sem.run_bind, hb, Result.andThen_ok, Sem.run_pure]
    | int k =>
      cases x <;> simp [fit, ht] at hfx
      cases y <;> simp [fit, ht] at hfy
      exact absurd ⟨_, _, rfl, _, _, rfl⟩ hxi
    | str =>
      cases x <;> simp [fit, ht] at hfx
      cases y <;> simp [fit, ht] at hfy
      exact absurd ⟨_, rfl, _, rfl⟩ hxs
    | sl el ty =>
      exfalso
      apply none
      cases x <;> simp [fit, ht] at hfx <;> cases y <;> simp [fit, ht] at hfy <;> rfl
    | ptr el =>
      have h1 : ∃ a, vx = .pointer a := by
        cases x <;> simp [fit, ht] at hfx <;> have q := hx.1.one rfl <;> cases q <;> exact ⟨_, rfl⟩
      have h2 : ∃ a, vy = .pointer a := by
        cases y <;> simp [fit, ht] at hfy <;> have q := hy.1.one rfl <;> cases q <;> exact ⟨_, rfl⟩
      obtain ⟨a, rfl⟩ := h1
      obtain ⟨b, rfl⟩ := h2
      refine fin (fun w => by rw [eqGuard_at_pointer]; rfl) (fun b w hb => ?_)
      constructor <;> simp only [binOp, Op.equal, Op.maxDepth, Sem.run_bind, hb, Result.andThen_ok, Sem.run_pure]
    | fn =>
      have h1 : (∃ a b c, vx = .func a b c) ∨ vx = .nilFunc := by
        cases x <;> simp [fit, ht] at hfx <;> have q := hx.1.one rfl <;> cases q
        · exact .inl ⟨_, _, _, rfl⟩
        · exact .inr rfl
      have h2 : (∃ a b c, vy = .func a b c) ∨ vy = .nilFunc := by
        cases y <;> simp [fit, ht] at hfy <;> have q := hy.1.one rfl <;> cases q
        · exact .inl ⟨_, _, _, rfl⟩
        · exact .inr rfl
      refine fin (fun w => ?_) (fun b w hb => ?_)
      · rcases h1 with ⟨_, _, _, rfl⟩ | rfl
        · rw [eqGuard_at_func]; rfl
        · rw [eqGuard_at_nilFunc]; rfl
      · rcases h1 with ⟨_, _, _, rfl⟩ | rfl <;> rcases h2 with ⟨_, _, _, rfl⟩ | rfl <;>
          constructor <;> simp only [binOp, Op.equal, Op.maxDepth, Sem.run_bind, hb, Result.andThen_ok, Sem.run_pure]
    | none => cases x <;> simp [fit, ht] at hfx

theorem bin_ok {op : BinOp} {x y d : D C} {t : TypeId} {vx vy : Value} (ox oy : Operand) (hx : RO T X nx lim x vx) (hy : RO T X nx lim y vy) (hex : Ex e (binD T op t x y) h nx d h' nx' tr) :
    Post P T X nx lim h' nx' d (do eqGuard op t ox oy vx vy; binOp op t vx vy) := by
  unfold binD at hex
  by_cases h1 : ∃ k n, x = .int k n ∧ ∃ k n, y = .int k n
  · obtain ⟨k, a, rfl, k', b, rfl⟩ := h1
    simp only at hex
    cases hc : isShift op || decide (k = k') with
    | false => rw [hc] at hex; exact (Ex.fail hex).elim
    | true =>
      rw [hc] at hex
      obtain ⟨rfl, ha⟩ := hx.1.int
      obtain ⟨rfl, _⟩ := hy.1.int
      exact binInt_ok g t ox oy ha (by simpa using hc) hex
  · by_cases h2 : ∃ s, x = .str s ∧ ∃ s, y = .str s
    · obtain ⟨a, rfl, b, rfl⟩ := h2
      rw [hx.1.str, hy.1.str]
      exact binStr_ok g t ox oy hex
    · refine binEq_ok (e := e) (tr := tr) K g ox oy hx hy h1 h2 ?_
      cases x <;> cases y <;> first | exact hex | (exfalso; apply h1; exact ⟨_, _, rfl, _, _, rfl⟩) | (exfalso; apply h2; exact ⟨_, rfl, _, rfl⟩)
end
end Go.Ev
