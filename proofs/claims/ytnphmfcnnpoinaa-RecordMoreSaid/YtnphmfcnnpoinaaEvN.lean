/-
  make, len, min, max, conversions, functions; an operation as a whole.
-/
import Derived.Test.YtnphmfcnnpoinaaEvM
namespace Go.Ev
set_option linter.unusedVariables false
set_option linter.unusedSimpArgs false

section
variable {C : Cdc} {P : Program} {T : Tab C} (K : PLaws P T)
open Pg (Ex)
variable {X : Cx} {h h' : Heap C} {nx nx' : Nat} {e : Pg.Lv} {lim : Lim} {tr : Tr} (g : G T X h nx lim) (hlim : nx' ≤ lim.top)

include K g
theorem makeSlice_ok (hlim : nx' ≤ lim.top) {t : TypeId} {n c d : D C} {vn vc : Value} (hn : RO T X nx lim n vn) (hc : RO T X nx lim c vc) (hx : Ex e (evMakeSlice T t n c) h nx d h' nx' tr) :
    Post P T X nx lim h' nx' d (Instr.makeSlice t vn vc) := by
  unfold evMakeSlice at hx
  cases ht : T.ty t with
  | sl el ty =>
    simp only [ht] at hx
    split at hx
    · rename_i e2 ty2 n0 c0 hq
      simp only [GT.sl.injEq] at hq
      obtain ⟨rfl, rfl⟩ := hq
      obtain ⟨rfl, hnr⟩ := hn.1.int
      obtain ⟨rfl, _⟩ := hc.1.int
      rcases Ex.br hx with ⟨hb, hx⟩ | ⟨_, hx⟩
      · obtain ⟨t1, hx, _⟩ := Ex.nw hx
        obtain ⟨rfl, rfl, rfl, rfl⟩ := Ex.ret hx
        simp only [Bool.and_eq_true, decide_eq_true_eq] at hb
        obtain ⟨⟨h0, rfl⟩, hsz⟩ := hb
        have hsz' := sizeOK_le hsz
        obtain ⟨ie, z, q1, q2, q3, qb, q4, q5, q6, q7⟩ := K.uElem _ _ _ (.inr ht)
        have hse := (K.base.szSl _ _ _ ht).2.2
        have hw : IntKind.i64.wrap n0 = n0 := by
          simp [IntKind.min, IntKind.max, IntKind.signed, IntKind.bits] at hnr
          unfold IntKind.wrap
          simp [IntKind.signed, IntKind.bits]
          omega
        have hz0 := R.rep (q7 X) n0.toNat
        have hzl := zeros_list z.cells (by omega) n0.toNat
        rw [q6] at hzl
        rw [← hzl] at hz0
        have hlz : ((Array.range (n0.toNat * T.size el)).map fun i => z.cells[i % T.size el]!).size = n0.toNat * T.size el := by simp
        obtain ⟨X', hX', g2, s2, r2⟩ := G.newVec K.base g (by omega) (t := ty) (l := List.replicate n0.toNat (T.dflt ty)) (c := (Array.range (n0.toNat * T.size el)).map fun i => z.cells[i % T.size el]!) (e := el) (cp := n0.toNat) true (by
          have e1 : ((Array.range (n0.toNat * T.size el)).map fun i => z.cells[i % T.size el]!).toList.take ((List.replicate n0.toNat (T.dflt ty)).length * T.size (T.ety ty)) = ((Array.range (n0.toNat * T.size el)).map fun i => z.cells[i % T.size el]!).toList := by
            apply List.take_of_length_le
            simp [hse]
          rw [e1]
          simpa using hz0) (by simp) (by rw [hlz, hse]; exact Nat.le_refl _)
        rw [List.length_replicate] at r2
        refine ⟨_, X', ?_, g2, s2, ⟨.mk rfl r2, ?_⟩⟩
        · have hb3 : (T.bytes el : Int) * n0 = ((n0.toNat * T.bytes el : Nat) : Int) := by
            rw [Int.natCast_mul, Int.mul_comm]; congr 1; omega
          have hle : ¬ (281474976710656 < (T.bytes el : Int) * n0) := by rw [hb3]; omega
          rw [hX']
          by_cases hz1 : n0.toNat * T.size el = 0
          · have hn0 : n0.toNat = 0 := by
              rcases Nat.mul_eq_zero.1 hz1 with h | h
              · exact h
              · omega
            have hn1 : n0 = 0 := by omega
            subst hn1
            simp [Instr.makeSlice, run_underlying (K.uSl _ _ _ ht), asInt, asIntOf, typeInfo, q1, q2, q3, sizeOf, hw, newRow]
            rw [Array.range_zero', Array.map_empty, Array.map_empty]
          · have hge : ¬ n0 < 0 := by omega
            simp only [Instr.makeSlice, Sem.run_bind, run_underlying (K.uSl _ _ _ ht), Result.andThen_ok, asInt, asIntOf, typeInfo, run_program, q1, Sem.run_pure, q2, q3, sizeOf, hw]
            simp [hge, hle, q1, q2, q5, q6, zeroValue, typeInfo, newRow, hz1]
        · intro id hid; simp [D.refs] at hid; subst hid; exact g.new (by omega)
      · exact (Ex.fail hx).elim
    · exact (Ex.fail hx).elim
  | _ => rw [ht] at hx; exact (Ex.fail hx).elim

theorem len_ok {t ty0 : TypeId} {a d : D C} {va : Value} (ha : RO T X nx lim a va) (hx : Ex e (lenD T t a) h nx d h' nx' tr) : Post P T X nx lim h' nx' d (Builtin.len_ #[t] ty0 #[va]) := by
  have hi : ∀ n : Nat, n ≤ 9223372036854775807 → RO T X nx lim (.int .i64 n) (.int .i64 n) := fun n hn => RO.mk (.mk rfl (.int (by simp [IntKind.min, IntKind.max, IntKind.signed, IntKind.bits]; omega))) rfl
  unfold lenD at hx
  cases ht : T.ty t with
  | sl el ty =>
    simp only [ht] at hx
    have hu := K.uSl _ _ _ ht
    cases a with
    | nils =>
      obtain ⟨rfl, rfl, rfl, rfl⟩ := Ex.ret hx
      rw [ha.1.nils]
      exact Post.same g _ (by simp [Builtin.len_, run_underlying hu, goInt]) (hi 0 (by omega))
    | sl ty' cap l =>
      simp only at hx
      rcases Ex.br hx with ⟨hb, hx⟩ | ⟨_, hx⟩
      · obtain ⟨rfl, rfl, rfl, rfl⟩ := Ex.ret hx
        have hR := ha.1.one rfl
        cases hR with
        | sl0 => exact Post.same g _ (by simp [Builtin.len_, run_underlying hu, goInt]) (hi 0 (by omega))
        | sl hat hr _ _ => exact Post.same g _ (by simp [Builtin.len_, run_underlying hu, goInt]) (hi _ (Nat.le_of_ble_eq_true hb))
      · exact (Ex.fail hx).elim
    | vs id n =>
      simp only at hx
      rcases Ex.br hx with ⟨hb, hx⟩ | ⟨_, hx⟩
      · obtain ⟨rfl, rfl, rfl, rfl⟩ := Ex.ret hx
        have hR := ha.1.one rfl
        cases hR with
        | vs hh => exact Post.same g _ (by simp [Builtin.len_, run_underlying hu, goInt]) (hi _ (Nat.le_of_ble_eq_true hb))
      · exact (Ex.fail hx).elim
    | _ => exact (Ex.fail hx).elim
  | str =>
    simp only [ht] at hx
    have hu := K.uStr _ ht
    cases a with
    | str s =>
      simp only at hx
      rcases Ex.br hx with ⟨hb, hx⟩ | ⟨_, hx⟩
      · obtain ⟨rfl, rfl, rfl, rfl⟩ := Ex.ret hx
        rw [ha.1.str]
        have hsz : (⟨⟨s⟩⟩ : ByteArray).size = s.length := rfl
        exact Post.same g _ (by simp [Builtin.len_, run_underlying hu, goInt, hsz]) (hi _ (Nat.le_of_ble_eq_true hb))
      · exact (Ex.fail hx).elim
    | _ => exact (Ex.fail hx).elim
  | arr n el ty =>
    simp only [ht] at hx
    have hu := (K.uArr _ _ _ _ ht).1
    cases hb : Nat.ble n 9223372036854775807 with
    | false => rw [hb] at hx; exact (Ex.fail hx).elim
    | true =>
      rw [hb] at hx
      obtain ⟨rfl, rfl, rfl, rfl⟩ := Ex.ret hx
      exact Post.same g _ (by simp [Builtin.len_, run_underlying hu, goInt]) (hi _ (Nat.le_of_ble_eq_true hb))
  | _ => rw [ht] at hx; exact (Ex.fail hx).elim

omit K in
theorem minmax_ok {args : List (D C)} {vs : List Value} {d : D C} (ty0 : TypeId) (tys : Array TypeId) (ha : RVs T X args vs) :
    (foldMin args = some d → Post P T X nx lim h nx d (Builtin.min_ tys ty0 ⟨vs⟩)) ∧ (foldMax args = some d → Post P T X nx lim h nx d (Builtin.max_ tys ty0 ⟨vs⟩)) := by
  cases ha with
  | nil => exact ⟨fun hf => by simp [foldMin] at hf, fun hf => by simp [foldMax] at hf⟩
  | @cons d0 ds v vs h0 hr =>
    cases d0 with
    | int k a =>
      obtain ⟨rfl, ha0⟩ := h0.int
      constructor
      · intro hf
        simp only [foldMin, Option.map_eq_some_iff] at hf
        obtain ⟨n, hf, rfl⟩ := hf
        have key : ∀ (ds : List (D C)) (vs : List Value) (a : Int), RVs T X ds vs → k.min ≤ a ∧ a ≤ k.max → minL k a ds = some n →
            (k.min ≤ n ∧ n ≤ k.max) ∧ (vs.foldlM Builtin.min2 (.int k a)).run P X.w = .ok (.int k n) X.w := by
          intro ds
          induction ds with
          | nil => intro vs a hvs ha hf; cases hvs; simp [minL] at hf; subst hf; exact ⟨ha, by simp⟩
          | cons x ds ih =>
            intro vs a hvs ha hf
            cases hvs with
            | cons hx hr =>
              cases x with
              | int k2 b =>
                obtain ⟨rfl, hb⟩ := hx.int
                simp only [minL] at hf
                split at hf
                · rename_i hk; subst hk
                  have := ih _ _ hr (by split <;> assumption) hf
                  refine ⟨this.1, ?_⟩
                  simp only [List.foldlM_cons, Builtin.min2, pure_bind]
                  exact this.2
                · simp at hf
              | _ => simp [minL] at hf
        obtain ⟨hn, hrun⟩ := key ds vs a hr ha0 hf
        exact Post.same g _ (by simp only [Builtin.min_]; exact hrun) (RO.mk (.mk rfl (.int hn)) rfl)
      · intro hf
        simp only [foldMax, Option.map_eq_some_iff] at hf
        obtain ⟨n, hf, rfl⟩ := hf
        have key : ∀ (ds : List (D C)) (vs : List Value) (a : Int), RVs T X ds vs → k.min ≤ a ∧ a ≤ k.max → maxL k a ds = some n →
            (k.min ≤ n ∧ n ≤ k.max) ∧ (vs.foldlM Builtin.max2 (.int k a)).run P X.w = .ok (.int k n) X.w := by
          intro ds
          induction ds with
          | nil => intro vs a hvs ha hf; cases hvs; simp [maxL] at hf; subst hf; exact ⟨ha, by simp⟩
          | cons x ds ih =>
            intro vs a hvs ha hf
            cases hvs with
            | cons hx hr =>
              cases x with
              | int k2 b =>
                obtain ⟨rfl, hb⟩ := hx.int
                simp only [maxL] at hf
                split at hf
                · rename_i hk; subst hk
                  have := ih _ _ hr (by split <;> assumption) hf
                  refine ⟨this.1, ?_⟩
                  simp only [List.foldlM_cons, Builtin.max2, pure_bind]
                  exact this.2
                · simp at hf
              | _ => simp [maxL] at hf
        obtain ⟨hn, hrun⟩ := key ds vs a hr ha0 hf
        exact Post.same g _ (by simp only [Builtin.max_]; exact hrun) (RO.mk (.mk rfl (.int hn)) rfl)
    | _ => exact ⟨fun hf => by simp [foldMin] at hf, fun hf => by simp [foldMax] at hf⟩

omit K in
/-- what a slice's elements are, and where they stand -/
theorem elems_ok {ty : C.Ty} {x d : D C} {vx : Value} (hx : RO T X nx lim x vx) {k : List (C.A ty) → Pg C (D C)} (hex : Ex e (elems ty x k) h nx d h' nx' tr) :
    ∃ xs tr', Src T X X.w ty xs vx ∧ Ex e (k xs) h nx d h' nx' tr' := by
  unfold elems at hex
  cases x with
  | nils => rw [hx.1.nils]; exact ⟨[], _, .inl ⟨⟨_, rfl⟩, rfl⟩, hex⟩
  | sl t' cap l =>
    simp only at hex
    by_cases hty : t' = ty
    · subst hty
      simp only [dite_true] at hex
      exact ⟨l, _, (hx.1.one rfl).src, hex⟩
    · simp only [hty, dite_false] at hex; exact (Ex.fail hex).elim
  | vs id n =>
    simp only at hex
    obtain ⟨o, tr', ho, hey, _⟩ := Ex.rd hex
    clear hex
    cases o with
    | var u d0 => exact (Ex.fail hey).elim
    | vec ty' own l =>
      simp only at hey
      by_cases hty : ty' = ty
      · subst hty
        simp only [dite_true] at hey
        rcases Ex.br hey with ⟨hb, hex⟩ | ⟨_, hex⟩
        · have hn : n = l.length := Nat.eq_of_beq_eq_true hb
          obtain ⟨v0, b, lo, hi, h1, h2⟩ := g.vec id ty' own l ho
          have hR := hx.1.one rfl
          cases hR with
          | @vs _ _ cp a0 hh =>
            have hv0 := (hh _ _ _ _ _ h1).2 (by rw [h2.len, hn])
            rw [hv0] at h2
            exact ⟨l, _, h2.src, hex⟩
        · exact (Ex.fail hex).elim
      · simp only [hty, dite_false] at hey; exact (Ex.fail hey).elim
  | _ => exact (Ex.fail hex).elim

theorem builtin_ok (hlim : nx' ≤ lim.top) {b : Builtin} {tys : List TypeId} {ty0 : TypeId} {args : List (D C)} {vs : List Value} {d : D C} (ha : RVs T X args vs) (hr : ∀ a ∈ args, ∀ id ∈ a.refs, old nx lim id) (hlen : tys.length = args.length)
    (hx : Ex e (builtinD T b tys args) h nx d h' nx' tr) :
    ∃ s : Sem Value, (∀ consts, Go.builtin b ⟨tys⟩ ty0 consts ⟨vs⟩ = (do pure (.value (← s)))) ∧ Post P T X nx lim h' nx' d s := by
  unfold builtinD at hx
  split at hx
  · -- len
    rename_i a
    cases ha with
    | cons h0 hn =>
      cases hn
      cases tys with
      | nil => simp at hlen
      | cons t ts =>
        cases ts with
        | cons => simp at hlen
        | nil => exact ⟨_, fun _ => rfl, len_ok K g ⟨h0, hr a (by simp)⟩ hx⟩
  · -- append
    rename_i s x
    cases ha with
    | cons h0 hn =>
      cases hn with
      | cons h1 hn =>
        cases hn
        match tys, hlen with
        | [t, tx], _ =>
          simp only [List.getD_cons_zero, List.getD_cons_succ] at hx
          cases ht : T.ty t with
          | sl el ty =>
            simp only [ht] at hx
            cases htx : T.ty tx with
            | sl el2 ty2 =>
              simp only [htx] at hx
              cases hd : decide (ty = ty2) with
              | false => rw [hd] at hx; exact (Ex.fail hx).elim
              | true =>
                rw [hd] at hx
                simp only [cond_true] at hx
                obtain ⟨xs, tr', hsrc, hx⟩ := elems_ok g (ty := ty) ⟨h1, hr x (by simp)⟩ hx
                exact ⟨_, fun _ => rfl, app_ok K g hlim ht ⟨_, K.uSl _ _ _ htx⟩ ty0 ⟨h0, hr s (by simp)⟩ xs hsrc hx⟩
            | _ => rw [htx] at hx; exact (Ex.fail hx).elim
          | _ => rw [ht] at hx; exact (Ex.fail hx).elim
  · obtain ⟨hm, rfl, rfl, rfl⟩ := Ex.ofOpt hx
    exact ⟨_, fun _ => rfl, (minmax_ok g ty0 ⟨tys⟩ ha).1 hm⟩
  · obtain ⟨hm, rfl, rfl, rfl⟩ := Ex.ofOpt hx
    exact ⟨_, fun _ => rfl, (minmax_ok g ty0 ⟨tys⟩ ha).2 hm⟩
  · exact (Ex.fail hx).elim

omit K g in
theorem bytes_R {ty : C.Ty} : ∀ {xs : List (C.A ty)} {n : Nat} {cs : List Value} {bs : List UInt8}, R T X false (.arr ty n xs) cs → bytesOf T xs = some bs →
    ∃ ns : List Int, cs = ns.map (Value.int .u8) ∧ bs = ns.map fun n => UInt8.ofNat n.toNat := by
  intro xs
  induction xs with
  | nil => intro n cs bs h hb; cases h; simp [bytesOf] at hb; exact ⟨[], rfl, by simp [hb]⟩
  | cons x xs ih =>
    intro n cs bs h hb
    cases h with
    | arrS h1 h2 =>
      simp only [bytesOf] at hb
      split at hb
      · rename_i m r he hr
        rw [he] at h1
        cases h1
        obtain ⟨ns, rfl, rfl⟩ := ih h2 hr
        simp at hb
        exact ⟨m :: ns, rfl, by simp [hb]⟩
      · simp at hb

omit K g in
theorem foldl_push (ns : List Int) : ∀ (s : List UInt8), ns.foldl (fun r n => r.push (UInt8.ofNat n.toNat)) (⟨⟨s⟩⟩ : ByteArray) = ⟨⟨s ++ ns.map fun n => UInt8.ofNat n.toNat⟩⟩ := by
  induction ns with
  | nil => intro s; simp
  | cons n ns ih =>
    intro s
    have e : (⟨⟨s⟩⟩ : ByteArray).push (UInt8.ofNat n.toNat) = ⟨⟨s ++ [UInt8.ofNat n.toNat]⟩⟩ := by
      apply ByteArray.ext
      simp [ByteArray.push]
    rw [List.foldl_cons, e, ih]
    simp

theorem conv_ok {src dst : TypeId} {x d : D C} {vx : Value} (hx : RO T X nx lim x vx) (hex : Ex e (convD T src dst x) h nx d h' nx' tr) : Post P T X nx lim h' nx' d (convert src dst vx) := by
  unfold convD at hex
  split at hex
  · rename_i k0 k hs hd
    split at hex
    · rename_i k1 n
      obtain ⟨rfl, rfl, rfl, rfl⟩ := Ex.ret hex
      obtain ⟨rfl, _⟩ := hx.1.int
      exact Post.same g _ (by simp [convert, run_underlying (K.uInt _ _ hs), run_underlying (K.uInt _ _ hd), Conv.intToInt]) (RO.mk (.mk rfl (.int (wrap_range _ _))) rfl)
    · exact (Ex.fail hex).elim
  · rename_i hs hd
    split at hex
    · rename_i s
      obtain ⟨rfl, rfl, rfl, rfl⟩ := Ex.ret hex
      rw [hx.1.str]
      exact Post.same g _ (by simp [convert, run_underlying (K.uStr _ hs), run_underlying (K.uStr _ hd)]) (RO.mk (.mk rfl (.str _)) rfl)
    · exact (Ex.fail hex).elim
  · rename_i el ty hs hd
    split at hex
    · rename_i he
      split at hex
      rotate_left
      · exact (Ex.fail hex).elim
      rename_i fu hfu
      obtain ⟨xs, tr', hsrc, hex⟩ := elems_ok g (ty := ty) (typed_ok hx) hex
      obtain ⟨rfl, rfl, rfl, rfl⟩ := Ex.ret hex
      have hb := K.base.u8s _ _ xs hfu
      generalize fu xs = bs at hb ⊢
      refine Post.same g (.string ⟨⟨bs⟩⟩) ?_ (RO.mk (.mk rfl (.str _)) rfl)
      have hsz1 : T.size (T.ety ty) = 1 := by rw [← (K.base.szSl _ _ _ hs).2.2]; exact K.base.szInt _ _ he
      rcases hsrc with ⟨⟨a, rfl⟩, rfl⟩ | ⟨b, off, cp, cs, rfl, hr, hc⟩
      · simp [bytesOf] at hb
        subst hb
        rw [run_convert_bytes_string X.w src dst el a 0 0 (K.uSl _ _ _ hs) (K.uInt _ _ he) (K.uStr _ hd)]
        cases a <;> simp [Conv.bytesToString, loadCells, loadCellsFrom] <;> rfl
      · rw [run_convert_bytes_string X.w src dst el _ _ _ (K.uSl _ _ _ hs) (K.uInt _ _ he) (K.uStr _ hd)]
        obtain ⟨ns, rfl, rfl⟩ := bytes_R hr hb
        have hlen := (hr.lenArr K.base).1
        rw [hsz1, Nat.mul_one] at hlen
        have hld := run_loadCells_list (P := P) X.w ⟨b, off, none⟩ (ns.map (Value.int .u8)) (fun j v hj => by rw [Addr.add_lit]; exact hc j v hj)
        rw [hlen] at hld
        rw [run_bytesToString X.w ⟨b, off, none⟩ xs.length cp ns hld]
        have := foldl_push ns []
        congr 2
    · exact (Ex.fail hex).elim
  · exact (Ex.fail hex).elim

omit K g in
theorem nilCheck_ok {x d : D C} {vx : Value} (hx : RO T X nx lim x vx) (hex : Ex e (evNilCheck x) h nx d h' nx' tr) :
    ∃ v, (∀ (r : Operand → Value) (o : Oper) (y : Operand), o.op = .nilCheck y → r y = vx → execOp r o = (pure (.value v) : Sem Next)) ∧ RO T X nx lim d v ∧ h' = h ∧ nx' = nx := by
  unfold evNilCheck at hex
  cases x with
  | ptr id p =>
    obtain ⟨rfl, rfl, rfl, rfl⟩ := Ex.ret hex
    have hR := hx.1.one rfl
    cases hR with
    | ptr hh => exact ⟨_, fun r o y ho hy => by unfold execOp; rw [ho]; simp only; rw [hy], hx, rfl, rfl⟩
  | vptr id n p =>
    obtain ⟨rfl, rfl, rfl, rfl⟩ := Ex.ret hex
    have hR := hx.1.one rfl
    cases hR with
    | vptr hh => exact ⟨_, fun r o y ho hy => by unfold execOp; rw [ho]; simp only; rw [hy], hx, rfl, rfl⟩
  | cptr q =>
    obtain ⟨rfl, rfl, rfl, rfl⟩ := Ex.ret hex
    have hR := hx.1.one rfl
    cases hR with
    | cptr hh => exact ⟨_, fun r o y ho hy => by unfold execOp; rw [ho]; simp only; rw [hy], hx, rfl, rfl⟩
  | fn f c =>
    obtain ⟨rfl, rfl, rfl, rfl⟩ := Ex.ret hex
    have hR := hx.1.one rfl
    cases hR with
    | fn hh => exact ⟨_, fun r o y ho hy => by unfold execOp; rw [ho]; simp only; rw [hy], hx, rfl, rfl⟩
  | _ => exact (Ex.fail hex).elim

omit K in
theorem un_ok {x d : D C} {vx : Value} (hx : RO T X nx lim x vx) {op : UnOp} (hex : Ex e (evUn op x) h nx d h' nx' tr) : Post P T X nx lim h' nx' d (Op.unary op vx) := by
  unfold evUn at hex
  split at hex
  · obtain ⟨rfl, rfl, rfl, rfl⟩ := Ex.ret hex
    rw [hx.1.bool]
    exact Post.same g _ (by simp [Op.unary]) (RO.mk (.mk rfl (.bool _)) rfl)
  · obtain ⟨rfl, rfl, rfl, rfl⟩ := Ex.ret hex
    obtain ⟨rfl, _⟩ := hx.1.int
    exact Post.same g _ (by simp [Op.unary, Op.intArith]) (RO.mk (.mk rfl (.int (wrap_range _ _))) rfl)
  · exact (Ex.fail hex).elim
end
end Go.Ev
