/-
  RecordTells returns true for all records and states, and all read behind the call as before. No condition beyond the given statement. (text 2 of 5)
-/
import Derived.Test.YtnphmfcnnpoinaaP0
import Derived.LoopN
import Derived.Test.YtnphmfcnnpoinaaProg
import Derived.KernelRfl
/-
  Slices cut, made, appended to.
-/
namespace Go.Ev
set_option linter.unusedVariables false
set_option linter.unusedSimpArgs false

theorem growBy_le (n : Nat) : ∀ (r c : Nat), Builtin.growBy n r c ≤ max c (n + (n + 768) / 4) := by
  intro r
  induction r with
  | zero => intro c; simp [Builtin.growBy]; omega
  | succ r ih =>
    intro c
    simp only [Builtin.growBy]
    split
    · omega
    · have := ih (c + (c + 768) / 4)
      omega

theorem nextcap_le (n c : Nat) (h : c < n) : Builtin.nextslicecap n c ≤ 2 * n + 192 := by
  unfold Builtin.nextslicecap
  split
  · omega
  · split
    · omega
    · have := growBy_le n 4 c
      omega

theorem nextcap_bytes (n c b : Nat) (h : c < n) (hb : n * b ≤ 1099511627776) : Builtin.nextslicecap n c * b ≤ 281474976710656 := by
  have h1 := nextcap_le n c h
  have h2 : Builtin.nextslicecap n c * b ≤ (2 * n + 192) * b := Nat.mul_le_mul_right _ h1
  have h3 : (2 * n + 192) * b = 2 * (n * b) + 192 * b := by rw [Nat.add_mul, Nat.mul_assoc]
  have h4 : b ≤ n * b := Nat.le_mul_of_pos_left _ (by omega)
  omega

theorem grownCap_ge (w : World) (need old : Nat) (e : TypeId) : need ≤ grownCap w need old e := by
  unfold grownCap Question.cut
  simp

section
variable {C : Cdc} {P : Program} {T : Tab C} (K : PLaws P T)
open Pg (Ex)
variable {X : Cx} {h h' : Heap C} {nx nx' : Nat} {e : Pg.Lv} {lim : Lim} {tr : Tr} (g : G T X h nx lim) (hlim : nx' ≤ lim.top)

/-- what an optional operand is -/
def ROo (T : Tab C) (X : Cx) (nx : Nat) (lim : Lim) : Option (D C) → Option Value → Prop
  | none, none => True
  | some d, some v => RO T X nx lim d v
  | _, _ => False

theorem num_ok {o : Option (D C)} {v : Option Value} {n a : Int} (h : ROo T X nx lim o v) (ha : numD o n = some a) : (o = none ∧ v = none ∧ a = n) ∨ (o.isSome = true ∧ ∃ k, v = some (.int k a)) := by
  cases o with
  | none =>
    cases v with
    | none => simp [numD] at ha; exact .inl ⟨rfl, rfl, ha.symm⟩
    | some => simp [ROo] at h
  | some d =>
    cases v with
    | none => simp [ROo] at h
    | some v =>
      cases d <;> simp [numD] at ha
      subst ha
      exact .inr ⟨rfl, _, congrArg some h.1.int.1⟩

theorem run_bound (k : IntKind) (i : Int) (y : Nat) (code : BoundsCode) (h0 : 0 ≤ i) (h1 : i ≤ y) (w : World) : (Instr.sliceBound (.int k i) y code).run P w = .ok i.toNat w := by
  simp [Instr.sliceBound, asIntOf, h0, h1]

include K g
theorem cut_ok {t el : TypeId} {ty : C.Ty} (ht : T.ty t = .sl el ty) {cap : Bool} {l : List (C.A ty)} {d : D C} {v : Value} {lo hi mx : Option (D C)} {vlo vhi vmx : Option Value} (hv : R T X false (.sl ty cap l) [v])
    (hlo : ROo T X nx lim lo vlo) (hhi : ROo T X nx lim hi vhi) (hmx : ROo T X nx lim mx vmx) (hx : Ex e (cutD cap l lo hi mx) h nx d h' nx' tr) : Post P T X nx lim h' nx' d (Instr.sliceAt t v vlo vhi vmx) := by
  unfold cutD at hx
  cases ha : numD lo 0 with
  | none => rw [ha] at hx; exact (Ex.fail hx).elim
  | some a =>
    cases hb : numD hi l.length with
    | none => rw [ha, hb] at hx; exact (Ex.fail hx).elim
    | some b =>
      simp only [ha, hb] at hx
      have hu := K.uSl _ _ _ ht
      have hs := run_sizeElem K (.inr ht) X.w
      have qa := num_ok hlo ha
      have qb := num_ok hhi hb
      -- what is cut
      have fin : ∀ (c2 : Bool) (m : Nat), 0 ≤ a → a ≤ b → b ≤ l.length → b.toNat ≤ m → (c2 = true → m = b.toNat) →
          ∀ (ao : Option Addr) (cp : Nat), v = .slice ao l.length cp → (m = cp ∨ m = b.toNat) → R T X false (.sl ty c2 ((l.take b.toNat).drop a.toNat)) [.slice (if m = a.toNat then ao else ao.map (·.add (a.toNat * T.size el))) (b.toNat - a.toNat) (m - a.toNat)] := by
        intro c2 m h0 h1 h2 h3 h4 ao cp hve h5
        subst hve
        have hlen : ((l.take b.toNat).drop a.toNat).length = b.toNat - a.toNat := by simp; omega
        cases hv with
        | sl0 =>
          simp only [List.length_nil] at h2
          have e1 : a.toNat = 0 := by omega
          have e2 : b.toNat = 0 := by omega
          rw [e1, e2] at *
          have e3 : m = 0 := by omega
          subst e3
          simpa using R.sl0 ty c2 ao
        | @sl _ _ _ b0 off _ cs hat hr hc hcap =>
          obtain ⟨c1, c1', hc1, hl1, hr1, _⟩ := hr.arrSplit K.base b.toNat (by omega)
          obtain ⟨d1, d2, hd1, hld, _, hr2⟩ := hr1.arrSplit K.base a.toNat (by omega)
          rw [← hlen]
          by_cases hm : m = a.toNat
          · have hz : (l.take b.toNat).drop a.toNat = [] := List.length_eq_zero_iff.1 (by omega)
            rw [if_pos hm, hz]
            exact .sl (cs := []) (fun j v hj => by simp at hj) (by simpa using R.arr0 ty) (by simp) (fun hc2 => by have := h4 hc2; simp; omega)
          · rw [if_neg hm]
            simp only [Option.map_some, Addr.add_lit]
            refine .sl (cs := d2) (fun j v hj => ?_) (by rw [hlen]; exact hr2) (by omega) (fun hc2 => by have := h4 hc2; omega)
            rw [hs.2.1, ← hld, Nat.add_assoc]
            refine hat _ v ?_
            rw [hc1, hd1, List.append_assoc, List.getElem?_append_right (by omega)]
            rw [show d1.length + j - d1.length = j by omega, List.getElem?_append_left (List.getElem?_eq_some_iff.1 hj).1]; exact hj
      have hvs : ∃ ao cp, v = .slice ao l.length cp ∧ l.length ≤ cp ∧ (cap = true → cp = l.length) := by
        cases hv with
        | sl0 => exact ⟨_, 0, rfl, by simp, fun _ => by simp⟩
        | sl hat hr hc hcap => exact ⟨_, _, rfl, hc, hcap⟩
      obtain ⟨ao, cp, rfl, hcp, hcap⟩ := hvs
      cases mx with
      | none =>
        cases vmx with
        | some => simp [ROo] at hmx
        | none =>
          have hx : Ex e (.br (decide (0 ≤ a ∧ a ≤ b ∧ b ≤ l.length)) (.ret (.sl ty (cap && hi.isNone) ((l.take b.toNat).drop a.toNat))) .fail) h nx d h' nx' tr := by
            cases hi with
            | none =>
              simp only [numD, Option.some.injEq] at hb
              subst hb
              have e1 : decide (0 ≤ a ∧ a ≤ (l.length : Int) ∧ (l.length : Int) ≤ l.length) = decide (0 ≤ a ∧ a ≤ (l.length : Int)) := by simp
              have e2 : l.take ((l.length : Int)).toNat = l := by simp
              simpa only [e1, e2, Option.isNone_none, Bool.and_true] using hx
            | some q => simpa using hx
          rcases Ex.br hx with ⟨hc, hx⟩ | ⟨_, hx⟩
          · obtain ⟨rfl, rfl, rfl, rfl⟩ := Ex.ret hx
            have hc : 0 ≤ a ∧ a ≤ b ∧ b ≤ l.length := by simpa using hc
            have hR := fin (cap && hi.isNone) cp hc.1 hc.2.1 hc.2.2 (by omega) (by
              intro h1
              simp only [Bool.and_eq_true, Option.isNone_iff_eq_none] at h1
              rcases qb with ⟨_, _, rfl⟩ | ⟨h2, _⟩
              · have := hcap h1.1; omega
              · rw [h1.2] at h2; simp at h2) ao cp rfl (.inl rfl)
            have hbd : (Instr.sliceBounds true l.length cp vlo vhi none).run P X.w = .ok (a.toNat, b.toNat, cp) X.w := by
              rcases qa with ⟨_, rfl, rfl⟩ | ⟨_, k, rfl⟩ <;> rcases qb with ⟨_, rfl, rfl⟩ | ⟨_, k2, rfl⟩
              · simp [Instr.sliceBounds]
              · simp [Instr.sliceBounds, run_bound k2 b cp _ (by omega) (by omega)]
              · simp [Instr.sliceBounds, run_bound k a l.length _ (by omega) (by omega)]
              · simp [Instr.sliceBounds, run_bound k2 b cp _ (by omega) (by omega), run_bound k a b.toNat _ (by omega) (by omega)]
            refine Post.same g _ ?_ (RO.mk (.mk rfl hR) rfl)
            simp only [Instr.sliceAt, Instr.slice, Sem.run_bind, run_underlying hu, Result.andThen_ok, hbd, hs.1, Sem.run_pure]
          · exact (Ex.fail hx).elim
      | some dm =>
        cases vmx with
        | none => simp [ROo] at hmx
        | some vm =>
          cases dm with
          | int km m =>
            simp only at hx
            cases hhs : hi.isSome with
            | false => rw [hhs] at hx; exact (Ex.fail hx).elim
            | true =>
              rw [hhs] at hx
              simp only [cond_true] at hx
              rcases Ex.br hx with ⟨hc, hx⟩ | ⟨_, hx⟩
              · obtain ⟨rfl, rfl, rfl, rfl⟩ := Ex.ret hx
                have hc : 0 ≤ a ∧ a ≤ b ∧ b ≤ l.length ∧ m = b := by simpa using hc
                obtain ⟨h1, h2, h3, rfl⟩ := hc
                obtain ⟨rfl, _⟩ := hmx.1.int
                rcases qb with ⟨hn, _⟩ | ⟨_, k2, rfl⟩
                · rw [hn] at hhs; simp at hhs
                · have hR := fin true m.toNat h1 h2 h3 (by omega) (fun _ => rfl) ao cp rfl (.inr rfl)
                  have hbd : (Instr.sliceBounds true l.length cp vlo (some (.int k2 m)) (some (.int km m))).run P X.w = .ok (a.toNat, m.toNat, m.toNat) X.w := by
                    rcases qa with ⟨_, rfl, rfl⟩ | ⟨_, k, rfl⟩
                    · simp [Instr.sliceBounds, run_bound km m cp _ (by omega) (by omega), run_bound k2 m m.toNat _ (by omega) (by omega)]
                    · simp [Instr.sliceBounds, run_bound km m cp _ (by omega) (by omega), run_bound k2 m m.toNat _ (by omega) (by omega), run_bound k a m.toNat _ (by omega) (by omega)]
                  refine Post.same g _ ?_ (RO.mk (.mk rfl hR) rfl)
                  simp only [Instr.sliceAt, Instr.slice, Sem.run_bind, run_underlying hu, Result.andThen_ok, hbd, hs.1, Sem.run_pure]
              · exact (Ex.fail hx).elim
          | _ => exact (Ex.fail hx).elim

omit K g in
theorem VecOK.data {ty : C.Ty} {l : List (C.A ty)} {v : Value} {b lo hi : Nat} (hv : VecOK T X ty false l v b lo hi) : R T X false (.sl ty false l) [v] := by
  rcases hv with ⟨⟨a, rfl, _⟩, rfl, _⟩ | ⟨off, cp, rfl, h2, _, h4⟩
  · exact .sl0 _ _ _
  · rcases h4 with ⟨h4, _⟩ | ⟨_, _, ⟨cs, h5, h6⟩, _⟩
    · simp at h4
    · exact .sl h5 h6 h2 (fun h => by simp at h)

theorem slice_ok {t : TypeId} {a d : D C} {va : Value} {lo hi mx : Option (D C)} {vlo vhi vmx : Option Value} (ha : RO T X nx lim a va)
    (hlo : ROo T X nx lim lo vlo) (hhi : ROo T X nx lim hi vhi) (hmx : ROo T X nx lim mx vmx) (hx : Ex e (sliceD T t a lo hi mx) h nx d h' nx' tr) : Post P T X nx lim h' nx' d (Instr.sliceAt t va vlo vhi vmx) := by
  unfold sliceD at hx
  cases ht : T.ty t with
  | sl el ty0 =>
    simp only [ht] at hx
    cases a with
    | sl ty cap l =>
      simp only at hx
      cases hd : decide (ty = ty0) with
      | false => rw [hd] at hx; exact (Ex.fail hx).elim
      | true =>
        rw [hd] at hx
        have hd : ty = ty0 := by simpa using hd
        subst hd
        exact cut_ok K g ht (ha.1.one rfl) hlo hhi hmx hx
    | vs id n =>
      simp only at hx
      obtain ⟨o, tr', ho, hy, _⟩ := Ex.rd hx
      clear hx
      cases o with
      | var u d0 => exact (Ex.fail hy).elim
      | vec ty own l =>
        cases own with
        | true => exact (Ex.fail hy).elim
        | false =>
          simp only [slVec] at hy
          cases hd : decide (ty = ty0) with
          | false => rw [hd] at hy; exact (Ex.fail hy).elim
          | true =>
            rw [hd] at hy
            simp only [cond_true] at hy
            have hd : ty = ty0 := by simpa using hd
            subst hd
            rcases Ex.br hy with ⟨hb, hx⟩ | ⟨_, hx⟩
            · have hn : n = l.length := Nat.eq_of_beq_eq_true hb
              obtain ⟨v0, b, lo', hi', h1, h2⟩ := g.vec id ty false l ho
              have hR := ha.1.one rfl
              cases hR with
              | @vs _ _ cp a0 hh =>
                have hv0 := (hh _ _ _ _ _ h1).2 (by rw [h2.len, hn])
                have hdt := h2.data
                rw [hv0] at hdt
                exact cut_ok K g ht hdt hlo hhi hmx hx
            · exact (Ex.fail hx).elim
    | _ => exact (Ex.fail hx).elim
  | str =>
    simp only [ht] at hx
    cases a with
    | str s =>
      simp only at hx
      cases ha' : numD lo 0 with
      | none => rw [ha'] at hx; exact (Ex.fail hx).elim
      | some a =>
        cases hb' : numD hi s.length with
        | none => rw [ha', hb'] at hx; exact (Ex.fail hx).elim
        | some b =>
          cases mx with
          | some => rw [ha', hb'] at hx; exact (Ex.fail hx).elim
          | none =>
            cases vmx with
            | some => simp [ROo] at hmx
            | none =>
              simp only [ha', hb'] at hx
              rcases Ex.br hx with ⟨hc, hx⟩ | ⟨_, hx⟩
              · obtain ⟨rfl, rfl, rfl, rfl⟩ := Ex.ret hx
                have hc : 0 ≤ a ∧ a ≤ b ∧ b ≤ s.length := by simpa using hc
                have hu := K.uStr _ ht
                rw [ha.1.str]
                have hsz : (⟨⟨s⟩⟩ : ByteArray).size = s.length := rfl
                have qa := num_ok hlo ha'
                have qb := num_ok hhi hb'
                have hbd : (Instr.sliceBounds false s.length s.length vlo vhi none).run P X.w = .ok (a.toNat, b.toNat, s.length) X.w := by
                  rcases qa with ⟨_, rfl, rfl⟩ | ⟨_, k, rfl⟩ <;> rcases qb with ⟨_, rfl, rfl⟩ | ⟨_, k2, rfl⟩
                  · simp [Instr.sliceBounds]
                  · simp [Instr.sliceBounds, run_bound k2 b s.length _ (by omega) (by omega)]
                  · simp [Instr.sliceBounds, run_bound k a s.length _ (by omega) (by omega)]
                  · simp [Instr.sliceBounds, run_bound k2 b s.length _ (by omega) (by omega), run_bound k a b.toNat _ (by omega) (by omega)]
                have hex : (⟨⟨s⟩⟩ : ByteArray).extract a.toNat b.toNat = ⟨⟨(s.take b.toNat).drop a.toNat⟩⟩ := by
                  apply ByteArray.ext
                  rw [ByteArray.data_extract]
                  apply Array.ext'
                  rw [Array.toList_extract, List.extract_eq_take_drop, List.drop_take]
                refine Post.same g (.string ⟨⟨(s.take b.toNat).drop a.toNat⟩⟩) ?_ (RO.mk (.mk rfl (.str _)) rfl)
                simp [Instr.sliceAt, Instr.slice, run_underlying hu, hsz, hbd, hex]
              · exact (Ex.fail hx).elim
    | _ => exact (Ex.fail hx).elim
  | _ => rw [ht] at hx; exact (Ex.fail hx).elim
end
end Go.Ev

/-
  append, make, len, min, max, conversions, and what is left.
-/
namespace Go.Ev
set_option linter.unusedVariables false
set_option linter.unusedSimpArgs false

section
variable {C : Cdc} {P : Program} {T : Tab C} (K : PLaws P T)
open Pg (Ex)
variable {X : Cx} {h h' : Heap C} {nx nx' : Nat} {e : Pg.Lv} {lim : Lim} {tr : Tr} (g : G T X h nx lim) (hlim : nx' ≤ lim.top)

/-- where what is appended stands -/
def Src (T : Tab C) (X : Cx) (w : World) (ty : C.Ty) (xs : List (C.A ty)) (v : Value) : Prop :=
  ((∃ a, v = .slice a 0 0) ∧ xs = []) ∨ ∃ b off cp cs, v = .slice (some ⟨b, off, none⟩) xs.length cp ∧ R T X false (.arr ty xs.length xs) cs ∧ ∀ j u, cs[j]? = some u → w.cell? ⟨b, off + j, none⟩ = some u

theorem VecOK.src {ty : C.Ty} {own : Bool} {l : List (C.A ty)} {v : Value} {b lo hi : Nat} (hv : VecOK T X ty own l v b lo hi) : Src T X X.w ty l v := by
  have h0 := hv
  rcases hv with ⟨⟨a, h1, _⟩, h2, _⟩ | ⟨off, cp, h1, _⟩
  · exact .inl ⟨⟨a, h1⟩, h2⟩
  · obtain ⟨_, _, _, cs, h3, h4⟩ := h0.cells h1
    exact .inr ⟨b, off, cp, cs, h1, h3, h4⟩

theorem R.src {ty : C.Ty} {cap : Bool} {l : List (C.A ty)} {v : Value} (hv : R T X false (.sl ty cap l) [v]) : Src T X X.w ty l v := by
  cases hv with
  | sl0 => exact .inl ⟨⟨_, rfl⟩, rfl⟩
  | @sl _ _ _ b off cp cs hat hr _ _ => exact .inr ⟨b, off, cp, cs, rfl, hr, fun j u hj => (hat j u hj).1⟩

section run
variable {t tx ty0 el : TypeId} {ie : TypeInfo} {z : Value} (w : World)

/-- nothing is appended -/
theorem append_none (ht : P.underlying t = some (.slice el)) (htx : ∃ e2, P.underlying tx = some (.slice e2)) (hi : P.info? el = some ie) (ao bo : Option Addr) (n cp c : Nat) (hc : n ≤ cp) :
    (Builtin.append_ #[t, tx] ty0 #[.slice ao n cp, .slice bo 0 c]).run P w = .ok (.slice ao n cp) w := by
  obtain ⟨e2, htx⟩ := htx
  have hf : (Builtin.firstCells ie.size 0 (.slice bo 0 c)).run P w = .ok #[] w := by
    cases bo <;> simp [Builtin.firstCells, loadCells, loadCellsFrom]
  cases ao <;> simp [Builtin.append_, run_underlying ht, run_underlying htx, sizeOf, typeInfo, hi, Builtin.lenOf, hc, hf, storeCells]

theorem append_room (ht : P.underlying t = some (.slice el)) (htx : ∃ e2, P.underlying tx = some (.slice e2)) (hi : P.info? el = some ie) (g off n cp : Nat) (cur : Array Value) (eg : TypeId) (hg : w.heap[g]? = some (.cells cur eg (0, 0)))
    (a : Addr) (m c : Nat) (news : List Value) (hl : news.length = m * ie.size) (hnews : ∀ j u, news[j]? = some u → w.cell? (a.add j) = some u) (h1 : ∀ u ∈ news, u.oneCell' = true)
    (hroom : n + m ≤ cp) (hfit : off + n * ie.size + news.length ≤ cur.size) :
    (Builtin.append_ #[t, tx] ty0 #[.slice (some ⟨g, off, none⟩) n cp, .slice (some a) m c]).run P w =
      .ok (.slice (some ⟨g, off, none⟩) (n + m) cp) (w.setRow g (cur.toList.take (off + n * ie.size) ++ news ++ cur.toList.drop (off + n * ie.size + news.length)).toArray) := by
  obtain ⟨e2, htx⟩ := htx
  have hf := run_firstCells_some (P := P) w ie.size m a m c news hl hnews
  have hst := run_storeCells_at P g (off + n * ie.size) eg news 0 cur w hg (by omega) h1
  simp only [Nat.add_zero] at hst
  simp [Builtin.append_, run_underlying ht, run_underlying htx, sizeOf, typeInfo, hi, Builtin.lenOf, hroom, hf, Addr.add_lit, hst]

theorem append_grow (ht : P.underlying t = some (.slice el)) (htx : ∃ e2, P.underlying tx = some (.slice e2)) (hi : P.info? el = some ie) (hz : ie.zero = some z) (ao : Option Addr) (n cp : Nat) (olds : List Value)
    (holds : (ao = none ∧ olds = []) ∨ ∃ b, ao = some b ∧ olds.length = n * ie.size ∧ ∀ j v, olds[j]? = some v → w.cell? (b.add j) = some v)
    (a : Addr) (m c : Nat) (news : List Value) (hl : news.length = m * ie.size) (hnews : ∀ j v, news[j]? = some v → w.cell? (a.add j) = some v)
    (hg : cp < n + m) (h63 : ((n + m : Nat) : Int) ≤ 9223372036854775807) (hfit : Builtin.nextslicecap (n + m) cp * ie.bytes ≤ 281474976710656) :
    (Builtin.append_ #[t, tx] ty0 #[.slice ao n cp, .slice (some a) m c]).run P w =
      .ok (.slice (some ⟨w.heap.size, 0, none⟩) (n + m) (grownCap w (n + m) cp el))
        (w.drew.alloc (.cells (olds ++ news ++ (Builtin.zeroCells z.cells (grownCap w (n + m) cp el - (n + m))).toList).toArray el)) := by
  obtain ⟨e2, htx⟩ := htx
  have hn : ¬ (n + m ≤ cp) := by omega
  have h63' : ¬ (9223372036854775807 < ((n : Int) + (m : Int))) := by omega
  have h48' : ¬ (281474976710656 < Builtin.nextslicecap (n + m) cp * ie.bytes) := by omega
  have hf := run_firstCells_some (P := P) w.drew ie.size m a m c news hl (by simpa using hnews)
  have hfo : (Builtin.firstCells ie.size n (.slice ao n cp)).run P w.drew = .ok olds.toArray w.drew := by
    rcases holds with ⟨rfl, rfl⟩ | ⟨b, rfl, h1, h2⟩
    · simp [Builtin.firstCells]
    · exact run_firstCells_some (P := P) w.drew ie.size n b n cp olds h1 (by simpa using h2)
  simp [Builtin.append_, run_underlying ht, run_underlying htx, sizeOf, typeInfo, zeroValue, hi, hz, Builtin.lenOf, hn, h63', h48', Question.forced, hf, hfo, newRow, grownCap]
  congr 2
  apply Array.ext'
  simp
end run

include K in
theorem G.newRef {t : C.Ty} {own : Bool} {l : List (C.A t)} {v : Value} {b lo hi : Nat} (g : G T X h nx lim) (hn : nx < lim.top) (hl : hi ≤ lo)
    (hV : VecOK T X t own l v b lo hi) : ∃ X', X'.w = X.w ∧ X'.ρ nx = some (.vec v (T.ety t) b lo hi) ∧ G T X' ((nx, .vec t own l) :: h) (nx + 1) lim ∧ Step X nx lim X' := by
  let l0 : Loc := .vec v (T.ety t) b lo hi
  have hno : ∀ c o, ¬ l0.owns c o := fun c o h => by have := h.2; omega
  let X' : Cx := ⟨X.w, fun id => if id = nx then some l0 else X.ρ id, X.O⟩
  have hmine : ∀ c o, X'.mine c o → X.mine c o := by
    rintro c o ⟨id, k, h1, h2⟩
    by_cases hi : id = nx
    · simp [X', hi] at h1; subst h1; exact absurd h2 (hno c o)
    · simp [X', hi] at h1; exact ⟨id, k, h1, h2⟩
  have hs : Step X nx lim X' := by
    refine ⟨rfl, rfl, rfl, rfl, Nat.le_refl _, ?_, fun c o _ => hmine c o, fun _ _ _ _ => rfl, fun _ _ _ => rfl, fun _ => rfl⟩
    intro id ho
    have : id ≠ nx := by have := ho.1; omega
    simp [X', this, Compat.refl]
  have hc : Ch X X' nx lim nx := ⟨hs, fun id hi => by simp [X', hi], fun c d e f hb => ⟨d, hb, rfl, fun _ _ => rfl⟩⟩
  obtain ⟨o1, o2⟩ := G.others K.base g hc
  refine ⟨X', rfl, by simp [X', l0], ⟨?_, ?_, ?_, ?_, ?_, ?_, g.outs, Nat.le_succ_of_le g.low⟩, hs⟩
  · intro id t' d' hg
    rw [get_cons] at hg
    by_cases hi : id = nx
    · simp [hi] at hg
    · simp [hi] at hg; exact o1 id t' d' hi hg
  · intro id t' own' l' hg
    rw [get_cons] at hg
    by_cases hi' : id = nx
    · simp [hi'] at hg; obtain ⟨rfl, rfl, hg⟩ := hg; simp at hg; subst hg
      refine ⟨v, b, lo, hi, by simp [X', hi', l0], ?_⟩
      rcases hV with h2 | ⟨off, cp, h2, h3, h4, h5⟩
      · exact .inl h2
      · refine .inr ⟨off, cp, h2, h3, h4, ?_⟩
        rcases h5 with ⟨ht, hlo, h5 | ⟨cs, e, h5, h6, h7⟩⟩ | ⟨ht, hlo, ⟨cs, h5, h6⟩, h7⟩
        · exact .inl ⟨ht, hlo, .inl h5⟩
        · exact .inl ⟨ht, hlo, .inr ⟨cs, e, h5, h6, h7.step K.base hs (by simp [D.refs])⟩⟩
        · exact .inr ⟨ht, hlo, ⟨cs, h5.step hs, h6.step K.base hs (by simp [D.refs])⟩, h7⟩
    · simp [hi'] at hg; exact o2 id t' own' l' hi' hg
  · intro id k hr
    rw [get_cons]
    by_cases hi : id = nx
    · simp [hi]
    · simp [X', hi] at hr ⊢; exact g.dom id k hr
  · intro id o hg
    rw [get_cons] at hg
    by_cases hi : id = nx
    · simp [hi] at hg; subst hg
      exact ⟨hi ▸ g.new hn, fun r hr' => by simp [Obj.refs] at hr'⟩
    · simp [hi] at hg; exact g.nums' (by omega) id o hg
  · intro id id' k k' c o o' h1 h2 h3 h4
    by_cases hi : id = nx
    · simp [X', hi] at h1; subst h1; exact absurd h3 (hno c o)
    · by_cases hj : id' = nx
      · simp [X', hj] at h2; subst h2; exact absurd h4 (hno c o')
      · simp [X', hi] at h1; simp [X', hj] at h2; exact g.apart id id' k k' c o o' h1 h2 h3 h4
  · intro c o hm; exact g.outer c o (hmine c o hm)

theorem sizeOK_le {n b : Nat} (h : sizeOK n b = true) : n * b ≤ 1099511627776 := by simpa [sizeOK] using h

include K g
/-- a slice is grown out of elements that are read, into an object of its own -/
theorem grow_new {t tx el : TypeId} {ty : C.Ty} (ht : T.ty t = .sl el ty) (htx : ∃ e2, P.underlying tx = some (.slice e2)) (ty0 : TypeId) (own : Bool) (l xs : List (C.A ty)) (ao : Option Addr) (cp : Nat) (vx : Value)
    (hl : Src T X X.w ty l (.slice ao l.length cp)) (hx : Src T X X.w ty xs vx) (hne : xs ≠ []) (hcp : cp < l.length + xs.length) (hsz : sizeOK (l.length + xs.length) (T.bytes el) = true) (hn : nx + 1 ≤ lim.top) :
    Post P T X nx lim ((nx, .vec ty own (l ++ xs)) :: h) (nx + 1) (.vs nx (l.length + xs.length)) (Builtin.append_ #[t, tx] ty0 #[.slice ao l.length cp, vx]) := by
  obtain ⟨ie, z, h1, h2, h3, hbp, h4, h5, h6, _⟩ := K.uElem _ _ _ (.inr ht)
  have hse := (K.base.szSl _ _ _ ht).2.2
  have hsz' := sizeOK_le hsz
  rcases hx with ⟨_, hx⟩ | ⟨bx, ox, cx, news, rfl, hrx, hcx⟩
  · exact absurd hx hne
  · have hlx := (hrx.lenArr K.base).1
    have hxl : 0 < xs.length := List.length_pos_iff.2 hne
    have hole : ∃ olds, R T X false (.arr ty l.length l) olds ∧ ((ao = none ∧ olds = []) ∨ ∃ b, ao = some b ∧ olds.length = l.length * ie.size ∧ ∀ j v, olds[j]? = some v → X.w.cell? (b.add j) = some v) := by
      rcases hl with ⟨hv, rfl⟩ | ⟨b, off, cp', cs, hv, hr, hc⟩
      · refine ⟨[], .arr0 ty, ?_⟩
        cases ao with
        | none => exact .inl ⟨rfl, rfl⟩
        | some b => exact .inr ⟨b, rfl, by simp, fun j v hj => by simp at hj⟩
      · simp at hv
        refine ⟨cs, hr, .inr ⟨_, hv.1, by rw [(hr.lenArr K.base).1, h2, hse], fun j v hj => ?_⟩⟩
        rw [Addr.add_lit]; exact hc j v hj
    obtain ⟨olds, hro, holds⟩ := hole
    have hlo := (hro.lenArr K.base).1
    have hb1 : l.length + xs.length ≤ (l.length + xs.length) * T.bytes el := Nat.le_mul_of_pos_right _ hbp
    have hrun := append_grow (P := P) (t := t) (tx := tx) (ty0 := ty0) X.w (K.uSl _ _ _ ht) htx h1 h5 ao l.length cp olds holds ⟨bx, ox, none⟩ xs.length cx news (by rw [hlx, h2, hse]) (fun j v hj => by rw [Addr.add_lit]; exact hcx j v hj) hcp
      (by omega) (by rw [h3]; exact nextcap_bytes _ _ _ hcp hsz')
    have hgc := grownCap_ge X.w (l.length + xs.length) cp el
    generalize grownCap X.w (l.length + xs.length) cp el = cap at hrun hgc
    obtain ⟨g1, s1⟩ := G.world K.base g X.w.drew rfl rfl rfl rfl
    have hrn : R T X false (.arr ty (l ++ xs).length (l ++ xs)) (olds ++ news) := by
      have := hro.arrAppend hrx
      simpa using this
    have hon : (olds ++ news).length = (l ++ xs).length * T.size (T.ety ty) := by simp [hlo, hlx, Nat.add_mul]
    obtain ⟨X', hX', g2, s2, r2⟩ := G.newVec K.base g1 (by omega) (t := ty) (l := l ++ xs) (c := (olds ++ news ++ (Builtin.zeroCells z.cells (cap - (l.length + xs.length))).toList).toArray) (e := el) (cp := cap) own (by
        have e1 : (olds ++ news ++ (Builtin.zeroCells z.cells (cap - (l.length + xs.length))).toList).toArray.toList.take ((l ++ xs).length * T.size (T.ety ty)) = olds ++ news := by
          rw [List.toList_toArray, List.take_left' hon]
        rw [e1]
        exact hrn.step K.base s1 (by simp [D.refs])) (by simpa using hgc) (by
        simp only [List.size_toArray, List.length_append, Array.length_toList, size_zeroCells, h6, hlo, hlx, hse]
        rw [← Nat.add_mul, ← Nat.add_mul]
        exact Nat.le_of_eq (by congr 1; omega))
    have hlen : (l ++ xs).length = l.length + xs.length := by simp
    rw [hlen] at r2
    refine ⟨_, X', ?_, g2, s1.trans s2 (Nat.le_refl _), ⟨.mk rfl r2, ?_⟩⟩
    · rw [hrun, hX']; rfl
    · intro id hid; simp [D.refs] at hid; subst hid; exact g.new (by omega)

omit K g in
theorem G.congr {h2 : Heap C} (g : G T X h nx lim) (hh : ∀ id, h2.get id = h.get id) : G T X h2 nx lim :=
  ⟨fun id t d ho => g.var id t d (by rw [← hh]; exact ho), fun id t own l ho => g.vec id t own l (by rw [← hh]; exact ho), fun id l hr => by rw [hh]; exact g.dom id l hr, fun id o ho => g.nums id o (by rw [← hh]; exact ho), g.apart, g.outer, g.outs, g.low⟩

omit K g in
theorem splice_ext {α : Type} (l : List α) (off k : Nat) (news : List α) (h : off + k + news.length ≤ l.length) :
    ((l.take (off + k) ++ news ++ l.drop (off + k + news.length)).drop off).take (k + news.length) = (l.drop off).take k ++ news := by
  have e1 : l.take (off + k) = l.take off ++ (l.drop off).take k := by rw [List.take_add]
  have h1 : (l.take off).length = off := by simp; omega
  rw [e1, List.append_assoc, List.append_assoc, List.drop_left' h1, ← List.append_assoc, List.take_left' (by simp; omega)]

include hlim
theorem app_ok {t tx el : TypeId} {ty : C.Ty} (ht : T.ty t = .sl el ty) (htx : ∃ e2, P.underlying tx = some (.slice e2)) (ty0 : TypeId) {s d : D C} {vs vx : Value} (hs : RO T X nx lim s vs) (xs : List (C.A ty)) (hsx : Src T X X.w ty xs vx)
    (hex : Ex e (app ty (T.bytes el) s xs) h nx d h' nx' tr) : Post P T X nx lim h' nx' d (Builtin.append_ #[t, tx] ty0 #[vs, vx]) := by
  obtain ⟨ie, z, q1, q2, q3, qb, q4, q5, q6, _⟩ := K.uElem _ _ _ (.inr ht)
  have hse := (K.base.szSl _ _ _ ht).2.2
  have hu := K.uSl _ _ _ ht
  have hvx0 : xs = [] → ∃ bo c, vx = .slice bo 0 c := by
    rintro rfl
    rcases hsx with ⟨⟨a, rfl⟩, _⟩ | ⟨b, off, cp, cs, rfl, _⟩
    · exact ⟨a, 0, rfl⟩
    · exact ⟨_, _, rfl⟩
  -- a new object that only refers
  have refer : ∀ (own : Bool) (l : List (C.A ty)) (ao : Option Addr), xs = [] → R T X false (.sl ty true l) [.slice ao l.length l.length] → (own = true → l = []) → nx + 1 ≤ lim.top →
      Post P T X nx lim ((nx, .vec ty own (l ++ xs)) :: h) (nx + 1) (.vs nx (l.length + xs.length)) (Builtin.append_ #[t, tx] ty0 #[.slice ao l.length l.length, vx]) := by
    intro own l ao hx0 hR hown hn
    obtain ⟨bo, c, rfl⟩ := hvx0 hx0
    subst hx0
    have hrun := append_none (P := P) (t := t) (tx := tx) (ty0 := ty0) X.w hu htx q1 ao bo l.length l.length c (Nat.le_refl _)
    simp only [List.append_nil, List.length_nil, Nat.add_zero]
    have hV : ∃ b lo hi, hi ≤ lo ∧ VecOK T X ty own l (.slice ao l.length l.length) b lo hi := by
      generalize hv : (Value.slice ao l.length l.length) = v at hR
      cases hR with
      | sl0 _ _ a =>
        by_cases ha : ∃ b off, a = some ⟨b, off, none⟩
        · obtain ⟨b, off, rfl⟩ := ha
          cases own with
          | true => exact ⟨b, off, off, Nat.le_refl _, .inr ⟨off, 0, rfl, by simp, by simp, .inl ⟨rfl, rfl, .inl rfl⟩⟩⟩
          | false => exact ⟨b, off, off, Nat.le_refl _, .inr ⟨off, 0, rfl, by simp, by simp, .inr ⟨rfl, by simp, ⟨[], fun j v hj => by simp at hj, .arr0 _⟩, .inl rfl⟩⟩⟩
        · exact ⟨0, 0, 0, Nat.le_refl _, .inl ⟨⟨a, rfl, fun b off e => ha ⟨b, off, e⟩⟩, rfl, Nat.le_refl _⟩⟩
      | @sl _ _ _ b off cp cs hat hr _ hc =>
        have hcp := hc rfl
        subst hcp
        cases own with
        | true =>
          have := hown rfl
          subst this
          exact ⟨b, off, off, Nat.le_refl _, .inr ⟨off, 0, rfl, by simp, by simp, .inl ⟨rfl, rfl, .inl rfl⟩⟩⟩
        | false => exact ⟨b, _, _, Nat.le_refl _, .inr ⟨off, l.length, rfl, Nat.le_refl _, rfl, .inr ⟨rfl, rfl, ⟨cs, hat, hr⟩, .inl rfl⟩⟩⟩
    obtain ⟨b, lo, hi, hle, hV⟩ := hV
    obtain ⟨X', hX', hρ, g2, s2⟩ := G.newRef K g (by omega) hle hV
    refine ⟨_, X', by rw [hrun, hX'], g2, s2, ⟨.mk rfl (.vs fun v e b' lo' hi' hv => ?_), ?_⟩⟩
    · rw [hρ] at hv; simp at hv; obtain ⟨rfl, _⟩ := hv
      exact ⟨Nat.le_refl _, fun _ => rfl⟩
    · intro id hid; simp [D.refs] at hid; subst hid; exact g.new (by omega)
  unfold app at hex
  cases s with
  | nils =>
    rw [hs.1.nils]
    simp only at hex
    rcases Ex.br hex with ⟨hb, hex⟩ | ⟨_, hex⟩
    · obtain ⟨t1, hex, _⟩ := Ex.nw hex
      obtain ⟨rfl, rfl, rfl, rfl⟩ := Ex.ret hex
      by_cases hx0 : xs = []
      · have := refer true [] none hx0 (.sl0 _ _ _) (fun _ => rfl) (by omega)
        simpa using this
      · have := grow_new K g ht htx ty0 true [] xs none 0 vx (.inl ⟨⟨none, rfl⟩, rfl⟩) hsx hx0 (by have := List.length_pos_iff.2 hx0; simp; omega) (by simpa using hb) (by omega)
        simpa using this
    · exact (Ex.fail hex).elim
  | sl t' cap l =>
    simp only at hex
    by_cases hty : t' = ty
    · subst hty
      simp only [dite_true] at hex
      cases cap with
      | false => exact (Ex.fail hex).elim
      | true =>
        simp only at hex
        rcases Ex.br hex with ⟨hb, hex⟩ | ⟨_, hex⟩
        · obtain ⟨t1, hex, _⟩ := Ex.nw hex
          obtain ⟨rfl, rfl, rfl, rfl⟩ := Ex.ret hex
          have hR := hs.1.one rfl
          have hvs : ∃ ao, vs = .slice ao l.length l.length := by
            cases hR with
            | sl0 => exact ⟨_, rfl⟩
            | sl hat hr _ hc => have := hc rfl; subst this; exact ⟨_, rfl⟩
          obtain ⟨ao, rfl⟩ := hvs
          by_cases hx0 : xs = []
          · exact refer l.isEmpty l ao hx0 hR (fun hh => by simpa using hh) (by omega)
          · exact grow_new K g ht htx ty0 l.isEmpty l xs ao l.length vx hR.src hsx hx0 (by have := List.length_pos_iff.2 hx0; omega) hb (by omega)
        · exact (Ex.fail hex).elim
    · simp only [hty, dite_false] at hex; exact (Ex.fail hex).elim
  | vs id n =>
    simp only at hex
    obtain ⟨o, tr', ho, hey, _⟩ := Ex.rd hex
    clear hex
    cases o with
    | var u d0 => exact (Ex.fail hey).elim
    | vec ty' own l =>
      simp only at hey
      by_cases hty : ty' = ty
      · subst hty
        simp only [dite_true] at hey
        rcases Ex.br hey with ⟨hb, hex⟩ | ⟨_, hex⟩
        · obtain ⟨o', t2, _, hex, _⟩ := Ex.wr hex
          obtain ⟨rfl, rfl, rfl, rfl⟩ := Ex.ret hex
          simp only [Bool.and_eq_true] at hb
          have hn : n = l.length := Nat.eq_of_beq_eq_true hb.1
          subst hn
          obtain ⟨v0, b, lo, hi, h1, h2⟩ := g.vec id ty' own l ho
          have hR := hs.1.one rfl
          cases hR with
          | @vs _ _ cp a0 hh =>
            have hv0 := (hh _ _ _ _ _ h1).2 h2.len
            subst hv0
            have hsrc := h2.src
            have hcp : l.length ≤ cp := by
              rcases h2 with ⟨h3, h4, _⟩ | ⟨off, cp', h3, h4, _⟩
              · rw [h4]; simp
              · simp at h3; omega
            have hidr : ∀ r ∈ (D.vs id (l.length + xs.length) : D C).refs, old nx' lim r := by
              intro r hr; simp [D.refs] at hr; subst hr; exact hs.2 r (by simp [D.refs])
            by_cases hx0 : xs = []
            · obtain ⟨bo, c, rfl⟩ := hvx0 hx0
              subst hx0
              have hrun := append_none (P := P) (t := t) (tx := tx) (ty0 := ty0) X.w hu htx q1 a0 bo l.length cp c hcp
              refine ⟨_, X, hrun, g.congr (fun j => ?_), .refl _ _ _, ⟨hs.1, by simpa using hidr⟩⟩
              rw [get_put (g.dom id _ h1)]
              by_cases hj : j = id
              · simp [hj, ho]
              · simp [hj]
            · have hxl := List.length_pos_iff.2 hx0
              rcases Nat.lt_or_ge cp (l.length + xs.length) with hgrow | hroom
              · -- into a new block
                rcases hsx with ⟨_, hsx⟩ | ⟨bx, ox, cx, news, rfl, hrx, hcx⟩
                · exact absurd hsx hx0
                · have hlx := (hrx.lenArr K.base).1
                  have hole : ∃ olds, R T X false (.arr ty' l.length l) olds ∧ ((a0 = none ∧ olds = []) ∨ ∃ b, a0 = some b ∧ olds.length = l.length * ie.size ∧ ∀ j v, olds[j]? = some v → X.w.cell? (b.add j) = some v) := by
                    rcases hsrc with ⟨hv, rfl⟩ | ⟨b, off, cp', cs, hv, hr, hc⟩
                    · refine ⟨[], .arr0 ty', ?_⟩
                      cases a0 with
                      | none => exact .inl ⟨rfl, rfl⟩
                      | some b => exact .inr ⟨b, rfl, by simp, fun j v hj => by simp at hj⟩
                    · simp at hv
                      refine ⟨cs, hr, .inr ⟨_, hv.1, by rw [(hr.lenArr K.base).1, q2, hse], fun j v hj => ?_⟩⟩
                      rw [Addr.add_lit]; exact hc j v hj
                  obtain ⟨olds, hro, holds⟩ := hole
                  have hlo := (hro.lenArr K.base).1
                  have hsz' := sizeOK_le hb.2
                  have hb1 : l.length + xs.length ≤ (l.length + xs.length) * T.bytes el := Nat.le_mul_of_pos_right _ qb
                  have hrun := append_grow (P := P) (t := t) (tx := tx) (ty0 := ty0) X.w hu htx q1 q5 a0 l.length cp olds holds ⟨bx, ox, none⟩ xs.length cx news (by rw [hlx, q2, hse]) (fun j v hj => by rw [Addr.add_lit]; exact hcx j v hj) hgrow
                    (by omega) (by rw [q3]; exact nextcap_bytes _ _ _ hgrow hsz')
                  have hgc := grownCap_ge X.w (l.length + xs.length) cp el
                  generalize grownCap X.w (l.length + xs.length) cp el = cap at hrun hgc
                  obtain ⟨g1, s1⟩ := G.world K.base g X.w.drew rfl rfl rfl rfl
                  have hrn : R T X false (.arr ty' (l ++ xs).length (l ++ xs)) (olds ++ news) := by
                    have := hro.arrAppend hrx
                    simpa using this
                  have hon : (olds ++ news).length = (l ++ xs).length * T.size (T.ety ty') := by simp [hlo, hlx, Nat.add_mul]
                  have hlen : (l ++ xs).length = l.length + xs.length := by simp
                  have hcsz : (olds ++ news ++ (Builtin.zeroCells z.cells (cap - (l.length + xs.length))).toList).toArray.size = cap * T.size (T.ety ty') := by
                    simp only [List.size_toArray, List.length_append, Array.length_toList, size_zeroCells, q6, hlo, hlx, hse]
                    rw [← Nat.add_mul, ← Nat.add_mul]
                    congr 1; omega
                  have hmul : (l ++ xs).length * T.size (T.ety ty') ≤ cap * T.size (T.ety ty') := Nat.mul_le_mul_right _ (by omega)
                  obtain ⟨X', hX', hρ, g2, s2⟩ := G.moveVec K.base g1 (own' := own) (l' := l ++ xs) (v' := .slice (some ⟨X.w.heap.size, 0, none⟩) (l.length + xs.length) cap)
                    (c := (olds ++ news ++ (Builtin.zeroCells z.cells (cap - (l.length + xs.length))).toList).toArray) (e := el) (lo' := if own then 0 else (l ++ xs).length * T.size (T.ety ty')) (hi' := cap * T.size (T.ety ty')) ho h1
                    ⟨by simp [lenV], fun he => by simp only [lenV] at he; omega⟩ (by
                    intro X' hw hO hm hO2 hs'
                    have hr' := (hrn.step K.base s1 (by simp [D.refs])).step K.base hs' (by simp [D.refs])
                    have hblk : X'.w.heap[X.w.heap.size]? = some (.cells (olds ++ news ++ (Builtin.zeroCells z.cells (cap - (l.length + xs.length))).toList).toArray el (0, 0)) := by
                      rw [hw]; exact heap_alloc_eq X.w.drew _
                    refine .inr ⟨0, cap, by rw [hlen]; rfl, by omega, by simp, ?_⟩
                    cases own with
                    | true =>
                      refine .inl ⟨rfl, by simp, .inr ⟨_, el, hblk, by rw [hcsz]; exact Nat.le_refl _, ?_⟩⟩
                      rw [List.toList_toArray, List.drop_zero, List.take_left' hon]; exact hr'
                    | false =>
                      refine .inr ⟨rfl, by simp, ⟨_, ?_, hr'⟩, .inr ⟨_, el, hblk, by rw [hcsz]; exact Nat.le_refl _⟩⟩
                      intro j u hj
                      have hj' : j < (olds ++ news).length := (List.getElem?_eq_some_iff.1 hj).1
                      refine ⟨?_, hO2 _, hm _ (by simp only [Bool.false_eq_true, if_false]; omega)⟩
                      have hblk' : X'.w.heap[X.w.drew.heap.size]? = some (.cells (olds ++ news ++ (Builtin.zeroCells z.cells (cap - (l.length + xs.length))).toList).toArray el (0, 0)) := hblk
                      simp only [World.cell?, hblk', Nat.zero_add]
                      simp only [List.getElem?_toArray]
                      rw [List.getElem?_append_left hj', hj]; rfl)
                  refine ⟨_, X', by rw [hrun, hX'], g2, s1.trans s2 (Nat.le_refl _), ⟨.mk rfl (.vs fun v e b' lo' hi' hv => ?_), hidr⟩⟩
                  rw [hρ] at hv; simp at hv; obtain ⟨rfl, _⟩ := hv
                  exact ⟨by simp [lenV], fun _ => rfl⟩
              · -- where there is room
                rcases h2 with ⟨h3, h4, _⟩ | ⟨off, cp', h3, h4, h5, h6⟩
                · simp at h3; omega
                · simp at h3
                  obtain ⟨rfl, rfl⟩ := h3
                  rcases hsx with ⟨_, hsx⟩ | ⟨bx, ox, cx, news, rfl, hrx, hcx⟩
                  · exact absurd hsx hx0
                  · have hlx := (hrx.lenArr K.base).1
                    have hblk : ∃ c ee, X.w.heap[b]? = some (.cells c ee (0, 0)) ∧ hi ≤ c.size := by
                      rcases h6 with ⟨_, _, h6 | ⟨c, ee, h6, h7, _⟩⟩ | ⟨_, _, _, h6 | ⟨c, ee, h6, h7⟩⟩
                      · omega
                      · exact ⟨c, ee, h6, h7⟩
                      · omega
                      · exact ⟨c, ee, h6, h7⟩
                    obtain ⟨c, ee, hblk, hcs⟩ := hblk
                    have hone := hrx.ones K.base rfl (.inr ⟨_, _, _, rfl⟩)
                    have hmul : (l.length + xs.length) * T.size (T.ety ty') ≤ cp * T.size (T.ety ty') := Nat.mul_le_mul_right _ hroom
                    rw [Nat.add_mul] at hmul
                    have hrun := append_room (P := P) (t := t) (tx := tx) (ty0 := ty0) X.w hu htx q1 b off l.length cp c ee hblk ⟨bx, ox, none⟩ xs.length cx news (by rw [hlx, q2, hse]) (fun j v hj => by rw [Addr.add_lit]; exact hcx j v hj) hone hroom
                      (by rw [hlx, q2, hse]; omega)
                    rw [q2, hse] at hrun
                    have hclen : c.toList.length = c.size := by simp
                    have hfits : off + l.length * T.size (T.ety ty') + news.length ≤ c.toList.length := by omega
                    have hgt := splice_get c.toList (off + l.length * T.size (T.ety ty')) news hfits
                    have hln := splice_len c.toList (off + l.length * T.size (T.ety ty')) news hfits
                    have hext := splice_ext c.toList off (l.length * T.size (T.ety ty')) news hfits
                    have hmid : ∀ j, j < news.length → (c.toList.take (off + l.length * T.size (T.ety ty')) ++ news ++ c.toList.drop (off + l.length * T.size (T.ety ty') + news.length))[off + l.length * T.size (T.ety ty') + j]? = news[j]? := by
                      intro j hj
                      have hpl : (c.toList.take (off + l.length * T.size (T.ety ty'))).length = off + l.length * T.size (T.ety ty') := by simp; omega
                      rw [List.append_assoc, List.getElem?_append_right (by omega), hpl, Nat.add_sub_cancel_left, List.getElem?_append_left hj]
                    generalize hk : c.toList.take (off + l.length * T.size (T.ety ty')) ++ news ++ c.toList.drop (off + l.length * T.size (T.ety ty') + news.length) = k at hrun hgt hln hext hmid
                    have hlen : (l ++ xs).length = l.length + xs.length := by simp
                    have hlow : lo = off ∨ lo = off + l.length * T.size (T.ety ty') := by
                      rcases h6 with ⟨_, h6, _⟩ | ⟨_, h6, _⟩
                      · exact .inl h6
                      · exact .inr h6
                    obtain ⟨X', hX', hρ, g2, s2⟩ := G.setVec K.base g ho h1 hblk (c' := k.toArray) (l' := l ++ xs) (v' := .slice (some ⟨b, off, none⟩) (l.length + xs.length) cp)
                      (lo' := if own then lo else off + (l ++ xs).length * T.size (T.ety ty')) (by simp [hln]) (by
                      intro o ho'
                      have := hgt o (by omega)
                      simpa using this) (by
                      cases own with
                      | true => simp
                      | false => simp only [Bool.false_eq_true, if_false]; rw [hlen, Nat.add_mul]; omega) (by
                      cases own with
                      | true => simp
                      | false => simp only [Bool.false_eq_true, if_false]; rw [hlen, Nat.add_mul]; omega)
                      ⟨by simp [lenV], fun he => by simp only [lenV] at he; omega⟩ (by
                      intro X' hw hO hm hfree hs'
                      have hb2 : X'.w.heap[b]? = some (.cells k.toArray ee (0, 0)) := by rw [hw]; exact setRow_heap _ _ _ _ _ _ hblk
                      refine .inr ⟨off, cp, by rw [hlen], by omega, h5, ?_⟩
                      rcases h6 with ⟨rfl, hlo, h6 | ⟨c2, ee2, h6, h7, h8⟩⟩ | ⟨rfl, hlo, ⟨cs, h6, h7⟩, h8⟩
                      · omega
                      · rw [hblk] at h6; simp at h6; obtain ⟨rfl, rfl⟩ := h6
                        refine .inl ⟨rfl, by simpa using hlo, .inr ⟨_, ee, hb2, by simp [hln]; omega, ?_⟩⟩
                        have hr' : R T X false (.arr ty' (l ++ xs).length (l ++ xs)) ((c.toList.drop off).take (l.length * T.size (T.ety ty')) ++ news) := by
                          have := h8.arrAppend hrx
                          simpa using this
                        have e1 : (l ++ xs).length * T.size (T.ety ty') = l.length * T.size (T.ety ty') + news.length := by rw [hlen, Nat.add_mul, hlx]
                        rw [e1, List.toList_toArray, hext]
                        exact hr'.step K.base hs' (by simp [D.refs])
                      · refine .inr ⟨rfl, by simp, ⟨cs ++ news, ?_, ?_⟩, .inr ⟨_, ee, hb2, by simp [hln]; omega⟩⟩
                        · have hcsl := (h7.lenArr K.base).1
                          intro j u hj
                          rcases Nat.lt_or_ge j cs.length with hlt | hge
                          · rw [List.getElem?_append_left hlt] at hj
                            exact (h6.step hs') j u hj
                          · rw [List.getElem?_append_right hge] at hj
                            have hjn : j - cs.length < news.length := (List.getElem?_eq_some_iff.1 hj).1
                            have hpos : off + j = off + l.length * T.size (T.ety ty') + (j - cs.length) := by omega
                            refine ⟨?_, ?_, ?_⟩
                            · simp only [World.cell?, hb2]
                              have := hmid (j - cs.length) hjn
                              rw [← hpos, hj] at this
                              simpa using this
                            · rw [hO]
                              exact (g.outer b (off + j) ⟨id, _, h1, ⟨rfl, by omega, by omega⟩⟩).1
                            · refine hfree _ (by omega) ?_
                              simp only [Bool.false_eq_true, if_false]; rw [hlen, Nat.add_mul]; omega
                        · have := h7.arrAppend hrx
                          have hr' : R T X false (.arr ty' (l ++ xs).length (l ++ xs)) (cs ++ news) := by simpa using this
                          exact hr'.step K.base hs' (by simp [D.refs]))
                    refine ⟨_, X', by rw [hrun, hX'], g2, s2, ⟨.mk rfl (.vs fun v e b' lo' hi' hv => ?_), hidr⟩⟩
                    rw [hρ] at hv; simp at hv; obtain ⟨rfl, _⟩ := hv
                    exact ⟨by simp [lenV], fun _ => rfl⟩
        · exact (Ex.fail hex).elim
      · simp only [hty, dite_false] at hey; exact (Ex.fail hey).elim
  | _ => exact (Ex.fail hex).elim
end
end Go.Ev

/-
  make, len, min, max, conversions, functions; an operation as a whole.
-/
namespace Go.Ev
set_option linter.unusedVariables false
set_option linter.unusedSimpArgs false

section
variable {C : Cdc} {P : Program} {T : Tab C} (K : PLaws P T)
open Pg (Ex)
variable {X : Cx} {h h' : Heap C} {nx nx' : Nat} {e : Pg.Lv} {lim : Lim} {tr : Tr} (g : G T X h nx lim) (hlim : nx' ≤ lim.top)

include K g
theorem makeSlice_ok (hlim : nx' ≤ lim.top) {t : TypeId} {n c d : D C} {vn vc : Value} (hn : RO T X nx lim n vn) (hc : RO T X nx lim c vc) (hx : Ex e (evMakeSlice T t n c) h nx d h' nx' tr) :
    Post P T X nx lim h' nx' d (Instr.makeSlice t vn vc) := by
  unfold evMakeSlice at hx
  cases ht : T.ty t with
  | sl el ty =>
    simp only [ht] at hx
    split at hx
    · rename_i e2 ty2 n0 c0 hq
      simp only [GT.sl.injEq] at hq
      obtain ⟨rfl, rfl⟩ := hq
      obtain ⟨rfl, hnr⟩ := hn.1.int
      obtain ⟨rfl, _⟩ := hc.1.int
      rcases Ex.br hx with ⟨hb, hx⟩ | ⟨_, hx⟩
      · obtain ⟨t1, hx, _⟩ := Ex.nw hx
        obtain ⟨rfl, rfl, rfl, rfl⟩ := Ex.ret hx
        simp only [Bool.and_eq_true, decide_eq_true_eq] at hb
        obtain ⟨⟨h0, rfl⟩, hsz⟩ := hb
        have hsz' := sizeOK_le hsz
        obtain ⟨ie, z, q1, q2, q3, qb, q4, q5, q6, q7⟩ := K.uElem _ _ _ (.inr ht)
        have hse := (K.base.szSl _ _ _ ht).2.2
        have hw : IntKind.i64.wrap n0 = n0 := by
          simp [IntKind.min, IntKind.max, IntKind.signed, IntKind.bits] at hnr
          unfold IntKind.wrap
          simp [IntKind.signed, IntKind.bits]
          omega
        have hz0 := R.rep (q7 X) n0.toNat
        have hzl := zeros_list z.cells (by omega) n0.toNat
        rw [q6] at hzl
        rw [← hzl] at hz0
        have hlz : ((Array.range (n0.toNat * T.size el)).map fun i => z.cells[i % T.size el]!).size = n0.toNat * T.size el := by simp
        obtain ⟨X', hX', g2, s2, r2⟩ := G.newVec K.base g (by omega) (t := ty) (l := List.replicate n0.toNat (T.dflt ty)) (c := (Array.range (n0.toNat * T.size el)).map fun i => z.cells[i % T.size el]!) (e := el) (cp := n0.toNat) true (by
          have e1 : ((Array.range (n0.toNat * T.size el)).map fun i => z.cells[i % T.size el]!).toList.take ((List.replicate n0.toNat (T.dflt ty)).length * T.size (T.ety ty)) = ((Array.range (n0.toNat * T.size el)).map fun i => z.cells[i % T.size el]!).toList := by
            apply List.take_of_length_le
            simp [hse]
          rw [e1]
          simpa using hz0) (by simp) (by rw [hlz, hse]; exact Nat.le_refl _)
        rw [List.length_replicate] at r2
        refine ⟨_, X', ?_, g2, s2, ⟨.mk rfl r2, ?_⟩⟩
        · have hb3 : (T.bytes el : Int) * n0 = ((n0.toNat * T.bytes el : Nat) : Int) := by
            rw [Int.natCast_mul, Int.mul_comm]; congr 1; omega
          have hle : ¬ (281474976710656 < (T.bytes el : Int) * n0) := by rw [hb3]; omega
          rw [hX']
          by_cases hz1 : n0.toNat * T.size el = 0
          · have hn0 : n0.toNat = 0 := by
              rcases Nat.mul_eq_zero.1 hz1 with h | h
              · exact h
              · omega
            have hn1 : n0 = 0 := by omega
            subst hn1
            simp [Instr.makeSlice, run_underlying (K.uSl _ _ _ ht), asInt, asIntOf, typeInfo, q1, q2, q3, sizeOf, hw, newRow]
            rw [Array.range_zero', Array.map_empty, Array.map_empty]
          · have hge : ¬ n0 < 0 := by omega
            simp only [Instr.makeSlice, Sem.run_bind, run_underlying (K.uSl _ _ _ ht), Result.andThen_ok, asInt, asIntOf, typeInfo, run_program, q1, Sem.run_pure, q2, q3, sizeOf, hw]
            simp [hge, hle, q1, q2, q5, q6, zeroValue, typeInfo, newRow, hz1]
        · intro id hid; simp [D.refs] at hid; subst hid; exact g.new (by omega)
      · exact (Ex.fail hx).elim
    · exact (Ex.fail hx).elim
  | _ => rw [ht] at hx; exact (Ex.fail hx).elim

theorem len_ok {t ty0 : TypeId} {a d : D C} {va : Value} (ha : RO T X nx lim a va) (hx : Ex e (lenD T t a) h nx d h' nx' tr) : Post P T X nx lim h' nx' d (Builtin.len_ #[t] ty0 #[va]) := by
  have hi : ∀ n : Nat, n ≤ 9223372036854775807 → RO T X nx lim (.int .i64 n) (.int .i64 n) := fun n hn => RO.mk (.mk rfl (.int (by simp [IntKind.min, IntKind.max, IntKind.signed, IntKind.bits]; omega))) rfl
  unfold lenD at hx
  cases ht : T.ty t with
  | sl el ty =>
    simp only [ht] at hx
    have hu := K.uSl _ _ _ ht
    cases a with
    | nils =>
      obtain ⟨rfl, rfl, rfl, rfl⟩ := Ex.ret hx
      rw [ha.1.nils]
      exact Post.same g _ (by simp [Builtin.len_, run_underlying hu, goInt]) (hi 0 (by omega))
    | sl ty' cap l =>
      simp only at hx
      rcases Ex.br hx with ⟨hb, hx⟩ | ⟨_, hx⟩
      · obtain ⟨rfl, rfl, rfl, rfl⟩ := Ex.ret hx
        have hR := ha.1.one rfl
        cases hR with
        | sl0 => exact Post.same g _ (by simp [Builtin.len_, run_underlying hu, goInt]) (hi 0 (by omega))
        | sl hat hr _ _ => exact Post.same g _ (by simp [Builtin.len_, run_underlying hu, goInt]) (hi _ (Nat.le_of_ble_eq_true hb))
      · exact (Ex.fail hx).elim
    | vs id n =>
      simp only at hx
      rcases Ex.br hx with ⟨hb, hx⟩ | ⟨_, hx⟩
      · obtain ⟨rfl, rfl, rfl, rfl⟩ := Ex.ret hx
        have hR := ha.1.one rfl
        cases hR with
        | vs hh => exact Post.same g _ (by simp [Builtin.len_, run_underlying hu, goInt]) (hi _ (Nat.le_of_ble_eq_true hb))
      · exact (Ex.fail hx).elim
    | _ => exact (Ex.fail hx).elim
  | str =>
    simp only [ht] at hx
    have hu := K.uStr _ ht
    cases a with
    | str s =>
      simp only at hx
      rcases Ex.br hx with ⟨hb, hx⟩ | ⟨_, hx⟩
      · obtain ⟨rfl, rfl, rfl, rfl⟩ := Ex.ret hx
        rw [ha.1.str]
        have hsz : (⟨⟨s⟩⟩ : ByteArray).size = s.length := rfl
        exact Post.same g _ (by simp [Builtin.len_, run_underlying hu, goInt, hsz]) (hi _ (Nat.le_of_ble_eq_true hb))
      · exact (Ex.fail hx).elim
    | _ => exact (Ex.fail hx).elim
  | arr n el ty =>
    simp only [ht] at hx
    have hu := (K.uArr _ _ _ _ ht).1
    cases hb : Nat.ble n 9223372036854775807 with
    | false => rw [hb] at hx; exact (Ex.fail hx).elim
    | true =>
      rw [hb] at hx
      obtain ⟨rfl, rfl, rfl, rfl⟩ := Ex.ret hx
      exact Post.same g _ (by simp [Builtin.len_, run_underlying hu, goInt]) (hi _ (Nat.le_of_ble_eq_true hb))
  | struct isA fs =>
    cases isA with
    | false => rw [ht] at hx; exact (Ex.fail hx).elim
    | true =>
      simp only [ht] at hx
      obtain ⟨el, hu, _⟩ := K.uRow _ _ ht
      cases hb : Nat.ble fs.length 9223372036854775807 with
      | false => rw [hb] at hx; exact (Ex.fail hx).elim
      | true =>
        rw [hb] at hx
        obtain ⟨rfl, rfl, rfl, rfl⟩ := Ex.ret hx
        exact Post.same g _ (by simp [Builtin.len_, run_underlying hu, goInt]) (hi _ (Nat.le_of_ble_eq_true hb))
  | _ => rw [ht] at hx; exact (Ex.fail hx).elim

omit K in
theorem minmax_ok {args : List (D C)} {vs : List Value} {d : D C} (ty0 : TypeId) (tys : Array TypeId) (ha : RVs T X args vs) :
    (foldMin args = some d → Post P T X nx lim h nx d (Builtin.min_ tys ty0 ⟨vs⟩)) ∧ (foldMax args = some d → Post P T X nx lim h nx d (Builtin.max_ tys ty0 ⟨vs⟩)) := by
  cases ha with
  | nil => exact ⟨fun hf => by simp [foldMin] at hf, fun hf => by simp [foldMax] at hf⟩
  | @cons d0 ds v vs h0 hr =>
    cases d0 with
    | int k a =>
      obtain ⟨rfl, ha0⟩ := h0.int
      constructor
      · intro hf
        simp only [foldMin, Option.map_eq_some_iff] at hf
        obtain ⟨n, hf, rfl⟩ := hf
        have key : ∀ (ds : List (D C)) (vs : List Value) (a : Int), RVs T X ds vs → k.min ≤ a ∧ a ≤ k.max → minL k a ds = some n →
            (k.min ≤ n ∧ n ≤ k.max) ∧ (vs.foldlM Builtin.min2 (.int k a)).run P X.w = .ok (.int k n) X.w := by
          intro ds
          induction ds with
          | nil => intro vs a hvs ha hf; cases hvs; simp [minL] at hf; subst hf; exact ⟨ha, by simp⟩
          | cons x ds ih =>
            intro vs a hvs ha hf
            cases hvs with
            | cons hx hr =>
              cases x with
              | int k2 b =>
                obtain ⟨rfl, hb⟩ := hx.int
                simp only [minL] at hf
                split at hf
                · rename_i hk; subst hk
                  have := ih _ _ hr (by split <;> assumption) hf
                  refine ⟨this.1, ?_⟩
                  simp only [List.foldlM_cons, Builtin.min2, pure_bind]
                  exact this.2
                · simp at hf
              | _ => simp [minL] at hf
        obtain ⟨hn, hrun⟩ := key ds vs a hr ha0 hf
        exact Post.same g _ (by simp only [Builtin.min_]; exact hrun) (RO.mk (.mk rfl (.int hn)) rfl)
      · intro hf
        simp only [foldMax, Option.map_eq_some_iff] at hf
        obtain ⟨n, hf, rfl⟩ := hf
        have key : ∀ (ds : List (D C)) (vs : List Value) (a : Int), RVs T X ds vs → k.min ≤ a ∧ a ≤ k.max → maxL k a ds = some n →
            (k.min ≤ n ∧ n ≤ k.max) ∧ (vs.foldlM Builtin.max2 (.int k a)).run P X.w = .ok (.int k n) X.w := by
          intro ds
          induction ds with
          | nil => intro vs a hvs ha hf; cases hvs; simp [maxL] at hf; subst hf; exact ⟨ha, by simp⟩
          | cons x ds ih =>
            intro vs a hvs ha hf
            cases hvs with
            | cons hx hr =>
              cases x with
              | int k2 b =>
                obtain ⟨rfl, hb⟩ := hx.int
                simp only [maxL] at hf
                split at hf
                · rename_i hk; subst hk
                  have := ih _ _ hr (by split <;> assumption) hf
                  refine ⟨this.1, ?_⟩
                  simp only [List.foldlM_cons, Builtin.max2, pure_bind]
                  exact this.2
                · simp at hf
              | _ => simp [maxL] at hf
        obtain ⟨hn, hrun⟩ := key ds vs a hr ha0 hf
        exact Post.same g _ (by simp only [Builtin.max_]; exact hrun) (RO.mk (.mk rfl (.int hn)) rfl)
    | _ => exact ⟨fun hf => by simp [foldMin] at hf, fun hf => by simp [foldMax] at hf⟩

omit K in
/-- what a slice's elements are, and where they stand -/
theorem elems_ok {ty : C.Ty} {x d : D C} {vx : Value} (hx : RO T X nx lim x vx) {k : List (C.A ty) → Pg C (D C)} (hex : Ex e (elems ty x k) h nx d h' nx' tr) :
    ∃ xs tr', Src T X X.w ty xs vx ∧ Ex e (k xs) h nx d h' nx' tr' := by
  unfold elems at hex
  cases x with
  | nils => rw [hx.1.nils]; exact ⟨[], _, .inl ⟨⟨_, rfl⟩, rfl⟩, hex⟩
  | sl t' cap l =>
    simp only at hex
    by_cases hty : t' = ty
    · subst hty
      simp only [dite_true] at hex
      exact ⟨l, _, (hx.1.one rfl).src, hex⟩
    · simp only [hty, dite_false] at hex; exact (Ex.fail hex).elim
  | vs id n =>
    simp only at hex
    obtain ⟨o, tr', ho, hey, _⟩ := Ex.rd hex
    clear hex
    cases o with
    | var u d0 => exact (Ex.fail hey).elim
    | vec ty' own l =>
      simp only at hey
      by_cases hty : ty' = ty
      · subst hty
        simp only [dite_true] at hey
        rcases Ex.br hey with ⟨hb, hex⟩ | ⟨_, hex⟩
        · have hn : n = l.length := Nat.eq_of_beq_eq_true hb
          obtain ⟨v0, b, lo, hi, h1, h2⟩ := g.vec id ty' own l ho
          have hR := hx.1.one rfl
          cases hR with
          | @vs _ _ cp a0 hh =>
            have hv0 := (hh _ _ _ _ _ h1).2 (by rw [h2.len, hn])
            rw [hv0] at h2
            exact ⟨l, _, h2.src, hex⟩
        · exact (Ex.fail hex).elim
      · simp only [hty, dite_false] at hey; exact (Ex.fail hey).elim
  | _ => exact (Ex.fail hex).elim

theorem builtin_ok (hlim : nx' ≤ lim.top) {b : Builtin} {tys : List TypeId} {ty0 : TypeId} {args : List (D C)} {vs : List Value} {d : D C} (ha : RVs T X args vs) (hr : ∀ a ∈ args, ∀ id ∈ a.refs, old nx lim id) (hlen : tys.length = args.length)
    (hx : Ex e (builtinD T b tys args) h nx d h' nx' tr) :
    ∃ s : Sem Value, (∀ consts, Go.builtin b ⟨tys⟩ ty0 consts ⟨vs⟩ = (do pure (.value (← s)))) ∧ Post P T X nx lim h' nx' d s := by
  unfold builtinD at hx
  split at hx
  · -- len
    rename_i a
    cases ha with
    | cons h0 hn =>
      cases hn
      cases tys with
      | nil => simp at hlen
      | cons t ts =>
        cases ts with
        | cons => simp at hlen
        | nil => exact ⟨_, fun _ => rfl, len_ok K g ⟨h0, hr a (by simp)⟩ hx⟩
  · -- append
    rename_i s x
    cases ha with
    | cons h0 hn =>
      cases hn with
      | cons h1 hn =>
        cases hn
        match tys, hlen with
        | [t, tx], _ =>
          simp only [List.getD_cons_zero, List.getD_cons_succ] at hx
          cases ht : T.ty t with
          | sl el ty =>
            simp only [ht] at hx
            cases htx : T.ty tx with
            | sl el2 ty2 =>
              simp only [htx] at hx
              cases hd : decide (ty = ty2) with
              | false => rw [hd] at hx; exact (Ex.fail hx).elim
              | true =>
                rw [hd] at hx
                simp only [cond_true] at hx
                obtain ⟨xs, tr', hsrc, hx⟩ := elems_ok g (ty := ty) ⟨h1, hr x (by simp)⟩ hx
                exact ⟨_, fun _ => rfl, app_ok K g hlim ht ⟨_, K.uSl _ _ _ htx⟩ ty0 ⟨h0, hr s (by simp)⟩ xs hsrc hx⟩
            | _ => rw [htx] at hx; exact (Ex.fail hx).elim
          | _ => rw [ht] at hx; exact (Ex.fail hx).elim
  · obtain ⟨hm, rfl, rfl, rfl⟩ := Ex.ofOpt hx
    exact ⟨_, fun _ => rfl, (minmax_ok g ty0 ⟨tys⟩ ha).1 hm⟩
  · obtain ⟨hm, rfl, rfl, rfl⟩ := Ex.ofOpt hx
    exact ⟨_, fun _ => rfl, (minmax_ok g ty0 ⟨tys⟩ ha).2 hm⟩
  · exact (Ex.fail hx).elim

omit K g in
theorem bytes_R {ty : C.Ty} : ∀ {xs : List (C.A ty)} {n : Nat} {cs : List Value} {bs : List UInt8}, R T X false (.arr ty n xs) cs → bytesOf T xs = some bs →
    ∃ ns : List Int, cs = ns.map (Value.int .u8) ∧ bs = ns.map fun n => UInt8.ofNat n.toNat := by
  intro xs
  induction xs with
  | nil => intro n cs bs h hb; cases h; simp [bytesOf] at hb; exact ⟨[], rfl, by simp [hb]⟩
  | cons x xs ih =>
    intro n cs bs h hb
    cases h with
    | arrS h1 h2 =>
      simp only [bytesOf] at hb
      split at hb
      · rename_i m r he hr
        rw [he] at h1
        cases h1
        obtain ⟨ns, rfl, rfl⟩ := ih h2 hr
        simp at hb
        exact ⟨m :: ns, rfl, by simp [hb]⟩
      · simp at hb

omit K g in
theorem foldl_push (ns : List Int) : ∀ (s : List UInt8), ns.foldl (fun r n => r.push (UInt8.ofNat n.toNat)) (⟨⟨s⟩⟩ : ByteArray) = ⟨⟨s ++ ns.map fun n => UInt8.ofNat n.toNat⟩⟩ := by
  induction ns with
  | nil => intro s; simp
  | cons n ns ih =>
    intro s
    have e : (⟨⟨s⟩⟩ : ByteArray).push (UInt8.ofNat n.toNat) = ⟨⟨s ++ [UInt8.ofNat n.toNat]⟩⟩ := by
      apply ByteArray.ext
      simp [ByteArray.push]
    rw [List.foldl_cons, e, ih]
    simp

theorem conv_ok {src dst : TypeId} {x d : D C} {vx : Value} (hx : RO T X nx lim x vx) (hex : Ex e (convD T src dst x) h nx d h' nx' tr) : Post P T X nx lim h' nx' d (convert src dst vx) := by
  unfold convD at hex
  split at hex
  · rename_i k0 k hs hd
    split at hex
    · rename_i k1 n
      obtain ⟨rfl, rfl, rfl, rfl⟩ := Ex.ret hex
      obtain ⟨rfl, _⟩ := hx.1.int
      exact Post.same g _ (by simp [convert, run_underlying (K.uInt _ _ hs), run_underlying (K.uInt _ _ hd), Conv.intToInt]) (RO.mk (.mk rfl (.int (wrap_range _ _))) rfl)
    · exact (Ex.fail hex).elim
  · rename_i hs hd
    split at hex
    · rename_i s
      obtain ⟨rfl, rfl, rfl, rfl⟩ := Ex.ret hex
      rw [hx.1.str]
      exact Post.same g _ (by simp [convert, run_underlying (K.uStr _ hs), run_underlying (K.uStr _ hd)]) (RO.mk (.mk rfl (.str _)) rfl)
    · exact (Ex.fail hex).elim
  · rename_i el ty hs hd
    split at hex
    · rename_i he
      split at hex
      rotate_left
      · exact (Ex.fail hex).elim
      rename_i fu hfu
      obtain ⟨xs, tr', hsrc, hex⟩ := elems_ok g (ty := ty) (typed_ok hx) hex
      obtain ⟨rfl, rfl, rfl, rfl⟩ := Ex.ret hex
      have hb := K.base.u8s _ _ xs hfu
      generalize fu xs = bs at hb ⊢
      refine Post.same g (.string ⟨⟨bs⟩⟩) ?_ (RO.mk (.mk rfl (.str _)) rfl)
      have hsz1 : T.size (T.ety ty) = 1 := by rw [← (K.base.szSl _ _ _ hs).2.2]; exact K.base.szInt _ _ he
      rcases hsrc with ⟨⟨a, rfl⟩, rfl⟩ | ⟨b, off, cp, cs, rfl, hr, hc⟩
      · simp [bytesOf] at hb
        subst hb
        rw [run_convert_bytes_string X.w src dst el a 0 0 (K.uSl _ _ _ hs) (K.uInt _ _ he) (K.uStr _ hd)]
        cases a <;> simp [Conv.bytesToString, loadCells, loadCellsFrom] <;> rfl
      · rw [run_convert_bytes_string X.w src dst el _ _ _ (K.uSl _ _ _ hs) (K.uInt _ _ he) (K.uStr _ hd)]
        obtain ⟨ns, rfl, rfl⟩ := bytes_R hr hb
        have hlen := (hr.lenArr K.base).1
        rw [hsz1, Nat.mul_one] at hlen
        have hld := run_loadCells_list (P := P) X.w ⟨b, off, none⟩ (ns.map (Value.int .u8)) (fun j v hj => by rw [Addr.add_lit]; exact hc j v hj)
        rw [hlen] at hld
        rw [run_bytesToString X.w ⟨b, off, none⟩ xs.length cp ns hld]
        have := foldl_push ns []
        congr 2
    · exact (Ex.fail hex).elim
  · exact (Ex.fail hex).elim

omit K g in
theorem nilCheck_ok {x d : D C} {vx : Value} (hx : RO T X nx lim x vx) (hex : Ex e (evNilCheck x) h nx d h' nx' tr) :
    ∃ v, (∀ (r : Operand → Value) (o : Oper) (y : Operand), o.op = .nilCheck y → r y = vx → execOp r o = (pure (.value v) : Sem Next)) ∧ RO T X nx lim d v ∧ h' = h ∧ nx' = nx := by
  unfold evNilCheck at hex
  cases x with
  | ptr id p =>
    obtain ⟨rfl, rfl, rfl, rfl⟩ := Ex.ret hex
    have hR := hx.1.one rfl
    cases hR with
    | ptr hh => exact ⟨_, fun r o y ho hy => by unfold execOp; rw [ho]; simp only; rw [hy], hx, rfl, rfl⟩
  | vptr id n p =>
    obtain ⟨rfl, rfl, rfl, rfl⟩ := Ex.ret hex
    have hR := hx.1.one rfl
    cases hR with
    | vptr hh => exact ⟨_, fun r o y ho hy => by unfold execOp; rw [ho]; simp only; rw [hy], hx, rfl, rfl⟩
  | cptr q =>
    obtain ⟨rfl, rfl, rfl, rfl⟩ := Ex.ret hex
    have hR := hx.1.one rfl
    cases hR with
    | cptr hh => exact ⟨_, fun r o y ho hy => by unfold execOp; rw [ho]; simp only; rw [hy], hx, rfl, rfl⟩
  | fn f c =>
    obtain ⟨rfl, rfl, rfl, rfl⟩ := Ex.ret hex
    have hR := hx.1.one rfl
    cases hR with
    | fn hh => exact ⟨_, fun r o y ho hy => by unfold execOp; rw [ho]; simp only; rw [hy], hx, rfl, rfl⟩
  | _ => exact (Ex.fail hex).elim

omit K in
theorem un_ok {x d : D C} {vx : Value} (hx : RO T X nx lim x vx) {op : UnOp} (hex : Ex e (evUn op x) h nx d h' nx' tr) : Post P T X nx lim h' nx' d (Op.unary op vx) := by
  unfold evUn at hex
  split at hex
  · obtain ⟨rfl, rfl, rfl, rfl⟩ := Ex.ret hex
    rw [hx.1.bool]
    exact Post.same g _ (by simp [Op.unary]) (RO.mk (.mk rfl (.bool _)) rfl)
  · obtain ⟨rfl, rfl, rfl, rfl⟩ := Ex.ret hex
    obtain ⟨rfl, _⟩ := hx.1.int
    exact Post.same g _ (by simp [Op.unary, Op.intArith]) (RO.mk (.mk rfl (.int (wrap_range _ _))) rfl)
  · exact (Ex.fail hex).elim
end
end Go.Ev

/-
  What is given out as lists; a load that settles the slices of a variable.
-/
namespace Go.Ev
set_option linter.unusedVariables false
set_option linter.unusedSimpArgs false

section
variable {C : Cdc} {P : Program} {T : Tab C}
open Pg (Ex)

variable (K : PLaws P T)

theorem Pg.run_of_ex1 {α β : Type} {p : Pg C α} {e   : Pg.Lv} {h h' : Heap C} {n n' : Nat} {a : α} {t : Tr} (hx : Ex e p h n a h' n' t) (l : Tr) (k : α → Heap C → Nat → Tr → Option β) : p.run e h n l k = k a h' n' (t ++ l) := by
  rw [run_eq]; unfold Ex at hx; rw [hx]; rfl
theorem Pg.Ex.rd_mk {α : Type} {e : Pg.Lv} {h h' : Heap C} {n n' : Nat} {t : Tr} {id : Nat} {f : Obj C → Pg C α} {a : α} {o : Obj C} (ho : h.get id = some o) (hx : Ex e (f o) h n a h' n' t) : Ex e (.rd id f) h n a h' n' (t ++ [(id, false)]) := by
  show Pg.run _ _ _ _ _ _ = _
  simp only [Pg.run, ho]; rw [Pg.run_of_ex1 hx]
include K in
theorem RV.step1 {X X' : Cx} {nx : Nat} {lim : Lim} (s : Step X nx lim X') {d : D C} {v : Value} (h : RV T X d v) (hr : ∀ id ∈ d.refs, old nx lim id) : RV T X' d v := by
  rcases h with ⟨i1, cs, r1, rfl⟩ | ⟨i1, r1⟩
  · exact .inl ⟨i1, cs, r1.step K.base s hr, rfl⟩
  · exact .inr ⟨i1, r1.step K.base s hr⟩
include K in
theorem RVs.step {X X' : Cx} {nx : Nat} {lim : Lim} (s : Step X nx lim X') {ds : List (D C)} {vs : List Value} (h : RVs T X ds vs) (hr : ∀ a ∈ ds, ∀ id ∈ D.refs a, old nx lim id) : RVs T X' ds vs := by
  induction h with
  | nil => exact .nil
  | cons h _ ih => exact .cons (RV.step1 K s h (hr _ (by simp))) (ih fun a ha => hr a (by simp [ha]))

/-! ### What is given out -/
section frz
include K

theorem frz_vs {X : Cx} {h h' : Heap C} {nx nx' : Nat} {e : Pg.Lv} {lim : Lim} {tr : Tr} {id n : Nat} {d' : D C} {v : Value} (g : G T X h nx lim) (hr : R T X false (.vs id n) [v])
    (hx : Ex e (frz (.vs id n)) h nx d' h' nx' tr) : ∃ X', X'.w = X.w ∧ G T X' h' nx lim ∧ Step X nx lim X' ∧ R T X' false d' [v] ∧ nx' = nx ∧ d'.refs = [] ∧ d'.isRow = false := by
  simp only [frz] at hx
  obtain ⟨o, t', ho, hx, _⟩ := Ex.rd hx
  cases o with
  | var t d => exact (Ex.fail hx).elim
  | vec ty own l =>
    rcases Ex.br hx with ⟨hb, hx⟩ | ⟨hb, hx⟩
    · obtain ⟨o', t2, _, hx, _⟩ := Ex.dl hx
      obtain ⟨rfl, rfl, rfl, rfl⟩ := Ex.ret hx
      have hn : n = l.length := Nat.eq_of_beq_eq_true hb
      obtain ⟨X', hw, g', s', hρ⟩ := g.drop K.base (h' := h.del id) (fun i => by rw [get_del]; by_cases hi : i = id <;> simp [hi])
      refine ⟨X', hw, g', s', ?_, rfl, rfl, rfl⟩
      obtain ⟨v0, b, lo, hi, h1, h2⟩ := g.vec id ty own l ho
      have hlen := h2.len
      have hid : X'.ρ id = none := by
        cases hq : X'.ρ id with
        | none => rfl
        | some q => have := g'.dom id q hq; rw [get_del] at this; simp at this
      cases hr with
      | @vs _ _ cp a hh =>
        have hv := (hh _ _ _ _ _ h1).2 (by rw [hlen, hn])
        rcases h2 with ⟨⟨a9, h2, _⟩, rfl, _⟩ | ⟨off, cp', h2, h3, h4, h5⟩
        · rw [h2] at hv
          simp only [Value.slice.injEq] at hv
          obtain ⟨rfl, rfl, rfl⟩ := hv
          exact .sl0 _ _ _
        · rw [h2] at hv
          simp only [Value.slice.injEq] at hv
          obtain ⟨rfl, _, rfl⟩ := hv
          subst hn
          have hfree : ∀ j, own = true → off + j < hi → lo = off → X'.free b (off + j) := by
            intro j _ hj hlo
            have hm : (Loc.vec v0 (T.ety ty) b lo hi).owns b (off + j) := ⟨rfl, by omega, hj⟩
            refine ⟨by rw [s'.O]; exact (g.outer b _ ⟨id, _, h1, hm⟩).1, ?_⟩
            rintro ⟨id', l', q1, q2⟩
            have := g.apart id id' _ _ _ _ _ h1 (hρ id' l' q1) hm q2
            rw [← this, hid] at q1; cases q1
          rcases h5 with ⟨ht, hlo, h5 | ⟨c, ce, h5, h6, h7⟩⟩ | ⟨ht, hlo, ⟨cs, h5, h6⟩, h7⟩
          · have hl0 : l = [] := List.length_eq_zero_iff.1 (by omega)
            subst hl0
            exact .sl (cs := []) (fun j u hj => by simp at hj) (.arr0 _) h3 (by simp)
          · refine .sl (cs := (c.toList.drop off).take (l.length * T.size (T.ety ty))) (fun j u hj => ?_) (h7.step K.base s' (by simp [D.refs])) h3 (by simp)
            rw [List.getElem?_take] at hj
            split at hj
            · rename_i hj'
              rw [List.getElem?_drop] at hj
              refine ⟨?_, hfree j ht ?_ hlo⟩
              · rw [hw]; simp only [World.cell?, h5]; simpa using hj
              · have : l.length * T.size (T.ety ty) ≤ _ * T.size (T.ety ty) := Nat.mul_le_mul_right _ h3
                omega
            · simp at hj
          · exact .sl (h5.step s') (h6.step K.base s' (by simp [D.refs])) h3 (by simp)
    · exact (Ex.fail hx).elim

theorem frz_ok : ∀ (d : D C) {m : Bool} {vs : List Value} {X : Cx} {h h' : Heap C} {nx nx' : Nat} {e : Pg.Lv} {lim : Lim} {tr : Tr} {d' : D C}, G T X h nx lim → R T X m d vs → (∀ id ∈ d.refs, old nx lim id) →
    Ex e (frz d) h nx d' h' nx' tr → ∃ X', X'.w = X.w ∧ G T X' h' nx lim ∧ Step X nx lim X' ∧ R T X' m d' vs ∧ nx' = nx ∧ (∀ id ∈ d'.refs, old nx lim id) ∧ d'.isRow = d.isRow := by
  intro d
  have triv : ∀ (d : D C), (frz d : Pg C (D C)) = .ret d → ∀ {m : Bool} {vs : List Value} {X : Cx} {h h' : Heap C} {nx nx' : Nat} {e : Pg.Lv} {lim : Lim} {tr : Tr} {d' : D C}, G T X h nx lim → R T X m d vs → (∀ id ∈ d.refs, old nx lim id) →
    Ex e (frz d) h nx d' h' nx' tr → ∃ X', X'.w = X.w ∧ G T X' h' nx lim ∧ Step X nx lim X' ∧ R T X' m d' vs ∧ nx' = nx ∧ (∀ id ∈ d'.refs, old nx lim id) ∧ d'.isRow = d.isRow := by
    intro d hd m vs X h h' nx nx' e lim tr d' g hr ho hx
    rw [hd] at hx
    obtain ⟨rfl, rfl, rfl, rfl⟩ := Ex.ret hx
    exact ⟨X, rfl, g, .refl _ _ _, hr, rfl, ho, rfl⟩
  induction d with
  | acons d ds ih1 ih2 =>
    intro m vs X h h' nx nx' e lim tr d' g hr ho hx
    simp only [frz] at hx
    obtain ⟨d1, h1, n1, t1, t2, q1, hx, _⟩ := Ex.bind hx
    obtain ⟨d2, h2, n2, t3, t4, q2, hx, _⟩ := Ex.bind hx
    obtain ⟨rfl, rfl, rfl, rfl⟩ := Ex.ret hx
    have ho1 : ∀ id ∈ d.refs, old nx lim id := fun id hi => ho id (by simp [D.refs, hi])
    have ho2 : ∀ id ∈ ds.refs, old nx lim id := fun id hi => ho id (by simp [D.refs, hi])
    have fin : ∀ {m1 m2 : Bool} {c1 c2 : List Value}, R T X m1 d c1 → R T X m2 ds c2 → ∃ X', X'.w = X.w ∧ G T X' h' nx lim ∧ Step X nx lim X' ∧ R T X' m1 d1 c1 ∧ R T X' m2 d2 c2 ∧ nx' = nx ∧ (∀ id ∈ (D.acons d1 d2).refs, old nx lim id) ∧ d1.isRow = d.isRow := by
      intro m1 m2 c1 c2 r1 r2
      obtain ⟨X1, w1, g1, s1, a1, rfl, o1, i1⟩ := ih1 g r1 ho1 q1
      obtain ⟨X2, w2, g2, s2, a2, rfl, o2, i2⟩ := ih2 g1 (r2.step K.base s1 ho2) ho2 q2
      refine ⟨X2, by rw [w2, w1], g2, s1.trans s2 (Nat.le_refl _), a1.step K.base s2 o1, a2, rfl, ?_, i1⟩
      intro id hi
      simp only [D.refs, List.mem_append] at hi
      rcases hi with hi | hi
      · exact o1 id hi
      · exact o2 id hi
    cases hr with
    | acons r1 r2 => obtain ⟨X', a1, a2, a3, a4, a5, a6, a7, _⟩ := fin r1 r2; exact ⟨X', a1, a2, a3, .acons a4 a5, a6, a7, rfl⟩
    | vrow r1 hrow r2 => obtain ⟨X', a1, a2, a3, a4, a5, a6, a7, a8⟩ := fin r1 r2; exact ⟨X', a1, a2, a3, .vrow a4 (a8.trans hrow) a5, a6, a7, rfl⟩
    | vone r1 hrow r2 => obtain ⟨X', a1, a2, a3, a4, a5, a6, a7, a8⟩ := fin r1 r2; exact ⟨X', a1, a2, a3, .vone a4 (a8.trans hrow) a5, a6, a7, rfl⟩
  | tup d ih =>
    intro m vs X h h' nx nx' e lim tr d' g hr ho hx
    simp only [frz] at hx
    obtain ⟨d1, h1, n1, t1, t2, q1, hx, _⟩ := Ex.bind hx
    obtain ⟨rfl, rfl, rfl, rfl⟩ := Ex.ret hx
    cases hr with
    | tup r1 =>
      obtain ⟨X', a1, a2, a3, a4, a5, a6, a7⟩ := ih g r1 (fun id hi => ho id (by simpa [D.refs] using hi)) q1
      exact ⟨X', a1, a2, a3, .tup a4, a5, by simpa [D.refs] using a6, rfl⟩
  | vs id n =>
    intro m vs X h h' nx nx' e lim tr d' g hr ho hx
    have hm : m = false ∧ ∃ v, vs = [v] := by cases hr; exact ⟨rfl, _, rfl⟩
    obtain ⟨rfl, v, rfl⟩ := hm
    obtain ⟨X', a1, a2, a3, a4, a5, a6, a7⟩ := frz_vs K g hr hx
    exact ⟨X', a1, a2, a3, a4, a5, by simp [a6], a7⟩
  | _ => exact triv _ rfl
end frz


include K in
theorem frzL_ok : ∀ (args : List (D C)) {vs : List Value} {X : Cx} {h h' : Heap C} {nx nx' : Nat} {e : Pg.Lv} {lim : Lim} {tr : Tr} {args' : List (D C)}, G T X h nx lim → RVs T X args vs → (∀ a ∈ args, ∀ id ∈ D.refs a, old nx lim id) →
    Ex e (frzL args) h nx args' h' nx' tr → ∃ X', X'.w = X.w ∧ G T X' h' nx lim ∧ Step X nx lim X' ∧ RVs T X' args' vs ∧ nx' = nx ∧ (∀ a ∈ args', ∀ id ∈ D.refs a, old nx lim id)
  | [], vs, X, h, h', nx, nx', e, lim, tr, args', g, hr, ho, hx => by
    obtain ⟨rfl, rfl, rfl, rfl⟩ := Ex.ret hx
    exact ⟨X, rfl, g, .refl _ _ _, hr, rfl, ho⟩
  | d :: ds, vs, X, h, h', nx, nx', e, lim, tr, args', g, hr, ho, hx => by
    simp only [frzL] at hx
    obtain ⟨d1, h1, n1, t1, t2, q1, hx, _⟩ := Ex.bind hx
    obtain ⟨d2, h2, n2, t3, t4, q2, hx, _⟩ := Ex.bind hx
    obtain ⟨rfl, rfl, rfl, rfl⟩ := Ex.ret hx
    have ho1 : ∀ id ∈ d.refs, old nx lim id := ho d (by simp)
    have ho2 : ∀ a ∈ ds, ∀ id ∈ D.refs a, old nx lim id := fun a ha => ho a (by simp [ha])
    cases hr with
    | @cons _ _ v vs' rv rs =>
      have key : ∃ X1, X1.w = X.w ∧ G T X1 h1 nx lim ∧ Step X nx lim X1 ∧ RV T X1 d1 v ∧ n1 = nx ∧ (∀ id ∈ d1.refs, old nx lim id) := by
        rcases rv with ⟨i1, cs, r1, rfl⟩ | ⟨i1, r1⟩
        · obtain ⟨X1, w1, g1, s1, a1, e1, o1, i2⟩ := frz_ok K d g r1 ho1 q1
          exact ⟨X1, w1, g1, s1, .inl ⟨i2.trans i1, cs, a1, rfl⟩, e1, o1⟩
        · obtain ⟨X1, w1, g1, s1, a1, e1, o1, i2⟩ := frz_ok K d g r1 ho1 q1
          exact ⟨X1, w1, g1, s1, .inr ⟨i2.trans i1, a1⟩, e1, o1⟩
      obtain ⟨X1, w1, g1, s1, a1, rfl, o1⟩ := key
      have rs1 : RVs T X1 ds vs' := RVs.step K s1 rs ho2
      obtain ⟨X2, w2, g2, s2, a2, rfl, o2⟩ := frzL_ok ds g1 rs1 ho2 q2
      refine ⟨X2, by rw [w2, w1], g2, s1.trans s2 (Nat.le_refl _), .cons (RV.step1 K s2 a1 o1) a2, rfl, ?_⟩
      intro a ha
      rcases List.mem_cons.1 ha with rfl | ha
      · exact o1
      · exact o2 a ha

/-- an object's value is told otherwise -/
theorem G.retell {X : Cx} {h : Heap C} {nx : Nat} {lim : Lim} (g : G T X h nx lim) {id : Nat} {u : TypeId} {d0 d : D C} (ho : h.get id = some (.var u d0))
    (hd : ∀ b c, X.ρ id = some (.var b u) → X.w.heap[b]? = some (.cells c u (0, 0)) → R T X false d c.toList) (hf : fit T d (.inl u) = true) (hr : ∀ r ∈ d.refs, old nx lim r) :
    G T X (h.put id (.var u d)) nx lim := by
  have hs : (h.get id).isSome = true := by rw [ho]; rfl
  have hget : ∀ j, (h.put id (.var u d)).get j = if j = id then some (.var u d) else h.get j := fun j => get_put hs
  refine ⟨fun j t x hj => ?_, fun j t own l hj => ?_, fun j l hl => ?_, fun j o hj => ?_, g.apart, g.outer, g.outs, g.low⟩
  · rw [hget] at hj
    by_cases e : j = id
    · subst e
      rw [if_pos rfl] at hj
      cases hj
      obtain ⟨b, c, h1, h2, h3, h4⟩ := g.var _ _ _ ho
      exact ⟨b, c, h1, h2, hd b c h1 h2, hf⟩
    · rw [if_neg e] at hj
      exact g.var _ _ _ hj
  · rw [hget] at hj
    by_cases e : j = id
    · rw [if_pos e] at hj; cases hj
    · rw [if_neg e] at hj
      exact g.vec _ _ _ _ hj
  · rw [hget]
    by_cases e : j = id
    · rw [if_pos e]; rfl
    · rw [if_neg e]; exact g.dom j l hl
  · rw [hget] at hj
    by_cases e : j = id
    · subst e
      rw [if_pos rfl] at hj
      cases hj
      exact ⟨(g.nums _ _ ho).1, hr⟩
    · rw [if_neg e] at hj
      exact g.nums _ _ hj

section
variable {X : Cx} {h h' : Heap C} {nx nx' : Nat} {e : Pg.Lv} {lim : Lim} {tr : Tr} (g : G T X h nx lim)
include K g in
theorem loadS_ok {t : TypeId} {a d : D C} {va : Value} (ha : RO T X nx lim a va) (hx : Ex e (evLoadS T t a) h nx d h' nx' tr) : Post P T X nx lim h' nx' d (Instr.loadAt t va) := by
  unfold evLoadS at hx
  split at hx
  · rename_i id
    split at hx
    · obtain ⟨o, tr', ho, hx, _⟩ := Ex.rd hx
      cases o with
      | vec ty own l => exact (Ex.fail hx).elim
      | var u d0 =>
        simp only [ldS] at hx
        cases hc : (decide (u = t) && d0.hasVs) with
        | false =>
          rw [hc] at hx
          simp only [cond_false] at hx
          exact load_ok K g (e := e) (tr := tr' ++ [(id, false)]) ha (by
            unfold evLoad
            exact Ex.rd_mk ho hx)
        | true =>
          rw [hc] at hx
          simp only [cond_true] at hx
          simp only [Bool.and_eq_true, decide_eq_true_eq] at hc
          obtain ⟨rfl, _⟩ := hc
          obtain ⟨d1, h1, n1, t1, t2, q1, hx, _⟩ := Ex.bind hx
          cases hf : fit T d1 (.inl u) with
          | false => rw [hf] at hx; exact (Ex.fail hx).elim
          | true =>
            rw [hf] at hx
            simp only [cond_true] at hx
            obtain ⟨o', t3, ho', hx, _⟩ := Ex.wr hx
            obtain ⟨rfl, rfl, rfl, rfl⟩ := Ex.ret hx
            obtain ⟨b, c, k1, k2, k3, k4⟩ := g.var id u d0 ho
            obtain ⟨X', w', g', s', r', hn, hrf, hrow⟩ := frz_ok K d0 g k3 (g.nums id _ ho).2 q1
            have hR := ha.1.one rfl
            cases hR with
            | @ptr _ _ a' hq =>
              obtain ⟨hok, rfl⟩ := hq b u k1
              obtain ⟨v, hv, hrv⟩ := run_loadVar K (w := X.w) (b := b) (off := 0) hf r' (by
                intro j w hj
                simp only [World.cell?, k2, Nat.zero_add]
                simpa using hj)
              subst hn
              have hρ : ∃ d2, h1.get id = some (.var u d2) ∧ X'.ρ id = some (.var b u) := by
                have hold := (g.nums id _ ho).1
                have hcm := s'.ρ id hold
                rw [k1] at hcm
                cases o' with
                | var u2 d2 =>
                  obtain ⟨b', c', m1, _⟩ := g'.var id u2 d2 ho'
                  rw [m1] at hcm
                  simp only [Compat, Loc.var.injEq] at hcm
                  obtain ⟨rfl, rfl⟩ := hcm
                  exact ⟨d2, ho', m1⟩
                | vec ty own l =>
                  obtain ⟨v', b', lo, hi, m1, _⟩ := g'.vec id ty own l ho'
                  rw [m1] at hcm
                  simp [Compat] at hcm
              obtain ⟨d2, m1, m2⟩ := hρ
              refine ⟨v, X', ?_, ?_, s', ?_⟩
              · rw [w']
                have : offAt T u [] = 0 := rfl
                simp [Instr.loadAt, Instr.sureAddr, hv, this]
              · refine g'.retell m1 (fun b1 c1 x1 x2 => ?_) hf hrf
                rw [m2] at x1
                cases x1
                rw [w', k2] at x2
                cases x2
                exact r'
              · exact ⟨hrv, hrf⟩
    · exact load_ok K g ha hx
  · exact load_ok K g ha hx
end
end
end Go.Ev

/-
  An operation as a whole; regions in the order of the text.
-/
namespace Go.Ev
set_option linter.unusedVariables false
set_option linter.unusedSimpArgs false

section
variable {C : Cdc} {P : Program} {T : Tab C} (K : PLaws P T)
open Pg (Ex)

/-- what a call comes to -/
def CallPost (T : Tab C) (X : Cx) (nx : Nat) (lim : Lim) (h' : Heap C) (nx' : Nat) (d : D C) (en : Ending) (w' : World) : Prop :=
  ∃ v X', en = .returned v ∧ X'.w = w' ∧ G T X' h' nx' lim ∧ Step X nx lim X' ∧ RO T X' nx' lim d v

def CallOK (P : Program) (T : Tab C) (call : FuncId → List (D C) → Pg C (D C)) : Prop :=
  ∀ f args vs X h nx lim e d h' nx' tr, G T X h nx lim → RVs T X args vs → (∀ a ∈ args, ∀ id ∈ D.refs a, old nx lim id) → nx' ≤ lim.top → Ex e (call f args) h nx d h' nx' tr →
    (callFunc f ⟨vs⟩).run P X.w = .ok (.enter f ⟨vs⟩) X.w ∧ Calls P f ⟨vs⟩ X.w (CallPost T X nx lim h' nx' d)

variable {X : Cx} {h h' : Heap C} {nx nx' : Nat} {e : Pg.Lv} {lim : Lim} {tr : Tr} {env : Env C} {a : Act}

theorem const_ok (v : Value) : RO T X nx lim (constD v : D C) v := by
  unfold constD
  split
  · exact RO.mk (.mk rfl (.bool _)) rfl
  · rename_i k n
    cases hb : decide (k.min ≤ n) && decide (n ≤ k.max) with
    | true => exact RO.mk (.mk rfl (.int (by simpa using hb))) rfl
    | false => exact RO.mk (RV.top _ _ _) rfl
  · exact RO.mk (.mk rfl (.str _)) rfl
  · exact RO.mk (.mk rfl .nils) rfl
  · exact RO.mk (.mk rfl .nilp) rfl
  · exact RO.mk (.mk rfl .nilfn) rfl
  · exact RO.mk (.mk rfl (.tup .vnil)) rfl
  · exact RO.mk (RV.top _ _ _) rfl

theorem opd_ok (he : EnvOK T X nx lim env a.tmps) (x : Operand) : RO T X nx lim (evAt env x) (a.eval x) := by
  cases x with
  | tmp t => exact he t
  | const v => exact const_ok v
  | global g => exact RO.mk (RV.top _ _ _) rfl
  | func f => exact RO.mk (.mk rfl (.fn .vnil)) rfl

theorem opds_ok (he : EnvOK T X nx lim env a.tmps) (l : List Operand) : RVs T X (l.map (evAt env)) (l.map a.eval) ∧ ∀ d ∈ l.map (evAt env), ∀ id ∈ D.refs d, old nx lim id := by
  induction l with
  | nil => exact ⟨.nil, by simp⟩
  | cons x l ih =>
    refine ⟨.cons (opd_ok he x).1 ih.1, ?_⟩
    intro d hd
    simp only [List.map_cons, List.mem_cons] at hd
    rcases hd with rfl | hd
    · exact (opd_ok he x).2
    · exact ih.2 d hd

theorem typedL_ok {ts : List TypeId} : ∀ {ds : List (D C)} {vs : List Value}, RVs T X ds vs → (∀ d ∈ ds, ∀ id ∈ D.refs d, old nx lim id) → RVs T X (typedL T ts ds) vs ∧ ∀ d ∈ typedL T ts ds, ∀ id ∈ D.refs d, old nx lim id := by
  induction ts with
  | nil => intro ds vs h hr; cases ds <;> exact ⟨h, hr⟩
  | cons t ts ih =>
    intro ds vs h hr
    cases h with
    | nil => exact ⟨.nil, by simp [typedL]⟩
    | @cons d ds v vs h0 h1 =>
      have := ih h1 (fun d hd => hr d (by simp [hd]))
      have h2 : RO T X nx lim (typed T t d) v := typed_ok ⟨h0, hr d (by simp)⟩
      refine ⟨.cons h2.1 this.1, ?_⟩
      intro q hq
      simp only [typedL, List.mem_cons] at hq
      rcases hq with rfl | hq
      · exact h2.2
      · exact this.2 q hq

theorem parts_ok (he : EnvOK T X nx lim env a.tmps) (l : List (Nat × Operand)) : ∀ (j : Nat) (p : Nat × D C) (q : Nat × Value), (l.map fun p => (p.1, evAt env p.2))[j]? = some p → (l.map fun p => (p.1, a.eval p.2))[j]? = some q → p.1 = q.1 ∧ RO T X nx lim p.2 q.2 := by
  intro j p q hp hq
  rw [List.getElem?_map, Option.map_eq_some_iff] at hp hq
  obtain ⟨x, hx, rfl⟩ := hp
  obtain ⟨y, hy, rfl⟩ := hq
  rw [hx] at hy; simp at hy; subst hy
  exact ⟨rfl, opd_ok he _⟩

theorem refs_toList (d : D C) : ∀ q ∈ d.toList, ∀ id ∈ q.refs, id ∈ d.refs := by
  induction d with
  | acons a b _ ih =>
    intro q hq id hid
    simp only [D.toList, List.mem_cons] at hq
    simp only [D.refs, List.mem_append]
    rcases hq with rfl | hq
    · exact .inl hid
    · exact .inr (ih q hq id hid)
  | _ => intro q hq; simp [D.toList] at hq

theorem refs_ofList (l : List (D C)) : ∀ id ∈ (D.ofList l).refs, ∃ d ∈ l, id ∈ d.refs := by
  induction l with
  | nil => intro id h; simp [D.ofList, D.refs] at h
  | cons d l ih =>
    intro id hid
    simp only [D.ofList, D.refs, List.mem_append] at hid
    rcases hid with h | h
    · exact ⟨d, by simp, h⟩
    · obtain ⟨q, hq, hi⟩ := ih id h; exact ⟨q, by simp [hq], hi⟩

/-- how an operation that gives a value goes on -/
theorem wp_of_post {o : Oper} {s : Sem Value} {d : D C} {k : Act → World → Prop} {Q : Exit → Act → World → Prop} (hrun : (execOp a.eval o).run P X.w = (s.run P X.w).andThen fun v w => .ok (.value v) w)
    (hp : Post P T X nx lim h' nx' d s) (hk : ∀ v X', G T X' h' nx' lim → Step X nx lim X' → RO T X' nx' lim d v → k (a.put o.dst v) X'.w) : o.wp P a X.w k Q := by
  obtain ⟨v, X', h1, h2, h3, h4⟩ := hp
  unfold Oper.wp
  rw [hrun, h1]
  exact hk v X' h2 h3 h4

include K
theorem evOp_ok {call : FuncId → List (D C) → Pg C (D C)} (hcall : CallOK P T call) (g : G T X h nx lim) (he : EnvOK T X nx lim env a.tmps) (hlim : nx' ≤ lim.top) {o : Oper} {d : D C} (hx : Ex e (evOp T call o (evAt env)) h nx d h' nx' tr)
    {k : Act → World → Prop} {Q : Exit → Act → World → Prop} (hk : ∀ v X', G T X' h' nx' lim → Step X nx lim X' → RO T X' nx' lim d v → k (a.put o.dst v) X'.w) : o.wp P a X.w k Q := by
  obtain ⟨dst, op, ty, pos, after, guard⟩ := o
  unfold evOp at hx
  cases op <;> simp only at hx
  case move x =>
    obtain ⟨rfl, rfl, rfl, rfl⟩ := Ex.ret hx
    exact hk _ X g (.refl _ _ _) (typed_ok (opd_ok he x))
  case assign x =>
    obtain ⟨rfl, rfl, rfl, rfl⟩ := Ex.ret hx
    exact hk _ X g (.refl _ _ _) (typed_ok (opd_ok he x))
  case pick c x y =>
    refine wp_of_post (P := P) ?_ (pick_ok (P := P) (opd_ok he c) (opd_ok he x) (opd_ok he y) g hx) hk
    simp only [execOp, Sem.run_bind, Sem.run_pure]
    cases (asBool (a.eval c)).run P X.w <;> rfl
  case alloc t => exact wp_of_post (by simp only [execOp, Sem.run_bind, Sem.run_pure]) (alloc_ok K g hlim hx) hk
  case box t x => exact wp_of_post (by simp only [execOp, Sem.run_bind, Sem.run_pure]) (box_ok K g hlim (typed_ok (opd_ok he x)) hx) hk
  case build t ps =>
    refine wp_of_post (s := Instr.build t (ps.map fun p => (p.1, a.eval p.2))) (by simp only [execOp, Sem.run_bind, Sem.run_pure]) ?_ hk
    have := build_ok K g (vs := ps.toList.map fun p => (p.1, a.eval p.2)) (by simp) (parts_ok he ps.toList) hx
    have e1 : (ps.map fun p => (p.1, a.eval p.2)) = ⟨ps.toList.map fun p => (p.1, a.eval p.2)⟩ := by apply Array.ext'; simp
    rw [e1]; exact this
  case buildSlice t n ps =>
    refine wp_of_post (s := Instr.buildSlice t n (ps.map fun p => (p.1, a.eval p.2))) (by simp only [execOp, Sem.run_bind, Sem.run_pure]) ?_ hk
    have := buildSlice_ok K g (vs := ps.toList.map fun p => (p.1, a.eval p.2)) (by simp) (parts_ok he ps.toList) hx
    have e1 : (ps.map fun p => (p.1, a.eval p.2)) = ⟨ps.toList.map fun p => (p.1, a.eval p.2)⟩ := by apply Array.ext'; simp
    rw [e1]; exact this
  case load t x => exact wp_of_post (by simp only [execOp, Sem.run_bind, Sem.run_pure]) (loadS_ok K g (opd_ok he x) hx) hk
  case store t x y =>
    obtain ⟨X', h1, h2, h3, rfl⟩ := store_ok K g (opd_ok he x) (typed_ok (opd_ok he y)) hx
    unfold Oper.wp
    simp only [execOp, Sem.run_bind, h1, Result.andThen_ok, Sem.run_pure]
    exact hk undef X' h2 h3 (RO.mk (.mk rfl (.tup .vnil)) rfl)
  case nilCheck x =>
    obtain ⟨v, h1, h2, rfl, rfl⟩ := nilCheck_ok (opd_ok he x) hx
    unfold Oper.wp
    rw [h1 a.eval _ x rfl rfl]
    exact hk v X g (.refl _ _ _) h2
  case binOp op t x y yt => exact wp_of_post (by simp only [execOp, Sem.run_bind, Sem.run_pure]) (bin_ok K g x y (opd_ok he x) (opd_ok he y) hx) hk
  case unOp op t x => exact wp_of_post (by simp only [execOp, Sem.run_bind, Sem.run_pure]) (un_ok g (opd_ok he x) hx) hk
  case convert s t x => exact wp_of_post (by simp only [execOp, Sem.run_bind, Sem.run_pure]) (conv_ok K g (opd_ok he x) hx) hk
  case makeFunc fn first caps =>
    unfold evMakeFunc at hx
    split at hx
    · rename_i f hfirst
      obtain ⟨rfl, rfl, rfl, rfl⟩ := Ex.ret hx
      have hc := opds_ok he caps.toList
      have hf : first = #[] := by
        apply Array.ext'
        simpa using hfirst
      subst hf
      have e1 : caps.map a.eval = ⟨caps.toList.map a.eval⟩ := by apply Array.ext'; simp
      have := hk (.func (.func f) #[] ⟨caps.toList.map a.eval⟩) X g (.refl _ _ _) ⟨.mk rfl (.fn hc.1.row), fun id hid => by
        obtain ⟨q, hq, hi⟩ := refs_ofList _ id (by simpa [D.refs] using hid); exact hc.2 q hq id hi⟩
      unfold Oper.wp
      simp only [execOp, Sem.run_bind, Instr.makeFunc, Sem.run_pure, Result.andThen_ok, e1, Array.map_empty]
      exact this
    · exact (Ex.fail hx).elim
  case makeSlice t x y => exact wp_of_post (by simp only [execOp, Sem.run_bind, Sem.run_pure]) (makeSlice_ok K g hlim (opd_ok he x) (opd_ok he y) hx) hk
  case slice t x lo hi mx =>
    have ho : ∀ q : Option Operand, ROo T X nx lim (q.map (evAt env)) (q.map a.eval) := by
      intro q
      cases q with
      | none => trivial
      | some q => exact opd_ok he q
    exact wp_of_post (by simp only [execOp, Sem.run_bind, Sem.run_pure]) (slice_ok K g (opd_ok he x) (ho lo) (ho hi) (ho mx) hx) hk
  case fieldAddr s x i => exact wp_of_post (by simp only [execOp, Sem.run_bind, Sem.run_pure]) (fieldAddr_ok K g (opd_ok he x) hx) hk
  case field s x i => exact wp_of_post (by simp only [execOp, Sem.run_bind, Sem.run_pure]) (field_ok K g (opd_ok he x) hx) hk
  case indexAddr t x i => exact wp_of_post (by simp only [execOp, Sem.run_bind, Sem.run_pure]) (indexAddr_ok K g (opd_ok he x) (opd_ok he i) hx) hk
  case index t x i => exact wp_of_post (by simp only [execOp, Sem.run_bind, Sem.run_pure]) (index_ok K g (opd_ok he x) (opd_ok he i) hx) hk
  case extract x i =>
    unfold evExtract at hx
    have hx0 := opd_ok he x
    generalize evAt env x = q at hx hx0
    cases q with
    | tup ds =>
      simp only at hx
      obtain ⟨hn, rfl, rfl, rfl⟩ := Ex.ofOpt hx
      have hR := hx0.1.one rfl
      generalize hv : a.eval x = vv at hR hx0
      cases hR with
      | tup hr =>
        obtain ⟨v, hv1, hv2⟩ := hr.nth T rfl i d hn
        unfold Oper.wp
        simp only [execOp, Sem.run_bind, hv, Instr.extract]
        rename_i vs
        have : (⟨vs⟩ : Array Value)[i]? = some v := by simpa using hv1
        simp only [this, Sem.run_pure, Result.andThen_ok]
        exact hk v X g (.refl _ _ _) ⟨hv2, fun id hid => hx0.2 id (by simpa [D.refs] using refs_nth _ _ _ hn id hid)⟩
    | _ => exact (Ex.fail hx).elim
  case call c =>
    obtain ⟨callee, args, argTypes⟩ := c
    have ha := opds_ok he args.toList
    have e1 : args.map a.eval = ⟨args.toList.map a.eval⟩ := by apply Array.ext'; simp
    cases callee with
    | builtin b =>
      simp only at hx
      cases hb : Nat.beq argTypes.toList.length args.toList.length with
      | false => rw [hb] at hx; exact (Ex.fail hx).elim
      | true =>
        rw [hb] at hx
        simp only [cond_true] at hx
        obtain ⟨s, hs1, hs2⟩ := builtin_ok K g hlim (ty0 := ty) ha.1 ha.2 (by simpa using Nat.eq_of_beq_eq_true hb) hx
        refine wp_of_post (s := s) ?_ hs2 hk
        have hs1' : ∀ consts, Go.builtin b argTypes ty consts ⟨args.toList.map a.eval⟩ = (do pure (.value (← s))) := hs1
        simp only [execOp, resolve, Sem.run_bind, Sem.run_pure, Result.andThen_ok, invoke, e1, hs1']
    | value f =>
      simp only at hx
      unfold evCall at hx
      have hf := opd_ok he f
      generalize evAt env f = q at hx hf
      cases q with
      | fn fid caps =>
        simp only at hx
        have hR := hf.1.one rfl
        generalize hv : a.eval f = vf at hR hf
        cases hR with
        | @fn _ _ cvs hc =>
          have ht := typedL_ok (ts := argTypes.toList) ha.1 ha.2
          have hcl := hc.toList T rfl
          obtain ⟨q1, q2⟩ := hcall fid _ _ X h nx lim e d h' nx' tr g (RVs.append T ht.1 hcl) (by
            intro x hx'
            rcases List.mem_append.1 hx' with h1 | h1
            · exact ht.2 x h1
            · exact fun id hid => hf.2 id (by simpa [D.refs] using refs_toList caps x h1 id hid)) hlim hx
          unfold Oper.wp
          have e2 : (#[] ++ args.map a.eval) ++ (⟨cvs⟩ : Array Value) = ⟨args.toList.map a.eval ++ cvs⟩ := by apply Array.ext'; simp
          simp only [execOp, resolve, Sem.run_bind, hv, Deferred.ofValue, Sem.run_pure, Result.andThen_ok, invoke, e2, q1]
          rw [Oper.upon_enter]
          refine q2.mono fun en w' hp => ?_
          obtain ⟨v, X', rfl, rfl, h2, h3, h4⟩ := hp
          exact hk v X' h2 h3 h4
      | _ => exact (Ex.fail hx).elim
    | invoke r m => exact (Ex.fail hx).elim
  all_goals exact (Ex.fail hx).elim
end
end Go.Ev

/-
  What a program over objects does not touch makes no difference to it.
-/
namespace Go.Ev
set_option linter.unusedVariables false
set_option linter.unusedSimpArgs false

section
variable {C : Cdc}
open Pg (Ex)

namespace Pg
theorem Ex.mk_ret {α : Type} {e : Lv} {h : Heap C} {n : Nat} (a : α) : Ex e (.ret a : Pg C α) h n a h n [] := by simp [Ex, run]
theorem run_of_ex {α β : Type} {p : Pg C α} {e : Lv} {h h' : Heap C} {n n' : Nat} {a : α} {t : Tr} (hx : Ex e p h n a h' n' t) (l : Tr) (k : α → Heap C → Nat → Tr → Option β) : p.run e h n l k = k a h' n' (t ++ l) := by
  rw [run_eq]; unfold Ex at hx; rw [hx]; rfl
theorem Ex.mk_br {α : Type} {e : Lv} {h h' : Heap C} {n n' : Nat} {t : Tr} {b : Bool} {x y : Pg C α} {a : α} (hx : (b = true ∧ Ex e x h n a h' n' t) ∨ (b = false ∧ Ex e y h n a h' n' t)) : Ex e (.br b x y) h n a h' n' t := by
  rcases hx with ⟨rfl, hx⟩ | ⟨rfl, hx⟩ <;> simpa [Ex, run] using hx
theorem Ex.mk_rd {α : Type} {e : Lv} {h h' : Heap C} {n n' : Nat} {t : Tr} {id : Nat} {f : Obj C → Pg C α} {a : α} {o : Obj C} (ho : h.get id = some o) (hx : Ex e (f o) h n a h' n' t) : Ex e (.rd id f) h n a h' n' (t ++ [(id, false)]) := by
  show run _ _ _ _ _ _ = _
  simp only [run, ho]; rw [run_of_ex hx]
theorem Ex.mk_wr {α : Type} {e : Lv} {h h' : Heap C} {n n' : Nat} {t : Tr} {id : Nat} {o o' : Obj C} {f : Pg C α} {a : α} (ho : h.get id = some o') (hx : Ex e f (h.put id o) n a h' n' t) : Ex e (.wr id o f) h n a h' n' (t ++ [(id, true)]) := by
  show run _ _ _ _ _ _ = _
  simp only [run, ho]; rw [run_of_ex hx]
theorem Ex.mk_nw {α : Type} {e : Lv} {h h' : Heap C} {n n' : Nat} {t : Tr} {o : Obj C} {f : Nat → Pg C α} {a : α} (hx : Ex e (f n) ((n, o) :: h) (n + 1) a h' n' t) : Ex e (.nw o f) h n a h' n' (t ++ [(n, true)]) := by
  show run _ _ _ _ _ _ = _
  simp only [run]; rw [run_of_ex hx]
theorem Ex.mk_dl {α : Type} {e : Lv} {h h' : Heap C} {n n' : Nat} {t : Tr} {id : Nat} {o' : Obj C} {f : Pg C α} {a : α} (ho : h.get id = some o') (hx : Ex e f (h.del id) n a h' n' t) : Ex e (.dl id f) h n a h' n' (t ++ [(id, true)]) := by
  show run _ _ _ _ _ _ = _
  simp only [run, ho]; rw [run_of_ex hx]
theorem Ex.mk_cnt {α : Type} {e : Lv} {h h' : Heap C} {n n' : Nat} {t : Tr} {f : Nat → Nat → Pg C α} {a : α} (hx : Ex e (f n (span e.1)) h n a h' n' t) : Ex e (.cnt f) h n a h' n' t := by simpa [Ex, run] using hx
theorem Ex.mk_upto {α : Type} {e : Lv} {h h' : Heap C} {n n' m : Nat} {t : Tr} {f : Pg C α} {a : α} (hm : n ≤ m) (hx : Ex e f h m a h' n' t) : Ex e (.upto m f) h n a h' n' t := by
  show run _ _ _ _ _ _ = _
  simp only [run, Nat.ble_eq_true_of_le hm, cond_true]; exact hx
theorem Ex.mk_gc {α : Type} {e : Lv} {h h' : Heap C} {n n' lo : Nat} {keep : List Nat} {t : Tr} {f : Pg C α} {a : α} (hl : e.2 ≤ lo) (hx : Ex e f (h.drop lo n keep) n a h' n' t) : Ex e (.gc lo keep f) h n a h' n' t := by
  show run _ _ _ _ _ _ = _
  simp only [run, Nat.ble_eq_true_of_le hl, cond_true]; exact hx
theorem Ex.mk_sub {α : Type} {e : Lv} {h h1 h' : Heap C} {n n1 n' : Nat} {t1 t2 : Tr} {p : Pg C (Env C)} {f : Env C → Tr → Pg C α} {v : Env C} {a : α} (hp : Ex (e.1 + 1, n) p h n v h1 n1 t1) (hx : Ex e (f v t1) h1 n1 a h' n' t2) :
    Ex e (.sub p f) h n a h' n' (t2 ++ t1) := by
  show run _ _ _ _ _ _ = _
  simp only [run]; rw [run_of_ex hp]; simp only [List.append_nil]; rw [run_of_ex hx]
theorem Ex.mk_bind {α β : Type} {e : Lv} {h h1 h' : Heap C} {n n1 n' : Nat} {t1 t2 : Tr} {p : Pg C α} {f : α → Pg C β} {v : α} {a : β} (hp : Ex e p h n v h1 n1 t1) (hx : Ex e (f v) h1 n1 a h' n' t2) :
    Ex e (p.bind f) h n a h' n' (t2 ++ t1) := by
  show run _ _ _ _ _ _ = _
  rw [run_bind, run_of_ex hp]; simp only [List.append_nil]; rw [run_of_ex hx]

/-- objects that a run does not touch are left as they are; and a run goes alike over other objects, if those that it touches are the same -/
theorem Ex.local {α : Type} {p : Pg C α} : ∀ {e : Lv} {h : Heap C} {n : Nat} {a : α} {h' : Heap C} {n' : Nat} {t : Tr}, Ex e p h n a h' n' t → e.2 ≤ n → ∀ g : Heap C,
    (∀ id w, (id, w) ∈ t → id < e.2 ∨ n' ≤ id → g.get id = h.get id) → (∀ id, e.2 ≤ id → id < n' → g.get id = h.get id) →
    ∃ g', Ex e p g n a g' n' t ∧ (∀ id, e.2 ≤ id → id < n' → g'.get id = h'.get id) ∧
      (∀ id, id < e.2 ∨ n' ≤ id → ((id, true) ∈ t → g'.get id = h'.get id) ∧ ((id, true) ∉ t → g'.get id = g.get id ∧ h'.get id = h.get id)) := by
  induction p with
  | ret a =>
    intro e h n a' h' n' t hx hl g hA hB
    obtain ⟨rfl, rfl, rfl, rfl⟩ := Ex.ret hx
    exact ⟨g, .mk_ret _, hB, fun id hid => ⟨fun hm => by simp at hm, fun _ => ⟨rfl, rfl⟩⟩⟩
  | fail => intro e h n a' h' n' t hx; exact (Ex.fail hx).elim
  | br b x y ix iy =>
    intro e h n a' h' n' t hx hl g hA hB
    rcases Ex.br hx with ⟨hb, hx⟩ | ⟨hb, hx⟩
    · obtain ⟨g', h1, h2⟩ := ix hx hl g hA hB; exact ⟨g', .mk_br (.inl ⟨hb, h1⟩), h2⟩
    · obtain ⟨g', h1, h2⟩ := iy hx hl g hA hB; exact ⟨g', .mk_br (.inr ⟨hb, h1⟩), h2⟩
  | rd id f ih =>
    intro e h n a' h' n' t hx hl g hA hB
    obtain ⟨o, t', ho, hy, rfl⟩ := Ex.rd hx
    have hg : g.get id = some o := by
      rw [← ho]
      by_cases hin : e.2 ≤ id ∧ id < n'
      · exact hB id hin.1 hin.2
      · exact hA id false (by simp) (by omega)
    obtain ⟨g', h1, h2, h3⟩ := ih o hy hl g (fun i w hi => hA i w (by simp [hi])) hB
    refine ⟨g', .mk_rd hg h1, h2, fun i hi => ?_⟩
    simpa using h3 i hi
  | wr id o f ih =>
    intro e h n a' h' n' t hx hl g hA hB
    obtain ⟨o', t', ho, hy, rfl⟩ := Ex.wr hx
    have hg : g.get id = some o' := by
      rw [← ho]
      by_cases hin : e.2 ≤ id ∧ id < n'
      · exact hB id hin.1 hin.2
      · exact hA id true (by simp) (by omega)
    have hsh : (h.get id).isSome = true := by simp [ho]
    have hsg : (g.get id).isSome = true := by simp [hg]
    obtain ⟨g', h1, h2, h3⟩ := ih hy hl (g.put id o) (fun i w hi hr => by
        rw [get_put hsg, get_put hsh]
        by_cases he : i = id
        · simp [he]
        · simp [he]; exact hA i w (by simp [hi]) hr) (fun i h4 h5 => by
        rw [get_put hsg, get_put hsh]
        by_cases he : i = id
        · simp [he]
        · simp [he]; exact hB i h4 h5)
    refine ⟨g', .mk_wr hg h1, h2, fun i hi => ⟨fun hm => ?_, fun hm => ?_⟩⟩
    · by_cases hm' : (i, true) ∈ t'
      · exact (h3 i hi).1 hm'
      · have := (h3 i hi).2 hm'
        have he : i = id := by simpa [hm'] using hm
        rw [this.1, this.2, get_put hsg, get_put hsh]
        simp [he]
    · simp only [List.mem_append, List.mem_singleton, Prod.mk.injEq, and_true, not_or] at hm
      have := (h3 i hi).2 hm.1
      rw [this.1, this.2, get_put hsg, get_put hsh]
      simp [hm.2]
  | nw o f ih =>
    intro e h n a' h' n' t hx hl g hA hB
    obtain ⟨t', hy, rfl⟩ := Ex.nw hx
    have hle := Ex.le hy
    obtain ⟨g', h1, h2, h3⟩ := ih n hy (by omega) ((n, o) :: g) (fun i w hi hr => by
        rw [get_cons, get_cons]
        by_cases he : i = n
        · simp [he]
        · simp [he]; exact hA i w (by simp [hi]) hr) (fun i h4 h5 => by
        rw [get_cons, get_cons]
        by_cases he : i = n
        · simp [he]
        · simp [he]; exact hB i h4 h5)
    refine ⟨g', .mk_nw h1, h2, fun i hi => ⟨fun hm => ?_, fun hm => ?_⟩⟩
    · have hne : i ≠ n := by omega
      exact (h3 i hi).1 (by simpa [hne] using hm)
    · have hne : i ≠ n := by omega
      have := (h3 i hi).2 (by simpa [hne] using hm)
      rw [this.1, this.2, get_cons, get_cons]
      simp [hne]
  | dl id f ih =>
    intro e h n a' h' n' t hx hl g hA hB
    obtain ⟨o', t', ho, hy, rfl⟩ := Ex.dl hx
    have hg : g.get id = some o' := by
      rw [← ho]
      by_cases hin : e.2 ≤ id ∧ id < n'
      · exact hB id hin.1 hin.2
      · exact hA id true (by simp) (by omega)
    obtain ⟨g', h1, h2, h3⟩ := ih hy hl (g.del id) (fun i w hi hr => by
        rw [get_del, get_del]
        by_cases he : i = id
        · simp [he]
        · simp [he]; exact hA i w (by simp [hi]) hr) (fun i h4 h5 => by
        rw [get_del, get_del]
        by_cases he : i = id
        · simp [he]
        · simp [he]; exact hB i h4 h5)
    refine ⟨g', .mk_dl hg h1, h2, fun i hi => ⟨fun hm => ?_, fun hm => ?_⟩⟩
    · by_cases hm' : (i, true) ∈ t'
      · exact (h3 i hi).1 hm'
      · have := (h3 i hi).2 hm'
        have he : i = id := by simpa [hm'] using hm
        rw [this.1, this.2, get_del, get_del]
        simp [he]
    · simp only [List.mem_append, List.mem_singleton, Prod.mk.injEq, and_true, not_or] at hm
      have := (h3 i hi).2 hm.1
      rw [this.1, this.2, get_del, get_del]
      simp [hm.2]
  | cnt f ih =>
    intro e h n a' h' n' t hx hl g hA hB
    obtain ⟨g', h1, h2⟩ := ih _ _ (Ex.cnt hx) hl g hA hB
    exact ⟨g', .mk_cnt h1, h2⟩
  | upto m f ih =>
    intro e h n a' h' n' t hx hl g hA hB
    obtain ⟨hm, hx⟩ := Ex.upto hx
    obtain ⟨g', h1, h2⟩ := ih hx (by omega) g hA hB
    exact ⟨g', .mk_upto hm h1, h2⟩
  | gc lo keep f ih =>
    intro e h n a' h' n' t hx hl g hA hB
    obtain ⟨hm, hx⟩ := Ex.gc hx
    have hle := Ex.le hx
    have hdrop : ∀ i, (Nat.ble lo i && Nat.blt i n && !(keep.any (Nat.beq i))) = true → e.2 ≤ i ∧ i < n' := by
      intro i hi
      simp only [Bool.and_eq_true, Nat.ble_eq, Nat.blt_eq] at hi
      omega
    obtain ⟨g', h1, h2, h3⟩ := ih hx hl (g.drop lo n keep) (fun i w hi hr => by
        rw [get_drop, get_drop]
        split
        · rfl
        · exact hA i w hi hr) (fun i h4 h5 => by
        rw [get_drop, get_drop]
        split
        · rfl
        · exact hB i h4 h5)
    refine ⟨g', .mk_gc hm h1, h2, fun i hi => ⟨(h3 i hi).1, fun hn => ?_⟩⟩
    have := (h3 i hi).2 hn
    rw [this.1, this.2, get_drop, get_drop]
    have hne : ¬ (Nat.ble lo i && Nat.blt i n && !(keep.any (Nat.beq i))) = true := fun hd => by have := hdrop i hd; omega
    simp only [hne]
    exact ⟨rfl, rfl⟩
  | sub p f ip ik =>
    intro e h n a' h' n' t hx hl g hA hB
    obtain ⟨v, h1, n1, t1, t2, hp, hy, rfl⟩ := Ex.sub hx
    have hle1 := Ex.le hp
    have hle2 := Ex.le hy
    obtain ⟨g1, q1, q2, q3⟩ := ip hp (Nat.le_refl _) g (fun i w hi hr => by
        by_cases hin : e.2 ≤ i ∧ i < n'
        · exact hB i hin.1 hin.2
        · exact hA i w (by simp [hi]) (by omega)) (fun i h4 h5 => hB i (by simp at h4; omega) (by omega))
    have same : ∀ i, g.get i = h.get i → g1.get i = h1.get i := by
      intro i hi
      by_cases hin : n ≤ i ∧ i < n1
      · exact q2 i hin.1 hin.2
      · have := q3 i (by simp; omega)
        by_cases hm : (i, true) ∈ t1
        · exact this.1 hm
        · rw [(this.2 hm).1, (this.2 hm).2, hi]
    obtain ⟨g', k1, k2, k3⟩ := ik _ _ hy (by omega) g1 (fun i w hi hr => same i (hA i w (by simp [hi]) hr)) (fun i h4 h5 => same i (hB i h4 h5))
    refine ⟨g', .mk_sub q1 k1, k2, fun i hi => ?_⟩
    have hout := q3 i (by simp; omega)
    refine ⟨fun hm => ?_, fun hm => ?_⟩
    · by_cases hm2 : (i, true) ∈ t2
      · exact (k3 i hi).1 hm2
      · have hm1 : (i, true) ∈ t1 := by simpa [hm2] using hm
        have := (k3 i hi).2 hm2
        rw [this.1, this.2]
        exact hout.1 hm1
    · simp only [List.mem_append, not_or] at hm
      have := (k3 i hi).2 hm.1
      have h5 := hout.2 hm.2
      rw [this.1, this.2]
      exact h5
end Pg
end
end Go.Ev

/-
  Operations with their guards; regions in the order of the text.
-/
namespace Go.Ev
set_option linter.unusedVariables false
set_option linter.unusedSimpArgs false

section
variable {C : Cdc} {P : Program} {T : Tab C} (K : PLaws P T)
open Pg (Ex)

theorem eget_cons (env : Env C) (t j : Nat) (d : D C) : eget ((j, d) :: env) t = if t = j then d else eget env t := by
  simp only [eget]
  by_cases h : t = j
  · subst h; simp
  · simp [beqF h, h]

theorem eget_put (env : Env C) (dst : Option Tmp) (d : D C) (t : Nat) : eget (put env dst d) t = if dst = some t then d else eget env t := by
  cases dst with
  | none => simp [put]
  | some j =>
    simp only [put, eget_cons]
    by_cases h : t = j
    · simp [h]
    · have : ¬ j = t := fun e => h e.symm
      simp [h, this]

theorem evOp_congr (call : FuncId → List (D C) → Pg C (D C)) (o : Oper) (r s : Operand → D C) (hh : ∀ x ∈ o.op.operands, r x = s x) : evOp T call o r = evOp T call o s := by
  obtain ⟨dst, op, ty, pos, after, guard⟩ := o
  have hl : ∀ (xs : Array Operand), (∀ x ∈ xs, r x = s x) → xs.toList.map r = xs.toList.map s := fun xs hx => List.map_congr_left fun x hm => hx x (by simpa using hm)
  have hp : ∀ (ps : Array (Nat × Operand)), (∀ x ∈ (ps.toList.map (·.2)).toArray, r x = s x) → (ps.toList.map fun p => (p.1, r p.2)) = ps.toList.map fun p => (p.1, s p.2) := fun ps hx => List.map_congr_left fun p hm => by
    rw [hx p.2 (by simp; exact ⟨p.1, by simpa using hm⟩)]
  have hopt : ∀ (q : Option Operand), (∀ x ∈ q.toArray, r x = s x) → q.map r = q.map s := fun q hx => by
    cases q with
    | none => rfl
    | some q => simp [hx q (by simp)]
  cases op <;> simp only [Op.operands] at hh <;> simp only [evOp]
  case build t ps => rw [hp ps hh]
  case buildSlice t n ps => rw [hp ps hh]
  case makeFunc fn a b => rw [hl a (fun x hx => hh x (by simp [hx])), hl b (fun x hx => hh x (by simp [hx]))]
  case slice t x lo hi mx =>
    rw [hh x (by simp), hopt lo (fun y hy => hh y (by simp at hy ⊢; simp [hy])), hopt hi (fun y hy => hh y (by simp at hy ⊢; simp [hy])), hopt mx (fun y hy => hh y (by simp at hy ⊢; simp [hy]))]
  case call c =>
    obtain ⟨callee, args, argTypes⟩ := c
    have ha := hl args (fun x hx => hh x (by simp [Call.operands, hx]))
    cases callee with
    | builtin b => simp only [ha]
    | value f => simp only [ha, hh f (by simp [Call.operands])]
    | invoke q m => rfl
  all_goals simp_all

/-- what the slots are behind an operation; and that it goes alike where the slots that it looks at are the same -/
theorem evOpG_eq (call : FuncId → List (D C) → Pg C (D C)) (ops : Array Oper) (o : Oper) (env env2 : Env C) (hh : ∀ t ∈ o.looksAt ops, eget env t = eget env2 t) {e : Pg.Lv} {h h' : Heap C} {n n' : Nat} {env1 : Env C} {tr : Tr}
    (hx : Ex e (evOpG T call ops o env) h n env1 h' n' tr) :
    ∃ v env3, (∀ t, eget env1 t = if o.dst = some t then v else eget env t) ∧ Ex e (evOpG T call ops o env2) h n env3 h' n' tr ∧ ∀ t, eget env3 t = if o.dst = some t then v else eget env2 t := by
  have hops : ∀ (f1 f2 : Env C), (∀ t, eget f1 t = eget env t) → (∀ t, eget f2 t = eget env2 t) → ∀ x ∈ o.op.operands, evAt f1 x = evAt f2 x := by
    intro f1 f2 h1 h2 x hx
    cases x with
    | tmp t =>
      simp only [evAt, h1, h2]
      refine hh t ?_
      unfold Oper.looksAt
      simp only [List.mem_append, List.mem_filterMap]
      exact .inl ⟨.tmp t, by simpa using hx, rfl⟩
    | _ => rfl
  have hgo : ∀ (f1 f2 : Env C), (∀ t, eget f1 t = eget env t) → (∀ t, eget f2 t = eget env2 t) → Ex e (.bind (evOp T call o (evAt f1)) fun d => .ret (put f1 o.dst d)) h n env1 h' n' tr →
      ∃ v env3, (∀ t, eget env1 t = if o.dst = some t then v else eget env t) ∧ Ex e (.bind (evOp T call o (evAt f2)) fun d => .ret (put f2 o.dst d)) h n env3 h' n' tr ∧ ∀ t, eget env3 t = if o.dst = some t then v else eget env2 t := by
    intro f1 f2 h1 h2 hx
    obtain ⟨d, h3, n3, t1, t2, q1, q2, rfl⟩ := Ex.bind hx
    obtain ⟨rfl, rfl, rfl, rfl⟩ := Ex.ret q2
    rw [evOp_congr call o _ _ (hops f1 f2 h1 h2)] at q1
    exact ⟨d, put f2 o.dst d, fun t => by rw [eget_put, h1], Pg.Ex.mk_bind q1 (Pg.Ex.mk_ret _), fun t => by rw [eget_put, h2]⟩
  have hskip : ∀ (f1 f2 : Env C), (∀ t, eget f1 t = eget env t) → (∀ t, eget f2 t = eget env2 t) → Ex e (.ret (put f1 o.dst (.tup .anil)) : Pg C (Env C)) h n env1 h' n' tr →
      ∃ v env3, (∀ t, eget env1 t = if o.dst = some t then v else eget env t) ∧ Ex e (.ret (put f2 o.dst (.tup .anil)) : Pg C (Env C)) h n env3 h' n' tr ∧ ∀ t, eget env3 t = if o.dst = some t then v else eget env2 t := by
    intro f1 f2 h1 h2 hx
    obtain ⟨rfl, rfl, rfl, rfl⟩ := Ex.ret hx
    exact ⟨_, put f2 o.dst (.tup .anil), fun t => by rw [eget_put, h1], Pg.Ex.mk_ret _, fun t => by rw [eget_put, h2]⟩
  unfold evOpG at hx ⊢
  cases hg : o.guard with
  | none => rw [hg] at hx; exact hgo env env2 (fun _ => rfl) (fun _ => rfl) hx
  | some jw =>
    obtain ⟨j, want⟩ := jw
    rw [hg] at hx
    simp only at hx ⊢
    cases hd : (ops[j]?).bind (·.dst) with
    | none => rw [hd] at hx; exact (Ex.fail hx).elim
    | some d =>
      simp only [hd] at hx ⊢
      have hlk : eget env d = eget env2 d := hh d (by
        unfold Oper.looksAt
        rw [hg]
        simp [hd])
      rw [← hlk]
      have same : ∀ (f : Env C) (b : Bool), eget f d = .bool b → ∀ t, eget ((d, .bool b) :: f) t = eget f t := by
        intro f b hb t
        rw [eget_cons]
        by_cases ht : t = d
        · simp [ht, hb]
        · simp [ht]
      generalize hq : eget env d = q at hx
      match q, hq, hx with
      | .bool b, hq, hx =>
        simp only at hx ⊢
        have hq2 : eget env2 d = .bool b := by rw [← hlk, hq]
        rcases Ex.br hx with ⟨rfl, hx⟩ | ⟨rfl, hx⟩
        · cases want with
          | true =>
            obtain ⟨v, env3, k1, k2, k3⟩ := hgo _ _ (same env true hq) (same env2 true hq2) hx
            exact ⟨v, env3, k1, Pg.Ex.mk_br (.inl ⟨rfl, k2⟩), k3⟩
          | false =>
            obtain ⟨v, env3, k1, k2, k3⟩ := hskip _ _ (same env true hq) (same env2 true hq2) hx
            exact ⟨v, env3, k1, Pg.Ex.mk_br (.inl ⟨rfl, k2⟩), k3⟩
        · cases want with
          | true =>
            obtain ⟨v, env3, k1, k2, k3⟩ := hskip _ _ (same env false hq) (same env2 false hq2) hx
            exact ⟨v, env3, k1, Pg.Ex.mk_br (.inr ⟨rfl, k2⟩), k3⟩
          | false =>
            obtain ⟨v, env3, k1, k2, k3⟩ := hgo _ _ (same env false hq) (same env2 false hq2) hx
            exact ⟨v, env3, k1, Pg.Ex.mk_br (.inr ⟨rfl, k2⟩), k3⟩
      | .tup .anil, hq, hx => exact hskip env env2 (fun _ => rfl) (fun _ => rfl) hx
      | .tup (.bool _), _, hx | .tup (.int _ _), _, hx | .tup (.str _), _, hx | .tup (.acons _ _), _, hx | .tup (.arr _ _ _), _, hx | .tup (.tup _), _, hx | .tup .nils, _, hx | .tup (.sl _ _ _), _, hx | .tup (.vs _ _), _, hx
      | .tup (.ptr _ _), _, hx | .tup (.vptr _ _ _), _, hx | .tup (.cptr _), _, hx | .tup .nilp, _, hx | .tup (.fn _ _), _, hx | .tup .nilfn, _, hx | .tup .top, _, hx
      | .int _ _, _, hx | .str _, _, hx | .anil, _, hx | .acons _ _, _, hx | .arr _ _ _, _, hx | .nils, _, hx | .sl _ _ _, _, hx | .vs _ _, _, hx | .ptr _ _, _, hx | .vptr _ _ _, _, hx | .cptr _, _, hx | .nilp, _, hx
      | .fn _ _, _, hx | .nilfn, _, hx | .top, _, hx => exact (Ex.fail hx).elim

variable {X : Cx} {h h' : Heap C} {nx nx' : Nat} {e : Pg.Lv} {lim : Lim} {tr : Tr} {env env' : Env C} {a : Act}

theorem EnvOK.put {d : D C} {v : Value} {dst : Option Tmp} (he : EnvOK T X nx lim env a.tmps) (hd : RO T X nx lim d v) (hb : ∀ t, dst = some t → t < a.tmps.size) : EnvOK T X nx lim (Ev.put env dst d) (a.put dst v).tmps := by
  intro t
  rw [eget_put]
  cases dst with
  | none => simpa [Act.put] using he t
  | some j =>
    simp only [Act.put, Option.some.injEq]
    by_cases hj : j = t
    · subst hj
      have := hb j rfl
      simp [this]; exact hd
    · simp [hj]; simpa using he t

/-- slots that are as they were -/
def Kp (B : Nat → Bool) (u u' : Array Value) : Prop := ∀ t, B t = true → u'.getD t undef = u.getD t undef
theorem Kp.refl (B : Nat → Bool) (u : Array Value) : Kp B u u := fun _ _ => rfl
theorem Kp.trans {B : Nat → Bool} {u v w : Array Value} (h : Kp B u v) (k : Kp B v w) : Kp B u w := fun t ht => (k t ht).trans (h t ht)
theorem put_kp {B : Nat → Bool} (a : Act) (dst : Option Tmp) (v : Value) (hB : ∀ t, dst = some t → B t = false) : Kp B a.tmps (a.put dst v).tmps := by
  intro t ht
  cases dst with
  | none => rfl
  | some j =>
    have : j ≠ t := fun e => by have := hB j rfl; rw [e, ht] at this; cases this
    simp [Act.put, this]

theorem put_size (a : Act) (dst : Option Tmp) (v : Value) : (a.put dst v).tmps.size = a.tmps.size ∧ (a.put dst v).defers = a.defers := by
  cases dst <;> simp [Act.put]

include K
/-- an operation with its guard -/
theorem evOpG_ok {call : FuncId → List (D C) → Pg C (D C)} (hcall : CallOK P T call) (g : G T X h nx lim) (he : EnvOK T X nx lim env a.tmps) (hlim : nx' ≤ lim.top) {ops : Array Oper} {i : Nat} {o : Oper} (hi : ops[i]? = some o)
    (hb : ∀ t, o.dst = some t → t < a.tmps.size) {B : Nat → Bool} (hB : ∀ t, o.dst = some t → B t = false) (hx : Ex e (evOpG T call ops o env) h nx env' h' nx' tr) {k : Act → World → Prop} {Q : Exit → Act → World → Prop}
    (hk : ∀ a' X', G T X' h' nx' lim → Step X nx lim X' → EnvOK T X' nx' lim env' a'.tmps → a'.tmps.size = a.tmps.size → a'.defers = a.defers → Kp B a.tmps a'.tmps → k a' X'.w) : wpOp P ops Q i k a X.w := by
  have hgo : ∀ (f : Env C), EnvOK T X nx lim f a.tmps → Region.wanted o (yielded ops a.tmps) = true → Ex e (.bind (evOp T call o (evAt f)) fun d => .ret (put f o.dst d)) h nx env' h' nx' tr → wpOp P ops Q i k a X.w := by
    intro f hf hw hx
    obtain ⟨d, h3, n3, t1, t2, q1, q2, rfl⟩ := Ex.bind hx
    obtain ⟨rfl, rfl, rfl, rfl⟩ := Ex.ret q2
    unfold wpOp
    simp only [hi, hw, if_true]
    refine .inl (evOp_ok K hcall g hf hlim q1 fun v X' g' s' r' => ?_)
    have hle := Ex.le q1
    exact hk _ X' g' s' ((hf.step K.base s' hle).put r' hb) (put_size _ _ _).1 (put_size _ _ _).2 (put_kp _ _ _ hB)
  have hskip : ∀ (f : Env C), EnvOK T X nx lim f a.tmps → Region.wanted o (yielded ops a.tmps) = false → Ex e (.ret (put f o.dst (.tup .anil)) : Pg C (Env C)) h nx env' h' nx' tr → wpOp P ops Q i k a X.w := by
    intro f hf hw hx
    obtain ⟨rfl, rfl, rfl, rfl⟩ := Ex.ret hx
    unfold wpOp
    simp only [hi, hw, Bool.false_eq_true, if_false]
    exact hk _ X g (.refl _ _ _) (hf.put (RO.mk (.mk rfl (.tup .vnil)) rfl) hb) (put_size _ _ _).1 (put_size _ _ _).2 (put_kp _ _ _ hB)
  unfold evOpG at hx
  cases hg : o.guard with
  | none => rw [hg] at hx; exact hgo env he (by simp [Region.wanted, hg]) hx
  | some jw =>
    obtain ⟨j, want⟩ := jw
    rw [hg] at hx
    simp only at hx
    cases hd : (ops[j]?).bind (·.dst) with
    | none => rw [hd] at hx; exact (Ex.fail hx).elim
    | some d =>
      simp only [hd] at hx
      have hed := he d
      have same : ∀ (b : Bool), eget env d = .bool b → EnvOK T X nx lim ((d, .bool b) :: env) a.tmps := by
        intro b hb' t
        rw [eget_cons]
        by_cases ht : t = d
        · subst ht; simp; rw [← hb']; simpa using he t
        · simp [ht]; simpa using he t
      generalize hq : eget env d = q at hx hed
      match q, hq, hx, hed with
      | .bool b, hq, hx, hed =>
        simp only at hx
        have hv : a.tmps[d]? = some (.bool b) := by
          have := hed.1.bool
          cases hs : a.tmps[d]? with
          | none => simp [hs, undef] at this
          | some u => simp [hs] at this; rw [this]
        have hy : yielded ops a.tmps j = some b := by simp [yielded, hd, hv]
        rcases Ex.br hx with ⟨rfl, hx⟩ | ⟨rfl, hx⟩
        · cases want with
          | true => exact hgo _ (same true hq) (by simp [Region.wanted, hg, hy]) hx
          | false => exact hskip _ (same true hq) (by simp [Region.wanted, hg, hy]) hx
        · cases want with
          | true => exact hskip _ (same false hq) (by simp [Region.wanted, hg, hy]) hx
          | false => exact hgo _ (same false hq) (by simp [Region.wanted, hg, hy]) hx
      | .tup .anil, hq, hx, hed =>
        have hR := hed.1.one rfl
        have hv : a.tmps.getD d undef = .tuple #[] := by
          generalize a.tmps.getD d undef = u at hR
          cases hR with
          | tup hr => cases hr; rfl
        have hy : yielded ops a.tmps j = none := by
          simp only [yielded, hd, Option.bind_some]
          cases hs : a.tmps[d]? with
          | none => rfl
          | some u => simp [hs] at hv; rw [hv]
        exact hskip env he (by simp [Region.wanted, hg, hy]) hx
      | .tup (.bool _), _, hx, _ | .tup (.int _ _), _, hx, _ | .tup (.str _), _, hx, _ | .tup (.acons _ _), _, hx, _ | .tup (.arr _ _ _), _, hx, _ | .tup (.tup _), _, hx, _ | .tup .nils, _, hx, _ | .tup (.sl _ _ _), _, hx, _ | .tup (.vs _ _), _, hx, _
      | .tup (.ptr _ _), _, hx, _ | .tup (.vptr _ _ _), _, hx, _ | .tup (.cptr _), _, hx, _ | .tup .nilp, _, hx, _ | .tup (.fn _ _), _, hx, _ | .tup .nilfn, _, hx, _ | .tup .top, _, hx, _
      | .int _ _, _, hx, _ | .str _, _, hx, _ | .anil, _, hx, _ | .acons _ _, _, hx, _ | .arr _ _ _, _, hx, _ | .nils, _, hx, _ | .sl _ _ _, _, hx, _ | .vs _ _, _, hx, _ | .ptr _ _, _, hx, _ | .vptr _ _ _, _, hx, _ | .cptr _, _, hx, _ | .nilp, _, hx, _
      | .fn _ _, _, hx, _ | .nilfn, _, hx, _ | .top, _, hx, _ => exact (Ex.fail hx).elim

/-- operations in the order of the text -/
theorem evOps_ok {call : FuncId → List (D C) → Pg C (D C)} (hcall : CallOK P T call) {ops : Array Oper} {B : Nat → Bool} (hB : ∀ o ∈ ops.toList, ∀ t, o.dst = some t → B t = false) : ∀ (l : List Oper) (i : Nat), ops.toList.drop i = l → ∀ {X : Cx} {h h' : Heap C} {nx nx' : Nat} {e : Pg.Lv} {lim : Lim} {tr : Tr} {env env' : Env C} {a : Act},
    G T X h nx lim → EnvOK T X nx lim env a.tmps → nx' ≤ lim.top → (∀ o ∈ ops.toList, ∀ t, o.dst = some t → t < a.tmps.size) → Ex e (evOps T call ops l env) h nx env' h' nx' tr → ∀ {Q : Exit → Act → World → Prop},
    (∀ a' X', G T X' h' nx' lim → Step X nx lim X' → EnvOK T X' nx' lim env' a'.tmps → a'.tmps.size = a.tmps.size → a'.defers = a.defers → Kp B a.tmps a'.tmps → Q .normal a' X'.w) → wpOps P ops Q (List.range' i l.length) a X.w := by
  intro l
  induction l with
  | nil =>
    intro i hl X h h' nx nx' e lim tr env env' a g he hlim hb hx Q hk
    obtain ⟨rfl, rfl, rfl, rfl⟩ := Ex.ret hx
    exact hk a X g (.refl _ _ _) he rfl rfl (.refl _ _)
  | cons o l ih =>
    intro i hl X h h' nx nx' e lim tr env env' a g he hlim hb hx Q hk
    simp only [evOps] at hx
    obtain ⟨env1, h1, n1, t1, t2, q1, q2, _⟩ := Ex.bind hx
    have hle := Ex.le q2
    have hlt : i < ops.toList.length := by
      rcases Nat.lt_or_ge i ops.toList.length with h | h
      · exact h
      · rw [List.drop_eq_nil_of_le h] at hl; simp at hl
    have hlo : ops.toList[i]? = some o := by
      rw [List.drop_eq_getElem_cons hlt] at hl
      rw [List.getElem?_eq_getElem hlt, (List.cons.inj hl).1]
    have hio : ops[i]? = some o := by rw [← Array.getElem?_toList]; exact hlo
    have hl2 : ops.toList.drop (i + 1) = l := by
      rw [List.drop_eq_getElem_cons hlt] at hl
      simp at hl; exact hl.2
    rw [List.length_cons, List.range'_succ, wpOps_cons]
    refine evOpG_ok K hcall g he (by omega) hio (fun t ht => hb o (List.mem_of_getElem? hlo) t ht) (fun t ht => hB o (List.mem_of_getElem? hlo) t ht) q1 fun a' X' g' s' e' hs hd hkp => ?_
    refine ih (i + 1) hl2 g' e' hlim (fun o' ho' t ht => by rw [hs]; exact hb o' ho' t ht) q2 fun a2 X2 g2 s2 e2 hs2 hd2 hkp2 => ?_
    exact hk a2 X2 g2 (s'.trans s2 (Ex.le q1)) e2 (by omega) (by rw [hd2, hd]) (hkp.trans hkp2)
end
end Go.Ev

/-
  Regions whose order is drawn: what two operations do, that no edges order and that touch nothing of each other's, is the same in either order.
-/
namespace Go.Ev
set_option linter.unusedVariables false
set_option linter.unusedSimpArgs false

section
variable {C : Cdc}
open Pg (Ex)

namespace Pg
/-- what a run touches was there or is its own; what is there behind it alone is its own -/
theorem Ex.doms {α : Type} {p : Pg C α} : ∀ {e : Lv} {h : Heap C} {n : Nat} {a : α} {h' : Heap C} {n' : Nat} {t : Tr}, Ex e p h n a h' n' t →
    (∀ id w, (id, w) ∈ t → (h.get id).isSome = true ∨ (n ≤ id ∧ id < n')) ∧ (∀ id, h.get id = none → (h'.get id).isSome = true → n ≤ id ∧ id < n' ∧ (id, true) ∈ t) := by
  induction p with
  | ret a =>
    intro e h n a' h' n' t hx
    obtain ⟨rfl, rfl, rfl, rfl⟩ := Ex.ret hx
    exact ⟨fun id w hm => by simp at hm, fun id h1 h2 => by simp [h1] at h2⟩
  | fail => intro e h n a' h' n' t hx; exact (Ex.fail hx).elim
  | br b x y ix iy =>
    intro e h n a' h' n' t hx
    rcases Ex.br hx with ⟨hb, hx⟩ | ⟨hb, hx⟩
    · exact ix hx
    · exact iy hx
  | rd id f ih =>
    intro e h n a' h' n' t hx
    obtain ⟨o, t', ho, hy, rfl⟩ := Ex.rd hx
    obtain ⟨h1, h2⟩ := ih o hy
    refine ⟨fun i w hm => ?_, fun i h3 h4 => ?_⟩
    · simp only [List.mem_append, List.mem_singleton, Prod.mk.injEq] at hm
      rcases hm with hm | ⟨rfl, rfl⟩
      · exact h1 i w hm
      · exact .inl (by simp [ho])
    · obtain ⟨q1, q2, q3⟩ := h2 i h3 h4; exact ⟨q1, q2, by simp [q3]⟩
  | wr id o f ih =>
    intro e h n a' h' n' t hx
    obtain ⟨o', t', ho, hy, rfl⟩ := Ex.wr hx
    have hs : (h.get id).isSome = true := by simp [ho]
    obtain ⟨h1, h2⟩ := ih hy
    refine ⟨fun i w hm => ?_, fun i h3 h4 => ?_⟩
    · simp only [List.mem_append, List.mem_singleton, Prod.mk.injEq] at hm
      rcases hm with hm | ⟨rfl, rfl⟩
      · have := h1 i w hm
        rw [get_put hs] at this
        by_cases he : i = id
        · subst he; exact .inl hs
        · simpa [he] using this
      · exact .inl hs
    · have hne : i ≠ id := by rintro rfl; simp [h3] at hs
      obtain ⟨q1, q2, q3⟩ := h2 i (by rw [get_put hs]; simp [hne, h3]) h4
      exact ⟨q1, q2, by simp [q3]⟩
  | nw o f ih =>
    intro e h n a' h' n' t hx
    obtain ⟨t', hy, rfl⟩ := Ex.nw hx
    have hle := Ex.le hy
    obtain ⟨h1, h2⟩ := ih n hy
    refine ⟨fun i w hm => ?_, fun i h3 h4 => ?_⟩
    · simp only [List.mem_append, List.mem_singleton, Prod.mk.injEq] at hm
      rcases hm with hm | ⟨rfl, rfl⟩
      · have := h1 i w hm
        rw [get_cons] at this
        by_cases he : i = n
        · exact .inr (by omega)
        · simp only [he, if_false] at this
          rcases this with h | h
          · exact .inl h
          · exact .inr (by omega)
      · exact .inr (by omega)
    · by_cases he : i = n
      · subst he; exact ⟨by omega, by omega, by simp⟩
      · obtain ⟨q1, q2, q3⟩ := h2 i (by rw [get_cons]; simp [he, h3]) h4
        exact ⟨by omega, q2, by simp [q3]⟩
  | dl id f ih =>
    intro e h n a' h' n' t hx
    obtain ⟨o', t', ho, hy, rfl⟩ := Ex.dl hx
    obtain ⟨h1, h2⟩ := ih hy
    refine ⟨fun i w hm => ?_, fun i h3 h4 => ?_⟩
    · simp only [List.mem_append, List.mem_singleton, Prod.mk.injEq] at hm
      rcases hm with hm | ⟨rfl, rfl⟩
      · have := h1 i w hm
        rw [get_del] at this
        by_cases he : i = id
        · subst he; exact .inl (by simp [ho])
        · simpa [he] using this
      · exact .inl (by simp [ho])
    · obtain ⟨q1, q2, q3⟩ := h2 i (by rw [get_del]; simp [h3]) h4
      exact ⟨q1, q2, by simp [q3]⟩
  | cnt f ih => intro e h n a' h' n' t hx; exact ih _ _ (Ex.cnt hx)
  | upto m f ih =>
    intro e h n a' h' n' t hx
    obtain ⟨hm, hx⟩ := Ex.upto hx
    obtain ⟨h1, h2⟩ := ih hx
    refine ⟨fun i w hi => ?_, fun i h3 h4 => ?_⟩
    · rcases h1 i w hi with h | h
      · exact .inl h
      · exact .inr (by omega)
    · obtain ⟨q1, q2, q3⟩ := h2 i h3 h4; exact ⟨by omega, q2, q3⟩
  | gc lo keep f ih =>
    intro e h n a' h' n' t hx
    obtain ⟨hm, hx⟩ := Ex.gc hx
    obtain ⟨h1, h2⟩ := ih hx
    refine ⟨fun i w hi => ?_, fun i h3 h4 => ?_⟩
    · have := h1 i w hi
      rw [get_drop] at this
      split at this
      · exact .inr (by simpa using this)
      · exact this
    · exact h2 i (by rw [get_drop]; split <;> simp [h3]) h4
  | sub p f ip ik =>
    intro e h n a' h' n' t hx
    obtain ⟨v, h1, n1, t1, t2, hp, hy, rfl⟩ := Ex.sub hx
    have l1 := Ex.le hp
    have l2 := Ex.le hy
    obtain ⟨p1, p2⟩ := ip hp
    obtain ⟨k1, k2⟩ := ik _ _ hy
    refine ⟨fun i w hi => ?_, fun i h3 h4 => ?_⟩
    · simp only [List.mem_append] at hi
      rcases hi with hi | hi
      · rcases k1 i w hi with hq | hq
        · cases hh : h.get i with
          | some o => exact .inl rfl
          | none => have := p2 i hh hq; exact .inr (by omega)
        · exact .inr (by omega)
      · rcases p1 i w hi with h | h
        · exact .inl h
        · exact .inr (by omega)
    · by_cases hs : (h1.get i).isSome = true
      · have := p2 i h3 hs; exact ⟨by omega, by omega, by simp [this.2.2]⟩
      · have := k2 i (by simpa using hs) h4; exact ⟨by omega, by omega, by simp [this.2.2]⟩
end Pg

variable {P : Program} {T : Tab C}

/-- an operation before another by the region's edges -/
def Bef (ops : Array Oper) (i j : Nat) : Prop := ((Region.before ops).getD j 0).testBit i = true

theorem before_one {A : Array Nat} {i k : Nat} (es : List Edge) : ∀ (s : Nat), (es.foldl (fun s e => if Region.binds .any e then s ||| 2 ^ e.on ||| A.getD e.on 0 else s) s).testBit i = true →
    s.testBit i = true ∨ ∃ e ∈ es, Region.binds .any e = true ∧ (e.on = i ∨ (A.getD e.on 0).testBit i = true) := by
  induction es with
  | nil => intro s h; exact .inl h
  | cons e es ih =>
    intro s h
    rw [List.foldl_cons] at h
    rcases ih _ h with h | ⟨e', h1, h2, h3⟩
    · by_cases hb : Region.binds .any e = true
      · simp only [hb, if_true, Nat.testBit_or, Bool.or_eq_true, Nat.testBit_two_pow, decide_eq_true_eq] at h
        rcases h with (h | h) | h
        · exact .inl h
        · exact .inr ⟨e, by simp, hb, .inl h⟩
        · exact .inr ⟨e, by simp, hb, .inr h⟩
      · simp only [hb] at h; exact .inl h
    · exact .inr ⟨e', by simp [h1], h2, h3⟩

theorem before_inv (ops : Array Oper) : ∀ (l pre : List Oper) (A : Array Nat), ops.toList = pre ++ l → A.size = pre.length →
    (∀ k i, (A.getD k 0).testBit i = true → ∃ o e, ops[k]? = some o ∧ e ∈ o.after ∧ Region.binds .any e = true ∧ (e.on = i ∨ (e.on < k ∧ (A.getD e.on 0).testBit i = true))) →
    ∀ k i, ((l.foldl (fun acc o => acc.push (o.after.foldl (fun s e => if Region.binds .any e then s ||| 2 ^ e.on ||| acc.getD e.on 0 else s) 0)) A).getD k 0).testBit i = true →
      ∃ o e, ops[k]? = some o ∧ e ∈ o.after ∧ Region.binds .any e = true ∧ (e.on = i ∨ (e.on < k ∧ ((l.foldl (fun acc o => acc.push (o.after.foldl (fun s e => if Region.binds .any e then s ||| 2 ^ e.on ||| acc.getD e.on 0 else s) 0)) A).getD e.on 0).testBit i = true)) := by
  intro l
  induction l with
  | nil => intro pre A h1 h2 h3; simpa using h3
  | cons o l ih =>
    intro pre A h1 h2 h3
    rw [List.foldl_cons]
    refine ih (pre ++ [o]) _ (by simp [h1]) (by simp [h2]) ?_
    intro k i hk
    have hget : ∀ j, (A.push (o.after.foldl (fun s e => if Region.binds .any e then s ||| 2 ^ e.on ||| A.getD e.on 0 else s) 0)).getD j 0 = if j = A.size then (o.after.foldl (fun s e => if Region.binds .any e then s ||| 2 ^ e.on ||| A.getD e.on 0 else s) 0) else A.getD j 0 := by
      intro j
      simp only [Array.getD_eq_getD_getElem?, Array.getElem?_push]
      split <;> simp
    have hA : ∀ j i, (A.getD j 0).testBit i = true → j < A.size := by
      intro j i h
      rcases Nat.lt_or_ge j A.size with h' | h'
      · exact h'
      · simp [Array.getD_eq_getD_getElem?, Array.getElem?_eq_none h'] at h
    rw [hget] at hk
    by_cases hks : k = A.size
    · simp only [hks, if_true] at hk
      rw [← Array.foldl_toList] at hk
      rcases before_one (k := k) o.after.toList 0 hk with h | ⟨e, q1, q2, q3⟩
      · simp at h
      · refine ⟨o, e, ?_, by simpa using q1, q2, ?_⟩
        · rw [← Array.getElem?_toList, h1, hks, h2]; simp
        · rcases q3 with q3 | q3
          · exact .inl q3
          · have := hA _ _ q3
            refine .inr ⟨by omega, ?_⟩
            rw [hget]
            have hne : ¬ e.on = A.size := by omega
            simp only [hne, if_false]; exact q3
    · simp only [hks, if_false] at hk
      obtain ⟨o', e, q1, q2, q3, q4⟩ := h3 k i hk
      refine ⟨o', e, q1, q2, q3, ?_⟩
      rcases q4 with q4 | ⟨q4, q5⟩
      · exact .inl q4
      · have := hA _ _ q5
        refine .inr ⟨q4, ?_⟩
        rw [hget]
        have hne : ¬ e.on = A.size := by omega
        simp only [hne, if_false]; exact q5

theorem Bef.edge {ops : Array Oper} {i k : Nat} (h : Bef ops i k) : ∃ o e, ops[k]? = some o ∧ e ∈ o.after ∧ Region.binds .any e = true ∧ (e.on = i ∨ (e.on < k ∧ Bef ops i e.on)) := by
  have he : Region.before ops = ops.toList.foldl (fun acc o => acc.push (o.after.foldl (fun s e => if Region.binds .any e then s ||| 2 ^ e.on ||| acc.getD e.on 0 else s) 0)) #[] := by
    unfold Region.before
    rw [← Array.foldl_toList]
  unfold Bef at h ⊢
  simp only [he] at h ⊢
  exact before_inv ops ops.toList [] #[] (by simp) (by simp) (fun k i hk => by simp at hk) k i h

/-- what is before one whose edges lead to listed ones is listed -/
theorem Bef.listed {ops : Array Oper} {L : Nat → Prop} (hcl : ∀ j o, L j → ops[j]? = some o → ∀ e ∈ o.after, Region.binds .any e = true → L e.on) :
    ∀ (k i : Nat), Bef ops i k → (∀ o, ops[k]? = some o → ∀ e ∈ o.after, Region.binds .any e = true → L e.on) → L i := by
  intro k
  induction k using Nat.strongRecOn with
  | ind k ih =>
    intro i hb hk
    obtain ⟨o, e, h1, h2, h3, h4⟩ := hb.edge
    have hl := hk o h1 e h2 h3
    rcases h4 with rfl | ⟨h4, h5⟩
    · exact hl
    · exact ih e.on h4 i h5 fun o' ho' e' he' hb' => hcl e.on o' hl ho' e' he' hb'


/-! ### Operations in an order of their own -/

/-- operations run one behind the other, each with numbers of its own; 'ts': what each touches -/
inductive RunL (T : Tab C) (call : FuncId → List (D C) → Pg C (D C)) (ops : Array Oper) (L base sp : Nat) (ts : Nat → Tr) : List Nat → Env C → Heap C → Env C → Heap C → Prop where
  | nil {env envF : Env C} {h hF : Heap C} : (∀ t, eget env t = eget envF t) → (∀ id, h.get id = hF.get id) → RunL T call ops L base sp ts [] env h envF hF
  | cons {env env1 envF : Env C} {h h1 hF : Heap C} {i n : Nat} {o : Oper} {l : List Nat} : ops[i]? = some o → Ex (L, base + i * sp) (evOpG T call ops o env) h (base + i * sp) env1 h1 n (ts i) → n ≤ base + (i + 1) * sp →
      RunL T call ops L base sp ts l env1 h1 envF hF → RunL T call ops L base sp ts (i :: l) env h envF hF

variable {call : FuncId → List (D C) → Pg C (D C)} {ops : Array Oper} {L base sp : Nat} {ts : Nat → Tr}

theorem RunL.ext {l : List Nat} {env envF : Env C} {h hF : Heap C} (hr : RunL T call ops L base sp ts l env h envF hF) : ∀ (env' : Env C) (h' : Heap C), (∀ t, eget env' t = eget env t) → (∀ id, h'.get id = h.get id) → RunL T call ops L base sp ts l env' h' envF hF := by
  induction hr with
  | nil h1 h2 => intro env' h' e1 e2; exact .nil (fun t => (e1 t).trans (h1 t)) fun id => (e2 id).trans (h2 id)
  | @cons env env1 envF h h1 hF i n o l ho hx hn _ ih =>
    intro env' h' e1 e2
    obtain ⟨v, env3, q1, q2, q3⟩ := evOpG_eq call ops o env env' (fun t _ => (e1 t).symm) hx
    obtain ⟨g', k1, k2, k3⟩ := Ex.local q2 (Nat.le_refl _) h' (fun id _ _ _ => e2 id) (fun id _ _ => e2 id)
    refine .cons ho k1 hn (ih env3 g' (fun t => by rw [q1, q3]; simp [e1]) fun id => ?_)
    by_cases hin : base + i * sp ≤ id ∧ id < n
    · exact k2 id hin.1 hin.2
    · have := k3 id (by simp; omega)
      by_cases hm : (id, true) ∈ ts i
      · exact this.1 hm
      · rw [(this.2 hm).1, (this.2 hm).2, e2]

/-- touching nothing of each other's -/
def Away (a b : Tr) : Prop := ∀ id u v, (id, u) ∈ a → (id, v) ∈ b → u = false ∧ v = false

theorem apartT_spec {a b : Tr} (h : apartT a b = true) : Away a b := by
  intro id u v hu hv
  simp only [apartT, List.all_eq_true] at h
  have := h (id, u) hu (id, v) hv
  simpa using this

/-- no object has a number that one of these may give -/
def Fresh (base sp : Nat) (l : List Nat) (h : Heap C) : Prop := ∀ i ∈ l, ∀ id, base + i * sp ≤ id → id < base + (i + 1) * sp → h.get id = none

theorem ranges {sp i k : Nat} (hne : i ≠ k) {id base : Nat} (h1 : base + i * sp ≤ id) (h2 : id < base + (i + 1) * sp) (h3 : base + k * sp ≤ id) (h4 : id < base + (k + 1) * sp) : False := by
  rcases Nat.lt_or_gt_of_ne hne with h | h
  · have : (i + 1) * sp ≤ k * sp := Nat.mul_le_mul_right _ h
    omega
  · have : (k + 1) * sp ≤ i * sp := Nat.mul_le_mul_right _ h
    omega

theorem Fresh.step {l : List Nat} {h h1 : Heap C} {i n : Nat} {p : Pg C (Env C)} {env1 : Env C} {t : Tr} (hf : Fresh base sp l h) (hx : Ex (L, base + i * sp) p h (base + i * sp) env1 h1 n t) (hn : n ≤ base + (i + 1) * sp) (hi : i ∉ l) : Fresh base sp l h1 := by
  intro k hk id h2 h3
  cases hg : h1.get id with
  | none => rfl
  | some o =>
    have := (Ex.doms hx).2 id (hf k hk id h2 h3) (by simp [hg])
    exact (ranges (i := i) (k := k) (by rintro rfl; exact hi hk) (id := id) (base := base) (sp := sp) (by omega) (by omega) h2 h3).elim

theorem RunL.swap {k i : Nat} {l : List Nat} {env envF : Env C} {h hF : Heap C} {ok oi : Oper} (hok : ops[k]? = some ok) (hoi : ops[i]? = some oi) (hne : k ≠ i) (hf : Fresh base sp [k, i] h)
    (hap : ok.apart ops oi = true) (haw : Away (ts k) (ts i)) (hr : RunL T call ops L base sp ts (k :: i :: l) env h envF hF) : RunL T call ops L base sp ts (i :: k :: l) env h envF hF := by
  obtain ⟨a1, a2, a3⟩ := Oper.apart_spec hap
  cases hr with
  | @cons _ env1 _ _ h1 _ _ nk o _ ho hk hnk hr =>
  cases hr with
  | @cons _ env2 _ _ h2 _ _ ni o' _ ho' hi hni hr =>
  obtain rfl : ok = o := by rw [hok] at ho; exact Option.some.inj ho
  obtain rfl : oi = o' := by rw [hoi] at ho'; exact Option.some.inj ho'
  have dk := Ex.doms hk
  have di := Ex.doms hi
  obtain ⟨_, _, _, lk⟩ := Ex.local hk (Nat.le_refl _) h (fun _ _ _ _ => rfl) (fun _ _ _ => rfl)
  have fk : ∀ id, base + k * sp ≤ id → id < base + (k + 1) * sp → h.get id = none := fun id => hf k (by simp) id
  have fi : ∀ id, base + i * sp ≤ id → id < base + (i + 1) * sp → h.get id = none := fun id => hf i (by simp) id
  have rk : ∀ id, base + k * sp ≤ id → id < nk → base + i * sp ≤ id → id < ni → False := fun id q1 q2 q3 q4 => ranges hne q1 (by omega) q3 (by omega)
  -- the touched numbers of k lie outside i's range
  have tk : ∀ id w, (id, w) ∈ ts k → ¬ (base + i * sp ≤ id ∧ id < base + (i + 1) * sp) := by
    intro id w hm ⟨q1, q2⟩
    rcases dk.1 id w hm with h' | h'
    · simp [fi id q1 q2] at h'
    · exact ranges hne h'.1 (by omega) q1 q2
  -- the touched numbers of i lie outside k's range
  have ti : ∀ id w, (id, w) ∈ ts i → ¬ (base + k * sp ≤ id ∧ id < base + (k + 1) * sp) := by
    intro id w hm ⟨q1, q2⟩
    rcases di.1 id w hm with h' | h'
    · have := dk.2 id (fk id q1 q2) h'
      have := haw id true w this.2.2 hm
      simp at this
    · exact ranges hne q1 q2 h'.1 (by omega)
  -- i from the start
  obtain ⟨vk, _, ek1, _, _⟩ := evOpG_eq call ops ok env env (fun _ _ => rfl) hk
  obtain ⟨vi, envA, ei1, ei2, ei3⟩ := evOpG_eq call ops oi env1 env (fun t ht => by
    rw [ek1]
    have : ok.dst ≠ some t := fun hd => a1 t hd ht
    simp [this]) hi
  obtain ⟨hA, xi, xi1, xi2⟩ := Ex.local ei2 (Nat.le_refl _) h (fun id w hm hout => by
      have hnt : (id, true) ∉ ts k := fun hq => by have := haw id true w hq hm; simp at this
      by_cases hin : base + k * sp ≤ id ∧ id < nk
      · exact (ti id w hm ⟨hin.1, by omega⟩).elim
      · exact ((lk id (by simp; omega)).2 hnt).2.symm) (fun id q1 q2 => by
      have hnt : (id, true) ∉ ts k := fun hq => tk id true hq ⟨q1, by omega⟩
      have hin : ¬ (base + k * sp ≤ id ∧ id < nk) := fun hq => rk id hq.1 hq.2 q1 q2
      exact ((lk id (by simp; omega)).2 hnt).2.symm)
  -- k behind it
  obtain ⟨vk', envB, ek1', ek2, ek3⟩ := evOpG_eq call ops ok env envA (fun t ht => by
    rw [ei3]
    have : oi.dst ≠ some t := fun hd => a3 t hd ht
    simp [this]) hk
  obtain ⟨hB, xk, xk1, xk2⟩ := Ex.local ek2 (Nat.le_refl _) hA (fun id w hm hout => by
      have hnt : (id, true) ∉ ts i := fun hq => by have := haw id w true hm hq; simp at this
      have hin : ¬ (base + i * sp ≤ id ∧ id < ni) := fun hq => tk id w hm ⟨hq.1, by omega⟩
      exact ((xi2 id (by simp; omega)).2 hnt).1) (fun id q1 q2 => by
      have hnt : (id, true) ∉ ts i := fun hq => ti id true hq ⟨q1, by omega⟩
      have hin : ¬ (base + i * sp ≤ id ∧ id < ni) := fun hq => rk id q1 q2 hq.1 hq.2
      exact ((xi2 id (by simp; omega)).2 hnt).1)
  refine .cons hoi xi hni (.cons hok xk hnk (hr.ext envB hB (fun t => ?_) fun id => ?_))
  · rw [ek3, ei3, ei1]
    by_cases hdi : oi.dst = some t
    · have hdk : ok.dst ≠ some t := fun hd => a2 t hd hdi
      simp [hdi, hdk]
    · simp only [hdi, if_false]
      by_cases hdk : ok.dst = some t
      · have e1 := ek1 t
        have e2 := ek1' t
        simp only [hdk, if_true] at e1 e2 ⊢
        rw [e2]
      · have e1 := ek1 t
        simp only [hdk, if_false] at e1 ⊢
        exact e1.symm
  · by_cases hink : base + k * sp ≤ id ∧ id < nk
    · have hini : ¬ (base + i * sp ≤ id ∧ id < ni) := fun hq => rk id hink.1 hink.2 hq.1 hq.2
      have hnt : (id, true) ∉ ts i := fun hq => ti id true hq ⟨hink.1, by omega⟩
      rw [xk1 id hink.1 hink.2, ((xi2 id (by simp; omega)).2 hnt).2]
    · have kk := xk2 id (by simp; omega)
      by_cases hini : base + i * sp ≤ id ∧ id < ni
      · have hnt : (id, true) ∉ ts k := fun hq => tk id true hq ⟨hini.1, by omega⟩
        rw [(kk.2 hnt).1, xi1 id hini.1 hini.2]
      · have ii := xi2 id (by simp; omega)
        by_cases hmk : (id, true) ∈ ts k
        · have hnt : (id, true) ∉ ts i := fun hq => by have := haw id true true hmk hq; simp at this
          rw [kk.1 hmk, (ii.2 hnt).2]
        · rw [(kk.2 hmk).1]
          by_cases hmi : (id, true) ∈ ts i
          · exact ii.1 hmi
          · rw [(ii.2 hmi).1, (ii.2 hmi).2, (kk.2 hmk).2]

/-- one that may come first comes first -/
theorem RunL.first {i : Nat} {oi : Oper} (hoi : ops[i]? = some oi) : ∀ (pre post : List Nat) {env envF : Env C} {h hF : Heap C}, (pre ++ i :: post).Nodup → Fresh base sp (pre ++ i :: post) h →
    (∀ k ∈ pre, ∀ ok, ops[k]? = some ok → ok.apart ops oi = true ∧ Away (ts k) (ts i)) → RunL T call ops L base sp ts (pre ++ i :: post) env h envF hF → RunL T call ops L base sp ts (i :: (pre ++ post)) env h envF hF := by
  intro pre
  induction pre with
  | nil => intro post env envF h hF hn hf ha hr; simpa using hr
  | cons k pre ih =>
    intro post env envF h hF hn hf ha hr
    rw [List.cons_append] at hr hn hf
    cases hr with
    | @cons _ env1 _ _ h1 _ _ nk ok _ hok hk hnk hr =>
    have hkn := List.nodup_cons.1 hn
    have hr' := ih post hkn.2 ((show Fresh base sp (pre ++ i :: post) h from fun j hj => hf j (List.mem_cons_of_mem _ hj)).step hk hnk hkn.1) (fun j hj => ha j (by simp [hj])) hr
    have hki : k ≠ i := by rintro rfl; exact hkn.1 (by simp)
    obtain ⟨q1, q2⟩ := ha k (by simp) ok hok
    exact RunL.swap hok hoi hki (fun j hj => hf j (by simp at hj; rcases hj with rfl | rfl <;> simp)) q1 q2 (.cons hok hk hnk hr')
end
end Go.Ev

/-
  Regions whose order is drawn: whatever is drawn, what the text's order comes to.
-/
namespace Go.Ev
set_option linter.unusedVariables false
set_option linter.unusedSimpArgs false

section
variable {C : Cdc} {P : Program} {T : Tab C}
open Pg (Ex)

theorem G.relim {X : Cx} {h : Heap C} {nx nx' : Nat} {lim lim' : Lim} (g : G T X h nx lim) (hh : ∀ id, old nx lim id → old nx' lim' id) (hl : lim'.lo ≤ nx') : G T X h nx' lim' :=
  ⟨g.var, g.vec, g.dom, fun id o ho => ⟨hh id (g.nums id o ho).1, fun r hr => hh r ((g.nums id o ho).2 r hr)⟩, g.apart, g.outer, g.outs, hl⟩
theorem EnvOK.relim {X : Cx} {env env' : Env C} {tmps : Array Value} {nx nx' : Nat} {lim lim' : Lim} (g : EnvOK T X nx lim env tmps) (hh : ∀ id, old nx lim id → old nx' lim' id) (he : ∀ t, eget env' t = eget env t) : EnvOK T X nx' lim' env' tmps :=
  fun t => by rw [he]; exact ⟨(g t).1, fun id hi => hh id ((g t).2 id hi)⟩
theorem Step.relim {X X' : Cx} {nx nx' : Nat} {lim lim' : Lim} (s : Step X nx lim X') (hh : ∀ id, old nx' lim' id → old nx lim id) : Step X nx' lim' X' :=
  ⟨s.O, s.os, s.tape, s.output, s.size, fun id ho => s.ρ id (hh id ho), s.mine, s.cell, s.block, s.frz⟩

variable {call : FuncId → List (D C) → Pg C (D C)} {ops : Array Oper} {L base sp : Nat}

theorem RunL.congr {ts ts' : Nat → Tr} {l : List Nat} {env envF : Env C} {h hF : Heap C} (hr : RunL T call ops L base sp ts l env h envF hF) : (∀ j ∈ l, ts' j = ts j) → RunL T call ops L base sp ts' l env h envF hF := by
  induction hr with
  | nil h1 h2 => intro _; exact .nil h1 h2
  | cons ho hx hn _ ih => intro hh; exact .cons ho (by rw [hh _ (by simp)]; exact hx) hn (ih fun j hj => hh j (by simp [hj]))

/-- the run in the order of the text -/
theorem runL_of_evOpsT : ∀ (l : List Oper) (i : Nat), ops.toList.drop i = l → ∀ {e : Pg.Lv} {env envF : Env C} {h hF : Heap C} {n nF : Nat} {tr : Tr} {acc : List (Nat × Tr)}, Ex e (evOpsT T call ops base sp i l env acc) h n envF hF nF tr →
    n ≤ base + i * sp ∧ ∃ ts accF, RunL T call ops (e.1 + 1) base sp ts (List.range' i l.length) env h envF hF ∧ nF = base + (i + l.length) * sp ∧ noClash ops accF = true ∧ (∀ p ∈ acc, p ∈ accF) ∧ ∀ j, i ≤ j → j < i + l.length → ts j = [] ∨ (j, ts j) ∈ accF := by
  intro l
  induction l with
  | nil =>
    intro i hl e env envF h hF n nF tr acc hx
    simp only [evOpsT] at hx
    obtain ⟨hm, hx⟩ := Ex.upto hx
    rcases Ex.br hx with ⟨hb, hx⟩ | ⟨hb, hx⟩
    · obtain ⟨rfl, rfl, rfl, rfl⟩ := Ex.ret hx
      exact ⟨hm, fun _ => [], acc, .nil (fun _ => rfl) (fun _ => rfl), by simp, hb, fun p hp => hp, fun j h1 h2 => by simp at h2; omega⟩
    · exact (Ex.fail hx).elim
  | cons o l ih =>
    intro i hl e env envF h hF n nF tr acc hx
    simp only [evOpsT] at hx
    obtain ⟨hm, hx⟩ := Ex.upto hx
    obtain ⟨env1, h1, n1, t1, t2, q1, q2, _⟩ := Ex.sub hx
    have hlt : i < ops.toList.length := by
      rcases Nat.lt_or_ge i ops.toList.length with h | h
      · exact h
      · rw [List.drop_eq_nil_of_le h] at hl; simp at hl
    have hlo : ops.toList[i]? = some o := by
      rw [List.drop_eq_getElem_cons hlt] at hl
      rw [List.getElem?_eq_getElem hlt, (List.cons.inj hl).1]
    have hio : ops[i]? = some o := by rw [← Array.getElem?_toList]; exact hlo
    have hl2 : ops.toList.drop (i + 1) = l := by
      rw [List.drop_eq_getElem_cons hlt] at hl
      exact (List.cons.inj hl).2
    obtain ⟨k0, ts, accF, k1, k2, k3, k4, k5⟩ := ih (i + 1) hl2 q2
    refine ⟨hm, fun j => if j = i then t1 else ts j, accF, ?_, by rw [k2, List.length_cons, Nat.add_right_comm i 1 l.length]; rfl, k3, ?_, ?_⟩
    · rw [List.length_cons, List.range'_succ]
      refine .cons hio (by simpa using q1) k0 (k1.congr fun j hj => ?_)
      have := List.mem_range'_1.1 hj
      have hne : ¬ j = i := by omega
      simp [hne]
    · intro p hp
      refine k4 p ?_
      split
      · exact hp
      · simp [hp]
    · intro j hj1 hj2
      by_cases hj : j = i
      · subst hj
        simp only [if_true]
        cases t1 with
        | nil => exact .inl rfl
        | cons x t1 => exact .inr (k4 _ (by simp))
      · simp only [hj, if_false]
        exact k5 j (by omega) (by simp at hj2; omega)

theorem noClash_spec {accF : List (Nat × Tr)} (h : noClash ops accF = true) {a b : Nat × Tr} (ha : a ∈ accF) (hb : b ∈ accF) (hlt : a.1 < b.1) (hn : ¬ Bef ops a.1 b.1) : Away a.2 b.2 := by
  simp only [noClash, List.all_eq_true] at h
  have := h a ha b hb
  simp only [Bool.or_eq_true, Bool.not_eq_true'] at this
  rcases this with (h1 | h1) | h1
  · exact apartT_spec h1
  · have h2 : Nat.blt a.1 b.1 = true := by rw [Nat.blt_eq]; exact hlt
    rw [h2] at h1; cases h1
  · exact (hn h1).elim

/-- what is asked of a region's text -/
structure DrawOK (ops : Array Oper) : Prop where
  edges : ∀ i o, ops[i]? = some o → ∀ e ∈ o.after, Region.binds .any e = true → e.on < i
  apart : ∀ i j oi oj, i < j → ops[i]? = some oi → ops[j]? = some oj → Bef ops i j ∨ oi.apart ops oj = true

/-- the numbers that are not met while 'rest' is to come -/
def HR (base sp N : Nat) (lim : Lim) (rest : List Nat) (id : Nat) : Prop := lim.H id ∨ (base + N * sp ≤ id ∧ id < lim.top) ∨ ∃ j ∈ rest, base + j * sp ≤ id ∧ id < base + (j + 1) * sp
def limR (base sp N : Nat) (lim : Lim) (rest : List Nat) : Lim := ⟨base, base, HR base sp N lim rest, fun id h1 h2 => by omega⟩

theorem old_limR {N : Nat} {lim : Lim} {rest : List Nat} {id : Nat} : old base (limR base sp N lim rest) id ↔ ¬ HR base sp N lim rest id := by
  unfold old limR
  simp only
  constructor
  · exact fun h => h.2
  · exact fun h => ⟨by omega, h⟩

theorem getD_same {listed : Array Bool} {j : Nat} (h : j < listed.size) : listed.getD j true = listed.getD j false := by simp [Array.getD_eq_getD_getElem?, h]

variable (K : PLaws P T)
include K

theorem drawn_ok (hcall : CallOK P T call) {B : Nat → Bool} (hB : ∀ o ∈ ops.toList, ∀ t, o.dst = some t → B t = false) (hd : DrawOK ops) {ts : Nat → Tr} {lim : Lim} {envF : Env C} {hF : Heap C} (haw : ∀ i j, i < j → j < ops.size → ¬ Bef ops i j → Away (ts i) (ts j)) (hlo : lim.lo ≤ base) (htop : base + ops.size * sp ≤ lim.top) {Q : Exit → Act → World → Prop} :
    ∀ (fuel : Nat) (rest : List Nat) (listed : Array Bool) (env : Env C) (h : Heap C) (X : Cx) (a : Act), rest.length ≤ fuel → rest.Pairwise (· < ·) → listed.size = ops.size → (∀ j, j ∈ rest ↔ j < ops.size ∧ listed.getD j true = false) →
      (∀ j o, listed.getD j false = true → ops[j]? = some o → ∀ e ∈ o.after, Region.binds .any e = true → listed.getD e.on false = true) → RunL T call ops L base sp ts rest env h envF hF → Fresh base sp rest h →
      G T X h base (limR base sp ops.size lim rest) → EnvOK T X base (limR base sp ops.size lim rest) env a.tmps → (∀ o ∈ ops.toList, ∀ t, o.dst = some t → t < a.tmps.size) →
      (∀ a' X', G T X' hF (base + ops.size * sp) lim → Step X base lim X' → EnvOK T X' (base + ops.size * sp) lim envF a'.tmps → a'.tmps.size = a.tmps.size → a'.defers = a.defers → Kp B a.tmps a'.tmps → Q .normal a' X'.w) →
      wpAny P .any ops Q fuel listed a X.w := by
  intro fuel
  induction fuel with
  | zero =>
    intro rest listed env h X a hlen hsort hsz hmem hcl hr hf g he hb hk
    obtain rfl : rest = [] := List.length_eq_zero_iff.1 (by omega)
    refine ⟨?_, ?_⟩
    · cases hq : Region.ready .any ops listed with
      | nil => rfl
      | cons j _ =>
        have : j ∈ Region.ready .any ops listed := by simp [hq]
        obtain ⟨h1, o, h2, _⟩ := mem_ready.1 this
        have := (hmem j).2 ⟨(Array.getElem?_eq_some_iff.1 h2).1, h1⟩
        simp at this
    · cases hr with
      | nil e1 e2 =>
        have hold : ∀ id, old base (limR base sp ops.size lim []) id → old (base + ops.size * sp) lim id := by
          intro id ho
          rw [old_limR] at ho
          unfold HR at ho
          simp only [List.not_mem_nil, false_and, exists_false, or_false, not_or] at ho
          exact ⟨by omega, ho.1⟩
        exact hk a X ((g.congr fun id => (e2 id).symm).relim hold (by omega)) (.refl _ _ _) (he.relim hold fun t => (e1 t).symm) rfl rfl (.refl _ _)
  | succ fuel ih =>
    intro rest listed env h X a hlen hsort hsz hmem hcl hr hf g he hb hk
    refine ⟨fun hnil => ?_, fun i hi => ?_⟩
    · cases rest with
      | nil =>
        cases hr with
        | nil e1 e2 =>
          have hold : ∀ id, old base (limR base sp ops.size lim []) id → old (base + ops.size * sp) lim id := by
            intro id ho
            rw [old_limR] at ho
            unfold HR at ho
            simp only [List.not_mem_nil, false_and, exists_false, or_false, not_or] at ho
            exact ⟨by omega, ho.1⟩
          exact hk a X ((g.congr fun id => (e2 id).symm).relim hold (by omega)) (.refl _ _ _) (he.relim hold fun t => (e1 t).symm) rfl rfl (.refl _ _)
      | cons r rest =>
        exfalso
        have hr0 := (hmem r).1 (by simp)
        have : r ∈ Region.ready .any ops listed := by
          rw [mem_ready]
          refine ⟨hr0.2, ops[r]'hr0.1, by simp [hr0.1], fun e hee hbb => ?_⟩
          have hlt := hd.edges r _ (by simp [hr0.1]) e hee hbb
          cases hq : listed.getD e.on false with
          | true => rfl
          | false =>
            have hm := (hmem e.on).2 ⟨by omega, by rw [getD_same (by omega)]; exact hq⟩
            simp only [List.mem_cons] at hm
            rcases hm with hm | hm
            · omega
            · have := (List.pairwise_cons.1 hsort).1 _ hm; omega
        rw [hnil] at this
        simp at this
    · obtain ⟨hl, oi, hoi, hedges⟩ := mem_ready.1 hi
      have hiN : i < ops.size := (Array.getElem?_eq_some_iff.1 hoi).1
      have hir := (hmem i).2 ⟨hiN, hl⟩
      obtain ⟨pre, post, rfl⟩ := List.append_of_mem hir
      have hnd : (pre ++ i :: post).Nodup := hsort.imp fun {x y} (hxy : x < y) => by omega
      have hpre : ∀ k ∈ pre, k < i := fun k hk => (List.pairwise_append.1 hsort).2.2 k hk i (by simp)
      have hr' := RunL.first hoi pre post hnd hf (fun k hk ok hok => by
        have hlt := hpre k hk
        have hnb : ¬ Bef ops k i := fun hbef => by
          have hlk := Bef.listed (ops := ops) (L := fun j => listed.getD j false = true) (fun j o h1 h2 e h3 h4 => hcl j o h1 h2 e h3 h4) i k hbef (fun o ho e h1 h2 => by
            rw [hoi] at ho; obtain rfl := Option.some.inj ho; exact hedges e h1 h2)
          have hk2 := (hmem k).1 (by simp [hk])
          rw [getD_same (by omega)] at hk2
          rw [hk2.2] at hlk; cases hlk
        exact ⟨(hd.apart k i ok oi hlt hok hoi).resolve_left hnb, haw k i hlt hiN hnb⟩) hr
      cases hr' with
      | @cons _ env1 _ _ h1 _ _ n o _ ho hx hn hrun =>
      obtain rfl : oi = o := by rw [hoi] at ho; exact Option.some.inj ho
      have hni : i ∉ pre ++ post := by
        intro hm
        rw [List.nodup_append] at hnd
        simp only [List.mem_append] at hm
        rcases hm with hm | hm
        · exact hnd.2.2 i hm i (by simp) rfl
        · exact (List.nodup_cons.1 hnd.2.1).1 hm
      have hbnd : ∀ j, j < ops.size → base + (j + 1) * sp ≤ base + ops.size * sp := fun j hj => by
        have : (j + 1) * sp ≤ ops.size * sp := Nat.mul_le_mul_right _ hj
        omega
      have hrest : ∀ j, j ∈ pre ++ post → j < ops.size := fun j hj => ((hmem j).1 (by simp at hj ⊢; rcases hj with hj | hj <;> simp [hj])).1
      let limi : Lim := ⟨base + i * sp, base + (i + 1) * sp, HR base sp ops.size lim (pre ++ post), fun id q1 q2 => by
        have hb1 := hbnd i hiN
        rintro (q3 | q3 | ⟨j, q3, q4, q5⟩)
        · exact lim.ok id (by omega) (by omega) q3
        · omega
        · exact ranges (i := i) (k := j) (by rintro rfl; exact hni q3) q1 q2 q4 q5⟩
      have ho1 : ∀ id, old base (limR base sp ops.size lim (pre ++ i :: post)) id → old (base + i * sp) limi id := by
        intro id hid
        rw [old_limR] at hid
        unfold HR at hid
        simp only [not_or, not_exists, not_and] at hid
        refine ⟨?_, ?_⟩
        · have := hid.2.2 i (by simp)
          show id < base + i * sp ∨ base + (i + 1) * sp ≤ id
          omega
        · rintro (q3 | q3 | ⟨j, q3, q4, q5⟩)
          · exact hid.1 q3
          · exact hid.2.1 q3.1 q3.2
          · exact hid.2.2 j (by simp at q3 ⊢; rcases q3 with q3 | q3 <;> simp [q3]) q4 q5
      have ho2 : ∀ id, old n limi id → old base (limR base sp ops.size lim (pre ++ post)) id := fun id hid => old_limR.2 hid.2
      have ho3 : ∀ id, old base lim id → old (base + i * sp) limi id := by
        intro id hid
        have hb1 := hbnd i hiN
        have hc := hid.1
        refine ⟨?_, ?_⟩
        · show id < base + i * sp ∨ base + (i + 1) * sp ≤ id
          rcases hc with hc | hc
          · exact .inl (by omega)
          · exact .inr (by omega)
        · rintro (q3 | q3 | ⟨j, q3, q4, q5⟩)
          · exact hid.2 q3
          · rcases hc with hc | hc
            · have : base ≤ base + ops.size * sp := Nat.le_add_right _ _
              omega
            · omega
          · have := hbnd j (hrest j q3)
            rcases hc with hc | hc
            · have : base ≤ base + j * sp := Nat.le_add_right _ _
              omega
            · omega
      refine evOpG_ok K hcall (g.relim ho1 (Nat.le_refl _)) (he.relim ho1 fun _ => rfl) (lim := limi) hn hoi (fun t ht => hb oi (List.mem_of_getElem? (by rw [Array.getElem?_toList]; exact hoi)) t ht) (fun t ht => hB oi (List.mem_of_getElem? (by rw [Array.getElem?_toList]; exact hoi)) t ht) hx fun a' X' g' s' e' hs hdf hkp => ?_
      have hsl : (pre ++ post).Sublist (pre ++ i :: post) := List.Sublist.append_left (List.sublist_cons_self _ _) _
      refine ih (pre ++ post) (listed.setIfInBounds i true) env1 h1 X' a' (by simp at hlen ⊢; omega) (hsort.sublist hsl) (by simp [hsz]) (fun j => ?_) (fun j o hj hoj e h3 h4 => ?_) hrun
        ((show Fresh base sp (pre ++ post) h from fun j hj => hf j (hsl.subset hj)).step hx hn hni) (g'.relim ho2 (Nat.le_refl _)) (e'.relim ho2 fun _ => rfl) (fun o ho t ht => by rw [hs]; exact hb o ho t ht) fun a2 X2 g2 s2 e2 hs2 hd2 hkp2 => ?_
      · by_cases hji : j = i
        · subst hji
          simp only [hni, false_iff, not_and]
          intro _
          simp [hsz, hiN]
        · rw [getD_set_ne true (Ne.symm hji), ← hmem j]
          simp [hji]
      · by_cases hji : j = i
        · subst hji
          rw [hoi] at hoj; obtain rfl := Option.some.inj hoj
          exact getD_set_true (hedges e h3 h4)
        · rw [getD_set_ne false (Ne.symm hji)] at hj
          exact getD_set_true (hcl j o hj hoj e h3 h4)
      · exact hk a2 X2 g2 ((s'.relim ho3).trans s2 (Nat.le_refl _)) e2 (by omega) (by rw [hd2, hdf]) (hkp.trans hkp2)

/-- a region whose order is drawn -/
theorem draw_ok {X : Cx} {h h' : Heap C} {nx nx' : Nat} {e : Pg.Lv} {lim : Lim} {tr : Tr} {env env' : Env C} {a : Act} (hcall : CallOK P T call) {B : Nat → Bool} (hB : ∀ o ∈ ops.toList, ∀ t, o.dst = some t → B t = false) (hm : P.follows .mixedOrders = true) (hd : DrawOK ops) (g : G T X h nx lim) (he : EnvOK T X nx lim env a.tmps)
    (hlim : nx' ≤ lim.top) (hb : ∀ o ∈ ops.toList, ∀ t, o.dst = some t → t < a.tmps.size) (hx : Ex e (evOpsT T call ops nx sp 0 ops.toList env []) h nx env' h' nx' tr) {id : Nat} {Q : Exit → Act → World → Prop}
    (hk : ∀ a' X', G T X' h' nx' lim → Step X nx lim X' → EnvOK T X' nx' lim env' a'.tmps → a'.tmps.size = a.tmps.size → a'.defers = a.defers → Kp B a.tmps a'.tmps → Q .normal a' X'.w) : (Code.region id ops true).wp P Q a X.w := by
  obtain ⟨_, ts, accF, k1, k2, k3, _, k5⟩ := runL_of_evOpsT ops.toList 0 rfl hx
  simp only [Nat.zero_add, Array.length_toList] at k1 k2 k5
  subst k2
  obtain ⟨gw, sw⟩ := g.world K.base { X.w with drawn := X.w.drawn + 1 } rfl rfl rfl rfl
  refine wp_region_any hm ?_
  have hold : ∀ i, old nx lim i → old nx (limR nx sp ops.size lim (List.range' 0 ops.size)) i := by
    intro i hi
    rw [old_limR]
    have hc := hi.1
    have h0 : nx ≤ nx + ops.size * sp := Nat.le_add_right _ _
    rintro (q3 | q3 | ⟨j, q3, q4, q5⟩)
    · exact hi.2 q3
    · omega
    · have hj := (List.mem_range'_1.1 q3).2
      have : (j + 1) * sp ≤ ops.size * sp := Nat.mul_le_mul_right _ (by omega)
      have : nx ≤ nx + j * sp := Nat.le_add_right _ _
      omega
  refine drawn_ok K hcall hB hd (ts := ts) (fun i j hij hj hn => ?_) g.low hlim ops.size (List.range' 0 ops.size) _ env h ⟨{ X.w with drawn := X.w.drawn + 1 }, X.ρ, X.O⟩ a (by simp) (List.pairwise_lt_range') (by simp) (fun j => ?_) (fun j o hj => ?_) k1 ?_
    (gw.relim hold (Nat.le_refl _)) ((he.step K.base sw (Nat.le_refl _)).relim hold fun _ => rfl) hb fun a' X' g' s' e' hs hdf hkp => ?_
  · rcases k5 i (by omega) (by omega) with h1 | h1
    · rw [h1]; intro _ _ _ hm; simp at hm
    · rcases k5 j (by omega) hj with h2 | h2
      · rw [h2]; intro _ _ _ _ hm; simp at hm
      · exact noClash_spec k3 h1 h2 hij hn
  · simp only [List.mem_range'_1, Nat.zero_add, Nat.zero_le, true_and]
    constructor
    · intro h; simp [Array.getD_eq_getD_getElem?, h]
    · exact fun h => h.1
  · exfalso
    by_cases hjn : j < ops.size
    · simp [Array.getD_eq_getD_getElem?, hjn] at hj
    · simp [Array.getD_eq_getD_getElem?, hjn] at hj
  · intro j hj i q1 q2
    cases hg : h.get i with
    | none => rfl
    | some o =>
      exfalso
      have := hold i (g.nums i o hg).1
      rw [old_limR] at this
      exact this (.inr (.inr ⟨j, hj, q1, q2⟩))
  · exact hk a' X' g' (sw.trans s' (Nat.le_refl _)) e' hs hdf hkp
end
end Go.Ev

/-
  Results; what is given out; code; calls.
-/
namespace Go.Ev
set_option linter.unusedVariables false
set_option linter.unusedSimpArgs false

section
variable {C : Cdc} {P : Program} {T : Tab C}
open Pg (Ex)

variable (K : PLaws P T)

/-! ### Results -/
def resM (tmps : Array Value) : ResultVar → Sem Value
  | .tmp t => pure (tmps.getD t undef)
  | .cell a t => do loadVar t (← asAddr (tmps.getD a undef))

theorem loadAt_addr {t : TypeId} {va v : Value} {w : World} (h : (Instr.loadAt t va).run P w = .ok v w) : (do loadVar t (← asAddr va) : Sem Value).run P w = .ok v w := by
  unfold Instr.loadAt Instr.sureAddr at h
  split at h
  · simpa [asAddr] using h
  · simp [stuck] at h

include K in
theorem results_ok {X : Cx} {h : Heap C} {nx : Nat} {lim : Lim} {env : Env C} {tmps : Array Value} (g : G T X h nx lim) (he : EnvOK T X nx lim env tmps) : ∀ (rs : List ResultVar) {e : Pg.Lv} {l : List (D C)} {h' : Heap C} {nx' : Nat} {tr : Tr},
    Ex e (resultD T env rs) h nx l h' nx' tr → h' = h ∧ nx' = nx ∧ ∃ vs, (rs.mapM (resM tmps)).run P X.w = .ok vs X.w ∧ RVs T X l vs ∧ ∀ d ∈ l, ∀ id ∈ D.refs d, old nx lim id := by
  intro rs
  induction rs with
  | nil =>
    intro e l h' nx' tr hx
    obtain ⟨rfl, rfl, rfl, rfl⟩ := Ex.ret hx
    exact ⟨rfl, rfl, [], by simp, .nil, by simp⟩
  | cons r rs ih =>
    intro e l h' nx' tr hx
    cases r with
    | tmp t =>
      simp only [resultD] at hx
      obtain ⟨l1, h1, n1, t1, t2, q1, hx, _⟩ := Ex.bind hx
      obtain ⟨rfl, rfl, rfl, rfl⟩ := Ex.ret hx
      obtain ⟨rfl, rfl, vs, a1, a2, a3⟩ := ih q1
      refine ⟨rfl, rfl, tmps.getD t undef :: vs, by simp only [List.mapM_cons, resM, Sem.run_bind, Sem.run_pure, Result.andThen_ok, a1], .cons (he t).1 a2, ?_⟩
      intro d hd
      simp only [List.mem_cons] at hd
      rcases hd with rfl | hd
      · exact (he t).2
      · exact a3 d hd
    | cell a t =>
      simp only [resultD] at hx
      obtain ⟨d1, h1, n1, t1, t2, q1, hy, _⟩ := Ex.bind hx
      obtain ⟨v, k1, e1, e2, k2⟩ := load_same K g (he a) q1
      subst e1; subst e2
      obtain ⟨l1, h2, n2, t3, t4, q2, hz, _⟩ := Ex.bind hy
      obtain ⟨rfl, rfl, rfl, rfl⟩ := Ex.ret hz
      obtain ⟨rfl, rfl, vs, a1, a2, a3⟩ := ih q2
      refine ⟨rfl, rfl, v :: vs, by simp only [List.mapM_cons, resM, Sem.run_bind, Sem.run_pure, Result.andThen_ok, a1]; rw [← Sem.run_bind, loadAt_addr k1]; simp [a1], .cons k2.1 a2, ?_⟩
      intro d hd
      simp only [List.mem_cons] at hd
      rcases hd with rfl | hd
      · exact k2.2
      · exact a3 d hd

end
end Go.Ev

/-
  Code and calls: the evaluator's soundness.
-/
namespace Go.Ev
set_option linter.unusedVariables false
set_option linter.unusedSimpArgs false

section
variable {C : Cdc} {P : Program} {T : Tab C} {Φ : Fns C}
open Pg (Ex)

def exitX : Ev.X → Exit
  | .normal => .normal
  | .exit id => .exit id
  | .ret => .ret

def opsB (nt : Nat) (ops : Array Oper) : Bool := ops.toList.all fun o => match o.dst with
  | some t => Nat.blt t nt
  | none => true
def drawB (ops : Array Oper) : Bool :=
  let b := Region.before ops
  ops.toList.zipIdx.all fun x => x.1.after.toList.all (fun e => !Region.binds .any e || Nat.blt e.on x.2) &&
    ops.toList.zipIdx.all fun y => !(Nat.blt x.2 y.2) || (b.getD y.2 0).testBit x.2 || x.1.apart ops y.1
def codeB (nt : Nat) : Code → Bool
  | .region _ ops draw => opsB nt ops && (!draw || drawB ops)
  | .seq a b => codeB nt a && codeB nt b
  | .cond _ a b => codeB nt a && codeB nt b
  | .block _ a => codeB nt a
  | .loop a => codeB nt a
  | _ => true
def loops : Code → List Code
  | .seq a b => loops a ++ loops b
  | .cond _ a b => loops a ++ loops b
  | .block _ a => loops a
  | .loop a => a :: loops a
  | _ => []

theorem opsB_spec {nt : Nat} {ops : Array Oper} (h : opsB nt ops = true) : ∀ o ∈ ops.toList, ∀ t, o.dst = some t → t < nt := by
  intro o ho t ht
  simp only [opsB, List.all_eq_true] at h
  have := h o ho
  rw [ht] at this
  simpa [Nat.blt_eq] using this

theorem drawB_spec {ops : Array Oper} (h : drawB ops = true) : DrawOK ops := by
  simp only [drawB, List.all_eq_true, Bool.and_eq_true] at h
  have mem : ∀ i o, ops[i]? = some o → (o, i) ∈ ops.toList.zipIdx := by
    intro i o hi
    rw [List.mem_zipIdx_iff_getElem?]
    rw [Array.getElem?_toList]; exact hi
  refine ⟨fun i o hi e he hb => ?_, fun i j oi oj hij hi hj => ?_⟩
  · have := (h (o, i) (mem i o hi)).1 e (by simpa using he)
    simpa [hb, Nat.blt_eq] using this
  · have := (h (oi, i) (mem i oi hi)).2 (oj, j) (mem j oj hj)
    simp only [Bool.or_eq_true, Bool.not_eq_true'] at this
    rcases this with (h1 | h1) | h1
    · have h2 : Nat.blt i j = true := by rw [Nat.blt_eq]; exact hij
      rw [h2] at h1; cases h1
    · exact .inl h1
    · exact .inr h1

/-- where code comes to -/
def ClearC (B : Nat → Bool) (c : Code) : Prop := ∀ t ∈ asgL c, B t = false
def CPost (T : Tab C) (B : Nat → Bool) (X : Cx) (nx : Nat) (lim : Lim) (h' : Heap C) (nx' : Nat) (env' : Env C) (a : Act) (Q : Act → World → Prop) : Prop :=
  ∀ a' X', G T X' h' nx' lim → Step X nx lim X' → EnvOK T X' nx' lim env' a'.tmps → a'.tmps.size = a.tmps.size → a'.defers = a.defers → Kp B a.tmps a'.tmps → Q a' X'.w

/-- what is asked of the functions, the summaries of functions and of loops -/
structure FLaws (P : Program) (T : Tab C) (Φ : Fns C) : Prop where
  fn : ∀ f fn, Φ.fn f = some fn → P.funcs[f]? = some fn ∧ (fn.name == "runtime.NumGoroutine") = false ∧ ∀ body, fn.body = some body → codeB fn.ntmps body = true
  spec : ∀ g s args d, Φ.spec g = some s → s args = some (true, d) → ∀ X h nx lim vs, G T X h nx lim → RVs T X args vs → (∀ a ∈ args, ∀ id ∈ D.refs a, old nx lim id) →
    (callFunc g ⟨vs⟩).run P X.w = .ok (.enter g ⟨vs⟩) X.w ∧ Calls P g ⟨vs⟩ X.w (CallPost T X nx lim h nx d)
  loop : ∀ f fn body b s, Φ.fn f = some fn → fn.body = some body → b ∈ loops body → Φ.loop f (firstRegion b) = some s → ∀ B, ClearC B b → ∀ X h nx lim e env x env' h' nx' tr a Q, G T X h nx lim → EnvOK T X nx lim env a.tmps → nx' ≤ lim.top → fn.ntmps ≤ a.tmps.size →
    Ex e (s env) h nx (x, env') h' nx' tr → CPost T B X nx lim h' nx' env' a (Q (exitX x)) → (Code.loop b).wp P Q a X.w

theorem eget_app : ∀ (env env' : Env C) (t : Nat), eget (env ++ env') t = eget env t ∨ eget (env ++ env') t = eget env' t
  | [], env', t => .inr rfl
  | (j, d) :: r, env', t => by
    rw [List.cons_append, eget_cons, eget_cons]
    split
    · exact .inl rfl
    · exact eget_app r env' t
theorem keepE_in {l : List Nat} {t : Nat} (h : l.any (Nat.beq t) = true) : ∀ env : Env C, eget (keepE l env) t = .top
  | [] => rfl
  | (j, d) :: r => by
    rw [keepE]
    cases hj : l.any (Nat.beq j) with
    | true => exact keepE_in h r
    | false =>
      simp only [cond_false]
      rw [eget_cons]
      have : t ≠ j := fun e => by rw [e, hj] at h; cases h
      simp only [this, if_false]
      exact keepE_in h r
theorem keepE_out {l : List Nat} {t : Nat} (h : l.any (Nat.beq t) = false) : ∀ env : Env C, eget (keepE l env) t = eget env t
  | [] => rfl
  | (j, d) :: r => by
    rw [keepE, eget_cons]
    cases hj : l.any (Nat.beq j) with
    | true =>
      have : t ≠ j := fun e => by rw [e, hj] at h; cases h
      simp only [this, if_false, cond_true]
      exact keepE_out h r
    | false =>
      simp only [cond_false]
      rw [eget_cons, keepE_out h r]

theorem EnvOK.cons_same {X : Cx} {nx : Nat} {lim : Lim} {env : Env C} {tmps : Array Value} {t : Nat} {d : D C} (he : EnvOK T X nx lim env tmps) (hd : eget env t = d) : EnvOK T X nx lim ((t, d) :: env) tmps := by
  intro u
  rw [eget_cons]
  by_cases hu : u = t
  · subst hu; simp only [if_true]; rw [← hd]; exact he u
  · simp only [hu, if_false]; exact he u

theorem mrgD_eq {b : Bool} : ∀ (x y d : D C), mrgD b x y = some d → d = bif b then x else y := by
  intro x
  induction x with
  | acons x xs i1 i2 =>
    intro y d h
    cases y with
    | acons y ys =>
      simp only [mrgD] at h
      cases h1 : mrgD b x y with
      | none => simp [h1] at h
      | some d1 =>
        cases h2 : mrgD b xs ys with
        | none => simp [h1, h2] at h
        | some d2 =>
          simp only [h1, h2, Option.some.injEq] at h
          rw [← h, i1 _ _ h1, i2 _ _ h2]
          cases b <;> rfl
    | _ => simp [mrgD] at h
  | sl t c l =>
    intro y d h
    cases y with
    | sl t' c' l' =>
      simp only [mrgD] at h
      split at h
      · rename_i e
        subst e
        simp only [Option.some.injEq] at h
        rw [← h]; cases b <;> rfl
      · cases h
    | _ => simp [mrgD] at h
  | arr t n l =>
    intro y d h
    cases y with
    | arr t' n' l' =>
      simp only [mrgD] at h
      split at h
      · rename_i e
        subst e
        split at h
        · rename_i e
          subst e
          simp only [Option.some.injEq] at h
          rw [← h]; cases b <;> rfl
        · cases h
      · cases h
    | _ => simp [mrgD] at h
  | tup ds i =>
    intro y d h
    cases y with
    | tup es => cases ds <;> cases es <;> simp [mrgD] at h; rw [← h]; cases b <;> rfl
    | _ => cases ds <;> simp [mrgD] at h
  | int k n =>
    intro y d h
    cases y with
    | int k' n' =>
      simp only [mrgD] at h
      split at h
      · rename_i e
        subst e
        simp only [Option.some.injEq] at h
        rw [← h]; cases b <;> rfl
      · cases h
    | _ => simp [mrgD] at h
  | _ => intro y d h; cases y <;> simp [mrgD] at h <;> rw [← h] <;> cases b <;> rfl

theorem mrgT_ok {X : Cx} {nx : Nat} {lim : Lim} {b : Bool} {x y d : D C} {v : Value} (h : mrgT b x y = some d) (hx : RO T X nx lim (bif b then x else y) v) : RO T X nx lim d v := by
  have key : d = .top ∨ mrgD b x y = some d := by
    unfold mrgT at h
    split at h
    · left; simpa using h.symm
    · left; simpa using h.symm
    · right; exact h
  rcases key with rfl | key
  · exact RO.mk (RV.top _ _ _) rfl
  · rw [mrgD_eq _ _ _ key]; exact hx

theorem mrgE_get {b : Bool} {x y env : Env C} {t : Nat} : ∀ {l : List Nat} {r : Env C}, mrgE b x y l = some r → (l.any (Nat.beq t) = true ∧ mrgT b (eget x t) (eget y t) = some (eget (r ++ env) t)) ∨ (l.any (Nat.beq t) = false ∧ eget (r ++ env) t = eget env t)
  | [], r, h => by simp [mrgE] at h; subst h; exact .inr ⟨rfl, rfl⟩
  | u :: l, r, h => by
    simp only [mrgE] at h
    cases h1 : mrgT b (eget x u) (eget y u) with
    | none => simp [h1] at h
    | some d =>
      cases h2 : mrgE b x y l with
      | none => simp [h1, h2] at h
      | some r' =>
        simp only [h1, h2, Option.some.injEq] at h
        subst h
        rw [List.cons_append, eget_cons]
        by_cases hu : t = u
        · subst hu
          left
          simp [h1]
        · have hb : Nat.beq t u = false := by cases hq : Nat.beq t u with
            | false => rfl
            | true => exact (hu (Nat.eq_of_beq_eq_true hq)).elim
          simp only [hu, if_false, List.any_cons, hb, Bool.false_or]
          exact mrgE_get h2

theorem mrgC_cases (m : Option (List Nat)) (env : Env C) (b : Bool) (p q : Pg C (Ev.X × Env C)) :
    mrgC m env b p q = .br b p q ∨ ∃ l x y r, p = .ret (.normal, x) ∧ q = .ret (.normal, y) ∧ mrgE b x y l = some r ∧ m = some l ∧ mrgC m env b p q = .ret (.normal, r ++ env) := by
  unfold mrgC
  cases m with
  | none => exact .inl rfl
  | some l =>
    simp only
    split
    · rename_i x y
      split
      · rename_i r hr
        exact .inr ⟨l, x, y, r, rfl, rfl, hr, rfl, rfl⟩
      · exact .inl rfl
    · exact .inl rfl

/-- the code's part -/
def CodeOK (P : Program) (T : Tab C) (Φ : Fns C) (n : Nat) : Prop := ∀ f fn body code, Φ.fn f = some fn → fn.body = some body → codeB fn.ntmps code = true → (∀ b ∈ loops code, b ∈ loops body) → ∀ B, ClearC B code →
  ∀ X h nx lim e env x env' h' nx' tr a Q, G T X h nx lim → EnvOK T X nx lim env a.tmps → nx' ≤ lim.top → fn.ntmps ≤ a.tmps.size → Ex e (evC T Φ n f code env) h nx (x, env') h' nx' tr → CPost T B X nx lim h' nx' env' a (Q (exitX x)) → code.wp P Q a X.w

def RoundsOK (P : Program) (T : Tab C) (Φ : Fns C) (n : Nat) : Prop := ∀ f fn body b, Φ.fn f = some fn → fn.body = some body → codeB fn.ntmps (.loop b) = true → (∀ b' ∈ loops (.loop b), b' ∈ loops body) → Φ.loop f (firstRegion b) = none → ∀ B, ClearC B b →
  ∀ X h nx lim e env x env' h' nx' tr a Q, G T X h nx lim → EnvOK T X nx lim env a.tmps → nx' ≤ lim.top → fn.ntmps ≤ a.tmps.size → Ex e (evC T Φ n f (.loop b) env) h nx (x, env') h' nx' tr → CPost T B X nx lim h' nx' env' a (Q (exitX x)) → Code.rounds P b Q n a X.w

variable (K : PLaws P T) (F : FLaws P T Φ)

theorem eargs_get : ∀ (l : List (D C)) (n t : Nat), eget (eargs n l) t = if n ≤ t then l.getD (t - n) .top else .top := by
  intro l
  induction l with
  | nil => intro n t; simp [eargs, eget]
  | cons d l ih =>
    intro n t
    rw [eargs, eget_cons, ih]
    by_cases h1 : t = n
    · subst h1; simp
    · by_cases h2 : n ≤ t
      · have h3 : n + 1 ≤ t := by omega
        have h4 : t - n = (t - (n + 1)) + 1 := by omega
        simp [h1, h2, h3, h4]
      · have h3 : ¬ n + 1 ≤ t := by omega
        simp [h1, h2, h3]

theorem RVs.get {X : Cx} {ds : List (D C)} {vs : List Value} (h : RVs T X ds vs) : ∀ t, RV T X (ds.getD t .top) (vs.getD t undef) := by
  induction h with
  | nil => intro t; simp; exact RV.top _ _ _
  | cons h _ ih => intro t; cases t with
    | zero => simpa using h
    | succ t => simpa using ih t

theorem RVs.mono' {X X' : Cx} {nx : Nat} {lim : Lim} (L : Laws T) (s : Step X nx lim X') {ds : List (D C)} {vs : List Value} (h : RVs T X ds vs) : (∀ d ∈ ds, ∀ id ∈ D.refs d, old nx lim id) → RVs T X' ds vs := by
  induction h with
  | nil => intro _; exact .nil
  | cons h _ ih =>
    intro ho
    exact .cons (RO.step L s (nx' := nx) ⟨h, ho _ (by simp)⟩ (Nat.le_refl _)).1 (ih fun d hd => ho d (by simp [hd]))

/-- results as one value -/
def oneD : List (D C) → D C
  | [] => .tup .anil
  | [d] => d
  | d :: e :: l => .tup (D.ofList (d :: e :: l))

theorem outD_eq (f : FuncId) (n0 : Nat) (env : Env C) (rs : List ResultVar) : outD T Φ f n0 env rs =
    .bind (resultD T env rs) fun l => bif Φ.keeps f then .ret (oneD l) else .bind (frz (oneD l)) fun d => .gc n0 d.refs (.ret d) := by
  unfold outD
  congr 1
  funext l
  match l with
  | [] => rfl
  | [_] => rfl
  | _ :: _ :: _ => rfl

theorem oneD_ok {X : Cx} {nx : Nat} {lim : Lim} : ∀ {l : List (D C)} {us : List Value}, RVs T X l us → (∀ d ∈ l, ∀ id ∈ D.refs d, old nx lim id) → RO T X nx lim (oneD l) (if h : us.toArray.size = 1 then us.toArray[0] else .tuple us.toArray)
  | [], [], _, _ => RO.mk (.mk rfl (.tup .vnil)) rfl
  | [d1], [u1], .cons r2 _, r3 => ⟨r2, r3 d1 (by simp)⟩
  | d1 :: d2 :: l, u1 :: u2 :: us, r2, r3 => by
    refine ⟨.mk rfl ?_, fun id hid => ?_⟩
    · have hne : ¬ (u1 :: u2 :: us).toArray.size = 1 := by simp
      simp only [hne, dif_neg, not_false_eq_true]
      exact .tup r2.row
    · obtain ⟨q, hq, hi⟩ := refs_ofList _ id (by simpa [D.refs, oneD] using hid); exact r3 q hq id hi

include K F

theorem enter_of_code {n : Nat} (hc : CodeOK P T Φ n) : CallOK P T (enterD T Φ (evC T Φ n)) := by
  intro g args vs X h nx lim e d h' nx' tr gg hargs hrefs hlim hx
  unfold enterD at hx
  cases hf : Φ.fn g with
  | none => simp only [hf] at hx; exact (Ex.fail hx).elim
  | some fn =>
    simp only [hf] at hx
    cases hb : fn.body with
    | none => simp only [hb] at hx; exact (Ex.fail hx).elim
    | some body =>
      simp only [hb] at hx
      have hx := Ex.cnt hx
      obtain ⟨⟨x, env1⟩, h1, n1, t1, t2, q1, q2, _⟩ := Ex.bind hx
      obtain ⟨f1, f2, f3⟩ := F.fn g fn hf
      have hle1 := Ex.le q1
      refine ⟨?_, ?_⟩
      · simp only [callFunc, Sem.run_bind]
        show ((match P.funcs[g]? with | none => _ | some fn => _ : Sem Next)).run P X.w = _
        rw [f1]
        simp [f2, hb]
      · refine calls_of_wp f1 hb (hc g fn body body hf hb (f3 body hb) (fun b hb => hb) (fun _ => false) (fun _ _ => rfl) X h nx lim e (eargs 0 args) x env1 h1 n1 t1 _ _ gg ?_ ?_ ?_ q1 ?_)
        · intro t
          rw [eargs_get]
          simp only [Nat.zero_le, if_true, Nat.sub_zero]
          refine ⟨?_, ?_⟩
          · have := hargs.get t
            by_cases ht : t < vs.length
            · have e1 : ((⟨vs⟩ : Array Value) ++ Array.replicate (fn.ntmps - (⟨vs⟩ : Array Value).size) undef).getD t undef = vs.getD t undef := by
                simp [Array.getD_eq_getD_getElem?, Array.getElem?_append, ht]
              rw [e1]; exact this
            · have : args.getD t .top = .top := by
                have := hargs.length
                simp [List.getD_eq_getElem?_getD]
                rw [List.getElem?_eq_none (by omega)]; rfl
              rw [this]; exact RV.top _ _ _
          · by_cases ht : t < args.length
            · have : args.getD t .top ∈ args := by
                simp [List.getD_eq_getElem?_getD, ht]
              exact hrefs _ this
            · have : args.getD t .top = .top := by
                simp [List.getD_eq_getElem?_getD]
                rw [List.getElem?_eq_none (by omega)]; rfl
              rw [this]; simp [D.refs]
        · have := Ex.le q2
          omega
        · simp; omega
        · intro a' X1 g1 s1 e1 _ hdef _
          have hout : Ex e (outD T Φ g nx env1 fn.results.toList) h1 n1 d h' nx' t2 → ∃ v, (results fn a'.tmps).run P X1.w = .ok v X1.w ∧ CallPost T X nx lim h' nx' d (.returned v) X1.w := by
            intro q2
            rw [outD_eq] at q2
            obtain ⟨l, h2, n2, t3, t4, q3, q4, _⟩ := Ex.bind q2
            obtain ⟨e2, e3, us, r1, r2, r3⟩ := results_ok K g1 e1 fn.results.toList q3
            have e2 := e2.symm
            have e3 := e3.symm
            subst e2
            subst e3
            have hrun : (results fn a'.tmps).run P X1.w = .ok (if h : us.toArray.size = 1 then us.toArray[0] else .tuple us.toArray) X1.w := by
              have hm : fn.results.mapM (resM a'.tmps) = List.toArray <$> fn.results.toList.mapM (resM a'.tmps) := by rw [Array.mapM_eq_mapM_toList]
              have e0 : results fn a'.tmps = (do let vs ← fn.results.mapM (resM a'.tmps); pure (if h : vs.size = 1 then vs[0] else .tuple vs)) := by
                unfold results
                congr 1
              rw [e0, hm]
              simp only [map_eq_pure_bind, bind_assoc, Sem.run_bind, r1, Result.andThen_ok, Sem.run_pure, pure_bind]
            have hdl : RO T X1 n1 lim (oneD l) (if h : us.toArray.size = 1 then us.toArray[0] else .tuple us.toArray) := oneD_ok r2 r3
            generalize hvv : (if h : us.toArray.size = 1 then us.toArray[0] else Value.tuple us.toArray) = vv at hrun hdl
            cases hk : Φ.keeps g with
            | true =>
              simp only [hk, cond_true] at q4
              obtain ⟨c1, c2, c3, _⟩ := Ex.ret q4
              rw [c1, c2, c3]
              exact ⟨_, hrun, _, X1, rfl, rfl, g1, s1, hdl⟩
            | false =>
              simp only [hk, cond_false] at q4
              obtain ⟨d2, h3, n3, t5, t6, q5, q6, _⟩ := Ex.bind q4
              obtain ⟨_, q7⟩ := Ex.gc q6
              obtain ⟨c1, c2, c3, _⟩ := Ex.ret q7
              rw [c1, c2, c3]
              have hfz : ∃ X2, X2.w = X1.w ∧ G T X2 h3 n1 lim ∧ Step X1 n1 lim X2 ∧ RV T X2 d2 vv ∧ n3 = n1 ∧ ∀ id ∈ d2.refs, old n1 lim id := by
                rcases hdl.1 with ⟨hrow, cs, hr, hv⟩ | ⟨hrow, hr⟩
                · obtain ⟨X2, a1, a2, a3, a4, a5, a6, a7⟩ := frz_ok K _ g1 hr hdl.2 q5
                  exact ⟨X2, a1, a2, a3, .inl ⟨a7.trans hrow, cs, a4, hv⟩, a5, a6⟩
                · obtain ⟨X2, a1, a2, a3, a4, a5, a6, a7⟩ := frz_ok K _ g1 hr hdl.2 q5
                  exact ⟨X2, a1, a2, a3, .inr ⟨a7.trans hrow, a4⟩, a5, a6⟩
              obtain ⟨X2, a1, a2, a3, a4, a5, a6⟩ := hfz
              rw [a5]
              obtain ⟨X3, b1, b2, b3, _⟩ := a2.drop K.base (h' := Heap.drop nx n1 d2.refs h3) (fun i => by rw [get_drop]; split <;> simp)
              exact ⟨_, hrun, _, X3, rfl, by rw [b1, a1], b2, (s1.trans a3 hle1).trans b3 hle1, RO.step K.base b3 ⟨a4, a6⟩ (Nat.le_refl _)⟩
          cases x with
          | normal =>
            obtain ⟨v, o1, o2⟩ := hout q2
            exact ⟨hdef, v, o1, o2⟩
          | ret =>
            obtain ⟨v, o1, o2⟩ := hout q2
            exact ⟨hdef, v, o1, o2⟩
          | exit id => exact (Ex.fail q2).elim

omit K F in
theorem CallPost.since {X X' : Cx} {nx nx' : Nat} {lim : Lim} {h' : Heap C} {d : D C} {en : Ending} {w' : World} (s : Step X nx lim X') (h : CallPost T X' nx lim h' nx' d en w') : CallPost T X nx lim h' nx' d en w' := by
  obtain ⟨v, Y, h1, h2, h3, h4, h5⟩ := h
  exact ⟨v, Y, h1, h2, h3, s.trans h4 (Nat.le_refl _), h5⟩

theorem call_of_code {n : Nat} (hc : CodeOK P T Φ n) : CallOK P T (callD T Φ (evC T Φ n)) := by
  intro g args vs X h nx lim e d h' nx' tr gg hargs hrefs hlim hx
  unfold callD at hx
  cases hs : Φ.spec g with
  | some s =>
    simp only [hs] at hx
    obtain ⟨args', h1, n1, t1, t2, q1, hx2, _⟩ := Ex.bind hx
    clear hx
    obtain ⟨X', w', g', s', r', hn, hrf⟩ := frzL_ok K args gg hargs hrefs q1
    subst hn
    cases hsa : s args' with
    | none => rw [hsa] at hx2; exact (Ex.fail hx2).elim
    | some bd =>
      obtain ⟨b, d0⟩ := bd
      rw [hsa] at hx2
      rcases Ex.br hx2 with ⟨rfl, hx2⟩ | ⟨rfl, hx2⟩
      · obtain ⟨rfl, rfl, rfl, rfl⟩ := Ex.ret hx2
        have := F.spec g s args' _ hs hsa X' _ _ lim vs g' r' hrf
        rw [w'] at this
        exact ⟨this.1, this.2.mono fun en w1 hp => CallPost.since s' hp⟩
      · exact (Ex.fail hx2).elim
  | none =>
    simp only [hs] at hx
    exact enter_of_code K F hc g args vs X h nx lim e d h' nx' tr gg hargs hrefs hlim hx

theorem code_ok : ∀ n, CodeOK P T Φ n ∧ RoundsOK P T Φ n := by
  intro n
  induction n with
  | zero =>
    refine ⟨?_, ?_⟩
    · intro f fn body code _ _ _ _ B _ X h nx lim e env x env' h' nx' tr a Q _ _ _ _ hx; exact (Ex.fail hx).elim
    · intro f fn body b _ _ _ _ _ B _ X h nx lim e env x env' h' nx' tr a Q _ _ _ _ hx; exact (Ex.fail hx).elim
  | succ n ih =>
    obtain ⟨ihC, ihR⟩ := ih
    have hcall := call_of_code K F ihC
    have hR : RoundsOK P T Φ (n + 1) := by
      intro f fn body b hf hb hcb hl hnone B hB X h nx lim e env x env' h' nx' tr a Q g he hlim hsz hx hk
      simp only [evC, loopC, hnone] at hx
      obtain ⟨⟨x1, env1⟩, h1, n1, t1, t2, q1, q2, _⟩ := Ex.bind hx
      have hle := Ex.le q2
      have hle1 := Ex.le q1
      rw [rounds_succ]
      refine ihC f fn body b hf hb (by simpa [codeB] using hcb) (fun b' hb' => hl b' (by simp [loops, hb'])) B hB X h nx lim e env x1 env1 h1 n1 t1 a _ g he (by omega) hsz q1 ?_
      intro a1 X1 g1 s1 e1 hs1 hd1 kp1
      cases x1 with
      | normal =>
        simp only [thenC] at q2
        exact ihR f fn body b hf hb hcb hl hnone B hB X1 h1 n1 lim e env1 x env' h' nx' t2 a1 Q g1 e1 hlim (by omega) q2 fun a2 X2 g2 s2 e2 hs2 hd2 kp2 => hk a2 X2 g2 (s1.trans s2 hle1) e2 (by omega) (by rw [hd2, hd1]) (kp1.trans kp2)
      | exit id =>
        obtain ⟨hxx, rfl, rfl, rfl⟩ := Ex.ret q2
        obtain ⟨rfl, rfl⟩ := Prod.mk.inj hxx
        exact hk a1 X1 g1 s1 e1 hs1 hd1 kp1
      | ret =>
        obtain ⟨hxx, rfl, rfl, rfl⟩ := Ex.ret q2
        obtain ⟨rfl, rfl⟩ := Prod.mk.inj hxx
        exact hk a1 X1 g1 s1 e1 hs1 hd1 kp1
    refine ⟨?_, hR⟩
    intro f fn body code hf hb hcb hl B hB X h nx lim e env x env' h' nx' tr a Q g he hlim hsz hx hk
    have done : ∀ x0, Ex e (.ret (x0, env) : Pg C (Ev.X × Env C)) h nx (x, env') h' nx' tr → Q (exitX x0) a X.w := by
      intro x0 hx
      obtain ⟨hxx, rfl, rfl, rfl⟩ := Ex.ret hx
      obtain ⟨rfl, rfl⟩ := Prod.mk.inj hxx
      exact hk a X g (.refl _ _ _) he rfl rfl (.refl _ _)
    cases code with
    | skip => exact wp_skip (done _ hx)
    | label l => exact wp_label (done _ hx)
    | ret => exact wp_ret (done _ hx)
    | exit id => exact wp_exit (done _ hx)
    | region id ops draw =>
      simp only [evC] at hx
      simp only [codeB, Bool.and_eq_true] at hcb
      have hdst : ∀ o ∈ ops.toList, ∀ t, o.dst = some t → t < a.tmps.size := fun o ho t ht => Nat.lt_of_lt_of_le (opsB_spec hcb.1 o ho t ht) hsz
      have hBo : ∀ o ∈ ops.toList, ∀ t, o.dst = some t → B t = false := fun o ho t ht => hB t (by simp only [asgL, List.mem_filterMap]; exact ⟨o, ho, ht⟩)
      cases draw with
      | true =>
        simp only [cond_true, drawC] at hx
        have hx := Ex.cnt hx
        obtain ⟨env1, h1, n1, t1, t2, q1, q2, _⟩ := Ex.bind hx
        obtain ⟨hxx, rfl, rfl, rfl⟩ := Ex.ret q2
        obtain ⟨rfl, rfl⟩ := Prod.mk.inj hxx
        exact draw_ok K hcall hBo K.order (drawB_spec (by simpa using hcb.2)) g he hlim hdst q1 hk
      | false =>
        simp only [cond_false, regC] at hx
        obtain ⟨env1, h1, n1, t1, t2, q1, q2, _⟩ := Ex.bind hx
        obtain ⟨hxx, rfl, rfl, rfl⟩ := Ex.ret q2
        obtain ⟨rfl, rfl⟩ := Prod.mk.inj hxx
        refine wp_region ?_
        rw [List.range_eq_range']
        have := evOps_ok K hcall hBo ops.toList 0 rfl g he hlim hdst q1 (Q := Q) hk
        simpa using this
    | seq c1 c2 =>
      simp only [evC] at hx
      simp only [codeB, Bool.and_eq_true] at hcb
      obtain ⟨⟨x1, env1⟩, h1, n1, t1, t2, q1, q2, _⟩ := Ex.bind hx
      have hle := Ex.le q2
      have hle1 := Ex.le q1
      refine wp_seq (ihC f fn body c1 hf hb hcb.1 (fun b hb => hl b (by simp [loops, hb])) B (fun t ht => hB t (by simp [asgL, ht])) X h nx lim e env x1 env1 h1 n1 t1 a _ g he (by omega) hsz q1 ?_)
      intro a1 X1 g1 s1 e1 hs1 hd1 kp1
      cases x1 with
      | normal =>
        simp only [thenC] at q2
        exact ihC f fn body c2 hf hb hcb.2 (fun b hb => hl b (by simp [loops, hb])) B (fun t ht => hB t (by simp [asgL, ht])) X1 h1 n1 lim e env1 x env' h' nx' t2 a1 Q g1 e1 hlim (by omega) q2 fun a2 X2 g2 s2 e2 hs2 hd2 kp2 => hk a2 X2 g2 (s1.trans s2 hle1) e2 (by omega) (by rw [hd2, hd1]) (kp1.trans kp2)
      | exit id =>
        obtain ⟨hxx, rfl, rfl, rfl⟩ := Ex.ret q2
        obtain ⟨rfl, rfl⟩ := Prod.mk.inj hxx
        exact hk a1 X1 g1 s1 e1 hs1 hd1 kp1
      | ret =>
        obtain ⟨hxx, rfl, rfl, rfl⟩ := Ex.ret q2
        obtain ⟨rfl, rfl⟩ := Prod.mk.inj hxx
        exact hk a1 X1 g1 s1 e1 hs1 hd1 kp1
    | cond c c1 c2 =>
      simp only [evC, condC] at hx
      simp only [codeB, Bool.and_eq_true] at hcb
      have side0 : ∀ (b : Bool) (env0 : Env C) (x0 : Ev.X) (env1 : Env C) (tr1 : Tr) (B' : Nat → Bool), (∀ t ∈ asgL c1 ++ asgL c2, B' t = false) → EnvOK T X nx lim env0 a.tmps → a.eval c = .bool b → Ex e (evC T Φ n f (if b then c1 else c2) env0) h nx (x0, env1) h' nx' tr1 →
          CPost T B' X nx lim h' nx' env1 a (Q (exitX x0)) → (Code.cond c c1 c2).wp P Q a X.w := by
        intro b env0 x0 env1 tr1 B' hB' he0 hc0 hx0 hk0
        refine wp_cond hc0 (ihC f fn body _ hf hb ?_ ?_ B' (fun t ht => hB' t (by cases b <;> simp at ht ⊢ <;> simp [ht])) X h nx lim e env0 x0 env1 h' nx' tr1 a Q g he0 hlim hsz hx0 hk0)
        · cases b <;> simp [hcb.1, hcb.2]
        · intro b' hb'; cases b <;> exact hl b' (by simp [loops] at hb' ⊢; simp [hb'])
      have side : ∀ (b : Bool) (env0 : Env C), EnvOK T X nx lim env0 a.tmps → a.eval c = .bool b → Ex e (evC T Φ n f (if b then c1 else c2) env0) h nx (x, env') h' nx' tr → (Code.cond c c1 c2).wp P Q a X.w := by
        intro b env0 he0 hc0 hx0
        refine wp_cond hc0 (ihC f fn body _ hf hb ?_ ?_ B (fun t ht => hB t (by cases b <;> simp [asgL] at ht ⊢ <;> simp [ht])) X h nx lim e env0 x env' h' nx' tr a Q g he0 hlim hsz hx0 hk)
        · cases b <;> simp [hcb.1, hcb.2]
        · intro b' hb'; cases b <;> exact hl b' (by simp [loops] at hb' ⊢; simp [hb'])
      cases c with
      | tmp t =>
        simp only at hx
        have het := he t
        generalize hq : eget env t = q at hx het
        cases q with
        | bool b =>
          simp only at hx
          have hv : a.eval (.tmp t) = .bool b := het.1.bool
          rcases mrgC_cases (bif pureC c1 && pureC c2 then some (asgL c1 ++ asgL c2) else none) env b (evC T Φ n f c1 ((t, .bool true) :: env)) (evC T Φ n f c2 ((t, .bool false) :: env)) with hm | ⟨l, x1, y1, r, hp1, hp2, hr, hml, hm⟩
          · rw [hm] at hx
            rcases Ex.br hx with ⟨rfl, hx⟩ | ⟨rfl, hx⟩
            · exact side true _ (he.cons_same hq) hv hx
            · exact side false _ (he.cons_same hq) hv hx
          · rw [hm] at hx
            obtain ⟨hxx, rfl, rfl, rfl⟩ := Ex.ret hx
            obtain ⟨rfl, rfl⟩ := Prod.mk.inj hxx
            have hl2 : l = asgL c1 ++ asgL c2 := by
              cases hpp : pureC c1 && pureC c2 with
              | false => simp [hpp] at hml
              | true => simpa [hpp] using hml.symm
            have hex : Ex e (evC T Φ n f (if b then c1 else c2) ((t, .bool b) :: env)) h' nx' (.normal, bif b then x1 else y1) h' nx' [] := by
              cases b with
              | true => simp only [if_true, hp1]; simp [Ex, Pg.run]
              | false => simp only [Bool.false_eq_true, if_false, hp2]; simp [Ex, Pg.run]
            refine side0 b ((t, .bool b) :: env) .normal (bif b then x1 else y1) [] (fun u => B u || !(l.any (Nat.beq u))) (fun u hu => ?_) (he.cons_same hq) hv hex ?_
            · have h1 : l.any (Nat.beq u) = true := List.any_eq_true.2 ⟨u, by rw [hl2]; exact hu, by simp⟩
              have h2 : B u = false := hB u (by simpa [asgL] using hu)
              simp only [h1, h2]; rfl
            · intro a1 X1 g1 s1 e1 hs1 hd1 kp1
              refine hk a1 X1 g1 s1 (fun u => ?_) hs1 hd1 (fun u hu => kp1 u (by simp [hu]))
              rcases mrgE_get (t := u) (env := env) hr with ⟨h1, h2⟩ | ⟨h1, h2⟩
              · refine mrgT_ok h2 ?_
                have := e1 u
                cases b <;> simpa using this
              · rw [h2, kp1 u (by simp only [h1]; simp)]
                exact (he u).step K.base s1 (Nat.le_refl _)
        | _ => exact (Ex.fail hx).elim
      | const v =>
        cases v with
        | bool b =>
          simp only at hx
          rcases Ex.br hx with ⟨rfl, hx⟩ | ⟨rfl, hx⟩
          · exact side true _ he rfl hx
          · exact side false _ he rfl hx
        | _ => exact (Ex.fail hx).elim
      | global q => exact (Ex.fail hx).elim
      | func q => exact (Ex.fail hx).elim
    | block id c =>
      simp only [evC] at hx
      obtain ⟨⟨x1, env1⟩, h1, n1, t1, t2, q1, q2, _⟩ := Ex.bind hx
      have hle := Ex.le q2
      refine wp_block (ihC f fn body c hf hb (by simpa [codeB] using hcb) (fun b hb => hl b (by simpa [loops] using hb)) B (fun t ht => hB t (by simpa [asgL] using ht)) X h nx lim e env x1 env1 h1 n1 t1 a _ g he (by omega) hsz q1 ?_)
      intro a1 X1 g1 s1 e1 hs1 hd1 kp1
      cases x1 with
      | normal =>
        obtain ⟨hxx, rfl, rfl, rfl⟩ := Ex.ret q2
        obtain ⟨rfl, rfl⟩ := Prod.mk.inj hxx
        exact hk a1 X1 g1 s1 e1 hs1 hd1 kp1
      | exit i =>
        simp only [inBlockC] at q2
        show (if i = id then Q .normal a1 X1.w else Q (.exit i) a1 X1.w)
        cases hi : Nat.beq i id with
        | true =>
          simp only [hi, cond_true] at q2
          obtain ⟨hxx, rfl, rfl, rfl⟩ := Ex.ret q2
          obtain ⟨rfl, rfl⟩ := Prod.mk.inj hxx
          have : i = id := Nat.eq_of_beq_eq_true hi
          simp only [this, if_true]
          exact hk a1 X1 g1 s1 e1 hs1 hd1 kp1
        | false =>
          simp only [hi, cond_false] at q2
          obtain ⟨hxx, rfl, rfl, rfl⟩ := Ex.ret q2
          obtain ⟨rfl, rfl⟩ := Prod.mk.inj hxx
          have : i ≠ id := Nat.ne_of_beq_eq_false hi
          simp only [this, if_false]
          exact hk a1 X1 g1 s1 e1 hs1 hd1 kp1
      | ret =>
        obtain ⟨hxx, rfl, rfl, rfl⟩ := Ex.ret q2
        obtain ⟨rfl, rfl⟩ := Prod.mk.inj hxx
        exact hk a1 X1 g1 s1 e1 hs1 hd1 kp1
    | loop c =>
      cases hs : Φ.loop f (firstRegion c) with
      | none => exact wp_loop_rounds (n + 1) (hR f fn body c hf hb hcb hl hs B (fun t ht => hB t (by simpa [asgL] using ht)) X h nx lim e env x env' h' nx' tr a Q g he hlim hsz hx hk)
      | some s =>
        simp only [evC, loopC, hs] at hx
        obtain ⟨⟨x1, env1⟩, h1, n1, t1, t2, q1, q2, _⟩ := Ex.bind hx
        obtain ⟨hxx, rfl, rfl, _⟩ := Ex.ret q2
        obtain ⟨rfl, rfl⟩ := Prod.mk.inj hxx
        have hle1 := Ex.le q1
        refine F.loop f fn body c s hf hb (hl c (by simp [loops])) hs (fun t => B t || !((asgL c).any (Nat.beq t))) (fun t ht => ?_) X h nx lim e env x env1 h' nx' t1 a Q g he hlim hsz q1 ?_
        · have h1 : (asgL c).any (Nat.beq t) = true := List.any_eq_true.2 ⟨t, ht, by simp⟩
          have h2 : B t = false := hB t (by simpa [asgL] using ht)
          simp only [h1, h2]; rfl
        · intro a1 X1 g1 s1 e1 hs1 hd1 kp1
          refine hk a1 X1 g1 s1 (fun t => ?_) hs1 hd1 (fun t ht => kp1 t (by simp [ht]))
          rcases eget_app env1 (keepE (asgL c) env) t with h1 | h1
          · rw [h1]; exact e1 t
          · rw [h1]
            cases hq : (asgL c).any (Nat.beq t) with
            | true => rw [keepE_in hq]; exact RO.mk (RV.top _ _ _) rfl
            | false =>
              rw [keepE_out hq, kp1 t (by simp only [hq]; simp)]
              exact (he t).step K.base s1 hle1
    | _ => exact (Ex.fail hx).elim

theorem enter_ok (n : Nat) : CallOK P T (enterD T Φ (evC T Φ n)) := enter_of_code K F (code_ok K F n).1
theorem call_ok (n : Nat) : CallOK P T (callD T Φ (evC T Φ n)) := call_of_code K F (code_ok K F n).1
end
end Go.Ev

/-
  Functions that are handed values without objects and give such: what the evaluator says of them holds in every world.
-/
namespace Go.Ev
set_option linter.unusedVariables false
set_option linter.unusedSimpArgs false

section
variable {C : Cdc} {P : Program} {T : Tab C} {Φ : Fns C}
open Pg (Ex)

theorem evF_ex {n : Nat} {f : FuncId} {args : List (D C)} {d : D C} (h : evF T Φ n f args = some d) : ∃ h' nx' tr, Ex (0, 0) (enterD T Φ (evC T Φ n) f args) [] 0 d h' nx' tr ∧ d.refs = [] := by
  unfold evF at h
  obtain ⟨a, h', n', t, h1, h2⟩ := Pg.run_some h
  cases hb : a.refs.isEmpty with
  | false => simp [hb] at h2
  | true =>
    simp only [hb, cond_true, Option.some.injEq] at h2
    subst h2
    exact ⟨h', n', t, h1, List.isEmpty_iff.1 hb⟩

theorem G.grow (L : Laws T) {X : Cx} {h : Heap C} {nx : Nat} {lim : Lim} (g : G T X h nx lim) (w' : World) (hsz : X.w.heap.size ≤ w'.heap.size) (hh : ∀ b, b < X.w.heap.size → w'.heap[b]? = X.w.heap[b]?) (h1 : w'.os = X.w.os) (h2 : w'.tape = X.w.tape) (h3 : w'.output = X.w.output)
    (h4 : ∀ a, w'.frozen? a = X.w.frozen? a) : G T ⟨w', X.ρ, X.O⟩ h nx lim ∧ Step X nx lim ⟨w', X.ρ, X.O⟩ := by
  have hs : Step X nx lim ⟨w', X.ρ, X.O⟩ := ⟨rfl, h1, h2, h3, hsz, fun _ _ => .refl _, fun _ _ _ hm => hm, fun b o hb _ => by simp [World.cell?, hh b hb], fun b hb _ => hh b hb, h4⟩
  have hc : ∀ n, Ch X ⟨w', X.ρ, X.O⟩ nx lim n := fun n => ⟨hs, fun _ _ => rfl, fun b c e f hb => ⟨c, by simp only; rw [hh b (Array.getElem?_eq_some_iff.1 hb).1]; exact hb, rfl, fun _ _ => rfl⟩⟩
  refine ⟨⟨?_, ?_, g.dom, g.nums, g.apart, ?_, ?_, g.low⟩, hs⟩
  · intro id t d ho
    by_cases hi : id = 0
    · exact (G.others L g (hc 1)).1 id t d (by omega) ho
    · exact (G.others L g (hc 0)).1 id t d hi ho
  · intro id t own l ho
    by_cases hi : id = 0
    · exact (G.others L g (hc 1)).2 id t own l (by omega) ho
    · exact (G.others L g (hc 0)).2 id t own l hi ho
  · intro b o hm; have := g.outer b o hm; exact ⟨this.1, by simp only; omega⟩
  · intro b o hm; have := g.outs b o hm; simp only at this ⊢; omega

def lim0 (n : Nat) : Lim := ⟨0, n, fun _ => False, fun _ _ _ h => h⟩

/-- an empty store of objects: nothing is one's own; 'O': what nobody is to touch -/
theorem G.start (w : World) (O : Nat → Nat → Prop) (hO : ∀ b o, O b o → b < w.heap.size) (n : Nat) : G T ⟨w, fun _ => none, O⟩ [] 0 (lim0 n) where
  var id t d h := by simp [Heap.get] at h
  vec id t own l h := by simp [Heap.get] at h
  dom id l h := by simp at h
  nums id o h := by simp [Heap.get] at h
  apart id id' l l' b o o' h := by simp at h
  outer b o h := by obtain ⟨_, _, h, _⟩ := h; simp at h
  outs := hO
  low := Nat.le_refl _

variable (K : PLaws P T) (F : FLaws P T Φ)
include K F

/-- from a bare world: the answer, and that nothing that was there is touched -/
theorem evF_calls {n : Nat} {f : FuncId} {args : List (D C)} {d : D C} (h : evF T Φ n f args = some d) (hargs : ∀ a ∈ args, D.refs a = []) (w : World) (O : Nat → Nat → Prop) (hO : ∀ b o, O b o → b < w.heap.size) {vs : List Value}
    (hvs : RVs T ⟨w, fun _ => none, O⟩ args vs) : (callFunc f ⟨vs⟩).run P w = .ok (.enter f ⟨vs⟩) w ∧ Calls P f ⟨vs⟩ w fun en w' =>
      ∃ v ρ, en = .returned v ∧ RV T ⟨w', ρ, O⟩ d v ∧ w.heap.size ≤ w'.heap.size ∧ (∀ b, b < w.heap.size → w'.heap[b]? = w.heap[b]?) ∧ w'.os = w.os ∧ w'.tape = w.tape ∧ w'.output = w.output ∧ (∀ a, w'.frozen? a = w.frozen? a) := by
  obtain ⟨h', nx', tr, hx, hd⟩ := evF_ex h
  have g := G.start (T := T) w O hO nx'
  obtain ⟨q1, q2⟩ := enter_ok K F n f args vs _ _ _ _ _ _ _ _ _ g hvs (fun a ha id hid => by rw [hargs a ha] at hid; simp at hid) (Nat.le_refl _) hx
  refine ⟨q1, q2.mono fun en w' hp => ?_⟩
  obtain ⟨v, X', rfl, rfl, g', s', r'⟩ := hp
  have hO' : X'.O = O := s'.O
  refine ⟨v, X'.ρ, rfl, ?_, s'.size, fun b hb => s'.block b hb (fun o hm => by obtain ⟨_, _, hq, _⟩ := hm; simp at hq), s'.os, s'.tape, s'.output, s'.frz⟩
  rw [← hO']
  exact r'.1

/-- as a summary -/
theorem evF_spec {n : Nat} {f : FuncId} {args : List (D C)} {d : D C} (h : evF T Φ n f args = some d) (hargs : ∀ a ∈ args, D.refs a = []) {X : Cx} {hp : Heap C} {nx : Nat} {lim : Lim} {vs : List Value} (g : G T X hp nx lim) (hvs : RVs T X args vs) :
    (callFunc f ⟨vs⟩).run P X.w = .ok (.enter f ⟨vs⟩) X.w ∧ Calls P f ⟨vs⟩ X.w (CallPost T X nx lim hp nx d) := by
  have hd : d.refs = [] := by obtain ⟨_, _, _, _, hd⟩ := evF_ex h; exact hd
  have hkeep : ∀ b o v, X.w.cell? ⟨b, o, none⟩ = some v → X.free b o → X.w.cell? ⟨b, o, none⟩ = some v ∧ Cx.free ⟨X.w, fun _ => none, fun b o => X.O b o ∨ X.mine b o⟩ b o :=
    fun b o v hc hf => ⟨hc, fun h => h.elim hf.1 hf.2, fun ⟨_, _, hq, _⟩ => by simp at hq⟩
  have hvs0 : RVs T ⟨X.w, fun _ => none, fun b o => X.O b o ∨ X.mine b o⟩ args vs := by
    clear h
    induction hvs with
    | nil => exact .nil
    | @cons d ds v vs hv _ ih =>
      refine .cons (hv.mono T K.base.encRefs (X' := ⟨X.w, fun _ => none, fun b o => X.O b o ∨ X.mine b o⟩) hkeep fun id hi => ?_) (ih fun a ha => hargs a (by simp [ha]))
      rw [hargs d (by simp)] at hi; simp at hi
  obtain ⟨q1, q2⟩ := evF_calls K F h hargs X.w (fun b o => X.O b o ∨ X.mine b o) (fun b o ho => ho.elim (g.outs b o) fun hm => (g.outer b o hm).2) hvs0
  refine ⟨q1, q2.mono fun en w' hpp => ?_⟩
  obtain ⟨v, ρ, rfl, r, a1, a2, a3, a4, a5, a6⟩ := hpp
  obtain ⟨g', s'⟩ := g.grow K.base w' a1 a2 a3 a4 a5 a6
  refine ⟨v, ⟨w', X.ρ, X.O⟩, rfl, rfl, g', s', ?_, by rw [hd]; simp⟩
  refine RV.mono T (X := ⟨w', ρ, fun b o => X.O b o ∨ X.mine b o⟩) (X' := ⟨w', X.ρ, X.O⟩) K.base.encRefs (h := r) (fun b o u hc hf => ⟨hc, fun ho => hf.1 (Or.inl ho), fun hm => hf.1 (Or.inr hm)⟩) fun id hi => ?_
  rw [hd] at hi; simp at hi
end
end Go.Ev

/-
  A table laid as a tree of rows; what a check of its rows against the program gives.
-/
namespace Go.Ev
set_option linter.unusedVariables false
set_option linter.unusedSimpArgs false

inductive Tree (α : Type) where
  | nil
  | node (k : Nat) (a : α) (l r : Tree α)

namespace Tree
variable {α : Type}
def get (u : Nat) : Tree α → Option α
  | .nil => none
  | .node k a l r => bif Nat.blt u k then l.get u else bif Nat.blt k u then r.get u else some a
def all (p : Nat → α → Bool) : Tree α → Bool
  | .nil => true
  | .node k a l r => p k a && l.all p && r.all p
theorem get_all {p : Nat → α → Bool} {u : Nat} {a : α} : ∀ {t : Tree α}, t.all p = true → t.get u = some a → p u a = true
  | .nil, _, h => by simp [get] at h
  | .node k b l r, h, hg => by
    simp only [all, Bool.and_eq_true] at h
    simp only [get] at hg
    cases h1 : Nat.blt u k with
    | true => rw [h1] at hg; exact get_all h.1.2 hg
    | false =>
      rw [h1] at hg
      cases h2 : Nat.blt k u with
      | true => rw [h2] at hg; exact get_all h.2 hg
      | false =>
        rw [h2] at hg
        simp only [cond_false, Option.some.injEq] at hg
        have e1 : ¬ u < k := by rw [← Nat.blt_eq, h1]; simp
        have e2 : ¬ k < u := by rw [← Nat.blt_eq, h2]; simp
        obtain rfl : u = k := by omega
        rw [← hg]; exact h.1.1
end Tree

section
variable {C : Cdc}

structure Row (C : Cdc) where
  g : GT C
  size : Nat
  bytes : Nat
  zero : Option (D C)

structure Cod (C : Cdc) where
  enc : (t : C.Ty) → C.A t → D C
  dec : (t : C.Ty) → D C → Option (C.A t)
  dflt : (t : C.Ty) → C.A t
  ety : C.Ty → TypeId
  eqb : (t : C.Ty) → C.A t → C.A t → Option Bool
  u8s : (t : C.Ty) → Option (List (C.A t) → List UInt8)
  ofU8s : (t : C.Ty) → Option (List UInt8 → List (C.A t))

def mkTab (cd : Cod C) (t : Tree (Row C)) : Tab C where
  ty u := match t.get u with | some r => r.g | none => .none
  size u := match t.get u with | some r => r.size | none => 0
  bytes u := match t.get u with | some r => r.bytes | none => 0
  enc := cd.enc
  dec := cd.dec
  dflt := cd.dflt
  ety := cd.ety
  eqb := cd.eqb
  zero u := match t.get u with | some r => r.zero | none => none
  u8s := cd.u8s
  ofU8s := cd.ofU8s

def gtB : GT C → GT C → Bool
  | .bool, .bool | .str, .str | .fn, .fn => true
  | .int k, .int k' => decide (k = k')
  | .struct a fs, .struct a' fs' => a == a' && fs == fs'
  | .arr n e t, .arr n' e' t' => Nat.beq n n' && Nat.beq e e' && decide (t = t')
  | .sl e t, .sl e' t' => Nat.beq e e' && decide (t = t')
  | .ptr e, .ptr e' => Nat.beq e e'
  | _, _ => false
theorem gtB_eq {a b : GT C} (h : gtB a b = true) : a = b := by
  cases a <;> cases b <;> simp_all [gtB]

variable (P : Program) (T : Tab C)

def zRl {t : C.Ty} (f : D C → List Value → Option (List Value)) : List (C.A t) → List Value → Option (List Value)
  | [], cs => some cs
  | x :: l, cs => match f (T.enc t x) cs with
    | some r => zRl f l r
    | none => none

def zR : Nat → D C → List Value → Option (List Value)
  | 0, _, _ => none
  | n + 1, d, cs => match d, cs with
    | .bool b, .bool b' :: r => bif b == b' then some r else none
    | .int k m, .int k' m' :: r => bif decide (k = k') && m == m' && decide (k.min ≤ m) && decide (m ≤ k.max) then some r else none
    | .str s, .string s' :: r => bif s == s'.data.toList then some r else none
    | .anil, cs => some cs
    | .acons d ds, cs => match zR n d cs with
      | some r => zR n ds r
      | none => none
    | .arr t m l, cs => bif Nat.beq m l.length then zRl T (zR n) l cs else none
    | .nils, .slice none 0 0 :: r => some r
    | .sl _ _ [], .slice none 0 0 :: r => some r
    | .nilp, .pointer none :: r => some r
    | .nilfn, .nilFunc :: r => some r
    | _, _ => none

variable {P T}

theorem zRl_ok {X : Cx} {t : C.Ty} {f : D C → List Value → Option (List Value)} (hf : ∀ d cs r, f d cs = some r → ∃ c1, cs = c1 ++ r ∧ R T X false d c1) : ∀ (l : List (C.A t)) (cs r : List Value), zRl T f l cs = some r → ∃ c1, cs = c1 ++ r ∧ R T X false (.arr t l.length l) c1
  | [], cs, r, h => by simp [zRl] at h; exact ⟨[], by simp [h], .arr0 _⟩
  | x :: l, cs, r, h => by
    simp only [zRl] at h
    cases hq : f (T.enc t x) cs with
    | none => simp [hq] at h
    | some r1 =>
      simp only [hq] at h
      obtain ⟨c1, e1, k1⟩ := hf _ _ _ hq
      obtain ⟨c2, e2, k2⟩ := zRl_ok hf l r1 r h
      exact ⟨c1 ++ c2, by rw [e1, e2, List.append_assoc], .arrS k1 k2⟩

theorem zR_ok {X : Cx} : ∀ (n : Nat) (d : D C) (cs r : List Value), zR T n d cs = some r → ∃ c1, cs = c1 ++ r ∧ R T X false d c1 := by
  intro n
  induction n with
  | zero => intro d cs r h; simp [zR] at h
  | succ n ih =>
    intro d cs r h
    unfold zR at h
    split at h
    · rename_i b b' q
      cases hb : (b == b') with
      | false => simp [hb] at h
      | true => simp [hb] at h; subst h; have := eq_of_beq hb; subst this; exact ⟨[.bool b], rfl, .bool b⟩
    · rename_i k m k' m' q
      cases hb : (decide (k = k') && m == m' && decide (k.min ≤ m) && decide (m ≤ k.max)) with
      | false => simp [hb] at h
      | true =>
        simp only [hb, cond_true, Option.some.injEq] at h
        subst h
        simp only [Bool.and_eq_true, decide_eq_true_eq, beq_iff_eq] at hb
        obtain ⟨⟨⟨rfl, rfl⟩, h1⟩, h2⟩ := hb
        exact ⟨[.int k m], rfl, .int ⟨h1, h2⟩⟩
    · rename_i s s' q
      cases hb : (s == s'.data.toList) with
      | false => simp [hb] at h
      | true =>
        simp only [hb, cond_true, Option.some.injEq] at h
        subst h
        have := eq_of_beq hb
        subst this
        exact ⟨[.string s'], rfl, .str _⟩
    · simp at h; exact ⟨[], by simp [h], .anil⟩
    · rename_i d ds
      cases hq : zR T n d cs with
      | none => simp [hq] at h
      | some r1 =>
        simp only [hq] at h
        obtain ⟨c1, e1, k1⟩ := ih _ _ _ hq
        obtain ⟨c2, e2, k2⟩ := ih _ _ _ h
        exact ⟨c1 ++ c2, by rw [e1, e2, List.append_assoc], .acons k1 k2⟩
    · rename_i t m l
      cases hb : Nat.beq m l.length with
      | false => simp [hb] at h
      | true =>
        simp only [hb, cond_true] at h
        have := Nat.eq_of_beq_eq_true hb
        subst this
        exact zRl_ok ih l _ _ h
    · simp at h; subst h; exact ⟨[.slice none 0 0], rfl, .nils⟩
    · simp at h; subst h; exact ⟨[.slice none 0 0], rfl, .sl0 _ _ _⟩
    · simp at h; subst h; exact ⟨[.pointer none], rfl, .nilp⟩
    · simp at h; subst h; exact ⟨[.nilFunc], rfl, .nilfn⟩
    · simp at h

variable (P T)
def zB (d : D C) (cs : List Value) : Bool := match zR T 50 d cs with
  | some [] => true
  | _ => false
variable {P T}
theorem zB_ok {d : D C} {cs : List Value} (h : zB T d cs = true) (X : Cx) : R T X false d cs := by
  unfold zB at h
  split at h
  · rename_i hq
    obtain ⟨c1, e1, k1⟩ := zR_ok (X := X) _ _ _ _ hq
    simp at e1; rw [e1]; exact k1
  · cases h

variable (P T)
def elemB (e : TypeId) (t : C.Ty) : Bool :=
  gtB (T.ty e) (T.ty (T.ety t)) && Nat.beq (T.size e) (T.size (T.ety t)) && match P.info? e with
  | some i => Nat.beq i.size (T.size e) && Nat.beq i.bytes (T.bytes e) && Nat.blt 0 (T.bytes e) && Nat.blt 0 (T.size e) && match i.zero with
    | some z => Nat.beq z.cells.size (T.size e) && zB T (T.enc t (T.dflt t)) z.cells.toList
    | none => false
  | none => false

def offsB : List Field → Nat → Bool
  | [], _ => true
  | f :: fs, n => Nat.beq f.offset n && offsB fs (n + T.size f.type)

def shapeB (u : TypeId) (g : GT C) (size : Nat) : Bool := match g, P.underlying u with
  | .bool, some .bool => Nat.beq size 1
  | .int k, some (.int k') => decide (k = k') && Nat.beq size 1
  | .str, some .string => Nat.beq size 1
  | .struct false fs, some (.struct fields) => (fields.toList.map (·.type) == fs) && Nat.beq size (sumSz T fs) && offsB T fields.toList 0 && !P.stoodInHeld u && !P.eqGuardType P.depth u && fields.toList.all (fun f => f.name != "_") &&
      fs.all (fun f => match P.info? f with | some i => Nat.beq i.size (T.size f) && Nat.blt 0 (T.size f) | none => false)
  | .struct true fs, some (.array n e) => Nat.beq fs.length n && (fs == List.replicate fs.length e) && Nat.blt 0 fs.length && Nat.beq size (sumSz T fs) && (match P.info? e with | some i => Nat.beq i.size (T.size e) | none => false)
  | .arr n e t, some (.array n' e') => Nat.beq n n' && Nat.beq e e' && !P.eqGuardType P.depth u && Nat.beq size (n * T.size e) && elemB P T e t
  | .sl e t, some (.slice e') => Nat.beq e e' && Nat.beq size 1 && elemB P T e t
  | .ptr e, some (.pointer e') => Nat.beq e e' && Nat.beq size 1
  | .fn, some (.func _ _ _) => Nat.beq size 1
  | _, _ => false

def rowB (u : TypeId) (r : Row C) : Bool :=
  Nat.blt 0 r.size && (match P.info? u with
    | some i => Nat.beq i.size r.size && (match r.zero with
      | none => true
      | some z => match i.zero with
        | some v => z.refs.isEmpty && zB T z v.cells.toList
        | none => false)
    | none => false) && shapeB P T u r.g r.size
variable {P T}

theorem offsB_spec : ∀ (fs : List Field) (n : Nat), offsB T fs n = true → ∀ (i : Nat) (f : Field), fs[i]? = some f → f.offset = n + sumSz T ((fs.map (·.type)).take i)
  | [], n, h, i, f, hf => by simp at hf
  | g :: fs, n, h, i, f, hf => by
    simp only [offsB, Bool.and_eq_true] at h
    cases i with
    | zero => simp at hf; subst hf; simp [sumSz, Nat.eq_of_beq_eq_true h.1]
    | succ i =>
      have := offsB_spec fs _ h.2 i f (by simpa using hf)
      rw [this]; simp [sumSz]; omega

theorem elemB_spec {e : TypeId} {t : C.Ty} (h : elemB P T e t = true) : (T.ty e = T.ty (T.ety t) ∧ T.size e = T.size (T.ety t)) ∧ ∃ i z, P.info? e = some i ∧ i.size = T.size e ∧ i.bytes = T.bytes e ∧ 0 < T.bytes e ∧ 0 < T.size e ∧ i.zero = some z ∧ z.cells.size = T.size e ∧
    ∀ X, R T X false (T.enc t (T.dflt t)) z.cells.toList := by
  simp only [elemB, Bool.and_eq_true] at h
  obtain ⟨⟨h1, h2⟩, h3⟩ := h
  refine ⟨⟨gtB_eq h1, Nat.eq_of_beq_eq_true h2⟩, ?_⟩
  cases hi : P.info? e with
  | none => simp [hi] at h3
  | some i =>
    simp only [hi, Bool.and_eq_true] at h3
    obtain ⟨⟨⟨⟨a1, a2⟩, a3⟩, a4⟩, a5⟩ := h3
    cases hz : i.zero with
    | none => simp [hz] at a5
    | some z =>
      simp only [hz, Bool.and_eq_true] at a5
      exact ⟨i, z, rfl, Nat.eq_of_beq_eq_true a1, Nat.eq_of_beq_eq_true a2, by simpa [Nat.blt_eq] using a3, by simpa [Nat.blt_eq] using a4, hz, Nat.eq_of_beq_eq_true a5.1, zB_ok a5.2⟩

/-- what a codec must meet by itself -/
structure CLaws (T : Tab C) : Prop where
  encRefs : ∀ t x, (T.enc t x).refs = []
  encFit : ∀ t x, fit T (T.enc t x) (.inl (T.ety t)) = true
  decR : ∀ X t d x cs, T.dec t d = some x → R T X false d cs → R T X false (T.enc t x) cs
  eqb : ∀ t a b r, T.eqb t a b = some r → eqS (T.enc t a) (T.enc t b) = some r
  u8s : ∀ t f l, T.u8s t = some f → bytesOf T l = some (f l)
  ofU8s : ∀ t g l, T.ofU8s t = some g → (g l).map (T.enc t) = l.map fun b => .int .u8 (b.toNat : Int)

theorem mkLaws {cd : Cod C} {t : Tree (Row C)} (h : t.all (rowB P (mkTab cd t)) = true) (hc : CLaws (mkTab cd t)) (ho : P.follows .mixedOrders = true) : PLaws P (mkTab cd t) := by
  have row : ∀ u, (mkTab cd t).ty u ≠ .none → ∃ r, t.get u = some r ∧ rowB P (mkTab cd t) u r = true ∧ (mkTab cd t).ty u = r.g ∧ (mkTab cd t).size u = r.size ∧ (mkTab cd t).zero u = r.zero := by
    intro u hu
    cases hg : t.get u with
    | none => exact (hu (by simp [mkTab, hg])).elim
    | some r => exact ⟨r, rfl, Tree.get_all h hg, by simp [mkTab, hg], by simp [mkTab, hg], by simp [mkTab, hg]⟩
  have shape : ∀ u, (mkTab cd t).ty u ≠ .none → shapeB P (mkTab cd t) u ((mkTab cd t).ty u) ((mkTab cd t).size u) = true ∧ 0 < (mkTab cd t).size u ∧ ∃ i, P.info? u = some i ∧ i.size = (mkTab cd t).size u := by
    intro u hu
    obtain ⟨r, _, h1, h2, h3, _⟩ := row u hu
    simp only [rowB, Bool.and_eq_true] at h1
    obtain ⟨⟨a1, a2⟩, a3⟩ := h1
    refine ⟨by rw [h2, h3]; exact a3, by rw [h3]; simpa [Nat.blt_eq] using a1, ?_⟩
    cases hi : P.info? u with
    | none => simp [hi] at a2
    | some i => simp only [hi, Bool.and_eq_true] at a2; exact ⟨i, rfl, by rw [h3]; exact Nat.eq_of_beq_eq_true a2.1⟩
  generalize hT : mkTab cd t = T at *
  have sh : ∀ u g, T.ty u = g → g ≠ .none → shapeB P T u g (T.size u) = true := fun u g hg hn => by have := (shape u (by rw [hg]; exact hn)).1; rw [hg] at this; exact this
  have sBool : ∀ u, T.ty u = .bool → P.underlying u = some .bool ∧ T.size u = 1 := fun u hu => by
    have := sh u _ hu (by simp)
    unfold shapeB at this
    split at this <;> simp_all
  have sInt : ∀ u k, T.ty u = .int k → P.underlying u = some (.int k) ∧ T.size u = 1 := fun u k hu => by
    have := sh u _ hu (by simp)
    unfold shapeB at this
    split at this <;> simp_all
  have sStr : ∀ u, T.ty u = .str → P.underlying u = some .string ∧ T.size u = 1 := fun u hu => by
    have := sh u _ hu (by simp)
    unfold shapeB at this
    split at this <;> simp_all
  have sPtr : ∀ u e, T.ty u = .ptr e → P.underlying u = some (.pointer e) ∧ T.size u = 1 := fun u k hu => by
    have := sh u _ hu (by simp)
    unfold shapeB at this
    split at this <;> simp_all
  have sFn : ∀ u, T.ty u = .fn → (∃ a b c, P.underlying u = some (.func a b c)) ∧ T.size u = 1 := fun u hu => by
    have := sh u _ hu (by simp)
    unfold shapeB at this
    split at this <;> simp_all
  have sArr : ∀ u n e t, T.ty u = .arr n e t → P.underlying u = some (.array n e) ∧ P.eqGuardType P.depth u = false ∧ T.size u = n * T.size e ∧ elemB P T e t = true := fun u n e t hu => by
    have := sh u _ hu (by simp)
    unfold shapeB at this
    split at this <;> simp_all
    obtain ⟨⟨⟨⟨_, e1⟩, _⟩, _⟩, h⟩ := this
    rw [← e1]; exact h
  have sSl : ∀ u e t, T.ty u = .sl e t → P.underlying u = some (.slice e) ∧ T.size u = 1 ∧ elemB P T e t = true := fun u e t hu => by
    have := sh u _ hu (by simp)
    unfold shapeB at this
    split at this <;> simp_all
    obtain ⟨⟨e1, _⟩, h⟩ := this
    rw [← e1]; exact h
  have sSt : ∀ u fs, T.ty u = .struct false fs → ∃ fields : Array Field, P.underlying u = some (.struct fields) ∧ fields.toList.map (·.type) = fs ∧ T.size u = sumSz T fs ∧ offsB T fields.toList 0 = true ∧ P.stoodInHeld u = false ∧ P.eqGuardType P.depth u = false ∧
      (∀ f ∈ fields.toList, f.name ≠ "_") ∧ ∀ f ∈ fs, ∃ i, P.info? f = some i ∧ i.size = T.size f ∧ 0 < T.size f := fun u fs hu => by
    have := sh u _ hu (by simp)
    unfold shapeB at this
    split at this
    case h_4 fs' fields e1 e2 =>
      simp only [GT.struct.injEq, true_and] at e1
      subst e1
      simp only [Bool.and_eq_true, Bool.not_eq_true', List.all_eq_true] at this
      obtain ⟨⟨⟨⟨⟨⟨a1, a2⟩, a3⟩, a4⟩, a5⟩, a6⟩, a7⟩ := this
      refine ⟨fields, e2, eq_of_beq a1, Nat.eq_of_beq_eq_true a2, a3, a4, a5, fun f hf => by simpa using a6 f hf, fun f hf => ?_⟩
      have := a7 f hf
      cases hi : P.info? f with
      | none => simp [hi] at this
      | some i => simp only [hi, Bool.and_eq_true] at this; exact ⟨i, rfl, Nat.eq_of_beq_eq_true this.1, by simpa [Nat.blt_eq] using this.2⟩
    all_goals simp_all
  have sRow : ∀ u fs, T.ty u = .struct true fs → T.size u = sumSz T fs ∧ ∃ e, P.underlying u = some (.array fs.length e) ∧ fs = List.replicate fs.length e ∧ 0 < fs.length ∧ ∃ i, P.info? e = some i ∧ i.size = T.size e := fun u fs hu => by
    have := sh u _ hu (by simp)
    unfold shapeB at this
    split at this
    case h_5 fs' n e e1 e2 =>
      simp only [GT.struct.injEq, true_and] at e1
      subst e1
      simp only [Bool.and_eq_true] at this
      obtain ⟨⟨⟨⟨a1, a2⟩, a3⟩, a4⟩, a5⟩ := this
      have a1 := Nat.eq_of_beq_eq_true a1
      refine ⟨Nat.eq_of_beq_eq_true a4, e, by rw [e2, a1], eq_of_beq a2, by simpa [Nat.blt_eq] using a3, ?_⟩
      cases hi : P.info? e with
      | none => simp [hi] at a5
      | some i => simp only [hi] at a5; exact ⟨i, rfl, Nat.eq_of_beq_eq_true a5⟩
    all_goals simp_all
  refine ⟨⟨hc.encRefs, hc.encFit, hc.decR, hc.u8s, hc.ofU8s, ?_, ?_, ?_, fun u hu => (sBool u hu).2, fun u k hu => (sInt u k hu).2, fun u hu => (sStr u hu).2, fun u e hu => (sPtr u e hu).2, fun u hu => (sFn u hu).2, fun u hu => (shape u (fun h => hu h)).2.1⟩,
    fun u hu => (sBool u hu).1, fun u k hu => (sInt u k hu).1, fun u hu => (sStr u hu).1, ?_, ?_, fun u fs hu => (sRow u fs hu).2, ?_, fun u e t hu => (sSl u e t hu).1, ?_, fun u e hu => (sPtr u e hu).1, fun u hu => (sFn u hu).1, ?_, ?_, hc.eqb, ho⟩
  · intro u a fs hu
    cases a with
    | false => obtain ⟨_, _, _, h3, _⟩ := sSt u fs hu; exact h3
    | true => exact (sRow u fs hu).1
  · intro u n e t hu; obtain ⟨_, _, h3, h4⟩ := sArr u n e t hu; exact ⟨h3, (elemB_spec h4).1⟩
  · intro u e t hu; obtain ⟨_, h3, h4⟩ := sSl u e t hu; exact ⟨h3, (elemB_spec h4).1⟩
  · intro u fs hu
    obtain ⟨fields, h1, h2, _, h4, h5, h6, h7, _⟩ := sSt u fs hu
    refine ⟨fields, h1, h2, fun i f hf => ?_, h5, h6, h7⟩
    have := offsB_spec fields.toList 0 h4 i f (by rw [Array.getElem?_toList]; exact hf)
    rw [this, h2]; simp
  · intro u fs f hu hf; obtain ⟨_, _, _, _, _, _, _, _, h8⟩ := sSt u fs hu; exact h8 f hf
  · intro u n e t hu; obtain ⟨h1, h2, _⟩ := sArr u n e t hu; exact ⟨h1, h2⟩
  · rintro u e t (⟨n, hu⟩ | hu)
    · exact (elemB_spec (sArr u n e t hu).2.2.2).2
    · exact (elemB_spec (sSl u e t hu).2.2).2
  · intro u d hf
    refine (shape u (fun hn => ?_)).2.2
    cases d <;> simp [fit, hn] at hf
  · intro u z hz
    subst hT
    cases hg : t.get u with
    | none => simp [mkTab, hg] at hz
    | some r =>
      have hr := Tree.get_all h hg
      have hz' : r.zero = some z := by simpa [mkTab, hg] using hz
      simp only [rowB, Bool.and_eq_true] at hr
      obtain ⟨⟨a1, a2⟩, a3⟩ := hr
      cases hi : P.info? u with
      | none => simp [hi] at a2
      | some i =>
        simp only [hi, Bool.and_eq_true, hz'] at a2
        cases hv : i.zero with
        | none => simp [hv] at a2
        | some v =>
          simp only [hv, Bool.and_eq_true] at a2
          exact ⟨i, v, rfl, hv, List.isEmpty_iff.1 a2.2.1, zB_ok a2.2.2⟩
end
end Go.Ev

/-
  The program's structures, as Lean has them; readings of values that are alike in all seats.
-/
namespace Go.Ev
set_option linter.unusedVariables false
set_option linter.unusedSimpArgs false

structure Write where
  key : Int
  value : Int
  deriving DecidableEq
structure Item where
  key : Int
  place : Int
  value : Int
  deriving DecidableEq
structure Line where
  offset : Int
  place : Int
  j : Int
  key : Int
  value : Int
  deriving DecidableEq
structure Rec where
  place : Int
  yes : Bool
  writes : List Write
  deriving DecidableEq
structure St where
  place : Int
  items : List Item
  l0 : List Line
  l1 : List Line
  l2 : List Line
  c0 : Int
  c1 : Int
  c2 : Int
  deriving DecidableEq
structure Sector where
  n : Int
  b : List UInt8
  deriving DecidableEq
structure Frame where
  prog : Int
  at' : Int
  r : List Int
  deriving DecidableEq
structure Action where
  kind : Int
  a : Int
  b : Int
  v : Int
  gen : Int
  text : List UInt8
  args : List Int
  deriving DecidableEq
structure Event where
  client : Int
  act : Action
  got : Int
  deriving DecidableEq
structure Gone where
  handle : Int
  node : Bool
  epoch : Int
  deriving DecidableEq
structure Try where
  place : Int
  start : Int
  writes : List Write
  deriving DecidableEq
structure Task where
  client : Int
  stack : List Frame
  got : List Int
  over : Bool
  deriving DecidableEq
structure Txn where
  id : Int
  start : Int
  writes : List Write
  deriving DecidableEq

section
variable {C : Cdc} {T : Tab C} {X : Cx}
def dIntK (k : IntKind) : D C → Option Int
  | .int k' n => if k' = k then some n else none
  | _ => none
def dBool : D C → Option Bool
  | .bool b => some b
  | _ => none
def dStr : D C → Option (List UInt8)
  | .str b => some b
  | _ => none
def dU8 : D C → Option UInt8
  | .int .u8 n => some (UInt8.ofNat n.toNat)
  | _ => none
def asArrN (t : C.Ty) (n : Nat) : D C → Option (List (C.A t))
  | .arr t' m l => if h : t' = t then (if m = n then some (h ▸ l) else none) else none
  | _ => none

theorem dIntK_R {k : IntKind} {d : D C} {x : Int} {cs : List Value} (hd : dIntK k d = some x) (hr : R T X false d cs) : R T X false (.int k x) cs := by
  unfold dIntK at hd; split at hd
  · split at hd
    · rename_i h; subst h; cases hd; exact hr
    · cases hd
  · cases hd
theorem dBool_R {d : D C} {x : Bool} {cs : List Value} (hd : dBool d = some x) (hr : R T X false d cs) : R T X false (.bool x) cs := by
  unfold dBool at hd; split at hd
  · cases hd; exact hr
  · cases hd
theorem dStr_R {d : D C} {x : List UInt8} {cs : List Value} (hd : dStr d = some x) (hr : R T X false d cs) : R T X false (.str x) cs := by
  unfold dStr at hd; split at hd
  · cases hd; exact hr
  · cases hd
theorem dU8_R {d : D C} {x : UInt8} {cs : List Value} (hd : dU8 d = some x) (hr : R T X false d cs) : R T X false (.int .u8 (UInt8.toNat x)) cs := by
  unfold dU8 at hd; split at hd
  · rename_i n
    cases hd
    cases hr with
    | int h =>
      have h1 : (0 : Int) ≤ n := h.1
      have h2 : n ≤ 255 := h.2
      have : ((UInt8.ofNat n.toNat).toNat : Int) = n := by
        rw [UInt8.toNat_ofNat']
        have : n.toNat % 2 ^ 8 = n.toNat := Nat.mod_eq_of_lt (by omega)
        rw [this]; omega
      simp only [this]
      exact .int h
  · cases hd
theorem asList_R {t : C.Ty} {d : D C} {x : List (C.A t)} {cs : List Value} (hd : D.asList t d = some x) (hr : R T X false d cs) : R T X false (.sl t false x) cs := by
  unfold D.asList at hd
  split at hd
  · cases hd
    cases hr; exact .sl0 _ _ _
  · rename_i t' cp l
    split at hd
    · rename_i he
      cases he
      cases hd
      cases hr with
      | sl0 => exact .sl0 _ _ _
      | sl a1 a2 a3 a4 => exact .sl a1 a2 a3 (by simp)
    · cases hd
  · cases hd
theorem asArrN_R {t : C.Ty} {n : Nat} {d : D C} {x : List (C.A t)} {cs : List Value} (hd : asArrN t n d = some x) (hr : R T X false d cs) : R T X false (.arr t n x) cs := by
  unfold asArrN at hd
  split at hd
  · split at hd
    · rename_i he
      cases he
      split at hd
      · rename_i hn; subst hn; cases hd; exact hr
      · cases hd
    · cases hd
  · cases hd
theorem acons_map {d ds d' ds' : D C} {cs : List Value} (hr : R T X false (.acons d ds) cs) (h1 : ∀ c, R T X false d c → R T X false d' c) (h2 : ∀ c, R T X false ds c → R T X false ds' c) : R T X false (.acons d' ds') cs := by
  cases hr with
  | acons a b => exact .acons (h1 _ a) (h2 _ b)
end
end Go.Ev

/-
  The elements of slices and arrays of this seat, as Lean has them; how they stand as values. (Printed by gencod.py.)
-/
namespace Go.Ev
set_option linter.unusedVariables false
set_option linter.unusedSimpArgs false

inductive RTy | int | item | line | u8 | write
  deriving DecidableEq
@[reducible] def RA : RTy → Type
  | .int => Int
  | .item => Item
  | .line => Line
  | .u8 => UInt8
  | .write => Write
@[reducible] def RC : Cdc := ⟨RTy, inferInstance, RA⟩

def eWrite (x : Write) : D RC := .acons (.int .i64 (Write.key x)) (.acons (.int .i64 (Write.value x)) (.anil))
def dWrite : D RC → Option Write
  | .acons (.int .i64 a0) (.acons (.int .i64 a1) (.anil)) => some ⟨a0, a1⟩
  | _ => none
theorem dWrite_R {T : Tab RC} {X : Cx} {d : D RC} {x : Write} {cs : List Value} (hd : dWrite d = some x) (hr : R T X false d cs) : R T X false (eWrite x) cs := by
  unfold dWrite at hd
  split at hd
  · skip
    cases hd
    exact acons_map hr (fun _ h => h) (fun _ hr => acons_map hr (fun _ h => h) (fun _ hr => hr))
  · cases hd
def eItem (x : Item) : D RC := .acons (.int .i64 (Item.key x)) (.acons (.int .i64 (Item.place x)) (.acons (.int .i64 (Item.value x)) (.anil)))
def dItem : D RC → Option Item
  | .acons (.int .i64 a0) (.acons (.int .i64 a1) (.acons (.int .i64 a2) (.anil))) => some ⟨a0, a1, a2⟩
  | _ => none
theorem dItem_R {T : Tab RC} {X : Cx} {d : D RC} {x : Item} {cs : List Value} (hd : dItem d = some x) (hr : R T X false d cs) : R T X false (eItem x) cs := by
  unfold dItem at hd
  split at hd
  · skip
    cases hd
    exact acons_map hr (fun _ h => h) (fun _ hr => acons_map hr (fun _ h => h) (fun _ hr => acons_map hr (fun _ h => h) (fun _ hr => hr)))
  · cases hd
def eLine (x : Line) : D RC := .acons (.int .i64 (Line.offset x)) (.acons (.int .i64 (Line.place x)) (.acons (.int .i64 (Line.j x)) (.acons (.int .i64 (Line.key x)) (.acons (.int .i64 (Line.value x)) (.anil)))))
def dLine : D RC → Option Line
  | .acons (.int .i64 a0) (.acons (.int .i64 a1) (.acons (.int .i64 a2) (.acons (.int .i64 a3) (.acons (.int .i64 a4) (.anil))))) => some ⟨a0, a1, a2, a3, a4⟩
  | _ => none
theorem dLine_R {T : Tab RC} {X : Cx} {d : D RC} {x : Line} {cs : List Value} (hd : dLine d = some x) (hr : R T X false d cs) : R T X false (eLine x) cs := by
  unfold dLine at hd
  split at hd
  · skip
    cases hd
    exact acons_map hr (fun _ h => h) (fun _ hr => acons_map hr (fun _ h => h) (fun _ hr => acons_map hr (fun _ h => h) (fun _ hr => acons_map hr (fun _ h => h) (fun _ hr => acons_map hr (fun _ h => h) (fun _ hr => hr)))))
  · cases hd
def eRecC (x : Rec) (c0 : Bool) : D RC := .acons (.int .i64 (Rec.place x)) (.acons (.bool (Rec.yes x)) (.acons (.sl (C := RC) .write c0 (Rec.writes x)) (.anil)))
def eRec (x : Rec) : D RC := .acons (.int .i64 (Rec.place x)) (.acons (.bool (Rec.yes x)) (.acons (.sl (C := RC) .write false (Rec.writes x)) (.anil)))
def dRec : D RC → Option Rec
  | .acons (.int .i64 a0) (.acons (.bool a1) (.acons (a2) (.anil))) => match D.asList (C := RC) .write a2 with | some b2 => (some ⟨a0, a1, b2⟩) | none => none
  | _ => none
theorem dRec_R {T : Tab RC} {X : Cx} {d : D RC} {x : Rec} {cs : List Value} (hd : dRec d = some x) (hr : R T X false d cs) : R T X false (eRec x) cs := by
  unfold dRec at hd
  split at hd
  · skip
    split at hd
    case h_2 => cases hd
    rename_i h2
    cases hd
    exact acons_map hr (fun _ h => h) (fun _ hr => acons_map hr (fun _ h => h) (fun _ hr => acons_map hr (fun _ h => asList_R h2 h) (fun _ hr => hr)))
  · cases hd

def rEnc : (t : RTy) → RA t → D RC
  | .int, x => .int .i64 (x)
  | .item, x => eItem (x)
  | .line, x => eLine (x)
  | .u8, x => .int .u8 (UInt8.toNat x)
  | .write, x => eWrite (x)
def rDec : (t : RTy) → D RC → Option (RA t)
  | .int => dIntK .i64
  | .item => dItem
  | .line => dLine
  | .u8 => dU8
  | .write => dWrite
def rDflt : (t : RTy) → RA t
  | .int => (0 : Int)
  | .item => (⟨0, 0, 0⟩ : Item)
  | .line => (⟨0, 0, 0, 0, 0⟩ : Line)
  | .u8 => (0 : UInt8)
  | .write => (⟨0, 0⟩ : Write)
def rEqb : (t : RTy) → RA t → RA t → Option Bool
  | .int => fun (a b : Int) => some (a == b)
  | .item => fun _ _ => none
  | .line => fun _ _ => none
  | .u8 => fun (a b : UInt8) => none
  | .write => fun _ _ => none
def rU8s : (t : RTy) → Option (List (RA t) → List UInt8)
  | .u8 => some fun l => l
  | _ => none
def rOfU8s : (t : RTy) → Option (List UInt8 → List (RA t))
  | .u8 => some fun l => l
  | _ => none
def rCod (ety : RTy → TypeId) : Cod RC := ⟨rEnc, rDec, rDflt, ety, rEqb, rU8s, rOfU8s⟩

theorem rDecR {T : Tab RC} {X : Cx} : ∀ (t : RTy) {d : D RC} {x : RA t} {cs : List Value}, rDec t d = some x → R T X false d cs → R T X false (rEnc t x) cs
  | .int, _, _, _, hd, hr => dIntK_R hd hr
  | .item, _, _, _, hd, hr => dItem_R hd hr
  | .line, _, _, _, hd, hr => dLine_R hd hr
  | .u8, _, _, _, hd, hr => dU8_R hd hr
  | .write, _, _, _, hd, hr => dWrite_R hd hr
theorem rEqbR : ∀ {t : RTy} {a b : RA t} {r : Bool}, rEqb t a b = some r → eqS (rEnc t a) (rEnc t b) = some r
  | .int, a, b, r, h => by
    simp only [rEqb, rEnc, eqS] at h ⊢; simpa using h
  | .item, _, _, _, h => absurd (show (none : Option Bool) = some _ from h) (by simp)
  | .line, _, _, _, h => absurd (show (none : Option Bool) = some _ from h) (by simp)
  | .u8, _, _, _, h => absurd (show (none : Option Bool) = some _ from h) (by simp)
  | .write, _, _, _, h => absurd (show (none : Option Bool) = some _ from h) (by simp)
theorem rRefs (t : RTy) (x : RA t) : (rEnc t x).refs = [] := by cases t <;> rfl
theorem rU8sR {T : Tab RC} (he : T.enc = rEnc) : ∀ (t : RTy) (f : List (RA t) → List UInt8) (l : List (RA t)), rU8s t = some f → bytesOf T l = some (f l) := by
  intro t f l h
  cases t <;> simp [rU8s] at h
  subst h
  induction l with
  | nil => rfl
  | cons x l ih =>
    simp only [bytesOf, ih, he, rEnc]
    have : UInt8.ofNat (UInt8.toNat x) = x := by simp
    simp [this]
theorem rOfU8sR : ∀ (t : RTy) (g : List UInt8 → List (RA t)) (l : List UInt8), rOfU8s t = some g → (g l).map (rEnc t) = l.map fun b => .int .u8 (b.toNat : Int) := by
  intro t g l h
  cases t <;> simp [rOfU8s] at h
  subst h; rfl
theorem rLaws {ety : RTy → TypeId} {t : Tree (Row RC)} (hfit : ∀ t' x, fit (mkTab (rCod ety) t) (rEnc t' x) (.inl (ety t')) = true) : CLaws (mkTab (rCod ety) t) :=
  ⟨rRefs, hfit, fun X t d x cs hd hr => rDecR t hd hr, fun t a b r h => rEqbR h, rU8sR rfl, rOfU8sR⟩
end Go.Ev

/-
  The table of this seat's types, checked. (Printed by gencod.py.)
-/
namespace Go.Ev
open Go.Proofs
set_option maxRecDepth 100000

def s05Ety : RTy → TypeId := fun | .int => 3 | .item => 36 | .line => 38 | .u8 => 5 | .write => 41
def s05Tree : Tree (Row RC) := (.node 55 ⟨.fn, 1, 8, some .nilfn⟩ (.node 33 ⟨(.struct false [3, 28, 30, 31]), 8, 128, some (.acons (.int .i64 0) (.acons (.sl .item true []) (.acons (.acons (.sl .line true []) (.acons (.sl .line true []) (.acons (.sl .line true []) .anil))) (.acons (.arr .int 3 (List.replicate 3 (rDflt .int))) .anil))))⟩ (.node 23 ⟨.fn, 1, 8, some .nilfn⟩ (.node 5 ⟨(.int .u8), 1, 1, some (.int .u8 0)⟩ (.node 3 ⟨(.int .i64), 1, 8, some (.int .i64 0)⟩ (.node 2 ⟨(.int .i64), 1, 8, some (.int .i64 0)⟩ (.node 1 ⟨.fn, 1, 8, some .nilfn⟩ .nil .nil) .nil) (.node 4 ⟨.bool, 1, 1, some (.bool false)⟩ .nil .nil)) (.node 21 ⟨(.int .i32), 1, 4, some (.int .i32 0)⟩ (.node 12 ⟨(.int .u64), 1, 8, some (.int .u64 0)⟩ (.node 9 ⟨.str, 1, 16, some (.str [])⟩ .nil .nil) .nil) (.node 22 ⟨(.sl 41 .write), 1, 24, some (.sl .write true [])⟩ .nil .nil))) (.node 28 ⟨(.sl 36 .item), 1, 24, some (.sl .item true [])⟩ (.node 26 ⟨(.struct false [3, 4, 22]), 3, 40, some (.acons (.int .i64 0) (.acons (.bool false) (.acons (.sl .write true []) .anil)))⟩ (.node 25 ⟨.fn, 1, 8, some .nilfn⟩ (.node 24 ⟨.fn, 1, 8, some .nilfn⟩ .nil .nil) .nil) (.node 27 ⟨(.struct false [3, 4, 22]), 3, 40, some (.acons (.int .i64 0) (.acons (.bool false) (.acons (.sl .write true []) .anil)))⟩ .nil .nil)) (.node 31 ⟨(.arr 3 3 .int), 3, 24, some (.arr .int 3 (List.replicate 3 (rDflt .int)))⟩ (.node 30 ⟨(.struct true [29, 29, 29]), 3, 72, some (.acons (.sl .line true []) (.acons (.sl .line true []) (.acons (.sl .line true []) .anil)))⟩ (.node 29 ⟨(.sl 38 .line), 1, 24, some (.sl .line true [])⟩ .nil .nil) .nil) (.node 32 ⟨(.struct false [3, 28, 30, 31]), 8, 128, some (.acons (.int .i64 0) (.acons (.sl .item true []) (.acons (.acons (.sl .line true []) (.acons (.sl .line true []) (.acons (.sl .line true []) .anil))) (.acons (.arr .int 3 (List.replicate 3 (rDflt .int))) .anil))))⟩ .nil .nil)))) (.node 43 ⟨(.int .i64), 1, 8, some (.int .i64 0)⟩ (.node 38 ⟨(.struct false [3, 3, 3, 3, 3]), 5, 40, some (.acons (.int .i64 0) (.acons (.int .i64 0) (.acons (.int .i64 0) (.acons (.int .i64 0) (.acons (.int .i64 0) .anil)))))⟩ (.node 36 ⟨(.struct false [3, 3, 3]), 3, 24, some (.acons (.int .i64 0) (.acons (.int .i64 0) (.acons (.int .i64 0) .anil)))⟩ (.node 35 ⟨(.struct false [3, 3, 3]), 3, 24, some (.acons (.int .i64 0) (.acons (.int .i64 0) (.acons (.int .i64 0) .anil)))⟩ (.node 34 ⟨.fn, 1, 8, some .nilfn⟩ .nil .nil) .nil) (.node 37 ⟨(.struct false [3, 3, 3, 3, 3]), 5, 40, some (.acons (.int .i64 0) (.acons (.int .i64 0) (.acons (.int .i64 0) (.acons (.int .i64 0) (.acons (.int .i64 0) .anil)))))⟩ .nil .nil)) (.node 41 ⟨(.struct false [3, 3]), 2, 16, some (.acons (.int .i64 0) (.acons (.int .i64 0) .anil))⟩ (.node 40 ⟨(.struct false [3, 3]), 2, 16, some (.acons (.int .i64 0) (.acons (.int .i64 0) .anil))⟩ (.node 39 ⟨.fn, 1, 8, some .nilfn⟩ .nil .nil) .nil) (.node 42 ⟨(.sl 5 .u8), 1, 24, some (.sl .u8 true [])⟩ .nil .nil))) (.node 51 ⟨.fn, 1, 8, some .nilfn⟩ (.node 48 ⟨.fn, 1, 8, some .nilfn⟩ (.node 46 ⟨.fn, 1, 8, some .nilfn⟩ (.node 45 ⟨.fn, 1, 8, some .nilfn⟩ .nil .nil) .nil) (.node 50 ⟨.fn, 1, 8, some .nilfn⟩ .nil .nil)) (.node 53 ⟨.fn, 1, 8, some .nilfn⟩ (.node 52 ⟨.fn, 1, 8, some .nilfn⟩ .nil .nil) (.node 54 ⟨.fn, 1, 8, some .nilfn⟩ .nil .nil))))) (.node 74 ⟨(.struct false [42, 4]), 2, 32, some (.acons (.sl .u8 true []) (.acons (.bool false) .anil))⟩ (.node 65 ⟨.fn, 1, 8, some .nilfn⟩ (.node 60 ⟨.fn, 1, 8, some .nilfn⟩ (.node 58 ⟨.fn, 1, 8, some .nilfn⟩ (.node 57 ⟨.fn, 1, 8, some .nilfn⟩ (.node 56 ⟨.fn, 1, 8, some .nilfn⟩ .nil .nil) .nil) (.node 59 ⟨.fn, 1, 8, some .nilfn⟩ .nil .nil)) (.node 63 ⟨.fn, 1, 8, some .nilfn⟩ (.node 62 ⟨.fn, 1, 8, some .nilfn⟩ (.node 61 ⟨.fn, 1, 8, some .nilfn⟩ .nil .nil) .nil) (.node 64 ⟨.fn, 1, 8, some .nilfn⟩ .nil .nil))) (.node 70 ⟨(.struct false [42]), 1, 24, some (.acons (.sl .u8 true []) .anil)⟩ (.node 68 ⟨(.ptr 70), 1, 8, some .nilp⟩ (.node 67 ⟨.fn, 1, 8, some .nilfn⟩ (.node 66 ⟨.fn, 1, 8, some .nilfn⟩ .nil .nil) .nil) (.node 69 ⟨(.struct false [42]), 1, 24, some (.acons (.sl .u8 true []) .anil)⟩ .nil .nil)) (.node 72 ⟨(.ptr 74), 1, 8, some .nilp⟩ (.node 71 ⟨.fn, 1, 8, some .nilfn⟩ .nil .nil) (.node 73 ⟨(.struct false [42, 4]), 2, 32, some (.acons (.sl .u8 true []) (.acons (.bool false) .anil))⟩ .nil .nil)))) (.node 85 ⟨.fn, 1, 8, some .nilfn⟩ (.node 80 ⟨(.struct false [42, 3, 4]), 3, 40, some (.acons (.sl .u8 true []) (.acons (.int .i64 0) (.acons (.bool false) .anil)))⟩ (.node 78 ⟨(.int .u64), 1, 8, some (.int .u64 0)⟩ (.node 77 ⟨.fn, 1, 8, some .nilfn⟩ (.node 75 ⟨.fn, 1, 8, some .nilfn⟩ .nil .nil) .nil) (.node 79 ⟨(.ptr 81), 1, 8, some .nilp⟩ .nil .nil)) (.node 83 ⟨.fn, 1, 8, some .nilfn⟩ (.node 82 ⟨.fn, 1, 8, some .nilfn⟩ (.node 81 ⟨(.struct false [42, 3, 4]), 3, 40, some (.acons (.sl .u8 true []) (.acons (.int .i64 0) (.acons (.bool false) .anil)))⟩ .nil .nil) .nil) (.node 84 ⟨.fn, 1, 8, some .nilfn⟩ .nil .nil))) (.node 95 ⟨.fn, 1, 8, some .nilfn⟩ (.node 88 ⟨.fn, 1, 8, some .nilfn⟩ (.node 87 ⟨.fn, 1, 8, some .nilfn⟩ (.node 86 ⟨.fn, 1, 8, some .nilfn⟩ .nil .nil) .nil) (.node 89 ⟨.fn, 1, 8, some .nilfn⟩ .nil .nil)) (.node 99 ⟨.fn, 1, 8, some .nilfn⟩ (.node 96 ⟨(.int .u32), 1, 4, some (.int .u32 0)⟩ .nil .nil) (.node 100 ⟨(.ptr 5), 1, 8, some .nilp⟩ .nil .nil))))))
def s05 : Tab RC := mkTab (rCod s05Ety) s05Tree

theorem s05_rows : s05Tree.all (rowB Try.prog s05) = true := by kernel_rfl
theorem s05_order : Try.prog.follows .mixedOrders = true := by kernel_rfl
theorem s05_fit : ∀ t x, fit s05 (rEnc t x) (.inl (s05Ety t)) = true
  | .int, _ => rfl
  | .item, _ => rfl
  | .line, _ => rfl
  | .u8, _ => rfl
  | .write, _ => rfl
theorem s05_laws : PLaws Try.prog s05 := mkLaws s05_rows (rLaws s05_fit) s05_order
end Go.Ev
