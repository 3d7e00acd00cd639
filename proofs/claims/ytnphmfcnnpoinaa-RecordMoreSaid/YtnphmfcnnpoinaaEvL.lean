/-
  Slices cut, made, appended to.
-/
import Derived.Test.YtnphmfcnnpoinaaEvK
namespace Go.Ev
set_option linter.unusedVariables false
set_option linter.unusedSimpArgs false

theorem growBy_le (n : Nat) : ∀ (r c : Nat), Builtin.growBy n r c ≤ max c (n + (n + 768) / 4) := by
  intro r
  induction r with
  | zero => intro c; simp [Builtin.growBy]; omega
  | succ r ih =>
    intro c
    simp only [Builtin.growBy]
    split
    · omega
    · have := ih (c + (c + 768) / 4)
      omega

theorem nextcap_le (n c : Nat) (h : c < n) : Builtin.nextslicecap n c ≤ 2 * n + 192 := by
  unfold Builtin.nextslicecap
  split
  · omega
  · split
    · omega
    · have := growBy_le n 4 c
      omega

theorem nextcap_bytes (n c b : Nat) (h : c < n) (hb : n * b ≤ 1099511627776) : Builtin.nextslicecap n c * b ≤ 281474976710656 := by
  have h1 := nextcap_le n c h
  have h2 : Builtin.nextslicecap n c * b ≤ (2 * n + 192) * b := Nat.mul_le_mul_right _ h1
  have h3 : (2 * n + 192) * b = 2 * (n * b) + 192 * b := by rw [Nat.add_mul, Nat.mul_assoc]
  have h4 : b ≤ n * b := Nat.le_mul_of_pos_left _ (by omega)
  omega

theorem grownCap_ge (w : World) (need old : Nat) (e : TypeId) : need ≤ grownCap w need old e := by
  unfold grownCap Question.cut
  simp

section
variable {C : Cdc} {P : Program} {T : Tab C} (K : PLaws P T)
open Pg (Ex)
variable {X : Cx} {h h' : Heap C} {nx nx' : Nat} {e : Pg.Lv} {lim : Lim} {tr : Tr} (g : G T X h nx lim) (hlim : nx' ≤ lim.top)

/-- what an optional operand is -/
def ROo (T : Tab C) (X : Cx) (nx : Nat) (lim : Lim) : Option (D C) → Option Value → Prop
  | none, none => True
  | some d, some v => RO T X nx lim d v
  | _, _ => False

theorem num_ok {o : Option (D C)} {v : Option Value} {n a : Int} (h : ROo T X nx lim o v) (ha : numD o n = some a) : (o = none ∧ v = none ∧ a = n) ∨ (o.isSome = true ∧ ∃ k, v = some (.int k a)) := by
  cases o with
  | none =>
    cases v with
    | none => simp [numD] at ha; exact .inl ⟨rfl, rfl, ha.symm⟩
    | some => simp [ROo] at h
  | some d =>
    cases v with
    | none => simp [ROo] at h
    | some v =>
      cases d <;> simp [numD] at ha
      subst ha
      exact .inr ⟨rfl, _, congrArg some h.1.int.1⟩

theorem run_bound (k : IntKind) (i : Int) (y : Nat) (code : BoundsCode) (h0 : 0 ≤ i) (h1 : i ≤ y) (w : World) : (Instr.sliceBound (.int k i) y code).run P w = .ok i.toNat w := by
  simp [Instr.sliceBound, asIntOf, h0, h1]

include K g
theorem cut_ok {t el : TypeId} {ty : C.Ty} (ht : T.ty t = .sl el ty) {cap : Bool} {l : List (C.A ty)} {d : D C} {v : Value} {lo hi mx : Option (D C)} {vlo vhi vmx : Option Value} (hv : R T X false (.sl ty cap l) [v])
    (hlo : ROo T X nx lim lo vlo) (hhi : ROo T X nx lim hi vhi) (hmx : ROo T X nx lim mx vmx) (hx : Ex e (cutD cap l lo hi mx) h nx d h' nx' tr) : Post P T X nx lim h' nx' d (Instr.sliceAt t v vlo vhi vmx) := by
  unfold cutD at hx
  cases ha : numD lo 0 with
  | none => rw [ha] at hx; exact (Ex.fail hx).elim
  | some a =>
    cases hb : numD hi l.length with
    | none => rw [ha, hb] at hx; exact (Ex.fail hx).elim
    | some b =>
      simp only [ha, hb] at hx
      have hu := K.uSl _ _ _ ht
      have hs := run_sizeElem K (.inr ht) X.w
      have qa := num_ok hlo ha
      have qb := num_ok hhi hb
      -- what is cut
      have fin : ∀ (c2 : Bool) (m : Nat), 0 ≤ a → a ≤ b → b ≤ l.length → b.toNat ≤ m → (c2 = true → m = b.toNat) →
          ∀ (ao : Option Addr) (cp : Nat), v = .slice ao l.length cp → (m = cp ∨ m = b.toNat) → R T X false (.sl ty c2 ((l.take b.toNat).drop a.toNat)) [.slice (if m = a.toNat then ao else ao.map (·.add (a.toNat * T.size el))) (b.toNat - a.toNat) (m - a.toNat)] := by
        intro c2 m h0 h1 h2 h3 h4 ao cp hve h5
        subst hve
        have hlen : ((l.take b.toNat).drop a.toNat).length = b.toNat - a.toNat := by simp; omega
        cases hv with
        | sl0 =>
          simp only [List.length_nil] at h2
          have e1 : a.toNat = 0 := by omega
          have e2 : b.toNat = 0 := by omega
          rw [e1, e2] at *
          have e3 : m = 0 := by omega
          subst e3
          simpa using R.sl0 ty c2 ao
        | @sl _ _ _ b0 off _ cs hat hr hc hcap =>
          obtain ⟨c1, c1', hc1, hl1, hr1, _⟩ := hr.arrSplit K.base b.toNat (by omega)
          obtain ⟨d1, d2, hd1, hld, _, hr2⟩ := hr1.arrSplit K.base a.toNat (by omega)
          rw [← hlen]
          by_cases hm : m = a.toNat
          · have hz : (l.take b.toNat).drop a.toNat = [] := List.length_eq_zero_iff.1 (by omega)
            rw [if_pos hm, hz]
            exact .sl (cs := []) (fun j v hj => by simp at hj) (by simpa using R.arr0 ty) (by simp) (fun hc2 => by have := h4 hc2; simp; omega)
          · rw [if_neg hm]
            simp only [Option.map_some, Addr.add_lit]
            refine .sl (cs := d2) (fun j v hj => ?_) (by rw [hlen]; exact hr2) (by omega) (fun hc2 => by have := h4 hc2; omega)
            rw [hs.2.1, ← hld, Nat.add_assoc]
            refine hat _ v ?_
            rw [hc1, hd1, List.append_assoc, List.getElem?_append_right (by omega)]
            rw [show d1.length + j - d1.length = j by omega, List.getElem?_append_left (List.getElem?_eq_some_iff.1 hj).1]; exact hj
      have hvs : ∃ ao cp, v = .slice ao l.length cp ∧ l.length ≤ cp ∧ (cap = true → cp = l.length) := by
        cases hv with
        | sl0 => exact ⟨_, 0, rfl, by simp, fun _ => by simp⟩
        | sl hat hr hc hcap => exact ⟨_, _, rfl, hc, hcap⟩
      obtain ⟨ao, cp, rfl, hcp, hcap⟩ := hvs
      cases mx with
      | none =>
        cases vmx with
        | some => simp [ROo] at hmx
        | none =>
          simp only at hx
          rcases Ex.br hx with ⟨hc, hx⟩ | ⟨_, hx⟩
          · obtain ⟨rfl, rfl, rfl, rfl⟩ := Ex.ret hx
            have hc : 0 ≤ a ∧ a ≤ b ∧ b ≤ l.length := by simpa using hc
            have hR := fin (cap && hi.isNone) cp hc.1 hc.2.1 hc.2.2 (by omega) (by
              intro h1
              simp only [Bool.and_eq_true, Option.isNone_iff_eq_none] at h1
              rcases qb with ⟨_, _, rfl⟩ | ⟨h2, _⟩
              · have := hcap h1.1; omega
              · rw [h1.2] at h2; simp at h2) ao cp rfl (.inl rfl)
            have hbd : (Instr.sliceBounds true l.length cp vlo vhi none).run P X.w = .ok (a.toNat, b.toNat, cp) X.w := by
              rcases qa with ⟨_, rfl, rfl⟩ | ⟨_, k, rfl⟩ <;> rcases qb with ⟨_, rfl, rfl⟩ | ⟨_, k2, rfl⟩
              · simp [Instr.sliceBounds]
              · simp [Instr.sliceBounds, run_bound k2 b cp _ (by omega) (by omega)]
              · simp [Instr.sliceBounds, run_bound k a l.length _ (by omega) (by omega)]
              · simp [Instr.sliceBounds, run_bound k2 b cp _ (by omega) (by omega), run_bound k a b.toNat _ (by omega) (by omega)]
            refine Post.same g _ ?_ (RO.mk (.mk rfl hR) rfl)
            simp only [Instr.sliceAt, Instr.slice, Sem.run_bind, run_underlying hu, Result.andThen_ok, hbd, hs.1, Sem.run_pure]
          · exact (Ex.fail hx).elim
      | some dm =>
        cases vmx with
        | none => simp [ROo] at hmx
        | some vm =>
          cases dm with
          | int km m =>
            simp only at hx
            cases hhs : hi.isSome with
            | false => rw [hhs] at hx; exact (Ex.fail hx).elim
            | true =>
              rw [hhs] at hx
              simp only [cond_true] at hx
              rcases Ex.br hx with ⟨hc, hx⟩ | ⟨_, hx⟩
              · obtain ⟨rfl, rfl, rfl, rfl⟩ := Ex.ret hx
                have hc : 0 ≤ a ∧ a ≤ b ∧ b ≤ l.length ∧ m = b := by simpa using hc
                obtain ⟨h1, h2, h3, rfl⟩ := hc
                obtain ⟨rfl, _⟩ := hmx.1.int
                rcases qb with ⟨hn, _⟩ | ⟨_, k2, rfl⟩
                · rw [hn] at hhs; simp at hhs
                · have hR := fin true m.toNat h1 h2 h3 (by omega) (fun _ => rfl) ao cp rfl (.inr rfl)
                  have hbd : (Instr.sliceBounds true l.length cp vlo (some (.int k2 m)) (some (.int km m))).run P X.w = .ok (a.toNat, m.toNat, m.toNat) X.w := by
                    rcases qa with ⟨_, rfl, rfl⟩ | ⟨_, k, rfl⟩
                    · simp [Instr.sliceBounds, run_bound km m cp _ (by omega) (by omega), run_bound k2 m m.toNat _ (by omega) (by omega)]
                    · simp [Instr.sliceBounds, run_bound km m cp _ (by omega) (by omega), run_bound k2 m m.toNat _ (by omega) (by omega), run_bound k a m.toNat _ (by omega) (by omega)]
                  refine Post.same g _ ?_ (RO.mk (.mk rfl hR) rfl)
                  simp only [Instr.sliceAt, Instr.slice, Sem.run_bind, run_underlying hu, Result.andThen_ok, hbd, hs.1, Sem.run_pure]
              · exact (Ex.fail hx).elim
          | _ => exact (Ex.fail hx).elim

omit K g in
theorem VecOK.data {ty : C.Ty} {l : List (C.A ty)} {v : Value} {b lo hi : Nat} (hv : VecOK T X ty false l v b lo hi) : R T X false (.sl ty false l) [v] := by
  rcases hv with ⟨⟨a, rfl, _⟩, rfl, _⟩ | ⟨off, cp, rfl, h2, _, h4⟩
  · exact .sl0 _ _ _
  · rcases h4 with ⟨h4, _⟩ | ⟨_, _, ⟨cs, h5, h6⟩, _⟩
    · simp at h4
    · exact .sl h5 h6 h2 (fun h => by simp at h)

theorem slice_ok {t : TypeId} {a d : D C} {va : Value} {lo hi mx : Option (D C)} {vlo vhi vmx : Option Value} (ha : RO T X nx lim a va)
    (hlo : ROo T X nx lim lo vlo) (hhi : ROo T X nx lim hi vhi) (hmx : ROo T X nx lim mx vmx) (hx : Ex e (sliceD T t a lo hi mx) h nx d h' nx' tr) : Post P T X nx lim h' nx' d (Instr.sliceAt t va vlo vhi vmx) := by
  unfold sliceD at hx
  cases ht : T.ty t with
  | sl el ty0 =>
    simp only [ht] at hx
    cases a with
    | sl ty cap l =>
      simp only at hx
      cases hd : decide (ty = ty0) with
      | false => rw [hd] at hx; exact (Ex.fail hx).elim
      | true =>
        rw [hd] at hx
        have hd : ty = ty0 := by simpa using hd
        subst hd
        exact cut_ok K g ht (ha.1.one rfl) hlo hhi hmx hx
    | vs id n =>
      simp only at hx
      obtain ⟨o, tr', ho, hy, _⟩ := Ex.rd hx
      clear hx
      cases o with
      | var u d0 => exact (Ex.fail hy).elim
      | vec ty own l =>
        cases own with
        | true => exact (Ex.fail hy).elim
        | false =>
          simp only [slVec] at hy
          cases hd : decide (ty = ty0) with
          | false => rw [hd] at hy; exact (Ex.fail hy).elim
          | true =>
            rw [hd] at hy
            simp only [cond_true] at hy
            have hd : ty = ty0 := by simpa using hd
            subst hd
            rcases Ex.br hy with ⟨hb, hx⟩ | ⟨_, hx⟩
            · have hn : n = l.length := Nat.eq_of_beq_eq_true hb
              obtain ⟨v0, b, lo', hi', h1, h2⟩ := g.vec id ty false l ho
              have hR := ha.1.one rfl
              cases hR with
              | @vs _ _ cp a0 hh =>
                have hv0 := (hh _ _ _ _ _ h1).2 (by rw [h2.len, hn])
                have hdt := h2.data
                rw [hv0] at hdt
                exact cut_ok K g ht hdt hlo hhi hmx hx
            · exact (Ex.fail hx).elim
    | _ => exact (Ex.fail hx).elim
  | str =>
    simp only [ht] at hx
    cases a with
    | str s =>
      simp only at hx
      cases ha' : numD lo 0 with
      | none => rw [ha'] at hx; exact (Ex.fail hx).elim
      | some a =>
        cases hb' : numD hi s.length with
        | none => rw [ha', hb'] at hx; exact (Ex.fail hx).elim
        | some b =>
          cases mx with
          | some => rw [ha', hb'] at hx; exact (Ex.fail hx).elim
          | none =>
            cases vmx with
            | some => simp [ROo] at hmx
            | none =>
              simp only [ha', hb'] at hx
              rcases Ex.br hx with ⟨hc, hx⟩ | ⟨_, hx⟩
              · obtain ⟨rfl, rfl, rfl, rfl⟩ := Ex.ret hx
                have hc : 0 ≤ a ∧ a ≤ b ∧ b ≤ s.length := by simpa using hc
                have hu := K.uStr _ ht
                rw [ha.1.str]
                have hsz : (⟨⟨s⟩⟩ : ByteArray).size = s.length := rfl
                have qa := num_ok hlo ha'
                have qb := num_ok hhi hb'
                have hbd : (Instr.sliceBounds false s.length s.length vlo vhi none).run P X.w = .ok (a.toNat, b.toNat, s.length) X.w := by
                  rcases qa with ⟨_, rfl, rfl⟩ | ⟨_, k, rfl⟩ <;> rcases qb with ⟨_, rfl, rfl⟩ | ⟨_, k2, rfl⟩
                  · simp [Instr.sliceBounds]
                  · simp [Instr.sliceBounds, run_bound k2 b s.length _ (by omega) (by omega)]
                  · simp [Instr.sliceBounds, run_bound k a s.length _ (by omega) (by omega)]
                  · simp [Instr.sliceBounds, run_bound k2 b s.length _ (by omega) (by omega), run_bound k a b.toNat _ (by omega) (by omega)]
                have hex : (⟨⟨s⟩⟩ : ByteArray).extract a.toNat b.toNat = ⟨⟨(s.take b.toNat).drop a.toNat⟩⟩ := by
                  apply ByteArray.ext
                  rw [ByteArray.data_extract]
                  apply Array.ext'
                  rw [Array.toList_extract, List.extract_eq_take_drop, List.drop_take]
                refine Post.same g (.string ⟨⟨(s.take b.toNat).drop a.toNat⟩⟩) ?_ (RO.mk (.mk rfl (.str _)) rfl)
                simp [Instr.sliceAt, Instr.slice, run_underlying hu, hsz, hbd, hex]
              · exact (Ex.fail hx).elim
    | _ => exact (Ex.fail hx).elim
  | _ => rw [ht] at hx; exact (Ex.fail hx).elim
end
end Go.Ev
