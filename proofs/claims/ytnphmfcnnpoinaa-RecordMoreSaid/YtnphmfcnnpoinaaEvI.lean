/-
  Indices, numbers, comparisons, conversions.
-/
import Derived.Test.YtnphmfcnnpoinaaEvH
import Derived.Laws.StructEq
import Derived.Laws.BytesString
namespace Go.Ev
set_option linter.unusedVariables false
set_option linter.unusedSimpArgs false

section
variable {C : Cdc} {P : Program} {T : Tab C} (K : PLaws P T)
open Pg (Ex)
variable {X : Cx} {h h' : Heap C} {nx nx' : Nat} {e : Pg.Lv} {lim : Lim} {tr : Tr} (g : G T X h nx lim)

include K
omit g

theorem run_sizeElem {u el : TypeId} {ty : C.Ty} (hu : (∃ n, T.ty u = .arr n el ty) ∨ T.ty u = .sl el ty) (w : World) : (sizeOf el).run P w = .ok (T.size el) w ∧ T.size el = T.size (T.ety ty) ∧ T.ty el = T.ty (T.ety ty) := by
  obtain ⟨i, z, h1, h2, _⟩ := K.uElem _ _ _ hu
  refine ⟨by simp [sizeOf, typeInfo, h1, h2], ?_⟩
  rcases hu with ⟨n, hu⟩ | hu
  · exact ⟨(K.base.szArr _ _ _ _ hu).2.2, (K.base.szArr _ _ _ _ hu).2.1⟩
  · exact ⟨(K.base.szSl _ _ _ hu).2.2, (K.base.szSl _ _ _ hu).2.1⟩

theorem run_indexAt_sl {t el : TypeId} {ty : C.Ty} (ht : T.ty t = .sl el ty) (b off len cp : Nat) (k : IntKind) (n : Int) (h0 : 0 ≤ n) (h1 : n < len) (w : World) :
    (Instr.indexAt t (.slice (some ⟨b, off, none⟩) len cp) (.int k n)).run P w = .ok (.pointer (some ⟨b, off + n.toNat * T.size (T.ety ty), none⟩)) w := by
  have hs := run_sizeElem K (.inr ht) w
  rw [← hs.2.1]
  simp [Instr.indexAt, asIntOf, run_underlying (K.uSl _ _ _ ht), h0, h1, hs.1, Addr.add_lit]

theorem run_indexAt_arr {t el : TypeId} {ty : C.Ty} {m : Nat} (ht : T.ty t = .arr m el ty) (b off : Nat) (k : IntKind) (n : Int) (h0 : 0 ≤ n) (h1 : n < m) (w : World) :
    (Instr.indexAt t (.pointer (some ⟨b, off, none⟩)) (.int k n)).run P w = .ok (.pointer (some ⟨b, off + n.toNat * T.size (T.ety ty), none⟩)) w := by
  have hs := run_sizeElem K (.inl ⟨_, ht⟩) w
  rw [← hs.2.1]
  simp [Instr.indexAt, asIntOf, run_underlying (K.uArr _ _ _ _ ht).1, h0, h1, hs.1, Addr.add_lit, Instr.sureAddr]

theorem at_elem {ty : C.Ty} {n : Nat} {l : List (C.A ty)} {b off : Nat} {cs : List Value} (hat : X.at b off cs) (hr : R T X false (.arr ty n l) cs) (i : Nat) (hi : i < n) :
    R T X false (.cptr (T.enc ty (l.getD i (T.dflt ty)))) [.pointer (some ⟨b, off + i * T.size (T.ety ty), none⟩)] := by
  obtain ⟨c1, c2, c3, hc, hl, hr'⟩ := hr.elem K.base i hi
  refine .cptr (cs := c2) (fun j v hj => ?_) hr'
  rw [← hl, Nat.add_assoc]
  refine hat _ v ?_
  rw [hc, List.append_assoc, List.getElem?_append_right (by omega)]
  rw [show c1.length + j - c1.length = j by omega, List.getElem?_append_left (List.getElem?_eq_some_iff.1 hj).1]; exact hj

include g
theorem indexAddr_ok {t : TypeId} {a i d : D C} {va vi : Value} (ha : RO T X nx lim a va) (hi : RO T X nx lim i vi) (hx : Ex e (evIndexAddr T t a i) h nx d h' nx' tr) : Post P T X nx lim h' nx' d (Instr.indexAt t va vi) := by
  unfold evIndexAddr at hx
  cases i with
  | int k n =>
    obtain ⟨rfl, _⟩ := hi.1.int
    simp only at hx
    cases ht : T.ty t with
    | sl el ty0 =>
      simp only [ht] at hx
      cases a with
      | sl ty cap l =>
        simp only at hx
        cases hd : decide (ty = ty0) with
        | false => rw [hd] at hx; exact (Ex.fail hx).elim
        | true =>
          rw [hd] at hx
          simp only [cond_true] at hx
          have hd : ty = ty0 := by simpa using hd
          subst hd
          rcases Ex.br hx with ⟨hb, hx⟩ | ⟨_, hx⟩
          · obtain ⟨rfl, rfl, rfl, rfl⟩ := Ex.ret hx
            have hb : 0 ≤ n ∧ n < l.length := by simpa using hb
            have hR := ha.1.one rfl
            cases hR with
            | sl0 => simp at hb; omega
            | @sl _ _ _ b off cp cs hat hr hc hcap =>
              refine Post.same g _ (run_indexAt_sl K ht b off l.length cp k n hb.1 hb.2 X.w) ⟨.mk rfl (at_elem K hat hr n.toNat (by omega)), ?_⟩
              simp [D.refs, K.base.encRefs]
          · exact (Ex.fail hx).elim
      | vs id m =>
        simp only at hx
        obtain ⟨o, tr', ho, hy, _⟩ := Ex.rd hx
        clear hx
        cases o with
        | var u d0 => exact (Ex.fail hy).elim
        | vec ty own l =>
          simp only [ixVec] at hy
          cases hd : decide (ty = ty0) with
          | false => rw [hd] at hy; exact (Ex.fail hy).elim
          | true =>
            rw [hd] at hy
            simp only [cond_true] at hy
            have hd : ty = ty0 := by simpa using hd
            subst hd
            rcases Ex.br hy with ⟨hb, hx⟩ | ⟨_, hx⟩
            · obtain ⟨rfl, rfl, rfl, rfl⟩ := Ex.ret hx
              simp only [Bool.and_eq_true, decide_eq_true_eq] at hb
              have hm : m = l.length := Nat.eq_of_beq_eq_true hb.1
              obtain ⟨v0, b, lo, hi', h1, h2⟩ := g.vec id ty own l ho
              have hR := ha.1.one rfl
              cases hR with
              | @vs _ _ cp a0 hh =>
                have hv0 := (hh _ _ _ _ _ h1).2 (by rw [h2.len, hm])
                cases a0 with
                | none =>
                  rcases h2 with ⟨q1, q2, _⟩ | ⟨off', cp', q1, _⟩
                  · subst q2; simp at hb; omega
                  · rw [q1] at hv0; simp at hv0
                | some a1 =>
                  have ha1 : ∃ off, a1 = ⟨b, off, none⟩ := by
                    rcases h2 with ⟨q1, q2, _⟩ | ⟨off', cp', q1, _⟩
                    · subst q2; simp at hb; omega
                    · rw [q1] at hv0; simp at hv0; exact ⟨off', hv0.1.symm⟩
                  obtain ⟨off, rfl⟩ := ha1
                  refine Post.same g _ (run_indexAt_sl K ht b off m cp k n hb.2.1 (by omega) X.w) ⟨.mk rfl (.vptr fun v e b' lo' hi'' h5 => ?_), by simpa [D.refs] using ha.2⟩
                  rw [h1] at h5; simp at h5; obtain ⟨rfl, rfl, rfl, rfl, rfl⟩ := h5
                  exact ⟨by rw [h2.len]; omega, fun _ => ⟨b, off, cp, hv0, by omega, by simp [okPath], by simp [offAt]⟩⟩
            · exact (Ex.fail hx).elim
      | _ => exact (Ex.fail hx).elim
    | arr m el ty0 =>
      simp only [ht] at hx
      match a, ha, hx with
      | .ptr id p, ha, hx =>
        simp only at hx
        obtain ⟨o, tr', ho, hx, _⟩ := Ex.rd hx
        cases o with
        | vec ty own l => exact (Ex.fail hx).elim
        | var u d0 =>
          simp only [ixVar] at hx
          cases hty : decide (tyAt T u p = some t) with
          | false => rw [hty] at hx; exact (Ex.fail hx).elim
          | true =>
            rw [hty] at hx
            simp only [cond_true] at hx
            rcases Ex.br hx with ⟨hb, hx⟩ | ⟨_, hx⟩
            · obtain ⟨rfl, rfl, rfl, rfl⟩ := Ex.ret hx
              have hb : 0 ≤ n ∧ n < m := by simpa using hb
              have hty : tyAt T u p = some t := by simpa using hty
              obtain ⟨b, c, h1, h2, h3, h4⟩ := g.var id u d0 ho
              have hR := ha.1.one rfl
              cases hR with
              | @ptr _ _ a' hq =>
                obtain ⟨hok, rfl⟩ := hq b u h1
                have hok1 : okPath T t [n.toNat] := by simp [okPath, ht]; omega
                have hoff1 : offAt T t [n.toNat] = n.toNat * T.size (T.ety ty0) := by simp [offAt, ht, (K.base.szArr _ _ _ _ ht).2.2]
                obtain ⟨k1, k2⟩ := okPath_snoc hok hty n.toNat [] hok1
                refine Post.same g _ (run_indexAt_arr K ht b _ k n hb.1 hb.2 X.w) ⟨.mk rfl (.ptr fun b' t' h5 => ?_), by simpa [D.refs] using ha.2⟩
                rw [h1] at h5; simp at h5; obtain ⟨rfl, rfl⟩ := h5
                exact ⟨k1, by rw [k2, hoff1]⟩
            · exact (Ex.fail hx).elim
      | .cptr (.arr ty m' l), ha, hx =>
        simp only at hx
        cases hf : fit T (.arr ty m' l) (.inl t) with
        | false => rw [hf] at hx; exact (Ex.fail hx).elim
        | true =>
          rw [hf] at hx
          simp only [cond_true] at hx
          simp only [fit, ht, Bool.and_eq_true, Nat.beq_eq, decide_eq_true_eq] at hf
          obtain ⟨rfl, rfl⟩ := hf
          rcases Ex.br hx with ⟨hb, hx⟩ | ⟨_, hx⟩
          · obtain ⟨rfl, rfl, rfl, rfl⟩ := Ex.ret hx
            have hb : 0 ≤ n ∧ n < m := by simpa using hb
            have hR := ha.1.one rfl
            cases hR with
            | @cptr _ b off cs hat hr =>
              refine Post.same g _ (run_indexAt_arr K ht b off k n hb.1 hb.2 X.w) ⟨.mk rfl (at_elem K hat hr n.toNat (by omega)), ?_⟩
              simp [D.refs, K.base.encRefs]
          · exact (Ex.fail hx).elim
      | .cptr (.bool _), ha, hx | .cptr (.int _ _), ha, hx | .cptr (.str _), ha, hx | .cptr .anil, ha, hx | .cptr (.acons _ _), ha, hx | .cptr (.tup _), ha, hx | .cptr .nils, ha, hx | .cptr (.sl _ _ _), ha, hx
      | .cptr (.vs _ _), ha, hx | .cptr (.ptr _ _), ha, hx | .cptr (.vptr _ _ _), ha, hx | .cptr (.cptr _), ha, hx | .cptr .nilp, ha, hx | .cptr (.fn _ _), ha, hx | .cptr .nilfn, ha, hx | .cptr .top, ha, hx
      | .bool _, ha, hx | .int _ _, ha, hx | .str _, ha, hx | .anil, ha, hx | .acons _ _, ha, hx | .arr _ _ _, ha, hx | .tup _, ha, hx | .nils, ha, hx | .sl _ _ _, ha, hx | .vs _ _, ha, hx
      | .vptr _ _ _, ha, hx | .nilp, ha, hx | .fn _ _, ha, hx | .nilfn, ha, hx | .top, ha, hx => exact (Ex.fail hx).elim
    | _ => rw [ht] at hx; exact (Ex.fail hx).elim
  | _ => exact (Ex.fail hx).elim

theorem index_ok {t : TypeId} {a i d : D C} {va vi : Value} (ha : RO T X nx lim a va) (hi : RO T X nx lim i vi) (hx : Ex e (evIndex T t a i) h nx d h' nx' tr) : Post P T X nx lim h' nx' d (Instr.index t va vi) := by
  unfold evIndex at hx
  cases i with
  | int k n =>
    obtain ⟨rfl, _⟩ := hi.1.int
    cases a with
    | arr ty m l =>
      simp only at hx
      cases hf : fit T (.arr ty m l) (.inl t) with
      | false => rw [hf] at hx; exact (Ex.fail hx).elim
      | true =>
        rw [hf] at hx
        simp only [cond_true] at hx
        rcases Ex.br hx with ⟨hb, hx⟩ | ⟨_, hx⟩
        · obtain ⟨rfl, rfl, rfl, rfl⟩ := Ex.ret hx
          have hb : 0 ≤ n ∧ n < m := by simpa using hb
          cases ht : T.ty t with
          | arr m2 el ty2 =>
            simp only [fit, ht, Bool.and_eq_true, Nat.beq_eq, decide_eq_true_eq] at hf
            obtain ⟨rfl, rfl⟩ := hf
            obtain ⟨cs, hr, rfl⟩ := ha.1.row rfl
            obtain ⟨c1, c2, c3, hc, hl, hr'⟩ := hr.elem K.base n.toNat (by omega)
            have hs := run_sizeElem K (.inl ⟨_, ht⟩) X.w
            have hfe : fit T (T.enc ty (l.getD n.toNat (T.dflt ty))) (.inl el) = true := by rw [fit_congr hs.2.2]; exact K.base.encFit _ _
            obtain ⟨v, hv, hrv⟩ := run_part K (c1 := c1) (c3 := c3) hfe hr' X.w
            refine Post.same g v ?_ (RO.mk hrv (K.base.encRefs _ _))
            rw [← hc, hl, ← hs.2.1] at hv
            simp only [Instr.index, asIntOf, Sem.run_bind, Sem.run_pure, Result.andThen_ok, run_underlying (K.uArr _ _ _ _ ht).1]
            simp [hb, hs.1, hv]
          | _ => simp [fit, ht] at hf
        · exact (Ex.fail hx).elim
    | str s =>
      simp only at hx
      cases ht : T.ty t with
      | str =>
        simp only [ht] at hx
        rcases Ex.br hx with ⟨hb, hx⟩ | ⟨_, hx⟩
        · obtain ⟨rfl, rfl, rfl, rfl⟩ := Ex.ret hx
          have hb : 0 ≤ n ∧ n < s.length := by simpa using hb
          have hv := ha.1.str
          subst hv
          have hlt : n.toNat < s.length := by omega
          have hsz : (⟨⟨s⟩⟩ : ByteArray).size = s.length := rfl
          refine Post.same g (.int .u8 (s.getD n.toNat 0).toNat) ?_ (RO.mk (.mk rfl (.int ?_)) rfl)
          · have e1 : (⟨⟨s⟩⟩ : ByteArray)[n.toNat]? = some (s.getD n.toNat 0) := by
              rw [getElem?_pos _ _ (by rw [hsz]; exact hlt)]
              simp [ByteArray.getElem_eq_getElem_data, hlt]
            simp only [Instr.index, asIntOf, Sem.run_bind, Sem.run_pure, Result.andThen_ok, run_underlying (K.uStr _ ht)]
            simp [hb.1, e1]
          · generalize s.getD n.toNat 0 = q
            have := q.toNat_lt
            simp [IntKind.min, IntKind.max, IntKind.signed, IntKind.bits]
            omega
        · exact (Ex.fail hx).elim
      | _ => rw [ht] at hx; exact (Ex.fail hx).elim
    | _ => exact (Ex.fail hx).elim
  | _ => exact (Ex.fail hx).elim
end
end Go.Ev
