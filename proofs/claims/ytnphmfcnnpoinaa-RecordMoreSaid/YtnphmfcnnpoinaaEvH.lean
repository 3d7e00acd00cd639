/-
  Stores, addresses, parts.
-/
import Derived.Test.YtnphmfcnnpoinaaEvG
namespace Go.Ev
set_option linter.unusedVariables false
set_option linter.unusedSimpArgs false

section
variable {C : Cdc} {P : Program} {T : Tab C} (K : PLaws P T)
open Pg (Ex)
variable {X : Cx} {h h' : Heap C} {nx nx' : Nat} {e : Pg.Lv} {lim : Lim} {tr : Tr} (g : G T X h nx lim)

theorem splice_len {α : Type} (l : List α) (k : Nat) (vs : List α) (h : k + vs.length ≤ l.length) : (l.take k ++ vs ++ l.drop (k + vs.length)).length = l.length := by
  simp only [List.length_append, List.length_take, List.length_drop]; omega
theorem splice_get {α : Type} (l : List α) (k : Nat) (vs : List α) (h : k + vs.length ≤ l.length) (o : Nat) (ho : o < k ∨ k + vs.length ≤ o) : (l.take k ++ vs ++ l.drop (k + vs.length))[o]? = l[o]? := by
  rcases ho with ho | ho
  · rw [List.append_assoc, List.getElem?_append_left (by simp only [List.length_take]; omega), List.getElem?_take, if_pos ho]
  · rw [List.getElem?_append_right (by simp only [List.length_append, List.length_take]; omega), List.getElem?_drop]
    congr 1
    simp only [List.length_append, List.length_take]; omega
theorem splice_mid {α : Type} (l1 a1 a2 a3 l3 vs : List α) (hl : a2.length = vs.length) :
    (l1 ++ (a1 ++ a2 ++ a3) ++ l3).take (l1.length + a1.length) ++ vs ++ (l1 ++ (a1 ++ a2 ++ a3) ++ l3).drop (l1.length + a1.length + vs.length) = l1 ++ (a1 ++ vs ++ a3) ++ l3 := by
  have e1 : l1 ++ (a1 ++ a2 ++ a3) ++ l3 = (l1 ++ a1) ++ (a2 ++ (a3 ++ l3)) := by simp
  have e2 : (l1 ++ (a1 ++ a2 ++ a3) ++ l3).take (l1.length + a1.length) = l1 ++ a1 := by
    rw [e1]; exact List.take_left' (by simp)
  have e3 : (l1 ++ (a1 ++ a2 ++ a3) ++ l3).drop (l1.length + a1.length + vs.length) = a3 ++ l3 := by
    rw [show l1 ++ (a1 ++ a2 ++ a3) ++ l3 = (l1 ++ a1 ++ a2) ++ (a3 ++ l3) by simp]; exact List.drop_left' (by simp; omega)
  rw [e2, e3]; simp
theorem splice_seg {α : Type} (l : List α) (off n : Nat) (a1 a2 a3 vs : List α) (h : (l.drop off).take n = a1 ++ a2 ++ a3) (hn : off + n ≤ l.length) (hl : a2.length = vs.length) :
    ((l.take (off + a1.length) ++ vs ++ l.drop (off + a1.length + vs.length)).drop off).take n = a1 ++ vs ++ a3 := by
  have hlen : a1.length + a2.length + a3.length = n := by
    have := congrArg List.length h
    simp at this; omega
  have e : l = l.take off ++ (a1 ++ a2 ++ a3) ++ l.drop (off + n) := by
    rw [← h, ← List.drop_drop, List.append_assoc, List.take_append_drop, List.take_append_drop]
  have h1 : (l.take off).length = off := by simp; omega
  have := splice_mid (l.take off) a1 a2 a3 (l.drop (off + n)) vs hl
  rw [← e, h1] at this
  rw [this, List.append_assoc, List.drop_left' h1, List.take_left' (by simp; omega)]

include K g in
theorem store_ok {t : TypeId} {a v d : D C} {va vv : Value} (ha : RO T X nx lim a va) (hv : RO T X nx lim v vv) (hx : Ex e (evStore T t a v) h nx d h' nx' tr) :
    ∃ X', (Instr.storeAt t va vv).run P X.w = .ok () X'.w ∧ G T X' h' nx' lim ∧ Step X nx lim X' ∧ d = .tup .anil := by
  unfold evStore at hx
  cases a with
  | ptr id p =>
    simp only at hx
    obtain ⟨o, tr', ho, hx, _⟩ := Ex.rd hx
    cases o with
    | vec ty own l => exact (Ex.fail hx).elim
    | var u d0 =>
      simp only [stVar] at hx
      cases hp : setPath T d0 p v with
      | none => rw [hp] at hx; exact (Ex.fail hx).elim
      | some d1 =>
        cases ht : tyAt T u p with
        | none => rw [hp, ht] at hx; exact (Ex.fail hx).elim
        | some t' =>
          simp only [hp, ht] at hx
          cases hf : fit T v (.inl t) && fit T v (.inl t') with
          | false => rw [hf] at hx; exact (Ex.fail hx).elim
          | true =>
            rw [hf] at hx
            simp only [cond_true] at hx
            obtain ⟨o', tr2, _, hx, _⟩ := Ex.wr hx
            obtain ⟨rfl, rfl, rfl, rfl⟩ := Ex.ret hx
            simp only [Bool.and_eq_true] at hf
            obtain ⟨b, c, h1, h2, h3, h4⟩ := g.var id u d0 ho
            have hR := ha.1.one rfl
            cases hR with
            | @ptr _ _ a' hq =>
              obtain ⟨hok, rfl⟩ := hq b u h1
              have hvc := hv.1.cells K hf.1
              obtain ⟨c1, c2, c3, hc, hl, hlen, hr, hfd⟩ := h3.setPath K.base p hok h4 hp hvc ht hf.2
              have hone := hvc.ones K.base rfl (.inl ⟨_, hf.1⟩)
              have hsz := hvc.len K.base hf.1
              have hst := run_storeCells_at P b (offAt T u p) u vv.cells.toList 0 c X.w h2 (by
                have : c.size = c.toList.length := by simp
                rw [this, hc]; simp only [List.length_append]; omega) hone
              have hsp := splice_mid [] c1 c2 c3 [] vv.cells.toList hlen
              simp only [List.nil_append, List.append_nil, List.length_nil, Nat.zero_add] at hsp
              rw [← hc, hl] at hsp
              simp only [Nat.add_zero] at hst
              rw [hsp] at hst
              obtain ⟨X', hX', hg, hs⟩ := G.setVar K.base g ho h1 h2 (c' := (c1 ++ vv.cells.toList ++ c3).toArray) (by simpa using hr) (by
                have : c.size = c.toList.length := by simp
                rw [this, hc]; simp only [List.size_toArray, List.length_append]; omega) hfd (fun r hr' => by
                  rcases refs_setPath K.base p hp r hr' with h5 | h5
                  · exact (g.nums id _ ho).2 r h5
                  · exact hv.2 r h5)
              refine ⟨X', ?_, hg, hs, rfl⟩
              have hsz' : vv.cells.size = T.size t := by simpa using hsz
              simp [Instr.storeAt, Instr.sureAddr, storeVar, run_sizeOf K hf.1, hsz', hst, hX']
  | vptr id n p =>
    simp only at hx
    obtain ⟨o, tr', ho, hx, _⟩ := Ex.rd hx
    cases o with
    | var u d0 => exact (Ex.fail hx).elim
    | vec ty own l =>
      cases own with
      | false => exact (Ex.fail hx).elim
      | true =>
        simp only [stVec] at hx
        match p, hx with
        | [], hx => exact (Ex.fail hx).elim
        | i :: j :: q, hx => exact (Ex.fail hx).elim
        | [i], hx =>
          simp only at hx
          cases hd : T.dec ty v with
          | none => rw [hd] at hx; exact (Ex.fail hx).elim
          | some z =>
            simp only [hd] at hx
            cases hb : (Nat.beq n l.length && fit T v (.inl t)) with
            | false => rw [hb] at hx; exact (Ex.fail hx).elim
            | true =>
              rw [hb] at hx
              simp only [cond_true] at hx
              obtain ⟨o', tr2, _, hx, _⟩ := Ex.wr hx
              obtain ⟨rfl, rfl, rfl, rfl⟩ := Ex.ret hx
              simp only [Bool.and_eq_true] at hb
              have hn : n = l.length := Nat.eq_of_beq_eq_true hb.1
              obtain ⟨v0, b, lo, hi, h1, h2⟩ := g.vec id ty true l ho
              have hlenv := h2.len
              have hR := ha.1.one rfl
              cases hR with
              | vptr hh =>
                obtain ⟨b', off, cp, hv0, hi', hok, rfl⟩ := (hh _ _ _ _ _ h1).2 (by rw [h2.len, hn])
                have hvc := hv.1.cells K hb.2
                have hone := hvc.ones K.base rfl (.inl ⟨_, hb.2⟩)
                have hsz := hvc.len K.base hb.2
                have hzr := K.base.decR X ty _ _ _ hd hvc
                have hzl := hzr.len K.base (K.base.encFit _ _)
                rcases h2 with ⟨⟨a, q1, qa⟩, _⟩ | ⟨off', cp', q1, q2, q3, q4⟩
                · rw [q1] at hv0; simp only [Value.slice.injEq] at hv0; exact (qa _ _ hv0.1).elim
                · rw [q1] at hv0; simp at hv0
                  obtain ⟨⟨rfl, rfl⟩, _, rfl⟩ := hv0
                  rcases q4 with ⟨_, q5, q6 | ⟨c, ee, q6, q7, q8⟩⟩ | ⟨q5, _⟩
                  · omega
                  · obtain ⟨a1, a2, a3, hc, hl, hlen, hr⟩ := q8.setElem K.base i z (by omega) hzr
                    have hmul : l.length * T.size (T.ety ty) ≤ cp' * T.size (T.ety ty) := Nat.mul_le_mul_right _ q2
                    have hcs : c.toList.length = c.size := by simp
                    have htot : a1.length + a2.length + a3.length = l.length * T.size (T.ety ty) := by
                      have := congrArg List.length hc
                      simp only [List.length_append, List.length_take, List.length_drop] at this
                      omega
                    have hst := run_storeCells_at P b (off' + i * T.size (T.ety ty)) ee vv.cells.toList 0 c X.w q6 (by omega) hone
                    simp only [Nat.add_zero, ← hl] at hst
                    have hseg := splice_seg c.toList off' (l.length * T.size (T.ety ty)) a1 a2 a3 vv.cells.toList hc (by omega) hlen
                    have hgt := splice_get c.toList (off' + a1.length) vv.cells.toList (by omega)
                    have hln := splice_len c.toList (off' + a1.length) vv.cells.toList (by omega)
                    generalize hc' : c.toList.take (off' + a1.length) ++ vv.cells.toList ++ c.toList.drop (off' + a1.length + vv.cells.toList.length) = k at hst hseg hgt hln
                    obtain ⟨X', hX', _, hg, hs⟩ := G.setVec K.base g ho h1 q6 (c' := k.toArray) (l' := l.set i z) (v' := v0) (lo' := lo) (by simp [hln]) (by
                      intro o ho'
                      have := hgt o (by omega)
                      simpa using this) (Nat.le_refl _) (.inr rfl) ⟨Nat.le_refl _, fun _ => rfl⟩ (by
                      intro X' hw hO hm _ hs
                      refine .inr ⟨off', cp', by simp [q1], by simpa using q2, q3, .inl ⟨rfl, q5, .inr ⟨_, ee, by rw [hw]; exact setRow_heap _ _ _ _ _ _ q6, by simpa [hln] using q7, ?_⟩⟩⟩
                      have hr' := hr.step K.base hs (by simp [D.refs])
                      simpa [hseg] using hr')
                    refine ⟨X', ?_, hg, hs, rfl⟩
                    have hsz' : vv.cells.size = T.size t := by simpa using hsz
                    rw [hl] at hst
                    simp only [offAt, Nat.add_zero]
                    simp [Instr.storeAt, Instr.sureAddr, storeVar, run_sizeOf K hb.2, hsz', hst, hX']
                  · simp at q5
  | _ => exact (Ex.fail hx).elim

include K

omit g in
theorem fieldOf {s : TypeId} {fs : List TypeId} (hs : T.ty s = .struct fs) {i : Nat} (hi : i < fs.length) :
    ∃ (fields : Array Field) (f : Field), P.underlying s = some (.struct fields) ∧ fields[i]? = some f ∧ f.type = fs.getD i 0 ∧ f.type ∈ fs ∧ f.offset = sumSz T (fs.take i) := by
  obtain ⟨fields, hu, hm, ho, _⟩ := K.uStruct _ _ hs
  have h1 : (fields.toList.map (·.type))[i]? = some (fs.getD i 0) := by rw [hm]; simp [hi]
  rw [List.getElem?_map, Option.map_eq_some_iff] at h1
  obtain ⟨f, hf, ht⟩ := h1
  have hf' : fields[i]? = some f := by simpa using hf
  refine ⟨fields, f, hu, hf', ht, ?_, ho i f hf'⟩
  rw [ht]
  simp [hi]

omit g in
/-- the address of a field -/
theorem run_fieldAt {s : TypeId} {fs : List TypeId} (hs : T.ty s = .struct fs) {i : Nat} (hi : i < fs.length) (w : World) (b off : Nat) :
    (Instr.fieldAt s (.pointer (some ⟨b, off, none⟩)) i).run P w = .ok (.pointer (some ⟨b, off + sumSz T (fs.take i), none⟩)) w := by
  obtain ⟨fields, f, hu, hf, _, hmem, ho⟩ := fieldOf K hs hi
  obtain ⟨inf, h1, h2, h3⟩ := K.uField _ _ _ hs hmem
  have hne : ¬ inf.size = 0 := by omega
  simp [Instr.fieldAt, run_underlying hu, hf, Instr.sureAddr, fieldPlace, sizeOf, typeInfo, h1, hne, Addr.add_lit, ho]

include g

theorem fieldAddr_ok {s : TypeId} {i : Nat} {a d : D C} {va : Value} (ha : RO T X nx lim a va) (hx : Ex e (evFieldAddr T s a i) h nx d h' nx' tr) : Post P T X nx lim h' nx' d (Instr.fieldAt s va i) := by
  unfold evFieldAddr at hx
  cases hs : T.ty s with
  | struct fs =>
    simp only [hs] at hx
    cases hi : Nat.blt i fs.length with
    | false => rw [hi] at hx; exact (Ex.fail hx).elim
    | true =>
      rw [hi] at hx
      simp only [cond_true] at hx
      have hi : i < fs.length := by simpa [Nat.blt_eq] using hi
      have hok1 : okPath T s [i] := by simp [okPath, hs, hi]
      have hoff1 : offAt T s [i] = sumSz T (fs.take i) := by simp [offAt, hs]
      match a, ha, hx with
      | .ptr id p, ha, hx =>
        obtain ⟨o, tr', ho, hx, _⟩ := Ex.rd hx
        cases o with
        | vec ty own l => exact (Ex.fail hx).elim
        | var u d0 =>
          simp only [faVar] at hx
          cases hty : decide (tyAt T u p = some s) with
          | false => rw [hty] at hx; exact (Ex.fail hx).elim
          | true =>
            rw [hty] at hx
            obtain ⟨rfl, rfl, rfl, rfl⟩ := Ex.ret hx
            have hty : tyAt T u p = some s := by simpa using hty
            obtain ⟨b, c, h1, h2, h3, h4⟩ := g.var id u d0 ho
            have hR := ha.1.one rfl
            cases hR with
            | @ptr _ _ a' hq =>
              obtain ⟨hok, rfl⟩ := hq b u h1
              obtain ⟨k1, k2⟩ := okPath_snoc hok hty i [] hok1
              refine Post.same g _ (run_fieldAt K hs hi X.w b _) ⟨.mk rfl (.ptr fun b' t' h5 => ?_), ?_⟩
              · rw [h1] at h5; simp at h5; obtain ⟨rfl, rfl⟩ := h5
                exact ⟨k1, by rw [k2, hoff1]⟩
              · simpa [D.refs] using ha.2
      | .vptr id n [j], ha, hx =>
        obtain ⟨o, tr', ho, hx, _⟩ := Ex.rd hx
        cases o with
        | var u d0 => exact (Ex.fail hx).elim
        | vec ty own l =>
          simp only [faVec] at hx
          cases hb : (Nat.beq n l.length && Nat.beq s (T.ety ty)) with
          | false => rw [hb] at hx; exact (Ex.fail hx).elim
          | true =>
            rw [hb] at hx
            obtain ⟨rfl, rfl, rfl, rfl⟩ := Ex.ret hx
            simp only [Bool.and_eq_true] at hb
            have hn : n = l.length := Nat.eq_of_beq_eq_true hb.1
            have hse : s = T.ety ty := Nat.eq_of_beq_eq_true hb.2
            obtain ⟨v0, b, lo, hi', h1, h2⟩ := g.vec id ty own l ho
            have hR := ha.1.one rfl
            cases hR with
            | vptr hh =>
              obtain ⟨b', off, cp, hv0, hj, hok, rfl⟩ := (hh _ _ _ _ _ h1).2 (by rw [h2.len, hn])
              refine Post.same g _ (run_fieldAt K hs hi X.w b' _) ⟨.mk rfl (.vptr fun v e b lo hi'' h5 => ?_), ?_⟩
              · rw [h1] at h5; simp at h5; obtain ⟨rfl, rfl, rfl, rfl, rfl⟩ := h5
                refine ⟨by rw [h2.len]; omega, fun _ => ⟨b', off, cp, hv0, hj, by rw [← hse]; exact hok1, ?_⟩⟩
                rw [← hse, hoff1]; simp [offAt]
              · simpa [D.refs] using ha.2
      | .cptr q, ha, hx =>
        simp only at hx
        cases hf : fit T q (.inl s) with
        | false => rw [hf] at hx; exact (Ex.fail hx).elim
        | true =>
          rw [hf] at hx
          simp only [cond_true] at hx
          cases hn : q.nth i with
          | none => rw [hn] at hx; exact (Ex.fail hx).elim
          | some x =>
            rw [hn] at hx
            obtain ⟨rfl, rfl, rfl, rfl⟩ := Ex.ret hx
            have hR := ha.1.one rfl
            cases hR with
            | @cptr _ b off cs hat hr =>
              obtain ⟨c1, c2, c3, hc, hl, hr', _, _⟩ := hr.partT K.base hs hf hn
              refine Post.same g _ (run_fieldAt K hs hi X.w b off) ⟨.mk rfl (.cptr (cs := c2) (fun j v hj => ?_) hr'), ?_⟩
              · rw [← hl, Nat.add_assoc]
                refine hat _ v ?_
                rw [hc, List.append_assoc, List.getElem?_append_right (by omega)]
                rw [show c1.length + j - c1.length = j by omega, List.getElem?_append_left (List.getElem?_eq_some_iff.1 hj).1]; exact hj
              · intro r hr2
                exact ha.2 r (by simpa [D.refs] using refs_nth _ _ _ hn r (by simpa [D.refs] using hr2))
      | .vptr id n [], ha, hx => exact (Ex.fail hx).elim
      | .vptr id n (_ :: _ :: _), ha, hx => exact (Ex.fail hx).elim
      | .bool _, ha, hx => exact (Ex.fail hx).elim
      | .int _ _, ha, hx => exact (Ex.fail hx).elim
      | .str _, ha, hx => exact (Ex.fail hx).elim
      | .anil, ha, hx => exact (Ex.fail hx).elim
      | .acons _ _, ha, hx => exact (Ex.fail hx).elim
      | .arr _ _ _, ha, hx => exact (Ex.fail hx).elim
      | .tup _, ha, hx => exact (Ex.fail hx).elim
      | .nils, ha, hx => exact (Ex.fail hx).elim
      | .sl _ _ _, ha, hx => exact (Ex.fail hx).elim
      | .vs _ _, ha, hx => exact (Ex.fail hx).elim
      | .nilp, ha, hx => exact (Ex.fail hx).elim
      | .fn _ _, ha, hx => exact (Ex.fail hx).elim
      | .nilfn, ha, hx => exact (Ex.fail hx).elim
      | .top, ha, hx => exact (Ex.fail hx).elim
  | _ => rw [hs] at hx; exact (Ex.fail hx).elim

omit g in
/-- a part of a row of cells -/
theorem run_part {x : D C} {t : TypeId} {c1 c2 c3 : List Value} (hf : fit T x (.inl t) = true) (hr : R T X false x c2) (w : World) :
    ∃ v, (part t ⟨c1 ++ c2 ++ c3⟩ c1.length).run P w = .ok v w ∧ RV T X x v := by
  have hl := hr.len K.base hf
  cases hb : x.isRow with
  | true =>
    refine ⟨.agg ⟨c2⟩, ?_, .inl ⟨hb, c2, hr, rfl⟩⟩
    have : ((⟨c1 ++ c2 ++ c3⟩ : Array Value).extract c1.length (c1.length + T.size t)) = ⟨c2⟩ := by
      apply Array.ext'
      simp only [Array.toList_extract, List.extract_eq_take_drop]
      rw [← hl, show c1.length + c2.length - c1.length = c2.length by omega, List.append_assoc, List.drop_left' rfl, List.take_left' rfl]
    simp only [part, Sem.run_bind, run_isAgg K hf, hb, Result.andThen_ok, run_sizeOf K hf, if_true, Sem.run_pure, this]
  | false =>
    have h1 : ∃ v, c2 = [v] := by
      cases hr <;> simp [D.isRow] at hb <;> exact ⟨_, rfl⟩
    obtain ⟨v, rfl⟩ := h1
    exact ⟨v, by simp [part, run_isAgg K hf, hb], .inr ⟨hb, hr⟩⟩

theorem field_ok {s : TypeId} {i : Nat} {a d : D C} {va : Value} (ha : RO T X nx lim a va) (hx : Ex e (evField T s a i) h nx d h' nx' tr) : Post P T X nx lim h' nx' d (Instr.field s va i) := by
  unfold evField at hx
  cases hs : T.ty s with
  | struct fs =>
    simp only [hs] at hx
    cases hf : fit T a (.inl s) with
    | false => rw [hf] at hx; exact (Ex.fail hx).elim
    | true =>
      rw [hf] at hx
      simp only [cond_true] at hx
      cases hn : a.nth i with
      | none => rw [hn] at hx; exact (Ex.fail hx).elim
      | some x =>
        rw [hn] at hx
        obtain ⟨rfl, rfl, rfl, rfl⟩ := Ex.ret hx
        obtain ⟨cs, hr, rfl⟩ := ha.1.row ((fit_agg hf).2 (.inl ⟨fs, hs⟩))
        obtain ⟨c1, c2, c3, hc, hl, hr', hi, hfx⟩ := hr.partT K.base hs hf hn
        obtain ⟨fields, f, hu, hfi, hty, _, ho⟩ := fieldOf K hs hi
        obtain ⟨v, hv, hrv⟩ := run_part K (c1 := c1) (c3 := c3) hfx hr' X.w
        refine Post.same g v ?_ ⟨hrv, fun r hr2 => ha.2 r (refs_nth _ _ _ hn r hr2)⟩
        rw [← hc, hl] at hv
        simp only [Instr.field, Sem.run_bind, run_underlying hu, Result.andThen_ok, hfi, asAgg, Sem.run_pure, ho]
        rw [hty]; exact hv
  | _ => rw [hs] at hx; exact (Ex.fail hx).elim

end
end Go.Ev
