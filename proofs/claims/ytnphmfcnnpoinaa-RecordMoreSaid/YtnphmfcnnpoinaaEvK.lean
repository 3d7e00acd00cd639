/-
  What makes memory: variables, rows, slices, append.
-/
import Derived.Test.YtnphmfcnnpoinaaEvJ
namespace Go.Ev
set_option linter.unusedVariables false
set_option linter.unusedSimpArgs false

theorem foldl_set (off : Nat) : ∀ (vs : List Value) (k : Nat) (cs : List Value), off + k + vs.length ≤ cs.length →
    (vs.zipIdx k).foldl (fun (a : Array Value) (x : Value × Nat) => a.setIfInBounds (off + x.2) x.1) ⟨cs⟩ = ⟨cs.take (off + k) ++ vs ++ cs.drop (off + k + vs.length)⟩ := by
  intro vs
  induction vs with
  | nil => intro k cs _; simp
  | cons v vs ih =>
    intro k cs hl
    simp only [List.length_cons] at hl
    simp only [List.zipIdx_cons, List.foldl_cons]
    have e1 : (⟨cs⟩ : Array Value).setIfInBounds (off + k) v = ⟨cs.set (off + k) v⟩ := by apply Array.ext'; simp
    rw [e1, ih (k + 1) (cs.set (off + k) v) (by simp; omega)]
    have := list_seg_step cs (off + k) v vs (by omega)
    rw [show off + (k + 1) = off + k + 1 by omega]
    exact congrArg _ this

theorem foldl_cells (off : Nat) (v : Value) (cs : List Value) (h : off + v.cells.size ≤ cs.length) :
    Array.foldl (fun (a : Array Value) (x : Value × Nat) => a.setIfInBounds (off + x.2) x.1) (⟨cs⟩ : Array Value) v.cells.zipIdx = ⟨cs.take off ++ v.cells.toList ++ cs.drop (off + v.cells.toList.length)⟩ := by
  rw [← Array.foldl_toList, Array.toList_zipIdx]
  have := foldl_set off v.cells.toList 0 cs (by simpa using h)
  simpa using this

section
variable {C : Cdc} {P : Program} {T : Tab C} (K : PLaws P T)
open Pg (Ex)
variable {X : Cx} {h h' : Heap C} {nx nx' : Nat} {e : Pg.Lv} {lim : Lim} {tr : Tr} (g : G T X h nx lim) (hlim : nx' ≤ lim.top)

theorem typed_ok {d : D C} {v : Value} {t : TypeId} (hd : RO T X nx lim d v) : RO T X nx lim (typed T t d) v := by
  cases d with
  | nils =>
    simp only [typed]
    split
    · rw [hd.1.nils]; exact RO.mk (.mk rfl (.sl0 _ _ _)) rfl
    · exact hd
  | _ => exact hd

theorem pick_ok {c a b d : D C} {vc va vb : Value} (hc : RO T X nx lim c vc) (ha : RO T X nx lim a va) (hb : RO T X nx lim b vb) (g : G T X h nx lim) (hx : Ex e (evPick c a b) h nx d h' nx' tr) :
    Post P T X nx lim h' nx' d (do pure (if ← asBool vc then va else vb)) := by
  unfold evPick at hx
  cases c with
  | bool t =>
    simp only at hx
    rw [hc.1.bool]
    rcases Ex.br hx with ⟨rfl, hx⟩ | ⟨rfl, hx⟩
    · obtain ⟨rfl, rfl, rfl, rfl⟩ := Ex.ret hx
      exact Post.same g va (by simp [asBool]) ha
    · obtain ⟨rfl, rfl, rfl, rfl⟩ := Ex.ret hx
      exact Post.same g vb (by simp [asBool]) hb
  | _ => exact (Ex.fail hx).elim

include K g hlim
theorem newVar_ok {t : TypeId} {d0 d : D C} {v : Value} (hv : RO T X nx lim d0 v) (hf : fit T d0 (.inl t) = true) (hx : Ex e (.nw (.var t d0) fun id => .ret (.ptr id [])) h nx d h' nx' tr) :
    Post P T X nx lim h' nx' d (do pure (.pointer (some (← newVar t v)))) := by
  obtain ⟨t1, hx, _⟩ := Ex.nw hx
  obtain ⟨rfl, rfl, rfl, rfl⟩ := Ex.ret hx
  have hc := hv.1.cells K hf
  obtain ⟨g1, s1⟩ := G.newVar K.base g (by omega) (c := v.cells) hc hf hv.2
  refine ⟨.pointer (some ⟨X.w.heap.size, 0, none⟩), _, ?_, g1, s1, ⟨.mk rfl (.ptr fun b t' hb => ?_), ?_⟩⟩
  · simp [newVar, newRow]; rfl
  · simp [Cx.newVar] at hb; obtain ⟨rfl, rfl⟩ := hb
    exact ⟨by simp [okPath], by simp [offAt]⟩
  · intro id hid
    simp [D.refs] at hid; subst hid
    exact g.new (by omega)

theorem alloc_ok {t : TypeId} {d : D C} (hx : Ex e (evAlloc T t) h nx d h' nx' tr) : Post P T X nx lim h' nx' d (Instr.alloc t true (.tuple #[])) := by
  unfold evAlloc at hx
  cases hz : T.zero t with
  | none => rw [hz] at hx; exact (Ex.fail hx).elim
  | some z =>
    simp only [hz] at hx
    cases hf : fit T z (.inl t) with
    | false => rw [hf] at hx; exact (Ex.fail hx).elim
    | true =>
      rw [hf] at hx
      simp only [cond_true] at hx
      obtain ⟨i, v, h1, h2, h3, h4⟩ := K.zero _ _ hz
      obtain ⟨t1, hx, _⟩ := Ex.nw hx
      obtain ⟨rfl, rfl, rfl, rfl⟩ := Ex.ret hx
      obtain ⟨g1, s1⟩ := G.newVar K.base g (by omega) (c := v.cells) (h4 X) hf (by simp [h3])
      refine ⟨.pointer (some ⟨X.w.heap.size, 0, none⟩), _, ?_, g1, s1, ⟨.mk rfl (.ptr fun b t' hb => ?_), ?_⟩⟩
      · simp [Instr.alloc, zeroValue, typeInfo, h1, h2, newVar, newRow]; rfl
      · simp [Cx.newVar] at hb; obtain ⟨rfl, rfl⟩ := hb
        exact ⟨by simp [okPath], by simp [offAt]⟩
      · intro id hid
        simp [D.refs] at hid; subst hid
        exact g.new (by omega)

theorem box_ok {t : TypeId} {d0 d : D C} {v : Value} (hv : RO T X nx lim d0 v) (hx : Ex e (evBox T t d0) h nx d h' nx' tr) : Post P T X nx lim h' nx' d (Instr.box t v) := by
  unfold evBox at hx
  cases hf : fit T d0 (.inl t) with
  | false => rw [hf] at hx; exact (Ex.fail hx).elim
  | true => rw [hf] at hx; exact newVar_ok K g hlim hv hf hx

omit hlim g
/-- cells of parts are laid into a row -/
theorem fill_row : ∀ (ps : List (Nat × D C)) (vs : List (Nat × Value)) {fs : List TypeId} {z d : D C} {cs : List Value} (pl : Nat → Option (Nat × Nat)), fillD z ps = some d → fit T z (.inr fs) = true → R T X false z cs →
    ps.length = vs.length → (∀ (j : Nat) (p : Nat × D C) (q : Nat × Value), ps[j]? = some p → vs[j]? = some q → p.1 = q.1 ∧ RO T X nx lim p.2 q.2) → (∀ p ∈ ps, fit T p.2 (.inl (fs.getD p.1 0)) = true) →
    (∀ i, i < fs.length → pl i = some (sumSz T (fs.take i), T.size (fs.getD i 0))) →
    ∃ ds, Instr.fill pl ⟨cs⟩ vs = some ⟨ds⟩ ∧ R T X false d ds ∧ ∀ r ∈ d.refs, r ∈ z.refs ∨ old nx lim r := by
  intro ps
  induction ps with
  | nil =>
    intro vs fs z d cs pl hfl hf hz hlen _ _ _
    simp [fillD] at hfl; subst hfl
    cases vs with
    | nil => exact ⟨cs, rfl, hz, fun r hr => .inl hr⟩
    | cons => simp at hlen
  | cons p ps ih =>
    intro vs fs z d cs pl hfl hf hz hlen hpq hpf hpl
    obtain ⟨i, x⟩ := p
    cases vs with
    | nil => simp at hlen
    | cons q vs =>
      obtain ⟨i', v⟩ := q
      have h0 := hpq 0 (i, x) (i', v) rfl rfl
      obtain ⟨rfl, hv⟩ := h0
      simp only [fillD] at hfl
      cases hs : z.setNth i x with
      | none => rw [hs] at hfl; simp at hfl
      | some z' =>
        simp only [hs] at hfl
        have hfx := hpf (i, x) (by simp)
        have hvc := hv.1.cells K hfx
        obtain ⟨c1, c2, c3, hc, hl, hlen2, hi, hr, hf'⟩ := hz.setPart K.base hf hs hvc hfx
        obtain ⟨ds, hds, hrd, href⟩ := ih vs pl hfl hf' hr (by simpa using hlen) (fun j p q hp hq => hpq (j + 1) p q (by simpa using hp) (by simpa using hq)) (fun p hp => hpf p (by simp [hp])) hpl
        refine ⟨ds, ?_, hrd, fun r hr' => ?_⟩
        · have hsz := hvc.len K.base hfx
          have hsz' : v.cells.size = T.size (fs.getD i 0) := by simpa using hsz
          simp only [Instr.fill, hpl i hi]
          have hle : ¬ (v.cells.size ≠ T.size (fs.getD i 0) || decide (sumSz T (fs.take i) + v.cells.size > (⟨cs⟩ : Array Value).size)) = true := by
            simp only [hsz', ne_eq, not_true_eq_false, decide_false, Bool.false_or, decide_eq_true_eq, Nat.not_lt]
            simp only [List.size_toArray, hc, List.length_append, hl]
            have : c2.length = T.size (fs.getD i 0) := by rw [hlen2]; simpa using hsz'
            omega
          rw [if_neg hle]
          have : (Array.foldl (fun cs x => cs.setIfInBounds (sumSz T (List.take i fs) + x.2) x.1) (⟨cs⟩ : Array Value) v.cells.zipIdx) = ⟨c1 ++ v.cells.toList ++ c3⟩ := by
            rw [foldl_cells _ _ _ (by
              simp only [hc, List.length_append]
              have : c2.length = v.cells.size := by simpa using hlen2
              omega)]
            have := splice_mid [] c1 c2 c3 [] v.cells.toList hlen2
            simp only [List.nil_append, List.append_nil, List.length_nil, Nat.zero_add] at this
            rw [hc, ← hl, this]
          rw [this]
          exact hds
        · rcases href r hr' with h1 | h1
          · rcases refs_setNth _ _ _ _ hs r h1 with h2 | h2
            · exact .inl h2
            · exact .inr (hv.2 r h2)
          · exact .inr h1

theorem fill_arr : ∀ (ps : List (Nat × D C)) (vs : List (Nat × Value)) {ty : C.Ty} {l l' : List (C.A ty)} {n : Nat} {cs : List Value}, fillL T l ps = some l' → R T X false (.arr ty n l) cs →
    ps.length = vs.length → (∀ (j : Nat) (p : Nat × D C) (q : Nat × Value), ps[j]? = some p → vs[j]? = some q → p.1 = q.1 ∧ RO T X nx lim p.2 q.2) →
    ∃ ds, Instr.fill (fun i => some (i * T.size (T.ety ty), T.size (T.ety ty))) ⟨cs⟩ vs = some ⟨ds⟩ ∧ R T X false (.arr ty n l') ds := by
  intro ps
  induction ps with
  | nil =>
    intro vs ty l l' n cs hfl hz hlen _
    simp [fillL] at hfl; subst hfl
    cases vs with
    | nil => exact ⟨cs, rfl, hz⟩
    | cons => simp at hlen
  | cons p ps ih =>
    intro vs ty l l' n cs hfl hz hlen hpq
    obtain ⟨i, x⟩ := p
    cases vs with
    | nil => simp at hlen
    | cons q vs =>
      obtain ⟨i', v⟩ := q
      have h0 := hpq 0 (i, x) (i', v) rfl rfl
      obtain ⟨rfl, hv⟩ := h0
      simp only [fillL] at hfl
      cases hb : fit T x (.inl (T.ety ty)) && Nat.blt i l.length with
      | false => rw [hb] at hfl; simp at hfl
      | true =>
        rw [hb] at hfl
        simp only [cond_true] at hfl
        simp only [Bool.and_eq_true, Nat.blt_eq] at hb
        cases hd : T.dec ty x with
        | none => rw [hd] at hfl; simp at hfl
        | some y =>
          simp only [hd] at hfl
          have hvc := hv.1.cells K hb.1
          have hyr := K.base.decR X ty _ _ _ hd hvc
          have hln := (hz.lenArr K.base).2
          obtain ⟨c1, c2, c3, hc, hl, hlen2, hr⟩ := hz.setElem K.base i y (by omega) hyr
          obtain ⟨ds, hds, hrd⟩ := ih vs hfl hr (by simpa using hlen) (fun j p q hp hq => hpq (j + 1) p q (by simpa using hp) (by simpa using hq))
          refine ⟨ds, ?_, hrd⟩
          have hsz := hvc.len K.base hb.1
          have hsz' : v.cells.size = T.size (T.ety ty) := by simpa using hsz
          simp only [Instr.fill]
          have hc2 : c2.length = v.cells.size := by simpa using hlen2
          have hle : ¬ (v.cells.size ≠ T.size (T.ety ty) || decide (i * T.size (T.ety ty) + v.cells.size > (⟨cs⟩ : Array Value).size)) = true := by
            simp only [hsz', ne_eq, not_true_eq_false, decide_false, Bool.false_or, decide_eq_true_eq, Nat.not_lt]
            simp only [List.size_toArray, hc, List.length_append, hl]
            omega
          rw [if_neg hle]
          rw [foldl_cells _ _ _ (by simp only [hc, List.length_append]; omega)]
          have := splice_mid [] c1 c2 c3 [] v.cells.toList hlen2
          simp only [List.nil_append, List.append_nil, List.length_nil, Nat.zero_add] at this
          rw [hc, ← hl, this]
          exact hds

omit K in
theorem R.rep {ty : C.Ty} {x : C.A ty} {cs : List Value} (h : R T X false (T.enc ty x) cs) : ∀ n, R T X false (.arr ty n (List.replicate n x)) (List.replicate n cs).flatten := by
  intro n
  induction n with
  | zero => exact .arr0 ty
  | succ n ih => simpa [List.replicate_succ] using R.arrS h ih

omit K in
theorem zeros_list (z : Array Value) (hz : 0 < z.size) : ∀ n, ((Array.range (n * z.size)).map fun i => z[i % z.size]!).toList = (List.replicate n z.toList).flatten := by
  intro n
  induction n with
  | zero => simp
  | succ n ih =>
    have e1 : Array.range ((n + 1) * z.size) = Array.range (n * z.size) ++ (Array.range z.size).map (n * z.size + ·) := by
      apply Array.ext'
      simp [Array.toList_range, Nat.add_mul, List.range_add]
    rw [e1, Array.map_append, Array.toList_append, ih]
    have e2 : (((Array.range z.size).map (n * z.size + ·)).map fun i => z[i % z.size]!).toList = z.toList := by
      apply List.ext_getElem?
      intro j
      simp only [Array.toList_map, Array.toList_range, List.getElem?_map]
      by_cases hj : j < z.size
      · have hm : (n * z.size + j) % z.size = j := by rw [Nat.add_comm, Nat.add_mul_mod_self_right, Nat.mod_eq_of_lt hj]
        simp [List.getElem?_range hj, hm, hj]
      · simp [hj]
    rw [e2]
    have e3 : (List.replicate (n + 1) z.toList).flatten = (List.replicate n z.toList).flatten ++ z.toList := by
      rw [List.replicate_succ', List.flatten_append]; simp
    rw [e3]

include g in
theorem build_ok {t : TypeId} {ps : List (Nat × D C)} {vs : List (Nat × Value)} {d : D C} (hlen : ps.length = vs.length)
    (hpq : ∀ (j : Nat) (p : Nat × D C) (q : Nat × Value), ps[j]? = some p → vs[j]? = some q → p.1 = q.1 ∧ RO T X nx lim p.2 q.2) (hx : Ex e (evBuild T t ps) h nx d h' nx' tr) :
    Post P T X nx lim h' nx' d (Instr.build t ⟨vs⟩) := by
  have htyp : ∀ (f : Nat → TypeId) (j : Nat) (p : Nat × D C) (q : Nat × Value), (ps.map fun p => (p.1, typed T (f p.1) p.2))[j]? = some p → vs[j]? = some q → p.1 = q.1 ∧ RO T X nx lim p.2 q.2 := by
    intro f j p q hp hq
    rw [List.getElem?_map, Option.map_eq_some_iff] at hp
    obtain ⟨p', hp', rfl⟩ := hp
    have := hpq j p' q hp' hq
    exact ⟨this.1, typed_ok this.2⟩
  unfold evBuild at hx
  cases ht : T.ty t with
  | struct fs =>
    cases hz : T.zero t with
    | none => rw [ht, hz] at hx; exact (Ex.fail hx).elim
    | some z =>
      simp only [ht, hz] at hx
      cases hb : fit T z (.inl t) && ps.all (fun p => fit T (typed T (fs.getD p.1 0) p.2) (.inl (fs.getD p.1 0))) with
      | false => rw [hb] at hx; exact (Ex.fail hx).elim
      | true =>
        rw [hb] at hx
        obtain ⟨hfl, rfl, rfl, rfl⟩ := Ex.ofOpt hx
        simp only [Bool.and_eq_true, List.all_eq_true] at hb
        obtain ⟨it, zv, hi, hzv, hzr, hzR⟩ := K.zero _ _ hz
        obtain ⟨fields, hu, hm, ho, _⟩ := K.uStruct _ _ ht
        have hac : ∃ a b, z = .acons a b := by
          have := hb.1
          cases z <;> simp [fit, ht] at this
          · cases fs with
            | nil =>
              have := K.base.pos t (fun h => by simp [ht] at h)
              rw [K.base.szStruct _ _ ht] at this
              simp [sumSz] at this
            | cons => simp at this
          · exact ⟨_, _, rfl⟩
        have hfr : fit T z (.inr fs) = true := by rw [← fit_row ht hac]; exact hb.1
        have hsz : ∀ f ∈ fs, (P.info? f).map (·.size) = some (T.size f) := by
          intro f hf
          obtain ⟨i, h1, h2, _⟩ := K.uField _ _ _ ht hf
          simp [h1, h2]
        have hpl : fields.toList.mapM (fun f => (P.info? f.type).map fun i => (f.offset, i.size)) = some (fields.toList.map fun f => (f.offset, T.size f.type)) := by
          have : ∀ fl : List Field, (∀ f ∈ fl, f.type ∈ fs) → fl.mapM (fun f => (P.info? f.type).map fun i => (f.offset, i.size)) = some (fl.map fun f => (f.offset, T.size f.type)) := by
            intro fl
            induction fl with
            | nil => intro _; rfl
            | cons f fl ih =>
              intro hfl
              have h1 := hsz f.type (hfl f (by simp))
              rw [Option.map_eq_some_iff] at h1
              obtain ⟨i, h1, h2⟩ := h1
              simp [List.mapM_cons, h1, h2, ih (fun q hq => hfl q (by simp [hq]))]
          refine this _ (fun f hf => ?_)
          rw [← hm]
          exact List.mem_map.2 ⟨f, hf, rfl⟩
        obtain ⟨ds, hds, hrd, href⟩ := fill_row K (ps.map fun p => (p.1, typed T (fs.getD p.1 0) p.2)) vs (fs := fs) (fun x => (fields.toList.map fun f => (f.offset, T.size f.type)).toArray[x]?) hfl hfr (hzR X) (by simpa using hlen)
          (htyp fun i => fs.getD i 0) (by
            intro p hp
            rw [List.mem_map] at hp
            obtain ⟨p', hp', rfl⟩ := hp
            exact hb.2 p' hp') (by
            intro i hi
            have h1 : (fields.toList.map (·.type))[i]? = some (fs.getD i 0) := by rw [hm]; simp [hi]
            rw [List.getElem?_map, Option.map_eq_some_iff] at h1
            obtain ⟨f, hf, hft⟩ := h1
            have h2 := ho i f (by simpa using hf)
            simp only [List.getElem?_toArray, List.getElem?_map, hf, Option.map_some, h2, hft])
        have hbt : P.built t vs = some ⟨ds⟩ := by
          unfold Program.built
          simp only [hi, hu, hzv, hpl]
          exact hds
        have hrow : d.isRow = true := by
          have : fit T d (.inr fs) = true ∨ True := .inr trivial
          have h2 : ∀ (l : List (Nat × D C)) (z d : D C), (∃ a b, z = .acons a b) → fillD z l = some d → ∃ a b, d = .acons a b := by
            intro l
            induction l with
            | nil => intro z d hz hd; simp [fillD] at hd; exact hd ▸ hz
            | cons p l ih =>
              intro z d hz hd
              simp only [fillD] at hd
              cases hs : z.setNth p.1 p.2 with
              | none => rw [hs] at hd; simp at hd
              | some z' => simp only [hs] at hd; exact ih z' d (setNth_acons hs).2 hd
          obtain ⟨a, b, rfl⟩ := h2 _ _ _ hac hfl
          rfl
        refine Post.same g (.agg ⟨ds⟩) (run_build X.w t _ _ hbt) ⟨.inl ⟨hrow, ds, hrd, rfl⟩, fun r hr => ?_⟩
        rcases href r hr with h1 | h1
        · rw [hzr] at h1; simp at h1
        · exact h1
  | arr n el ty =>
    cases hz : T.zero t with
    | none => rw [ht, hz] at hx; exact (Ex.fail hx).elim
    | some z =>
      cases z with
      | arr ty' m l =>
        simp only [ht, hz] at hx
        by_cases hty : ty' = ty
        · subst hty
          simp only [dite_true] at hx
          cases hfl : fillL T l (ps.map fun p => (p.1, typed T el p.2)) with
          | none => rw [hfl] at hx; exact (Ex.fail hx).elim
          | some l' =>
            simp only [hfl] at hx
            cases hn : Nat.beq n m with
            | false => rw [hn] at hx; exact (Ex.fail hx).elim
            | true =>
              rw [hn] at hx
              obtain ⟨rfl, rfl, rfl, rfl⟩ := Ex.ret hx
              have hn := Nat.eq_of_beq_eq_true hn
              subst hn
              obtain ⟨it, zv, hi, hzv, _, hzR⟩ := K.zero _ _ hz
              obtain ⟨ds, hds, hrd⟩ := fill_arr K _ vs hfl (hzR X) (by simpa using hlen) (htyp fun _ => el)
              obtain ⟨ie, _, h1, h2, _⟩ := K.uElem _ _ _ (.inl ⟨_, ht⟩)
              have hse := (K.base.szArr _ _ _ _ ht).2.2
              have hbt : P.built t vs = some ⟨ds⟩ := by
                unfold Program.built
                simp only [hi, (K.uArr _ _ _ _ ht).1, hzv, h1, h2, hse]
                exact hds
              exact Post.same g (.agg ⟨ds⟩) (run_build X.w t _ _ hbt) (RO.mk (.inl ⟨rfl, ds, hrd, rfl⟩) rfl)
        · simp only [hty, dite_false] at hx; exact (Ex.fail hx).elim
      | _ => rw [ht, hz] at hx; exact (Ex.fail hx).elim
  | _ => rw [ht] at hx; exact (Ex.fail hx).elim

include g in
theorem buildSlice_ok {t : TypeId} {n : Nat} {ps : List (Nat × D C)} {vs : List (Nat × Value)} {d : D C} (hlen : ps.length = vs.length)
    (hpq : ∀ (j : Nat) (p : Nat × D C) (q : Nat × Value), ps[j]? = some p → vs[j]? = some q → p.1 = q.1 ∧ RO T X nx lim p.2 q.2) (hx : Ex e (evBuildSlice T t n ps) h nx d h' nx' tr) :
    Post P T X nx lim h' nx' d (Instr.buildSlice t n ⟨vs⟩) := by
  unfold evBuildSlice at hx
  cases ht : T.ty t with
  | sl el ty =>
    simp only [ht] at hx
    cases hfl : fillL T (List.replicate n (T.dflt ty)) (ps.map fun p => (p.1, typed T el p.2)) with
    | none => rw [hfl] at hx; exact (Ex.fail hx).elim
    | some l =>
      simp only [hfl] at hx
      cases hb : Nat.ble (n * T.size el) 16777216 with
      | false => rw [hb] at hx; exact (Ex.fail hx).elim
      | true =>
        rw [hb] at hx
        obtain ⟨rfl, rfl, rfl, rfl⟩ := Ex.ret hx
        have hb := Nat.le_of_ble_eq_true hb
        obtain ⟨ie, z, h1, h2, _, _, h3, h4, h5, h6⟩ := K.uElem _ _ _ (.inr ht)
        have hse := (K.base.szSl _ _ _ ht).2.2
        have hz0 := R.rep (h6 X) n
        have hzl := zeros_list z.cells (by omega) n
        rw [h5] at hzl
        rw [← hzl] at hz0
        obtain ⟨ds, hds, hrd⟩ := fill_arr K _ vs hfl hz0 (by simpa using hlen) (by
          intro j p q hp hq
          rw [List.getElem?_map, Option.map_eq_some_iff] at hp
          obtain ⟨p', hp', rfl⟩ := hp
          have := hpq j p' q hp' hq
          exact ⟨this.1, typed_ok this.2⟩)
        have hll := (hrd.lenArr K.base).2
        obtain ⟨g1, s1, f1⟩ := G.data K.base g ⟨ds⟩ el
        refine ⟨.slice (some ⟨X.w.heap.size, 0, none⟩) n n, ⟨X.w.alloc (.cells ⟨ds⟩ el), X.ρ, X.O⟩, ?_, g1, s1, RO.mk (.mk rfl ?_) rfl⟩
        · have hnb : ¬ (n * T.size el > 2 ^ 24) := by omega
          simp only [Instr.buildSlice, Sem.run_bind, run_underlying (K.uSl _ _ _ ht), Result.andThen_ok, sizeOf, typeInfo, run_program, h1, Sem.run_pure, Sem.run_ite, h2, hnb, if_false]
          rw [← hse] at hds
          by_cases h0 : n * T.size el = 0
          · have hn0 : n = 0 := by
              rcases Nat.mul_eq_zero.1 h0 with h | h
              · exact h
              · omega
            subst hn0
            simp only [Nat.zero_mul, Array.range_zero', Array.map_empty, if_true, Sem.run_pure, Result.andThen_ok] at hds ⊢
            rw [hds]
            simp [newRow]
          · simp only [h0, if_false, zeroValue, typeInfo, Sem.run_bind, run_program, Result.andThen_ok, h1, Sem.run_pure, h4, h5]
            have hds' : Instr.fill (fun i => some (i * T.size el, T.size el)) (Array.map (fun x => z.cells[x % T.size el]!) (Array.range (n * T.size el))) vs = some ⟨ds⟩ := hds
            rw [hds']
            simp [newRow]
        · have := R.sl (X := ⟨X.w.alloc (.cells ⟨ds⟩ el), X.ρ, X.O⟩) (T := T) (t := ty) (cap := true) (l := l) (b := X.w.heap.size) (off := 0) (cp := l.length) (cs := ds) (fun j v hj => ⟨by
              simp only [World.cell?, heap_alloc_eq, Nat.zero_add]; simpa using hj, by simpa using f1 j⟩) (by rw [hll]; exact hrd.step K.base s1 (by simp [D.refs])) (Nat.le_refl _) (fun _ => rfl)
          rw [hll] at this
          exact this
  | _ => rw [ht] at hx; exact (Ex.fail hx).elim
end
end Go.Ev
