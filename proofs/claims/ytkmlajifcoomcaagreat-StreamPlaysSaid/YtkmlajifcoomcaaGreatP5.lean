/-
  A part of the proof of a statement of this seat: the model is run over values by content, proved sound; what the functions come to. No condition beyond the given statements. (text 6)
-/
import Derived.Test.YtkmlajifcoomcaaGreatP4
namespace Go.Ev
set_option linter.unusedVariables false
set_option linter.unusedSimpArgs false
def CI (w f t q : Int) (hs : List Int) (d k : Int) (r got : List Int) : Prop :=
  r.length = 96 ∧ r.getD 0 0 = w ∧ r.getD 1 0 = d ∧ 0 ≤ r.getD 2 0 ∧ r.getD 2 0 ≤ t ∧ (goF k r got (got.headD 0)).is = true ∧
  (k = 0 ∧ got = [] ∧ d ∉ hs ∨ ∃ x, got = [x] ∧ 0 ≤ x ∧
    (k = 1 ∧ 1 ≤ x ∧ x ≤ t ∧ d ∉ hs ∨
     k = 2 ∧ 1 ≤ r.getD 2 0 ∧ x ≤ f ∧ d ∉ hs ∨
     k = 3 ∧ 1 ≤ r.getD 2 0 ∧ r.getD 2 0 ≤ f + w ∧ x ≤ q ∧ d ∉ hs ∨
     k = 4 ∧ 1 ≤ r.getD 2 0 ∧ r.getD 2 0 ≤ f + w ∧ r.getD 2 0 - 32 ≤ q ∧ x ≤ 1099510841343 ∧ plc x ≤ hs.length ∧ d ∉ hs ∨
     k = 5 ∧ x ≤ 1 ∧ d ∉ hs ∨
     k = 6 ∧ 1 ≤ r.getD 2 0 ∧ (x = 0 ∧ d ∉ hs ∨ x = 1 ∧ r.getD 2 0 ≤ hs.length ∧ hs.getD (r.getD 2 0 - 1).toNat 0 = d)))
theorem CI.mono {w f t q : Int} {hs : List Int} {d k : Int} {r got : List Int} (h : CI w f t q hs d k r got) {f' t' q' : Int} {ext : List Int} (hf : f ≤ f') (ht : t ≤ t') (hq : q ≤ q') (he : d ∉ ext) : CI w f' t' q' (hs ++ ext) d k r got := by
  obtain ⟨a1, a2, a3, a4, a5, a6, h⟩ := h
  have hlen : (hs.length : Int) ≤ ((hs ++ ext).length : Int) := by rw [List.length_append]; omega
  have hmem : d ∉ hs → d ∉ hs ++ ext := fun h1 h2 => by
    rcases List.mem_append.1 h2 with h2 | h2
    · exact h1 h2
    · exact he h2
  refine ⟨a1, a2, a3, a4, by omega, a6, ?_⟩
  rcases h with ⟨b1, b2, b3⟩ | ⟨x, b1, b2, b3⟩
  · exact .inl ⟨b1, b2, hmem b3⟩
  refine .inr ⟨x, b1, b2, ?_⟩
  rcases b3 with ⟨c1, c2, c3, c4⟩ | ⟨c1, c2, c3, c4⟩ | ⟨c1, c2, c3, c4, c5⟩ | ⟨c1, c2, c3, c4, c5, c6, c7⟩ | ⟨c1, c2, c3⟩ | ⟨c1, c2, c3⟩
  · exact .inl ⟨c1, c2, by omega, hmem c4⟩
  · exact .inr (.inl ⟨c1, c2, by omega, hmem c4⟩)
  · exact .inr (.inr (.inl ⟨c1, c2, by omega, by omega, hmem c5⟩))
  · exact .inr (.inr (.inr (.inl ⟨c1, c2, by omega, by omega, c5, by omega, hmem c7⟩)))
  · exact .inr (.inr (.inr (.inr (.inl ⟨c1, c2, hmem c3⟩))))
  · refine .inr (.inr (.inr (.inr (.inr ⟨c1, c2, ?_⟩))))
    rcases c3 with ⟨c3, c4⟩ | ⟨c3, c4, c5⟩
    · exact .inl ⟨c3, hmem c4⟩
    · exact .inr ⟨c3, by omega, by rw [getD_app (by omega)]; exact c5⟩
def mkT (c k : Int) (r got : List Int) : Task := ⟨c, [⟨68, k, r⟩], got, false⟩
theorem stG_mk (c k : Int) (r got : List Int) : stG (mkT c k r got) = goF k r got (got.headD 0) := rfl
structure StepR (cs : List Int) (t : Task) (cs' : List Int) (t' : Task) (E : GoR) : Prop where
  hcs : stCs cs t = cs'
  ht : stT cs t = t'
  hE : stE cs t = E
theorem step_load {cs : List Int} {c k : Int} {r got r' : List Int} {n cell : Int} (h : goF k r got (got.headD 0) = gLoad r' got n cell) :
    StepR cs (mkT c k r got) cs (mkT c n r' [cs.getD cell.toNat 0]) (goF n r' [cs.getD cell.toNat 0] (cs.getD cell.toNat 0)) := by
  refine ⟨?_, ?_, ?_⟩
  · unfold stCs; rw [stG_mk, h]; rfl
  · unfold stT stX; rw [stG_mk, h]; rfl
  · unfold stE stX; rw [stG_mk, h]; rfl
theorem step_cas {cs : List Int} {c k : Int} {r got r' : List Int} {n cell b v : Int} (h : goF k r got (got.headD 0) = gCas r' got n cell b v) :
    StepR cs (mkT c k r got) (if cs.getD cell.toNat 0 = b then cs.set cell.toNat v else cs) (mkT c n r' [if cs.getD cell.toNat 0 = b then 1 else 0]) (goF n r' [if cs.getD cell.toNat 0 = b then 1 else 0] (if cs.getD cell.toNat 0 = b then 1 else 0)) := by
  refine ⟨?_, ?_, ?_⟩
  · unfold stCs; rw [stG_mk, h]
    show doC cs 2 cell b v = _
    unfold doC
    by_cases hb : cs.getD cell.toNat 0 = b
    · rw [if_pos ⟨rfl, hb⟩, if_pos hb]
    · rw [if_neg (fun q => hb q.2), if_neg hb]
  · unfold stT stX; rw [stG_mk, h]; rfl
  · unfold stE stX; rw [stG_mk, h]; rfl
theorem goF_is2 {r got : List Int} {x : Int} (h : (goF 2 r got x).is = true) : r.getD 2 0 ≤ x + r.getD 0 0 ∧ r.getD 2 0 ≤ 1048575 ∧ goF 2 r got x = gLoad r got 3 4 := by
  rw [goF2] at h ⊢
  by_cases h1 : x + r.getD 0 0 < r.getD 2 0
  · rw [if_pos h1] at h; cases h
  rw [if_neg h1] at h ⊢
  by_cases h2 : 1048575 < r.getD 2 0
  · rw [if_pos h2] at h; cases h
  rw [if_neg h2]
  exact ⟨by omega, by omega, rfl⟩
theorem goF_is3 {r got : List Int} {x : Int} (h : (goF 3 r got x).is = true) : r.getD 2 0 - 32 ≤ x ∧ goF 3 r got x = gLoad r got 4 (lRing (r.getD 2 0) (r.getD 0 0)) := by
  rw [goF3] at h ⊢
  by_cases h1 : x < r.getD 2 0 - 32
  · rw [if_pos h1] at h; cases h
  rw [if_neg h1]
  exact ⟨by omega, rfl⟩
def Came (w : Int) (cs hs : List Int) (d c : Int) (t' : Task) (E : GoR) : Prop :=
  ∃ k r x, t' = mkT c k r [x] ∧ E = goF k r [x] x ∧ okG c [⟨68, k, r⟩] [x] = true ∧
    (E.is = true ∧ CI w (cs.getD 0 0) (cs.getD 1 0) (cs.getD 4 0) hs d k r [x] ∨
     E.is = false ∧ E.got.length = 1 ∨
     E.is = false ∧ ∃ p : Int, E.got = [0, p] ∧ 1 ≤ p ∧ p ≤ hs.length ∧ hs.getD (p - 1).toNat 0 = d)
theorem okG_mk {c k x : Int} {r : List Int} (h1 : 0 ≤ c) (h2 : c ≤ 3) (hr : r.length = 96) (h : OkF k r x) : okG c [⟨68, k, r⟩] [x] = true := by
  show (decide (0 ≤ c ∧ c ≤ 3 ∧ (68 : Int) = 68 ∧ r.length = 96) && okFr k r [x]) = true
  rw [Bool.and_eq_true]
  exact ⟨decide_eq_true ⟨h1, h2, rfl, hr⟩, decide_eq_true h⟩
theorem okG_mk0 {c : Int} {r : List Int} (h1 : 0 ≤ c) (h2 : c ≤ 3) (hr : r.length = 96) : okG c [⟨68, 0, r⟩] [] = true := by
  show (decide (0 ≤ c ∧ c ≤ 3 ∧ (68 : Int) = 68 ∧ r.length = 96) && okFr 0 r []) = true
  rw [Bool.and_eq_true]
  exact ⟨decide_eq_true ⟨h1, h2, rfl, hr⟩, rfl⟩
theorem okDo_load {w : Int} {cs hs : List Int} (h : RW w cs hs) {cell : Int} (h0 : 0 ≤ cell) (h1 : cell < 771) : OkDo cs 0 cell 0 0 :=
  ⟨.inl ⟨rfl, rfl, rfl⟩, h0, by rw [h.lc]; exact h1, by decide, by decide, by decide, by decide⟩
theorem okDo_cas {w : Int} {cs hs : List Int} (h : RW w cs hs) {cell b v : Int} (h0 : 0 ≤ cell) (h1 : cell < 771) (hb : -1152921504606846976 ≤ b ∧ b ≤ 1152921504606846976) (hv : -1152921504606846976 ≤ v ∧ v ≤ 1152921504606846976) : OkDo cs 2 cell b v :=
  ⟨.inr rfl, h0, by rw [h.lc]; exact h1, hb.1, hb.2, hv.1, hv.2⟩
theorem goF2_end {r got : List Int} {x : Int} (h : (goF 2 r got x).is = false) : (goF 2 r got x).got.length = 1 := by
  rw [goF2] at h ⊢
  by_cases h1 : x + r.getD 0 0 < r.getD 2 0
  · rw [if_pos h1]; rfl
  rw [if_neg h1] at h ⊢
  by_cases h2 : 1048575 < r.getD 2 0
  · rw [if_pos h2]; rfl
  rw [if_neg h2] at h
  cases h
theorem goF3_end {r got : List Int} {x : Int} (h : (goF 3 r got x).is = false) : (goF 3 r got x).got.length = 1 := by
  rw [goF3] at h ⊢
  by_cases h1 : x < r.getD 2 0 - 32
  · rw [if_pos h1]; rfl
  rw [if_neg h1] at h
  cases h
theorem goF4_is (r got : List Int) (x : Int) : (goF 4 r got x).is = true := by
  rw [goF4]
  split
  · rfl
  split <;> rfl
theorem RW.step {w : Int} {cs hs : List Int} (h : RW w cs hs) {c d k : Int} {r got : List Int} (hc0 : 0 ≤ c) (hc3 : c ≤ 3) (hd : 256 ≤ d ∧ d ≤ 262143) (hk : (hs.length : Int) < 100000)
    (hi : CI w (cs.getD 0 0) (cs.getD 1 0) (cs.getD 4 0) hs d k r got) :
    ∃ ext, (ext = [] ∨ ext = [d] ∧ d ∉ hs) ∧ ∃ cs' t' E, StepR cs (mkT c k r got) cs' t' E ∧ RW w cs' (hs ++ ext) ∧ cs'.getD 0 0 = cs.getD 0 0 ∧ cs'.getD 4 0 = cs.getD 4 0 ∧ cs.getD 1 0 ≤ cs'.getD 1 0 ∧
      okG c [⟨68, k, r⟩] got = true ∧ OkDo cs (goF k r got (got.headD 0)).kind (goF k r got (got.headD 0)).a (goF k r got (got.headD 0)).b (goF k r got (got.headD 0)).v ∧ Came w cs' (hs ++ ext) d c t' E := by
  obtain ⟨a1, a2, a3, a4, a5, a6, hi⟩ := hi
  have hw0 := h.w0
  have hw1 := h.w1
  have hTt := h.Tt
  have htT := h.tT
  have hfT := h.fT
  have hqf := h.qf
  have hq0 := h.q0
  have ht1 := h.t1
  have hTf := h.Tf
  have hlc := h.lc
  have ok : ∀ (k' x' : Int) (r' : List Int), r'.length = 96 → r'.getD 0 0 = w → 0 ≤ r'.getD 2 0 → r'.getD 2 0 ≤ 200000 → 1 ≤ k' → k' ≤ 7 → 0 ≤ x' → x' ≤ 1152921504606846976 → okG c [⟨68, k', r'⟩] [x'] = true :=
    fun k' x' r' e1 e2 e3 e4 e5 e6 e7 e8 => okG_mk hc0 hc3 e1 ⟨e5, e6, e7, e8, by omega, by omega, e3, by omega⟩
  have s2l : ∀ y : Int, (r.set 2 y).length = 96 := fun y => by rw [List.length_set]; exact a1
  have s20 : ∀ y : Int, (r.set 2 y).getD 0 0 = w := fun y => by rw [getD_set_ne' (by decide)]; exact a2
  have s21 : ∀ y : Int, (r.set 2 y).getD 1 0 = d := fun y => by rw [getD_set_ne' (by decide)]; exact a3
  have s22 : ∀ y : Int, (r.set 2 y).getD 2 0 = y := fun y => getD_set_eq (by omega)
  have s3l : ∀ y : Int, (r.set 3 y).length = 96 := fun y => by rw [List.length_set]; exact a1
  have s30 : ∀ y : Int, (r.set 3 y).getD 0 0 = w := fun y => by rw [getD_set_ne' (by decide)]; exact a2
  have s31 : ∀ y : Int, (r.set 3 y).getD 1 0 = d := fun y => by rw [getD_set_ne' (by decide)]; exact a3
  have s32 : ∀ y : Int, (r.set 3 y).getD 2 0 = r.getD 2 0 := fun y => getD_set_ne' (by decide)
  have hs1 : (cs.set (Int.toNat 1) (r.getD 2 0 + 1)).getD 1 0 = r.getD 2 0 + 1 := getD_set_eq (i := 1) (by omega)
  -- a load of TAIL
  have hload1 : ∀ (r' : List Int), r'.length = 96 → r'.getD 0 0 = w → r'.getD 1 0 = d → r'.getD 2 0 = r.getD 2 0 → d ∉ hs → Came w cs hs d c (mkT c 1 r' [cs.getD 1 0]) (goF 1 r' [cs.getD 1 0] (cs.getD 1 0)) :=
    fun r' e1 e2 e3 e4 e5 => ⟨1, r', cs.getD 1 0, rfl, rfl, ok 1 _ r' e1 e2 (by omega) (by omega) (by decide) (by decide) (by omega) (by omega),
      .inl ⟨rfl, e1, e2, e3, by omega, by omega, rfl, .inr ⟨_, rfl, by omega, .inl ⟨rfl, by omega, by omega, e5⟩⟩⟩⟩
  rcases hi with ⟨rfl, rfl, b3⟩ | ⟨x, rfl, x0, hi⟩
  · refine ⟨[], .inl rfl, ?_⟩
    rw [List.append_nil]
    exact ⟨_, _, _, step_load (r' := r) (n := 1) (cell := 1) rfl, h, rfl, rfl, Int.le_refl _, okG_mk0 hc0 hc3 a1, okDo_load (cell := 1) h (by decide) (by decide), hload1 r a1 a2 a3 rfl b3⟩
  rcases hi with ⟨rfl, c2, c3, c4⟩ | ⟨rfl, c2, c3, c4⟩ | ⟨rfl, c2, c3, c4, c5⟩ | ⟨rfl, c2, c3, c4, c5, c6, c7⟩ | ⟨rfl, c2, c3⟩ | ⟨rfl, c2, c3⟩
  · -- 1
    refine ⟨[], .inl rfl, ?_⟩
    rw [List.append_nil]
    refine ⟨_, _, _, step_load (r' := r.set 2 x) (n := 2) (cell := 0) rfl, h, rfl, rfl, Int.le_refl _, ok 1 x r a1 a2 a4 (by omega) (by decide) (by decide) x0 (by omega), okDo_load (cell := 0) h (by decide) (by decide), ?_⟩
    refine ⟨2, r.set 2 x, cs.getD 0 0, rfl, rfl, ok 2 _ _ (s2l x) (s20 x) (by rw [s22]; omega) (by rw [s22]; omega) (by decide) (by decide) (by omega) (by omega), ?_⟩
    cases hE : (goF 2 (r.set 2 x) [cs.getD 0 0] (cs.getD 0 0)).is with
    | true => exact .inl ⟨hE, s2l x, s20 x, s21 x, by rw [s22]; omega, by rw [s22]; omega, hE, .inr ⟨_, rfl, by omega, .inr (.inl ⟨rfl, by rw [s22]; omega, Int.le_refl _, c4⟩)⟩⟩
    | false => exact .inr (.inl ⟨hE, goF2_end hE⟩)
  · -- 2
    obtain ⟨e1, e2, e3⟩ := goF_is2 a6
    refine ⟨[], .inl rfl, ?_⟩
    rw [List.append_nil]
    refine ⟨_, _, _, step_load (r' := r) (n := 3) (cell := 4) e3, h, rfl, rfl, Int.le_refl _, ok 2 x r a1 a2 a4 (by omega) (by decide) (by decide) x0 (by omega), ?_, ?_⟩
    · show OkDo cs (goF 2 r [x] x).kind (goF 2 r [x] x).a (goF 2 r [x] x).b (goF 2 r [x] x).v
      rw [show goF 2 r [x] x = gLoad r [x] 3 4 from e3]
      exact okDo_load (cell := 4) h (by decide) (by decide)
    refine ⟨3, r, cs.getD 4 0, rfl, rfl, ok 3 _ _ a1 a2 a4 (by omega) (by decide) (by decide) hq0 (by omega), ?_⟩
    have e1 : r.getD 2 0 ≤ x + r.getD 0 0 := e1
    cases hE : (goF 3 r [cs.getD 4 0] (cs.getD 4 0)).is with
    | true => exact .inl ⟨hE, a1, a2, a3, a4, a5, hE, .inr ⟨_, rfl, hq0, .inr (.inr (.inl ⟨rfl, c2, by omega, Int.le_refl _, c4⟩))⟩⟩
    | false => exact .inr (.inl ⟨hE, goF3_end hE⟩)
  · -- 3
    obtain ⟨e1, e3⟩ := goF_is3 a6
    have e1 : r.getD 2 0 - 32 ≤ x := e1
    rw [a2, lRing_eq' a4 hw0 hw1] at e3
    have hrd := h.read_le (r.getD 2 0)
    have hcl := h.cell (r.getD 2 0)
    refine ⟨[], .inl rfl, ?_⟩
    rw [List.append_nil]
    refine ⟨_, _, _, step_load (r' := r) (n := 4) (cell := 13 + r.getD 2 0 % w) e3, h, rfl, rfl, Int.le_refl _, ok 3 x r a1 a2 a4 (by omega) (by decide) (by decide) x0 (by omega), ?_, ?_⟩
    · rw [e3]
      exact okDo_load (cell := 13 + r.getD 2 0 % w) h (by omega) (by omega)
    refine ⟨4, r, _, rfl, rfl, ok 4 _ _ a1 a2 a4 (by omega) (by decide) (by decide) hrd.1 (by omega), .inl ⟨goF4_is _ _ _, a1, a2, a3, a4, a5, goF4_is _ _ _, .inr ⟨_, rfl, hrd.1, .inr (.inr (.inr (.inl ⟨rfl, c2, c3, by omega, hrd.2.1, hrd.2.2, c5⟩)))⟩⟩⟩
  · -- 4
    have hok := ok 4 x r a1 a2 a4 (by omega) (by decide) (by decide) x0 (by omega)
    have hg := goF4 r [x] x
    by_cases p1 : plc x = r.getD 2 0
    · rw [if_pos p1] at hg
      have hstep := step_cas (cs := cs) (c := c) (k := 4) (r := r) (got := [x]) hg
      refine ⟨[], .inl rfl, ?_⟩
      rw [List.append_nil]
      have hx' : ∀ b : Prop, [Decidable b] → 0 ≤ (if b then (1 : Int) else 0) ∧ (if b then (1 : Int) else 0) ≤ 1 := fun b _ => by split <;> decide
      refine ⟨_, _, _, hstep, ?_, ?_, ?_, ?_, hok, ?_, ?_⟩
      · split
        · rename_i e; exact h.tail e (by omega)
        · exact h
      · split
        · exact getD_set_ne' (by decide)
        · rfl
      · split
        · exact getD_set_ne' (by decide)
        · rfl
      · split
        · rename_i e
          rw [hs1]
          have e : cs.getD 1 0 = r.getD 2 0 := e
          omega
        · exact Int.le_refl _
      · show OkDo cs (goF 4 r [x] x).kind (goF 4 r [x] x).a (goF 4 r [x] x).b (goF 4 r [x] x).v
        rw [hg]
        exact okDo_cas (cell := 1) (b := r.getD 2 0) (v := r.getD 2 0 + 1) h (by decide) (by decide) ⟨by omega, by omega⟩ ⟨by omega, by omega⟩
      · have ht' : r.getD 2 0 ≤ (if cs.getD (Int.toNat 1) 0 = r.getD 2 0 then cs.set (Int.toNat 1) (r.getD 2 0 + 1) else cs).getD 1 0 := by
          split
          · rw [hs1]; omega
          · exact a5
        have hb := hx' (cs.getD (Int.toNat 1) 0 = r.getD 2 0)
        exact ⟨5, r.set 3 x, _, rfl, rfl, ok 5 _ _ (s3l x) (s30 x) (by rw [s32]; exact a4) (by rw [s32]; omega) (by decide) (by decide) hb.1 (by omega), .inl ⟨rfl, s3l x, s30 x, s31 x, by rw [s32]; exact a4, by rw [s32]; exact ht', rfl, .inr ⟨_, rfl, hb.1, .inr (.inr (.inr (.inr (.inl ⟨rfl, hb.2, c7⟩))))⟩⟩⟩
    rw [if_neg p1] at hg
    by_cases p2 : r.getD 2 0 < plc x
    · rw [if_pos p2] at hg
      refine ⟨[], .inl rfl, ?_⟩
      rw [List.append_nil]
      refine ⟨_, _, _, step_load (r' := r.set 3 x) (n := 1) (cell := 1) hg, h, rfl, rfl, Int.le_refl _, hok, ?_, hload1 _ (s3l x) (s30 x) (s31 x) (s32 x) c7⟩
      show OkDo cs (goF 4 r [x] x).kind (goF 4 r [x] x).a (goF 4 r [x] x).b (goF 4 r [x] x).v
      rw [hg]
      exact okDo_load (cell := 1) h (by decide) (by decide)
    rw [if_neg p2] at hg
    have hwd : wordN (r.getD 2 0) d = r.getD 2 0 * 1048576 + d := by
      rw [wordN, if_pos]; exact ⟨by omega, by omega, .inl hd⟩
    rw [a2, a3, hwd, lRing_eq' a4 hw0 hw1] at hg
    have hcl := h.cell (r.getD 2 0)
    have hstep := step_cas (cs := cs) (c := c) (k := 4) (r := r) (got := [x]) hg
    have hdo : OkDo cs (goF 4 r [x] ([x].headD 0)).kind (goF 4 r [x] ([x].headD 0)).a (goF 4 r [x] ([x].headD 0)).b (goF 4 r [x] ([x].headD 0)).v := by
      show OkDo cs (goF 4 r [x] x).kind (goF 4 r [x] x).a (goF 4 r [x] x).b (goF 4 r [x] x).v
      rw [hg]
      exact okDo_cas (cell := 13 + r.getD 2 0 % w) (b := x) (v := r.getD 2 0 * 1048576 + d) h (by omega) (by omega) ⟨by omega, by omega⟩ ⟨by omega, by omega⟩
    by_cases hx : cs.getD (13 + r.getD 2 0 % w).toNat 0 = x
    · simp only [if_pos hx] at hstep
      obtain ⟨g1, g2⟩ := h.give (d := d) c2 a5 c3 (by rw [hx]; omega) hd hk c4
      refine ⟨[d], .inr ⟨rfl, c7⟩, _, _, _, hstep, g2, getD_set_ne' (by omega), getD_set_ne' (by omega), ?_, hok, hdo, ?_⟩
      · rw [getD_set_ne' (by omega)]; exact Int.le_refl _
      · have h1 : (cs.set (13 + r.getD 2 0 % w).toNat (r.getD 2 0 * 1048576 + d)).getD 1 0 = cs.getD 1 0 := getD_set_ne' (by omega)
        have hl : ((hs ++ [d]).length : Int) = hs.length + 1 := by simp
        exact ⟨6, r.set 3 x, 1, rfl, rfl, ok 6 _ _ (s3l x) (s30 x) (by rw [s32]; exact a4) (by rw [s32]; omega) (by decide) (by decide) (by decide) (by decide), .inl ⟨rfl, s3l x, s30 x, s31 x, by rw [s32]; exact a4, by rw [s32, h1]; exact a5, rfl,
          .inr ⟨_, rfl, by decide, .inr (.inr (.inr (.inr (.inr ⟨rfl, by rw [s32]; exact c2, .inr ⟨rfl, by rw [s32, hl]; omega, by rw [s32, show (r.getD 2 0 - 1).toNat = hs.length by omega]; exact getD_end⟩⟩))))⟩⟩⟩
    · simp only [if_neg hx] at hstep
      refine ⟨[], .inl rfl, ?_⟩
      rw [List.append_nil]
      exact ⟨_, _, _, hstep, h, rfl, rfl, Int.le_refl _, hok, hdo, 6, r.set 3 x, 0, rfl, rfl, ok 6 _ _ (s3l x) (s30 x) (by rw [s32]; exact a4) (by rw [s32]; omega) (by decide) (by decide) (by decide) (by decide), .inl ⟨rfl, s3l x, s30 x, s31 x, by rw [s32]; exact a4, by rw [s32]; exact a5, rfl,
          .inr ⟨_, rfl, by decide, .inr (.inr (.inr (.inr (.inr ⟨rfl, by rw [s32]; exact c2, .inl ⟨rfl, c7⟩⟩))))⟩⟩⟩
  · -- 5
    refine ⟨[], .inl rfl, ?_⟩
    rw [List.append_nil]
    exact ⟨_, _, _, step_load (r' := r) (n := 1) (cell := 1) rfl, h, rfl, rfl, Int.le_refl _, ok 5 x r a1 a2 a4 (by omega) (by decide) (by decide) x0 (by omega), okDo_load (cell := 1) h (by decide) (by decide), hload1 r a1 a2 a3 rfl c3⟩
  · -- 6
    rcases c3 with ⟨rfl, c4⟩ | ⟨rfl, c4, c5⟩
    · refine ⟨[], .inl rfl, ?_⟩
      rw [List.append_nil]
      exact ⟨_, _, _, step_load (r' := r) (n := 1) (cell := 1) rfl, h, rfl, rfl, Int.le_refl _, ok 6 0 r a1 a2 a4 (by omega) (by decide) (by decide) (by decide) (by decide), okDo_load (cell := 1) h (by decide) (by decide), hload1 r a1 a2 a3 rfl c4⟩
    · have hg : goF 6 r [1] 1 = gCas r [1] 7 1 (r.getD 2 0) (r.getD 2 0 + 1) := rfl
      have hstep := step_cas (cs := cs) (c := c) (k := 6) (r := r) (got := [1]) hg
      refine ⟨[], .inl rfl, ?_⟩
      rw [List.append_nil]
      have hx' : ∀ b : Prop, [Decidable b] → 0 ≤ (if b then (1 : Int) else 0) ∧ (if b then (1 : Int) else 0) ≤ 1 := fun b _ => by split <;> decide
      have hb := hx' (cs.getD (Int.toNat 1) 0 = r.getD 2 0)
      refine ⟨_, _, _, hstep, ?_, ?_, ?_, ?_, ok 6 1 r a1 a2 a4 (by omega) (by decide) (by decide) (by decide) (by decide), okDo_cas (cell := 1) (b := r.getD 2 0) (v := r.getD 2 0 + 1) h (by decide) (by decide) ⟨by omega, by omega⟩ ⟨by omega, by omega⟩, ?_⟩
      · split
        · rename_i e; exact h.tail e (by omega)
        · exact h
      · split
        · exact getD_set_ne' (by decide)
        · rfl
      · split
        · exact getD_set_ne' (by decide)
        · rfl
      · split
        · rename_i e
          rw [hs1]
          have e : cs.getD 1 0 = r.getD 2 0 := e
          omega
        · exact Int.le_refl _
      · exact ⟨7, r, _, rfl, rfl, ok 7 _ _ a1 a2 a4 (by omega) (by decide) (by decide) hb.1 (by omega), .inr (.inr ⟨rfl, r.getD 2 0, rfl, c2, c4, c5⟩)⟩
theorem hnd_in {c m : Int} (h0 : 0 ≤ c) (h3 : c ≤ 3) (m1 : 1 ≤ m) (m9 : m ≤ 900) : hnd c m = (m + 1) * 256 + c ∧ 256 ≤ hnd c m ∧ hnd c m ≤ 262143 := by
  have : m % 1000 = m := Int.emod_eq_of_lt (by omega) (by omega)
  unfold hnd
  rw [this]
  omega
theorem hnd_inj {c m c' m' : Int} (h0 : 0 ≤ c) (h3 : c ≤ 3) (m1 : 1 ≤ m) (m9 : m ≤ 900) (h0' : 0 ≤ c') (h3' : c' ≤ 3) (m1' : 1 ≤ m') (m9' : m' ≤ 900) (h : hnd c m = hnd c' m') : c = c' ∧ m = m' := by
  rw [(hnd_in h0 h3 m1 m9).1, (hnd_in h0' h3' m1' m9').1] at h
  omega
structure RI (w : Int) (s : GS) (hs : List Int) (kk : Int) : Prop where
  rw : RW w s.cs hs
  lt : s.ts.length = 4
  lb : s.busy.length = 4
  lh : s.has.length = 4
  n0 : 0 ≤ s.n
  nk : s.n ≤ kk
  hk : (hs.length : Int) ≤ kk
  tk : (s.told.length : Int) ≤ kk
  hn : ∀ d ∈ hs, ∃ m c, 1 ≤ m ∧ m ≤ s.n ∧ 0 ≤ c ∧ c ≤ 3 ∧ d = hnd c m
  cl : ∀ c, 0 ≤ c → c ≤ 3 → isBusy s c = true → ∃ k r got m, tkC s.ts c = mkT c k r got ∧ 1 ≤ m ∧ m ≤ s.n ∧ s.has.getD c.toNat 0 = hnd c m ∧ CI w (s.cs.getD 0 0) (s.cs.getD 1 0) (s.cs.getD 4 0) hs (s.has.getD c.toNat 0) k r got
  told1 : ∀ p ∈ s.told, 1 ≤ p ∧ p ≤ hs.length
  toldN : s.told.Nodup
  toldB : ∀ p ∈ s.told, ∀ c, 0 ≤ c → c ≤ 3 → isBusy s c = true → hs.getD (p - 1).toNat 0 ≠ s.has.getD c.toNat 0
theorem RI.more {w : Int} {s : GS} {hs : List Int} {kk kk' : Int} (h : RI w s hs kk) (hk : kk ≤ kk') : RI w s hs kk' :=
  ⟨h.rw, h.lt, h.lb, h.lh, h.n0, by have := h.nk; omega, by have := h.hk; omega, by have := h.tk; omega, h.hn, h.cl, h.told1, h.toldN, h.toldB⟩
theorem RI.cells {w : Int} {s : GS} {hs : List Int} {kk : Int} (h : RI w s hs kk) {cs' : List Int} (hrw : RW w cs' hs) (hf : s.cs.getD 0 0 ≤ cs'.getD 0 0) (ht : s.cs.getD 1 0 ≤ cs'.getD 1 0) (hq : s.cs.getD 4 0 ≤ cs'.getD 4 0) : RI w { s with cs := cs' } hs kk := by
  refine ⟨hrw, h.lt, h.lb, h.lh, h.n0, h.nk, h.hk, h.tk, h.hn, fun c c0 c3 hb => ?_, h.told1, h.toldN, h.toldB⟩
  obtain ⟨k, r, got, m, e1, e2, e3, e4, e5⟩ := h.cl c c0 c3 hb
  refine ⟨k, r, got, m, e1, e2, e3, e4, ?_⟩
  have := e5.mono (ext := []) hf ht hq (by simp)
  rwa [List.append_nil] at this
theorem tkC_set {ts : List Task} {c c' : Int} {t : Task} (hl : ts.length = 4) (c0 : 0 ≤ c) (c3 : c ≤ 3) (d0 : 0 ≤ c') : tkC (ts.set c.toNat t) c' = if c = c' then t else tkC ts c' := by
  unfold tkC
  by_cases e : c = c'
  · subst e
    rw [if_pos rfl, List.getD_eq_getElem?_getD, List.getElem?_set_self (by omega)]; rfl
  · rw [if_neg e, List.getD_eq_getElem?_getD, List.getD_eq_getElem?_getD, List.getElem?_set_ne (by omega)]
theorem busy_set {bs : List Bool} {c c' : Int} {b : Bool} (hl : bs.length = 4) (c0 : 0 ≤ c) (c3 : c ≤ 3) (d0 : 0 ≤ c') : (bs.set c.toNat b).getD c'.toNat false = if c = c' then b else bs.getD c'.toNat false := by
  by_cases e : c = c'
  · subst e
    rw [if_pos rfl, List.getD_eq_getElem?_getD, List.getElem?_set_self (by omega)]; rfl
  · rw [if_neg e, List.getD_eq_getElem?_getD, List.getD_eq_getElem?_getD, List.getElem?_set_ne (by omega)]
theorem has_set {hs : List Int} {c c' : Int} {b : Int} (hl : hs.length = 4) (c0 : 0 ≤ c) (c3 : c ≤ 3) (d0 : 0 ≤ c') : (hs.set c.toNat b).getD c'.toNat 0 = if c = c' then b else hs.getD c'.toNat 0 := by
  rw [getD_set _ _ _ _ _ (by omega)]
  by_cases e : c = c'
  · subst e; rw [if_pos rfl, if_pos rfl]
  · rw [if_neg (by omega), if_neg e]
theorem RI.begin {w : Int} {s : GS} {hs : List Int} {kk : Int} (h : RI w s hs kk) (hkk : kk < 900) {c : Int} (c0 : 0 ≤ c) (c3 : c ≤ 3) (hb : isBusy s c = false) :
    RI w (beginG w { s with n := s.n + 1, has := s.has.set c.toNat (hnd c (s.n + 1)) } c (hnd c (s.n + 1))) hs (kk + 1) := by
  have hn0 := h.n0
  have hnk := h.nk
  have hnew : hnd c (s.n + 1) ∉ hs := fun hm => by
    obtain ⟨m, c', m1, m2, d0, d3, e⟩ := h.hn _ hm
    have := hnd_inj c0 c3 (by omega) (by omega) d0 d3 m1 (by omega) e
    omega
  refine ⟨h.rw, by simp [beginG, h.lt], by simp [beginG, h.lb], by simp [beginG, h.lh], by show 0 ≤ s.n + 1; omega, by show s.n + 1 ≤ kk + 1; omega, by have := h.hk; omega, by have := h.tk; show (s.told.length : Int) ≤ kk + 1; omega, fun d hd => ?_, fun c' d0 d3 hb' => ?_, h.told1, h.toldN, fun p hp c' d0 d3 hb' => ?_⟩
  · obtain ⟨m, c', m1, m2, e⟩ := h.hn d hd
    exact ⟨m, c', m1, by show m ≤ s.n + 1; omega, e⟩
  · have e1 : tkC (s.ts.set c.toNat ⟨c, [⟨68, 0, regs' w (hnd c (s.n + 1))⟩], [], false⟩) c' = _ := tkC_set h.lt c0 c3 d0
    have e2 : (s.busy.set c.toNat true).getD c'.toNat false = _ := busy_set h.lb c0 c3 d0
    have e3 : (s.has.set c.toNat (hnd c (s.n + 1))).getD c'.toNat 0 = _ := has_set h.lh c0 c3 d0
    show ∃ k r got m, tkC (s.ts.set c.toNat ⟨c, [⟨68, 0, regs' w (hnd c (s.n + 1))⟩], [], false⟩) c' = mkT c' k r got ∧ 1 ≤ m ∧ m ≤ s.n + 1 ∧ (s.has.set c.toNat (hnd c (s.n + 1))).getD c'.toNat 0 = hnd c' m ∧ CI w (s.cs.getD 0 0) (s.cs.getD 1 0) (s.cs.getD 4 0) hs ((s.has.set c.toNat (hnd c (s.n + 1))).getD c'.toNat 0) k r got
    rw [e1, e3]
    by_cases e : c = c'
    · subst e
      rw [if_pos rfl, if_pos rfl]
      exact ⟨0, regs' w (hnd c (s.n + 1)), [], s.n + 1, rfl, by omega, Int.le_refl _, rfl, rfl, rfl, rfl, Int.le_refl _, by have := h.rw.t1; show (0 : Int) ≤ _; omega, rfl, .inl ⟨rfl, rfl, hnew⟩⟩
    · rw [if_neg e, if_neg e]
      have hb2 : isBusy s c' = true := by
        have : (s.busy.set c.toNat true).getD c'.toNat false = true := hb'
        rw [e2, if_neg e] at this
        exact this
      obtain ⟨k, r, got, m, q1, q2, q3, q4, q5⟩ := h.cl c' d0 d3 hb2
      exact ⟨k, r, got, m, q1, q2, by omega, q4, q5⟩
  · have e2 : (s.busy.set c.toNat true).getD c'.toNat false = _ := busy_set h.lb c0 c3 d0
    have e3 : (s.has.set c.toNat (hnd c (s.n + 1))).getD c'.toNat 0 = _ := has_set h.lh c0 c3 d0
    show hs.getD (p - 1).toNat 0 ≠ (s.has.set c.toNat (hnd c (s.n + 1))).getD c'.toNat 0
    rw [e3]
    by_cases e : c = c'
    · rw [if_pos e]
      intro q
      obtain ⟨p1, p2⟩ := h.told1 p hp
      have hlt : (p - 1).toNat < hs.length := by omega
      rw [getD_at hlt] at q
      exact hnew (q ▸ List.getElem_mem hlt)
    · rw [if_neg e]
      have : (s.busy.set c.toNat true).getD c'.toNat false = true := hb'
      rw [e2, if_neg e] at this
      exact h.toldB p hp c' d0 d3 this
structure PickR (w : Int) (s s' : GS) (hs hs' : List Int) (c : Int) : Prop where
  fr : s'.cs.getD 0 0 ≤ hs.length
  ext : hs' = hs ∨ ∃ d, hs' = hs ++ [d]
  told : s'.told = s.told ∨ ∃ p : Int, s'.told = s.told ++ [p] ∧ 1 ≤ p ∧ p ≤ hs'.length ∧ hs'.getD (p - 1).toNat 0 = s'.has.getD c.toNat 0
theorem RI.stepOK {w : Int} {s : GS} {hs : List Int} {kk : Int} (h : RI w s hs kk) (hkk : kk < 900) {now sure : List Sector} (hd : diskOK now sure = true) (hg1 : goodL now = true) (hg2 : goodL sure = true) {c : Int} (c0 : 0 ≤ c) (c3 : c ≤ 3) (hb : isBusy s c = true) : OkStep s.cs (tkC s.ts c) now sure := by
  obtain ⟨k, r, got, m, q1, q2, q3, q4, q5⟩ := h.cl c c0 c3 hb
  have hv := hnd_in (c := c) (m := m) c0 c3 q2 (by have := h.nk; omega)
  rw [← q4] at hv
  obtain ⟨ext, _, cs', t', E, e1, e2, e3, e4, e5, e6, e7, k', r', x', e8, e9, e10, _⟩ := h.rw.step c0 c3 hv.2 (by have := h.hk; omega) q5
  rw [q1]
  refine ⟨e6, rfl, q5.2.2.2.2.2.1, e7, h.rw.cellsOK, hd, hg1, hg2, ?_⟩
  have ht := e1.ht
  rw [e8] at ht
  have h1 : (stG (mkT c k r got)).st = [⟨68, k', r'⟩] := congrArg Task.stack ht
  have h2 : [stX s.cs (mkT c k r got)] = [x'] := congrArg Task.got ht
  rw [h1, h2]
  exact e10
theorem RI.step {w : Int} {s : GS} {hs : List Int} {kk : Int} (h : RI w s hs kk) (hkk : kk < 900) {c : Int} (c0 : 0 ≤ c) (c3 : c ≤ 3) (hb : isBusy s c = true) :
    ∃ hs', RI w (stepP s c) hs' (kk + 1) ∧ PickR w s (stepP s c) hs hs' c := by
  obtain ⟨k, r, got, m, q1, q2, q3, q4, q5⟩ := h.cl c c0 c3 hb
  have hnk := h.nk
  have hv := hnd_in (c := c) (m := m) c0 c3 q2 (by omega)
  rw [← q4] at hv
  obtain ⟨ext, hext, cs', t', E, e1, e2, e3, e4, e5, e6, e7, k', r', x', e8, e9, e10, hcame⟩ := h.rw.step c0 c3 hv.2 (by have := h.hk; omega) q5
  have hP : stepP s c = { s with cs := cs', ts := s.ts.set c.toNat t', busy := bif E.is then s.busy else s.busy.set c.toNat false, told := s.told ++ newTold s c } := by
    unfold stepP
    rw [if_pos hb]
    unfold stepS
    rw [q1, e1.hcs, e1.ht, e1.hE]
  have hN : newTold s c = if E.is = false ∧ E.got.length = 2 ∧ E.got.getD 0 0 = 0 then [E.got.getD 1 0] else [] := by
    unfold newTold; rw [q1, e1.hE]
  have hlen : (hs.length : Int) ≤ ((hs ++ ext).length : Int) := by rw [List.length_append]; omega
  have hlen2 : ((hs ++ ext).length : Int) ≤ hs.length + 1 := by
    rcases hext with rfl | ⟨rfl, _⟩
    · rw [List.append_nil]; omega
    · rw [List.length_append]; simp
  -- the others
  have hoth : ∀ c', 0 ≤ c' → c' ≤ 3 → c ≠ c' → isBusy s c' = true → ∃ k r got m, tkC (s.ts.set c.toNat t') c' = mkT c' k r got ∧ 1 ≤ m ∧ m ≤ s.n ∧ s.has.getD c'.toNat 0 = hnd c' m ∧ CI w (cs'.getD 0 0) (cs'.getD 1 0) (cs'.getD 4 0) (hs ++ ext) (s.has.getD c'.toNat 0) k r got := by
    intro c' d0 d3 hne hb'
    obtain ⟨k2, r2, got2, m2, p1, p2, p3, p4, p5⟩ := h.cl c' d0 d3 hb'
    refine ⟨k2, r2, got2, m2, by rw [tkC_set h.lt c0 c3 d0, if_neg hne]; exact p1, p2, p3, p4, p5.mono (by omega) e5 (by omega) ?_⟩
    rcases hext with rfl | ⟨rfl, _⟩
    · simp
    · intro hm
      rw [List.mem_singleton, q4, p4] at hm
      exact hne (hnd_inj d0 d3 p2 (by omega) c0 c3 q2 (by omega) hm).1.symm
  have hhn : ∀ d ∈ hs ++ ext, ∃ m c, 1 ≤ m ∧ m ≤ s.n ∧ 0 ≤ c ∧ c ≤ 3 ∧ d = hnd c m := by
    intro d hd
    rcases List.mem_append.1 hd with hd | hd
    · exact h.hn d hd
    · rcases hext with rfl | ⟨rfl, _⟩
      · simp at hd
      · rw [List.mem_singleton] at hd
        subst hd
        exact ⟨m, c, q2, q3, c0, c3, q4⟩
  have happ : ∀ p ∈ s.told, (hs ++ ext).getD (p - 1).toNat 0 = hs.getD (p - 1).toNat 0 := fun p hp => getD_app (by have := h.told1 p hp; omega)
  have hbt : ∀ (bs : List Bool) (c' : Int), 0 ≤ c' → (bif E.is then s.busy else s.busy.set c.toNat false).getD c'.toNat false = true → s.busy.getD c'.toNat false = true ∧ (c = c' → E.is = true) := by
    intro _ c' d0 hq
    cases hE : E.is with
    | true => rw [hE] at hq; exact ⟨hq, fun _ => rfl⟩
    | false =>
      rw [hE] at hq
      simp only [cond_false] at hq
      rw [busy_set h.lb c0 c3 d0] at hq
      by_cases e : c = c'
      · rw [if_pos e] at hq; cases hq
      · rw [if_neg e] at hq; exact ⟨hq, fun q => (e q).elim⟩
  have base : ∀ told' : List Int, ((told' = s.told ∧ (E.is = true → CI w (cs'.getD 0 0) (cs'.getD 1 0) (cs'.getD 4 0) (hs ++ ext) (s.has.getD c.toNat 0) k' r' [x'])) ∨ (E.is = false ∧ ∃ p : Int, told' = s.told ++ [p] ∧ 1 ≤ p ∧ p ≤ (hs ++ ext).length ∧ (hs ++ ext).getD (p - 1).toNat 0 = s.has.getD c.toNat 0)) →
      RI w { s with cs := cs', ts := s.ts.set c.toNat t', busy := bif E.is then s.busy else s.busy.set c.toNat false, told := told' } (hs ++ ext) (kk + 1) := by
    intro told' ht
    refine ⟨e2, by simp [h.lt], ?_, h.lh, h.n0, by show s.n ≤ kk + 1; omega, by have := h.hk; omega, ?_, hhn, fun c' d0 d3 hb' => ?_, ?_, ?_, ?_⟩
    · show (bif E.is then s.busy else s.busy.set c.toNat false).length = 4
      cases E.is <;> simp [h.lb]
    · show (told'.length : Int) ≤ kk + 1
      have := h.tk
      rcases ht with ⟨rfl, _⟩ | ⟨_, p, rfl, _⟩
      · omega
      · rw [List.length_append]; simp; omega
    · obtain ⟨hb1, hb2⟩ := hbt [] c' d0 hb'
      by_cases e : c = c'
      · subst e
        have hi := hb2 rfl
        rcases ht with ⟨_, hci⟩ | ⟨hf, _⟩
        · refine ⟨k', r', [x'], m, ?_, q2, q3, q4, hci hi⟩
          show tkC (s.ts.set c.toNat t') c = _
          rw [tkC_set h.lt c0 c3 c0, if_pos rfl, e8]
        · rw [hi] at hf; cases hf
      · exact hoth c' d0 d3 e hb1
    · intro p hp
      rcases ht with ⟨rfl, _⟩ | ⟨_, p', rfl, p1, p2, _⟩
      · have := h.told1 p hp; omega
      · rcases List.mem_append.1 hp with hp | hp
        · have := h.told1 p hp; omega
        · rw [List.mem_singleton] at hp; subst hp; exact ⟨p1, p2⟩
    · show told'.Nodup
      rcases ht with ⟨rfl, _⟩ | ⟨_, p', rfl, p1, p2, p3⟩
      · exact h.toldN
      · refine List.nodup_append.2 ⟨h.toldN, by simp, ?_⟩
        intro a ha b hb2 hab
        rw [List.mem_singleton] at hb2
        subst hab
        subst hb2
        have := h.toldB a ha c c0 c3 hb
        rw [happ a ha] at p3
        exact this p3
    · intro p hp c' d0 d3 hb'
      obtain ⟨hb1, hb2⟩ := hbt [] c' d0 hb'
      have hold : ∀ p ∈ s.told, (hs ++ ext).getD (p - 1).toNat 0 ≠ s.has.getD c'.toNat 0 := fun p hp => by
        rw [happ p hp]; exact h.toldB p hp c' d0 d3 hb1
      rcases ht with ⟨rfl, _⟩ | ⟨hf, p', rfl, p1, p2, p3⟩
      · exact hold p hp
      · rcases List.mem_append.1 hp with hp | hp
        · exact hold p hp
        · rw [List.mem_singleton] at hp
          subst hp
          show (hs ++ ext).getD (p - 1).toNat 0 ≠ s.has.getD c'.toNat 0
          rw [p3]
          intro q
          have hne : c ≠ c' := fun e => by rw [hb2 e] at hf; cases hf
          obtain ⟨_, _, _, m2, _, p2', p3', p4', _⟩ := h.cl c' d0 d3 hb1
          rw [q4, p4'] at q
          exact hne (hnd_inj c0 c3 q2 (by omega) d0 d3 p2' (by omega) q).1
  have hx : hs ++ ext = hs ∨ ∃ d, hs ++ ext = hs ++ [d] := by
    rcases hext with rfl | ⟨rfl, _⟩
    · exact .inl (by simp)
    · exact .inr ⟨_, rfl⟩
  have hfr : cs'.getD 0 0 ≤ hs.length := by rw [e3]; exact h.rw.fT
  refine ⟨hs ++ ext, ?_⟩
  rw [hP]
  rcases hcame with ⟨hi, hci⟩ | ⟨hi, h1⟩ | ⟨hi, p, h1, h2, h3, h4⟩
  · have hn : newTold s c = [] := by rw [hN, if_neg (fun q => by rw [hi] at q; cases q.1)]
    rw [hn, List.append_nil]
    exact ⟨base s.told (.inl ⟨rfl, fun _ => hci⟩), hfr, hx, .inl rfl⟩
  · have hn : newTold s c = [] := by rw [hN, if_neg (fun q => by have := q.2.1; omega)]
    rw [hn, List.append_nil]
    exact ⟨base s.told (.inl ⟨rfl, fun q => by rw [hi] at q; cases q⟩), hfr, hx, .inl rfl⟩
  · have hn : newTold s c = [p] := by
      rw [hN, if_pos ⟨hi, by rw [h1]; rfl, by rw [h1]; rfl⟩, h1]; rfl
    rw [hn]
    exact ⟨base (s.told ++ [p]) (.inr ⟨hi, p, rfl, h2, h3, h4⟩), hfr, hx, .inr ⟨p, rfl, h2, h3, h4⟩⟩
theorem RI.pick {w : Int} {s : GS} {hs : List Int} {kk : Int} (h : RI w s hs kk) (hkk : kk < 900) (x dd : Int) : ∃ hs', RI w (pickG w s x dd) hs' (kk + 1) ∧ PickR w s (pickG w s x dd) hs hs' (x % 4) := by
  have c0 : 0 ≤ x % 4 := Int.emod_nonneg _ (by decide)
  have c3 : x % 4 ≤ 3 := by have := Int.emod_lt_of_pos x (by decide : (0 : Int) < 4); omega
  have same : PickR w s s hs hs (x % 4) := ⟨h.rw.fT, .inl rfl, .inl rfl⟩
  unfold pickG
  split
  · unfold beginP
    cases hb : isBusy s (x % 4) with
    | true => rw [if_pos rfl]; exact ⟨hs, h.more (by omega), same⟩
    | false => rw [if_neg (by simp)]; exact ⟨hs, h.begin hkk c0 c3 hb, h.rw.fT, .inl rfl, .inl rfl⟩
  split
  · cases hb : isBusy s (x % 4) with
    | true => exact h.step hkk c0 c3 hb
    | false =>
      have : stepP s (x % 4) = s := by unfold stepP; rw [if_neg (by rw [hb]; simp)]
      rw [this]; exact ⟨hs, h.more (by omega), same⟩
  have hl := h.rw.lc
  split
  · unfold doneP
    split
    · rename_i hp
      have g0 : (s.cs.set 0 (frontG s + 1)).getD 0 0 = frontG s + 1 := getD_set_eq (by omega)
      have hfr := (h.rw.done hp).fT
      refine ⟨hs, (h.cells (h.rw.done hp) (by rw [show s.cs.getD 0 0 = frontG s from rfl, g0]; omega) (by rw [getD_set_ne' (by decide)]; exact Int.le_refl _) (by rw [getD_set_ne' (by decide)]; exact Int.le_refl _)).more (by omega), hfr, .inl rfl, .inl rfl⟩
    · exact ⟨hs, h.more (by omega), same⟩
  split
  · have g4 : (s.cs.set 4 (s.cs.getD 0 0)).getD 4 0 = s.cs.getD 0 0 := getD_set_eq (by omega)
    refine ⟨hs, (h.cells h.rw.ckpt (by rw [getD_set_ne' (by decide)]; exact Int.le_refl _) (by rw [getD_set_ne' (by decide)]; exact Int.le_refl _) (by rw [g4]; exact h.rw.qf)).more (by omega), h.rw.ckpt.fT, .inl rfl, .inl rfl⟩
  · exact ⟨hs, h.more (by omega), same⟩
theorem RI.ok {w : Int} {s : GS} {hs : List Int} {kk : Int} (h : RI w s hs kk) (hkk : kk < 900) {now sure : List Sector} (hd : diskOK now sure = true) (hg1 : goodL now = true) (hg2 : goodL sure = true) (x : Int) : OkPick w s now sure (x % 4) := by
  have c0 : 0 ≤ x % 4 := Int.emod_nonneg _ (by decide)
  have c3 : x % 4 ≤ 3 := by have := Int.emod_lt_of_pos x (by decide : (0 : Int) < 4); omega
  have h1 := h.nk
  have h2 := h.tk
  have h3 := h.rw.q0
  have h4 := h.rw.qf
  have h5 := h.rw.fT
  have h6 := h.rw.Tk
  exact ⟨h.rw.w0, h.rw.w1, h.lt, h.lb, h.lh, h.n0, by omega, h.rw.lc, by show 0 ≤ s.cs.getD 0 0; omega, by show s.cs.getD 0 0 ≤ _; omega, by omega, fun hb => h.stepOK hkk hd hg1 hg2 c0 c3 hb⟩
def gA (t : Task) : GoR4 := goO false t.stack t.got
def gB (t : Task) : GoR4 := goO true t.stack t.got
def oX (cs : List Int) (t : Task) : Int := doG4 cs (gA t).kind (gA t).a (gA t).b
def oCs (cs : List Int) (t : Task) : List Int := doC4 cs (gA t).kind (gA t).a (gA t).b (gA t).v
def oT (cs : List Int) (t : Task) : Task := ⟨t.client, (gA t).st, [oX cs t], (gA t).over⟩
def oU (cs : List Int) (t u : Task) : Task := ⟨u.client, (gB u).st, [oX cs t], (gB u).over⟩
def oE (cs : List Int) (t : Task) : GoR4 := goO false (gA t).st [oX cs t]
def oF (cs : List Int) (t u : Task) : GoR4 := goO true (gB u).st [oX cs t]
structure OkStepO (c : Int) (cs : List Int) (t u : Task) (now sure : List Sector) : Prop where
  a1 : okO false c t.stack t.got
  b1 : okO true c u.stack u.got
  ct : t.client = c
  cu : u.client = c
  ot : t.over = false
  ou : u.over = false
  is : (gA t).is = true
  ab : sameG (gA t) (gB u)
  hd : OkDo4 cs (gA t).kind (gA t).a (gA t).b (gA t).v
  hg : 0 ≤ (gA t).g
  hc : cellsOK cs = true
  d1 : diskOK now sure = true
  d2 : goodL now = true
  d3 : goodL sure = true
  a2 : okO false c (gA t).st [oX cs t]
  b2 : okO true c (gB u).st [oX cs t]
  ef : sameG (oE cs t) (oF cs t u)
structure OS where
  cs : List Int
  ts : List Task
  us : List Task
  busy : List Bool
  kind : List Int
  opn : List Bool
  start : List Int
def oBusy (s : OS) (c : Int) : Bool := s.busy.getD c.toNat false
def oKind (s : OS) (c : Int) : Int := s.kind.getD c.toNat 0
def endO (s : OS) (c : Int) : GoR4 := oE s.cs (tkC s.ts c)
def stepO (s : OS) (c : Int) : OS :=
  { s with cs := oCs s.cs (tkC s.ts c), ts := s.ts.set c.toNat (oT s.cs (tkC s.ts c)), us := s.us.set c.toNat (oU s.cs (tkC s.ts c) (tkC s.us c)), busy := bif (endO s c).is then s.busy else s.busy.set c.toNat false }
def stepQ (s : OS) (c : Int) : OS :=
  if (endO s c).is = false ∧ oKind s c = 0 ∧ (endO s c).got.length = 1 then { stepO s c with opn := s.opn.set c.toNat true, start := s.start.set c.toNat ((endO s c).got.getD 0 0) } else stepO s c
def OCl (s : OS) (c : Int) : Prop := ∃ k r q got,
  (oKind s c = 0 ∧ tkC s.ts c = mkO c 92 k r got ∧ tkC s.us c = mkO c 92 k r got ∧ JB s.cs s.opn c k r got ∧ (goO false [⟨92, k, r⟩] got).is = true) ∨
  (oKind s c = 1 ∧ tkC s.ts c = mkO c 93 k r got ∧ tkC s.us c = mkO c 93 k q got ∧ JM s.cs s.opn s.start k r q got ∧ (goO false [⟨93, k, r⟩] got).is = true)
structure OI (s : OS) (most kk : Int) : Prop where
  oc : OC s.cs
  fk : frC s.cs ≤ kk
  lt : s.ts.length = 4
  lu : s.us.length = 4
  lb : s.busy.length = 4
  lk : s.kind.length = 4
  lo : s.opn.length = 4
  ls : s.start.length = 4
  mm : most ≤ mkC s.cs
  op : ∀ i, i < 4 → opB s.opn i = true → scC s.cs i = stA s.start i + 1 ∧ most ≤ stA s.start i ∧ 0 ≤ stA s.start i
  cl : ∀ c : Int, 0 ≤ c → c ≤ 3 → oBusy s c = true → OCl s c
theorem bset {bs : List Bool} {i j : Nat} {b : Bool} (hl : bs.length = 4) (hi : i < 4) : (bs.set i b).getD j false = if i = j then b else bs.getD j false := by
  by_cases e : i = j
  · subst e
    rw [if_pos rfl, List.getD_eq_getElem?_getD, List.getElem?_set_self (by omega)]; rfl
  · rw [if_neg e, List.getD_eq_getElem?_getD, List.getD_eq_getElem?_getD, List.getElem?_set_ne e]
theorem OI.more {s : OS} {most kk kk' : Int} (h : OI s most kk) (hk : kk ≤ kk') : OI s most kk' := ⟨h.oc, by have := h.fk; omega, h.lt, h.lu, h.lb, h.lk, h.lo, h.ls, h.mm, h.op, h.cl⟩
structure StO (s : OS) (c p n : Int) (r' q' : List Int) (x : Int) (cs' : List Int) : Prop where
  xx : oX s.cs (tkC s.ts c) = x
  cs : oCs s.cs (tkC s.ts c) = cs'
  t : oT s.cs (tkC s.ts c) = mkO c p n r' [x]
  u : oU s.cs (tkC s.ts c) (tkC s.us c) = mkO c p n q' [x]
  e : endO s c = goO false [⟨p, n, r'⟩] [x]
  ok : ∀ now sure, diskOK now sure = true → goodL now = true → goodL sure = true → OkStepO c s.cs (tkC s.ts c) (tkC s.us c) now sure
theorem StO.of {s : OS} {c p k n kd a b v : Int} {r q r' q' got : List Int} (ht : tkC s.ts c = mkO c p k r got) (hu : tkC s.us c = mkO c p k q got) (hA : goO false [⟨p, k, r⟩] got = g4 p n r' got kd a b v 0) (hB : goO true [⟨p, k, q⟩] got = g4 p n q' got kd a b v 0)
    (hd : OkDo4 s.cs kd a b v) (hc : cellsOK s.cs = true) (o1 : okO false c [⟨p, k, r⟩] got) (o2 : okO true c [⟨p, k, q⟩] got) (o3 : okO false c [⟨p, n, r'⟩] [doG4 s.cs kd a b]) (o4 : okO true c [⟨p, n, q'⟩] [doG4 s.cs kd a b])
    (hs : sameG (goO false [⟨p, n, r'⟩] [doG4 s.cs kd a b]) (goO true [⟨p, n, q'⟩] [doG4 s.cs kd a b])) : StO s c p n r' q' (doG4 s.cs kd a b) (doC4 s.cs kd a b v) := by
  have eA : gA (tkC s.ts c) = g4 p n r' got kd a b v 0 := by rw [ht]; exact hA
  have eB : gB (tkC s.us c) = g4 p n q' got kd a b v 0 := by rw [hu]; exact hB
  have ex : oX s.cs (tkC s.ts c) = doG4 s.cs kd a b := by unfold oX; rw [eA]; rfl
  refine ⟨ex, by unfold oCs; rw [eA]; rfl, by unfold oT; rw [ex, eA, ht]; rfl, by unfold oU; rw [ex, eB, hu]; rfl, by unfold endO oE; rw [ex, eA]; rfl, fun now sure d1 d2 d3 => ?_⟩
  refine ⟨by rw [ht]; exact o1, by rw [hu]; exact o2, by rw [ht]; rfl, by rw [hu]; rfl, by rw [ht]; rfl, by rw [hu]; rfl, by rw [eA]; rfl, by rw [eA, eB]; exact sameG_g4, by rw [eA]; exact hd, by rw [eA]; exact Int.le_refl _, hc, d1, d2, d3, by rw [eA, ex]; exact o3, by rw [eB, ex]; exact o4, ?_⟩
  unfold oE oF
  rw [eA, eB, ex]
  exact hs
structure StepO (s : OS) (most kk : Int) (c : Int) (most' : Int) : Prop where
  ok : ∀ now sure, diskOK now sure = true → goodL now = true → goodL sure = true → OkStepO c s.cs (tkC s.ts c) (tkC s.us c) now sure
  oi : OI (stepQ s c) most' kk
  ans : (endO s c).is = true ∧ most' = most ∨ (endO s c).is = false ∧ ∃ a, (endO s c).got = [a] ∧ (oKind s c = 0 ∧ most' = most ∨ oKind s c = 1 ∧ most' = max most a)
  mr : mkC s.cs ≤ mkC (stepQ s c).cs
theorem OI.step {s : OS} {most kk : Int} (h : OI s most kk) {c : Int} (c0 : 0 ≤ c) (c3 : c ≤ 3) (hb : oBusy s c = true) : ∃ most', StepO s most kk c most' := by
  have hoc := h.oc
  have hf := hoc.fr
  have hmk := hoc.mr
  have hcn : c.toNat < 4 := by omega
  obtain ⟨k, r, q, got, ⟨hk, ht, hu, hJ, hi⟩ | ⟨hk, ht, hu, hJ, hi⟩⟩ := h.cl c c0 c3 hb
  · obtain ⟨n, r', kd, a, b, v, hA, hd, hC, hJ', hE⟩ := hJ.step hoc c0 c3 hi
    have hoc' := hC.next hoc
    have hf' := hoc'.fr
    have S := StO.of ht hu (hA false) (hA true) hd hoc.ok (hJ.ok hf c0 c3 false) (hJ.ok hf c0 c3 true) (hJ'.ok hf' c0 c3 false) (hJ'.ok hf' c0 c3 true) (by
      have : ∀ own, goO own [⟨92, n, r'⟩] [doG4 s.cs kd a b] = oBeg n r' [doG4 s.cs kd a b] (doG4 s.cs kd a b) := fun own => rfl
      rw [this, this]; exact ⟨rfl, rfl, rfl, rfl, rfl, rfl, rfl⟩)
    generalize doC4 s.cs kd a b v = cs' at *
    generalize doG4 s.cs kd a b = x at *
    have hnop : opB s.opn c.toNat = false := hJ.2.2.1
    have hS : stepO s c = { s with cs := cs', ts := s.ts.set c.toNat (mkO c 92 n r' [x]), us := s.us.set c.toNat (mkO c 92 n r' [x]), busy := bif (endO s c).is then s.busy else s.busy.set c.toNat false } := by
      unfold stepO; rw [S.cs, S.t, S.u]
    -- the others, whatever becomes of this client
    have hoth : ∀ (opn' : List Bool) (start' : List Int) (busy' : List Bool), (∀ i, i ≠ c.toNat → opB opn' i = opB s.opn i ∧ stA start' i = stA s.start i) → (opB opn' c.toNat = true → mkC s.cs ≤ stA start' c.toNat) →
        ∀ c', 0 ≤ c' → c' ≤ 3 → c' ≠ c → oBusy s c' = true → OCl ⟨cs', s.ts.set c.toNat (mkO c 92 n r' [x]), s.us.set c.toNat (mkO c 92 n r' [x]), busy', s.kind, opn', start'⟩ c' := by
      intro opn' start' busy' ho1 ho2 c' d0 d3 hne hb'
      have hne' : c'.toNat ≠ c.toNat := by omega
      obtain ⟨k2, r2, q2, got2, ⟨p0, p1, p2, p3, p4⟩ | ⟨p0, p1, p2, p3, p4⟩⟩ := h.cl c' d0 d3 hb'
      · refine ⟨k2, r2, q2, got2, .inl ⟨p0, by show tkC (s.ts.set c.toNat _) c' = _; rw [tkC_set h.lt c0 c3 d0, if_neg (fun e => hne e.symm)]; exact p1, by show tkC (s.us.set c.toNat _) c' = _; rw [tkC_set h.lu c0 c3 d0, if_neg (fun e => hne e.symm)]; exact p2, ?_, p4⟩⟩
        exact p3.mono (by rw [hC.fr]; exact Int.le_refl _) (hC.sc _ (.inl hne')) (ho1 _ hne').1
      · refine ⟨k2, r2, q2, got2, .inr ⟨p0, by show tkC (s.ts.set c.toNat _) c' = _; rw [tkC_set h.lt c0 c3 d0, if_neg (fun e => hne e.symm)]; exact p1, by show tkC (s.us.set c.toNat _) c' = _; rw [tkC_set h.lu c0 c3 d0, if_neg (fun e => hne e.symm)]; exact p2, ?_, p4⟩⟩
        refine p3.mono (by rw [hC.fr]; exact Int.le_refl _) hC.mr.1 fun i hi => ?_
        by_cases e : i = c.toNat
        · subst e; exact .inr (ho2 hi)
        · exact .inl ⟨by rw [← (ho1 i e).1]; exact hi, (ho1 i e).2⟩
    have hfk : frC cs' ≤ kk := by rw [hC.fr]; exact h.fk
    have hmm : most ≤ mkC cs' := by have := h.mm; have := hC.mr; omega
    cases hE2 : (endO s c).is with
    | true =>
      have hQ : stepQ s c = stepO s c := by unfold stepQ; rw [if_neg (fun q => by rw [hE2] at q; cases q.1)]
      rw [hE2] at hS
      refine ⟨most, S.ok, ?_, .inl ⟨hE2, rfl⟩, by rw [hQ, hS]; exact hC.mr.1⟩
      rw [hQ, hS]
      refine ⟨hoc', hfk, by simp [h.lt], by simp [h.lu], h.lb, h.lk, h.lo, h.ls, hmm, fun i hi ho => ?_, fun c' d0 d3 hb' => ?_⟩
      · have hne : i ≠ c.toNat := fun e => by subst e; rw [show opB s.opn c.toNat = true from ho] at hnop; cases hnop
        show scC cs' i = _ ∧ _
        rw [hC.sc i (.inl hne)]
        exact h.op i hi ho
      · by_cases e : c' = c
        · subst e
          refine ⟨n, r', r', [x], .inl ⟨hk, by show tkC (s.ts.set c'.toNat _) c' = _; rw [tkC_set h.lt c0 c3 c0, if_pos rfl], by show tkC (s.us.set c'.toNat _) c' = _; rw [tkC_set h.lu c0 c3 c0, if_pos rfl], hJ', ?_⟩⟩
          rw [← S.e]; exact hE2
        · exact hoth s.opn s.start _ (fun _ _ => ⟨rfl, rfl⟩) (fun q => by rw [hnop] at q; cases q) c' d0 d3 e hb'
    | false =>
      obtain ⟨w, e1, e2, e3, e4⟩ := hE (by rw [← S.e]; exact hE2)
      have hgot : (endO s c).got = [w] := by rw [S.e, e1]; rfl
      have hQ : stepQ s c = { stepO s c with opn := s.opn.set c.toNat true, start := s.start.set c.toNat w } := by
        unfold stepQ; rw [if_pos ⟨hE2, hk, by rw [hgot]; rfl⟩, hgot]; rfl
      rw [hE2] at hS
      refine ⟨most, S.ok, ?_, .inr ⟨hE2, w, hgot, .inl ⟨hk, rfl⟩⟩, by rw [hQ, hS]; exact hC.mr.1⟩
      rw [hQ, hS]
      have hop' : ∀ i, opB (s.opn.set c.toNat true) i = if c.toNat = i then true else opB s.opn i := fun i => bset h.lo hcn
      have hst' : ∀ i, stA (s.start.set c.toNat w) i = if c.toNat = i then w else stA s.start i := fun i => by unfold stA; rw [getD_set _ _ _ _ _ (by rw [h.ls]; omega)]
      refine ⟨hoc', hfk, by simp [h.lt], by simp [h.lu], by simp [h.lb], h.lk, by simp [h.lo], by simp [h.ls], hmm, fun i hi ho => ?_, fun c' d0 d3 hb' => ?_⟩
      · show scC cs' i = stA (s.start.set c.toNat w) i + 1 ∧ most ≤ stA (s.start.set c.toNat w) i ∧ 0 ≤ stA (s.start.set c.toNat w) i
        rw [hst']
        by_cases e : c.toNat = i
        · rw [if_pos e, ← e]
          have := hC.mr
          have := h.mm
          exact ⟨e3, by omega, by omega⟩
        · rw [if_neg e, hC.sc i (.inl (fun q => e q.symm))]
          have ho : opB (s.opn.set c.toNat true) i = true := ho
          rw [hop', if_neg e] at ho
          exact h.op i hi ho
      · have hb' : (s.busy.set c.toNat false).getD c'.toNat false = true := hb'
        rw [bset h.lb hcn] at hb'
        by_cases e : c' = c
        · subst e; rw [if_pos rfl] at hb'; cases hb'
        · rw [if_neg (by omega)] at hb'
          exact hoth _ _ _ (fun i hi => ⟨by rw [hop', if_neg (fun e => hi e.symm)], by rw [hst', if_neg (fun e => hi e.symm)]⟩) (fun _ => by rw [hst', if_pos rfl]; have := hC.mr; omega) c' d0 d3 e hb'
  · obtain ⟨n, r', q', kd, a, b, v, hA, hB, hd, hC, hJ', hE⟩ := hJ.step hoc (fun i hi ho => by have := h.op i hi ho; exact ⟨this.1, this.2.2⟩) hi
    have hoc' := hC.next hoc
    have hf' := hoc'.fr
    have ok1 := hJ.ok hf c0 c3
    have ok2 := hJ'.ok hf' c0 c3
    have S := StO.of ht hu hA hB hd hoc.ok ok1.1 ok1.2.1 ok2.1 ok2.2.1 ok2.2.2
    generalize doC4 s.cs kd a b v = cs' at *
    generalize doG4 s.cs kd a b = x at *
    have hS : stepO s c = { s with cs := cs', ts := s.ts.set c.toNat (mkO c 93 n r' [x]), us := s.us.set c.toNat (mkO c 93 n q' [x]), busy := bif (endO s c).is then s.busy else s.busy.set c.toNat false } := by
      unfold stepO; rw [S.cs, S.t, S.u]
    have hQ : stepQ s c = stepO s c := by unfold stepQ; rw [if_neg (fun q => by rw [hk] at q; exact absurd q.2.1 (by decide))]
    have hoth : ∀ (busy' : List Bool), ∀ c', 0 ≤ c' → c' ≤ 3 → c' ≠ c → oBusy s c' = true → OCl ⟨cs', s.ts.set c.toNat (mkO c 93 n r' [x]), s.us.set c.toNat (mkO c 93 n q' [x]), busy', s.kind, s.opn, s.start⟩ c' := by
      intro busy' c' d0 d3 hne hb'
      have hne' : c'.toNat ≠ c.toNat := by omega
      obtain ⟨k2, r2, q2, got2, ⟨p0, p1, p2, p3, p4⟩ | ⟨p0, p1, p2, p3, p4⟩⟩ := h.cl c' d0 d3 hb'
      · refine ⟨k2, r2, q2, got2, .inl ⟨p0, by show tkC (s.ts.set c.toNat _) c' = _; rw [tkC_set h.lt c0 c3 d0, if_neg (fun e => hne e.symm)]; exact p1, by show tkC (s.us.set c.toNat _) c' = _; rw [tkC_set h.lu c0 c3 d0, if_neg (fun e => hne e.symm)]; exact p2, ?_, p4⟩⟩
        exact p3.mono (by rw [hC.fr]; exact Int.le_refl _) (hC.sc _ (.inr rfl)) rfl
      · refine ⟨k2, r2, q2, got2, .inr ⟨p0, by show tkC (s.ts.set c.toNat _) c' = _; rw [tkC_set h.lt c0 c3 d0, if_neg (fun e => hne e.symm)]; exact p1, by show tkC (s.us.set c.toNat _) c' = _; rw [tkC_set h.lu c0 c3 d0, if_neg (fun e => hne e.symm)]; exact p2, ?_, p4⟩⟩
        exact p3.mono (by rw [hC.fr]; exact Int.le_refl _) hC.mr.1 fun i hi => .inl ⟨hi, rfl⟩
    have hfk : frC cs' ≤ kk := by rw [hC.fr]; exact h.fk
    have hmm : most ≤ mkC cs' := by have := h.mm; have := hC.mr; omega
    cases hE2 : (endO s c).is with
    | true =>
      rw [hE2] at hS
      refine ⟨most, S.ok, ?_, .inl ⟨hE2, rfl⟩, by rw [hQ, hS]; exact hC.mr.1⟩
      rw [hQ, hS]
      refine ⟨hoc', hfk, by simp [h.lt], by simp [h.lu], h.lb, h.lk, h.lo, h.ls, hmm, fun i hi ho => ?_, fun c' d0 d3 hb' => ?_⟩
      · show scC cs' i = _ ∧ _
        rw [hC.sc i (.inr rfl)]
        exact h.op i hi ho
      · by_cases e : c' = c
        · subst e
          refine ⟨n, r', q', [x], .inr ⟨hk, by show tkC (s.ts.set c'.toNat _) c' = _; rw [tkC_set h.lt c0 c3 c0, if_pos rfl], by show tkC (s.us.set c'.toNat _) c' = _; rw [tkC_set h.lu c0 c3 c0, if_pos rfl], hJ', ?_⟩⟩
          rw [← S.e]; exact hE2
        · exact hoth _ c' d0 d3 e hb'
    | false =>
      obtain ⟨w, e1, e2, e3⟩ := hE (by rw [← S.e]; exact hE2)
      have hgot : (endO s c).got = [w] := by rw [S.e, e1]; rfl
      rw [hE2] at hS
      refine ⟨max most w, S.ok, ?_, .inr ⟨hE2, w, hgot, .inr ⟨hk, rfl⟩⟩, by rw [hQ, hS]; exact hC.mr.1⟩
      rw [hQ, hS]
      refine ⟨hoc', hfk, by simp [h.lt], by simp [h.lu], by simp [h.lb], h.lk, h.lo, h.ls, by show max most w ≤ mkC cs'; omega, fun i hi ho => ?_, fun c' d0 d3 hb' => ?_⟩
      · show scC cs' i = _ ∧ _
        rw [hC.sc i (.inr rfl)]
        have h3 := e3 i hi ho
        have h4 := h.op i hi ho
        exact ⟨h4.1, by show max most w ≤ stA s.start i; omega, h4.2.2⟩
      · have hb' : (s.busy.set c.toNat false).getD c'.toNat false = true := hb'
        rw [bset h.lb hcn] at hb'
        by_cases e : c' = c
        · subst e; rw [if_pos rfl] at hb'; cases hb'
        · rw [if_neg (by omega)] at hb'
          exact hoth _ c' d0 d3 e hb'
section
variable (nx : Bool → Frame → List Int → NA) (ok : Bool → Frame → List Int → Prop)
def goT (own : Bool) (t : Task) : GoM := goN (nx own) 64 t.stack t.got false
def gmX (cs : List Int) (t : Task) : Int := doG4 cs (goT nx false t).a.kind (goT nx false t).a.a (goT nx false t).a.b
def gmCs (cs : List Int) (t : Task) : List Int := doC4 cs (goT nx false t).a.kind (goT nx false t).a.a (goT nx false t).a.b (goT nx false t).a.v
def gmT (own : Bool) (x : Int) (u : Task) : Task := ⟨u.client, (goT nx own u).st, [x], decide ((goT nx own u).st = [])⟩
structure OkTask (own : Bool) (c : Int) (t : Task) : Prop where
  ne : t.stack ≠ []
  a1 : OkN (nx own) (ok own) 64 t.stack t.got
  ct : t.client = c
  ot : t.over = false
structure OkEnd (c : Int) (t u : Task) : Prop where
  ta : OkTask nx ok false c t
  tb : OkTask nx ok true c u
  is : (goT nx false t).is = (goT nx true u).is
  eg : (goT nx false t).is = true → (goT nx false t).a = (goT nx true u).a ∧ (goT nx false t).a.args.length ≤ 96
  eh : (goT nx false t).is = false → (goT nx false t).st = [] ∧ (goT nx true u).st = [] ∧ (goT nx false t).got = (goT nx true u).got ∧ (goT nx false t).got.length ≤ 96
structure OkStepG (c : Int) (cs : List Int) (t u : Task) (now sure : List Sector) : Prop where
  e1 : OkEnd nx ok c t u
  is : (goT nx false t).is = true
  la : (goT nx false t).st.length ≤ 6 ∧ (goT nx false t).got.length ≤ 96
  lb : (goT nx true u).st.length ≤ 6 ∧ (goT nx true u).got.length ≤ 96
  tx : (goT nx false t).a.text = [] ∧ (goT nx false t).a.args = []
  hd : OkDo4 cs (goT nx false t).a.kind (goT nx false t).a.a (goT nx false t).a.b (goT nx false t).a.v
  hg : 0 ≤ (goT nx false t).a.gen
  hc : cellsOK cs = true
  d1 : diskOK now sure = true
  d2 : goodL now = true
  d3 : goodL sure = true
  e2 : OkEnd nx ok c (gmT nx false (gmX nx cs t) t) (gmT nx true (gmX nx cs t) u)
end
theorem goN_st {nx : Frame → List Int → NA} : ∀ {n : Nat} {st : List Frame} {got : List Int} {e : Bool}, (goN nx n st got e).is = true → (goN nx n st got e).st ≠ []
  | 0, st, got, e, h => by cases h
  | n + 1, st, got, e, h => by
    unfold goN at h ⊢
    split at h
    · cases h
    · rename_i h0
      rw [if_neg h0]
      split at h
      · rename_i h6
        rw [if_pos h6]
        simp only [tkSt, if_pos h6]
        simp
      · rename_i h6
        rw [if_neg h6]
        exact goN_st h
open Go.Proofs
set_option maxRecDepth 100000
structure endg_St where
  c : Int
  now : List Sector
  sure : List Sector
  cs : List Int
  ts : List Task
  us : List Task
  busy : List Bool
def endg_a (c : Int) (now : List Sector) (sure : List Sector) (cs : List Int) (ts : List Task) (us : List Task) (busy : List Bool) : List (D RC) := [.ptr 0 [], .int .i64 c]
def endg_o (c : Int) (now : List Sector) (sure : List Sector) (cs : List Int) (ts : List Task) (us : List Task) (busy : List Bool) : List (Obj RC) := [.var 52 (.acons (.acons (.sl (C := RC) .int false cs) (.acons (.acons (.sl (C := RC) .sector false now) (.acons (.sl (C := RC) .sector false sure) .anil)) .anil)) (.acons (.arr (C := RC) .task 4 ts) (.acons (.arr (C := RC) .task 4 us) (.acons (.arr (C := RC) .bool 4 busy) .anil))))]
noncomputable def endg_r (c : Int) (now : List Sector) (sure : List Sector) (cs : List Int) (ts : List Task) (us : List Task) (busy : List Bool) := fnO s19 ui_6 59 80 1 (endg_a c now sure cs ts us busy) (endg_o c now sure cs ts us busy)
theorem endg_eq (c : Int) (now : List Sector) (sure : List Sector) (cs : List Int) (ts : List Task) (us : List Task) (busy : List Bool) : endg_r c now sure cs ts us busy = (let Z0 : Bool := decide ((0 : Int) ≤ c ∧ c < (4 : Int)); let Z1 : Nat := Int.toNat c; let Z2 : Task := Task.mk (0 : Int) [] [] false; let Z3 : Task := List.getD ts Z1 Z2; let Z4 : Task := List.getD us Z1 Z2; let Z5 : GoM := goGo false (64 : Nat) (Task.stack Z3) (Task.got Z3) false; let Z6 : GoM := goGo true (64 : Nat) (Task.stack Z4) (Task.got Z4) false; let Z7 : D RC := D.bool false; let Z8 : D RC := .anil; let Z9 : D RC := D.acons (D.sl RTy.int false cs) (.acons (D.acons (D.sl RTy.sector false now) (.acons (D.sl RTy.sector false sure) Z8)) Z8); let Z10 : D RC := D.arr RTy.task (4 : Nat) ts; let Z11 : D RC := D.arr RTy.task (4 : Nat) us; let Z12 : List (Option (Obj RC)) := [some (Obj.var 52 (.acons Z9 (D.acons Z10 (D.acons Z11 (D.acons (D.arr RTy.bool (4 : Nat) busy) Z8)))))]; let Z13 : Option (D RC × List (Option (Obj RC))) := some (D.tup (D.acons (D.sl RTy.int true []) (.acons Z7 (D.acons Z7 Z8))), Z12); let Z14 : Action := GoM.a Z5; let Z15 : Action := GoM.a Z6; let Z16 : Nat := List.length (GoM.st Z5); let Z17 : Nat := List.length (GoM.st Z6); let Z18 : D RC := D.sl RTy.int (GoM.gf Z5) (GoM.got Z5); let Z19 : List (Option (Obj RC)) := [some (Obj.var 52 (.acons Z9 (D.acons Z10 (D.acons Z11 (D.acons (D.arr RTy.bool (4 : Nat) (List.set busy Z1 false)) Z8)))))]; let Z20 : Option (D RC × List (Option (Obj RC))) := some (D.tup (D.acons Z18 (D.acons (D.bool true) (.acons Z7 Z8))), Z19); let Z21 : Option (D RC × List (Option (Obj RC))) := bif GoM.is Z5 then some (D.tup (D.acons (D.sl RTy.int true []) (.acons Z7 (D.acons (D.bool true) Z8))), Z12) else bif Z0 then bif lenOK Z16 then bif (↑Z16 : Int) == (0 : Int) then bif lenOK Z17 then bif (↑Z17 : Int) == (0 : Int) then bif lenOK (GoM.got Z5).length && lenOK (GoM.got Z6).length then some (D.tup (D.acons Z18 (D.acons (D.bool true) (.acons (D.bool (decide (GoM.got Z5 = GoM.got Z6))) Z8))), Z19) else none else Z20 else none else Z20 else none else none; bif Z0 then bif cdec ((0 : Int) ≤ Task.client Z3 ∧ Task.client Z3 ≤ (3 : Int) ∧ Task.over Z3 = decide (Task.stack Z3 = []) ∧ (Task.stack Z3 = [] → false = false) ∧ okGo false (64 : Nat) (Task.stack Z3) (Task.got Z3)) then bif Z0 then bif cdec ((0 : Int) ≤ Task.client Z4 ∧ Task.client Z4 ≤ (3 : Int) ∧ Task.over Z4 = decide (Task.stack Z4 = []) ∧ (Task.stack Z4 = [] → false = false) ∧ okGo true (64 : Nat) (Task.stack Z4) (Task.got Z4)) then bif !GoM.is Z5 == GoM.is Z6 then Z13 else bif GoM.is Z5 then bif lenOK (Action.args Z14).length && lenOK (Action.args Z15).length then bif !decide (Action.mk (Action.kind Z14) (Action.a Z14) (Action.b Z14) (Action.v Z14) (Action.gen Z14) (Action.text Z14) (Action.args Z14) = Action.mk (Action.kind Z15) (Action.a Z15) (Action.b Z15) (Action.v Z15) (Action.gen Z15) (Action.text Z15) (Action.args Z15)) then Z13 else Z21 else none else Z21 else none else none else none else none) := by kernel_rfl
noncomputable def endg_fin (c : Int) (now : List Sector) (sure : List Sector) (cs : List Int) (ts : List Task) (us : List Task) (busy : List Bool) : RT RC := .leaf .ret [(0, .tup (.acons (.sl (C := RC) .int (bif (goT nStr false (tkC ts c)).is then true else (goT nStr false (tkC ts c)).gf) (bif (goT nStr false (tkC ts c)).is then [] else (goT nStr false (tkC ts c)).got)) (.acons (.bool (!(goT nStr false (tkC ts c)).is)) (.acons (.bool true) .anil))))] (endg_o c now sure cs ts us (bif (goT nStr false (tkC ts c)).is then busy else busy.set c.toNat false))
def endg_Inv (c : Int) (now : List Sector) (sure : List Sector) (cs : List Int) (ts : List Task) (us : List Task) (busy : List Bool) : Prop := 0 ≤ c ∧ c ≤ 3 ∧ ts.length = 4 ∧ us.length = 4 ∧ OkEnd nStr okStr c (tkC ts c) (tkC us c)
noncomputable def endg_S : FunR RC endg_St where
  k := 1
  args q := endg_a q.c q.now q.sure q.cs q.ts q.us q.busy
  objs q := endg_o q.c q.now q.sure q.cs q.ts q.us q.busy
  fin q := endg_fin q.c q.now q.sure q.cs q.ts q.us q.busy
  Inv q := endg_Inv q.c q.now q.sure q.cs q.ts q.us q.busy
theorem endg_ok (c : Int) (now : List Sector) (sure : List Sector) (cs : List Int) (ts : List Task) (us : List Task) (busy : List Bool) (hI : endg_Inv c now sure cs ts us busy) : Leaf (endg_r c now sure cs ts us busy) (LedF endg_S ⟨c, now, sure, cs, ts, us, busy⟩) := by
  (rw [endg_eq]; conv => zeta)
  unfold endg_Inv at hI
  obtain ⟨c0, c3, lt, lu, hE⟩ := hI
  have hc : decide ((0 : Int) ≤ c ∧ c < 4) = true := decide_eq_true ⟨c0, by omega⟩
  have ht : tkC ts c = ts.getD c.toNat ⟨0, [], [], false⟩ := rfl
  have hu : tkC us c = us.getD c.toNat ⟨0, [], [], false⟩ := rfl
  have hfin : ∀ t, tkC ts c = t → endg_fin c now sure cs ts us busy = .leaf .ret [(0, .tup (.acons (.sl (C := RC) .int (bif (goT nStr false t).is then true else (goT nStr false t).gf) (bif (goT nStr false t).is then [] else (goT nStr false t).got)) (.acons (.bool (!(goT nStr false t).is)) (.acons (.bool true) .anil))))] (endg_o c now sure cs ts us (bif (goT nStr false t).is then busy else busy.set c.toNat false)) := fun t ht => by
    unfold endg_fin; rw [ht]
  generalize ts.getD c.toNat ⟨0, [], [], false⟩ = t at ht ⊢
  generalize us.getD c.toNat ⟨0, [], [], false⟩ = u at hu ⊢
  have hfin := hfin t ht
  rw [ht, hu] at hE
  obtain ⟨ta, tb, is, eg, eh⟩ := hE
  have k1 : cdec (0 ≤ t.client ∧ t.client ≤ 3 ∧ t.over = decide (t.stack = []) ∧ (t.stack = [] → True) ∧ okGo false 64 t.stack t.got) = true := cdec_true ⟨by rw [ta.ct]; exact c0, by rw [ta.ct]; exact c3, by rw [ta.ot]; exact (decide_eq_false ta.ne).symm, fun _ => trivial, ta.a1⟩
  have k2 : cdec (0 ≤ u.client ∧ u.client ≤ 3 ∧ u.over = decide (u.stack = []) ∧ (u.stack = [] → True) ∧ okGo true 64 u.stack u.got) = true := cdec_true ⟨by rw [tb.ct]; exact c0, by rw [tb.ct]; exact c3, by rw [tb.ot]; exact (decide_eq_false tb.ne).symm, fun _ => trivial, tb.a1⟩
  have gA : goGo false 64 t.stack t.got false = goT nStr false t := rfl
  have gB : goGo true 64 u.stack u.got false = goT nStr true u := rfl
  have aeta : ∀ a : Action, Action.mk a.kind a.a a.b a.v a.gen a.text a.args = a := fun _ => rfl
  simp only [hc, k1, k2, gA, gB, aeta, cond_true]
  clear k1 k2 gA gB ta tb
  generalize goT nStr false t = E at *
  generalize goT nStr true u = F at *
  cases hi : E.is with
  | true =>
    rw [hi] at is hfin
    obtain ⟨g1, g2⟩ := eg hi
    have l1 : lenOK E.a.args.length = true := lenOK_of (by omega)
    have q0 : (!(true == true)) = false := rfl
    rw [← g1, ← is]
    simp only [q0, l1, decide_true, Bool.and_self, Bool.not_true, cond_true, cond_false]
    refine leafF (S := endg_S) (s := ⟨c, now, sure, cs, ts, us, busy⟩) (endg_o c now sure cs ts us busy) ?_ rfl
    show (endg_fin c now sure cs ts us busy).val = _
    rw [hfin]
    rfl
  | false =>
    rw [hi] at is hfin
    obtain ⟨g1, g2, g3, g4⟩ := eh hi
    have l1 : lenOK E.got.length = true := lenOK_of (by omega)
    have l2 : lenOK ([] : List Frame).length = true := rfl
    have l3 : (((([] : List Frame).length : Nat) : Int) == 0) = true := rfl
    have q0 : (!(false == false)) = false := rfl
    rw [← is, g1, g2, ← g3]
    simp only [q0, l1, l2, l3, decide_true, Bool.and_self, Bool.not_false, cond_true, cond_false]
    refine leafF (S := endg_S) (s := ⟨c, now, sure, cs, ts, us, busy⟩) (endg_o c now sure cs ts us (busy.set c.toNat false)) ?_ rfl
    show (endg_fin c now sure cs ts us busy).val = _
    rw [hfin]
    rfl
noncomputable def endg_d (env : Env RC) (os : List (Obj RC)) : Option (Bool × endg_St) := match env, os with
  | [(0, .ptr 0 []), (1, .int .i64 c)], [.var 52 (.acons (.acons (.sl .int false cs) (.acons (.acons (.sl .sector false now) (.acons (.sl .sector false sure) .anil)) .anil)) (.acons (.arr .task 4 ts) (.acons (.arr .task 4 us) (.acons (.arr .bool 4 busy) .anil))))] => staticD (true) (cdec (0 ≤ c ∧ c ≤ 3 ∧ ts.length = 4 ∧ us.length = 4 ∧ OkEnd nStr okStr c (tkC ts c) (tkC us c)), ⟨c, now, sure, cs, ts, us, busy⟩)
  | _, _ => none
noncomputable def uj_1 := ui_6.addObj 59 (sumF s19 [.slot 0 0] 2 endg_S endg_d)
theorem uj_1_laws : FLaws Tryz.prog s19 uj_1 := by
  refine ui_6_laws.addFun s19_laws endg_S 80 2 [.slot 0 0] endg_d (fun q hI => ?_) ?_
  · obtain ⟨c, now, sure, cs, ts, us, busy⟩ := q
    refine ⟨?_, ?_, rfl, endg_ok c now sure cs ts us busy hI⟩
    · simp [RefsOK, endg_S, endg_a, endg_o, eargs, D.refs, Obj.refs]
    · simp [endg_S, endg_fin, endg_o, RT.refsOK, RefsOK, D.refs, Obj.refs]
  · intro env os b q hd_ hb
    unfold endg_d at hd_
    split at hd_
    · obtain ⟨hs, hd_⟩ := staticD_some hd_
      cases hd_
      try simp only [Bool.and_eq_true, decide_eq_true_eq] at hb
      exact ⟨cdec_iff.1 hb, rfl, rfl⟩
    · cases hd_
structure stepg_St where
  c : Int
  now : List Sector
  sure : List Sector
  cs : List Int
  ts : List Task
  us : List Task
  busy : List Bool
def stepg_a (c : Int) (now : List Sector) (sure : List Sector) (cs : List Int) (ts : List Task) (us : List Task) (busy : List Bool) : List (D RC) := [.ptr 0 [], .int .i64 c]
def stepg_o (c : Int) (now : List Sector) (sure : List Sector) (cs : List Int) (ts : List Task) (us : List Task) (busy : List Bool) : List (Obj RC) := [.var 52 (.acons (.acons (.sl (C := RC) .int false cs) (.acons (.acons (.sl (C := RC) .sector false now) (.acons (.sl (C := RC) .sector false sure) .anil)) .anil)) (.acons (.arr (C := RC) .task 4 ts) (.acons (.arr (C := RC) .task 4 us) (.acons (.arr (C := RC) .bool 4 busy) .anil))))]
noncomputable def stepg_r (c : Int) (now : List Sector) (sure : List Sector) (cs : List Int) (ts : List Task) (us : List Task) (busy : List Bool) := fnO s19 uj_1 29 80 1 (stepg_a c now sure cs ts us busy) (stepg_o c now sure cs ts us busy)
theorem stepg_eq (c : Int) (now : List Sector) (sure : List Sector) (cs : List Int) (ts : List Task) (us : List Task) (busy : List Bool) : stepg_r c now sure cs ts us busy = (let Z0 : Bool := decide ((0 : Int) ≤ c ∧ c < (4 : Int)); let Z1 : Nat := Int.toNat c; let Z2 : Task := Task.mk (0 : Int) [] [] false; let Z3 : Task := List.getD ts Z1 Z2; let Z4 : Int := Task.client Z3; let Z5 : Task := List.getD us Z1 Z2; let Z6 : Int := Task.client Z5; let Z7 : GoM := goGo false (64 : Nat) (Task.stack Z3) (Task.got Z3) false; let Z8 : GoM := goGo true (64 : Nat) (Task.stack Z5) (Task.got Z5) false; let Z9 : D RC := D.sl RTy.int true []; let Z10 : D RC := .anil; let Z11 : D RC := D.acons (D.bool false) Z10; let Z12 : D RC := D.acons (D.acons (D.sl RTy.sector false now) (.acons (D.sl RTy.sector false sure) Z10)) Z10; let Z13 : D RC := D.acons (D.sl RTy.int false cs) Z12; let Z14 : D RC := D.arr RTy.task (4 : Nat) ts; let Z15 : D RC := D.arr RTy.task (4 : Nat) us; let Z16 : Option (D RC × List (Option (Obj RC))) := some (D.tup (D.acons Z9 (D.acons (D.bool false) Z11)), [some (Obj.var 52 (.acons Z13 (D.acons Z14 (D.acons Z15 (D.acons (D.arr RTy.bool (4 : Nat) busy) Z10)))))]); let Z17 : Action := GoM.a Z7; let Z18 : List Int := Action.args Z17; let Z19 : Action := GoM.a Z8; let Z20 : Int := Action.kind Z17; let Z21 : Int := Action.a Z17; let Z22 : Int := Action.b Z17; let Z23 : Int := Action.v Z17; let Z24 : Nat := List.length (GoM.st Z7); let Z25 : Nat := List.length (GoM.st Z8); let Z26 : Nat := List.length (GoM.got Z7); let Z27 : Nat := List.length (GoM.got Z8); let Z28 : List (Option (Obj RC)) := [some (Obj.var 52 (.acons Z13 (D.acons Z14 (D.acons Z15 (D.acons (D.arr RTy.bool (4 : Nat) (List.set busy Z1 false)) Z10)))))]; let Z29 : Option (D RC × List (Option (Obj RC))) := some (D.tup (D.acons Z9 (D.acons (D.bool true) Z11)), Z28); let Z30 : List Task := List.set ts Z1 (Task.mk Z4 (GoM.st Z7) [doG4 cs Z20 Z21 Z22] (decide (GoM.st Z7 = []))); let Z31 : List Task := List.set us Z1 (Task.mk Z6 (GoM.st Z8) [doG4 cs Z20 Z21 Z22] (decide (GoM.st Z8 = []))); let Z32 : GoM := goT nStr false (tkC Z30 c); let Z33 : Bool := GoM.is Z32; let Z34 : Option (D RC × List (Option (Obj RC))) := bif !GoM.is Z7 then bif Z0 then bif lenOK Z24 then bif (↑Z24 : Int) == (0 : Int) then bif lenOK Z25 then bif (↑Z25 : Int) == (0 : Int) then bif lenOK Z26 && lenOK Z27 then some (D.tup (D.acons Z9 (D.acons (D.bool true) (.acons (D.bool (decide (GoM.got Z7 = GoM.got Z8))) Z10))), Z28) else none else Z29 else none else Z29 else none else none else bif cdec (Action.text Z17 = [] ∧ Z18 = [] ∧ OkDo4 cs Z20 Z21 Z22 Z23) && decide ((0 : Int) ≤ Action.gen Z17) && (cellsOK cs && (diskOK now sure && (goodL now && goodL sure))) then bif decide ((0 : Int) ≤ Z4 ∧ Z4 ≤ (3 : Int) ∧ Z26 ≤ (96 : Nat) ∧ (1 : Nat) ≤ Z24 ∧ Z24 ≤ (6 : Nat)) && !decide (GoM.st Z7 = []) then bif Z0 then bif decide ((0 : Int) ≤ Z6 ∧ Z6 ≤ (3 : Int) ∧ Z27 ≤ (96 : Nat) ∧ (1 : Nat) ≤ Z25 ∧ Z25 ≤ (6 : Nat)) && !decide (GoM.st Z8 = []) then bif Z0 then bif cdec ((0 : Int) ≤ c ∧ c ≤ (3 : Int) ∧ List.length Z30 = (4 : Nat) ∧ List.length Z31 = (4 : Nat) ∧ OkEnd nStr okStr c (tkC Z30 c) (tkC Z31 c)) then some (D.tup (D.acons (D.sl RTy.int (bif Z33 then true else GoM.gf Z32) (bif Z33 then [] else GoM.got Z32)) (.acons (D.bool !Z33) (.acons (D.bool true) Z10))), [some (Obj.var 52 (.acons (D.acons (D.sl RTy.int false (doC4 cs Z20 Z21 Z22 Z23)) Z12) (.acons (D.arr RTy.task (4 : Nat) Z30) (.acons (D.arr RTy.task (4 : Nat) Z31) (.acons (D.arr RTy.bool (4 : Nat) (bif Z33 then busy else List.set busy Z1 false)) Z10)))))]) else none else none else none else none else none else none; bif Z0 then bif cdec ((0 : Int) ≤ Z4 ∧ Z4 ≤ (3 : Int) ∧ Task.over Z3 = decide (Task.stack Z3 = []) ∧ (Task.stack Z3 = [] → false = false) ∧ okGo false (64 : Nat) (Task.stack Z3) (Task.got Z3)) then bif Z0 then bif cdec ((0 : Int) ≤ Z6 ∧ Z6 ≤ (3 : Int) ∧ Task.over Z5 = decide (Task.stack Z5 = []) ∧ (Task.stack Z5 = [] → false = false) ∧ okGo true (64 : Nat) (Task.stack Z5) (Task.got Z5)) then bif !GoM.is Z7 == GoM.is Z8 then Z16 else bif GoM.is Z7 then bif lenOK Z18.length && lenOK (Action.args Z19).length then bif !decide (Action.mk Z20 Z21 Z22 Z23 (Action.gen Z17) (Action.text Z17) Z18 = Action.mk (Action.kind Z19) (Action.a Z19) (Action.b Z19) (Action.v Z19) (Action.gen Z19) (Action.text Z19) (Action.args Z19)) then Z16 else Z34 else none else Z34 else none else none else none else none) := by kernel_rfl
noncomputable def stepg_fin (c : Int) (now : List Sector) (sure : List Sector) (cs : List Int) (ts : List Task) (us : List Task) (busy : List Bool) : RT RC := .leaf .ret [(0, .tup (.acons (.sl (C := RC) .int (bif (goT nStr false (gmT nStr false (gmX nStr cs (tkC ts c)) (tkC ts c))).is then true else (goT nStr false (gmT nStr false (gmX nStr cs (tkC ts c)) (tkC ts c))).gf) (bif (goT nStr false (gmT nStr false (gmX nStr cs (tkC ts c)) (tkC ts c))).is then [] else (goT nStr false (gmT nStr false (gmX nStr cs (tkC ts c)) (tkC ts c))).got)) (.acons (.bool (!(goT nStr false (gmT nStr false (gmX nStr cs (tkC ts c)) (tkC ts c))).is)) (.acons (.bool true) .anil))))] (stepg_o c now sure (gmCs nStr cs (tkC ts c)) (ts.set c.toNat (gmT nStr false (gmX nStr cs (tkC ts c)) (tkC ts c))) (us.set c.toNat (gmT nStr true (gmX nStr cs (tkC ts c)) (tkC us c))) (bif (goT nStr false (gmT nStr false (gmX nStr cs (tkC ts c)) (tkC ts c))).is then busy else busy.set c.toNat false))
def stepg_Inv (c : Int) (now : List Sector) (sure : List Sector) (cs : List Int) (ts : List Task) (us : List Task) (busy : List Bool) : Prop := 0 ≤ c ∧ c ≤ 3 ∧ ts.length = 4 ∧ us.length = 4 ∧ OkStepG nStr okStr c cs (tkC ts c) (tkC us c) now sure
noncomputable def stepg_S : FunR RC stepg_St where
  k := 1
  args q := stepg_a q.c q.now q.sure q.cs q.ts q.us q.busy
  objs q := stepg_o q.c q.now q.sure q.cs q.ts q.us q.busy
  fin q := stepg_fin q.c q.now q.sure q.cs q.ts q.us q.busy
  Inv q := stepg_Inv q.c q.now q.sure q.cs q.ts q.us q.busy
theorem stepg_ok (c : Int) (now : List Sector) (sure : List Sector) (cs : List Int) (ts : List Task) (us : List Task) (busy : List Bool) (hI : stepg_Inv c now sure cs ts us busy) : Leaf (stepg_r c now sure cs ts us busy) (LedF stepg_S ⟨c, now, sure, cs, ts, us, busy⟩) := by
  (rw [stepg_eq]; conv => zeta)
  unfold stepg_Inv at hI
  obtain ⟨c0, c3, lt, lu, hS⟩ := hI
  have hc : decide ((0 : Int) ≤ c ∧ c < 4) = true := decide_eq_true ⟨c0, by omega⟩
  have hset : ∀ T' d : Task, (ts.set c.toNat T').getD c.toNat d = T' := fun T' d => by
    rw [List.getD_eq_getElem?_getD, List.getElem?_set_self (by omega)]; rfl
  have hset' : ∀ T' d : Task, (us.set c.toNat T').getD c.toNat d = T' := fun T' d => by
    rw [List.getD_eq_getElem?_getD, List.getElem?_set_self (by omega)]; rfl
  have hk : ∀ T' : Task, tkC (ts.set c.toNat T') c = T' := fun T' => hset T' _
  have hk' : ∀ T' : Task, tkC (us.set c.toNat T') c = T' := fun T' => hset' T' _
  have lts : ∀ T' : Task, (ts.set c.toNat T').length = 4 := fun T' => by rw [List.length_set]; exact lt
  have lus : ∀ T' : Task, (us.set c.toNat T').length = 4 := fun T' => by rw [List.length_set]; exact lu
  have ht : tkC ts c = ts.getD c.toNat ⟨0, [], [], false⟩ := rfl
  have hu : tkC us c = us.getD c.toNat ⟨0, [], [], false⟩ := rfl
  have hfin : ∀ t u, tkC ts c = t → tkC us c = u → stepg_fin c now sure cs ts us busy = .leaf .ret [(0, .tup (.acons (.sl (C := RC) .int (bif (goT nStr false (gmT nStr false (gmX nStr cs t) t)).is then true else (goT nStr false (gmT nStr false (gmX nStr cs t) t)).gf) (bif (goT nStr false (gmT nStr false (gmX nStr cs t) t)).is then [] else (goT nStr false (gmT nStr false (gmX nStr cs t) t)).got)) (.acons (.bool (!(goT nStr false (gmT nStr false (gmX nStr cs t) t)).is)) (.acons (.bool true) .anil))))] (stepg_o c now sure (gmCs nStr cs t) (ts.set c.toNat (gmT nStr false (gmX nStr cs t) t)) (us.set c.toNat (gmT nStr true (gmX nStr cs t) u)) (bif (goT nStr false (gmT nStr false (gmX nStr cs t) t)).is then busy else busy.set c.toNat false)) := fun t u ht hu => by
    unfold stepg_fin; rw [ht, hu]
  simp only [hset, hset', hk, hk', lts, lus]
  generalize ts.getD c.toNat ⟨0, [], [], false⟩ = t at ht ⊢
  generalize us.getD c.toNat ⟨0, [], [], false⟩ = u at hu ⊢
  have hfin := hfin t u ht hu
  rw [ht, hu] at hS
  obtain ⟨⟨ta, tb, is, eg, eh⟩, isA, la, lb, tx, hd, hg, hcs, d1, d2, d3, e2⟩ := hS
  have k1 : cdec (0 ≤ t.client ∧ t.client ≤ 3 ∧ t.over = decide (t.stack = []) ∧ (t.stack = [] → True) ∧ okGo false 64 t.stack t.got) = true := cdec_true ⟨by rw [ta.ct]; exact c0, by rw [ta.ct]; exact c3, by rw [ta.ot]; exact (decide_eq_false ta.ne).symm, fun _ => trivial, ta.a1⟩
  have k2 : cdec (0 ≤ u.client ∧ u.client ≤ 3 ∧ u.over = decide (u.stack = []) ∧ (u.stack = [] → True) ∧ okGo true 64 u.stack u.got) = true := cdec_true ⟨by rw [tb.ct]; exact c0, by rw [tb.ct]; exact c3, by rw [tb.ot]; exact (decide_eq_false tb.ne).symm, fun _ => trivial, tb.a1⟩
  have gA : goGo false 64 t.stack t.got false = goT nStr false t := rfl
  have gB : goGo true 64 u.stack u.got false = goT nStr true u := rfl
  have aeta : ∀ a : Action, Action.mk a.kind a.a a.b a.v a.gen a.text a.args = a := fun _ => rfl
  have isB : (goT nStr true u).is = true := is.symm.trans isA
  obtain ⟨g1, g2⟩ := eg isA
  have nA : (goT nStr false t).st ≠ [] := goN_st isA
  have nB : (goT nStr true u).st ≠ [] := goN_st isB
  have p1 : 1 ≤ (goT nStr false t).st.length := List.length_pos_iff.2 nA
  have p2 : 1 ≤ (goT nStr true u).st.length := List.length_pos_iff.2 nB
  have o1 : cdec ((goT nStr false t).a.text = [] ∧ (goT nStr false t).a.args = [] ∧ OkDo4 cs (goT nStr false t).a.kind (goT nStr false t).a.a (goT nStr false t).a.b (goT nStr false t).a.v) = true := cdec_true ⟨tx.1, tx.2, hd⟩
  have o2 : decide (0 ≤ (goT nStr false t).a.gen) = true := decide_eq_true hg
  have q1 : decide (0 ≤ t.client ∧ t.client ≤ 3 ∧ (goT nStr false t).got.length ≤ 96 ∧ 1 ≤ (goT nStr false t).st.length ∧ (goT nStr false t).st.length ≤ 6) = true := decide_eq_true ⟨by rw [ta.ct]; exact c0, by rw [ta.ct]; exact c3, la.2, p1, la.1⟩
  have q2 : decide (0 ≤ u.client ∧ u.client ≤ 3 ∧ (goT nStr true u).got.length ≤ 96 ∧ 1 ≤ (goT nStr true u).st.length ∧ (goT nStr true u).st.length ≤ 6) = true := decide_eq_true ⟨by rw [tb.ct]; exact c0, by rw [tb.ct]; exact c3, lb.2, p2, lb.1⟩
  have q3 : decide ((goT nStr false t).st = []) = false := decide_eq_false nA
  have q4 : decide ((goT nStr true u).st = []) = false := decide_eq_false nB
  have l1 : lenOK (goT nStr false t).a.args.length = true := lenOK_of (by omega)
  have q0 : (!(true == true)) = false := rfl
  have e2' : cdec (0 ≤ c ∧ c ≤ 3 ∧ True ∧ True ∧ OkEnd nStr okStr c ⟨t.client, (goT nStr false t).st, [gmX nStr cs t], false⟩ ⟨u.client, (goT nStr true u).st, [gmX nStr cs t], false⟩) = true := cdec_true ⟨c0, c3, trivial, trivial, by
    have e2 := e2
    unfold gmT at e2
    rw [q3, q4] at e2
    exact e2⟩
  have hX : doG4 cs (goT nStr false t).a.kind (goT nStr false t).a.a (goT nStr false t).a.b = gmX nStr cs t := rfl
  simp only [hc, k1, k2, gA, gB, aeta, cond_true]
  simp only [← g1, isA, isB, o1, o2, q1, q2, q3, q4, l1, q0, hcs, d1, d2, d3, hX, decide_true, Bool.and_self, Bool.not_true, Bool.not_false, cond_true, cond_false]
  simp only [e2', cond_true]
  have m1 : gmT nStr false (gmX nStr cs t) t = ⟨t.client, (goT nStr false t).st, [gmX nStr cs t], false⟩ := by unfold gmT; rw [q3]
  have m2 : gmT nStr true (gmX nStr cs t) u = ⟨u.client, (goT nStr true u).st, [gmX nStr cs t], false⟩ := by unfold gmT; rw [q4]
  rw [m1, m2] at hfin
  refine leafF (S := stepg_S) (s := ⟨c, now, sure, cs, ts, us, busy⟩) (stepg_o c now sure (gmCs nStr cs t) (ts.set c.toNat ⟨t.client, (goT nStr false t).st, [gmX nStr cs t], false⟩) (us.set c.toNat ⟨u.client, (goT nStr true u).st, [gmX nStr cs t], false⟩) (bif (goT nStr false ⟨t.client, (goT nStr false t).st, [gmX nStr cs t], false⟩).is then busy else busy.set c.toNat false)) ?_ rfl
  show (stepg_fin c now sure cs ts us busy).val = _
  rw [hfin]
  rfl
noncomputable def stepg_d (env : Env RC) (os : List (Obj RC)) : Option (Bool × stepg_St) := match env, os with
  | [(0, .ptr 0 []), (1, .int .i64 c)], [.var 52 (.acons (.acons (.sl .int false cs) (.acons (.acons (.sl .sector false now) (.acons (.sl .sector false sure) .anil)) .anil)) (.acons (.arr .task 4 ts) (.acons (.arr .task 4 us) (.acons (.arr .bool 4 busy) .anil))))] => staticD (true) (cdec (0 ≤ c ∧ c ≤ 3 ∧ ts.length = 4 ∧ us.length = 4 ∧ OkStepG nStr okStr c cs (tkC ts c) (tkC us c) now sure), ⟨c, now, sure, cs, ts, us, busy⟩)
  | _, _ => none
noncomputable def uj_2 := uj_1.addObj 29 (sumF s19 [.slot 0 0] 2 stepg_S stepg_d)
theorem uj_2_laws : FLaws Tryz.prog s19 uj_2 := by
  refine uj_1_laws.addFun s19_laws stepg_S 80 2 [.slot 0 0] stepg_d (fun q hI => ?_) ?_
  · obtain ⟨c, now, sure, cs, ts, us, busy⟩ := q
    refine ⟨?_, ?_, rfl, stepg_ok c now sure cs ts us busy hI⟩
    · simp [RefsOK, stepg_S, stepg_a, stepg_o, eargs, D.refs, Obj.refs]
    · simp [stepg_S, stepg_fin, stepg_o, RT.refsOK, RefsOK, D.refs, Obj.refs]
  · intro env os b q hd_ hb
    unfold stepg_d at hd_
    split at hd_
    · obtain ⟨hs, hd_⟩ := staticD_some hd_
      cases hd_
      try simp only [Bool.and_eq_true, decide_eq_true_eq] at hb
      exact ⟨cdec_iff.1 hb, rfl, rfl⟩
    · cases hd_
def TyS (n a v : Int) : Prop := 0 ≤ v ∧ (a ≤ 47 → v ≤ n) ∧ (48 ≤ a → a ≤ 50 → v ≤ 1048575) ∧ (51 ≤ a → v ≤ bigW)
def AtS (n : Int) (A : Action) : Prop := A.gen = 0 ∧ A.text = [] ∧ A.args = [] ∧ 45 ≤ A.a ∧ A.a ≤ 98 ∧ (A.kind = 0 ∧ A.b = 0 ∧ A.v = 0 ∨ A.kind = 2 ∧ 0 ≤ A.b ∧ A.b ≤ bigW ∧ TyS (n + 1) A.a A.v)
def RsS (n : Int) (A : Action) (x : Int) : Prop := A.kind = 0 ∧ TyS n A.a x ∨ A.kind = 2 ∧ (x = 0 ∨ x = 1)
theorem TyS.big {n a v : Int} (h : TyS n a v) (h1 : 45 ≤ a) (h2 : n ≤ 1000000) : 0 ≤ v ∧ v ≤ bigW := by
  obtain ⟨a1, a2, a3, a4⟩ := h
  unfold bigW at *
  refine ⟨a1, ?_⟩
  by_cases q : a ≤ 47
  · have := a2 q; omega
  · by_cases q2 : a ≤ 50
    · have := a3 (by omega) q2; omega
    · exact a4 (by omega)
theorem RsS.big {n : Int} {A : Action} {x : Int} (h : RsS n A x) (h1 : 45 ≤ A.a) (h2 : n ≤ 1000000) : 0 ≤ x ∧ x ≤ bigW := by
  rcases h with ⟨_, h⟩ | ⟨_, h⟩
  · exact h.big h1 h2
  · unfold bigW; omega
def bnd (r : List Int) : Prop := r.length = 96 ∧ ∀ v ∈ r, v < 9223372036854775808
theorem bnd.set {r : List Int} (h : bnd r) (i : Nat) {x : Int} (hx : x ≤ bigW) : bnd (r.set i x) := by
  refine ⟨by rw [List.length_set]; exact h.1, fun v hv => ?_⟩
  rcases List.mem_or_eq_of_mem_set hv with hv | rfl
  · exact h.2 v hv
  · unfold bigW at hx; omega
def K76 (n k : Int) (r got : List Int) : Prop := k = 0 ∧ got = [] ∨ ∃ x, got = [x] ∧ 1 ≤ k ∧ k ≤ 8 ∧ 0 ≤ x ∧ x ≤ bigW ∧ (k = 1 → x ≤ n) ∧ (k = 5 → x ≤ 1048575) ∧ (2 ≤ k → 0 ≤ r.getD 4 0 ∧ r.getD 4 0 ≤ n) ∧ (3 ≤ k → 0 ≤ r.getD 5 0 ∧ r.getD 5 0 ≤ bigW)
def R76 (n k : Int) (r got : List Int) : Prop := bnd r ∧ (0 ≤ r.getD 2 0 ∧ r.getD 2 0 ≤ 23) ∧ K76 n k r got
theorem R76.mk {n k x : Int} {r : List Int} (hb : bnd r) (hq : 0 ≤ r.getD 2 0 ∧ r.getD 2 0 ≤ 23) (k1 : 1 ≤ k) (k8 : k ≤ 8) (hx : 0 ≤ x ∧ x ≤ bigW) (c1 : k = 1 → x ≤ n) (c5 : k = 5 → x ≤ 1048575)
    (c2 : 2 ≤ k → 0 ≤ r.getD 4 0 ∧ r.getD 4 0 ≤ n) (c3 : 3 ≤ k → 0 ≤ r.getD 5 0 ∧ r.getD 5 0 ≤ bigW) : R76 n k r [x] := ⟨hb, hq, .inr ⟨x, rfl, k1, k8, hx.1, hx.2, c1, c5, c2, c3⟩⟩
theorem R76.ok {n k : Int} {r got : List Int} (h : R76 n k r got) (hn : n ≤ 1000000) (own : Bool) : okStr own ⟨76, k, r⟩ got := by
  obtain ⟨⟨h1, h2⟩, h3, h4⟩ := h
  refine ⟨h1, h2, .inl ⟨rfl, h3.1, h3.2, ?_⟩⟩
  rcases h4 with h | ⟨x, e, a1, a2, a3, a4, a5, a6, a7, a8⟩
  · exact .inl h
  · exact .inr ⟨x, e, a1, a2, a3, a4, fun q => by have := a5 q; omega, fun q => by have q : 2 ≤ k := q; have := a7 q; exact ⟨this.1, by show r.getD 4 0 ≤ 1000000; omega⟩, a8⟩
theorem R76.mono {n n' k : Int} {r got : List Int} (h : R76 n k r got) (hn : n ≤ n') : R76 n' k r got := by
  obtain ⟨h1, h3, h4⟩ := h
  refine ⟨h1, h3, ?_⟩
  rcases h4 with h | ⟨x, e, a1, a2, a3, a4, a5, a6, a7, a8⟩
  · exact .inl h
  · exact .inr ⟨x, e, a1, a2, a3, a4, fun q => by have := a5 q; omega, a6, fun q => by have := a7 q; omega, a8⟩
theorem lRow_in {f q m : Int} (h0 : 0 ≤ q) (h1 : q < m) : lRow f q m = f + q := by rw [lRow, if_pos ⟨h0, h1⟩]
theorem lStream_in {q o : Int} (h0 : 0 ≤ q) (h1 : q ≤ 2) (h2 : 0 ≤ o) : 51 ≤ lStream q o ∧ lStream q o ≤ 98 := by
  rw [lStream, if_pos ⟨h0, h1, h2⟩]
  have := Int.emod_nonneg o (show (16 : Int) ≠ 0 by decide)
  have := Int.emod_lt_of_pos o (show (0 : Int) < 16 by decide)
  omega
theorem readO_place (w : Int) : 0 ≤ (readO w).place ∧ (readO w).place ≤ 1048575 := by
  unfold readO
  cases h : readW w with
  | none => exact ⟨Int.le_refl _, by decide⟩
  | some l =>
    have := (readW_some h).1
    unfold mayLn at this
    rw [decide_eq_true_eq] at this
    simp only [Option.getD_some]
    omega
def GoS (n : Int) (R : Int → List Int → List Int → Prop) (p : Int) (N : NA) : Prop :=
  (N.a.kind = 7 ∧ N = naEn p N.f.at' N.f.r N.a.args N.fl) ∨ (AtS n N.a ∧ N.fl = true ∧ N.f.prog = p ∧ ∀ x, RsS n N.a x → R N.f.at' N.f.r [x])
theorem app_step {n k : Int} {r got : List Int} (h : R76 n k r got) (hn0 : 0 ≤ n) (hn : n ≤ 1000000) : GoS n (R76 n) 76 (nApp k r (got.headD 0)) ∧ ((nApp k r (got.headD 0)).a.kind = 7 → (nApp k r (got.headD 0)).a.args = []) := by
  obtain ⟨hb, hq, hK⟩ := h
  have hs0 : 0 ≤ sQ r := by unfold sQ; omega
  have hs2 : sQ r ≤ 2 := by unfold sQ; omega
  have cntA : lRow 45 (sQ r) 3 = 45 + sQ r := lRow_in hs0 (by omega)
  have cutA : lRow 48 (sQ r) 3 = 48 + sQ r := lRow_in hs0 (by omega)
  -- the actions
  have cnt : GoS n (R76 n) 76 (aCnt r) := by
    refine .inr ⟨⟨rfl, rfl, rfl, ?_, ?_, .inl ⟨rfl, rfl, rfl⟩⟩, rfl, rfl, fun x hx => ?_⟩
    · show 45 ≤ lRow 45 (sQ r) 3; omega
    · show lRow 45 (sQ r) 3 ≤ 98; omega
    · have hx1 := hx.big (by show 45 ≤ lRow 45 (sQ r) 3; omega) hn
      refine (R76.mk hb hq (by decide) (by decide) hx1 (fun _ => ?_) (fun q => by cases q) (fun q => absurd q (by decide)) (fun q => absurd q (by decide)) : R76 n 1 r [x])
      rcases hx with ⟨_, hx⟩ | ⟨q, _⟩
      · exact hx.2.1 (by show lRow 45 (sQ r) 3 ≤ 47; omega)
      · cases q
  have put : ∀ (h4 : 0 ≤ r.getD 4 0 ∧ r.getD 4 0 ≤ n) (h5 : 0 ≤ r.getD 5 0 ∧ r.getD 5 0 ≤ bigW), GoS n (R76 n) 76 (aPut r) := fun h4 h5 => by
    have hl := lStream_in hs0 hs2 h4.1
    have hw := wordO_range ⟨r.getD 4 0, r.getD 0 0, r.getD 1 0, r.getD 2 0 % 8, r.getD 3 0⟩
    refine .inr ⟨⟨rfl, rfl, rfl, ?_, ?_, .inr ⟨rfl, h5.1, h5.2, hw.1, fun q => ?_, fun _ q => ?_, fun _ => hw.2⟩⟩, rfl, rfl, fun x hx => ?_⟩
    · show 45 ≤ lStream (sQ r) (r.getD 4 0); omega
    · show lStream (sQ r) (r.getD 4 0) ≤ 98; omega
    · have q : lStream (sQ r) (r.getD 4 0) ≤ 47 := q; omega
    · have q : lStream (sQ r) (r.getD 4 0) ≤ 50 := q; omega
    · have hx1 := hx.big (by show 45 ≤ lStream (sQ r) (r.getD 4 0); omega) hn
      exact (R76.mk hb hq (by decide) (by decide) hx1 (fun q => by cases q) (fun q => by cases q) (fun _ => h4) (fun _ => h5) : R76 n 6 r [x])
  have cut : ∀ (h4 : 0 ≤ r.getD 4 0 ∧ r.getD 4 0 ≤ n) (h5 : 0 ≤ r.getD 5 0 ∧ r.getD 5 0 ≤ bigW), GoS n (R76 n) 76 (aCut r) := fun h4 h5 => by
    refine .inr ⟨⟨rfl, rfl, rfl, ?_, ?_, .inl ⟨rfl, rfl, rfl⟩⟩, rfl, rfl, fun x hx => ?_⟩
    · show 45 ≤ lRow 48 (sQ r) 3; omega
    · show lRow 48 (sQ r) 3 ≤ 98; omega
    · have hx1 := hx.big (by show 45 ≤ lRow 48 (sQ r) 3; omega) hn
      refine (R76.mk hb hq (by decide) (by decide) hx1 (fun q => by cases q) (fun _ => ?_) (fun _ => h4) (fun _ => h5) : R76 n 5 r [x])
      rcases hx with ⟨_, hx⟩ | ⟨q, _⟩
      · exact hx.2.2.1 (by show 48 ≤ lRow 48 (sQ r) 3; omega) (by show lRow 48 (sQ r) 3 ≤ 50; omega)
      · cases q
  have on : ∀ (m : Int) (hm : m = 3 ∨ m = 7) (h4 : 0 ≤ r.getD 4 0 ∧ r.getD 4 0 ≤ n) (h5 : 0 ≤ r.getD 5 0 ∧ r.getD 5 0 ≤ bigW), GoS n (R76 n) 76 (aOn m r) := fun m hm h4 h5 => by
    refine .inr ⟨⟨rfl, rfl, rfl, ?_, ?_, .inr ⟨rfl, h4.1, by show r.getD 4 0 ≤ bigW; unfold bigW; omega, ?_, fun _ => ?_, fun q => ?_, fun q => ?_⟩⟩, rfl, rfl, fun x hx => ?_⟩
    · show 45 ≤ lRow 45 (sQ r) 3; omega
    · show lRow 45 (sQ r) 3 ≤ 98; omega
    · show 0 ≤ r.getD 4 0 + 1; omega
    · show r.getD 4 0 + 1 ≤ n + 1; omega
    · have q : 48 ≤ lRow 45 (sQ r) 3 := q; omega
    · have q : 51 ≤ lRow 45 (sQ r) 3 := q; omega
    · have hx1 := hx.big (by show 45 ≤ lRow 45 (sQ r) 3; omega) hn
      exact (R76.mk hb hq (by show 1 ≤ m; omega) (by show m ≤ 8; omega) hx1 (fun q => by have q : m = 1 := q; omega) (fun q => by have q : m = 5 := q; omega) (fun _ => h4) (fun _ => h5) : R76 n m r [x])
  have en : ∀ k', GoS n (R76 n) 76 (naEn 76 k' r [] true) := fun k' => .inl ⟨rfl, rfl⟩
  have kk : ∀ N : NA, N.a.kind ≠ 7 → (N.a.kind = 7 → N.a.args = []) := fun N h1 h2 => absurd h2 h1
  rcases hK with ⟨rfl, rfl⟩ | ⟨x, rfl, k1, k8, x0, x1, y1, y5, y2, y3⟩
  · exact ⟨cnt, fun q => by cases q⟩
  simp only [List.headD_cons]
  have ks : k = 1 ∨ k = 2 ∨ k = 3 ∨ k = 4 ∨ k = 5 ∨ k = 6 ∨ k = 7 ∨ k = 8 := by omega
  rcases ks with rfl | rfl | rfl | rfl | rfl | rfl | rfl | rfl
  · have e : nApp 1 r x = naLd 76 2 (r.set 4 x) (lStream (sQ r) x) 0 := rfl
    have hl := lStream_in hs0 hs2 x0
    rw [e]
    refine ⟨.inr ⟨⟨rfl, rfl, rfl, ?_, ?_, .inl ⟨rfl, rfl, rfl⟩⟩, rfl, rfl, fun y hy => ?_⟩, fun q => by cases q⟩
    · show 45 ≤ lStream (sQ r) x; omega
    · show lStream (sQ r) x ≤ 98; omega
    · have hy1 := hy.big (by show 45 ≤ lStream (sQ r) x; omega) hn
      refine (R76.mk (hb.set 4 x1) ?_ (by decide) (by decide) hy1 (fun q => by cases q) (fun q => by cases q) (fun _ => ?_) (fun q => absurd q (by decide)) : R76 n 2 (r.set 4 x) [y])
      · show 0 ≤ (r.set 4 x).getD 2 0 ∧ (r.set 4 x).getD 2 0 ≤ 23
        rw [getD_set_ne' (by decide)]; exact hq
      · show 0 ≤ (r.set 4 x).getD 4 0 ∧ (r.set 4 x).getD 4 0 ≤ n
        rw [getD_set_eq (by rw [hb.1]; decide)]; exact ⟨x0, y1 rfl⟩
  · have h4 := y2 (by decide)
    have e : nApp 2 r x = if (readW x).isSome = true ∧ (readO x).offset = r.getD 4 0 then aOn 3 (r.set 5 x) else if r.getD 4 0 = 0 then aPut (r.set 5 x) else naLd 76 4 (r.set 5 x) (lStream (sQ r) (r.getD 4 0 - 1)) 0 := rfl
    have g2 : (r.set 5 x).getD 2 0 = r.getD 2 0 := getD_set_ne' (by decide)
    have g4 : (r.set 5 x).getD 4 0 = r.getD 4 0 := getD_set_ne' (by decide)
    have g5 : (r.set 5 x).getD 5 0 = x := getD_set_eq (by rw [hb.1]; decide)
    have gs : sQ (r.set 5 x) = sQ r := by unfold sQ; rw [g2]
    have hb5 := hb.set 5 x1
    rw [e]
    split
    · -- COUNT is raised
      refine ⟨.inr ⟨⟨rfl, rfl, rfl, ?_, ?_, .inr ⟨rfl, ?_, ?_, ?_, fun _ => ?_, fun q => ?_, fun q => ?_⟩⟩, rfl, rfl, fun y hy => ?_⟩, fun q => by cases q⟩
      · show 45 ≤ lRow 45 (sQ (r.set 5 x)) 3; rw [gs]; omega
      · show lRow 45 (sQ (r.set 5 x)) 3 ≤ 98; rw [gs]; omega
      · show 0 ≤ (r.set 5 x).getD 4 0; rw [g4]; exact h4.1
      · show (r.set 5 x).getD 4 0 ≤ bigW; rw [g4]; unfold bigW; omega
      · show 0 ≤ (r.set 5 x).getD 4 0 + 1; rw [g4]; omega
      · show (r.set 5 x).getD 4 0 + 1 ≤ n + 1; rw [g4]; omega
      · have q : 48 ≤ lRow 45 (sQ (r.set 5 x)) 3 := q; rw [gs] at q; omega
      · have q : 51 ≤ lRow 45 (sQ (r.set 5 x)) 3 := q; rw [gs] at q; omega
      · have hy1 := hy.big (by show 45 ≤ lRow 45 (sQ (r.set 5 x)) 3; rw [gs]; omega) hn
        refine (R76.mk hb5 ?_ (by decide) (by decide) hy1 (fun q => by cases q) (fun q => by cases q) (fun _ => ?_) (fun _ => ?_) : R76 n 3 (r.set 5 x) [y])
        · show 0 ≤ (r.set 5 x).getD 2 0 ∧ (r.set 5 x).getD 2 0 ≤ 23; rw [g2]; exact hq
        · show 0 ≤ (r.set 5 x).getD 4 0 ∧ (r.set 5 x).getD 4 0 ≤ n; rw [g4]; exact h4
        · show 0 ≤ (r.set 5 x).getD 5 0 ∧ (r.set 5 x).getD 5 0 ≤ bigW; rw [g5]; exact ⟨x0, x1⟩
    · split
      · -- put
        have hl := lStream_in hs0 hs2 h4.1
        have hw := wordO_range ⟨(r.set 5 x).getD 4 0, (r.set 5 x).getD 0 0, (r.set 5 x).getD 1 0, (r.set 5 x).getD 2 0 % 8, (r.set 5 x).getD 3 0⟩
        refine ⟨.inr ⟨⟨rfl, rfl, rfl, ?_, ?_, .inr ⟨rfl, ?_, ?_, hw.1, fun q => ?_, fun _ q => ?_, fun _ => hw.2⟩⟩, rfl, rfl, fun y hy => ?_⟩, fun q => by cases q⟩
        · show 45 ≤ lStream (sQ (r.set 5 x)) ((r.set 5 x).getD 4 0); rw [gs, g4]; omega
        · show lStream (sQ (r.set 5 x)) ((r.set 5 x).getD 4 0) ≤ 98; rw [gs, g4]; omega
        · show 0 ≤ (r.set 5 x).getD 5 0; rw [g5]; exact x0
        · show (r.set 5 x).getD 5 0 ≤ bigW; rw [g5]; exact x1
        · have q : lStream (sQ (r.set 5 x)) ((r.set 5 x).getD 4 0) ≤ 47 := q; rw [gs, g4] at q; omega
        · have q : lStream (sQ (r.set 5 x)) ((r.set 5 x).getD 4 0) ≤ 50 := q; rw [gs, g4] at q; omega
        · have hy1 := hy.big (by show 45 ≤ lStream (sQ (r.set 5 x)) ((r.set 5 x).getD 4 0); rw [gs, g4]; omega) hn
          refine (R76.mk hb5 ?_ (by decide) (by decide) hy1 (fun q => by cases q) (fun q => by cases q) (fun _ => ?_) (fun _ => ?_) : R76 n 6 (r.set 5 x) [y])
          · show 0 ≤ (r.set 5 x).getD 2 0 ∧ (r.set 5 x).getD 2 0 ≤ 23; rw [g2]; exact hq
          · show 0 ≤ (r.set 5 x).getD 4 0 ∧ (r.set 5 x).getD 4 0 ≤ n; rw [g4]; exact h4
          · show 0 ≤ (r.set 5 x).getD 5 0 ∧ (r.set 5 x).getD 5 0 ≤ bigW; rw [g5]; exact ⟨x0, x1⟩
      · rename_i hz
        have hl := lStream_in hs0 hs2 (show 0 ≤ r.getD 4 0 - 1 by omega)
        refine ⟨.inr ⟨⟨rfl, rfl, rfl, ?_, ?_, .inl ⟨rfl, rfl, rfl⟩⟩, rfl, rfl, fun y hy => ?_⟩, fun q => by cases q⟩
        · show 45 ≤ lStream (sQ r) (r.getD 4 0 - 1); omega
        · show lStream (sQ r) (r.getD 4 0 - 1) ≤ 98; omega
        · have hy1 := hy.big (by show 45 ≤ lStream (sQ r) (r.getD 4 0 - 1); omega) hn
          refine (R76.mk hb5 ?_ (by decide) (by decide) hy1 (fun q => by cases q) (fun q => by cases q) (fun _ => ?_) (fun _ => ?_) : R76 n 4 (r.set 5 x) [y])
          · show 0 ≤ (r.set 5 x).getD 2 0 ∧ (r.set 5 x).getD 2 0 ≤ 23; rw [g2]; exact hq
          · show 0 ≤ (r.set 5 x).getD 4 0 ∧ (r.set 5 x).getD 4 0 ≤ n; rw [g4]; exact h4
          · show 0 ≤ (r.set 5 x).getD 5 0 ∧ (r.set 5 x).getD 5 0 ≤ bigW; rw [g5]; exact ⟨x0, x1⟩
  · exact ⟨cnt, fun q => by cases q⟩
  · have h4 := y2 (by decide)
    have h5 := y3 (by decide)
    have e : nApp 4 r x = if r.getD 0 0 < (readO x).place ∨ (readO x).place = r.getD 0 0 ∧ r.getD 1 0 ≤ (readO x).j then naEn 76 4 r [] true
          else if (readW x).isSome = false ∨ (readO x).offset ≠ r.getD 4 0 - 1 then aCnt r else if r.getD 5 0 = 0 then aPut r else aCut r := rfl
    rw [e]
    split
    · exact ⟨en 4, fun _ => rfl⟩
    · split
      · exact ⟨cnt, fun q => by cases q⟩
      · split
        · exact ⟨put h4 h5, fun q => by cases q⟩
        · exact ⟨cut h4 h5, fun q => by cases q⟩
  · have h4 := y2 (by decide)
    have h5 := y3 (by decide)
    have e : nApp 5 r x = if x < (readO (r.getD 5 0)).place then naCs 76 8 r (lRow 48 (sQ r) 3) x (readO (r.getD 5 0)).place 0 else aPut r := rfl
    rw [e]
    split
    · have hp := readO_place (r.getD 5 0)
      refine ⟨.inr ⟨⟨rfl, rfl, rfl, ?_, ?_, .inr ⟨rfl, x0, x1, hp.1, fun q => ?_, fun _ _ => hp.2, fun q => ?_⟩⟩, rfl, rfl, fun y hy => ?_⟩, fun q => by cases q⟩
      · show 45 ≤ lRow 48 (sQ r) 3; omega
      · show lRow 48 (sQ r) 3 ≤ 98; omega
      · have q : lRow 48 (sQ r) 3 ≤ 47 := q; omega
      · have q : 51 ≤ lRow 48 (sQ r) 3 := q; omega
      · have hy1 := hy.big (by show 45 ≤ lRow 48 (sQ r) 3; omega) hn
        exact (R76.mk hb hq (by decide) (by decide) hy1 (fun q => by cases q) (fun q => by cases q) (fun _ => h4) (fun _ => h5) : R76 n 8 r [y])
    · exact ⟨put h4 h5, fun q => by cases q⟩
  · have h4 := y2 (by decide)
    have h5 := y3 (by decide)
    have e : nApp 6 r x = if x = 0 then aCnt r else aOn 7 r := rfl
    rw [e]
    split
    · exact ⟨cnt, fun q => by cases q⟩
    · exact ⟨on 7 (.inr rfl) h4 h5, fun q => by cases q⟩
  · exact ⟨en 7, fun _ => rfl⟩
  · have h4 := y2 (by decide)
    have h5 := y3 (by decide)
    exact ⟨cut h4 h5, fun q => by cases q⟩
def Wds (m : Nat) (r q : List Int) : Prop := ∀ j, j < m → r.getD (5 + j) 0 = q.getD (6 + j) 0
def K77 (n k : Int) (r q got : List Int) : Prop := k = 0 ∧ got = [] ∨ ∃ x, got = [x] ∧ 1 ≤ k ∧ k ≤ 4 ∧ 0 ≤ x ∧ x ≤ bigW ∧ (k = 1 → x ≤ n) ∧
  (k = 2 → ∃ i m : Nat, m ≤ 15 ∧ (i : Int) + m + 1 ≤ n ∧ r.getD 3 0 = i ∧ r.getD 4 0 = m ∧ q.getD 3 0 = i + m + 1 ∧ q.getD 4 0 = i ∧ q.getD 5 0 = m ∧ Wds m r q) ∧
  (k = 3 → ∃ m : Nat, m ≤ 16 ∧ r.getD 4 0 = m ∧ q.getD 5 0 = m ∧ Wds m r q)
def R77 (n k : Int) (r q got : List Int) : Prop := bnd r ∧ bnd q ∧ (0 ≤ r.getD 0 0 ∧ r.getD 0 0 ≤ 2) ∧ (q.getD 0 0 = r.getD 0 0 ∧ q.getD 1 0 = r.getD 1 0 ∧ q.getD 2 0 = r.getD 2 0) ∧ K77 n k r q got
theorem R77.mono {n n' k : Int} {r q got : List Int} (h : R77 n k r q got) (hn : n ≤ n') : R77 n' k r q got := by
  obtain ⟨h1, h2, h3, h4, h5⟩ := h
  refine ⟨h1, h2, h3, h4, ?_⟩
  rcases h5 with h | ⟨x, e, a1, a2, a3, a4, a5, a6, a7⟩
  · exact .inl h
  · refine .inr ⟨x, e, a1, a2, a3, a4, fun q => by have := a5 q; omega, fun q => ?_, a7⟩
    obtain ⟨i, m, b1, b2, b⟩ := a6 q
    exact ⟨i, m, b1, by omega, b⟩
theorem R77.ok {n k : Int} {r q got : List Int} (h : R77 n k r q got) (hn : n ≤ 1000000) : okStr false ⟨77, k, r⟩ got ∧ okStr true ⟨77, k, q⟩ got := by
  obtain ⟨h1, h2, h3, ⟨e0, e1, e2⟩, h5⟩ := h
  refine ⟨⟨h1.1, h1.2, .inr ⟨rfl, h3.1, h3.2, ?_⟩⟩, ⟨h2.1, h2.2, .inr ⟨rfl, by show 0 ≤ q.getD 0 0; omega, by show q.getD 0 0 ≤ 2; omega, ?_⟩⟩⟩
  · rcases h5 with h | ⟨x, e, a1, a2, a3, a4, a5, a6, a7⟩
    · exact .inl h
    · refine .inr ⟨x, e, a1, a2, a3, a4, fun q => by have := a5 q; omega, fun q => ?_, fun q => ?_⟩
      · obtain ⟨i, m, b1, b2, b3, b4, b⟩ := a6 q
        show 0 ≤ r.getD 3 0 ∧ r.getD 3 0 ≤ 1000000 ∧ 0 ≤ r.getD 4 0 ∧ r.getD 4 0 ≤ 15
        omega
      · obtain ⟨m, b1, b2, b⟩ := a7 q
        show 0 ≤ r.getD 4 0 ∧ r.getD 4 0 ≤ 16
        omega
  · rcases h5 with h | ⟨x, e, a1, a2, a3, a4, a5, a6, a7⟩
    · exact .inl h
    · refine .inr ⟨x, e, a1, a2, a3, a4, fun q => by have := a5 q; omega, fun h => ?_, fun h => ?_⟩
      · obtain ⟨i, m, b1, b2, b3, b4, b5, b6, b7, b⟩ := a6 h
        show 0 ≤ q.getD 3 0 ∧ q.getD 3 0 ≤ 1000000 ∧ 0 ≤ q.getD 4 0 ∧ q.getD 4 0 ≤ 1000000 ∧ 0 ≤ q.getD 5 0 ∧ q.getD 5 0 ≤ 15
        omega
      · obtain ⟨m, b1, b2, b3, b⟩ := a7 h
        show 0 ≤ q.getD 5 0 ∧ q.getD 5 0 ≤ 16
        omega
def Go2 (n : Int) (A B : NA) : Prop := A.a = B.a ∧ A.f.at' = B.f.at' ∧ A.f.prog = 77 ∧ B.f.prog = 77 ∧ A.fl = B.fl ∧
  ((A.a.kind = 7 ∧ A.a.gen = 0 ∧ A.a.a = 0 ∧ A.a.b = 0 ∧ A.a.v = 0 ∧ A.a.text = [] ∧ A.a.args.length ≤ 17) ∨ (AtS n A.a ∧ A.fl = true ∧ ∀ x, RsS n A.a x → R77 n A.f.at' A.f.r B.f.r [x]))
theorem fe_cnt {n : Int} {r q : List Int} (hn : n ≤ 1000000) (h1 : bnd r) (h2 : bnd q) (h3 : 0 ≤ r.getD 0 0 ∧ r.getD 0 0 ≤ 2) (h4 : q.getD 0 0 = r.getD 0 0 ∧ q.getD 1 0 = r.getD 1 0 ∧ q.getD 2 0 = r.getD 2 0) : Go2 n (fCnt r) (fCnt q) := by
  have e : lRow 45 (r.getD 0 0) 3 = 45 + r.getD 0 0 := lRow_in h3.1 (by omega)
  refine ⟨by unfold fCnt; rw [h4.1]; rfl, rfl, rfl, rfl, rfl, .inr ⟨⟨rfl, rfl, rfl, ?_, ?_, .inl ⟨rfl, rfl, rfl⟩⟩, rfl, fun x hx => ?_⟩⟩
  · show 45 ≤ lRow 45 (r.getD 0 0) 3; omega
  · show lRow 45 (r.getD 0 0) 3 ≤ 98; omega
  · have hb := hx.big (by show 45 ≤ lRow 45 (r.getD 0 0) 3; omega) hn
    show R77 n 1 r q [x]
    refine ⟨h1, h2, h3, h4, .inr ⟨x, rfl, by decide, by decide, hb.1, hb.2, fun _ => ?_, fun h => absurd h (by decide), fun h => absurd h (by decide)⟩⟩
    rcases hx with ⟨_, hx⟩ | ⟨q, _⟩
    · exact hx.2.1 (by show lRow 45 (r.getD 0 0) 3 ≤ 47; omega)
    · cases q
theorem fe_cut {n : Int} {r q : List Int} (hn : n ≤ 1000000) (h1 : bnd r) (h2 : bnd q) (h3 : 0 ≤ r.getD 0 0 ∧ r.getD 0 0 ≤ 2) (h4 : q.getD 0 0 = r.getD 0 0 ∧ q.getD 1 0 = r.getD 1 0 ∧ q.getD 2 0 = r.getD 2 0)
    (h5 : ∃ m : Nat, m ≤ 16 ∧ r.getD 4 0 = m ∧ q.getD 5 0 = m ∧ Wds m r q) : Go2 n (fCut r) (fCut q) := by
  have e : lRow 48 (r.getD 0 0) 3 = 48 + r.getD 0 0 := lRow_in h3.1 (by omega)
  refine ⟨by unfold fCut; rw [h4.1]; rfl, rfl, rfl, rfl, rfl, .inr ⟨⟨rfl, rfl, rfl, ?_, ?_, .inl ⟨rfl, rfl, rfl⟩⟩, rfl, fun x hx => ?_⟩⟩
  · show 45 ≤ lRow 48 (r.getD 0 0) 3; omega
  · show lRow 48 (r.getD 0 0) 3 ≤ 98; omega
  · have hb := hx.big (by show 45 ≤ lRow 48 (r.getD 0 0) 3; omega) hn
    show R77 n 3 r q [x]
    exact ⟨h1, h2, h3, h4, .inr ⟨x, rfl, by decide, by decide, hb.1, hb.2, fun h => absurd h (by decide), fun h => absurd h (by decide), fun _ => h5⟩⟩
theorem fe_look {n : Int} {r q : List Int} (hn : n ≤ 1000000) (h1 : bnd r) (h2 : bnd q) (h3 : 0 ≤ r.getD 0 0 ∧ r.getD 0 0 ≤ 2) (h4 : q.getD 0 0 = r.getD 0 0 ∧ q.getD 1 0 = r.getD 1 0 ∧ q.getD 2 0 = r.getD 2 0)
    {i m : Nat} (b1 : m ≤ 15) (b2 : (i : Int) + m + 1 ≤ n) (b3 : r.getD 3 0 = i) (b4 : r.getD 4 0 = m) (b5 : q.getD 3 0 = i + m + 1) (b6 : q.getD 4 0 = i) (b7 : q.getD 5 0 = m) (b8 : Wds m r q) :
    Go2 n (naLd 77 2 r (lStream (r.getD 0 0) (r.getD 3 0)) 0) (naLd 77 2 q (lStream (q.getD 0 0) (q.getD 4 0)) 0) := by
  have hl := lStream_in h3.1 h3.2 (show (0 : Int) ≤ r.getD 3 0 by omega)
  refine ⟨by rw [h4.1, b6, b3]; rfl, rfl, rfl, rfl, rfl, .inr ⟨⟨rfl, rfl, rfl, ?_, ?_, .inl ⟨rfl, rfl, rfl⟩⟩, rfl, fun x hx => ?_⟩⟩
  · show 45 ≤ lStream (r.getD 0 0) (r.getD 3 0); omega
  · show lStream (r.getD 0 0) (r.getD 3 0) ≤ 98; omega
  · have hb := hx.big (by show 45 ≤ lStream (r.getD 0 0) (r.getD 3 0); omega) hn
    show R77 n 2 r q [x]
    exact ⟨h1, h2, h3, h4, .inr ⟨x, rfl, by decide, by decide, hb.1, hb.2, fun h => absurd h (by decide), fun _ => ⟨i, m, b1, b2, b3, b4, b5, b6, b7, b8⟩, fun h => absurd h (by decide)⟩⟩
theorem fe_step {n k : Int} {r q got : List Int} (h : R77 n k r q got) (hn0 : 0 ≤ n) (hn : n ≤ 1000000) : Go2 n (fA k r (got.headD 0)) (fB k q (got.headD 0)) := by
  obtain ⟨h1, h2, h3, h4, h5⟩ := h
  rcases h5 with ⟨rfl, rfl⟩ | ⟨x, rfl, k1, k4, x0, x1, y1, y2, y3⟩
  · exact fe_cnt hn h1 h2 h3 h4
  simp only [List.headD_cons]
  have ks : k = 1 ∨ k = 2 ∨ k = 3 ∨ k = 4 := by omega
  rcases ks with rfl | rfl | rfl | rfl
  · have hx := y1 rfl
    show Go2 n (fNxA ((r.set 3 (x - 1)).set 4 0)) (fNxB (((q.set 3 x).set 4 (x - 1)).set 5 0))
    have l1 := h1.1
    have l2 := h2.1
    have A3 : ((r.set 3 (x - 1)).set 4 0).getD 3 0 = x - 1 := by rw [getD_set_ne' (by decide), getD_set_eq (by omega)]
    have A4 : ((r.set 3 (x - 1)).set 4 0).getD 4 0 = 0 := getD_set_eq (by rw [List.length_set]; omega)
    have A0 : ∀ i, i < 3 → ((r.set 3 (x - 1)).set 4 0).getD i 0 = r.getD i 0 := fun i hi => by rw [getD_set_ne' (by omega), getD_set_ne' (by omega)]
    have B3 : (((q.set 3 x).set 4 (x - 1)).set 5 0).getD 3 0 = x := by rw [getD_set_ne' (by decide), getD_set_ne' (by decide), getD_set_eq (by omega)]
    have B4 : (((q.set 3 x).set 4 (x - 1)).set 5 0).getD 4 0 = x - 1 := by rw [getD_set_ne' (by decide), getD_set_eq (by rw [List.length_set]; omega)]
    have B5 : (((q.set 3 x).set 4 (x - 1)).set 5 0).getD 5 0 = 0 := getD_set_eq (by simp only [List.length_set]; omega)
    have B0 : ∀ i, i < 3 → (((q.set 3 x).set 4 (x - 1)).set 5 0).getD i 0 = q.getD i 0 := fun i hi => by rw [getD_set_ne' (by omega), getD_set_ne' (by omega), getD_set_ne' (by omega)]
    have a1 : bnd ((r.set 3 (x - 1)).set 4 0) := (h1.set 3 (by unfold bigW at *; omega)).set 4 (by decide)
    have a2 : bnd (((q.set 3 x).set 4 (x - 1)).set 5 0) := ((h2.set 3 x1).set 4 (by unfold bigW at *; omega)).set 5 (by decide)
    have a3 : 0 ≤ ((r.set 3 (x - 1)).set 4 0).getD 0 0 ∧ ((r.set 3 (x - 1)).set 4 0).getD 0 0 ≤ 2 := by rw [A0 0 (by decide)]; exact h3
    have a4 : (((q.set 3 x).set 4 (x - 1)).set 5 0).getD 0 0 = ((r.set 3 (x - 1)).set 4 0).getD 0 0 ∧ (((q.set 3 x).set 4 (x - 1)).set 5 0).getD 1 0 = ((r.set 3 (x - 1)).set 4 0).getD 1 0 ∧ (((q.set 3 x).set 4 (x - 1)).set 5 0).getD 2 0 = ((r.set 3 (x - 1)).set 4 0).getD 2 0 := by
      rw [A0 0 (by decide), A0 1 (by decide), A0 2 (by decide), B0 0 (by decide), B0 1 (by decide), B0 2 (by decide)]; exact h4
    generalize ((r.set 3 (x - 1)).set 4 0) = R at *
    generalize (((q.set 3 x).set 4 (x - 1)).set 5 0) = Q at *
    unfold fNxA fNxB
    by_cases z : x = 0
    · rw [if_pos (.inl (by omega)), if_neg (fun c => by omega)]
      exact fe_cut hn a1 a2 a3 a4 ⟨0, by decide, A4, B5, fun j hj => by omega⟩
    · rw [if_neg (fun c => by omega), if_pos ⟨by omega, by omega⟩]
      exact fe_look hn a1 a2 a3 a4 (i := (x - 1).toNat) (m := 0) (by decide) (by omega) (by omega) A4 (by omega) (by omega) B5 (fun j hj => by omega)
  · obtain ⟨i, m, b1, b2, b3, b4, b5, b6, b7, b8⟩ := y2 rfl
    have eA : fA 2 r x = if x = 0 then fCut r else if (readW x).isSome = true ∧ (readO x).offset = r.getD 3 0 + r.getD 4 0 + 1 then naCs 77 4 r (lRow 45 (r.getD 0 0) 3) (r.getD 3 0 + r.getD 4 0 + 1) (r.getD 3 0 + r.getD 4 0 + 1 + 1) 0
          else if (readW x).isSome = false ∨ (readO x).offset ≠ r.getD 3 0 then fCnt r else fNxA (((r.set (5 + (r.getD 4 0).toNat) x).set 4 (r.getD 4 0 + 1)).set 3 (r.getD 3 0 - 1)) := rfl
    have eB : fB 2 q x = if x = 0 then fCut q else if (readW x).isSome = true ∧ (readO x).offset = q.getD 3 0 then naCs 77 4 q (lRow 45 (q.getD 0 0) 3) (q.getD 3 0) (q.getD 3 0 + 1) 0
          else if (readW x).isSome = false ∨ (readO x).offset ≠ q.getD 4 0 then fCnt q else fNxB (((q.set (6 + (q.getD 5 0).toNat) x).set 5 (q.getD 5 0 + 1)).set 4 (q.getD 4 0 - 1)) := rfl
    by_cases z : x = 0
    · rw [eA, if_pos z, eB, if_pos z]
      exact fe_cut hn h1 h2 h3 h4 ⟨m, by omega, b4, b7, b8⟩
    by_cases o : (readW x).isSome = true ∧ (readO x).offset = (i : Int) + m + 1
    · rw [eA, if_neg z, if_pos (by rw [b3, b4]; exact o), eB, if_neg z, if_pos (by rw [b5]; exact o)]
      have e : lRow 45 (r.getD 0 0) 3 = 45 + r.getD 0 0 := lRow_in h3.1 (by omega)
      refine ⟨by rw [h4.1, b5, b3, b4]; rfl, rfl, rfl, rfl, rfl, .inr ⟨⟨rfl, rfl, rfl, ?_, ?_, .inr ⟨rfl, ?_, ?_, ?_, fun _ => ?_, fun c => ?_, fun c => ?_⟩⟩, rfl, fun y hy => ?_⟩⟩
      · show 45 ≤ lRow 45 (r.getD 0 0) 3; omega
      · show lRow 45 (r.getD 0 0) 3 ≤ 98; omega
      · show 0 ≤ r.getD 3 0 + r.getD 4 0 + 1; omega
      · show r.getD 3 0 + r.getD 4 0 + 1 ≤ bigW; unfold bigW; omega
      · show 0 ≤ r.getD 3 0 + r.getD 4 0 + 1 + 1; omega
      · show r.getD 3 0 + r.getD 4 0 + 1 + 1 ≤ n + 1; omega
      · have c : 48 ≤ lRow 45 (r.getD 0 0) 3 := c; omega
      · have c : 51 ≤ lRow 45 (r.getD 0 0) 3 := c; omega
      · have hb := hy.big (by show 45 ≤ lRow 45 (r.getD 0 0) 3; omega) hn
        show R77 n 4 r q [y]
        exact ⟨h1, h2, h3, h4, .inr ⟨y, rfl, by decide, by decide, hb.1, hb.2, fun h => absurd h (by decide), fun h => absurd h (by decide), fun h => absurd h (by decide)⟩⟩
    by_cases o2 : (readW x).isSome = false ∨ (readO x).offset ≠ (i : Int)
    · rw [eA, if_neg z, if_neg (by rw [b3, b4]; exact o), if_pos (by rw [b3]; exact o2), eB, if_neg z, if_neg (by rw [b5]; exact o), if_pos (by rw [b6]; exact o2)]
      exact fe_cnt hn h1 h2 h3 h4
    rw [eA, if_neg z, if_neg (by rw [b3, b4]; exact o), if_neg (by rw [b3]; exact o2), eB, if_neg z, if_neg (by rw [b5]; exact o), if_neg (by rw [b6]; exact o2)]
    have t4 : (r.getD 4 0).toNat = m := by omega
    have t5 : (q.getD 5 0).toNat = m := by omega
    rw [t4, t5, b3, b4, b6, b7]
    have l1 := h1.1
    have l2 := h2.1
    have A3 : (((r.set (5 + m) x).set 4 ((m : Int) + 1)).set 3 ((i : Int) - 1)).getD 3 0 = (i : Int) - 1 := getD_set_eq (by simp only [List.length_set]; omega)
    have A4 : (((r.set (5 + m) x).set 4 ((m : Int) + 1)).set 3 ((i : Int) - 1)).getD 4 0 = (m : Int) + 1 := by rw [getD_set_ne' (by decide), getD_set_eq (by rw [List.length_set]; omega)]
    have A0 : ∀ j, j < 3 → (((r.set (5 + m) x).set 4 ((m : Int) + 1)).set 3 ((i : Int) - 1)).getD j 0 = r.getD j 0 := fun j hj => by rw [getD_set_ne' (by omega), getD_set_ne' (by omega), getD_set_ne' (by omega)]
    have A5 : ∀ j, (((r.set (5 + m) x).set 4 ((m : Int) + 1)).set 3 ((i : Int) - 1)).getD (5 + j) 0 = if j = m then x else r.getD (5 + j) 0 := fun j => by
      rw [getD_set_ne' (by omega), getD_set_ne' (by omega), getD_set _ _ _ _ _ (by omega)]
      by_cases e : j = m
      · rw [if_pos (by omega), if_pos e]
      · rw [if_neg (by omega), if_neg e]
    have B4 : (((q.set (6 + m) x).set 5 ((m : Int) + 1)).set 4 ((i : Int) - 1)).getD 4 0 = (i : Int) - 1 := getD_set_eq (by simp only [List.length_set]; omega)
    have B5 : (((q.set (6 + m) x).set 5 ((m : Int) + 1)).set 4 ((i : Int) - 1)).getD 5 0 = (m : Int) + 1 := by rw [getD_set_ne' (by decide), getD_set_eq (by rw [List.length_set]; omega)]
    have B0 : ∀ j, j < 4 → (((q.set (6 + m) x).set 5 ((m : Int) + 1)).set 4 ((i : Int) - 1)).getD j 0 = q.getD j 0 := fun j hj => by rw [getD_set_ne' (by omega), getD_set_ne' (by omega), getD_set_ne' (by omega)]
    have B6 : ∀ j, (((q.set (6 + m) x).set 5 ((m : Int) + 1)).set 4 ((i : Int) - 1)).getD (6 + j) 0 = if j = m then x else q.getD (6 + j) 0 := fun j => by
      rw [getD_set_ne' (by omega), getD_set_ne' (by omega), getD_set _ _ _ _ _ (by omega)]
      by_cases e : j = m
      · rw [if_pos (by omega), if_pos e]
      · rw [if_neg (by omega), if_neg e]
    have a1 : bnd (((r.set (5 + m) x).set 4 ((m : Int) + 1)).set 3 ((i : Int) - 1)) := ((h1.set _ x1).set 4 (by unfold bigW; omega)).set 3 (by unfold bigW; omega)
    have a2 : bnd (((q.set (6 + m) x).set 5 ((m : Int) + 1)).set 4 ((i : Int) - 1)) := ((h2.set _ x1).set 5 (by unfold bigW; omega)).set 4 (by unfold bigW; omega)
    have hw : Wds (m + 1) (((r.set (5 + m) x).set 4 ((m : Int) + 1)).set 3 ((i : Int) - 1)) (((q.set (6 + m) x).set 5 ((m : Int) + 1)).set 4 ((i : Int) - 1)) := fun j hj => by
      rw [A5, B6]
      by_cases e : j = m
      · rw [if_pos e, if_pos e]
      · rw [if_neg e, if_neg e]; exact b8 j (by omega)
    have A00 := A0 0 (by decide)
    have A01 := A0 1 (by decide)
    have A02 := A0 2 (by decide)
    have B00 := B0 0 (by decide)
    have B01 := B0 1 (by decide)
    have B02 := B0 2 (by decide)
    have B03 := B0 3 (by decide)
    clear A0 B0 A5 B6
    generalize (((r.set (5 + m) x).set 4 ((m : Int) + 1)).set 3 ((i : Int) - 1)) = R at *
    generalize (((q.set (6 + m) x).set 5 ((m : Int) + 1)).set 4 ((i : Int) - 1)) = Q at *
    have a3 : 0 ≤ R.getD 0 0 ∧ R.getD 0 0 ≤ 2 := by omega
    have a4 : Q.getD 0 0 = R.getD 0 0 ∧ Q.getD 1 0 = R.getD 1 0 ∧ Q.getD 2 0 = R.getD 2 0 := by omega
    unfold fNxA fNxB
    by_cases z2 : (i : Int) - 1 < 0 ∨ (m : Int) + 1 = 16
    · rw [if_pos (by rw [A3, A4]; exact z2), if_neg (fun c => by omega)]
      exact fe_cut hn a1 a2 a3 a4 ⟨m + 1, by omega, by omega, by omega, hw⟩
    · rw [if_neg (by rw [A3, A4]; exact z2), if_pos ⟨by omega, by omega⟩]
      exact fe_look hn a1 a2 a3 a4 (i := i - 1) (m := m + 1) (by omega) (by omega) (by omega) (by omega) (by omega) (by omega) (by omega) hw
  · obtain ⟨m, b1, b2, b3, b4⟩ := y3 rfl
    have eA : fA 3 r x = if r.getD 1 0 < x then naEn 77 3 r [190] true else fEnd r ((r.drop 5).take (r.getD 4 0).toNat) := rfl
    have eB : fB 3 q x = if q.getD 1 0 < x then naEn 77 3 q [190] true else fEnd q ((q.drop 6).take (q.getD 5 0).toNat) := rfl
    have hl : (r.drop 5).take (r.getD 4 0).toNat = (q.drop 6).take (q.getD 5 0).toNat := by
      have l1 := h1.1
      have l2 := h2.1
      apply List.ext_getElem
      · simp only [List.length_take, List.length_drop]; omega
      · intro j p1 p2
        simp only [List.length_take, List.length_drop] at p1 p2
        simp only [List.getElem_take, List.getElem_drop]
        have := b4 j (by omega)
        rw [getD_at (by omega), getD_at (by omega)] at this
        exact this
    rw [eA, eB, h4.2.1, ← hl]
    split
    · exact ⟨rfl, rfl, rfl, rfl, rfl, .inl ⟨rfl, rfl, rfl, rfl, rfl, rfl, by show ([190] : List Int).length ≤ 17; decide⟩⟩
    · refine ⟨by unfold fEnd; rw [h4.2.1, h4.2.2]; rfl, rfl, rfl, rfl, rfl, .inl ⟨rfl, rfl, rfl, rfl, rfl, rfl, ?_⟩⟩
      show (0 :: fPick (r.getD 1 0) (r.getD 2 0) ((r.drop 5).take (r.getD 4 0).toNat)).length ≤ 17
      unfold fPick
      have := List.length_filter_le (fun w => decide (r.getD 1 0 < (readO w).place ∧ (readO w).place ≤ r.getD 2 0)) ((r.drop 5).take (r.getD 4 0).toNat).reverse
      simp only [List.length_cons, List.length_reverse, List.length_take, List.length_drop] at this ⊢
      omega
  · exact fe_cnt hn h1 h2 h3 h4
def ln0 : Line := ⟨0, 0, 0, 0, 0⟩
def revM (l : List Line) (i : Nat) : List Line := (List.range l.length).map fun k => if i ≤ k ∧ k < l.length - i then l.getD (l.length - 1 - k) ln0 else l.getD k ln0
theorem revM_len (l : List Line) (i : Nat) : (revM l i).length = l.length := by simp [revM]
theorem revM_at (l : List Line) (i k : Nat) (h : k < l.length) : (revM l i).getD k ln0 = if i ≤ k ∧ k < l.length - i then l.getD (l.length - 1 - k) ln0 else l.getD k ln0 := by
  rw [List.getD_eq_getElem?_getD, List.getElem?_eq_getElem (by rw [revM_len]; exact h), Option.getD_some]
  simp only [revM, List.getElem_map, List.getElem_range]
theorem ext_getD {l m : List Line} (h : l.length = m.length) (hk : ∀ k, k < l.length → l.getD k ln0 = m.getD k ln0) : l = m := by
  apply List.ext_getElem h
  intro k h1 h2
  have := hk k h1
  rwa [List.getD_eq_getElem?_getD, List.getD_eq_getElem?_getD, List.getElem?_eq_getElem h1, List.getElem?_eq_getElem h2, Option.getD_some, Option.getD_some] at this
theorem revM_zero (l : List Line) : revM l 0 = l.reverse := by
  refine ext_getD (by simp [revM_len]) fun k hk => ?_
  rw [revM_len] at hk
  rw [revM_at l 0 k hk, if_pos ⟨Nat.zero_le _, by omega⟩, List.getD_eq_getElem?_getD, List.getD_eq_getElem?_getD, List.getElem?_reverse hk]
theorem revM_end {l : List Line} {i : Nat} (h : l.length ≤ 2 * i + 1) : revM l i = l := by
  refine ext_getD (revM_len l i) fun k hk => ?_
  rw [revM_len] at hk
  rw [revM_at l i k hk]
  split
  · rw [show l.length - 1 - k = k by omega]
  · rfl
theorem getD_setL {l : List Line} {i k : Nat} {x : Line} (hi : i < l.length) : (l.set i x).getD k ln0 = if k = i then x else l.getD k ln0 := by
  rw [List.getD_eq_getElem?_getD, List.getElem?_set]
  by_cases h : i = k
  · subst h; simp [hi]
  · rw [if_neg h, if_neg (fun e => h e.symm), List.getD_eq_getElem?_getD]
theorem revM_step {l : List Line} {i : Nat} (h : 2 * i + 1 < l.length) : revM ((l.set i (l.getD (l.length - 1 - i) ln0)).set (l.length - 1 - i) (l.getD i ln0)) (i + 1) = revM l i := by
  have hl : ((l.set i (l.getD (l.length - 1 - i) ln0)).set (l.length - 1 - i) (l.getD i ln0)).length = l.length := by simp
  refine ext_getD (by rw [revM_len, revM_len, hl]) fun k hk => ?_
  rw [revM_len, hl] at hk
  rw [revM_at _ _ _ (by rw [hl]; exact hk), revM_at _ _ _ hk, hl]
  have g : ∀ j, ((l.set i (l.getD (l.length - 1 - i) ln0)).set (l.length - 1 - i) (l.getD i ln0)).getD j ln0 = if j = l.length - 1 - i then l.getD i ln0 else if j = i then l.getD (l.length - 1 - i) ln0 else l.getD j ln0 := fun j => by
    rw [getD_setL (by simp; omega), getD_setL (by omega)]
  rw [g, g]
  by_cases k1 : k = i
  · subst k1
    rw [if_neg (by omega), if_neg (by omega), if_pos rfl, if_pos ⟨Nat.le_refl _, by omega⟩]
  · by_cases k2 : k = l.length - 1 - i
    · rw [if_neg (by omega), if_pos k2, if_pos ⟨by omega, by omega⟩, k2, show l.length - 1 - (l.length - 1 - i) = i by omega]
    · by_cases k3 : i ≤ k ∧ k < l.length - i
      · rw [if_pos (by omega), if_neg (by omega), if_neg (by omega), if_pos k3]
      · rw [if_neg (by omega), if_neg k2, if_neg k1, if_neg k3]
def lnD (cs : List Int) (q : Int) : Nat → Int → List Line
  | 0, _ => []
  | m + 1, i => if (readW (cs.getD (lStream q i).toNat 0)).isSome = true ∧ (readO (cs.getD (lStream q i).toNat 0)).offset = i then readO (cs.getD (lStream q i).toNat 0) :: lnD cs q m (i - 1) else []
theorem lnD_len (cs : List Int) (q : Int) : ∀ (m : Nat) (i : Int), (lnD cs q m i).length ≤ m
  | 0, _ => Nat.le_refl _
  | m + 1, i => by
    unfold lnD
    split
    · have := lnD_len cs q m (i - 1)
      simp only [List.length_cons]; omega
    · simp
def cntL (cs : List Int) (q : Int) : Int := cs.getD (lRow 45 q 3).toNat 0
def linesS (cs : List Int) (q : Int) : List Line := (lnD cs q (cntL cs q - max 0 (cntL cs q - 16)).toNat (cntL cs q - 1)).reverse
open Go.Proofs
def OkLn (cs : List Int) (q o i : Int) (n : Nat) : Prop := cs.length = 771 ∧ cellsOK cs = true ∧ 0 ≤ q ∧ q ≤ 2 ∧ 0 ≤ o ∧ o ≤ 4194304 ∧ max 0 (o - 16) - 1 ≤ i ∧ i ≤ o - 1 ∧ (n : Int) ≤ 1000
structure revL_St where
  l : List Line
  i : Nat
  j : Int
noncomputable def revL_c (l : List Line) (i : Nat) (j : Int) : Env RC := [(0, .vs 0 (l.length)), (2, .int .i64 (i : Int)), (3, .int .i64 j)]
def revL_o (l : List Line) (i : Nat) (j : Int) : List (Obj RC) := [.vec .line true l]
noncomputable def revL_r (l : List Line) (i : Nat) (j : Int) := rndO s19 uj_2 35 1 60 1 [0, 2, 3] [] [.slot 0 0] (revL_c l i j) (revL_o l i j)
theorem revL_eq (l : List Line) (i : Nat) (j : Int) : revL_r l i j = (let Z0 : Int := (↑i : Int); let Z1 : Nat := List.length l; let Z2 : Bool := Nat.beq Z1 Z1; let Z3 : Bool := Z2 && decide ((0 : Int) ≤ Z0 ∧ Z0 < (↑Z1 : Int)); let Z4 : Line := Line.mk (0 : Int) (0 : Int) (0 : Int) (0 : Int) (0 : Int); let Z5 : Line := List.getD l j.toNat Z4; let Z6 : List Line := List.set l Z0.toNat (Line.mk (Line.offset Z5) (Line.place Z5) (Line.j Z5) (Line.key Z5) (Line.value Z5)); let Z7 : Bool := Nat.beq Z1 Z6.length; let Z8 : Line := List.getD l Z0.toNat Z4; bif decide (Z0 < j) then bif Z2 && decide ((0 : Int) ≤ j ∧ j < (↑Z1 : Int)) then bif Z2 then bif Z3 then bif Z2 then bif Z3 then bif Z2 then bif Z7 && decide ((0 : Int) ≤ j ∧ j < (↑Z6.length : Int)) then bif Z7 then some ((X.normal, [(0, D.vs 0 Z1), (2, D.int .i64 (IntKind.wrap .i64 (Z0 + (1 : Int)))), (3, D.int .i64 (IntKind.wrap .i64 (j - (1 : Int))))]), [some (Obj.vec RTy.line true (List.set Z6 j.toNat (Line.mk (Line.offset Z8) (Line.place Z8) (Line.j Z8) (Line.key Z8) (Line.value Z8))))]) else none else none else none else none else none else none else none else none else some ((X.exit (0 : Nat), []), [some (Obj.vec RTy.line true l)])) := by kernel_rfl
noncomputable def revL_fin (l : List Line) (i : Nat) (j : Int) : RT RC := .leaf (.exit 0) [] (revL_o (revM l i) i j)
def revL_Inv (l : List Line) (i : Nat) (j : Int) : Prop := l.length ≤ 1000 ∧ j = (l.length : Int) - 1 - i
noncomputable def revL_S : LoopR RC revL_St where
  k := 1
  canon q := revL_c q.l q.i q.j
  objs q := revL_o q.l q.i q.j
  fin q := revL_fin q.l q.i q.j
  Inv q := revL_Inv q.l q.i q.j
  μ q := q.l.length - q.i
theorem revL_round (l : List Line) (i : Nat) (j : Int) (hI : revL_Inv l i j) : Leaf (revL_r l i j) (LedR revL_S ⟨l, i, j⟩) := by
  (rw [revL_eq]; conv => zeta)
  unfold revL_Inv at hI
  obtain ⟨h1, rfl⟩ := hI
  have leta : ∀ l : Line, Line.mk l.offset l.place l.j l.key l.value = l := fun _ => rfl
  have t2 : (i : Int).toNat = i := by simp
  simp only [leta, t2]
  by_cases hlt : 2 * i + 1 < l.length
  · have d1 : decide ((i : Int) < (l.length : Int) - 1 - i) = true := decide_eq_true (by omega)
    have t1 : ((l.length : Int) - 1 - i).toNat = l.length - 1 - i := by omega
    have d2 : decide (0 ≤ (l.length : Int) - 1 - i ∧ (l.length : Int) - 1 - i < (l.length : Int)) = true := decide_eq_true ⟨by omega, by omega⟩
    have d3 : decide (0 ≤ (i : Int) ∧ (i : Int) < (l.length : Int)) = true := decide_eq_true ⟨by omega, by omega⟩
    have w1 : IntKind.i64.wrap ((i : Int) + 1) = ((i + 1 : Nat) : Int) := by rw [wrap_id (by omega) (by omega)]; simp
    have w2 : IntKind.i64.wrap ((l.length : Int) - 1 - i - 1) = (l.length : Int) - 1 - ((i + 1 : Nat) : Int) := by rw [wrap_id (by omega) (by omega)]; omega
    simp only [d1, d2, d3, t1, w1, w2, nbeqT rfl, List.length_set, Bool.and_self, Bool.true_and, cond_true]
    have hs := revM_step hlt
    have hl : ((l.set i (l.getD (l.length - 1 - i) ln0)).set (l.length - 1 - i) (l.getD i ln0)).length = l.length := by simp
    refine leafR_go (S := revL_S) (s := ⟨l, i, (l.length : Int) - 1 - i⟩) ⟨(l.set i (l.getD (l.length - 1 - i) ln0)).set (l.length - 1 - i) (l.getD i ln0), i + 1, (l.length : Int) - 1 - ((i + 1 : Nat) : Int)⟩ ⟨by rw [hl]; exact h1, by rw [hl]⟩ (by simp only [revL_S, hl]; omega) ?_ ?_ rfl
    · show (revL_fin _ (i + 1) _).val = (revL_fin l i _).val
      unfold revL_fin revL_o
      rw [hs]
    · show _ = revL_c _ (i + 1) _
      unfold revL_c
      rw [hl]
  · have d1 : decide ((i : Int) < (l.length : Int) - 1 - i) = false := decide_eq_false (by omega)
    simp only [d1, cond_false]
    exact leafR_exit (S := revL_S) (s := ⟨l, i, (l.length : Int) - 1 - i⟩) (revL_o (revM l i) i ((l.length : Int) - 1 - i)) rfl (by unfold revL_o; rw [revM_end (by omega)]; rfl)
noncomputable def revL_d (env : Env RC) (os : List (Obj RC)) : Option (Bool × revL_St) := match env, os with
  | [(0, .vs 0 x0), (2, .int .i64 x1), (3, .int .i64 j)], [.vec .line true l] => staticD (true) (decide (x0 = l.length) && decide (x1 = 0) && decide (l.length ≤ 1000 ∧ j = (l.length : Int) - 1), ⟨l, 0, j⟩)
  | _, _ => none
noncomputable def uk_1 := uj_2.addLoop 35 1 (sumR s19 [.slot 0 0] [0, 2, 3] revL_S revL_d)
theorem uk_1_laws : FLaws Tryz.prog s19 uk_1 := by
  refine uj_2_laws.addRoundsR s19_laws (by kernel_rfl) revL_S 60 [0, 2, 3] [] [.slot 0 0] [0, 2, 3] revL_d (fun q hI => ?_) ?_
  · obtain ⟨l, i, j⟩ := q
    refine ⟨?_, ?_, revL_round l i j hI⟩
    · simp_all [RefsOK, revL_S, revL_c, revL_o, revL_Inv, D.refs, Obj.refs, rEnc]
    · simp_all [revL_S, revL_fin, revL_o, revL_Inv, RT.refsOK, RefsOK, D.refs, Obj.refs, rEnc]
  · intro env os b q hd_ hb
    unfold revL_d at hd_
    split at hd_
    · obtain ⟨hs, hd_⟩ := staticD_some hd_
      cases hd_
      simp only [Bool.and_eq_true, decide_eq_true_eq] at hb
      obtain ⟨⟨e0, e1⟩, e2, e3⟩ := hb
      subst e0
      subst e1
      exact ⟨⟨e2, by rw [e3]; simp⟩, rfl, rfl⟩
    · cases hd_
structure revF_St where
  l : List Line
def revF_a (l : List Line) : List (D RC) := [.vs 0 (l.length)]
def revF_o (l : List Line) : List (Obj RC) := [.vec .line true l]
noncomputable def revF_r (l : List Line) := fnO s19 uk_1 35 60 1 (revF_a l) (revF_o l)
theorem revF_eq (l : List Line) : revF_r l = (let Z0 : Nat := List.length l; let Z1 : Int := (↑Z0 : Int) - (1 : Int); bif lenOK Z0 then bif decide (Z0 = Z0) && true && decide (Z0 ≤ (1000 : Nat) ∧ IntKind.wrap .i64 Z1 = Z1) then some (D.tup .anil, [some (Obj.vec RTy.line true (revM l (0 : Nat)))]) else none else none) := by kernel_rfl
noncomputable def revF_fin (l : List Line) : RT RC := .leaf .ret [(0, .tup .anil)] (revF_o l.reverse)
def revF_Inv (l : List Line) : Prop := l.length ≤ 1000
noncomputable def revF_S : FunR RC revF_St where
  k := 1
  args q := revF_a q.l
  objs q := revF_o q.l
  fin q := revF_fin q.l
  Inv q := revF_Inv q.l
theorem revF_ok (l : List Line) (hI : revF_Inv l) : Leaf (revF_r l) (LedF revF_S ⟨l⟩) := by
  (rw [revF_eq]; conv => zeta)
  unfold revF_Inv at hI
  have l1 : lenOK l.length = true := lenOK_of (by omega)
  have w1 : IntKind.i64.wrap ((l.length : Int) - 1) = (l.length : Int) - 1 := wrap_id (by omega) (by omega)
  have d1 : decide (l.length ≤ 1000 ∧ True) = true := decide_eq_true ⟨hI, trivial⟩
  simp only [l1, w1, d1, decide_true, Bool.and_self, cond_true]
  exact leafF (S := revF_S) (s := ⟨l⟩) (revF_o l.reverse) rfl (by unfold revF_o; rw [revM_zero]; rfl)
noncomputable def revF_d (env : Env RC) (os : List (Obj RC)) : Option (Bool × revF_St) := match env, os with
  | [(0, .vs 0 x0)], [.vec .line true l] => staticD (true) (decide (x0 = l.length) && decide (l.length ≤ 1000), ⟨l⟩)
  | _, _ => none
noncomputable def uk_2 := uk_1.addObj 35 (sumF s19 [.slot 0 0] 1 revF_S revF_d)
theorem uk_2_laws : FLaws Tryz.prog s19 uk_2 := by
  refine uk_1_laws.addFun s19_laws revF_S 60 1 [.slot 0 0] revF_d (fun q hI => ?_) ?_
  · obtain ⟨l⟩ := q
    refine ⟨?_, ?_, rfl, revF_ok l hI⟩
    · simp [RefsOK, revF_S, revF_a, revF_o, eargs, D.refs, Obj.refs]
    · simp [revF_S, revF_fin, revF_o, RT.refsOK, RefsOK, D.refs, Obj.refs]
  · intro env os b q hd_ hb
    unfold revF_d at hd_
    split at hd_
    · obtain ⟨hs, hd_⟩ := staticD_some hd_
      cases hd_
      try simp only [Bool.and_eq_true, decide_eq_true_eq] at hb
      obtain ⟨e0, e1⟩ := hb
      subst e0
      exact ⟨e1, rfl, rfl⟩
    · cases hd_
structure lnPl_St where
  cs : List Int
  nf : Bool
  now : List Sector
  sf : Bool
  sure : List Sector
  q : Int
  o : Int
  i : Int
  l : List Line
noncomputable def lnPl_c (cs : List Int) (nf : Bool) (now : List Sector) (sf : Bool) (sure : List Sector) (q : Int) (o : Int) (i : Int) (l : List Line) : Env RC := [(1, .int .i64 q), (2, .ptr 0 []), (4, .vs 1 (l.length)), (5, .int .i64 o), (6, .int .i64 i)]
def lnPl_o (cs : List Int) (nf : Bool) (now : List Sector) (sf : Bool) (sure : List Sector) (q : Int) (o : Int) (i : Int) (l : List Line) : List (Obj RC) := [.var 45 (.acons (.sl (C := RC) .int false cs) (.acons (.acons (.sl (C := RC) .sector nf now) (.acons (.sl (C := RC) .sector sf sure) .anil)) .anil)), .vec .line true l]
noncomputable def lnPl_r (cs : List Int) (nf : Bool) (now : List Sector) (sf : Bool) (sure : List Sector) (q : Int) (o : Int) (i : Int) (l : List Line) := rndO s19 uk_2 21 7 80 2 [1, 2, 4, 5, 6] [4] [.slot 2 0, .slot 4 0] (lnPl_c cs nf now sf sure q o i l) (lnPl_o cs nf now sf sure q o i l)
theorem lnPl_eq (cs : List Int) (nf : Bool) (now : List Sector) (sf : Bool) (sure : List Sector) (q : Int) (o : Int) (i : Int) (l : List Line) : lnPl_r cs nf now sf sure q o i l = (let Z0 : Int := IntKind.wrap .i64 (o - (16 : Int)); let Z1 : Int := lStream q i; let Z2 : Int := List.getD cs Z1.toNat (0 : Int); let Z3 : Nat := List.length l; let Z4 : Option (Obj RC) := some (Obj.var 45 (.acons (D.sl RTy.int false cs) (.acons (D.acons (D.sl RTy.sector nf now) (.acons (D.sl RTy.sector sf sure) .anil)) .anil))); let Z5 : RO_ := some ((X.exit (0 : Nat), [(4, D.vs 1 Z3)]), [Z4, some (Obj.vec RTy.line true l)]); let Z6 : Line := readO Z2; let Z7 : List Line := [Line.mk (Line.offset Z6) (Line.place Z6) (Line.j Z6) (Line.key Z6) (Line.value Z6)]; bif decide ((if (0 : Int) < Z0 then Z0 else (0 : Int)) ≤ i) then bif decide ((0 : Int) ≤ Z1 ∧ Z1 < (↑cs.length : Int)) then bif decide (Z2 < (9223372036854775808 : Int)) then bif !Option.isSome (readW Z2) then Z5 else bif Line.offset Z6 != i then Z5 else bif Nat.beq Z3 Z3 && sizeOK (Z3 + List.length Z7) (40 : Nat) then some ((X.normal, [(1, D.int .i64 q), (2, D.ptr 0 []), (4, D.vs 1 (Z3 + List.length Z7)), (5, D.int .i64 o), (6, D.int .i64 (IntKind.wrap .i64 (i - (1 : Int))))]), [Z4, some (Obj.vec RTy.line true (l ++ Z7))]) else none else none else none else Z5) := by kernel_rfl
noncomputable def lnPl_fin (cs : List Int) (nf : Bool) (now : List Sector) (sf : Bool) (sure : List Sector) (q : Int) (o : Int) (i : Int) (l : List Line) : RT RC := .leaf (.exit 0) [(4, .vs 1 (l ++ lnD cs q (i + 1 - max 0 (o - 16)).toNat i).length)] (lnPl_o cs nf now sf sure q o i (l ++ lnD cs q (i + 1 - max 0 (o - 16)).toNat i))
def lnPl_Inv (cs : List Int) (nf : Bool) (now : List Sector) (sf : Bool) (sure : List Sector) (q : Int) (o : Int) (i : Int) (l : List Line) : Prop := OkLn cs q o i (l.length + (i + 1 - max 0 (o - 16)).toNat)
noncomputable def lnPl_S : LoopR RC lnPl_St where
  k := 2
  canon q := lnPl_c q.cs q.nf q.now q.sf q.sure q.q q.o q.i q.l
  objs q := lnPl_o q.cs q.nf q.now q.sf q.sure q.q q.o q.i q.l
  fin q := lnPl_fin q.cs q.nf q.now q.sf q.sure q.q q.o q.i q.l
  Inv q := lnPl_Inv q.cs q.nf q.now q.sf q.sure q.q q.o q.i q.l
  μ q := (q.i + 1).toNat
theorem lnPl_round (cs : List Int) (nf : Bool) (now : List Sector) (sf : Bool) (sure : List Sector) (q : Int) (o : Int) (i : Int) (l : List Line) (hI : lnPl_Inv cs nf now sf sure q o i l) : Leaf (lnPl_r cs nf now sf sure q o i l) (LedR lnPl_S ⟨cs, nf, now, sf, sure, q, o, i, l⟩) := by
  (rw [lnPl_eq]; conv => zeta)
  unfold lnPl_Inv at hI
  obtain ⟨hl, hc, q0, q2, o0, o1, i0, i1, n1⟩ := hI
  have leta : ∀ l : Line, Line.mk l.offset l.place l.j l.key l.value = l := fun _ => rfl
  have w0 : IntKind.i64.wrap (o - 16) = o - 16 := wrap_id (by omega) (by omega)
  have e0 : (if 0 < o - 16 then o - 16 else 0) = max 0 (o - 16) := by split <;> omega
  simp only [leta, w0, e0]
  by_cases hi : max 0 (o - 16) ≤ i
  · obtain ⟨m, hm⟩ : ∃ m, (i + 1 - max 0 (o - 16)).toNat = m + 1 := ⟨(i - max 0 (o - 16)).toNat, by omega⟩
    have hm2 : (i - 1 + 1 - max 0 (o - 16)).toNat = m := by omega
    have hs := lStream_in q0 q2 (show 0 ≤ i by omega)
    have d2 : decide (0 ≤ lStream q i ∧ lStream q i < (cs.length : Int)) = true := decide_eq_true ⟨by omega, by omega⟩
    have hv := cellsOK_at hc (i := (lStream q i).toNat) (by omega)
    have w2 : IntKind.i64.wrap (i - 1) = i - 1 := wrap_id (by omega) (by omega)
    have hD : lnD cs q (m + 1) i = if (readW (cs.getD (lStream q i).toNat 0)).isSome = true ∧ (readO (cs.getD (lStream q i).toNat 0)).offset = i then readO (cs.getD (lStream q i).toNat 0) :: lnD cs q m (i - 1) else [] := rfl
    rw [hm] at n1
    have hfin : ∀ L : List Line, l ++ lnD cs q (m + 1) i = L → (lnPl_fin cs nf now sf sure q o i l).val = some ((.exit 0, [(4, .vs 1 L.length)]), lnPl_o cs nf now sf sure q o i L) := fun L hL => by
      unfold lnPl_fin; rw [hm, hL]; rfl
    generalize cs.getD (lStream q i).toNat 0 = v at *
    have d3 : decide (v < 9223372036854775808) = true := decide_eq_true (by omega)
    simp only [decide_eq_true hi, d2, d3, w2, cond_true]
    cases hs2 : (readW v).isSome
    · simp only [Bool.not_false, cond_true]
      refine leafR_exit (S := lnPl_S) (s := ⟨cs, nf, now, sf, sure, q, o, i, l⟩) (lnPl_o cs nf now sf sure q o i l) (hfin l ?_) rfl
      rw [hD, if_neg (by rw [hs2]; simp), List.append_nil]
    · by_cases ho : (readO v).offset = i
      · have d4 : sizeOK (l.length + [readO v].length) 40 = true := sizeT (by simp only [List.length_cons, List.length_nil]; omega)
        simp only [Bool.not_true, ibneF ho, nbeqT rfl, d4, Bool.and_self, cond_true, cond_false]
        refine leafR_go (S := lnPl_S) (s := ⟨cs, nf, now, sf, sure, q, o, i, l⟩) ⟨cs, nf, now, sf, sure, q, o, i - 1, l ++ [readO v]⟩ ?_ (by simp only [lnPl_S]; omega) ?_ ?_ rfl
        · show OkLn cs q o (i - 1) _
          refine ⟨hl, hc, q0, q2, o0, o1, by omega, by omega, ?_⟩
          show (((l ++ [readO v]).length + (i - 1 + 1 - max 0 (o - 16)).toNat : Nat) : Int) ≤ 1000
          rw [hm2]
          simp only [List.length_append, List.length_cons, List.length_nil]
          omega
        · show (lnPl_fin cs nf now sf sure q o (i - 1) (l ++ [readO v])).val = (lnPl_fin cs nf now sf sure q o i l).val
          rw [hfin (l ++ [readO v] ++ lnD cs q m (i - 1)) (by rw [hD, if_pos ⟨hs2, ho⟩]; simp)]
          unfold lnPl_fin
          rw [hm2]
          rfl
        · show _ = lnPl_c cs nf now sf sure q o (i - 1) (l ++ [readO v])
          unfold lnPl_c
          simp
      · simp only [Bool.not_true, ibneT ho, cond_true, cond_false]
        refine leafR_exit (S := lnPl_S) (s := ⟨cs, nf, now, sf, sure, q, o, i, l⟩) (lnPl_o cs nf now sf sure q o i l) (hfin l ?_) rfl
        rw [hD, if_neg (fun q => ho q.2), List.append_nil]
  · have hm : (i + 1 - max 0 (o - 16)).toNat = 0 := by omega
    simp only [decide_eq_false hi, cond_false]
    refine leafR_exit (S := lnPl_S) (s := ⟨cs, nf, now, sf, sure, q, o, i, l⟩) (lnPl_o cs nf now sf sure q o i l) ?_ rfl
    show (lnPl_fin cs nf now sf sure q o i l).val = _
    unfold lnPl_fin
    rw [hm, show lnD cs q 0 i = [] from rfl, List.append_nil]
    rfl
noncomputable def lnPl_d (env : Env RC) (os : List (Obj RC)) : Option (Bool × lnPl_St) := match env, os with
  | [(1, .int .i64 q), (2, .ptr 0 []), (4, .vs 1 x0), (5, .int .i64 o), (6, .int .i64 i)], [.var 45 (.acons (.sl .int false cs) (.acons (.acons (.sl .sector nf now) (.acons (.sl .sector sf sure) .anil)) .anil)), .vec .line true l] => staticD (true) (decide (x0 = l.length) && cdec (OkLn cs q o i (l.length + (i + 1 - max 0 (o - 16)).toNat)), ⟨cs, nf, now, sf, sure, q, o, i, l⟩)
  | _, _ => none
noncomputable def uk_3 := uk_2.addLoop 21 7 (sumR s19 [.slot 2 0, .slot 4 0] [1, 2, 4, 5, 6] lnPl_S lnPl_d)
theorem uk_3_laws : FLaws Tryz.prog s19 uk_3 := by
  refine uk_2_laws.addRoundsR s19_laws (by kernel_rfl) lnPl_S 80 [1, 2, 4, 5, 6] [4] [.slot 2 0, .slot 4 0] [1, 2, 4, 5, 6] lnPl_d (fun q hI => ?_) ?_
  · obtain ⟨cs, nf, now, sf, sure, q, o, i, l⟩ := q
    refine ⟨?_, ?_, lnPl_round cs nf now sf sure q o i l hI⟩
    · simp_all [RefsOK, lnPl_S, lnPl_c, lnPl_o, lnPl_Inv, D.refs, Obj.refs, rEnc]
    · simp_all [lnPl_S, lnPl_fin, lnPl_o, lnPl_Inv, RT.refsOK, RefsOK, D.refs, Obj.refs, rEnc]
  · intro env os b q hd_ hb
    unfold lnPl_d at hd_
    split at hd_
    · obtain ⟨hs, hd_⟩ := staticD_some hd_
      cases hd_
      simp only [Bool.and_eq_true, decide_eq_true_eq] at hb
      obtain ⟨e0, e1⟩ := hb
      subst e0
      exact ⟨cdec_iff.1 e1, rfl, rfl⟩
    · cases hd_
structure lnRl_St where
  cs : List Int
  nf : Bool
  now : List Sector
  sf : Bool
  sure : List Sector
  q : Int
  o : Int
  i : Int
  w : Bool
  l : List Line
noncomputable def lnRl_c (cs : List Int) (nf : Bool) (now : List Sector) (sf : Bool) (sure : List Sector) (q : Int) (o : Int) (i : Int) (w : Bool) (l : List Line) : Env RC := [(1, .int .i64 q), (2, .ptr 0 []), (5, .int .i64 o), (6, .vs 1 (l.length)), (7, .int .i64 i)]
def lnRl_o (cs : List Int) (nf : Bool) (now : List Sector) (sf : Bool) (sure : List Sector) (q : Int) (o : Int) (i : Int) (w : Bool) (l : List Line) : List (Obj RC) := [.var 45 (.acons (.sl (C := RC) .int false cs) (.acons (.acons (.sl (C := RC) .sector nf now) (.acons (.sl (C := RC) .sector sf sure) .anil)) .anil)), .vec .line w l]
noncomputable def lnRl_r (cs : List Int) (nf : Bool) (now : List Sector) (sf : Bool) (sure : List Sector) (q : Int) (o : Int) (i : Int) (w : Bool) (l : List Line) := rndO s19 uk_3 22 8 80 2 [1, 2, 5, 6, 7] [6] [.slot 2 0, .slot 6 0] (lnRl_c cs nf now sf sure q o i w l) (lnRl_o cs nf now sf sure q o i w l)
theorem lnRl_eq (cs : List Int) (nf : Bool) (now : List Sector) (sf : Bool) (sure : List Sector) (q : Int) (o : Int) (i : Int) (w : Bool) (l : List Line) : lnRl_r cs nf now sf sure q o i w l = (let Z0 : Int := lStream q i; let Z1 : Int := List.getD cs Z0.toNat (0 : Int); let Z2 : Nat := List.length l; let Z3 : Option (Obj RC) := some (Obj.var 45 (.acons (D.sl RTy.int false cs) (.acons (D.acons (D.sl RTy.sector nf now) (.acons (D.sl RTy.sector sf sure) .anil)) .anil))); let Z4 : RO_ := some ((X.exit (0 : Nat), [(6, D.vs 1 Z2)]), [Z3, some (Obj.vec RTy.line w l)]); let Z5 : Line := readO Z1; let Z6 : List Line := [Line.mk (Line.offset Z5) (Line.place Z5) (Line.j Z5) (Line.key Z5) (Line.value Z5)]; bif decide ((0 : Int) ≤ i) then bif decide (IntKind.wrap .i64 (o - (16 : Int)) ≤ i) then bif decide ((0 : Int) ≤ Z0 ∧ Z0 < (↑cs.length : Int)) then bif decide (Z1 < (9223372036854775808 : Int)) then bif !Option.isSome (readW Z1) then Z4 else bif Line.offset Z5 != i then Z4 else bif Nat.beq Z2 Z2 then bif sizeOK (List.length Z6 + Z2) (40 : Nat) then bif Nat.blt Z2 (Z6 ++ l).length then some ((X.normal, [(1, D.int .i64 q), (2, D.ptr 0 []), (5, D.int .i64 o), (6, D.vs 1 (List.length Z6 + Z2)), (7, D.int .i64 (IntKind.wrap .i64 (i - (1 : Int))))]), [Z3, some (Obj.vec RTy.line (List.isEmpty Z6) (Z6 ++ l))]) else none else none else none else none else none else Z4 else Z4) := by kernel_rfl
noncomputable def lnRl_fin (cs : List Int) (nf : Bool) (now : List Sector) (sf : Bool) (sure : List Sector) (q : Int) (o : Int) (i : Int) (w : Bool) (l : List Line) : RT RC := .leaf (.exit 0) [(6, .vs 1 ((lnD cs q (i + 1 - max 0 (o - 16)).toNat i).reverse ++ l).length)] (lnRl_o cs nf now sf sure q o i (bif (lnD cs q (i + 1 - max 0 (o - 16)).toNat i).isEmpty then w else false) ((lnD cs q (i + 1 - max 0 (o - 16)).toNat i).reverse ++ l))
def lnRl_Inv (cs : List Int) (nf : Bool) (now : List Sector) (sf : Bool) (sure : List Sector) (q : Int) (o : Int) (i : Int) (w : Bool) (l : List Line) : Prop := OkLn cs q o i (l.length + (i + 1 - max 0 (o - 16)).toNat)
noncomputable def lnRl_S : LoopR RC lnRl_St where
  k := 2
  canon q := lnRl_c q.cs q.nf q.now q.sf q.sure q.q q.o q.i q.w q.l
  objs q := lnRl_o q.cs q.nf q.now q.sf q.sure q.q q.o q.i q.w q.l
  fin q := lnRl_fin q.cs q.nf q.now q.sf q.sure q.q q.o q.i q.w q.l
  Inv q := lnRl_Inv q.cs q.nf q.now q.sf q.sure q.q q.o q.i q.w q.l
  μ q := (q.i + 1).toNat
theorem lnRl_round (cs : List Int) (nf : Bool) (now : List Sector) (sf : Bool) (sure : List Sector) (q : Int) (o : Int) (i : Int) (w : Bool) (l : List Line) (hI : lnRl_Inv cs nf now sf sure q o i w l) : Leaf (lnRl_r cs nf now sf sure q o i w l) (LedR lnRl_S ⟨cs, nf, now, sf, sure, q, o, i, w, l⟩) := by
  (rw [lnRl_eq]; conv => zeta)
  unfold lnRl_Inv at hI
  obtain ⟨hl, hc, q0, q2, o0, o1, i0, i1, n1⟩ := hI
  have leta : ∀ l : Line, Line.mk l.offset l.place l.j l.key l.value = l := fun _ => rfl
  have w0 : IntKind.i64.wrap (o - 16) = o - 16 := wrap_id (by omega) (by omega)
  simp only [leta, w0]
  by_cases hi : max 0 (o - 16) ≤ i
  · obtain ⟨m, hm⟩ : ∃ m, (i + 1 - max 0 (o - 16)).toNat = m + 1 := ⟨(i - max 0 (o - 16)).toNat, by omega⟩
    have hm2 : (i - 1 + 1 - max 0 (o - 16)).toNat = m := by omega
    have hs := lStream_in q0 q2 (show 0 ≤ i by omega)
    have d2 : decide (0 ≤ lStream q i ∧ lStream q i < (cs.length : Int)) = true := decide_eq_true ⟨by omega, by omega⟩
    have hv := cellsOK_at hc (i := (lStream q i).toNat) (by omega)
    have w2 : IntKind.i64.wrap (i - 1) = i - 1 := wrap_id (by omega) (by omega)
    have c1 : decide (0 ≤ i) = true := decide_eq_true (by omega)
    have c2 : decide (o - 16 ≤ i) = true := decide_eq_true (by omega)
    have hD : lnD cs q (m + 1) i = if (readW (cs.getD (lStream q i).toNat 0)).isSome = true ∧ (readO (cs.getD (lStream q i).toNat 0)).offset = i then readO (cs.getD (lStream q i).toNat 0) :: lnD cs q m (i - 1) else [] := rfl
    rw [hm] at n1
    have hfin : ∀ L : List Line, lnD cs q (m + 1) i = L → (lnRl_fin cs nf now sf sure q o i w l).val = some ((.exit 0, [(6, .vs 1 (L.reverse ++ l).length)]), lnRl_o cs nf now sf sure q o i (bif L.isEmpty then w else false) (L.reverse ++ l)) := fun L hL => by
      unfold lnRl_fin; rw [hm, hL]; rfl
    generalize cs.getD (lStream q i).toNat 0 = v at *
    have d3 : decide (v < 9223372036854775808) = true := decide_eq_true (by omega)
    simp only [c1, c2, d2, d3, w2, cond_true]
    cases hs2 : (readW v).isSome
    · simp only [Bool.not_false, cond_true]
      exact leafR_exit (S := lnRl_S) (s := ⟨cs, nf, now, sf, sure, q, o, i, w, l⟩) (lnRl_o cs nf now sf sure q o i w l) (hfin [] (by rw [hD, if_neg (by rw [hs2]; simp)])) rfl
    · by_cases ho : (readO v).offset = i
      · have d4 : sizeOK ([readO v].length + l.length) 40 = true := sizeT (by simp only [List.length_cons, List.length_nil]; omega)
        have d5 : Nat.blt l.length ([readO v] ++ l).length = true := by simp
        simp only [Bool.not_true, ibneF ho, nbeqT rfl, d4, d5, cond_true, cond_false]
        refine leafR_go (S := lnRl_S) (s := ⟨cs, nf, now, sf, sure, q, o, i, w, l⟩) ⟨cs, nf, now, sf, sure, q, o, i - 1, false, [readO v] ++ l⟩ ?_ (by simp only [lnRl_S]; omega) ?_ ?_ rfl
        · show OkLn cs q o (i - 1) _
          refine ⟨hl, hc, q0, q2, o0, o1, by omega, by omega, ?_⟩
          show ((([readO v] ++ l).length + (i - 1 + 1 - max 0 (o - 16)).toNat : Nat) : Int) ≤ 1000
          rw [hm2]
          simp only [List.length_append, List.length_cons, List.length_nil]
          omega
        · show (lnRl_fin cs nf now sf sure q o (i - 1) false ([readO v] ++ l)).val = (lnRl_fin cs nf now sf sure q o i w l).val
          rw [hfin (readO v :: lnD cs q m (i - 1)) (by rw [hD, if_pos ⟨hs2, ho⟩])]
          unfold lnRl_fin
          rw [hm2]
          have e1 : (readO v :: lnD cs q m (i - 1)).reverse ++ l = (lnD cs q m (i - 1)).reverse ++ ([readO v] ++ l) := by simp
          rw [e1]
          cases (lnD cs q m (i - 1)).isEmpty <;> rfl
        · show _ = lnRl_c cs nf now sf sure q o (i - 1) false ([readO v] ++ l)
          unfold lnRl_c
          simp [Nat.add_comm]
      · simp only [Bool.not_true, ibneT ho, cond_true, cond_false]
        exact leafR_exit (S := lnRl_S) (s := ⟨cs, nf, now, sf, sure, q, o, i, w, l⟩) (lnRl_o cs nf now sf sure q o i w l) (hfin [] (by rw [hD, if_neg (fun q => ho q.2)])) rfl
  · have hm : (i + 1 - max 0 (o - 16)).toNat = 0 := by omega
    have hx : Leaf (some ((X.exit 0, [(6, D.vs 1 l.length)]), (lnRl_o cs nf now sf sure q o i w l).map some)) (LedR lnRl_S ⟨cs, nf, now, sf, sure, q, o, i, w, l⟩) := by
      refine leafR_exit (S := lnRl_S) (s := ⟨cs, nf, now, sf, sure, q, o, i, w, l⟩) (lnRl_o cs nf now sf sure q o i w l) ?_ rfl
      show (lnRl_fin cs nf now sf sure q o i w l).val = _
      unfold lnRl_fin
      rw [hm]
      rfl
    by_cases c1 : 0 ≤ i
    · have c2 : decide (o - 16 ≤ i) = false := decide_eq_false (by omega)
      simp only [decide_eq_true c1, c2, cond_true, cond_false]
      exact hx
    · simp only [decide_eq_false c1, cond_false]
      exact hx
noncomputable def lnRl_d (env : Env RC) (os : List (Obj RC)) : Option (Bool × lnRl_St) := match env, os with
  | [(1, .int .i64 q), (2, .ptr 0 []), (5, .int .i64 o), (6, .vs 1 x0), (7, .int .i64 i)], [.var 45 (.acons (.sl .int false cs) (.acons (.acons (.sl .sector nf now) (.acons (.sl .sector sf sure) .anil)) .anil)), .vec .line w l] => staticD (true) (decide (x0 = l.length) && cdec (OkLn cs q o i (l.length + (i + 1 - max 0 (o - 16)).toNat)), ⟨cs, nf, now, sf, sure, q, o, i, w, l⟩)
  | _, _ => none
noncomputable def uk_4 := uk_3.addLoop 22 8 (sumR s19 [.slot 2 0, .slot 6 0] [1, 2, 5, 6, 7] lnRl_S lnRl_d)
theorem uk_4_laws : FLaws Tryz.prog s19 uk_4 := by
  refine uk_3_laws.addRoundsR s19_laws (by kernel_rfl) lnRl_S 80 [1, 2, 5, 6, 7] [6] [.slot 2 0, .slot 6 0] [1, 2, 5, 6, 7] lnRl_d (fun q hI => ?_) ?_
  · obtain ⟨cs, nf, now, sf, sure, q, o, i, w, l⟩ := q
    refine ⟨?_, ?_, lnRl_round cs nf now sf sure q o i w l hI⟩
    · simp_all [RefsOK, lnRl_S, lnRl_c, lnRl_o, lnRl_Inv, D.refs, Obj.refs, rEnc]
    · simp_all [lnRl_S, lnRl_fin, lnRl_o, lnRl_Inv, RT.refsOK, RefsOK, D.refs, Obj.refs, rEnc]
  · intro env os b q hd_ hb
    unfold lnRl_d at hd_
    split at hd_
    · obtain ⟨hs, hd_⟩ := staticD_some hd_
      cases hd_
      simp only [Bool.and_eq_true, decide_eq_true_eq] at hb
      obtain ⟨e0, e1⟩ := hb
      subst e0
      exact ⟨cdec_iff.1 e1, rfl, rfl⟩
    · cases hd_
noncomputable def linesP_s (cs : List Int) (nf : Bool) (now : List Sector) (sf : Bool) (sure : List Sector) (q : Int) : Option (Bool × D RC) := some (cdec (cs.length = 771 ∧ cellsOK cs = true ∧ 0 ≤ q ∧ q ≤ 2 ∧ 0 ≤ cntL cs q ∧ cntL cs q ≤ 4194304), .sl (C := RC) .line false (linesS cs q))
noncomputable def linesP_sp : List (D RC) → Option (Bool × D RC)
  | [.acons (.sl .int false cs) (.acons (.acons (.sl .sector nf now) (.acons (.sl .sector sf sure) .anil)) .anil), .int .i64 q] => linesP_s cs nf now sf sure q
  | _ => none
noncomputable def linesP_e (cs : List Int) (nf : Bool) (now : List Sector) (sf : Bool) (sure : List Sector) (q : Int) := evF s19 uk_4 80 21 [.acons (.sl (C := RC) .int false cs) (.acons (.acons (.sl (C := RC) .sector nf now) (.acons (.sl (C := RC) .sector sf sure) .anil)) .anil), .int .i64 q]
theorem linesP_eq (cs : List Int) (nf : Bool) (now : List Sector) (sf : Bool) (sure : List Sector) (q : Int) : linesP_e cs nf now sf sure q = (let Z0 : Int := (↑cs.length : Int); let Z1 : DO_ := some (D.sl RTy.line true []); let Z2 : Int := lRow (45 : Int) q (3 : Int); let Z3 : Int := List.getD cs Z2.toNat (0 : Int); let Z4 : Int := IntKind.wrap .i64 (Z3 - (1 : Int)); let Z5 : Nat := Int.toNat (Z4 + (1 : Int) - max (0 : Int) (Z3 - (16 : Int))); let Z6 : Nat := List.length ([] ++ lnD cs q Z5 Z4); let Z7 : List Line := List.reverse ([] ++ lnD cs q Z5 Z4); bif lenOK cs.length then bif Z0 != (771 : Int) then Z1 else bif decide (q < (0 : Int)) then Z1 else bif decide ((3 : Int) ≤ q) then Z1 else bif decide ((0 : Int) ≤ Z2 ∧ Z2 < Z0) then bif decide (Z3 < (0 : Int)) then Z1 else bif decide ((4194304 : Int) < Z3) then Z1 else bif cdec (OkLn cs q Z3 Z4 ((0 : Nat) + Z5)) then bif decide (Z6 = Z6) && decide (Z6 ≤ (1000 : Nat)) then bif Nat.beq Z6 Z7.length then some (D.sl RTy.line false Z7) else none else none else none else none else none) := by kernel_rfl
theorem linesP_ok (cs : List Int) (nf : Bool) (now : List Sector) (sf : Bool) (sure : List Sector) (q : Int) (h : (cdec (cs.length = 771 ∧ cellsOK cs = true ∧ 0 ≤ q ∧ q ≤ 2 ∧ 0 ≤ cntL cs q ∧ cntL cs q ≤ 4194304)) = true) : linesP_e cs nf now sf sure q = some (.sl (C := RC) .line false (linesS cs q)) := by
  (rw [linesP_eq]; conv => zeta)
  obtain ⟨hl, hc, q0, q2, o0, o1⟩ := cdec_iff.1 h
  have e0 : lRow 45 q 3 = 45 + q := lRow_in q0 (by omega)
  have b1 : decide (0 ≤ lRow 45 q 3 ∧ lRow 45 q 3 < (cs.length : Int)) = true := decide_eq_true ⟨by omega, by omega⟩
  have eC : cs.getD (lRow 45 q 3).toNat 0 = cntL cs q := rfl
  unfold linesS
  rw [eC]
  generalize cntL cs q = O at *
  have w1 : IntKind.i64.wrap (O - 1) = O - 1 := wrap_id (by omega) (by omega)
  have e1 : O - 1 + 1 - max 0 (O - 16) = O - max 0 (O - 16) := by omega
  have l1 : lenOK cs.length = true := lenOK_of (by omega)
  have n1 : ((cs.length : Int) != 771) = false := ibneF (by omega)
  have c1 : decide (q < 0) = false := decide_eq_false (by omega)
  have c2 : decide (3 ≤ q) = false := decide_eq_false (by omega)
  have c3 : decide (O < 0) = false := decide_eq_false (by omega)
  have c4 : decide (4194304 < O) = false := decide_eq_false (by omega)
  have hn := lnD_len cs q (O - max 0 (O - 16)).toNat (O - 1)
  have k1 : cdec (OkLn cs q O (O - 1) (0 + (O - max 0 (O - 16)).toNat)) = true := cdec_true ⟨hl, hc, q0, q2, o0, o1, by omega, by omega, by omega⟩
  have k2 : decide ((lnD cs q (O - max 0 (O - 16)).toNat (O - 1)).length ≤ 1000) = true := decide_eq_true (by omega)
  simp only [l1, n1, c1, c2, b1, c3, c4, w1, e1, k1, k2, List.nil_append, List.append_nil, List.length_reverse, nbeqT rfl, decide_true, Bool.and_self, cond_true, cond_false]
noncomputable def uk_5 := uk_4.addSpec 21 linesP_sp
theorem uk_5_laws : FLaws Tryz.prog s19 uk_5 := uk_4_laws.addEv s19_laws fun args d h => by
  unfold linesP_sp at h
  split at h
  · unfold linesP_s at h
    have h1 := congrArg Prod.fst (Option.some.inj h)
    obtain rfl : _ = d := congrArg Prod.snd (Option.some.inj h)
    exact ⟨by simp [D.refs], 80, linesP_ok _ _ _ _ _ _ h1⟩
  · cases h
noncomputable def linesR_s (cs : List Int) (nf : Bool) (now : List Sector) (sf : Bool) (sure : List Sector) (q : Int) : Option (Bool × D RC) := some (cdec (cs.length = 771 ∧ cellsOK cs = true ∧ 0 ≤ q ∧ q ≤ 2 ∧ 0 ≤ cntL cs q ∧ cntL cs q ≤ 4194304), .sl (C := RC) .line false (linesS cs q))
noncomputable def linesR_sp : List (D RC) → Option (Bool × D RC)
  | [.acons (.sl .int false cs) (.acons (.acons (.sl .sector nf now) (.acons (.sl .sector sf sure) .anil)) .anil), .int .i64 q] => linesR_s cs nf now sf sure q
  | _ => none
noncomputable def linesR_e (cs : List Int) (nf : Bool) (now : List Sector) (sf : Bool) (sure : List Sector) (q : Int) := evF s19 uk_5 80 22 [.acons (.sl (C := RC) .int false cs) (.acons (.acons (.sl (C := RC) .sector nf now) (.acons (.sl (C := RC) .sector sf sure) .anil)) .anil), .int .i64 q]
theorem linesR_eq (cs : List Int) (nf : Bool) (now : List Sector) (sf : Bool) (sure : List Sector) (q : Int) : linesR_e cs nf now sf sure q = (let Z0 : Int := (↑cs.length : Int); let Z1 : DO_ := some (D.sl RTy.line true []); let Z2 : Int := lRow (45 : Int) q (3 : Int); let Z3 : Int := List.getD cs Z2.toNat (0 : Int); let Z4 : Int := IntKind.wrap .i64 (Z3 - (1 : Int)); let Z5 : Nat := Int.toNat (Z4 + (1 : Int) - max (0 : Int) (Z3 - (16 : Int))); let Z6 : List Line := List.reverse (lnD cs q Z5 Z4) ++ []; bif lenOK cs.length then bif Z0 != (771 : Int) then Z1 else bif decide (q < (0 : Int)) then Z1 else bif decide ((3 : Int) ≤ q) then Z1 else bif decide ((0 : Int) ≤ Z2 ∧ Z2 < Z0) then bif decide (Z3 < (0 : Int)) then Z1 else bif decide ((4194304 : Int) < Z3) then Z1 else bif cdec (OkLn cs q Z3 Z4 ((0 : Nat) + Z5)) then bif Nat.beq Z6.length Z6.length then some (D.sl RTy.line false Z6) else none else none else none else none) := by kernel_rfl
theorem linesR_ok (cs : List Int) (nf : Bool) (now : List Sector) (sf : Bool) (sure : List Sector) (q : Int) (h : (cdec (cs.length = 771 ∧ cellsOK cs = true ∧ 0 ≤ q ∧ q ≤ 2 ∧ 0 ≤ cntL cs q ∧ cntL cs q ≤ 4194304)) = true) : linesR_e cs nf now sf sure q = some (.sl (C := RC) .line false (linesS cs q)) := by
  (rw [linesR_eq]; conv => zeta)
  obtain ⟨hl, hc, q0, q2, o0, o1⟩ := cdec_iff.1 h
  have e0 : lRow 45 q 3 = 45 + q := lRow_in q0 (by omega)
  have b1 : decide (0 ≤ lRow 45 q 3 ∧ lRow 45 q 3 < (cs.length : Int)) = true := decide_eq_true ⟨by omega, by omega⟩
  have eC : cs.getD (lRow 45 q 3).toNat 0 = cntL cs q := rfl
  unfold linesS
  rw [eC]
  generalize cntL cs q = O at *
  have w1 : IntKind.i64.wrap (O - 1) = O - 1 := wrap_id (by omega) (by omega)
  have e1 : O - 1 + 1 - max 0 (O - 16) = O - max 0 (O - 16) := by omega
  have l1 : lenOK cs.length = true := lenOK_of (by omega)
  have n1 : ((cs.length : Int) != 771) = false := ibneF (by omega)
  have c1 : decide (q < 0) = false := decide_eq_false (by omega)
  have c2 : decide (3 ≤ q) = false := decide_eq_false (by omega)
  have c3 : decide (O < 0) = false := decide_eq_false (by omega)
  have c4 : decide (4194304 < O) = false := decide_eq_false (by omega)
  have hn := lnD_len cs q (O - max 0 (O - 16)).toNat (O - 1)
  have k1 : cdec (OkLn cs q O (O - 1) (0 + (O - max 0 (O - 16)).toNat)) = true := cdec_true ⟨hl, hc, q0, q2, o0, o1, by omega, by omega, by omega⟩
  have k2 : decide ((lnD cs q (O - max 0 (O - 16)).toNat (O - 1)).length ≤ 1000) = true := decide_eq_true (by omega)
  simp only [l1, n1, c1, c2, b1, c3, c4, w1, e1, k1, k2, List.nil_append, List.append_nil, List.length_reverse, nbeqT rfl, decide_true, Bool.and_self, cond_true, cond_false]
noncomputable def uk_6 := uk_5.addSpec 22 linesR_sp
theorem uk_6_laws : FLaws Tryz.prog s19 uk_6 := uk_5_laws.addEv s19_laws fun args d h => by
  unfold linesR_sp at h
  split at h
  · unfold linesR_s at h
    have h1 := congrArg Prod.fst (Option.some.inj h)
    obtain rfl : _ = d := congrArg Prod.snd (Option.some.inj h)
    exact ⟨by simp [D.refs], 80, linesR_ok _ _ _ _ _ _ h1⟩
  · cases h
open Go.Proofs
structure writtenR_St where
  c : Bool
  l : List Write
  i : Nat
def writtenR_c (c : Bool) (l : List Write) (i : Nat) : Env RC := [(0, .sl (C := RC) .write c l), (2, .bool false), (3, .int .i64 (i : Int))]
def writtenR_o (c : Bool) (l : List Write) (i : Nat) : List (Obj RC) := []
noncomputable def writtenR_r (c : Bool) (l : List Write) (i : Nat) := rndO s19 uk_6 37 4 40 0 [0, 2, 3] [2] [] (writtenR_c c l i) (writtenR_o c l i)
theorem writtenR_eq (c : Bool) (l : List Write) (i : Nat) : writtenR_r c l i = (let Z0 : Int := (↑i : Int); let Z1 : Int := (↑l.length : Int); let Z2 : Bool := decide ((0 : Int) ≤ Z0 ∧ Z0 < Z1); let Z3 : Write := Write.mk (0 : Int) (0 : Int); let Z4 : Write := List.getD l Z0.toNat Z3; let Z5 : Int := Write.key Z4; let Z6 : RO_ := some ((X.ret, [(2, D.bool false)]), []); let Z7 : Int := IntKind.wrap .i64 (Z0 - (1 : Int)); let Z8 : RO_ := some ((X.normal, [(0, D.sl RTy.write c l), (2, D.bool false), (3, D.int .i64 (IntKind.wrap .i64 (Z0 + (1 : Int))))]), []); bif lenOK l.length then bif decide (Z0 < Z1) then bif Z2 then bif decide (Z5 < (0 : Int)) then Z6 else bif Z2 then bif decide ((24 : Int) ≤ Z5) then Z6 else bif Z2 then bif decide (Write.value Z4 < (0 : Int)) then Z6 else bif Z2 then bif decide ((255 : Int) < Write.value Z4) then Z6 else bif decide ((0 : Int) < Z0) then bif Z2 then bif decide ((0 : Int) ≤ Z7 ∧ Z7 < Z1) then bif decide (Z5 ≤ Write.key (List.getD l Z7.toNat Z3)) then Z6 else Z8 else none else none else Z8 else none else none else none else none else some ((X.exit (0 : Nat), [(2, D.bool false)]), []) else none) := by kernel_rfl
def writtenR_fin (c : Bool) (l : List Write) (i : Nat) : RT RC := .br (eachAt oneWB twoWB l i) (.leaf (.exit 0) [(2, .bool false)] []) (.leaf .ret [(2, .bool false)] [])
def writtenR_Inv (c : Bool) (l : List Write) (i : Nat) : Prop := i ≤ l.length ∧ l.length ≤ 9223372036854775807
def writtenR_S : LoopR RC writtenR_St where
  k := 0
  canon q := writtenR_c q.c q.l q.i
  objs q := writtenR_o q.c q.l q.i
  fin q := writtenR_fin q.c q.l q.i
  Inv q := writtenR_Inv q.c q.l q.i
  μ q := q.l.length - q.i
theorem writtenR_round (c : Bool) (l : List Write) (i : Nat) (hI : writtenR_Inv c l i) : Leaf (writtenR_r c l i) (LedR writtenR_S ⟨c, l, i⟩) := by
  (rw [writtenR_eq]; conv => zeta)
  unfold writtenR_Inv at hI
  obtain ⟨h1, h2⟩ := hI
  have hlk := lenOK_of h2
  by_cases hlt : i < l.length
  · have w_succ : IntKind.i64.wrap ((i : Int) + 1) = ((i + 1 : Nat) : Int) := by rw [wrap_id (by omega) (by omega)]; simp
    have d_lt : decide ((i : Int) < l.length) = true := by simp; omega
    have d_in : decide (0 ≤ (i : Int) ∧ (i : Int) < l.length) = true := by simp; omega
    have t_nat : ((i : Int)).toNat = i := by simp
    have w_pred : IntKind.i64.wrap ((i : Int) - 1) = (i : Int) - 1 := wrap_id (by omega) (by omega)
    have t_natp : ((i : Int) - 1).toNat = i - 1 := by omega
    simp only [w_succ, d_lt, d_in, t_nat, w_pred, t_natp, cond_true]
    simp only [hlk, cond_true]
    have hst := eachAt_step oneWB twoWB l i (⟨0, 0⟩ : Write) hlt
    generalize l.getD i (⟨0, 0⟩ : Write) = x at hst ⊢
    generalize l.getD (i - 1) (⟨0, 0⟩ : Write) = y at hst ⊢
    have hgo : oneWB x = true → (i = 0 ∨ twoWB y x = true) → Leaf (some ((X.normal, writtenR_c c l (i + 1)), [])) (LedR writtenR_S ⟨c, l, i⟩) := fun a b =>
      leafR_go ⟨c, l, i + 1⟩ ⟨hlt, h2⟩ (by simp only [writtenR_S]; omega) (by simp only [writtenR_S, writtenR_fin, hst, a]; rcases b with b | b <;> simp [b]) rfl rfl
    have hno : ¬ (oneWB x = true ∧ (i = 0 ∨ twoWB y x = true)) → Leaf (some ((X.ret, [(2, D.bool false)]), [])) (LedR writtenR_S ⟨c, l, i⟩) := fun he => leafR_ret [] (by
      have : eachAt oneWB twoWB l i = false := by rw [hst]; simp only [Bool.and_eq_false_iff]; by_cases a : oneWB x = true <;> by_cases b : i = 0 <;> simp_all
      simp [writtenR_S, writtenR_fin, this, RT.val]) rfl
    simp only [oneWB, twoWB, withinB, Bool.and_eq_true, decide_eq_true_eq] at hgo hno
    by_cases hi : i = 0
    · have d0 : decide (0 < (i : Int)) = false := by simp; omega
      simp only [d0, cond_false]
      repeat' (first | (refine leaf_cond.2 ⟨fun hc_ => ?_, fun hc_ => ?_⟩ <;> simp only [decide_eq_true_eq, decide_eq_false_iff_not, beq_iff_eq, beq_eq_false_iff_ne, bne_iff_ne, ne_eq, Bool.not_eq_true, Bool.not_eq_false, bne_eq_false_iff_eq, decide_eq_decide, Bool.true_eq_false, Bool.false_eq_true] at hc_))
      all_goals first | (exfalso; omega) | exact hno (by omega) | (apply hgo <;> omega)
    · have d_pos : decide (0 < (i : Int)) = true := by simp; omega
      have d_inp : decide (0 ≤ (i : Int) - 1 ∧ (i : Int) - 1 < l.length) = true := by simp; omega
      simp only [d_pos, d_inp, cond_true]
      repeat' (first | (refine leaf_cond.2 ⟨fun hc_ => ?_, fun hc_ => ?_⟩ <;> simp only [decide_eq_true_eq, decide_eq_false_iff_not, beq_iff_eq, beq_eq_false_iff_ne, bne_iff_ne, ne_eq, Bool.not_eq_true, Bool.not_eq_false, bne_eq_false_iff_eq, decide_eq_decide, Bool.true_eq_false, Bool.false_eq_true] at hc_))
      all_goals first | (exfalso; omega) | exact hno (by omega) | (apply hgo <;> omega)
  · have hi : i = l.length := by omega
    have c1 : decide ((i : Int) < l.length) = false := by simp; omega
    simp only [hlk, c1, cond_true, cond_false]
    exact leafR_exit [] (by simp [writtenR_S, writtenR_fin, hi, eachAt, eachB, RT.val]) rfl
def writtenR_d (env : Env RC) (os : List (Obj RC)) : Option (Bool × writtenR_St) := match env, os with
  | [(0, .sl .write c l), (2, .bool false), (3, .int .i64 x0)], [] => staticD (true) (decide (x0 = 0) && decide (l.length ≤ 9223372036854775807), ⟨c, l, 0⟩)
  | _, _ => none
noncomputable def ul_1 := uk_6.addLoop 37 4 (sumR s19 [] [0, 2, 3] writtenR_S writtenR_d)
theorem ul_1_laws : FLaws Tryz.prog s19 ul_1 := by
  refine uk_6_laws.addRoundsR s19_laws (by kernel_rfl) writtenR_S 40 [0, 2, 3] [2] [] [0, 2, 3] writtenR_d (fun q hI => ?_) ?_
  · obtain ⟨c, l, i⟩ := q
    refine ⟨?_, ?_, writtenR_round c l i hI⟩
    · simp_all [RefsOK, writtenR_S, writtenR_c, writtenR_o, writtenR_Inv, D.refs, Obj.refs, rEnc]
    · simp_all [writtenR_S, writtenR_fin, writtenR_o, writtenR_Inv, RT.refsOK, RefsOK, D.refs, Obj.refs, rEnc]
  · intro env os b q hd_ hb
    unfold writtenR_d at hd_
    split at hd_
    · obtain ⟨hs, hd_⟩ := staticD_some hd_
      cases hd_
      simp only [Bool.and_eq_true, decide_eq_true_eq] at hb
      obtain ⟨rfl, hl⟩ := hb
      exact ⟨⟨Nat.zero_le _, hl⟩, rfl, rfl⟩
    · cases hd_
def writtenRf_s (c : Bool) (l : List Write) : Option (Bool × D RC) := some (lenOK l.length, .bool (writtenL l))
def writtenRf_sp : List (D RC) → Option (Bool × D RC)
  | [.sl .write c l] => writtenRf_s c l
  | _ => none
noncomputable def writtenRf_e (c : Bool) (l : List Write) := evF s19 ul_1 40 37 [.sl (C := RC) .write c l]
theorem writtenRf_eq (c : Bool) (l : List Write) : writtenRf_e c l = (let Z0 : Nat := List.length l; bif lenOK Z0 then bif decide ((4 : Int) < (↑Z0 : Int)) then some (D.bool false) else bif decide (Z0 ≤ (9223372036854775807 : Nat)) then bif eachAt oneWB twoWB l (0 : Nat) then some (D.bool true) else some (D.bool false) else none else none) := by kernel_rfl
theorem writtenRf_ok (c : Bool) (l : List Write) (h : (lenOK l.length) = true) : writtenRf_e c l = some (.bool (writtenL l)) := by
  (rw [writtenRf_eq]; conv => zeta)
  have h2 : l.length ≤ 9223372036854775807 := lenOK_le h
  rw [writtenL, h]
  by_cases h4 : l.length ≤ 4
  · have : ¬ (4 : Int) < l.length := by omega
    simp [h4, h2, this]
    cases eachAt oneWB twoWB l 0 <;> rfl
  · have : (4 : Int) < l.length := by omega
    simp [h4, this]
noncomputable def ul_2 := ul_1.addSpec 37 writtenRf_sp
theorem ul_2_laws : FLaws Tryz.prog s19 ul_2 := ul_1_laws.addEv s19_laws fun args d h => by
  unfold writtenRf_sp at h
  split at h
  · unfold writtenRf_s at h
    have h1 := congrArg Prod.fst (Option.some.inj h)
    obtain rfl : _ = d := congrArg Prod.snd (Option.some.inj h)
    exact ⟨by simp [D.refs], 40, writtenRf_ok _ _ h1⟩
  · cases h
def mayR_s (p : Int) (y : Bool) (c : Bool) (l : List Write) : Option (Bool × D RC) := some (lenOK l.length, .bool (mayB ⟨p, y, l⟩))
def mayR_sp : List (D RC) → Option (Bool × D RC)
  | [.acons (.int .i64 p) (.acons (.bool y) (.acons (.sl .write c l) .anil))] => mayR_s p y c l
  | _ => none
noncomputable def mayR_e (p : Int) (y : Bool) (c : Bool) (l : List Write) := evF s19 ul_2 40 23 [.acons (.int .i64 p) (.acons (.bool y) (.acons (.sl (C := RC) .write c l) .anil))]
theorem mayR_eq (p : Int) (y : Bool) (c : Bool) (l : List Write) : mayR_e p y c l = (let Z0 : Bool := lenOK l.length; let Z1 : DO_ := some (D.bool false); bif decide ((1 : Int) ≤ p) then bif decide (p ≤ (1048575 : Int)) then bif Z0 then bif writtenL l then bif y then some (D.bool true) else bif Z0 then some (D.bool ((↑l.length : Int) == (0 : Int))) else none else Z1 else none else Z1 else Z1) := by kernel_rfl
theorem mayR_ok (p : Int) (y : Bool) (c : Bool) (l : List Write) (h : (lenOK l.length) = true) : mayR_e p y c l = some (.bool (mayB ⟨p, y, l⟩)) := by
  (rw [mayR_eq]; conv => zeta)
  have h3 : (((l.length : Nat) : Int) = 0) ↔ l.length = 0 := by omega
  simp only [mayB, h, withinB]
  cases decide (1 ≤ p) <;> cases decide (p ≤ 1048575) <;> cases writtenL l <;> cases y <;> simp [h3]
  cases l <;> simp
  omega
noncomputable def ul_3 := ul_2.addSpec 23 mayR_sp
theorem ul_3_laws : FLaws Tryz.prog s19 ul_3 := ul_2_laws.addEv s19_laws fun args d h => by
  unfold mayR_sp at h
  split at h
  · unfold mayR_s at h
    have h1 := congrArg Prod.fst (Option.some.inj h)
    obtain rfl : _ = d := congrArg Prod.snd (Option.some.inj h)
    exact ⟨by simp [D.refs], 40, mayR_ok _ _ _ _ h1⟩
  · cases h
structure sameLinesR_St where
  c : Bool
  l : List Line
  d : Bool
  m : List Line
  i : Nat
def sameLinesR_c (c : Bool) (l : List Line) (d : Bool) (m : List Line) (i : Nat) : Env RC := [(0, .sl (C := RC) .line c l), (1, .sl (C := RC) .line d m), (4, .bool false), (5, .int .i64 (i : Int))]
def sameLinesR_o (c : Bool) (l : List Line) (d : Bool) (m : List Line) (i : Nat) : List (Obj RC) := []
noncomputable def sameLinesR_r (c : Bool) (l : List Line) (d : Bool) (m : List Line) (i : Nat) := rndO s19 ul_3 20 4 40 0 [0, 1, 4, 5] [4] [] (sameLinesR_c c l d m i) (sameLinesR_o c l d m i)
theorem sameLinesR_eq (c : Bool) (l : List Line) (d : Bool) (m : List Line) (i : Nat) : sameLinesR_r c l d m i = (let Z0 : Int := (↑i : Int); let Z1 : Line := Line.mk (0 : Int) (0 : Int) (0 : Int) (0 : Int) (0 : Int); let Z2 : Line := List.getD l Z0.toNat Z1; let Z3 : Line := List.getD m Z0.toNat Z1; bif lenOK l.length then bif decide (Z0 < (↑l.length : Int)) then bif decide ((0 : Int) ≤ Z0 ∧ Z0 < (↑l.length : Int)) then bif decide ((0 : Int) ≤ Z0 ∧ Z0 < (↑m.length : Int)) then bif !(Line.offset Z2 == Line.offset Z3 && (Line.place Z2 == Line.place Z3 && (Line.j Z2 == Line.j Z3 && (Line.key Z2 == Line.key Z3 && (Line.value Z2 == Line.value Z3 && true))))) then some ((X.ret, [(4, D.bool false)]), []) else some ((X.normal, [(0, D.sl RTy.line c l), (1, D.sl RTy.line d m), (4, D.bool false), (5, D.int .i64 (IntKind.wrap .i64 (Z0 + (1 : Int))))]), []) else none else none else some ((X.exit (0 : Nat), [(4, D.bool false)]), []) else none) := by kernel_rfl
def sameLinesR_fin (c : Bool) (l : List Line) (d : Bool) (m : List Line) (i : Nat) : RT RC := .br (decide (l.drop i = m.drop i)) (.leaf (.exit 0) [(4, .bool false)] []) (.leaf .ret [(4, .bool false)] [])
def sameLinesR_Inv (c : Bool) (l : List Line) (d : Bool) (m : List Line) (i : Nat) : Prop := i ≤ l.length ∧ l.length ≤ 9223372036854775807 ∧ l.length = m.length
def sameLinesR_S : LoopR RC sameLinesR_St where
  k := 0
  canon q := sameLinesR_c q.c q.l q.d q.m q.i
  objs q := sameLinesR_o q.c q.l q.d q.m q.i
  fin q := sameLinesR_fin q.c q.l q.d q.m q.i
  Inv q := sameLinesR_Inv q.c q.l q.d q.m q.i
  μ q := q.l.length - q.i
theorem sameLinesR_round (c : Bool) (l : List Line) (d : Bool) (m : List Line) (i : Nat) (hI : sameLinesR_Inv c l d m i) : Leaf (sameLinesR_r c l d m i) (LedR sameLinesR_S ⟨c, l, d, m, i⟩) := by
  (rw [sameLinesR_eq]; conv => zeta)
  unfold sameLinesR_Inv at hI
  obtain ⟨h1, h2, h3⟩ := hI
  have hlk := lenOK_of h2
  by_cases hlt : i < l.length
  · have w_succ : IntKind.i64.wrap ((i : Int) + 1) = ((i + 1 : Nat) : Int) := by rw [wrap_id (by omega) (by omega)]; simp
    have d_lt : decide ((i : Int) < l.length) = true := by simp; omega
    have d_in : decide (0 ≤ (i : Int) ∧ (i : Int) < l.length) = true := by simp; omega
    have t_nat : ((i : Int)).toNat = i := by simp
    simp only [w_succ, d_lt, d_in, t_nat, cond_true]
    have hlt' : i < m.length := by omega
    have d_in' : decide (0 ≤ (i : Int) ∧ (i : Int) < m.length) = true := by simp; omega
    have hst := drops_step l m i (⟨0, 0, 0, 0, 0⟩ : Line) hlt h3
    simp only [d_in', cond_true, hlk, eqLine]
    generalize l.getD i (⟨0, 0, 0, 0, 0⟩ : Line) = x at hst ⊢
    generalize m.getD i (⟨0, 0, 0, 0, 0⟩ : Line) = y at hst ⊢
    by_cases hxy : x = y
    · simp only [hxy, decide_true, Bool.not_true, cond_false]
      exact leafR_go ⟨c, l, d, m, i + 1⟩ ⟨hlt, h2, h3⟩ (by simp only [sameLinesR_S]; omega) (by simp only [sameLinesR_S, sameLinesR_fin, hst, hxy, decide_true, Bool.true_and]) rfl rfl
    · simp only [hxy, decide_false, Bool.not_false, cond_true]
      exact leafR_ret [] (by simp [sameLinesR_S, sameLinesR_fin, hst, hxy, RT.val]) rfl
  · have hi : i = l.length := by omega
    have c1 : decide ((i : Int) < l.length) = false := by simp; omega
    simp only [hlk, cond_true, c1, cond_false]
    exact leafR_exit [] (by simp only [sameLinesR_S, sameLinesR_fin, drops_end l m i (by omega) (by omega), RT.val, cond_true]) rfl
def sameLinesR_d (env : Env RC) (os : List (Obj RC)) : Option (Bool × sameLinesR_St) := match env, os with
  | [(0, .sl .line c l), (1, .sl .line d m), (4, .bool false), (5, .int .i64 x0)], [] => staticD (true) (decide (x0 = 0) && decide (l.length ≤ 9223372036854775807 ∧ l.length = m.length), ⟨c, l, d, m, 0⟩)
  | _, _ => none
noncomputable def ul_4 := ul_3.addLoop 20 4 (sumR s19 [] [0, 1, 4, 5] sameLinesR_S sameLinesR_d)
theorem ul_4_laws : FLaws Tryz.prog s19 ul_4 := by
  refine ul_3_laws.addRoundsR s19_laws (by kernel_rfl) sameLinesR_S 40 [0, 1, 4, 5] [4] [] [0, 1, 4, 5] sameLinesR_d (fun q hI => ?_) ?_
  · obtain ⟨c, l, d, m, i⟩ := q
    refine ⟨?_, ?_, sameLinesR_round c l d m i hI⟩
    · simp_all [RefsOK, sameLinesR_S, sameLinesR_c, sameLinesR_o, sameLinesR_Inv, D.refs, Obj.refs, rEnc]
    · simp_all [sameLinesR_S, sameLinesR_fin, sameLinesR_o, sameLinesR_Inv, RT.refsOK, RefsOK, D.refs, Obj.refs, rEnc]
  · intro env os b q hd_ hb
    unfold sameLinesR_d at hd_
    split at hd_
    · obtain ⟨hs, hd_⟩ := staticD_some hd_
      cases hd_
      simp only [Bool.and_eq_true, decide_eq_true_eq] at hb
      obtain ⟨rfl, hl⟩ := hb
      exact ⟨⟨Nat.zero_le _, hl.1, hl.2⟩, rfl, rfl⟩
    · cases hd_
def sameLinesRf_s (c : Bool) (l : List Line) (d : Bool) (m : List Line) : Option (Bool × D RC) := some (lenOK l.length && lenOK m.length, .bool (decide (l = m)))
def sameLinesRf_sp : List (D RC) → Option (Bool × D RC)
  | [.sl .line c l, .sl .line d m] => sameLinesRf_s c l d m
  | _ => none
noncomputable def sameLinesRf_e (c : Bool) (l : List Line) (d : Bool) (m : List Line) := evF s19 ul_4 40 20 [.sl (C := RC) .line c l, .sl (C := RC) .line d m]
theorem sameLinesRf_eq (c : Bool) (l : List Line) (d : Bool) (m : List Line) : sameLinesRf_e c l d m = (let Z0 : Nat := List.length l; let Z1 : Nat := List.length m; bif lenOK Z0 then bif lenOK Z1 then bif (↑Z0 : Int) != (↑Z1 : Int) then some (D.bool false) else bif decide (Z0 ≤ (9223372036854775807 : Nat) ∧ Z0 = Z1) then bif decide (List.drop (0 : Nat) l = List.drop (0 : Nat) m) then some (D.bool true) else some (D.bool false) else none else none else none) := by kernel_rfl
theorem sameLinesRf_ok (c : Bool) (l : List Line) (d : Bool) (m : List Line) (h : (lenOK l.length && lenOK m.length) = true) : sameLinesRf_e c l d m = some (.bool (decide (l = m))) := by
  (rw [sameLinesRf_eq]; conv => zeta)
  simp only [Bool.and_eq_true] at h
  have h1 : l.length ≤ 9223372036854775807 := lenOK_le h.1
  simp only [h.1, h.2, cond_true]
  by_cases hl : l.length = m.length
  · have e1 : ((l.length : Int) != (m.length : Int)) = false := by simp [hl]
    have e2 : (l.length ≤ 9223372036854775807 ∧ l.length = m.length) := ⟨h1, hl⟩
    rw [e1, decide_eq_true e2]
    simp only [cond_true, cond_false, List.drop_zero]
    cases decide (l = m) <;> rfl
  · have e1 : ((l.length : Int) != (m.length : Int)) = true := by simp; omega
    have : ¬ l = m := fun e => hl (by rw [e])
    simp [e1, this]
noncomputable def ul_5 := ul_4.addSpec 20 sameLinesRf_sp
theorem ul_5_laws : FLaws Tryz.prog s19 ul_5 := ul_4_laws.addEv s19_laws fun args d h => by
  unfold sameLinesRf_sp at h
  split at h
  · unfold sameLinesRf_s at h
    have h1 := congrArg Prod.fst (Option.some.inj h)
    obtain rfl : _ = d := congrArg Prod.snd (Option.some.inj h)
    exact ⟨by simp [D.refs], 40, sameLinesRf_ok _ _ _ _ h1⟩
  · cases h
theorem one_at {nx : Frame → List Int → NA} {n : Nat} {f : Frame} {got : List Int} {e : Bool} (h : (nx f got).a.kind < 6) : goN nx (n + 1) [f] got e = ⟨[(nx f got).f], got, e, (nx f got).a, (nx f got).fl, true⟩ := by
  have ht : topF [f] = f := rfl
  rw [goN, if_neg (by simp), ht, if_pos h]
  unfold tkSt
  rw [if_pos h]
  rfl
theorem one_end {nx : Frame → List Int → NA} {n : Nat} {f : Frame} {got : List Int} {e : Bool} (h : (nx f got).a.kind = 7) : goN nx (n + 2) [f] got e = ⟨[], (nx f got).a.args, false, act0, true, false⟩ := by
  have ht : topF [f] = f := rfl
  rw [goN, if_neg (by simp), ht, if_neg (by omega)]
  unfold tkSt tkGot tkFl
  rw [if_neg (by omega), if_neg (by omega), if_neg (by omega), if_neg (by omega), if_neg (by omega)]
  rw [show ([f] : List Frame).dropLast = [] from rfl, goN, if_pos rfl, decide_eq_false (by omega)]
theorem okN_one {nx : Frame → List Int → NA} {ok : Frame → List Int → Prop} {f : Frame} {got : List Int} (h1 : got.length ≤ 96) (h2 : ok f got) (h3 : mayN (nx f got).a = true) (h4 : 0 ≤ (nx f got).a.kind ∧ (nx f got).a.kind < 6 ∨ (nx f got).a.kind = 7) : OkN nx ok 64 [f] got := by
  have ht : topF [f] = f := rfl
  refine .inr ⟨by simp, by simp, h1, by rw [ht]; exact h2, by rw [ht]; exact h3, by rw [ht]; omega, by rw [ht]; omega, ?_⟩
  rw [ht]
  rcases h4 with h4 | h4
  · exact .inl h4.2
  · refine .inr ⟨fun q => by omega, ?_⟩
    unfold tkSt
    rw [if_neg (by omega), if_neg (by omega)]
    exact .inl rfl
theorem AtS.may {n : Int} {A : Action} (h : AtS n A) (h0 : 0 ≤ n) (hn : n ≤ 900000) : mayN A = true ∧ 0 ≤ A.kind ∧ A.kind < 6 := by
  obtain ⟨h1, h2, h3, h4, h5, h6⟩ := h
  refine ⟨decide_eq_true ?_, ?_⟩
  · rw [h1, h2, h3]
    unfold bigW at h6
    rcases h6 with ⟨k, b, v⟩ | ⟨k, b0, b1, hv⟩
    · rw [k, b, v]
      exact MayA.k0.2 ⟨⟨by decide, by decide, by decide, by decide, by decide, by decide, by decide, by decide, by omega, by omega⟩, rfl, rfl, rfl, rfl⟩
    · have hv := hv.big h4 (by omega)
      unfold bigW at hv
      rw [k]
      exact MayA.k2.2 ⟨⟨by omega, by omega, by omega, by omega, by decide, by decide, by decide, by decide, by omega, by omega⟩, rfl, rfl⟩
  · rcases h6 with ⟨k, _⟩ | ⟨k, _⟩ <;> omega
structure SC (n : Int) (cs : List Int) : Prop where
  len : cs.length = 771
  ok : cellsOK cs = true
  ty : ∀ a : Int, 45 ≤ a → a ≤ 98 → TyS n a (cs.getD a.toNat 0)
theorem TyS.mono {n n' a v : Int} (h : TyS n a v) (hn : n ≤ n') : TyS n' a v := ⟨h.1, fun q => by have := h.2.1 q; omega, h.2.2.1, h.2.2.2⟩
theorem SC.mono {n n' : Int} {cs : List Int} (h : SC n cs) (hn : n ≤ n') : SC n' cs := ⟨h.len, h.ok, fun a h1 h2 => (h.ty a h1 h2).mono hn⟩
theorem AtS.does {n : Int} {A : Action} {cs : List Int} (h : AtS n A) (hc : SC n cs) (h0 : 0 ≤ n) (hn : n ≤ 900000) :
    OkDo4 cs A.kind A.a A.b A.v ∧ SC (n + 1) (doC4 cs A.kind A.a A.b A.v) ∧ RsS n A (doG4 cs A.kind A.a A.b) ∧ (doC4 cs A.kind A.a A.b A.v).getD 0 0 = cs.getD 0 0 := by
  obtain ⟨h1, h2, h3, h4, h5, h6⟩ := h
  have hl := hc.len
  rcases h6 with ⟨k, b, v⟩ | ⟨k, b0, b1, hv⟩
  · rw [k, b, v, doC4_load, doG4_load]
    exact ⟨⟨.inl ⟨rfl, rfl, rfl⟩, by omega, by omega, by decide, by decide, by decide, by decide⟩, hc.mono (by omega), .inl ⟨k, hc.ty _ h4 h5⟩, rfl⟩
  · have hb := hv.big h4 (by omega)
    unfold bigW at b1 hb
    rw [k, doC4_cas, doG4_cas]
    refine ⟨⟨.inr (.inr (.inl rfl)), by omega, by omega, by omega, by omega, by omega, by omega⟩, ?_, .inr ⟨k, by split <;> simp⟩, ?_⟩
    · split
      · refine ⟨by rw [List.length_set]; exact hl, cellsOK_set hc.ok (by omega), fun a q1 q2 => ?_⟩
        rw [getD_set _ _ _ _ _ (by omega)]
        split
        · rename_i e
          rw [show a = A.a by omega]; exact hv
        · exact (hc.ty a q1 q2).mono (by omega)
      · exact hc.mono (by omega)
    · split
      · rw [getD_set_ne' (by omega)]
      · rfl
structure SS where
  cs : List Int
  ts : List Task
  us : List Task
  busy : List Bool
  at' : List Int
  jj : List Int
  kind : List Int
  a0 : List Int
  a1 : List Int
  a2 : List Int
  a3 : List Int
def sBusy (s : SS) (c : Int) : Bool := s.busy.getD c.toNat false
def mk1 (c p : Int) (l : List Int) : Task := ⟨c, [⟨p, 0, regs1 l⟩], [], false⟩
def beginS (s : SS) (c p : Int) (l : List Int) : SS := { s with ts := s.ts.set c.toNat (mk1 c p l), us := s.us.set c.toNat (mk1 c p l), busy := s.busy.set c.toNat true }
def SCl (n c : Int) (t u : Task) : Prop := ∃ k got,
  (∃ r, t = ⟨c, [⟨76, k, r⟩], got, false⟩ ∧ u = ⟨c, [⟨76, k, r⟩], got, false⟩ ∧ R76 n k r got ∧ (nApp k r (got.headD 0)).a.kind ≠ 7) ∨
  (∃ r q, t = ⟨c, [⟨77, k, r⟩], got, false⟩ ∧ u = ⟨c, [⟨77, k, q⟩], got, false⟩ ∧ R77 n k r q got ∧ (fA k r (got.headD 0)).a.kind ≠ 7)
theorem SCl.mono {n n' c : Int} {t u : Task} (h : SCl n c t u) (hn : n ≤ n') : SCl n' c t u := by
  obtain ⟨k, got, ⟨r, h1, h2, h3, h4⟩ | ⟨r, q, h1, h2, h3, h4⟩⟩ := h
  · exact ⟨k, got, .inl ⟨r, h1, h2, h3.mono hn, h4⟩⟩
  · exact ⟨k, got, .inr ⟨r, q, h1, h2, h3.mono hn, h4⟩⟩
def SEnd (n c : Int) (t u : Task) : Prop := OkEnd nStr okStr c t u ∧ ((goT nStr false t).is = true → SCl n c t u)
theorem mayEn {l : List Int} (h : l.length ≤ 96) : mayN ⟨7, 0, 0, 0, 0, [], l⟩ = true := decide_eq_true (by
  show MayA 7 0 0 0 0 ([] : List UInt8).length l.length
  unfold MayA; simp; omega)
theorem act_eta7 {A : Action} (h : A.kind = 7) (g : A.gen = 0) (a : A.a = 0) (b : A.b = 0) (v : A.v = 0) (t : A.text = []) : A = ⟨7, 0, 0, 0, 0, [], A.args⟩ := by
  obtain ⟨k', a', b', v', g', t', l'⟩ := A
  simp only at h g a b v t
  subst h; subst g; subst a; subst b; subst v; subst t
  rfl
theorem end76 {n c k : Int} {r got : List Int} (h : R76 n k r got) (h0 : 0 ≤ n) (hn : n ≤ 900000) (c0 : 0 ≤ c) (c3 : c ≤ 3) : SEnd n c ⟨c, [⟨76, k, r⟩], got, false⟩ ⟨c, [⟨76, k, r⟩], got, false⟩ := by
  have hok := fun own => h.ok (by omega) own
  have hg : got.length ≤ 96 := by
    rcases h.2.2 with ⟨_, rfl⟩ | ⟨x, rfl, _⟩ <;> simp
  obtain ⟨hs, he⟩ := app_step h h0 (by omega)
  have eN : ∀ own, nStr own ⟨76, k, r⟩ got = nApp k r (got.headD 0) := fun own => rfl
  rcases hs with ⟨k7, hN⟩ | ⟨hA, hfl, hp, hn2⟩
  · have ha := he k7
    have hm : mayN (nApp k r (got.headD 0)).a = true := by
      rw [hN, ha]; exact mayEn (by simp)
    have gE : ∀ own, goT nStr own ⟨c, [⟨76, k, r⟩], got, false⟩ = ⟨[], [], false, act0, true, false⟩ := fun own => by
      unfold goT
      rw [one_end (n := 62) (by rw [eN]; exact k7), eN, ha]
    refine ⟨⟨⟨by simp, okN_one hg (hok false) (by rw [eN]; exact hm) (.inr (by rw [eN]; exact k7)), rfl, rfl⟩, ⟨by simp, okN_one hg (hok true) (by rw [eN]; exact hm) (.inr (by rw [eN]; exact k7)), rfl, rfl⟩, by rw [gE, gE], fun q => (by rw [gE] at q; cases q), fun _ => by rw [gE, gE]; exact ⟨rfl, rfl, rfl, by simp⟩⟩, fun q => by rw [gE] at q; cases q⟩
  · obtain ⟨hm, k0, k6⟩ := hA.may h0 (by omega)
    have gE : ∀ own, goT nStr own ⟨c, [⟨76, k, r⟩], got, false⟩ = ⟨[(nApp k r (got.headD 0)).f], got, false, (nApp k r (got.headD 0)).a, (nApp k r (got.headD 0)).fl, true⟩ := fun own => by
      unfold goT
      rw [one_at (n := 63) (by rw [eN]; exact k6), eN]
    refine ⟨⟨⟨by simp, okN_one hg (hok false) (by rw [eN]; exact hm) (.inl (by rw [eN]; exact ⟨k0, k6⟩)), rfl, rfl⟩, ⟨by simp, okN_one hg (hok true) (by rw [eN]; exact hm) (.inl (by rw [eN]; exact ⟨k0, k6⟩)), rfl, rfl⟩, by rw [gE, gE], fun _ => by rw [gE, gE]; exact ⟨rfl, by show (nApp k r (got.headD 0)).a.args.length ≤ 96; rw [hA.2.2.1]; simp⟩, fun q => by rw [gE] at q; cases q⟩, fun _ => ⟨k, got, .inl ⟨r, rfl, rfl, h, by omega⟩⟩⟩
theorem end77 {n c k : Int} {r q got : List Int} (h : R77 n k r q got) (h0 : 0 ≤ n) (hn : n ≤ 900000) (c0 : 0 ≤ c) (c3 : c ≤ 3) : SEnd n c ⟨c, [⟨77, k, r⟩], got, false⟩ ⟨c, [⟨77, k, q⟩], got, false⟩ := by
  obtain ⟨ok1, ok2⟩ := h.ok (by omega)
  have hg : got.length ≤ 96 := by
    rcases h.2.2.2.2 with ⟨_, rfl⟩ | ⟨x, rfl, _⟩ <;> simp
  obtain ⟨e1, e2, e3, e4, e5, hs⟩ := fe_step h h0 (by omega)
  have eA : nStr false ⟨77, k, r⟩ got = fA k r (got.headD 0) := rfl
  have eB : nStr true ⟨77, k, q⟩ got = fB k q (got.headD 0) := rfl
  rcases hs with ⟨k7, z1, z2, z3, z4, z5, z6⟩ | ⟨hA, hfl, hn2⟩
  · have hm : mayN (fA k r (got.headD 0)).a = true := by
      rw [act_eta7 k7 z1 z2 z3 z4 z5]; exact mayEn (by omega)
    have gA : goT nStr false ⟨c, [⟨77, k, r⟩], got, false⟩ = ⟨[], (fA k r (got.headD 0)).a.args, false, act0, true, false⟩ := by
      unfold goT
      rw [one_end (n := 62) (by rw [eA]; exact k7), eA]
    have gB : goT nStr true ⟨c, [⟨77, k, q⟩], got, false⟩ = ⟨[], (fA k r (got.headD 0)).a.args, false, act0, true, false⟩ := by
      unfold goT
      rw [one_end (n := 62) (by rw [eB, ← e1]; exact k7), eB, ← e1]
    refine ⟨⟨⟨by simp, okN_one hg ok1 (by rw [eA]; exact hm) (.inr (by rw [eA]; exact k7)), rfl, rfl⟩, ⟨by simp, okN_one hg ok2 (by rw [eB, ← e1]; exact hm) (.inr (by rw [eB, ← e1]; exact k7)), rfl, rfl⟩, by rw [gA, gB], fun q => (by rw [gA] at q; cases q), fun _ => by rw [gA, gB]; exact ⟨rfl, rfl, rfl, by show (fA k r (got.headD 0)).a.args.length ≤ 96; omega⟩⟩, fun q => by rw [gA] at q; cases q⟩
  · obtain ⟨hm, k0, k6⟩ := hA.may h0 (by omega)
    have gA : goT nStr false ⟨c, [⟨77, k, r⟩], got, false⟩ = ⟨[(fA k r (got.headD 0)).f], got, false, (fA k r (got.headD 0)).a, (fA k r (got.headD 0)).fl, true⟩ := by
      unfold goT
      rw [one_at (n := 63) (by rw [eA]; exact k6), eA]
    have gB : goT nStr true ⟨c, [⟨77, k, q⟩], got, false⟩ = ⟨[(fB k q (got.headD 0)).f], got, false, (fB k q (got.headD 0)).a, (fB k q (got.headD 0)).fl, true⟩ := by
      unfold goT
      rw [one_at (n := 63) (by rw [eB, ← e1]; exact k6), eB]
    refine ⟨⟨⟨by simp, okN_one hg ok1 (by rw [eA]; exact hm) (.inl (by rw [eA]; exact ⟨k0, k6⟩)), rfl, rfl⟩, ⟨by simp, okN_one hg ok2 (by rw [eB, ← e1]; exact hm) (.inl (by rw [eB, ← e1]; exact ⟨k0, k6⟩)), rfl, rfl⟩, by rw [gA, gB], fun _ => by rw [gA, gB]; exact ⟨e1, by show (fA k r (got.headD 0)).a.args.length ≤ 96; rw [hA.2.2.1]; simp⟩, fun q => by rw [gA] at q; cases q⟩, fun _ => ⟨k, got, .inr ⟨r, q, rfl, rfl, h, by omega⟩⟩⟩
theorem SCl.step {n c : Int} {t u : Task} {cs : List Int} (h : SCl n c t u) (hc : SC n cs) (h0 : 0 ≤ n) (hn : n ≤ 800000) (c0 : 0 ≤ c) (c3 : c ≤ 3) {now sure : List Sector} (d1 : diskOK now sure = true) (d2 : goodL now = true) (d3 : goodL sure = true) :
    OkStepG nStr okStr c cs t u now sure ∧ SC (n + 1) (gmCs nStr cs t) ∧ (gmCs nStr cs t).getD 0 0 = cs.getD 0 0 ∧ SEnd n c (gmT nStr false (gmX nStr cs t) t) (gmT nStr true (gmX nStr cs t) u) := by
  obtain ⟨k, got, ⟨r, rfl, rfl, hR, hk⟩ | ⟨r, q, rfl, rfl, hR, hk⟩⟩ := h
  · have hE := end76 (c := c) hR h0 (by omega) c0 c3
    obtain ⟨hs, _⟩ := app_step hR h0 (by omega)
    have eN : ∀ own, nStr own ⟨76, k, r⟩ got = nApp k r (got.headD 0) := fun own => rfl
    have hg : got.length ≤ 96 := by
      rcases hR.2.2 with ⟨_, rfl⟩ | ⟨x, rfl, _⟩ <;> simp
    rcases hs with ⟨k7, _⟩ | ⟨hA, hfl, hp, hn2⟩
    · exact absurd k7 hk
    obtain ⟨hm, k0, k6⟩ := hA.may h0 (by omega)
    have gE : ∀ own, goT nStr own ⟨c, [⟨76, k, r⟩], got, false⟩ = ⟨[(nApp k r (got.headD 0)).f], got, false, (nApp k r (got.headD 0)).a, (nApp k r (got.headD 0)).fl, true⟩ := fun own => by
      unfold goT
      rw [one_at (n := 63) (by rw [eN]; exact k6), eN]
    obtain ⟨q1, q2, q3, q4⟩ := hA.does hc h0 (by omega)
    have hX : gmX nStr cs ⟨c, [⟨76, k, r⟩], got, false⟩ = doG4 cs (nApp k r (got.headD 0)).a.kind (nApp k r (got.headD 0)).a.a (nApp k r (got.headD 0)).a.b := by unfold gmX; rw [gE]
    have hC : gmCs nStr cs ⟨c, [⟨76, k, r⟩], got, false⟩ = doC4 cs (nApp k r (got.headD 0)).a.kind (nApp k r (got.headD 0)).a.a (nApp k r (got.headD 0)).a.b (nApp k r (got.headD 0)).a.v := by unfold gmCs; rw [gE]
    have hF : (nApp k r (got.headD 0)).f = ⟨76, (nApp k r (got.headD 0)).f.at', (nApp k r (got.headD 0)).f.r⟩ := by rw [← hp]
    have hT : ∀ own x, gmT nStr own x ⟨c, [⟨76, k, r⟩], got, false⟩ = ⟨c, [⟨76, (nApp k r (got.headD 0)).f.at', (nApp k r (got.headD 0)).f.r⟩], [x], false⟩ := fun own x => by unfold gmT; rw [gE, ← hF]; rfl
    have hE2 := end76 (c := c) (hn2 _ q3) h0 (by omega) c0 c3
    rw [hX, hC, hT, hT]
    refine ⟨⟨hE.1, by rw [gE], by rw [gE]; exact ⟨by simp, hg⟩, by rw [gE]; exact ⟨by simp, hg⟩, by rw [gE]; exact ⟨hA.2.1, hA.2.2.1⟩, by rw [gE]; exact q1, by rw [gE]; show 0 ≤ (nApp k r (got.headD 0)).a.gen; rw [hA.1]; exact Int.le_refl _, hc.ok, d1, d2, d3, by rw [hX, hT, hT]; exact hE2.1⟩, q2, q4, hE2⟩
  · have hE := end77 (c := c) hR h0 (by omega) c0 c3
    obtain ⟨e1, e2, e3, e4, e5, hs⟩ := fe_step hR h0 (by omega)
    have eA : nStr false ⟨77, k, r⟩ got = fA k r (got.headD 0) := rfl
    have eB : nStr true ⟨77, k, q⟩ got = fB k q (got.headD 0) := rfl
    have hg : got.length ≤ 96 := by
      rcases hR.2.2.2.2 with ⟨_, rfl⟩ | ⟨x, rfl, _⟩ <;> simp
    rcases hs with ⟨k7, _⟩ | ⟨hA, hfl, hn2⟩
    · exact absurd k7 hk
    obtain ⟨hm, k0, k6⟩ := hA.may h0 (by omega)
    have gA : goT nStr false ⟨c, [⟨77, k, r⟩], got, false⟩ = ⟨[(fA k r (got.headD 0)).f], got, false, (fA k r (got.headD 0)).a, (fA k r (got.headD 0)).fl, true⟩ := by
      unfold goT
      rw [one_at (n := 63) (by rw [eA]; exact k6), eA]
    have gB : goT nStr true ⟨c, [⟨77, k, q⟩], got, false⟩ = ⟨[(fB k q (got.headD 0)).f], got, false, (fB k q (got.headD 0)).a, (fB k q (got.headD 0)).fl, true⟩ := by
      unfold goT
      rw [one_at (n := 63) (by rw [eB, ← e1]; exact k6), eB]
    obtain ⟨q1, q2, q3, q4⟩ := hA.does hc h0 (by omega)
    have hX : gmX nStr cs ⟨c, [⟨77, k, r⟩], got, false⟩ = doG4 cs (fA k r (got.headD 0)).a.kind (fA k r (got.headD 0)).a.a (fA k r (got.headD 0)).a.b := by unfold gmX; rw [gA]
    have hC : gmCs nStr cs ⟨c, [⟨77, k, r⟩], got, false⟩ = doC4 cs (fA k r (got.headD 0)).a.kind (fA k r (got.headD 0)).a.a (fA k r (got.headD 0)).a.b (fA k r (got.headD 0)).a.v := by unfold gmCs; rw [gA]
    have hFA : (fA k r (got.headD 0)).f = ⟨77, (fA k r (got.headD 0)).f.at', (fA k r (got.headD 0)).f.r⟩ := by rw [← e3]
    have hFB : (fB k q (got.headD 0)).f = ⟨77, (fA k r (got.headD 0)).f.at', (fB k q (got.headD 0)).f.r⟩ := by rw [e2, ← e4]
    have hTA : ∀ x, gmT nStr false x ⟨c, [⟨77, k, r⟩], got, false⟩ = ⟨c, [⟨77, (fA k r (got.headD 0)).f.at', (fA k r (got.headD 0)).f.r⟩], [x], false⟩ := fun x => by unfold gmT; rw [gA, ← hFA]; rfl
    have hTB : ∀ x, gmT nStr true x ⟨c, [⟨77, k, q⟩], got, false⟩ = ⟨c, [⟨77, (fA k r (got.headD 0)).f.at', (fB k q (got.headD 0)).f.r⟩], [x], false⟩ := fun x => by unfold gmT; rw [gB, ← hFB]; rfl
    have hE2 := end77 (c := c) (hn2 _ q3) h0 (by omega) c0 c3
    rw [hX, hC, hTA, hTB]
    refine ⟨⟨hE.1, by rw [gA], by rw [gA]; exact ⟨by simp, hg⟩, by rw [gB]; exact ⟨by simp, hg⟩, by rw [gA]; exact ⟨hA.2.1, hA.2.2.1⟩, by rw [gA]; exact q1, by rw [gA]; show 0 ≤ (fA k r (got.headD 0)).a.gen; rw [hA.1]; exact Int.le_refl _, hc.ok, d1, d2, d3, by rw [hX, hTA, hTB]; exact hE2.1⟩, q2, q4, hE2⟩
def rec0 : Rec := ⟨0, false, []⟩
def wr0 : Write := ⟨0, 0⟩
def mayS1 (r : Rec) : Bool := mayB r && r.yes
def mayS2 (a b : Rec) : Bool := decide (a.place < b.place)
def mayS (L : List Rec) : Bool := decide (L.length ≤ 60) && eachAt mayS1 mayS2 L 0
theorem mayS_at {L : List Rec} (h : mayS L = true) {i : Nat} (hi : i < L.length) : (1 ≤ (L.getD i rec0).place ∧ (L.getD i rec0).place ≤ 1048575) ∧ writtenL (L.getD i rec0).writes = true := by
  unfold mayS at h
  rw [Bool.and_eq_true] at h
  have := List.all_eq_true.1 (eachAt_all h.2) _ (List.getElem_mem hi)
  have e : L.getD i rec0 = L[i] := by simp [hi]
  rw [e]
  unfold mayS1 mayB at this
  simp only [Bool.and_eq_true, withinB_iff] at this
  exact ⟨this.1.1.1, this.1.1.2⟩
theorem written_at {l : List Write} (h : writtenL l = true) {i : Nat} (hi : i < l.length) : (0 ≤ (l.getD i wr0).key ∧ (l.getD i wr0).key ≤ 23) ∧ 0 ≤ (l.getD i wr0).value ∧ (l.getD i wr0).value ≤ 255 := by
  unfold writtenL at h
  rw [Bool.and_eq_true] at h
  have := List.all_eq_true.1 (eachAt_all h.2) _ (List.getElem_mem hi)
  have e : l.getD i wr0 = l[i] := by simp [hi]
  rw [e]
  unfold oneWB at this
  simp only [Bool.and_eq_true, withinB_iff] at this
  exact this
def sFr (s : SS) : Int := s.cs.getD 0 0
def atS (s : SS) (c : Int) : SS := if s.at'.getD c.toNat 0 = sFr s then s else { s with at' := s.at'.set c.toNat (sFr s), jj := s.jj.set c.toNat 0 }
def helpsS (L : List Rec) (s : SS) (c : Int) : SS :=
  if (L.length : Int) ≤ sFr s then s
  else if ((L.getD (sFr s).toNat rec0).writes.length : Int) ≤ (atS s c).jj.getD c.toNat 0 then { atS s c with cs := s.cs.set 0 (sFr s + 1) }
  else beginS { atS s c with kind := s.kind.set c.toNat 1 } c 76 [(L.getD (sFr s).toNat rec0).place, (atS s c).jj.getD c.toNat 0,
    ((L.getD (sFr s).toNat rec0).writes.getD ((atS s c).jj.getD c.toNat 0).toNat wr0).key, ((L.getD (sFr s).toNat rec0).writes.getD ((atS s c).jj.getD c.toNat 0).toNat wr0).value]
def toS (L : List Rec) (s : SS) : Int := if 0 < sFr s ∧ sFr s ≤ (L.length : Int) then (L.getD (sFr s - 1).toNat rec0).place else 0
def argS (L : List Rec) (s : SS) (part fr : Int) : List Int := [part % 3, max 0 (min fr (toS L s)), toS L s]
def fetchS (L : List Rec) (s : SS) (c part fr : Int) : SS :=
  beginS { s with kind := s.kind.set c.toNat 2, a0 := (if c = 0 then argS L s part fr else s.a0), a1 := (if c = 1 then argS L s part fr else s.a1), a2 := (if c = 2 then argS L s part fr else s.a2), a3 := (if c = 3 then argS L s part fr else s.a3) } c 77 (argS L s part fr)
def endZ (s : SS) (c : Int) : GoM := goT nStr false (gmT nStr false (gmX nStr s.cs (tkC s.ts c)) (tkC s.ts c))
def stepZ (s : SS) (c : Int) : SS :=
  { s with cs := gmCs nStr s.cs (tkC s.ts c), ts := s.ts.set c.toNat (gmT nStr false (gmX nStr s.cs (tkC s.ts c)) (tkC s.ts c)), us := s.us.set c.toNat (gmT nStr true (gmX nStr s.cs (tkC s.ts c)) (tkC s.us c)), busy := (bif (endZ s c).is then s.busy else s.busy.set c.toNat false), jj := (if (endZ s c).is = false ∧ s.kind.getD c.toNat 0 = 1 then s.jj.set c.toNat (s.jj.getD c.toNat 0 + 1) else s.jj) }
def pickZ (L : List Rec) (s : SS) (x dd part fr : Int) : SS :=
  if sBusy s (x % 4) = true then stepZ s (x % 4) else if dd = 0 then helpsS L s (x % 4) else if dd = 1 then fetchS L s (x % 4) part fr else s
structure SI (L : List Rec) (n : Int) (s : SS) : Prop where
  sc : SC n s.cs
  fr : 0 ≤ sFr s ∧ sFr s ≤ (L.length : Int)
  lt : s.ts.length = 4
  lu : s.us.length = 4
  lb : s.busy.length = 4
  la : s.at'.length = 4
  lj : s.jj.length = 4
  lk : s.kind.length = 4
  jb : ∀ i, i < 4 → 0 ≤ s.jj.getD i 0 ∧ s.jj.getD i 0 ≤ n
  cl : ∀ c : Int, 0 ≤ c → c ≤ 3 → sBusy s c = true → SCl n c (tkC s.ts c) (tkC s.us c)
theorem SI.mono {L : List Rec} {n n' : Int} {s : SS} (h : SI L n s) (hn : n ≤ n') : SI L n' s :=
  ⟨h.sc.mono hn, h.fr, h.lt, h.lu, h.lb, h.la, h.lj, h.lk, fun i hi => by have := h.jb i hi; omega, fun c c0 c3 hb => (h.cl c c0 c3 hb).mono hn⟩
theorem regs1_get (l : List Int) (i : Nat) (h : i < l.length) : (regs1 l).getD i 0 = l.getD i 0 := by
  unfold regs1
  rw [List.getD_eq_getElem?_getD, List.getElem?_append_left h, List.getD_eq_getElem?_getD]
theorem regs1_bnd {l : List Int} (h1 : l.length ≤ 96) (h2 : ∀ v ∈ l, v < 9223372036854775808) : bnd (regs1 l) := by
  refine ⟨by simp [regs1]; omega, fun v hv => ?_⟩
  unfold regs1 at hv
  rcases List.mem_append.1 hv with hv | hv
  · exact h2 v hv
  · rw [List.eq_of_mem_replicate hv]; decide
theorem begin_SI {L : List Rec} {n : Int} {s : SS} (h : SI L n s) {c : Int} (c0 : 0 ≤ c) (c3 : c ≤ 3) {p : Int} {l : List Int} (hc : SCl n c (mk1 c p l) (mk1 c p l)) : SI L n (beginS s c p l) := by
  refine ⟨h.sc, h.fr, by simp [beginS, h.lt], by simp [beginS, h.lu], by simp [beginS, h.lb], h.la, h.lj, h.lk, h.jb, fun c' d0 d3 hb => ?_⟩
  show SCl n c' (tkC (s.ts.set c.toNat (mk1 c p l)) c') (tkC (s.us.set c.toNat (mk1 c p l)) c')
  rw [tkC_set h.lt c0 c3 d0, tkC_set h.lu c0 c3 d0]
  by_cases e : c = c'
  · subst e; rw [if_pos rfl, if_pos rfl]; exact hc
  · rw [if_neg e, if_neg e]
    refine h.cl c' d0 d3 ?_
    have hb : (s.busy.set c.toNat true).getD c'.toNat false = true := hb
    rw [bset h.lb (by omega), if_neg (by omega)] at hb
    exact hb
theorem mk76 {n c : Int} {a b k v : Int} (hk : 0 ≤ k ∧ k ≤ 23) (ha : a < 9223372036854775808) (hb : b < 9223372036854775808) (hv : v < 9223372036854775808) : SCl n c (mk1 c 76 [a, b, k, v]) (mk1 c 76 [a, b, k, v]) := by
  refine ⟨0, [], .inl ⟨regs1 [a, b, k, v], rfl, rfl, ⟨regs1_bnd (by simp) (fun x hx => ?_), ?_, .inl ⟨rfl, rfl⟩⟩, by show ((0 : Int) ≠ 7); decide⟩⟩
  · simp only [List.mem_cons, List.mem_nil_iff, or_false] at hx
    rcases hx with rfl | rfl | rfl | rfl <;> omega
  · rw [regs1_get _ 2 (by simp)]; exact hk
theorem mk77 {n c : Int} {a b v : Int} (ha : 0 ≤ a ∧ a ≤ 2) (hb : b < 9223372036854775808) (hv : v < 9223372036854775808) : SCl n c (mk1 c 77 [a, b, v]) (mk1 c 77 [a, b, v]) := by
  have hB : bnd (regs1 [a, b, v]) := regs1_bnd (by simp) (fun x hx => by
    simp only [List.mem_cons, List.mem_nil_iff, or_false] at hx
    rcases hx with rfl | rfl | rfl <;> omega)
  refine ⟨0, [], .inr ⟨regs1 [a, b, v], regs1 [a, b, v], rfl, rfl, ⟨hB, hB, ?_, ⟨rfl, rfl, rfl⟩, .inl ⟨rfl, rfl⟩⟩, by show ((0 : Int) ≠ 7); decide⟩⟩
  rw [regs1_get _ 0 (by simp)]; exact ha
theorem toS_le {L : List Rec} {s : SS} (hL : mayS L = true) : 0 ≤ toS L s ∧ toS L s ≤ 1048575 := by
  unfold toS
  split
  · rename_i h
    have := (mayS_at hL (i := (sFr s - 1).toNat) (by omega)).1
    omega
  · omega
theorem atS_SI {L : List Rec} {n : Int} {s : SS} (h : SI L n s) (h0 : 0 ≤ n) {c : Int} (c0 : 0 ≤ c) (c3 : c ≤ 3) : SI L n (atS s c) ∧ (atS s c).cs = s.cs ∧ (atS s c).kind = s.kind := by
  unfold atS
  split
  · exact ⟨h, rfl, rfl⟩
  · refine ⟨⟨h.sc, h.fr, h.lt, h.lu, h.lb, by simp [h.la], by simp [h.lj], h.lk, fun i hi => ?_, h.cl⟩, rfl, rfl⟩
    show 0 ≤ (s.jj.set c.toNat 0).getD i 0 ∧ (s.jj.set c.toNat 0).getD i 0 ≤ n
    rw [getD_set _ _ _ _ _ (by have := h.lj; omega)]
    split
    · omega
    · exact h.jb i hi
theorem helps_SI {L : List Rec} {n : Int} {s : SS} (h : SI L n s) (hL : mayS L = true) (h0 : 0 ≤ n) (hn : n ≤ 800000) {c : Int} (c0 : 0 ≤ c) (c3 : c ≤ 3) : SI L n (helpsS L s c) := by
  obtain ⟨hA, hcs, hkd⟩ := atS_SI h h0 c0 c3
  have hf := h.fr
  unfold helpsS
  split
  · exact h
  · rename_i hlt
    have hm := mayS_at hL (i := (sFr s).toNat) (by omega)
    split
    · -- the place is finished
      have hl := h.sc.len
      have hL60 : L.length ≤ 60 := by
        unfold mayS at hL; rw [Bool.and_eq_true, decide_eq_true_eq] at hL; exact hL.1
      refine ⟨⟨by show (s.cs.set 0 (sFr s + 1)).length = 771; rw [List.length_set]; exact hl, cellsOK_set h.sc.ok (by omega), fun a q1 q2 => ?_⟩, ?_, hA.lt, hA.lu, hA.lb, hA.la, hA.lj, hA.lk, hA.jb, hA.cl⟩
      · show TyS n a ((s.cs.set 0 (sFr s + 1)).getD a.toNat 0)
        rw [getD_set_ne' (by omega)]
        exact h.sc.ty a q1 q2
      · show 0 ≤ (s.cs.set 0 (sFr s + 1)).getD 0 0 ∧ (s.cs.set 0 (sFr s + 1)).getD 0 0 ≤ (L.length : Int)
        rw [getD_set_eq (by omega)]
        omega
    · rename_i hj
      have hjb := hA.jb c.toNat (by omega)
      have hw := written_at hm.2 (i := ((atS s c).jj.getD c.toNat 0).toNat) (by omega)
      refine begin_SI (s := { atS s c with kind := s.kind.set c.toNat 1 }) ⟨hA.sc, hA.fr, hA.lt, hA.lu, hA.lb, hA.la, hA.lj, by simp [h.lk], hA.jb, hA.cl⟩ c0 c3 ?_
      exact mk76 hw.1 (by omega) (by omega) (by omega)
theorem fetch_SI {L : List Rec} {n : Int} {s : SS} (h : SI L n s) (hL : mayS L = true) {c : Int} (c0 : 0 ≤ c) (c3 : c ≤ 3) (part fr : Int) : SI L n (fetchS L s c part fr) := by
  unfold fetchS
  have ht := toS_le (s := s) hL
  refine begin_SI (s := { s with kind := s.kind.set c.toNat 2, a0 := (if c = 0 then argS L s part fr else s.a0), a1 := (if c = 1 then argS L s part fr else s.a1), a2 := (if c = 2 then argS L s part fr else s.a2), a3 := (if c = 3 then argS L s part fr else s.a3) }) ⟨h.sc, h.fr, h.lt, h.lu, h.lb, h.la, h.lj, by simp [h.lk], h.jb, h.cl⟩ c0 c3 ?_
  have := Int.emod_nonneg part (show (3 : Int) ≠ 0 by decide)
  have := Int.emod_lt_of_pos part (show (0 : Int) < 3 by decide)
  exact mk77 (by omega) (by omega) (by omega)
theorem step_SI {L : List Rec} {n : Int} {s : SS} (h : SI L n s) (h0 : 0 ≤ n) (hn : n ≤ 800000) {c : Int} (c0 : 0 ≤ c) (c3 : c ≤ 3) (hb : sBusy s c = true) :
    (∀ now sure, diskOK now sure = true → goodL now = true → goodL sure = true → OkStepG nStr okStr c s.cs (tkC s.ts c) (tkC s.us c) now sure) ∧ SI L (n + 1) (stepZ s c) := by
  have hc := h.cl c c0 c3 hb
  refine ⟨fun now sure d1 d2 d3 => (hc.step h.sc h0 hn c0 c3 d1 d2 d3).1, ?_⟩
  obtain ⟨_, h2, h3, h4⟩ := hc.step (now := emptyDisk) (sure := emptyDisk) h.sc h0 hn c0 c3 (by kernel_rfl) (by kernel_rfl) (by kernel_rfl)
  have hf := h.fr
  refine ⟨h2, by show 0 ≤ (gmCs nStr s.cs (tkC s.ts c)).getD 0 0 ∧ (gmCs nStr s.cs (tkC s.ts c)).getD 0 0 ≤ (L.length : Int); rw [h3]; exact hf, by simp [stepZ, h.lt], by simp [stepZ, h.lu], ?_, h.la, ?_, h.lk, fun i hi => ?_, fun c' d0 d3 hb' => ?_⟩
  · show (bif (endZ s c).is then s.busy else s.busy.set c.toNat false).length = 4
    cases (endZ s c).is <;> simp [h.lb]
  · show (if (endZ s c).is = false ∧ s.kind.getD c.toNat 0 = 1 then s.jj.set c.toNat (s.jj.getD c.toNat 0 + 1) else s.jj).length = 4
    split <;> simp [h.lj]
  · show 0 ≤ (if (endZ s c).is = false ∧ s.kind.getD c.toNat 0 = 1 then s.jj.set c.toNat (s.jj.getD c.toNat 0 + 1) else s.jj).getD i 0 ∧ (if (endZ s c).is = false ∧ s.kind.getD c.toNat 0 = 1 then s.jj.set c.toNat (s.jj.getD c.toNat 0 + 1) else s.jj).getD i 0 ≤ n + 1
    have hi2 := h.jb i hi
    have hc2 := h.jb c.toNat (by omega)
    split
    · rw [getD_set _ _ _ _ _ (by have := h.lj; omega)]
      split <;> omega
    · omega
  · show SCl (n + 1) c' (tkC (s.ts.set c.toNat _) c') (tkC (s.us.set c.toNat _) c')
    rw [tkC_set h.lt c0 c3 d0, tkC_set h.lu c0 c3 d0]
    have hb' : (bif (endZ s c).is then s.busy else s.busy.set c.toNat false).getD c'.toNat false = true := hb'
    by_cases e : c = c'
    · subst e
      rw [if_pos rfl, if_pos rfl]
      cases hi : (endZ s c).is with
      | true => exact (h4.2 hi).mono (by omega)
      | false =>
        rw [hi, cond_false, bset h.lb (by omega), if_pos rfl] at hb'
        cases hb'
    · rw [if_neg e, if_neg e]
      refine (h.cl c' d0 d3 ?_).mono (by omega)
      cases hi : (endZ s c).is with
      | true => rw [hi, cond_true] at hb'; exact hb'
      | false =>
        rw [hi, cond_false, bset h.lb (by omega), if_neg (by omega)] at hb'
        exact hb'
theorem pick_SI {L : List Rec} {n : Int} {s : SS} (h : SI L n s) (hL : mayS L = true) (h0 : 0 ≤ n) (hn : n ≤ 800000) (x dd part fr : Int) : SI L (n + 1) (pickZ L s x dd part fr) := by
  have c0 := Int.emod_nonneg x (show (4 : Int) ≠ 0 by decide)
  have c3 := Int.emod_lt_of_pos x (show (0 : Int) < 4 by decide)
  unfold pickZ
  split
  · exact (step_SI h h0 hn c0 (by omega) (by assumption)).2
  · split
    · exact (helps_SI h hL h0 hn c0 (by omega)).mono (by omega)
    · split
      · exact (fetch_SI h hL c0 (by omega) part fr).mono (by omega)
      · exact h.mono (by omega)
end Go.Ev
