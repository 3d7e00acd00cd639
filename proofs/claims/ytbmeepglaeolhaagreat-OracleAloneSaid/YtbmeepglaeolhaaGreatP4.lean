/-
  A part of the proof of a statement of this seat: the model is run over values by content, proved sound; what the functions come to. No condition beyond the given statements. (text 5)
-/
import Derived.Test.YtbmeepglaeolhaaGreatP3
import Derived.OpenShut
import Derived.ReadAgain
namespace Go.Ev
set_option linter.unusedVariables false
set_option linter.unusedSimpArgs false
def CI (w f t q : Int) (hs : List Int) (d k : Int) (r got : List Int) : Prop :=
  r.length = 96 ∧ r.getD 0 0 = w ∧ r.getD 1 0 = d ∧ 0 ≤ r.getD 2 0 ∧ r.getD 2 0 ≤ t ∧ (goF k r got (got.headD 0)).is = true ∧
  (k = 0 ∧ got = [] ∧ d ∉ hs ∨ ∃ x, got = [x] ∧ 0 ≤ x ∧
    (k = 1 ∧ 1 ≤ x ∧ x ≤ t ∧ d ∉ hs ∨
     k = 2 ∧ 1 ≤ r.getD 2 0 ∧ x ≤ f ∧ d ∉ hs ∨
     k = 3 ∧ 1 ≤ r.getD 2 0 ∧ r.getD 2 0 ≤ f + w ∧ x ≤ q ∧ d ∉ hs ∨
     k = 4 ∧ 1 ≤ r.getD 2 0 ∧ r.getD 2 0 ≤ f + w ∧ r.getD 2 0 - 32 ≤ q ∧ x ≤ 1099510841343 ∧ plc x ≤ hs.length ∧ d ∉ hs ∨
     k = 5 ∧ x ≤ 1 ∧ d ∉ hs ∨
     k = 6 ∧ 1 ≤ r.getD 2 0 ∧ (x = 0 ∧ d ∉ hs ∨ x = 1 ∧ r.getD 2 0 ≤ hs.length ∧ hs.getD (r.getD 2 0 - 1).toNat 0 = d)))
theorem CI.mono {w f t q : Int} {hs : List Int} {d k : Int} {r got : List Int} (h : CI w f t q hs d k r got) {f' t' q' : Int} {ext : List Int} (hf : f ≤ f') (ht : t ≤ t') (hq : q ≤ q') (he : d ∉ ext) : CI w f' t' q' (hs ++ ext) d k r got := by
  obtain ⟨a1, a2, a3, a4, a5, a6, h⟩ := h
  have hlen : (hs.length : Int) ≤ ((hs ++ ext).length : Int) := by rw [List.length_append]; omega
  have hmem : d ∉ hs → d ∉ hs ++ ext := fun h1 h2 => by
    rcases List.mem_append.1 h2 with h2 | h2
    · exact h1 h2
    · exact he h2
  refine ⟨a1, a2, a3, a4, by omega, a6, ?_⟩
  rcases h with ⟨b1, b2, b3⟩ | ⟨x, b1, b2, b3⟩
  · exact .inl ⟨b1, b2, hmem b3⟩
  refine .inr ⟨x, b1, b2, ?_⟩
  rcases b3 with ⟨c1, c2, c3, c4⟩ | ⟨c1, c2, c3, c4⟩ | ⟨c1, c2, c3, c4, c5⟩ | ⟨c1, c2, c3, c4, c5, c6, c7⟩ | ⟨c1, c2, c3⟩ | ⟨c1, c2, c3⟩
  · exact .inl ⟨c1, c2, by omega, hmem c4⟩
  · exact .inr (.inl ⟨c1, c2, by omega, hmem c4⟩)
  · exact .inr (.inr (.inl ⟨c1, c2, by omega, by omega, hmem c5⟩))
  · exact .inr (.inr (.inr (.inl ⟨c1, c2, by omega, by omega, c5, by omega, hmem c7⟩)))
  · exact .inr (.inr (.inr (.inr (.inl ⟨c1, c2, hmem c3⟩))))
  · refine .inr (.inr (.inr (.inr (.inr ⟨c1, c2, ?_⟩))))
    rcases c3 with ⟨c3, c4⟩ | ⟨c3, c4, c5⟩
    · exact .inl ⟨c3, hmem c4⟩
    · exact .inr ⟨c3, by omega, by rw [getD_app (by omega)]; exact c5⟩
def mkT (c k : Int) (r got : List Int) : Task := ⟨c, [⟨68, k, r⟩], got, false⟩
theorem stG_mk (c k : Int) (r got : List Int) : stG (mkT c k r got) = goF k r got (got.headD 0) := rfl
structure StepR (cs : List Int) (t : Task) (cs' : List Int) (t' : Task) (E : GoR) : Prop where
  hcs : stCs cs t = cs'
  ht : stT cs t = t'
  hE : stE cs t = E
theorem step_load {cs : List Int} {c k : Int} {r got r' : List Int} {n cell : Int} (h : goF k r got (got.headD 0) = gLoad r' got n cell) :
    StepR cs (mkT c k r got) cs (mkT c n r' [cs.getD cell.toNat 0]) (goF n r' [cs.getD cell.toNat 0] (cs.getD cell.toNat 0)) := by
  refine ⟨?_, ?_, ?_⟩
  · unfold stCs; rw [stG_mk, h]; rfl
  · unfold stT stX; rw [stG_mk, h]; rfl
  · unfold stE stX; rw [stG_mk, h]; rfl
theorem step_cas {cs : List Int} {c k : Int} {r got r' : List Int} {n cell b v : Int} (h : goF k r got (got.headD 0) = gCas r' got n cell b v) :
    StepR cs (mkT c k r got) (if cs.getD cell.toNat 0 = b then cs.set cell.toNat v else cs) (mkT c n r' [if cs.getD cell.toNat 0 = b then 1 else 0]) (goF n r' [if cs.getD cell.toNat 0 = b then 1 else 0] (if cs.getD cell.toNat 0 = b then 1 else 0)) := by
  refine ⟨?_, ?_, ?_⟩
  · unfold stCs; rw [stG_mk, h]
    show doC cs 2 cell b v = _
    unfold doC
    by_cases hb : cs.getD cell.toNat 0 = b
    · rw [if_pos ⟨rfl, hb⟩, if_pos hb]
    · rw [if_neg (fun q => hb q.2), if_neg hb]
  · unfold stT stX; rw [stG_mk, h]; rfl
  · unfold stE stX; rw [stG_mk, h]; rfl
theorem goF_is2 {r got : List Int} {x : Int} (h : (goF 2 r got x).is = true) : r.getD 2 0 ≤ x + r.getD 0 0 ∧ r.getD 2 0 ≤ 1048575 ∧ goF 2 r got x = gLoad r got 3 4 := by
  rw [goF2] at h ⊢
  by_cases h1 : x + r.getD 0 0 < r.getD 2 0
  · rw [if_pos h1] at h; cases h
  rw [if_neg h1] at h ⊢
  by_cases h2 : 1048575 < r.getD 2 0
  · rw [if_pos h2] at h; cases h
  rw [if_neg h2]
  exact ⟨by omega, by omega, rfl⟩
theorem goF_is3 {r got : List Int} {x : Int} (h : (goF 3 r got x).is = true) : r.getD 2 0 - 32 ≤ x ∧ goF 3 r got x = gLoad r got 4 (lRing (r.getD 2 0) (r.getD 0 0)) := by
  rw [goF3] at h ⊢
  by_cases h1 : x < r.getD 2 0 - 32
  · rw [if_pos h1] at h; cases h
  rw [if_neg h1]
  exact ⟨by omega, rfl⟩
def Came (w : Int) (cs hs : List Int) (d c : Int) (t' : Task) (E : GoR) : Prop :=
  ∃ k r x, t' = mkT c k r [x] ∧ E = goF k r [x] x ∧ okG c [⟨68, k, r⟩] [x] = true ∧
    (E.is = true ∧ CI w (cs.getD 0 0) (cs.getD 1 0) (cs.getD 4 0) hs d k r [x] ∨
     E.is = false ∧ E.got.length = 1 ∨
     E.is = false ∧ ∃ p : Int, E.got = [0, p] ∧ 1 ≤ p ∧ p ≤ hs.length ∧ hs.getD (p - 1).toNat 0 = d)
theorem okG_mk {c k x : Int} {r : List Int} (h1 : 0 ≤ c) (h2 : c ≤ 3) (hr : r.length = 96) (h : OkF k r x) : okG c [⟨68, k, r⟩] [x] = true := by
  show (decide (0 ≤ c ∧ c ≤ 3 ∧ (68 : Int) = 68 ∧ r.length = 96) && okFr k r [x]) = true
  rw [Bool.and_eq_true]
  exact ⟨decide_eq_true ⟨h1, h2, rfl, hr⟩, decide_eq_true h⟩
theorem okG_mk0 {c : Int} {r : List Int} (h1 : 0 ≤ c) (h2 : c ≤ 3) (hr : r.length = 96) : okG c [⟨68, 0, r⟩] [] = true := by
  show (decide (0 ≤ c ∧ c ≤ 3 ∧ (68 : Int) = 68 ∧ r.length = 96) && okFr 0 r []) = true
  rw [Bool.and_eq_true]
  exact ⟨decide_eq_true ⟨h1, h2, rfl, hr⟩, rfl⟩
theorem okDo_load {w : Int} {cs hs : List Int} (h : RW w cs hs) {cell : Int} (h0 : 0 ≤ cell) (h1 : cell < 771) : OkDo cs 0 cell 0 0 :=
  ⟨.inl ⟨rfl, rfl, rfl⟩, h0, by rw [h.lc]; exact h1, by decide, by decide, by decide, by decide⟩
theorem okDo_cas {w : Int} {cs hs : List Int} (h : RW w cs hs) {cell b v : Int} (h0 : 0 ≤ cell) (h1 : cell < 771) (hb : -1152921504606846976 ≤ b ∧ b ≤ 1152921504606846976) (hv : -1152921504606846976 ≤ v ∧ v ≤ 1152921504606846976) : OkDo cs 2 cell b v :=
  ⟨.inr rfl, h0, by rw [h.lc]; exact h1, hb.1, hb.2, hv.1, hv.2⟩
theorem goF2_end {r got : List Int} {x : Int} (h : (goF 2 r got x).is = false) : (goF 2 r got x).got.length = 1 := by
  rw [goF2] at h ⊢
  by_cases h1 : x + r.getD 0 0 < r.getD 2 0
  · rw [if_pos h1]; rfl
  rw [if_neg h1] at h ⊢
  by_cases h2 : 1048575 < r.getD 2 0
  · rw [if_pos h2]; rfl
  rw [if_neg h2] at h
  cases h
theorem goF3_end {r got : List Int} {x : Int} (h : (goF 3 r got x).is = false) : (goF 3 r got x).got.length = 1 := by
  rw [goF3] at h ⊢
  by_cases h1 : x < r.getD 2 0 - 32
  · rw [if_pos h1]; rfl
  rw [if_neg h1] at h
  cases h
theorem goF4_is (r got : List Int) (x : Int) : (goF 4 r got x).is = true := by
  rw [goF4]
  split
  · rfl
  split <;> rfl
theorem RW.step {w : Int} {cs hs : List Int} (h : RW w cs hs) {c d k : Int} {r got : List Int} (hc0 : 0 ≤ c) (hc3 : c ≤ 3) (hd : 256 ≤ d ∧ d ≤ 262143) (hk : (hs.length : Int) < 100000)
    (hi : CI w (cs.getD 0 0) (cs.getD 1 0) (cs.getD 4 0) hs d k r got) :
    ∃ ext, (ext = [] ∨ ext = [d] ∧ d ∉ hs) ∧ ∃ cs' t' E, StepR cs (mkT c k r got) cs' t' E ∧ RW w cs' (hs ++ ext) ∧ cs'.getD 0 0 = cs.getD 0 0 ∧ cs'.getD 4 0 = cs.getD 4 0 ∧ cs.getD 1 0 ≤ cs'.getD 1 0 ∧
      okG c [⟨68, k, r⟩] got = true ∧ OkDo cs (goF k r got (got.headD 0)).kind (goF k r got (got.headD 0)).a (goF k r got (got.headD 0)).b (goF k r got (got.headD 0)).v ∧ Came w cs' (hs ++ ext) d c t' E := by
  obtain ⟨a1, a2, a3, a4, a5, a6, hi⟩ := hi
  have hw0 := h.w0
  have hw1 := h.w1
  have hTt := h.Tt
  have htT := h.tT
  have hfT := h.fT
  have hqf := h.qf
  have hq0 := h.q0
  have ht1 := h.t1
  have hTf := h.Tf
  have hlc := h.lc
  have ok : ∀ (k' x' : Int) (r' : List Int), r'.length = 96 → r'.getD 0 0 = w → 0 ≤ r'.getD 2 0 → r'.getD 2 0 ≤ 200000 → 1 ≤ k' → k' ≤ 7 → 0 ≤ x' → x' ≤ 1152921504606846976 → okG c [⟨68, k', r'⟩] [x'] = true :=
    fun k' x' r' e1 e2 e3 e4 e5 e6 e7 e8 => okG_mk hc0 hc3 e1 ⟨e5, e6, e7, e8, by omega, by omega, e3, by omega⟩
  have s2l : ∀ y : Int, (r.set 2 y).length = 96 := fun y => by rw [List.length_set]; exact a1
  have s20 : ∀ y : Int, (r.set 2 y).getD 0 0 = w := fun y => by rw [getD_set_ne' (by decide)]; exact a2
  have s21 : ∀ y : Int, (r.set 2 y).getD 1 0 = d := fun y => by rw [getD_set_ne' (by decide)]; exact a3
  have s22 : ∀ y : Int, (r.set 2 y).getD 2 0 = y := fun y => getD_set_eq (by omega)
  have s3l : ∀ y : Int, (r.set 3 y).length = 96 := fun y => by rw [List.length_set]; exact a1
  have s30 : ∀ y : Int, (r.set 3 y).getD 0 0 = w := fun y => by rw [getD_set_ne' (by decide)]; exact a2
  have s31 : ∀ y : Int, (r.set 3 y).getD 1 0 = d := fun y => by rw [getD_set_ne' (by decide)]; exact a3
  have s32 : ∀ y : Int, (r.set 3 y).getD 2 0 = r.getD 2 0 := fun y => getD_set_ne' (by decide)
  have hs1 : (cs.set (Int.toNat 1) (r.getD 2 0 + 1)).getD 1 0 = r.getD 2 0 + 1 := getD_set_eq (i := 1) (by omega)
  -- a load of TAIL
  have hload1 : ∀ (r' : List Int), r'.length = 96 → r'.getD 0 0 = w → r'.getD 1 0 = d → r'.getD 2 0 = r.getD 2 0 → d ∉ hs → Came w cs hs d c (mkT c 1 r' [cs.getD 1 0]) (goF 1 r' [cs.getD 1 0] (cs.getD 1 0)) :=
    fun r' e1 e2 e3 e4 e5 => ⟨1, r', cs.getD 1 0, rfl, rfl, ok 1 _ r' e1 e2 (by omega) (by omega) (by decide) (by decide) (by omega) (by omega),
      .inl ⟨rfl, e1, e2, e3, by omega, by omega, rfl, .inr ⟨_, rfl, by omega, .inl ⟨rfl, by omega, by omega, e5⟩⟩⟩⟩
  rcases hi with ⟨rfl, rfl, b3⟩ | ⟨x, rfl, x0, hi⟩
  · refine ⟨[], .inl rfl, ?_⟩
    rw [List.append_nil]
    exact ⟨_, _, _, step_load (r' := r) (n := 1) (cell := 1) rfl, h, rfl, rfl, Int.le_refl _, okG_mk0 hc0 hc3 a1, okDo_load (cell := 1) h (by decide) (by decide), hload1 r a1 a2 a3 rfl b3⟩
  rcases hi with ⟨rfl, c2, c3, c4⟩ | ⟨rfl, c2, c3, c4⟩ | ⟨rfl, c2, c3, c4, c5⟩ | ⟨rfl, c2, c3, c4, c5, c6, c7⟩ | ⟨rfl, c2, c3⟩ | ⟨rfl, c2, c3⟩
  · -- 1
    refine ⟨[], .inl rfl, ?_⟩
    rw [List.append_nil]
    refine ⟨_, _, _, step_load (r' := r.set 2 x) (n := 2) (cell := 0) rfl, h, rfl, rfl, Int.le_refl _, ok 1 x r a1 a2 a4 (by omega) (by decide) (by decide) x0 (by omega), okDo_load (cell := 0) h (by decide) (by decide), ?_⟩
    refine ⟨2, r.set 2 x, cs.getD 0 0, rfl, rfl, ok 2 _ _ (s2l x) (s20 x) (by rw [s22]; omega) (by rw [s22]; omega) (by decide) (by decide) (by omega) (by omega), ?_⟩
    cases hE : (goF 2 (r.set 2 x) [cs.getD 0 0] (cs.getD 0 0)).is with
    | true => exact .inl ⟨hE, s2l x, s20 x, s21 x, by rw [s22]; omega, by rw [s22]; omega, hE, .inr ⟨_, rfl, by omega, .inr (.inl ⟨rfl, by rw [s22]; omega, Int.le_refl _, c4⟩)⟩⟩
    | false => exact .inr (.inl ⟨hE, goF2_end hE⟩)
  · -- 2
    obtain ⟨e1, e2, e3⟩ := goF_is2 a6
    refine ⟨[], .inl rfl, ?_⟩
    rw [List.append_nil]
    refine ⟨_, _, _, step_load (r' := r) (n := 3) (cell := 4) e3, h, rfl, rfl, Int.le_refl _, ok 2 x r a1 a2 a4 (by omega) (by decide) (by decide) x0 (by omega), ?_, ?_⟩
    · show OkDo cs (goF 2 r [x] x).kind (goF 2 r [x] x).a (goF 2 r [x] x).b (goF 2 r [x] x).v
      rw [show goF 2 r [x] x = gLoad r [x] 3 4 from e3]
      exact okDo_load (cell := 4) h (by decide) (by decide)
    refine ⟨3, r, cs.getD 4 0, rfl, rfl, ok 3 _ _ a1 a2 a4 (by omega) (by decide) (by decide) hq0 (by omega), ?_⟩
    have e1 : r.getD 2 0 ≤ x + r.getD 0 0 := e1
    cases hE : (goF 3 r [cs.getD 4 0] (cs.getD 4 0)).is with
    | true => exact .inl ⟨hE, a1, a2, a3, a4, a5, hE, .inr ⟨_, rfl, hq0, .inr (.inr (.inl ⟨rfl, c2, by omega, Int.le_refl _, c4⟩))⟩⟩
    | false => exact .inr (.inl ⟨hE, goF3_end hE⟩)
  · -- 3
    obtain ⟨e1, e3⟩ := goF_is3 a6
    have e1 : r.getD 2 0 - 32 ≤ x := e1
    rw [a2, lRing_eq' a4 hw0 hw1] at e3
    have hrd := h.read_le (r.getD 2 0)
    have hcl := h.cell (r.getD 2 0)
    refine ⟨[], .inl rfl, ?_⟩
    rw [List.append_nil]
    refine ⟨_, _, _, step_load (r' := r) (n := 4) (cell := 13 + r.getD 2 0 % w) e3, h, rfl, rfl, Int.le_refl _, ok 3 x r a1 a2 a4 (by omega) (by decide) (by decide) x0 (by omega), ?_, ?_⟩
    · rw [e3]
      exact okDo_load (cell := 13 + r.getD 2 0 % w) h (by omega) (by omega)
    refine ⟨4, r, _, rfl, rfl, ok 4 _ _ a1 a2 a4 (by omega) (by decide) (by decide) hrd.1 (by omega), .inl ⟨goF4_is _ _ _, a1, a2, a3, a4, a5, goF4_is _ _ _, .inr ⟨_, rfl, hrd.1, .inr (.inr (.inr (.inl ⟨rfl, c2, c3, by omega, hrd.2.1, hrd.2.2, c5⟩)))⟩⟩⟩
  · -- 4
    have hok := ok 4 x r a1 a2 a4 (by omega) (by decide) (by decide) x0 (by omega)
    have hg := goF4 r [x] x
    by_cases p1 : plc x = r.getD 2 0
    · rw [if_pos p1] at hg
      have hstep := step_cas (cs := cs) (c := c) (k := 4) (r := r) (got := [x]) hg
      refine ⟨[], .inl rfl, ?_⟩
      rw [List.append_nil]
      have hx' : ∀ b : Prop, [Decidable b] → 0 ≤ (if b then (1 : Int) else 0) ∧ (if b then (1 : Int) else 0) ≤ 1 := fun b _ => by split <;> decide
      refine ⟨_, _, _, hstep, ?_, ?_, ?_, ?_, hok, ?_, ?_⟩
      · split
        · rename_i e; exact h.tail e (by omega)
        · exact h
      · split
        · exact getD_set_ne' (by decide)
        · rfl
      · split
        · exact getD_set_ne' (by decide)
        · rfl
      · split
        · rename_i e
          rw [hs1]
          have e : cs.getD 1 0 = r.getD 2 0 := e
          omega
        · exact Int.le_refl _
      · show OkDo cs (goF 4 r [x] x).kind (goF 4 r [x] x).a (goF 4 r [x] x).b (goF 4 r [x] x).v
        rw [hg]
        exact okDo_cas (cell := 1) (b := r.getD 2 0) (v := r.getD 2 0 + 1) h (by decide) (by decide) ⟨by omega, by omega⟩ ⟨by omega, by omega⟩
      · have ht' : r.getD 2 0 ≤ (if cs.getD (Int.toNat 1) 0 = r.getD 2 0 then cs.set (Int.toNat 1) (r.getD 2 0 + 1) else cs).getD 1 0 := by
          split
          · rw [hs1]; omega
          · exact a5
        have hb := hx' (cs.getD (Int.toNat 1) 0 = r.getD 2 0)
        exact ⟨5, r.set 3 x, _, rfl, rfl, ok 5 _ _ (s3l x) (s30 x) (by rw [s32]; exact a4) (by rw [s32]; omega) (by decide) (by decide) hb.1 (by omega), .inl ⟨rfl, s3l x, s30 x, s31 x, by rw [s32]; exact a4, by rw [s32]; exact ht', rfl, .inr ⟨_, rfl, hb.1, .inr (.inr (.inr (.inr (.inl ⟨rfl, hb.2, c7⟩))))⟩⟩⟩
    rw [if_neg p1] at hg
    by_cases p2 : r.getD 2 0 < plc x
    · rw [if_pos p2] at hg
      refine ⟨[], .inl rfl, ?_⟩
      rw [List.append_nil]
      refine ⟨_, _, _, step_load (r' := r.set 3 x) (n := 1) (cell := 1) hg, h, rfl, rfl, Int.le_refl _, hok, ?_, hload1 _ (s3l x) (s30 x) (s31 x) (s32 x) c7⟩
      show OkDo cs (goF 4 r [x] x).kind (goF 4 r [x] x).a (goF 4 r [x] x).b (goF 4 r [x] x).v
      rw [hg]
      exact okDo_load (cell := 1) h (by decide) (by decide)
    rw [if_neg p2] at hg
    have hwd : wordN (r.getD 2 0) d = r.getD 2 0 * 1048576 + d := by
      rw [wordN, if_pos]; exact ⟨by omega, by omega, .inl hd⟩
    rw [a2, a3, hwd, lRing_eq' a4 hw0 hw1] at hg
    have hcl := h.cell (r.getD 2 0)
    have hstep := step_cas (cs := cs) (c := c) (k := 4) (r := r) (got := [x]) hg
    have hdo : OkDo cs (goF 4 r [x] ([x].headD 0)).kind (goF 4 r [x] ([x].headD 0)).a (goF 4 r [x] ([x].headD 0)).b (goF 4 r [x] ([x].headD 0)).v := by
      show OkDo cs (goF 4 r [x] x).kind (goF 4 r [x] x).a (goF 4 r [x] x).b (goF 4 r [x] x).v
      rw [hg]
      exact okDo_cas (cell := 13 + r.getD 2 0 % w) (b := x) (v := r.getD 2 0 * 1048576 + d) h (by omega) (by omega) ⟨by omega, by omega⟩ ⟨by omega, by omega⟩
    by_cases hx : cs.getD (13 + r.getD 2 0 % w).toNat 0 = x
    · simp only [if_pos hx] at hstep
      obtain ⟨g1, g2⟩ := h.give (d := d) c2 a5 c3 (by rw [hx]; omega) hd hk c4
      refine ⟨[d], .inr ⟨rfl, c7⟩, _, _, _, hstep, g2, getD_set_ne' (by omega), getD_set_ne' (by omega), ?_, hok, hdo, ?_⟩
      · rw [getD_set_ne' (by omega)]; exact Int.le_refl _
      · have h1 : (cs.set (13 + r.getD 2 0 % w).toNat (r.getD 2 0 * 1048576 + d)).getD 1 0 = cs.getD 1 0 := getD_set_ne' (by omega)
        have hl : ((hs ++ [d]).length : Int) = hs.length + 1 := by simp
        exact ⟨6, r.set 3 x, 1, rfl, rfl, ok 6 _ _ (s3l x) (s30 x) (by rw [s32]; exact a4) (by rw [s32]; omega) (by decide) (by decide) (by decide) (by decide), .inl ⟨rfl, s3l x, s30 x, s31 x, by rw [s32]; exact a4, by rw [s32, h1]; exact a5, rfl,
          .inr ⟨_, rfl, by decide, .inr (.inr (.inr (.inr (.inr ⟨rfl, by rw [s32]; exact c2, .inr ⟨rfl, by rw [s32, hl]; omega, by rw [s32, show (r.getD 2 0 - 1).toNat = hs.length by omega]; exact getD_end⟩⟩))))⟩⟩⟩
    · simp only [if_neg hx] at hstep
      refine ⟨[], .inl rfl, ?_⟩
      rw [List.append_nil]
      exact ⟨_, _, _, hstep, h, rfl, rfl, Int.le_refl _, hok, hdo, 6, r.set 3 x, 0, rfl, rfl, ok 6 _ _ (s3l x) (s30 x) (by rw [s32]; exact a4) (by rw [s32]; omega) (by decide) (by decide) (by decide) (by decide), .inl ⟨rfl, s3l x, s30 x, s31 x, by rw [s32]; exact a4, by rw [s32]; exact a5, rfl,
          .inr ⟨_, rfl, by decide, .inr (.inr (.inr (.inr (.inr ⟨rfl, by rw [s32]; exact c2, .inl ⟨rfl, c7⟩⟩))))⟩⟩⟩
  · -- 5
    refine ⟨[], .inl rfl, ?_⟩
    rw [List.append_nil]
    exact ⟨_, _, _, step_load (r' := r) (n := 1) (cell := 1) rfl, h, rfl, rfl, Int.le_refl _, ok 5 x r a1 a2 a4 (by omega) (by decide) (by decide) x0 (by omega), okDo_load (cell := 1) h (by decide) (by decide), hload1 r a1 a2 a3 rfl c3⟩
  · -- 6
    rcases c3 with ⟨rfl, c4⟩ | ⟨rfl, c4, c5⟩
    · refine ⟨[], .inl rfl, ?_⟩
      rw [List.append_nil]
      exact ⟨_, _, _, step_load (r' := r) (n := 1) (cell := 1) rfl, h, rfl, rfl, Int.le_refl _, ok 6 0 r a1 a2 a4 (by omega) (by decide) (by decide) (by decide) (by decide), okDo_load (cell := 1) h (by decide) (by decide), hload1 r a1 a2 a3 rfl c4⟩
    · have hg : goF 6 r [1] 1 = gCas r [1] 7 1 (r.getD 2 0) (r.getD 2 0 + 1) := rfl
      have hstep := step_cas (cs := cs) (c := c) (k := 6) (r := r) (got := [1]) hg
      refine ⟨[], .inl rfl, ?_⟩
      rw [List.append_nil]
      have hx' : ∀ b : Prop, [Decidable b] → 0 ≤ (if b then (1 : Int) else 0) ∧ (if b then (1 : Int) else 0) ≤ 1 := fun b _ => by split <;> decide
      have hb := hx' (cs.getD (Int.toNat 1) 0 = r.getD 2 0)
      refine ⟨_, _, _, hstep, ?_, ?_, ?_, ?_, ok 6 1 r a1 a2 a4 (by omega) (by decide) (by decide) (by decide) (by decide), okDo_cas (cell := 1) (b := r.getD 2 0) (v := r.getD 2 0 + 1) h (by decide) (by decide) ⟨by omega, by omega⟩ ⟨by omega, by omega⟩, ?_⟩
      · split
        · rename_i e; exact h.tail e (by omega)
        · exact h
      · split
        · exact getD_set_ne' (by decide)
        · rfl
      · split
        · exact getD_set_ne' (by decide)
        · rfl
      · split
        · rename_i e
          rw [hs1]
          have e : cs.getD 1 0 = r.getD 2 0 := e
          omega
        · exact Int.le_refl _
      · exact ⟨7, r, _, rfl, rfl, ok 7 _ _ a1 a2 a4 (by omega) (by decide) (by decide) hb.1 (by omega), .inr (.inr ⟨rfl, r.getD 2 0, rfl, c2, c4, c5⟩)⟩
theorem hnd_in {c m : Int} (h0 : 0 ≤ c) (h3 : c ≤ 3) (m1 : 1 ≤ m) (m9 : m ≤ 900) : hnd c m = (m + 1) * 256 + c ∧ 256 ≤ hnd c m ∧ hnd c m ≤ 262143 := by
  have : m % 1000 = m := Int.emod_eq_of_lt (by omega) (by omega)
  unfold hnd
  rw [this]
  omega
theorem hnd_inj {c m c' m' : Int} (h0 : 0 ≤ c) (h3 : c ≤ 3) (m1 : 1 ≤ m) (m9 : m ≤ 900) (h0' : 0 ≤ c') (h3' : c' ≤ 3) (m1' : 1 ≤ m') (m9' : m' ≤ 900) (h : hnd c m = hnd c' m') : c = c' ∧ m = m' := by
  rw [(hnd_in h0 h3 m1 m9).1, (hnd_in h0' h3' m1' m9').1] at h
  omega
structure RI (w : Int) (s : GS) (hs : List Int) (kk : Int) : Prop where
  rw : RW w s.cs hs
  lt : s.ts.length = 4
  lb : s.busy.length = 4
  lh : s.has.length = 4
  n0 : 0 ≤ s.n
  nk : s.n ≤ kk
  hk : (hs.length : Int) ≤ kk
  tk : (s.told.length : Int) ≤ kk
  hn : ∀ d ∈ hs, ∃ m c, 1 ≤ m ∧ m ≤ s.n ∧ 0 ≤ c ∧ c ≤ 3 ∧ d = hnd c m
  cl : ∀ c, 0 ≤ c → c ≤ 3 → isBusy s c = true → ∃ k r got m, tkC s.ts c = mkT c k r got ∧ 1 ≤ m ∧ m ≤ s.n ∧ s.has.getD c.toNat 0 = hnd c m ∧ CI w (s.cs.getD 0 0) (s.cs.getD 1 0) (s.cs.getD 4 0) hs (s.has.getD c.toNat 0) k r got
  told1 : ∀ p ∈ s.told, 1 ≤ p ∧ p ≤ hs.length
  toldN : s.told.Nodup
  toldB : ∀ p ∈ s.told, ∀ c, 0 ≤ c → c ≤ 3 → isBusy s c = true → hs.getD (p - 1).toNat 0 ≠ s.has.getD c.toNat 0
theorem RI.more {w : Int} {s : GS} {hs : List Int} {kk kk' : Int} (h : RI w s hs kk) (hk : kk ≤ kk') : RI w s hs kk' :=
  ⟨h.rw, h.lt, h.lb, h.lh, h.n0, by have := h.nk; omega, by have := h.hk; omega, by have := h.tk; omega, h.hn, h.cl, h.told1, h.toldN, h.toldB⟩
theorem RI.cells {w : Int} {s : GS} {hs : List Int} {kk : Int} (h : RI w s hs kk) {cs' : List Int} (hrw : RW w cs' hs) (hf : s.cs.getD 0 0 ≤ cs'.getD 0 0) (ht : s.cs.getD 1 0 ≤ cs'.getD 1 0) (hq : s.cs.getD 4 0 ≤ cs'.getD 4 0) : RI w { s with cs := cs' } hs kk := by
  refine ⟨hrw, h.lt, h.lb, h.lh, h.n0, h.nk, h.hk, h.tk, h.hn, fun c c0 c3 hb => ?_, h.told1, h.toldN, h.toldB⟩
  obtain ⟨k, r, got, m, e1, e2, e3, e4, e5⟩ := h.cl c c0 c3 hb
  refine ⟨k, r, got, m, e1, e2, e3, e4, ?_⟩
  have := e5.mono (ext := []) hf ht hq (by simp)
  rwa [List.append_nil] at this
theorem tkC_set {ts : List Task} {c c' : Int} {t : Task} (hl : ts.length = 4) (c0 : 0 ≤ c) (c3 : c ≤ 3) (d0 : 0 ≤ c') : tkC (ts.set c.toNat t) c' = if c = c' then t else tkC ts c' := by
  unfold tkC
  by_cases e : c = c'
  · subst e
    rw [if_pos rfl, List.getD_eq_getElem?_getD, List.getElem?_set_self (by omega)]; rfl
  · rw [if_neg e, List.getD_eq_getElem?_getD, List.getD_eq_getElem?_getD, List.getElem?_set_ne (by omega)]
theorem busy_set {bs : List Bool} {c c' : Int} {b : Bool} (hl : bs.length = 4) (c0 : 0 ≤ c) (c3 : c ≤ 3) (d0 : 0 ≤ c') : (bs.set c.toNat b).getD c'.toNat false = if c = c' then b else bs.getD c'.toNat false := by
  by_cases e : c = c'
  · subst e
    rw [if_pos rfl, List.getD_eq_getElem?_getD, List.getElem?_set_self (by omega)]; rfl
  · rw [if_neg e, List.getD_eq_getElem?_getD, List.getD_eq_getElem?_getD, List.getElem?_set_ne (by omega)]
theorem has_set {hs : List Int} {c c' : Int} {b : Int} (hl : hs.length = 4) (c0 : 0 ≤ c) (c3 : c ≤ 3) (d0 : 0 ≤ c') : (hs.set c.toNat b).getD c'.toNat 0 = if c = c' then b else hs.getD c'.toNat 0 := by
  rw [getD_set _ _ _ _ _ (by omega)]
  by_cases e : c = c'
  · subst e; rw [if_pos rfl, if_pos rfl]
  · rw [if_neg (by omega), if_neg e]
theorem RI.begin {w : Int} {s : GS} {hs : List Int} {kk : Int} (h : RI w s hs kk) (hkk : kk < 900) {c : Int} (c0 : 0 ≤ c) (c3 : c ≤ 3) (hb : isBusy s c = false) :
    RI w (beginG w { s with n := s.n + 1, has := s.has.set c.toNat (hnd c (s.n + 1)) } c (hnd c (s.n + 1))) hs (kk + 1) := by
  have hn0 := h.n0
  have hnk := h.nk
  have hnew : hnd c (s.n + 1) ∉ hs := fun hm => by
    obtain ⟨m, c', m1, m2, d0, d3, e⟩ := h.hn _ hm
    have := hnd_inj c0 c3 (by omega) (by omega) d0 d3 m1 (by omega) e
    omega
  refine ⟨h.rw, by simp [beginG, h.lt], by simp [beginG, h.lb], by simp [beginG, h.lh], by show 0 ≤ s.n + 1; omega, by show s.n + 1 ≤ kk + 1; omega, by have := h.hk; omega, by have := h.tk; show (s.told.length : Int) ≤ kk + 1; omega, fun d hd => ?_, fun c' d0 d3 hb' => ?_, h.told1, h.toldN, fun p hp c' d0 d3 hb' => ?_⟩
  · obtain ⟨m, c', m1, m2, e⟩ := h.hn d hd
    exact ⟨m, c', m1, by show m ≤ s.n + 1; omega, e⟩
  · have e1 : tkC (s.ts.set c.toNat ⟨c, [⟨68, 0, regs' w (hnd c (s.n + 1))⟩], [], false⟩) c' = _ := tkC_set h.lt c0 c3 d0
    have e2 : (s.busy.set c.toNat true).getD c'.toNat false = _ := busy_set h.lb c0 c3 d0
    have e3 : (s.has.set c.toNat (hnd c (s.n + 1))).getD c'.toNat 0 = _ := has_set h.lh c0 c3 d0
    show ∃ k r got m, tkC (s.ts.set c.toNat ⟨c, [⟨68, 0, regs' w (hnd c (s.n + 1))⟩], [], false⟩) c' = mkT c' k r got ∧ 1 ≤ m ∧ m ≤ s.n + 1 ∧ (s.has.set c.toNat (hnd c (s.n + 1))).getD c'.toNat 0 = hnd c' m ∧ CI w (s.cs.getD 0 0) (s.cs.getD 1 0) (s.cs.getD 4 0) hs ((s.has.set c.toNat (hnd c (s.n + 1))).getD c'.toNat 0) k r got
    rw [e1, e3]
    by_cases e : c = c'
    · subst e
      rw [if_pos rfl, if_pos rfl]
      exact ⟨0, regs' w (hnd c (s.n + 1)), [], s.n + 1, rfl, by omega, Int.le_refl _, rfl, rfl, rfl, rfl, Int.le_refl _, by have := h.rw.t1; show (0 : Int) ≤ _; omega, rfl, .inl ⟨rfl, rfl, hnew⟩⟩
    · rw [if_neg e, if_neg e]
      have hb2 : isBusy s c' = true := by
        have : (s.busy.set c.toNat true).getD c'.toNat false = true := hb'
        rw [e2, if_neg e] at this
        exact this
      obtain ⟨k, r, got, m, q1, q2, q3, q4, q5⟩ := h.cl c' d0 d3 hb2
      exact ⟨k, r, got, m, q1, q2, by omega, q4, q5⟩
  · have e2 : (s.busy.set c.toNat true).getD c'.toNat false = _ := busy_set h.lb c0 c3 d0
    have e3 : (s.has.set c.toNat (hnd c (s.n + 1))).getD c'.toNat 0 = _ := has_set h.lh c0 c3 d0
    show hs.getD (p - 1).toNat 0 ≠ (s.has.set c.toNat (hnd c (s.n + 1))).getD c'.toNat 0
    rw [e3]
    by_cases e : c = c'
    · rw [if_pos e]
      intro q
      obtain ⟨p1, p2⟩ := h.told1 p hp
      have hlt : (p - 1).toNat < hs.length := by omega
      rw [getD_at hlt] at q
      exact hnew (q ▸ List.getElem_mem hlt)
    · rw [if_neg e]
      have : (s.busy.set c.toNat true).getD c'.toNat false = true := hb'
      rw [e2, if_neg e] at this
      exact h.toldB p hp c' d0 d3 this
structure PickR (w : Int) (s s' : GS) (hs hs' : List Int) (c : Int) : Prop where
  fr : s'.cs.getD 0 0 ≤ hs.length
  ext : hs' = hs ∨ ∃ d, hs' = hs ++ [d]
  told : s'.told = s.told ∨ ∃ p : Int, s'.told = s.told ++ [p] ∧ 1 ≤ p ∧ p ≤ hs'.length ∧ hs'.getD (p - 1).toNat 0 = s'.has.getD c.toNat 0
theorem RI.stepOK {w : Int} {s : GS} {hs : List Int} {kk : Int} (h : RI w s hs kk) (hkk : kk < 900) {now sure : List Sector} (hd : diskOK now sure = true) (hg1 : goodL now = true) (hg2 : goodL sure = true) {c : Int} (c0 : 0 ≤ c) (c3 : c ≤ 3) (hb : isBusy s c = true) : OkStep s.cs (tkC s.ts c) now sure := by
  obtain ⟨k, r, got, m, q1, q2, q3, q4, q5⟩ := h.cl c c0 c3 hb
  have hv := hnd_in (c := c) (m := m) c0 c3 q2 (by have := h.nk; omega)
  rw [← q4] at hv
  obtain ⟨ext, _, cs', t', E, e1, e2, e3, e4, e5, e6, e7, k', r', x', e8, e9, e10, _⟩ := h.rw.step c0 c3 hv.2 (by have := h.hk; omega) q5
  rw [q1]
  refine ⟨e6, rfl, q5.2.2.2.2.2.1, e7, h.rw.cellsOK, hd, hg1, hg2, ?_⟩
  have ht := e1.ht
  rw [e8] at ht
  have h1 : (stG (mkT c k r got)).st = [⟨68, k', r'⟩] := congrArg Task.stack ht
  have h2 : [stX s.cs (mkT c k r got)] = [x'] := congrArg Task.got ht
  rw [h1, h2]
  exact e10
theorem RI.step {w : Int} {s : GS} {hs : List Int} {kk : Int} (h : RI w s hs kk) (hkk : kk < 900) {c : Int} (c0 : 0 ≤ c) (c3 : c ≤ 3) (hb : isBusy s c = true) :
    ∃ hs', RI w (stepP s c) hs' (kk + 1) ∧ PickR w s (stepP s c) hs hs' c := by
  obtain ⟨k, r, got, m, q1, q2, q3, q4, q5⟩ := h.cl c c0 c3 hb
  have hnk := h.nk
  have hv := hnd_in (c := c) (m := m) c0 c3 q2 (by omega)
  rw [← q4] at hv
  obtain ⟨ext, hext, cs', t', E, e1, e2, e3, e4, e5, e6, e7, k', r', x', e8, e9, e10, hcame⟩ := h.rw.step c0 c3 hv.2 (by have := h.hk; omega) q5
  have hP : stepP s c = { s with cs := cs', ts := s.ts.set c.toNat t', busy := bif E.is then s.busy else s.busy.set c.toNat false, told := s.told ++ newTold s c } := by
    unfold stepP
    rw [if_pos hb]
    unfold stepS
    rw [q1, e1.hcs, e1.ht, e1.hE]
  have hN : newTold s c = if E.is = false ∧ E.got.length = 2 ∧ E.got.getD 0 0 = 0 then [E.got.getD 1 0] else [] := by
    unfold newTold; rw [q1, e1.hE]
  have hlen : (hs.length : Int) ≤ ((hs ++ ext).length : Int) := by rw [List.length_append]; omega
  have hlen2 : ((hs ++ ext).length : Int) ≤ hs.length + 1 := by
    rcases hext with rfl | ⟨rfl, _⟩
    · rw [List.append_nil]; omega
    · rw [List.length_append]; simp
  -- the others
  have hoth : ∀ c', 0 ≤ c' → c' ≤ 3 → c ≠ c' → isBusy s c' = true → ∃ k r got m, tkC (s.ts.set c.toNat t') c' = mkT c' k r got ∧ 1 ≤ m ∧ m ≤ s.n ∧ s.has.getD c'.toNat 0 = hnd c' m ∧ CI w (cs'.getD 0 0) (cs'.getD 1 0) (cs'.getD 4 0) (hs ++ ext) (s.has.getD c'.toNat 0) k r got := by
    intro c' d0 d3 hne hb'
    obtain ⟨k2, r2, got2, m2, p1, p2, p3, p4, p5⟩ := h.cl c' d0 d3 hb'
    refine ⟨k2, r2, got2, m2, by rw [tkC_set h.lt c0 c3 d0, if_neg hne]; exact p1, p2, p3, p4, p5.mono (by omega) e5 (by omega) ?_⟩
    rcases hext with rfl | ⟨rfl, _⟩
    · simp
    · intro hm
      rw [List.mem_singleton, q4, p4] at hm
      exact hne (hnd_inj d0 d3 p2 (by omega) c0 c3 q2 (by omega) hm).1.symm
  have hhn : ∀ d ∈ hs ++ ext, ∃ m c, 1 ≤ m ∧ m ≤ s.n ∧ 0 ≤ c ∧ c ≤ 3 ∧ d = hnd c m := by
    intro d hd
    rcases List.mem_append.1 hd with hd | hd
    · exact h.hn d hd
    · rcases hext with rfl | ⟨rfl, _⟩
      · simp at hd
      · rw [List.mem_singleton] at hd
        subst hd
        exact ⟨m, c, q2, q3, c0, c3, q4⟩
  have happ : ∀ p ∈ s.told, (hs ++ ext).getD (p - 1).toNat 0 = hs.getD (p - 1).toNat 0 := fun p hp => getD_app (by have := h.told1 p hp; omega)
  have hbt : ∀ (bs : List Bool) (c' : Int), 0 ≤ c' → (bif E.is then s.busy else s.busy.set c.toNat false).getD c'.toNat false = true → s.busy.getD c'.toNat false = true ∧ (c = c' → E.is = true) := by
    intro _ c' d0 hq
    cases hE : E.is with
    | true => rw [hE] at hq; exact ⟨hq, fun _ => rfl⟩
    | false =>
      rw [hE] at hq
      simp only [cond_false] at hq
      rw [busy_set h.lb c0 c3 d0] at hq
      by_cases e : c = c'
      · rw [if_pos e] at hq; cases hq
      · rw [if_neg e] at hq; exact ⟨hq, fun q => (e q).elim⟩
  have base : ∀ told' : List Int, ((told' = s.told ∧ (E.is = true → CI w (cs'.getD 0 0) (cs'.getD 1 0) (cs'.getD 4 0) (hs ++ ext) (s.has.getD c.toNat 0) k' r' [x'])) ∨ (E.is = false ∧ ∃ p : Int, told' = s.told ++ [p] ∧ 1 ≤ p ∧ p ≤ (hs ++ ext).length ∧ (hs ++ ext).getD (p - 1).toNat 0 = s.has.getD c.toNat 0)) →
      RI w { s with cs := cs', ts := s.ts.set c.toNat t', busy := bif E.is then s.busy else s.busy.set c.toNat false, told := told' } (hs ++ ext) (kk + 1) := by
    intro told' ht
    refine ⟨e2, by simp [h.lt], ?_, h.lh, h.n0, by show s.n ≤ kk + 1; omega, by have := h.hk; omega, ?_, hhn, fun c' d0 d3 hb' => ?_, ?_, ?_, ?_⟩
    · show (bif E.is then s.busy else s.busy.set c.toNat false).length = 4
      cases E.is <;> simp [h.lb]
    · show (told'.length : Int) ≤ kk + 1
      have := h.tk
      rcases ht with ⟨rfl, _⟩ | ⟨_, p, rfl, _⟩
      · omega
      · rw [List.length_append]; simp; omega
    · obtain ⟨hb1, hb2⟩ := hbt [] c' d0 hb'
      by_cases e : c = c'
      · subst e
        have hi := hb2 rfl
        rcases ht with ⟨_, hci⟩ | ⟨hf, _⟩
        · refine ⟨k', r', [x'], m, ?_, q2, q3, q4, hci hi⟩
          show tkC (s.ts.set c.toNat t') c = _
          rw [tkC_set h.lt c0 c3 c0, if_pos rfl, e8]
        · rw [hi] at hf; cases hf
      · exact hoth c' d0 d3 e hb1
    · intro p hp
      rcases ht with ⟨rfl, _⟩ | ⟨_, p', rfl, p1, p2, _⟩
      · have := h.told1 p hp; omega
      · rcases List.mem_append.1 hp with hp | hp
        · have := h.told1 p hp; omega
        · rw [List.mem_singleton] at hp; subst hp; exact ⟨p1, p2⟩
    · show told'.Nodup
      rcases ht with ⟨rfl, _⟩ | ⟨_, p', rfl, p1, p2, p3⟩
      · exact h.toldN
      · refine List.nodup_append.2 ⟨h.toldN, by simp, ?_⟩
        intro a ha b hb2 hab
        rw [List.mem_singleton] at hb2
        subst hab
        subst hb2
        have := h.toldB a ha c c0 c3 hb
        rw [happ a ha] at p3
        exact this p3
    · intro p hp c' d0 d3 hb'
      obtain ⟨hb1, hb2⟩ := hbt [] c' d0 hb'
      have hold : ∀ p ∈ s.told, (hs ++ ext).getD (p - 1).toNat 0 ≠ s.has.getD c'.toNat 0 := fun p hp => by
        rw [happ p hp]; exact h.toldB p hp c' d0 d3 hb1
      rcases ht with ⟨rfl, _⟩ | ⟨hf, p', rfl, p1, p2, p3⟩
      · exact hold p hp
      · rcases List.mem_append.1 hp with hp | hp
        · exact hold p hp
        · rw [List.mem_singleton] at hp
          subst hp
          show (hs ++ ext).getD (p - 1).toNat 0 ≠ s.has.getD c'.toNat 0
          rw [p3]
          intro q
          have hne : c ≠ c' := fun e => by rw [hb2 e] at hf; cases hf
          obtain ⟨_, _, _, m2, _, p2', p3', p4', _⟩ := h.cl c' d0 d3 hb1
          rw [q4, p4'] at q
          exact hne (hnd_inj c0 c3 q2 (by omega) d0 d3 p2' (by omega) q).1
  have hx : hs ++ ext = hs ∨ ∃ d, hs ++ ext = hs ++ [d] := by
    rcases hext with rfl | ⟨rfl, _⟩
    · exact .inl (by simp)
    · exact .inr ⟨_, rfl⟩
  have hfr : cs'.getD 0 0 ≤ hs.length := by rw [e3]; exact h.rw.fT
  refine ⟨hs ++ ext, ?_⟩
  rw [hP]
  rcases hcame with ⟨hi, hci⟩ | ⟨hi, h1⟩ | ⟨hi, p, h1, h2, h3, h4⟩
  · have hn : newTold s c = [] := by rw [hN, if_neg (fun q => by rw [hi] at q; cases q.1)]
    rw [hn, List.append_nil]
    exact ⟨base s.told (.inl ⟨rfl, fun _ => hci⟩), hfr, hx, .inl rfl⟩
  · have hn : newTold s c = [] := by rw [hN, if_neg (fun q => by have := q.2.1; omega)]
    rw [hn, List.append_nil]
    exact ⟨base s.told (.inl ⟨rfl, fun q => by rw [hi] at q; cases q⟩), hfr, hx, .inl rfl⟩
  · have hn : newTold s c = [p] := by
      rw [hN, if_pos ⟨hi, by rw [h1]; rfl, by rw [h1]; rfl⟩, h1]; rfl
    rw [hn]
    exact ⟨base (s.told ++ [p]) (.inr ⟨hi, p, rfl, h2, h3, h4⟩), hfr, hx, .inr ⟨p, rfl, h2, h3, h4⟩⟩
theorem RI.pick {w : Int} {s : GS} {hs : List Int} {kk : Int} (h : RI w s hs kk) (hkk : kk < 900) (x dd : Int) : ∃ hs', RI w (pickG w s x dd) hs' (kk + 1) ∧ PickR w s (pickG w s x dd) hs hs' (x % 4) := by
  have c0 : 0 ≤ x % 4 := Int.emod_nonneg _ (by decide)
  have c3 : x % 4 ≤ 3 := by have := Int.emod_lt_of_pos x (by decide : (0 : Int) < 4); omega
  have same : PickR w s s hs hs (x % 4) := ⟨h.rw.fT, .inl rfl, .inl rfl⟩
  unfold pickG
  split
  · unfold beginP
    cases hb : isBusy s (x % 4) with
    | true => rw [if_pos rfl]; exact ⟨hs, h.more (by omega), same⟩
    | false => rw [if_neg (by simp)]; exact ⟨hs, h.begin hkk c0 c3 hb, h.rw.fT, .inl rfl, .inl rfl⟩
  split
  · cases hb : isBusy s (x % 4) with
    | true => exact h.step hkk c0 c3 hb
    | false =>
      have : stepP s (x % 4) = s := by unfold stepP; rw [if_neg (by rw [hb]; simp)]
      rw [this]; exact ⟨hs, h.more (by omega), same⟩
  have hl := h.rw.lc
  split
  · unfold doneP
    split
    · rename_i hp
      have g0 : (s.cs.set 0 (frontG s + 1)).getD 0 0 = frontG s + 1 := getD_set_eq (by omega)
      have hfr := (h.rw.done hp).fT
      refine ⟨hs, (h.cells (h.rw.done hp) (by rw [show s.cs.getD 0 0 = frontG s from rfl, g0]; omega) (by rw [getD_set_ne' (by decide)]; exact Int.le_refl _) (by rw [getD_set_ne' (by decide)]; exact Int.le_refl _)).more (by omega), hfr, .inl rfl, .inl rfl⟩
    · exact ⟨hs, h.more (by omega), same⟩
  split
  · have g4 : (s.cs.set 4 (s.cs.getD 0 0)).getD 4 0 = s.cs.getD 0 0 := getD_set_eq (by omega)
    refine ⟨hs, (h.cells h.rw.ckpt (by rw [getD_set_ne' (by decide)]; exact Int.le_refl _) (by rw [getD_set_ne' (by decide)]; exact Int.le_refl _) (by rw [g4]; exact h.rw.qf)).more (by omega), h.rw.ckpt.fT, .inl rfl, .inl rfl⟩
  · exact ⟨hs, h.more (by omega), same⟩
theorem RI.ok {w : Int} {s : GS} {hs : List Int} {kk : Int} (h : RI w s hs kk) (hkk : kk < 900) {now sure : List Sector} (hd : diskOK now sure = true) (hg1 : goodL now = true) (hg2 : goodL sure = true) (x : Int) : OkPick w s now sure (x % 4) := by
  have c0 : 0 ≤ x % 4 := Int.emod_nonneg _ (by decide)
  have c3 : x % 4 ≤ 3 := by have := Int.emod_lt_of_pos x (by decide : (0 : Int) < 4); omega
  have h1 := h.nk
  have h2 := h.tk
  have h3 := h.rw.q0
  have h4 := h.rw.qf
  have h5 := h.rw.fT
  have h6 := h.rw.Tk
  exact ⟨h.rw.w0, h.rw.w1, h.lt, h.lb, h.lh, h.n0, by omega, h.rw.lc, by show 0 ≤ s.cs.getD 0 0; omega, by show s.cs.getD 0 0 ≤ _; omega, by omega, fun hb => h.stepOK hkk hd hg1 hg2 c0 c3 hb⟩
def gA (t : Task) : GoR4 := goO false t.stack t.got
def gB (t : Task) : GoR4 := goO true t.stack t.got
def oX (cs : List Int) (t : Task) : Int := doG4 cs (gA t).kind (gA t).a (gA t).b
def oCs (cs : List Int) (t : Task) : List Int := doC4 cs (gA t).kind (gA t).a (gA t).b (gA t).v
def oT (cs : List Int) (t : Task) : Task := ⟨t.client, (gA t).st, [oX cs t], (gA t).over⟩
def oU (cs : List Int) (t u : Task) : Task := ⟨u.client, (gB u).st, [oX cs t], (gB u).over⟩
def oE (cs : List Int) (t : Task) : GoR4 := goO false (gA t).st [oX cs t]
def oF (cs : List Int) (t u : Task) : GoR4 := goO true (gB u).st [oX cs t]
structure OkStepO (c : Int) (cs : List Int) (t u : Task) (now sure : List Sector) : Prop where
  a1 : okO false c t.stack t.got
  b1 : okO true c u.stack u.got
  ct : t.client = c
  cu : u.client = c
  ot : t.over = false
  ou : u.over = false
  is : (gA t).is = true
  ab : sameG (gA t) (gB u)
  hd : OkDo4 cs (gA t).kind (gA t).a (gA t).b (gA t).v
  hg : 0 ≤ (gA t).g
  hc : cellsOK cs = true
  d1 : diskOK now sure = true
  d2 : goodL now = true
  d3 : goodL sure = true
  a2 : okO false c (gA t).st [oX cs t]
  b2 : okO true c (gB u).st [oX cs t]
  ef : sameG (oE cs t) (oF cs t u)
structure OS where
  cs : List Int
  ts : List Task
  us : List Task
  busy : List Bool
  kind : List Int
  opn : List Bool
  start : List Int
def oBusy (s : OS) (c : Int) : Bool := s.busy.getD c.toNat false
def oKind (s : OS) (c : Int) : Int := s.kind.getD c.toNat 0
def endO (s : OS) (c : Int) : GoR4 := oE s.cs (tkC s.ts c)
def stepO (s : OS) (c : Int) : OS :=
  { s with cs := oCs s.cs (tkC s.ts c), ts := s.ts.set c.toNat (oT s.cs (tkC s.ts c)), us := s.us.set c.toNat (oU s.cs (tkC s.ts c) (tkC s.us c)), busy := bif (endO s c).is then s.busy else s.busy.set c.toNat false }
def stepQ (s : OS) (c : Int) : OS :=
  if (endO s c).is = false ∧ oKind s c = 0 ∧ (endO s c).got.length = 1 then { stepO s c with opn := s.opn.set c.toNat true, start := s.start.set c.toNat ((endO s c).got.getD 0 0) } else stepO s c
def beginO (s : OS) (c kd : Int) : OS :=
  { s with kind := s.kind.set c.toNat kd, ts := s.ts.set c.toNat (mkO c (92 + kd) 0 (c :: List.replicate 95 0) []), us := s.us.set c.toNat (mkO c (92 + kd) 0 (c :: List.replicate 95 0) []), busy := s.busy.set c.toNat true }
def closeO (s : OS) (c : Int) : OS := { s with opn := s.opn.set c.toNat false, cs := s.cs.set (9 + c.toNat) 0 }
def pickO (s : OS) (x dd : Int) : OS :=
  if dd = 0 ∨ dd = 1 then (if oBusy s (x % 4) = false ∧ (dd = 1 ∨ opB s.opn (x % 4).toNat = false) then beginO s (x % 4) dd else s)
  else if dd = 2 then (if oBusy s (x % 4) = true then stepQ s (x % 4) else s)
  else if dd = 3 then (if opB s.opn (x % 4).toNat = true ∧ oBusy s (x % 4) = false then closeO s (x % 4) else s)
  else if dd = 4 then { s with cs := s.cs.set 0 (frC s.cs + 1) } else s
def OCl (s : OS) (c : Int) : Prop := ∃ k r q got,
  (oKind s c = 0 ∧ tkC s.ts c = mkO c 92 k r got ∧ tkC s.us c = mkO c 92 k r got ∧ JB s.cs s.opn c k r got ∧ (goO false [⟨92, k, r⟩] got).is = true) ∨
  (oKind s c = 1 ∧ tkC s.ts c = mkO c 93 k r got ∧ tkC s.us c = mkO c 93 k q got ∧ JM s.cs s.opn s.start k r q got ∧ (goO false [⟨93, k, r⟩] got).is = true)
structure OI (s : OS) (most kk : Int) : Prop where
  oc : OC s.cs
  fk : frC s.cs ≤ kk
  lt : s.ts.length = 4
  lu : s.us.length = 4
  lb : s.busy.length = 4
  lk : s.kind.length = 4
  lo : s.opn.length = 4
  ls : s.start.length = 4
  mm : most ≤ mkC s.cs
  op : ∀ i, i < 4 → opB s.opn i = true → scC s.cs i = stA s.start i + 1 ∧ most ≤ stA s.start i ∧ 0 ≤ stA s.start i
  cl : ∀ c : Int, 0 ≤ c → c ≤ 3 → oBusy s c = true → OCl s c
theorem bset {bs : List Bool} {i j : Nat} {b : Bool} (hl : bs.length = 4) (hi : i < 4) : (bs.set i b).getD j false = if i = j then b else bs.getD j false := by
  by_cases e : i = j
  · subst e
    rw [if_pos rfl, List.getD_eq_getElem?_getD, List.getElem?_set_self (by omega)]; rfl
  · rw [if_neg e, List.getD_eq_getElem?_getD, List.getD_eq_getElem?_getD, List.getElem?_set_ne e]
theorem OI.more {s : OS} {most kk kk' : Int} (h : OI s most kk) (hk : kk ≤ kk') : OI s most kk' := ⟨h.oc, by have := h.fk; omega, h.lt, h.lu, h.lb, h.lk, h.lo, h.ls, h.mm, h.op, h.cl⟩
structure StO (s : OS) (c p n : Int) (r' q' : List Int) (x : Int) (cs' : List Int) : Prop where
  xx : oX s.cs (tkC s.ts c) = x
  cs : oCs s.cs (tkC s.ts c) = cs'
  t : oT s.cs (tkC s.ts c) = mkO c p n r' [x]
  u : oU s.cs (tkC s.ts c) (tkC s.us c) = mkO c p n q' [x]
  e : endO s c = goO false [⟨p, n, r'⟩] [x]
  ok : ∀ now sure, diskOK now sure = true → goodL now = true → goodL sure = true → OkStepO c s.cs (tkC s.ts c) (tkC s.us c) now sure
theorem StO.of {s : OS} {c p k n kd a b v : Int} {r q r' q' got : List Int} (ht : tkC s.ts c = mkO c p k r got) (hu : tkC s.us c = mkO c p k q got) (hA : goO false [⟨p, k, r⟩] got = g4 p n r' got kd a b v 0) (hB : goO true [⟨p, k, q⟩] got = g4 p n q' got kd a b v 0)
    (hd : OkDo4 s.cs kd a b v) (hc : cellsOK s.cs = true) (o1 : okO false c [⟨p, k, r⟩] got) (o2 : okO true c [⟨p, k, q⟩] got) (o3 : okO false c [⟨p, n, r'⟩] [doG4 s.cs kd a b]) (o4 : okO true c [⟨p, n, q'⟩] [doG4 s.cs kd a b])
    (hs : sameG (goO false [⟨p, n, r'⟩] [doG4 s.cs kd a b]) (goO true [⟨p, n, q'⟩] [doG4 s.cs kd a b])) : StO s c p n r' q' (doG4 s.cs kd a b) (doC4 s.cs kd a b v) := by
  have eA : gA (tkC s.ts c) = g4 p n r' got kd a b v 0 := by rw [ht]; exact hA
  have eB : gB (tkC s.us c) = g4 p n q' got kd a b v 0 := by rw [hu]; exact hB
  have ex : oX s.cs (tkC s.ts c) = doG4 s.cs kd a b := by unfold oX; rw [eA]; rfl
  refine ⟨ex, by unfold oCs; rw [eA]; rfl, by unfold oT; rw [ex, eA, ht]; rfl, by unfold oU; rw [ex, eB, hu]; rfl, by unfold endO oE; rw [ex, eA]; rfl, fun now sure d1 d2 d3 => ?_⟩
  refine ⟨by rw [ht]; exact o1, by rw [hu]; exact o2, by rw [ht]; rfl, by rw [hu]; rfl, by rw [ht]; rfl, by rw [hu]; rfl, by rw [eA]; rfl, by rw [eA, eB]; exact sameG_g4, by rw [eA]; exact hd, by rw [eA]; exact Int.le_refl _, hc, d1, d2, d3, by rw [eA, ex]; exact o3, by rw [eB, ex]; exact o4, ?_⟩
  unfold oE oF
  rw [eA, eB, ex]
  exact hs
structure StepO (s : OS) (most kk : Int) (c : Int) (most' : Int) : Prop where
  ok : ∀ now sure, diskOK now sure = true → goodL now = true → goodL sure = true → OkStepO c s.cs (tkC s.ts c) (tkC s.us c) now sure
  oi : OI (stepQ s c) most' kk
  ans : (endO s c).is = true ∧ most' = most ∨ (endO s c).is = false ∧ ∃ a, (endO s c).got = [a] ∧ (oKind s c = 0 ∧ most' = most ∨ oKind s c = 1 ∧ most' = max most a)
  mr : mkC s.cs ≤ mkC (stepQ s c).cs
theorem OI.step {s : OS} {most kk : Int} (h : OI s most kk) {c : Int} (c0 : 0 ≤ c) (c3 : c ≤ 3) (hb : oBusy s c = true) : ∃ most', StepO s most kk c most' := by
  have hoc := h.oc
  have hf := hoc.fr
  have hmk := hoc.mr
  have hcn : c.toNat < 4 := by omega
  obtain ⟨k, r, q, got, ⟨hk, ht, hu, hJ, hi⟩ | ⟨hk, ht, hu, hJ, hi⟩⟩ := h.cl c c0 c3 hb
  · obtain ⟨n, r', kd, a, b, v, hA, hd, hC, hJ', hE⟩ := hJ.step hoc c0 c3 hi
    have hoc' := hC.next hoc
    have hf' := hoc'.fr
    have S := StO.of ht hu (hA false) (hA true) hd hoc.ok (hJ.ok hf c0 c3 false) (hJ.ok hf c0 c3 true) (hJ'.ok hf' c0 c3 false) (hJ'.ok hf' c0 c3 true) (by
      have : ∀ own, goO own [⟨92, n, r'⟩] [doG4 s.cs kd a b] = oBeg n r' [doG4 s.cs kd a b] (doG4 s.cs kd a b) := fun own => rfl
      rw [this, this]; exact ⟨rfl, rfl, rfl, rfl, rfl, rfl, rfl⟩)
    generalize doC4 s.cs kd a b v = cs' at *
    generalize doG4 s.cs kd a b = x at *
    have hnop : opB s.opn c.toNat = false := hJ.2.2.1
    have hS : stepO s c = { s with cs := cs', ts := s.ts.set c.toNat (mkO c 92 n r' [x]), us := s.us.set c.toNat (mkO c 92 n r' [x]), busy := bif (endO s c).is then s.busy else s.busy.set c.toNat false } := by
      unfold stepO; rw [S.cs, S.t, S.u]
    -- the others, whatever becomes of this client
    have hoth : ∀ (opn' : List Bool) (start' : List Int) (busy' : List Bool), (∀ i, i ≠ c.toNat → opB opn' i = opB s.opn i ∧ stA start' i = stA s.start i) → (opB opn' c.toNat = true → mkC s.cs ≤ stA start' c.toNat) →
        ∀ c', 0 ≤ c' → c' ≤ 3 → c' ≠ c → oBusy s c' = true → OCl ⟨cs', s.ts.set c.toNat (mkO c 92 n r' [x]), s.us.set c.toNat (mkO c 92 n r' [x]), busy', s.kind, opn', start'⟩ c' := by
      intro opn' start' busy' ho1 ho2 c' d0 d3 hne hb'
      have hne' : c'.toNat ≠ c.toNat := by omega
      obtain ⟨k2, r2, q2, got2, ⟨p0, p1, p2, p3, p4⟩ | ⟨p0, p1, p2, p3, p4⟩⟩ := h.cl c' d0 d3 hb'
      · refine ⟨k2, r2, q2, got2, .inl ⟨p0, by show tkC (s.ts.set c.toNat _) c' = _; rw [tkC_set h.lt c0 c3 d0, if_neg (fun e => hne e.symm)]; exact p1, by show tkC (s.us.set c.toNat _) c' = _; rw [tkC_set h.lu c0 c3 d0, if_neg (fun e => hne e.symm)]; exact p2, ?_, p4⟩⟩
        exact p3.mono (by rw [hC.fr]; exact Int.le_refl _) (hC.sc _ (.inl hne')) (ho1 _ hne').1
      · refine ⟨k2, r2, q2, got2, .inr ⟨p0, by show tkC (s.ts.set c.toNat _) c' = _; rw [tkC_set h.lt c0 c3 d0, if_neg (fun e => hne e.symm)]; exact p1, by show tkC (s.us.set c.toNat _) c' = _; rw [tkC_set h.lu c0 c3 d0, if_neg (fun e => hne e.symm)]; exact p2, ?_, p4⟩⟩
        refine p3.mono (by rw [hC.fr]; exact Int.le_refl _) hC.mr.1 fun i hi => ?_
        by_cases e : i = c.toNat
        · subst e; exact .inr (ho2 hi)
        · exact .inl ⟨by rw [← (ho1 i e).1]; exact hi, (ho1 i e).2⟩
    have hfk : frC cs' ≤ kk := by rw [hC.fr]; exact h.fk
    have hmm : most ≤ mkC cs' := by have := h.mm; have := hC.mr; omega
    cases hE2 : (endO s c).is with
    | true =>
      have hQ : stepQ s c = stepO s c := by unfold stepQ; rw [if_neg (fun q => by rw [hE2] at q; cases q.1)]
      rw [hE2] at hS
      refine ⟨most, S.ok, ?_, .inl ⟨hE2, rfl⟩, by rw [hQ, hS]; exact hC.mr.1⟩
      rw [hQ, hS]
      refine ⟨hoc', hfk, by simp [h.lt], by simp [h.lu], h.lb, h.lk, h.lo, h.ls, hmm, fun i hi ho => ?_, fun c' d0 d3 hb' => ?_⟩
      · have hne : i ≠ c.toNat := fun e => by subst e; rw [show opB s.opn c.toNat = true from ho] at hnop; cases hnop
        show scC cs' i = _ ∧ _
        rw [hC.sc i (.inl hne)]
        exact h.op i hi ho
      · by_cases e : c' = c
        · subst e
          refine ⟨n, r', r', [x], .inl ⟨hk, by show tkC (s.ts.set c'.toNat _) c' = _; rw [tkC_set h.lt c0 c3 c0, if_pos rfl], by show tkC (s.us.set c'.toNat _) c' = _; rw [tkC_set h.lu c0 c3 c0, if_pos rfl], hJ', ?_⟩⟩
          rw [← S.e]; exact hE2
        · exact hoth s.opn s.start _ (fun _ _ => ⟨rfl, rfl⟩) (fun q => by rw [hnop] at q; cases q) c' d0 d3 e hb'
    | false =>
      obtain ⟨w, e1, e2, e3, e4⟩ := hE (by rw [← S.e]; exact hE2)
      have hgot : (endO s c).got = [w] := by rw [S.e, e1]; rfl
      have hQ : stepQ s c = { stepO s c with opn := s.opn.set c.toNat true, start := s.start.set c.toNat w } := by
        unfold stepQ; rw [if_pos ⟨hE2, hk, by rw [hgot]; rfl⟩, hgot]; rfl
      rw [hE2] at hS
      refine ⟨most, S.ok, ?_, .inr ⟨hE2, w, hgot, .inl ⟨hk, rfl⟩⟩, by rw [hQ, hS]; exact hC.mr.1⟩
      rw [hQ, hS]
      have hop' : ∀ i, opB (s.opn.set c.toNat true) i = if c.toNat = i then true else opB s.opn i := fun i => bset h.lo hcn
      have hst' : ∀ i, stA (s.start.set c.toNat w) i = if c.toNat = i then w else stA s.start i := fun i => by unfold stA; rw [getD_set _ _ _ _ _ (by rw [h.ls]; omega)]
      refine ⟨hoc', hfk, by simp [h.lt], by simp [h.lu], by simp [h.lb], h.lk, by simp [h.lo], by simp [h.ls], hmm, fun i hi ho => ?_, fun c' d0 d3 hb' => ?_⟩
      · show scC cs' i = stA (s.start.set c.toNat w) i + 1 ∧ most ≤ stA (s.start.set c.toNat w) i ∧ 0 ≤ stA (s.start.set c.toNat w) i
        rw [hst']
        by_cases e : c.toNat = i
        · rw [if_pos e, ← e]
          have := hC.mr
          have := h.mm
          exact ⟨e3, by omega, by omega⟩
        · rw [if_neg e, hC.sc i (.inl (fun q => e q.symm))]
          have ho : opB (s.opn.set c.toNat true) i = true := ho
          rw [hop', if_neg e] at ho
          exact h.op i hi ho
      · have hb' : (s.busy.set c.toNat false).getD c'.toNat false = true := hb'
        rw [bset h.lb hcn] at hb'
        by_cases e : c' = c
        · subst e; rw [if_pos rfl] at hb'; cases hb'
        · rw [if_neg (by omega)] at hb'
          exact hoth _ _ _ (fun i hi => ⟨by rw [hop', if_neg (fun e => hi e.symm)], by rw [hst', if_neg (fun e => hi e.symm)]⟩) (fun _ => by rw [hst', if_pos rfl]; have := hC.mr; omega) c' d0 d3 e hb'
  · obtain ⟨n, r', q', kd, a, b, v, hA, hB, hd, hC, hJ', hE⟩ := hJ.step hoc (fun i hi ho => by have := h.op i hi ho; exact ⟨this.1, this.2.2⟩) hi
    have hoc' := hC.next hoc
    have hf' := hoc'.fr
    have ok1 := hJ.ok hf c0 c3
    have ok2 := hJ'.ok hf' c0 c3
    have S := StO.of ht hu hA hB hd hoc.ok ok1.1 ok1.2.1 ok2.1 ok2.2.1 ok2.2.2
    generalize doC4 s.cs kd a b v = cs' at *
    generalize doG4 s.cs kd a b = x at *
    have hS : stepO s c = { s with cs := cs', ts := s.ts.set c.toNat (mkO c 93 n r' [x]), us := s.us.set c.toNat (mkO c 93 n q' [x]), busy := bif (endO s c).is then s.busy else s.busy.set c.toNat false } := by
      unfold stepO; rw [S.cs, S.t, S.u]
    have hQ : stepQ s c = stepO s c := by unfold stepQ; rw [if_neg (fun q => by rw [hk] at q; exact absurd q.2.1 (by decide))]
    have hoth : ∀ (busy' : List Bool), ∀ c', 0 ≤ c' → c' ≤ 3 → c' ≠ c → oBusy s c' = true → OCl ⟨cs', s.ts.set c.toNat (mkO c 93 n r' [x]), s.us.set c.toNat (mkO c 93 n q' [x]), busy', s.kind, s.opn, s.start⟩ c' := by
      intro busy' c' d0 d3 hne hb'
      have hne' : c'.toNat ≠ c.toNat := by omega
      obtain ⟨k2, r2, q2, got2, ⟨p0, p1, p2, p3, p4⟩ | ⟨p0, p1, p2, p3, p4⟩⟩ := h.cl c' d0 d3 hb'
      · refine ⟨k2, r2, q2, got2, .inl ⟨p0, by show tkC (s.ts.set c.toNat _) c' = _; rw [tkC_set h.lt c0 c3 d0, if_neg (fun e => hne e.symm)]; exact p1, by show tkC (s.us.set c.toNat _) c' = _; rw [tkC_set h.lu c0 c3 d0, if_neg (fun e => hne e.symm)]; exact p2, ?_, p4⟩⟩
        exact p3.mono (by rw [hC.fr]; exact Int.le_refl _) (hC.sc _ (.inr rfl)) rfl
      · refine ⟨k2, r2, q2, got2, .inr ⟨p0, by show tkC (s.ts.set c.toNat _) c' = _; rw [tkC_set h.lt c0 c3 d0, if_neg (fun e => hne e.symm)]; exact p1, by show tkC (s.us.set c.toNat _) c' = _; rw [tkC_set h.lu c0 c3 d0, if_neg (fun e => hne e.symm)]; exact p2, ?_, p4⟩⟩
        exact p3.mono (by rw [hC.fr]; exact Int.le_refl _) hC.mr.1 fun i hi => .inl ⟨hi, rfl⟩
    have hfk : frC cs' ≤ kk := by rw [hC.fr]; exact h.fk
    have hmm : most ≤ mkC cs' := by have := h.mm; have := hC.mr; omega
    cases hE2 : (endO s c).is with
    | true =>
      rw [hE2] at hS
      refine ⟨most, S.ok, ?_, .inl ⟨hE2, rfl⟩, by rw [hQ, hS]; exact hC.mr.1⟩
      rw [hQ, hS]
      refine ⟨hoc', hfk, by simp [h.lt], by simp [h.lu], h.lb, h.lk, h.lo, h.ls, hmm, fun i hi ho => ?_, fun c' d0 d3 hb' => ?_⟩
      · show scC cs' i = _ ∧ _
        rw [hC.sc i (.inr rfl)]
        exact h.op i hi ho
      · by_cases e : c' = c
        · subst e
          refine ⟨n, r', q', [x], .inr ⟨hk, by show tkC (s.ts.set c'.toNat _) c' = _; rw [tkC_set h.lt c0 c3 c0, if_pos rfl], by show tkC (s.us.set c'.toNat _) c' = _; rw [tkC_set h.lu c0 c3 c0, if_pos rfl], hJ', ?_⟩⟩
          rw [← S.e]; exact hE2
        · exact hoth _ c' d0 d3 e hb'
    | false =>
      obtain ⟨w, e1, e2, e3⟩ := hE (by rw [← S.e]; exact hE2)
      have hgot : (endO s c).got = [w] := by rw [S.e, e1]; rfl
      rw [hE2] at hS
      refine ⟨max most w, S.ok, ?_, .inr ⟨hE2, w, hgot, .inr ⟨hk, rfl⟩⟩, by rw [hQ, hS]; exact hC.mr.1⟩
      rw [hQ, hS]
      refine ⟨hoc', hfk, by simp [h.lt], by simp [h.lu], by simp [h.lb], h.lk, h.lo, h.ls, by show max most w ≤ mkC cs'; omega, fun i hi ho => ?_, fun c' d0 d3 hb' => ?_⟩
      · show scC cs' i = _ ∧ _
        rw [hC.sc i (.inr rfl)]
        have h3 := e3 i hi ho
        have h4 := h.op i hi ho
        exact ⟨h4.1, by show max most w ≤ stA s.start i; omega, h4.2.2⟩
      · have hb' : (s.busy.set c.toNat false).getD c'.toNat false = true := hb'
        rw [bset h.lb hcn] at hb'
        by_cases e : c' = c
        · subst e; rw [if_pos rfl] at hb'; cases hb'
        · rw [if_neg (by omega)] at hb'
          exact hoth _ c' d0 d3 e hb'
open Go.Proofs
set_option maxRecDepth 100000
structure step23_St where
  c : Int
  now : List Sector
  sure : List Sector
  cs : List Int
  ts : List Task
  us : List Task
  busy : List Bool
def step23_a (c : Int) (now : List Sector) (sure : List Sector) (cs : List Int) (ts : List Task) (us : List Task) (busy : List Bool) : List (D RC) := [.ptr 0 [], .int .i64 c]
def step23_o (c : Int) (now : List Sector) (sure : List Sector) (cs : List Int) (ts : List Task) (us : List Task) (busy : List Bool) : List (Obj RC) := [.var 46 (.acons (.acons (.sl (C := RC) .int false cs) (.acons (.acons (.sl (C := RC) .sector false now) (.acons (.sl (C := RC) .sector false sure) .anil)) .anil)) (.acons (.arr (C := RC) .task 4 ts) (.acons (.arr (C := RC) .task 4 us) (.acons (.arr (C := RC) .bool 4 busy) .anil))))]
noncomputable def step23_r (c : Int) (now : List Sector) (sure : List Sector) (cs : List Int) (ts : List Task) (us : List Task) (busy : List Bool) := fnO s23 ug_6 13 60 1 (step23_a c now sure cs ts us busy) (step23_o c now sure cs ts us busy)
theorem step23_eq (c : Int) (now : List Sector) (sure : List Sector) (cs : List Int) (ts : List Task) (us : List Task) (busy : List Bool) : step23_r c now sure cs ts us busy = (let Z0 : Bool := decide ((0 : Int) ≤ c ∧ c < (4 : Int)); let Z1 : Nat := Int.toNat c; let Z2 : Task := Task.mk (0 : Int) [] [] false; let Z3 : Task := List.getD ts Z1 Z2; let Z4 : Int := Task.client Z3; let Z5 : Task := List.getD us Z1 Z2; let Z6 : Int := Task.client Z5; let Z7 : GoR4 := goO false (Task.stack Z3) (Task.got Z3); let Z8 : GoR4 := goO true (Task.stack Z5) (Task.got Z5); let Z9 : D RC := D.sl RTy.int true []; let Z10 : D RC := .anil; let Z11 : D RC := D.acons (D.bool false) Z10; let Z12 : D RC := D.tup (D.acons Z9 (D.acons (D.bool false) Z11)); let Z13 : D RC := D.acons (D.acons (D.sl RTy.sector false now) (.acons (D.sl RTy.sector false sure) Z10)) Z10; let Z14 : D RC := D.acons (D.sl RTy.int false cs) Z13; let Z15 : D RC := D.arr RTy.task (4 : Nat) ts; let Z16 : D RC := D.arr RTy.task (4 : Nat) us; let Z17 : D RC := D.acons (D.arr RTy.bool (4 : Nat) busy) Z10; let Z18 : Option (D RC × List (Option (Obj RC))) := some (Z12, [some (Obj.var 46 (.acons Z14 (D.acons Z15 (D.acons Z16 Z17))))]); let Z19 : Int := GoR4.kind Z7; let Z20 : Int := GoR4.a Z7; let Z21 : Int := GoR4.b Z7; let Z22 : Nat := List.length (GoR4.st Z7); let Z23 : Nat := List.length (GoR4.st Z8); let Z24 : Nat := List.length (GoR4.got Z7); let Z25 : Nat := List.length (GoR4.got Z8); let Z26 : D RC := D.bool true; let Z27 : D RC := D.acons (D.arr RTy.bool (4 : Nat) (List.set busy Z1 false)) Z10; let Z28 : List (Option (Obj RC)) := [some (Obj.var 46 (.acons Z14 (D.acons Z15 (D.acons Z16 Z27))))]; let Z29 : Option (D RC × List (Option (Obj RC))) := none; let Z30 : List Task := List.set ts Z1 (Task.mk Z4 (GoR4.st Z7) [doG4 cs Z19 Z20 Z21] (GoR4.over Z7)); let Z31 : Task := List.getD Z30 Z1 Z2; let Z32 : List Task := List.set us Z1 (Task.mk Z6 (GoR4.st Z8) [doG4 cs Z19 Z20 Z21] (GoR4.over Z8)); let Z33 : Task := List.getD Z32 Z1 Z2; let Z34 : GoR4 := goO false (Task.stack Z31) (Task.got Z31); let Z35 : GoR4 := goO true (Task.stack Z33) (Task.got Z33); let Z36 : D RC := D.acons (D.sl RTy.int false (doC4 cs Z19 Z20 Z21 (GoR4.v Z7))) Z13; let Z37 : D RC := D.arr RTy.task (4 : Nat) Z30; let Z38 : D RC := D.arr RTy.task (4 : Nat) Z32; let Z39 : List (Option (Obj RC)) := [some (Obj.var 46 (.acons Z36 (D.acons Z37 (D.acons Z38 Z17))))]; let Z40 : Nat := List.length (GoR4.st Z34); let Z41 : Nat := List.length (GoR4.st Z35); let Z42 : D RC := D.sl RTy.int false (GoR4.got Z34); let Z43 : List (Option (Obj RC)) := [some (Obj.var 46 (.acons Z36 (D.acons Z37 (D.acons Z38 Z27))))]; let Z44 : Option (D RC × List (Option (Obj RC))) := bif GoR4.is Z34 then some (D.tup (D.acons Z9 (D.acons (D.bool false) (.acons Z26 Z10))), Z39) else bif Z0 then bif lenOK Z40 then bif (↑Z40 : Int) == (0 : Int) then bif lenOK Z41 then bif (↑Z41 : Int) == (0 : Int) then bif lenOK (GoR4.got Z34).length && lenOK (GoR4.got Z35).length then some (D.tup (D.acons Z42 (D.acons Z26 (D.acons (D.bool (decide (GoR4.got Z34 = GoR4.got Z35))) Z10))), Z43) else Z29 else some (D.tup (D.acons Z42 (D.acons Z26 Z11)), Z43) else Z29 else some (D.tup (D.acons Z42 (D.acons Z26 Z11)), Z43) else Z29 else Z29; let Z45 : Option (D RC × List (Option (Obj RC))) := bif !GoR4.is Z7 then bif Z0 then bif lenOK Z22 then bif (↑Z22 : Int) == (0 : Int) then bif lenOK Z23 then bif (↑Z23 : Int) == (0 : Int) then bif lenOK Z24 && lenOK Z25 then some (D.tup (D.acons Z9 (D.acons Z26 (D.acons (D.bool (decide (GoR4.got Z7 = GoR4.got Z8))) Z10))), Z28) else Z29 else some (D.tup (D.acons Z9 (D.acons Z26 Z11)), Z28) else Z29 else some (D.tup (D.acons Z9 (D.acons Z26 Z11)), Z28) else Z29 else Z29 else bif decide (OkDo4 cs Z19 Z20 Z21 (GoR4.v Z7)) && decide ((0 : Int) ≤ GoR4.g Z7) && (cellsOK cs && (diskOK now sure && (goodL now && goodL sure))) then bif decide ((0 : Int) ≤ Z4 ∧ Z4 ≤ (3 : Int) ∧ Z24 ≤ (96 : Nat) ∧ (1 : Nat) ≤ Z22 ∧ Z22 ≤ (6 : Nat)) && !GoR4.over Z7 then bif Z0 then bif decide ((0 : Int) ≤ Z6 ∧ Z6 ≤ (3 : Int) ∧ Z25 ≤ (96 : Nat) ∧ (1 : Nat) ≤ Z23 ∧ Z23 ≤ (6 : Nat)) && !GoR4.over Z8 then bif Z0 then bif Z0 then bif cdec (okO false (Task.client Z31) (Task.stack Z31) (Task.got Z31)) && !Task.over Z31 then bif Z0 then bif cdec (okO true (Task.client Z33) (Task.stack Z33) (Task.got Z33)) && !Task.over Z33 then bif !GoR4.is Z34 == GoR4.is Z35 then some (Z12, Z39) else bif GoR4.is Z34 then bif !decide (GoR4.kind Z34 = GoR4.kind Z35 ∧ GoR4.a Z34 = GoR4.a Z35 ∧ GoR4.b Z34 = GoR4.b Z35 ∧ GoR4.v Z34 = GoR4.v Z35 ∧ GoR4.g Z34 = GoR4.g Z35) then some (Z12, Z39) else Z44 else Z44 else Z29 else Z29 else Z29 else Z29 else Z29 else Z29 else Z29 else Z29 else Z29; bif Z0 then bif cdec (okO false Z4 (Task.stack Z3) (Task.got Z3)) && !Task.over Z3 then bif Z0 then bif cdec (okO true Z6 (Task.stack Z5) (Task.got Z5)) && !Task.over Z5 then bif !GoR4.is Z7 == GoR4.is Z8 then Z18 else bif GoR4.is Z7 then bif !decide (Z19 = GoR4.kind Z8 ∧ Z20 = GoR4.a Z8 ∧ Z21 = GoR4.b Z8 ∧ GoR4.v Z7 = GoR4.v Z8 ∧ GoR4.g Z7 = GoR4.g Z8) then Z18 else Z45 else Z45 else Z29 else Z29 else Z29 else Z29) := by kernel_rfl
noncomputable def step23_fin (c : Int) (now : List Sector) (sure : List Sector) (cs : List Int) (ts : List Task) (us : List Task) (busy : List Bool) : RT RC := .leaf .ret [(0, .tup (.acons (.sl (C := RC) .int (oE cs (tkC ts c)).is (bif (oE cs (tkC ts c)).is then [] else (oE cs (tkC ts c)).got)) (.acons (.bool (!(oE cs (tkC ts c)).is)) (.acons (.bool true) .anil))))] (step23_o c now sure (oCs cs (tkC ts c)) (ts.set c.toNat (oT cs (tkC ts c))) (us.set c.toNat (oU cs (tkC ts c) (tkC us c))) (bif (oE cs (tkC ts c)).is then busy else busy.set c.toNat false))
def step23_Inv (c : Int) (now : List Sector) (sure : List Sector) (cs : List Int) (ts : List Task) (us : List Task) (busy : List Bool) : Prop := 0 ≤ c ∧ c ≤ 3 ∧ ts.length = 4 ∧ us.length = 4 ∧ OkStepO c cs (tkC ts c) (tkC us c) now sure
noncomputable def step23_S : FunR RC step23_St where
  k := 1
  args q := step23_a q.c q.now q.sure q.cs q.ts q.us q.busy
  objs q := step23_o q.c q.now q.sure q.cs q.ts q.us q.busy
  fin q := step23_fin q.c q.now q.sure q.cs q.ts q.us q.busy
  Inv q := step23_Inv q.c q.now q.sure q.cs q.ts q.us q.busy
theorem step23_ok (c : Int) (now : List Sector) (sure : List Sector) (cs : List Int) (ts : List Task) (us : List Task) (busy : List Bool) (hI : step23_Inv c now sure cs ts us busy) : Leaf (step23_r c now sure cs ts us busy) (LedF step23_S ⟨c, now, sure, cs, ts, us, busy⟩) := by
  (rw [step23_eq]; conv => zeta)
  unfold step23_Inv at hI
  obtain ⟨h1, h2, h3, h3', h4⟩ := hI
  have hc : decide ((0 : Int) ≤ c ∧ c < 4) = true := decide_eq_true ⟨h1, by omega⟩
  have hset : ∀ T' d : Task, (ts.set c.toNat T').getD c.toNat d = T' := fun T' d => by
    rw [List.getD_eq_getElem?_getD, List.getElem?_set_self (by omega)]; rfl
  have hset' : ∀ T' d : Task, (us.set c.toNat T').getD c.toNat d = T' := fun T' d => by
    rw [List.getD_eq_getElem?_getD, List.getElem?_set_self (by omega)]; rfl
  have hfin : ∀ t u, tkC ts c = t → tkC us c = u → step23_fin c now sure cs ts us busy = .leaf .ret [(0, .tup (.acons (.sl (C := RC) .int (oE cs t).is (bif (oE cs t).is then [] else (oE cs t).got)) (.acons (.bool (!(oE cs t).is)) (.acons (.bool true) .anil))))] (step23_o c now sure (oCs cs t) (ts.set c.toNat (oT cs t)) (us.set c.toNat (oU cs t u)) (bif (oE cs t).is then busy else busy.set c.toNat false)) := fun t u ht hu => by
    unfold step23_fin; rw [ht, hu]
  simp only [hset, hset']
  have ht : tkC ts c = ts.getD c.toNat ⟨0, [], [], false⟩ := rfl
  have hu : tkC us c = us.getD c.toNat ⟨0, [], [], false⟩ := rfl
  generalize ts.getD c.toNat ⟨0, [], [], false⟩ = t at ht ⊢
  generalize us.getD c.toNat ⟨0, [], [], false⟩ = u at hu ⊢
  have hfin := hfin t u ht hu
  rw [ht, hu] at h4
  have ki := goO_is h4.a1 h4.is
  have isB : (goO true u.stack u.got).is = true := h4.ab.1.symm.trans h4.is
  have kj := goO_is h4.b1 isB
  have la := goO_len h4.a1
  have lb := goO_len h4.b1
  have isA : (goO false t.stack t.got).is = true := h4.is
  have k1 : cdec (okO false c t.stack t.got) = true := cdec_true h4.a1
  have k2 : cdec (okO true c u.stack u.got) = true := cdec_true h4.b1
  have k3 : cdec (okO false c (goO false t.stack t.got).st [doG4 cs (goO false t.stack t.got).kind (goO false t.stack t.got).a (goO false t.stack t.got).b]) = true := cdec_true h4.a2
  have k4 : cdec (okO true c (goO true u.stack u.got).st [doG4 cs (goO false t.stack t.got).kind (goO false t.stack t.got).a (goO false t.stack t.got).b]) = true := cdec_true h4.b2
  have s1 : decide ((goO false t.stack t.got).kind = (goO true u.stack u.got).kind ∧ (goO false t.stack t.got).a = (goO true u.stack u.got).a ∧ (goO false t.stack t.got).b = (goO true u.stack u.got).b ∧ (goO false t.stack t.got).v = (goO true u.stack u.got).v ∧ (goO false t.stack t.got).g = (goO true u.stack u.got).g) = true := decide_eq_true ⟨h4.ab.2.1, h4.ab.2.2.1, h4.ab.2.2.2.1, h4.ab.2.2.2.2.1, h4.ab.2.2.2.2.2.1⟩
  have o1 : decide (OkDo4 cs (goO false t.stack t.got).kind (goO false t.stack t.got).a (goO false t.stack t.got).b (goO false t.stack t.got).v) = true := decide_eq_true h4.hd
  have o2 : decide (0 ≤ (goO false t.stack t.got).g) = true := decide_eq_true h4.hg
  have g1 : decide (0 ≤ c ∧ c ≤ 3 ∧ (goO false t.stack t.got).got.length ≤ 96 ∧ 1 ≤ (goO false t.stack t.got).st.length ∧ (goO false t.stack t.got).st.length ≤ 6) = true := decide_eq_true ⟨h1, h2, by rw [ki.2.2]; omega, by rw [ki.2.1]; decide, by rw [ki.2.1]; decide⟩
  have g2 : decide (0 ≤ c ∧ c ≤ 3 ∧ (goO true u.stack u.got).got.length ≤ 96 ∧ 1 ≤ (goO true u.stack u.got).st.length ∧ (goO true u.stack u.got).st.length ≤ 6) = true := decide_eq_true ⟨h1, h2, by rw [kj.2.2]; omega, by rw [kj.2.1]; decide, by rw [kj.2.1]; decide⟩
  have q0 : (!(true == true)) = false := rfl
  simp only [hc, h4.ct, h4.cu, h4.ot, h4.ou, k1, k2, k3, k4, isA, isB, s1, o1, o2, g1, g2, ki.1, kj.1, h4.hc, h4.d1, h4.d2, h4.d3, q0, Bool.not_false, Bool.not_true, Bool.and_self, Bool.and_true, Bool.true_and, cond_true, cond_false]
  have hE : oE cs t = goO false (goO false t.stack t.got).st [doG4 cs (goO false t.stack t.got).kind (goO false t.stack t.got).a (goO false t.stack t.got).b] := rfl
  have hF : oF cs t u = goO true (goO true u.stack u.got).st [doG4 cs (goO false t.stack t.got).kind (goO false t.stack t.got).a (goO false t.stack t.got).b] := rfl
  have ef := h4.ef
  have eA : (oE cs t).is = false → (oE cs t).st = [] ∧ (oE cs t).got.length = 1 ∧ (oE cs t).over = true := fun hi => goO_end h4.a2 hi
  have eB : (oF cs t u).is = false → (oF cs t u).st = [] ∧ (oF cs t u).got.length = 1 ∧ (oF cs t u).over = true := fun hi => goO_end h4.b2 hi
  rw [← hE, ← hF]
  have hobj : ∀ b : List Bool, [some (Obj.var (C := RC) 46 (.acons (.acons (.sl (C := RC) .int false (doC4 cs (goO false t.stack t.got).kind (goO false t.stack t.got).a (goO false t.stack t.got).b (goO false t.stack t.got).v)) (.acons (.acons (.sl (C := RC) .sector false now) (.acons (.sl (C := RC) .sector false sure) .anil)) .anil)) (.acons (.arr (C := RC) .task 4 (ts.set c.toNat ⟨c, (goO false t.stack t.got).st, [doG4 cs (goO false t.stack t.got).kind (goO false t.stack t.got).a (goO false t.stack t.got).b], false⟩)) (.acons (.arr (C := RC) .task 4 (us.set c.toNat ⟨c, (goO true u.stack u.got).st, [doG4 cs (goO false t.stack t.got).kind (goO false t.stack t.got).a (goO false t.stack t.got).b], false⟩)) (.acons (.arr (C := RC) .bool 4 b) .anil)))))] = (step23_o c now sure (oCs cs t) (ts.set c.toNat (oT cs t)) (us.set c.toNat (oU cs t u)) b).map some := fun b => by
    simp only [step23_o, oCs, oT, oU, oX, gA, gB, ki.1, kj.1, h4.ct, h4.cu, List.map_cons, List.map_nil]
  generalize oE cs t = E at *
  generalize oF cs t u = F at *
  obtain ⟨f1, f2, f3, f4, f5, f6, f7⟩ := ef
  have s2 : decide (E.kind = F.kind ∧ E.a = F.a ∧ E.b = F.b ∧ E.v = F.v ∧ E.g = F.g) = true := decide_eq_true ⟨f2, f3, f4, f5, f6⟩
  cases hi : E.is with
  | true =>
    rw [hi] at f1
    simp only [← f1, hi, s2, q0, Bool.not_true, cond_true, cond_false]
    refine leafF (step23_o c now sure (oCs cs t) (ts.set c.toNat (oT cs t)) (us.set c.toNat (oU cs t u)) busy) ?_ (hobj _)
    show (step23_fin c now sure cs ts us busy).val = _
    rw [hfin]
    simp only [RT.val, hi, cond_true, Bool.not_true]
  | false =>
    rw [hi] at f1
    obtain ⟨a1, a2, _⟩ := eA hi
    obtain ⟨b1, b2, _⟩ := eB f1.symm
    have l1 : lenOK E.got.length = true := lenOK_of (by omega)
    have l2 : lenOK F.got.length = true := lenOK_of (by omega)
    have l3 : lenOK ([] : List Frame).length = true := rfl
    have l4 : (((([] : List Frame).length : Nat) : Int) == 0) = true := rfl
    have q1 : (!(false == false)) = false := rfl
    have q2 : decide (E.got = F.got) = true := decide_eq_true f7
    simp only [← f1, a1, b1, hi, l1, l2, l3, l4, q1, q2, Bool.and_self, cond_true, cond_false]
    refine leafF (step23_o c now sure (oCs cs t) (ts.set c.toNat (oT cs t)) (us.set c.toNat (oU cs t u)) (busy.set c.toNat false)) ?_ (hobj _)
    show (step23_fin c now sure cs ts us busy).val = _
    rw [hfin]
    simp only [RT.val, hi, cond_false, Bool.not_false]
noncomputable def step23_d (env : Env RC) (os : List (Obj RC)) : Option (Bool × step23_St) := match env, os with
  | [(0, .ptr 0 []), (1, .int .i64 c)], [.var 46 (.acons (.acons (.sl .int false cs) (.acons (.acons (.sl .sector false now) (.acons (.sl .sector false sure) .anil)) .anil)) (.acons (.arr .task 4 ts) (.acons (.arr .task 4 us) (.acons (.arr .bool 4 busy) .anil))))] => staticD (true) (cdec (0 ≤ c ∧ c ≤ 3 ∧ ts.length = 4 ∧ us.length = 4 ∧ OkStepO c cs (tkC ts c) (tkC us c) now sure), ⟨c, now, sure, cs, ts, us, busy⟩)
  | _, _ => none
noncomputable def uh_1 := ug_6.addObj 13 (sumF s23 [.slot 0 0] 2 step23_S step23_d)
theorem uh_1_laws : FLaws Tryz.prog s23 uh_1 := by
  refine ug_6_laws.addFun s23_laws step23_S 60 2 [.slot 0 0] step23_d (fun q hI => ?_) ?_
  · obtain ⟨c, now, sure, cs, ts, us, busy⟩ := q
    refine ⟨?_, ?_, rfl, step23_ok c now sure cs ts us busy hI⟩
    · simp [RefsOK, step23_S, step23_a, step23_o, eargs, D.refs, Obj.refs]
    · simp [step23_S, step23_fin, step23_o, RT.refsOK, RefsOK, D.refs, Obj.refs]
  · intro env os b q hd_ hb
    unfold step23_d at hd_
    split at hd_
    · obtain ⟨hs, hd_⟩ := staticD_some hd_
      cases hd_
      try simp only [Bool.and_eq_true, decide_eq_true_eq] at hb
      exact ⟨cdec_iff.1 hb, rfl, rfl⟩
    · cases hd_
def ansO (s : OS) (x dd : Int) : List Int × Bool := if dd = 2 ∧ oBusy s (x % 4) = true then (bif (endO s (x % 4)).is then [] else (endO s (x % 4)).got, !(endO s (x % 4)).is) else ([], false)
structure OkPickO (s : OS) (now sure : List Sector) (c : Int) : Prop where
  lc : s.cs.length = 771
  lt : s.ts.length = 4
  lu : s.us.length = 4
  lb : s.busy.length = 4
  lk : s.kind.length = 4
  lo : s.opn.length = 4
  ls : s.start.length = 4
  f0 : 0 ≤ frC s.cs
  f1 : frC s.cs ≤ 1000000
  st : oBusy s c = true → OkStepO c s.cs (tkC s.ts c) (tkC s.us c) now sure
structure PickO (s : OS) (most kk x dd most' : Int) : Prop where
  ok : ∀ now sure, diskOK now sure = true → goodL now = true → goodL sure = true → OkPickO s now sure (x % 4)
  oi : OI (pickO s x dd) most' (kk + 1)
  ans : (ansO s x dd).2 = false ∧ most' = most ∨ (ansO s x dd).2 = true ∧ ∃ a, (ansO s x dd).1 = [a] ∧ (oKind (pickO s x dd) (x % 4) = 0 ∧ most' = most ∨ oKind (pickO s x dd) (x % 4) = 1 ∧ most' = max most a)
  mr : mkC s.cs ≤ mkC (pickO s x dd).cs
theorem stepQ_kind (s : OS) (c : Int) : (stepQ s c).kind = s.kind := by
  unfold stepQ
  split <;> rfl
theorem OI.okPick {s : OS} {most kk : Int} (h : OI s most kk) (x : Int) : ∀ now sure, diskOK now sure = true → goodL now = true → goodL sure = true → OkPickO s now sure (x % 4) := fun now sure d1 d2 d3 => by
  have c0 : 0 ≤ x % 4 := Int.emod_nonneg _ (by decide)
  have c3 : x % 4 < 4 := Int.emod_lt_of_pos _ (by decide)
  have hm := h.oc.mr
  refine ⟨h.oc.len, h.lt, h.lu, h.lb, h.lk, h.lo, h.ls, by omega, h.oc.fr, fun hb => ?_⟩
  obtain ⟨m, hs⟩ := h.step c0 (by omega) hb
  exact hs.ok now sure d1 d2 d3
theorem OI.begin {s : OS} {most kk : Int} (h : OI s most kk) {c kd : Int} (c0 : 0 ≤ c) (c3 : c ≤ 3) (hk : kd = 0 ∨ kd = 1) (hb : oBusy s c = false) (ho : kd = 1 ∨ opB s.opn c.toNat = false) : OI (beginO s c kd) most kk := by
  have hcn : c.toNat < 4 := by omega
  have hkd : ∀ c' : Int, 0 ≤ c' → (s.kind.set c.toNat kd).getD c'.toNat 0 = if c = c' then kd else oKind s c' := fun c' d0 => by
    rw [getD_set _ _ _ _ _ (by rw [h.lk]; omega)]
    by_cases e : c = c'
    · rw [if_pos (by omega), if_pos e]
    · rw [if_neg (by omega), if_neg e]; rfl
  refine ⟨h.oc, h.fk, by simp [beginO, h.lt], by simp [beginO, h.lu], by simp [beginO, h.lb], by simp [beginO, h.lk], h.lo, h.ls, h.mm, h.op, fun c' d0 d3 hb' => ?_⟩
  have hb' : (s.busy.set c.toNat true).getD c'.toNat false = true := hb'
  rw [bset h.lb hcn] at hb'
  by_cases e : c = c'
  · subst e
    refine ⟨0, c :: List.replicate 95 0, c :: List.replicate 95 0, [], ?_⟩
    rcases hk with rfl | rfl
    · refine .inl ⟨?_, ?_, ?_, ⟨rfl, rfl, ?_, .inl ⟨rfl, rfl⟩⟩, rfl⟩
      · show (s.kind.set c.toNat 0).getD c.toNat 0 = 0
        rw [hkd c c0, if_pos rfl]
      · show tkC (s.ts.set c.toNat _) c = _; rw [tkC_set h.lt c0 c3 c0, if_pos rfl]; rfl
      · show tkC (s.us.set c.toNat _) c = _; rw [tkC_set h.lu c0 c3 c0, if_pos rfl]; rfl
      · rcases ho with h | h
        · omega
        · exact h
    · refine .inr ⟨?_, ?_, ?_, ⟨rfl, rfl, .inl ⟨rfl, rfl⟩⟩, rfl⟩
      · show (s.kind.set c.toNat 1).getD c.toNat 0 = 1
        rw [hkd c c0, if_pos rfl]
      · show tkC (s.ts.set c.toNat _) c = _; rw [tkC_set h.lt c0 c3 c0, if_pos rfl]; rfl
      · show tkC (s.us.set c.toNat _) c = _; rw [tkC_set h.lu c0 c3 c0, if_pos rfl]; rfl
  · rw [if_neg (by omega)] at hb'
    have hkk : oKind (beginO s c kd) c' = oKind s c' := by
      show (s.kind.set c.toNat kd).getD c'.toNat 0 = _
      rw [hkd c' d0, if_neg e]
    have e1 : tkC (beginO s c kd).ts c' = tkC s.ts c' := by
      show tkC (s.ts.set c.toNat _) c' = _; rw [tkC_set h.lt c0 c3 d0, if_neg e]
    have e2 : tkC (beginO s c kd).us c' = tkC s.us c' := by
      show tkC (s.us.set c.toNat _) c' = _; rw [tkC_set h.lu c0 c3 d0, if_neg e]
    obtain ⟨k2, r2, q2, got2, h2⟩ := h.cl c' d0 d3 hb'
    exact ⟨k2, r2, q2, got2, by rw [hkk, e1, e2]; exact h2⟩
theorem OI.close {s : OS} {most kk : Int} (h : OI s most kk) {c : Int} (c0 : 0 ≤ c) (c3 : c ≤ 3) (hb : oBusy s c = false) : OI (closeO s c) most kk := by
  have hcn : c.toNat < 4 := by omega
  have hl := h.oc.len
  have hmk := h.oc.mr
  have hsc : ∀ i, scC (s.cs.set (9 + c.toNat) 0) i = if i = c.toNat then 0 else scC s.cs i := fun i => by
    unfold scC
    rw [getD_set _ _ _ _ _ (by omega)]
    by_cases e : i = c.toNat
    · rw [if_pos (by omega), if_pos e]
    · rw [if_neg (by omega), if_neg e]
  have hm : mkC (s.cs.set (9 + c.toNat) 0) = mkC s.cs := getD_set_ne' (by omega)
  have hf : frC (s.cs.set (9 + c.toNat) 0) = frC s.cs := getD_set_ne' (by omega)
  have hop' : ∀ i, opB (s.opn.set c.toNat false) i = if c.toNat = i then false else opB s.opn i := fun i => bset h.lo hcn
  have hoc : OC (s.cs.set (9 + c.toNat) 0) := ⟨by rw [List.length_set]; exact hl, cellsOK_set h.oc.ok (by decide), by rw [hm, hf]; exact hmk, by rw [hf]; exact h.oc.fr, fun i hi => by
    rw [hsc, hf]
    split
    · omega
    · exact h.oc.sb i hi⟩
  refine ⟨hoc, by show frC (s.cs.set _ _) ≤ kk; rw [hf]; exact h.fk, h.lt, h.lu, h.lb, h.lk, by simp [closeO, h.lo], h.ls, by show most ≤ mkC (s.cs.set _ _); rw [hm]; exact h.mm, fun i hi ho => ?_, fun c' d0 d3 hb' => ?_⟩
  · have ho : opB (s.opn.set c.toNat false) i = true := ho
    rw [hop'] at ho
    split at ho
    · cases ho
    · rename_i e
      show scC (s.cs.set _ _) i = _ ∧ _
      rw [hsc, if_neg (fun q => e q.symm)]
      exact h.op i hi ho
  · have hne : c' ≠ c := fun e => by subst e; rw [show oBusy s c' = true from hb'] at hb; cases hb
    obtain ⟨k2, r2, q2, got2, ⟨p0, p1, p2, p3, p4⟩ | ⟨p0, p1, p2, p3, p4⟩⟩ := h.cl c' d0 d3 hb'
    · exact ⟨k2, r2, q2, got2, .inl ⟨p0, p1, p2, p3.mono (by show _ ≤ frC (s.cs.set _ _); rw [hf]; exact Int.le_refl _) (by show scC (s.cs.set _ _) _ = _; rw [hsc, if_neg (by omega)]) (by show opB (s.opn.set _ _) _ = _; rw [hop', if_neg (by omega)]), p4⟩⟩
    · refine ⟨k2, r2, q2, got2, .inr ⟨p0, p1, p2, p3.mono (by show _ ≤ frC (s.cs.set _ _); rw [hf]; exact Int.le_refl _) (by show _ ≤ mkC (s.cs.set _ _); rw [hm]; exact Int.le_refl _) (fun i hi => .inl ⟨?_, rfl⟩), p4⟩⟩
      have hi : opB (s.opn.set c.toNat false) i = true := hi
      rw [hop'] at hi
      split at hi
      · cases hi
      · exact hi
theorem OI.on {s : OS} {most kk : Int} (h : OI s most kk) (hkk : kk < 1000000) : OI { s with cs := s.cs.set 0 (frC s.cs + 1) } most (kk + 1) := by
  have hl := h.oc.len
  have hmk := h.oc.mr
  have hfk := h.fk
  have hsc : ∀ i, scC (s.cs.set 0 (frC s.cs + 1)) i = scC s.cs i := fun i => getD_set_ne' (by omega)
  have hm : mkC (s.cs.set 0 (frC s.cs + 1)) = mkC s.cs := getD_set_ne' (by omega)
  have hf : frC (s.cs.set 0 (frC s.cs + 1)) = frC s.cs + 1 := getD_set_eq (by omega)
  have hoc : OC (s.cs.set 0 (frC s.cs + 1)) := ⟨by rw [List.length_set]; exact hl, cellsOK_set h.oc.ok (by omega), by rw [hm, hf]; omega, by rw [hf]; omega, fun i hi => by
    rw [hsc, hf]
    have := h.oc.sb i hi
    omega⟩
  refine ⟨hoc, by show frC (s.cs.set _ _) ≤ _; rw [hf]; omega, h.lt, h.lu, h.lb, h.lk, h.lo, h.ls, by show most ≤ mkC (s.cs.set _ _); rw [hm]; exact h.mm, fun i hi ho => ?_, fun c' d0 d3 hb' => ?_⟩
  · show scC (s.cs.set _ _) i = _ ∧ _
    rw [hsc]
    exact h.op i hi ho
  · obtain ⟨k2, r2, q2, got2, ⟨p0, p1, p2, p3, p4⟩ | ⟨p0, p1, p2, p3, p4⟩⟩ := h.cl c' d0 d3 hb'
    · exact ⟨k2, r2, q2, got2, .inl ⟨p0, p1, p2, p3.mono (by show _ ≤ frC (s.cs.set _ _); rw [hf]; omega) (hsc _) rfl, p4⟩⟩
    · exact ⟨k2, r2, q2, got2, .inr ⟨p0, p1, p2, p3.mono (by show _ ≤ frC (s.cs.set _ _); rw [hf]; omega) (by show _ ≤ mkC (s.cs.set _ _); rw [hm]; exact Int.le_refl _) (fun i hi => .inl ⟨hi, rfl⟩), p4⟩⟩
theorem OI.pick {s : OS} {most kk : Int} (h : OI s most kk) (hkk : kk < 1000000) (x dd : Int) : ∃ most', PickO s most kk x dd most' := by
  have c0 : 0 ≤ x % 4 := Int.emod_nonneg _ (by decide)
  have c3 : x % 4 < 4 := Int.emod_lt_of_pos _ (by decide)
  by_cases hst : dd = 2 ∧ oBusy s (x % 4) = true
  · obtain ⟨rfl, hb⟩ := hst
    obtain ⟨most', hS⟩ := h.step c0 (by omega) hb
    have hP : pickO s x 2 = stepQ s (x % 4) := by
      show (if oBusy s (x % 4) = true then stepQ s (x % 4) else s) = _; rw [if_pos hb]
    have hA : ansO s x 2 = (bif (endO s (x % 4)).is then [] else (endO s (x % 4)).got, !(endO s (x % 4)).is) := by unfold ansO; rw [if_pos ⟨rfl, hb⟩]
    refine ⟨most', h.okPick x, by rw [hP]; exact hS.oi.more (by omega), ?_, by rw [hP]; exact hS.mr⟩
    rw [hA, hP]
    have hk : oKind (stepQ s (x % 4)) (x % 4) = oKind s (x % 4) := by unfold oKind; rw [stepQ_kind]
    rw [hk]
    rcases hS.ans with ⟨e, e2⟩ | ⟨e, a, e1, e2⟩
    · rw [e]; exact .inl ⟨rfl, e2⟩
    · rw [e]; exact .inr ⟨rfl, a, e1, e2⟩
  · have hA : ansO s x dd = ([], false) := by unfold ansO; rw [if_neg hst]
    have key : OI (pickO s x dd) most (kk + 1) ∧ mkC s.cs ≤ mkC (pickO s x dd).cs := by
      unfold pickO
      split
      · rename_i h01
        split
        · rename_i hb
          exact ⟨(h.begin c0 (by omega) h01 hb.1 hb.2).more (by omega), Int.le_refl _⟩
        · exact ⟨h.more (by omega), Int.le_refl _⟩
      split
      · rename_i h2
        rw [if_neg (fun q => hst ⟨h2, q⟩)]
        exact ⟨h.more (by omega), Int.le_refl _⟩
      split
      · split
        · rename_i hb
          refine ⟨(h.close c0 (by omega) hb.2).more (by omega), ?_⟩
          show mkC s.cs ≤ mkC (s.cs.set _ _)
          have : mkC (s.cs.set (9 + (x % 4).toNat) 0) = mkC s.cs := getD_set_ne' (by omega)
          rw [this]; exact Int.le_refl _
        · exact ⟨h.more (by omega), Int.le_refl _⟩
      split
      · refine ⟨h.on hkk, ?_⟩
        show mkC s.cs ≤ mkC (s.cs.set _ _)
        have : mkC (s.cs.set 0 (frC s.cs + 1)) = mkC s.cs := getD_set_ne' (by omega)
        rw [this]; exact Int.le_refl _
      · exact ⟨h.more (by omega), Int.le_refl _⟩
    exact ⟨most, h.okPick x, key.1, by rw [hA]; exact .inl ⟨rfl, rfl⟩, key.2⟩
def os0 : OS := ⟨newCells, List.replicate 4 ⟨0, [], [], false⟩, List.replicate 4 ⟨0, [], [], false⟩, List.replicate 4 false, List.replicate 4 0, List.replicate 4 false, List.replicate 4 0⟩
theorem OI.init : OI os0 0 0 := by
  refine ⟨⟨by kernel_rfl, by kernel_rfl, ?_, by decide, fun i hi => ?_⟩, by decide, rfl, rfl, rfl, rfl, rfl, rfl, by decide, fun i hi ho => ?_, fun c c0 c3 hb => ?_⟩
  · exact ⟨by decide, by decide⟩
  · obtain rfl | rfl | rfl | rfl : i = 0 ∨ i = 1 ∨ i = 2 ∨ i = 3 := by omega
    all_goals exact ⟨by decide, by decide⟩
  · obtain rfl | rfl | rfl | rfl : i = 0 ∨ i = 1 ∨ i = 2 ∨ i = 3 := by omega
    all_goals cases ho
  · obtain rfl | rfl | rfl | rfl : c = 0 ∨ c = 1 ∨ c = 2 ∨ c = 3 := by omega
    all_goals cases hb
open Go.Proofs
def ansC (s : OS) (x dd : Int) : Bool := if dd = 2 ∧ oBusy s (x % 4) = true then (endO s (x % 4)).is else true
structure pick23_St where
  x : Int
  dd : Int
  now : List Sector
  sure : List Sector
  cs : List Int
  ts : List Task
  us : List Task
  busy : List Bool
  kind : List Int
  opn : List Bool
  start : List Int
def pick23_a (x : Int) (dd : Int) (now : List Sector) (sure : List Sector) (cs : List Int) (ts : List Task) (us : List Task) (busy : List Bool) (kind : List Int) (opn : List Bool) (start : List Int) : List (D RC) := [.ptr 0 [], .acons (.int .i64 x) (.acons (.int .i64 dd) .anil)]
def pick23_o (x : Int) (dd : Int) (now : List Sector) (sure : List Sector) (cs : List Int) (ts : List Task) (us : List Task) (busy : List Bool) (kind : List Int) (opn : List Bool) (start : List Int) : List (Obj RC) := [.var 30 (.acons (.ptr 1 []) (.acons (.arr (C := RC) .int 4 kind) (.acons (.arr (C := RC) .bool 4 opn) (.acons (.arr (C := RC) .int 4 start) .anil)))), .var 46 (.acons (.acons (.sl (C := RC) .int false cs) (.acons (.acons (.sl (C := RC) .sector false now) (.acons (.sl (C := RC) .sector false sure) .anil)) .anil)) (.acons (.arr (C := RC) .task 4 ts) (.acons (.arr (C := RC) .task 4 us) (.acons (.arr (C := RC) .bool 4 busy) .anil))))]
noncomputable def pick23_r (x : Int) (dd : Int) (now : List Sector) (sure : List Sector) (cs : List Int) (ts : List Task) (us : List Task) (busy : List Bool) (kind : List Int) (opn : List Bool) (start : List Int) := fnO s23 uh_1 10 60 2 (pick23_a x dd now sure cs ts us busy kind opn start) (pick23_o x dd now sure cs ts us busy kind opn start)
theorem pick23_eq (x : Int) (dd : Int) (now : List Sector) (sure : List Sector) (cs : List Int) (ts : List Task) (us : List Task) (busy : List Bool) (kind : List Int) (opn : List Bool) (start : List Int) : pick23_r x dd now sure cs ts us busy kind opn start = (let Z0 : Int := Int.tmod (IntKind.wrap .i64 (Int.tmod x (4 : Int) + (4 : Int))) (4 : Int); let Z1 : Bool := decide ((0 : Int) ≤ Z0 ∧ Z0 < (4 : Int)); let Z2 : Nat := Int.toNat Z0; let Z3 : Bool := List.getD busy Z2 false; let Z4 : Int := List.getD [(92 : Int), (93 : Int)] dd.toNat (0 : Int); let Z5 : D RC := .anil; let Z6 : D RC := D.acons (D.bool true) Z5; let Z7 : D RC := D.tup (D.acons (D.int .i64 Z0) (.acons (D.sl RTy.int true []) (.acons (D.bool false) Z6))); let Z8 : D RC := D.ptr 1 []; let Z9 : D RC := D.acons (D.arr RTy.int (4 : Nat) start) Z5; let Z10 : D RC := D.acons (D.arr RTy.bool (4 : Nat) opn) Z9; let Z11 : Option (Obj RC) := some (Obj.var 30 (.acons Z8 (D.acons (D.arr RTy.int (4 : Nat) (List.set kind Z2 dd)) Z10))); let Z12 : D RC := D.acons (D.acons (D.sl RTy.sector false now) (.acons (D.sl RTy.sector false sure) Z5)) Z5; let Z13 : D RC := D.acons (D.sl RTy.int false cs) Z12; let Z14 : D RC := D.acons (D.arr RTy.task (4 : Nat) ts) (.acons (D.arr RTy.task (4 : Nat) us) (.acons (D.arr RTy.bool (4 : Nat) busy) Z5)); let Z15 : List (Option (Obj RC)) := [some (Obj.var 46 (.acons Z13 Z14))]; let Z16 : Task := Task.mk Z0 [Frame.mk Z4 (0 : Int) (Z0 :: List.replicate (95 : Nat) (0 : Int))] [] false; let Z17 : Option (D RC × List (Option (Obj RC))) := none; let Z18 : Option (D RC × List (Option (Obj RC))) := bif Z1 then bif decide ((0 : Int) ≤ dd ∧ dd < (2 : Int)) then bif decide ((0 : Int) ≤ Z0 ∧ Z0 ≤ (3 : Int) ∧ (0 : Int) ≤ Z4) then bif Z1 then bif Z3 then some (Z7, Z11 :: Z15) else bif Z1 then bif Z1 then bif Z1 then some (Z7, [Z11, some (Obj.var 46 (.acons Z13 (D.acons (D.arr RTy.task (4 : Nat) (List.set ts Z2 Z16)) (.acons (D.arr RTy.task (4 : Nat) (List.set us Z2 Z16)) (.acons (D.arr RTy.bool (4 : Nat) (List.set busy Z2 true)) Z5)))))]) else Z17 else Z17 else Z17 else Z17 else Z17 else Z17 else Z17; let Z19 : D RC := D.arr RTy.int (4 : Nat) kind; let Z20 : Option (Obj RC) := some (Obj.var 30 (.acons Z8 (D.acons Z19 Z10))); let Z21 : Option (D RC × List (Option (Obj RC))) := some (Z7, Z20 :: Z15); let Z22 : Task := tkC ts Z0; let Z23 : Bool := GoR4.is (oE cs Z22); let Z24 : List Int := bif Z23 then [] else GoR4.got (oE cs Z22); let Z25 : Int := (↑Z24.length : Int); let Z26 : D RC := D.tup (D.acons (D.int .i64 Z0) (.acons (D.sl RTy.int Z23 Z24) (.acons (D.bool !Z23) Z6))); let Z27 : List (Option (Obj RC)) := [some (Obj.var 46 (.acons (D.acons (D.sl RTy.int false (oCs cs Z22)) Z12) (.acons (D.arr RTy.task (4 : Nat) (List.set ts Z2 (oT cs Z22))) (.acons (D.arr RTy.task (4 : Nat) (List.set us Z2 (oU cs Z22 (tkC us Z0)))) (.acons (D.arr RTy.bool (4 : Nat) (bif Z23 then busy else List.set busy Z2 false)) Z5)))))]; let Z28 : Nat := (0 : Nat) + List.length cs; let Z29 : List Int := List.replicate (0 : Nat) (0 : Int) ++ cs; let Z30 : Bool := Nat.beq Z28 Z29.length; let Z31 : Int := lRow (9 : Int) Z0 (4 : Int); let Z32 : Int := (↑Z29.length : Int); let Z33 : List Int := List.set Z29 Z31.toNat (0 : Int); let Z34 : Bool := Z30 && decide ((0 : Int) ≤ (0 : Int) ∧ (0 : Int) < Z32); let Z35 : List Int := List.set Z29 (0 : Nat) (IntKind.wrap .i64 (List.getD Z29 (0 : Nat) (0 : Int) + (1 : Int))); bif bif dd == (0 : Int) then true else dd == (1 : Int) then bif Z1 then bif !Z3 then bif dd == (1 : Int) then Z18 else bif Z1 then bif !List.getD opn Z2 false then Z18 else Z21 else Z17 else Z21 else Z17 else bif dd == (2 : Int) then bif Z1 then bif Z3 then bif cdec ((0 : Int) ≤ Z0 ∧ Z0 ≤ (3 : Int) ∧ List.length ts = (4 : Nat) ∧ List.length us = (4 : Nat) ∧ OkStepO Z0 cs Z22 (tkC us Z0) now sure) then bif !Z23 then bif Z1 then bif List.getD kind Z2 (0 : Int) == (0 : Int) then bif lenOK Z24.length then bif Z25 == (1 : Int) then bif Z1 then bif decide ((0 : Int) ≤ (0 : Int) ∧ (0 : Int) < Z25) then bif Z1 then some (Z26, some (Obj.var 30 (.acons Z8 (D.acons Z19 (D.acons (D.arr RTy.bool (4 : Nat) (List.set opn Z2 true)) (.acons (D.arr RTy.int (4 : Nat) (List.set start Z2 (List.getD Z24 (0 : Nat) (0 : Int)))) Z5))))) :: Z27) else Z17 else Z17 else Z17 else some (Z26, Z20 :: Z27) else Z17 else some (Z26, Z20 :: Z27) else Z17 else some (Z26, Z20 :: Z27) else Z17 else Z21 else Z17 else bif dd == (3 : Int) then bif Z1 then bif List.getD opn Z2 false then bif Z1 then bif !Z3 then bif Z1 then bif sizeOK Z28 (8 : Nat) then bif Z30 && decide ((0 : Int) ≤ Z31 ∧ Z31 < Z32) then bif Z30 then bif Nat.beq Z28 Z33.length then some (Z7, [some (Obj.var 30 (.acons Z8 (D.acons Z19 (D.acons (D.arr RTy.bool (4 : Nat) (List.set opn Z2 false)) Z9)))), some (Obj.var 46 (.acons (D.acons (D.sl RTy.int false Z33) Z12) Z14))]) else Z17 else Z17 else Z17 else Z17 else Z17 else Z21 else Z17 else Z21 else Z17 else bif dd == (4 : Int) then bif sizeOK Z28 (8 : Nat) then bif Z34 then bif Z30 then bif Z34 then bif Z30 then bif Nat.beq Z28 Z35.length then some (Z7, [Z20, some (Obj.var 46 (.acons (D.acons (D.sl RTy.int false Z35) Z12) Z14))]) else Z17 else Z17 else Z17 else Z17 else Z17 else Z17 else Z21) := by kernel_rfl
noncomputable def pick23_fin (x : Int) (dd : Int) (now : List Sector) (sure : List Sector) (cs : List Int) (ts : List Task) (us : List Task) (busy : List Bool) (kind : List Int) (opn : List Bool) (start : List Int) : RT RC := .leaf .ret [(0, .tup (.acons (.int .i64 (x % 4)) (.acons (.sl (C := RC) .int (ansC ⟨cs, ts, us, busy, kind, opn, start⟩ x dd) (ansO ⟨cs, ts, us, busy, kind, opn, start⟩ x dd).1) (.acons (.bool (ansO ⟨cs, ts, us, busy, kind, opn, start⟩ x dd).2) (.acons (.bool true) .anil)))))] (pick23_o x dd now sure (pickO ⟨cs, ts, us, busy, kind, opn, start⟩ x dd).cs (pickO ⟨cs, ts, us, busy, kind, opn, start⟩ x dd).ts (pickO ⟨cs, ts, us, busy, kind, opn, start⟩ x dd).us (pickO ⟨cs, ts, us, busy, kind, opn, start⟩ x dd).busy (pickO ⟨cs, ts, us, busy, kind, opn, start⟩ x dd).kind (pickO ⟨cs, ts, us, busy, kind, opn, start⟩ x dd).opn (pickO ⟨cs, ts, us, busy, kind, opn, start⟩ x dd).start)
def pick23_Inv (x : Int) (dd : Int) (now : List Sector) (sure : List Sector) (cs : List Int) (ts : List Task) (us : List Task) (busy : List Bool) (kind : List Int) (opn : List Bool) (start : List Int) : Prop := OkPickO ⟨cs, ts, us, busy, kind, opn, start⟩ now sure (x % 4) ∧ (diskOK now sure = true ∧ goodL now = true ∧ goodL sure = true)
noncomputable def pick23_S : FunR RC pick23_St where
  k := 2
  args q := pick23_a q.x q.dd q.now q.sure q.cs q.ts q.us q.busy q.kind q.opn q.start
  objs q := pick23_o q.x q.dd q.now q.sure q.cs q.ts q.us q.busy q.kind q.opn q.start
  fin q := pick23_fin q.x q.dd q.now q.sure q.cs q.ts q.us q.busy q.kind q.opn q.start
  Inv q := pick23_Inv q.x q.dd q.now q.sure q.cs q.ts q.us q.busy q.kind q.opn q.start
theorem leafT {α : Type} {c : Bool} {x y : Option α} {P : α → Prop} (h : c = true) (hx : Leaf x P) : Leaf (cond c x y) P := by rw [h]; exact hx
theorem leafN {α : Type} {c : Bool} {x y : Option α} {P : α → Prop} (h : c = false) (hx : Leaf y P) : Leaf (cond c x y) P := by rw [h]; exact hx
theorem pick23_leaf {x dd : Int} {now sure : List Sector} {cs : List Int} {ts us : List Task} {busy : List Bool} {kind : List Int} {opn : List Bool} {start : List Int} {os : List (Option (Obj RC))} (H : OS) (a : List Int) (b f : Bool) (hG : pickO ⟨cs, ts, us, busy, kind, opn, start⟩ x dd = H)
    (hA : ansO ⟨cs, ts, us, busy, kind, opn, start⟩ x dd = (a, b)) (hC : ansC ⟨cs, ts, us, busy, kind, opn, start⟩ x dd = f) (hos : os = (pick23_o x dd now sure H.cs H.ts H.us H.busy H.kind H.opn H.start).map some) :
    Leaf (some (D.tup (.acons (.int .i64 (x % 4)) (.acons (.sl (C := RC) .int f a) (.acons (.bool b) (.acons (.bool true) .anil)))), os)) (LedF pick23_S ⟨x, dd, now, sure, cs, ts, us, busy, kind, opn, start⟩) :=
  leafF _ (by show (pick23_fin x dd now sure cs ts us busy kind opn start).val = _; unfold pick23_fin; rw [hG, hA, hC]; rfl) hos
theorem pick23_ok (x : Int) (dd : Int) (now : List Sector) (sure : List Sector) (cs : List Int) (ts : List Task) (us : List Task) (busy : List Bool) (kind : List Int) (opn : List Bool) (start : List Int) (hI : pick23_Inv x dd now sure cs ts us busy kind opn start) : Leaf (pick23_r x dd now sure cs ts us busy kind opn start) (LedF pick23_S ⟨x, dd, now, sure, cs, ts, us, busy, kind, opn, start⟩) := by
  (rw [pick23_eq]; conv => zeta)
  unfold pick23_Inv at hI
  obtain ⟨⟨lc, lt, lu, lb, lk, lo, ls, f0, f1, hst⟩, hd⟩ := hI
  simp only [frC, oBusy] at lc lt lu lb lk lo ls f0 f1 hst
  have hc1 : 0 ≤ x % 4 := Int.emod_nonneg _ (by decide)
  have hc2 : x % 4 < 4 := Int.emod_lt_of_pos _ (by decide)
  simp only [mod4]
  have c1 : decide ((0 : Int) ≤ x % 4 ∧ x % 4 < 4) = true := decide_eq_true ⟨hc1, hc2⟩
  have hL : lRow 9 (x % 4) 4 = 9 + x % 4 := by rw [lRow, if_pos ⟨hc1, hc2⟩]
  have hn : (9 + x % 4).toNat = 9 + (x % 4).toNat := by omega
  have e3 : sizeOK (0 + cs.length) 8 = true := sizeT (by omega)
  have noA : ∀ dd : Int, ¬ (dd = 2 ∧ busy.getD (x % 4).toNat false = true) → ansO ⟨cs, ts, us, busy, kind, opn, start⟩ x dd = ([], false) := fun dd h => if_neg h
  have noC : ∀ dd : Int, ¬ (dd = 2 ∧ busy.getD (x % 4).toNat false = true) → ansC ⟨cs, ts, us, busy, kind, opn, start⟩ x dd = true := fun dd h => if_neg h
  by_cases d0 : dd = 0
  · subst d0
    have hno : ¬ ((0 : Int) = 2 ∧ busy.getD (x % 4).toNat false = true) := fun h => absurd h.1 (by decide)
    refine leafT rfl (leafT c1 ?_)
    cases hb : busy.getD (x % 4).toNat false with
    | true =>
      refine leafN rfl ?_
      exact pick23_leaf ⟨cs, ts, us, busy, kind, opn, start⟩ [] false true (by show (if oBusy _ _ = false ∧ _ then _ else _) = _; rw [if_neg (fun q => by rw [show oBusy ⟨cs, ts, us, busy, kind, opn, start⟩ (x % 4) = true from hb] at q; cases q.1)]) (noA _ hno) (noC _ hno) rfl
    | false =>
      refine leafT rfl (leafN rfl (leafT c1 ?_))
      cases ho : opn.getD (x % 4).toNat false with
      | true =>
        refine leafN rfl ?_
        exact pick23_leaf ⟨cs, ts, us, busy, kind, opn, start⟩ [] false true (by show (if oBusy _ _ = false ∧ _ then _ else _) = _; rw [if_neg (fun q => by
          rcases q.2 with q | q
          · exact absurd q (by decide)
          · rw [show opB opn (x % 4).toNat = true from ho] at q; cases q)]) (noA _ hno) (noC _ hno) rfl
      | false =>
        refine leafT rfl (leafT c1 (leafT rfl (leafT (decide_eq_true ⟨hc1, by omega, by decide⟩) (leafT c1 (leafN rfl (leafT c1 (leafT c1 (leafT c1 ?_))))))))
        exact pick23_leaf (beginO ⟨cs, ts, us, busy, kind, opn, start⟩ (x % 4) 0) [] false true (by show (if oBusy _ _ = false ∧ _ then _ else _) = _; rw [if_pos ⟨hb, .inr ho⟩]) (noA _ hno) (noC _ hno) rfl
  by_cases d1 : dd = 1
  · subst d1
    have hno : ¬ ((1 : Int) = 2 ∧ busy.getD (x % 4).toNat false = true) := fun h => absurd h.1 (by decide)
    refine leafT rfl (leafT c1 ?_)
    cases hb : busy.getD (x % 4).toNat false with
    | true =>
      refine leafN rfl ?_
      exact pick23_leaf ⟨cs, ts, us, busy, kind, opn, start⟩ [] false true (by show (if oBusy _ _ = false ∧ _ then _ else _) = _; rw [if_neg (fun q => by rw [show oBusy ⟨cs, ts, us, busy, kind, opn, start⟩ (x % 4) = true from hb] at q; cases q.1)]) (noA _ hno) (noC _ hno) rfl
    | false =>
      refine leafT rfl (leafT rfl (leafT c1 (leafT rfl (leafT (decide_eq_true ⟨hc1, by omega, by decide⟩) (leafT c1 (leafN rfl (leafT c1 (leafT c1 (leafT c1 ?_)))))))))
      exact pick23_leaf (beginO ⟨cs, ts, us, busy, kind, opn, start⟩ (x % 4) 1) [] false true (by show (if oBusy _ _ = false ∧ _ then _ else _) = _; rw [if_pos ⟨hb, .inl rfl⟩]) (noA _ hno) (noC _ hno) rfl
  refine leafN (by rw [ibeqF d0, ibeqF d1]; rfl) ?_
  by_cases d2 : dd = 2
  · subst d2
    refine leafT rfl (leafT c1 ?_)
    cases hb : busy.getD (x % 4).toNat false with
    | false =>
      refine leafN rfl ?_
      have hno : ¬ ((2 : Int) = 2 ∧ busy.getD (x % 4).toNat false = true) := fun h => by rw [hb] at h; cases h.2
      exact pick23_leaf ⟨cs, ts, us, busy, kind, opn, start⟩ [] false true (by show (if oBusy _ _ = true then _ else _) = _; rw [if_neg (fun q => by rw [show oBusy ⟨cs, ts, us, busy, kind, opn, start⟩ (x % 4) = false from hb] at q; cases q)]) (noA _ hno) (noC _ hno) rfl
    | true =>
      have ho := hst hb
      refine leafT rfl (leafT (cdec_true ⟨hc1, by omega, lt, lu, ho⟩) ?_)
      have hP : pickO ⟨cs, ts, us, busy, kind, opn, start⟩ x 2 = stepQ ⟨cs, ts, us, busy, kind, opn, start⟩ (x % 4) := by
        show (if oBusy _ _ = true then _ else _) = _; exact if_pos hb
      have hQ : stepQ ⟨cs, ts, us, busy, kind, opn, start⟩ (x % 4) = if (oE cs (tkC ts (x % 4))).is = false ∧ kind.getD (x % 4).toNat 0 = 0 ∧ (oE cs (tkC ts (x % 4))).got.length = 1 then ⟨oCs cs (tkC ts (x % 4)), ts.set (x % 4).toNat (oT cs (tkC ts (x % 4))), us.set (x % 4).toNat (oU cs (tkC ts (x % 4)) (tkC us (x % 4))), bif (oE cs (tkC ts (x % 4))).is then busy else busy.set (x % 4).toNat false, kind, opn.set (x % 4).toNat true, start.set (x % 4).toNat ((oE cs (tkC ts (x % 4))).got.getD 0 0)⟩
        else ⟨oCs cs (tkC ts (x % 4)), ts.set (x % 4).toNat (oT cs (tkC ts (x % 4))), us.set (x % 4).toNat (oU cs (tkC ts (x % 4)) (tkC us (x % 4))), bif (oE cs (tkC ts (x % 4))).is then busy else busy.set (x % 4).toNat false, kind, opn, start⟩ := rfl
      have hA : ansO ⟨cs, ts, us, busy, kind, opn, start⟩ x 2 = (bif (oE cs (tkC ts (x % 4))).is then [] else (oE cs (tkC ts (x % 4))).got, !(oE cs (tkC ts (x % 4))).is) := by
        exact if_pos ⟨rfl, hb⟩
      have hC : ansC ⟨cs, ts, us, busy, kind, opn, start⟩ x 2 = (oE cs (tkC ts (x % 4))).is := by
        exact if_pos ⟨rfl, hb⟩
      have hend : (oE cs (tkC ts (x % 4))).is = false → (oE cs (tkC ts (x % 4))).got.length = 1 := fun hi => (goO_end ho.a2 hi).2.1
      generalize oE cs (tkC ts (x % 4)) = E at *
      cases hi : E.is with
      | true =>
        rw [hi] at hQ hA hC
        rw [if_neg (fun q => by cases q.1)] at hQ
        refine leafN rfl ?_
        exact pick23_leaf _ [] false true (hP.trans hQ) hA hC rfl
      | false =>
        have hl := hend hi
        rw [hi] at hQ hA hC
        refine leafT rfl (leafT c1 ?_)
        by_cases hk : kind.getD (x % 4).toNat 0 = 0
        · rw [if_pos ⟨rfl, hk, hl⟩] at hQ
          refine leafT (ibeqT hk) (leafT (lenOK_of (by rw [cond_false]; omega)) (leafT (ibeqT (by rw [cond_false]; omega)) (leafT c1 (leafT (decide_eq_true ⟨Int.le_refl _, by rw [cond_false]; omega⟩) (leafT c1 ?_)))))
          exact pick23_leaf _ E.got true false (hP.trans hQ) hA hC rfl
        · rw [if_neg (fun q => hk q.2.1)] at hQ
          refine leafN (ibeqF hk) ?_
          exact pick23_leaf _ E.got true false (hP.trans hQ) hA hC rfl
  refine leafN (ibeqF d2) ?_
  have hno : ¬ (dd = 2 ∧ busy.getD (x % 4).toNat false = true) := fun h => d2 h.1
  have hP : pickO ⟨cs, ts, us, busy, kind, opn, start⟩ x dd = if dd = 3 then (if opB opn (x % 4).toNat = true ∧ oBusy ⟨cs, ts, us, busy, kind, opn, start⟩ (x % 4) = false then closeO ⟨cs, ts, us, busy, kind, opn, start⟩ (x % 4) else ⟨cs, ts, us, busy, kind, opn, start⟩) else if dd = 4 then ⟨cs.set 0 (frC cs + 1), ts, us, busy, kind, opn, start⟩ else ⟨cs, ts, us, busy, kind, opn, start⟩ := by
    unfold pickO; rw [if_neg (by omega), if_neg d2]
  by_cases d3 : dd = 3
  · subst d3
    rw [if_pos rfl] at hP
    refine leafT rfl (leafT c1 ?_)
    cases ho : opn.getD (x % 4).toNat false with
    | false =>
      refine leafN rfl ?_
      exact pick23_leaf _ [] false true (hP.trans (if_neg (fun q => by rw [show opB opn (x % 4).toNat = false from ho] at q; cases q.1))) (noA _ hno) (noC _ hno) rfl
    | true =>
      refine leafT rfl (leafT c1 ?_)
      cases hb : busy.getD (x % 4).toNat false with
      | true =>
        refine leafN rfl ?_
        exact pick23_leaf _ [] false true (hP.trans (if_neg (fun q => by rw [show oBusy ⟨cs, ts, us, busy, kind, opn, start⟩ (x % 4) = true from hb] at q; cases q.2))) (noA _ hno) (noC _ hno) rfl
      | false =>
        have hP := hP.trans (if_pos ⟨ho, hb⟩)
        rw [hL]
        simp only [List.replicate_zero, List.nil_append, List.length_set]
        have e5 : (Nat.beq (0 + cs.length) cs.length && decide (0 ≤ 9 + x % 4 ∧ 9 + x % 4 < (cs.length : Int))) = true := by
          rw [nbeqT (by omega), decide_eq_true ⟨by omega, by omega⟩]; rfl
        refine leafT rfl (leafT c1 (leafT e3 (leafT e5 (leafT (nbeqT (by omega)) (leafT (nbeqT (by omega)) ?_)))))
        rw [hn]
        exact pick23_leaf _ [] false true hP (noA _ hno) (noC _ hno) rfl
  rw [if_neg d3] at hP
  refine leafN (ibeqF d3) ?_
  by_cases d4 : dd = 4
  · subst d4
    rw [if_pos rfl] at hP
    simp only [List.replicate_zero, List.nil_append, List.length_set]
    have e5 : (Nat.beq (0 + cs.length) cs.length && decide ((0 : Int) ≤ 0 ∧ (0 : Int) < (cs.length : Int))) = true := by
      rw [nbeqT (by omega), decide_eq_true ⟨by omega, by omega⟩]; rfl
    refine leafT rfl (leafT e3 (leafT e5 (leafT (nbeqT (by omega)) (leafT e5 (leafT (nbeqT (by omega)) (leafT (nbeqT (by omega)) ?_))))))
    have v : IntKind.i64.wrap (cs.getD 0 0 + 1) = frC cs + 1 := wrap_id (by omega) (by omega)
    rw [v]
    exact pick23_leaf _ [] false true hP (noA _ hno) (noC _ hno) rfl
  · rw [if_neg d4] at hP
    refine leafN (ibeqF d4) ?_
    exact pick23_leaf _ [] false true hP (noA _ hno) (noC _ hno) rfl
noncomputable def pick23_d (env : Env RC) (os : List (Obj RC)) : Option (Bool × pick23_St) := match env, os with
  | [(0, .ptr 0 []), (1, .acons (.int .i64 x) (.acons (.int .i64 dd) .anil))], [.var 30 (.acons (.ptr 1 []) (.acons (.arr .int 4 kind) (.acons (.arr .bool 4 opn) (.acons (.arr .int 4 start) .anil)))), .var 46 (.acons (.acons (.sl .int false cs) (.acons (.acons (.sl .sector false now) (.acons (.sl .sector false sure) .anil)) .anil)) (.acons (.arr .task 4 ts) (.acons (.arr .task 4 us) (.acons (.arr .bool 4 busy) .anil))))] => staticD (true) (cdec (OkPickO ⟨cs, ts, us, busy, kind, opn, start⟩ now sure (x % 4) ∧ (diskOK now sure = true ∧ goodL now = true ∧ goodL sure = true)), ⟨x, dd, now, sure, cs, ts, us, busy, kind, opn, start⟩)
  | _, _ => none
noncomputable def ui_1 := uh_1.addObj 10 (sumF s23 [.slot 0 0, .path 0 [0]] 2 pick23_S pick23_d)
theorem ui_1_laws : FLaws Tryz.prog s23 ui_1 := by
  refine uh_1_laws.addFun s23_laws pick23_S 60 2 [.slot 0 0, .path 0 [0]] pick23_d (fun q hI => ?_) ?_
  · obtain ⟨x, dd, now, sure, cs, ts, us, busy, kind, opn, start⟩ := q
    refine ⟨?_, ?_, rfl, pick23_ok x dd now sure cs ts us busy kind opn start hI⟩
    · simp [RefsOK, pick23_S, pick23_a, pick23_o, eargs, D.refs, Obj.refs]
    · simp [pick23_S, pick23_fin, pick23_o, RT.refsOK, RefsOK, D.refs, Obj.refs]
  · intro env os b q hd_ hb
    unfold pick23_d at hd_
    split at hd_
    · obtain ⟨hs, hd_⟩ := staticD_some hd_
      cases hd_
      try simp only [Bool.and_eq_true, decide_eq_true_eq] at hb
      exact ⟨cdec_iff.1 hb, rfl, rfl⟩
    · cases hd_
def runO : List (Int × Int) → OS → OS
  | [], s => s
  | x :: l, s => runO l (pickO s x.1 x.2)
theorem runO_step {l : List (Int × Int)} {i : Nat} (h : i < l.length) (s : OS) (d : Int × Int) : runO (l.drop i) s = runO (l.drop (i + 1)) (pickO s (l.getD i d).1 (l.getD i d).2) := by
  have e : l.getD i d = l[i] := by simp [h]
  rw [List.drop_eq_getElem_cons h, e, runO]
theorem runO_OI : ∀ (l : List (Int × Int)) (s : OS) (most kk : Int), kk + l.length ≤ 1000 → OI s most kk → ∃ most', OI (runO l s) most' (kk + l.length)
  | [], s, most, kk, _, h => ⟨most, by simpa [runO] using h⟩
  | x :: l, s, most, kk, hk, h => by
    simp only [List.length_cons] at hk
    obtain ⟨most', h1⟩ := h.pick (by omega) x.1 x.2
    obtain ⟨m2, h2⟩ := runO_OI l _ most' (kk + 1) (by omega) h1.oi
    refine ⟨m2, ?_⟩
    have : kk + ((x :: l).length : Int) = kk + 1 + l.length := by simp only [List.length_cons]; omega
    rw [this]
    exact h2
open Go.Proofs
def newR12_s  : Option (Bool × D RC) := some (true, .sl (C := RC) .int false newCells)
def newR12_sp : List (D RC) → Option (Bool × D RC)
  | [] => newR12_s 
  | _ => none
noncomputable def newR12_e  := evF s23 ui_1 1000 21 []
theorem newR12_ok  (h : (true) = true) : newR12_e  = some (.sl (C := RC) .int false newCells) := by
  kernel_rfl
noncomputable def uj_1 := ui_1.addSpec 21 newR12_sp
theorem uj_1_laws : FLaws Tryz.prog s23 uj_1 := ui_1_laws.addEv s23_laws fun args d h => by
  unfold newR12_sp at h
  split at h
  · unfold newR12_s at h
    have h1 := congrArg Prod.fst (Option.some.inj h)
    obtain rfl : _ = d := congrArg Prod.snd (Option.some.inj h)
    exact ⟨by simp [D.refs], 1000, newR12_ok  h1⟩
  · cases h
def prs (l : List Pick) : List (Int × Int) := l.map fun x => (x.client, x.do_)
theorem prs_len (l : List Pick) : (prs l).length = l.length := by simp [prs]
theorem prs_at (l : List Pick) (i : Nat) : (prs l).getD i (0, 0) = ((l.getD i ⟨0, 0⟩).client, (l.getD i ⟨0, 0⟩).do_) := by
  unfold prs
  rw [List.getD_eq_getElem?_getD, List.getElem?_map, List.getD_eq_getElem?_getD]
  cases l[i]? <;> rfl
theorem runP_step {l : List Pick} {i : Nat} (h : i < l.length) (s : OS) : runO ((prs l).drop i) s = runO ((prs l).drop (i + 1)) (pickO s (l.getD i ⟨0, 0⟩).client (l.getD i ⟨0, 0⟩).do_) := by
  rw [runO_step (by rw [prs_len]; exact h) s (0, 0), prs_at]
def wakes23_s  : Option (Bool × D RC) := some (true, .bool true)
def wakes23_sp : List (D RC) → Option (Bool × D RC)
  | [] => wakes23_s 
  | _ => none
noncomputable def wakes23_e  := evF s23 uj_1 100 8 []
theorem wakes23_ok  (h : (true) = true) : wakes23_e  = some (.bool true) := by
  kernel_rfl
noncomputable def uj_2 := uj_1.addSpec 8 wakes23_sp
theorem uj_2_laws : FLaws Tryz.prog s23 uj_2 := uj_1_laws.addEv s23_laws fun args d h => by
  unfold wakes23_sp at h
  split at h
  · unfold wakes23_s at h
    have h1 := congrArg Prod.fst (Option.some.inj h)
    obtain rfl : _ = d := congrArg Prod.snd (Option.some.inj h)
    exact ⟨by simp [D.refs], 100, wakes23_ok  h1⟩
  · cases h
structure flIn_St where
  most : Int
  i : Nat
  now : List Sector
  sure : List Sector
  cs : List Int
  ts : List Task
  us : List Task
  busy : List Bool
  kind : List Int
  opn : List Bool
  start : List Int
def flIn_c (most : Int) (i : Nat) (now : List Sector) (sure : List Sector) (cs : List Int) (ts : List Task) (us : List Task) (busy : List Bool) (kind : List Int) (opn : List Bool) (start : List Int) : Env RC := [(3, .ptr 0 []), (4, .int .i64 most), (82, .int .i64 (i : Int))]
def flIn_o (most : Int) (i : Nat) (now : List Sector) (sure : List Sector) (cs : List Int) (ts : List Task) (us : List Task) (busy : List Bool) (kind : List Int) (opn : List Bool) (start : List Int) : List (Obj RC) := [.var 30 (.acons (.ptr 1 []) (.acons (.arr (C := RC) .int 4 kind) (.acons (.arr (C := RC) .bool 4 opn) (.acons (.arr (C := RC) .int 4 start) .anil)))), .var 46 (.acons (.acons (.sl (C := RC) .int false cs) (.acons (.acons (.sl (C := RC) .sector false now) (.acons (.sl (C := RC) .sector false sure) .anil)) .anil)) (.acons (.arr (C := RC) .task 4 ts) (.acons (.arr (C := RC) .task 4 us) (.acons (.arr (C := RC) .bool 4 busy) .anil))))]
noncomputable def flIn_r (most : Int) (i : Nat) (now : List Sector) (sure : List Sector) (cs : List Int) (ts : List Task) (us : List Task) (busy : List Bool) (kind : List Int) (opn : List Bool) (start : List Int) := rndO s23 uj_2 3 21 60 2 [3, 4, 82] [] [.slot 3 0, .path 0 [0]] (flIn_c most i now sure cs ts us busy kind opn start) (flIn_o most i now sure cs ts us busy kind opn start)
theorem flIn_eq (most : Int) (i : Nat) (now : List Sector) (sure : List Sector) (cs : List Int) (ts : List Task) (us : List Task) (busy : List Bool) (kind : List Int) (opn : List Bool) (start : List Int) : flIn_r most i now sure cs ts us busy kind opn start = (let Z0 : Int := (↑i : Int); let Z1 : Bool := decide ((0 : Int) ≤ Z0 ∧ Z0 < (4 : Int)); let Z2 : List (Option (Obj RC)) := [some (Obj.var 30 (.acons (D.ptr 1 []) (.acons (D.arr RTy.int (4 : Nat) kind) (.acons (D.arr RTy.bool (4 : Nat) opn) (.acons (D.arr RTy.int (4 : Nat) start) .anil))))), some (Obj.var 46 (.acons (D.acons (D.sl RTy.int false cs) (.acons (D.acons (D.sl RTy.sector false now) (.acons (D.sl RTy.sector false sure) .anil)) .anil)) (.acons (D.arr RTy.task (4 : Nat) ts) (.acons (D.arr RTy.task (4 : Nat) us) (.acons (D.arr RTy.bool (4 : Nat) busy) .anil)))))]; let Z3 : RO_ := some ((X.normal, [(3, D.ptr 0 []), (4, D.int .i64 most), (82, D.int .i64 (IntKind.wrap .i64 (Z0 + (1 : Int))))]), Z2); bif decide (Z0 < (4 : Int)) then bif Z1 then bif List.getD opn Z0.toNat false then bif Z1 then bif decide (List.getD start Z0.toNat (0 : Int) < most) then some ((X.ret, []), Z2) else Z3 else none else Z3 else none else some ((X.exit (2 : Nat), []), Z2)) := by kernel_rfl
noncomputable def flIn_fin (most : Int) (i : Nat) (now : List Sector) (sure : List Sector) (cs : List Int) (ts : List Task) (us : List Task) (busy : List Bool) (kind : List Int) (opn : List Bool) (start : List Int) : RT RC := .leaf (.exit 2) [] (flIn_o most i now sure cs ts us busy kind opn start)
def flIn_Inv (most : Int) (i : Nat) (now : List Sector) (sure : List Sector) (cs : List Int) (ts : List Task) (us : List Task) (busy : List Bool) (kind : List Int) (opn : List Bool) (start : List Int) : Prop := i ≤ 4 ∧ ∀ k, k < 4 → opB opn k = true → most ≤ stA start k
noncomputable def flIn_S : LoopR RC flIn_St where
  k := 2
  canon q := flIn_c q.most q.i q.now q.sure q.cs q.ts q.us q.busy q.kind q.opn q.start
  objs q := flIn_o q.most q.i q.now q.sure q.cs q.ts q.us q.busy q.kind q.opn q.start
  fin q := flIn_fin q.most q.i q.now q.sure q.cs q.ts q.us q.busy q.kind q.opn q.start
  Inv q := flIn_Inv q.most q.i q.now q.sure q.cs q.ts q.us q.busy q.kind q.opn q.start
  μ q := 4 - q.i
theorem flIn_round (most : Int) (i : Nat) (now : List Sector) (sure : List Sector) (cs : List Int) (ts : List Task) (us : List Task) (busy : List Bool) (kind : List Int) (opn : List Bool) (start : List Int) (hI : flIn_Inv most i now sure cs ts us busy kind opn start) : Leaf (flIn_r most i now sure cs ts us busy kind opn start) (LedR flIn_S ⟨most, i, now, sure, cs, ts, us, busy, kind, opn, start⟩) := by
  (rw [flIn_eq]; conv => zeta)
  unfold flIn_Inv at hI
  obtain ⟨h1, h2⟩ := hI
  have t_nat : ((i : Int)).toNat = i := by simp
  rw [t_nat]
  by_cases hlt : i < 4
  · have w_succ : IntKind.i64.wrap ((i : Int) + 1) = ((i + 1 : Nat) : Int) := by rw [wrap_id (by omega) (by omega)]; simp
    have c1 : decide ((0 : Int) ≤ (i : Int) ∧ (i : Int) < 4) = true := decide_eq_true ⟨by omega, by omega⟩
    rw [w_succ]
    have hgo := leafR_go (S := flIn_S) (s := ⟨most, i, now, sure, cs, ts, us, busy, kind, opn, start⟩) ⟨most, i + 1, now, sure, cs, ts, us, busy, kind, opn, start⟩ ⟨hlt, h2⟩ (by simp only [flIn_S]; omega) rfl rfl rfl
    refine leafT (decide_eq_true (by omega)) (leafT c1 ?_)
    cases ho : opn.getD i false with
    | true =>
      have := h2 i hlt ho
      exact leafT rfl (leafT c1 (leafN (decide_eq_false (by show ¬ (stA start i < most); omega)) hgo))
    | false => exact leafN rfl hgo
  · refine leafN (decide_eq_false (by omega)) ?_
    exact leafR_exit (flIn_o most i now sure cs ts us busy kind opn start) rfl rfl
noncomputable def flIn_d (env : Env RC) (os : List (Obj RC)) : Option (Bool × flIn_St) := match env, os with
  | [(3, .ptr 0 []), (4, .int .i64 most), (82, .int .i64 x0)], [.var 30 (.acons (.ptr 1 []) (.acons (.arr .int 4 kind) (.acons (.arr .bool 4 opn) (.acons (.arr .int 4 start) .anil)))), .var 46 (.acons (.acons (.sl .int false cs) (.acons (.acons (.sl .sector false now) (.acons (.sl .sector false sure) .anil)) .anil)) (.acons (.arr .task 4 ts) (.acons (.arr .task 4 us) (.acons (.arr .bool 4 busy) .anil))))] => staticD (true) (decide (x0 = 0) && cdec (∀ k, k < 4 → opB opn k = true → most ≤ stA start k), ⟨most, 0, now, sure, cs, ts, us, busy, kind, opn, start⟩)
  | _, _ => none
noncomputable def uj_3 := uj_2.addLoop 3 21 (sumR s23 [.slot 3 0, .path 0 [0]] [3, 4, 82] flIn_S flIn_d)
theorem uj_3_laws : FLaws Tryz.prog s23 uj_3 := by
  refine uj_2_laws.addRoundsR s23_laws (by kernel_rfl) flIn_S 60 [3, 4, 82] [] [.slot 3 0, .path 0 [0]] [3, 4, 82] flIn_d (fun q hI => ?_) ?_
  · obtain ⟨most, i, now, sure, cs, ts, us, busy, kind, opn, start⟩ := q
    refine ⟨?_, ?_, flIn_round most i now sure cs ts us busy kind opn start hI⟩
    · simp_all [RefsOK, flIn_S, flIn_c, flIn_o, flIn_Inv, D.refs, Obj.refs, rEnc]
    · simp_all [flIn_S, flIn_fin, flIn_o, flIn_Inv, RT.refsOK, RefsOK, D.refs, Obj.refs, rEnc]
  · intro env os b q hd_ hb
    unfold flIn_d at hd_
    split at hd_
    · obtain ⟨hs, hd_⟩ := staticD_some hd_
      cases hd_
      simp only [Bool.and_eq_true, decide_eq_true_eq] at hb
      obtain ⟨e0, e1⟩ := hb
      subst e0
      exact ⟨⟨Nat.zero_le _, cdec_iff.1 e1⟩, rfl, rfl⟩
    · cases hd_
structure flL_St where
  c : Bool
  l : List Pick
  i : Nat
  most : Int
  mark : Int
  now : List Sector
  sure : List Sector
  cs : List Int
  ts : List Task
  us : List Task
  busy : List Bool
  kind : List Int
  opn : List Bool
  start : List Int
def flL_c (c : Bool) (l : List Pick) (i : Nat) (most : Int) (mark : Int) (now : List Sector) (sure : List Sector) (cs : List Int) (ts : List Task) (us : List Task) (busy : List Bool) (kind : List Int) (opn : List Bool) (start : List Int) : Env RC := [(3, .ptr 0 []), (4, .int .i64 (most : Int)), (5, .int .i64 (mark : Int)), (21, .sl (C := RC) .pick c l), (22, .int .i64 (l.length)), (23, .int .i64 (i : Int))]
def flL_o (c : Bool) (l : List Pick) (i : Nat) (most : Int) (mark : Int) (now : List Sector) (sure : List Sector) (cs : List Int) (ts : List Task) (us : List Task) (busy : List Bool) (kind : List Int) (opn : List Bool) (start : List Int) : List (Obj RC) := [.var 30 (.acons (.ptr 1 []) (.acons (.arr (C := RC) .int 4 kind) (.acons (.arr (C := RC) .bool 4 opn) (.acons (.arr (C := RC) .int 4 start) .anil)))), .var 46 (.acons (.acons (.sl (C := RC) .int false cs) (.acons (.acons (.sl (C := RC) .sector false now) (.acons (.sl (C := RC) .sector false sure) .anil)) .anil)) (.acons (.arr (C := RC) .task 4 ts) (.acons (.arr (C := RC) .task 4 us) (.acons (.arr (C := RC) .bool 4 busy) .anil))))]
noncomputable def flL_r (c : Bool) (l : List Pick) (i : Nat) (most : Int) (mark : Int) (now : List Sector) (sure : List Sector) (cs : List Int) (ts : List Task) (us : List Task) (busy : List Bool) (kind : List Int) (opn : List Bool) (start : List Int) := rndO s23 uj_3 3 6 60 2 [3, 4, 5, 21, 22, 23] [] [.slot 3 0, .path 0 [0]] (flL_c c l i most mark now sure cs ts us busy kind opn start) (flL_o c l i most mark now sure cs ts us busy kind opn start)
theorem flL_eq (c : Bool) (l : List Pick) (i : Nat) (most : Int) (mark : Int) (now : List Sector) (sure : List Sector) (cs : List Int) (ts : List Task) (us : List Task) (busy : List Bool) (kind : List Int) (opn : List Bool) (start : List Int) : flL_r c l i most mark now sure cs ts us busy kind opn start = (let Z0 : Int := (↑i : Int); let Z1 : Int := (↑l.length : Int); let Z2 : OS := OS.mk cs ts us busy kind opn start; let Z3 : Pick := List.getD l Z0.toNat (Pick.mk (0 : Int) (0 : Int)); let Z4 : Int := Pick.client Z3; let Z5 : Int := Z4 % (4 : Int); let Z6 : OS := pickO Z2 Z4 (Pick.do_ Z3); let Z7 : Int := (↑(OS.cs Z6).length : Int); let Z8 : Int := List.getD (OS.cs Z6) (3 : Nat) (0 : Int); let Z9 : D RC := .anil; let Z10 : D RC := D.acons (D.acons (D.sl RTy.sector false now) (.acons (D.sl RTy.sector false sure) Z9)) Z9; let Z11 : List (Option (Obj RC)) := [some (Obj.var 30 (.acons (D.ptr 1 []) (.acons (D.arr RTy.int (4 : Nat) (OS.kind Z6)) (.acons (D.arr RTy.bool (4 : Nat) (OS.opn Z6)) (.acons (D.arr RTy.int (4 : Nat) (OS.start Z6)) Z9))))), some (Obj.var 46 (.acons (D.acons (D.sl RTy.int false (OS.cs Z6)) Z10) (.acons (D.arr RTy.task (4 : Nat) (OS.ts Z6)) (.acons (D.arr RTy.task (4 : Nat) (OS.us Z6)) (.acons (D.arr RTy.bool (4 : Nat) (OS.busy Z6)) Z9)))))]; let Z12 : Nat × D RC := (3, D.ptr 0 []); let Z13 : List (Nat × D RC) := [(5, D.int .i64 Z8), (21, D.sl RTy.pick c l), (22, D.int .i64 Z1), (23, D.int .i64 (IntKind.wrap .i64 (Z0 + (1 : Int))))]; let Z14 : RO_ := some ((X.normal, Z12 :: (4, D.int .i64 most) :: Z13), Z11); let Z15 : List Int := Prod.fst (ansO Z2 Z4 (Pick.do_ Z3)); let Z16 : Int := (↑Z15.length : Int); let Z17 : Int := List.getD Z15 (0 : Nat) (0 : Int); bif decide (Z0 < Z1) then bif decide ((0 : Int) ≤ Z0 ∧ Z0 < Z1) then bif cdec (OkPickO Z2 now sure Z5 ∧ diskOK now sure = true ∧ goodL now = true ∧ goodL sure = true) then bif decide ((0 : Int) ≤ (3 : Int) ∧ (3 : Int) < Z7) then bif decide (Z8 < mark) then some ((X.ret, []), Z11) else bif decide ((0 : Int) ≤ (0 : Int) ∧ (0 : Int) < Z7) then bif decide (List.getD (OS.cs Z6) (0 : Nat) (0 : Int) < Z8) then some ((X.ret, []), Z11) else bif !Prod.snd (ansO Z2 Z4 (Pick.do_ Z3)) then Z14 else bif lenOK Z15.length then bif Z16 != (1 : Int) then some ((X.ret, []), Z11) else bif decide ((0 : Int) ≤ Z5 ∧ Z5 < (4 : Int)) then bif List.getD (OS.kind Z6) Z5.toNat (0 : Int) == (1 : Int) then bif decide ((0 : Int) ≤ (0 : Int) ∧ (0 : Int) < Z16) then bif cdec (∀ (k : Nat), k < (4 : Nat) → opB (OS.opn Z6) k = true → (if most < Z17 then Z17 else most) ≤ stA (OS.start Z6) k) then some ((X.normal, Z12 :: (4, D.int .i64 (if most < Z17 then Z17 else most)) :: Z13), Z11) else none else none else bif cdec (∀ (k : Nat), k < (4 : Nat) → opB (OS.opn Z6) k = true → most ≤ stA (OS.start Z6) k) then Z14 else none else none else none else none else none else none else none else some ((X.exit (0 : Nat), []), [some (Obj.var 30 (.acons (D.ptr 1 []) (.acons (D.arr RTy.int (4 : Nat) kind) (.acons (D.arr RTy.bool (4 : Nat) opn) (.acons (D.arr RTy.int (4 : Nat) start) Z9))))), some (Obj.var 46 (.acons (D.acons (D.sl RTy.int false cs) Z10) (.acons (D.arr RTy.task (4 : Nat) ts) (.acons (D.arr RTy.task (4 : Nat) us) (.acons (D.arr RTy.bool (4 : Nat) busy) Z9)))))])) := by kernel_rfl
noncomputable def flL_fin (c : Bool) (l : List Pick) (i : Nat) (most : Int) (mark : Int) (now : List Sector) (sure : List Sector) (cs : List Int) (ts : List Task) (us : List Task) (busy : List Bool) (kind : List Int) (opn : List Bool) (start : List Int) : RT RC := .leaf (.exit 0) [] (flL_o c l i most mark now sure (runO ((prs l).drop i) ⟨cs, ts, us, busy, kind, opn, start⟩).cs (runO ((prs l).drop i) ⟨cs, ts, us, busy, kind, opn, start⟩).ts (runO ((prs l).drop i) ⟨cs, ts, us, busy, kind, opn, start⟩).us (runO ((prs l).drop i) ⟨cs, ts, us, busy, kind, opn, start⟩).busy (runO ((prs l).drop i) ⟨cs, ts, us, busy, kind, opn, start⟩).kind (runO ((prs l).drop i) ⟨cs, ts, us, busy, kind, opn, start⟩).opn (runO ((prs l).drop i) ⟨cs, ts, us, busy, kind, opn, start⟩).start)
def flL_Inv (c : Bool) (l : List Pick) (i : Nat) (most : Int) (mark : Int) (now : List Sector) (sure : List Sector) (cs : List Int) (ts : List Task) (us : List Task) (busy : List Bool) (kind : List Int) (opn : List Bool) (start : List Int) : Prop := i ≤ l.length ∧ l.length ≤ 400 ∧ (diskOK now sure = true ∧ goodL now = true ∧ goodL sure = true) ∧ mark = mkC cs ∧ OI ⟨cs, ts, us, busy, kind, opn, start⟩ most i
noncomputable def flL_S : LoopR RC flL_St where
  k := 2
  canon q := flL_c q.c q.l q.i q.most q.mark q.now q.sure q.cs q.ts q.us q.busy q.kind q.opn q.start
  objs q := flL_o q.c q.l q.i q.most q.mark q.now q.sure q.cs q.ts q.us q.busy q.kind q.opn q.start
  fin q := flL_fin q.c q.l q.i q.most q.mark q.now q.sure q.cs q.ts q.us q.busy q.kind q.opn q.start
  Inv q := flL_Inv q.c q.l q.i q.most q.mark q.now q.sure q.cs q.ts q.us q.busy q.kind q.opn q.start
  μ q := q.l.length - q.i
theorem flL_round (c : Bool) (l : List Pick) (i : Nat) (most : Int) (mark : Int) (now : List Sector) (sure : List Sector) (cs : List Int) (ts : List Task) (us : List Task) (busy : List Bool) (kind : List Int) (opn : List Bool) (start : List Int) (hI : flL_Inv c l i most mark now sure cs ts us busy kind opn start) : Leaf (flL_r c l i most mark now sure cs ts us busy kind opn start) (LedR flL_S ⟨c, l, i, most, mark, now, sure, cs, ts, us, busy, kind, opn, start⟩) := by
  (rw [flL_eq]; conv => zeta)
  unfold flL_Inv at hI
  obtain ⟨h1, h2, ⟨hd, hg1, hg2⟩, hmk, hI⟩ := hI
  by_cases hlt : i < l.length
  · have t_nat0 : ((i : Int)).toNat = i := by simp
    rw [t_nat0]
    have w_succ : IntKind.i64.wrap ((i : Int) + 1) = ((i + 1 : Nat) : Int) := by rw [wrap_id (by omega) (by omega)]; simp
    have d_lt : decide ((i : Int) < l.length) = true := by simp; omega
    have d_in : decide (0 ≤ (i : Int) ∧ (i : Int) < l.length) = true := by simp; omega
    have t_nat : ((i : Int)).toNat = i := by simp
    simp only [w_succ, d_lt, d_in, t_nat, cond_true]
    have hrun := runP_step hlt ⟨cs, ts, us, busy, kind, opn, start⟩
    have hfin : ∀ s, runO ((prs l).drop i) ⟨cs, ts, us, busy, kind, opn, start⟩ = s → flL_fin c l i most mark now sure cs ts us busy kind opn start = .leaf (.exit 0) [] (flL_o c l i most mark now sure s.cs s.ts s.us s.busy s.kind s.opn s.start) := fun s hs => by unfold flL_fin; rw [hs]
    have hfin := hfin _ hrun
    clear hrun
    generalize l.getD i (⟨0, 0⟩ : Pick) = x at hfin ⊢
    obtain ⟨most', hp⟩ := hI.pick (by omega) x.client x.do_
    have hok := hp.ok now sure hd hg1 hg2
    have hoi := hp.oi
    have hans := hp.ans
    have hmr := hp.mr
    clear hp
    generalize pickO ⟨cs, ts, us, busy, kind, opn, start⟩ x.client x.do_ = P at *
    generalize ansO ⟨cs, ts, us, busy, kind, opn, start⟩ x.client x.do_ = A at *
    have hoc := hoi.oc
    have hl := hoc.len
    have c0 : 0 ≤ x.client % 4 := Int.emod_nonneg _ (by decide)
    have c4 : x.client % 4 < 4 := Int.emod_lt_of_pos _ (by decide)
    have k1 : cdec (OkPickO ⟨cs, ts, us, busy, kind, opn, start⟩ now sure (x.client % 4) ∧ diskOK now sure = true ∧ goodL now = true ∧ goodL sure = true) = true := cdec_true ⟨hok, hd, hg1, hg2⟩
    have hgo := leafR_go (S := flL_S) (s := ⟨c, l, i, most, mark, now, sure, cs, ts, us, busy, kind, opn, start⟩) ⟨c, l, i + 1, most', mkC P.cs, now, sure, P.cs, P.ts, P.us, P.busy, P.kind, P.opn, P.start⟩ ⟨hlt, h2, ⟨hd, hg1, hg2⟩, rfl, by rw [show (((i + 1 : Nat)) : Int) = (i : Int) + 1 by simp]; exact hoi⟩ (by simp only [flL_S]; omega) (by show (flL_fin c l (i + 1) most' (mkC P.cs) now sure P.cs P.ts P.us P.busy P.kind P.opn P.start).val = (flL_fin c l i most mark now sure cs ts us busy kind opn start).val; rw [hfin]; rfl) rfl rfl
    refine leafT k1 (leafT (decide_eq_true ⟨by omega, by omega⟩) (leafN (decide_eq_false (by rw [hmk]; show ¬ (mkC P.cs < mkC cs); have : mkC cs ≤ mkC P.cs := hmr; omega)) (leafT (decide_eq_true ⟨by omega, by omega⟩) (leafN (decide_eq_false (by have := hoc.mr.2; show ¬ (frC P.cs < mkC P.cs); omega)) ?_))))
    rcases hans with ⟨e1, e2⟩ | ⟨e1, a, e2, e3⟩
    · rw [e1]
      subst e2
      exact leafT rfl hgo
    · rw [e1, e2]
      refine leafN rfl (leafT rfl (leafN rfl (leafT (decide_eq_true ⟨c0, c4⟩) ?_)))
      have hst : ∀ k, k < 4 → opB P.opn k = true → most' ≤ stA P.start k := fun k hk ho => (hoi.op k hk ho).2.1
      rcases e3 with ⟨e4, e5⟩ | ⟨e4, e5⟩
      · have e4 : P.kind.getD (x.client % 4).toNat 0 = 0 := e4
        subst e5
        rw [e4]
        exact leafN rfl (leafT (cdec_true hst) hgo)
      · have e4 : P.kind.getD (x.client % 4).toNat 0 = 1 := e4
        have e6 : (if most < [a].getD 0 0 then [a].getD 0 0 else most) = most' := by
          rw [e5]
          show (if most < a then a else most) = max most a
          split <;> omega
        rw [e4, e6]
        exact leafT rfl (leafT rfl (leafT (cdec_true hst) hgo))
  · have hi : i = l.length := by omega
    have c1 : decide ((i : Int) < l.length) = false := by simp; omega
    rw [c1]
    exact leafR_exit (flL_o c l i most mark now sure cs ts us busy kind opn start) (by show (flL_fin c l i most mark now sure cs ts us busy kind opn start).val = _; unfold flL_fin; rw [hi, ← prs_len, List.drop_length]; rfl) rfl
noncomputable def flL_d (env : Env RC) (os : List (Obj RC)) : Option (Bool × flL_St) := match env, os with
  | [(3, .ptr 0 []), (4, .int .i64 x0), (5, .int .i64 x1), (21, .sl .pick c l), (22, .int .i64 x2), (23, .int .i64 x3)], [.var 30 (.acons (.ptr 1 []) (.acons (.arr .int 4 kind) (.acons (.arr .bool 4 opn) (.acons (.arr .int 4 start) .anil)))), .var 46 (.acons (.acons (.sl .int false cs) (.acons (.acons (.sl .sector false now) (.acons (.sl .sector false sure) .anil)) .anil)) (.acons (.arr .task 4 ts) (.acons (.arr .task 4 us) (.acons (.arr .bool 4 busy) .anil))))] => staticD (true) (decide (x0 = 0) && decide (x1 = 0) && decide (x2 = l.length) && decide (x3 = 0) && cdec (l.length ≤ 400 ∧ (diskOK now sure = true ∧ goodL now = true ∧ goodL sure = true) ∧ (0 : Int) = mkC cs ∧ OI ⟨cs, ts, us, busy, kind, opn, start⟩ 0 0), ⟨c, l, 0, 0, 0, now, sure, cs, ts, us, busy, kind, opn, start⟩)
  | _, _ => none
noncomputable def uj_4 := uj_3.addLoop 3 6 (sumR s23 [.slot 3 0, .path 0 [0]] [3, 4, 5, 21, 22, 23] flL_S flL_d)
theorem uj_4_laws : FLaws Tryz.prog s23 uj_4 := by
  refine uj_3_laws.addRoundsR s23_laws (by kernel_rfl) flL_S 60 [3, 4, 5, 21, 22, 23] [] [.slot 3 0, .path 0 [0]] [3, 4, 5, 21, 22, 23] flL_d (fun q hI => ?_) ?_
  · obtain ⟨c, l, i, most, mark, now, sure, cs, ts, us, busy, kind, opn, start⟩ := q
    refine ⟨?_, ?_, flL_round c l i most mark now sure cs ts us busy kind opn start hI⟩
    · simp_all [RefsOK, flL_S, flL_c, flL_o, flL_Inv, D.refs, Obj.refs, rEnc]
    · simp_all [flL_S, flL_fin, flL_o, flL_Inv, RT.refsOK, RefsOK, D.refs, Obj.refs, rEnc]
  · intro env os b q hd_ hb
    unfold flL_d at hd_
    split at hd_
    · obtain ⟨hs, hd_⟩ := staticD_some hd_
      cases hd_
      simp only [Bool.and_eq_true, decide_eq_true_eq] at hb
      obtain ⟨⟨⟨⟨e0, e1⟩, e2⟩, e3⟩, e4⟩ := hb
      obtain ⟨e5, e6, e7, e8⟩ := cdec_iff.1 e4
      subst e0
      subst e1
      subst e2
      subst e3
      exact ⟨⟨Nat.zero_le _, e5, e6, e7, e8⟩, rfl, rfl⟩
    · cases hd_
def floors23_s (c : Bool) (l : List Pick) : Option (Bool × D RC) := some (lenOK l.length, .bool true)
def floors23_sp : List (D RC) → Option (Bool × D RC)
  | [.sl .pick c l] => floors23_s c l
  | _ => none
noncomputable def floors23_e (c : Bool) (l : List Pick) := evF s23 uj_4 100 3 [.sl (C := RC) .pick c l]
theorem floors23_eq (c : Bool) (l : List Pick) : floors23_e c l = (let Z0 : Nat := List.length l; let Z1 : Int := (↑Z0 : Int); let Z2 : List Task := List.replicate (4 : Nat) (rDflt RTy.task); let Z3 : List Bool := List.replicate (4 : Nat) false; let Z4 : List Int := List.replicate (4 : Nat) (0 : Int); bif lenOK Z0 then bif decide ((400 : Int) < Z1) then some (D.bool true) else bif lenOK Z0 then bif decide (Z1 = Z1) && true && cdec (Z0 ≤ (400 : Nat) ∧ (true = true ∧ true = true ∧ true = true) ∧ (0 : Int) = (0 : Int) ∧ OI (OS.mk newCells Z2 Z2 Z3 Z4 Z3 Z4) (0 : Int) (0 : Int)) then some (D.bool true) else none else none else none) := by kernel_rfl
theorem floors23_ok (c : Bool) (l : List Pick) (h : (lenOK l.length) = true) : floors23_e c l = some (.bool true) := by
  (rw [floors23_eq]; conv => zeta)
  rw [h]
  simp only [cond_true]
  by_cases h4 : l.length ≤ 400
  · have d1 : decide ((400 : Int) < (l.length : Int)) = false := decide_eq_false (by omega)
    have hg : (⟨newCells, List.replicate 4 (rDflt RTy.task), List.replicate 4 (rDflt RTy.task), List.replicate 4 false, List.replicate 4 0, List.replicate 4 false, List.replicate 4 0⟩ : OS) = os0 := rfl
    have k1 : cdec (l.length ≤ 400 ∧ (True ∧ True ∧ True) ∧ True ∧ OI os0 0 0) = true := cdec_true ⟨h4, ⟨trivial, trivial, trivial⟩, trivial, OI.init⟩
    rw [d1, hg, k1]
    simp only [decide_true, Bool.and_self, Bool.and_true, Bool.true_and, cond_true, cond_false]
  · have d1 : decide ((400 : Int) < (l.length : Int)) = true := decide_eq_true (by omega)
    rw [d1]
    rfl
noncomputable def uj_5 := uj_4.addSpec 3 floors23_sp
theorem uj_5_laws : FLaws Tryz.prog s23 uj_5 := uj_4_laws.addEv s23_laws fun args d h => by
  unfold floors23_sp at h
  split at h
  · unfold floors23_s at h
    have h1 := congrArg Prod.fst (Option.some.inj h)
    obtain rfl : _ = d := congrArg Prod.snd (Option.some.inj h)
    exact ⟨by simp [D.refs], 100, floors23_ok _ _ h1⟩
  · cases h
open Go.Proofs
def startsL (l : List Int) : List Int := if l.length = 771 then (l.take 13).drop 9 else []
theorem starts_eq {l : List Int} (h : l.length = 771) : (l.take 13).drop 9 = [l.getD 9 0, l.getD 10 0, l.getD 11 0, l.getD 12 0] := by
  apply List.ext_getElem?
  intro i
  rw [List.getElem?_drop, List.getElem?_take]
  match i with
  | 0 => simp [List.getD_eq_getElem?_getD, List.getElem?_eq_getElem (show 9 < l.length by omega)]
  | 1 => simp [List.getD_eq_getElem?_getD, List.getElem?_eq_getElem (show 10 < l.length by omega)]
  | 2 => simp [List.getD_eq_getElem?_getD, List.getElem?_eq_getElem (show 11 < l.length by omega)]
  | 3 => simp [List.getD_eq_getElem?_getD, List.getElem?_eq_getElem (show 12 < l.length by omega)]
  | i + 4 => rw [if_neg (by omega)]; rfl
theorem starts_small {l : List Int} (h : cellsOK l = true) : smallS (startsL l) = true := by
  unfold smallS startsL
  rw [List.all_eq_true]
  intro x hx
  split at hx
  · have hx := List.mem_of_mem_take (List.mem_of_mem_drop hx)
    simp only [cellsOK, Bool.and_eq_true, List.all_eq_true] at h
    have := h.2 x hx
    simp only [fitsC, Bool.and_eq_true, decide_eq_true_eq] at this
    exact decide_eq_true (by omega)
  · cases hx
def startsP_s (c : Bool) (l : List Int) (a : Bool) (now : List Sector) (b : Bool) (sure : List Sector) : Option (Bool × D RC) := some (lenOK l.length, .sl (C := RC) .int true (startsL l))
def startsP_sp : List (D RC) → Option (Bool × D RC)
  | [.acons (.sl .int c l) (.acons (.acons (.sl .sector a now) (.acons (.sl .sector b sure) .anil)) .anil)] => startsP_s c l a now b sure
  | _ => none
noncomputable def startsP_e (c : Bool) (l : List Int) (a : Bool) (now : List Sector) (b : Bool) (sure : List Sector) := evF s23 uj_5 40 15 [.acons (.sl (C := RC) .int c l) (.acons (.acons (.sl (C := RC) .sector a now) (.acons (.sl (C := RC) .sector b sure) .anil)) .anil)]
theorem startsP_eq (c : Bool) (l : List Int) (a : Bool) (now : List Sector) (b : Bool) (sure : List Sector) : startsP_e c l a now b sure = (let Z0 : Int := (↑l.length : Int); bif lenOK l.length then bif Z0 != (771 : Int) then some (D.sl RTy.int true []) else bif decide ((0 : Int) ≤ (9 : Int) ∧ (9 : Int) ≤ (13 : Int) ∧ (13 : Int) ≤ Z0 ∧ (13 : Int) = (13 : Int)) then some (D.sl RTy.int true (List.drop (9 : Nat) (List.take (13 : Nat) l))) else none else none) := by kernel_rfl
theorem startsP_ok (c : Bool) (l : List Int) (a : Bool) (now : List Sector) (b : Bool) (sure : List Sector) (h : (lenOK l.length) = true) : startsP_e c l a now b sure = some (.sl (C := RC) .int true (startsL l)) := by
  (rw [startsP_eq]; conv => zeta)
  rw [h]
  simp only [cond_true]
  by_cases e : l.length = 771
  · have e1 : ((l.length : Int) != 771) = false := ibneF (by omega)
    have e2 : startsL l = (l.take 13).drop 9 := if_pos e
    rw [e1, e2]
    simp only [cond_false]
    exact cond_of (decide_eq_true (by simp; omega)) rfl
  · have e1 : ((l.length : Int) != 771) = true := ibneT (by omega)
    have e2 : startsL l = [] := if_neg e
    rw [e1, e2]
    rfl
noncomputable def uk_1 := uj_5.addSpec 15 startsP_sp
theorem uk_1_laws : FLaws Tryz.prog s23 uk_1 := uj_5_laws.addEv s23_laws fun args d h => by
  unfold startsP_sp at h
  split at h
  · unfold startsP_s at h
    have h1 := congrArg Prod.fst (Option.some.inj h)
    obtain rfl : _ = d := congrArg Prod.snd (Option.some.inj h)
    exact ⟨by simp [D.refs], 40, startsP_ok _ _ _ _ _ _ h1⟩
  · cases h
def startsQ_s (c : Bool) (l : List Int) (a : Bool) (now : List Sector) (b : Bool) (sure : List Sector) : Option (Bool × D RC) := some (lenOK l.length, .sl (C := RC) .int (!decide (l.length = 771)) (startsL l))
def startsQ_sp : List (D RC) → Option (Bool × D RC)
  | [.acons (.sl .int c l) (.acons (.acons (.sl .sector a now) (.acons (.sl .sector b sure) .anil)) .anil)] => startsQ_s c l a now b sure
  | _ => none
noncomputable def startsQ_e (c : Bool) (l : List Int) (a : Bool) (now : List Sector) (b : Bool) (sure : List Sector) := evF s23 uk_1 60 20 [.acons (.sl (C := RC) .int c l) (.acons (.acons (.sl (C := RC) .sector a now) (.acons (.sl (C := RC) .sector b sure) .anil)) .anil)]
theorem startsQ_eq (c : Bool) (l : List Int) (a : Bool) (now : List Sector) (b : Bool) (sure : List Sector) : startsQ_e c l a now b sure = (let Z0 : Int := (↑l.length : Int); bif lenOK l.length then bif Z0 != (771 : Int) then some (D.sl RTy.int true []) else bif decide ((0 : Int) ≤ (9 : Int) ∧ (9 : Int) < Z0) then bif decide ((0 : Int) ≤ (10 : Int) ∧ (10 : Int) < Z0) then bif decide ((0 : Int) ≤ (11 : Int) ∧ (11 : Int) < Z0) then bif decide ((0 : Int) ≤ (12 : Int) ∧ (12 : Int) < Z0) then some (D.sl RTy.int false ([] ++ [List.getD l (9 : Nat) (0 : Int)] ++ [List.getD l (10 : Nat) (0 : Int)] ++ [List.getD l (11 : Nat) (0 : Int)] ++ [List.getD l (12 : Nat) (0 : Int)])) else none else none else none else none else none) := by kernel_rfl
theorem startsQ_ok (c : Bool) (l : List Int) (a : Bool) (now : List Sector) (b : Bool) (sure : List Sector) (h : (lenOK l.length) = true) : startsQ_e c l a now b sure = some (.sl (C := RC) .int (!decide (l.length = 771)) (startsL l)) := by
  (rw [startsQ_eq]; conv => zeta)
  rw [h]
  simp only [cond_true]
  by_cases e : l.length = 771
  · have e1 : ((l.length : Int) != 771) = false := ibneF (by omega)
    have e2 : startsL l = [l.getD 9 0, l.getD 10 0, l.getD 11 0, l.getD 12 0] := (if_pos e).trans (starts_eq e)
    rw [e1, e2, decide_eq_true e]
    simp only [cond_false]
    refine cond_of (decide_eq_true ⟨by decide, by omega⟩) (cond_of (decide_eq_true ⟨by decide, by omega⟩) (cond_of (decide_eq_true ⟨by decide, by omega⟩) (cond_of (decide_eq_true ⟨by decide, by omega⟩) rfl)))
  · have e1 : ((l.length : Int) != 771) = true := ibneT (by omega)
    have e2 : startsL l = [] := if_neg e
    rw [e1, e2, decide_eq_false e]
    rfl
noncomputable def uk_2 := uk_1.addSpec 20 startsQ_sp
theorem uk_2_laws : FLaws Tryz.prog s23 uk_2 := uk_1_laws.addEv s23_laws fun args d h => by
  unfold startsQ_sp at h
  split at h
  · unfold startsQ_s at h
    have h1 := congrArg Prod.fst (Option.some.inj h)
    obtain rfl : _ = d := congrArg Prod.snd (Option.some.inj h)
    exact ⟨by simp [D.refs], 60, startsQ_ok _ _ _ _ _ _ h1⟩
  · cases h
structure floPl_St where
  n : Int
  c : Bool
  l : List Int
  i : Nat
def floPl_c (n : Int) (c : Bool) (l : List Int) (i : Nat) : Env RC := [(0, .int .i64 n), (7, .sl (C := RC) .int c l), (8, .int .i64 (l.length)), (9, .int .i64 (i : Int))]
def floPl_o (n : Int) (c : Bool) (l : List Int) (i : Nat) : List (Obj RC) := []
noncomputable def floPl_r (n : Int) (c : Bool) (l : List Int) (i : Nat) := rndO s23 uk_2 54 2 40 0 [0, 7, 8, 9] [0] [] (floPl_c n c l i) (floPl_o n c l i)
theorem floPl_eq (n : Int) (c : Bool) (l : List Int) (i : Nat) : floPl_r n c l i = (let Z0 : Int := (↑i : Int); let Z1 : Int := (↑l.length : Int); let Z2 : Int := List.getD l Z0.toNat (0 : Int); let Z3 : Int := IntKind.wrap .i64 (Z2 - (1 : Int)); let Z4 : List (Nat × D RC) := [(7, D.sl RTy.int c l), (8, D.int .i64 Z1), (9, D.int .i64 (IntKind.wrap .i64 (Z0 + (1 : Int))))]; let Z5 : Nat × D RC := (0, D.int .i64 n); bif decide (Z0 < Z1) then bif decide ((0 : Int) ≤ Z0 ∧ Z0 < Z1) then bif decide ((0 : Int) < Z2) then some ((X.normal, (0, D.int .i64 (if Z3 < n then Z3 else n)) :: Z4), []) else some ((X.normal, Z5 :: Z4), []) else none else some ((X.exit (0 : Nat), [Z5]), [])) := by kernel_rfl
def floPl_fin (n : Int) (c : Bool) (l : List Int) (i : Nat) : RT RC := .leaf (.exit 0) [(0, .int .i64 (flo n (l.drop i)))] []
def floPl_Inv (n : Int) (c : Bool) (l : List Int) (i : Nat) : Prop := i ≤ l.length ∧ l.length ≤ 9223372036854775807 ∧ smallS l = true
def floPl_S : LoopR RC floPl_St where
  k := 0
  canon q := floPl_c q.n q.c q.l q.i
  objs q := floPl_o q.n q.c q.l q.i
  fin q := floPl_fin q.n q.c q.l q.i
  Inv q := floPl_Inv q.n q.c q.l q.i
  μ q := q.l.length - q.i
theorem floPl_round (n : Int) (c : Bool) (l : List Int) (i : Nat) (hI : floPl_Inv n c l i) : Leaf (floPl_r n c l i) (LedR floPl_S ⟨n, c, l, i⟩) := by
  (rw [floPl_eq]; conv => zeta)
  unfold floPl_Inv at hI
  obtain ⟨h1, h2, h3⟩ := hI
  by_cases hlt : i < l.length
  · have hs := smallS_at h3 hlt 0
    have hst := flo_drop hlt n 0
    have w_succ : IntKind.i64.wrap ((i : Int) + 1) = ((i + 1 : Nat) : Int) := by rw [wrap_id (by omega) (by omega)]; simp
    have d_lt : decide ((i : Int) < l.length) = true := by simp; omega
    have d_in : decide (0 ≤ (i : Int) ∧ (i : Int) < l.length) = true := by simp; omega
    have t_nat : ((i : Int)).toNat = i := by simp
    simp only [w_succ, d_lt, d_in, t_nat, cond_true]
    generalize l.getD i (0 : Int) = x at hs hst ⊢
    have hgo : ∀ y : Int, (if 0 < x ∧ x - 1 < n then x - 1 else n) = y → Leaf (some ((X.normal, floPl_c y c l (i + 1)), (floPl_o y c l (i + 1)).map some)) (LedR floPl_S ⟨n, c, l, i⟩) := fun y hy =>
      leafR_go ⟨y, c, l, i + 1⟩ ⟨hlt, h2, h3⟩ (by simp only [floPl_S]; omega) (by simp only [floPl_S, floPl_fin]; rw [hst, hy]) rfl rfl
    refine leaf_cond.2 ⟨fun q => ?_, fun q => ?_⟩
    · have q := of_decide_eq_true q
      have v1 : IntKind.i64.wrap (x - 1) = x - 1 := wrap_id (by omega) (by omega)
      rw [v1]
      exact hgo _ (by
        by_cases q2 : x - 1 < n
        · rw [if_pos ⟨q, q2⟩, if_pos q2]
        · rw [if_neg (fun h => q2 h.2), if_neg q2])
    · have q := of_decide_eq_false q
      exact hgo n (if_neg (by omega))
  · have hi : i = l.length := by omega
    have c1 : decide ((i : Int) < l.length) = false := by simp; omega
    simp only [c1, cond_false]
    exact leafR_exit [] (by simp [floPl_S, floPl_fin, hi, flo, RT.val]) rfl
def floPl_d (env : Env RC) (os : List (Obj RC)) : Option (Bool × floPl_St) := match env, os with
  | [(0, .int .i64 n), (7, .sl .int c l), (8, .int .i64 x0), (9, .int .i64 x1)], [] => staticD (true) (decide (x0 = l.length) && decide (x1 = 0) && decide (l.length ≤ 9223372036854775807) && smallS l, ⟨n, c, l, 0⟩)
  | _, _ => none
noncomputable def uk_3 := uk_2.addLoop 54 2 (sumR s23 [] [0, 7, 8, 9] floPl_S floPl_d)
theorem uk_3_laws : FLaws Tryz.prog s23 uk_3 := by
  refine uk_2_laws.addRoundsR s23_laws (by kernel_rfl) floPl_S 40 [0, 7, 8, 9] [0] [] [0, 7, 8, 9] floPl_d (fun q hI => ?_) ?_
  · obtain ⟨n, c, l, i⟩ := q
    refine ⟨?_, ?_, floPl_round n c l i hI⟩
    · simp_all [RefsOK, floPl_S, floPl_c, floPl_o, floPl_Inv, D.refs, Obj.refs, rEnc]
    · simp_all [floPl_S, floPl_fin, floPl_o, floPl_Inv, RT.refsOK, RefsOK, D.refs, Obj.refs, rEnc]
  · intro env os b q hd_ hb
    unfold floPl_d at hd_
    split at hd_
    · obtain ⟨hs, hd_⟩ := staticD_some hd_
      cases hd_
      simp only [Bool.and_eq_true, decide_eq_true_eq] at hb
      obtain ⟨⟨⟨rfl, rfl⟩, h2⟩, h3⟩ := hb
      exact ⟨⟨Nat.zero_le _, h2, h3⟩, rfl, rfl⟩
    · cases hd_
def floPf_s (n : Int) (c : Bool) (l : List Int) : Option (Bool × D RC) := some (lenOK l.length && smallS l, .int .i64 (flo n l))
def floPf_sp : List (D RC) → Option (Bool × D RC)
  | [.int .i64 n, .sl .int c l] => floPf_s n c l
  | _ => none
noncomputable def floPf_e (n : Int) (c : Bool) (l : List Int) := evF s23 uk_3 40 54 [.int .i64 n, .sl (C := RC) .int c l]
theorem floPf_eq (n : Int) (c : Bool) (l : List Int) : floPf_e n c l = (let Z0 : Nat := List.length l; bif lenOK Z0 then bif decide ((↑Z0 : Int) = (↑Z0 : Int)) && true && decide (Z0 ≤ (9223372036854775807 : Nat)) && smallS l then some (D.int .i64 (flo n (List.drop (0 : Nat) l))) else none else none) := by kernel_rfl
theorem floPf_ok (n : Int) (c : Bool) (l : List Int) (h : (lenOK l.length && smallS l) = true) : floPf_e n c l = some (.int .i64 (flo n l)) := by
  (rw [floPf_eq]; conv => zeta)
  rw [Bool.and_eq_true] at h
  obtain ⟨h1, h2⟩ := h
  simp only [h1, h2, decide_eq_true (lenOK_le h1), decide_true, Bool.and_self, Bool.true_and, cond_true, List.drop_zero]
noncomputable def uk_4 := uk_3.addSpec 54 floPf_sp
theorem uk_4_laws : FLaws Tryz.prog s23 uk_4 := uk_3_laws.addEv s23_laws fun args d h => by
  unfold floPf_sp at h
  split at h
  · unfold floPf_s at h
    have h1 := congrArg Prod.fst (Option.some.inj h)
    obtain rfl : _ = d := congrArg Prod.snd (Option.some.inj h)
    exact ⟨by simp [D.refs], 40, floPf_ok _ _ _ h1⟩
  · cases h
def floorP_s (c : Bool) (l : List Int) (a : Bool) (now : List Sector) (b : Bool) (sure : List Sector) : Option (Bool × D RC) := some (lenOK l.length && smallS (startsL l), .int .i64 (if l.length = 771 then flo (l.getD 3 0) (startsL l) else 0))
def floorP_sp : List (D RC) → Option (Bool × D RC)
  | [.acons (.sl .int c l) (.acons (.acons (.sl .sector a now) (.acons (.sl .sector b sure) .anil)) .anil)] => floorP_s c l a now b sure
  | _ => none
noncomputable def floorP_e (c : Bool) (l : List Int) (a : Bool) (now : List Sector) (b : Bool) (sure : List Sector) := evF s23 uk_4 40 17 [.acons (.sl (C := RC) .int c l) (.acons (.acons (.sl (C := RC) .sector a now) (.acons (.sl (C := RC) .sector b sure) .anil)) .anil)]
theorem floorP_eq (c : Bool) (l : List Int) (a : Bool) (now : List Sector) (b : Bool) (sure : List Sector) : floorP_e c l a now b sure = (let Z0 : Bool := lenOK l.length; let Z1 : Int := (↑l.length : Int); bif Z0 then bif Z1 != (771 : Int) then some (D.int .i64 0) else bif decide ((0 : Int) ≤ (3 : Int) ∧ (3 : Int) < Z1) then bif Z0 then bif lenOK (startsL l).length && smallS (startsL l) then some (D.int .i64 (flo (List.getD l (3 : Nat) (0 : Int)) (startsL l))) else none else none else none else none) := by kernel_rfl
theorem floorP_ok (c : Bool) (l : List Int) (a : Bool) (now : List Sector) (b : Bool) (sure : List Sector) (h : (lenOK l.length && smallS (startsL l)) = true) : floorP_e c l a now b sure = some (.int .i64 (if l.length = 771 then flo (l.getD 3 0) (startsL l) else 0)) := by
  (rw [floorP_eq]; conv => zeta)
  rw [Bool.and_eq_true] at h
  obtain ⟨h1, h2⟩ := h
  rw [h1]
  simp only [cond_true]
  by_cases e : l.length = 771
  · have e1 : ((l.length : Int) != 771) = false := ibneF (by omega)
    have e2 : (lenOK (startsL l).length && smallS (startsL l)) = true := by
      rw [h2, lenOK_of (by unfold startsL; rw [if_pos e, List.length_drop, List.length_take]; omega)]; rfl
    rw [e1, e2, if_pos e]
    simp only [cond_false]
    exact cond_of (decide_eq_true ⟨by decide, by omega⟩) rfl
  · have e1 : ((l.length : Int) != 771) = true := ibneT (by omega)
    rw [e1, if_neg e]
    rfl
noncomputable def uk_5 := uk_4.addSpec 17 floorP_sp
theorem uk_5_laws : FLaws Tryz.prog s23 uk_5 := uk_4_laws.addEv s23_laws fun args d h => by
  unfold floorP_sp at h
  split at h
  · unfold floorP_s at h
    have h1 := congrArg Prod.fst (Option.some.inj h)
    obtain rfl : _ = d := congrArg Prod.snd (Option.some.inj h)
    exact ⟨by simp [D.refs], 40, floorP_ok _ _ _ _ _ _ h1⟩
  · cases h
def floorQ_s (c : Bool) (l : List Int) (a : Bool) (now : List Sector) (b : Bool) (sure : List Sector) : Option (Bool × D RC) := some (lenOK l.length && smallS (startsL l), .int .i64 (if l.length = 771 then flo (l.getD 3 0) (startsL l) else 0))
def floorQ_sp : List (D RC) → Option (Bool × D RC)
  | [.acons (.sl .int c l) (.acons (.acons (.sl .sector a now) (.acons (.sl .sector b sure) .anil)) .anil)] => floorQ_s c l a now b sure
  | _ => none
noncomputable def floorQ_e (c : Bool) (l : List Int) (a : Bool) (now : List Sector) (b : Bool) (sure : List Sector) := evF s23 uk_5 40 18 [.acons (.sl (C := RC) .int c l) (.acons (.acons (.sl (C := RC) .sector a now) (.acons (.sl (C := RC) .sector b sure) .anil)) .anil)]
theorem floorQ_eq (c : Bool) (l : List Int) (a : Bool) (now : List Sector) (b : Bool) (sure : List Sector) : floorQ_e c l a now b sure = (let Z0 : Bool := lenOK l.length; let Z1 : Int := (↑l.length : Int); bif Z0 then bif Z1 != (771 : Int) then some (D.int .i64 0) else bif decide ((0 : Int) ≤ (3 : Int) ∧ (3 : Int) < Z1) then bif Z0 then bif lenOK (startsL l).length && smallS (startsL l) then some (D.int .i64 (flo (List.getD l (3 : Nat) (0 : Int)) (startsL l))) else none else none else none else none) := by kernel_rfl
theorem floorQ_ok (c : Bool) (l : List Int) (a : Bool) (now : List Sector) (b : Bool) (sure : List Sector) (h : (lenOK l.length && smallS (startsL l)) = true) : floorQ_e c l a now b sure = some (.int .i64 (if l.length = 771 then flo (l.getD 3 0) (startsL l) else 0)) := by
  (rw [floorQ_eq]; conv => zeta)
  rw [Bool.and_eq_true] at h
  obtain ⟨h1, h2⟩ := h
  rw [h1]
  simp only [cond_true]
  by_cases e : l.length = 771
  · have e1 : ((l.length : Int) != 771) = false := ibneF (by omega)
    have e2 : (lenOK (startsL l).length && smallS (startsL l)) = true := by
      rw [h2, lenOK_of (by unfold startsL; rw [if_pos e, List.length_drop, List.length_take]; omega)]; rfl
    rw [e1, e2, if_pos e]
    simp only [cond_false]
    exact cond_of (decide_eq_true ⟨by decide, by omega⟩) rfl
  · have e1 : ((l.length : Int) != 771) = true := ibneT (by omega)
    rw [e1, if_neg e]
    rfl
noncomputable def uk_6 := uk_5.addSpec 18 floorQ_sp
theorem uk_6_laws : FLaws Tryz.prog s23 uk_6 := uk_5_laws.addEv s23_laws fun args d h => by
  unfold floorQ_sp at h
  split at h
  · unfold floorQ_s at h
    have h1 := congrArg Prod.fst (Option.some.inj h)
    obtain rfl : _ = d := congrArg Prod.snd (Option.some.inj h)
    exact ⟨by simp [D.refs], 40, floorQ_ok _ _ _ _ _ _ h1⟩
  · cases h
structure plL_St where
  c : Bool
  l : List Pick
  i : Nat
  now : List Sector
  sure : List Sector
  cs : List Int
  ts : List Task
  us : List Task
  busy : List Bool
  kind : List Int
  opn : List Bool
  start : List Int
def plL_c (c : Bool) (l : List Pick) (i : Nat) (now : List Sector) (sure : List Sector) (cs : List Int) (ts : List Task) (us : List Task) (busy : List Bool) (kind : List Int) (opn : List Bool) (start : List Int) : Env RC := [(3, .ptr 0 []), (17, .sl (C := RC) .pick c l), (18, .int .i64 (l.length)), (19, .int .i64 (i : Int))]
def plL_o (c : Bool) (l : List Pick) (i : Nat) (now : List Sector) (sure : List Sector) (cs : List Int) (ts : List Task) (us : List Task) (busy : List Bool) (kind : List Int) (opn : List Bool) (start : List Int) : List (Obj RC) := [.var 30 (.acons (.ptr 1 []) (.acons (.arr (C := RC) .int 4 kind) (.acons (.arr (C := RC) .bool 4 opn) (.acons (.arr (C := RC) .int 4 start) .anil)))), .var 46 (.acons (.acons (.sl (C := RC) .int false cs) (.acons (.acons (.sl (C := RC) .sector false now) (.acons (.sl (C := RC) .sector false sure) .anil)) .anil)) (.acons (.arr (C := RC) .task 4 ts) (.acons (.arr (C := RC) .task 4 us) (.acons (.arr (C := RC) .bool 4 busy) .anil))))]
noncomputable def plL_r (c : Bool) (l : List Pick) (i : Nat) (now : List Sector) (sure : List Sector) (cs : List Int) (ts : List Task) (us : List Task) (busy : List Bool) (kind : List Int) (opn : List Bool) (start : List Int) := rndO s23 uk_6 6 5 60 2 [3, 17, 18, 19] [] [.slot 3 0, .path 0 [0]] (plL_c c l i now sure cs ts us busy kind opn start) (plL_o c l i now sure cs ts us busy kind opn start)
theorem plL_eq (c : Bool) (l : List Pick) (i : Nat) (now : List Sector) (sure : List Sector) (cs : List Int) (ts : List Task) (us : List Task) (busy : List Bool) (kind : List Int) (opn : List Bool) (start : List Int) : plL_r c l i now sure cs ts us busy kind opn start = (let Z0 : Int := (↑i : Int); let Z1 : Int := (↑l.length : Int); let Z2 : OS := OS.mk cs ts us busy kind opn start; let Z3 : Pick := List.getD l Z0.toNat (Pick.mk (0 : Int) (0 : Int)); let Z4 : OS := pickO Z2 (Pick.client Z3) (Pick.do_ Z3); let Z5 : Nat := List.length (OS.cs Z4); let Z6 : List Int := startsL (OS.cs Z4); let Z7 : Bool := lenOK Z5 && smallS Z6; let Z8 : Int := if Z5 = (771 : Nat) then flo (List.getD (OS.cs Z4) (3 : Nat) (0 : Int)) Z6 else (0 : Int); let Z9 : D RC := .anil; let Z10 : D RC := D.acons (D.acons (D.sl RTy.sector false now) (.acons (D.sl RTy.sector false sure) Z9)) Z9; let Z11 : List (Option (Obj RC)) := [some (Obj.var 30 (.acons (D.ptr 1 []) (.acons (D.arr RTy.int (4 : Nat) (OS.kind Z4)) (.acons (D.arr RTy.bool (4 : Nat) (OS.opn Z4)) (.acons (D.arr RTy.int (4 : Nat) (OS.start Z4)) Z9))))), some (Obj.var 46 (.acons (D.acons (D.sl RTy.int false (OS.cs Z4)) Z10) (.acons (D.arr RTy.task (4 : Nat) (OS.ts Z4)) (.acons (D.arr RTy.task (4 : Nat) (OS.us Z4)) (.acons (D.arr RTy.bool (4 : Nat) (OS.busy Z4)) Z9)))))]; bif decide (Z0 < Z1) then bif decide ((0 : Int) ≤ Z0 ∧ Z0 < Z1) then bif cdec (OkPickO Z2 now sure (Pick.client Z3 % (4 : Int)) ∧ diskOK now sure = true ∧ goodL now = true ∧ goodL sure = true) then bif Z7 then bif Z7 then bif Z8 != Z8 then some ((X.ret, []), Z11) else bif lenOK Z5 then bif lenOK Z5 then bif lenOK Z6.length && lenOK Z6.length then bif !decide (Z6 = Z6) then some ((X.ret, []), Z11) else some ((X.normal, [(3, D.ptr 0 []), (17, D.sl RTy.pick c l), (18, D.int .i64 Z1), (19, D.int .i64 (IntKind.wrap .i64 (Z0 + (1 : Int))))]), Z11) else none else none else none else none else none else none else none else some ((X.exit (0 : Nat), []), [some (Obj.var 30 (.acons (D.ptr 1 []) (.acons (D.arr RTy.int (4 : Nat) kind) (.acons (D.arr RTy.bool (4 : Nat) opn) (.acons (D.arr RTy.int (4 : Nat) start) Z9))))), some (Obj.var 46 (.acons (D.acons (D.sl RTy.int false cs) Z10) (.acons (D.arr RTy.task (4 : Nat) ts) (.acons (D.arr RTy.task (4 : Nat) us) (.acons (D.arr RTy.bool (4 : Nat) busy) Z9)))))])) := by kernel_rfl
noncomputable def plL_fin (c : Bool) (l : List Pick) (i : Nat) (now : List Sector) (sure : List Sector) (cs : List Int) (ts : List Task) (us : List Task) (busy : List Bool) (kind : List Int) (opn : List Bool) (start : List Int) : RT RC := .leaf (.exit 0) [] (plL_o c l i now sure (runO ((prs l).drop i) ⟨cs, ts, us, busy, kind, opn, start⟩).cs (runO ((prs l).drop i) ⟨cs, ts, us, busy, kind, opn, start⟩).ts (runO ((prs l).drop i) ⟨cs, ts, us, busy, kind, opn, start⟩).us (runO ((prs l).drop i) ⟨cs, ts, us, busy, kind, opn, start⟩).busy (runO ((prs l).drop i) ⟨cs, ts, us, busy, kind, opn, start⟩).kind (runO ((prs l).drop i) ⟨cs, ts, us, busy, kind, opn, start⟩).opn (runO ((prs l).drop i) ⟨cs, ts, us, busy, kind, opn, start⟩).start)
def plL_Inv (c : Bool) (l : List Pick) (i : Nat) (now : List Sector) (sure : List Sector) (cs : List Int) (ts : List Task) (us : List Task) (busy : List Bool) (kind : List Int) (opn : List Bool) (start : List Int) : Prop := i ≤ l.length ∧ l.length ≤ 400 ∧ (diskOK now sure = true ∧ goodL now = true ∧ goodL sure = true) ∧ ∃ most, OI ⟨cs, ts, us, busy, kind, opn, start⟩ most i
noncomputable def plL_S : LoopR RC plL_St where
  k := 2
  canon q := plL_c q.c q.l q.i q.now q.sure q.cs q.ts q.us q.busy q.kind q.opn q.start
  objs q := plL_o q.c q.l q.i q.now q.sure q.cs q.ts q.us q.busy q.kind q.opn q.start
  fin q := plL_fin q.c q.l q.i q.now q.sure q.cs q.ts q.us q.busy q.kind q.opn q.start
  Inv q := plL_Inv q.c q.l q.i q.now q.sure q.cs q.ts q.us q.busy q.kind q.opn q.start
  μ q := q.l.length - q.i
theorem plL_round (c : Bool) (l : List Pick) (i : Nat) (now : List Sector) (sure : List Sector) (cs : List Int) (ts : List Task) (us : List Task) (busy : List Bool) (kind : List Int) (opn : List Bool) (start : List Int) (hI : plL_Inv c l i now sure cs ts us busy kind opn start) : Leaf (plL_r c l i now sure cs ts us busy kind opn start) (LedR plL_S ⟨c, l, i, now, sure, cs, ts, us, busy, kind, opn, start⟩) := by
  (rw [plL_eq]; conv => zeta)
  unfold plL_Inv at hI
  obtain ⟨h1, h2, ⟨hd, hg1, hg2⟩, most, hI⟩ := hI
  by_cases hlt : i < l.length
  · have t_nat0 : ((i : Int)).toNat = i := by simp
    rw [t_nat0]
    have w_succ : IntKind.i64.wrap ((i : Int) + 1) = ((i + 1 : Nat) : Int) := by rw [wrap_id (by omega) (by omega)]; simp
    have d_lt : decide ((i : Int) < l.length) = true := by simp; omega
    have d_in : decide (0 ≤ (i : Int) ∧ (i : Int) < l.length) = true := by simp; omega
    have t_nat : ((i : Int)).toNat = i := by simp
    simp only [w_succ, d_lt, d_in, t_nat, cond_true]
    have hrun := runP_step hlt ⟨cs, ts, us, busy, kind, opn, start⟩
    have hfin : ∀ s, runO ((prs l).drop i) ⟨cs, ts, us, busy, kind, opn, start⟩ = s → plL_fin c l i now sure cs ts us busy kind opn start = .leaf (.exit 0) [] (plL_o c l i now sure s.cs s.ts s.us s.busy s.kind s.opn s.start) := fun s hs => by unfold plL_fin; rw [hs]
    have hfin := hfin _ hrun
    clear hrun
    generalize l.getD i (⟨0, 0⟩ : Pick) = x at hfin ⊢
    obtain ⟨most', hp⟩ := hI.pick (by omega) x.client x.do_
    have hok := hp.ok now sure hd hg1 hg2
    have hoi := hp.oi
    clear hp
    generalize pickO ⟨cs, ts, us, busy, kind, opn, start⟩ x.client x.do_ = P at *
    have hoc := hoi.oc
    have hl := hoc.len
    have k1 : cdec (OkPickO ⟨cs, ts, us, busy, kind, opn, start⟩ now sure (x.client % 4) ∧ diskOK now sure = true ∧ goodL now = true ∧ goodL sure = true) = true := cdec_true ⟨hok, hd, hg1, hg2⟩
    have k2 : lenOK P.cs.length = true := lenOK_of (by omega)
    have k3 : smallS (startsL P.cs) = true := starts_small hoc.ok
    have k4 : lenOK (startsL P.cs).length = true := lenOK_of (by unfold startsL; rw [if_pos hl, List.length_drop, List.length_take]; omega)
    have k5 : ∀ n : Int, (n != n) = false := fun n => ibneF rfl
    simp only [k1, k2, k3, k4, k5, decide_true, Bool.and_self, Bool.not_true, cond_true, cond_false]
    exact leafR_go (S := plL_S) (s := ⟨c, l, i, now, sure, cs, ts, us, busy, kind, opn, start⟩) ⟨c, l, i + 1, now, sure, P.cs, P.ts, P.us, P.busy, P.kind, P.opn, P.start⟩ ⟨hlt, h2, ⟨hd, hg1, hg2⟩, most', by rw [show (((i + 1 : Nat)) : Int) = (i : Int) + 1 by simp]; exact hoi⟩ (by simp only [plL_S]; omega) (by show (plL_fin c l (i + 1) now sure P.cs P.ts P.us P.busy P.kind P.opn P.start).val = (plL_fin c l i now sure cs ts us busy kind opn start).val; rw [hfin]; rfl) rfl rfl
  · have hi : i = l.length := by omega
    have c1 : decide ((i : Int) < l.length) = false := by simp; omega
    rw [c1]
    exact leafR_exit (plL_o c l i now sure cs ts us busy kind opn start) (by show (plL_fin c l i now sure cs ts us busy kind opn start).val = _; unfold plL_fin; rw [hi, ← prs_len, List.drop_length]; rfl) rfl
noncomputable def plL_d (env : Env RC) (os : List (Obj RC)) : Option (Bool × plL_St) := match env, os with
  | [(3, .ptr 0 []), (17, .sl .pick c l), (18, .int .i64 x0), (19, .int .i64 x1)], [.var 30 (.acons (.ptr 1 []) (.acons (.arr .int 4 kind) (.acons (.arr .bool 4 opn) (.acons (.arr .int 4 start) .anil)))), .var 46 (.acons (.acons (.sl .int false cs) (.acons (.acons (.sl .sector false now) (.acons (.sl .sector false sure) .anil)) .anil)) (.acons (.arr .task 4 ts) (.acons (.arr .task 4 us) (.acons (.arr .bool 4 busy) .anil))))] => staticD (true) (decide (x0 = l.length) && decide (x1 = 0) && cdec (l.length ≤ 400 ∧ (diskOK now sure = true ∧ goodL now = true ∧ goodL sure = true) ∧ ∃ most, OI ⟨cs, ts, us, busy, kind, opn, start⟩ most 0), ⟨c, l, 0, now, sure, cs, ts, us, busy, kind, opn, start⟩)
  | _, _ => none
noncomputable def uk_7 := uk_6.addLoop 6 5 (sumR s23 [.slot 3 0, .path 0 [0]] [3, 17, 18, 19] plL_S plL_d)
theorem uk_7_laws : FLaws Tryz.prog s23 uk_7 := by
  refine uk_6_laws.addRoundsR s23_laws (by kernel_rfl) plL_S 60 [3, 17, 18, 19] [] [.slot 3 0, .path 0 [0]] [3, 17, 18, 19] plL_d (fun q hI => ?_) ?_
  · obtain ⟨c, l, i, now, sure, cs, ts, us, busy, kind, opn, start⟩ := q
    refine ⟨?_, ?_, plL_round c l i now sure cs ts us busy kind opn start hI⟩
    · simp_all [RefsOK, plL_S, plL_c, plL_o, plL_Inv, D.refs, Obj.refs, rEnc]
    · simp_all [plL_S, plL_fin, plL_o, plL_Inv, RT.refsOK, RefsOK, D.refs, Obj.refs, rEnc]
  · intro env os b q hd_ hb
    unfold plL_d at hd_
    split at hd_
    · obtain ⟨hs, hd_⟩ := staticD_some hd_
      cases hd_
      simp only [Bool.and_eq_true, decide_eq_true_eq] at hb
      obtain ⟨⟨e2, e3⟩, e4⟩ := hb
      obtain ⟨e5, e6, e7⟩ := cdec_iff.1 e4
      subst e2
      subst e3
      exact ⟨⟨Nat.zero_le _, e5, e6, e7⟩, rfl, rfl⟩
    · cases hd_
def plays23_s (c : Bool) (l : List Pick) : Option (Bool × D RC) := some (lenOK l.length, .bool true)
def plays23_sp : List (D RC) → Option (Bool × D RC)
  | [.sl .pick c l] => plays23_s c l
  | _ => none
noncomputable def plays23_e (c : Bool) (l : List Pick) := evF s23 uk_7 100 6 [.sl (C := RC) .pick c l]
theorem plays23_eq (c : Bool) (l : List Pick) : plays23_e c l = (let Z0 : Nat := List.length l; let Z1 : Int := (↑Z0 : Int); let Z2 : List Task := List.replicate (4 : Nat) (rDflt RTy.task); let Z3 : List Bool := List.replicate (4 : Nat) false; let Z4 : List Int := List.replicate (4 : Nat) (0 : Int); bif lenOK Z0 then bif decide ((400 : Int) < Z1) then some (D.bool true) else bif lenOK Z0 then bif decide (Z1 = Z1) && true && cdec (Z0 ≤ (400 : Nat) ∧ (true = true ∧ true = true ∧ true = true) ∧ ∃ (most : Int), OI (OS.mk newCells Z2 Z2 Z3 Z4 Z3 Z4) most (0 : Int)) then some (D.bool true) else none else none else none) := by kernel_rfl
theorem plays23_ok (c : Bool) (l : List Pick) (h : (lenOK l.length) = true) : plays23_e c l = some (.bool true) := by
  (rw [plays23_eq]; conv => zeta)
  rw [h]
  simp only [cond_true]
  by_cases h4 : l.length ≤ 400
  · have d1 : decide ((400 : Int) < (l.length : Int)) = false := decide_eq_false (by omega)
    have hg : (⟨newCells, List.replicate 4 (rDflt RTy.task), List.replicate 4 (rDflt RTy.task), List.replicate 4 false, List.replicate 4 0, List.replicate 4 false, List.replicate 4 0⟩ : OS) = os0 := rfl
    have k1 : cdec (l.length ≤ 400 ∧ (True ∧ True ∧ True) ∧ ∃ most : Int, OI os0 most 0) = true := cdec_true ⟨h4, ⟨trivial, trivial, trivial⟩, 0, OI.init⟩
    rw [d1, hg, k1]
    simp only [decide_true, Bool.and_self, Bool.and_true, Bool.true_and, cond_true, cond_false]
  · have d1 : decide ((400 : Int) < (l.length : Int)) = true := decide_eq_true (by omega)
    rw [d1]
    rfl
noncomputable def uk_8 := uk_7.addSpec 6 plays23_sp
theorem uk_8_laws : FLaws Tryz.prog s23 uk_8 := uk_7_laws.addEv s23_laws fun args d h => by
  unfold plays23_sp at h
  split at h
  · unfold plays23_s at h
    have h1 := congrArg Prod.fst (Option.some.inj h)
    obtain rfl : _ = d := congrArg Prod.snd (Option.some.inj h)
    exact ⟨by simp [D.refs], 100, plays23_ok _ _ h1⟩
  · cases h
def alO (c : Int) : Nat → OS → OS
  | 0, s => s
  | n + 1, s => if (endO s c).is = true then alO c n (stepO s c) else stepO s c
def AM (cs : List Int) (f : Int) (m : Nat) (k : Int) (r q got : List Int) : Prop :=
  r.length = 96 ∧ q.length = 96 ∧ frC cs = f ∧
  (k = 0 ∧ got = [] ∧ m = 7 ∨ k = 1 ∧ got = [f] ∧ m = 6 ∨ r.getD 0 0 = f ∧ q.getD 0 0 = f ∧
    (k = 2 ∧ got = [mkC cs] ∧ m = 5 ∨ mkC cs = f ∧
      (k = 3 ∧ got = [1] ∧ m = 4 ∨ k = 4 ∧ ∃ j : Nat, j ≤ 3 ∧ m = 3 - j ∧ r.getD 1 0 = j ∧ q.getD 2 0 = j ∧ got = [scC cs j] ∧ ∀ i, i < j → r.getD (2 + i) 0 = scC cs i ∧ q.getD (3 + i) 0 = scC cs i)))
theorem opB_nil (i : Nat) : opB [] i = false := by simp [opB]
theorem AM.jm {cs : List Int} {f : Int} {m : Nat} {k : Int} {r q got : List Int} (h : AM cs f m k r q got) (hc : OC cs) : JM cs [] [] k r q got := by
  obtain ⟨h1, h2, hf, h⟩ := h
  have hm := hc.mr
  refine ⟨h1, h2, ?_⟩
  have saw : ∀ i v w, SawIt [] [] w i v := fun i v w q => by rw [opB_nil] at q; cases q
  rcases h with ⟨a, b, _⟩ | ⟨a, b, _⟩ | ⟨e1, e2, ⟨a, b, _⟩ | ⟨e3, ⟨a, b, _⟩ | ⟨a, j, j2, _, e4, e5, b, hj⟩⟩⟩
  · exact .inl ⟨a, b⟩
  · exact .inr ⟨f, b, by omega, by omega, .inl ⟨a, by omega⟩⟩
  · exact .inr ⟨_, b, hm.1, by omega, .inr ⟨by omega, by omega, by omega, .inl ⟨a, Int.le_refl _⟩⟩⟩
  · exact .inr ⟨_, b, by decide, by omega, .inr ⟨by omega, by omega, by omega, .inr (.inl ⟨a, .inr (by omega)⟩)⟩⟩
  · have hb := hc.sb j (by omega)
    refine .inr ⟨_, b, hb.1, hb.2, .inr ⟨by omega, by omega, by omega, .inr (.inr ⟨a, by omega, j, by omega, e4, e5, fun i hi => ?_, saw _ _ _⟩)⟩⟩
    have hbi := hc.sb i (by omega)
    obtain ⟨x1, x2⟩ := hj i hi
    exact ⟨by omega, by omega, by omega, saw _ _ _⟩
structure AStep (cs : List Int) (c p k : Int) (r q got : List Int) (n : Int) (r' q' : List Int) (x : Int) (cs' : List Int) : Prop where
  ex : ∃ kd a b v, goO false [⟨p, k, r⟩] got = g4 p n r' got kd a b v 0 ∧ goO true [⟨p, k, q⟩] got = g4 p n q' got kd a b v 0 ∧ OkDo4 cs kd a b v ∧ doG4 cs kd a b = x ∧ doC4 cs kd a b v = cs'
theorem ordLoad {cs : List Int} (hc : OC cs) (a : Int) (a0 : 0 ≤ a) (a1 : a < 771) : OkDo4 cs 0 a 0 0 := ⟨.inl ⟨rfl, rfl, rfl⟩, a0, by rw [hc.len]; exact a1, by decide, by decide, by decide, by decide⟩
theorem AM.look {cs : List Int} {f : Int} {r q : List Int} (h1 : r.length = 96) (h2 : q.length = 96) (hf : frC cs = f) (e1 : r.getD 0 0 = f) (e2 : q.getD 0 0 = f) (e3 : mkC cs = f) :
    AM cs f 3 4 (r.set 1 0) (q.set 2 0) [scC cs 0] := by
  have er : (r.set 1 0).getD 0 0 = r.getD 0 0 := getD_set_ne' (by decide)
  have eq : (q.set 2 0).getD 0 0 = q.getD 0 0 := getD_set_ne' (by decide)
  exact ⟨by rw [List.length_set]; exact h1, by rw [List.length_set]; exact h2, hf, .inr (.inr ⟨by omega, by omega, .inr ⟨e3, .inr ⟨rfl, 0, by decide, rfl, getD_set_eq (by omega), getD_set_eq (by omega), rfl, fun i hi => by omega⟩⟩⟩)⟩
theorem AM.step {cs : List Int} {f : Int} {m : Nat} {k c : Int} {r q got : List Int} (h : AM cs f m k r q got) (hc : OC cs) (hm1 : 1 ≤ m) :
    ∃ n r' q' x cs', AStep cs c 93 k r q got n r' q' x cs' ∧ OC cs' ∧ JM cs' [] [] n r' q' [x] ∧
      ((goO false [⟨93, n, r'⟩] [x]).is = true ∧ (∃ m', m' < m ∧ 1 ≤ m' ∧ AM cs' f m' n r' q' [x]) ∨
       goO false [⟨93, n, r'⟩] [x] = gEnd4 [flo f [scC cs' 0, scC cs' 1, scC cs' 2, scC cs' 3]] ∧ mkC cs' = f ∧ frC cs' = f ∧ ∀ i, scC cs' i = scC cs i) := by
  obtain ⟨h1, h2, hf, h⟩ := h
  have hl := hc.len
  have hff := hc.fr
  have hm := hc.mr
  rcases h with ⟨rfl, rfl, rfl⟩ | ⟨rfl, rfl, rfl⟩ | ⟨e1, e2, ⟨rfl, rfl, rfl⟩ | ⟨e3, ⟨rfl, rfl, rfl⟩ | ⟨rfl, j, j2, rfl, e4, e5, rfl, hj⟩⟩⟩
  · have hA : AM cs f 6 1 r q [f] := ⟨h1, h2, hf, .inr (.inl ⟨rfl, rfl, rfl⟩)⟩
    exact ⟨1, r, q, f, cs, ⟨0, 0, 0, 0, oM0 _ _ _, oM0 _ _ _, ordLoad hc 0 (by decide) (by decide), by rw [doG4_load]; exact hf, doC4_load⟩, hc, hA.jm hc, .inl ⟨by rw [oM1]; rfl, 6, by decide, by decide, hA⟩⟩
  · have hA : AM cs f 5 2 (r.set 0 f) (q.set 0 f) [mkC cs] := ⟨by rw [List.length_set]; exact h1, by rw [List.length_set]; exact h2, hf, .inr (.inr ⟨getD_set_eq (by omega), getD_set_eq (by omega), .inl ⟨rfl, rfl, rfl⟩⟩)⟩
    refine ⟨2, r.set 0 f, q.set 0 f, mkC cs, cs, ⟨0, 3, 0, 0, oM1 _ _ _, oM1 _ _ _, ordLoad hc 3 (by decide) (by decide), by rw [doG4_load]; rfl, doC4_load⟩, hc, hA.jm hc, .inl ⟨?_, 5, by decide, by decide, hA⟩⟩
    rw [oA2]
    split <;> rfl
  · by_cases hlt : mkC cs < f
    · have hb : cs.getD (Int.toNat 3) 0 = mkC cs := rfl
      have hmk : mkC (cs.set (Int.toNat 3) f) = f := getD_set_eq (by omega)
      have hfr : frC (cs.set (Int.toNat 3) f) = frC cs := getD_set_ne' (by decide)
      have hsc : ∀ i, scC (cs.set (Int.toNat 3) f) i = scC cs i := fun i => getD_set_ne' (by omega)
      have hoc : OC (cs.set (Int.toNat 3) f) := ⟨by rw [List.length_set]; exact hl, cellsOK_set hc.ok (by omega), by rw [hmk, hfr]; omega, by rw [hfr]; exact hff, fun i hi => by rw [hsc, hfr]; exact hc.sb i hi⟩
      have eq : (q.set 1 (mkC cs)).getD 0 0 = q.getD 0 0 := getD_set_ne' (by decide)
      have hA : AM (cs.set (Int.toNat 3) f) f 4 3 r (q.set 1 (mkC cs)) [1] := ⟨h1, by rw [List.length_set]; exact h2, by rw [hfr]; exact hf, .inr (.inr ⟨e1, by omega, .inr ⟨hmk, .inl ⟨rfl, rfl, rfl⟩⟩⟩)⟩
      refine ⟨3, r, q.set 1 (mkC cs), 1, cs.set (Int.toNat 3) f, ⟨2, 3, mkC cs, f, by rw [oA2, e1, if_pos hlt], by rw [oC2, e2, if_pos hlt], ⟨.inr (.inr (.inl rfl)), by decide, by omega, by omega, by omega, by omega, by omega⟩, by rw [doG4_cas, if_pos hb], by rw [doC4_cas, if_pos hb]⟩, hoc, hA.jm hoc, .inl ⟨?_, 4, by decide, by decide, hA⟩⟩
      rw [oA3, if_neg (by decide)]; rfl
    · have hA := AM.look h1 h2 hf e1 e2 (show mkC cs = f by omega)
      refine ⟨4, r.set 1 0, q.set 2 0, scC cs 0, cs, ⟨0, 9, 0, 0, by rw [oA2, e1, if_neg hlt], by rw [oC2, e2, if_neg hlt], ordLoad hc 9 (by decide) (by decide), by rw [doG4_load]; rfl, doC4_load⟩, hc, hA.jm hc, .inl ⟨?_, 3, by decide, by decide, hA⟩⟩
      rw [oA4, getD_set_eq (by omega), if_neg (by decide)]; rfl
  · have hA := AM.look h1 h2 hf e1 e2 e3
    refine ⟨4, r.set 1 0, q.set 2 0, scC cs 0, cs, ⟨0, 9, 0, 0, by rw [oA3, if_neg (by decide)], by rw [oC3, if_neg (by decide)], ordLoad hc 9 (by decide) (by decide), by rw [doG4_load]; rfl, doC4_load⟩, hc, hA.jm hc, .inl ⟨?_, 3, by decide, by decide, hA⟩⟩
    rw [oA4, getD_set_eq (by omega), if_neg (by decide)]; rfl
  · have hj2 : j ≤ 2 := by omega
    have t1 : (r.getD 1 0).toNat = j := by omega
    have t2 : (q.getD 2 0).toNat = j := by omega
    have hne : ¬ r.getD 1 0 = 3 := by omega
    have hne2 : ¬ q.getD 2 0 = 3 := by omega
    have hr0 : ((r.set (2 + j) (scC cs j)).set 1 ((j : Int) + 1)).getD 0 0 = r.getD 0 0 := by rw [getD_set_ne' (by decide), getD_set_ne' (by omega)]
    have hq0 : ((q.set (3 + j) (scC cs j)).set 2 ((j : Int) + 1)).getD 0 0 = q.getD 0 0 := by rw [getD_set_ne' (by decide), getD_set_ne' (by omega)]
    have hr1 : ((r.set (2 + j) (scC cs j)).set 1 ((j : Int) + 1)).getD 1 0 = j + 1 := getD_set_eq (by rw [List.length_set]; omega)
    have hq2 : ((q.set (3 + j) (scC cs j)).set 2 ((j : Int) + 1)).getD 2 0 = j + 1 := getD_set_eq (by rw [List.length_set]; omega)
    have hri : ∀ i, i < j + 1 → ((r.set (2 + j) (scC cs j)).set 1 ((j : Int) + 1)).getD (2 + i) 0 = scC cs i := fun i hi => by
      rw [getD_set_ne' (by omega), getD_set _ _ _ _ _ (by omega)]
      by_cases e : i = j
      · rw [if_pos (by omega), e]
      · rw [if_neg (by omega)]; exact (hj i (by omega)).1
    have hqi : ∀ i, i < j + 1 → ((q.set (3 + j) (scC cs j)).set 2 ((j : Int) + 1)).getD (3 + i) 0 = scC cs i := fun i hi => by
      rw [getD_set_ne' (by omega), getD_set _ _ _ _ _ (by omega)]
      by_cases e : i = j
      · rw [if_pos (by omega), e]
      · rw [if_neg (by omega)]; exact (hj i (by omega)).2
    have hvx : cs.getD (10 + (j : Int)).toNat 0 = scC cs (j + 1) := by unfold scC; congr 1; omega
    have hA : AM cs f (3 - (j + 1)) 4 ((r.set (2 + j) (scC cs j)).set 1 (j + 1)) ((q.set (3 + j) (scC cs j)).set 2 (j + 1)) [scC cs (j + 1)] :=
      ⟨by rw [List.length_set, List.length_set]; exact h1, by rw [List.length_set, List.length_set]; exact h2, hf, .inr (.inr ⟨by rw [hr0]; exact e1, by rw [hq0]; exact e2, .inr ⟨e3, .inr ⟨rfl, j + 1, by omega, rfl, by rw [hr1]; simp, by rw [hq2]; simp, rfl, fun i hi => ⟨hri i hi, hqi i hi⟩⟩⟩⟩)⟩
    refine ⟨4, (r.set (2 + j) (scC cs j)).set 1 (j + 1), (q.set (3 + j) (scC cs j)).set 2 (j + 1), scC cs (j + 1), cs, ⟨0, 10 + j, 0, 0, by rw [oA4, if_neg hne, t1, e4], by rw [oC4, if_neg hne2, t2, e5], ordLoad hc _ (by omega) (by omega), by rw [doG4_load, hvx], doC4_load⟩, hc, hA.jm hc, ?_⟩
    by_cases h3 : j = 2
    · refine .inr ⟨?_, e3, hf, fun _ => rfl⟩
      rw [oA4, hr1, if_pos (by omega), hr0, e1]
      subst h3
      have a0 : ((r.set (2 + 2) (scC cs 2)).set 1 (((2 : Nat) : Int) + 1)).getD 2 0 = scC cs 0 := hri 0 (by omega)
      have a1 : ((r.set (2 + 2) (scC cs 2)).set 1 (((2 : Nat) : Int) + 1)).getD 3 0 = scC cs 1 := hri 1 (by omega)
      have a2 : ((r.set (2 + 2) (scC cs 2)).set 1 (((2 : Nat) : Int) + 1)).getD 4 0 = scC cs 2 := hri 2 (by omega)
      rw [a0, a1, a2]
    · refine .inl ⟨?_, 3 - (j + 1), by omega, by omega, hA⟩
      rw [oA4, hr1, if_neg (by omega)]; rfl
structure OLen (s : OS) : Prop where
  lt : s.ts.length = 4
  lu : s.us.length = 4
  lb : s.busy.length = 4
theorem OLen.step {s : OS} {c : Int} (h : OLen s) : OLen (stepO s c) := by
  refine ⟨by show (s.ts.set _ _).length = 4; rw [List.length_set]; exact h.lt, by show (s.us.set _ _).length = 4; rw [List.length_set]; exact h.lu, ?_⟩
  show (bif (endO s c).is then s.busy else s.busy.set c.toNat false).length = 4
  cases (endO s c).is
  · rw [cond_false, List.length_set]; exact h.lb
  · exact h.lb
def stL (cs : List Int) : List Int := [scC cs 0, scC cs 1, scC cs 2, scC cs 3]
structure OGoal (k f c : Int) (s : OS) : Prop where
  oc : OC (stepO s c).cs
  fr : frC (stepO s c).cs = f
  mr : mkC (stepO s c).cs = f
  g0 : k = 0 → (endO s c).got = [flo f (stL (stepO s c).cs)]
  g1 : k = 1 → (endO s c).got = [f] ∧ scC (stepO s c).cs c.toNat = f + 1
inductive OPath (k f c : Int) (now sure : List Sector) : Nat → OS → Prop
  | stop {m : Nat} {s : OS} (hl : OLen s) (ok : OkStepO c s.cs (tkC s.ts c) (tkC s.us c) now sure) (hi : (endO s c).is = false) (hg : OGoal k f c s) : OPath k f c now sure (m + 1) s
  | go {m : Nat} {s : OS} (hl : OLen s) (ok : OkStepO c s.cs (tkC s.ts c) (tkC s.us c) now sure) (hi : (endO s c).is = true) (h : OPath k f c now sure m (stepO s c)) : OPath k f c now sure (m + 1) s
theorem OPath.mono {k f c : Int} {now sure : List Sector} {m : Nat} {s : OS} (h : OPath k f c now sure m s) : ∀ {m' : Nat}, m ≤ m' → OPath k f c now sure m' s := by
  induction h with
  | stop hl ok hi hg =>
    intro m' hm
    obtain ⟨j, rfl⟩ : ∃ j, m' = j + 1 := ⟨m' - 1, by omega⟩
    exact .stop hl ok hi hg
  | go hl ok hi _ ih =>
    intro m' hm
    obtain ⟨j, rfl⟩ : ∃ j, m' = j + 1 := ⟨m' - 1, by omega⟩
    exact .go hl ok hi (ih (by omega))
theorem OPath.final {k f c : Int} {now sure : List Sector} {m : Nat} {s : OS} (h : OPath k f c now sure m s) : ∀ {n : Nat}, m ≤ n → ∃ s1, alO c n s = stepO s1 c ∧ OGoal k f c s1 ∧ OLen s1 := by
  induction h with
  | @stop m s hl ok hi hg =>
    intro n hn
    obtain ⟨j, rfl⟩ : ∃ j, n = j + 1 := ⟨n - 1, by omega⟩
    exact ⟨s, by rw [alO, if_neg (by rw [hi]; simp)], hg, hl⟩
  | go hl ok hi _ ih =>
    intro n hn
    obtain ⟨j, rfl⟩ : ∃ j, n = j + 1 := ⟨n - 1, by omega⟩
    rw [alO, if_pos hi]
    exact ih (by omega)
theorem StO.step {s : OS} {c p n : Int} {r' q' : List Int} {x : Int} {cs' : List Int} (S : StO s c p n r' q' x cs') (hl : OLen s) (c0 : 0 ≤ c) (c3 : c ≤ 3) :
    (stepO s c).cs = cs' ∧ tkC (stepO s c).ts c = mkO c p n r' [x] ∧ tkC (stepO s c).us c = mkO c p n q' [x] := by
  refine ⟨S.cs, ?_, ?_⟩
  · show tkC (s.ts.set c.toNat (oT s.cs (tkC s.ts c))) c = _
    rw [tkC_set hl.lt c0 c3 c0, if_pos rfl, S.t]
  · show tkC (s.us.set c.toNat (oU s.cs (tkC s.ts c) (tkC s.us c))) c = _
    rw [tkC_set hl.lu c0 c3 c0, if_pos rfl, S.u]
theorem AM.path {f c : Int} {now sure : List Sector} (hd : diskOK now sure = true) (hg1 : goodL now = true) (hg2 : goodL sure = true) (c0 : 0 ≤ c) (c3 : c ≤ 3) : ∀ (m : Nat) (s : OS) (k : Int) (r q got : List Int), 1 ≤ m →
    AM s.cs f m k r q got → OC s.cs → tkC s.ts c = mkO c 93 k r got → tkC s.us c = mkO c 93 k q got → OLen s → OPath 0 f c now sure m s := by
  intro m
  induction m using Nat.strongRecOn with
  | ind m ih =>
    intro s k r q got hm hA hc ht hu hl
    obtain ⟨n, r', q', x, cs', ⟨kd, a, b, v, h1, h2, h3, h4, h5⟩, hc', hJ, hE⟩ := hA.step (c := c) hc hm
    have ok1 := (hA.jm hc).ok hc.fr c0 c3
    have ok2 := hJ.ok hc'.fr c0 c3
    subst h4
    subst h5
    have S := StO.of ht hu h1 h2 h3 hc.ok ok1.1 ok1.2.1 ok2.1 ok2.2.1 ok2.2.2
    obtain ⟨s1, s2, s3⟩ := S.step hl c0 c3
    obtain ⟨j, rfl⟩ : ∃ j, m = j + 1 := ⟨m - 1, by omega⟩
    rcases hE with ⟨e1, m', e2, e3, e4⟩ | ⟨e1, e2, e3, e4⟩
    · refine .go hl (S.ok now sure hd hg1 hg2) (by rw [S.e]; exact e1) ?_
      exact (ih m' (by omega) (stepO s c) n r' q' _ e3 (by rw [s1]; exact e4) (by rw [s1]; exact hc') s2 s3 hl.step).mono (by omega)
    · refine .stop hl (S.ok now sure hd hg1 hg2) (by rw [S.e, e1]; rfl) ⟨by rw [s1]; exact hc', by rw [s1]; exact e3, by rw [s1]; exact e2, fun _ => by rw [S.e, e1, s1]; rfl, fun h => by cases h⟩
def AB (cs : List Int) (f c : Int) (m : Nat) (k : Int) (r got : List Int) : Prop :=
  r.length = 96 ∧ r.getD 0 0 = c ∧ frC cs = f ∧ mkC cs = f ∧
  (k = 0 ∧ got = [] ∧ m = 3 ∨ k = 1 ∧ got = [f] ∧ m = 2 ∨ k = 2 ∧ got = [0] ∧ m = 1 ∧ r.getD 1 0 = f ∧ scC cs c.toNat = f + 1)
theorem AB.jb {cs : List Int} {f c : Int} {m : Nat} {k : Int} {r got : List Int} (h : AB cs f c m k r got) (hc : OC cs) : JB cs [] c k r got := by
  obtain ⟨h1, h2, hf, hm, h⟩ := h
  have hr := hc.mr
  refine ⟨h1, h2, opB_nil _, ?_⟩
  rcases h with ⟨a, b, _⟩ | ⟨a, b, _⟩ | ⟨a, b, _, e1, e2⟩
  · exact .inl ⟨a, b⟩
  · exact .inr ⟨f, b, by omega, by omega, .inl a⟩
  · exact .inr ⟨0, b, by decide, by omega, .inr ⟨by omega, by omega, by omega, .inl a⟩⟩
theorem AB.step {cs : List Int} {f c : Int} {m : Nat} {k : Int} {r got : List Int} (h : AB cs f c m k r got) (hc : OC cs) (c0 : 0 ≤ c) (c3 : c ≤ 3) :
    ∃ n r' x cs', AStep cs c 92 k r r got n r' r' x cs' ∧ OC cs' ∧ (∀ own, okO own c [⟨92, n, r'⟩] [x]) ∧
      ((goO false [⟨92, n, r'⟩] [x]).is = true ∧ (∃ m', m' < m ∧ 1 ≤ m' ∧ AB cs' f c m' n r' [x]) ∨
       goO false [⟨92, n, r'⟩] [x] = gEnd4 [f] ∧ mkC cs' = f ∧ frC cs' = f ∧ scC cs' c.toNat = f + 1) := by
  obtain ⟨h1, h2, hf, hmk, h⟩ := h
  have hl := hc.len
  have hff := hc.fr
  have hr := hc.mr
  rcases h with ⟨rfl, rfl, rfl⟩ | ⟨rfl, rfl, rfl⟩ | ⟨rfl, rfl, rfl, e1, e2⟩
  · have hA : AB cs f c 2 1 r [f] := ⟨h1, h2, hf, hmk, .inr (.inl ⟨rfl, rfl, rfl⟩)⟩
    exact ⟨1, r, f, cs, ⟨0, 0, 0, 0, oB0 _ _ _, oB0 _ _ _, ordLoad hc 0 (by decide) (by decide), by rw [doG4_load]; exact hf, doC4_load⟩, hc, (hA.jb hc).ok hff c0 c3, .inl ⟨by rw [oB1]; rfl, 2, by decide, by decide, hA⟩⟩
  · have ha : lRow 9 (r.getD 0 0) 4 = 9 + c := by rw [h2, lRow, if_pos ⟨c0, by omega⟩]
    have hn : (9 + c).toNat = 9 + c.toNat := by omega
    have hsc : ∀ i, scC (cs.set (9 + c.toNat) (f + 1)) i = if i = c.toNat then f + 1 else scC cs i := fun i => by
      unfold scC
      rw [getD_set _ _ _ _ _ (by omega)]
      by_cases e : i = c.toNat
      · rw [if_pos (by omega), if_pos e]
      · rw [if_neg (by omega), if_neg e]
    have hm' : mkC (cs.set (9 + c.toNat) (f + 1)) = mkC cs := by unfold mkC; rw [getD_set_ne' (by omega)]
    have hf' : frC (cs.set (9 + c.toNat) (f + 1)) = frC cs := by unfold frC; rw [getD_set_ne' (by omega)]
    have hoc : OC (cs.set (9 + c.toNat) (f + 1)) := ⟨by rw [List.length_set]; exact hl, cellsOK_set hc.ok (by omega), by rw [hm', hf']; exact hr, by rw [hf']; exact hff, fun i hi => by
      rw [hsc, hf']
      split
      · omega
      · exact hc.sb i hi⟩
    have hA : AB (cs.set (9 + c.toNat) (f + 1)) f c 1 2 (r.set 1 f) [0] := ⟨by rw [List.length_set]; exact h1, by rw [getD_set_ne' (by decide)]; exact h2, by rw [hf']; exact hf, by rw [hm']; exact hmk, .inr (.inr ⟨rfl, rfl, rfl, getD_set_eq (by omega), by rw [hsc, if_pos rfl]⟩)⟩
    exact ⟨2, r.set 1 f, 0, cs.set (9 + c.toNat) (f + 1), ⟨1, 9 + c, 0, f + 1, by rw [oB1, ha], by rw [oB1, ha], ⟨.inr (.inl ⟨rfl, rfl⟩), by omega, by omega, by decide, by decide, by omega, by omega⟩, doG4_store, by rw [doC4_store, hn]⟩, hoc, (hA.jb hoc).ok hoc.fr c0 c3, .inl ⟨by rw [oB2]; rfl, 1, by decide, by decide, hA⟩⟩
  · have hJ : JB cs [] c 3 r [f] := ⟨h1, h2, opB_nil _, .inr ⟨f, rfl, by omega, by omega, .inr ⟨by omega, by omega, by omega, .inr rfl⟩⟩⟩
    refine ⟨3, r, f, cs, ⟨0, 3, 0, 0, oB2 _ _ _, oB2 _ _ _, ordLoad hc 3 (by decide) (by decide), by rw [doG4_load]; exact hmk, doC4_load⟩, hc, hJ.ok hff c0 c3, .inr ⟨?_, hmk, hf, e2⟩⟩
    rw [oB3, e1, if_neg (by omega)]
theorem AB.path {f c : Int} {now sure : List Sector} (hd : diskOK now sure = true) (hg1 : goodL now = true) (hg2 : goodL sure = true) (c0 : 0 ≤ c) (c3 : c ≤ 3) : ∀ (m : Nat) (s : OS) (k : Int) (r got : List Int), 1 ≤ m →
    AB s.cs f c m k r got → OC s.cs → tkC s.ts c = mkO c 92 k r got → tkC s.us c = mkO c 92 k r got → OLen s → OPath 1 f c now sure m s := by
  intro m
  induction m using Nat.strongRecOn with
  | ind m ih =>
    intro s k r got hm hA hc ht hu hl
    obtain ⟨n, r', x, cs', ⟨kd, a, b, v, h1, h2, h3, h4, h5⟩, hc', hJ, hE⟩ := hA.step hc c0 c3
    have ok1 := (hA.jb hc).ok hc.fr c0 c3
    subst h4
    subst h5
    have S := StO.of ht hu h1 h2 h3 hc.ok (ok1 false) (ok1 true) (hJ false) (hJ true) (by
      have : ∀ own, goO own [⟨92, n, r'⟩] [doG4 s.cs kd a b] = oBeg n r' [doG4 s.cs kd a b] (doG4 s.cs kd a b) := fun own => rfl
      rw [this, this]; exact ⟨rfl, rfl, rfl, rfl, rfl, rfl, rfl⟩)
    obtain ⟨s1, s2, s3⟩ := S.step hl c0 c3
    obtain ⟨j, rfl⟩ : ∃ j, m = j + 1 := ⟨m - 1, by omega⟩
    rcases hE with ⟨e1, m', e2, e3, e4⟩ | ⟨e1, e2, e3, e4⟩
    · refine .go hl (S.ok now sure hd hg1 hg2) (by rw [S.e]; exact e1) ?_
      exact (ih m' (by omega) (stepO s c) n r' _ e3 (by rw [s1]; exact e4) (by rw [s1]; exact hc') s2 s3 hl.step).mono (by omega)
    · refine .stop hl (S.ok now sure hd hg1 hg2) (by rw [S.e, e1]; rfl) ⟨by rw [s1]; exact hc', by rw [s1]; exact e3, by rw [s1]; exact e2, fun h => absurd h (by decide), fun _ => ⟨by rw [S.e, e1]; rfl, by rw [s1]; exact e4⟩⟩
open Go.Proofs
structure alP_St where
  c : Bool
  l : List Pick
  i : Nat
  now : List Sector
  sure : List Sector
  cs : List Int
  ts : List Task
  us : List Task
  busy : List Bool
  kind : List Int
  opn : List Bool
  start : List Int
def alP_c (c : Bool) (l : List Pick) (i : Nat) (now : List Sector) (sure : List Sector) (cs : List Int) (ts : List Task) (us : List Task) (busy : List Bool) (kind : List Int) (opn : List Bool) (start : List Int) : Env RC := [(5, .ptr 0 []), (29, .sl (C := RC) .pick c l), (30, .int .i64 (l.length)), (31, .int .i64 (i : Int))]
def alP_o (c : Bool) (l : List Pick) (i : Nat) (now : List Sector) (sure : List Sector) (cs : List Int) (ts : List Task) (us : List Task) (busy : List Bool) (kind : List Int) (opn : List Bool) (start : List Int) : List (Obj RC) := [.var 30 (.acons (.ptr 1 []) (.acons (.arr (C := RC) .int 4 kind) (.acons (.arr (C := RC) .bool 4 opn) (.acons (.arr (C := RC) .int 4 start) .anil)))), .var 46 (.acons (.acons (.sl (C := RC) .int false cs) (.acons (.acons (.sl (C := RC) .sector false now) (.acons (.sl (C := RC) .sector false sure) .anil)) .anil)) (.acons (.arr (C := RC) .task 4 ts) (.acons (.arr (C := RC) .task 4 us) (.acons (.arr (C := RC) .bool 4 busy) .anil))))]
noncomputable def alP_r (c : Bool) (l : List Pick) (i : Nat) (now : List Sector) (sure : List Sector) (cs : List Int) (ts : List Task) (us : List Task) (busy : List Bool) (kind : List Int) (opn : List Bool) (start : List Int) := rndO s23 uk_8 5 5 60 2 [5, 29, 30, 31] [] [.slot 5 0, .path 0 [0]] (alP_c c l i now sure cs ts us busy kind opn start) (alP_o c l i now sure cs ts us busy kind opn start)
theorem alP_eq (c : Bool) (l : List Pick) (i : Nat) (now : List Sector) (sure : List Sector) (cs : List Int) (ts : List Task) (us : List Task) (busy : List Bool) (kind : List Int) (opn : List Bool) (start : List Int) : alP_r c l i now sure cs ts us busy kind opn start = (let Z0 : Int := (↑i : Int); let Z1 : Int := (↑l.length : Int); let Z2 : OS := OS.mk cs ts us busy kind opn start; let Z3 : Pick := List.getD l Z0.toNat (Pick.mk (0 : Int) (0 : Int)); let Z4 : OS := pickO Z2 (Pick.client Z3) (Pick.do_ Z3); let Z5 : D RC := .anil; let Z6 : D RC := D.acons (D.acons (D.sl RTy.sector false now) (.acons (D.sl RTy.sector false sure) Z5)) Z5; bif decide (Z0 < Z1) then bif decide ((0 : Int) ≤ Z0 ∧ Z0 < Z1) then bif cdec (OkPickO Z2 now sure (Pick.client Z3 % (4 : Int)) ∧ diskOK now sure = true ∧ goodL now = true ∧ goodL sure = true) then some ((X.normal, [(5, D.ptr 0 []), (29, D.sl RTy.pick c l), (30, D.int .i64 Z1), (31, D.int .i64 (IntKind.wrap .i64 (Z0 + (1 : Int))))]), [some (Obj.var 30 (.acons (D.ptr 1 []) (.acons (D.arr RTy.int (4 : Nat) (OS.kind Z4)) (.acons (D.arr RTy.bool (4 : Nat) (OS.opn Z4)) (.acons (D.arr RTy.int (4 : Nat) (OS.start Z4)) Z5))))), some (Obj.var 46 (.acons (D.acons (D.sl RTy.int false (OS.cs Z4)) Z6) (.acons (D.arr RTy.task (4 : Nat) (OS.ts Z4)) (.acons (D.arr RTy.task (4 : Nat) (OS.us Z4)) (.acons (D.arr RTy.bool (4 : Nat) (OS.busy Z4)) Z5)))))]) else none else none else some ((X.exit (0 : Nat), []), [some (Obj.var 30 (.acons (D.ptr 1 []) (.acons (D.arr RTy.int (4 : Nat) kind) (.acons (D.arr RTy.bool (4 : Nat) opn) (.acons (D.arr RTy.int (4 : Nat) start) Z5))))), some (Obj.var 46 (.acons (D.acons (D.sl RTy.int false cs) Z6) (.acons (D.arr RTy.task (4 : Nat) ts) (.acons (D.arr RTy.task (4 : Nat) us) (.acons (D.arr RTy.bool (4 : Nat) busy) Z5)))))])) := by kernel_rfl
noncomputable def alP_fin (c : Bool) (l : List Pick) (i : Nat) (now : List Sector) (sure : List Sector) (cs : List Int) (ts : List Task) (us : List Task) (busy : List Bool) (kind : List Int) (opn : List Bool) (start : List Int) : RT RC := .leaf (.exit 0) [] (alP_o c l i now sure (runO ((prs l).drop i) ⟨cs, ts, us, busy, kind, opn, start⟩).cs (runO ((prs l).drop i) ⟨cs, ts, us, busy, kind, opn, start⟩).ts (runO ((prs l).drop i) ⟨cs, ts, us, busy, kind, opn, start⟩).us (runO ((prs l).drop i) ⟨cs, ts, us, busy, kind, opn, start⟩).busy (runO ((prs l).drop i) ⟨cs, ts, us, busy, kind, opn, start⟩).kind (runO ((prs l).drop i) ⟨cs, ts, us, busy, kind, opn, start⟩).opn (runO ((prs l).drop i) ⟨cs, ts, us, busy, kind, opn, start⟩).start)
def alP_Inv (c : Bool) (l : List Pick) (i : Nat) (now : List Sector) (sure : List Sector) (cs : List Int) (ts : List Task) (us : List Task) (busy : List Bool) (kind : List Int) (opn : List Bool) (start : List Int) : Prop := i ≤ l.length ∧ l.length ≤ 400 ∧ (diskOK now sure = true ∧ goodL now = true ∧ goodL sure = true) ∧ ∃ most, OI ⟨cs, ts, us, busy, kind, opn, start⟩ most i
noncomputable def alP_S : LoopR RC alP_St where
  k := 2
  canon q := alP_c q.c q.l q.i q.now q.sure q.cs q.ts q.us q.busy q.kind q.opn q.start
  objs q := alP_o q.c q.l q.i q.now q.sure q.cs q.ts q.us q.busy q.kind q.opn q.start
  fin q := alP_fin q.c q.l q.i q.now q.sure q.cs q.ts q.us q.busy q.kind q.opn q.start
  Inv q := alP_Inv q.c q.l q.i q.now q.sure q.cs q.ts q.us q.busy q.kind q.opn q.start
  μ q := q.l.length - q.i
theorem alP_round (c : Bool) (l : List Pick) (i : Nat) (now : List Sector) (sure : List Sector) (cs : List Int) (ts : List Task) (us : List Task) (busy : List Bool) (kind : List Int) (opn : List Bool) (start : List Int) (hI : alP_Inv c l i now sure cs ts us busy kind opn start) : Leaf (alP_r c l i now sure cs ts us busy kind opn start) (LedR alP_S ⟨c, l, i, now, sure, cs, ts, us, busy, kind, opn, start⟩) := by
  (rw [alP_eq]; conv => zeta)
  unfold alP_Inv at hI
  obtain ⟨h1, h2, ⟨hd, hg1, hg2⟩, most, hI⟩ := hI
  by_cases hlt : i < l.length
  · have t_nat0 : ((i : Int)).toNat = i := by simp
    rw [t_nat0]
    have w_succ : IntKind.i64.wrap ((i : Int) + 1) = ((i + 1 : Nat) : Int) := by rw [wrap_id (by omega) (by omega)]; simp
    have d_lt : decide ((i : Int) < l.length) = true := by simp; omega
    have d_in : decide (0 ≤ (i : Int) ∧ (i : Int) < l.length) = true := by simp; omega
    have t_nat : ((i : Int)).toNat = i := by simp
    simp only [w_succ, d_lt, d_in, t_nat, cond_true]
    have hrun := runP_step hlt ⟨cs, ts, us, busy, kind, opn, start⟩
    have hfin : ∀ s, runO ((prs l).drop i) ⟨cs, ts, us, busy, kind, opn, start⟩ = s → alP_fin c l i now sure cs ts us busy kind opn start = .leaf (.exit 0) [] (alP_o c l i now sure s.cs s.ts s.us s.busy s.kind s.opn s.start) := fun s hs => by unfold alP_fin; rw [hs]
    have hfin := hfin _ hrun
    clear hrun
    generalize l.getD i (⟨0, 0⟩ : Pick) = x at hfin ⊢
    obtain ⟨most', hp⟩ := hI.pick (by omega) x.client x.do_
    have hok := hp.ok now sure hd hg1 hg2
    have hoi := hp.oi
    clear hp
    generalize pickO ⟨cs, ts, us, busy, kind, opn, start⟩ x.client x.do_ = P at *
    have hoc := hoi.oc
    have hl := hoc.len
    have k1 : cdec (OkPickO ⟨cs, ts, us, busy, kind, opn, start⟩ now sure (x.client % 4) ∧ diskOK now sure = true ∧ goodL now = true ∧ goodL sure = true) = true := cdec_true ⟨hok, hd, hg1, hg2⟩
    have k2 : lenOK P.cs.length = true := lenOK_of (by omega)
    have k3 : smallS (startsL P.cs) = true := starts_small hoc.ok
    have k4 : lenOK (startsL P.cs).length = true := lenOK_of (by unfold startsL; rw [if_pos hl, List.length_drop, List.length_take]; omega)
    have k5 : ∀ n : Int, (n != n) = false := fun n => ibneF rfl
    simp only [k1, k2, k3, k4, k5, decide_true, Bool.and_self, Bool.not_true, cond_true, cond_false]
    exact leafR_go (S := alP_S) (s := ⟨c, l, i, now, sure, cs, ts, us, busy, kind, opn, start⟩) ⟨c, l, i + 1, now, sure, P.cs, P.ts, P.us, P.busy, P.kind, P.opn, P.start⟩ ⟨hlt, h2, ⟨hd, hg1, hg2⟩, most', by rw [show (((i + 1 : Nat)) : Int) = (i : Int) + 1 by simp]; exact hoi⟩ (by simp only [alP_S]; omega) (by show (alP_fin c l (i + 1) now sure P.cs P.ts P.us P.busy P.kind P.opn P.start).val = (alP_fin c l i now sure cs ts us busy kind opn start).val; rw [hfin]; rfl) rfl rfl
  · have hi : i = l.length := by omega
    have c1 : decide ((i : Int) < l.length) = false := by simp; omega
    rw [c1]
    exact leafR_exit (alP_o c l i now sure cs ts us busy kind opn start) (by show (alP_fin c l i now sure cs ts us busy kind opn start).val = _; unfold alP_fin; rw [hi, ← prs_len, List.drop_length]; rfl) rfl
noncomputable def alP_d (env : Env RC) (os : List (Obj RC)) : Option (Bool × alP_St) := match env, os with
  | [(5, .ptr 0 []), (29, .sl .pick c l), (30, .int .i64 x0), (31, .int .i64 x1)], [.var 30 (.acons (.ptr 1 []) (.acons (.arr .int 4 kind) (.acons (.arr .bool 4 opn) (.acons (.arr .int 4 start) .anil)))), .var 46 (.acons (.acons (.sl .int false cs) (.acons (.acons (.sl .sector false now) (.acons (.sl .sector false sure) .anil)) .anil)) (.acons (.arr .task 4 ts) (.acons (.arr .task 4 us) (.acons (.arr .bool 4 busy) .anil))))] => staticD (true) (decide (x0 = l.length) && decide (x1 = 0) && cdec (l.length ≤ 400 ∧ (diskOK now sure = true ∧ goodL now = true ∧ goodL sure = true) ∧ ∃ most, OI ⟨cs, ts, us, busy, kind, opn, start⟩ most 0), ⟨c, l, 0, now, sure, cs, ts, us, busy, kind, opn, start⟩)
  | _, _ => none
noncomputable def ul_1 := uk_8.addLoop 5 5 (sumR s23 [.slot 5 0, .path 0 [0]] [5, 29, 30, 31] alP_S alP_d)
theorem ul_1_laws : FLaws Tryz.prog s23 ul_1 := by
  refine uk_8_laws.addRoundsR s23_laws (by kernel_rfl) alP_S 60 [5, 29, 30, 31] [] [.slot 5 0, .path 0 [0]] [5, 29, 30, 31] alP_d (fun q hI => ?_) ?_
  · obtain ⟨c, l, i, now, sure, cs, ts, us, busy, kind, opn, start⟩ := q
    refine ⟨?_, ?_, alP_round c l i now sure cs ts us busy kind opn start hI⟩
    · simp_all [RefsOK, alP_S, alP_c, alP_o, alP_Inv, D.refs, Obj.refs, rEnc]
    · simp_all [alP_S, alP_fin, alP_o, alP_Inv, RT.refsOK, RefsOK, D.refs, Obj.refs, rEnc]
  · intro env os b q hd_ hb
    unfold alP_d at hd_
    split at hd_
    · obtain ⟨hs, hd_⟩ := staticD_some hd_
      cases hd_
      simp only [Bool.and_eq_true, decide_eq_true_eq] at hb
      obtain ⟨⟨e2, e3⟩, e4⟩ := hb
      obtain ⟨e5, e6, e7⟩ := cdec_iff.1 e4
      subst e2
      subst e3
      exact ⟨⟨Nat.zero_le _, e5, e6, e7⟩, rfl, rfl⟩
    · cases hd_
def alF (c : Int) (e : Bool) (n : Nat) (s : OS) : OS := bif e then s else alO c (8 - n) s
theorem startsL_eq {cs : List Int} (h : cs.length = 771) : startsL cs = stL cs := (if_pos h).trans (starts_eq h)
structure alI_St where
  c : Int
  k : Int
  most : Int
  f : Int
  e : Bool
  n : Nat
  now : List Sector
  sure : List Sector
  cs : List Int
  ts : List Task
  us : List Task
  busy : List Bool
  kind : List Int
  opn : List Bool
  start : List Int
def alI_c (c : Int) (k : Int) (most : Int) (f : Int) (e : Bool) (n : Nat) (now : List Sector) (sure : List Sector) (cs : List Int) (ts : List Task) (us : List Task) (busy : List Bool) (kind : List Int) (opn : List Bool) (start : List Int) : Env RC := [(5, .ptr 0 []), (12, .int .i64 c), (13, .int .i64 k), (14, .int .i64 most), (15, .int .i64 f), (16, .bool e), (17, .int .i64 (n : Int))]
def alI_o (c : Int) (k : Int) (most : Int) (f : Int) (e : Bool) (n : Nat) (now : List Sector) (sure : List Sector) (cs : List Int) (ts : List Task) (us : List Task) (busy : List Bool) (kind : List Int) (opn : List Bool) (start : List Int) : List (Obj RC) := [.var 30 (.acons (.ptr 1 []) (.acons (.arr (C := RC) .int 4 kind) (.acons (.arr (C := RC) .bool 4 opn) (.acons (.arr (C := RC) .int 4 start) .anil)))), .var 46 (.acons (.acons (.sl (C := RC) .int false cs) (.acons (.acons (.sl (C := RC) .sector false now) (.acons (.sl (C := RC) .sector false sure) .anil)) .anil)) (.acons (.arr (C := RC) .task 4 ts) (.acons (.arr (C := RC) .task 4 us) (.acons (.arr (C := RC) .bool 4 busy) .anil))))]
noncomputable def alI_r (c : Int) (k : Int) (most : Int) (f : Int) (e : Bool) (n : Nat) (now : List Sector) (sure : List Sector) (cs : List Int) (ts : List Task) (us : List Task) (busy : List Bool) (kind : List Int) (opn : List Bool) (start : List Int) := rndO s23 ul_1 5 20 60 2 [5, 12, 13, 14, 15, 16, 17] [16] [.slot 5 0, .path 0 [0]] (alI_c c k most f e n now sure cs ts us busy kind opn start) (alI_o c k most f e n now sure cs ts us busy kind opn start)
theorem alI_eq (c : Int) (k : Int) (most : Int) (f : Int) (e : Bool) (n : Nat) (now : List Sector) (sure : List Sector) (cs : List Int) (ts : List Task) (us : List Task) (busy : List Bool) (kind : List Int) (opn : List Bool) (start : List Int) : alI_r c k most f e n now sure cs ts us busy kind opn start = (let Z0 : Task := tkC ts c; let Z1 : Bool := GoR4.is (oE cs Z0); let Z2 : D RC := .anil; let Z3 : Option (Obj RC) := some (Obj.var 30 (.acons (D.ptr 1 []) (.acons (D.arr RTy.int (4 : Nat) kind) (.acons (D.arr RTy.bool (4 : Nat) opn) (.acons (D.arr RTy.int (4 : Nat) start) Z2))))); let Z4 : List Int := oCs cs Z0; let Z5 : D RC := D.acons (D.acons (D.sl RTy.sector false now) (.acons (D.sl RTy.sector false sure) Z2)) Z2; let Z6 : Nat := Int.toNat c; let Z7 : List (Option (Obj RC)) := [Z3, some (Obj.var 46 (.acons (D.acons (D.sl RTy.int false Z4) Z5) (.acons (D.arr RTy.task (4 : Nat) (List.set ts Z6 (oT cs Z0))) (.acons (D.arr RTy.task (4 : Nat) (List.set us Z6 (oU cs Z0 (tkC us c)))) (.acons (D.arr RTy.bool (4 : Nat) (bif Z1 then busy else List.set busy Z6 false)) Z2)))))]; let Z8 : RO_ := some ((X.normal, [(5, D.ptr 0 []), (12, D.int .i64 c), (13, D.int .i64 k), (14, D.int .i64 most), (15, D.int .i64 f), (16, D.bool !Z1), (17, D.int .i64 (IntKind.wrap .i64 ((↑n : Int) + (1 : Int))))]), Z7); let Z9 : List Int := bif Z1 then [] else GoR4.got (oE cs Z0); let Z10 : Int := (↑Z9.length : Int); let Z11 : RO_ := some ((X.ret, [(16, D.bool !Z1)]), Z7); let Z12 : Bool := decide ((0 : Int) ≤ (0 : Int) ∧ (0 : Int) < Z10); let Z13 : Int := List.getD Z9 (0 : Nat) (0 : Int); let Z14 : Int := (↑Z4.length : Int); let Z15 : Int := lRow (9 : Int) c (4 : Int); let Z16 : RO_ := bif k == (1 : Int) then bif decide ((0 : Int) ≤ Z15 ∧ Z15 < Z14) then bif List.getD Z4 Z15.toNat (0 : Int) != IntKind.wrap .i64 (f + (1 : Int)) then Z11 else Z8 else none else Z8; let Z17 : RO_ := bif k == (0 : Int) then bif decide ((0 : Int) ≤ (3 : Int) ∧ (3 : Int) < Z14) then bif List.getD Z4 (3 : Nat) (0 : Int) != f then Z11 else Z16 else none else Z16; let Z18 : RO_ := some ((X.exit (4 : Nat), [(16, D.bool e)]), [Z3, some (Obj.var 46 (.acons (D.acons (D.sl RTy.int false cs) Z5) (.acons (D.arr RTy.task (4 : Nat) ts) (.acons (D.arr RTy.task (4 : Nat) us) (.acons (D.arr RTy.bool (4 : Nat) busy) Z2)))))]); bif decide ((↑n : Int) < most) then bif !e then bif cdec ((0 : Int) ≤ c ∧ c ≤ (3 : Int) ∧ List.length ts = (4 : Nat) ∧ List.length us = (4 : Nat) ∧ OkStepO c cs Z0 (tkC us c) now sure) then bif !!Z1 then Z8 else bif k == (0 : Int) then bif lenOK Z4.length then bif lenOK (startsL Z4).length && smallS (startsL Z4) then bif lenOK Z9.length then bif Z10 != (1 : Int) then Z11 else bif Z12 then bif Z13 != flo f (startsL Z4) then Z11 else Z17 else none else none else none else none else bif lenOK Z9.length then bif Z10 != (1 : Int) then Z11 else bif Z12 then bif Z13 != f then Z11 else Z17 else none else none else none else Z18 else Z18) := by kernel_rfl
noncomputable def alI_fin (c : Int) (k : Int) (most : Int) (f : Int) (e : Bool) (n : Nat) (now : List Sector) (sure : List Sector) (cs : List Int) (ts : List Task) (us : List Task) (busy : List Bool) (kind : List Int) (opn : List Bool) (start : List Int) : RT RC := .leaf (.exit 4) [(16, .bool true)] (alI_o c k most f e n now sure (alF c e n ⟨cs, ts, us, busy, kind, opn, start⟩).cs (alF c e n ⟨cs, ts, us, busy, kind, opn, start⟩).ts (alF c e n ⟨cs, ts, us, busy, kind, opn, start⟩).us (alF c e n ⟨cs, ts, us, busy, kind, opn, start⟩).busy (alF c e n ⟨cs, ts, us, busy, kind, opn, start⟩).kind (alF c e n ⟨cs, ts, us, busy, kind, opn, start⟩).opn (alF c e n ⟨cs, ts, us, busy, kind, opn, start⟩).start)
def alI_Inv (c : Int) (k : Int) (most : Int) (f : Int) (e : Bool) (n : Nat) (now : List Sector) (sure : List Sector) (cs : List Int) (ts : List Task) (us : List Task) (busy : List Bool) (kind : List Int) (opn : List Bool) (start : List Int) : Prop := (0 ≤ c ∧ c ≤ 3 ∧ -10 ≤ f ∧ f ≤ 1000000 ∧ (k = 0 ∨ k = 1) ∧ most ≤ 8) ∧ (e = true ∧ (n : Int) ≤ most ∨ e = false ∧ ∃ m : Nat, (n : Int) + m ≤ most ∧ OPath k f c now sure m ⟨cs, ts, us, busy, kind, opn, start⟩)
noncomputable def alI_S : LoopR RC alI_St where
  k := 2
  canon q := alI_c q.c q.k q.most q.f q.e q.n q.now q.sure q.cs q.ts q.us q.busy q.kind q.opn q.start
  objs q := alI_o q.c q.k q.most q.f q.e q.n q.now q.sure q.cs q.ts q.us q.busy q.kind q.opn q.start
  fin q := alI_fin q.c q.k q.most q.f q.e q.n q.now q.sure q.cs q.ts q.us q.busy q.kind q.opn q.start
  Inv q := alI_Inv q.c q.k q.most q.f q.e q.n q.now q.sure q.cs q.ts q.us q.busy q.kind q.opn q.start
  μ q := 20 - q.n
theorem alI_round (c : Int) (k : Int) (most : Int) (f : Int) (e : Bool) (n : Nat) (now : List Sector) (sure : List Sector) (cs : List Int) (ts : List Task) (us : List Task) (busy : List Bool) (kind : List Int) (opn : List Bool) (start : List Int) (hI : alI_Inv c k most f e n now sure cs ts us busy kind opn start) : Leaf (alI_r c k most f e n now sure cs ts us busy kind opn start) (LedR alI_S ⟨c, k, most, f, e, n, now, sure, cs, ts, us, busy, kind, opn, start⟩) := by
  (rw [alI_eq]; conv => zeta)
  unfold alI_Inv at hI
  obtain ⟨⟨c0, c3, f0, f1, hk, hm8⟩, hI⟩ := hI
  have hfin : ∀ s : OS, alF c e n ⟨cs, ts, us, busy, kind, opn, start⟩ = s → alI_fin c k most f e n now sure cs ts us busy kind opn start = .leaf (.exit 4) [(16, .bool true)] (alI_o c k most f e n now sure s.cs s.ts s.us s.busy s.kind s.opn s.start) := fun s hs => by unfold alI_fin; rw [hs]
  rcases hI with ⟨rfl, hn⟩ | ⟨rfl, m, hm, hP⟩
  · have hfin := hfin _ rfl
    have hx := leafR_exit (S := alI_S) (s := ⟨c, k, most, f, true, n, now, sure, cs, ts, us, busy, kind, opn, start⟩) (i := 4) (env := [(16, .bool true)]) (alI_o c k most f true n now sure cs ts us busy kind opn start) (by show (alI_fin c k most f true n now sure cs ts us busy kind opn start).val = _; rw [hfin]; rfl) rfl
    by_cases hlt : (n : Int) < most
    · exact leafT (decide_eq_true hlt) (leafN rfl hx)
    · exact leafN (decide_eq_false hlt) hx
  · have hm1 : 1 ≤ m := by
      cases hP <;> omega
    have v1 : IntKind.i64.wrap ((n : Int) + 1) = ((n + 1 : Nat) : Int) := by rw [wrap_id (by omega) (by omega)]; simp
    have hal : alO c (8 - n) ⟨cs, ts, us, busy, kind, opn, start⟩ = if (oE cs (tkC ts c)).is = true then alO c (8 - (n + 1)) (stepO ⟨cs, ts, us, busy, kind, opn, start⟩ c) else stepO ⟨cs, ts, us, busy, kind, opn, start⟩ c := by
      rw [show 8 - n = (8 - (n + 1)) + 1 by omega, alO]; rfl
    have hstep : stepO ⟨cs, ts, us, busy, kind, opn, start⟩ c = ⟨oCs cs (tkC ts c), ts.set c.toNat (oT cs (tkC ts c)), us.set c.toNat (oU cs (tkC ts c) (tkC us c)), bif (oE cs (tkC ts c)).is then busy else busy.set c.toNat false, kind, opn, start⟩ := rfl
    refine leafT (decide_eq_true (by omega)) (leafT rfl ?_)
    rw [v1]
    cases hP with
    | @go m' _ hl ok hi hN =>
      have hi : (oE cs (tkC ts c)).is = true := hi
      have k1 : cdec (0 ≤ c ∧ c ≤ 3 ∧ List.length ts = 4 ∧ List.length us = 4 ∧ OkStepO c cs (tkC ts c) (tkC us c) now sure) = true := cdec_true ⟨c0, c3, hl.lt, hl.lu, ok⟩
      rw [if_pos hi, hstep, hi] at hal
      rw [hstep, hi] at hN
      have hfin := hfin _ hal
      simp only [k1, hi, Bool.not_true, Bool.not_false, cond_true, cond_false] at hal hfin hN ⊢
      exact leafR_go (S := alI_S) (s := ⟨c, k, most, f, false, n, now, sure, cs, ts, us, busy, kind, opn, start⟩) ⟨c, k, most, f, false, n + 1, now, sure, oCs cs (tkC ts c), ts.set c.toNat (oT cs (tkC ts c)), us.set c.toNat (oU cs (tkC ts c) (tkC us c)), busy, kind, opn, start⟩ ⟨⟨c0, c3, f0, f1, hk, hm8⟩, .inr ⟨rfl, m', by show ((n + 1 : Nat) : Int) + m' ≤ most; omega, hN⟩⟩ (by simp only [alI_S]; omega) (by show (alI_fin c k most f false (n + 1) now sure (oCs cs (tkC ts c)) (ts.set c.toNat (oT cs (tkC ts c))) (us.set c.toNat (oU cs (tkC ts c) (tkC us c))) busy kind opn start).val = (alI_fin c k most f false n now sure cs ts us busy kind opn start).val; rw [hfin]; rfl) rfl rfl
    | @stop m' _ hl ok hi hg =>
      have hi : (oE cs (tkC ts c)).is = false := hi
      have k1 : cdec (0 ≤ c ∧ c ≤ 3 ∧ List.length ts = 4 ∧ List.length us = 4 ∧ OkStepO c cs (tkC ts c) (tkC us c) now sure) = true := cdec_true ⟨c0, c3, hl.lt, hl.lu, ok⟩
      rw [if_neg (by rw [hi]; simp), hstep, hi] at hal
      have hfin := hfin _ hal
      have hoc : OC (oCs cs (tkC ts c)) := hg.oc
      have hlen := hoc.len
      have hmr : (oCs cs (tkC ts c)).getD 3 0 = f := hg.mr
      have hg0 : k = 0 → (oE cs (tkC ts c)).got = [flo f (stL (oCs cs (tkC ts c)))] := hg.g0
      have hg1 : k = 1 → (oE cs (tkC ts c)).got = [f] ∧ scC (oCs cs (tkC ts c)) c.toNat = f + 1 := hg.g1
      have hgo := leafR_go (S := alI_S) (s := ⟨c, k, most, f, false, n, now, sure, cs, ts, us, busy, kind, opn, start⟩) ⟨c, k, most, f, true, n + 1, now, sure, oCs cs (tkC ts c), ts.set c.toNat (oT cs (tkC ts c)), us.set c.toNat (oU cs (tkC ts c) (tkC us c)), busy.set c.toNat false, kind, opn, start⟩ ⟨⟨c0, c3, f0, f1, hk, hm8⟩, .inl ⟨rfl, by show ((n + 1 : Nat) : Int) ≤ most; omega⟩⟩ (by simp only [alI_S]; omega) (by show (alI_fin c k most f true (n + 1) now sure (oCs cs (tkC ts c)) (ts.set c.toNat (oT cs (tkC ts c))) (us.set c.toNat (oU cs (tkC ts c) (tkC us c))) (busy.set c.toNat false) kind opn start).val = (alI_fin c k most f false n now sure cs ts us busy kind opn start).val; rw [hfin]; rfl) rfl rfl
      clear hfin hal hg ok
      have hL : lRow 9 c 4 = 9 + c := by rw [lRow, if_pos ⟨c0, by omega⟩]
      have hsm := starts_small hoc.ok
      have hSL := startsL_eq hlen
      rw [hSL] at hsm
      generalize oE cs (tkC ts c) = E at *
      generalize oCs cs (tkC ts c) = CS at *
      have b1 : lenOK CS.length = true := lenOK_of (by omega)
      have b2 : (lenOK (stL CS).length && smallS (stL CS)) = true := by rw [hsm]; rfl
      have b4 : decide ((0 : Int) ≤ 3 ∧ (3 : Int) < (CS.length : Int)) = true := decide_eq_true ⟨by decide, by omega⟩
      rw [hi]
      refine leafT k1 (leafN rfl ?_)
      rcases hk with rfl | rfl
      · have hg0 := hg0 rfl
        rw [hg0, hSL]
        exact leafT rfl (leafT b1 (leafT b2 (leafT rfl (leafN rfl (leafT rfl (leafN (ibneF rfl) (leafT rfl (leafT b4 (leafN (ibneF hmr) (leafN rfl hgo))))))))))
      · obtain ⟨hg1, hsc⟩ := hg1 rfl
        rw [hg1, hL]
        have v2 : IntKind.i64.wrap (f + 1) = f + 1 := wrap_id (by omega) (by omega)
        have hn9 : (9 + c).toNat = 9 + c.toNat := by omega
        have b5 : decide ((0 : Int) ≤ 9 + c ∧ 9 + c < (CS.length : Int)) = true := decide_eq_true ⟨by omega, by omega⟩
        exact leafN rfl (leafT rfl (leafN rfl (leafT rfl (leafN (ibneF rfl) (leafN rfl (leafT rfl (leafT b5 (leafN (ibneF (by rw [v2, hn9]; exact hsc)) hgo))))))))
noncomputable def alI_d (env : Env RC) (os : List (Obj RC)) : Option (Bool × alI_St) := match env, os with
  | [(5, .ptr 0 []), (12, .int .i64 c), (13, .int .i64 k), (14, .int .i64 most), (15, .int .i64 f), (16, .bool e), (17, .int .i64 x0)], [.var 30 (.acons (.ptr 1 []) (.acons (.arr .int 4 kind) (.acons (.arr .bool 4 opn) (.acons (.arr .int 4 start) .anil)))), .var 46 (.acons (.acons (.sl .int false cs) (.acons (.acons (.sl .sector false now) (.acons (.sl .sector false sure) .anil)) .anil)) (.acons (.arr .task 4 ts) (.acons (.arr .task 4 us) (.acons (.arr .bool 4 busy) .anil))))] => staticD (true) (decide (x0 = 0) && cdec ((0 ≤ c ∧ c ≤ 3 ∧ -10 ≤ f ∧ f ≤ 1000000 ∧ (k = 0 ∨ k = 1) ∧ most ≤ 8) ∧ e = false ∧ ∃ m : Nat, (m : Int) ≤ most ∧ OPath k f c now sure m ⟨cs, ts, us, busy, kind, opn, start⟩), ⟨c, k, most, f, e, 0, now, sure, cs, ts, us, busy, kind, opn, start⟩)
  | _, _ => none
noncomputable def ul_2 := ul_1.addLoop 5 20 (sumR s23 [.slot 5 0, .path 0 [0]] [5, 12, 13, 14, 15, 16, 17] alI_S alI_d)
theorem ul_2_laws : FLaws Tryz.prog s23 ul_2 := by
  refine ul_1_laws.addRoundsR s23_laws (by kernel_rfl) alI_S 60 [5, 12, 13, 14, 15, 16, 17] [16] [.slot 5 0, .path 0 [0]] [5, 12, 13, 14, 15, 16, 17] alI_d (fun q hI => ?_) ?_
  · obtain ⟨c, k, most, f, e, n, now, sure, cs, ts, us, busy, kind, opn, start⟩ := q
    refine ⟨?_, ?_, alI_round c k most f e n now sure cs ts us busy kind opn start hI⟩
    · simp_all [RefsOK, alI_S, alI_c, alI_o, alI_Inv, D.refs, Obj.refs, rEnc]
    · simp_all [alI_S, alI_fin, alI_o, alI_Inv, RT.refsOK, RefsOK, D.refs, Obj.refs, rEnc]
  · intro env os b q hd_ hb
    unfold alI_d at hd_
    split at hd_
    · obtain ⟨hs, hd_⟩ := staticD_some hd_
      cases hd_
      simp only [Bool.and_eq_true, decide_eq_true_eq] at hb
      obtain ⟨e0, e1⟩ := hb
      obtain ⟨e2, e3, m, e4, e5⟩ := cdec_iff.1 e1
      subst e0
      exact ⟨⟨e2, .inr ⟨e3, m, by rw [show (((0 : Nat) : Int) + (m : Int)) = m by omega]; exact e4, e5⟩⟩, rfl, rfl⟩
    · cases hd_
noncomputable def alone23_e (d : Bool) (l : List Pick) (x : Int) := evF s23 ul_2 100 5 [.sl (C := RC) .pick d l, .int .i64 x]
theorem alone23_eq (d : Bool) (l : List Pick) (x : Int) : alone23_e d l x = (let Z0 : Nat := List.length l; let Z1 : Int := (↑Z0 : Int); let Z2 : DO_ := some (D.bool true); let Z3 : List Task := List.replicate (4 : Nat) (rDflt RTy.task); let Z4 : List Bool := List.replicate (4 : Nat) false; let Z5 : List Int := List.replicate (4 : Nat) (0 : Int); let Z6 : OS := OS.mk newCells Z3 Z3 Z4 Z5 Z4 Z5; let Z7 : Int := Int.tmod (IntKind.wrap .i64 (Int.tmod x (4 : Int) + (4 : Int))) (4 : Int); let Z8 : Bool := decide ((0 : Int) ≤ Z7 ∧ Z7 < (4 : Int)); let Z9 : OS := runO (List.drop (0 : Nat) (prs l)) Z6; let Z10 : Nat := Int.toNat Z7; let Z11 : List Bool := List.set (OS.busy Z9) Z10 false; let Z12 : Int := List.getD (OS.cs Z9) (0 : Nat) (0 : Int); let Z13 : OS := OS.mk (OS.cs Z9) (OS.ts Z9) (OS.us Z9) Z11 (OS.kind Z9) (OS.opn Z9) (OS.start Z9); let Z14 : OS := alF Z7 false (0 : Nat) Z13; let Z15 : Bool := decide ((0 : Int) ≤ Z7 ∧ Z7 ≤ (3 : Int) ∧ (0 : Int) ≤ (92 : Int)); let Z16 : List Bool := List.set (OS.busy Z14) Z10 false; let Z17 : Int := List.getD (OS.cs Z14) (0 : Nat) (0 : Int); let Z18 : DO_ := none; let Z19 : List Int := Z7 :: List.replicate (95 : Nat) (0 : Int); let Z20 : Task := Task.mk Z7 [Frame.mk (92 : Int) (0 : Int) Z19] [] false; let Z21 : Task := Task.mk Z7 [Frame.mk (93 : Int) (0 : Int) Z19] [] false; let Z22 : OS := OS.mk (OS.cs Z9) (List.set (OS.ts Z9) Z10 Z21) (List.set (OS.us Z9) Z10 Z21) (List.set Z11 Z10 true) (OS.kind Z9) (OS.opn Z9) (OS.start Z9); let Z23 : OS := alF Z7 false (0 : Nat) Z22; let Z24 : List Bool := List.set (OS.busy Z23) Z10 false; let Z25 : Int := List.getD (OS.cs Z23) (0 : Nat) (0 : Int); bif lenOK Z0 then bif decide ((400 : Int) < Z1) then Z2 else bif lenOK Z0 then bif decide (Z1 = Z1) && true && cdec (Z0 ≤ (400 : Nat) ∧ (true = true ∧ true = true ∧ true = true) ∧ ∃ (most : Int), OI Z6 most (0 : Int)) then bif Z8 then bif decide ((0 : Int) ≤ (0 : Int) ∧ (0 : Int) < (↑(OS.cs Z9).length : Int)) then bif decide ((0 : Int) ≤ Z7 ∧ Z7 ≤ (3 : Int) ∧ (0 : Int) ≤ (93 : Int)) then bif Z8 then bif List.getD Z11 Z10 false then bif cdec (((0 : Int) ≤ Z7 ∧ Z7 ≤ (3 : Int) ∧ (-10 : Int) ≤ Z12 ∧ Z12 ≤ (1000000 : Int) ∧ ((0 : Int) = (0 : Int) ∨ (0 : Int) = (1 : Int)) ∧ (7 : Int) ≤ (8 : Int)) ∧ false = false ∧ ∃ (m : Nat), (↑m : Int) ≤ (7 : Int) ∧ OPath (0 : Int) Z12 Z7 emptyDisk emptyDisk m Z13) then bif Z8 then bif decide ((0 : Int) ≤ (0 : Int) ∧ (0 : Int) < (↑(OS.cs Z14).length : Int)) then bif Z15 then bif Z8 then bif List.getD Z16 Z10 false then bif cdec (((0 : Int) ≤ Z7 ∧ Z7 ≤ (3 : Int) ∧ (-10 : Int) ≤ Z17 ∧ Z17 ≤ (1000000 : Int) ∧ ((1 : Int) = (0 : Int) ∨ (1 : Int) = (1 : Int)) ∧ (3 : Int) ≤ (8 : Int)) ∧ false = false ∧ ∃ (m : Nat), (↑m : Int) ≤ (3 : Int) ∧ OPath (1 : Int) Z17 Z7 emptyDisk emptyDisk m (OS.mk (OS.cs Z14) (OS.ts Z14) (OS.us Z14) Z16 (OS.kind Z14) (OS.opn Z14) (OS.start Z14))) then Z2 else Z18 else bif Z8 then bif Z8 then bif Z8 then bif cdec (((0 : Int) ≤ Z7 ∧ Z7 ≤ (3 : Int) ∧ (-10 : Int) ≤ Z17 ∧ Z17 ≤ (1000000 : Int) ∧ ((1 : Int) = (0 : Int) ∨ (1 : Int) = (1 : Int)) ∧ (3 : Int) ≤ (8 : Int)) ∧ false = false ∧ ∃ (m : Nat), (↑m : Int) ≤ (3 : Int) ∧ OPath (1 : Int) Z17 Z7 emptyDisk emptyDisk m (OS.mk (OS.cs Z14) (List.set (OS.ts Z14) Z10 Z20) (List.set (OS.us Z14) Z10 Z20) (List.set Z16 Z10 true) (OS.kind Z14) (OS.opn Z14) (OS.start Z14))) then Z2 else Z18 else Z18 else Z18 else Z18 else Z18 else Z18 else Z18 else Z18 else Z18 else bif Z8 then bif Z8 then bif Z8 then bif cdec (((0 : Int) ≤ Z7 ∧ Z7 ≤ (3 : Int) ∧ (-10 : Int) ≤ Z12 ∧ Z12 ≤ (1000000 : Int) ∧ ((0 : Int) = (0 : Int) ∨ (0 : Int) = (1 : Int)) ∧ (7 : Int) ≤ (8 : Int)) ∧ false = false ∧ ∃ (m : Nat), (↑m : Int) ≤ (7 : Int) ∧ OPath (0 : Int) Z12 Z7 emptyDisk emptyDisk m Z22) then bif Z8 then bif decide ((0 : Int) ≤ (0 : Int) ∧ (0 : Int) < (↑(OS.cs Z23).length : Int)) then bif Z15 then bif Z8 then bif List.getD Z24 Z10 false then bif cdec (((0 : Int) ≤ Z7 ∧ Z7 ≤ (3 : Int) ∧ (-10 : Int) ≤ Z25 ∧ Z25 ≤ (1000000 : Int) ∧ ((1 : Int) = (0 : Int) ∨ (1 : Int) = (1 : Int)) ∧ (3 : Int) ≤ (8 : Int)) ∧ false = false ∧ ∃ (m : Nat), (↑m : Int) ≤ (3 : Int) ∧ OPath (1 : Int) Z25 Z7 emptyDisk emptyDisk m (OS.mk (OS.cs Z23) (OS.ts Z23) (OS.us Z23) Z24 (OS.kind Z23) (OS.opn Z23) (OS.start Z23))) then Z2 else Z18 else bif Z8 then bif Z8 then bif Z8 then bif cdec (((0 : Int) ≤ Z7 ∧ Z7 ≤ (3 : Int) ∧ (-10 : Int) ≤ Z25 ∧ Z25 ≤ (1000000 : Int) ∧ ((1 : Int) = (0 : Int) ∨ (1 : Int) = (1 : Int)) ∧ (3 : Int) ≤ (8 : Int)) ∧ false = false ∧ ∃ (m : Nat), (↑m : Int) ≤ (3 : Int) ∧ OPath (1 : Int) Z25 Z7 emptyDisk emptyDisk m (OS.mk (OS.cs Z23) (List.set (OS.ts Z23) Z10 Z20) (List.set (OS.us Z23) Z10 Z20) (List.set Z24 Z10 true) (OS.kind Z23) (OS.opn Z23) (OS.start Z23))) then Z2 else Z18 else Z18 else Z18 else Z18 else Z18 else Z18 else Z18 else Z18 else Z18 else Z18 else Z18 else Z18 else Z18 else Z18 else Z18 else Z18 else Z18 else Z18 else Z18) := by kernel_rfl
theorem alone23_ok (d : Bool) (l : List Pick) (x : Int) (h : (lenOK l.length) = true) : alone23_e d l x = some (.bool true) := by
  (rw [alone23_eq]; conv => zeta)
  have c0 : 0 ≤ x % 4 := Int.emod_nonneg _ (by decide)
  have c4 : x % 4 < 4 := Int.emod_lt_of_pos _ (by decide)
  have cF : ∀ {b : Bool} {y z w : Option (D RC)}, b = false → z = w → cond b y z = w := fun h e => by rw [h]; exact e
  have hg : (⟨newCells, List.replicate 4 (rDflt RTy.task), List.replicate 4 (rDflt RTy.task), List.replicate 4 false, List.replicate 4 0, List.replicate 4 false, List.replicate 4 0⟩ : OS) = os0 := rfl
  refine cond_of h ?_
  by_cases h4 : l.length ≤ 400
  · refine cF (decide_eq_false (by omega)) (cond_of h ?_)
    simp only [mod4, List.drop_zero]
    rw [hg]
    have k1 : cdec (l.length ≤ 400 ∧ (True ∧ True ∧ True) ∧ ∃ most : Int, OI os0 most 0) = true := cdec_true ⟨h4, ⟨trivial, trivial, trivial⟩, 0, OI.init⟩
    obtain ⟨most, hR⟩ := runO_OI (prs l) os0 0 0 (by rw [prs_len]; omega) OI.init
    generalize runO (prs l) os0 = R at *
    generalize x % 4 = c at *
    refine cond_of (by simp only [k1, decide_true, Bool.and_self]) ?_
    have hl := hR.oc.len
    have hfr := hR.oc.fr
    have hmr := hR.oc.mr
    have d1 : decide ((0 : Int) ≤ c ∧ c < 4) = true := decide_eq_true ⟨c0, c4⟩
    have hcn : c.toNat < 4 := by omega
    refine cond_of d1 (cond_of (decide_eq_true ⟨by decide, by omega⟩) (cond_of (decide_eq_true ⟨c0, by omega, by decide⟩) (cond_of d1 (cF (by rw [bset hR.lb hcn, if_pos rfl]) (cond_of d1 (cond_of d1 (cond_of d1 ?_)))))))
    have hL : OLen ⟨R.cs, R.ts.set c.toNat ⟨c, [⟨93, 0, c :: List.replicate 95 0⟩], [], false⟩, R.us.set c.toNat ⟨c, [⟨93, 0, c :: List.replicate 95 0⟩], [], false⟩, (R.busy.set c.toNat false).set c.toNat true, R.kind, R.opn, R.start⟩ := ⟨by simp [hR.lt], by simp [hR.lu], by simp [hR.lb]⟩
    have hP : OPath 0 (R.cs.getD 0 0) c emptyDisk emptyDisk 7 ⟨R.cs, R.ts.set c.toNat ⟨c, [⟨93, 0, c :: List.replicate 95 0⟩], [], false⟩, R.us.set c.toNat ⟨c, [⟨93, 0, c :: List.replicate 95 0⟩], [], false⟩, (R.busy.set c.toNat false).set c.toNat true, R.kind, R.opn, R.start⟩ :=
      AM.path (by kernel_rfl) (by kernel_rfl) (by kernel_rfl) c0 (by omega) 7 _ 0 (c :: List.replicate 95 0) (c :: List.replicate 95 0) [] (by decide) ⟨rfl, rfl, rfl, .inl ⟨rfl, rfl, rfl⟩⟩ hR.oc
        (by show tkC (R.ts.set c.toNat _) c = _; rw [tkC_set hR.lt c0 (by omega) c0, if_pos rfl]; rfl) (by show tkC (R.us.set c.toNat _) c = _; rw [tkC_set hR.lu c0 (by omega) c0, if_pos rfl]; rfl) hL
    refine cond_of (cdec_true ⟨⟨c0, by omega, by show -10 ≤ frC R.cs; omega, by show frC R.cs ≤ 1000000; omega, .inl trivial, by decide⟩, trivial, 7, by decide, hP⟩) ?_
    obtain ⟨s1, e1, hG, hL1⟩ := hP.final (n := 8) (by decide)
    have e2 : alF c false 0 ⟨R.cs, R.ts.set c.toNat ⟨c, [⟨93, 0, c :: List.replicate 95 0⟩], [], false⟩, R.us.set c.toNat ⟨c, [⟨93, 0, c :: List.replicate 95 0⟩], [], false⟩, (R.busy.set c.toNat false).set c.toNat true, R.kind, R.opn, R.start⟩ = stepO s1 c := e1
    rw [e2]
    have hG1 := hG.oc
    have hG2 := hG.fr
    have hG3 := hG.mr
    have hL2 := hL1.step (c := c)
    clear e2 e1 hP hG
    generalize stepO s1 c = R1 at *
    have hl1 := hG1.len
    have hfr1 := hG1.fr
    have hmr1 := hG1.mr
    refine cond_of d1 (cond_of (decide_eq_true ⟨by decide, by omega⟩) (cond_of (decide_eq_true ⟨c0, by omega, by decide⟩) (cond_of d1 (cF (by rw [bset hL2.lb hcn, if_pos rfl]) (cond_of d1 (cond_of d1 (cond_of d1 ?_)))))))
    have hL3 : OLen ⟨R1.cs, R1.ts.set c.toNat ⟨c, [⟨92, 0, c :: List.replicate 95 0⟩], [], false⟩, R1.us.set c.toNat ⟨c, [⟨92, 0, c :: List.replicate 95 0⟩], [], false⟩, (R1.busy.set c.toNat false).set c.toNat true, R1.kind, R1.opn, R1.start⟩ := ⟨by simp [hL2.lt], by simp [hL2.lu], by simp [hL2.lb]⟩
    have hP2 : OPath 1 (R1.cs.getD 0 0) c emptyDisk emptyDisk 3 ⟨R1.cs, R1.ts.set c.toNat ⟨c, [⟨92, 0, c :: List.replicate 95 0⟩], [], false⟩, R1.us.set c.toNat ⟨c, [⟨92, 0, c :: List.replicate 95 0⟩], [], false⟩, (R1.busy.set c.toNat false).set c.toNat true, R1.kind, R1.opn, R1.start⟩ :=
      AB.path (by kernel_rfl) (by kernel_rfl) (by kernel_rfl) c0 (by omega) 3 _ 0 (c :: List.replicate 95 0) [] (by decide) ⟨rfl, rfl, rfl, by show mkC R1.cs = frC R1.cs; omega, .inl ⟨rfl, rfl, rfl⟩⟩ hG1
        (by show tkC (R1.ts.set c.toNat _) c = _; rw [tkC_set hL2.lt c0 (by omega) c0, if_pos rfl]; rfl) (by show tkC (R1.us.set c.toNat _) c = _; rw [tkC_set hL2.lu c0 (by omega) c0, if_pos rfl]; rfl) hL3
    exact cond_of (cdec_true ⟨⟨c0, by omega, by show -10 ≤ frC R1.cs; omega, by show frC R1.cs ≤ 1000000; omega, .inr trivial, by decide⟩, trivial, 3, by decide, hP2⟩) rfl
  · rw [decide_eq_true (show (400 : Int) < (l.length : Int) by omega)]
    rfl
open Go.ChangeShapes Go.WideShapes Go.RowKit
section
variable {C : Cdc}
def good (gA : (t : C.Ty) → C.A t → Prop) : D C → Prop
  | .int k n => k.min ≤ n ∧ n ≤ k.max
  | .str s => s.length ≤ maxLen
  | .acons d ds => good gA d ∧ good gA ds
  | .arr t n l => l.length = n ∧ ∀ x ∈ l, gA t x
  | .sl t _ l => l.length ≤ maxLen ∧ ∀ x ∈ l, gA t x
  | _ => True
def plainT (T : Tab C) : Nat → TypeId → Bool
  | 0, _ => false
  | k + 1, t => match T.ty t with
    | .bool | .int _ | .str => true
    | .struct _ fs => fs.all (plainT T k)
    | .arr _ e _ => plainT T k e
    | .sl e _ => plainT T k e
    | _ => false
structure Dec (T : Tab C) (gA : (t : C.Ty) → C.A t → Prop) : Prop where
  dec : ∀ t d, fit T d (.inl (T.ety t)) = true → d.refs = [] → good gA d → (∃ k u, T.ty u = T.ty (T.ety t) ∧ plainT T k u = true) → ∃ x, T.dec t d = some x ∧ gA t x
variable {P : Program} {T : Tab C} {gA : (t : C.Ty) → C.A t → Prop}
def X0 (W : World) : Cx := ⟨W, fun _ => none, fun _ _ => False⟩
theorem X0_free (W : World) (b o : Nat) : (X0 W).free b o := ⟨fun h => h, fun ⟨_, _, h, _⟩ => by simp [X0] at h⟩
theorem arr_R {X : Cx} (t : C.Ty) (sz : Nat) : ∀ (n : Nat) (cs : List Value), cs.length = n * sz → (∀ i, i < n → ∃ x : C.A t, R T X false (T.enc t x) ((cs.drop (i * sz)).take sz) ∧ gA t x) →
    ∃ l : List (C.A t), R T X false (.arr t n l) cs ∧ l.length = n ∧ ∀ x ∈ l, gA t x
  | 0, cs, hl, _ => by
    obtain rfl : cs = [] := by simpa using hl
    exact ⟨[], .arr0 _, rfl, by simp⟩
  | n + 1, cs, hl, h => by
    obtain ⟨x, hx, gx⟩ := h 0 (by omega)
    obtain ⟨l, hr, hn, gl⟩ := arr_R t sz n (cs.drop sz) (by rw [List.length_drop, hl, Nat.succ_mul]; omega) fun i hi => by
      obtain ⟨y, hy, gy⟩ := h (i + 1) (by omega)
      refine ⟨y, ?_, gy⟩
      rw [List.drop_drop]
      rw [show sz + i * sz = (i + 1) * sz by rw [Nat.succ_mul]; omega]
      exact hy
    refine ⟨x :: l, ?_, by simp [hn], by simpa using ⟨gx, gl⟩⟩
    have := R.arrS hx hr
    simpa using this
theorem sl_R {W : World} (t : C.Ty) (b sz : Nat) : ∀ (n off : Nat), (∀ i, i < n → ∃ (x : C.A t) (ci : List Value), R T (X0 W) false (T.enc t x) ci ∧ ci.length = sz ∧ (∀ j, j < sz → W.cell? ⟨b, off + i * sz + j, none⟩ = ci[j]?) ∧ gA t x) →
    ∃ (l : List (C.A t)) (cs : List Value), R T (X0 W) false (.arr t n l) cs ∧ l.length = n ∧ (X0 W).at b off cs ∧ ∀ x ∈ l, gA t x
  | 0, off, _ => ⟨[], [], .arr0 _, rfl, fun j v h => by simp at h, by simp⟩
  | n + 1, off, h => by
    obtain ⟨x, ci, hx, hlen, hc, gx⟩ := h 0 (by omega)
    obtain ⟨l, cs, hr, hn, hat, gl⟩ := sl_R t b sz n (off + sz) fun i hi => by
      obtain ⟨y, c2, hy, h2, h3, gy⟩ := h (i + 1) (by omega)
      refine ⟨y, c2, hy, h2, fun j hj => ?_, gy⟩
      have := h3 j hj
      rwa [show off + (i + 1) * sz + j = off + sz + i * sz + j by rw [Nat.succ_mul]; omega] at this
    refine ⟨x :: l, ci ++ cs, .arrS hx hr, by simp [hn], fun j v hj => ⟨?_, X0_free _ _ _⟩, by simpa using ⟨gx, gl⟩⟩
    by_cases hlt : j < ci.length
    · rw [List.getElem?_append_left hlt] at hj
      have := hc j (by omega)
      simp only [Nat.zero_mul, Nat.add_zero] at this
      exact this.trans hj
    · rw [List.getElem?_append_right (by omega)] at hj
      have := (hat _ _ hj).1
      rwa [show off + sz + (j - ci.length) = off + j by omega] at this
theorem st_R {X : Cx} : ∀ (fs : List TypeId) (cs : List Value), (∀ i f, fs[i]? = some f → ∃ d, R T X false d ((cs.drop (sumSz T (fs.take i))).take (T.size f)) ∧ fit T d (.inl f) = true ∧ good gA d ∧ d.refs = []) →
    ∃ d, R T X false d (cs.take (sumSz T fs)) ∧ fit T d (.inr fs) = true ∧ good gA d ∧ d.refs = [] ∧ d.isRow = true ∧ (∀ t a, T.ty t = .struct a fs → fit T d (.inl t) = true)
  | [], cs, _ => ⟨.anil, by simpa [sumSz] using R.anil, rfl, trivial, rfl, rfl, fun t a ht => by simp [fit, ht]⟩
  | f :: fs, cs, h => by
    obtain ⟨d, hd, fd, gd, rd⟩ := h 0 f rfl
    obtain ⟨ds, hr, fr, gr, rr, _, _⟩ := st_R fs (cs.drop (T.size f)) fun i g hg => by
      obtain ⟨e, he, h2⟩ := h (i + 1) g (by simpa using hg)
      refine ⟨e, ?_, h2⟩
      simpa [sumSz, List.drop_drop] using he
    refine ⟨.acons d ds, ?_, by simp [fit, fd, fr], ⟨gd, gr⟩, by simp [D.refs, rd, rr], rfl, fun t a ht => by simp [fit, ht, fd, fr]⟩
    have := R.acons hd hr
    simpa [sumSz, List.take_add] using this
theorem cellsOf_info {t : TypeId} {i : TypeInfo} (h : P.info? t = some i) : P.cellsOf t = i.size := by
  simp [Program.cellsOf, h]
theorem trod_R (K : PLaws P T) (hd : Dec T gA) {H : Type} {enc : TypeId × Value → H} {W : World} : ∀ (k : Nat) (t : TypeId), plainT T k t = true → ∀ (fuel : Nat) (cs : List Value) (x : DataW H × List MemPlace), DataW.trod enc P W 0 (fun _ => true) true fuel t cs = some x →
    ∃ d, R T (X0 W) false d cs ∧ fit T d (.inl t) = true ∧ good gA d ∧ d.refs = [] := by
  intro k
  induction k with
  | zero => intro t h; simp [plainT] at h
  | succ k ih =>
    intro t hp fuel cs x h
    unfold plainT at hp
    split at hp
    · rename_i ht
      obtain ⟨b, rfl, _⟩ := DataW.trod_bool (K.uBool t ht) h
      exact ⟨.bool b, .bool b, by simp [fit, ht], trivial, rfl⟩
    · rename_i kd ht
      obtain ⟨n, rfl, _, hw⟩ := DataW.trod_int (K.uInt t kd ht) h
      have hw' : kd.min ≤ n ∧ n ≤ kd.max := by simpa [Lit.wf] using hw
      exact ⟨.int kd n, .int hw', by simp [fit, ht], hw', rfl⟩
    · rename_i ht
      obtain ⟨s, rfl, _, hs⟩ := DataW.trod_string (K.uStr t ht) h
      exact ⟨.str s.data.toList, .str s.data.toList, by simp [fit, ht], by simpa [good] using hs, rfl⟩
    · rename_i isA fs ht
      cases isA with
      | true =>
        obtain ⟨el, hu, hfs, hpos, inf, hi1, hi2⟩ := K.uRow t fs ht
        obtain ⟨xs, m, _, _, hlen, hxs, hel⟩ := DataW.trod_array hu h
        have hget : ∀ i f, fs[i]? = some f → f = el ∧ i < fs.length := fun i f hf => by
          have := (List.getElem?_eq_some_iff.1 hf).1
          rw [hfs, List.getElem?_replicate] at hf
          simp at hf
          exact ⟨hf.2.symm, this⟩
        have hsum : ∀ i, i ≤ fs.length → sumSz T (fs.take i) = i * T.size el := by
          intro i hi
          rw [hfs, List.take_replicate, Nat.min_eq_left hi]
          clear hi
          induction i with
          | zero => simp [sumSz]
          | succ i ih => simp only [List.replicate_succ, sumSz, ih]; rw [Nat.succ_mul]; omega
        obtain ⟨d, hr, _, gd, rd, _, hfit⟩ := st_R (T := T) (X := X0 W) (gA := gA) fs cs fun i f hf => by
          obtain ⟨rfl, hi⟩ := hget i f hf
          have := hel i hi
          rw [cellsOf_info hi1, hi2] at this
          have hx : xs[i]? = some xs[i] := by simp [hxs, hi]
          rw [hx] at this
          obtain ⟨d, h1, h2, h3, h4⟩ := ih f (List.all_eq_true.1 hp _ (List.mem_of_getElem? hf)) m _ _ this
          refine ⟨d, ?_, h2, h3, h4⟩
          rw [hsum i (by omega)]; exact h1
        obtain ⟨inf, hi1, hi2⟩ := K.info t d (hfit t _ ht)
        rw [cellsOf_info hi1, hi2, K.base.szStruct t _ fs ht] at hlen
        rw [← hlen, List.take_length] at hr
        exact ⟨d, hr, hfit t _ ht, gd, rd⟩
      | false =>
        obtain ⟨fields, hu, hfs, hoff, _⟩ := K.uStruct t fs ht
        obtain ⟨xs, n, _, _, hlen, hxs, hel⟩ := DataW.trod_struct hu h
        obtain ⟨d, hr, _, gd, rd, _, hfit⟩ := st_R (T := T) (X := X0 W) (gA := gA) fs cs fun i f hf => by
          rw [← hfs, List.getElem?_map] at hf
          cases hfi : fields.toList[i]? with
          | none => simp [hfi] at hf
          | some fld =>
            simp only [hfi, Option.map_some, Option.some.injEq] at hf
            have hfa : fields[i]? = some fld := by rw [← Array.getElem?_toList]; exact hfi
            have := hel i fld hfa
            have hx : ∃ y, xs[i]? = some y := by
              have : i < fields.size := (Array.getElem?_eq_some_iff.1 hfa).1
              exact ⟨xs[i], by simp [hxs, this]⟩
            obtain ⟨y, hy⟩ := hx
            rw [hy] at this
            subst hf
            have hmem : fld.type ∈ fs := by rw [← hfs]; exact List.mem_map.2 ⟨fld, by exact List.mem_of_getElem? hfi, rfl⟩
            obtain ⟨d, h1, h2, h3, h4⟩ := ih fld.type (List.all_eq_true.1 hp _ hmem) n _ _ this
            obtain ⟨inf, hi1, hi2, _⟩ := K.uField t fs fld.type ht hmem
            refine ⟨d, ?_, h2, h3, h4⟩
            rw [hoff i fld hfa, cellsOf_info hi1, hi2] at h1
            exact h1
        obtain ⟨inf, hi1, hi2⟩ := K.info t d (hfit t _ ht)
        rw [cellsOf_info hi1, hi2, K.base.szStruct t _ fs ht] at hlen
        rw [← hlen, List.take_length] at hr
        exact ⟨d, hr, hfit t _ ht, gd, rd⟩
    · rename_i n e ct ht
      obtain ⟨hu, _⟩ := K.uArr t n e ct ht
      obtain ⟨xs, m, _, _, hlen, hxs, hel⟩ := DataW.trod_array hu h
      obtain ⟨inf, z, hi1, hi2, _⟩ := K.uElem t e ct (.inl ⟨n, ht⟩)
      obtain ⟨it, hj1, hj2⟩ := K.info t (.arr ct n []) (by simp [fit, ht])
      obtain ⟨hs1, hs2, hs3⟩ := K.base.szArr t n e ct ht
      rw [cellsOf_info hj1, hj2, hs1] at hlen
      obtain ⟨l, hr, hn, gl⟩ := arr_R (T := T) (X := X0 W) (gA := gA) ct (T.size e) n cs hlen fun i hi => by
        have := hel i hi
        rw [cellsOf_info hi1, hi2] at this
        have hx : xs[i]? = some xs[i] := by simp [hxs, hi]
        rw [hx] at this
        obtain ⟨d, h1, h2, h3, h4⟩ := ih e hp m _ _ this
        obtain ⟨x, h5, h6⟩ := hd.dec ct d (by rw [← fit_congr hs2]; exact h2) h4 h3 ⟨k, e, hs2, hp⟩
        exact ⟨x, K.base.decR _ _ _ _ _ h5 h1, h6⟩
      exact ⟨.arr ct n l, hr, by simp [fit, ht], ⟨hn, gl⟩, rfl⟩
    · rename_i e ct ht
      have hu := K.uSl t e ct ht
      obtain ⟨inf, z, hi1, hi2, _, _, hpos, _⟩ := K.uElem t e ct (.inr ht)
      obtain ⟨hs1, hs2, hs3⟩ := K.base.szSl t e ct ht
      rcases DataW.trod_slice hu h with ⟨rfl, _⟩ | ⟨a, len, cap, elems, rest, m, _, rfl, _, _, hlc, hcm, hel, he, hrest, _⟩
      · exact ⟨.sl ct false [], .sl0 _ _ _, by simp [fit, ht], by simp [good], rfl⟩
      · by_cases hc0 : cap = 0
        · subst hc0
          obtain rfl : len = 0 := by omega
          exact ⟨.sl ct false [], .sl0 _ _ _, by simp [fit, ht], by simp [good], rfl⟩
        · have hspot : a.spot = none := by
            have key : ∀ i y, i = 0 → (W.cells? 0 (a.add (i * P.cellsOf e)) (P.cellsOf e)).bind (DataW.trod enc P W 0 (fun _ => true) true m e) = some y → a.spot = none := by
              intro i y hi0 hy
              subst hi0
              rw [cellsOf_info hi1, hi2] at hy
              cases hcs : W.cells? 0 (a.add (0 * T.size e)) (T.size e) with
              | none => rw [hcs] at hy; cases hy
              | some ci =>
                obtain ⟨_, h2, h3⟩ := World.cells?_some hcs
                have h4 := h3 0 hpos
                have h5 : ci[0]? = some ci[0] := by simp
                rw [h5] at h4
                have := World.cell?_spot h4
                simpa [Addr.add] using this
            by_cases hl0 : 0 < len
            · have := he 0 hl0
              have hx : elems[0]? = some elems[0] := by simp
              exact key 0 _ rfl (this.trans hx)
            · have hr2 := hrest rfl
              have := hr2.2 0 (by omega)
              have h0 : 0 < rest.length := by omega
              have hx : rest[0]? = some rest[0] := by simp
              exact key _ _ (by omega) (this.trans hx)
          obtain ⟨b, off, sp⟩ := a
          simp only at hspot
          subst hspot
          obtain ⟨l, cs, hr, hn, hat, gl⟩ := sl_R (T := T) (W := W) (gA := gA) ct b (T.size e) len off fun i hi => by
            have := he i hi
            have hx : elems[i]? = some elems[i] := by simp [hel, hi]
            rw [hx, cellsOf_info hi1, hi2] at this
            cases hcs : W.cells? 0 ((⟨b, off, none⟩ : Addr).add (i * T.size e)) (T.size e) with
            | none => simp [hcs] at this
            | some ci =>
              simp only [hcs, Option.bind_some] at this
              obtain ⟨_, h2, h3⟩ := World.cells?_some hcs
              obtain ⟨d, k1, k2, k3, k4⟩ := ih e hp m _ _ this
              obtain ⟨x, k5, k6⟩ := hd.dec ct d (by rw [← fit_congr hs2]; exact k2) k4 k3 ⟨k, e, hs2, hp⟩
              refine ⟨x, ci, K.base.decR _ _ _ _ _ k5 k1, h2, fun j hj => ?_, k6⟩
              have := h3 j hj
              rwa [add_plain, add_plain] at this
          subst hn
          exact ⟨.sl ct false l, .sl hat hr hlc (by simp), by simp [fit, ht], ⟨by omega, gl⟩, rfl⟩
    · cases hp
theorem okWide_row (K : PLaws P T) {W : World} {r : Reach} {base : Nat} {t : TypeId} {v : Value} {d : D C} (hv : Value.okWide P W r base t v) (hp : ∃ k, plainT T k t = true) (hf : fit T d (.inl t) = true) (hr : R T (X0 W) false d v.cells.toList) (hrf : d.refs = []) : RV T (X0 W) d v := by
  obtain ⟨k, hp⟩ := hp
  cases k with
  | zero => simp [plainT] at hp
  | succ k =>
    unfold plainT at hp
    split at hp
    · rename_i ht
      obtain ⟨b, rfl⟩ := okWide_bool (K.uBool t ht) hv
      refine .inr ⟨?_, by simpa [Value.cells] using hr⟩
      cases d <;> simp [fit, ht] at hf <;> rfl
    · rename_i kd ht
      obtain ⟨b, rfl⟩ := okWide_int (K.uInt t kd ht) hv
      refine .inr ⟨?_, by simpa [Value.cells] using hr⟩
      cases d <;> simp [fit, ht] at hf <;> rfl
    · rename_i ht
      obtain ⟨b, rfl⟩ := okWide_string (K.uStr t ht) hv
      refine .inr ⟨?_, by simpa [Value.cells] using hr⟩
      cases d <;> simp [fit, ht] at hf <;> rfl
    · rename_i isA fs ht
      have : ∃ cs, v = .agg cs := by
        cases isA with
        | false =>
          obtain ⟨fields, hu, _⟩ := K.uStruct t fs ht
          obtain ⟨cs, rfl, _⟩ := okWide_struct hu hv
          exact ⟨cs, rfl⟩
        | true =>
          obtain ⟨el, hu, _⟩ := K.uRow t fs ht
          simp only [Value.okWide, hu] at hv
          obtain ⟨cs, rfl, _⟩ := hv
          exact ⟨cs, rfl⟩
      obtain ⟨cs, rfl⟩ := this
      refine .inl ⟨?_, cs.toList, by simpa [Value.cells] using hr, rfl⟩
      cases d <;> simp [fit, ht] at hf <;> rfl
    · rename_i n e ct ht
      obtain ⟨hu, _⟩ := K.uArr t n e ct ht
      have : ∃ cs, v = .agg cs := by
        simp only [Value.okWide, hu] at hv
        obtain ⟨cs, rfl, _⟩ := hv
        exact ⟨cs, rfl⟩
      obtain ⟨cs, rfl⟩ := this
      refine .inl ⟨?_, cs.toList, by simpa [Value.cells] using hr, rfl⟩
      cases d <;> simp [fit, ht] at hf <;> rfl
    · rename_i e ct ht
      obtain ⟨a, len, cap, rfl⟩ := okWide_slice (K.uSl t e ct ht) hv
      refine .inr ⟨?_, by simpa [Value.cells] using hr⟩
      cases d <;> simp [fit, ht] at hf <;> rfl
    · cases hp
inductive Fits (T : Tab C) (gA : (t : C.Ty) → C.A t → Prop) : List TypeId → List (D C) → Prop
  | nil : Fits T gA [] []
  | cons {t : TypeId} {ts : List TypeId} {d : D C} {ds : List (D C)} (hf : fit T d (.inl t) = true) (hg : good gA d) (hr : d.refs = []) (h : Fits T gA ts ds) : Fits T gA (t :: ts) (d :: ds)
theorem Fits.refs {ts : List TypeId} {ds : List (D C)} (h : Fits T gA ts ds) : ∀ a ∈ ds, D.refs a = [] := by
  induction h with
  | nil => simp
  | cons _ _ hr _ ih => simpa using ⟨hr, ih⟩
theorem trodAll_R (K : PLaws P T) (hd : Dec T gA) {H : Type} {enc : TypeId × Value → H} {W : World} {r : Reach} {base : Nat} : ∀ (ts : List TypeId) (vs : List Value) (ds : List (DataW H)) (ps : List MemPlace), (∀ t ∈ ts, ∃ k, plainT T k t = true) →
    (∀ (j : Nat) t v, ts[j]? = some t → vs[j]? = some v → Value.okWide P W r base t v) → DataW.TrodAll enc P W 0 (fun _ => true) true ts vs ds ps → ∃ al, Fits T gA ts al ∧ RVs T (X0 W) al vs
  | [], vs, ds, ps, _, _, h => by
    obtain ⟨rfl, rfl, rfl⟩ := trodAll_nil h
    exact ⟨[], .nil, .nil⟩
  | t :: ts, vs, ds, ps, hp, hv, h => by
    obtain ⟨v, vs1, d, ds1, p, q, rfl, rfl, rfl, ⟨fuel, h1⟩, h2⟩ := trodAll_cons h
    obtain ⟨al, f1, r1⟩ := trodAll_R K hd ts vs1 ds1 q (fun t ht => hp t (by simp [ht])) (fun j t v a b => hv (j + 1) t v (by simpa using a) (by simpa using b)) h2
    obtain ⟨k, hk⟩ := hp t (by simp)
    obtain ⟨a, k1, k2, k3, k4⟩ := trod_R K hd k t hk fuel _ _ h1
    exact ⟨a :: al, .cons k2 k3 k4 f1, .cons (okWide_row K (hv 0 t v rfl rfl) ⟨k, hk⟩ k2 k1 k4) r1⟩
theorem stays (hl : laidOutB P = true) {H : Type} {enc : TypeId × Value → H} {W W' : World} {sp : Nat → Bool} : ∀ (ts : List TypeId) (vs : List Value) (ds : List (DataW H)) (ps : List MemPlace), (∀ t ∈ ts, P.readableRec t = true ∧ t < P.types.size) →
    DataW.TrodAll enc P W 0 (fun _ => true) true ts vs ds ps → (∀ p ∈ ps, W.sameAt W' p) → (∀ p ∈ ps, sp p.block = true) → DataW.TrodAll enc P W' 0 sp true ts vs ds ps
  | [], vs, ds, ps, _, h, _, _ => by
    obtain ⟨rfl, rfl, rfl⟩ := trodAll_nil h
    exact trodAll_mk0
  | t :: ts, vs, ds, ps, ht, h, h3, h4 => by
    obtain ⟨v, vs1, d, ds1, p, q, rfl, rfl, rfl, h1, h2⟩ := trodAll_cons h
    exact trodAll_cons_mk (WideElems.Trod_stays hl (ht t (by simp)).1 (ht t (by simp)).2 h1 (fun x hx => h3 x (by simp [hx])) (fun x hx => h4 x (by simp [hx])))
      (stays hl ts vs1 ds1 q (fun t h => ht t (by simp [h])) h2 (fun x hx => h3 x (by simp [hx])) (fun x hx => h4 x (by simp [hx])))
theorem post_same_old {H : Type} {enc : TypeId × Value → H} {f : Func} {s : ChangeSpec} {apart fresh handsOn again : Bool} {W W' : World} {args : Array Value} {v : Value} {ds gs : List (DataW H)} {before pa pv : List MemPlace}
    (hW : DataW.Whole enc P f.params.toList s.vars apart W args.toList ds gs before)
    (hres : ∀ (b : Nat) (sp : Nat → Bool) (hd : Bool), DataW.TrodAll enc P W' b sp hd f.resultTypes.toList (v.resultList f.resultTypes.size) (s.fn H (ds ++ gs)).results [])
    (hargs : ∀ sp : Nat → Bool, (∀ p ∈ before, sp p.block = true) → DataW.TrodAll enc P W' 0 sp true f.params.toList args.toList (s.fn H (ds ++ gs)).args pa)
    (hvars : ∀ sp : Nat → Bool, (∀ p ∈ before, sp p.block = true) → DataW.TrodVars enc P W' sp s.vars (s.fn H (ds ++ gs)).vars pv)
    (hps : before = pa ++ pv) (hk : W.keptBut W' (· ∈ before)) (hfz : ∀ a : Addr, a.block < W.heap.size → W'.frozen? a = W.frozen? a)
    (hok : ∀ (j : Nat) (t : TypeId) (r : Value), f.resultTypes[j]? = some t → (v.resultList f.resultTypes.size)[j]? = some r → Value.okWide P W' .any 0 t r) :
    s.post enc P f apart fresh handsOn again W args v W' := by
  have hold : ∀ p ∈ before, (fun b => decide (b < W.heap.size)) p.block = true := fun p hp => by simpa using hW.lt p hp
  refine ⟨ds, gs, before, [], pa, pv, hW, hres _ _ _, hargs _ hold, hvars _ hold, World.keptBut_mono (fun p hp => ⟨hp, ?_⟩) hk, fun _ => ?_⟩
  · rw [hps, List.mem_append] at hp
    exact Or.inr hp
  · have hlt := hW.lt
    obtain ⟨_, _, _, _, _, hz, hn⟩ := hW
    refine ⟨hok, _, _, ([] ++ pa) ++ pv, ⟨[] ++ pa, pv, trodAll_append (hargs _ (fun _ _ => rfl)) (hres _ _ _), hvars _ (fun _ _ => rfl), rfl, ?_, ?_⟩, ?_⟩
    · intro b off hp
      have hb : MemPlace.cell b off ∈ before := by rw [hps]; simpa using hp
      rw [hfz _ (by simpa [MemPlace.block] using hlt _ hb)]
      exact hz b off hb
    · intro ha
      have := hn ha
      rw [hps] at this
      simpa using this
    · intro p hp _
      rw [hps]
      simpa using hp
theorem contract_of (K : PLaws P T) {Φ : Fns C} (F : FLaws P T Φ) (hd : Dec T gA) (hl : laidOutB P = true) {f : FuncId} {fn : Func} {s : ChangeSpec} {tb : TypeId} {m : Nat}
    (hres : fn.resultTypes = #[tb]) (hb : P.underlying tb = some .bool) (hvars : s.vars = [])
    (hts : fn.params.toList.all (fun t => plainT T m t && P.readableRec t && Nat.blt t P.types.size) = true)
    (hspec : ∀ (H : Type) (ds : List (DataW H)), ds.length = fn.params.toList.length → s.fn H ds = { results := [.lit (.bool true)], args := ds })
    (hev : ∀ ds : List (D C), Fits T gA fn.params.toList ds → ∃ n, evF T Φ n f ds = some (.bool true))
    (H : Type) (enc : TypeId × Value → H) (W : World) (base : Nat) (args : Array Value) (ds gs : List (DataW H)) (before : List MemPlace)
    (hval : ∀ (j : Nat) t v, fn.params[j]? = some t → args[j]? = some v → Value.okWide P W .any base t v)
    (hW : DataW.Whole enc P fn.params.toList s.vars false W args.toList ds gs before) :
    Calls P f args W fun e W' => ∃ v, e = .returned v ∧ s.post enc P fn false true false false W args v W' := by
  have hts' : ∀ t ∈ fn.params.toList, plainT T m t = true ∧ P.readableRec t = true ∧ t < P.types.size := by
    intro t ht
    have := List.all_eq_true.1 hts t ht
    simp only [Bool.and_eq_true] at this
    exact ⟨this.1.1, this.1.2, by simpa [Nat.blt_eq] using this.2⟩
  have hW' := hW
  obtain ⟨p, q, hA, hV, rfl, hfz, hnd⟩ := hW
  rw [hvars] at hV
  obtain ⟨rfl, rfl⟩ := trodVars_none hV
  obtain ⟨al, hf, hr⟩ := trodAll_R (gA := gA) K hd (r := .any) (base := base) _ _ _ _ (fun t ht => ⟨m, (hts' t ht).1⟩) (fun j t v a b => hval j t v (by rw [← Array.getElem?_toList]; exact a) (by rw [← Array.getElem?_toList]; exact b)) hA
  obtain ⟨n, hn⟩ := hev al hf
  have hc := (evF_calls K F hn hf.refs W (fun _ _ => False) (fun _ _ h => h.elim) (vs := args.toList) hr).2
  have ea : (⟨args.toList⟩ : Array Value) = args := by simp
  rw [ea] at hc
  refine hc.mono fun e W' hp => ?_
  obtain ⟨v, ρ, rfl, rv, a1, a2, a3, a4, a5, a6⟩ := hp
  obtain rfl := rv.bool
  have hlen : ds.length = fn.params.toList.length := by
    have : ∀ (ts : List TypeId) (vs : List Value) (ds : List (DataW H)) (ps : List MemPlace), DataW.TrodAll enc P W 0 (fun _ => true) true ts vs ds ps → ds.length = ts.length := by
      intro ts
      induction ts with
      | nil => intro vs ds ps h; obtain ⟨rfl, rfl, rfl⟩ := trodAll_nil h; rfl
      | cons t ts ih =>
        intro vs ds ps h
        obtain ⟨v, vs1, d, ds1, p, q, rfl, rfl, rfl, h1, h2⟩ := trodAll_cons h
        simp [ih _ _ _ h2]
    exact this _ _ _ _ hA
  have hs := hspec H ds hlen
  have hbel : Below W.heap.size W W' := ⟨a3, a4, a5, a1, a2⟩
  have hlt : ∀ x ∈ p, x.block < W.heap.size := fun x hx => by simpa using hW'.lt x (by simpa using hx)
  refine ⟨_, rfl, post_same_old (pa := p) (pv := []) hW' ?_ ?_ ?_ (by simp) (hbel.frame _) a6 ?_⟩
  · intro b sp hd
    simp only [List.append_nil]
    rw [hs, hres]
    exact trodAll_cons_mk (p := []) (p' := []) (shut_bool hb _) trodAll_mk0
  · intro sp hsp
    simp only [List.append_nil] at hsp ⊢
    rw [hs]
    exact stays hl _ _ _ _ (fun t ht => (hts' t ht).2) hA (fun x hx => hbel.same (hlt x hx)) hsp
  · intro sp hsp
    simp only [List.append_nil]
    rw [hs, hvars]
    rfl
  · exact ok_one hres rfl (okWide_bool_mk hb _)
end
def i64 (n : Int) : Prop := -9223372036854775808 ≤ n ∧ n ≤ 9223372036854775807
def inK (k : IntKind) (n : Int) : Prop := k.min ≤ n ∧ n ≤ k.max
theorem i64_of {n : Int} (h : IntKind.i64.min ≤ n ∧ n ≤ IntKind.i64.max) : i64 n := by
  simpa [i64, IntKind.min, IntKind.max, IntKind.signed, IntKind.bits] using h
section
variable {C : Cdc} {T : Tab C} {d : D C} {u : TypeId}
theorem fit_int {k : IntKind} (hu : T.ty u = .int k) (hf : fit T d (.inl u) = true) : ∃ n, d = .int k n := by
  cases d <;> simp [fit, hu] at hf
  subst hf; exact ⟨_, rfl⟩
theorem fit_bool (hu : T.ty u = .bool) (hf : fit T d (.inl u) = true) : ∃ n, d = .bool n := by
  cases d <;> simp [fit, hu] at hf
  exact ⟨_, rfl⟩
theorem fit_str (hu : T.ty u = .str) (hf : fit T d (.inl u) = true) : ∃ n, d = .str n := by
  cases d <;> simp [fit, hu] at hf
  exact ⟨_, rfl⟩
theorem fit_sl {e : TypeId} {t : C.Ty} (hu : T.ty u = .sl e t) (hf : fit T d (.inl u) = true) (hr : d.refs = []) : ∃ c l, d = .sl t c l := by
  cases d <;> simp [fit, hu] at hf
  · subst hf; exact ⟨_, _, rfl⟩
  · simp [D.refs] at hr
  · simp [D.refs] at hr
theorem fit_arr {e : TypeId} {t : C.Ty} {n : Nat} (hu : T.ty u = .arr n e t) (hf : fit T d (.inl u) = true) : ∃ l, d = .arr t n l := by
  cases d <;> simp [fit, hu] at hf
  obtain ⟨h1, h2⟩ := hf
  subst h1; subst h2; exact ⟨_, rfl⟩
theorem fit_st {a : Bool} {f : TypeId} {fs : List TypeId} (hu : T.ty u = .struct a (f :: fs)) (hf : fit T d (.inl u) = true) : ∃ x y, d = .acons x y ∧ fit T x (.inl f) = true ∧ fit T y (.inr fs) = true := by
  cases d <;> simp [fit, hu] at hf
  exact ⟨_, _, rfl, hf.1, hf.2⟩
theorem fit_more {f : TypeId} {fs : List TypeId} (hf : fit T d (.inr (f :: fs)) = true) : ∃ a b, d = .acons a b ∧ fit T a (.inl f) = true ∧ fit T b (.inr fs) = true := by
  cases d <;> simp [fit] at hf
  exact ⟨_, _, rfl, hf.1, hf.2⟩
theorem fit_end (hf : fit T d (.inr []) = true) : d = .anil := by
  cases d <;> simp [fit] at hf
  rfl
end
end Go.Ev
