/-
  OracleQuiet returns true for any numbers. No condition beyond the given statement. (text 5)
-/
import Derived.Test.YtbmeepglaeolhaaGreatP3
import Derived.OpenShut
import Derived.ReadAgain
import Derived.WalkKit
import Derived.ProofKit
import Derived.Test.YtbmeepglaeolhaaGreatRows
namespace Go.Ev
set_option linter.unusedVariables false
set_option linter.unusedSimpArgs false
def CI (w f t q : Int) (hs : List Int) (d k : Int) (r got : List Int) : Prop :=
  r.length = 96 ∧ r.getD 0 0 = w ∧ r.getD 1 0 = d ∧ 0 ≤ r.getD 2 0 ∧ r.getD 2 0 ≤ t ∧ (goF k r got (got.headD 0)).is = true ∧
  (k = 0 ∧ got = [] ∧ d ∉ hs ∨ ∃ x, got = [x] ∧ 0 ≤ x ∧
    (k = 1 ∧ 1 ≤ x ∧ x ≤ t ∧ d ∉ hs ∨
     k = 2 ∧ 1 ≤ r.getD 2 0 ∧ x ≤ f ∧ d ∉ hs ∨
     k = 3 ∧ 1 ≤ r.getD 2 0 ∧ r.getD 2 0 ≤ f + w ∧ x ≤ q ∧ d ∉ hs ∨
     k = 4 ∧ 1 ≤ r.getD 2 0 ∧ r.getD 2 0 ≤ f + w ∧ r.getD 2 0 - 32 ≤ q ∧ x ≤ 1099510841343 ∧ plc x ≤ hs.length ∧ d ∉ hs ∨
     k = 5 ∧ x ≤ 1 ∧ d ∉ hs ∨
     k = 6 ∧ 1 ≤ r.getD 2 0 ∧ (x = 0 ∧ d ∉ hs ∨ x = 1 ∧ r.getD 2 0 ≤ hs.length ∧ hs.getD (r.getD 2 0 - 1).toNat 0 = d)))
theorem CI.mono {w f t q : Int} {hs : List Int} {d k : Int} {r got : List Int} (h : CI w f t q hs d k r got) {f' t' q' : Int} {ext : List Int} (hf : f ≤ f') (ht : t ≤ t') (hq : q ≤ q') (he : d ∉ ext) : CI w f' t' q' (hs ++ ext) d k r got := by
  obtain ⟨a1, a2, a3, a4, a5, a6, h⟩ := h
  have hlen : (hs.length : Int) ≤ ((hs ++ ext).length : Int) := by rw [List.length_append]; omega
  have hmem : d ∉ hs → d ∉ hs ++ ext := fun h1 h2 => by
    rcases List.mem_append.1 h2 with h2 | h2
    · exact h1 h2
    · exact he h2
  refine ⟨a1, a2, a3, a4, by omega, a6, ?_⟩
  rcases h with ⟨b1, b2, b3⟩ | ⟨x, b1, b2, b3⟩
  · exact .inl ⟨b1, b2, hmem b3⟩
  refine .inr ⟨x, b1, b2, ?_⟩
  rcases b3 with ⟨c1, c2, c3, c4⟩ | ⟨c1, c2, c3, c4⟩ | ⟨c1, c2, c3, c4, c5⟩ | ⟨c1, c2, c3, c4, c5, c6, c7⟩ | ⟨c1, c2, c3⟩ | ⟨c1, c2, c3⟩
  · exact .inl ⟨c1, c2, by omega, hmem c4⟩
  · exact .inr (.inl ⟨c1, c2, by omega, hmem c4⟩)
  · exact .inr (.inr (.inl ⟨c1, c2, by omega, by omega, hmem c5⟩))
  · exact .inr (.inr (.inr (.inl ⟨c1, c2, by omega, by omega, c5, by omega, hmem c7⟩)))
  · exact .inr (.inr (.inr (.inr (.inl ⟨c1, c2, hmem c3⟩))))
  · refine .inr (.inr (.inr (.inr (.inr ⟨c1, c2, ?_⟩))))
    rcases c3 with ⟨c3, c4⟩ | ⟨c3, c4, c5⟩
    · exact .inl ⟨c3, hmem c4⟩
    · exact .inr ⟨c3, by omega, by rw [getD_app (by omega)]; exact c5⟩
def mkT (c k : Int) (r got : List Int) : Task := ⟨c, [⟨68, k, r⟩], got, false⟩
theorem stG_mk (c k : Int) (r got : List Int) : stG (mkT c k r got) = goF k r got (got.headD 0) := rfl
structure StepR (cs : List Int) (t : Task) (cs' : List Int) (t' : Task) (E : GoR) : Prop where
  hcs : stCs cs t = cs'
  ht : stT cs t = t'
  hE : stE cs t = E
theorem step_load {cs : List Int} {c k : Int} {r got r' : List Int} {n cell : Int} (h : goF k r got (got.headD 0) = gLoad r' got n cell) :
    StepR cs (mkT c k r got) cs (mkT c n r' [cs.getD cell.toNat 0]) (goF n r' [cs.getD cell.toNat 0] (cs.getD cell.toNat 0)) := by
  refine ⟨?_, ?_, ?_⟩
  · unfold stCs; rw [stG_mk, h]; rfl
  · unfold stT stX; rw [stG_mk, h]; rfl
  · unfold stE stX; rw [stG_mk, h]; rfl
theorem step_cas {cs : List Int} {c k : Int} {r got r' : List Int} {n cell b v : Int} (h : goF k r got (got.headD 0) = gCas r' got n cell b v) :
    StepR cs (mkT c k r got) (if cs.getD cell.toNat 0 = b then cs.set cell.toNat v else cs) (mkT c n r' [if cs.getD cell.toNat 0 = b then 1 else 0]) (goF n r' [if cs.getD cell.toNat 0 = b then 1 else 0] (if cs.getD cell.toNat 0 = b then 1 else 0)) := by
  refine ⟨?_, ?_, ?_⟩
  · unfold stCs; rw [stG_mk, h]
    show doC cs 2 cell b v = _
    unfold doC
    by_cases hb : cs.getD cell.toNat 0 = b
    · rw [if_pos ⟨rfl, hb⟩, if_pos hb]
    · rw [if_neg (fun q => hb q.2), if_neg hb]
  · unfold stT stX; rw [stG_mk, h]; rfl
  · unfold stE stX; rw [stG_mk, h]; rfl
theorem goF_is2 {r got : List Int} {x : Int} (h : (goF 2 r got x).is = true) : r.getD 2 0 ≤ x + r.getD 0 0 ∧ r.getD 2 0 ≤ 1048575 ∧ goF 2 r got x = gLoad r got 3 4 := by
  rw [goF2] at h ⊢
  by_cases h1 : x + r.getD 0 0 < r.getD 2 0
  · rw [if_pos h1] at h; cases h
  rw [if_neg h1] at h ⊢
  by_cases h2 : 1048575 < r.getD 2 0
  · rw [if_pos h2] at h; cases h
  rw [if_neg h2]
  exact ⟨by omega, by omega, rfl⟩
theorem goF_is3 {r got : List Int} {x : Int} (h : (goF 3 r got x).is = true) : r.getD 2 0 - 32 ≤ x ∧ goF 3 r got x = gLoad r got 4 (lRing (r.getD 2 0) (r.getD 0 0)) := by
  rw [goF3] at h ⊢
  by_cases h1 : x < r.getD 2 0 - 32
  · rw [if_pos h1] at h; cases h
  rw [if_neg h1]
  exact ⟨by omega, rfl⟩
def Came (w : Int) (cs hs : List Int) (d c : Int) (t' : Task) (E : GoR) : Prop :=
  ∃ k r x, t' = mkT c k r [x] ∧ E = goF k r [x] x ∧ okG c [⟨68, k, r⟩] [x] = true ∧
    (E.is = true ∧ CI w (cs.getD 0 0) (cs.getD 1 0) (cs.getD 4 0) hs d k r [x] ∨
     E.is = false ∧ E.got.length = 1 ∨
     E.is = false ∧ ∃ p : Int, E.got = [0, p] ∧ 1 ≤ p ∧ p ≤ hs.length ∧ hs.getD (p - 1).toNat 0 = d)
theorem okG_mk {c k x : Int} {r : List Int} (h1 : 0 ≤ c) (h2 : c ≤ 3) (hr : r.length = 96) (h : OkF k r x) : okG c [⟨68, k, r⟩] [x] = true := by
  show (decide (0 ≤ c ∧ c ≤ 3 ∧ (68 : Int) = 68 ∧ r.length = 96) && okFr k r [x]) = true
  rw [Bool.and_eq_true]
  exact ⟨decide_eq_true ⟨h1, h2, rfl, hr⟩, decide_eq_true h⟩
theorem okG_mk0 {c : Int} {r : List Int} (h1 : 0 ≤ c) (h2 : c ≤ 3) (hr : r.length = 96) : okG c [⟨68, 0, r⟩] [] = true := by
  show (decide (0 ≤ c ∧ c ≤ 3 ∧ (68 : Int) = 68 ∧ r.length = 96) && okFr 0 r []) = true
  rw [Bool.and_eq_true]
  exact ⟨decide_eq_true ⟨h1, h2, rfl, hr⟩, rfl⟩
theorem okDo_load {w : Int} {cs hs : List Int} (h : RW w cs hs) {cell : Int} (h0 : 0 ≤ cell) (h1 : cell < 771) : OkDo cs 0 cell 0 0 :=
  ⟨.inl ⟨rfl, rfl, rfl⟩, h0, by rw [h.lc]; exact h1, by decide, by decide, by decide, by decide⟩
theorem okDo_cas {w : Int} {cs hs : List Int} (h : RW w cs hs) {cell b v : Int} (h0 : 0 ≤ cell) (h1 : cell < 771) (hb : -1152921504606846976 ≤ b ∧ b ≤ 1152921504606846976) (hv : -1152921504606846976 ≤ v ∧ v ≤ 1152921504606846976) : OkDo cs 2 cell b v :=
  ⟨.inr rfl, h0, by rw [h.lc]; exact h1, hb.1, hb.2, hv.1, hv.2⟩
theorem goF2_end {r got : List Int} {x : Int} (h : (goF 2 r got x).is = false) : (goF 2 r got x).got.length = 1 := by
  rw [goF2] at h ⊢
  by_cases h1 : x + r.getD 0 0 < r.getD 2 0
  · rw [if_pos h1]; rfl
  rw [if_neg h1] at h ⊢
  by_cases h2 : 1048575 < r.getD 2 0
  · rw [if_pos h2]; rfl
  rw [if_neg h2] at h
  cases h
theorem goF3_end {r got : List Int} {x : Int} (h : (goF 3 r got x).is = false) : (goF 3 r got x).got.length = 1 := by
  rw [goF3] at h ⊢
  by_cases h1 : x < r.getD 2 0 - 32
  · rw [if_pos h1]; rfl
  rw [if_neg h1] at h
  cases h
theorem goF4_is (r got : List Int) (x : Int) : (goF 4 r got x).is = true := by
  rw [goF4]
  split
  · rfl
  split <;> rfl
theorem RW.step {w : Int} {cs hs : List Int} (h : RW w cs hs) {c d k : Int} {r got : List Int} (hc0 : 0 ≤ c) (hc3 : c ≤ 3) (hd : 256 ≤ d ∧ d ≤ 262143) (hk : (hs.length : Int) < 100000)
    (hi : CI w (cs.getD 0 0) (cs.getD 1 0) (cs.getD 4 0) hs d k r got) :
    ∃ ext, (ext = [] ∨ ext = [d] ∧ d ∉ hs) ∧ ∃ cs' t' E, StepR cs (mkT c k r got) cs' t' E ∧ RW w cs' (hs ++ ext) ∧ cs'.getD 0 0 = cs.getD 0 0 ∧ cs'.getD 4 0 = cs.getD 4 0 ∧ cs.getD 1 0 ≤ cs'.getD 1 0 ∧
      okG c [⟨68, k, r⟩] got = true ∧ OkDo cs (goF k r got (got.headD 0)).kind (goF k r got (got.headD 0)).a (goF k r got (got.headD 0)).b (goF k r got (got.headD 0)).v ∧ Came w cs' (hs ++ ext) d c t' E := by
  obtain ⟨a1, a2, a3, a4, a5, a6, hi⟩ := hi
  have hw0 := h.w0
  have hw1 := h.w1
  have hTt := h.Tt
  have htT := h.tT
  have hfT := h.fT
  have hqf := h.qf
  have hq0 := h.q0
  have ht1 := h.t1
  have hTf := h.Tf
  have hlc := h.lc
  have ok : ∀ (k' x' : Int) (r' : List Int), r'.length = 96 → r'.getD 0 0 = w → 0 ≤ r'.getD 2 0 → r'.getD 2 0 ≤ 200000 → 1 ≤ k' → k' ≤ 7 → 0 ≤ x' → x' ≤ 1152921504606846976 → okG c [⟨68, k', r'⟩] [x'] = true :=
    fun k' x' r' e1 e2 e3 e4 e5 e6 e7 e8 => okG_mk hc0 hc3 e1 ⟨e5, e6, e7, e8, by omega, by omega, e3, by omega⟩
  have s2l : ∀ y : Int, (r.set 2 y).length = 96 := fun y => by rw [List.length_set]; exact a1
  have s20 : ∀ y : Int, (r.set 2 y).getD 0 0 = w := fun y => by rw [getD_set_ne' (by decide)]; exact a2
  have s21 : ∀ y : Int, (r.set 2 y).getD 1 0 = d := fun y => by rw [getD_set_ne' (by decide)]; exact a3
  have s22 : ∀ y : Int, (r.set 2 y).getD 2 0 = y := fun y => getD_set_eq (by omega)
  have s3l : ∀ y : Int, (r.set 3 y).length = 96 := fun y => by rw [List.length_set]; exact a1
  have s30 : ∀ y : Int, (r.set 3 y).getD 0 0 = w := fun y => by rw [getD_set_ne' (by decide)]; exact a2
  have s31 : ∀ y : Int, (r.set 3 y).getD 1 0 = d := fun y => by rw [getD_set_ne' (by decide)]; exact a3
  have s32 : ∀ y : Int, (r.set 3 y).getD 2 0 = r.getD 2 0 := fun y => getD_set_ne' (by decide)
  have hs1 : (cs.set (Int.toNat 1) (r.getD 2 0 + 1)).getD 1 0 = r.getD 2 0 + 1 := getD_set_eq (i := 1) (by omega)
  -- a load of TAIL
  have hload1 : ∀ (r' : List Int), r'.length = 96 → r'.getD 0 0 = w → r'.getD 1 0 = d → r'.getD 2 0 = r.getD 2 0 → d ∉ hs → Came w cs hs d c (mkT c 1 r' [cs.getD 1 0]) (goF 1 r' [cs.getD 1 0] (cs.getD 1 0)) :=
    fun r' e1 e2 e3 e4 e5 => ⟨1, r', cs.getD 1 0, rfl, rfl, ok 1 _ r' e1 e2 (by omega) (by omega) (by decide) (by decide) (by omega) (by omega),
      .inl ⟨rfl, e1, e2, e3, by omega, by omega, rfl, .inr ⟨_, rfl, by omega, .inl ⟨rfl, by omega, by omega, e5⟩⟩⟩⟩
  rcases hi with ⟨rfl, rfl, b3⟩ | ⟨x, rfl, x0, hi⟩
  · refine ⟨[], .inl rfl, ?_⟩
    rw [List.append_nil]
    exact ⟨_, _, _, step_load (r' := r) (n := 1) (cell := 1) rfl, h, rfl, rfl, Int.le_refl _, okG_mk0 hc0 hc3 a1, okDo_load (cell := 1) h (by decide) (by decide), hload1 r a1 a2 a3 rfl b3⟩
  rcases hi with ⟨rfl, c2, c3, c4⟩ | ⟨rfl, c2, c3, c4⟩ | ⟨rfl, c2, c3, c4, c5⟩ | ⟨rfl, c2, c3, c4, c5, c6, c7⟩ | ⟨rfl, c2, c3⟩ | ⟨rfl, c2, c3⟩
  · -- 1
    refine ⟨[], .inl rfl, ?_⟩
    rw [List.append_nil]
    refine ⟨_, _, _, step_load (r' := r.set 2 x) (n := 2) (cell := 0) rfl, h, rfl, rfl, Int.le_refl _, ok 1 x r a1 a2 a4 (by omega) (by decide) (by decide) x0 (by omega), okDo_load (cell := 0) h (by decide) (by decide), ?_⟩
    refine ⟨2, r.set 2 x, cs.getD 0 0, rfl, rfl, ok 2 _ _ (s2l x) (s20 x) (by rw [s22]; omega) (by rw [s22]; omega) (by decide) (by decide) (by omega) (by omega), ?_⟩
    cases hE : (goF 2 (r.set 2 x) [cs.getD 0 0] (cs.getD 0 0)).is with
    | true => exact .inl ⟨hE, s2l x, s20 x, s21 x, by rw [s22]; omega, by rw [s22]; omega, hE, .inr ⟨_, rfl, by omega, .inr (.inl ⟨rfl, by rw [s22]; omega, Int.le_refl _, c4⟩)⟩⟩
    | false => exact .inr (.inl ⟨hE, goF2_end hE⟩)
  · -- 2
    obtain ⟨e1, e2, e3⟩ := goF_is2 a6
    refine ⟨[], .inl rfl, ?_⟩
    rw [List.append_nil]
    refine ⟨_, _, _, step_load (r' := r) (n := 3) (cell := 4) e3, h, rfl, rfl, Int.le_refl _, ok 2 x r a1 a2 a4 (by omega) (by decide) (by decide) x0 (by omega), ?_, ?_⟩
    · show OkDo cs (goF 2 r [x] x).kind (goF 2 r [x] x).a (goF 2 r [x] x).b (goF 2 r [x] x).v
      rw [show goF 2 r [x] x = gLoad r [x] 3 4 from e3]
      exact okDo_load (cell := 4) h (by decide) (by decide)
    refine ⟨3, r, cs.getD 4 0, rfl, rfl, ok 3 _ _ a1 a2 a4 (by omega) (by decide) (by decide) hq0 (by omega), ?_⟩
    have e1 : r.getD 2 0 ≤ x + r.getD 0 0 := e1
    cases hE : (goF 3 r [cs.getD 4 0] (cs.getD 4 0)).is with
    | true => exact .inl ⟨hE, a1, a2, a3, a4, a5, hE, .inr ⟨_, rfl, hq0, .inr (.inr (.inl ⟨rfl, c2, by omega, Int.le_refl _, c4⟩))⟩⟩
    | false => exact .inr (.inl ⟨hE, goF3_end hE⟩)
  · -- 3
    obtain ⟨e1, e3⟩ := goF_is3 a6
    have e1 : r.getD 2 0 - 32 ≤ x := e1
    rw [a2, lRing_eq' a4 hw0 hw1] at e3
    have hrd := h.read_le (r.getD 2 0)
    have hcl := h.cell (r.getD 2 0)
    refine ⟨[], .inl rfl, ?_⟩
    rw [List.append_nil]
    refine ⟨_, _, _, step_load (r' := r) (n := 4) (cell := 13 + r.getD 2 0 % w) e3, h, rfl, rfl, Int.le_refl _, ok 3 x r a1 a2 a4 (by omega) (by decide) (by decide) x0 (by omega), ?_, ?_⟩
    · rw [e3]
      exact okDo_load (cell := 13 + r.getD 2 0 % w) h (by omega) (by omega)
    refine ⟨4, r, _, rfl, rfl, ok 4 _ _ a1 a2 a4 (by omega) (by decide) (by decide) hrd.1 (by omega), .inl ⟨goF4_is _ _ _, a1, a2, a3, a4, a5, goF4_is _ _ _, .inr ⟨_, rfl, hrd.1, .inr (.inr (.inr (.inl ⟨rfl, c2, c3, by omega, hrd.2.1, hrd.2.2, c5⟩)))⟩⟩⟩
  · -- 4
    have hok := ok 4 x r a1 a2 a4 (by omega) (by decide) (by decide) x0 (by omega)
    have hg := goF4 r [x] x
    by_cases p1 : plc x = r.getD 2 0
    · rw [if_pos p1] at hg
      have hstep := step_cas (cs := cs) (c := c) (k := 4) (r := r) (got := [x]) hg
      refine ⟨[], .inl rfl, ?_⟩
      rw [List.append_nil]
      have hx' : ∀ b : Prop, [Decidable b] → 0 ≤ (if b then (1 : Int) else 0) ∧ (if b then (1 : Int) else 0) ≤ 1 := fun b _ => by split <;> decide
      refine ⟨_, _, _, hstep, ?_, ?_, ?_, ?_, hok, ?_, ?_⟩
      · split
        · rename_i e; exact h.tail e (by omega)
        · exact h
      · split
        · exact getD_set_ne' (by decide)
        · rfl
      · split
        · exact getD_set_ne' (by decide)
        · rfl
      · split
        · rename_i e
          rw [hs1]
          have e : cs.getD 1 0 = r.getD 2 0 := e
          omega
        · exact Int.le_refl _
      · show OkDo cs (goF 4 r [x] x).kind (goF 4 r [x] x).a (goF 4 r [x] x).b (goF 4 r [x] x).v
        rw [hg]
        exact okDo_cas (cell := 1) (b := r.getD 2 0) (v := r.getD 2 0 + 1) h (by decide) (by decide) ⟨by omega, by omega⟩ ⟨by omega, by omega⟩
      · have ht' : r.getD 2 0 ≤ (if cs.getD (Int.toNat 1) 0 = r.getD 2 0 then cs.set (Int.toNat 1) (r.getD 2 0 + 1) else cs).getD 1 0 := by
          split
          · rw [hs1]; omega
          · exact a5
        have hb := hx' (cs.getD (Int.toNat 1) 0 = r.getD 2 0)
        exact ⟨5, r.set 3 x, _, rfl, rfl, ok 5 _ _ (s3l x) (s30 x) (by rw [s32]; exact a4) (by rw [s32]; omega) (by decide) (by decide) hb.1 (by omega), .inl ⟨rfl, s3l x, s30 x, s31 x, by rw [s32]; exact a4, by rw [s32]; exact ht', rfl, .inr ⟨_, rfl, hb.1, .inr (.inr (.inr (.inr (.inl ⟨rfl, hb.2, c7⟩))))⟩⟩⟩
    rw [if_neg p1] at hg
    by_cases p2 : r.getD 2 0 < plc x
    · rw [if_pos p2] at hg
      refine ⟨[], .inl rfl, ?_⟩
      rw [List.append_nil]
      refine ⟨_, _, _, step_load (r' := r.set 3 x) (n := 1) (cell := 1) hg, h, rfl, rfl, Int.le_refl _, hok, ?_, hload1 _ (s3l x) (s30 x) (s31 x) (s32 x) c7⟩
      show OkDo cs (goF 4 r [x] x).kind (goF 4 r [x] x).a (goF 4 r [x] x).b (goF 4 r [x] x).v
      rw [hg]
      exact okDo_load (cell := 1) h (by decide) (by decide)
    rw [if_neg p2] at hg
    have hwd : wordN (r.getD 2 0) d = r.getD 2 0 * 1048576 + d := by
      rw [wordN, if_pos]; exact ⟨by omega, by omega, .inl hd⟩
    rw [a2, a3, hwd, lRing_eq' a4 hw0 hw1] at hg
    have hcl := h.cell (r.getD 2 0)
    have hstep := step_cas (cs := cs) (c := c) (k := 4) (r := r) (got := [x]) hg
    have hdo : OkDo cs (goF 4 r [x] ([x].headD 0)).kind (goF 4 r [x] ([x].headD 0)).a (goF 4 r [x] ([x].headD 0)).b (goF 4 r [x] ([x].headD 0)).v := by
      show OkDo cs (goF 4 r [x] x).kind (goF 4 r [x] x).a (goF 4 r [x] x).b (goF 4 r [x] x).v
      rw [hg]
      exact okDo_cas (cell := 13 + r.getD 2 0 % w) (b := x) (v := r.getD 2 0 * 1048576 + d) h (by omega) (by omega) ⟨by omega, by omega⟩ ⟨by omega, by omega⟩
    by_cases hx : cs.getD (13 + r.getD 2 0 % w).toNat 0 = x
    · simp only [if_pos hx] at hstep
      obtain ⟨g1, g2⟩ := h.give (d := d) c2 a5 c3 (by rw [hx]; omega) hd hk c4
      refine ⟨[d], .inr ⟨rfl, c7⟩, _, _, _, hstep, g2, getD_set_ne' (by omega), getD_set_ne' (by omega), ?_, hok, hdo, ?_⟩
      · rw [getD_set_ne' (by omega)]; exact Int.le_refl _
      · have h1 : (cs.set (13 + r.getD 2 0 % w).toNat (r.getD 2 0 * 1048576 + d)).getD 1 0 = cs.getD 1 0 := getD_set_ne' (by omega)
        have hl : ((hs ++ [d]).length : Int) = hs.length + 1 := by simp
        exact ⟨6, r.set 3 x, 1, rfl, rfl, ok 6 _ _ (s3l x) (s30 x) (by rw [s32]; exact a4) (by rw [s32]; omega) (by decide) (by decide) (by decide) (by decide), .inl ⟨rfl, s3l x, s30 x, s31 x, by rw [s32]; exact a4, by rw [s32, h1]; exact a5, rfl,
          .inr ⟨_, rfl, by decide, .inr (.inr (.inr (.inr (.inr ⟨rfl, by rw [s32]; exact c2, .inr ⟨rfl, by rw [s32, hl]; omega, by rw [s32, show (r.getD 2 0 - 1).toNat = hs.length by omega]; exact getD_end⟩⟩))))⟩⟩⟩
    · simp only [if_neg hx] at hstep
      refine ⟨[], .inl rfl, ?_⟩
      rw [List.append_nil]
      exact ⟨_, _, _, hstep, h, rfl, rfl, Int.le_refl _, hok, hdo, 6, r.set 3 x, 0, rfl, rfl, ok 6 _ _ (s3l x) (s30 x) (by rw [s32]; exact a4) (by rw [s32]; omega) (by decide) (by decide) (by decide) (by decide), .inl ⟨rfl, s3l x, s30 x, s31 x, by rw [s32]; exact a4, by rw [s32]; exact a5, rfl,
          .inr ⟨_, rfl, by decide, .inr (.inr (.inr (.inr (.inr ⟨rfl, by rw [s32]; exact c2, .inl ⟨rfl, c7⟩⟩))))⟩⟩⟩
  · -- 5
    refine ⟨[], .inl rfl, ?_⟩
    rw [List.append_nil]
    exact ⟨_, _, _, step_load (r' := r) (n := 1) (cell := 1) rfl, h, rfl, rfl, Int.le_refl _, ok 5 x r a1 a2 a4 (by omega) (by decide) (by decide) x0 (by omega), okDo_load (cell := 1) h (by decide) (by decide), hload1 r a1 a2 a3 rfl c3⟩
  · -- 6
    rcases c3 with ⟨rfl, c4⟩ | ⟨rfl, c4, c5⟩
    · refine ⟨[], .inl rfl, ?_⟩
      rw [List.append_nil]
      exact ⟨_, _, _, step_load (r' := r) (n := 1) (cell := 1) rfl, h, rfl, rfl, Int.le_refl _, ok 6 0 r a1 a2 a4 (by omega) (by decide) (by decide) (by decide) (by decide), okDo_load (cell := 1) h (by decide) (by decide), hload1 r a1 a2 a3 rfl c4⟩
    · have hg : goF 6 r [1] 1 = gCas r [1] 7 1 (r.getD 2 0) (r.getD 2 0 + 1) := rfl
      have hstep := step_cas (cs := cs) (c := c) (k := 6) (r := r) (got := [1]) hg
      refine ⟨[], .inl rfl, ?_⟩
      rw [List.append_nil]
      have hx' : ∀ b : Prop, [Decidable b] → 0 ≤ (if b then (1 : Int) else 0) ∧ (if b then (1 : Int) else 0) ≤ 1 := fun b _ => by split <;> decide
      have hb := hx' (cs.getD (Int.toNat 1) 0 = r.getD 2 0)
      refine ⟨_, _, _, hstep, ?_, ?_, ?_, ?_, ok 6 1 r a1 a2 a4 (by omega) (by decide) (by decide) (by decide) (by decide), okDo_cas (cell := 1) (b := r.getD 2 0) (v := r.getD 2 0 + 1) h (by decide) (by decide) ⟨by omega, by omega⟩ ⟨by omega, by omega⟩, ?_⟩
      · split
        · rename_i e; exact h.tail e (by omega)
        · exact h
      · split
        · exact getD_set_ne' (by decide)
        · rfl
      · split
        · exact getD_set_ne' (by decide)
        · rfl
      · split
        · rename_i e
          rw [hs1]
          have e : cs.getD 1 0 = r.getD 2 0 := e
          omega
        · exact Int.le_refl _
      · exact ⟨7, r, _, rfl, rfl, ok 7 _ _ a1 a2 a4 (by omega) (by decide) (by decide) hb.1 (by omega), .inr (.inr ⟨rfl, r.getD 2 0, rfl, c2, c4, c5⟩)⟩
theorem hnd_in {c m : Int} (h0 : 0 ≤ c) (h3 : c ≤ 3) (m1 : 1 ≤ m) (m9 : m ≤ 900) : hnd c m = (m + 1) * 256 + c ∧ 256 ≤ hnd c m ∧ hnd c m ≤ 262143 := by
  have : m % 1000 = m := Int.emod_eq_of_lt (by omega) (by omega)
  unfold hnd
  rw [this]
  omega
theorem hnd_inj {c m c' m' : Int} (h0 : 0 ≤ c) (h3 : c ≤ 3) (m1 : 1 ≤ m) (m9 : m ≤ 900) (h0' : 0 ≤ c') (h3' : c' ≤ 3) (m1' : 1 ≤ m') (m9' : m' ≤ 900) (h : hnd c m = hnd c' m') : c = c' ∧ m = m' := by
  rw [(hnd_in h0 h3 m1 m9).1, (hnd_in h0' h3' m1' m9').1] at h
  omega
structure RI (w : Int) (s : GS) (hs : List Int) (kk : Int) : Prop where
  rw : RW w s.cs hs
  lt : s.ts.length = 4
  lb : s.busy.length = 4
  lh : s.has.length = 4
  n0 : 0 ≤ s.n
  nk : s.n ≤ kk
  hk : (hs.length : Int) ≤ kk
  tk : (s.told.length : Int) ≤ kk
  hn : ∀ d ∈ hs, ∃ m c, 1 ≤ m ∧ m ≤ s.n ∧ 0 ≤ c ∧ c ≤ 3 ∧ d = hnd c m
  cl : ∀ c, 0 ≤ c → c ≤ 3 → isBusy s c = true → ∃ k r got m, tkC s.ts c = mkT c k r got ∧ 1 ≤ m ∧ m ≤ s.n ∧ s.has.getD c.toNat 0 = hnd c m ∧ CI w (s.cs.getD 0 0) (s.cs.getD 1 0) (s.cs.getD 4 0) hs (s.has.getD c.toNat 0) k r got
  told1 : ∀ p ∈ s.told, 1 ≤ p ∧ p ≤ hs.length
  toldN : s.told.Nodup
  toldB : ∀ p ∈ s.told, ∀ c, 0 ≤ c → c ≤ 3 → isBusy s c = true → hs.getD (p - 1).toNat 0 ≠ s.has.getD c.toNat 0
theorem RI.more {w : Int} {s : GS} {hs : List Int} {kk kk' : Int} (h : RI w s hs kk) (hk : kk ≤ kk') : RI w s hs kk' :=
  ⟨h.rw, h.lt, h.lb, h.lh, h.n0, by have := h.nk; omega, by have := h.hk; omega, by have := h.tk; omega, h.hn, h.cl, h.told1, h.toldN, h.toldB⟩
theorem RI.cells {w : Int} {s : GS} {hs : List Int} {kk : Int} (h : RI w s hs kk) {cs' : List Int} (hrw : RW w cs' hs) (hf : s.cs.getD 0 0 ≤ cs'.getD 0 0) (ht : s.cs.getD 1 0 ≤ cs'.getD 1 0) (hq : s.cs.getD 4 0 ≤ cs'.getD 4 0) : RI w { s with cs := cs' } hs kk := by
  refine ⟨hrw, h.lt, h.lb, h.lh, h.n0, h.nk, h.hk, h.tk, h.hn, fun c c0 c3 hb => ?_, h.told1, h.toldN, h.toldB⟩
  obtain ⟨k, r, got, m, e1, e2, e3, e4, e5⟩ := h.cl c c0 c3 hb
  refine ⟨k, r, got, m, e1, e2, e3, e4, ?_⟩
  have := e5.mono (ext := []) hf ht hq (by simp)
  rwa [List.append_nil] at this
theorem tkC_set {ts : List Task} {c c' : Int} {t : Task} (hl : ts.length = 4) (c0 : 0 ≤ c) (c3 : c ≤ 3) (d0 : 0 ≤ c') : tkC (ts.set c.toNat t) c' = if c = c' then t else tkC ts c' := by
  unfold tkC
  by_cases e : c = c'
  · subst e
    rw [if_pos rfl, List.getD_eq_getElem?_getD, List.getElem?_set_self (by omega)]; rfl
  · rw [if_neg e, List.getD_eq_getElem?_getD, List.getD_eq_getElem?_getD, List.getElem?_set_ne (by omega)]
theorem busy_set {bs : List Bool} {c c' : Int} {b : Bool} (hl : bs.length = 4) (c0 : 0 ≤ c) (c3 : c ≤ 3) (d0 : 0 ≤ c') : (bs.set c.toNat b).getD c'.toNat false = if c = c' then b else bs.getD c'.toNat false := by
  by_cases e : c = c'
  · subst e
    rw [if_pos rfl, List.getD_eq_getElem?_getD, List.getElem?_set_self (by omega)]; rfl
  · rw [if_neg e, List.getD_eq_getElem?_getD, List.getD_eq_getElem?_getD, List.getElem?_set_ne (by omega)]
theorem has_set {hs : List Int} {c c' : Int} {b : Int} (hl : hs.length = 4) (c0 : 0 ≤ c) (c3 : c ≤ 3) (d0 : 0 ≤ c') : (hs.set c.toNat b).getD c'.toNat 0 = if c = c' then b else hs.getD c'.toNat 0 := by
  rw [getD_set _ _ _ _ _ (by omega)]
  by_cases e : c = c'
  · subst e; rw [if_pos rfl, if_pos rfl]
  · rw [if_neg (by omega), if_neg e]
theorem RI.begin {w : Int} {s : GS} {hs : List Int} {kk : Int} (h : RI w s hs kk) (hkk : kk < 900) {c : Int} (c0 : 0 ≤ c) (c3 : c ≤ 3) (hb : isBusy s c = false) :
    RI w (beginG w { s with n := s.n + 1, has := s.has.set c.toNat (hnd c (s.n + 1)) } c (hnd c (s.n + 1))) hs (kk + 1) := by
  have hn0 := h.n0
  have hnk := h.nk
  have hnew : hnd c (s.n + 1) ∉ hs := fun hm => by
    obtain ⟨m, c', m1, m2, d0, d3, e⟩ := h.hn _ hm
    have := hnd_inj c0 c3 (by omega) (by omega) d0 d3 m1 (by omega) e
    omega
  refine ⟨h.rw, by simp [beginG, h.lt], by simp [beginG, h.lb], by simp [beginG, h.lh], by show 0 ≤ s.n + 1; omega, by show s.n + 1 ≤ kk + 1; omega, by have := h.hk; omega, by have := h.tk; show (s.told.length : Int) ≤ kk + 1; omega, fun d hd => ?_, fun c' d0 d3 hb' => ?_, h.told1, h.toldN, fun p hp c' d0 d3 hb' => ?_⟩
  · obtain ⟨m, c', m1, m2, e⟩ := h.hn d hd
    exact ⟨m, c', m1, by show m ≤ s.n + 1; omega, e⟩
  · have e1 : tkC (s.ts.set c.toNat ⟨c, [⟨68, 0, regs' w (hnd c (s.n + 1))⟩], [], false⟩) c' = _ := tkC_set h.lt c0 c3 d0
    have e2 : (s.busy.set c.toNat true).getD c'.toNat false = _ := busy_set h.lb c0 c3 d0
    have e3 : (s.has.set c.toNat (hnd c (s.n + 1))).getD c'.toNat 0 = _ := has_set h.lh c0 c3 d0
    show ∃ k r got m, tkC (s.ts.set c.toNat ⟨c, [⟨68, 0, regs' w (hnd c (s.n + 1))⟩], [], false⟩) c' = mkT c' k r got ∧ 1 ≤ m ∧ m ≤ s.n + 1 ∧ (s.has.set c.toNat (hnd c (s.n + 1))).getD c'.toNat 0 = hnd c' m ∧ CI w (s.cs.getD 0 0) (s.cs.getD 1 0) (s.cs.getD 4 0) hs ((s.has.set c.toNat (hnd c (s.n + 1))).getD c'.toNat 0) k r got
    rw [e1, e3]
    by_cases e : c = c'
    · subst e
      rw [if_pos rfl, if_pos rfl]
      exact ⟨0, regs' w (hnd c (s.n + 1)), [], s.n + 1, rfl, by omega, Int.le_refl _, rfl, rfl, rfl, rfl, Int.le_refl _, by have := h.rw.t1; show (0 : Int) ≤ _; omega, rfl, .inl ⟨rfl, rfl, hnew⟩⟩
    · rw [if_neg e, if_neg e]
      have hb2 : isBusy s c' = true := by
        have : (s.busy.set c.toNat true).getD c'.toNat false = true := hb'
        rw [e2, if_neg e] at this
        exact this
      obtain ⟨k, r, got, m, q1, q2, q3, q4, q5⟩ := h.cl c' d0 d3 hb2
      exact ⟨k, r, got, m, q1, q2, by omega, q4, q5⟩
  · have e2 : (s.busy.set c.toNat true).getD c'.toNat false = _ := busy_set h.lb c0 c3 d0
    have e3 : (s.has.set c.toNat (hnd c (s.n + 1))).getD c'.toNat 0 = _ := has_set h.lh c0 c3 d0
    show hs.getD (p - 1).toNat 0 ≠ (s.has.set c.toNat (hnd c (s.n + 1))).getD c'.toNat 0
    rw [e3]
    by_cases e : c = c'
    · rw [if_pos e]
      intro q
      obtain ⟨p1, p2⟩ := h.told1 p hp
      have hlt : (p - 1).toNat < hs.length := by omega
      rw [getD_at hlt] at q
      exact hnew (q ▸ List.getElem_mem hlt)
    · rw [if_neg e]
      have : (s.busy.set c.toNat true).getD c'.toNat false = true := hb'
      rw [e2, if_neg e] at this
      exact h.toldB p hp c' d0 d3 this
structure PickR (w : Int) (s s' : GS) (hs hs' : List Int) (c : Int) : Prop where
  fr : s'.cs.getD 0 0 ≤ hs.length
  ext : hs' = hs ∨ ∃ d, hs' = hs ++ [d]
  told : s'.told = s.told ∨ ∃ p : Int, s'.told = s.told ++ [p] ∧ 1 ≤ p ∧ p ≤ hs'.length ∧ hs'.getD (p - 1).toNat 0 = s'.has.getD c.toNat 0
theorem RI.stepOK {w : Int} {s : GS} {hs : List Int} {kk : Int} (h : RI w s hs kk) (hkk : kk < 900) {now sure : List Sector} (hd : diskOK now sure = true) (hg1 : goodL now = true) (hg2 : goodL sure = true) {c : Int} (c0 : 0 ≤ c) (c3 : c ≤ 3) (hb : isBusy s c = true) : OkStep s.cs (tkC s.ts c) now sure := by
  obtain ⟨k, r, got, m, q1, q2, q3, q4, q5⟩ := h.cl c c0 c3 hb
  have hv := hnd_in (c := c) (m := m) c0 c3 q2 (by have := h.nk; omega)
  rw [← q4] at hv
  obtain ⟨ext, _, cs', t', E, e1, e2, e3, e4, e5, e6, e7, k', r', x', e8, e9, e10, _⟩ := h.rw.step c0 c3 hv.2 (by have := h.hk; omega) q5
  rw [q1]
  refine ⟨e6, rfl, q5.2.2.2.2.2.1, e7, h.rw.cellsOK, hd, hg1, hg2, ?_⟩
  have ht := e1.ht
  rw [e8] at ht
  have h1 : (stG (mkT c k r got)).st = [⟨68, k', r'⟩] := congrArg Task.stack ht
  have h2 : [stX s.cs (mkT c k r got)] = [x'] := congrArg Task.got ht
  rw [h1, h2]
  exact e10
theorem RI.step {w : Int} {s : GS} {hs : List Int} {kk : Int} (h : RI w s hs kk) (hkk : kk < 900) {c : Int} (c0 : 0 ≤ c) (c3 : c ≤ 3) (hb : isBusy s c = true) :
    ∃ hs', RI w (stepP s c) hs' (kk + 1) ∧ PickR w s (stepP s c) hs hs' c := by
  obtain ⟨k, r, got, m, q1, q2, q3, q4, q5⟩ := h.cl c c0 c3 hb
  have hnk := h.nk
  have hv := hnd_in (c := c) (m := m) c0 c3 q2 (by omega)
  rw [← q4] at hv
  obtain ⟨ext, hext, cs', t', E, e1, e2, e3, e4, e5, e6, e7, k', r', x', e8, e9, e10, hcame⟩ := h.rw.step c0 c3 hv.2 (by have := h.hk; omega) q5
  have hP : stepP s c = { s with cs := cs', ts := s.ts.set c.toNat t', busy := bif E.is then s.busy else s.busy.set c.toNat false, told := s.told ++ newTold s c } := by
    unfold stepP
    rw [if_pos hb]
    unfold stepS
    rw [q1, e1.hcs, e1.ht, e1.hE]
  have hN : newTold s c = if E.is = false ∧ E.got.length = 2 ∧ E.got.getD 0 0 = 0 then [E.got.getD 1 0] else [] := by
    unfold newTold; rw [q1, e1.hE]
  have hlen : (hs.length : Int) ≤ ((hs ++ ext).length : Int) := by rw [List.length_append]; omega
  have hlen2 : ((hs ++ ext).length : Int) ≤ hs.length + 1 := by
    rcases hext with rfl | ⟨rfl, _⟩
    · rw [List.append_nil]; omega
    · rw [List.length_append]; simp
  -- the others
  have hoth : ∀ c', 0 ≤ c' → c' ≤ 3 → c ≠ c' → isBusy s c' = true → ∃ k r got m, tkC (s.ts.set c.toNat t') c' = mkT c' k r got ∧ 1 ≤ m ∧ m ≤ s.n ∧ s.has.getD c'.toNat 0 = hnd c' m ∧ CI w (cs'.getD 0 0) (cs'.getD 1 0) (cs'.getD 4 0) (hs ++ ext) (s.has.getD c'.toNat 0) k r got := by
    intro c' d0 d3 hne hb'
    obtain ⟨k2, r2, got2, m2, p1, p2, p3, p4, p5⟩ := h.cl c' d0 d3 hb'
    refine ⟨k2, r2, got2, m2, by rw [tkC_set h.lt c0 c3 d0, if_neg hne]; exact p1, p2, p3, p4, p5.mono (by omega) e5 (by omega) ?_⟩
    rcases hext with rfl | ⟨rfl, _⟩
    · simp
    · intro hm
      rw [List.mem_singleton, q4, p4] at hm
      exact hne (hnd_inj d0 d3 p2 (by omega) c0 c3 q2 (by omega) hm).1.symm
  have hhn : ∀ d ∈ hs ++ ext, ∃ m c, 1 ≤ m ∧ m ≤ s.n ∧ 0 ≤ c ∧ c ≤ 3 ∧ d = hnd c m := by
    intro d hd
    rcases List.mem_append.1 hd with hd | hd
    · exact h.hn d hd
    · rcases hext with rfl | ⟨rfl, _⟩
      · simp at hd
      · rw [List.mem_singleton] at hd
        subst hd
        exact ⟨m, c, q2, q3, c0, c3, q4⟩
  have happ : ∀ p ∈ s.told, (hs ++ ext).getD (p - 1).toNat 0 = hs.getD (p - 1).toNat 0 := fun p hp => getD_app (by have := h.told1 p hp; omega)
  have hbt : ∀ (bs : List Bool) (c' : Int), 0 ≤ c' → (bif E.is then s.busy else s.busy.set c.toNat false).getD c'.toNat false = true → s.busy.getD c'.toNat false = true ∧ (c = c' → E.is = true) := by
    intro _ c' d0 hq
    cases hE : E.is with
    | true => rw [hE] at hq; exact ⟨hq, fun _ => rfl⟩
    | false =>
      rw [hE] at hq
      simp only [cond_false] at hq
      rw [busy_set h.lb c0 c3 d0] at hq
      by_cases e : c = c'
      · rw [if_pos e] at hq; cases hq
      · rw [if_neg e] at hq; exact ⟨hq, fun q => (e q).elim⟩
  have base : ∀ told' : List Int, ((told' = s.told ∧ (E.is = true → CI w (cs'.getD 0 0) (cs'.getD 1 0) (cs'.getD 4 0) (hs ++ ext) (s.has.getD c.toNat 0) k' r' [x'])) ∨ (E.is = false ∧ ∃ p : Int, told' = s.told ++ [p] ∧ 1 ≤ p ∧ p ≤ (hs ++ ext).length ∧ (hs ++ ext).getD (p - 1).toNat 0 = s.has.getD c.toNat 0)) →
      RI w { s with cs := cs', ts := s.ts.set c.toNat t', busy := bif E.is then s.busy else s.busy.set c.toNat false, told := told' } (hs ++ ext) (kk + 1) := by
    intro told' ht
    refine ⟨e2, by simp [h.lt], ?_, h.lh, h.n0, by show s.n ≤ kk + 1; omega, by have := h.hk; omega, ?_, hhn, fun c' d0 d3 hb' => ?_, ?_, ?_, ?_⟩
    · show (bif E.is then s.busy else s.busy.set c.toNat false).length = 4
      cases E.is <;> simp [h.lb]
    · show (told'.length : Int) ≤ kk + 1
      have := h.tk
      rcases ht with ⟨rfl, _⟩ | ⟨_, p, rfl, _⟩
      · omega
      · rw [List.length_append]; simp; omega
    · obtain ⟨hb1, hb2⟩ := hbt [] c' d0 hb'
      by_cases e : c = c'
      · subst e
        have hi := hb2 rfl
        rcases ht with ⟨_, hci⟩ | ⟨hf, _⟩
        · refine ⟨k', r', [x'], m, ?_, q2, q3, q4, hci hi⟩
          show tkC (s.ts.set c.toNat t') c = _
          rw [tkC_set h.lt c0 c3 c0, if_pos rfl, e8]
        · rw [hi] at hf; cases hf
      · exact hoth c' d0 d3 e hb1
    · intro p hp
      rcases ht with ⟨rfl, _⟩ | ⟨_, p', rfl, p1, p2, _⟩
      · have := h.told1 p hp; omega
      · rcases List.mem_append.1 hp with hp | hp
        · have := h.told1 p hp; omega
        · rw [List.mem_singleton] at hp; subst hp; exact ⟨p1, p2⟩
    · show told'.Nodup
      rcases ht with ⟨rfl, _⟩ | ⟨_, p', rfl, p1, p2, p3⟩
      · exact h.toldN
      · refine List.nodup_append.2 ⟨h.toldN, by simp, ?_⟩
        intro a ha b hb2 hab
        rw [List.mem_singleton] at hb2
        subst hab
        subst hb2
        have := h.toldB a ha c c0 c3 hb
        rw [happ a ha] at p3
        exact this p3
    · intro p hp c' d0 d3 hb'
      obtain ⟨hb1, hb2⟩ := hbt [] c' d0 hb'
      have hold : ∀ p ∈ s.told, (hs ++ ext).getD (p - 1).toNat 0 ≠ s.has.getD c'.toNat 0 := fun p hp => by
        rw [happ p hp]; exact h.toldB p hp c' d0 d3 hb1
      rcases ht with ⟨rfl, _⟩ | ⟨hf, p', rfl, p1, p2, p3⟩
      · exact hold p hp
      · rcases List.mem_append.1 hp with hp | hp
        · exact hold p hp
        · rw [List.mem_singleton] at hp
          subst hp
          show (hs ++ ext).getD (p - 1).toNat 0 ≠ s.has.getD c'.toNat 0
          rw [p3]
          intro q
          have hne : c ≠ c' := fun e => by rw [hb2 e] at hf; cases hf
          obtain ⟨_, _, _, m2, _, p2', p3', p4', _⟩ := h.cl c' d0 d3 hb1
          rw [q4, p4'] at q
          exact hne (hnd_inj c0 c3 q2 (by omega) d0 d3 p2' (by omega) q).1
  have hx : hs ++ ext = hs ∨ ∃ d, hs ++ ext = hs ++ [d] := by
    rcases hext with rfl | ⟨rfl, _⟩
    · exact .inl (by simp)
    · exact .inr ⟨_, rfl⟩
  have hfr : cs'.getD 0 0 ≤ hs.length := by rw [e3]; exact h.rw.fT
  refine ⟨hs ++ ext, ?_⟩
  rw [hP]
  rcases hcame with ⟨hi, hci⟩ | ⟨hi, h1⟩ | ⟨hi, p, h1, h2, h3, h4⟩
  · have hn : newTold s c = [] := by rw [hN, if_neg (fun q => by rw [hi] at q; cases q.1)]
    rw [hn, List.append_nil]
    exact ⟨base s.told (.inl ⟨rfl, fun _ => hci⟩), hfr, hx, .inl rfl⟩
  · have hn : newTold s c = [] := by rw [hN, if_neg (fun q => by have := q.2.1; omega)]
    rw [hn, List.append_nil]
    exact ⟨base s.told (.inl ⟨rfl, fun q => by rw [hi] at q; cases q⟩), hfr, hx, .inl rfl⟩
  · have hn : newTold s c = [p] := by
      rw [hN, if_pos ⟨hi, by rw [h1]; rfl, by rw [h1]; rfl⟩, h1]; rfl
    rw [hn]
    exact ⟨base (s.told ++ [p]) (.inr ⟨hi, p, rfl, h2, h3, h4⟩), hfr, hx, .inr ⟨p, rfl, h2, h3, h4⟩⟩
theorem RI.pick {w : Int} {s : GS} {hs : List Int} {kk : Int} (h : RI w s hs kk) (hkk : kk < 900) (x dd : Int) : ∃ hs', RI w (pickG w s x dd) hs' (kk + 1) ∧ PickR w s (pickG w s x dd) hs hs' (x % 4) := by
  have c0 : 0 ≤ x % 4 := Int.emod_nonneg _ (by decide)
  have c3 : x % 4 ≤ 3 := by have := Int.emod_lt_of_pos x (by decide : (0 : Int) < 4); omega
  have same : PickR w s s hs hs (x % 4) := ⟨h.rw.fT, .inl rfl, .inl rfl⟩
  unfold pickG
  split
  · unfold beginP
    cases hb : isBusy s (x % 4) with
    | true => rw [if_pos rfl]; exact ⟨hs, h.more (by omega), same⟩
    | false => rw [if_neg (by simp)]; exact ⟨hs, h.begin hkk c0 c3 hb, h.rw.fT, .inl rfl, .inl rfl⟩
  split
  · cases hb : isBusy s (x % 4) with
    | true => exact h.step hkk c0 c3 hb
    | false =>
      have : stepP s (x % 4) = s := by unfold stepP; rw [if_neg (by rw [hb]; simp)]
      rw [this]; exact ⟨hs, h.more (by omega), same⟩
  have hl := h.rw.lc
  split
  · unfold doneP
    split
    · rename_i hp
      have g0 : (s.cs.set 0 (frontG s + 1)).getD 0 0 = frontG s + 1 := getD_set_eq (by omega)
      have hfr := (h.rw.done hp).fT
      refine ⟨hs, (h.cells (h.rw.done hp) (by rw [show s.cs.getD 0 0 = frontG s from rfl, g0]; omega) (by rw [getD_set_ne' (by decide)]; exact Int.le_refl _) (by rw [getD_set_ne' (by decide)]; exact Int.le_refl _)).more (by omega), hfr, .inl rfl, .inl rfl⟩
    · exact ⟨hs, h.more (by omega), same⟩
  split
  · have g4 : (s.cs.set 4 (s.cs.getD 0 0)).getD 4 0 = s.cs.getD 0 0 := getD_set_eq (by omega)
    refine ⟨hs, (h.cells h.rw.ckpt (by rw [getD_set_ne' (by decide)]; exact Int.le_refl _) (by rw [getD_set_ne' (by decide)]; exact Int.le_refl _) (by rw [g4]; exact h.rw.qf)).more (by omega), h.rw.ckpt.fT, .inl rfl, .inl rfl⟩
  · exact ⟨hs, h.more (by omega), same⟩
theorem RI.ok {w : Int} {s : GS} {hs : List Int} {kk : Int} (h : RI w s hs kk) (hkk : kk < 900) {now sure : List Sector} (hd : diskOK now sure = true) (hg1 : goodL now = true) (hg2 : goodL sure = true) (x : Int) : OkPick w s now sure (x % 4) := by
  have c0 : 0 ≤ x % 4 := Int.emod_nonneg _ (by decide)
  have c3 : x % 4 ≤ 3 := by have := Int.emod_lt_of_pos x (by decide : (0 : Int) < 4); omega
  have h1 := h.nk
  have h2 := h.tk
  have h3 := h.rw.q0
  have h4 := h.rw.qf
  have h5 := h.rw.fT
  have h6 := h.rw.Tk
  exact ⟨h.rw.w0, h.rw.w1, h.lt, h.lb, h.lh, h.n0, by omega, h.rw.lc, by show 0 ≤ s.cs.getD 0 0; omega, by show s.cs.getD 0 0 ≤ _; omega, by omega, fun hb => h.stepOK hkk hd hg1 hg2 c0 c3 hb⟩
def gA (t : Task) : GoR4 := goO false t.stack t.got
def gB (t : Task) : GoR4 := goO true t.stack t.got
def oX (cs : List Int) (t : Task) : Int := doG4 cs (gA t).kind (gA t).a (gA t).b
def oCs (cs : List Int) (t : Task) : List Int := doC4 cs (gA t).kind (gA t).a (gA t).b (gA t).v
def oT (cs : List Int) (t : Task) : Task := ⟨t.client, (gA t).st, [oX cs t], (gA t).over⟩
def oU (cs : List Int) (t u : Task) : Task := ⟨u.client, (gB u).st, [oX cs t], (gB u).over⟩
def oE (cs : List Int) (t : Task) : GoR4 := goO false (gA t).st [oX cs t]
def oF (cs : List Int) (t u : Task) : GoR4 := goO true (gB u).st [oX cs t]
structure OkStepO (c : Int) (cs : List Int) (t u : Task) (now sure : List Sector) : Prop where
  a1 : okO false c t.stack t.got
  b1 : okO true c u.stack u.got
  ct : t.client = c
  cu : u.client = c
  ot : t.over = false
  ou : u.over = false
  is : (gA t).is = true
  ab : sameG (gA t) (gB u)
  hd : OkDo4 cs (gA t).kind (gA t).a (gA t).b (gA t).v
  hg : 0 ≤ (gA t).g
  hc : cellsOK cs = true
  d1 : diskOK now sure = true
  d2 : goodL now = true
  d3 : goodL sure = true
  a2 : okO false c (gA t).st [oX cs t]
  b2 : okO true c (gB u).st [oX cs t]
  ef : sameG (oE cs t) (oF cs t u)
structure OS where
  cs : List Int
  ts : List Task
  us : List Task
  busy : List Bool
  kind : List Int
  opn : List Bool
  start : List Int
def oBusy (s : OS) (c : Int) : Bool := s.busy.getD c.toNat false
def oKind (s : OS) (c : Int) : Int := s.kind.getD c.toNat 0
def endO (s : OS) (c : Int) : GoR4 := oE s.cs (tkC s.ts c)
def stepO (s : OS) (c : Int) : OS :=
  { s with cs := oCs s.cs (tkC s.ts c), ts := s.ts.set c.toNat (oT s.cs (tkC s.ts c)), us := s.us.set c.toNat (oU s.cs (tkC s.ts c) (tkC s.us c)), busy := bif (endO s c).is then s.busy else s.busy.set c.toNat false }
def stepQ (s : OS) (c : Int) : OS :=
  if (endO s c).is = false ∧ oKind s c = 0 ∧ (endO s c).got.length = 1 then { stepO s c with opn := s.opn.set c.toNat true, start := s.start.set c.toNat ((endO s c).got.getD 0 0) } else stepO s c
def beginO (s : OS) (c kd : Int) : OS :=
  { s with kind := s.kind.set c.toNat kd, ts := s.ts.set c.toNat (mkO c (92 + kd) 0 (c :: List.replicate 95 0) []), us := s.us.set c.toNat (mkO c (92 + kd) 0 (c :: List.replicate 95 0) []), busy := s.busy.set c.toNat true }
def closeO (s : OS) (c : Int) : OS := { s with opn := s.opn.set c.toNat false, cs := s.cs.set (9 + c.toNat) 0 }
def pickO (s : OS) (x dd : Int) : OS :=
  if dd = 0 ∨ dd = 1 then (if oBusy s (x % 4) = false ∧ (dd = 1 ∨ opB s.opn (x % 4).toNat = false) then beginO s (x % 4) dd else s)
  else if dd = 2 then (if oBusy s (x % 4) = true then stepQ s (x % 4) else s)
  else if dd = 3 then (if opB s.opn (x % 4).toNat = true ∧ oBusy s (x % 4) = false then closeO s (x % 4) else s)
  else if dd = 4 then { s with cs := s.cs.set 0 (frC s.cs + 1) } else s
def OCl (s : OS) (c : Int) : Prop := ∃ k r q got,
  (oKind s c = 0 ∧ tkC s.ts c = mkO c 92 k r got ∧ tkC s.us c = mkO c 92 k r got ∧ JB s.cs s.opn c k r got ∧ (goO false [⟨92, k, r⟩] got).is = true) ∨
  (oKind s c = 1 ∧ tkC s.ts c = mkO c 93 k r got ∧ tkC s.us c = mkO c 93 k q got ∧ JM s.cs s.opn s.start k r q got ∧ (goO false [⟨93, k, r⟩] got).is = true)
structure OI (s : OS) (most kk : Int) : Prop where
  oc : OC s.cs
  fk : frC s.cs ≤ kk
  lt : s.ts.length = 4
  lu : s.us.length = 4
  lb : s.busy.length = 4
  lk : s.kind.length = 4
  lo : s.opn.length = 4
  ls : s.start.length = 4
  mm : most ≤ mkC s.cs
  op : ∀ i, i < 4 → opB s.opn i = true → scC s.cs i = stA s.start i + 1 ∧ most ≤ stA s.start i ∧ 0 ≤ stA s.start i
  cl : ∀ c : Int, 0 ≤ c → c ≤ 3 → oBusy s c = true → OCl s c
theorem bset {bs : List Bool} {i j : Nat} {b : Bool} (hl : bs.length = 4) (hi : i < 4) : (bs.set i b).getD j false = if i = j then b else bs.getD j false := by
  by_cases e : i = j
  · subst e
    rw [if_pos rfl, List.getD_eq_getElem?_getD, List.getElem?_set_self (by omega)]; rfl
  · rw [if_neg e, List.getD_eq_getElem?_getD, List.getD_eq_getElem?_getD, List.getElem?_set_ne e]
theorem OI.more {s : OS} {most kk kk' : Int} (h : OI s most kk) (hk : kk ≤ kk') : OI s most kk' := ⟨h.oc, by have := h.fk; omega, h.lt, h.lu, h.lb, h.lk, h.lo, h.ls, h.mm, h.op, h.cl⟩
structure StO (s : OS) (c p n : Int) (r' q' : List Int) (x : Int) (cs' : List Int) : Prop where
  xx : oX s.cs (tkC s.ts c) = x
  cs : oCs s.cs (tkC s.ts c) = cs'
  t : oT s.cs (tkC s.ts c) = mkO c p n r' [x]
  u : oU s.cs (tkC s.ts c) (tkC s.us c) = mkO c p n q' [x]
  e : endO s c = goO false [⟨p, n, r'⟩] [x]
  ok : ∀ now sure, diskOK now sure = true → goodL now = true → goodL sure = true → OkStepO c s.cs (tkC s.ts c) (tkC s.us c) now sure
theorem StO.of {s : OS} {c p k n kd a b v : Int} {r q r' q' got : List Int} (ht : tkC s.ts c = mkO c p k r got) (hu : tkC s.us c = mkO c p k q got) (hA : goO false [⟨p, k, r⟩] got = g4 p n r' got kd a b v 0) (hB : goO true [⟨p, k, q⟩] got = g4 p n q' got kd a b v 0)
    (hd : OkDo4 s.cs kd a b v) (hc : cellsOK s.cs = true) (o1 : okO false c [⟨p, k, r⟩] got) (o2 : okO true c [⟨p, k, q⟩] got) (o3 : okO false c [⟨p, n, r'⟩] [doG4 s.cs kd a b]) (o4 : okO true c [⟨p, n, q'⟩] [doG4 s.cs kd a b])
    (hs : sameG (goO false [⟨p, n, r'⟩] [doG4 s.cs kd a b]) (goO true [⟨p, n, q'⟩] [doG4 s.cs kd a b])) : StO s c p n r' q' (doG4 s.cs kd a b) (doC4 s.cs kd a b v) := by
  have eA : gA (tkC s.ts c) = g4 p n r' got kd a b v 0 := by rw [ht]; exact hA
  have eB : gB (tkC s.us c) = g4 p n q' got kd a b v 0 := by rw [hu]; exact hB
  have ex : oX s.cs (tkC s.ts c) = doG4 s.cs kd a b := by unfold oX; rw [eA]; rfl
  refine ⟨ex, by unfold oCs; rw [eA]; rfl, by unfold oT; rw [ex, eA, ht]; rfl, by unfold oU; rw [ex, eB, hu]; rfl, by unfold endO oE; rw [ex, eA]; rfl, fun now sure d1 d2 d3 => ?_⟩
  refine ⟨by rw [ht]; exact o1, by rw [hu]; exact o2, by rw [ht]; rfl, by rw [hu]; rfl, by rw [ht]; rfl, by rw [hu]; rfl, by rw [eA]; rfl, by rw [eA, eB]; exact sameG_g4, by rw [eA]; exact hd, by rw [eA]; exact Int.le_refl _, hc, d1, d2, d3, by rw [eA, ex]; exact o3, by rw [eB, ex]; exact o4, ?_⟩
  unfold oE oF
  rw [eA, eB, ex]
  exact hs
structure StepO (s : OS) (most kk : Int) (c : Int) (most' : Int) : Prop where
  ok : ∀ now sure, diskOK now sure = true → goodL now = true → goodL sure = true → OkStepO c s.cs (tkC s.ts c) (tkC s.us c) now sure
  oi : OI (stepQ s c) most' kk
  ans : (endO s c).is = true ∧ most' = most ∨ (endO s c).is = false ∧ ∃ a, (endO s c).got = [a] ∧ (oKind s c = 0 ∧ most' = most ∨ oKind s c = 1 ∧ most' = max most a)
  mr : mkC s.cs ≤ mkC (stepQ s c).cs
theorem OI.step {s : OS} {most kk : Int} (h : OI s most kk) {c : Int} (c0 : 0 ≤ c) (c3 : c ≤ 3) (hb : oBusy s c = true) : ∃ most', StepO s most kk c most' := by
  have hoc := h.oc
  have hf := hoc.fr
  have hmk := hoc.mr
  have hcn : c.toNat < 4 := by omega
  obtain ⟨k, r, q, got, ⟨hk, ht, hu, hJ, hi⟩ | ⟨hk, ht, hu, hJ, hi⟩⟩ := h.cl c c0 c3 hb
  · obtain ⟨n, r', kd, a, b, v, hA, hd, hC, hJ', hE⟩ := hJ.step hoc c0 c3 hi
    have hoc' := hC.next hoc
    have hf' := hoc'.fr
    have S := StO.of ht hu (hA false) (hA true) hd hoc.ok (hJ.ok hf c0 c3 false) (hJ.ok hf c0 c3 true) (hJ'.ok hf' c0 c3 false) (hJ'.ok hf' c0 c3 true) (by
      have : ∀ own, goO own [⟨92, n, r'⟩] [doG4 s.cs kd a b] = oBeg n r' [doG4 s.cs kd a b] (doG4 s.cs kd a b) := fun own => rfl
      rw [this, this]; exact ⟨rfl, rfl, rfl, rfl, rfl, rfl, rfl⟩)
    generalize doC4 s.cs kd a b v = cs' at *
    generalize doG4 s.cs kd a b = x at *
    have hnop : opB s.opn c.toNat = false := hJ.2.2.1
    have hS : stepO s c = { s with cs := cs', ts := s.ts.set c.toNat (mkO c 92 n r' [x]), us := s.us.set c.toNat (mkO c 92 n r' [x]), busy := bif (endO s c).is then s.busy else s.busy.set c.toNat false } := by
      unfold stepO; rw [S.cs, S.t, S.u]
    -- the others, whatever becomes of this client
    have hoth : ∀ (opn' : List Bool) (start' : List Int) (busy' : List Bool), (∀ i, i ≠ c.toNat → opB opn' i = opB s.opn i ∧ stA start' i = stA s.start i) → (opB opn' c.toNat = true → mkC s.cs ≤ stA start' c.toNat) →
        ∀ c', 0 ≤ c' → c' ≤ 3 → c' ≠ c → oBusy s c' = true → OCl ⟨cs', s.ts.set c.toNat (mkO c 92 n r' [x]), s.us.set c.toNat (mkO c 92 n r' [x]), busy', s.kind, opn', start'⟩ c' := by
      intro opn' start' busy' ho1 ho2 c' d0 d3 hne hb'
      have hne' : c'.toNat ≠ c.toNat := by omega
      obtain ⟨k2, r2, q2, got2, ⟨p0, p1, p2, p3, p4⟩ | ⟨p0, p1, p2, p3, p4⟩⟩ := h.cl c' d0 d3 hb'
      · refine ⟨k2, r2, q2, got2, .inl ⟨p0, by show tkC (s.ts.set c.toNat _) c' = _; rw [tkC_set h.lt c0 c3 d0, if_neg (fun e => hne e.symm)]; exact p1, by show tkC (s.us.set c.toNat _) c' = _; rw [tkC_set h.lu c0 c3 d0, if_neg (fun e => hne e.symm)]; exact p2, ?_, p4⟩⟩
        exact p3.mono (by rw [hC.fr]; exact Int.le_refl _) (hC.sc _ (.inl hne')) (ho1 _ hne').1
      · refine ⟨k2, r2, q2, got2, .inr ⟨p0, by show tkC (s.ts.set c.toNat _) c' = _; rw [tkC_set h.lt c0 c3 d0, if_neg (fun e => hne e.symm)]; exact p1, by show tkC (s.us.set c.toNat _) c' = _; rw [tkC_set h.lu c0 c3 d0, if_neg (fun e => hne e.symm)]; exact p2, ?_, p4⟩⟩
        refine p3.mono (by rw [hC.fr]; exact Int.le_refl _) hC.mr.1 fun i hi => ?_
        by_cases e : i = c.toNat
        · subst e; exact .inr (ho2 hi)
        · exact .inl ⟨by rw [← (ho1 i e).1]; exact hi, (ho1 i e).2⟩
    have hfk : frC cs' ≤ kk := by rw [hC.fr]; exact h.fk
    have hmm : most ≤ mkC cs' := by have := h.mm; have := hC.mr; omega
    cases hE2 : (endO s c).is with
    | true =>
      have hQ : stepQ s c = stepO s c := by unfold stepQ; rw [if_neg (fun q => by rw [hE2] at q; cases q.1)]
      rw [hE2] at hS
      refine ⟨most, S.ok, ?_, .inl ⟨hE2, rfl⟩, by rw [hQ, hS]; exact hC.mr.1⟩
      rw [hQ, hS]
      refine ⟨hoc', hfk, by simp [h.lt], by simp [h.lu], h.lb, h.lk, h.lo, h.ls, hmm, fun i hi ho => ?_, fun c' d0 d3 hb' => ?_⟩
      · have hne : i ≠ c.toNat := fun e => by subst e; rw [show opB s.opn c.toNat = true from ho] at hnop; cases hnop
        show scC cs' i = _ ∧ _
        rw [hC.sc i (.inl hne)]
        exact h.op i hi ho
      · by_cases e : c' = c
        · subst e
          refine ⟨n, r', r', [x], .inl ⟨hk, by show tkC (s.ts.set c'.toNat _) c' = _; rw [tkC_set h.lt c0 c3 c0, if_pos rfl], by show tkC (s.us.set c'.toNat _) c' = _; rw [tkC_set h.lu c0 c3 c0, if_pos rfl], hJ', ?_⟩⟩
          rw [← S.e]; exact hE2
        · exact hoth s.opn s.start _ (fun _ _ => ⟨rfl, rfl⟩) (fun q => by rw [hnop] at q; cases q) c' d0 d3 e hb'
    | false =>
      obtain ⟨w, e1, e2, e3, e4⟩ := hE (by rw [← S.e]; exact hE2)
      have hgot : (endO s c).got = [w] := by rw [S.e, e1]; rfl
      have hQ : stepQ s c = { stepO s c with opn := s.opn.set c.toNat true, start := s.start.set c.toNat w } := by
        unfold stepQ; rw [if_pos ⟨hE2, hk, by rw [hgot]; rfl⟩, hgot]; rfl
      rw [hE2] at hS
      refine ⟨most, S.ok, ?_, .inr ⟨hE2, w, hgot, .inl ⟨hk, rfl⟩⟩, by rw [hQ, hS]; exact hC.mr.1⟩
      rw [hQ, hS]
      have hop' : ∀ i, opB (s.opn.set c.toNat true) i = if c.toNat = i then true else opB s.opn i := fun i => bset h.lo hcn
      have hst' : ∀ i, stA (s.start.set c.toNat w) i = if c.toNat = i then w else stA s.start i := fun i => by unfold stA; rw [getD_set _ _ _ _ _ (by rw [h.ls]; omega)]
      refine ⟨hoc', hfk, by simp [h.lt], by simp [h.lu], by simp [h.lb], h.lk, by simp [h.lo], by simp [h.ls], hmm, fun i hi ho => ?_, fun c' d0 d3 hb' => ?_⟩
      · show scC cs' i = stA (s.start.set c.toNat w) i + 1 ∧ most ≤ stA (s.start.set c.toNat w) i ∧ 0 ≤ stA (s.start.set c.toNat w) i
        rw [hst']
        by_cases e : c.toNat = i
        · rw [if_pos e, ← e]
          have := hC.mr
          have := h.mm
          exact ⟨e3, by omega, by omega⟩
        · rw [if_neg e, hC.sc i (.inl (fun q => e q.symm))]
          have ho : opB (s.opn.set c.toNat true) i = true := ho
          rw [hop', if_neg e] at ho
          exact h.op i hi ho
      · have hb' : (s.busy.set c.toNat false).getD c'.toNat false = true := hb'
        rw [bset h.lb hcn] at hb'
        by_cases e : c' = c
        · subst e; rw [if_pos rfl] at hb'; cases hb'
        · rw [if_neg (by omega)] at hb'
          exact hoth _ _ _ (fun i hi => ⟨by rw [hop', if_neg (fun e => hi e.symm)], by rw [hst', if_neg (fun e => hi e.symm)]⟩) (fun _ => by rw [hst', if_pos rfl]; have := hC.mr; omega) c' d0 d3 e hb'
  · obtain ⟨n, r', q', kd, a, b, v, hA, hB, hd, hC, hJ', hE⟩ := hJ.step hoc (fun i hi ho => by have := h.op i hi ho; exact ⟨this.1, this.2.2⟩) hi
    have hoc' := hC.next hoc
    have hf' := hoc'.fr
    have ok1 := hJ.ok hf c0 c3
    have ok2 := hJ'.ok hf' c0 c3
    have S := StO.of ht hu hA hB hd hoc.ok ok1.1 ok1.2.1 ok2.1 ok2.2.1 ok2.2.2
    generalize doC4 s.cs kd a b v = cs' at *
    generalize doG4 s.cs kd a b = x at *
    have hS : stepO s c = { s with cs := cs', ts := s.ts.set c.toNat (mkO c 93 n r' [x]), us := s.us.set c.toNat (mkO c 93 n q' [x]), busy := bif (endO s c).is then s.busy else s.busy.set c.toNat false } := by
      unfold stepO; rw [S.cs, S.t, S.u]
    have hQ : stepQ s c = stepO s c := by unfold stepQ; rw [if_neg (fun q => by rw [hk] at q; exact absurd q.2.1 (by decide))]
    have hoth : ∀ (busy' : List Bool), ∀ c', 0 ≤ c' → c' ≤ 3 → c' ≠ c → oBusy s c' = true → OCl ⟨cs', s.ts.set c.toNat (mkO c 93 n r' [x]), s.us.set c.toNat (mkO c 93 n q' [x]), busy', s.kind, s.opn, s.start⟩ c' := by
      intro busy' c' d0 d3 hne hb'
      have hne' : c'.toNat ≠ c.toNat := by omega
      obtain ⟨k2, r2, q2, got2, ⟨p0, p1, p2, p3, p4⟩ | ⟨p0, p1, p2, p3, p4⟩⟩ := h.cl c' d0 d3 hb'
      · refine ⟨k2, r2, q2, got2, .inl ⟨p0, by show tkC (s.ts.set c.toNat _) c' = _; rw [tkC_set h.lt c0 c3 d0, if_neg (fun e => hne e.symm)]; exact p1, by show tkC (s.us.set c.toNat _) c' = _; rw [tkC_set h.lu c0 c3 d0, if_neg (fun e => hne e.symm)]; exact p2, ?_, p4⟩⟩
        exact p3.mono (by rw [hC.fr]; exact Int.le_refl _) (hC.sc _ (.inr rfl)) rfl
      · refine ⟨k2, r2, q2, got2, .inr ⟨p0, by show tkC (s.ts.set c.toNat _) c' = _; rw [tkC_set h.lt c0 c3 d0, if_neg (fun e => hne e.symm)]; exact p1, by show tkC (s.us.set c.toNat _) c' = _; rw [tkC_set h.lu c0 c3 d0, if_neg (fun e => hne e.symm)]; exact p2, ?_, p4⟩⟩
        exact p3.mono (by rw [hC.fr]; exact Int.le_refl _) hC.mr.1 fun i hi => .inl ⟨hi, rfl⟩
    have hfk : frC cs' ≤ kk := by rw [hC.fr]; exact h.fk
    have hmm : most ≤ mkC cs' := by have := h.mm; have := hC.mr; omega
    cases hE2 : (endO s c).is with
    | true =>
      rw [hE2] at hS
      refine ⟨most, S.ok, ?_, .inl ⟨hE2, rfl⟩, by rw [hQ, hS]; exact hC.mr.1⟩
      rw [hQ, hS]
      refine ⟨hoc', hfk, by simp [h.lt], by simp [h.lu], h.lb, h.lk, h.lo, h.ls, hmm, fun i hi ho => ?_, fun c' d0 d3 hb' => ?_⟩
      · show scC cs' i = _ ∧ _
        rw [hC.sc i (.inr rfl)]
        exact h.op i hi ho
      · by_cases e : c' = c
        · subst e
          refine ⟨n, r', q', [x], .inr ⟨hk, by show tkC (s.ts.set c'.toNat _) c' = _; rw [tkC_set h.lt c0 c3 c0, if_pos rfl], by show tkC (s.us.set c'.toNat _) c' = _; rw [tkC_set h.lu c0 c3 c0, if_pos rfl], hJ', ?_⟩⟩
          rw [← S.e]; exact hE2
        · exact hoth _ c' d0 d3 e hb'
    | false =>
      obtain ⟨w, e1, e2, e3⟩ := hE (by rw [← S.e]; exact hE2)
      have hgot : (endO s c).got = [w] := by rw [S.e, e1]; rfl
      rw [hE2] at hS
      refine ⟨max most w, S.ok, ?_, .inr ⟨hE2, w, hgot, .inr ⟨hk, rfl⟩⟩, by rw [hQ, hS]; exact hC.mr.1⟩
      rw [hQ, hS]
      refine ⟨hoc', hfk, by simp [h.lt], by simp [h.lu], by simp [h.lb], h.lk, h.lo, h.ls, by show max most w ≤ mkC cs'; omega, fun i hi ho => ?_, fun c' d0 d3 hb' => ?_⟩
      · show scC cs' i = _ ∧ _
        rw [hC.sc i (.inr rfl)]
        have h3 := e3 i hi ho
        have h4 := h.op i hi ho
        exact ⟨h4.1, by show max most w ≤ stA s.start i; omega, h4.2.2⟩
      · have hb' : (s.busy.set c.toNat false).getD c'.toNat false = true := hb'
        rw [bset h.lb hcn] at hb'
        by_cases e : c' = c
        · subst e; rw [if_pos rfl] at hb'; cases hb'
        · rw [if_neg (by omega)] at hb'
          exact hoth _ c' d0 d3 e hb'
open Go.Proofs
set_option maxRecDepth 100000
structure step23_St where
  c : Int
  now : List Sector
  sure : List Sector
  cs : List Int
  ts : List Task
  us : List Task
  busy : List Bool
def step23_a (c : Int) (now : List Sector) (sure : List Sector) (cs : List Int) (ts : List Task) (us : List Task) (busy : List Bool) : List (D RC) := [.ptr 0 [], .int .i64 c]
def step23_o (c : Int) (now : List Sector) (sure : List Sector) (cs : List Int) (ts : List Task) (us : List Task) (busy : List Bool) : List (Obj RC) := [.var 46 (.acons (.acons (.sl (C := RC) .int false cs) (.acons (.acons (.sl (C := RC) .sector false now) (.acons (.sl (C := RC) .sector false sure) .anil)) .anil)) (.acons (.arr (C := RC) .task 4 ts) (.acons (.arr (C := RC) .task 4 us) (.acons (.arr (C := RC) .bool 4 busy) .anil))))]
noncomputable def step23_r (c : Int) (now : List Sector) (sure : List Sector) (cs : List Int) (ts : List Task) (us : List Task) (busy : List Bool) := fnO s23 ug_6 13 60 1 (step23_a c now sure cs ts us busy) (step23_o c now sure cs ts us busy)
theorem step23_eq (c : Int) (now : List Sector) (sure : List Sector) (cs : List Int) (ts : List Task) (us : List Task) (busy : List Bool) : step23_r c now sure cs ts us busy = (let Z0 : Bool := decide ((0 : Int) ≤ c ∧ c < (4 : Int)); let Z1 : Nat := Int.toNat c; let Z2 : Task := Task.mk (0 : Int) [] [] false; let Z3 : Task := List.getD ts Z1 Z2; let Z4 : Int := Task.client Z3; let Z5 : Task := List.getD us Z1 Z2; let Z6 : Int := Task.client Z5; let Z7 : GoR4 := goO false (Task.stack Z3) (Task.got Z3); let Z8 : GoR4 := goO true (Task.stack Z5) (Task.got Z5); let Z9 : D RC := D.sl RTy.int true []; let Z10 : D RC := .anil; let Z11 : D RC := D.acons (D.bool false) Z10; let Z12 : D RC := D.tup (D.acons Z9 (D.acons (D.bool false) Z11)); let Z13 : D RC := D.acons (D.acons (D.sl RTy.sector false now) (.acons (D.sl RTy.sector false sure) Z10)) Z10; let Z14 : D RC := D.acons (D.sl RTy.int false cs) Z13; let Z15 : D RC := D.arr RTy.task (4 : Nat) ts; let Z16 : D RC := D.arr RTy.task (4 : Nat) us; let Z17 : D RC := D.acons (D.arr RTy.bool (4 : Nat) busy) Z10; let Z18 : Option (D RC × List (Option (Obj RC))) := some (Z12, [some (Obj.var 46 (.acons Z14 (D.acons Z15 (D.acons Z16 Z17))))]); let Z19 : Int := GoR4.kind Z7; let Z20 : Int := GoR4.a Z7; let Z21 : Int := GoR4.b Z7; let Z22 : Nat := List.length (GoR4.st Z7); let Z23 : Nat := List.length (GoR4.st Z8); let Z24 : Nat := List.length (GoR4.got Z7); let Z25 : Nat := List.length (GoR4.got Z8); let Z26 : D RC := D.bool true; let Z27 : D RC := D.acons (D.arr RTy.bool (4 : Nat) (List.set busy Z1 false)) Z10; let Z28 : List (Option (Obj RC)) := [some (Obj.var 46 (.acons Z14 (D.acons Z15 (D.acons Z16 Z27))))]; let Z29 : Option (D RC × List (Option (Obj RC))) := none; let Z30 : List Task := List.set ts Z1 (Task.mk Z4 (GoR4.st Z7) [doG4 cs Z19 Z20 Z21] (GoR4.over Z7)); let Z31 : Task := List.getD Z30 Z1 Z2; let Z32 : List Task := List.set us Z1 (Task.mk Z6 (GoR4.st Z8) [doG4 cs Z19 Z20 Z21] (GoR4.over Z8)); let Z33 : Task := List.getD Z32 Z1 Z2; let Z34 : GoR4 := goO false (Task.stack Z31) (Task.got Z31); let Z35 : GoR4 := goO true (Task.stack Z33) (Task.got Z33); let Z36 : D RC := D.acons (D.sl RTy.int false (doC4 cs Z19 Z20 Z21 (GoR4.v Z7))) Z13; let Z37 : D RC := D.arr RTy.task (4 : Nat) Z30; let Z38 : D RC := D.arr RTy.task (4 : Nat) Z32; let Z39 : List (Option (Obj RC)) := [some (Obj.var 46 (.acons Z36 (D.acons Z37 (D.acons Z38 Z17))))]; let Z40 : Nat := List.length (GoR4.st Z34); let Z41 : Nat := List.length (GoR4.st Z35); let Z42 : D RC := D.sl RTy.int false (GoR4.got Z34); let Z43 : List (Option (Obj RC)) := [some (Obj.var 46 (.acons Z36 (D.acons Z37 (D.acons Z38 Z27))))]; let Z44 : Option (D RC × List (Option (Obj RC))) := bif GoR4.is Z34 then some (D.tup (D.acons Z9 (D.acons (D.bool false) (.acons Z26 Z10))), Z39) else bif Z0 then bif lenOK Z40 then bif (↑Z40 : Int) == (0 : Int) then bif lenOK Z41 then bif (↑Z41 : Int) == (0 : Int) then bif lenOK (GoR4.got Z34).length && lenOK (GoR4.got Z35).length then some (D.tup (D.acons Z42 (D.acons Z26 (D.acons (D.bool (decide (GoR4.got Z34 = GoR4.got Z35))) Z10))), Z43) else Z29 else some (D.tup (D.acons Z42 (D.acons Z26 Z11)), Z43) else Z29 else some (D.tup (D.acons Z42 (D.acons Z26 Z11)), Z43) else Z29 else Z29; let Z45 : Option (D RC × List (Option (Obj RC))) := bif !GoR4.is Z7 then bif Z0 then bif lenOK Z22 then bif (↑Z22 : Int) == (0 : Int) then bif lenOK Z23 then bif (↑Z23 : Int) == (0 : Int) then bif lenOK Z24 && lenOK Z25 then some (D.tup (D.acons Z9 (D.acons Z26 (D.acons (D.bool (decide (GoR4.got Z7 = GoR4.got Z8))) Z10))), Z28) else Z29 else some (D.tup (D.acons Z9 (D.acons Z26 Z11)), Z28) else Z29 else some (D.tup (D.acons Z9 (D.acons Z26 Z11)), Z28) else Z29 else Z29 else bif decide (OkDo4 cs Z19 Z20 Z21 (GoR4.v Z7)) && decide ((0 : Int) ≤ GoR4.g Z7) && (cellsOK cs && (diskOK now sure && (goodL now && goodL sure))) then bif decide ((0 : Int) ≤ Z4 ∧ Z4 ≤ (3 : Int) ∧ Z24 ≤ (96 : Nat) ∧ (1 : Nat) ≤ Z22 ∧ Z22 ≤ (6 : Nat)) && !GoR4.over Z7 then bif Z0 then bif decide ((0 : Int) ≤ Z6 ∧ Z6 ≤ (3 : Int) ∧ Z25 ≤ (96 : Nat) ∧ (1 : Nat) ≤ Z23 ∧ Z23 ≤ (6 : Nat)) && !GoR4.over Z8 then bif Z0 then bif Z0 then bif cdec (okO false (Task.client Z31) (Task.stack Z31) (Task.got Z31)) && !Task.over Z31 then bif Z0 then bif cdec (okO true (Task.client Z33) (Task.stack Z33) (Task.got Z33)) && !Task.over Z33 then bif !GoR4.is Z34 == GoR4.is Z35 then some (Z12, Z39) else bif GoR4.is Z34 then bif !decide (GoR4.kind Z34 = GoR4.kind Z35 ∧ GoR4.a Z34 = GoR4.a Z35 ∧ GoR4.b Z34 = GoR4.b Z35 ∧ GoR4.v Z34 = GoR4.v Z35 ∧ GoR4.g Z34 = GoR4.g Z35) then some (Z12, Z39) else Z44 else Z44 else Z29 else Z29 else Z29 else Z29 else Z29 else Z29 else Z29 else Z29 else Z29; bif Z0 then bif cdec (okO false Z4 (Task.stack Z3) (Task.got Z3)) && !Task.over Z3 then bif Z0 then bif cdec (okO true Z6 (Task.stack Z5) (Task.got Z5)) && !Task.over Z5 then bif !GoR4.is Z7 == GoR4.is Z8 then Z18 else bif GoR4.is Z7 then bif !decide (Z19 = GoR4.kind Z8 ∧ Z20 = GoR4.a Z8 ∧ Z21 = GoR4.b Z8 ∧ GoR4.v Z7 = GoR4.v Z8 ∧ GoR4.g Z7 = GoR4.g Z8) then Z18 else Z45 else Z45 else Z29 else Z29 else Z29 else Z29) := by kernel_rfl
noncomputable def step23_fin (c : Int) (now : List Sector) (sure : List Sector) (cs : List Int) (ts : List Task) (us : List Task) (busy : List Bool) : RT RC := .leaf .ret [(0, .tup (.acons (.sl (C := RC) .int (oE cs (tkC ts c)).is (bif (oE cs (tkC ts c)).is then [] else (oE cs (tkC ts c)).got)) (.acons (.bool (!(oE cs (tkC ts c)).is)) (.acons (.bool true) .anil))))] (step23_o c now sure (oCs cs (tkC ts c)) (ts.set c.toNat (oT cs (tkC ts c))) (us.set c.toNat (oU cs (tkC ts c) (tkC us c))) (bif (oE cs (tkC ts c)).is then busy else busy.set c.toNat false))
def step23_Inv (c : Int) (now : List Sector) (sure : List Sector) (cs : List Int) (ts : List Task) (us : List Task) (busy : List Bool) : Prop := 0 ≤ c ∧ c ≤ 3 ∧ ts.length = 4 ∧ us.length = 4 ∧ OkStepO c cs (tkC ts c) (tkC us c) now sure
noncomputable def step23_S : FunR RC step23_St where
  k := 1
  args q := step23_a q.c q.now q.sure q.cs q.ts q.us q.busy
  objs q := step23_o q.c q.now q.sure q.cs q.ts q.us q.busy
  fin q := step23_fin q.c q.now q.sure q.cs q.ts q.us q.busy
  Inv q := step23_Inv q.c q.now q.sure q.cs q.ts q.us q.busy
theorem step23_ok (c : Int) (now : List Sector) (sure : List Sector) (cs : List Int) (ts : List Task) (us : List Task) (busy : List Bool) (hI : step23_Inv c now sure cs ts us busy) : Leaf (step23_r c now sure cs ts us busy) (LedF step23_S ⟨c, now, sure, cs, ts, us, busy⟩) := by
  (rw [step23_eq]; conv => zeta)
  unfold step23_Inv at hI
  obtain ⟨h1, h2, h3, h3', h4⟩ := hI
  have hc : decide ((0 : Int) ≤ c ∧ c < 4) = true := decide_eq_true ⟨h1, by omega⟩
  have hset : ∀ T' d : Task, (ts.set c.toNat T').getD c.toNat d = T' := fun T' d => by
    rw [List.getD_eq_getElem?_getD, List.getElem?_set_self (by omega)]; rfl
  have hset' : ∀ T' d : Task, (us.set c.toNat T').getD c.toNat d = T' := fun T' d => by
    rw [List.getD_eq_getElem?_getD, List.getElem?_set_self (by omega)]; rfl
  have hfin : ∀ t u, tkC ts c = t → tkC us c = u → step23_fin c now sure cs ts us busy = .leaf .ret [(0, .tup (.acons (.sl (C := RC) .int (oE cs t).is (bif (oE cs t).is then [] else (oE cs t).got)) (.acons (.bool (!(oE cs t).is)) (.acons (.bool true) .anil))))] (step23_o c now sure (oCs cs t) (ts.set c.toNat (oT cs t)) (us.set c.toNat (oU cs t u)) (bif (oE cs t).is then busy else busy.set c.toNat false)) := fun t u ht hu => by
    unfold step23_fin; rw [ht, hu]
  simp only [hset, hset']
  have ht : tkC ts c = ts.getD c.toNat ⟨0, [], [], false⟩ := rfl
  have hu : tkC us c = us.getD c.toNat ⟨0, [], [], false⟩ := rfl
  generalize ts.getD c.toNat ⟨0, [], [], false⟩ = t at ht ⊢
  generalize us.getD c.toNat ⟨0, [], [], false⟩ = u at hu ⊢
  have hfin := hfin t u ht hu
  rw [ht, hu] at h4
  have ki := goO_is h4.a1 h4.is
  have isB : (goO true u.stack u.got).is = true := h4.ab.1.symm.trans h4.is
  have kj := goO_is h4.b1 isB
  have la := goO_len h4.a1
  have lb := goO_len h4.b1
  have isA : (goO false t.stack t.got).is = true := h4.is
  have k1 : cdec (okO false c t.stack t.got) = true := cdec_true h4.a1
  have k2 : cdec (okO true c u.stack u.got) = true := cdec_true h4.b1
  have k3 : cdec (okO false c (goO false t.stack t.got).st [doG4 cs (goO false t.stack t.got).kind (goO false t.stack t.got).a (goO false t.stack t.got).b]) = true := cdec_true h4.a2
  have k4 : cdec (okO true c (goO true u.stack u.got).st [doG4 cs (goO false t.stack t.got).kind (goO false t.stack t.got).a (goO false t.stack t.got).b]) = true := cdec_true h4.b2
  have s1 : decide ((goO false t.stack t.got).kind = (goO true u.stack u.got).kind ∧ (goO false t.stack t.got).a = (goO true u.stack u.got).a ∧ (goO false t.stack t.got).b = (goO true u.stack u.got).b ∧ (goO false t.stack t.got).v = (goO true u.stack u.got).v ∧ (goO false t.stack t.got).g = (goO true u.stack u.got).g) = true := decide_eq_true ⟨h4.ab.2.1, h4.ab.2.2.1, h4.ab.2.2.2.1, h4.ab.2.2.2.2.1, h4.ab.2.2.2.2.2.1⟩
  have o1 : decide (OkDo4 cs (goO false t.stack t.got).kind (goO false t.stack t.got).a (goO false t.stack t.got).b (goO false t.stack t.got).v) = true := decide_eq_true h4.hd
  have o2 : decide (0 ≤ (goO false t.stack t.got).g) = true := decide_eq_true h4.hg
  have g1 : decide (0 ≤ c ∧ c ≤ 3 ∧ (goO false t.stack t.got).got.length ≤ 96 ∧ 1 ≤ (goO false t.stack t.got).st.length ∧ (goO false t.stack t.got).st.length ≤ 6) = true := decide_eq_true ⟨h1, h2, by rw [ki.2.2]; omega, by rw [ki.2.1]; decide, by rw [ki.2.1]; decide⟩
  have g2 : decide (0 ≤ c ∧ c ≤ 3 ∧ (goO true u.stack u.got).got.length ≤ 96 ∧ 1 ≤ (goO true u.stack u.got).st.length ∧ (goO true u.stack u.got).st.length ≤ 6) = true := decide_eq_true ⟨h1, h2, by rw [kj.2.2]; omega, by rw [kj.2.1]; decide, by rw [kj.2.1]; decide⟩
  have q0 : (!(true == true)) = false := rfl
  simp only [hc, h4.ct, h4.cu, h4.ot, h4.ou, k1, k2, k3, k4, isA, isB, s1, o1, o2, g1, g2, ki.1, kj.1, h4.hc, h4.d1, h4.d2, h4.d3, q0, Bool.not_false, Bool.not_true, Bool.and_self, Bool.and_true, Bool.true_and, cond_true, cond_false]
  have hE : oE cs t = goO false (goO false t.stack t.got).st [doG4 cs (goO false t.stack t.got).kind (goO false t.stack t.got).a (goO false t.stack t.got).b] := rfl
  have hF : oF cs t u = goO true (goO true u.stack u.got).st [doG4 cs (goO false t.stack t.got).kind (goO false t.stack t.got).a (goO false t.stack t.got).b] := rfl
  have ef := h4.ef
  have eA : (oE cs t).is = false → (oE cs t).st = [] ∧ (oE cs t).got.length = 1 ∧ (oE cs t).over = true := fun hi => goO_end h4.a2 hi
  have eB : (oF cs t u).is = false → (oF cs t u).st = [] ∧ (oF cs t u).got.length = 1 ∧ (oF cs t u).over = true := fun hi => goO_end h4.b2 hi
  rw [← hE, ← hF]
  have hobj : ∀ b : List Bool, [some (Obj.var (C := RC) 46 (.acons (.acons (.sl (C := RC) .int false (doC4 cs (goO false t.stack t.got).kind (goO false t.stack t.got).a (goO false t.stack t.got).b (goO false t.stack t.got).v)) (.acons (.acons (.sl (C := RC) .sector false now) (.acons (.sl (C := RC) .sector false sure) .anil)) .anil)) (.acons (.arr (C := RC) .task 4 (ts.set c.toNat ⟨c, (goO false t.stack t.got).st, [doG4 cs (goO false t.stack t.got).kind (goO false t.stack t.got).a (goO false t.stack t.got).b], false⟩)) (.acons (.arr (C := RC) .task 4 (us.set c.toNat ⟨c, (goO true u.stack u.got).st, [doG4 cs (goO false t.stack t.got).kind (goO false t.stack t.got).a (goO false t.stack t.got).b], false⟩)) (.acons (.arr (C := RC) .bool 4 b) .anil)))))] = (step23_o c now sure (oCs cs t) (ts.set c.toNat (oT cs t)) (us.set c.toNat (oU cs t u)) b).map some := fun b => by
    simp only [step23_o, oCs, oT, oU, oX, gA, gB, ki.1, kj.1, h4.ct, h4.cu, List.map_cons, List.map_nil]
  generalize oE cs t = E at *
  generalize oF cs t u = F at *
  obtain ⟨f1, f2, f3, f4, f5, f6, f7⟩ := ef
  have s2 : decide (E.kind = F.kind ∧ E.a = F.a ∧ E.b = F.b ∧ E.v = F.v ∧ E.g = F.g) = true := decide_eq_true ⟨f2, f3, f4, f5, f6⟩
  cases hi : E.is with
  | true =>
    rw [hi] at f1
    simp only [← f1, hi, s2, q0, Bool.not_true, cond_true, cond_false]
    refine leafF (step23_o c now sure (oCs cs t) (ts.set c.toNat (oT cs t)) (us.set c.toNat (oU cs t u)) busy) ?_ (hobj _)
    show (step23_fin c now sure cs ts us busy).val = _
    rw [hfin]
    simp only [RT.val, hi, cond_true, Bool.not_true]
  | false =>
    rw [hi] at f1
    obtain ⟨a1, a2, _⟩ := eA hi
    obtain ⟨b1, b2, _⟩ := eB f1.symm
    have l1 : lenOK E.got.length = true := lenOK_of (by omega)
    have l2 : lenOK F.got.length = true := lenOK_of (by omega)
    have l3 : lenOK ([] : List Frame).length = true := rfl
    have l4 : (((([] : List Frame).length : Nat) : Int) == 0) = true := rfl
    have q1 : (!(false == false)) = false := rfl
    have q2 : decide (E.got = F.got) = true := decide_eq_true f7
    simp only [← f1, a1, b1, hi, l1, l2, l3, l4, q1, q2, Bool.and_self, cond_true, cond_false]
    refine leafF (step23_o c now sure (oCs cs t) (ts.set c.toNat (oT cs t)) (us.set c.toNat (oU cs t u)) (busy.set c.toNat false)) ?_ (hobj _)
    show (step23_fin c now sure cs ts us busy).val = _
    rw [hfin]
    simp only [RT.val, hi, cond_false, Bool.not_false]
noncomputable def step23_d (env : Env RC) (os : List (Obj RC)) : Option (Bool × step23_St) := match env, os with
  | [(0, .ptr 0 []), (1, .int .i64 c)], [.var 46 (.acons (.acons (.sl .int false cs) (.acons (.acons (.sl .sector false now) (.acons (.sl .sector false sure) .anil)) .anil)) (.acons (.arr .task 4 ts) (.acons (.arr .task 4 us) (.acons (.arr .bool 4 busy) .anil))))] => staticD (true) (cdec (0 ≤ c ∧ c ≤ 3 ∧ ts.length = 4 ∧ us.length = 4 ∧ OkStepO c cs (tkC ts c) (tkC us c) now sure), ⟨c, now, sure, cs, ts, us, busy⟩)
  | _, _ => none
noncomputable def uh_1 := ug_6.addObj 13 (sumF s23 [.slot 0 0] 2 step23_S step23_d)
theorem uh_1_laws : FLaws Tryz.prog s23 uh_1 := by
  refine ug_6_laws.addFun s23_laws step23_S 60 2 [.slot 0 0] step23_d (fun q hI => ?_) ?_
  · obtain ⟨c, now, sure, cs, ts, us, busy⟩ := q
    refine ⟨?_, ?_, rfl, step23_ok c now sure cs ts us busy hI⟩
    · simp [RefsOK, step23_S, step23_a, step23_o, eargs, D.refs, Obj.refs]
    · simp [step23_S, step23_fin, step23_o, RT.refsOK, RefsOK, D.refs, Obj.refs]
  · intro env os b q hd_ hb
    unfold step23_d at hd_
    split at hd_
    · obtain ⟨hs, hd_⟩ := staticD_some hd_
      cases hd_
      try simp only [Bool.and_eq_true, decide_eq_true_eq] at hb
      exact ⟨cdec_iff.1 hb, rfl, rfl⟩
    · cases hd_
def ansO (s : OS) (x dd : Int) : List Int × Bool := if dd = 2 ∧ oBusy s (x % 4) = true then (bif (endO s (x % 4)).is then [] else (endO s (x % 4)).got, !(endO s (x % 4)).is) else ([], false)
structure OkPickO (s : OS) (now sure : List Sector) (c : Int) : Prop where
  lc : s.cs.length = 771
  lt : s.ts.length = 4
  lu : s.us.length = 4
  lb : s.busy.length = 4
  lk : s.kind.length = 4
  lo : s.opn.length = 4
  ls : s.start.length = 4
  f0 : 0 ≤ frC s.cs
  f1 : frC s.cs ≤ 1000000
  st : oBusy s c = true → OkStepO c s.cs (tkC s.ts c) (tkC s.us c) now sure
structure PickO (s : OS) (most kk x dd most' : Int) : Prop where
  ok : ∀ now sure, diskOK now sure = true → goodL now = true → goodL sure = true → OkPickO s now sure (x % 4)
  oi : OI (pickO s x dd) most' (kk + 1)
  ans : (ansO s x dd).2 = false ∧ most' = most ∨ (ansO s x dd).2 = true ∧ ∃ a, (ansO s x dd).1 = [a] ∧ (oKind (pickO s x dd) (x % 4) = 0 ∧ most' = most ∨ oKind (pickO s x dd) (x % 4) = 1 ∧ most' = max most a)
  mr : mkC s.cs ≤ mkC (pickO s x dd).cs
theorem stepQ_kind (s : OS) (c : Int) : (stepQ s c).kind = s.kind := by
  unfold stepQ
  split <;> rfl
theorem OI.okPick {s : OS} {most kk : Int} (h : OI s most kk) (x : Int) : ∀ now sure, diskOK now sure = true → goodL now = true → goodL sure = true → OkPickO s now sure (x % 4) := fun now sure d1 d2 d3 => by
  have c0 : 0 ≤ x % 4 := Int.emod_nonneg _ (by decide)
  have c3 : x % 4 < 4 := Int.emod_lt_of_pos _ (by decide)
  have hm := h.oc.mr
  refine ⟨h.oc.len, h.lt, h.lu, h.lb, h.lk, h.lo, h.ls, by omega, h.oc.fr, fun hb => ?_⟩
  obtain ⟨m, hs⟩ := h.step c0 (by omega) hb
  exact hs.ok now sure d1 d2 d3
theorem OI.begin {s : OS} {most kk : Int} (h : OI s most kk) {c kd : Int} (c0 : 0 ≤ c) (c3 : c ≤ 3) (hk : kd = 0 ∨ kd = 1) (hb : oBusy s c = false) (ho : kd = 1 ∨ opB s.opn c.toNat = false) : OI (beginO s c kd) most kk := by
  have hcn : c.toNat < 4 := by omega
  have hkd : ∀ c' : Int, 0 ≤ c' → (s.kind.set c.toNat kd).getD c'.toNat 0 = if c = c' then kd else oKind s c' := fun c' d0 => by
    rw [getD_set _ _ _ _ _ (by rw [h.lk]; omega)]
    by_cases e : c = c'
    · rw [if_pos (by omega), if_pos e]
    · rw [if_neg (by omega), if_neg e]; rfl
  refine ⟨h.oc, h.fk, by simp [beginO, h.lt], by simp [beginO, h.lu], by simp [beginO, h.lb], by simp [beginO, h.lk], h.lo, h.ls, h.mm, h.op, fun c' d0 d3 hb' => ?_⟩
  have hb' : (s.busy.set c.toNat true).getD c'.toNat false = true := hb'
  rw [bset h.lb hcn] at hb'
  by_cases e : c = c'
  · subst e
    refine ⟨0, c :: List.replicate 95 0, c :: List.replicate 95 0, [], ?_⟩
    rcases hk with rfl | rfl
    · refine .inl ⟨?_, ?_, ?_, ⟨rfl, rfl, ?_, .inl ⟨rfl, rfl⟩⟩, rfl⟩
      · show (s.kind.set c.toNat 0).getD c.toNat 0 = 0
        rw [hkd c c0, if_pos rfl]
      · show tkC (s.ts.set c.toNat _) c = _; rw [tkC_set h.lt c0 c3 c0, if_pos rfl]; rfl
      · show tkC (s.us.set c.toNat _) c = _; rw [tkC_set h.lu c0 c3 c0, if_pos rfl]; rfl
      · rcases ho with h | h
        · omega
        · exact h
    · refine .inr ⟨?_, ?_, ?_, ⟨rfl, rfl, .inl ⟨rfl, rfl⟩⟩, rfl⟩
      · show (s.kind.set c.toNat 1).getD c.toNat 0 = 1
        rw [hkd c c0, if_pos rfl]
      · show tkC (s.ts.set c.toNat _) c = _; rw [tkC_set h.lt c0 c3 c0, if_pos rfl]; rfl
      · show tkC (s.us.set c.toNat _) c = _; rw [tkC_set h.lu c0 c3 c0, if_pos rfl]; rfl
  · rw [if_neg (by omega)] at hb'
    have hkk : oKind (beginO s c kd) c' = oKind s c' := by
      show (s.kind.set c.toNat kd).getD c'.toNat 0 = _
      rw [hkd c' d0, if_neg e]
    have e1 : tkC (beginO s c kd).ts c' = tkC s.ts c' := by
      show tkC (s.ts.set c.toNat _) c' = _; rw [tkC_set h.lt c0 c3 d0, if_neg e]
    have e2 : tkC (beginO s c kd).us c' = tkC s.us c' := by
      show tkC (s.us.set c.toNat _) c' = _; rw [tkC_set h.lu c0 c3 d0, if_neg e]
    obtain ⟨k2, r2, q2, got2, h2⟩ := h.cl c' d0 d3 hb'
    exact ⟨k2, r2, q2, got2, by rw [hkk, e1, e2]; exact h2⟩
theorem OI.close {s : OS} {most kk : Int} (h : OI s most kk) {c : Int} (c0 : 0 ≤ c) (c3 : c ≤ 3) (hb : oBusy s c = false) : OI (closeO s c) most kk := by
  have hcn : c.toNat < 4 := by omega
  have hl := h.oc.len
  have hmk := h.oc.mr
  have hsc : ∀ i, scC (s.cs.set (9 + c.toNat) 0) i = if i = c.toNat then 0 else scC s.cs i := fun i => by
    unfold scC
    rw [getD_set _ _ _ _ _ (by omega)]
    by_cases e : i = c.toNat
    · rw [if_pos (by omega), if_pos e]
    · rw [if_neg (by omega), if_neg e]
  have hm : mkC (s.cs.set (9 + c.toNat) 0) = mkC s.cs := getD_set_ne' (by omega)
  have hf : frC (s.cs.set (9 + c.toNat) 0) = frC s.cs := getD_set_ne' (by omega)
  have hop' : ∀ i, opB (s.opn.set c.toNat false) i = if c.toNat = i then false else opB s.opn i := fun i => bset h.lo hcn
  have hoc : OC (s.cs.set (9 + c.toNat) 0) := ⟨by rw [List.length_set]; exact hl, cellsOK_set h.oc.ok (by decide), by rw [hm, hf]; exact hmk, by rw [hf]; exact h.oc.fr, fun i hi => by
    rw [hsc, hf]
    split
    · omega
    · exact h.oc.sb i hi⟩
  refine ⟨hoc, by show frC (s.cs.set _ _) ≤ kk; rw [hf]; exact h.fk, h.lt, h.lu, h.lb, h.lk, by simp [closeO, h.lo], h.ls, by show most ≤ mkC (s.cs.set _ _); rw [hm]; exact h.mm, fun i hi ho => ?_, fun c' d0 d3 hb' => ?_⟩
  · have ho : opB (s.opn.set c.toNat false) i = true := ho
    rw [hop'] at ho
    split at ho
    · cases ho
    · rename_i e
      show scC (s.cs.set _ _) i = _ ∧ _
      rw [hsc, if_neg (fun q => e q.symm)]
      exact h.op i hi ho
  · have hne : c' ≠ c := fun e => by subst e; rw [show oBusy s c' = true from hb'] at hb; cases hb
    obtain ⟨k2, r2, q2, got2, ⟨p0, p1, p2, p3, p4⟩ | ⟨p0, p1, p2, p3, p4⟩⟩ := h.cl c' d0 d3 hb'
    · exact ⟨k2, r2, q2, got2, .inl ⟨p0, p1, p2, p3.mono (by show _ ≤ frC (s.cs.set _ _); rw [hf]; exact Int.le_refl _) (by show scC (s.cs.set _ _) _ = _; rw [hsc, if_neg (by omega)]) (by show opB (s.opn.set _ _) _ = _; rw [hop', if_neg (by omega)]), p4⟩⟩
    · refine ⟨k2, r2, q2, got2, .inr ⟨p0, p1, p2, p3.mono (by show _ ≤ frC (s.cs.set _ _); rw [hf]; exact Int.le_refl _) (by show _ ≤ mkC (s.cs.set _ _); rw [hm]; exact Int.le_refl _) (fun i hi => .inl ⟨?_, rfl⟩), p4⟩⟩
      have hi : opB (s.opn.set c.toNat false) i = true := hi
      rw [hop'] at hi
      split at hi
      · cases hi
      · exact hi
theorem OI.on {s : OS} {most kk : Int} (h : OI s most kk) (hkk : kk < 1000000) : OI { s with cs := s.cs.set 0 (frC s.cs + 1) } most (kk + 1) := by
  have hl := h.oc.len
  have hmk := h.oc.mr
  have hfk := h.fk
  have hsc : ∀ i, scC (s.cs.set 0 (frC s.cs + 1)) i = scC s.cs i := fun i => getD_set_ne' (by omega)
  have hm : mkC (s.cs.set 0 (frC s.cs + 1)) = mkC s.cs := getD_set_ne' (by omega)
  have hf : frC (s.cs.set 0 (frC s.cs + 1)) = frC s.cs + 1 := getD_set_eq (by omega)
  have hoc : OC (s.cs.set 0 (frC s.cs + 1)) := ⟨by rw [List.length_set]; exact hl, cellsOK_set h.oc.ok (by omega), by rw [hm, hf]; omega, by rw [hf]; omega, fun i hi => by
    rw [hsc, hf]
    have := h.oc.sb i hi
    omega⟩
  refine ⟨hoc, by show frC (s.cs.set _ _) ≤ _; rw [hf]; omega, h.lt, h.lu, h.lb, h.lk, h.lo, h.ls, by show most ≤ mkC (s.cs.set _ _); rw [hm]; exact h.mm, fun i hi ho => ?_, fun c' d0 d3 hb' => ?_⟩
  · show scC (s.cs.set _ _) i = _ ∧ _
    rw [hsc]
    exact h.op i hi ho
  · obtain ⟨k2, r2, q2, got2, ⟨p0, p1, p2, p3, p4⟩ | ⟨p0, p1, p2, p3, p4⟩⟩ := h.cl c' d0 d3 hb'
    · exact ⟨k2, r2, q2, got2, .inl ⟨p0, p1, p2, p3.mono (by show _ ≤ frC (s.cs.set _ _); rw [hf]; omega) (hsc _) rfl, p4⟩⟩
    · exact ⟨k2, r2, q2, got2, .inr ⟨p0, p1, p2, p3.mono (by show _ ≤ frC (s.cs.set _ _); rw [hf]; omega) (by show _ ≤ mkC (s.cs.set _ _); rw [hm]; exact Int.le_refl _) (fun i hi => .inl ⟨hi, rfl⟩), p4⟩⟩
theorem OI.pick {s : OS} {most kk : Int} (h : OI s most kk) (hkk : kk < 1000000) (x dd : Int) : ∃ most', PickO s most kk x dd most' := by
  have c0 : 0 ≤ x % 4 := Int.emod_nonneg _ (by decide)
  have c3 : x % 4 < 4 := Int.emod_lt_of_pos _ (by decide)
  by_cases hst : dd = 2 ∧ oBusy s (x % 4) = true
  · obtain ⟨rfl, hb⟩ := hst
    obtain ⟨most', hS⟩ := h.step c0 (by omega) hb
    have hP : pickO s x 2 = stepQ s (x % 4) := by
      show (if oBusy s (x % 4) = true then stepQ s (x % 4) else s) = _; rw [if_pos hb]
    have hA : ansO s x 2 = (bif (endO s (x % 4)).is then [] else (endO s (x % 4)).got, !(endO s (x % 4)).is) := by unfold ansO; rw [if_pos ⟨rfl, hb⟩]
    refine ⟨most', h.okPick x, by rw [hP]; exact hS.oi.more (by omega), ?_, by rw [hP]; exact hS.mr⟩
    rw [hA, hP]
    have hk : oKind (stepQ s (x % 4)) (x % 4) = oKind s (x % 4) := by unfold oKind; rw [stepQ_kind]
    rw [hk]
    rcases hS.ans with ⟨e, e2⟩ | ⟨e, a, e1, e2⟩
    · rw [e]; exact .inl ⟨rfl, e2⟩
    · rw [e]; exact .inr ⟨rfl, a, e1, e2⟩
  · have hA : ansO s x dd = ([], false) := by unfold ansO; rw [if_neg hst]
    have key : OI (pickO s x dd) most (kk + 1) ∧ mkC s.cs ≤ mkC (pickO s x dd).cs := by
      unfold pickO
      split
      · rename_i h01
        split
        · rename_i hb
          exact ⟨(h.begin c0 (by omega) h01 hb.1 hb.2).more (by omega), Int.le_refl _⟩
        · exact ⟨h.more (by omega), Int.le_refl _⟩
      split
      · rename_i h2
        rw [if_neg (fun q => hst ⟨h2, q⟩)]
        exact ⟨h.more (by omega), Int.le_refl _⟩
      split
      · split
        · rename_i hb
          refine ⟨(h.close c0 (by omega) hb.2).more (by omega), ?_⟩
          show mkC s.cs ≤ mkC (s.cs.set _ _)
          have : mkC (s.cs.set (9 + (x % 4).toNat) 0) = mkC s.cs := getD_set_ne' (by omega)
          rw [this]; exact Int.le_refl _
        · exact ⟨h.more (by omega), Int.le_refl _⟩
      split
      · refine ⟨h.on hkk, ?_⟩
        show mkC s.cs ≤ mkC (s.cs.set _ _)
        have : mkC (s.cs.set 0 (frC s.cs + 1)) = mkC s.cs := getD_set_ne' (by omega)
        rw [this]; exact Int.le_refl _
      · exact ⟨h.more (by omega), Int.le_refl _⟩
    exact ⟨most, h.okPick x, key.1, by rw [hA]; exact .inl ⟨rfl, rfl⟩, key.2⟩
def os0 : OS := ⟨newCells, List.replicate 4 ⟨0, [], [], false⟩, List.replicate 4 ⟨0, [], [], false⟩, List.replicate 4 false, List.replicate 4 0, List.replicate 4 false, List.replicate 4 0⟩
theorem OI.init : OI os0 0 0 := by
  refine ⟨⟨by kernel_rfl, by kernel_rfl, ?_, by decide, fun i hi => ?_⟩, by decide, rfl, rfl, rfl, rfl, rfl, rfl, by decide, fun i hi ho => ?_, fun c c0 c3 hb => ?_⟩
  · exact ⟨by decide, by decide⟩
  · obtain rfl | rfl | rfl | rfl : i = 0 ∨ i = 1 ∨ i = 2 ∨ i = 3 := by omega
    all_goals exact ⟨by decide, by decide⟩
  · obtain rfl | rfl | rfl | rfl : i = 0 ∨ i = 1 ∨ i = 2 ∨ i = 3 := by omega
    all_goals cases ho
  · obtain rfl | rfl | rfl | rfl : c = 0 ∨ c = 1 ∨ c = 2 ∨ c = 3 := by omega
    all_goals cases hb
open Go.Proofs
def ansC (s : OS) (x dd : Int) : Bool := if dd = 2 ∧ oBusy s (x % 4) = true then (endO s (x % 4)).is else true
structure pick23_St where
  x : Int
  dd : Int
  now : List Sector
  sure : List Sector
  cs : List Int
  ts : List Task
  us : List Task
  busy : List Bool
  kind : List Int
  opn : List Bool
  start : List Int
def pick23_a (x : Int) (dd : Int) (now : List Sector) (sure : List Sector) (cs : List Int) (ts : List Task) (us : List Task) (busy : List Bool) (kind : List Int) (opn : List Bool) (start : List Int) : List (D RC) := [.ptr 0 [], .acons (.int .i64 x) (.acons (.int .i64 dd) .anil)]
def pick23_o (x : Int) (dd : Int) (now : List Sector) (sure : List Sector) (cs : List Int) (ts : List Task) (us : List Task) (busy : List Bool) (kind : List Int) (opn : List Bool) (start : List Int) : List (Obj RC) := [.var 30 (.acons (.ptr 1 []) (.acons (.arr (C := RC) .int 4 kind) (.acons (.arr (C := RC) .bool 4 opn) (.acons (.arr (C := RC) .int 4 start) .anil)))), .var 46 (.acons (.acons (.sl (C := RC) .int false cs) (.acons (.acons (.sl (C := RC) .sector false now) (.acons (.sl (C := RC) .sector false sure) .anil)) .anil)) (.acons (.arr (C := RC) .task 4 ts) (.acons (.arr (C := RC) .task 4 us) (.acons (.arr (C := RC) .bool 4 busy) .anil))))]
noncomputable def pick23_r (x : Int) (dd : Int) (now : List Sector) (sure : List Sector) (cs : List Int) (ts : List Task) (us : List Task) (busy : List Bool) (kind : List Int) (opn : List Bool) (start : List Int) := fnO s23 uh_1 10 60 2 (pick23_a x dd now sure cs ts us busy kind opn start) (pick23_o x dd now sure cs ts us busy kind opn start)
theorem pick23_eq (x : Int) (dd : Int) (now : List Sector) (sure : List Sector) (cs : List Int) (ts : List Task) (us : List Task) (busy : List Bool) (kind : List Int) (opn : List Bool) (start : List Int) : pick23_r x dd now sure cs ts us busy kind opn start = (let Z0 : Int := Int.tmod (IntKind.wrap .i64 (Int.tmod x (4 : Int) + (4 : Int))) (4 : Int); let Z1 : Bool := decide ((0 : Int) ≤ Z0 ∧ Z0 < (4 : Int)); let Z2 : Nat := Int.toNat Z0; let Z3 : Bool := List.getD busy Z2 false; let Z4 : Int := List.getD [(92 : Int), (93 : Int)] dd.toNat (0 : Int); let Z5 : D RC := .anil; let Z6 : D RC := D.acons (D.bool true) Z5; let Z7 : D RC := D.tup (D.acons (D.int .i64 Z0) (.acons (D.sl RTy.int true []) (.acons (D.bool false) Z6))); let Z8 : D RC := D.ptr 1 []; let Z9 : D RC := D.acons (D.arr RTy.int (4 : Nat) start) Z5; let Z10 : D RC := D.acons (D.arr RTy.bool (4 : Nat) opn) Z9; let Z11 : Option (Obj RC) := some (Obj.var 30 (.acons Z8 (D.acons (D.arr RTy.int (4 : Nat) (List.set kind Z2 dd)) Z10))); let Z12 : D RC := D.acons (D.acons (D.sl RTy.sector false now) (.acons (D.sl RTy.sector false sure) Z5)) Z5; let Z13 : D RC := D.acons (D.sl RTy.int false cs) Z12; let Z14 : D RC := D.acons (D.arr RTy.task (4 : Nat) ts) (.acons (D.arr RTy.task (4 : Nat) us) (.acons (D.arr RTy.bool (4 : Nat) busy) Z5)); let Z15 : List (Option (Obj RC)) := [some (Obj.var 46 (.acons Z13 Z14))]; let Z16 : Task := Task.mk Z0 [Frame.mk Z4 (0 : Int) (Z0 :: List.replicate (95 : Nat) (0 : Int))] [] false; let Z17 : Option (D RC × List (Option (Obj RC))) := none; let Z18 : Option (D RC × List (Option (Obj RC))) := bif Z1 then bif decide ((0 : Int) ≤ dd ∧ dd < (2 : Int)) then bif decide ((0 : Int) ≤ Z0 ∧ Z0 ≤ (3 : Int) ∧ (0 : Int) ≤ Z4) then bif Z1 then bif Z3 then some (Z7, Z11 :: Z15) else bif Z1 then bif Z1 then bif Z1 then some (Z7, [Z11, some (Obj.var 46 (.acons Z13 (D.acons (D.arr RTy.task (4 : Nat) (List.set ts Z2 Z16)) (.acons (D.arr RTy.task (4 : Nat) (List.set us Z2 Z16)) (.acons (D.arr RTy.bool (4 : Nat) (List.set busy Z2 true)) Z5)))))]) else Z17 else Z17 else Z17 else Z17 else Z17 else Z17 else Z17; let Z19 : D RC := D.arr RTy.int (4 : Nat) kind; let Z20 : Option (Obj RC) := some (Obj.var 30 (.acons Z8 (D.acons Z19 Z10))); let Z21 : Option (D RC × List (Option (Obj RC))) := some (Z7, Z20 :: Z15); let Z22 : Task := tkC ts Z0; let Z23 : Bool := GoR4.is (oE cs Z22); let Z24 : List Int := bif Z23 then [] else GoR4.got (oE cs Z22); let Z25 : Int := (↑Z24.length : Int); let Z26 : D RC := D.tup (D.acons (D.int .i64 Z0) (.acons (D.sl RTy.int Z23 Z24) (.acons (D.bool !Z23) Z6))); let Z27 : List (Option (Obj RC)) := [some (Obj.var 46 (.acons (D.acons (D.sl RTy.int false (oCs cs Z22)) Z12) (.acons (D.arr RTy.task (4 : Nat) (List.set ts Z2 (oT cs Z22))) (.acons (D.arr RTy.task (4 : Nat) (List.set us Z2 (oU cs Z22 (tkC us Z0)))) (.acons (D.arr RTy.bool (4 : Nat) (bif Z23 then busy else List.set busy Z2 false)) Z5)))))]; let Z28 : Nat := (0 : Nat) + List.length cs; let Z29 : List Int := List.replicate (0 : Nat) (0 : Int) ++ cs; let Z30 : Bool := Nat.beq Z28 Z29.length; let Z31 : Int := lRow (9 : Int) Z0 (4 : Int); let Z32 : Int := (↑Z29.length : Int); let Z33 : List Int := List.set Z29 Z31.toNat (0 : Int); let Z34 : Bool := Z30 && decide ((0 : Int) ≤ (0 : Int) ∧ (0 : Int) < Z32); let Z35 : List Int := List.set Z29 (0 : Nat) (IntKind.wrap .i64 (List.getD Z29 (0 : Nat) (0 : Int) + (1 : Int))); bif bif dd == (0 : Int) then true else dd == (1 : Int) then bif Z1 then bif !Z3 then bif dd == (1 : Int) then Z18 else bif Z1 then bif !List.getD opn Z2 false then Z18 else Z21 else Z17 else Z21 else Z17 else bif dd == (2 : Int) then bif Z1 then bif Z3 then bif cdec ((0 : Int) ≤ Z0 ∧ Z0 ≤ (3 : Int) ∧ List.length ts = (4 : Nat) ∧ List.length us = (4 : Nat) ∧ OkStepO Z0 cs Z22 (tkC us Z0) now sure) then bif !Z23 then bif Z1 then bif List.getD kind Z2 (0 : Int) == (0 : Int) then bif lenOK Z24.length then bif Z25 == (1 : Int) then bif Z1 then bif decide ((0 : Int) ≤ (0 : Int) ∧ (0 : Int) < Z25) then bif Z1 then some (Z26, some (Obj.var 30 (.acons Z8 (D.acons Z19 (D.acons (D.arr RTy.bool (4 : Nat) (List.set opn Z2 true)) (.acons (D.arr RTy.int (4 : Nat) (List.set start Z2 (List.getD Z24 (0 : Nat) (0 : Int)))) Z5))))) :: Z27) else Z17 else Z17 else Z17 else some (Z26, Z20 :: Z27) else Z17 else some (Z26, Z20 :: Z27) else Z17 else some (Z26, Z20 :: Z27) else Z17 else Z21 else Z17 else bif dd == (3 : Int) then bif Z1 then bif List.getD opn Z2 false then bif Z1 then bif !Z3 then bif Z1 then bif sizeOK Z28 (8 : Nat) then bif Z30 && decide ((0 : Int) ≤ Z31 ∧ Z31 < Z32) then bif Z30 then bif Nat.beq Z28 Z33.length then some (Z7, [some (Obj.var 30 (.acons Z8 (D.acons Z19 (D.acons (D.arr RTy.bool (4 : Nat) (List.set opn Z2 false)) Z9)))), some (Obj.var 46 (.acons (D.acons (D.sl RTy.int false Z33) Z12) Z14))]) else Z17 else Z17 else Z17 else Z17 else Z17 else Z21 else Z17 else Z21 else Z17 else bif dd == (4 : Int) then bif sizeOK Z28 (8 : Nat) then bif Z34 then bif Z30 then bif Z34 then bif Z30 then bif Nat.beq Z28 Z35.length then some (Z7, [Z20, some (Obj.var 46 (.acons (D.acons (D.sl RTy.int false Z35) Z12) Z14))]) else Z17 else Z17 else Z17 else Z17 else Z17 else Z17 else Z21) := by kernel_rfl
noncomputable def pick23_fin (x : Int) (dd : Int) (now : List Sector) (sure : List Sector) (cs : List Int) (ts : List Task) (us : List Task) (busy : List Bool) (kind : List Int) (opn : List Bool) (start : List Int) : RT RC := .leaf .ret [(0, .tup (.acons (.int .i64 (x % 4)) (.acons (.sl (C := RC) .int (ansC ⟨cs, ts, us, busy, kind, opn, start⟩ x dd) (ansO ⟨cs, ts, us, busy, kind, opn, start⟩ x dd).1) (.acons (.bool (ansO ⟨cs, ts, us, busy, kind, opn, start⟩ x dd).2) (.acons (.bool true) .anil)))))] (pick23_o x dd now sure (pickO ⟨cs, ts, us, busy, kind, opn, start⟩ x dd).cs (pickO ⟨cs, ts, us, busy, kind, opn, start⟩ x dd).ts (pickO ⟨cs, ts, us, busy, kind, opn, start⟩ x dd).us (pickO ⟨cs, ts, us, busy, kind, opn, start⟩ x dd).busy (pickO ⟨cs, ts, us, busy, kind, opn, start⟩ x dd).kind (pickO ⟨cs, ts, us, busy, kind, opn, start⟩ x dd).opn (pickO ⟨cs, ts, us, busy, kind, opn, start⟩ x dd).start)
def pick23_Inv (x : Int) (dd : Int) (now : List Sector) (sure : List Sector) (cs : List Int) (ts : List Task) (us : List Task) (busy : List Bool) (kind : List Int) (opn : List Bool) (start : List Int) : Prop := OkPickO ⟨cs, ts, us, busy, kind, opn, start⟩ now sure (x % 4) ∧ (diskOK now sure = true ∧ goodL now = true ∧ goodL sure = true)
noncomputable def pick23_S : FunR RC pick23_St where
  k := 2
  args q := pick23_a q.x q.dd q.now q.sure q.cs q.ts q.us q.busy q.kind q.opn q.start
  objs q := pick23_o q.x q.dd q.now q.sure q.cs q.ts q.us q.busy q.kind q.opn q.start
  fin q := pick23_fin q.x q.dd q.now q.sure q.cs q.ts q.us q.busy q.kind q.opn q.start
  Inv q := pick23_Inv q.x q.dd q.now q.sure q.cs q.ts q.us q.busy q.kind q.opn q.start
theorem leafT {α : Type} {c : Bool} {x y : Option α} {P : α → Prop} (h : c = true) (hx : Leaf x P) : Leaf (cond c x y) P := by rw [h]; exact hx
theorem leafN {α : Type} {c : Bool} {x y : Option α} {P : α → Prop} (h : c = false) (hx : Leaf y P) : Leaf (cond c x y) P := by rw [h]; exact hx
theorem pick23_leaf {x dd : Int} {now sure : List Sector} {cs : List Int} {ts us : List Task} {busy : List Bool} {kind : List Int} {opn : List Bool} {start : List Int} {os : List (Option (Obj RC))} (H : OS) (a : List Int) (b f : Bool) (hG : pickO ⟨cs, ts, us, busy, kind, opn, start⟩ x dd = H)
    (hA : ansO ⟨cs, ts, us, busy, kind, opn, start⟩ x dd = (a, b)) (hC : ansC ⟨cs, ts, us, busy, kind, opn, start⟩ x dd = f) (hos : os = (pick23_o x dd now sure H.cs H.ts H.us H.busy H.kind H.opn H.start).map some) :
    Leaf (some (D.tup (.acons (.int .i64 (x % 4)) (.acons (.sl (C := RC) .int f a) (.acons (.bool b) (.acons (.bool true) .anil)))), os)) (LedF pick23_S ⟨x, dd, now, sure, cs, ts, us, busy, kind, opn, start⟩) :=
  leafF _ (by show (pick23_fin x dd now sure cs ts us busy kind opn start).val = _; unfold pick23_fin; rw [hG, hA, hC]; rfl) hos
theorem pick23_ok (x : Int) (dd : Int) (now : List Sector) (sure : List Sector) (cs : List Int) (ts : List Task) (us : List Task) (busy : List Bool) (kind : List Int) (opn : List Bool) (start : List Int) (hI : pick23_Inv x dd now sure cs ts us busy kind opn start) : Leaf (pick23_r x dd now sure cs ts us busy kind opn start) (LedF pick23_S ⟨x, dd, now, sure, cs, ts, us, busy, kind, opn, start⟩) := by
  (rw [pick23_eq]; conv => zeta)
  unfold pick23_Inv at hI
  obtain ⟨⟨lc, lt, lu, lb, lk, lo, ls, f0, f1, hst⟩, hd⟩ := hI
  simp only [frC, oBusy] at lc lt lu lb lk lo ls f0 f1 hst
  have hc1 : 0 ≤ x % 4 := Int.emod_nonneg _ (by decide)
  have hc2 : x % 4 < 4 := Int.emod_lt_of_pos _ (by decide)
  simp only [mod4]
  have c1 : decide ((0 : Int) ≤ x % 4 ∧ x % 4 < 4) = true := decide_eq_true ⟨hc1, hc2⟩
  have hL : lRow 9 (x % 4) 4 = 9 + x % 4 := by rw [lRow, if_pos ⟨hc1, hc2⟩]
  have hn : (9 + x % 4).toNat = 9 + (x % 4).toNat := by omega
  have e3 : sizeOK (0 + cs.length) 8 = true := sizeT (by omega)
  have noA : ∀ dd : Int, ¬ (dd = 2 ∧ busy.getD (x % 4).toNat false = true) → ansO ⟨cs, ts, us, busy, kind, opn, start⟩ x dd = ([], false) := fun dd h => if_neg h
  have noC : ∀ dd : Int, ¬ (dd = 2 ∧ busy.getD (x % 4).toNat false = true) → ansC ⟨cs, ts, us, busy, kind, opn, start⟩ x dd = true := fun dd h => if_neg h
  by_cases d0 : dd = 0
  · subst d0
    have hno : ¬ ((0 : Int) = 2 ∧ busy.getD (x % 4).toNat false = true) := fun h => absurd h.1 (by decide)
    refine leafT rfl (leafT c1 ?_)
    cases hb : busy.getD (x % 4).toNat false with
    | true =>
      refine leafN rfl ?_
      exact pick23_leaf ⟨cs, ts, us, busy, kind, opn, start⟩ [] false true (by show (if oBusy _ _ = false ∧ _ then _ else _) = _; rw [if_neg (fun q => by rw [show oBusy ⟨cs, ts, us, busy, kind, opn, start⟩ (x % 4) = true from hb] at q; cases q.1)]) (noA _ hno) (noC _ hno) rfl
    | false =>
      refine leafT rfl (leafN rfl (leafT c1 ?_))
      cases ho : opn.getD (x % 4).toNat false with
      | true =>
        refine leafN rfl ?_
        exact pick23_leaf ⟨cs, ts, us, busy, kind, opn, start⟩ [] false true (by show (if oBusy _ _ = false ∧ _ then _ else _) = _; rw [if_neg (fun q => by
          rcases q.2 with q | q
          · exact absurd q (by decide)
          · rw [show opB opn (x % 4).toNat = true from ho] at q; cases q)]) (noA _ hno) (noC _ hno) rfl
      | false =>
        refine leafT rfl (leafT c1 (leafT rfl (leafT (decide_eq_true ⟨hc1, by omega, by decide⟩) (leafT c1 (leafN rfl (leafT c1 (leafT c1 (leafT c1 ?_))))))))
        exact pick23_leaf (beginO ⟨cs, ts, us, busy, kind, opn, start⟩ (x % 4) 0) [] false true (by show (if oBusy _ _ = false ∧ _ then _ else _) = _; rw [if_pos ⟨hb, .inr ho⟩]) (noA _ hno) (noC _ hno) rfl
  by_cases d1 : dd = 1
  · subst d1
    have hno : ¬ ((1 : Int) = 2 ∧ busy.getD (x % 4).toNat false = true) := fun h => absurd h.1 (by decide)
    refine leafT rfl (leafT c1 ?_)
    cases hb : busy.getD (x % 4).toNat false with
    | true =>
      refine leafN rfl ?_
      exact pick23_leaf ⟨cs, ts, us, busy, kind, opn, start⟩ [] false true (by show (if oBusy _ _ = false ∧ _ then _ else _) = _; rw [if_neg (fun q => by rw [show oBusy ⟨cs, ts, us, busy, kind, opn, start⟩ (x % 4) = true from hb] at q; cases q.1)]) (noA _ hno) (noC _ hno) rfl
    | false =>
      refine leafT rfl (leafT rfl (leafT c1 (leafT rfl (leafT (decide_eq_true ⟨hc1, by omega, by decide⟩) (leafT c1 (leafN rfl (leafT c1 (leafT c1 (leafT c1 ?_)))))))))
      exact pick23_leaf (beginO ⟨cs, ts, us, busy, kind, opn, start⟩ (x % 4) 1) [] false true (by show (if oBusy _ _ = false ∧ _ then _ else _) = _; rw [if_pos ⟨hb, .inl rfl⟩]) (noA _ hno) (noC _ hno) rfl
  refine leafN (by rw [ibeqF d0, ibeqF d1]; rfl) ?_
  by_cases d2 : dd = 2
  · subst d2
    refine leafT rfl (leafT c1 ?_)
    cases hb : busy.getD (x % 4).toNat false with
    | false =>
      refine leafN rfl ?_
      have hno : ¬ ((2 : Int) = 2 ∧ busy.getD (x % 4).toNat false = true) := fun h => by rw [hb] at h; cases h.2
      exact pick23_leaf ⟨cs, ts, us, busy, kind, opn, start⟩ [] false true (by show (if oBusy _ _ = true then _ else _) = _; rw [if_neg (fun q => by rw [show oBusy ⟨cs, ts, us, busy, kind, opn, start⟩ (x % 4) = false from hb] at q; cases q)]) (noA _ hno) (noC _ hno) rfl
    | true =>
      have ho := hst hb
      refine leafT rfl (leafT (cdec_true ⟨hc1, by omega, lt, lu, ho⟩) ?_)
      have hP : pickO ⟨cs, ts, us, busy, kind, opn, start⟩ x 2 = stepQ ⟨cs, ts, us, busy, kind, opn, start⟩ (x % 4) := by
        show (if oBusy _ _ = true then _ else _) = _; exact if_pos hb
      have hQ : stepQ ⟨cs, ts, us, busy, kind, opn, start⟩ (x % 4) = if (oE cs (tkC ts (x % 4))).is = false ∧ kind.getD (x % 4).toNat 0 = 0 ∧ (oE cs (tkC ts (x % 4))).got.length = 1 then ⟨oCs cs (tkC ts (x % 4)), ts.set (x % 4).toNat (oT cs (tkC ts (x % 4))), us.set (x % 4).toNat (oU cs (tkC ts (x % 4)) (tkC us (x % 4))), bif (oE cs (tkC ts (x % 4))).is then busy else busy.set (x % 4).toNat false, kind, opn.set (x % 4).toNat true, start.set (x % 4).toNat ((oE cs (tkC ts (x % 4))).got.getD 0 0)⟩
        else ⟨oCs cs (tkC ts (x % 4)), ts.set (x % 4).toNat (oT cs (tkC ts (x % 4))), us.set (x % 4).toNat (oU cs (tkC ts (x % 4)) (tkC us (x % 4))), bif (oE cs (tkC ts (x % 4))).is then busy else busy.set (x % 4).toNat false, kind, opn, start⟩ := rfl
      have hA : ansO ⟨cs, ts, us, busy, kind, opn, start⟩ x 2 = (bif (oE cs (tkC ts (x % 4))).is then [] else (oE cs (tkC ts (x % 4))).got, !(oE cs (tkC ts (x % 4))).is) := by
        exact if_pos ⟨rfl, hb⟩
      have hC : ansC ⟨cs, ts, us, busy, kind, opn, start⟩ x 2 = (oE cs (tkC ts (x % 4))).is := by
        exact if_pos ⟨rfl, hb⟩
      have hend : (oE cs (tkC ts (x % 4))).is = false → (oE cs (tkC ts (x % 4))).got.length = 1 := fun hi => (goO_end ho.a2 hi).2.1
      generalize oE cs (tkC ts (x % 4)) = E at *
      cases hi : E.is with
      | true =>
        rw [hi] at hQ hA hC
        rw [if_neg (fun q => by cases q.1)] at hQ
        refine leafN rfl ?_
        exact pick23_leaf _ [] false true (hP.trans hQ) hA hC rfl
      | false =>
        have hl := hend hi
        rw [hi] at hQ hA hC
        refine leafT rfl (leafT c1 ?_)
        by_cases hk : kind.getD (x % 4).toNat 0 = 0
        · rw [if_pos ⟨rfl, hk, hl⟩] at hQ
          refine leafT (ibeqT hk) (leafT (lenOK_of (by rw [cond_false]; omega)) (leafT (ibeqT (by rw [cond_false]; omega)) (leafT c1 (leafT (decide_eq_true ⟨Int.le_refl _, by rw [cond_false]; omega⟩) (leafT c1 ?_)))))
          exact pick23_leaf _ E.got true false (hP.trans hQ) hA hC rfl
        · rw [if_neg (fun q => hk q.2.1)] at hQ
          refine leafN (ibeqF hk) ?_
          exact pick23_leaf _ E.got true false (hP.trans hQ) hA hC rfl
  refine leafN (ibeqF d2) ?_
  have hno : ¬ (dd = 2 ∧ busy.getD (x % 4).toNat false = true) := fun h => d2 h.1
  have hP : pickO ⟨cs, ts, us, busy, kind, opn, start⟩ x dd = if dd = 3 then (if opB opn (x % 4).toNat = true ∧ oBusy ⟨cs, ts, us, busy, kind, opn, start⟩ (x % 4) = false then closeO ⟨cs, ts, us, busy, kind, opn, start⟩ (x % 4) else ⟨cs, ts, us, busy, kind, opn, start⟩) else if dd = 4 then ⟨cs.set 0 (frC cs + 1), ts, us, busy, kind, opn, start⟩ else ⟨cs, ts, us, busy, kind, opn, start⟩ := by
    unfold pickO; rw [if_neg (by omega), if_neg d2]
  by_cases d3 : dd = 3
  · subst d3
    rw [if_pos rfl] at hP
    refine leafT rfl (leafT c1 ?_)
    cases ho : opn.getD (x % 4).toNat false with
    | false =>
      refine leafN rfl ?_
      exact pick23_leaf _ [] false true (hP.trans (if_neg (fun q => by rw [show opB opn (x % 4).toNat = false from ho] at q; cases q.1))) (noA _ hno) (noC _ hno) rfl
    | true =>
      refine leafT rfl (leafT c1 ?_)
      cases hb : busy.getD (x % 4).toNat false with
      | true =>
        refine leafN rfl ?_
        exact pick23_leaf _ [] false true (hP.trans (if_neg (fun q => by rw [show oBusy ⟨cs, ts, us, busy, kind, opn, start⟩ (x % 4) = true from hb] at q; cases q.2))) (noA _ hno) (noC _ hno) rfl
      | false =>
        have hP := hP.trans (if_pos ⟨ho, hb⟩)
        rw [hL]
        simp only [List.replicate_zero, List.nil_append, List.length_set]
        have e5 : (Nat.beq (0 + cs.length) cs.length && decide (0 ≤ 9 + x % 4 ∧ 9 + x % 4 < (cs.length : Int))) = true := by
          rw [nbeqT (by omega), decide_eq_true ⟨by omega, by omega⟩]; rfl
        refine leafT rfl (leafT c1 (leafT e3 (leafT e5 (leafT (nbeqT (by omega)) (leafT (nbeqT (by omega)) ?_)))))
        rw [hn]
        exact pick23_leaf _ [] false true hP (noA _ hno) (noC _ hno) rfl
  rw [if_neg d3] at hP
  refine leafN (ibeqF d3) ?_
  by_cases d4 : dd = 4
  · subst d4
    rw [if_pos rfl] at hP
    simp only [List.replicate_zero, List.nil_append, List.length_set]
    have e5 : (Nat.beq (0 + cs.length) cs.length && decide ((0 : Int) ≤ 0 ∧ (0 : Int) < (cs.length : Int))) = true := by
      rw [nbeqT (by omega), decide_eq_true ⟨by omega, by omega⟩]; rfl
    refine leafT rfl (leafT e3 (leafT e5 (leafT (nbeqT (by omega)) (leafT e5 (leafT (nbeqT (by omega)) (leafT (nbeqT (by omega)) ?_))))))
    have v : IntKind.i64.wrap (cs.getD 0 0 + 1) = frC cs + 1 := wrap_id (by omega) (by omega)
    rw [v]
    exact pick23_leaf _ [] false true hP (noA _ hno) (noC _ hno) rfl
  · rw [if_neg d4] at hP
    refine leafN (ibeqF d4) ?_
    exact pick23_leaf _ [] false true hP (noA _ hno) (noC _ hno) rfl
noncomputable def pick23_d (env : Env RC) (os : List (Obj RC)) : Option (Bool × pick23_St) := match env, os with
  | [(0, .ptr 0 []), (1, .acons (.int .i64 x) (.acons (.int .i64 dd) .anil))], [.var 30 (.acons (.ptr 1 []) (.acons (.arr .int 4 kind) (.acons (.arr .bool 4 opn) (.acons (.arr .int 4 start) .anil)))), .var 46 (.acons (.acons (.sl .int false cs) (.acons (.acons (.sl .sector false now) (.acons (.sl .sector false sure) .anil)) .anil)) (.acons (.arr .task 4 ts) (.acons (.arr .task 4 us) (.acons (.arr .bool 4 busy) .anil))))] => staticD (true) (cdec (OkPickO ⟨cs, ts, us, busy, kind, opn, start⟩ now sure (x % 4) ∧ (diskOK now sure = true ∧ goodL now = true ∧ goodL sure = true)), ⟨x, dd, now, sure, cs, ts, us, busy, kind, opn, start⟩)
  | _, _ => none
noncomputable def ui_1 := uh_1.addObj 10 (sumF s23 [.slot 0 0, .path 0 [0]] 2 pick23_S pick23_d)
theorem ui_1_laws : FLaws Tryz.prog s23 ui_1 := by
  refine uh_1_laws.addFun s23_laws pick23_S 60 2 [.slot 0 0, .path 0 [0]] pick23_d (fun q hI => ?_) ?_
  · obtain ⟨x, dd, now, sure, cs, ts, us, busy, kind, opn, start⟩ := q
    refine ⟨?_, ?_, rfl, pick23_ok x dd now sure cs ts us busy kind opn start hI⟩
    · simp [RefsOK, pick23_S, pick23_a, pick23_o, eargs, D.refs, Obj.refs]
    · simp [pick23_S, pick23_fin, pick23_o, RT.refsOK, RefsOK, D.refs, Obj.refs]
  · intro env os b q hd_ hb
    unfold pick23_d at hd_
    split at hd_
    · obtain ⟨hs, hd_⟩ := staticD_some hd_
      cases hd_
      try simp only [Bool.and_eq_true, decide_eq_true_eq] at hb
      exact ⟨cdec_iff.1 hb, rfl, rfl⟩
    · cases hd_
def AM (cs : List Int) (f : Int) (m : Nat) (k : Int) (r q got : List Int) : Prop :=
  r.length = 96 ∧ q.length = 96 ∧ frC cs = f ∧
  (k = 0 ∧ got = [] ∧ m = 7 ∨ k = 1 ∧ got = [f] ∧ m = 6 ∨ r.getD 0 0 = f ∧ q.getD 0 0 = f ∧
    (k = 2 ∧ got = [mkC cs] ∧ m = 5 ∨ mkC cs = f ∧
      (k = 3 ∧ got = [1] ∧ m = 4 ∨ k = 4 ∧ ∃ j : Nat, j ≤ 3 ∧ m = 3 - j ∧ r.getD 1 0 = j ∧ q.getD 2 0 = j ∧ got = [scC cs j] ∧ ∀ i, i < j → r.getD (2 + i) 0 = scC cs i ∧ q.getD (3 + i) 0 = scC cs i)))
theorem opB_nil (i : Nat) : opB [] i = false := by simp [opB]
theorem AM.jm {cs : List Int} {f : Int} {m : Nat} {k : Int} {r q got : List Int} (h : AM cs f m k r q got) (hc : OC cs) : JM cs [] [] k r q got := by
  obtain ⟨h1, h2, hf, h⟩ := h
  have hm := hc.mr
  refine ⟨h1, h2, ?_⟩
  have saw : ∀ i v w, SawIt [] [] w i v := fun i v w q => by rw [opB_nil] at q; cases q
  rcases h with ⟨a, b, _⟩ | ⟨a, b, _⟩ | ⟨e1, e2, ⟨a, b, _⟩ | ⟨e3, ⟨a, b, _⟩ | ⟨a, j, j2, _, e4, e5, b, hj⟩⟩⟩
  · exact .inl ⟨a, b⟩
  · exact .inr ⟨f, b, by omega, by omega, .inl ⟨a, by omega⟩⟩
  · exact .inr ⟨_, b, hm.1, by omega, .inr ⟨by omega, by omega, by omega, .inl ⟨a, Int.le_refl _⟩⟩⟩
  · exact .inr ⟨_, b, by decide, by omega, .inr ⟨by omega, by omega, by omega, .inr (.inl ⟨a, .inr (by omega)⟩)⟩⟩
  · have hb := hc.sb j (by omega)
    refine .inr ⟨_, b, hb.1, hb.2, .inr ⟨by omega, by omega, by omega, .inr (.inr ⟨a, by omega, j, by omega, e4, e5, fun i hi => ?_, saw _ _ _⟩)⟩⟩
    have hbi := hc.sb i (by omega)
    obtain ⟨x1, x2⟩ := hj i hi
    exact ⟨by omega, by omega, by omega, saw _ _ _⟩
structure AStep (cs : List Int) (c p k : Int) (r q got : List Int) (n : Int) (r' q' : List Int) (x : Int) (cs' : List Int) : Prop where
  ex : ∃ kd a b v, goO false [⟨p, k, r⟩] got = g4 p n r' got kd a b v 0 ∧ goO true [⟨p, k, q⟩] got = g4 p n q' got kd a b v 0 ∧ OkDo4 cs kd a b v ∧ doG4 cs kd a b = x ∧ doC4 cs kd a b v = cs'
theorem ordLoad {cs : List Int} (hc : OC cs) (a : Int) (a0 : 0 ≤ a) (a1 : a < 771) : OkDo4 cs 0 a 0 0 := ⟨.inl ⟨rfl, rfl, rfl⟩, a0, by rw [hc.len]; exact a1, by decide, by decide, by decide, by decide⟩
theorem AM.look {cs : List Int} {f : Int} {r q : List Int} (h1 : r.length = 96) (h2 : q.length = 96) (hf : frC cs = f) (e1 : r.getD 0 0 = f) (e2 : q.getD 0 0 = f) (e3 : mkC cs = f) :
    AM cs f 3 4 (r.set 1 0) (q.set 2 0) [scC cs 0] := by
  have er : (r.set 1 0).getD 0 0 = r.getD 0 0 := getD_set_ne' (by decide)
  have eq : (q.set 2 0).getD 0 0 = q.getD 0 0 := getD_set_ne' (by decide)
  exact ⟨by rw [List.length_set]; exact h1, by rw [List.length_set]; exact h2, hf, .inr (.inr ⟨by omega, by omega, .inr ⟨e3, .inr ⟨rfl, 0, by decide, rfl, getD_set_eq (by omega), getD_set_eq (by omega), rfl, fun i hi => by omega⟩⟩⟩)⟩
theorem AM.step {cs : List Int} {f : Int} {m : Nat} {k c : Int} {r q got : List Int} (h : AM cs f m k r q got) (hc : OC cs) (hm1 : 1 ≤ m) :
    ∃ n r' q' x cs', AStep cs c 93 k r q got n r' q' x cs' ∧ OC cs' ∧ JM cs' [] [] n r' q' [x] ∧ (∀ i, scC cs' i = scC cs i) ∧
      ((goO false [⟨93, n, r'⟩] [x]).is = true ∧ (∃ m', m' < m ∧ 1 ≤ m' ∧ AM cs' f m' n r' q' [x]) ∨
       goO false [⟨93, n, r'⟩] [x] = gEnd4 [flo f [scC cs' 0, scC cs' 1, scC cs' 2, scC cs' 3]] ∧ mkC cs' = f ∧ frC cs' = f) := by
  obtain ⟨h1, h2, hf, h⟩ := h
  have hl := hc.len
  have hff := hc.fr
  have hm := hc.mr
  rcases h with ⟨rfl, rfl, rfl⟩ | ⟨rfl, rfl, rfl⟩ | ⟨e1, e2, ⟨rfl, rfl, rfl⟩ | ⟨e3, ⟨rfl, rfl, rfl⟩ | ⟨rfl, j, j2, rfl, e4, e5, rfl, hj⟩⟩⟩
  · have hA : AM cs f 6 1 r q [f] := ⟨h1, h2, hf, .inr (.inl ⟨rfl, rfl, rfl⟩)⟩
    exact ⟨1, r, q, f, cs, ⟨0, 0, 0, 0, oM0 _ _ _, oM0 _ _ _, ordLoad hc 0 (by decide) (by decide), by rw [doG4_load]; exact hf, doC4_load⟩, hc, hA.jm hc, fun _ => rfl, .inl ⟨by rw [oM1]; rfl, 6, by decide, by decide, hA⟩⟩
  · have hA : AM cs f 5 2 (r.set 0 f) (q.set 0 f) [mkC cs] := ⟨by rw [List.length_set]; exact h1, by rw [List.length_set]; exact h2, hf, .inr (.inr ⟨getD_set_eq (by omega), getD_set_eq (by omega), .inl ⟨rfl, rfl, rfl⟩⟩)⟩
    refine ⟨2, r.set 0 f, q.set 0 f, mkC cs, cs, ⟨0, 3, 0, 0, oM1 _ _ _, oM1 _ _ _, ordLoad hc 3 (by decide) (by decide), by rw [doG4_load]; rfl, doC4_load⟩, hc, hA.jm hc, fun _ => rfl, .inl ⟨?_, 5, by decide, by decide, hA⟩⟩
    rw [oA2]
    split <;> rfl
  · by_cases hlt : mkC cs < f
    · have hb : cs.getD (Int.toNat 3) 0 = mkC cs := rfl
      have hmk : mkC (cs.set (Int.toNat 3) f) = f := getD_set_eq (by omega)
      have hfr : frC (cs.set (Int.toNat 3) f) = frC cs := getD_set_ne' (by decide)
      have hsc : ∀ i, scC (cs.set (Int.toNat 3) f) i = scC cs i := fun i => getD_set_ne' (by omega)
      have hoc : OC (cs.set (Int.toNat 3) f) := ⟨by rw [List.length_set]; exact hl, cellsOK_set hc.ok (by omega), by rw [hmk, hfr]; omega, by rw [hfr]; exact hff, fun i hi => by rw [hsc, hfr]; exact hc.sb i hi⟩
      have eq : (q.set 1 (mkC cs)).getD 0 0 = q.getD 0 0 := getD_set_ne' (by decide)
      have hA : AM (cs.set (Int.toNat 3) f) f 4 3 r (q.set 1 (mkC cs)) [1] := ⟨h1, by rw [List.length_set]; exact h2, by rw [hfr]; exact hf, .inr (.inr ⟨e1, by omega, .inr ⟨hmk, .inl ⟨rfl, rfl, rfl⟩⟩⟩)⟩
      refine ⟨3, r, q.set 1 (mkC cs), 1, cs.set (Int.toNat 3) f, ⟨2, 3, mkC cs, f, by rw [oA2, e1, if_pos hlt], by rw [oC2, e2, if_pos hlt], ⟨.inr (.inr (.inl rfl)), by decide, by omega, by omega, by omega, by omega, by omega⟩, by rw [doG4_cas, if_pos hb], by rw [doC4_cas, if_pos hb]⟩, hoc, hA.jm hoc, hsc, .inl ⟨?_, 4, by decide, by decide, hA⟩⟩
      rw [oA3, if_neg (by decide)]; rfl
    · have hA := AM.look h1 h2 hf e1 e2 (show mkC cs = f by omega)
      refine ⟨4, r.set 1 0, q.set 2 0, scC cs 0, cs, ⟨0, 9, 0, 0, by rw [oA2, e1, if_neg hlt], by rw [oC2, e2, if_neg hlt], ordLoad hc 9 (by decide) (by decide), by rw [doG4_load]; rfl, doC4_load⟩, hc, hA.jm hc, fun _ => rfl, .inl ⟨?_, 3, by decide, by decide, hA⟩⟩
      rw [oA4, getD_set_eq (by omega), if_neg (by decide)]; rfl
  · have hA := AM.look h1 h2 hf e1 e2 e3
    refine ⟨4, r.set 1 0, q.set 2 0, scC cs 0, cs, ⟨0, 9, 0, 0, by rw [oA3, if_neg (by decide)], by rw [oC3, if_neg (by decide)], ordLoad hc 9 (by decide) (by decide), by rw [doG4_load]; rfl, doC4_load⟩, hc, hA.jm hc, fun _ => rfl, .inl ⟨?_, 3, by decide, by decide, hA⟩⟩
    rw [oA4, getD_set_eq (by omega), if_neg (by decide)]; rfl
  · have hj2 : j ≤ 2 := by omega
    have t1 : (r.getD 1 0).toNat = j := by omega
    have t2 : (q.getD 2 0).toNat = j := by omega
    have hne : ¬ r.getD 1 0 = 3 := by omega
    have hne2 : ¬ q.getD 2 0 = 3 := by omega
    have hr0 : ((r.set (2 + j) (scC cs j)).set 1 ((j : Int) + 1)).getD 0 0 = r.getD 0 0 := by rw [getD_set_ne' (by decide), getD_set_ne' (by omega)]
    have hq0 : ((q.set (3 + j) (scC cs j)).set 2 ((j : Int) + 1)).getD 0 0 = q.getD 0 0 := by rw [getD_set_ne' (by decide), getD_set_ne' (by omega)]
    have hr1 : ((r.set (2 + j) (scC cs j)).set 1 ((j : Int) + 1)).getD 1 0 = j + 1 := getD_set_eq (by rw [List.length_set]; omega)
    have hq2 : ((q.set (3 + j) (scC cs j)).set 2 ((j : Int) + 1)).getD 2 0 = j + 1 := getD_set_eq (by rw [List.length_set]; omega)
    have hri : ∀ i, i < j + 1 → ((r.set (2 + j) (scC cs j)).set 1 ((j : Int) + 1)).getD (2 + i) 0 = scC cs i := fun i hi => by
      rw [getD_set_ne' (by omega), getD_set _ _ _ _ _ (by omega)]
      by_cases e : i = j
      · rw [if_pos (by omega), e]
      · rw [if_neg (by omega)]; exact (hj i (by omega)).1
    have hqi : ∀ i, i < j + 1 → ((q.set (3 + j) (scC cs j)).set 2 ((j : Int) + 1)).getD (3 + i) 0 = scC cs i := fun i hi => by
      rw [getD_set_ne' (by omega), getD_set _ _ _ _ _ (by omega)]
      by_cases e : i = j
      · rw [if_pos (by omega), e]
      · rw [if_neg (by omega)]; exact (hj i (by omega)).2
    have hvx : cs.getD (10 + (j : Int)).toNat 0 = scC cs (j + 1) := by unfold scC; congr 1; omega
    have hA : AM cs f (3 - (j + 1)) 4 ((r.set (2 + j) (scC cs j)).set 1 (j + 1)) ((q.set (3 + j) (scC cs j)).set 2 (j + 1)) [scC cs (j + 1)] :=
      ⟨by rw [List.length_set, List.length_set]; exact h1, by rw [List.length_set, List.length_set]; exact h2, hf, .inr (.inr ⟨by rw [hr0]; exact e1, by rw [hq0]; exact e2, .inr ⟨e3, .inr ⟨rfl, j + 1, by omega, rfl, by rw [hr1]; simp, by rw [hq2]; simp, rfl, fun i hi => ⟨hri i hi, hqi i hi⟩⟩⟩⟩)⟩
    refine ⟨4, (r.set (2 + j) (scC cs j)).set 1 (j + 1), (q.set (3 + j) (scC cs j)).set 2 (j + 1), scC cs (j + 1), cs, ⟨0, 10 + j, 0, 0, by rw [oA4, if_neg hne, t1, e4], by rw [oC4, if_neg hne2, t2, e5], ordLoad hc _ (by omega) (by omega), by rw [doG4_load, hvx], doC4_load⟩, hc, hA.jm hc, fun _ => rfl, ?_⟩
    by_cases h3 : j = 2
    · refine .inr ⟨?_, e3, hf⟩
      rw [oA4, hr1, if_pos (by omega), hr0, e1]
      subst h3
      have a0 : ((r.set (2 + 2) (scC cs 2)).set 1 (((2 : Nat) : Int) + 1)).getD 2 0 = scC cs 0 := hri 0 (by omega)
      have a1 : ((r.set (2 + 2) (scC cs 2)).set 1 (((2 : Nat) : Int) + 1)).getD 3 0 = scC cs 1 := hri 1 (by omega)
      have a2 : ((r.set (2 + 2) (scC cs 2)).set 1 (((2 : Nat) : Int) + 1)).getD 4 0 = scC cs 2 := hri 2 (by omega)
      rw [a0, a1, a2]
    · refine .inl ⟨?_, 3 - (j + 1), by omega, by omega, hA⟩
      rw [oA4, hr1, if_neg (by omega)]; rfl
structure OLen (s : OS) : Prop where
  lt : s.ts.length = 4
  lu : s.us.length = 4
  lb : s.busy.length = 4
theorem OLen.step {s : OS} {c : Int} (h : OLen s) : OLen (stepO s c) := by
  refine ⟨by show (s.ts.set _ _).length = 4; rw [List.length_set]; exact h.lt, by show (s.us.set _ _).length = 4; rw [List.length_set]; exact h.lu, ?_⟩
  show (bif (endO s c).is then s.busy else s.busy.set c.toNat false).length = 4
  cases (endO s c).is
  · rw [cond_false, List.length_set]; exact h.lb
  · exact h.lb
def stL (cs : List Int) : List Int := [scC cs 0, scC cs 1, scC cs 2, scC cs 3]
structure OGoal (k f c : Int) (s : OS) : Prop where
  oc : OC (stepO s c).cs
  fr : frC (stepO s c).cs = f
  mr : mkC (stepO s c).cs = f
  g0 : k = 0 → (endO s c).got = [flo f (stL (stepO s c).cs)]
  g1 : k = 1 → (endO s c).got = [f] ∧ scC (stepO s c).cs c.toNat = f + 1
inductive OPath (k f c : Int) (now sure : List Sector) : Nat → OS → Prop
  | stop {m : Nat} {s : OS} (hl : OLen s) (ok : OkStepO c s.cs (tkC s.ts c) (tkC s.us c) now sure) (hi : (endO s c).is = false) (hg : OGoal k f c s) : OPath k f c now sure (m + 1) s
  | go {m : Nat} {s : OS} (hl : OLen s) (ok : OkStepO c s.cs (tkC s.ts c) (tkC s.us c) now sure) (hi : (endO s c).is = true) (h : OPath k f c now sure m (stepO s c)) : OPath k f c now sure (m + 1) s
theorem OPath.mono {k f c : Int} {now sure : List Sector} {m : Nat} {s : OS} (h : OPath k f c now sure m s) : ∀ {m' : Nat}, m ≤ m' → OPath k f c now sure m' s := by
  induction h with
  | stop hl ok hi hg =>
    intro m' hm
    obtain ⟨j, rfl⟩ : ∃ j, m' = j + 1 := ⟨m' - 1, by omega⟩
    exact .stop hl ok hi hg
  | go hl ok hi _ ih =>
    intro m' hm
    obtain ⟨j, rfl⟩ : ∃ j, m' = j + 1 := ⟨m' - 1, by omega⟩
    exact .go hl ok hi (ih (by omega))
theorem StO.step {s : OS} {c p n : Int} {r' q' : List Int} {x : Int} {cs' : List Int} (S : StO s c p n r' q' x cs') (hl : OLen s) (c0 : 0 ≤ c) (c3 : c ≤ 3) :
    (stepO s c).cs = cs' ∧ tkC (stepO s c).ts c = mkO c p n r' [x] ∧ tkC (stepO s c).us c = mkO c p n q' [x] := by
  refine ⟨S.cs, ?_, ?_⟩
  · show tkC (s.ts.set c.toNat (oT s.cs (tkC s.ts c))) c = _
    rw [tkC_set hl.lt c0 c3 c0, if_pos rfl, S.t]
  · show tkC (s.us.set c.toNat (oU s.cs (tkC s.ts c) (tkC s.us c))) c = _
    rw [tkC_set hl.lu c0 c3 c0, if_pos rfl, S.u]
theorem AM.path {f c : Int} {now sure : List Sector} (hd : diskOK now sure = true) (hg1 : goodL now = true) (hg2 : goodL sure = true) (c0 : 0 ≤ c) (c3 : c ≤ 3) : ∀ (m : Nat) (s : OS) (k : Int) (r q got : List Int), 1 ≤ m →
    AM s.cs f m k r q got → OC s.cs → tkC s.ts c = mkO c 93 k r got → tkC s.us c = mkO c 93 k q got → OLen s → OPath 0 f c now sure m s := by
  intro m
  induction m using Nat.strongRecOn with
  | ind m ih =>
    intro s k r q got hm hA hc ht hu hl
    obtain ⟨n, r', q', x, cs', ⟨kd, a, b, v, h1, h2, h3, h4, h5⟩, hc', hJ, hsc, hE⟩ := hA.step (c := c) hc hm
    have ok1 := (hA.jm hc).ok hc.fr c0 c3
    have ok2 := hJ.ok hc'.fr c0 c3
    subst h4
    subst h5
    have S := StO.of ht hu h1 h2 h3 hc.ok ok1.1 ok1.2.1 ok2.1 ok2.2.1 ok2.2.2
    obtain ⟨s1, s2, s3⟩ := S.step hl c0 c3
    obtain ⟨j, rfl⟩ : ∃ j, m = j + 1 := ⟨m - 1, by omega⟩
    rcases hE with ⟨e1, m', e2, e3, e4⟩ | ⟨e1, e2, e3⟩
    · refine .go hl (S.ok now sure hd hg1 hg2) (by rw [S.e]; exact e1) ?_
      exact (ih m' (by omega) (stepO s c) n r' q' _ e3 (by rw [s1]; exact e4) (by rw [s1]; exact hc') s2 s3 hl.step).mono (by omega)
    · refine .stop hl (S.ok now sure hd hg1 hg2) (by rw [S.e, e1]; rfl) ⟨by rw [s1]; exact hc', by rw [s1]; exact e3, by rw [s1]; exact e2, fun _ => by rw [S.e, e1, s1]; rfl, fun h => by cases h⟩
def AB (cs : List Int) (f c : Int) (m : Nat) (k : Int) (r got : List Int) : Prop :=
  r.length = 96 ∧ r.getD 0 0 = c ∧ frC cs = f ∧ mkC cs = f ∧
  (k = 0 ∧ got = [] ∧ m = 3 ∨ k = 1 ∧ got = [f] ∧ m = 2 ∨ k = 2 ∧ got = [0] ∧ m = 1 ∧ r.getD 1 0 = f ∧ scC cs c.toNat = f + 1)
theorem AB.jb {cs : List Int} {f c : Int} {m : Nat} {k : Int} {r got : List Int} (h : AB cs f c m k r got) (hc : OC cs) : JB cs [] c k r got := by
  obtain ⟨h1, h2, hf, hm, h⟩ := h
  have hr := hc.mr
  refine ⟨h1, h2, opB_nil _, ?_⟩
  rcases h with ⟨a, b, _⟩ | ⟨a, b, _⟩ | ⟨a, b, _, e1, e2⟩
  · exact .inl ⟨a, b⟩
  · exact .inr ⟨f, b, by omega, by omega, .inl a⟩
  · exact .inr ⟨0, b, by decide, by omega, .inr ⟨by omega, by omega, by omega, .inl a⟩⟩
theorem AB.step {cs : List Int} {f c : Int} {m : Nat} {k : Int} {r got : List Int} (h : AB cs f c m k r got) (hc : OC cs) (c0 : 0 ≤ c) (c3 : c ≤ 3) :
    ∃ n r' x cs', AStep cs c 92 k r r got n r' r' x cs' ∧ OC cs' ∧ (∀ own, okO own c [⟨92, n, r'⟩] [x]) ∧ (∀ i, i ≠ c.toNat → scC cs' i = scC cs i) ∧
      ((goO false [⟨92, n, r'⟩] [x]).is = true ∧ (∃ m', m' < m ∧ 1 ≤ m' ∧ AB cs' f c m' n r' [x]) ∨
       goO false [⟨92, n, r'⟩] [x] = gEnd4 [f] ∧ mkC cs' = f ∧ frC cs' = f ∧ scC cs' c.toNat = f + 1) := by
  obtain ⟨h1, h2, hf, hmk, h⟩ := h
  have hl := hc.len
  have hff := hc.fr
  have hr := hc.mr
  rcases h with ⟨rfl, rfl, rfl⟩ | ⟨rfl, rfl, rfl⟩ | ⟨rfl, rfl, rfl, e1, e2⟩
  · have hA : AB cs f c 2 1 r [f] := ⟨h1, h2, hf, hmk, .inr (.inl ⟨rfl, rfl, rfl⟩)⟩
    exact ⟨1, r, f, cs, ⟨0, 0, 0, 0, oB0 _ _ _, oB0 _ _ _, ordLoad hc 0 (by decide) (by decide), by rw [doG4_load]; exact hf, doC4_load⟩, hc, (hA.jb hc).ok hff c0 c3, fun _ _ => rfl, .inl ⟨by rw [oB1]; rfl, 2, by decide, by decide, hA⟩⟩
  · have ha : lRow 9 (r.getD 0 0) 4 = 9 + c := by rw [h2, lRow, if_pos ⟨c0, by omega⟩]
    have hn : (9 + c).toNat = 9 + c.toNat := by omega
    have hsc : ∀ i, scC (cs.set (9 + c.toNat) (f + 1)) i = if i = c.toNat then f + 1 else scC cs i := fun i => by
      unfold scC
      rw [getD_set _ _ _ _ _ (by omega)]
      by_cases e : i = c.toNat
      · rw [if_pos (by omega), if_pos e]
      · rw [if_neg (by omega), if_neg e]
    have hm' : mkC (cs.set (9 + c.toNat) (f + 1)) = mkC cs := by unfold mkC; rw [getD_set_ne' (by omega)]
    have hf' : frC (cs.set (9 + c.toNat) (f + 1)) = frC cs := by unfold frC; rw [getD_set_ne' (by omega)]
    have hoc : OC (cs.set (9 + c.toNat) (f + 1)) := ⟨by rw [List.length_set]; exact hl, cellsOK_set hc.ok (by omega), by rw [hm', hf']; exact hr, by rw [hf']; exact hff, fun i hi => by
      rw [hsc, hf']
      split
      · omega
      · exact hc.sb i hi⟩
    have hA : AB (cs.set (9 + c.toNat) (f + 1)) f c 1 2 (r.set 1 f) [0] := ⟨by rw [List.length_set]; exact h1, by rw [getD_set_ne' (by decide)]; exact h2, by rw [hf']; exact hf, by rw [hm']; exact hmk, .inr (.inr ⟨rfl, rfl, rfl, getD_set_eq (by omega), by rw [hsc, if_pos rfl]⟩)⟩
    exact ⟨2, r.set 1 f, 0, cs.set (9 + c.toNat) (f + 1), ⟨1, 9 + c, 0, f + 1, by rw [oB1, ha], by rw [oB1, ha], ⟨.inr (.inl ⟨rfl, rfl⟩), by omega, by omega, by decide, by decide, by omega, by omega⟩, doG4_store, by rw [doC4_store, hn]⟩, hoc, (hA.jb hoc).ok hoc.fr c0 c3, fun i hi => by rw [hsc, if_neg hi], .inl ⟨by rw [oB2]; rfl, 1, by decide, by decide, hA⟩⟩
  · have hJ : JB cs [] c 3 r [f] := ⟨h1, h2, opB_nil _, .inr ⟨f, rfl, by omega, by omega, .inr ⟨by omega, by omega, by omega, .inr rfl⟩⟩⟩
    refine ⟨3, r, f, cs, ⟨0, 3, 0, 0, oB2 _ _ _, oB2 _ _ _, ordLoad hc 3 (by decide) (by decide), by rw [doG4_load]; exact hmk, doC4_load⟩, hc, hJ.ok hff c0 c3, fun _ _ => rfl, .inr ⟨?_, hmk, hf, e2⟩⟩
    rw [oB3, e1, if_neg (by omega)]
theorem AB.path {f c : Int} {now sure : List Sector} (hd : diskOK now sure = true) (hg1 : goodL now = true) (hg2 : goodL sure = true) (c0 : 0 ≤ c) (c3 : c ≤ 3) : ∀ (m : Nat) (s : OS) (k : Int) (r got : List Int), 1 ≤ m →
    AB s.cs f c m k r got → OC s.cs → tkC s.ts c = mkO c 92 k r got → tkC s.us c = mkO c 92 k r got → OLen s → OPath 1 f c now sure m s := by
  intro m
  induction m using Nat.strongRecOn with
  | ind m ih =>
    intro s k r got hm hA hc ht hu hl
    obtain ⟨n, r', x, cs', ⟨kd, a, b, v, h1, h2, h3, h4, h5⟩, hc', hJ, hsc, hE⟩ := hA.step hc c0 c3
    have ok1 := (hA.jb hc).ok hc.fr c0 c3
    subst h4
    subst h5
    have S := StO.of ht hu h1 h2 h3 hc.ok (ok1 false) (ok1 true) (hJ false) (hJ true) (by
      have : ∀ own, goO own [⟨92, n, r'⟩] [doG4 s.cs kd a b] = oBeg n r' [doG4 s.cs kd a b] (doG4 s.cs kd a b) := fun own => rfl
      rw [this, this]; exact ⟨rfl, rfl, rfl, rfl, rfl, rfl, rfl⟩)
    obtain ⟨s1, s2, s3⟩ := S.step hl c0 c3
    obtain ⟨j, rfl⟩ : ∃ j, m = j + 1 := ⟨m - 1, by omega⟩
    rcases hE with ⟨e1, m', e2, e3, e4⟩ | ⟨e1, e2, e3, e4⟩
    · refine .go hl (S.ok now sure hd hg1 hg2) (by rw [S.e]; exact e1) ?_
      exact (ih m' (by omega) (stepO s c) n r' _ e3 (by rw [s1]; exact e4) (by rw [s1]; exact hc') s2 s3 hl.step).mono (by omega)
    · refine .stop hl (S.ok now sure hd hg1 hg2) (by rw [S.e, e1]; rfl) ⟨by rw [s1]; exact hc', by rw [s1]; exact e3, by rw [s1]; exact e2, fun h => absurd h (by decide), fun _ => ⟨by rw [S.e, e1]; rfl, by rw [s1]; exact e4⟩⟩
def whO (c : Int) : Nat → OS → OS × Int
  | 0, s => (s, 0)
  | n + 1, s => if (endO s c).is = true then whO c n (stepQ s c) else (stepQ s c, (endO s c).got.getD 0 0)
inductive WPath (c : Int) : Nat → OS → Prop
  | stop {m : Nat} {s : OS} (hi : (endO s c).is = false) : WPath c (m + 1) s
  | go {m : Nat} {s : OS} (hi : (endO s c).is = true) (h : WPath c m (stepQ s c)) : WPath c (m + 1) s
theorem WPath.mono {c : Int} {m : Nat} {s : OS} (h : WPath c m s) : ∀ {m' : Nat}, m ≤ m' → WPath c m' s := by
  induction h with
  | stop hi =>
    intro m' hm
    obtain ⟨j, rfl⟩ : ∃ j, m' = j + 1 := ⟨m' - 1, by omega⟩
    exact .stop hi
  | go hi _ ih =>
    intro m' hm
    obtain ⟨j, rfl⟩ : ∃ j, m' = j + 1 := ⟨m' - 1, by omega⟩
    exact .go hi (ih (by omega))
theorem stepQ_on {s : OS} {c : Int} (hi : (endO s c).is = true) : stepQ s c = stepO s c := by
  unfold stepQ; rw [if_neg (fun q => by rw [hi] at q; cases q.1)]
structure WEnd (s s' : OS) (f : Int) : Prop where
  fr : frC s'.cs = f
  mr : mkC s'.cs = f
theorem AM.whole {f c : Int} (c0 : 0 ≤ c) (c3 : c ≤ 3) : ∀ (m : Nat) (s : OS) (k : Int) (r q got : List Int), 1 ≤ m → oKind s c = 1 →
    AM s.cs f m k r q got → OC s.cs → tkC s.ts c = mkO c 93 k r got → tkC s.us c = mkO c 93 k q got → OLen s →
    WPath c m s ∧ ∀ n, m ≤ n → (whO c n s).2 = flo f (stL s.cs) ∧ frC (whO c n s).1.cs = f ∧ mkC (whO c n s).1.cs = f ∧ (∀ i, scC (whO c n s).1.cs i = scC s.cs i) ∧ (whO c n s).1.opn = s.opn ∧ (whO c n s).1.start = s.start ∧ (whO c n s).1.kind = s.kind := by
  intro m
  induction m using Nat.strongRecOn with
  | ind m ih =>
    intro s k r q got hm hk hA hc ht hu hl
    obtain ⟨n, r', q', x, cs', ⟨kd, a, b, v, h1, h2, h3, h4, h5⟩, hc', hJ, hsc, hE⟩ := hA.step (c := c) hc hm
    have ok1 := (hA.jm hc).ok hc.fr c0 c3
    have ok2 := hJ.ok hc'.fr c0 c3
    subst h4
    subst h5
    have S := StO.of ht hu h1 h2 h3 hc.ok ok1.1 ok1.2.1 ok2.1 ok2.2.1 ok2.2.2
    obtain ⟨s1, s2, s3⟩ := S.step hl c0 c3
    have hQ : stepQ s c = stepO s c := by
      unfold stepQ; rw [if_neg (fun q => by rw [hk] at q; exact absurd q.2.1 (by decide))]
    rcases hE with ⟨e1, m', e2, e3, e4⟩ | ⟨e1, e2, e3⟩
    · have hi : (endO s c).is = true := by rw [S.e]; exact e1
      obtain ⟨w1, w2⟩ := ih m' (by omega) (stepO s c) n r' q' _ e3 hk (by rw [s1]; exact e4) (by rw [s1]; exact hc') s2 s3 hl.step
      refine ⟨?_, fun n' hn => ?_⟩
      · obtain ⟨j, rfl⟩ : ∃ j, m = j + 1 := ⟨m - 1, by omega⟩
        exact .go hi (by rw [hQ]; exact w1.mono (by omega))
      · obtain ⟨j, rfl⟩ : ∃ j, n' = j + 1 := ⟨n' - 1, by omega⟩
        rw [whO, if_pos hi, hQ]
        obtain ⟨a1, a2, a3, a4, a5, a6, a7⟩ := w2 j (by omega)
        have hst : stL (stepO s c).cs = stL s.cs := by rw [s1]; unfold stL; rw [hsc, hsc, hsc, hsc]
        exact ⟨by rw [a1, hst], a2, a3, fun i => by rw [a4, s1, hsc], a5, a6, a7⟩
    · have hi : (endO s c).is = false := by rw [S.e, e1]; rfl
      refine ⟨?_, fun n' hn => ?_⟩
      · obtain ⟨j, rfl⟩ : ∃ j, m = j + 1 := ⟨m - 1, by omega⟩
        exact .stop hi
      · obtain ⟨j, rfl⟩ : ∃ j, n' = j + 1 := ⟨n' - 1, by omega⟩
        rw [whO, if_neg (by rw [hi]; simp), hQ]
        refine ⟨?_, by rw [s1]; exact e3, by rw [s1]; exact e2, fun i => by rw [s1, hsc], rfl, rfl, rfl⟩
        show (endO s c).got.getD 0 0 = _
        rw [S.e, e1]
        show flo f [_, _, _, _] = _
        rw [hsc, hsc, hsc, hsc]; rfl
theorem AB.whole {f c : Int} (c0 : 0 ≤ c) (c3 : c ≤ 3) : ∀ (m : Nat) (s : OS) (k : Int) (r got : List Int), 1 ≤ m → oKind s c = 0 →
    AB s.cs f c m k r got → OC s.cs → tkC s.ts c = mkO c 92 k r got → tkC s.us c = mkO c 92 k r got → OLen s →
    WPath c m s ∧ ∀ n, m ≤ n → (whO c n s).2 = f ∧ frC (whO c n s).1.cs = f ∧ mkC (whO c n s).1.cs = f ∧ scC (whO c n s).1.cs c.toNat = f + 1 ∧ (∀ i, i ≠ c.toNat → scC (whO c n s).1.cs i = scC s.cs i) := by
  intro m
  induction m using Nat.strongRecOn with
  | ind m ih =>
    intro s k r got hm hk hA hc ht hu hl
    obtain ⟨n, r', x, cs', ⟨kd, a, b, v, h1, h2, h3, h4, h5⟩, hc', hJ, hsc, hE⟩ := hA.step hc c0 c3
    have ok1 := (hA.jb hc).ok hc.fr c0 c3
    subst h4
    subst h5
    have S := StO.of ht hu h1 h2 h3 hc.ok (ok1 false) (ok1 true) (hJ false) (hJ true) (by
      have : ∀ own, goO own [⟨92, n, r'⟩] [doG4 s.cs kd a b] = oBeg n r' [doG4 s.cs kd a b] (doG4 s.cs kd a b) := fun own => rfl
      rw [this, this]; exact ⟨rfl, rfl, rfl, rfl, rfl, rfl, rfl⟩)
    obtain ⟨s1, s2, s3⟩ := S.step hl c0 c3
    rcases hE with ⟨e1, m', e2, e3, e4⟩ | ⟨e1, e2, e3, e4⟩
    · have hi : (endO s c).is = true := by rw [S.e]; exact e1
      have hQ := stepQ_on hi
      obtain ⟨w1, w2⟩ := ih m' (by omega) (stepO s c) n r' _ e3 hk (by rw [s1]; exact e4) (by rw [s1]; exact hc') s2 s3 hl.step
      refine ⟨?_, fun n' hn => ?_⟩
      · obtain ⟨j, rfl⟩ : ∃ j, m = j + 1 := ⟨m - 1, by omega⟩
        exact .go hi (by rw [hQ]; exact w1.mono (by omega))
      · obtain ⟨j, rfl⟩ : ∃ j, n' = j + 1 := ⟨n' - 1, by omega⟩
        rw [whO, if_pos hi, hQ]
        obtain ⟨a1, a2, a3, a4, a5⟩ := w2 j (by omega)
        exact ⟨a1, a2, a3, a4, fun i hne => by rw [a5 i hne, s1, hsc i hne]⟩
    · have hi : (endO s c).is = false := by rw [S.e, e1]; rfl
      have hcs : (stepQ s c).cs = (stepO s c).cs := by
        unfold stepQ; split <;> rfl
      refine ⟨?_, fun n' hn => ?_⟩
      · obtain ⟨j, rfl⟩ : ∃ j, m = j + 1 := ⟨m - 1, by omega⟩
        exact .stop hi
      · obtain ⟨j, rfl⟩ : ∃ j, n' = j + 1 := ⟨n' - 1, by omega⟩
        rw [whO, if_neg (by rw [hi]; simp)]
        refine ⟨?_, by show frC (stepQ s c).cs = f; rw [hcs, s1]; exact e3, by show mkC (stepQ s c).cs = f; rw [hcs, s1]; exact e2, by show scC (stepQ s c).cs _ = _; rw [hcs, s1]; exact e4, fun i hne => by show scC (stepQ s c).cs i = _; rw [hcs, s1, hsc i hne]⟩
        show (endO s c).got.getD 0 0 = _
        rw [S.e, e1]; rfl
def OkWhole (s : OS) (c kd : Int) : Prop := oBusy s c = false ∧ (kd = 1 ∨ opB s.opn c.toNat = false) ∧ (kd = 0 → mkC s.cs = frC s.cs) ∧ ∃ most kk, OI s most kk
theorem beginO_at {s : OS} {most kk : Int} (h : OI s most kk) {c kd : Int} (c0 : 0 ≤ c) (c3 : c ≤ 3) : oKind (beginO s c kd) c = kd ∧ tkC (beginO s c kd).ts c = mkO c (92 + kd) 0 (c :: List.replicate 95 0) [] ∧ tkC (beginO s c kd).us c = mkO c (92 + kd) 0 (c :: List.replicate 95 0) [] ∧ OLen (beginO s c kd) ∧ oBusy (beginO s c kd) c = true := by
  have hcn : c.toNat < 4 := by omega
  refine ⟨?_, ?_, ?_, ⟨?_, ?_, ?_⟩, ?_⟩
  · show (s.kind.set c.toNat kd).getD c.toNat 0 = kd
    exact getD_set_eq (by rw [h.lk]; omega)
  · show tkC (s.ts.set c.toNat _) c = _; rw [tkC_set h.lt c0 c3 c0, if_pos rfl]
  · show tkC (s.us.set c.toNat _) c = _; rw [tkC_set h.lu c0 c3 c0, if_pos rfl]
  · show (s.ts.set _ _).length = 4; rw [List.length_set]; exact h.lt
  · show (s.us.set _ _).length = 4; rw [List.length_set]; exact h.lu
  · show (s.busy.set _ _).length = 4; rw [List.length_set]; exact h.lb
  · show (s.busy.set c.toNat true).getD c.toNat false = true; rw [bset h.lb hcn, if_pos rfl]
theorem mark_whole {s : OS} {most kk : Int} (h : OI s most kk) {c : Int} (c0 : 0 ≤ c) (c3 : c ≤ 3) :
    WPath c 7 (beginO s c 1) ∧ ∀ n, 7 ≤ n → (whO c n (beginO s c 1)).2 = flo (frC s.cs) (stL s.cs) ∧ frC (whO c n (beginO s c 1)).1.cs = frC s.cs ∧ mkC (whO c n (beginO s c 1)).1.cs = frC s.cs ∧ (∀ i, scC (whO c n (beginO s c 1)).1.cs i = scC s.cs i) ∧ (whO c n (beginO s c 1)).1.opn = s.opn ∧ (whO c n (beginO s c 1)).1.start = s.start ∧ (whO c n (beginO s c 1)).1.kind = (beginO s c 1).kind := by
  obtain ⟨b1, b2, b3, b4, _⟩ := beginO_at h (kd := 1) c0 c3
  exact AM.whole c0 c3 7 (beginO s c 1) 0 (c :: List.replicate 95 0) (c :: List.replicate 95 0) [] (by decide) b1 ⟨rfl, rfl, rfl, .inl ⟨rfl, rfl, rfl⟩⟩ h.oc b2 b3 b4
theorem begin_whole {s : OS} {most kk : Int} (h : OI s most kk) {c : Int} (c0 : 0 ≤ c) (c3 : c ≤ 3) (hm : mkC s.cs = frC s.cs) :
    WPath c 3 (beginO s c 0) ∧ ∀ n, 3 ≤ n → (whO c n (beginO s c 0)).2 = frC s.cs ∧ frC (whO c n (beginO s c 0)).1.cs = frC s.cs ∧ mkC (whO c n (beginO s c 0)).1.cs = frC s.cs ∧ scC (whO c n (beginO s c 0)).1.cs c.toNat = frC s.cs + 1 ∧ (∀ i, i ≠ c.toNat → scC (whO c n (beginO s c 0)).1.cs i = scC s.cs i) := by
  obtain ⟨b1, b2, b3, b4, _⟩ := beginO_at h (kd := 0) c0 c3
  exact AB.whole c0 c3 3 (beginO s c 0) 0 (c :: List.replicate 95 0) [] (by decide) b1 ⟨rfl, rfl, rfl, hm, .inl ⟨rfl, rfl, rfl⟩⟩ h.oc b2 b3 b4
theorem ok_whole {s : OS} {c kd : Int} (h : OkWhole s c kd) (c0 : 0 ≤ c) (c3 : c ≤ 3) (hk : kd = 0 ∨ kd = 1) : WPath c 20 (beginO s c kd) ∧ ∃ most kk, OI (beginO s c kd) most kk := by
  obtain ⟨h1, h2, h3, most, kk, hI⟩ := h
  refine ⟨?_, most, kk, hI.begin c0 c3 hk h1 h2⟩
  rcases hk with rfl | rfl
  · exact (begin_whole hI c0 c3 (h3 rfl)).1.mono (by decide)
  · exact (mark_whole hI c0 c3).1.mono (by decide)
theorem whole_OI {c : Int} (c0 : 0 ≤ c) (c3 : c ≤ 3) : ∀ (n : Nat) (s : OS) (most kk : Int), OI s most kk → oBusy s c = true → ∃ most', OI (whO c n s).1 most' kk
  | 0, s, most, kk, h, _ => ⟨most, h⟩
  | n + 1, s, most, kk, h, hb => by
    obtain ⟨most', hs⟩ := h.step c0 c3 hb
    unfold whO
    by_cases hi : (endO s c).is = true
    · rw [if_pos hi]
      refine whole_OI c0 c3 n _ most' kk hs.oi ?_
      rw [stepQ_on hi]
      show (bif (endO s c).is then s.busy else s.busy.set c.toNat false).getD c.toNat false = true
      rw [hi]
      exact hb
    · rw [if_neg hi]
      exact ⟨most', hs.oi⟩
theorem stepQ_busy (s : OS) (c : Int) : (stepQ s c).busy = bif (endO s c).is then s.busy else s.busy.set c.toNat false := by
  unfold stepQ
  split <;> rfl
theorem WPath.idle {c : Int} (c0 : 0 ≤ c) (c3 : c ≤ 3) {m : Nat} {s : OS} (h : WPath c m s) : ∀ {n : Nat}, m ≤ n → s.busy.length = 4 → ∀ c' : Int, 0 ≤ c' → c' ≤ 3 → oBusy (whO c n s).1 c' = if c = c' then false else oBusy s c' := by
  have hcn : c.toNat < 4 := by omega
  induction h with
  | @stop m s hi =>
    intro n hn hl c' d0 d3
    obtain ⟨j, rfl⟩ : ∃ j, n = j + 1 := ⟨n - 1, by omega⟩
    rw [whO, if_neg (by rw [hi]; simp)]
    show (stepQ s c).busy.getD c'.toNat false = _
    rw [stepQ_busy, hi, cond_false, bset hl hcn]
    by_cases e : c = c'
    · rw [if_pos (by omega), if_pos e]
    · rw [if_neg (by omega), if_neg e]; rfl
  | @go m s hi h ih =>
    intro n hn hl c' d0 d3
    obtain ⟨j, rfl⟩ : ∃ j, n = j + 1 := ⟨n - 1, by omega⟩
    rw [whO, if_pos hi]
    have hb : (stepQ s c).busy = s.busy := by rw [stepQ_busy, hi, cond_true]
    rw [ih (by omega) (by rw [hb]; exact hl) c' d0 d3]
    show (if c = c' then false else (stepQ s c).busy.getD c'.toNat false) = _
    rw [hb]; rfl
theorem begin_idle {s : OS} {c kd : Int} (c0 : 0 ≤ c) (c3 : c ≤ 3) (hl : s.busy.length = 4) (h : WPath c 20 (beginO s c kd)) (c' : Int) (d0 : 0 ≤ c') (d3 : c' ≤ 3) : oBusy (whO c 20 (beginO s c kd)).1 c' = if c = c' then false else oBusy s c' := by
  rw [h.idle c0 c3 (Nat.le_refl _) (by show (s.busy.set _ _).length = 4; rw [List.length_set]; exact hl) c' d0 d3]
  by_cases e : c = c'
  · rw [if_pos e, if_pos e]
  · rw [if_neg e, if_neg e]
    show (s.busy.set c.toNat true).getD c'.toNat false = s.busy.getD c'.toNat false
    rw [bset hl (by omega), if_neg (by omega)]
theorem OI.front {s : OS} {most kk : Int} (h : OI s most kk) {f : Int} (h1 : frC s.cs ≤ f) (h2 : f ≤ 1000000) : OI { s with cs := s.cs.set 0 f } most (max kk f) := by
  have hl := h.oc.len
  have hmk := h.oc.mr
  have hfk := h.fk
  have hsc : ∀ i, scC (s.cs.set 0 f) i = scC s.cs i := fun i => getD_set_ne' (by omega)
  have hm : mkC (s.cs.set 0 f) = mkC s.cs := getD_set_ne' (by omega)
  have hf : frC (s.cs.set 0 f) = f := getD_set_eq (by omega)
  have hoc : OC (s.cs.set 0 f) := ⟨by rw [List.length_set]; exact hl, cellsOK_set h.oc.ok (by omega), by rw [hm, hf]; omega, by rw [hf]; exact h2, fun i hi => by
    rw [hsc, hf]
    have := h.oc.sb i hi
    omega⟩
  refine ⟨hoc, by show frC (s.cs.set _ _) ≤ _; rw [hf]; omega, h.lt, h.lu, h.lb, h.lk, h.lo, h.ls, by show most ≤ mkC (s.cs.set _ _); rw [hm]; exact h.mm, fun i hi ho => ?_, fun c' d0 d3 hb' => ?_⟩
  · show scC (s.cs.set _ _) i = _ ∧ _
    rw [hsc]
    exact h.op i hi ho
  · obtain ⟨k2, r2, q2, got2, ⟨p0, p1, p2, p3, p4⟩ | ⟨p0, p1, p2, p3, p4⟩⟩ := h.cl c' d0 d3 hb'
    · exact ⟨k2, r2, q2, got2, .inl ⟨p0, p1, p2, p3.mono (by show _ ≤ frC (s.cs.set _ _); rw [hf]; omega) (hsc _) rfl, p4⟩⟩
    · exact ⟨k2, r2, q2, got2, .inr ⟨p0, p1, p2, p3.mono (by show _ ≤ frC (s.cs.set _ _); rw [hf]; omega) (by show _ ≤ mkC (s.cs.set _ _); rw [hm]; exact Int.le_refl _) (fun i hi => .inl ⟨hi, rfl⟩), p4⟩⟩
def qs0 (F : Int) : OS := { os0 with cs := newCells.set 0 F }
def qs1 (F c : Int) : OS × Int := whO c 20 (beginO (qs0 F) c 1)
def qs2 (F c d : Int) : OS × Int := whO d 20 (beginO (qs1 F c).1 d 0)
def qs3 (F on c d : Int) : OS := { (qs2 F c d).1 with cs := (qs2 F c d).1.cs.set 0 (F + on) }
structure Quiet (F on c d : Int) : Prop where
  w1 : OkWhole (qs0 F) c 1
  a1 : (qs1 F c).2 = F
  w2 : OkWhole (qs1 F c).1 d 0
  a2 : (qs2 F c d).2 = F
  l2 : (qs2 F c d).1.cs.length = 771
  w3 : OkWhole (qs3 F on c d) c 1
  a3 : (whO c 20 (beginO (qs3 F on c d) c 1)).2 = F
theorem quiet {F on c d : Int} (f0 : 0 ≤ F) (f1 : F < 1000) (o0 : 0 ≤ on) (o1 : on < 1000) (c0 : 0 ≤ c) (c3 : c ≤ 3) (d0 : 0 ≤ d) (d3 : d ≤ 3) (hne : c ≠ d) : Quiet F on c d := by
  have hI0 : OI (qs0 F) 0 (max 0 F) := OI.init.front (by show (0 : Int) ≤ F; exact f0) (by omega)
  have hnl : newCells.length = 771 := by kernel_rfl
  have hfr : frC (qs0 F).cs = F := getD_set_eq (by rw [hnl]; decide)
  have idle0 : ∀ c', 0 ≤ c' → c' ≤ 3 → oBusy (qs0 F) c' = false := fun c' e0 e3 => by
    obtain rfl | rfl | rfl | rfl : c' = 0 ∨ c' = 1 ∨ c' = 2 ∨ c' = 3 := by omega
    all_goals rfl
  have opn0 : ∀ i, i < 4 → opB (qs0 F).opn i = false := fun i hi => by
    obtain rfl | rfl | rfl | rfl : i = 0 ∨ i = 1 ∨ i = 2 ∨ i = 3 := by omega
    all_goals rfl
  have sc0 : ∀ i, i < 4 → scC (qs0 F).cs i = 0 := fun i hi => by
    have : scC (qs0 F).cs i = scC newCells i := getD_set_ne' (by omega)
    rw [this]
    obtain rfl | rfl | rfl | rfl : i = 0 ∨ i = 1 ∨ i = 2 ∨ i = 3 := by omega
    all_goals rfl
  have st0 : stL (qs0 F).cs = [0, 0, 0, 0] := by unfold stL; rw [sc0 0 (by decide), sc0 1 (by decide), sc0 2 (by decide), sc0 3 (by decide)]
  have w1 : OkWhole (qs0 F) c 1 := ⟨idle0 c c0 c3, .inl rfl, fun h => absurd h (by decide), _, _, hI0⟩
  obtain ⟨p1, q1⟩ := mark_whole hI0 c0 c3
  obtain ⟨q1a, q1b, q1c, q1d, q1e, _, _⟩ := q1 20 (by decide)
  rw [hfr] at q1a q1b q1c
  have a1 : (qs1 F c).2 = F := by
    show (whO c 20 (beginO (qs0 F) c 1)).2 = F
    rw [q1a, st0]
    simp [flo]
  obtain ⟨m1, hI1⟩ := whole_OI c0 c3 20 _ _ _ (hI0.begin c0 c3 (.inr rfl) w1.1 w1.2.1) (beginO_at hI0 c0 c3).2.2.2.2
  have idle1 : ∀ c', 0 ≤ c' → c' ≤ 3 → oBusy (qs1 F c).1 c' = false := fun c' e0 e3 => by
    have := begin_idle c0 c3 hI0.lb (p1.mono (show 7 ≤ 20 by decide)) c' e0 e3
    show oBusy (whO c 20 (beginO (qs0 F) c 1)).1 c' = false
    rw [this]
    split
    · rfl
    · exact idle0 c' e0 e3
  have hmf : mkC (qs1 F c).1.cs = frC (qs1 F c).1.cs := by
    show mkC (whO c 20 (beginO (qs0 F) c 1)).1.cs = frC (whO c 20 (beginO (qs0 F) c 1)).1.cs
    rw [q1b, q1c]
  have hop1 : opB (qs1 F c).1.opn d.toNat = false := by
    show opB (whO c 20 (beginO (qs0 F) c 1)).1.opn d.toNat = false
    rw [q1e]; exact opn0 _ (by omega)
  have hI1 : OI (qs1 F c).1 m1 (max 0 F) := hI1
  have w2 : OkWhole (qs1 F c).1 d 0 := ⟨idle1 d d0 d3, .inr hop1, fun _ => hmf, _, _, hI1⟩
  have hfr1 : frC (qs1 F c).1.cs = F := q1b
  have sc1 : ∀ i, i < 4 → scC (qs1 F c).1.cs i = 0 := fun i hi => by
    show scC (whO c 20 (beginO (qs0 F) c 1)).1.cs i = 0
    rw [q1d]; exact sc0 i hi
  obtain ⟨p2, q2⟩ := begin_whole hI1 d0 d3 hmf
  obtain ⟨q2a, q2b, q2c, q2d, q2e⟩ := q2 20 (by decide)
  rw [hfr1] at q2a q2b q2c q2d
  obtain ⟨m2, hI2⟩ := whole_OI d0 d3 20 _ _ _ (hI1.begin d0 d3 (.inl rfl) w2.1 w2.2.1) (beginO_at hI1 d0 d3).2.2.2.2
  have hI2 : OI (qs2 F c d).1 m2 (max 0 F) := hI2
  have idle2 : ∀ c', 0 ≤ c' → c' ≤ 3 → oBusy (qs2 F c d).1 c' = false := fun c' e0 e3 => by
    have := begin_idle d0 d3 hI1.lb (p2.mono (show 3 ≤ 20 by decide)) c' e0 e3
    show oBusy (whO d 20 (beginO (qs1 F c).1 d 0)).1 c' = false
    rw [this]
    split
    · rfl
    · exact idle1 c' e0 e3
  have hfr2 : frC (qs2 F c d).1.cs = F := q2b
  have hI3 : OI (qs3 F on c d) m2 (max (max 0 F) (F + on)) := hI2.front (by rw [hfr2]; omega) (by omega)
  have hl2 := hI2.oc.len
  have hfr3 : frC (qs3 F on c d).cs = F + on := getD_set_eq (by rw [hl2]; decide)
  have sc3 : ∀ i, scC (qs3 F on c d).cs i = scC (qs2 F c d).1.cs i := fun i => getD_set_ne' (by omega)
  have sc3d : scC (qs3 F on c d).cs d.toNat = F + 1 := by rw [sc3]; exact q2d
  have sc3e : ∀ i, i < 4 → i ≠ d.toNat → scC (qs3 F on c d).cs i = 0 := fun i hi hn => by
    rw [sc3]
    have := q2e i hn
    show scC (whO d 20 (beginO (qs1 F c).1 d 0)).1.cs i = 0
    rw [this]; exact sc1 i hi
  have w3 : OkWhole (qs3 F on c d) c 1 := ⟨idle2 c c0 c3, .inl rfl, fun h => absurd h (by decide), _, _, hI3⟩
  obtain ⟨p3, q3⟩ := mark_whole hI3 c0 c3
  obtain ⟨q3a, _⟩ := q3 20 (by decide)
  refine ⟨w1, a1, w2, q2a, hl2, w3, ?_⟩
  rw [q3a, hfr3]
  have hF : ∀ l : List Int, (∀ v ∈ l, v = 0 ∨ v = F + 1) → F + 1 ∈ l → flo (F + on) l = F := fun l h1 h2 => by
    have a := flo_saw l (F + on) (F + 1) h2 (by omega)
    have b := flo_ge l (F + on) F (by omega) fun v hv h0 => by rcases h1 v hv with h | h <;> omega
    omega
  refine hF _ (fun v hv => ?_) ?_
  · unfold stL at hv
    simp only [List.mem_cons, List.not_mem_nil, or_false] at hv
    have : ∀ i, i < 4 → v = scC (qs3 F on c d).cs i → v = 0 ∨ v = F + 1 := fun i hi e => by
      by_cases q : i = d.toNat
      · rw [e, q]; exact .inr sc3d
      · rw [e]; exact .inl (sc3e i hi q)
    rcases hv with h | h | h | h
    · exact this 0 (by decide) h
    · exact this 1 (by decide) h
    · exact this 2 (by decide) h
    · exact this 3 (by decide) h
  · rw [← sc3d]
    unfold stL
    obtain h | h | h | h : d.toNat = 0 ∨ d.toNat = 1 ∨ d.toNat = 2 ∨ d.toNat = 3 := by omega
    all_goals rw [h]; simp
open Go.Proofs
structure whL_St where
  c : Int
  n : Nat
  now : List Sector
  sure : List Sector
  cs : List Int
  ts : List Task
  us : List Task
  busy : List Bool
  kind : List Int
  opn : List Bool
  start : List Int
def whL_c (c : Int) (n : Nat) (now : List Sector) (sure : List Sector) (cs : List Int) (ts : List Task) (us : List Task) (busy : List Bool) (kind : List Int) (opn : List Bool) (start : List Int) : Env RC := [(0, .ptr 0 []), (1, .int .i64 c), (8, .int .i64 (n : Int))]
def whL_o (c : Int) (n : Nat) (now : List Sector) (sure : List Sector) (cs : List Int) (ts : List Task) (us : List Task) (busy : List Bool) (kind : List Int) (opn : List Bool) (start : List Int) : List (Obj RC) := [.var 30 (.acons (.ptr 1 []) (.acons (.arr (C := RC) .int 4 kind) (.acons (.arr (C := RC) .bool 4 opn) (.acons (.arr (C := RC) .int 4 start) .anil)))), .var 46 (.acons (.acons (.sl (C := RC) .int false cs) (.acons (.acons (.sl (C := RC) .sector false now) (.acons (.sl (C := RC) .sector false sure) .anil)) .anil)) (.acons (.arr (C := RC) .task 4 ts) (.acons (.arr (C := RC) .task 4 us) (.acons (.arr (C := RC) .bool 4 busy) .anil))))]
noncomputable def whL_r (c : Int) (n : Nat) (now : List Sector) (sure : List Sector) (cs : List Int) (ts : List Task) (us : List Task) (busy : List Bool) (kind : List Int) (opn : List Bool) (start : List Int) := rndO s23 ui_1 11 3 60 2 [0, 1, 8] [6, 7] [.slot 0 0, .path 0 [0]] (whL_c c n now sure cs ts us busy kind opn start) (whL_o c n now sure cs ts us busy kind opn start)
theorem whL_eq (c : Int) (n : Nat) (now : List Sector) (sure : List Sector) (cs : List Int) (ts : List Task) (us : List Task) (busy : List Bool) (kind : List Int) (opn : List Bool) (start : List Int) : whL_r c n now sure cs ts us busy kind opn start = (let Z0 : OS := OS.mk cs ts us busy kind opn start; let Z1 : Bool := Prod.snd (ansO Z0 c (2 : Int)); let Z2 : List Int := Prod.fst (ansO Z0 c (2 : Int)); let Z3 : Int := (↑Z2.length : Int); let Z4 : OS := pickO Z0 c (2 : Int); let Z5 : D RC := .anil; let Z6 : D RC := D.acons (D.acons (D.sl RTy.sector false now) (.acons (D.sl RTy.sector false sure) Z5)) Z5; let Z7 : List (Option (Obj RC)) := [some (Obj.var 30 (.acons (D.ptr 1 []) (.acons (D.arr RTy.int (4 : Nat) (OS.kind Z4)) (.acons (D.arr RTy.bool (4 : Nat) (OS.opn Z4)) (.acons (D.arr RTy.int (4 : Nat) (OS.start Z4)) Z5))))), some (Obj.var 46 (.acons (D.acons (D.sl RTy.int false (OS.cs Z4)) Z6) (.acons (D.arr RTy.task (4 : Nat) (OS.ts Z4)) (.acons (D.arr RTy.task (4 : Nat) (OS.us Z4)) (.acons (D.arr RTy.bool (4 : Nat) (OS.busy Z4)) Z5)))))]; let Z8 : RO_ := bif Z1 then some ((X.ret, [(6, D.int .i64 0), (7, D.bool false)]), Z7) else some ((X.normal, [(0, D.ptr 0 []), (1, D.int .i64 c), (8, D.int .i64 (IntKind.wrap .i64 ((↑n : Int) + (1 : Int))))]), Z7); bif decide ((↑n : Int) < (20 : Int)) then bif cdec (OkPickO Z0 now sure (c % (4 : Int)) ∧ diskOK now sure = true ∧ goodL now = true ∧ goodL sure = true) then bif Z1 then bif lenOK Z2.length then bif Z3 == (1 : Int) then bif decide ((0 : Int) ≤ (0 : Int) ∧ (0 : Int) < Z3) then some ((X.ret, [(6, D.int .i64 (List.getD Z2 (0 : Nat) (0 : Int))), (7, D.bool true)]), Z7) else none else Z8 else none else Z8 else none else some ((X.exit (0 : Nat), [(6, D.top), (7, D.top)]), [some (Obj.var 30 (.acons (D.ptr 1 []) (.acons (D.arr RTy.int (4 : Nat) kind) (.acons (D.arr RTy.bool (4 : Nat) opn) (.acons (D.arr RTy.int (4 : Nat) start) Z5))))), some (Obj.var 46 (.acons (D.acons (D.sl RTy.int false cs) Z6) (.acons (D.arr RTy.task (4 : Nat) ts) (.acons (D.arr RTy.task (4 : Nat) us) (.acons (D.arr RTy.bool (4 : Nat) busy) Z5)))))])) := by kernel_rfl
noncomputable def whL_fin (c : Int) (n : Nat) (now : List Sector) (sure : List Sector) (cs : List Int) (ts : List Task) (us : List Task) (busy : List Bool) (kind : List Int) (opn : List Bool) (start : List Int) : RT RC := .leaf .ret [(6, .int .i64 (whO c (20 - n) ⟨cs, ts, us, busy, kind, opn, start⟩).2), (7, .bool true)] (whL_o c n now sure (whO c (20 - n) ⟨cs, ts, us, busy, kind, opn, start⟩).1.cs (whO c (20 - n) ⟨cs, ts, us, busy, kind, opn, start⟩).1.ts (whO c (20 - n) ⟨cs, ts, us, busy, kind, opn, start⟩).1.us (whO c (20 - n) ⟨cs, ts, us, busy, kind, opn, start⟩).1.busy (whO c (20 - n) ⟨cs, ts, us, busy, kind, opn, start⟩).1.kind (whO c (20 - n) ⟨cs, ts, us, busy, kind, opn, start⟩).1.opn (whO c (20 - n) ⟨cs, ts, us, busy, kind, opn, start⟩).1.start)
def whL_Inv (c : Int) (n : Nat) (now : List Sector) (sure : List Sector) (cs : List Int) (ts : List Task) (us : List Task) (busy : List Bool) (kind : List Int) (opn : List Bool) (start : List Int) : Prop := (0 ≤ c ∧ c ≤ 3 ∧ (diskOK now sure = true ∧ goodL now = true ∧ goodL sure = true)) ∧ oBusy ⟨cs, ts, us, busy, kind, opn, start⟩ c = true ∧ ∃ (most kk : Int) (m : Nat), OI ⟨cs, ts, us, busy, kind, opn, start⟩ most kk ∧ n + m ≤ 20 ∧ WPath c m ⟨cs, ts, us, busy, kind, opn, start⟩
noncomputable def whL_S : LoopR RC whL_St where
  k := 2
  canon q := whL_c q.c q.n q.now q.sure q.cs q.ts q.us q.busy q.kind q.opn q.start
  objs q := whL_o q.c q.n q.now q.sure q.cs q.ts q.us q.busy q.kind q.opn q.start
  fin q := whL_fin q.c q.n q.now q.sure q.cs q.ts q.us q.busy q.kind q.opn q.start
  Inv q := whL_Inv q.c q.n q.now q.sure q.cs q.ts q.us q.busy q.kind q.opn q.start
  μ q := 30 - q.n
theorem whL_round (c : Int) (n : Nat) (now : List Sector) (sure : List Sector) (cs : List Int) (ts : List Task) (us : List Task) (busy : List Bool) (kind : List Int) (opn : List Bool) (start : List Int) (hI : whL_Inv c n now sure cs ts us busy kind opn start) : Leaf (whL_r c n now sure cs ts us busy kind opn start) (LedR whL_S ⟨c, n, now, sure, cs, ts, us, busy, kind, opn, start⟩) := by
  (rw [whL_eq]; conv => zeta)
  unfold whL_Inv at hI
  obtain ⟨⟨c0, c3, hd, hg1, hg2⟩, hb, most, kk, m, hI, hnm, hP⟩ := hI
  have hm1 : 1 ≤ m := by cases hP <;> omega
  have hcm : c % 4 = c := Int.emod_eq_of_lt c0 (by omega)
  have hok := hI.okPick c now sure hd hg1 hg2
  rw [hcm] at hok
  have v1 : IntKind.i64.wrap ((n : Int) + 1) = ((n + 1 : Nat) : Int) := by rw [wrap_id (by omega) (by omega)]; simp
  have hPk : pickO ⟨cs, ts, us, busy, kind, opn, start⟩ c 2 = stepQ ⟨cs, ts, us, busy, kind, opn, start⟩ c := by
    show (if oBusy _ (c % 4) = true then stepQ _ (c % 4) else _) = _
    rw [hcm]; exact if_pos hb
  have hA : ansO ⟨cs, ts, us, busy, kind, opn, start⟩ c 2 = (bif (endO ⟨cs, ts, us, busy, kind, opn, start⟩ c).is then [] else (endO ⟨cs, ts, us, busy, kind, opn, start⟩ c).got, !(endO ⟨cs, ts, us, busy, kind, opn, start⟩ c).is) := by
    unfold ansO; rw [hcm]; exact if_pos ⟨rfl, hb⟩
  obtain ⟨most', hs⟩ := hI.step c0 c3 hb
  have hwh : whO c (20 - n) ⟨cs, ts, us, busy, kind, opn, start⟩ = if (endO ⟨cs, ts, us, busy, kind, opn, start⟩ c).is = true then whO c (20 - (n + 1)) (stepQ ⟨cs, ts, us, busy, kind, opn, start⟩ c) else (stepQ ⟨cs, ts, us, busy, kind, opn, start⟩ c, (endO ⟨cs, ts, us, busy, kind, opn, start⟩ c).got.getD 0 0) := by
    rw [show 20 - n = (20 - (n + 1)) + 1 by omega, whO]
  have hfin : ∀ q, whO c (20 - n) ⟨cs, ts, us, busy, kind, opn, start⟩ = q → whL_fin c n now sure cs ts us busy kind opn start = .leaf .ret [(6, .int .i64 q.2), (7, .bool true)] (whL_o c n now sure q.1.cs q.1.ts q.1.us q.1.busy q.1.kind q.1.opn q.1.start) := fun q hq => by unfold whL_fin; rw [hq]
  have k1 : cdec (OkPickO ⟨cs, ts, us, busy, kind, opn, start⟩ now sure c ∧ diskOK now sure = true ∧ goodL now = true ∧ goodL sure = true) = true := cdec_true ⟨hok, hd, hg1, hg2⟩
  have d1 : decide ((n : Int) < 20) = true := decide_eq_true (by omega)
  have hbu : (endO ⟨cs, ts, us, busy, kind, opn, start⟩ c).is = true → oBusy (stepQ ⟨cs, ts, us, busy, kind, opn, start⟩ c) c = true := fun hi => by
    show (stepQ ⟨cs, ts, us, busy, kind, opn, start⟩ c).busy.getD c.toNat false = true
    rw [stepQ_busy, hi, cond_true]; exact hb
  have hoi := hs.oi
  have hans := hs.ans
  clear hs hok
  simp only [hcm, hPk, hA, v1, k1, d1, cond_true]
  cases hP with
  | @go m' _ hi hN =>
    rw [if_pos hi] at hwh
    have hfin := hfin _ hwh
    have hbu := hbu hi
    simp only [hi, Bool.not_true, Bool.not_false, cond_true, cond_false]
    generalize stepQ ⟨cs, ts, us, busy, kind, opn, start⟩ c = P at *
    exact leafR_go (S := whL_S) (s := ⟨c, n, now, sure, cs, ts, us, busy, kind, opn, start⟩) ⟨c, n + 1, now, sure, P.cs, P.ts, P.us, P.busy, P.kind, P.opn, P.start⟩ ⟨⟨c0, c3, hd, hg1, hg2⟩, hbu, most', kk, m', hoi, by show n + 1 + m' ≤ 20; omega, hN⟩ (by simp only [whL_S]; omega) (by show (whL_fin c (n + 1) now sure P.cs P.ts P.us P.busy P.kind P.opn P.start).val = (whL_fin c n now sure cs ts us busy kind opn start).val; rw [hfin]; rfl) rfl rfl
  | @stop m' _ hi =>
    rw [if_neg (by rw [hi]; simp)] at hwh
    have hfin := hfin _ hwh
    rcases hans with ⟨e, _⟩ | ⟨_, a, e, _⟩
    · rw [hi] at e; cases e
    · rw [e] at hfin
      simp only [hi, e, Bool.not_false, cond_true, cond_false]
      generalize stepQ ⟨cs, ts, us, busy, kind, opn, start⟩ c = P at *
      exact leafR_ret (S := whL_S) (s := ⟨c, n, now, sure, cs, ts, us, busy, kind, opn, start⟩) (env := [(6, .int .i64 a), (7, .bool true)]) (whL_o c n now sure P.cs P.ts P.us P.busy P.kind P.opn P.start) (by show (whL_fin c n now sure cs ts us busy kind opn start).val = _; rw [hfin]; rfl) rfl
noncomputable def whL_d (env : Env RC) (os : List (Obj RC)) : Option (Bool × whL_St) := match env, os with
  | [(0, .ptr 0 []), (1, .int .i64 c), (8, .int .i64 x0)], [.var 30 (.acons (.ptr 1 []) (.acons (.arr .int 4 kind) (.acons (.arr .bool 4 opn) (.acons (.arr .int 4 start) .anil)))), .var 46 (.acons (.acons (.sl .int false cs) (.acons (.acons (.sl .sector false now) (.acons (.sl .sector false sure) .anil)) .anil)) (.acons (.arr .task 4 ts) (.acons (.arr .task 4 us) (.acons (.arr .bool 4 busy) .anil))))] => staticD (true) (decide (x0 = 0) && cdec ((0 ≤ c ∧ c ≤ 3 ∧ (diskOK now sure = true ∧ goodL now = true ∧ goodL sure = true)) ∧ oBusy ⟨cs, ts, us, busy, kind, opn, start⟩ c = true ∧ ∃ (most kk : Int), OI ⟨cs, ts, us, busy, kind, opn, start⟩ most kk ∧ WPath c 20 ⟨cs, ts, us, busy, kind, opn, start⟩), ⟨c, 0, now, sure, cs, ts, us, busy, kind, opn, start⟩)
  | _, _ => none
noncomputable def uj_1 := ui_1.addLoop 11 3 (sumR s23 [.slot 0 0, .path 0 [0]] [0, 1, 8] whL_S whL_d)
theorem uj_1_laws : FLaws Tryz.prog s23 uj_1 := by
  refine ui_1_laws.addRoundsR s23_laws (by kernel_rfl) whL_S 60 [0, 1, 8] [6, 7] [.slot 0 0, .path 0 [0]] [0, 1, 8] whL_d (fun q hI => ?_) ?_
  · obtain ⟨c, n, now, sure, cs, ts, us, busy, kind, opn, start⟩ := q
    refine ⟨?_, ?_, whL_round c n now sure cs ts us busy kind opn start hI⟩
    · simp_all [RefsOK, whL_S, whL_c, whL_o, whL_Inv, D.refs, Obj.refs, rEnc]
    · simp_all [whL_S, whL_fin, whL_o, whL_Inv, RT.refsOK, RefsOK, D.refs, Obj.refs, rEnc]
  · intro env os b q hd_ hb
    unfold whL_d at hd_
    split at hd_
    · obtain ⟨hs, hd_⟩ := staticD_some hd_
      cases hd_
      simp only [Bool.and_eq_true, decide_eq_true_eq] at hb
      obtain ⟨e0, e1⟩ := hb
      obtain ⟨e2, e3, most, kk, e4, e5⟩ := cdec_iff.1 e1
      subst e0
      exact ⟨⟨e2, e3, most, kk, 20, e4, show (0 : Nat) + 20 ≤ 20 by decide, e5⟩, rfl, rfl⟩
    · cases hd_
structure whole23_St where
  c : Int
  kd : Int
  now : List Sector
  sure : List Sector
  cs : List Int
  ts : List Task
  us : List Task
  busy : List Bool
  kind : List Int
  opn : List Bool
  start : List Int
def whole23_a (c : Int) (kd : Int) (now : List Sector) (sure : List Sector) (cs : List Int) (ts : List Task) (us : List Task) (busy : List Bool) (kind : List Int) (opn : List Bool) (start : List Int) : List (D RC) := [.ptr 0 [], .int .i64 c, .int .i64 kd]
def whole23_o (c : Int) (kd : Int) (now : List Sector) (sure : List Sector) (cs : List Int) (ts : List Task) (us : List Task) (busy : List Bool) (kind : List Int) (opn : List Bool) (start : List Int) : List (Obj RC) := [.var 30 (.acons (.ptr 1 []) (.acons (.arr (C := RC) .int 4 kind) (.acons (.arr (C := RC) .bool 4 opn) (.acons (.arr (C := RC) .int 4 start) .anil)))), .var 46 (.acons (.acons (.sl (C := RC) .int false cs) (.acons (.acons (.sl (C := RC) .sector false now) (.acons (.sl (C := RC) .sector false sure) .anil)) .anil)) (.acons (.arr (C := RC) .task 4 ts) (.acons (.arr (C := RC) .task 4 us) (.acons (.arr (C := RC) .bool 4 busy) .anil))))]
noncomputable def whole23_r (c : Int) (kd : Int) (now : List Sector) (sure : List Sector) (cs : List Int) (ts : List Task) (us : List Task) (busy : List Bool) (kind : List Int) (opn : List Bool) (start : List Int) := fnO s23 uj_1 11 60 2 (whole23_a c kd now sure cs ts us busy kind opn start) (whole23_o c kd now sure cs ts us busy kind opn start)
theorem whole23_eq (c : Int) (kd : Int) (now : List Sector) (sure : List Sector) (cs : List Int) (ts : List Task) (us : List Task) (busy : List Bool) (kind : List Int) (opn : List Bool) (start : List Int) : whole23_r c kd now sure cs ts us busy kind opn start = (let Z0 : OS := OS.mk cs ts us busy kind opn start; let Z1 : OS := pickO Z0 c kd; let Z2 : OS := OS.mk (OS.cs Z1) (OS.ts Z1) (OS.us Z1) (OS.busy Z1) (OS.kind Z1) (OS.opn Z1) (OS.start Z1); let Z3 : D RC := .anil; let Z4 : OS := Prod.fst (whO c (20 : Nat) Z2); bif cdec (OkPickO Z0 now sure (c % (4 : Int)) ∧ diskOK now sure = true ∧ goodL now = true ∧ goodL sure = true) then bif cdec (((0 : Int) ≤ c ∧ c ≤ (3 : Int) ∧ diskOK now sure = true ∧ goodL now = true ∧ goodL sure = true) ∧ oBusy Z2 c = true ∧ ∃ (most : Int), ∃ (kk : Int), OI Z2 most kk ∧ WPath c (20 : Nat) Z2) then some (D.tup (D.acons (D.int .i64 (whO c (20 : Nat) Z2).2) (.acons (D.bool true) Z3)), [some (Obj.var 30 (.acons (D.ptr 1 []) (.acons (D.arr RTy.int (4 : Nat) (OS.kind Z4)) (.acons (D.arr RTy.bool (4 : Nat) (OS.opn Z4)) (.acons (D.arr RTy.int (4 : Nat) (OS.start Z4)) Z3))))), some (Obj.var 46 (.acons (D.acons (D.sl RTy.int false (OS.cs Z4)) (.acons (D.acons (D.sl RTy.sector false now) (.acons (D.sl RTy.sector false sure) Z3)) Z3)) (.acons (D.arr RTy.task (4 : Nat) (OS.ts Z4)) (.acons (D.arr RTy.task (4 : Nat) (OS.us Z4)) (.acons (D.arr RTy.bool (4 : Nat) (OS.busy Z4)) Z3)))))]) else none else none) := by kernel_rfl
noncomputable def whole23_fin (c : Int) (kd : Int) (now : List Sector) (sure : List Sector) (cs : List Int) (ts : List Task) (us : List Task) (busy : List Bool) (kind : List Int) (opn : List Bool) (start : List Int) : RT RC := .leaf .ret [(0, .tup (.acons (.int .i64 (whO c 20 (beginO ⟨cs, ts, us, busy, kind, opn, start⟩ c kd)).2) (.acons (.bool true) .anil)))] (whole23_o c kd now sure (whO c 20 (beginO ⟨cs, ts, us, busy, kind, opn, start⟩ c kd)).1.cs (whO c 20 (beginO ⟨cs, ts, us, busy, kind, opn, start⟩ c kd)).1.ts (whO c 20 (beginO ⟨cs, ts, us, busy, kind, opn, start⟩ c kd)).1.us (whO c 20 (beginO ⟨cs, ts, us, busy, kind, opn, start⟩ c kd)).1.busy (whO c 20 (beginO ⟨cs, ts, us, busy, kind, opn, start⟩ c kd)).1.kind (whO c 20 (beginO ⟨cs, ts, us, busy, kind, opn, start⟩ c kd)).1.opn (whO c 20 (beginO ⟨cs, ts, us, busy, kind, opn, start⟩ c kd)).1.start)
def whole23_Inv (c : Int) (kd : Int) (now : List Sector) (sure : List Sector) (cs : List Int) (ts : List Task) (us : List Task) (busy : List Bool) (kind : List Int) (opn : List Bool) (start : List Int) : Prop := (0 ≤ c ∧ c ≤ 3 ∧ (kd = 0 ∨ kd = 1) ∧ (diskOK now sure = true ∧ goodL now = true ∧ goodL sure = true)) ∧ OkWhole ⟨cs, ts, us, busy, kind, opn, start⟩ c kd
noncomputable def whole23_S : FunR RC whole23_St where
  k := 2
  args q := whole23_a q.c q.kd q.now q.sure q.cs q.ts q.us q.busy q.kind q.opn q.start
  objs q := whole23_o q.c q.kd q.now q.sure q.cs q.ts q.us q.busy q.kind q.opn q.start
  fin q := whole23_fin q.c q.kd q.now q.sure q.cs q.ts q.us q.busy q.kind q.opn q.start
  Inv q := whole23_Inv q.c q.kd q.now q.sure q.cs q.ts q.us q.busy q.kind q.opn q.start
theorem whole23_ok (c : Int) (kd : Int) (now : List Sector) (sure : List Sector) (cs : List Int) (ts : List Task) (us : List Task) (busy : List Bool) (kind : List Int) (opn : List Bool) (start : List Int) (hI : whole23_Inv c kd now sure cs ts us busy kind opn start) : Leaf (whole23_r c kd now sure cs ts us busy kind opn start) (LedF whole23_S ⟨c, kd, now, sure, cs, ts, us, busy, kind, opn, start⟩) := by
  (rw [whole23_eq]; conv => zeta)
  unfold whole23_Inv at hI
  obtain ⟨⟨c0, c3, hk, hd, hg1, hg2⟩, hW⟩ := hI
  have hcm : c % 4 = c := Int.emod_eq_of_lt c0 (by omega)
  obtain ⟨hP, most, kk, hO⟩ := ok_whole hW c0 c3 hk
  obtain ⟨h1, h2, h3, m0, k0, hI⟩ := hW
  have hok := hI.okPick c now sure hd hg1 hg2
  have hPk : pickO ⟨cs, ts, us, busy, kind, opn, start⟩ c kd = beginO ⟨cs, ts, us, busy, kind, opn, start⟩ c kd := by
    unfold pickO
    rw [if_pos hk, hcm, if_pos ⟨h1, h2⟩]
  have eta : ∀ s : OS, OS.mk s.cs s.ts s.us s.busy s.kind s.opn s.start = s := fun _ => rfl
  have hbu := (beginO_at hI (kd := kd) c0 c3).2.2.2.2
  have k1 : cdec (OkPickO ⟨cs, ts, us, busy, kind, opn, start⟩ now sure (c % 4) ∧ diskOK now sure = true ∧ goodL now = true ∧ goodL sure = true) = true := cdec_true ⟨hok, hd, hg1, hg2⟩
  have hfin : ∀ q, whO c 20 (beginO ⟨cs, ts, us, busy, kind, opn, start⟩ c kd) = q → whole23_fin c kd now sure cs ts us busy kind opn start = .leaf .ret [(0, .tup (.acons (.int .i64 q.2) (.acons (.bool true) .anil)))] (whole23_o c kd now sure q.1.cs q.1.ts q.1.us q.1.busy q.1.kind q.1.opn q.1.start) := fun q hq => by unfold whole23_fin; rw [hq]
  simp only [hPk, eta, k1, cond_true]
  generalize beginO ⟨cs, ts, us, busy, kind, opn, start⟩ c kd = B at *
  have k2 : cdec ((0 ≤ c ∧ c ≤ 3 ∧ diskOK now sure = true ∧ goodL now = true ∧ goodL sure = true) ∧ oBusy B c = true ∧ ∃ most kk : Int, OI B most kk ∧ WPath c 20 B) = true := cdec_true ⟨⟨c0, c3, hd, hg1, hg2⟩, hbu, most, kk, hO, hP⟩
  rw [k2]
  simp only [cond_true]
  have hfin := hfin _ rfl
  generalize whO c 20 B = q at *
  exact leafF (S := whole23_S) (s := ⟨c, kd, now, sure, cs, ts, us, busy, kind, opn, start⟩) (whole23_o c kd now sure q.1.cs q.1.ts q.1.us q.1.busy q.1.kind q.1.opn q.1.start) (by show (whole23_fin c kd now sure cs ts us busy kind opn start).val = _; rw [hfin]; rfl) rfl
noncomputable def whole23_d (env : Env RC) (os : List (Obj RC)) : Option (Bool × whole23_St) := match env, os with
  | [(0, .ptr 0 []), (1, .int .i64 c), (2, .int .i64 kd)], [.var 30 (.acons (.ptr 1 []) (.acons (.arr .int 4 kind) (.acons (.arr .bool 4 opn) (.acons (.arr .int 4 start) .anil)))), .var 46 (.acons (.acons (.sl .int false cs) (.acons (.acons (.sl .sector false now) (.acons (.sl .sector false sure) .anil)) .anil)) (.acons (.arr .task 4 ts) (.acons (.arr .task 4 us) (.acons (.arr .bool 4 busy) .anil))))] => staticD (true) (cdec ((0 ≤ c ∧ c ≤ 3 ∧ (kd = 0 ∨ kd = 1) ∧ (diskOK now sure = true ∧ goodL now = true ∧ goodL sure = true)) ∧ OkWhole ⟨cs, ts, us, busy, kind, opn, start⟩ c kd), ⟨c, kd, now, sure, cs, ts, us, busy, kind, opn, start⟩)
  | _, _ => none
noncomputable def uj_2 := uj_1.addObj 11 (sumF s23 [.slot 0 0, .path 0 [0]] 3 whole23_S whole23_d)
theorem uj_2_laws : FLaws Tryz.prog s23 uj_2 := by
  refine uj_1_laws.addFun s23_laws whole23_S 60 3 [.slot 0 0, .path 0 [0]] whole23_d (fun q hI => ?_) ?_
  · obtain ⟨c, kd, now, sure, cs, ts, us, busy, kind, opn, start⟩ := q
    refine ⟨?_, ?_, rfl, whole23_ok c kd now sure cs ts us busy kind opn start hI⟩
    · simp [RefsOK, whole23_S, whole23_a, whole23_o, eargs, D.refs, Obj.refs]
    · simp [whole23_S, whole23_fin, whole23_o, RT.refsOK, RefsOK, D.refs, Obj.refs]
  · intro env os b q hd_ hb
    unfold whole23_d at hd_
    split at hd_
    · obtain ⟨hs, hd_⟩ := staticD_some hd_
      cases hd_
      try simp only [Bool.and_eq_true, decide_eq_true_eq] at hb
      exact ⟨cdec_iff.1 hb, rfl, rfl⟩
    · cases hd_
open Go.Proofs
def wakesQ_s  : Option (Bool × D RC) := some (true, .bool true)
def wakesQ_sp : List (D RC) → Option (Bool × D RC)
  | [] => wakesQ_s 
  | _ => none
noncomputable def wakesQ_e  := evF s23 uj_2 100 8 []
theorem wakesQ_ok  (h : (true) = true) : wakesQ_e  = some (.bool true) := by
  kernel_rfl
noncomputable def uk_1 := uj_2.addSpec 8 wakesQ_sp
theorem uk_1_laws : FLaws Tryz.prog s23 uk_1 := uj_2_laws.addEv s23_laws fun args d h => by
  unfold wakesQ_sp at h
  split at h
  · unfold wakesQ_s at h
    have h1 := congrArg Prod.fst (Option.some.inj h)
    obtain rfl : _ = d := congrArg Prod.snd (Option.some.inj h)
    exact ⟨by simp [D.refs], 100, wakesQ_ok  h1⟩
  · cases h
noncomputable def quiet23_e (x : Int) (y : Int) (z : Int) := evF s23 uk_1 1000 4 [.int .i64 x, .int .i64 y, .int .i64 z]
set_option maxHeartbeats 4000000 in
theorem quiet23_eq (x : Int) (y : Int) (z : Int) : quiet23_e x y z = (let Z0 : Bool := Nat.beq (771 : Nat) nC.length; let Z1 : Int := Int.tmod (IntKind.wrap .i64 (Int.tmod x (1000 : Int) + (1000 : Int))) (1000 : Int); let Z2 : Int := Int.tmod (IntKind.wrap .i64 (Int.tmod z (4 : Int) + (4 : Int))) (4 : Int); let Z3 : List Task := List.replicate (4 : Nat) (rDflt RTy.task); let Z4 : List Bool := List.replicate (4 : Nat) false; let Z5 : List Int := List.replicate (4 : Nat) (0 : Int); let Z6 : OS := OS.mk (List.set nC (0 : Nat) Z1) Z3 Z3 Z4 Z5 Z4 Z5; let Z7 : OS × Int := whO Z2 (20 : Nat) (beginO Z6 Z2 (1 : Int)); let Z8 : DO_ := some (D.bool false); let Z9 : Int := Int.tmod (IntKind.wrap .i64 (Z2 + (1 : Int))) (4 : Int); let Z10 : OS := Prod.fst Z7; let Z11 : OS := OS.mk (OS.cs Z10) (OS.ts Z10) (OS.us Z10) (OS.busy Z10) (OS.kind Z10) (OS.opn Z10) (OS.start Z10); let Z12 : OS × Int := whO Z9 (20 : Nat) (beginO Z11 Z9 (0 : Int)); let Z13 : OS := Prod.fst Z12; let Z14 : Nat := (0 : Nat) + List.length (OS.cs Z13); let Z15 : List Int := List.replicate (0 : Nat) (0 : Int) ++ OS.cs Z13; let Z16 : Bool := Nat.beq Z14 Z15.length; let Z17 : List Int := List.set Z15 (0 : Nat) (IntKind.wrap .i64 (Z1 + Int.tmod (IntKind.wrap .i64 (Int.tmod y (1000 : Int) + (1000 : Int))) (1000 : Int))); let Z18 : OS := OS.mk Z17 (OS.ts Z13) (OS.us Z13) (OS.busy Z13) (OS.kind Z13) (OS.opn Z13) (OS.start Z13); bif Z0 && decide ((0 : Int) ≤ (0 : Int) ∧ (0 : Int) < (↑nC.length : Int)) then bif Z0 then bif Nat.beq (771 : Nat) (List.set nC (0 : Nat) Z1).length then bif cdec (((0 : Int) ≤ Z2 ∧ Z2 ≤ (3 : Int) ∧ ((1 : Int) = (0 : Int) ∨ (1 : Int) = (1 : Int)) ∧ true = true ∧ true = true ∧ true = true) ∧ OkWhole Z6 Z2 (1 : Int)) then bif Prod.snd Z7 != Z1 then Z8 else bif cdec (((0 : Int) ≤ Z9 ∧ Z9 ≤ (3 : Int) ∧ ((0 : Int) = (0 : Int) ∨ (0 : Int) = (1 : Int)) ∧ true = true ∧ true = true ∧ true = true) ∧ OkWhole Z11 Z9 (0 : Int)) then bif Prod.snd Z12 != Z1 then Z8 else bif sizeOK Z14 (8 : Nat) then bif Z16 && decide ((0 : Int) ≤ (0 : Int) ∧ (0 : Int) < (↑Z15.length : Int)) then bif Z16 then bif Nat.beq Z14 Z17.length then bif cdec (((0 : Int) ≤ Z2 ∧ Z2 ≤ (3 : Int) ∧ ((1 : Int) = (0 : Int) ∨ (1 : Int) = (1 : Int)) ∧ true = true ∧ true = true ∧ true = true) ∧ OkWhole Z18 Z2 (1 : Int)) then bif Prod.snd (whO Z2 (20 : Nat) (beginO Z18 Z2 (1 : Int))) == Z1 then some (D.bool true) else Z8 else none else none else none else none else none else none else none else none else none else none) := by kernel_rfl
theorem quiet23_ok (x : Int) (y : Int) (z : Int) (h : (true) = true) : quiet23_e x y z = some (.bool true) := by
  (rw [quiet23_eq]; conv => zeta)
  have h1 : -1000 < Int.tmod x 1000 := Int.lt_tmod_of_pos _ (by decide)
  have h2 : Int.tmod x 1000 < 1000 := Int.tmod_lt_of_pos _ (by decide)
  have h3 : -1000 < Int.tmod y 1000 := Int.lt_tmod_of_pos _ (by decide)
  have h4 : Int.tmod y 1000 < 1000 := Int.tmod_lt_of_pos _ (by decide)
  have hF : Int.tmod (IntKind.i64.wrap (Int.tmod x 1000 + 1000)) 1000 = (Int.tmod x 1000 + 1000) % 1000 := by
    rw [wrap_id (by omega) (by omega), Int.tmod_eq_emod_of_nonneg (by omega)]
  have hO : Int.tmod (IntKind.i64.wrap (Int.tmod y 1000 + 1000)) 1000 = (Int.tmod y 1000 + 1000) % 1000 := by
    rw [wrap_id (by omega) (by omega), Int.tmod_eq_emod_of_nonneg (by omega)]
  have c0 : 0 ≤ z % 4 := Int.emod_nonneg _ (by decide)
  have c4 : z % 4 < 4 := Int.emod_lt_of_pos _ (by decide)
  have hD : Int.tmod (IntKind.i64.wrap (z % 4 + 1)) 4 = (z % 4 + 1) % 4 := by
    rw [wrap_id (by omega) (by omega), Int.tmod_eq_emod_of_nonneg (by omega)]
  simp only [mod4, hF, hO, hD]
  have F0 : 0 ≤ (Int.tmod x 1000 + 1000) % 1000 := Int.emod_nonneg _ (by decide)
  have F1 : (Int.tmod x 1000 + 1000) % 1000 < 1000 := Int.emod_lt_of_pos _ (by decide)
  have O0 : 0 ≤ (Int.tmod y 1000 + 1000) % 1000 := Int.emod_nonneg _ (by decide)
  have O1 : (Int.tmod y 1000 + 1000) % 1000 < 1000 := Int.emod_lt_of_pos _ (by decide)
  have D0 : 0 ≤ (z % 4 + 1) % 4 := Int.emod_nonneg _ (by decide)
  have D4 : (z % 4 + 1) % 4 < 4 := Int.emod_lt_of_pos _ (by decide)
  have hne : z % 4 ≠ (z % 4 + 1) % 4 := by omega
  generalize (Int.tmod x 1000 + 1000) % 1000 = F at *
  generalize (Int.tmod y 1000 + 1000) % 1000 = on at *
  generalize (z % 4 + 1) % 4 = d at *
  generalize z % 4 = c at *
  have c3 : c ≤ 3 := by omega
  have d3 : d ≤ 3 := by omega
  obtain ⟨w1, a1, w2, a2, l2, w3, a3⟩ := quiet F0 F1 O0 O1 c0 c3 D0 d3 hne
  have hs : IntKind.i64.wrap (F + on) = F + on := wrap_id (by omega) (by omega)
  have hn : newCells.length = 771 := by kernel_rfl
  have no : ∀ {α : Type} {b : Bool} {u v w : α}, b = false → v = w → cond b u v = w := fun h e => by rw [h]; exact e
  rw [hs, nC_eq]
  refine cond_of (by rw [hn]; rfl) (cond_of (by rw [hn]; rfl) (cond_of (by rw [List.length_set, hn]; rfl) (cond_of (cdec_true ⟨⟨c0, c3, by simp⟩, w1⟩) ?_)))
  refine no (ibneF a1) (cond_of (cdec_true ⟨⟨D0, d3, by simp⟩, w2⟩) (no (ibneF a2) ?_))
  refine cond_of (sizeT (by show (0 + (qs2 F c d).1.cs.length) * 8 ≤ _; rw [l2]; decide)) ?_
  refine cond_of (by rw [Bool.and_eq_true]; refine ⟨nbeqT ?_, decide_eq_true ⟨by decide, ?_⟩⟩
                     · show 0 + (qs2 F c d).1.cs.length = (qs2 F c d).1.cs.length; rw [Nat.zero_add]
                     · show (0 : Int) < ((qs2 F c d).1.cs.length : Int); rw [l2]; decide) ?_
  refine cond_of (nbeqT (by show 0 + (qs2 F c d).1.cs.length = (qs2 F c d).1.cs.length; rw [Nat.zero_add])) ?_
  refine cond_of (nbeqT (by show 0 + (qs2 F c d).1.cs.length = ((qs2 F c d).1.cs.set 0 (F + on)).length; rw [List.length_set, Nat.zero_add])) ?_
  refine cond_of (cdec_true ⟨⟨c0, c3, by simp⟩, w3⟩) ?_
  exact cond_of (ibeqT a3) rfl
open Go.ChangeShapes Go.WideShapes Go.RowKit
section
variable {C : Cdc}
def good (gA : (t : C.Ty) → C.A t → Prop) : D C → Prop
  | .int k n => k.min ≤ n ∧ n ≤ k.max
  | .str s => s.length ≤ maxLen
  | .acons d ds => good gA d ∧ good gA ds
  | .arr t n l => l.length = n ∧ ∀ x ∈ l, gA t x
  | .sl t _ l => l.length ≤ maxLen ∧ ∀ x ∈ l, gA t x
  | _ => True
def plainT (T : Tab C) : Nat → TypeId → Bool
  | 0, _ => false
  | k + 1, t => match T.ty t with
    | .bool | .int _ | .str => true
    | .struct _ fs => fs.all (plainT T k)
    | .arr _ e _ => plainT T k e
    | .sl e _ => plainT T k e
    | _ => false
structure Dec (T : Tab C) (gA : (t : C.Ty) → C.A t → Prop) : Prop where
  dec : ∀ t d, fit T d (.inl (T.ety t)) = true → d.refs = [] → good gA d → (∃ k u, T.ty u = T.ty (T.ety t) ∧ plainT T k u = true) → ∃ x, T.dec t d = some x ∧ gA t x
variable {P : Program} {T : Tab C} {gA : (t : C.Ty) → C.A t → Prop}
def X0 (W : World) : Cx := ⟨W, fun _ => none, fun _ _ => False⟩
theorem X0_free (W : World) (b o : Nat) : (X0 W).free b o := ⟨fun h => h, fun ⟨_, _, h, _⟩ => by simp [X0] at h⟩
theorem arr_R {X : Cx} (t : C.Ty) (sz : Nat) : ∀ (n : Nat) (cs : List Value), cs.length = n * sz → (∀ i, i < n → ∃ x : C.A t, R T X false (T.enc t x) ((cs.drop (i * sz)).take sz) ∧ gA t x) →
    ∃ l : List (C.A t), R T X false (.arr t n l) cs ∧ l.length = n ∧ ∀ x ∈ l, gA t x
  | 0, cs, hl, _ => by
    obtain rfl : cs = [] := by simpa using hl
    exact ⟨[], .arr0 _, rfl, by simp⟩
  | n + 1, cs, hl, h => by
    obtain ⟨x, hx, gx⟩ := h 0 (by omega)
    obtain ⟨l, hr, hn, gl⟩ := arr_R t sz n (cs.drop sz) (by rw [List.length_drop, hl, Nat.succ_mul]; omega) fun i hi => by
      obtain ⟨y, hy, gy⟩ := h (i + 1) (by omega)
      refine ⟨y, ?_, gy⟩
      rw [List.drop_drop]
      rw [show sz + i * sz = (i + 1) * sz by rw [Nat.succ_mul]; omega]
      exact hy
    refine ⟨x :: l, ?_, by simp [hn], by simpa using ⟨gx, gl⟩⟩
    have := R.arrS hx hr
    simpa using this
theorem sl_R {W : World} (t : C.Ty) (b sz : Nat) : ∀ (n off : Nat), (∀ i, i < n → ∃ (x : C.A t) (ci : List Value), R T (X0 W) false (T.enc t x) ci ∧ ci.length = sz ∧ (∀ j, j < sz → W.cell? ⟨b, off + i * sz + j, none⟩ = ci[j]?) ∧ gA t x) →
    ∃ (l : List (C.A t)) (cs : List Value), R T (X0 W) false (.arr t n l) cs ∧ l.length = n ∧ (X0 W).at b off cs ∧ ∀ x ∈ l, gA t x
  | 0, off, _ => ⟨[], [], .arr0 _, rfl, fun j v h => by simp at h, by simp⟩
  | n + 1, off, h => by
    obtain ⟨x, ci, hx, hlen, hc, gx⟩ := h 0 (by omega)
    obtain ⟨l, cs, hr, hn, hat, gl⟩ := sl_R t b sz n (off + sz) fun i hi => by
      obtain ⟨y, c2, hy, h2, h3, gy⟩ := h (i + 1) (by omega)
      refine ⟨y, c2, hy, h2, fun j hj => ?_, gy⟩
      have := h3 j hj
      rwa [show off + (i + 1) * sz + j = off + sz + i * sz + j by rw [Nat.succ_mul]; omega] at this
    refine ⟨x :: l, ci ++ cs, .arrS hx hr, by simp [hn], fun j v hj => ⟨?_, X0_free _ _ _⟩, by simpa using ⟨gx, gl⟩⟩
    by_cases hlt : j < ci.length
    · rw [List.getElem?_append_left hlt] at hj
      have := hc j (by omega)
      simp only [Nat.zero_mul, Nat.add_zero] at this
      exact this.trans hj
    · rw [List.getElem?_append_right (by omega)] at hj
      have := (hat _ _ hj).1
      rwa [show off + sz + (j - ci.length) = off + j by omega] at this
theorem st_R {X : Cx} : ∀ (fs : List TypeId) (cs : List Value), (∀ i f, fs[i]? = some f → ∃ d, R T X false d ((cs.drop (sumSz T (fs.take i))).take (T.size f)) ∧ fit T d (.inl f) = true ∧ good gA d ∧ d.refs = []) →
    ∃ d, R T X false d (cs.take (sumSz T fs)) ∧ fit T d (.inr fs) = true ∧ good gA d ∧ d.refs = [] ∧ d.isRow = true ∧ (∀ t a, T.ty t = .struct a fs → fit T d (.inl t) = true)
  | [], cs, _ => ⟨.anil, by simpa [sumSz] using R.anil, rfl, trivial, rfl, rfl, fun t a ht => by simp [fit, ht]⟩
  | f :: fs, cs, h => by
    obtain ⟨d, hd, fd, gd, rd⟩ := h 0 f rfl
    obtain ⟨ds, hr, fr, gr, rr, _, _⟩ := st_R fs (cs.drop (T.size f)) fun i g hg => by
      obtain ⟨e, he, h2⟩ := h (i + 1) g (by simpa using hg)
      refine ⟨e, ?_, h2⟩
      simpa [sumSz, List.drop_drop] using he
    refine ⟨.acons d ds, ?_, by simp [fit, fd, fr], ⟨gd, gr⟩, by simp [D.refs, rd, rr], rfl, fun t a ht => by simp [fit, ht, fd, fr]⟩
    have := R.acons hd hr
    simpa [sumSz, List.take_add] using this
theorem cellsOf_info {t : TypeId} {i : TypeInfo} (h : P.info? t = some i) : P.cellsOf t = i.size := by
  simp [Program.cellsOf, h]
theorem trod_R (K : PLaws P T) (hd : Dec T gA) {H : Type} {enc : TypeId × Value → H} {W : World} : ∀ (k : Nat) (t : TypeId), plainT T k t = true → ∀ (fuel : Nat) (cs : List Value) (x : DataW H × List MemPlace), DataW.trod enc P W 0 (fun _ => true) true fuel t cs = some x →
    ∃ d, R T (X0 W) false d cs ∧ fit T d (.inl t) = true ∧ good gA d ∧ d.refs = [] := by
  intro k
  induction k with
  | zero => intro t h; simp [plainT] at h
  | succ k ih =>
    intro t hp fuel cs x h
    unfold plainT at hp
    split at hp
    · rename_i ht
      obtain ⟨b, rfl, _⟩ := DataW.trod_bool (K.uBool t ht) h
      exact ⟨.bool b, .bool b, by simp [fit, ht], trivial, rfl⟩
    · rename_i kd ht
      obtain ⟨n, rfl, _, hw⟩ := DataW.trod_int (K.uInt t kd ht) h
      have hw' : kd.min ≤ n ∧ n ≤ kd.max := by simpa [Lit.wf] using hw
      exact ⟨.int kd n, .int hw', by simp [fit, ht], hw', rfl⟩
    · rename_i ht
      obtain ⟨s, rfl, _, hs⟩ := DataW.trod_string (K.uStr t ht) h
      exact ⟨.str s.data.toList, .str s.data.toList, by simp [fit, ht], by simpa [good] using hs, rfl⟩
    · rename_i isA fs ht
      cases isA with
      | true =>
        obtain ⟨el, hu, hfs, hpos, inf, hi1, hi2⟩ := K.uRow t fs ht
        obtain ⟨xs, m, _, _, hlen, hxs, hel⟩ := DataW.trod_array hu h
        have hget : ∀ i f, fs[i]? = some f → f = el ∧ i < fs.length := fun i f hf => by
          have := (List.getElem?_eq_some_iff.1 hf).1
          rw [hfs, List.getElem?_replicate] at hf
          simp at hf
          exact ⟨hf.2.symm, this⟩
        have hsum : ∀ i, i ≤ fs.length → sumSz T (fs.take i) = i * T.size el := by
          intro i hi
          rw [hfs, List.take_replicate, Nat.min_eq_left hi]
          clear hi
          induction i with
          | zero => simp [sumSz]
          | succ i ih => simp only [List.replicate_succ, sumSz, ih]; rw [Nat.succ_mul]; omega
        obtain ⟨d, hr, _, gd, rd, _, hfit⟩ := st_R (T := T) (X := X0 W) (gA := gA) fs cs fun i f hf => by
          obtain ⟨rfl, hi⟩ := hget i f hf
          have := hel i hi
          rw [cellsOf_info hi1, hi2] at this
          have hx : xs[i]? = some xs[i] := by simp [hxs, hi]
          rw [hx] at this
          obtain ⟨d, h1, h2, h3, h4⟩ := ih f (List.all_eq_true.1 hp _ (List.mem_of_getElem? hf)) m _ _ this
          refine ⟨d, ?_, h2, h3, h4⟩
          rw [hsum i (by omega)]; exact h1
        obtain ⟨inf, hi1, hi2⟩ := K.info t d (hfit t _ ht)
        rw [cellsOf_info hi1, hi2, K.base.szStruct t _ fs ht] at hlen
        rw [← hlen, List.take_length] at hr
        exact ⟨d, hr, hfit t _ ht, gd, rd⟩
      | false =>
        obtain ⟨fields, hu, hfs, hoff, _⟩ := K.uStruct t fs ht
        obtain ⟨xs, n, _, _, hlen, hxs, hel⟩ := DataW.trod_struct hu h
        obtain ⟨d, hr, _, gd, rd, _, hfit⟩ := st_R (T := T) (X := X0 W) (gA := gA) fs cs fun i f hf => by
          rw [← hfs, List.getElem?_map] at hf
          cases hfi : fields.toList[i]? with
          | none => simp [hfi] at hf
          | some fld =>
            simp only [hfi, Option.map_some, Option.some.injEq] at hf
            have hfa : fields[i]? = some fld := by rw [← Array.getElem?_toList]; exact hfi
            have := hel i fld hfa
            have hx : ∃ y, xs[i]? = some y := by
              have : i < fields.size := (Array.getElem?_eq_some_iff.1 hfa).1
              exact ⟨xs[i], by simp [hxs, this]⟩
            obtain ⟨y, hy⟩ := hx
            rw [hy] at this
            subst hf
            have hmem : fld.type ∈ fs := by rw [← hfs]; exact List.mem_map.2 ⟨fld, by exact List.mem_of_getElem? hfi, rfl⟩
            obtain ⟨d, h1, h2, h3, h4⟩ := ih fld.type (List.all_eq_true.1 hp _ hmem) n _ _ this
            obtain ⟨inf, hi1, hi2, _⟩ := K.uField t fs fld.type ht hmem
            refine ⟨d, ?_, h2, h3, h4⟩
            rw [hoff i fld hfa, cellsOf_info hi1, hi2] at h1
            exact h1
        obtain ⟨inf, hi1, hi2⟩ := K.info t d (hfit t _ ht)
        rw [cellsOf_info hi1, hi2, K.base.szStruct t _ fs ht] at hlen
        rw [← hlen, List.take_length] at hr
        exact ⟨d, hr, hfit t _ ht, gd, rd⟩
    · rename_i n e ct ht
      obtain ⟨hu, _⟩ := K.uArr t n e ct ht
      obtain ⟨xs, m, _, _, hlen, hxs, hel⟩ := DataW.trod_array hu h
      obtain ⟨inf, z, hi1, hi2, _⟩ := K.uElem t e ct (.inl ⟨n, ht⟩)
      obtain ⟨it, hj1, hj2⟩ := K.info t (.arr ct n []) (by simp [fit, ht])
      obtain ⟨hs1, hs2, hs3⟩ := K.base.szArr t n e ct ht
      rw [cellsOf_info hj1, hj2, hs1] at hlen
      obtain ⟨l, hr, hn, gl⟩ := arr_R (T := T) (X := X0 W) (gA := gA) ct (T.size e) n cs hlen fun i hi => by
        have := hel i hi
        rw [cellsOf_info hi1, hi2] at this
        have hx : xs[i]? = some xs[i] := by simp [hxs, hi]
        rw [hx] at this
        obtain ⟨d, h1, h2, h3, h4⟩ := ih e hp m _ _ this
        obtain ⟨x, h5, h6⟩ := hd.dec ct d (by rw [← fit_congr hs2]; exact h2) h4 h3 ⟨k, e, hs2, hp⟩
        exact ⟨x, K.base.decR _ _ _ _ _ h5 h1, h6⟩
      exact ⟨.arr ct n l, hr, by simp [fit, ht], ⟨hn, gl⟩, rfl⟩
    · rename_i e ct ht
      have hu := K.uSl t e ct ht
      obtain ⟨inf, z, hi1, hi2, _, _, hpos, _⟩ := K.uElem t e ct (.inr ht)
      obtain ⟨hs1, hs2, hs3⟩ := K.base.szSl t e ct ht
      rcases DataW.trod_slice hu h with ⟨rfl, _⟩ | ⟨a, len, cap, elems, rest, m, _, rfl, _, _, hlc, hcm, hel, he, hrest, _⟩
      · exact ⟨.sl ct false [], .sl0 _ _ _, by simp [fit, ht], by simp [good], rfl⟩
      · by_cases hc0 : cap = 0
        · subst hc0
          obtain rfl : len = 0 := by omega
          exact ⟨.sl ct false [], .sl0 _ _ _, by simp [fit, ht], by simp [good], rfl⟩
        · have hspot : a.spot = none := by
            have key : ∀ i y, i = 0 → (W.cells? 0 (a.add (i * P.cellsOf e)) (P.cellsOf e)).bind (DataW.trod enc P W 0 (fun _ => true) true m e) = some y → a.spot = none := by
              intro i y hi0 hy
              subst hi0
              rw [cellsOf_info hi1, hi2] at hy
              cases hcs : W.cells? 0 (a.add (0 * T.size e)) (T.size e) with
              | none => rw [hcs] at hy; cases hy
              | some ci =>
                obtain ⟨_, h2, h3⟩ := World.cells?_some hcs
                have h4 := h3 0 hpos
                have h5 : ci[0]? = some ci[0] := by simp
                rw [h5] at h4
                have := World.cell?_spot h4
                simpa [Addr.add] using this
            by_cases hl0 : 0 < len
            · have := he 0 hl0
              have hx : elems[0]? = some elems[0] := by simp
              exact key 0 _ rfl (this.trans hx)
            · have hr2 := hrest rfl
              have := hr2.2 0 (by omega)
              have h0 : 0 < rest.length := by omega
              have hx : rest[0]? = some rest[0] := by simp
              exact key _ _ (by omega) (this.trans hx)
          obtain ⟨b, off, sp⟩ := a
          simp only at hspot
          subst hspot
          obtain ⟨l, cs, hr, hn, hat, gl⟩ := sl_R (T := T) (W := W) (gA := gA) ct b (T.size e) len off fun i hi => by
            have := he i hi
            have hx : elems[i]? = some elems[i] := by simp [hel, hi]
            rw [hx, cellsOf_info hi1, hi2] at this
            cases hcs : W.cells? 0 ((⟨b, off, none⟩ : Addr).add (i * T.size e)) (T.size e) with
            | none => simp [hcs] at this
            | some ci =>
              simp only [hcs, Option.bind_some] at this
              obtain ⟨_, h2, h3⟩ := World.cells?_some hcs
              obtain ⟨d, k1, k2, k3, k4⟩ := ih e hp m _ _ this
              obtain ⟨x, k5, k6⟩ := hd.dec ct d (by rw [← fit_congr hs2]; exact k2) k4 k3 ⟨k, e, hs2, hp⟩
              refine ⟨x, ci, K.base.decR _ _ _ _ _ k5 k1, h2, fun j hj => ?_, k6⟩
              have := h3 j hj
              rwa [add_plain, add_plain] at this
          subst hn
          exact ⟨.sl ct false l, .sl hat hr hlc (by simp), by simp [fit, ht], ⟨by omega, gl⟩, rfl⟩
    · cases hp
theorem okWide_row (K : PLaws P T) {W : World} {r : Reach} {base : Nat} {t : TypeId} {v : Value} {d : D C} (hv : Value.okWide P W r base t v) (hp : ∃ k, plainT T k t = true) (hf : fit T d (.inl t) = true) (hr : R T (X0 W) false d v.cells.toList) (hrf : d.refs = []) : RV T (X0 W) d v := by
  obtain ⟨k, hp⟩ := hp
  cases k with
  | zero => simp [plainT] at hp
  | succ k =>
    unfold plainT at hp
    split at hp
    · rename_i ht
      obtain ⟨b, rfl⟩ := okWide_bool (K.uBool t ht) hv
      refine .inr ⟨?_, by simpa [Value.cells] using hr⟩
      cases d <;> simp [fit, ht] at hf <;> rfl
    · rename_i kd ht
      obtain ⟨b, rfl⟩ := okWide_int (K.uInt t kd ht) hv
      refine .inr ⟨?_, by simpa [Value.cells] using hr⟩
      cases d <;> simp [fit, ht] at hf <;> rfl
    · rename_i ht
      obtain ⟨b, rfl⟩ := okWide_string (K.uStr t ht) hv
      refine .inr ⟨?_, by simpa [Value.cells] using hr⟩
      cases d <;> simp [fit, ht] at hf <;> rfl
    · rename_i isA fs ht
      have : ∃ cs, v = .agg cs := by
        cases isA with
        | false =>
          obtain ⟨fields, hu, _⟩ := K.uStruct t fs ht
          obtain ⟨cs, rfl, _⟩ := okWide_struct hu hv
          exact ⟨cs, rfl⟩
        | true =>
          obtain ⟨el, hu, _⟩ := K.uRow t fs ht
          simp only [Value.okWide, hu] at hv
          obtain ⟨cs, rfl, _⟩ := hv
          exact ⟨cs, rfl⟩
      obtain ⟨cs, rfl⟩ := this
      refine .inl ⟨?_, cs.toList, by simpa [Value.cells] using hr, rfl⟩
      cases d <;> simp [fit, ht] at hf <;> rfl
    · rename_i n e ct ht
      obtain ⟨hu, _⟩ := K.uArr t n e ct ht
      have : ∃ cs, v = .agg cs := by
        simp only [Value.okWide, hu] at hv
        obtain ⟨cs, rfl, _⟩ := hv
        exact ⟨cs, rfl⟩
      obtain ⟨cs, rfl⟩ := this
      refine .inl ⟨?_, cs.toList, by simpa [Value.cells] using hr, rfl⟩
      cases d <;> simp [fit, ht] at hf <;> rfl
    · rename_i e ct ht
      obtain ⟨a, len, cap, rfl⟩ := okWide_slice (K.uSl t e ct ht) hv
      refine .inr ⟨?_, by simpa [Value.cells] using hr⟩
      cases d <;> simp [fit, ht] at hf <;> rfl
    · cases hp
inductive Fits (T : Tab C) (gA : (t : C.Ty) → C.A t → Prop) : List TypeId → List (D C) → Prop
  | nil : Fits T gA [] []
  | cons {t : TypeId} {ts : List TypeId} {d : D C} {ds : List (D C)} (hf : fit T d (.inl t) = true) (hg : good gA d) (hr : d.refs = []) (h : Fits T gA ts ds) : Fits T gA (t :: ts) (d :: ds)
theorem Fits.refs {ts : List TypeId} {ds : List (D C)} (h : Fits T gA ts ds) : ∀ a ∈ ds, D.refs a = [] := by
  induction h with
  | nil => simp
  | cons _ _ hr _ ih => simpa using ⟨hr, ih⟩
theorem trodAll_R (K : PLaws P T) (hd : Dec T gA) {H : Type} {enc : TypeId × Value → H} {W : World} {r : Reach} {base : Nat} : ∀ (ts : List TypeId) (vs : List Value) (ds : List (DataW H)) (ps : List MemPlace), (∀ t ∈ ts, ∃ k, plainT T k t = true) →
    (∀ (j : Nat) t v, ts[j]? = some t → vs[j]? = some v → Value.okWide P W r base t v) → DataW.TrodAll enc P W 0 (fun _ => true) true ts vs ds ps → ∃ al, Fits T gA ts al ∧ RVs T (X0 W) al vs
  | [], vs, ds, ps, _, _, h => by
    obtain ⟨rfl, rfl, rfl⟩ := trodAll_nil h
    exact ⟨[], .nil, .nil⟩
  | t :: ts, vs, ds, ps, hp, hv, h => by
    obtain ⟨v, vs1, d, ds1, p, q, rfl, rfl, rfl, ⟨fuel, h1⟩, h2⟩ := trodAll_cons h
    obtain ⟨al, f1, r1⟩ := trodAll_R K hd ts vs1 ds1 q (fun t ht => hp t (by simp [ht])) (fun j t v a b => hv (j + 1) t v (by simpa using a) (by simpa using b)) h2
    obtain ⟨k, hk⟩ := hp t (by simp)
    obtain ⟨a, k1, k2, k3, k4⟩ := trod_R K hd k t hk fuel _ _ h1
    exact ⟨a :: al, .cons k2 k3 k4 f1, .cons (okWide_row K (hv 0 t v rfl rfl) ⟨k, hk⟩ k2 k1 k4) r1⟩
theorem stays (hl : laidOutB P = true) {H : Type} {enc : TypeId × Value → H} {W W' : World} {sp : Nat → Bool} : ∀ (ts : List TypeId) (vs : List Value) (ds : List (DataW H)) (ps : List MemPlace), (∀ t ∈ ts, P.readableRec t = true ∧ t < P.types.size) →
    DataW.TrodAll enc P W 0 (fun _ => true) true ts vs ds ps → (∀ p ∈ ps, W.sameAt W' p) → (∀ p ∈ ps, sp p.block = true) → DataW.TrodAll enc P W' 0 sp true ts vs ds ps
  | [], vs, ds, ps, _, h, _, _ => by
    obtain ⟨rfl, rfl, rfl⟩ := trodAll_nil h
    exact trodAll_mk0
  | t :: ts, vs, ds, ps, ht, h, h3, h4 => by
    obtain ⟨v, vs1, d, ds1, p, q, rfl, rfl, rfl, h1, h2⟩ := trodAll_cons h
    exact trodAll_cons_mk (WideElems.Trod_stays hl (ht t (by simp)).1 (ht t (by simp)).2 h1 (fun x hx => h3 x (by simp [hx])) (fun x hx => h4 x (by simp [hx])))
      (stays hl ts vs1 ds1 q (fun t h => ht t (by simp [h])) h2 (fun x hx => h3 x (by simp [hx])) (fun x hx => h4 x (by simp [hx])))
theorem post_same_old {H : Type} {enc : TypeId × Value → H} {f : Func} {s : ChangeSpec} {apart fresh handsOn again : Bool} {W W' : World} {args : Array Value} {v : Value} {ds gs : List (DataW H)} {before pa pv : List MemPlace}
    (hW : DataW.Whole enc P f.params.toList s.vars apart W args.toList ds gs before)
    (hres : ∀ (b : Nat) (sp : Nat → Bool) (hd : Bool), DataW.TrodAll enc P W' b sp hd f.resultTypes.toList (v.resultList f.resultTypes.size) (s.fn H (ds ++ gs)).results [])
    (hargs : ∀ sp : Nat → Bool, (∀ p ∈ before, sp p.block = true) → DataW.TrodAll enc P W' 0 sp true f.params.toList args.toList (s.fn H (ds ++ gs)).args pa)
    (hvars : ∀ sp : Nat → Bool, (∀ p ∈ before, sp p.block = true) → DataW.TrodVars enc P W' sp s.vars (s.fn H (ds ++ gs)).vars pv)
    (hps : before = pa ++ pv) (hk : W.keptBut W' (· ∈ before)) (hfz : ∀ a : Addr, a.block < W.heap.size → W'.frozen? a = W.frozen? a)
    (hok : ∀ (j : Nat) (t : TypeId) (r : Value), f.resultTypes[j]? = some t → (v.resultList f.resultTypes.size)[j]? = some r → Value.okWide P W' .any 0 t r) :
    s.post enc P f apart fresh handsOn again W args v W' := by
  have hold : ∀ p ∈ before, (fun b => decide (b < W.heap.size)) p.block = true := fun p hp => by simpa using hW.lt p hp
  refine ⟨ds, gs, before, [], pa, pv, hW, hres _ _ _, hargs _ hold, hvars _ hold, World.keptBut_mono (fun p hp => ⟨hp, ?_⟩) hk, fun _ => ?_⟩
  · rw [hps, List.mem_append] at hp
    exact Or.inr hp
  · have hlt := hW.lt
    obtain ⟨_, _, _, _, _, hz, hn⟩ := hW
    refine ⟨hok, _, _, ([] ++ pa) ++ pv, ⟨[] ++ pa, pv, trodAll_append (hargs _ (fun _ _ => rfl)) (hres _ _ _), hvars _ (fun _ _ => rfl), rfl, ?_, ?_⟩, ?_⟩
    · intro b off hp
      have hb : MemPlace.cell b off ∈ before := by rw [hps]; simpa using hp
      rw [hfz _ (by simpa [MemPlace.block] using hlt _ hb)]
      exact hz b off hb
    · intro ha
      have := hn ha
      rw [hps] at this
      simpa using this
    · intro p hp _
      rw [hps]
      simpa using hp
theorem contract_of (K : PLaws P T) {Φ : Fns C} (F : FLaws P T Φ) (hd : Dec T gA) (hl : laidOutB P = true) {f : FuncId} {fn : Func} {s : ChangeSpec} {tb : TypeId} {m : Nat}
    (hres : fn.resultTypes = #[tb]) (hb : P.underlying tb = some .bool) (hvars : s.vars = [])
    (hts : fn.params.toList.all (fun t => plainT T m t && P.readableRec t && Nat.blt t P.types.size) = true)
    (hspec : ∀ (H : Type) (ds : List (DataW H)), ds.length = fn.params.toList.length → s.fn H ds = { results := [.lit (.bool true)], args := ds })
    (hev : ∀ ds : List (D C), Fits T gA fn.params.toList ds → ∃ n, evF T Φ n f ds = some (.bool true))
    (H : Type) (enc : TypeId × Value → H) (W : World) (base : Nat) (args : Array Value) (ds gs : List (DataW H)) (before : List MemPlace)
    (hval : ∀ (j : Nat) t v, fn.params[j]? = some t → args[j]? = some v → Value.okWide P W .any base t v)
    (hW : DataW.Whole enc P fn.params.toList s.vars false W args.toList ds gs before) :
    Calls P f args W fun e W' => ∃ v, e = .returned v ∧ s.post enc P fn false true false false W args v W' := by
  have hts' : ∀ t ∈ fn.params.toList, plainT T m t = true ∧ P.readableRec t = true ∧ t < P.types.size := by
    intro t ht
    have := List.all_eq_true.1 hts t ht
    simp only [Bool.and_eq_true] at this
    exact ⟨this.1.1, this.1.2, by simpa [Nat.blt_eq] using this.2⟩
  have hW' := hW
  obtain ⟨p, q, hA, hV, rfl, hfz, hnd⟩ := hW
  rw [hvars] at hV
  obtain ⟨rfl, rfl⟩ := trodVars_none hV
  obtain ⟨al, hf, hr⟩ := trodAll_R (gA := gA) K hd (r := .any) (base := base) _ _ _ _ (fun t ht => ⟨m, (hts' t ht).1⟩) (fun j t v a b => hval j t v (by rw [← Array.getElem?_toList]; exact a) (by rw [← Array.getElem?_toList]; exact b)) hA
  obtain ⟨n, hn⟩ := hev al hf
  have hc := (evF_calls K F hn hf.refs W (fun _ _ => False) (fun _ _ h => h.elim) (vs := args.toList) hr).2
  have ea : (⟨args.toList⟩ : Array Value) = args := by simp
  rw [ea] at hc
  refine hc.mono fun e W' hp => ?_
  obtain ⟨v, ρ, rfl, rv, a1, a2, a3, a4, a5, a6⟩ := hp
  obtain rfl := rv.bool
  have hlen : ds.length = fn.params.toList.length := by
    have : ∀ (ts : List TypeId) (vs : List Value) (ds : List (DataW H)) (ps : List MemPlace), DataW.TrodAll enc P W 0 (fun _ => true) true ts vs ds ps → ds.length = ts.length := by
      intro ts
      induction ts with
      | nil => intro vs ds ps h; obtain ⟨rfl, rfl, rfl⟩ := trodAll_nil h; rfl
      | cons t ts ih =>
        intro vs ds ps h
        obtain ⟨v, vs1, d, ds1, p, q, rfl, rfl, rfl, h1, h2⟩ := trodAll_cons h
        simp [ih _ _ _ h2]
    exact this _ _ _ _ hA
  have hs := hspec H ds hlen
  have hbel : Below W.heap.size W W' := ⟨a3, a4, a5, a1, a2⟩
  have hlt : ∀ x ∈ p, x.block < W.heap.size := fun x hx => by simpa using hW'.lt x (by simpa using hx)
  refine ⟨_, rfl, post_same_old (pa := p) (pv := []) hW' ?_ ?_ ?_ (by simp) (hbel.frame _) a6 ?_⟩
  · intro b sp hd
    simp only [List.append_nil]
    rw [hs, hres]
    exact trodAll_cons_mk (p := []) (p' := []) (shut_bool hb _) trodAll_mk0
  · intro sp hsp
    simp only [List.append_nil] at hsp ⊢
    rw [hs]
    exact stays hl _ _ _ _ (fun t ht => (hts' t ht).2) hA (fun x hx => hbel.same (hlt x hx)) hsp
  · intro sp hsp
    simp only [List.append_nil]
    rw [hs, hvars]
    rfl
  · exact ok_one hres rfl (okWide_bool_mk hb _)
end
def i64 (n : Int) : Prop := -9223372036854775808 ≤ n ∧ n ≤ 9223372036854775807
def inK (k : IntKind) (n : Int) : Prop := k.min ≤ n ∧ n ≤ k.max
theorem i64_of {n : Int} (h : IntKind.i64.min ≤ n ∧ n ≤ IntKind.i64.max) : i64 n := by
  simpa [i64, IntKind.min, IntKind.max, IntKind.signed, IntKind.bits] using h
section
variable {C : Cdc} {T : Tab C} {d : D C} {u : TypeId}
theorem fit_int {k : IntKind} (hu : T.ty u = .int k) (hf : fit T d (.inl u) = true) : ∃ n, d = .int k n := by
  cases d <;> simp [fit, hu] at hf
  subst hf; exact ⟨_, rfl⟩
theorem fit_bool (hu : T.ty u = .bool) (hf : fit T d (.inl u) = true) : ∃ n, d = .bool n := by
  cases d <;> simp [fit, hu] at hf
  exact ⟨_, rfl⟩
theorem fit_str (hu : T.ty u = .str) (hf : fit T d (.inl u) = true) : ∃ n, d = .str n := by
  cases d <;> simp [fit, hu] at hf
  exact ⟨_, rfl⟩
theorem fit_sl {e : TypeId} {t : C.Ty} (hu : T.ty u = .sl e t) (hf : fit T d (.inl u) = true) (hr : d.refs = []) : ∃ c l, d = .sl t c l := by
  cases d <;> simp [fit, hu] at hf
  · subst hf; exact ⟨_, _, rfl⟩
  · simp [D.refs] at hr
  · simp [D.refs] at hr
theorem fit_arr {e : TypeId} {t : C.Ty} {n : Nat} (hu : T.ty u = .arr n e t) (hf : fit T d (.inl u) = true) : ∃ l, d = .arr t n l := by
  cases d <;> simp [fit, hu] at hf
  obtain ⟨h1, h2⟩ := hf
  subst h1; subst h2; exact ⟨_, rfl⟩
theorem fit_st {a : Bool} {f : TypeId} {fs : List TypeId} (hu : T.ty u = .struct a (f :: fs)) (hf : fit T d (.inl u) = true) : ∃ x y, d = .acons x y ∧ fit T x (.inl f) = true ∧ fit T y (.inr fs) = true := by
  cases d <;> simp [fit, hu] at hf
  exact ⟨_, _, rfl, hf.1, hf.2⟩
theorem fit_more {f : TypeId} {fs : List TypeId} (hf : fit T d (.inr (f :: fs)) = true) : ∃ a b, d = .acons a b ∧ fit T a (.inl f) = true ∧ fit T b (.inr fs) = true := by
  cases d <;> simp [fit] at hf
  exact ⟨_, _, rfl, hf.1, hf.2⟩
theorem fit_end (hf : fit T d (.inr []) = true) : d = .anil := by
  cases d <;> simp [fit] at hf
  rfl
end
open Go.Proofs Go.ChangeShapes Go.WideShapes Go.ChangeAt Go.RowKit
def goodPick (x : Pick) : Prop := i64 (x.client) ∧ i64 (x.do_)
def goodSector (x : Sector) : Prop := i64 (x.n) ∧ (x.b).length ≤ maxLen
def goodFrame (x : Frame) : Prop := inK .i8 (x.prog) ∧ i64 (x.at') ∧ ((x.r).length = 96 ∧ ∀ y ∈ (x.r), i64 (y))
def goodTask (x : Task) : Prop := i64 (x.client) ∧ ((x.stack).length ≤ maxLen ∧ ∀ y ∈ (x.stack), goodFrame (y)) ∧ ((x.got).length ≤ maxLen ∧ ∀ y ∈ (x.got), i64 (y)) ∧ True
def rGood : (t : RTy) → RA t → Prop
  | .bool => fun (x : Bool) => True
  | .frame => fun (x : Frame) => goodFrame (x)
  | .int => fun (x : Int) => i64 (x)
  | .k_i8 => fun (x : Int) => inK .i8 (x)
  | .pick => fun (x : Pick) => goodPick (x)
  | .sector => fun (x : Sector) => goodSector (x)
  | .task => fun (x : Task) => goodTask (x)
theorem ty32 : s23.ty 32 = .struct false [3, 3] := by kernel_rfl
theorem ty3 : s23.ty 3 = .int .i64 := by kernel_rfl
theorem asPick {d : D RC} (hf : fit s23 d (.inl 32) = true) (hg : good rGood d) (hr : d.refs = []) : ∃ x : Pick, d = ePick x ∧ goodPick x := by
  obtain ⟨d0, r0, rfl, f0, hf⟩ := fit_st ty32 hf
  obtain ⟨d1, r1, rfl, f1, hf⟩ := fit_more hf
  obtain rfl := fit_end hf
  simp only [D.refs, List.append_eq_nil_iff] at hr
  obtain ⟨g0, g1, _⟩ := hg
  obtain ⟨q0, q1, _⟩ := hr
  obtain ⟨n0, rfl⟩ := fit_int ty3 f0
  obtain ⟨n1, rfl⟩ := fit_int ty3 f1
  exact ⟨⟨n0, n1⟩, rfl, i64_of g0, i64_of g1⟩
theorem dPick_e (x : Pick) (hx : goodPick x) : dPick (ePick x) = some x := by
  simp only [goodPick] at hx
  simp [dPick, ePick, D.asList, asArrN, hx]
theorem ty119 : s23.ty 119 = .struct false [3, 9] := by kernel_rfl
theorem ty9 : s23.ty 9 = .str := by kernel_rfl
theorem asSector {d : D RC} (hf : fit s23 d (.inl 119) = true) (hg : good rGood d) (hr : d.refs = []) : ∃ x : Sector, d = eSector x ∧ goodSector x := by
  obtain ⟨d0, r0, rfl, f0, hf⟩ := fit_st ty119 hf
  obtain ⟨d1, r1, rfl, f1, hf⟩ := fit_more hf
  obtain rfl := fit_end hf
  simp only [D.refs, List.append_eq_nil_iff] at hr
  obtain ⟨g0, g1, _⟩ := hg
  obtain ⟨q0, q1, _⟩ := hr
  obtain ⟨n0, rfl⟩ := fit_int ty3 f0
  obtain ⟨n1, rfl⟩ := fit_str ty9 f1
  exact ⟨⟨n0, n1⟩, rfl, i64_of g0, g1⟩
theorem dSector_e (x : Sector) (hx : goodSector x) : dSector (eSector x) = some x := by
  simp only [goodSector] at hx
  simp [dSector, eSector, D.asList, asArrN, hx]
theorem ty67 : s23.ty 67 = .struct false [52, 3, 65] := by kernel_rfl
theorem ty52 : s23.ty 52 = .int .i8 := by kernel_rfl
theorem ty65 : s23.ty 65 = .arr 96 3 .int := by kernel_rfl
theorem asFrame {d : D RC} (hf : fit s23 d (.inl 67) = true) (hg : good rGood d) (hr : d.refs = []) : ∃ x : Frame, d = eFrame x ∧ goodFrame x := by
  obtain ⟨d0, r0, rfl, f0, hf⟩ := fit_st ty67 hf
  obtain ⟨d1, r1, rfl, f1, hf⟩ := fit_more hf
  obtain ⟨d2, r2, rfl, f2, hf⟩ := fit_more hf
  obtain rfl := fit_end hf
  simp only [D.refs, List.append_eq_nil_iff] at hr
  obtain ⟨g0, g1, g2, _⟩ := hg
  obtain ⟨q0, q1, q2, _⟩ := hr
  obtain ⟨n0, rfl⟩ := fit_int ty52 f0
  obtain ⟨n1, rfl⟩ := fit_int ty3 f1
  obtain ⟨n2, rfl⟩ := fit_arr ty65 f2
  exact ⟨⟨n0, n1, n2⟩, rfl, g0, i64_of g1, g2⟩
theorem dFrame_e (x : Frame) (hx : goodFrame x) : dFrame (eFrame x) = some x := by
  simp only [goodFrame] at hx
  simp [dFrame, eFrame, D.asList, asArrN, hx]
theorem ty43 : s23.ty 43 = .struct false [3, 41, 33, 4] := by kernel_rfl
theorem ty41 : s23.ty 41 = .sl 67 .frame := by kernel_rfl
theorem ty33 : s23.ty 33 = .sl 3 .int := by kernel_rfl
theorem ty4 : s23.ty 4 = .bool := by kernel_rfl
theorem asTask {d : D RC} (hf : fit s23 d (.inl 43) = true) (hg : good rGood d) (hr : d.refs = []) : ∃ (x : Task) (c0 c1 : Bool), d = eTaskC x c0 c1 ∧ goodTask x := by
  obtain ⟨d0, r0, rfl, f0, hf⟩ := fit_st ty43 hf
  obtain ⟨d1, r1, rfl, f1, hf⟩ := fit_more hf
  obtain ⟨d2, r2, rfl, f2, hf⟩ := fit_more hf
  obtain ⟨d3, r3, rfl, f3, hf⟩ := fit_more hf
  obtain rfl := fit_end hf
  simp only [D.refs, List.append_eq_nil_iff] at hr
  obtain ⟨g0, g1, g2, g3, _⟩ := hg
  obtain ⟨q0, q1, q2, q3, _⟩ := hr
  obtain ⟨n0, rfl⟩ := fit_int ty3 f0
  obtain ⟨k1, n1, rfl⟩ := fit_sl ty41 f1 q1
  obtain ⟨k2, n2, rfl⟩ := fit_sl ty33 f2 q2
  obtain ⟨n3, rfl⟩ := fit_bool ty4 f3
  exact ⟨⟨n0, n1, n2, n3⟩, k1, k2, rfl, i64_of g0, g1, g2, trivial⟩
theorem dTask_e (x : Task) (c0 c1 : Bool) (hx : goodTask x) : dTask (eTaskC x c0 c1) = some x := by
  simp only [goodTask] at hx
  simp [dTask, eTaskC, D.asList, asArrN, hx]
theorem decs : Dec s23 rGood where
  dec t d hf hr hg _ := by
    cases t with
    | bool =>
      obtain ⟨n, rfl⟩ := fit_bool ty4 hf
      exact ⟨n, rfl, trivial⟩
    | frame =>
      obtain ⟨x, rfl, hx⟩ := asFrame hf hg hr
      exact ⟨x, dFrame_e x hx, hx⟩
    | int =>
      obtain ⟨n, rfl⟩ := fit_int ty3 hf
      exact ⟨n, by simp [s23, mkTab, rCod, rDec, dIntK], i64_of hg⟩
    | k_i8 =>
      obtain ⟨n, rfl⟩ := fit_int ty52 hf
      exact ⟨n, by simp [s23, mkTab, rCod, rDec, dIntK], hg⟩
    | pick =>
      obtain ⟨x, rfl, hx⟩ := asPick hf hg hr
      exact ⟨x, dPick_e x hx, hx⟩
    | sector =>
      obtain ⟨x, rfl, hx⟩ := asSector hf hg hr
      exact ⟨x, dSector_e x hx, hx⟩
    | task =>
      obtain ⟨x, c0, c1, rfl, hx⟩ := asTask hf hg hr
      exact ⟨x, dTask_e x c0 c1 hx, hx⟩
theorem own : ownKnob Tryz.prog.godebug = none := by kernel_rfl
theorem laidOut : laidOutB Tryz.prog = true := by kernel_rfl
end Go.Ev

namespace Go.Proofs.YtbmeepglaeolhaaGreat
open Go.ChangeShapes Go.WideShapes Go.ChangeAt Go.RowKit Go.Ev
set_option linter.unusedVariables false
set_option maxRecDepth 100000
namespace oracleQuiet
theorem ev (ds : List (D RC)) (h : Fits s23 rGood Tryz.f4.params.toList ds) : ∃ n, evF s23 uk_1 n 4 ds = some (.bool true) := by
  rw [Tryz.params4] at h
  cases h with
  | cons hf0 hg0 hr0 h =>
  cases h with
  | cons hf1 hg1 hr1 h =>
  cases h with
  | cons hf2 hg2 hr2 h =>
  cases h with
  | nil =>
    obtain ⟨x0, rfl⟩ := fit_int (show s23.ty 3 = .int .i64 by kernel_rfl) hf0
    obtain ⟨x1, rfl⟩ := fit_int (show s23.ty 3 = .int .i64 by kernel_rfl) hf1
    obtain ⟨x2, rfl⟩ := fit_int (show s23.ty 3 = .int .i64 by kernel_rfl) hf2
    have key := quiet23_ok x0 x1 x2 rfl
    unfold quiet23_e at key
    exact ⟨1000, key⟩
theorem lifted (os : Os) (started : os.Started) (H : Type) (enc : TypeId × Value → H) :
    ReturnsInHanded {} Tryz.checked os 4 .any (Rows.oracleQuietSpec.pre6 enc Tryz.prog Tryz.f4 Rows.oracleQuietRow.domain false) (Rows.oracleQuietSpec.post enc Tryz.prog Tryz.f4 false true false false) := by
  refine returnsInHanded_of_change (C := Tryz.checked) own started (by kernel_rfl) Tryz.func4
    (ChangeSpec.witness6 (enc := enc) (C := Tryz.checked) false ⟨#[], #[.int .i64 0, .int .i64 0, .int .i64 0], []⟩ 8 (by kernel_rfl) (by kernel_rfl) (by kernel_rfl) (by kernel_rfl)) ?_
  intro W base args ds gs before hval hW _ _
  refine contract_of (gA := rGood) (m := 8) s23_laws uk_1_laws decs laidOut (tb := 4) (by kernel_rfl) Tryz.underlying4 rfl (by kernel_rfl) ?_ ev H enc W base args ds gs before hval hW
  intro H ds h
  rw [Tryz.params4] at h
  match ds, h with
  | [d0, d1, d2], _ => rfl
theorem over : Rows.oracleQuietRow.holds Tryz.pinned (OpenSpec.ofChange Rows.oracleQuietSpec) :=
  OpenClaim.holds_of_wide 4 Tryz.f4 rfl rfl rfl rfl rfl rfl rfl ⟨rfl, rfl, rfl, rfl, rfl⟩ rfl rfl rfl rfl rfl (by kernel_rfl) Tryz.func4 (by kernel_rfl)
    (of_decide_eq_true (by kernel_rfl)) (by unfold Func.isWrapper; first | (rw [if_pos (by decide +kernel)]; kernel_rfl) | (rw [if_neg (by decide +kernel)]; exact ⟨rfl, rfl⟩))
    (fun os started H enc _ => lifted os started H enc)
theorem proved : Rows.OracleQuietSaid := over
end oracleQuiet
#print axioms oracleQuiet.proved
end Go.Proofs.YtbmeepglaeolhaaGreat
