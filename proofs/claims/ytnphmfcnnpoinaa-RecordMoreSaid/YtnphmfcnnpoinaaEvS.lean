/-
  Regions whose order is drawn: whatever is drawn, what the text's order comes to.
-/
import Derived.Test.YtnphmfcnnpoinaaEvR
namespace Go.Ev
set_option linter.unusedVariables false
set_option linter.unusedSimpArgs false

section
variable {C : Cdc} {P : Program} {T : Tab C}
open Pg (Ex)

theorem G.relim {X : Cx} {h : Heap C} {nx nx' : Nat} {lim lim' : Lim} (g : G T X h nx lim) (hh : ∀ id, old nx lim id → old nx' lim' id) (hl : lim'.lo ≤ nx') : G T X h nx' lim' :=
  ⟨g.var, g.vec, g.dom, fun id o ho => ⟨hh id (g.nums id o ho).1, fun r hr => hh r ((g.nums id o ho).2 r hr)⟩, g.apart, g.outer, g.outs, hl⟩
theorem EnvOK.relim {X : Cx} {env env' : Env C} {tmps : Array Value} {nx nx' : Nat} {lim lim' : Lim} (g : EnvOK T X nx lim env tmps) (hh : ∀ id, old nx lim id → old nx' lim' id) (he : ∀ t, eget env' t = eget env t) : EnvOK T X nx' lim' env' tmps :=
  fun t => by rw [he]; exact ⟨(g t).1, fun id hi => hh id ((g t).2 id hi)⟩
theorem Step.relim {X X' : Cx} {nx nx' : Nat} {lim lim' : Lim} (s : Step X nx lim X') (hh : ∀ id, old nx' lim' id → old nx lim id) : Step X nx' lim' X' :=
  ⟨s.O, s.os, s.tape, s.output, s.size, fun id ho => s.ρ id (hh id ho), s.mine, s.cell, s.block, s.frz⟩

variable {call : FuncId → List (D C) → Pg C (D C)} {ops : Array Oper} {L base sp : Nat}

theorem RunL.congr {ts ts' : Nat → Tr} {l : List Nat} {env envF : Env C} {h hF : Heap C} (hr : RunL T call ops L base sp ts l env h envF hF) : (∀ j ∈ l, ts' j = ts j) → RunL T call ops L base sp ts' l env h envF hF := by
  induction hr with
  | nil h1 h2 => intro _; exact .nil h1 h2
  | cons ho hx hn _ ih => intro hh; exact .cons ho (by rw [hh _ (by simp)]; exact hx) hn (ih fun j hj => hh j (by simp [hj]))

/-- the run in the order of the text -/
theorem runL_of_evOpsT : ∀ (l : List Oper) (i : Nat), ops.toList.drop i = l → ∀ {e : Pg.Lv} {env envF : Env C} {h hF : Heap C} {n nF : Nat} {tr : Tr} {acc : List (Nat × Tr)}, Ex e (evOpsT T call ops base sp i l env acc) h n envF hF nF tr →
    n ≤ base + i * sp ∧ ∃ ts accF, RunL T call ops (e.1 + 1) base sp ts (List.range' i l.length) env h envF hF ∧ nF = base + (i + l.length) * sp ∧ noClash ops accF = true ∧ (∀ p ∈ acc, p ∈ accF) ∧ ∀ j, i ≤ j → j < i + l.length → ts j = [] ∨ (j, ts j) ∈ accF := by
  intro l
  induction l with
  | nil =>
    intro i hl e env envF h hF n nF tr acc hx
    simp only [evOpsT] at hx
    obtain ⟨hm, hx⟩ := Ex.upto hx
    rcases Ex.br hx with ⟨hb, hx⟩ | ⟨hb, hx⟩
    · obtain ⟨rfl, rfl, rfl, rfl⟩ := Ex.ret hx
      exact ⟨hm, fun _ => [], acc, .nil (fun _ => rfl) (fun _ => rfl), by simp, hb, fun p hp => hp, fun j h1 h2 => by simp at h2; omega⟩
    · exact (Ex.fail hx).elim
  | cons o l ih =>
    intro i hl e env envF h hF n nF tr acc hx
    simp only [evOpsT] at hx
    obtain ⟨hm, hx⟩ := Ex.upto hx
    obtain ⟨env1, h1, n1, t1, t2, q1, q2, _⟩ := Ex.sub hx
    have hlt : i < ops.toList.length := by
      rcases Nat.lt_or_ge i ops.toList.length with h | h
      · exact h
      · rw [List.drop_eq_nil_of_le h] at hl; simp at hl
    have hlo : ops.toList[i]? = some o := by
      rw [List.drop_eq_getElem_cons hlt] at hl
      rw [List.getElem?_eq_getElem hlt, (List.cons.inj hl).1]
    have hio : ops[i]? = some o := by rw [← Array.getElem?_toList]; exact hlo
    have hl2 : ops.toList.drop (i + 1) = l := by
      rw [List.drop_eq_getElem_cons hlt] at hl
      exact (List.cons.inj hl).2
    obtain ⟨k0, ts, accF, k1, k2, k3, k4, k5⟩ := ih (i + 1) hl2 q2
    refine ⟨hm, fun j => if j = i then t1 else ts j, accF, ?_, by rw [k2, List.length_cons, Nat.add_right_comm i 1 l.length]; rfl, k3, ?_, ?_⟩
    · rw [List.length_cons, List.range'_succ]
      refine .cons hio (by simpa using q1) k0 (k1.congr fun j hj => ?_)
      have := List.mem_range'_1.1 hj
      have hne : ¬ j = i := by omega
      simp [hne]
    · intro p hp
      refine k4 p ?_
      split
      · exact hp
      · simp [hp]
    · intro j hj1 hj2
      by_cases hj : j = i
      · subst hj
        simp only [if_true]
        cases t1 with
        | nil => exact .inl rfl
        | cons x t1 => exact .inr (k4 _ (by simp))
      · simp only [hj, if_false]
        exact k5 j (by omega) (by simp at hj2; omega)

theorem noClash_spec {accF : List (Nat × Tr)} (h : noClash ops accF = true) {a b : Nat × Tr} (ha : a ∈ accF) (hb : b ∈ accF) (hlt : a.1 < b.1) (hn : ¬ Bef ops a.1 b.1) : Away a.2 b.2 := by
  simp only [noClash, List.all_eq_true] at h
  have := h a ha b hb
  simp only [Bool.or_eq_true, Bool.not_eq_true'] at this
  rcases this with (h1 | h1) | h1
  · exact apartT_spec h1
  · have h2 : Nat.blt a.1 b.1 = true := by rw [Nat.blt_eq]; exact hlt
    rw [h2] at h1; cases h1
  · exact (hn h1).elim

/-- what is asked of a region's text -/
structure DrawOK (ops : Array Oper) : Prop where
  edges : ∀ i o, ops[i]? = some o → ∀ e ∈ o.after, Region.binds .any e = true → e.on < i
  apart : ∀ i j oi oj, i < j → ops[i]? = some oi → ops[j]? = some oj → Bef ops i j ∨ oi.apart ops oj = true

/-- the numbers that are not met while 'rest' is to come -/
def HR (base sp N : Nat) (lim : Lim) (rest : List Nat) (id : Nat) : Prop := lim.H id ∨ (base + N * sp ≤ id ∧ id < lim.top) ∨ ∃ j ∈ rest, base + j * sp ≤ id ∧ id < base + (j + 1) * sp
def limR (base sp N : Nat) (lim : Lim) (rest : List Nat) : Lim := ⟨base, base, HR base sp N lim rest, fun id h1 h2 => by omega⟩

theorem old_limR {N : Nat} {lim : Lim} {rest : List Nat} {id : Nat} : old base (limR base sp N lim rest) id ↔ ¬ HR base sp N lim rest id := by
  unfold old limR
  simp only
  constructor
  · exact fun h => h.2
  · exact fun h => ⟨by omega, h⟩

theorem getD_same {listed : Array Bool} {j : Nat} (h : j < listed.size) : listed.getD j true = listed.getD j false := by simp [Array.getD_eq_getD_getElem?, h]

variable (K : PLaws P T)
include K

theorem drawn_ok (hcall : CallOK P T call) {B : Nat → Bool} (hB : ∀ o ∈ ops.toList, ∀ t, o.dst = some t → B t = false) (hd : DrawOK ops) {ts : Nat → Tr} {lim : Lim} {envF : Env C} {hF : Heap C} (haw : ∀ i j, i < j → j < ops.size → ¬ Bef ops i j → Away (ts i) (ts j)) (hlo : lim.lo ≤ base) (htop : base + ops.size * sp ≤ lim.top) {Q : Exit → Act → World → Prop} :
    ∀ (fuel : Nat) (rest : List Nat) (listed : Array Bool) (env : Env C) (h : Heap C) (X : Cx) (a : Act), rest.length ≤ fuel → rest.Pairwise (· < ·) → listed.size = ops.size → (∀ j, j ∈ rest ↔ j < ops.size ∧ listed.getD j true = false) →
      (∀ j o, listed.getD j false = true → ops[j]? = some o → ∀ e ∈ o.after, Region.binds .any e = true → listed.getD e.on false = true) → RunL T call ops L base sp ts rest env h envF hF → Fresh base sp rest h →
      G T X h base (limR base sp ops.size lim rest) → EnvOK T X base (limR base sp ops.size lim rest) env a.tmps → (∀ o ∈ ops.toList, ∀ t, o.dst = some t → t < a.tmps.size) →
      (∀ a' X', G T X' hF (base + ops.size * sp) lim → Step X base lim X' → EnvOK T X' (base + ops.size * sp) lim envF a'.tmps → a'.tmps.size = a.tmps.size → a'.defers = a.defers → Kp B a.tmps a'.tmps → Q .normal a' X'.w) →
      wpAny P .any ops Q fuel listed a X.w := by
  intro fuel
  induction fuel with
  | zero =>
    intro rest listed env h X a hlen hsort hsz hmem hcl hr hf g he hb hk
    obtain rfl : rest = [] := List.length_eq_zero_iff.1 (by omega)
    refine ⟨?_, ?_⟩
    · cases hq : Region.ready .any ops listed with
      | nil => rfl
      | cons j _ =>
        have : j ∈ Region.ready .any ops listed := by simp [hq]
        obtain ⟨h1, o, h2, _⟩ := mem_ready.1 this
        have := (hmem j).2 ⟨(Array.getElem?_eq_some_iff.1 h2).1, h1⟩
        simp at this
    · cases hr with
      | nil e1 e2 =>
        have hold : ∀ id, old base (limR base sp ops.size lim []) id → old (base + ops.size * sp) lim id := by
          intro id ho
          rw [old_limR] at ho
          unfold HR at ho
          simp only [List.not_mem_nil, false_and, exists_false, or_false, not_or] at ho
          exact ⟨by omega, ho.1⟩
        exact hk a X ((g.congr fun id => (e2 id).symm).relim hold (by omega)) (.refl _ _ _) (he.relim hold fun t => (e1 t).symm) rfl rfl (.refl _ _)
  | succ fuel ih =>
    intro rest listed env h X a hlen hsort hsz hmem hcl hr hf g he hb hk
    refine ⟨fun hnil => ?_, fun i hi => ?_⟩
    · cases rest with
      | nil =>
        cases hr with
        | nil e1 e2 =>
          have hold : ∀ id, old base (limR base sp ops.size lim []) id → old (base + ops.size * sp) lim id := by
            intro id ho
            rw [old_limR] at ho
            unfold HR at ho
            simp only [List.not_mem_nil, false_and, exists_false, or_false, not_or] at ho
            exact ⟨by omega, ho.1⟩
          exact hk a X ((g.congr fun id => (e2 id).symm).relim hold (by omega)) (.refl _ _ _) (he.relim hold fun t => (e1 t).symm) rfl rfl (.refl _ _)
      | cons r rest =>
        exfalso
        have hr0 := (hmem r).1 (by simp)
        have : r ∈ Region.ready .any ops listed := by
          rw [mem_ready]
          refine ⟨hr0.2, ops[r]'hr0.1, by simp [hr0.1], fun e hee hbb => ?_⟩
          have hlt := hd.edges r _ (by simp [hr0.1]) e hee hbb
          cases hq : listed.getD e.on false with
          | true => rfl
          | false =>
            have hm := (hmem e.on).2 ⟨by omega, by rw [getD_same (by omega)]; exact hq⟩
            simp only [List.mem_cons] at hm
            rcases hm with hm | hm
            · omega
            · have := (List.pairwise_cons.1 hsort).1 _ hm; omega
        rw [hnil] at this
        simp at this
    · obtain ⟨hl, oi, hoi, hedges⟩ := mem_ready.1 hi
      have hiN : i < ops.size := (Array.getElem?_eq_some_iff.1 hoi).1
      have hir := (hmem i).2 ⟨hiN, hl⟩
      obtain ⟨pre, post, rfl⟩ := List.append_of_mem hir
      have hnd : (pre ++ i :: post).Nodup := hsort.imp fun {x y} (hxy : x < y) => by omega
      have hpre : ∀ k ∈ pre, k < i := fun k hk => (List.pairwise_append.1 hsort).2.2 k hk i (by simp)
      have hr' := RunL.first hoi pre post hnd hf (fun k hk ok hok => by
        have hlt := hpre k hk
        have hnb : ¬ Bef ops k i := fun hbef => by
          have hlk := Bef.listed (ops := ops) (L := fun j => listed.getD j false = true) (fun j o h1 h2 e h3 h4 => hcl j o h1 h2 e h3 h4) i k hbef (fun o ho e h1 h2 => by
            rw [hoi] at ho; obtain rfl := Option.some.inj ho; exact hedges e h1 h2)
          have hk2 := (hmem k).1 (by simp [hk])
          rw [getD_same (by omega)] at hk2
          rw [hk2.2] at hlk; cases hlk
        exact ⟨(hd.apart k i ok oi hlt hok hoi).resolve_left hnb, haw k i hlt hiN hnb⟩) hr
      cases hr' with
      | @cons _ env1 _ _ h1 _ _ n o _ ho hx hn hrun =>
      obtain rfl : oi = o := by rw [hoi] at ho; exact Option.some.inj ho
      have hni : i ∉ pre ++ post := by
        intro hm
        rw [List.nodup_append] at hnd
        simp only [List.mem_append] at hm
        rcases hm with hm | hm
        · exact hnd.2.2 i hm i (by simp) rfl
        · exact (List.nodup_cons.1 hnd.2.1).1 hm
      have hbnd : ∀ j, j < ops.size → base + (j + 1) * sp ≤ base + ops.size * sp := fun j hj => by
        have : (j + 1) * sp ≤ ops.size * sp := Nat.mul_le_mul_right _ hj
        omega
      have hrest : ∀ j, j ∈ pre ++ post → j < ops.size := fun j hj => ((hmem j).1 (by simp at hj ⊢; rcases hj with hj | hj <;> simp [hj])).1
      let limi : Lim := ⟨base + i * sp, base + (i + 1) * sp, HR base sp ops.size lim (pre ++ post), fun id q1 q2 => by
        have hb1 := hbnd i hiN
        rintro (q3 | q3 | ⟨j, q3, q4, q5⟩)
        · exact lim.ok id (by omega) (by omega) q3
        · omega
        · exact ranges (i := i) (k := j) (by rintro rfl; exact hni q3) q1 q2 q4 q5⟩
      have ho1 : ∀ id, old base (limR base sp ops.size lim (pre ++ i :: post)) id → old (base + i * sp) limi id := by
        intro id hid
        rw [old_limR] at hid
        unfold HR at hid
        simp only [not_or, not_exists, not_and] at hid
        refine ⟨?_, ?_⟩
        · have := hid.2.2 i (by simp)
          show id < base + i * sp ∨ base + (i + 1) * sp ≤ id
          omega
        · rintro (q3 | q3 | ⟨j, q3, q4, q5⟩)
          · exact hid.1 q3
          · exact hid.2.1 q3.1 q3.2
          · exact hid.2.2 j (by simp at q3 ⊢; rcases q3 with q3 | q3 <;> simp [q3]) q4 q5
      have ho2 : ∀ id, old n limi id → old base (limR base sp ops.size lim (pre ++ post)) id := fun id hid => old_limR.2 hid.2
      have ho3 : ∀ id, old base lim id → old (base + i * sp) limi id := by
        intro id hid
        have hb1 := hbnd i hiN
        have hc := hid.1
        refine ⟨?_, ?_⟩
        · show id < base + i * sp ∨ base + (i + 1) * sp ≤ id
          rcases hc with hc | hc
          · exact .inl (by omega)
          · exact .inr (by omega)
        · rintro (q3 | q3 | ⟨j, q3, q4, q5⟩)
          · exact hid.2 q3
          · rcases hc with hc | hc
            · have : base ≤ base + ops.size * sp := Nat.le_add_right _ _
              omega
            · omega
          · have := hbnd j (hrest j q3)
            rcases hc with hc | hc
            · have : base ≤ base + j * sp := Nat.le_add_right _ _
              omega
            · omega
      refine evOpG_ok K hcall (g.relim ho1 (Nat.le_refl _)) (he.relim ho1 fun _ => rfl) (lim := limi) hn hoi (fun t ht => hb oi (List.mem_of_getElem? (by rw [Array.getElem?_toList]; exact hoi)) t ht) (fun t ht => hB oi (List.mem_of_getElem? (by rw [Array.getElem?_toList]; exact hoi)) t ht) hx fun a' X' g' s' e' hs hdf hkp => ?_
      have hsl : (pre ++ post).Sublist (pre ++ i :: post) := List.Sublist.append_left (List.sublist_cons_self _ _) _
      refine ih (pre ++ post) (listed.setIfInBounds i true) env1 h1 X' a' (by simp at hlen ⊢; omega) (hsort.sublist hsl) (by simp [hsz]) (fun j => ?_) (fun j o hj hoj e h3 h4 => ?_) hrun
        ((show Fresh base sp (pre ++ post) h from fun j hj => hf j (hsl.subset hj)).step hx hn hni) (g'.relim ho2 (Nat.le_refl _)) (e'.relim ho2 fun _ => rfl) (fun o ho t ht => by rw [hs]; exact hb o ho t ht) fun a2 X2 g2 s2 e2 hs2 hd2 hkp2 => ?_
      · by_cases hji : j = i
        · subst hji
          simp only [hni, false_iff, not_and]
          intro _
          simp [hsz, hiN]
        · rw [getD_set_ne true (Ne.symm hji), ← hmem j]
          simp [hji]
      · by_cases hji : j = i
        · subst hji
          rw [hoi] at hoj; obtain rfl := Option.some.inj hoj
          exact getD_set_true (hedges e h3 h4)
        · rw [getD_set_ne false (Ne.symm hji)] at hj
          exact getD_set_true (hcl j o hj hoj e h3 h4)
      · exact hk a2 X2 g2 ((s'.relim ho3).trans s2 (Nat.le_refl _)) e2 (by omega) (by rw [hd2, hdf]) (hkp.trans hkp2)

/-- a region whose order is drawn -/
theorem draw_ok {X : Cx} {h h' : Heap C} {nx nx' : Nat} {e : Pg.Lv} {lim : Lim} {tr : Tr} {env env' : Env C} {a : Act} (hcall : CallOK P T call) {B : Nat → Bool} (hB : ∀ o ∈ ops.toList, ∀ t, o.dst = some t → B t = false) (hm : P.follows .mixedOrders = true) (hd : DrawOK ops) (g : G T X h nx lim) (he : EnvOK T X nx lim env a.tmps)
    (hlim : nx' ≤ lim.top) (hb : ∀ o ∈ ops.toList, ∀ t, o.dst = some t → t < a.tmps.size) (hx : Ex e (evOpsT T call ops nx sp 0 ops.toList env []) h nx env' h' nx' tr) {id : Nat} {Q : Exit → Act → World → Prop}
    (hk : ∀ a' X', G T X' h' nx' lim → Step X nx lim X' → EnvOK T X' nx' lim env' a'.tmps → a'.tmps.size = a.tmps.size → a'.defers = a.defers → Kp B a.tmps a'.tmps → Q .normal a' X'.w) : (Code.region id ops true).wp P Q a X.w := by
  obtain ⟨_, ts, accF, k1, k2, k3, _, k5⟩ := runL_of_evOpsT ops.toList 0 rfl hx
  simp only [Nat.zero_add, Array.length_toList] at k1 k2 k5
  subst k2
  obtain ⟨gw, sw⟩ := g.world K.base { X.w with drawn := X.w.drawn + 1 } rfl rfl rfl rfl
  refine wp_region_any hm ?_
  have hold : ∀ i, old nx lim i → old nx (limR nx sp ops.size lim (List.range' 0 ops.size)) i := by
    intro i hi
    rw [old_limR]
    have hc := hi.1
    have h0 : nx ≤ nx + ops.size * sp := Nat.le_add_right _ _
    rintro (q3 | q3 | ⟨j, q3, q4, q5⟩)
    · exact hi.2 q3
    · omega
    · have hj := (List.mem_range'_1.1 q3).2
      have : (j + 1) * sp ≤ ops.size * sp := Nat.mul_le_mul_right _ (by omega)
      have : nx ≤ nx + j * sp := Nat.le_add_right _ _
      omega
  refine drawn_ok K hcall hB hd (ts := ts) (fun i j hij hj hn => ?_) g.low hlim ops.size (List.range' 0 ops.size) _ env h ⟨{ X.w with drawn := X.w.drawn + 1 }, X.ρ, X.O⟩ a (by simp) (List.pairwise_lt_range') (by simp) (fun j => ?_) (fun j o hj => ?_) k1 ?_
    (gw.relim hold (Nat.le_refl _)) ((he.step K.base sw (Nat.le_refl _)).relim hold fun _ => rfl) hb fun a' X' g' s' e' hs hdf hkp => ?_
  · rcases k5 i (by omega) (by omega) with h1 | h1
    · rw [h1]; intro _ _ _ hm; simp at hm
    · rcases k5 j (by omega) hj with h2 | h2
      · rw [h2]; intro _ _ _ _ hm; simp at hm
      · exact noClash_spec k3 h1 h2 hij hn
  · simp only [List.mem_range'_1, Nat.zero_add, Nat.zero_le, true_and]
    constructor
    · intro h; simp [Array.getD_eq_getD_getElem?, h]
    · exact fun h => h.1
  · exfalso
    by_cases hjn : j < ops.size
    · simp [Array.getD_eq_getD_getElem?, hjn] at hj
    · simp [Array.getD_eq_getD_getElem?, hjn] at hj
  · intro j hj i q1 q2
    cases hg : h.get i with
    | none => rfl
    | some o =>
      exfalso
      have := hold i (g.nums i o hg).1
      rw [old_limR] at this
      exact this (.inr (.inr ⟨j, hj, q1, q2⟩))
  · exact hk a' X' g' (sw.trans s' (Nat.le_refl _)) e' hs hdf hkp
end
end Go.Ev
