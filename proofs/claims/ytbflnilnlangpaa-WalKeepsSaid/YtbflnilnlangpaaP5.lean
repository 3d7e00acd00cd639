/-
  WalKeeps returns true for any acts, and they read behind the call as before. No condition beyond the given statement. (text 6)
-/
import Derived.Test.YtbflnilnlangpaaP4
import Derived.OpenShut
import Derived.ReadAgain
import Derived.WalkKit
import Derived.ProofKit
import Derived.Test.YtbflnilnlangpaaRows
namespace Go.Ev
set_option linter.unusedVariables false
set_option linter.unusedSimpArgs false
section
variable {C : Cdc} {P : Program} {T : Tab C} {Φ : Fns C}
open Pg (Ex)
def limV (mv : Nat → Bool) (k : Nat) : Lim := ⟨k, k, fun j => mv j = true, fun _ h1 h2 => absurd h2 (by omega)⟩
theorem limV_old {mv : Nat → Bool} {k id : Nat} (h : old k (limV mv k) id) : mv id = false := by
  have := h.2
  simp only [limV] at this
  simpa using this
def GrowV (mv : Nat → Bool) (os os' : List (Obj C)) (f : Nat → Nat) : Prop := ∀ j, j < os.length → mv j = true ∨ f j = j ∨ ∃ t own l own' l', os[j]? = some (.vec t own l) ∧ os'[j]? = some (.vec t own' l') ∧ l.length < l'.length
theorem Part.stepV {mv : Nat → Bool} {X X1 : Cx} {h' : Heap C} {nx' : Nat} {os os' : List (Obj C)} {f : Nat → Nat} (g : G T X (hpOf 0 os) os.length (lim0 os.length)) (g1 : G T X1 h' nx' (lim0 nx')) (s : Step X os.length (lim0 nx') X1) (p : Part h' os' f) (hlen : os'.length = os.length) (hg : GrowV mv os os' f) :
    Step X os.length (limV mv os.length) (X1.partM os.length f) := by
  refine ⟨s.O, s.os, s.tape, s.output, s.size, fun id ho => ?_, fun b o hb hm => ?_, s.cell, s.block, s.frz⟩
  · by_cases hid : id < os.length
    · simp only [Cx.partM, hid, if_true]
      rcases hg id hid with hm | hf | ⟨t, own, l, own', l', h1, h2, h3⟩
      · rw [limV_old ho] at hm; cases hm
      · rw [hf]; exact s.ρ id ⟨.inl hid, fun h => h⟩
      · obtain ⟨v, b, lo, hi, a1, a2⟩ := g.vec id t own l (by rw [hpOf_get0]; exact h1)
        obtain ⟨v', b', lo', hi', c1, c2⟩ := g1.vec (f id) t own' l' (p.at' id _ h2)
        rw [a1, c1]
        have e1 := a2.lenV
        have e2 := c2.lenV
        exact ⟨rfl, by omega, fun h => by omega⟩
    · simp only [Cx.partM, hid, if_false]; cases X.ρ id <;> simp [Compat]
  · obtain ⟨j, l, hj, hl, ho⟩ := Cx.partM_mine.1 hm
    exact s.mine b o hb ⟨f j, l, hl, ho⟩
theorem Part.backV (L : Laws T) {mv : Nat → Bool} {X : Cx} {h h' : Heap C} {nx nx' : Nat} {lim : Lim} (g : G T X h nx lim) {os os' : List (Obj C)} {f f' : Nat → Nat} (p : Part h os f) (hlen : os'.length = os.length) (hrefs : ∀ o ∈ os', ∀ r ∈ Obj.refs o, r < os.length)
    {X1 : Cx} {lim1 : Lim} (g1 : G T X1 (hpOf 0 os') os.length lim1) (s1 : Step (X.part os.length f) os.length (limV mv os.length) X1) (hn : nx ≤ nx') (hlim : nx' ≤ lim.top)
    (hinj : ∀ i j, i < os.length → j < os.length → f' i = f' j → i = j) (hsame : ∀ j, j < os.length → mv j = false → f' j = f j) (hnew : ∀ j, j < os.length → mv j = true → nx ≤ f' j ∧ f' j < nx')
    (hin : ∀ j o, os'[j]? = some o → h'.get (f' j) = some (o.ren f')) (hgone : ∀ j, j < os.length → (∀ i, i < os.length → f' i ≠ f j) → h'.get (f j) = none)
    (hout : ∀ id, (∀ j, j < os.length → f' j ≠ id) → (∀ j, j < os.length → f j ≠ id) → h'.get id = h.get id) :
    ∃ X', X'.w = X1.w ∧ G T X' h' nx' lim ∧ Step X nx lim X' ∧ (∀ j, j < os.length → X'.ρ (f' j) = X1.ρ j) ∧ ∀ b o v, X1.w.cell? ⟨b, o, none⟩ = some v → X1.free b o → X'.w.cell? ⟨b, o, none⟩ = some v ∧ X'.free b o := by
  classical
  obtain ⟨fi, hfi⟩ := inv_of hinj
  let X' : Cx := ⟨X1.w, fun id => if ∃ j, j < os.length ∧ f' j = id then X1.ρ (fi id) else if ∃ j, j < os.length ∧ f j = id then none else X.ρ id, X.O⟩
  have hρ1 : ∀ j, j < os.length → X'.ρ (f' j) = X1.ρ j := fun j hj => by
    have : ∃ i, i < os.length ∧ f' i = f' j := ⟨j, hj, rfl⟩
    simp only [X', this, if_true, hfi j hj]
  have hρ0 : ∀ id, (∀ j, j < os.length → f' j ≠ id) → (∃ j, j < os.length ∧ f j = id) → X'.ρ id = none := fun id hid hex => by
    have : ¬ ∃ j, j < os.length ∧ f' j = id := fun ⟨j, hj, e⟩ => hid j hj e
    simp only [X', this, hex, if_false, if_true]
  have hρ2 : ∀ id, (∀ j, j < os.length → f' j ≠ id) → (∀ j, j < os.length → f j ≠ id) → X'.ρ id = X.ρ id := fun id hid hid2 => by
    have h1 : ¬ ∃ j, j < os.length ∧ f' j = id := fun ⟨j, hj, e⟩ => hid j hj e
    have h2 : ¬ ∃ j, j < os.length ∧ f j = id := fun ⟨j, hj, e⟩ => hid2 j hj e
    simp only [X', h1, h2, if_false]
  have hcase : ∀ id, (∃ j, j < os.length ∧ f' j = id) ∨ ((∀ j, j < os.length → f' j ≠ id) ∧ ∃ j, j < os.length ∧ f j = id) ∨ ((∀ j, j < os.length → f' j ≠ id) ∧ ∀ j, j < os.length → f j ≠ id) := fun id => by
    by_cases hq : ∃ j, j < os.length ∧ f' j = id
    · exact .inl hq
    · have hq' : ∀ j, j < os.length → f' j ≠ id := fun j hj e => hq ⟨j, hj, e⟩
      by_cases hr : ∃ j, j < os.length ∧ f j = id
      · exact .inr (.inl ⟨hq', hr⟩)
      · exact .inr (.inr ⟨hq', fun j hj e => hr ⟨j, hj, e⟩⟩)
  -- what the others own
  have hA : ∀ id l b o, (∀ j, j < os.length → f j ≠ id) → X.ρ id = some l → l.owns b o → b < X.w.heap.size ∧ (X.part os.length f).O b o ∧ ∀ o', ¬ (X.part os.length f).mine b o' := by
    intro id l b o hid hl ho
    have hno : ∀ j, j < os.length → ∀ l', X.ρ (f j) = some l' → ∀ o', ¬ l'.owns b o' := fun j hj l' hl' o' ho' => hid j hj (g.apart _ _ _ _ _ _ _ hl' hl ho' ho)
    refine ⟨(g.outer b o ⟨id, l, hl, ho⟩).2, .inr ⟨⟨id, l, hl, ho⟩, fun j hj l' hl' => hno j hj l' hl' o⟩, fun o' hm => ?_⟩
    obtain ⟨j, l', hj, hl', ho'⟩ := Cx.part_mine.1 hm
    exact hno j hj l' hl' o' ho'
  have hmine : ∀ b o, X'.mine b o → X1.mine b o ∨ ∃ id l, (∀ j, j < os.length → f j ≠ id) ∧ X.ρ id = some l ∧ l.owns b o := by
    rintro b o ⟨id, l, h1, h2⟩
    rcases hcase id with ⟨j, hj, rfl⟩ | ⟨hid, hex⟩ | ⟨hid, hid2⟩
    · rw [hρ1 j hj] at h1; exact .inl ⟨j, l, h1, h2⟩
    · rw [hρ0 id hid hex] at h1; cases h1
    · rw [hρ2 id hid hid2] at h1; exact .inr ⟨id, l, hid2, h1, h2⟩
  have hB : ∀ b o, X1.free b o → X'.free b o := by
    rintro b o ⟨h1, h2⟩
    have hO : X1.O = (X.part os.length f).O := s1.O
    refine ⟨fun h3 => h1 (by rw [hO]; exact .inl h3), fun hm => ?_⟩
    rcases hmine b o hm with h3 | ⟨id, l, h3, h4, h5⟩
    · exact h2 h3
    · exact h1 (by rw [hO]; exact (hA id l b o h3 h4 h5).2.1)
  have hBB : ∀ b o v, X1.w.cell? ⟨b, o, none⟩ = some v → X1.free b o → X'.w.cell? ⟨b, o, none⟩ = some v ∧ X'.free b o := fun b o v h1 h2 => ⟨h1, hB b o h2⟩
  have hC : ∀ b o v, X.w.cell? ⟨b, o, none⟩ = some v → X.free b o → X'.w.cell? ⟨b, o, none⟩ = some v ∧ X'.free b o := by
    intro b o v h1 h2
    have := s1.keeps.cell b o v h1 (Cx.part_free.2 h2)
    exact hBB b o v this.1 this.2
  have hnotnew : ∀ id, old nx lim id → ∀ j, j < os.length → mv j = true → f' j ≠ id := fun id ho j hj hm e => by
    obtain ⟨h1, h2⟩ := hnew j hj hm
    have h3 := ho.1
    omega
  have hD : ∀ id, old nx lim id → Compat (X.ρ id) (X'.ρ id) := by
    intro id ho
    rcases hcase id with ⟨j, hj, e⟩ | ⟨hid, hex⟩ | ⟨hid, hid2⟩
    · cases hm : mv j with
      | true => exact (hnotnew id ho j hj hm e).elim
      | false =>
        have e2 : f j = id := by rw [← hsame j hj hm]; exact e
        rw [← e, hρ1 j hj]
        have := s1.ρ j ⟨.inl hj, by simp [limV, hm]⟩
        simp only [Cx.part, hj, if_true] at this
        rw [e, ← e2]; exact this
    · rw [hρ0 id hid hex]; cases X.ρ id <;> simp [Compat]
    · rw [hρ2 id hid hid2]; exact .refl _
  have hblk : ∀ id l b o, (∀ j, j < os.length → f j ≠ id) → X.ρ id = some l → l.owns b o → X'.w.heap[b]? = X.w.heap[b]? := fun id l b o h1 h2 h3 => by
    obtain ⟨a1, a2, a3⟩ := hA id l b o h1 h2 h3
    exact s1.block b a1 a3
  have hsome : ∀ j, j < os.length → ∃ o, h.get (f j) = some o := fun j hj => ⟨_, p.at' j os[j] (by simp [hj])⟩
  have hs : Step X nx lim X' := by
    refine ⟨rfl, s1.os, s1.tape, s1.output, s1.size, hD, ?_, ?_, ?_, s1.frz⟩
    · intro b o hb hm
      rcases hmine b o hm with h3 | ⟨id, l, h3, h4, h5⟩
      · obtain ⟨j, l, hj, hl, ho⟩ := Cx.part_mine.1 (s1.mine b o hb h3)
        exact ⟨f j, l, hl, ho⟩
      · exact ⟨id, l, h4, h5⟩
    · intro b o hb hm
      exact s1.cell b o hb fun hq => by
        obtain ⟨j, l, hj, hl, ho⟩ := Cx.part_mine.1 hq
        exact hm ⟨f j, l, hl, ho⟩
    · intro b hb hm
      exact s1.block b hb fun o hq => by
        obtain ⟨j, l, hj, hl, ho⟩ := Cx.part_mine.1 hq
        exact hm o ⟨f j, l, hl, ho⟩
  have holdf : ∀ j, j < os.length → old nx' lim (f' j) := fun j hj => by
    cases hm : mv j with
    | true =>
      obtain ⟨h1, h2⟩ := hnew j hj hm
      exact ⟨.inl h2, lim.ok _ (Nat.le_trans g.low h1) (by omega)⟩
    | false =>
      rw [hsame j hj hm]
      obtain ⟨o, ho⟩ := hsome j hj
      exact (g.nums _ _ ho).1.mono hn
  refine ⟨X', rfl, ⟨?_, ?_, ?_, ?_, ?_, ?_, ?_, ?_, Nat.le_trans g.low hn, g.pre.step hs⟩, hs, hρ1, hBB⟩
  · intro id t d ho
    rcases hcase id with ⟨j, hj, rfl⟩ | ⟨hid, ⟨j, hj, rfl⟩⟩ | ⟨hid, hid2⟩
    · have e1 : os'[j]? = some os'[j] := by simp [hlen, hj]
      have e2 := hin j _ e1
      rw [ho] at e2
      have e3 : ∃ d0, os'[j] = .var t d0 ∧ d = d0.ren f' := by
        cases hq : os'[j] with
        | var t0 d0 => rw [hq] at e2; simp [Obj.ren] at e2; exact ⟨d0, by rw [e2.1], e2.2⟩
        | vec t0 own0 l0 => rw [hq] at e2; simp [Obj.ren] at e2
        | map _ _ _ => rw [hq] at e2; simp [Obj.ren] at e2
      obtain ⟨d0, e4, rfl⟩ := e3
      rw [e4] at e1
      obtain ⟨b, c, h1, h2, h3, h4⟩ := g1.var j t d0 (by rw [hpOf_get0]; exact e1)
      refine ⟨b, c, by rw [hρ1 j hj]; exact h1, h2, ?_, by rw [fit_ren]; exact h4⟩
      refine h3.renE f' L.encOK hBB (fit_noYl _ _ h4) fun r hr => ?_
      rw [hρ1 r (hrefs _ (List.mem_of_getElem? e1) r hr)]; exact .refl _
    · rw [hgone j hj hid] at ho; cases ho
    · rw [hout id hid hid2] at ho
      obtain ⟨b, c, h1, h2, h3, h4⟩ := g.var id t d ho
      refine ⟨b, c, by rw [hρ2 id hid hid2]; exact h1, by rw [hblk id _ b 0 hid2 h1 rfl]; exact h2, h3.monoG T (y := false) L.encOK hC (fun h => by cases h) (fun r hr => hD r ((g.nums id _ ho).2 r hr)) (.inr (fit_noYl _ _ h4)), h4⟩
  · intro id t own l ho
    rcases hcase id with ⟨j, hj, rfl⟩ | ⟨hid, ⟨j, hj, rfl⟩⟩ | ⟨hid, hid2⟩
    · have e1 : os'[j]? = some os'[j] := by simp [hlen, hj]
      have e2 := hin j _ e1
      rw [ho] at e2
      have e3 : os'[j] = .vec t own l := by
        cases hq : os'[j] with
        | var t0 d0 => rw [hq] at e2; simp [Obj.ren] at e2
        | vec t0 own0 l0 => rw [hq] at e2; simp only [Obj.ren, Option.some.injEq] at e2; exact e2.symm
        | map _ _ _ => rw [hq] at e2; simp [Obj.ren] at e2
      rw [e3] at e1
      obtain ⟨v, b, lo, hi, h1, h2⟩ := g1.vec j t own l (by rw [hpOf_get0]; exact e1)
      exact ⟨v, b, lo, hi, by rw [hρ1 j hj]; exact h1, h2.move L hBB (fun _ => rfl) (L.posE t)⟩
    · rw [hgone j hj hid] at ho; cases ho
    · rw [hout id hid hid2] at ho
      obtain ⟨v, b, lo, hi, h1, h2⟩ := g.vec id t own l ho
      exact ⟨v, b, lo, hi, by rw [hρ2 id hid hid2]; exact h1, h2.move L hC (fun ⟨o, ho'⟩ => hblk id _ b o hid2 h1 ho') (L.posE t)⟩
  · intro id ck cv l ho
    rcases hcase id with ⟨j, hj, rfl⟩ | ⟨hid, ⟨j, hj, rfl⟩⟩ | ⟨hid, hid2⟩
    · have e1 : os'[j]? = some os'[j] := by simp [hlen, hj]
      have e2 := hin j _ e1
      rw [ho] at e2
      have e3 : os'[j] = .map ck cv l := by
        cases hq : os'[j] with
        | var t0 d0 => rw [hq] at e2; simp [Obj.ren] at e2
        | vec t0 own0 l0 => rw [hq] at e2; simp [Obj.ren] at e2
        | map _ _ _ => rw [hq] at e2; simp only [Obj.ren, Option.some.injEq] at e2; exact e2.symm
      rw [e3] at e1
      obtain ⟨b, es, k, h1, h2, h3⟩ := g1.map j ck cv l (by rw [hpOf_get0]; exact e1)
      exact ⟨b, es, k, by rw [hρ1 j hj]; exact h1, h2, h3.move L hBB⟩
    · rw [hgone j hj hid] at ho; cases ho
    · rw [hout id hid hid2] at ho
      obtain ⟨b, es, k, h1, h2, h3⟩ := g.map id ck cv l ho
      exact ⟨b, es, k, by rw [hρ2 id hid hid2]; exact h1, by rw [hblk id _ b 0 hid2 h1 rfl]; exact h2, h3.move L hC⟩
  · intro id l hr
    rcases hcase id with ⟨j, hj, rfl⟩ | ⟨hid, hex⟩ | ⟨hid, hid2⟩
    · rw [hin j os'[j] (by simp [hlen, hj])]; rfl
    · rw [hρ0 id hid hex] at hr; cases hr
    · rw [hρ2 id hid hid2] at hr
      rw [hout id hid hid2]; exact g.dom id l hr
  · intro id o ho
    rcases hcase id with ⟨j, hj, rfl⟩ | ⟨hid, ⟨j, hj, rfl⟩⟩ | ⟨hid, hid2⟩
    · have e1 : os'[j]? = some os'[j] := by simp [hlen, hj]
      have e2 := hin j _ e1
      rw [ho] at e2
      simp only [Option.some.injEq] at e2
      refine ⟨holdf j hj, fun r hr => ?_⟩
      rw [e2, Obj.ren_refs, List.mem_map] at hr
      obtain ⟨r0, hr0, rfl⟩ := hr
      exact holdf r0 (hrefs _ (List.mem_of_getElem? e1) r0 hr0)
    · rw [hgone j hj hid] at ho; cases ho
    · rw [hout id hid hid2] at ho
      obtain ⟨n1, n2⟩ := g.nums id o ho
      exact ⟨n1.mono hn, fun r hr => (n2 r hr).mono hn⟩
  · intro i i' l l' b o o' h1 h2 h3 h4
    rcases hcase i with ⟨j, hj, rfl⟩ | ⟨hid, hex⟩ | ⟨hid, hid2⟩
    · rcases hcase i' with ⟨j', hj', rfl⟩ | ⟨hid', hex'⟩ | ⟨hid', hid2'⟩
      · rw [hρ1 j hj] at h1; rw [hρ1 j' hj'] at h2
        rw [g1.apart j j' l l' b o o' h1 h2 h3 h4]
      · rw [hρ0 i' hid' hex'] at h2; cases h2
      · rw [hρ1 j hj] at h1; rw [hρ2 i' hid' hid2'] at h2
        obtain ⟨a1, a2, a3⟩ := hA i' l' b o' hid2' h2 h4
        exact (a3 o (s1.mine b o a1 ⟨j, l, h1, h3⟩)).elim
    · rw [hρ0 i hid hex] at h1; cases h1
    · rcases hcase i' with ⟨j', hj', rfl⟩ | ⟨hid', hex'⟩ | ⟨hid', hid2'⟩
      · rw [hρ2 i hid hid2] at h1; rw [hρ1 j' hj'] at h2
        obtain ⟨a1, a2, a3⟩ := hA i l b o hid2 h1 h3
        exact (a3 o' (s1.mine b o' a1 ⟨j', l', h2, h4⟩)).elim
      · rw [hρ0 i' hid' hex'] at h2; cases h2
      · rw [hρ2 i hid hid2] at h1; rw [hρ2 i' hid' hid2'] at h2
        exact g.apart i i' l l' b o o' h1 h2 h3 h4
  · intro b o hm
    rcases hmine b o hm with h3 | ⟨id, l, h3, h4, h5⟩
    · have := g1.outer b o h3
      exact ⟨fun h => this.1 (by rw [s1.O]; exact .inl h), this.2⟩
    · have := g.outer b o ⟨id, l, h4, h5⟩
      exact ⟨this.1, Nat.lt_of_lt_of_le this.2 s1.size⟩
  · intro b o ho
    exact Nat.lt_of_lt_of_le (g.outs b o ho) s1.size
def movAll {α : Type} (mv : Nat → Bool) : Nat → List Nat → List (Obj C) → (List Nat → Pg C α) → Pg C α
  | _, [], [], k => k []
  | n, id :: r, o :: os, k => bif mv n then .dl id (.nw o fun id' => movAll mv (n + 1) r os fun l => k (id' :: l)) else movAll mv (n + 1) r os fun l => k (id :: l)
  | _, _, _, _ => .fail
theorem movAll_ok {α : Type} {mv : Nat → Bool} {e : Pg.Lv} {a : α} {h' : Heap C} {nx' : Nat} : ∀ (ids : List Nat) (n : Nat) (os : List (Obj C)) (k : List Nat → Pg C α) (h : Heap C) (nx : Nat) (tr : Tr), (∀ id ∈ ids, id < nx ∨ nx' ≤ id) → ids.Nodup → Ex e (movAll mv n ids os k) h nx a h' nx' tr →
    ∃ ids' h1 nx1 tr1, nx ≤ nx1 ∧ ids'.length = ids.length ∧ os.length = ids.length ∧ (∀ j, j < ids.length → mv (n + j) = false → ids'[j]? = ids[j]?) ∧ (∀ j i, ids'[j]? = some i → mv (n + j) = true → nx ≤ i ∧ i < nx1) ∧ ids'.Nodup ∧
      (∀ id, id < nx ∨ nx1 ≤ id → h1.get id = none ∨ h1.get id = h.get id) ∧ (∀ id, (id < nx ∨ nx1 ≤ id) → (∀ j, ids[j]? = some id → mv (n + j) = false) → h1.get id = h.get id) ∧ (∀ id j, ids[j]? = some id → mv (n + j) = true → h1.get id = none) ∧ (∀ id, nx ≤ id → id < nx1 → id ∉ ids' → h1.get id = h.get id) ∧ Ex e (k ids') h1 nx1 a h' nx' tr1
  | [], n, [], k, h, nx, tr, _, _, hx => ⟨[], h, nx, tr, Nat.le_refl _, rfl, rfl, by simp, by simp, List.nodup_nil, fun _ _ => .inr rfl, fun _ _ _ => rfl, by simp, fun _ _ _ _ => rfl, hx⟩
  | id :: r, n, o :: os, k, h, nx, tr, hid, hnd, hx => by
    obtain ⟨hn1, hn2⟩ := List.nodup_cons.1 hnd
    rw [movAll] at hx
    cases hm : mv n with
    | true =>
      rw [hm] at hx
      simp only [cond_true] at hx
      obtain ⟨o', t', ho, hx, _⟩ := Ex.dl hx
      obtain ⟨t2, hx, _⟩ := Ex.nw hx
      have hle := hx.le
      obtain ⟨ids', h1, nx1, tr1, q0, q1, q2, q3, q4, q5, q6, q7, q8, q9, q10⟩ := movAll_ok r (n + 1) os _ _ (nx + 1) _ (fun i hi => by have := hid i (by simp [hi]); omega) hn2 hx
      have hle1 := q10.le
      have hidn : id < nx ∨ nx' ≤ id := hid id (by simp)
      have hnew : nx ∉ ids' := by
        intro hin
        obtain ⟨j, hj, e⟩ := List.getElem_of_mem hin
        have ej : ids'[j]? = some nx := by rw [List.getElem?_eq_getElem hj, e]
        cases hmj : mv (n + 1 + j) with
        | true => have := q4 j nx ej hmj; omega
        | false =>
          have := q3 j (by rw [← q1]; exact hj) hmj
          rw [ej] at this
          have := hid nx (by simp; right; exact List.mem_of_getElem? this.symm)
          omega
      refine ⟨nx :: ids', h1, nx1, tr1, by omega, by simp [q1], by simp [q2], ?_, ?_, List.nodup_cons.2 ⟨hnew, q5⟩, ?_, ?_, ?_, ?_, q10⟩
      · intro j hj hmj
        cases j with
        | zero => rw [Nat.add_zero, hm] at hmj; cases hmj
        | succ j => simpa using q3 j (by simpa using hj) (by rw [← hmj]; congr 1; omega)
      · intro j i hj hmj
        cases j with
        | zero => simp at hj; omega
        | succ j => have := q4 j i (by simpa using hj) (by rw [← hmj]; congr 1; omega); omega
      · intro i hi
        rcases q6 i (by omega) with h2 | h2
        · exact .inl h2
        · rw [get_cons, get_del] at h2
          have : i ≠ nx := by omega
          by_cases hii : i = id
          · left; rw [h2, if_neg this, if_pos hii]
          · right; rw [h2, if_neg this, if_neg hii]
      · intro i hi hj
        have hii : i ≠ id := by rintro rfl; have := hj 0 (by simp); rw [Nat.add_zero, hm] at this; cases this
        have : i ≠ nx := by omega
        rw [q7 i (by omega) (fun j hj' => by rw [← hj (j + 1) (by simpa using hj')]; congr 1; omega), get_cons, get_del]
        simp [this, hii]
      · intro i j hj hmj
        cases j with
        | zero =>
          simp at hj
          subst hj
          have : id ≠ nx := by omega
          rcases q6 id (by omega) with h2 | h2
          · exact h2
          · rw [h2, get_cons, get_del]; simp [this]
        | succ j => exact q8 i j (by simpa using hj) (by rw [← hmj]; congr 1; omega)
      · intro i h1' h2' h3'
        simp only [List.mem_cons, not_or] at h3'
        rw [q9 i (by omega) h2' h3'.2, get_cons, get_del]
        have : i ≠ id := by omega
        simp [h3'.1, this]
    | false =>
      rw [hm] at hx
      simp only [cond_false] at hx
      obtain ⟨ids', h1, nx1, tr1, q0, q1, q2, q3, q4, q5, q6, q7, q8, q9, q10⟩ := movAll_ok r (n + 1) os _ _ nx _ (fun i hi => hid i (by simp [hi])) hn2 hx
      have hle1 := q10.le
      have hidn : id < nx ∨ nx' ≤ id := hid id (by simp)
      have hold : id ∉ ids' := by
        intro hin
        obtain ⟨j, hj, e⟩ := List.getElem_of_mem hin
        have ej : ids'[j]? = some id := by rw [List.getElem?_eq_getElem hj, e]
        cases hmj : mv (n + 1 + j) with
        | true => have := q4 j id ej hmj; omega
        | false =>
          have := q3 j (by rw [← q1]; exact hj) hmj
          rw [ej] at this
          exact hn1 (List.mem_of_getElem? this.symm)
      refine ⟨id :: ids', h1, nx1, tr1, q0, by simp [q1], by simp [q2], ?_, ?_, List.nodup_cons.2 ⟨hold, q5⟩, q6, ?_, ?_, ?_, q10⟩
      · intro j hj hmj
        cases j with
        | zero => rfl
        | succ j => simpa using q3 j (by simpa using hj) (by rw [← hmj]; congr 1; omega)
      · intro j i hj hmj
        cases j with
        | zero => rw [Nat.add_zero, hm] at hmj; cases hmj
        | succ j => exact q4 j i (by simpa using hj) (by rw [← hmj]; congr 1; omega)
      · intro i hi hj
        exact q7 i hi fun j hj' => by rw [← hj (j + 1) (by simpa using hj')]; congr 1; omega
      · intro i j hj hmj
        cases j with
        | zero => rw [Nat.add_zero, hm] at hmj; cases hmj
        | succ j => exact q8 i j (by simpa using hj) (by rw [← hmj]; congr 1; omega)
      · intro i h1' h2' h3'
        simp only [List.mem_cons, not_or] at h3'
        exact q9 i h1' h2' h3'.2
  | [], n, _ :: _, _, _, _, _, _, _, hx => (Ex.fail hx).elim
  | _ :: _, n, [], _, _, _, _, _, _, hx => (Ex.fail hx).elim
def RT.pgV (mv : Nat → Bool) (ids : List Nat) : RT C → Pg C (Ev.X × Env C)
  | .fail => .fail
  | .leaf x env os => movAll mv 0 ids os fun ids' => wrAll ids' (os.map (Obj.ren fun j => ids'.getD j 0)) (.ret (x, renE (fun j => ids'.getD j 0) env))
  | .br b l r => .br b (l.pgV mv ids) (r.pgV mv ids)
theorem RT.pgV_ok {mv : Nat → Bool} {e : Pg.Lv} {a : Ev.X × Env C} {h h' : Heap C} {nx nx' : Nat} {ids : List Nat} : ∀ (t : RT C) (tr : Tr), Ex e (t.pgV mv ids) h nx a h' nx' tr → ∃ x env os tr', t.val = some ((x, env), os) ∧ Ex e (movAll mv 0 ids os fun ids' => wrAll ids' (os.map (Obj.ren fun j => ids'.getD j 0)) (.ret (x, renE (fun j => ids'.getD j 0) env))) h nx a h' nx' tr'
  | .fail, tr, hx => (Ex.fail hx).elim
  | .leaf x env os, tr, hx => ⟨x, env, os, _, rfl, hx⟩
  | .br b l r, tr, hx => by
    rcases Ex.br hx with ⟨rfl, hx⟩ | ⟨rfl, hx⟩
    · exact RT.pgV_ok l _ hx
    · exact RT.pgV_ok r _ hx
end
section
variable {C : Cdc} {P : Program} {T : Tab C} {Φ : Fns C}
open Pg (Ex)
def mvOf (l : List Nat) (j : Nat) : Bool := l.any (Nat.beq j)
def RoundV (T : Tab C) (Φ : Fns C) (mv : Nat → Bool) (g : FuncId) (b : Code) {σ : Type} (S : LoopO C σ) : Prop :=
  ∀ s, S.Inv s → RefsOK S.k (S.canon s) (S.objs s) ∧ RefsOK S.k (S.fin s).2 (S.fobjs s) ∧ ∃ n x env' h' nx' tr, Ex (0, 0) (evC T Φ n g b (S.canon s)) (hpOf 0 (S.objs s)) S.k (x, env') h' nx' tr ∧
    ((x = .normal ∧ ∃ s' f, S.Inv s' ∧ S.μ s' < S.μ s ∧ S.fin s' = S.fin s ∧ S.fobjs s' = S.fobjs s ∧ (∀ p ∈ S.canon s', eget env' p.1 = p.2.ren f) ∧ Part h' (S.objs s') f ∧ GrowV mv (S.objs s) (S.objs s') f) ∨
     (x ≠ .normal ∧ x = (S.fin s).1 ∧ ∃ f, (∀ p ∈ (S.fin s).2, eget env' p.1 = p.2.ren f) ∧ Part h' (S.fobjs s) f ∧ GrowV mv (S.objs s) (S.fobjs s) f))
theorem rounds_mov (K : PLaws P T) (F : FLaws P T Φ) {mv : Nat → Bool} {g : FuncId} {fn : Func} {body b : Code} {σ : Type} {S : LoopO C σ} (hr : RoundV T Φ mv g b S) (hf : Φ.fn g = some fn) (hb : fn.body = some body) (hcb : codeB fn.ntmps b = true) (hl : ∀ b' ∈ loops b, b' ∈ loops body) {B : Nat → Bool} (hB : ClearC B b)
    {Q : Exit → Act → World → Prop} : ∀ (m : Nat) (s : σ) (X : Cx) (a : Act), S.Inv s → S.μ s < m → G T X (hpOf 0 (S.objs s)) S.k (lim0 S.k) → EnvOK T X S.k (lim0 S.k) (S.canon s) a.tmps → fn.ntmps ≤ a.tmps.size →
      (∀ a' X', G T X' (hpOf 0 (S.fobjs s)) S.k (lim0 S.k) → Step X S.k (limV mv S.k) X' → EnvOK T X' S.k (lim0 S.k) (S.fin s).2 a'.tmps → a'.tmps.size = a.tmps.size → Marks X X' a'.defers a.defers → Kp B a.tmps a'.tmps → Q (exitX (S.fin s).1) a' X'.w) → Code.rounds P b Q m a X.w := by
  intro m
  induction m with
  | zero => intro s X a _ hm; omega
  | succ m ih =>
    intro s X a hI hm hg he hsz hk
    obtain ⟨hr1, hr2, n, x, env', h', nx', tr, hx, hcase⟩ := hr s hI
    rw [rounds_succ]
    have hle : S.k ≤ nx' := hx.le
    have g0 : G T X (hpOf 0 (S.objs s)) S.k (lim0 nx') := hg.relim2 (hpOf_nums hr1.1 hr1.2.2) (Nat.le_refl _) (Nat.zero_le _) (fun _ h => h)
    have e0 : EnvOK T X S.k (lim0 nx') (S.canon s) a.tmps := fun t => ⟨(he t).1, fun r hh => ⟨.inl (by
      rcases eget_mem (S.canon s) t with h | h
      · rw [h] at hh; simp [D.refs] at hh
      · exact hr1.2.1 _ h r hh), fun h => h⟩⟩
    refine (wpIn_wide (n := 0)).1 ((code_ok K F n).1 none 0 g fn.ntmps b (.inr ⟨rfl, fn, body, hf, rfl, hb, hl⟩) hcb B hB X (hpOf 0 (S.objs s)) S.k (lim0 nx') (0, 0) (S.canon s) x env' h' nx' tr a _ g0 e0 (Nat.le_refl _) hsz hx ?_)
    intro a1 X1 g1 s1 e1 hs1 hd1 kp1
    have key : ∀ (os : List (Obj C)) (env0 : Env C) (f : Nat → Nat), RefsOK S.k env0 os → (∀ p ∈ env0, eget env' p.1 = p.2.ren f) → Part h' os f → GrowV mv (S.objs s) os f →
        G T (X1.partM S.k f) (hpOf 0 os) S.k (lim0 S.k) ∧ Step X S.k (limV mv S.k) (X1.partM S.k f) ∧ EnvOK T (X1.partM S.k f) S.k (lim0 S.k) env0 a1.tmps ∧ Marks X (X1.partM S.k f) a1.defers a.defers := by
      intro os env0 f hrf hsub hpart hgrow
      have hlen' : os.length = (S.objs s).length := by rw [hrf.1, hr1.1]
      have g2 := Part.ctxM K.base g1 hpart os.length
      have e2 : EnvOK T (X1.partM os.length f) os.length (lim0 os.length) env0 a1.tmps := EnvOK.partM K.base e1 hpart.inj hsub (by rw [hrf.1]; exact hrf.2.1)
      have s2 := Part.stepV (mv := mv) (by rw [hr1.1]; exact hg) g1 (by rw [hr1.1]; exact s1) hpart hlen' hgrow
      rw [hrf.1] at g2 e2
      rw [hr1.1] at s2
      exact ⟨g2, s2, e2, hd1.sub (X2 := X1.partM S.k f) rfl fun b o _ hm => by obtain ⟨j, q, _, hl, ho⟩ := Cx.partM_mine.1 hm; exact ⟨f j, q, hl, ho⟩⟩
    rcases hcase with ⟨rfl, s', f, hI', hmu, hfin, hfo, hsub, hpart, hgrow⟩ | ⟨hne, hxf, f, hsub, hpart, hgrow⟩
    · obtain ⟨hr1', _, _⟩ := hr s' hI'
      obtain ⟨g2, s2, e2, hd2⟩ := key _ _ f hr1' hsub hpart hgrow
      refine ih s' (X1.partM S.k f) a1 hI' (by omega) g2 e2 (by omega) fun a3 X3 g3 s3 e3 hs3 hd3 kp3 => ?_
      rw [hfin] at e3 ⊢
      rw [hfo] at g3
      exact hk a3 X3 g3 (s2.trans s3 (Nat.le_refl _)) e3 (by omega) (hd2.trans s2 s3 hd3) (kp1.trans kp3)
    · obtain ⟨g2, s2, e2, hd2⟩ := key _ _ f hr2 hsub hpart hgrow
      have hfinal : Q (exitX (S.fin s).1) a1 (X1.partM S.k f).w := hk a1 _ g2 s2 e2 hs1 hd2 kp1
      rw [← hxf] at hfinal
      cases x with
      | normal => exact (hne rfl).elim
      | exit id => exact hfinal
      | ret => exact hfinal
def sumV (T : Tab C) (mv : Nat → Bool) (fs : List Fnd) (slots : List Nat) (res : Env C → List (Obj C) → RT C) (env : Env C) : Pg C (Ev.X × Env C) :=
  findP T fs env [] fun env ids => bif nodupB ids then rdAll ids fun os =>
    bif inB ids (slots.flatMap fun t => (eget env t).refs) && inB ids (os.flatMap Obj.refs) then
      (res (slots.map fun t => (t, (eget env t).ren (idx ids))) (os.map (Obj.ren (idx ids)))).pgV mv ids
    else .fail
  else .fail
theorem mov_back (K : PLaws P T) {mv : Nat → Bool} {X1 : Cx} {h1 h' : Heap C} {nx1 nx' : Nat} {lim : Lim} {e : Pg.Lv} {ids : List Nat} {os0 os' : List (Obj C)} {x : Ev.X} {env0 : Env C} {r : Ev.X × Env C} {tr : Tr} (g1 : G T X1 h1 nx1 lim) (hlim : nx' ≤ lim.top)
    (hnodup : ids.Nodup) (part : Part h1 os0 fun j => ids.getD j 0) (hlenO : os0.length = ids.length) (hlen' : os'.length = os0.length) (hrefs' : ∀ o ∈ os', ∀ r ∈ Obj.refs o, r < os0.length)
    {X' : Cx} {lim1 : Lim} (g' : G T X' (hpOf 0 os') os0.length lim1) (s' : Step (X1.part os0.length fun j => ids.getD j 0) os0.length (limV mv os0.length) X')
    {tmps : Array Value} (e' : EnvOK T X' os0.length lim1 env0 tmps) (hr2 : ∀ p ∈ env0, ∀ r ∈ D.refs p.2, r < os0.length)
    (hx : Ex e (movAll mv 0 ids os' fun ids' => wrAll ids' (os'.map (Obj.ren fun j => ids'.getD j 0)) (.ret (x, renE (fun j => ids'.getD j 0) env0))) h1 nx1 r h' nx' tr) :
    ∃ env2 X2, r = (x, env2) ∧ X2.w = X'.w ∧ G T X2 h' nx' lim ∧ Step X1 nx1 lim X2 ∧ EnvOK T X2 nx' lim env2 tmps := by
  have hids : ∀ j, j < ids.length → ∃ o, h1.get (ids.getD j 0) = some o := fun j hj => by
    have hj' : j < os0.length := by omega
    exact ⟨_, part.at' j os0[j] (by simp [hj'])⟩
  have hout : ∀ id ∈ ids, id < nx1 ∨ nx' ≤ id := fun id hid => by
    obtain ⟨j, hj, e⟩ := List.getElem_of_mem hid
    obtain ⟨o, ho⟩ := hids j hj
    have e2 : ids.getD j 0 = id := by rw [List.getD_eq_getElem?_getD, List.getElem?_eq_getElem hj, e]; rfl
    rw [e2] at ho
    have := (g1.nums _ _ ho).1.1
    omega
  obtain ⟨ids', h2, nx2, tr2, q0, q1, q2, q3, q4, q5, q6, q7, q8, q9, q10⟩ := movAll_ok ids 0 os' _ h1 nx1 _ hout hnodup hx
  have hle2 := q10.le
  obtain ⟨h3, tr3, hl3, hw1, hw2, hx4⟩ := wrAll_ok ids' _ h2 _ q5 q10
  obtain ⟨hxx, eh, en, _⟩ := Ex.ret hx4
  subst eh
  subst en
  have hff : ∀ j, j < ids.length → ids[j]? = some (ids.getD j 0) := fun j hj => by simp [hj]
  have hff' : ∀ j, j < ids'.length → ids'[j]? = some (ids'.getD j 0) := fun j hj => by simp [hj]
  have hinj : ∀ i j, i < os0.length → j < os0.length → ids'.getD i 0 = ids'.getD j 0 → i = j := fun i j hi hj hij => by
    rw [hlenO, ← q1] at hi hj
    exact (List.getElem?_inj hi q5 (j := j)).1 (by rw [hff' i hi, hff' j hj, hij])
  have hsame : ∀ j, j < os0.length → mv j = false → ids'.getD j 0 = ids.getD j 0 := fun j hj hm => by
    have := q3 j (by omega) (by simpa using hm)
    rw [List.getD_eq_getElem?_getD, List.getD_eq_getElem?_getD, this]
  have hnew : ∀ j, j < os0.length → mv j = true → nx1 ≤ ids'.getD j 0 ∧ ids'.getD j 0 < nx' := fun j hj hm => q4 j _ (hff' j (by omega)) (by simpa using hm)
  obtain ⟨X2, w2, g3, s3, hρ, hB2⟩ := Part.backV K.base g1 part hlen' hrefs' g' s' q0 (by omega) hinj hsame hnew (h' := h')
    (fun j o hj => by
      have hlt : j < ids'.length := by rw [q1, ← hlenO, ← hlen']; exact (List.getElem?_eq_some_iff.1 hj).1
      exact hw1 j _ _ (hff' j hlt) (by rw [List.getElem?_map, hj]; rfl))
    (fun j hj hno => by
      have hni : ids.getD j 0 ∉ ids' := fun hm => by
        obtain ⟨i, hi, e⟩ := List.getElem_of_mem hm
        exact hno i (by rw [hlenO, ← q1]; exact hi) (by rw [List.getD_eq_getElem?_getD, List.getElem?_eq_getElem hi, e]; rfl)
      rw [hw2 _ hni]
      cases hm : mv j with
      | true => exact q8 _ j (hff j (by omega)) (by simpa using hm)
      | false =>
        have := hsame j hj hm
        exact (hno j hj this).elim)
    (fun id hid hid2 => by
      have hni : id ∉ ids' := fun hm => by
        obtain ⟨i, hi, e⟩ := List.getElem_of_mem hm
        exact hid i (by rw [hlenO, ← q1]; exact hi) (by rw [List.getD_eq_getElem?_getD, List.getElem?_eq_getElem hi, e]; rfl)
      have hni2 : ∀ j, ids[j]? ≠ some id := fun j hj => by
        have hlt := (List.getElem?_eq_some_iff.1 hj).1
        exact hid2 j (by omega) (by rw [List.getD_eq_getElem?_getD, hj]; rfl)
      rw [hw2 id hni]
      by_cases hr : id < nx1 ∨ nx' ≤ id
      · exact q7 id hr fun j hj => (hni2 j hj).elim
      · exact q9 id (by omega) (by omega) hni)
  refine ⟨_, X2, hxx, w2, g3, s3, ?_⟩
  have hold : ∀ j, j < os0.length → old nx' lim (ids'.getD j 0) := fun j hj => by
    have hj' : j < os'.length := by omega
    have e1 : h'.get (ids'.getD j 0) = some (os'[j].ren fun j => ids'.getD j 0) := hw1 j _ _ (hff' j (by omega)) (by rw [List.getElem?_map, List.getElem?_eq_getElem hj']; rfl)
    exact (g3.nums _ _ e1).1
  exact EnvOK.back (nx := nx') (lim := lim) (f := fun j => ids'.getD j 0) K.base e' hr2 hρ ⟨hB2, fun l r h1 _ => ⟨by rw [w2]; exact h1, fun o ho => g3.mine_loop ho (by rw [w2]; exact h1)⟩⟩ hold
theorem loop_mov (K : PLaws P T) (F : FLaws P T Φ) {mv : Nat → Bool} {g key : Nat} {fs : List Fnd} {slots : List Nat} {res : Env C → List (Obj C) → RT C} {σ : Type} {S : LoopO C σ}
    (hr : ∀ fn body b, Φ.fn g = some fn → fn.body = some body → b ∈ loops body → firstRegion b = key → RoundV T Φ mv g b S)
    (hres : ∀ env0 os x env' os', (res env0 os).val = some ((x, env'), os') → ∃ q, S.Inv q ∧ (∀ p ∈ S.canon q, p ∈ env0) ∧ os = S.objs q ∧ S.fin q = (x, env') ∧ S.fobjs q = os') : LoopLaw P T Φ g key (sumV T mv fs slots res) := by
  intro fn body b hf hb hbl hkey B hB X h nx lim e env x env' h' nx' tr a Q gg he hlim hsz hx hk
  obtain ⟨f1, f2, f3⟩ := F.fn g fn hf
  obtain ⟨c1, c2⟩ := codeB_loop body (f3 body hb) b hbl
  have hround := hr fn body b hf hb hbl hkey
  obtain ⟨X1, h1, nx1, env1, ids, tr1, w1, g1, s1, hn1, e1, hx1⟩ := findP_ok K hlim fs X h nx tr env [] gg he hx
  cases hnd : nodupB ids with
  | false => rw [hnd] at hx1; exact (Ex.fail hx1).elim
  | true =>
  rw [hnd] at hx1
  simp only [cond_true] at hx1
  have hnodup := nodupB_spec hnd
  obtain ⟨os, tr2, hlen, hos, hx2⟩ := rdAll_ok ids _ _ hx1
  cases hin : inB ids (slots.flatMap fun t => (eget env1 t).refs) && inB ids (os.flatMap Obj.refs) with
  | false => rw [hin] at hx2; exact (Ex.fail hx2).elim
  | true =>
  rw [hin] at hx2
  simp only [cond_true] at hx2
  simp only [Bool.and_eq_true] at hin
  have hin1 := inB_spec hin.1
  have hin2 := inB_spec hin.2
  obtain ⟨xx, ee, os', tr5, hq, hx3⟩ := RT.pgV_ok _ _ hx2
  obtain ⟨q, hI, hsub, hobjs, hfin, hfo⟩ := hres _ _ _ _ _ hq
  obtain ⟨hr1, hr2, _⟩ := hround q hI
  let f : Nat → Nat := fun j => ids.getD j 0
  have hfj : ∀ j, j < ids.length → ids[j]? = some (f j) := fun j hj => by simp [f, hj]
  have hk0 : ids.length = S.k := by rw [← hr1.1, ← hobjs]; simp [hlen]
  have hff : ∀ r, r ∈ ids → f (idx ids r) = r := fun r hr => by
    have := idx_spec ids r hr
    simp only [f, List.getD_eq_getElem?_getD, this, Option.getD_some]
  have hlenO : (S.objs q).length = ids.length := by rw [hr1.1, hk0]
  have part : Part h1 (S.objs q) f := by
    refine ⟨fun j o ho => ?_, fun i j hi hj hij => ?_, fun o ho r hr => by rw [hr1.1]; exact hr1.2.2 o ho r hr⟩
    · rw [← hobjs, List.getElem?_map] at ho
      cases hoj : os[j]? with
      | none => simp [hoj] at ho
      | some o0 =>
        simp only [hoj, Option.map_some, Option.some.injEq] at ho
        have hj : j < ids.length := by rw [← hlen]; exact (List.getElem?_eq_some_iff.1 hoj).1
        rw [hos j (f j) o0 (hfj j hj) hoj, ← ho, Obj.ren_ren]
        intro id hid
        exact hff id (hin2 id (List.mem_flatMap.2 ⟨o0, List.mem_of_getElem? hoj, hid⟩))
    · rw [hlenO] at hi hj
      have := (List.getElem?_inj hi hnodup (j := j)).1 (by rw [hfj i hi, hfj j hj]; simp only [f] at hij ⊢; rw [hij])
      exact this
  have g2 := Part.ctx K.base g1 part (S.objs q).length
  have e2 : EnvOK T (X1.part (S.objs q).length f) (S.objs q).length (lim0 (S.objs q).length) (S.canon q) a.tmps := by
    refine EnvOK.part K.base e1 part.inj (fun p hp => ?_) (fun p hp r hr => by rw [hr1.1]; exact hr1.2.1 p hp r hr)
    have := hsub p hp
    simp only [List.mem_map] at this
    obtain ⟨t, ht, rfl⟩ := this
    simp only
    rw [D.ren_ren]
    intro id hid
    exact hff id (hin1 id (List.mem_flatMap.2 ⟨t, ht, hid⟩))
  rw [hr1.1] at g2 e2
  rw [← w1]
  show (Code.loop b).wp P Q a (X1.part S.k f).w
  refine wp_loop_rounds (S.μ q + 1) (rounds_mov K F hround hf hb c1 c2 hB (S.μ q + 1) q (X1.part S.k f) a hI (by omega) g2 e2 hsz fun a' X' g' s' e' hs' hd' kp' => ?_)
  rw [hfo] at g'
  rw [hfin] at e'
  have hlen' : os'.length = (S.objs q).length := by rw [← hfo, hr2.1, hr1.1]
  have hrefs' : ∀ o ∈ os', ∀ r ∈ Obj.refs o, r < (S.objs q).length := fun o ho r hr => by rw [hr1.1]; exact hr2.2.2 o (by rw [hfo]; exact ho) r hr
  obtain ⟨env2, X2, hxx, w2, g3, s3, e3⟩ := mov_back K g1 hlim hnodup part hlenO hlen' hrefs' (X' := X') (lim1 := lim0 S.k) (by rw [hr1.1]; exact g') (by rw [hr1.1]; exact s') (by rw [hr1.1]; exact e') (fun p hp r hr => by rw [hr1.1]; exact hr2.2.1 p (by rw [hfin]; exact hp) r hr) hx3
  obtain ⟨rfl, rfl⟩ := Prod.mk.inj hxx
  have := hk a' X2 g3 (s1.trans s3 hn1) e3 hs' (hd'.of_g g3 (by show X.w.heap.size ≤ X1.w.heap.size; rw [w1]; exact Nat.le_refl _) w2) kp'
  rw [w2] at this
  rw [hfin]
  exact this
def growV {α : Type} (mv : Nat → Bool) (k : Option α) : Nat → List Nat → List (Obj C) → List (Obj C) → Option α
  | _, [], _, _ => k
  | n, i :: l, o :: os, o' :: os' => bif mv n || Nat.beq i n then growV mv k (n + 1) l os os' else (match o, o' with
      | .vec t _ x, .vec t' _ x' => bif decide (t' = t) then (bif Nat.blt x.length x'.length then growV mv k (n + 1) l os os' else none) else none
      | _, _ => none)
  | _, _, _, _ => none
theorem growV_some {α : Type} {mv : Nat → Bool} {k : Option α} {a : α} : ∀ (l : List Nat) (n : Nat) (os os' : List (Obj C)), growV mv k n l os os' = some a → k = some a ∧ ∀ j, j < l.length → mv (n + j) = true ∨ l.getD j 0 = n + j ∨ ∃ t own x own' x', os[j]? = some (.vec t own x) ∧ os'[j]? = some (.vec t own' x') ∧ x.length < x'.length
  | [], n, os, os', h => ⟨by simpa [growV] using h, fun j hj => by simp at hj⟩
  | i :: l, n, [], _, h => by simp [growV] at h
  | i :: l, n, o :: os, [], h => by simp [growV] at h
  | i :: l, n, o :: os, o' :: os', h => by
    simp only [growV] at h
    have step : growV mv k (n + 1) l os os' = some a → (mv n = true ∨ i = n ∨ ∃ t own x own' x', o = .vec t own x ∧ o' = .vec t own' x' ∧ x.length < x'.length) → k = some a ∧ ∀ j, j < (i :: l).length → mv (n + j) = true ∨ (i :: l).getD j 0 = n + j ∨ ∃ t own x own' x', (o :: os)[j]? = some (.vec t own x) ∧ (o' :: os')[j]? = some (.vec t own' x') ∧ x.length < x'.length := by
      intro h1 h2
      obtain ⟨h3, h4⟩ := growV_some l (n + 1) os os' h1
      refine ⟨h3, fun j hj => ?_⟩
      cases j with
      | zero => simpa using h2
      | succ j =>
        have := h4 j (by simpa using hj)
        simp only [List.getD_cons_succ, List.getElem?_cons_succ]
        rcases this with h5 | h5 | h5
        · left; rw [← h5]; congr 1; omega
        · right; left; omega
        · exact .inr (.inr h5)
    cases hb : mv n || Nat.beq i n with
    | true =>
      rw [hb] at h
      rw [Bool.or_eq_true] at hb
      exact step h (hb.imp id fun h => .inl (Nat.eq_of_beq_eq_true h))
    | false =>
      rw [hb] at h
      simp only [cond_false] at h
      cases o with
      | var t d => simp at h
      | map _ _ _ => simp at h
      | vec t own x =>
        cases o' with
        | var t d => simp at h
        | map _ _ _ => simp at h
        | vec t' own' x' =>
          simp only at h
          cases ht : decide (t' = t) with
          | false => rw [ht] at h; cases h
          | true =>
            rw [ht] at h
            have ht : t' = t := by simpa using ht
            subst ht
            cases hl : Nat.blt x.length x'.length with
            | false => rw [hl] at h; cases h
            | true =>
              rw [hl] at h
              exact step h (.inr (.inr ⟨t', own, x, own', x', rfl, rfl, by simpa [Nat.blt_eq] using hl⟩))
def settleV {α : Type} (T : Tab C) (mv : Nat → Bool) (fs : List Fnd) (k : Nat) (os : List (Obj C)) (env : Env C) (h : Heap C) (rs : List Nat) (res : (Nat → Nat) → List (Obj C) → α) : Option α :=
  match movP T env h fs [] with
  | none => none
  | some ids => bif nodupB ids && Nat.beq ids.length k && inB ids rs && inB ids (ids.flatMap fun i => match h.get i with | some o => o.refs | none => []) then (match objsL h (idx ids) ids with
      | some os' => growV mv (some (res (idx ids) os')) 0 ids os os'
      | none => none) else none
theorem settleV_some {α : Type} {mv : Nat → Bool} {fs : List Fnd} {k : Nat} {os : List (Obj C)} {env : Env C} {h : Heap C} {rs : List Nat} {res : (Nat → Nat) → List (Obj C) → α} {r : α} (hr : settleV T mv fs k os env h rs res = some r) (hos : os.length = k) :
    ∃ (gi f : Nat → Nat) (os' : List (Obj C)), r = res gi os' ∧ (∀ x ∈ rs, f (gi x) = x ∧ gi x < k) ∧ (os'.length = k ∧ (∀ j o, os'[j]? = some o → h.get (f j) = some (o.ren f)) ∧ (∀ i j, i < os'.length → j < os'.length → f i = f j → i = j) ∧ ∀ o ∈ os', ∀ r ∈ Obj.refs o, r < os'.length) ∧ GrowV mv os os' f := by
  unfold settleV at hr
  cases hm : movP T env h fs [] with
  | none => rw [hm] at hr; cases hr
  | some ids =>
    rw [hm] at hr
    simp only at hr
    cases hc : nodupB ids && Nat.beq ids.length k && inB ids rs && inB ids (ids.flatMap fun i => match h.get i with | some o => o.refs | none => []) with
    | false => rw [hc] at hr; cases hr
    | true =>
      rw [hc] at hr
      simp only [cond_true] at hr
      simp only [Bool.and_eq_true] at hc
      obtain ⟨⟨⟨c1, c2⟩, c3⟩, c4⟩ := hc
      have c1 := nodupB_spec c1
      have c2 := Nat.eq_of_beq_eq_true c2
      have c3 := inB_spec c3
      have c4 := inB_spec c4
      cases ho : objsL h (idx ids) ids with
      | none => rw [ho] at hr; cases hr
      | some os' =>
        rw [ho] at hr
        simp only at hr
        obtain ⟨q1, q2⟩ := growV_some _ _ _ _ hr
        simp only [Option.some.injEq] at q1
        obtain ⟨o1, o2⟩ := objsL_some _ _ ho
        have hff : ∀ x, x ∈ ids → ids.getD (idx ids x) 0 = x := fun x hx => by
          have := idx_spec ids x hx
          simp only [List.getD_eq_getElem?_getD, this, Option.getD_some]
        have hlt : ∀ x, x ∈ ids → idx ids x < k := fun x hx => by
          have := idx_spec ids x hx
          rw [← c2]; exact (List.getElem?_eq_some_iff.1 this).1
        refine ⟨idx ids, fun j => ids.getD j 0, os', q1.symm, fun x hx => ⟨hff x (c3 x hx), hlt x (c3 x hx)⟩, ⟨by rw [o1, c2], fun j o hj => ?_, fun i j hi hj hij => ?_, fun o ho' r hr' => ?_⟩, fun j hj => ?_⟩
        · have hjl : j < ids.length := by rw [← o1]; exact (List.getElem?_eq_some_iff.1 hj).1
          obtain ⟨o0, a1, a2⟩ := o2 j (ids.getD j 0) (by simp [hjl])
          rw [hj] at a2
          simp only [Option.some.injEq] at a2
          rw [a1, a2, Obj.ren_ren]
          intro id hid
          exact hff id (c4 id (List.mem_flatMap.2 ⟨ids.getD j 0, by rw [List.getD_eq_getElem?_getD]; simp [hjl], by rw [a1]; exact hid⟩))
        · rw [o1] at hi hj
          exact (List.getElem?_inj hi c1 (j := j)).1 (by
            simp only [List.getD_eq_getElem?_getD] at hij
            simp only [hi, hj, List.getElem?_eq_getElem, Option.getD_some] at hij ⊢
            rw [hij])
        · obtain ⟨j, hj, e⟩ := List.getElem_of_mem ho'
          have hjl : j < ids.length := by rw [← o1]; exact hj
          obtain ⟨o0, a1, a2⟩ := o2 j (ids.getD j 0) (by simp [hjl])
          rw [List.getElem?_eq_getElem hj, e] at a2
          simp only [Option.some.injEq] at a2
          rw [a2, Obj.ren_refs, List.mem_map] at hr'
          obtain ⟨r0, hr0, rfl⟩ := hr'
          rw [o1, c2]
          exact hlt r0 (c4 r0 (List.mem_flatMap.2 ⟨ids.getD j 0, by rw [List.getD_eq_getElem?_getD]; simp [hjl], by rw [a1]; exact hr0⟩))
        · have := q2 j (by rw [c2, ← hos]; exact hj)
          simpa using this
def rndV (T : Tab C) (Φ : Fns C) (mv : Nat → Bool) (g key n k : Nat) (kc kf : List Nat) (fs : List Fnd) (env : Env C) (os : List (Obj C)) : Option ((Ev.X × Env C) × List (Option (Obj C))) := (evC T Φ n g (bodyAt Φ g key) env).run (0, 0) (hpOf 0 os) k [] fun a h _ _ => match a.1 with
  | .normal => settleV T mv fs k os a.2 h ((sel kc a.2).flatMap fun p => p.2.refs) fun gi os' => ((.normal, renE gi (sel kc a.2)), os'.map some)
  | x => settleV T mv fs k os a.2 h ((sel kf a.2).flatMap fun p => p.2.refs) fun gi os' => ((x, renE gi (sel kf a.2)), os'.map some)
theorem sel_back {gi f : Nat → Nat} {l : List Nat} {env : Env C} (h : ∀ x ∈ ((sel l env).flatMap fun p => p.2.refs), f (gi x) = x) : ∀ p ∈ renE gi (sel l env), eget env p.1 = p.2.ren f := by
  intro p hp
  simp only [renE, List.mem_map] at hp
  obtain ⟨p0, hp0, rfl⟩ := hp
  simp only
  rw [sel_get l env p0 hp0, D.ren_ren]
  intro id hid
  exact h id (List.mem_flatMap.2 ⟨p0, hp0, hid⟩)
theorem FLaws.addRoundsV (K : PLaws P T) (F : FLaws P T Φ) {mv : Nat → Bool} {g key : Nat} (hkeys : keysB (loopsOf Φ g) = true) {σ : Type} (S : LoopR C σ) (n : Nat) (kc kf : List Nat) (fs : List Fnd) (slots : List Nat) (d : Env C → List (Obj C) → Option (Bool × σ))
    (hr : ∀ q, S.Inv q → RefsOK S.k (S.canon q) (S.objs q) ∧ (S.fin q).refsOK S.k ∧ Leaf (rndV T Φ mv g key n S.k kc kf fs (S.canon q) (S.objs q)) (LedR S q))
    (hd : ∀ env os b q, d env os = some (b, q) → b = true → S.Inv q ∧ S.canon q = env ∧ S.objs q = os) : FLaws P T (Φ.addLoop g key (sumV T mv fs slots (resR S d))) := by
  refine F.addLoop (loop_mov K F (S := S.toO) (fun fn body b hf hb hm hkey q hI => ?_) ?_)
  · obtain ⟨h1, h2, r, h3, h4⟩ := hr q hI
    obtain ⟨x0, env0, os0, hv, hok⟩ := RT.refsOK_val h2
    rw [rndV, bodyAt_eq hkeys hf hb hm hkey] at h3
    obtain ⟨⟨x, env'⟩, h', nx', tr, h5, h6⟩ := Pg.run_some h3
    refine ⟨h1, by simp only [LoopR.toO, hv]; exact hok, n, x, env', h', nx', tr, h5, ?_⟩
    have fin : x ≠ .normal → settleV T mv fs S.k (S.objs q) env' h' ((sel kf env').flatMap fun p => p.2.refs) (fun gi os' => ((x, renE gi (sel kf env')), os'.map some)) = some r → (x ≠ .normal ∧ x = (S.toO.fin q).1 ∧ ∃ f, (∀ p ∈ (S.toO.fin q).2, eget env' p.1 = p.2.ren f) ∧ Part h' (S.toO.fobjs q) f ∧ GrowV mv (S.objs q) (S.toO.fobjs q) f) := by
      intro hne h6
      obtain ⟨gi, f, os', hs, e1, ⟨f2, f3, f4, f5⟩, f6⟩ := settleV_some h6 h1.1
      subst hs
      rcases h4 with ⟨a1, _⟩ | ⟨a1, os2, a2, a3⟩
      · exact (hne a1).elim
      · have a3 : os' = os2 := List.map_inj_right (fun _ _ h => Option.some.inj h) |>.1 a3
        subst a3
        refine ⟨hne, by simp only [LoopR.toO, a2], f, ?_, ?_, ?_⟩
        · simp only [LoopR.toO, a2]; exact sel_back fun x hx => (e1 x hx).1
        · simp only [LoopR.toO, a2]; exact ⟨f3, f4, f5⟩
        · simp only [LoopR.toO, a2]; exact f6
    cases x with
    | normal =>
      simp only at h6
      obtain ⟨gi, f, os', hs, e1, ⟨f2, f3, f4, f5⟩, f6⟩ := settleV_some h6 h1.1
      subst hs
      rcases h4 with ⟨_, s', a1, a2, a3, a4, a5⟩ | ⟨a1, _⟩
      · simp only at a4 a5
        have a5 : os' = S.objs s' := List.map_inj_right (fun _ _ h => Option.some.inj h) |>.1 a5
        subst a5
        exact .inl ⟨rfl, s', f, a1, a2, by simp only [LoopR.toO, a3], by simp only [LoopR.toO, a3], by rw [show S.toO.canon s' = S.canon s' from rfl, ← a4]; exact sel_back fun x hx => (e1 x hx).1, ⟨f3, f4, f5⟩, f6⟩
      · exact (a1 rfl).elim
    | exit id => exact .inr (fin (by simp) h6)
    | ret => exact .inr (fin (by simp) h6)
  · intro env0 os x env' os' h
    unfold resR at h
    split at h
    · rename_i b q hq
      cases b with
      | false => simp [RT.val] at h
      | true =>
        obtain ⟨h1, h2, h3⟩ := hd _ _ _ _ hq rfl
        simp only [RT.val, cond_true] at h
        exact ⟨q, h1, fun p hp => by rw [← h2]; exact hp, h3.symm, by simp only [LoopR.toO, h], by simp only [LoopR.toO, h]⟩
    · simp [RT.val] at h
end
open Go.Proofs
set_option maxRecDepth 100000
structure KS where
  all : List Rec
  ckpt : Nat
  sn : Nat
structure KI (s : KS) (i : Nat) : Prop where
  seq : seqW s.all
  n : s.all.length ≤ i
  c1 : s.ckpt ≤ s.sn
  c2 : s.sn ≤ s.all.length
  c3 : s.all.length ≤ s.sn + 1
  c4 : s.all.length ≤ s.ckpt + 32
structure KF (s : KS) (now sure : List Sector) : Prop where
  disk : diskOK now sure = true
  g1 : goodL now = true
  g2 : goodL sure = true
  e : preE now sure (s.ckpt : Int) = 0
  f : preF now sure (s.ckpt : Int) = s.all.drop s.ckpt
  lk : lenOK (s.all.drop s.ckpt).length = true
  gr : goodRs (s.all.drop s.ckpt) = true
  d : decide ((0 : Int) ≤ (s.ckpt : Int) ∧ (s.ckpt : Int) ≤ (s.all.length : Int)) = true
  b : Nat.ble s.ckpt s.all.length = true
theorem seqW_mem {l : List Rec} (h : seqW l) : ∀ r ∈ l, mayB r = true := fun r hr => by
  obtain ⟨i, hi, rfl⟩ := List.getElem_of_mem hr
  have := (h i hi).2
  simpa [List.getD_eq_getElem?_getD, hi] using this
theorem KI.facts {s : KS} {i : Nat} (h : KI s i) (hi : i ≤ 1000) : KF s (layW s.all) (layW (s.all.take s.sn)) := by
  have hn := h.n
  have hd := layW_disk h.seq (by omega) h.c2 h.c3
  obtain ⟨g1, g2⟩ := diskOK_good hd
  obtain ⟨f, e⟩ := pre_lay h.seq (by omega) hd (by have := h.c1; have := h.c2; omega) h.c4
  refine ⟨hd, g1, g2, e, f, lenOK_of (by simp; omega), ?_, decide_eq_true ?_, Nat.ble_eq_true_of_le ?_⟩
  · unfold goodRs
    rw [List.all_eq_true]
    intro r hr
    exact lenOK_of (Nat.le_trans (may_len (seqW_mem h.seq r (List.mem_of_mem_drop hr))) (by decide))
  · have := h.c1; have := h.c2; omega
  · have := h.c1; have := h.c2; omega
def recK (x : Bool) (w : List Write) (n : Nat) : Rec := ⟨(n : Int) + 1, x, bif x then w else []⟩
def crK (lost : Int) (s : KS) : Nat := s.ckpt + (preF (crashF lost 33 0 (layW s.all) (layW (s.all.take s.sn))).1 (crashF lost 33 0 (layW s.all) (layW (s.all.take s.sn))).2 (s.ckpt : Int)).length
def stepK (do_ : Int) (yes : Bool) (w : List Write) (lost : Int) (s : KS) : KS :=
  if do_ = 0 then (if s.sn < s.all.length ∨ roomB ((s.all.length : Int) + 1) (s.ckpt : Int) = false ∨ mayB (recK yes w s.all.length) = false then s else ⟨s.all ++ [recK yes w s.all.length], s.ckpt, s.sn⟩)
  else if do_ = 1 then ⟨s.all, s.ckpt, s.all.length⟩
  else if do_ = 2 then ⟨s.all.take (crK lost s), s.ckpt, crK lost s⟩
  else if do_ = 3 then ⟨s.all, s.sn, s.sn⟩ else s
theorem KI.mono {s : KS} {i : Nat} (h : KI s i) : KI s (i + 1) := ⟨h.seq, by have := h.n; omega, h.c1, h.c2, h.c3, h.c4⟩
theorem KI.put {s : KS} {i : Nat} (h : KI s i) {r : Rec} (hp : r.place = (s.all.length : Int) + 1) (hm : mayB r = true) (h1 : ¬ s.sn < s.all.length) (h2 : roomB ((s.all.length : Int) + 1) (s.ckpt : Int) = true) : KI ⟨s.all ++ [r], s.ckpt, s.sn⟩ (i + 1) := by
  have hr : (s.all.length : Int) + 1 ≤ (s.ckpt : Int) + 32 := by unfold roomB at h2; exact (of_decide_eq_true h2).2.2.2.2
  have := h.n; have := h.c1; have := h.c2; have := h.c3
  refine ⟨seqW_snoc h.seq hp hm, ?_, h.c1, ?_, ?_, ?_⟩ <;> simp only [List.length_append, List.length_singleton] <;> omega
theorem KI.sync {s : KS} {i : Nat} (h : KI s i) : KI ⟨s.all, s.ckpt, s.all.length⟩ (i + 1) := by
  have := h.n; have := h.c1; have := h.c2
  exact ⟨h.seq, by show s.all.length ≤ i + 1; omega, by show s.ckpt ≤ s.all.length; omega, Nat.le_refl _, by show s.all.length ≤ s.all.length + 1; omega, h.c4⟩
theorem KI.ck {s : KS} {i : Nat} (h : KI s i) : KI ⟨s.all, s.sn, s.sn⟩ (i + 1) := by
  have := h.n; have := h.c1; have := h.c2; have := h.c3
  exact ⟨h.seq, by show s.all.length ≤ i + 1; omega, Nat.le_refl _, h.c2, h.c3, by show s.all.length ≤ s.sn + 32; omega⟩
theorem KI.crash {s : KS} {i : Nat} (h : KI s i) (hi : i ≤ 1000) (lost : Int) : (crK lost s = s.all.length ∨ crK lost s = s.sn) ∧
    crashF lost 33 0 (layW s.all) (layW (s.all.take s.sn)) = (layW (s.all.take (crK lost s)), layW (s.all.take (crK lost s))) ∧ KI ⟨s.all.take (crK lost s), s.ckpt, crK lost s⟩ (i + 1) ∧ (s.all.take (crK lost s)).length = crK lost s := by
  have hn := h.n; have h1 := h.c1; have h2 := h.c2; have h3 := h.c3; have h4 := h.c4
  obtain ⟨m, hm, hc⟩ := crash_lay h.seq (by omega) h.c2 h.c3 lost
  have hml : m ≤ s.all.length := by omega
  have hlen : (s.all.take m).length = m := by rw [List.length_take]; omega
  have hk : KI ⟨s.all.take m, s.ckpt, m⟩ (i + 1) := ⟨seqW_take h.seq m, by show (s.all.take m).length ≤ _; omega, by show s.ckpt ≤ m; omega, by show m ≤ (s.all.take m).length; omega, by show (s.all.take m).length ≤ m + 1; omega, by show (s.all.take m).length ≤ s.ckpt + 32; omega⟩
  have hf := (pre_lay hk.seq (by show (s.all.take m).length ≤ 1000; omega) (diskOK_same (layW_row hk.seq (by show (s.all.take m).length ≤ 1000; omega))) (b := s.ckpt) (by show s.ckpt ≤ (s.all.take m).length; omega) (by show (s.all.take m).length ≤ s.ckpt + 32; omega)).1
  have e : crK lost s = m := by
    unfold crK
    rw [hc]
    show s.ckpt + (preF (layW (s.all.take m)) (layW (s.all.take m)) (s.ckpt : Int)).length = m
    have : preF (layW (s.all.take m)) (layW (s.all.take m)) (s.ckpt : Int) = (s.all.take m).drop s.ckpt := hf
    rw [this, List.length_drop, hlen]
    omega
  rw [e]
  exact ⟨hm, hc, hk, hlen⟩
def runK : List ActS → KS → Bool × KS
  | [], s => (false, s)
  | x :: r, s => bif decide (40 < (x.w.length : Int)) then (true, s) else runK r (stepK x.do_ x.yes x.w x.lost s)
theorem runK_step (l : List ActS) (i : Nat) (h : i < l.length) (d : ActS) (s : KS) : runK (l.drop i) s = bif decide (40 < ((l.getD i d).w.length : Int)) then (true, s) else runK (l.drop (i + 1)) (stepK (l.getD i d).do_ (l.getD i d).yes (l.getD i d).w (l.getD i d).lost s) := by
  have e : l.getD i d = l[i] := by simp [h]
  rw [List.drop_eq_getElem_cons h, e]; rfl
structure keepL_St where
  c : Bool
  l : List ActS
  i : Nat
  now : List Sector
  sure : List Sector
  all : List Rec
  ckpt : Nat
  sn : Nat
def keepL_c (c : Bool) (l : List ActS) (i : Nat) (now : List Sector) (sure : List Sector) (all : List Rec) (ckpt : Nat) (sn : Nat) : Env RC := [(0, .sl (C := RC) .actS c l), (2, .bool false), (3, .ptr 0 []), (4, .vs 1 (all.length)), (5, .int .i64 (ckpt : Int)), (6, .int .i64 (sn : Int)), (7, .int .i64 (i : Int))]
def keepL_o (c : Bool) (l : List ActS) (i : Nat) (now : List Sector) (sure : List Sector) (all : List Rec) (ckpt : Nat) (sn : Nat) : List (Obj RC) := [.var 24 (.acons (.sl (C := RC) .sector false now) (.acons (.sl (C := RC) .sector false sure) .anil)), .vec .recd true all]
noncomputable def keepL_r (c : Bool) (l : List ActS) (i : Nat) (now : List Sector) (sure : List Sector) (all : List Rec) (ckpt : Nat) (sn : Nat) := rndV s06 u1_5 (mvOf [1]) 4 7 80 2 [0, 2, 3, 4, 5, 6, 7] [2] [.slot 3 0, .slot 4 0] (keepL_c c l i now sure all ckpt sn) (keepL_o c l i now sure all ckpt sn)
set_option maxHeartbeats 4000000 in
theorem keepL_eq (c : Bool) (l : List ActS) (i : Nat) (now : List Sector) (sure : List Sector) (all : List Rec) (ckpt : Nat) (sn : Nat) : keepL_r c l i now sure all ckpt sn = (let Z0 : Int := (↑i : Int); let Z1 : Nat := List.length all; let Z2 : ActS := List.getD l Z0.toNat (ActS.mk (0 : Int) false [] (0 : Int) (0 : Int)); let Z3 : Nat := List.length (ActS.w Z2); let Z4 : D RC := .anil; let Z5 : List (Option (Obj RC)) := [some (Obj.vec RTy.recd true all)]; let Z6 : List (Option (Obj RC)) := some (Obj.var 24 (.acons (D.sl RTy.sector false now) (.acons (D.sl RTy.sector false sure) Z4))) :: Z5; let Z7 : Int := ActS.do_ Z2; let Z8 : Bool := ActS.yes Z2; let Z9 : Int := (↑sn : Int); let Z10 : Int := (↑Z1 : Int); let Z11 : Nat × D RC := (0, D.sl RTy.actS c l); let Z12 : Nat × D RC := (2, D.bool false); let Z13 : Nat × D RC := (3, D.ptr 0 []); let Z14 : Nat × D RC := (4, D.vs 1 Z1); let Z15 : Int := (↑ckpt : Int); let Z16 : Nat × D RC := (5, D.int .i64 Z15); let Z17 : List (Nat × D RC) := [(7, D.int .i64 (IntKind.wrap .i64 (Z0 + (1 : Int))))]; let Z18 : List (Nat × D RC) := (6, D.int .i64 Z9) :: Z17; let Z19 : RO_ := some ((X.normal, Z11 :: Z12 :: Z13 :: Z14 :: Z16 :: Z18), Z6); let Z20 : Int := IntKind.wrap .i64 (Z10 + (1 : Int)); let Z21 : Rec := Rec.mk Z20 Z8 (ActS.w Z2); let Z22 : Bool := goodL now && goodL sure; let Z23 : Int := secI Z20; let Z24 : Bool := okPut now sure Z23 Z20 (entL Z21); let Z25 : X × Env RC := (X.ret, [Z12]); let Z26 : RO_ := some (Z25, Z6); let Z27 : Bool := Nat.beq Z1 Z1; let Z28 : Nat := Z1 + List.length [Z21]; let Z29 : List Sector := pNow now sure Z23 Z20 (entL Z21); let Z30 : List Sector := pSure now sure Z23 Z20 (entL Z21); let Z31 : List (Option (Obj RC)) := [some (Obj.var 24 (.acons (D.sl RTy.sector (!Z24) Z29) (.acons (D.sl RTy.sector (!Z24) Z30) Z4))), some (Obj.vec RTy.recd true (all ++ [Z21]))]; let Z32 : Nat := List.length (all ++ [Z21]); let Z33 : Nat := Int.toNat Z15; let Z34 : List Rec := preF Z29 Z30 Z15; let Z35 : List Rec := List.drop Z33 (all ++ [Z21]); let Z36 : RO_ := none; let Z37 : Rec := Rec.mk Z20 Z8 []; let Z38 : Bool := okPut now sure Z23 Z20 (entL Z37); let Z39 : Nat := Z1 + List.length [Z37]; let Z40 : List Sector := pNow now sure Z23 Z20 (entL Z37); let Z41 : List Sector := pSure now sure Z23 Z20 (entL Z37); let Z42 : List (Option (Obj RC)) := [some (Obj.var 24 (.acons (D.sl RTy.sector (!Z38) Z40) (.acons (D.sl RTy.sector (!Z38) Z41) Z4))), some (Obj.vec RTy.recd true (all ++ [Z37]))]; let Z43 : Nat := List.length (all ++ [Z37]); let Z44 : List Rec := preF Z40 Z41 Z15; let Z45 : List Rec := List.drop Z33 (all ++ [Z37]); let Z46 : Bool := diskOK now sure; let Z47 : Nat := (0 : Nat) + List.length now; let Z48 : List Sector := List.replicate (0 : Nat) (Sector.mk (0 : Int) []); let Z49 : List Sector := Z48 ++ now; let Z50 : Bool := Nat.beq Z47 Z49.length; let Z51 : Nat := (0 : Nat) + List.length Z49; let Z52 : List Sector := Z48 ++ Z49; let Z53 : List (Option (Obj RC)) := some (Obj.var 24 (.acons (D.sl RTy.sector false Z49) (.acons (D.sl RTy.sector false Z52) Z4))) :: Z5; let Z54 : Bool := Z27 && decide ((0 : Int) ≤ Z15 ∧ Z15 ≤ Z10); let Z55 : List Rec := preF Z49 Z52 Z15; let Z56 : List Rec := List.drop Z33 all; let Z57 : List Sector × List Sector := crashF (ActS.lost Z2) (33 : Nat) (0 : Nat) now sure; let Z58 : List Sector := bif Z46 then Prod.fst Z57 else []; let Z59 : List Sector := bif Z46 then Prod.snd Z57 else []; let Z60 : Bool := preE Z58 Z59 Z15 != (0 : Int); let Z61 : Option (Obj RC) := some (Obj.var 24 (.acons (D.sl RTy.sector (!Z46) Z58) (.acons (D.sl RTy.sector (!Z46) Z59) Z4))); let Z62 : List Rec := preF Z58 Z59 Z15; let Z63 : Bool := lenOK Z62.length; let Z64 : Int := IntKind.wrap .i64 (Z15 + (↑Z62.length : Int)); let Z65 : Nat := Int.toNat Z64; let Z66 : List Rec := List.take Z65 all; let Z67 : Nat := List.length Z66; let Z68 : List Rec := List.drop Z33 Z66; let Z69 : RO_ := bif Z63 then bif Z27 && decide ((0 : Int) ≤ Z64 ∧ Z64 ≤ Z10) then bif lenOK Z65 then bif goodL Z58 && goodL Z59 then bif Z60 then some (Z25, [Z61, some (Obj.vec RTy.recd true Z66)]) else bif Nat.beq Z65 Z67 && decide ((0 : Int) ≤ Z15 ∧ Z15 ≤ (↑Z67 : Int)) then bif Nat.beq Z65 Z67 && Nat.ble Z33 Z67 then bif Z63 && lenOK Z68.length && (goodRs Z62 && goodRs Z68) then bif !decide (Z62 = Z68) then some (Z25, [Z61, some (Obj.vec RTy.recd true Z66)]) else some ((X.normal, Z11 :: Z12 :: Z13 :: (4, D.vs 1 Z65) :: Z16 :: (6, D.int .i64 (↑Z65 : Int)) :: Z17), [Z61, some (Obj.vec RTy.recd true Z66)]) else Z36 else Z36 else Z36 else Z36 else Z36 else Z36 else Z36; let Z70 : List Rec := preF now sure Z9; let Z71 : List Rec := List.drop Z9.toNat all; let Z72 : Int := IntKind.wrap .i64 (IntKind.wrap .i64 (Z10 - (1 : Int)) - Int.tmod (IntKind.wrap .i64 (Int.tmod (ActS.n Z2) (40 : Int) + (40 : Int))) (40 : Int)); let Z73 : Rec := List.getD all Z72.toNat (Rec.mk (0 : Int) false []); let Z74 : Int := Rec.place Z73; let Z75 : List UInt8 := entL (Rec.mk Z74 Z73.yes Z73.writes); let Z76 : List Sector := pNow now sure (secI Z74) Z74 Z75; let Z77 : List Sector := pSure now sure (secI Z74) Z74 Z75; let Z78 : List Rec := preF now sure Z15; let Z79 : RO_ := bif Z22 then bif preE now sure Z15 != (0 : Int) then Z26 else bif Z54 then bif Z27 && Nat.ble Z33 Z1 then bif lenOK Z78.length && lenOK Z56.length && (goodRs Z78 && goodRs Z56) then bif !decide (Z78 = Z56) then Z26 else Z19 else Z36 else Z36 else Z36 else Z36; bif lenOK l.length then bif decide (Z0 < (↑l.length : Int)) then bif decide ((0 : Int) ≤ Z0 ∧ Z0 < (↑l.length : Int)) then bif lenOK Z1 then bif lenOK Z3 then bif decide ((40 : Int) < (↑Z3 : Int)) then some ((X.ret, [(2, D.bool true)]), Z6) else bif Z7 == (0 : Int) then bif Z8 then bif decide (Z9 < Z10) then Z19 else bif !roomB Z20 Z15 then Z19 else bif lenOK Z3 then bif !mayB Z21 then Z19 else bif Z22 && lenOK Z3 then bif (bif Z24 then (0 : Int) else (2 : Int)) != (0 : Int) then Z26 else bif Z27 && sizeOK Z28 (40 : Nat) then bif goodL Z29 && goodL Z30 then bif preE Z29 Z30 Z15 != (0 : Int) then some (Z25, Z31) else bif Nat.beq Z28 Z32 && decide ((0 : Int) ≤ Z15 ∧ Z15 ≤ (↑Z32 : Int)) then bif Nat.beq Z28 Z32 && Nat.ble Z33 Z32 then bif lenOK Z34.length && lenOK Z35.length && (goodRs Z34 && goodRs Z35) then bif !decide (Z34 = Z35) then some (Z25, Z31) else some ((X.normal, Z11 :: Z12 :: Z13 :: (4, D.vs 1 Z28) :: Z16 :: Z18), Z31) else Z36 else Z36 else Z36 else Z36 else Z36 else Z36 else Z36 else bif decide (Z9 < Z10) then Z19 else bif !roomB Z20 Z15 then Z19 else bif !mayB Z37 then Z19 else bif Z22 && true then bif (bif Z38 then (0 : Int) else (2 : Int)) != (0 : Int) then Z26 else bif Z27 && sizeOK Z39 (40 : Nat) then bif goodL Z40 && goodL Z41 then bif preE Z40 Z41 Z15 != (0 : Int) then some (Z25, Z42) else bif Nat.beq Z39 Z43 && decide ((0 : Int) ≤ Z15 ∧ Z15 ≤ (↑Z43 : Int)) then bif Nat.beq Z39 Z43 && Nat.ble Z33 Z43 then bif lenOK Z44.length && lenOK Z45.length && (goodRs Z44 && goodRs Z45) then bif !decide (Z44 = Z45) then some (Z25, Z42) else some ((X.normal, Z11 :: Z12 :: Z13 :: (4, D.vs 1 Z39) :: Z16 :: Z18), Z42) else Z36 else Z36 else Z36 else Z36 else Z36 else Z36 else bif Z7 == (1 : Int) then bif Z22 then bif (bif Z46 then (0 : Int) else (2 : Int)) != (0 : Int) then some (Z25, some (Obj.var 24 (.acons (D.sl RTy.sector true []) (.acons (D.sl RTy.sector true []) Z4))) :: Z5) else bif sizeOK Z47 (24 : Nat) then bif sizeOK ((0 : Nat) + List.length sure) (24 : Nat) then bif Z50 then bif sizeOK Z51 (24 : Nat) then bif Z50 then bif Nat.beq Z51 Z52.length then bif goodL Z49 && goodL Z52 then bif preE Z49 Z52 Z15 != (0 : Int) then some (Z25, Z53) else bif Z54 then bif Z27 && Nat.ble Z33 Z1 then bif lenOK Z55.length && lenOK Z56.length && (goodRs Z55 && goodRs Z56) then bif !decide (Z55 = Z56) then some (Z25, Z53) else some ((X.normal, Z11 :: Z12 :: Z13 :: Z14 :: Z16 :: (6, D.int .i64 Z10) :: Z17), Z53) else Z36 else Z36 else Z36 else Z36 else Z36 else Z36 else Z36 else Z36 else Z36 else Z36 else Z36 else bif Z7 == (2 : Int) then bif Z22 then bif goodL Z58 && goodL Z59 then bif Z60 then some (Z25, Z61 :: Z5) else bif Z63 then bif Z64 != Z10 then bif Z63 then bif Z64 != Z9 then some (Z25, Z61 :: Z5) else Z69 else Z36 else Z69 else Z36 else Z36 else Z36 else bif Z7 == (3 : Int) then bif Z22 then bif preE now sure Z9 != (0 : Int) then Z26 else bif Z27 && decide ((0 : Int) ≤ Z9 ∧ Z9 ≤ Z10) then bif Z27 && Nat.ble Z9.toNat Z1 then bif lenOK Z70.length && lenOK Z71.length && (goodRs Z70 && goodRs Z71) then bif !decide (Z70 = Z71) then Z26 else some ((X.normal, Z11 :: Z12 :: Z13 :: Z14 :: (5, D.int .i64 Z9) :: Z18), Z6) else Z36 else Z36 else Z36 else Z36 else bif decide ((0 : Int) ≤ Z72) then bif lenOK Z1 then bif decide (Z72 < Z10) then bif Z27 && decide ((0 : Int) ≤ Z72 ∧ Z72 < Z10) then bif Z27 then bif Z22 && lenOK Z73.writes.length then bif (bif okPut now sure (secI Z74) Z74 Z75 then (0 : Int) else (2 : Int)) != (0 : Int) then Z26 else bif lenOK Z76.length && lenOK now.length && (lenOK Z77.length && lenOK sure.length) then bif !(decide (Z76 = now) && decide (Z77 = sure)) then Z26 else Z79 else Z36 else Z36 else Z36 else Z36 else Z79 else Z36 else Z79 else Z36 else Z36 else Z36 else some ((X.exit (0 : Nat), [Z12]), Z6) else Z36) := by kernel_rfl
def keepL_fin (c : Bool) (l : List ActS) (i : Nat) (now : List Sector) (sure : List Sector) (all : List Rec) (ckpt : Nat) (sn : Nat) : RT RC := .br (runK (l.drop i) ⟨all, ckpt, sn⟩).1 (.leaf .ret [(2, .bool true)] (keepL_o c l i (layW (runK (l.drop i) ⟨all, ckpt, sn⟩).2.all) (layW ((runK (l.drop i) ⟨all, ckpt, sn⟩).2.all.take (runK (l.drop i) ⟨all, ckpt, sn⟩).2.sn)) (runK (l.drop i) ⟨all, ckpt, sn⟩).2.all 0 0)) (.leaf (.exit 0) [(2, .bool false)] (keepL_o c l i (layW (runK (l.drop i) ⟨all, ckpt, sn⟩).2.all) (layW ((runK (l.drop i) ⟨all, ckpt, sn⟩).2.all.take (runK (l.drop i) ⟨all, ckpt, sn⟩).2.sn)) (runK (l.drop i) ⟨all, ckpt, sn⟩).2.all 0 0))
def keepL_Inv (c : Bool) (l : List ActS) (i : Nat) (now : List Sector) (sure : List Sector) (all : List Rec) (ckpt : Nat) (sn : Nat) : Prop := i ≤ l.length ∧ l.length ≤ 200 ∧ (∀ x ∈ l, lenOK x.w.length = true) ∧ KI ⟨all, ckpt, sn⟩ i ∧ now = layW all ∧ sure = layW (all.take sn)
def keepL_S : LoopR RC keepL_St where
  k := 2
  canon q := keepL_c q.c q.l q.i q.now q.sure q.all q.ckpt q.sn
  objs q := keepL_o q.c q.l q.i q.now q.sure q.all q.ckpt q.sn
  fin q := keepL_fin q.c q.l q.i q.now q.sure q.all q.ckpt q.sn
  Inv q := keepL_Inv q.c q.l q.i q.now q.sure q.all q.ckpt q.sn
  μ q := q.l.length - q.i
theorem keepL_round (c : Bool) (l : List ActS) (i : Nat) (now : List Sector) (sure : List Sector) (all : List Rec) (ckpt : Nat) (sn : Nat) (hI : keepL_Inv c l i now sure all ckpt sn) : Leaf (keepL_r c l i now sure all ckpt sn) (LedR keepL_S ⟨c, l, i, now, sure, all, ckpt, sn⟩) := by
  (rw [keepL_eq]; conv => zeta)
  unfold keepL_Inv at hI
  obtain ⟨h1, h2, hw, hK, rfl, rfl⟩ := hI
  have hlk0 : lenOK l.length = true := lenOK_of (by omega)
  by_cases hlt : i < l.length
  · have w_succ : IntKind.i64.wrap ((i : Int) + 1) = ((i + 1 : Nat) : Int) := by rw [wrap_id (by omega) (by omega)]; simp
    have d_lt : decide ((i : Int) < l.length) = true := by simp; omega
    have d_in : decide (0 ≤ (i : Int) ∧ (i : Int) < l.length) = true := by simp; omega
    have t_nat : ((i : Int)).toNat = i := by simp
    simp only [w_succ, d_lt, d_in, t_nat, cond_true]
    have hxw : lenOK (l.getD i (⟨0, false, [], 0, 0⟩ : ActS)).w.length = true := hw _ (by simp [List.getD_eq_getElem?_getD, hlt])
    have hrun := runK_step l i hlt (⟨0, false, [], 0, 0⟩ : ActS) ⟨all, ckpt, sn⟩
    generalize l.getD i (⟨0, false, [], 0, 0⟩ : ActS) = x at hxw hrun ⊢
    obtain ⟨do_, yes, w, lost, nn⟩ := x
    dsimp only at hxw hrun ⊢
    have hF := hK.facts (by omega)
    have hn0 : all.length ≤ i := hK.n
    have hlka : lenOK all.length = true := lenOK_of (by omega)
    have hbq : ∀ n : Nat, Nat.beq n n = true := fun n => by simp
    have wN : IntKind.i64.wrap ((all.length : Int) + 1) = (all.length : Int) + 1 := wrap_id (by omega) (by omega)
    have tn : ∀ n : Nat, ((n : Int)).toNat = n := fun n => by simp
    simp only [hlk0, hxw, hlka, wN, cond_true]
    cases hg : decide (40 < (w.length : Int))
    rotate_left
    · simp only [hg, cond_true] at hrun ⊢
      exact leafR_ret (keepL_o c l i (layW all) (layW (all.take sn)) all ckpt sn) (by simp only [keepL_S, keepL_fin, hrun, RT.val, cond_true]; rfl) rfl
    simp only [hg, cond_false] at hrun ⊢
    have hgo : ∀ (A : List Rec) (ck s : Nat) (N S : List Sector) (z : Nat), stepK do_ yes w lost ⟨all, ckpt, sn⟩ = ⟨A, ck, s⟩ → KI ⟨A, ck, s⟩ (i + 1) → N = layW A → S = layW (A.take s) → z = A.length →
        Leaf (some ((X.normal, [(0, D.sl RTy.actS c l), (2, D.bool false), (3, D.ptr 0 []), (4, D.vs 1 z), (5, D.int IntKind.i64 (ck : Int)), (6, D.int IntKind.i64 (s : Int)), (7, D.int IntKind.i64 ((i + 1 : Nat) : Int))]), [some (Obj.var 24 (D.acons (D.sl RTy.sector false N) (D.acons (D.sl RTy.sector false S) D.anil))), some (Obj.vec RTy.recd true A)])) (LedR keepL_S ⟨c, l, i, layW all, layW (all.take sn), all, ckpt, sn⟩) := by
      intro A ck s N S z hs hk hN hS hz
      subst hN hS hz
      rw [hs] at hrun
      exact leafR_go ⟨c, l, i + 1, layW A, layW (A.take s), A, ck, s⟩ ⟨hlt, h2, hw, hk, rfl, rfl⟩ (by simp only [keepL_S]; omega) (by simp only [keepL_S, keepL_fin, hrun, RT.val]; rfl) rfl rfl
    obtain ⟨fd, f1, f2, f3, f4, f5, f6, f7, f8⟩ := hF
    dsimp only at fd f1 f2 f3 f4 f5 f6 f7 f8
    have n0 : ((0 : Int) != 0) = false := rfl
    have hgood : ∀ a b : List Sector, goodL a = true → goodL b = true → (goodL a && goodL b) = true := fun a b p q => by rw [p, q]; rfl
    have stay : ∀ (N S : List Sector) (z : Nat), stepK do_ yes w lost ⟨all, ckpt, sn⟩ = ⟨all, ckpt, sn⟩ → N = layW all → S = layW (all.take sn) → z = all.length → _ := fun N S z e => hgo all ckpt sn N S z e hK.mono
    by_cases d0 : do_ = 0
    · have e0 : (do_ == 0) = true := by simp [d0]
      rw [e0, cond_true]
      have stp : stepK do_ yes w lost ⟨all, ckpt, sn⟩ = (if sn < all.length ∨ roomB ((all.length : Int) + 1) (ckpt : Int) = false ∨ mayB (recK yes w all.length) = false then ⟨all, ckpt, sn⟩ else ⟨all ++ [recK yes w all.length], ckpt, sn⟩) := by
        unfold stepK; rw [if_pos d0]
      have put : ∀ (r : Rec), recK yes w all.length = r → roomB ((all.length : Int) + 1) (ckpt : Int) = true → ¬ sn < all.length → mayB r = true → stepK do_ yes w lost ⟨all, ckpt, sn⟩ = ⟨all ++ [r], ckpt, sn⟩ ∧ KI ⟨all ++ [r], ckpt, sn⟩ (i + 1) ∧
          okPut (layW all) (layW (all.take sn)) (secI r.place) r.place (entL r) = true ∧ pNow (layW all) (layW (all.take sn)) (secI r.place) r.place (entL r) = layW (all ++ [r]) ∧ pSure (layW all) (layW (all.take sn)) (secI r.place) r.place (entL r) = layW (all.take sn) ∧
          KF ⟨all ++ [r], ckpt, sn⟩ (layW (all ++ [r])) (layW (all.take sn)) ∧ (all ++ [r]).take sn = all.take sn ∧ sizeOK (all ++ [r]).length 40 = true := by
        intro r hr q2 q1 q3
        have hp : r.place = (all.length : Int) + 1 := by rw [← hr]; rfl
        have hk' := hK.put hp q3 q1 q2
        obtain ⟨o1, o2, o3⟩ := put_new hK.seq (by show all.length < 1000; omega) hp q3 fd
        have hF' := hk'.facts (by omega)
        have ht : (all ++ [r]).take sn = all.take sn := List.take_append_of_le_length hK.c2
        dsimp only at hF'
        rw [ht] at hF'
        refine ⟨?_, hk', o1, o2, o3, hF', ht, by simp [sizeOK]; omega⟩
        rw [stp, hr, if_neg (by rw [q2, q3]; simp; omega)]
      cases q1 : decide ((sn : Int) < (all.length : Int))
      rotate_left
      · have q1' := of_decide_eq_true q1
        cases yes
        all_goals simp only [cond_true, cond_false]
        all_goals exact stay _ _ _ (by rw [stp, if_pos (.inl (by omega))]) rfl rfl rfl
      have q1' := of_decide_eq_false q1
      cases q2 : roomB ((all.length : Int) + 1) (ckpt : Int)
      · cases yes
        all_goals simp only [cond_true, cond_false, Bool.not_false]
        all_goals exact stay _ _ _ (by rw [stp, if_pos (.inr (.inl q2))]) rfl rfl rfl
      cases yes
      · simp only [cond_true, cond_false, Bool.not_true]
        have hr : recK false w all.length = ⟨(all.length : Int) + 1, false, []⟩ := rfl
        cases q3 : mayB ⟨(all.length : Int) + 1, false, []⟩
        · simp only [cond_true, Bool.not_false]
          exact stay _ _ _ (by rw [stp, if_pos (.inr (.inr (by rw [hr]; exact q3)))]) rfl rfl rfl
        · obtain ⟨p1, p2, o1, o2, o3, ⟨gd, g1, g2, g3, g4, g5, g6, g7, g8⟩, ht, hz⟩ := put _ hr q2 (by omega) q3
          dsimp only at o1 o2 o3 gd g1 g2 g3 g4 g5 g6 g7 g8 hz
          have e1 : all.length + ([⟨(all.length : Int) + 1, false, []⟩] : List Rec).length = (all ++ ([⟨(all.length : Int) + 1, false, []⟩] : List Rec)).length := by simp
          simp only [f1, f2, o1, o2, o3, e1, hbq, hz, g1, g2, g3, g4, g5, g6, g7, g8, tn, n0, Bool.and_self, Bool.not_true, cond_true, cond_false, decide_true]
          exact hgo _ ckpt sn _ _ _ p1 p2 rfl (by rw [ht]) rfl
      · simp only [cond_true, cond_false, Bool.not_true]
        have hr : recK true w all.length = ⟨(all.length : Int) + 1, true, w⟩ := rfl
        cases q3 : mayB ⟨(all.length : Int) + 1, true, w⟩
        · simp only [cond_true, Bool.not_false]
          exact stay _ _ _ (by rw [stp, if_pos (.inr (.inr (by rw [hr]; exact q3)))]) rfl rfl rfl
        · obtain ⟨p1, p2, o1, o2, o3, ⟨gd, g1, g2, g3, g4, g5, g6, g7, g8⟩, ht, hz⟩ := put _ hr q2 (by omega) q3
          dsimp only at o1 o2 o3 gd g1 g2 g3 g4 g5 g6 g7 g8 hz
          have e1 : all.length + ([⟨(all.length : Int) + 1, true, w⟩] : List Rec).length = (all ++ ([⟨(all.length : Int) + 1, true, w⟩] : List Rec)).length := by simp
          simp only [f1, f2, o1, o2, o3, e1, hbq, hz, hxw, g1, g2, g3, g4, g5, g6, g7, g8, tn, n0, Bool.and_self, Bool.not_true, cond_true, cond_false, decide_true]
          exact hgo _ ckpt sn _ _ _ p1 p2 rfl (by rw [ht]) rfl
    have e0 : (do_ == 0) = false := by simp [d0]
    rw [e0, cond_false]
    have nl : (layW all).length = 33 := layW_len _
    have sl : (layW (all.take sn)).length = 33 := layW_len _
    by_cases d1 : do_ = 1
    · have e1 : (do_ == 1) = true := by simp [d1]
      have stp : stepK do_ yes w lost ⟨all, ckpt, sn⟩ = ⟨all, ckpt, all.length⟩ := by unfold stepK; rw [if_neg d0, if_pos d1]
      have hk' := hK.sync
      have hF' := hk'.facts (by omega)
      dsimp only at hF'
      rw [List.take_length] at hF'
      obtain ⟨gd, g1, g2, g3, g4, g5, g6, g7, g8⟩ := hF'
      dsimp only at gd g1 g2 g3 g4 g5 g6 g7 g8
      have r0 : ∀ l : List Sector, List.replicate 0 (⟨0, []⟩ : Sector) ++ l = l := fun l => rfl
      have s1 : sizeOK 33 24 = true := by decide
      simp only [e1, r0, Nat.zero_add, nl, sl, s1, hbq, fd, f1, f2, g1, g2, g3, g4, g5, g6, g7, g8, tn, n0, Bool.and_self, Bool.not_true, cond_true, cond_false, decide_true]
      exact hgo all ckpt all.length _ _ _ stp hk' rfl (by rw [List.take_length]) rfl
    have e1 : (do_ == 1) = false := by simp [d1]
    rw [e1, cond_false]
    by_cases d2 : do_ = 2
    · have e2 : (do_ == 2) = true := by simp [d2]
      have stp : stepK do_ yes w lost ⟨all, ckpt, sn⟩ = ⟨all.take (crK lost ⟨all, ckpt, sn⟩), ckpt, crK lost ⟨all, ckpt, sn⟩⟩ := by unfold stepK; rw [if_neg d0, if_neg d1, if_pos d2]
      obtain ⟨hm, hc, hk', hl⟩ := hK.crash (by omega) lost
      dsimp only at hm hc hl
      generalize crK lost ⟨all, ckpt, sn⟩ = m at stp hm hc hk' hl
      have hc1 := hk'.c1
      have hm3 : m ≤ all.length := by have := hK.c2; dsimp only at this; omega
      have hta : all.take (all.take m).length = all.take m := by rw [hl]
      have htt : (all.take m).take m = all.take m := List.take_of_length_le (by omega)
      have hF' := hk'.facts (by omega)
      dsimp only at hF' hc1
      rw [htt] at hF'
      rw [← hl] at hm
      have hl' : m = (all.take m).length := hl.symm
      generalize all.take m = A at *
      subst hl'
      obtain ⟨gd, g1, g2, g3, g4, g5, g6, g7, g8⟩ := hF'
      dsimp only at gd g1 g2 g3 g4 g5 g6 g7 g8
      have hsum : IntKind.i64.wrap ((ckpt : Int) + ((A.drop ckpt).length : Int)) = (A.length : Int) := by
        rw [List.length_drop, wrap_id (by omega) (by omega)]; omega
      have hAk : lenOK A.length = true := lenOK_of (by omega)
      have hAd : decide ((0 : Int) ≤ (A.length : Int) ∧ (A.length : Int) ≤ (all.length : Int)) = true := decide_eq_true (by omega)
      have fin : Leaf (some ((X.normal, [(0, D.sl RTy.actS c l), (2, D.bool false), (3, D.ptr 0 []), (4, D.vs 1 A.length), (5, D.int IntKind.i64 (ckpt : Int)), (6, D.int IntKind.i64 (A.length : Int)), (7, D.int IntKind.i64 ((i + 1 : Nat) : Int))]), [some (Obj.var 24 (D.acons (D.sl RTy.sector false (layW A)) (D.acons (D.sl RTy.sector false (layW A)) D.anil))), some (Obj.vec RTy.recd true A)])) (LedR keepL_S ⟨c, l, i, layW all, layW (all.take sn), all, ckpt, sn⟩) :=
        hgo A ckpt A.length _ _ _ stp hk' rfl (by rw [htt]) rfl
      cases q : ((A.length : Int) != (all.length : Int))
      · simp only [e2, hc, hbq, fd, f1, f2, g1, g2, g3, g4, g5, g6, g7, g8, hsum, q, hAk, hAd, hta, tn, n0, Bool.and_self, Bool.not_true, cond_true, cond_false, decide_true]
        exact fin
      · have q' : ((A.length : Int) != (sn : Int)) = false := by
          have : ¬ (A.length : Int) = (all.length : Int) := by simpa using q
          simp; omega
        simp only [e2, hc, hbq, fd, f1, f2, g1, g2, g3, g4, g5, g6, g7, g8, hsum, q, q', hAk, hAd, hta, tn, n0, Bool.and_self, Bool.not_true, cond_true, cond_false, decide_true]
        exact fin
    have e2 : (do_ == 2) = false := by simp [d2]
    rw [e2, cond_false]
    by_cases d3 : do_ = 3
    · have e3 : (do_ == 3) = true := by simp [d3]
      have stp : stepK do_ yes w lost ⟨all, ckpt, sn⟩ = ⟨all, sn, sn⟩ := by unfold stepK; rw [if_neg d0, if_neg d1, if_neg d2, if_pos d3]
      have hk' := hK.ck
      have hF' := hk'.facts (by omega)
      dsimp only at hF'
      obtain ⟨gd, g1, g2, g3, g4, g5, g6, g7, g8⟩ := hF'
      dsimp only at gd g1 g2 g3 g4 g5 g6 g7 g8
      simp only [e3, hbq, f1, f2, g3, g4, g5, g6, g7, g8, tn, n0, Bool.and_self, Bool.not_true, cond_true, cond_false, decide_true]
      exact hgo all sn sn _ _ _ stp hk' rfl rfl rfl
    have e3 : (do_ == 3) = false := by simp [d3]
    have stp : stepK do_ yes w lost ⟨all, ckpt, sn⟩ = ⟨all, ckpt, sn⟩ := by unfold stepK; rw [if_neg d0, if_neg d1, if_neg d2, if_neg d3]
    rw [e3, cond_false]
    generalize IntKind.i64.wrap (IntKind.i64.wrap ((all.length : Int) - 1) - Int.tmod (IntKind.i64.wrap (Int.tmod nn 40 + 40)) 40) = k
    have hrest := stay _ _ _ stp rfl rfl rfl
    cases k0 : decide (0 ≤ k)
    · simp only [hbq, f1, f2, f3, f4, f5, f6, f7, f8, tn, n0, Bool.and_self, Bool.not_true, cond_true, cond_false, decide_true]
      exact hrest
    cases k1 : decide (k < (all.length : Int))
    · simp only [hbq, f1, f2, f3, f4, f5, f6, f7, f8, tn, n0, Bool.and_self, Bool.not_true, cond_true, cond_false, decide_true]
      exact hrest
    have k0' := of_decide_eq_true k0
    have k1' := of_decide_eq_true k1
    have k2 : decide (0 ≤ k ∧ k < (all.length : Int)) = true := decide_eq_true ⟨k0', k1'⟩
    have hkn : k.toNat < all.length := by omega
    obtain ⟨o1, o2, o3⟩ := put_old hK.seq (by show all.length ≤ 1000; omega) hkn fd
    have hrw := lenOK_of (Nat.le_trans (may_len (hK.seq k.toNat hkn).2) (by decide : 4 ≤ 9223372036854775807))
    dsimp only at o1 o2 o3 hrw
    simp only [rec0] at o1 o2 o3 hrw
    generalize all.getD k.toNat (⟨0, false, []⟩ : Rec) = r at o1 o2 o3 hrw ⊢
    obtain ⟨rp, ry, rw_⟩ := r
    dsimp only at o1 o2 o3 hrw
    have l33 : lenOK 33 = true := by decide
    simp only [k2, hbq, o1, o2, o3, hrw, nl, sl, l33, f1, f2, f3, f4, f5, f6, f7, f8, tn, n0, Bool.and_self, Bool.not_true, cond_true, cond_false, decide_true]
    exact hrest
  · have hi : i = l.length := by omega
    have c1 : decide ((i : Int) < l.length) = false := by simp; omega
    rw [hlk0, c1]
    have hz : runK (l.drop i) ⟨all, ckpt, sn⟩ = (false, ⟨all, ckpt, sn⟩) := by rw [List.drop_eq_nil_of_le (by omega)]; rfl
    exact leafR_exit (keepL_o c l i (layW all) (layW (all.take sn)) all ckpt sn) (by simp only [keepL_S, keepL_fin, hz, RT.val, cond_false]; rfl) rfl
def keepL_d (env : Env RC) (os : List (Obj RC)) : Option (Bool × keepL_St) := match env, os with
  | [(0, .sl .actS c l), (2, .bool false), (3, .ptr 0 []), (4, .vs 1 x0), (5, .int .i64 x1), (6, .int .i64 x2), (7, .int .i64 x3)], [.var 24 (.acons (.sl .sector false now) (.acons (.sl .sector false sure) .anil)), .vec .recd true all] => staticD (true) (decide (x0 = all.length) && decide (x1 = 0) && decide (x2 = 0) && decide (x3 = 0) && decide (l.length ≤ 200) && l.all (fun x => lenOK x.w.length) && (decide (now = emptyDisk ∧ sure = emptyDisk) && all.isEmpty), ⟨c, l, 0, now, sure, all, 0, 0⟩)
  | _, _ => none
noncomputable def u4_1 := u1_5.addLoop 4 7 (sumV s06 (mvOf [1]) [.slot 3 0, .slot 4 0] [0, 2, 3, 4, 5, 6, 7] (resR keepL_S keepL_d))
theorem u4_1_laws : FLaws Try.prog s06 u4_1 := by
  refine u1_5_laws.addRoundsV (mv := (mvOf [1])) s06_laws (by kernel_rfl) keepL_S 80 [0, 2, 3, 4, 5, 6, 7] [2] [.slot 3 0, .slot 4 0] [0, 2, 3, 4, 5, 6, 7] keepL_d (fun q hI => ?_) ?_
  · obtain ⟨c, l, i, now, sure, all, ckpt, sn⟩ := q
    refine ⟨?_, ?_, keepL_round c l i now sure all ckpt sn hI⟩
    · simp_all [RefsOK, keepL_S, keepL_c, keepL_o, keepL_Inv, D.refs, Obj.refs, rEnc]
    · simp_all [keepL_S, keepL_fin, keepL_o, keepL_Inv, RT.refsOK, RefsOK, D.refs, Obj.refs, rEnc]
  · intro env os b q hd_ hb
    unfold keepL_d at hd_
    split at hd_
    · obtain ⟨hs, hd_⟩ := staticD_some hd_
      cases hd_
      simp only [Bool.and_eq_true, decide_eq_true_eq] at hb
      obtain ⟨⟨⟨⟨⟨⟨rfl, rfl⟩, rfl⟩, rfl⟩, hl⟩, hw⟩, ⟨rfl, rfl⟩, he⟩ := hb
      have he := List.isEmpty_iff.1 he
      subst he
      exact ⟨⟨Nat.zero_le _, hl, List.all_eq_true.1 hw, ⟨fun i hi => by simp at hi, Nat.le_refl _, Nat.le_refl _, Nat.le_refl _, Nat.zero_le _, Nat.zero_le _⟩, rfl, rfl⟩, rfl, rfl⟩
    · cases hd_
noncomputable def keep06_e (c : Bool) (l : List ActS) := evF s06 u4_1 100 4 [.sl (C := RC) .actS c l]
theorem keep06_eq (c : Bool) (l : List ActS) : keep06_e c l = (let Z0 : Nat := List.length l; let Z1 : DO_ := some (D.bool true); bif lenOK Z0 then bif decide ((200 : Int) < (↑Z0 : Int)) then Z1 else bif (decide (Z0 ≤ (200 : Nat)) && List.all l fun (x : ActS) => lenOK (ActS.w x).length) && true then bif Prod.fst (runK (List.drop (0 : Nat) l) (KS.mk [] (0 : Nat) (0 : Nat))) then Z1 else Z1 else none else none) := by kernel_rfl
theorem keep06_ok (c : Bool) (l : List ActS) (h : (lenOK l.length && l.all (fun x => lenOK x.w.length)) = true) : keep06_e c l = some (.bool true) := by
  (rw [keep06_eq]; conv => zeta)
  rw [Bool.and_eq_true] at h
  obtain ⟨h1, h2⟩ := h
  refine cond_of h1 (cond_two (fun _ => rfl) fun e => ?_)
  have hc : (decide (l.length ≤ 200) && l.all fun x => lenOK x.w.length) = true := by
    rw [h2, decide_eq_true (by have := of_decide_eq_false e; omega)]; rfl
  refine cond_of (by rw [hc]; rfl) ?_
  cases (runK (List.drop 0 l) ⟨[], 0, 0⟩).1 <;> rfl
open Go.ChangeShapes Go.WideShapes Go.RowKit
section
variable {C : Cdc}
def good (gA : (t : C.Ty) → C.A t → Prop) : D C → Prop
  | .int k n => k.min ≤ n ∧ n ≤ k.max
  | .str s => s.length ≤ maxLen
  | .acons d ds => good gA d ∧ good gA ds
  | .arr t n l => l.length = n ∧ ∀ x ∈ l, gA t x
  | .sl t _ l => l.length ≤ maxLen ∧ ∀ x ∈ l, gA t x
  | _ => True
def plainT (T : Tab C) : Nat → TypeId → Bool
  | 0, _ => false
  | k + 1, t => match T.ty t with
    | .bool | .int _ | .str => true
    | .struct _ fs => fs.all (plainT T k)
    | .arr _ e _ => plainT T k e
    | .sl e _ => plainT T k e
    | _ => false
structure Dec (T : Tab C) (gA : (t : C.Ty) → C.A t → Prop) : Prop where
  dec : ∀ t d, fit T d (.inl (T.ety t)) = true → d.refs = [] → good gA d → (∃ k u, T.ty u = T.ty (T.ety t) ∧ plainT T k u = true) → ∃ x, T.dec t d = some x ∧ gA t x
variable {P : Program} {T : Tab C} {gA : (t : C.Ty) → C.A t → Prop}
def X0 (W : World) : Cx := ⟨W, fun _ => none, fun _ _ => False⟩
theorem X0_free (W : World) (b o : Nat) : (X0 W).free b o := ⟨fun h => h, fun ⟨_, _, h, _⟩ => by simp [X0] at h⟩
theorem arr_R {X : Cx} (t : C.Ty) (sz : Nat) : ∀ (n : Nat) (cs : List Value), cs.length = n * sz → (∀ i, i < n → ∃ x : C.A t, R T X false (T.enc t x) ((cs.drop (i * sz)).take sz) ∧ gA t x) →
    ∃ l : List (C.A t), R T X false (.arr t n l) cs ∧ l.length = n ∧ ∀ x ∈ l, gA t x
  | 0, cs, hl, _ => by
    obtain rfl : cs = [] := by simpa using hl
    exact ⟨[], .arr0 _, rfl, by simp⟩
  | n + 1, cs, hl, h => by
    obtain ⟨x, hx, gx⟩ := h 0 (by omega)
    obtain ⟨l, hr, hn, gl⟩ := arr_R t sz n (cs.drop sz) (by rw [List.length_drop, hl, Nat.succ_mul]; omega) fun i hi => by
      obtain ⟨y, hy, gy⟩ := h (i + 1) (by omega)
      refine ⟨y, ?_, gy⟩
      rw [List.drop_drop]
      rw [show sz + i * sz = (i + 1) * sz by rw [Nat.succ_mul]; omega]
      exact hy
    refine ⟨x :: l, ?_, by simp [hn], by simpa using ⟨gx, gl⟩⟩
    have := R.arrS hx hr
    simpa using this
theorem sl_R {W : World} (t : C.Ty) (b sz : Nat) : ∀ (n off : Nat), (∀ i, i < n → ∃ (x : C.A t) (ci : List Value), R T (X0 W) false (T.enc t x) ci ∧ ci.length = sz ∧ (∀ j, j < sz → W.cell? ⟨b, off + i * sz + j, none⟩ = ci[j]?) ∧ gA t x) →
    ∃ (l : List (C.A t)) (cs : List Value), R T (X0 W) false (.arr t n l) cs ∧ l.length = n ∧ (X0 W).at b off cs ∧ ∀ x ∈ l, gA t x
  | 0, off, _ => ⟨[], [], .arr0 _, rfl, fun j v h => by simp at h, by simp⟩
  | n + 1, off, h => by
    obtain ⟨x, ci, hx, hlen, hc, gx⟩ := h 0 (by omega)
    obtain ⟨l, cs, hr, hn, hat, gl⟩ := sl_R t b sz n (off + sz) fun i hi => by
      obtain ⟨y, c2, hy, h2, h3, gy⟩ := h (i + 1) (by omega)
      refine ⟨y, c2, hy, h2, fun j hj => ?_, gy⟩
      have := h3 j hj
      rwa [show off + (i + 1) * sz + j = off + sz + i * sz + j by rw [Nat.succ_mul]; omega] at this
    refine ⟨x :: l, ci ++ cs, .arrS hx hr, by simp [hn], fun j v hj => ⟨?_, X0_free _ _ _⟩, by simpa using ⟨gx, gl⟩⟩
    by_cases hlt : j < ci.length
    · rw [List.getElem?_append_left hlt] at hj
      have := hc j (by omega)
      simp only [Nat.zero_mul, Nat.add_zero] at this
      exact this.trans hj
    · rw [List.getElem?_append_right (by omega)] at hj
      have := (hat _ _ hj).1
      rwa [show off + sz + (j - ci.length) = off + j by omega] at this
theorem st_R {X : Cx} : ∀ (fs : List TypeId) (cs : List Value), (∀ i f, fs[i]? = some f → ∃ d, R T X false d ((cs.drop (sumSz T (fs.take i))).take (T.size f)) ∧ fit T d (.inl f) = true ∧ good gA d ∧ d.refs = []) →
    ∃ d, R T X false d (cs.take (sumSz T fs)) ∧ fit T d (.inr fs) = true ∧ good gA d ∧ d.refs = [] ∧ d.isRow = true ∧ (∀ t a, T.ty t = .struct a fs → fit T d (.inl t) = true)
  | [], cs, _ => ⟨.anil, by simpa [sumSz] using R.anil, rfl, trivial, rfl, rfl, fun t a ht => by simp [fit, ht]⟩
  | f :: fs, cs, h => by
    obtain ⟨d, hd, fd, gd, rd⟩ := h 0 f rfl
    obtain ⟨ds, hr, fr, gr, rr, _, _⟩ := st_R fs (cs.drop (T.size f)) fun i g hg => by
      obtain ⟨e, he, h2⟩ := h (i + 1) g (by simpa using hg)
      refine ⟨e, ?_, h2⟩
      simpa [sumSz, List.drop_drop] using he
    refine ⟨.acons d ds, ?_, by simp [fit, fd, fr], ⟨gd, gr⟩, by simp [D.refs, rd, rr], rfl, fun t a ht => by simp [fit, ht, fd, fr]⟩
    have := R.acons hd hr
    simpa [sumSz, List.take_add] using this
theorem cellsOf_info {t : TypeId} {i : TypeInfo} (h : P.info? t = some i) : P.cellsOf t = i.size := by
  simp [Program.cellsOf, h]
theorem trod_R (K : PLaws P T) (hd : Dec T gA) {H : Type} {enc : TypeId × Value → H} {W : World} : ∀ (k : Nat) (t : TypeId), plainT T k t = true → ∀ (fuel : Nat) (cs : List Value) (x : DataW H × List MemPlace), DataW.trod enc P W 0 (fun _ => true) true fuel t cs = some x →
    ∃ d, R T (X0 W) false d cs ∧ fit T d (.inl t) = true ∧ good gA d ∧ d.refs = [] := by
  intro k
  induction k with
  | zero => intro t h; simp [plainT] at h
  | succ k ih =>
    intro t hp fuel cs x h
    unfold plainT at hp
    split at hp
    · rename_i ht
      obtain ⟨b, rfl, _⟩ := DataW.trod_bool (K.uBool t ht) h
      exact ⟨.bool b, .bool b, by simp [fit, ht], trivial, rfl⟩
    · rename_i kd ht
      obtain ⟨n, rfl, _, hw⟩ := DataW.trod_int (K.uInt t kd ht) h
      have hw' : kd.min ≤ n ∧ n ≤ kd.max := by simpa [Lit.wf] using hw
      exact ⟨.int kd n, .int hw', by simp [fit, ht], hw', rfl⟩
    · rename_i ht
      obtain ⟨s, rfl, _, hs⟩ := DataW.trod_string (K.uStr t ht) h
      exact ⟨.str s.data.toList, .str s.data.toList, by simp [fit, ht], by simpa [good] using hs, rfl⟩
    · rename_i isA fs ht
      cases isA with
      | true =>
        obtain ⟨el, hu, hfs, hpos, inf, hi1, hi2⟩ := K.uRow t fs ht
        obtain ⟨xs, m, _, _, hlen, hxs, hel⟩ := DataW.trod_array hu h
        have hget : ∀ i f, fs[i]? = some f → f = el ∧ i < fs.length := fun i f hf => by
          have := (List.getElem?_eq_some_iff.1 hf).1
          rw [hfs, List.getElem?_replicate] at hf
          simp at hf
          exact ⟨hf.2.symm, this⟩
        have hsum : ∀ i, i ≤ fs.length → sumSz T (fs.take i) = i * T.size el := by
          intro i hi
          rw [hfs, List.take_replicate, Nat.min_eq_left hi]
          clear hi
          induction i with
          | zero => simp [sumSz]
          | succ i ih => simp only [List.replicate_succ, sumSz, ih]; rw [Nat.succ_mul]; omega
        obtain ⟨d, hr, _, gd, rd, _, hfit⟩ := st_R (T := T) (X := X0 W) (gA := gA) fs cs fun i f hf => by
          obtain ⟨rfl, hi⟩ := hget i f hf
          have := hel i hi
          rw [cellsOf_info hi1, hi2] at this
          have hx : xs[i]? = some xs[i] := by simp [hxs, hi]
          rw [hx] at this
          obtain ⟨d, h1, h2, h3, h4⟩ := ih f (List.all_eq_true.1 hp _ (List.mem_of_getElem? hf)) m _ _ this
          refine ⟨d, ?_, h2, h3, h4⟩
          rw [hsum i (by omega)]; exact h1
        obtain ⟨inf, hi1, hi2⟩ := K.info t d (hfit t _ ht)
        rw [cellsOf_info hi1, hi2, K.base.szStruct t _ fs ht] at hlen
        rw [← hlen, List.take_length] at hr
        exact ⟨d, hr, hfit t _ ht, gd, rd⟩
      | false =>
        obtain ⟨fields, hu, hfs, hoff, _⟩ := K.uStruct t fs ht
        obtain ⟨xs, n, _, _, hlen, hxs, hel⟩ := DataW.trod_struct hu h
        obtain ⟨d, hr, _, gd, rd, _, hfit⟩ := st_R (T := T) (X := X0 W) (gA := gA) fs cs fun i f hf => by
          rw [← hfs, List.getElem?_map] at hf
          cases hfi : fields.toList[i]? with
          | none => simp [hfi] at hf
          | some fld =>
            simp only [hfi, Option.map_some, Option.some.injEq] at hf
            have hfa : fields[i]? = some fld := by rw [← Array.getElem?_toList]; exact hfi
            have := hel i fld hfa
            have hx : ∃ y, xs[i]? = some y := by
              have : i < fields.size := (Array.getElem?_eq_some_iff.1 hfa).1
              exact ⟨xs[i], by simp [hxs, this]⟩
            obtain ⟨y, hy⟩ := hx
            rw [hy] at this
            subst hf
            have hmem : fld.type ∈ fs := by rw [← hfs]; exact List.mem_map.2 ⟨fld, by exact List.mem_of_getElem? hfi, rfl⟩
            obtain ⟨d, h1, h2, h3, h4⟩ := ih fld.type (List.all_eq_true.1 hp _ hmem) n _ _ this
            obtain ⟨inf, hi1, hi2, _⟩ := K.uField t fs fld.type ht hmem
            refine ⟨d, ?_, h2, h3, h4⟩
            rw [hoff i fld hfa, cellsOf_info hi1, hi2] at h1
            exact h1
        obtain ⟨inf, hi1, hi2⟩ := K.info t d (hfit t _ ht)
        rw [cellsOf_info hi1, hi2, K.base.szStruct t _ fs ht] at hlen
        rw [← hlen, List.take_length] at hr
        exact ⟨d, hr, hfit t _ ht, gd, rd⟩
    · rename_i n e ct ht
      obtain ⟨hu, _⟩ := K.uArr t n e ct ht
      obtain ⟨xs, m, _, _, hlen, hxs, hel⟩ := DataW.trod_array hu h
      obtain ⟨inf, z, hi1, hi2, _⟩ := K.uElem t e ct (.inl ⟨n, ht⟩)
      obtain ⟨it, hj1, hj2⟩ := K.info t (.arr ct n []) (by simp [fit, ht])
      obtain ⟨hs1, hs2, hs3⟩ := K.base.szArr t n e ct ht
      rw [cellsOf_info hj1, hj2, hs1] at hlen
      obtain ⟨l, hr, hn, gl⟩ := arr_R (T := T) (X := X0 W) (gA := gA) ct (T.size e) n cs hlen fun i hi => by
        have := hel i hi
        rw [cellsOf_info hi1, hi2] at this
        have hx : xs[i]? = some xs[i] := by simp [hxs, hi]
        rw [hx] at this
        obtain ⟨d, h1, h2, h3, h4⟩ := ih e hp m _ _ this
        obtain ⟨x, h5, h6⟩ := hd.dec ct d (by rw [← fit_congr hs2]; exact h2) h4 h3 ⟨k, e, hs2, hp⟩
        exact ⟨x, K.base.decR _ _ _ _ _ h5 h1, h6⟩
      exact ⟨.arr ct n l, hr, by simp [fit, ht], ⟨hn, gl⟩, rfl⟩
    · rename_i e ct ht
      have hu := K.uSl t e ct ht
      obtain ⟨inf, z, hi1, hi2, _, _, hpos, _⟩ := K.uElem t e ct (.inr ht)
      obtain ⟨hs1, hs2, hs3⟩ := K.base.szSl t e ct ht
      rcases DataW.trod_slice hu h with ⟨rfl, _⟩ | ⟨a, len, cap, elems, rest, m, _, rfl, _, _, hlc, hcm, hel, he, hrest, _⟩
      · exact ⟨.sl ct false [], .sl0 _ _ _, by simp [fit, ht], by simp [good], rfl⟩
      · by_cases hc0 : cap = 0
        · subst hc0
          obtain rfl : len = 0 := by omega
          exact ⟨.sl ct false [], .sl0 _ _ _, by simp [fit, ht], by simp [good], rfl⟩
        · have hspot : a.spot = none := by
            have key : ∀ i y, i = 0 → (W.cells? 0 (a.add (i * P.cellsOf e)) (P.cellsOf e)).bind (DataW.trod enc P W 0 (fun _ => true) true m e) = some y → a.spot = none := by
              intro i y hi0 hy
              subst hi0
              rw [cellsOf_info hi1, hi2] at hy
              cases hcs : W.cells? 0 (a.add (0 * T.size e)) (T.size e) with
              | none => rw [hcs] at hy; cases hy
              | some ci =>
                obtain ⟨_, h2, h3⟩ := World.cells?_some hcs
                have h4 := h3 0 hpos
                have h5 : ci[0]? = some ci[0] := by simp
                rw [h5] at h4
                have := World.cell?_spot h4
                simpa [Addr.add] using this
            by_cases hl0 : 0 < len
            · have := he 0 hl0
              have hx : elems[0]? = some elems[0] := by simp
              exact key 0 _ rfl (this.trans hx)
            · have hr2 := hrest rfl
              have := hr2.2 0 (by omega)
              have h0 : 0 < rest.length := by omega
              have hx : rest[0]? = some rest[0] := by simp
              exact key _ _ (by omega) (this.trans hx)
          obtain ⟨b, off, sp⟩ := a
          simp only at hspot
          subst hspot
          obtain ⟨l, cs, hr, hn, hat, gl⟩ := sl_R (T := T) (W := W) (gA := gA) ct b (T.size e) len off fun i hi => by
            have := he i hi
            have hx : elems[i]? = some elems[i] := by simp [hel, hi]
            rw [hx, cellsOf_info hi1, hi2] at this
            cases hcs : W.cells? 0 ((⟨b, off, none⟩ : Addr).add (i * T.size e)) (T.size e) with
            | none => simp [hcs] at this
            | some ci =>
              simp only [hcs, Option.bind_some] at this
              obtain ⟨_, h2, h3⟩ := World.cells?_some hcs
              obtain ⟨d, k1, k2, k3, k4⟩ := ih e hp m _ _ this
              obtain ⟨x, k5, k6⟩ := hd.dec ct d (by rw [← fit_congr hs2]; exact k2) k4 k3 ⟨k, e, hs2, hp⟩
              refine ⟨x, ci, K.base.decR _ _ _ _ _ k5 k1, h2, fun j hj => ?_, k6⟩
              have := h3 j hj
              rwa [add_plain, add_plain] at this
          subst hn
          exact ⟨.sl ct false l, .sl hat hr hlc (by simp), by simp [fit, ht], ⟨by omega, gl⟩, rfl⟩
    · cases hp
theorem okWide_row (K : PLaws P T) {W : World} {r : Reach} {base : Nat} {t : TypeId} {v : Value} {d : D C} (hv : Value.okWide P W r base t v) (hp : ∃ k, plainT T k t = true) (hf : fit T d (.inl t) = true) (hr : R T (X0 W) false d v.cells.toList) (hrf : d.refs = []) : RV T (X0 W) d v := by
  obtain ⟨k, hp⟩ := hp
  cases k with
  | zero => simp [plainT] at hp
  | succ k =>
    unfold plainT at hp
    split at hp
    · rename_i ht
      obtain ⟨b, rfl⟩ := okWide_bool (K.uBool t ht) hv
      refine .inr ⟨?_, by simpa [Value.cells] using hr⟩
      cases d <;> simp [fit, ht] at hf <;> rfl
    · rename_i kd ht
      obtain ⟨b, rfl⟩ := okWide_int (K.uInt t kd ht) hv
      refine .inr ⟨?_, by simpa [Value.cells] using hr⟩
      cases d <;> simp [fit, ht] at hf <;> rfl
    · rename_i ht
      obtain ⟨b, rfl⟩ := okWide_string (K.uStr t ht) hv
      refine .inr ⟨?_, by simpa [Value.cells] using hr⟩
      cases d <;> simp [fit, ht] at hf <;> rfl
    · rename_i isA fs ht
      have : ∃ cs, v = .agg cs := by
        cases isA with
        | false =>
          obtain ⟨fields, hu, _⟩ := K.uStruct t fs ht
          obtain ⟨cs, rfl, _⟩ := okWide_struct hu hv
          exact ⟨cs, rfl⟩
        | true =>
          obtain ⟨el, hu, _⟩ := K.uRow t fs ht
          simp only [Value.okWide, hu] at hv
          obtain ⟨cs, rfl, _⟩ := hv
          exact ⟨cs, rfl⟩
      obtain ⟨cs, rfl⟩ := this
      refine .inl ⟨?_, cs.toList, by simpa [Value.cells] using hr, rfl⟩
      cases d <;> simp [fit, ht] at hf <;> rfl
    · rename_i n e ct ht
      obtain ⟨hu, _⟩ := K.uArr t n e ct ht
      have : ∃ cs, v = .agg cs := by
        simp only [Value.okWide, hu] at hv
        obtain ⟨cs, rfl, _⟩ := hv
        exact ⟨cs, rfl⟩
      obtain ⟨cs, rfl⟩ := this
      refine .inl ⟨?_, cs.toList, by simpa [Value.cells] using hr, rfl⟩
      cases d <;> simp [fit, ht] at hf <;> rfl
    · rename_i e ct ht
      obtain ⟨a, len, cap, rfl⟩ := okWide_slice (K.uSl t e ct ht) hv
      refine .inr ⟨?_, by simpa [Value.cells] using hr⟩
      cases d <;> simp [fit, ht] at hf <;> rfl
    · cases hp
inductive Fits (T : Tab C) (gA : (t : C.Ty) → C.A t → Prop) : List TypeId → List (D C) → Prop
  | nil : Fits T gA [] []
  | cons {t : TypeId} {ts : List TypeId} {d : D C} {ds : List (D C)} (hf : fit T d (.inl t) = true) (hg : good gA d) (hr : d.refs = []) (h : Fits T gA ts ds) : Fits T gA (t :: ts) (d :: ds)
theorem Fits.refs {ts : List TypeId} {ds : List (D C)} (h : Fits T gA ts ds) : ∀ a ∈ ds, D.refs a = [] := by
  induction h with
  | nil => simp
  | cons _ _ hr _ ih => simpa using ⟨hr, ih⟩
theorem trodAll_R (K : PLaws P T) (hd : Dec T gA) {H : Type} {enc : TypeId × Value → H} {W : World} {r : Reach} {base : Nat} : ∀ (ts : List TypeId) (vs : List Value) (ds : List (DataW H)) (ps : List MemPlace), (∀ t ∈ ts, ∃ k, plainT T k t = true) →
    (∀ (j : Nat) t v, ts[j]? = some t → vs[j]? = some v → Value.okWide P W r base t v) → DataW.TrodAll enc P W 0 (fun _ => true) true ts vs ds ps → ∃ al, Fits T gA ts al ∧ RVs T (X0 W) al vs
  | [], vs, ds, ps, _, _, h => by
    obtain ⟨rfl, rfl, rfl⟩ := trodAll_nil h
    exact ⟨[], .nil, .nil⟩
  | t :: ts, vs, ds, ps, hp, hv, h => by
    obtain ⟨v, vs1, d, ds1, p, q, rfl, rfl, rfl, ⟨fuel, h1⟩, h2⟩ := trodAll_cons h
    obtain ⟨al, f1, r1⟩ := trodAll_R K hd ts vs1 ds1 q (fun t ht => hp t (by simp [ht])) (fun j t v a b => hv (j + 1) t v (by simpa using a) (by simpa using b)) h2
    obtain ⟨k, hk⟩ := hp t (by simp)
    obtain ⟨a, k1, k2, k3, k4⟩ := trod_R K hd k t hk fuel _ _ h1
    exact ⟨a :: al, .cons k2 k3 k4 f1, .cons (okWide_row K (hv 0 t v rfl rfl) ⟨k, hk⟩ k2 k1 k4) r1⟩
theorem stays (hl : laidOutB P = true) {H : Type} {enc : TypeId × Value → H} {W W' : World} {sp : Nat → Bool} : ∀ (ts : List TypeId) (vs : List Value) (ds : List (DataW H)) (ps : List MemPlace), (∀ t ∈ ts, P.readableRec t = true ∧ t < P.types.size) →
    DataW.TrodAll enc P W 0 (fun _ => true) true ts vs ds ps → (∀ p ∈ ps, W.sameAt W' p) → (∀ p ∈ ps, sp p.block = true) → DataW.TrodAll enc P W' 0 sp true ts vs ds ps
  | [], vs, ds, ps, _, h, _, _ => by
    obtain ⟨rfl, rfl, rfl⟩ := trodAll_nil h
    exact trodAll_mk0
  | t :: ts, vs, ds, ps, ht, h, h3, h4 => by
    obtain ⟨v, vs1, d, ds1, p, q, rfl, rfl, rfl, h1, h2⟩ := trodAll_cons h
    exact trodAll_cons_mk (WideElems.Trod_stays hl (ht t (by simp)).1 (ht t (by simp)).2 h1 (fun x hx => h3 x (by simp [hx])) (fun x hx => h4 x (by simp [hx])))
      (stays hl ts vs1 ds1 q (fun t h => ht t (by simp [h])) h2 (fun x hx => h3 x (by simp [hx])) (fun x hx => h4 x (by simp [hx])))
theorem post_same_old {H : Type} {enc : TypeId × Value → H} {f : Func} {s : ChangeSpec} {apart fresh handsOn again : Bool} {W W' : World} {args : Array Value} {v : Value} {ds gs : List (DataW H)} {before pa pv : List MemPlace}
    (hW : DataW.Whole enc P f.params.toList s.vars apart W args.toList ds gs before)
    (hres : ∀ (b : Nat) (sp : Nat → Bool) (hd : Bool), DataW.TrodAll enc P W' b sp hd f.resultTypes.toList (v.resultList f.resultTypes.size) (s.fn H (ds ++ gs)).results [])
    (hargs : ∀ sp : Nat → Bool, (∀ p ∈ before, sp p.block = true) → DataW.TrodAll enc P W' 0 sp true f.params.toList args.toList (s.fn H (ds ++ gs)).args pa)
    (hvars : ∀ sp : Nat → Bool, (∀ p ∈ before, sp p.block = true) → DataW.TrodVars enc P W' sp s.vars (s.fn H (ds ++ gs)).vars pv)
    (hps : before = pa ++ pv) (hk : W.keptBut W' (· ∈ before)) (hfz : ∀ a : Addr, a.block < W.heap.size → W'.frozen? a = W.frozen? a)
    (hok : ∀ (j : Nat) (t : TypeId) (r : Value), f.resultTypes[j]? = some t → (v.resultList f.resultTypes.size)[j]? = some r → Value.okWide P W' .any 0 t r) :
    s.post enc P f apart fresh handsOn again W args v W' := by
  have hold : ∀ p ∈ before, (fun b => decide (b < W.heap.size)) p.block = true := fun p hp => by simpa using hW.lt p hp
  refine ⟨ds, gs, before, [], pa, pv, hW, hres _ _ _, hargs _ hold, hvars _ hold, World.keptBut_mono (fun p hp => ⟨hp, ?_⟩) hk, fun _ => ?_⟩
  · rw [hps, List.mem_append] at hp
    exact Or.inr hp
  · have hlt := hW.lt
    obtain ⟨_, _, _, _, _, hz, hn⟩ := hW
    refine ⟨hok, _, _, ([] ++ pa) ++ pv, ⟨[] ++ pa, pv, trodAll_append (hargs _ (fun _ _ => rfl)) (hres _ _ _), hvars _ (fun _ _ => rfl), rfl, ?_, ?_⟩, ?_⟩
    · intro b off hp
      have hb : MemPlace.cell b off ∈ before := by rw [hps]; simpa using hp
      rw [hfz _ (by simpa [MemPlace.block] using hlt _ hb)]
      exact hz b off hb
    · intro ha
      have := hn ha
      rw [hps] at this
      simpa using this
    · intro p hp _
      rw [hps]
      simpa using hp
theorem contract_pre (K : PLaws P T) {Φ : Fns C} (F : FLaws P T Φ) (hd : Dec T gA) (hl : laidOutB P = true) {f : FuncId} {fn : Func} {s : ChangeSpec} {tb : TypeId} {m : Nat}
    (hres : fn.resultTypes = #[tb]) (hb : P.underlying tb = some .bool) (hvars : s.vars = [])
    (hts : fn.params.toList.all (fun t => plainT T m t && P.readableRec t && Nat.blt t P.types.size) = true)
    (hspec : ∀ (H : Type) (ds : List (DataW H)), ds.length = fn.params.toList.length → s.fn H ds = { results := [.lit (.bool true)], args := ds })
    (hev : ∀ ds : List (D C), Fits T gA fn.params.toList ds → ∃ n, evF T Φ n f ds = some (.bool true))
    (H : Type) (enc : TypeId × Value → H) (W : World) (base : Nat) (args : Array Value) (ds gs : List (DataW H)) (before : List MemPlace)
    (hval : ∀ (j : Nat) t v, fn.params[j]? = some t → args[j]? = some v → Value.okWide P W .any base t v)
    (hW : DataW.Whole enc P fn.params.toList s.vars false W args.toList ds gs before) (hpre : ∀ p ∈ T.pre, ∃ t f, W.heap[p.1]? = some (.cells p.2 t f)) :
    Calls P f args W fun e W' => ∃ v, e = .returned v ∧ s.post enc P fn false true false false W args v W' := by
  have hts' : ∀ t ∈ fn.params.toList, plainT T m t = true ∧ P.readableRec t = true ∧ t < P.types.size := by
    intro t ht
    have := List.all_eq_true.1 hts t ht
    simp only [Bool.and_eq_true] at this
    exact ⟨this.1.1, this.1.2, by simpa [Nat.blt_eq] using this.2⟩
  have hW' := hW
  obtain ⟨p, q, hA, hV, rfl, hfz, hnd⟩ := hW
  rw [hvars] at hV
  obtain ⟨rfl, rfl⟩ := trodVars_none hV
  obtain ⟨al, hf, hr⟩ := trodAll_R (gA := gA) K hd (r := .any) (base := base) _ _ _ _ (fun t ht => ⟨m, (hts' t ht).1⟩) (fun j t v a b => hval j t v (by rw [← Array.getElem?_toList]; exact a) (by rw [← Array.getElem?_toList]; exact b)) hA
  obtain ⟨n, hn⟩ := hev al hf
  have hc := (evF_calls K F hn hf.refs W (fun _ _ => False) (fun _ _ h => h.elim) hpre (vs := args.toList) hr).2
  have ea : (⟨args.toList⟩ : Array Value) = args := by simp
  rw [ea] at hc
  refine hc.mono fun e W' hp => ?_
  obtain ⟨v, ρ, rfl, rv, a1, a2, a3, a4, a5, a6⟩ := hp
  obtain rfl := rv.bool
  have hlen : ds.length = fn.params.toList.length := by
    have : ∀ (ts : List TypeId) (vs : List Value) (ds : List (DataW H)) (ps : List MemPlace), DataW.TrodAll enc P W 0 (fun _ => true) true ts vs ds ps → ds.length = ts.length := by
      intro ts
      induction ts with
      | nil => intro vs ds ps h; obtain ⟨rfl, rfl, rfl⟩ := trodAll_nil h; rfl
      | cons t ts ih =>
        intro vs ds ps h
        obtain ⟨v, vs1, d, ds1, p, q, rfl, rfl, rfl, h1, h2⟩ := trodAll_cons h
        simp [ih _ _ _ h2]
    exact this _ _ _ _ hA
  have hs := hspec H ds hlen
  have hbel : Below W.heap.size W W' := ⟨a3, a4, a5, a1, a2⟩
  have hlt : ∀ x ∈ p, x.block < W.heap.size := fun x hx => by simpa using hW'.lt x (by simpa using hx)
  refine ⟨_, rfl, post_same_old (pa := p) (pv := []) hW' ?_ ?_ ?_ (by simp) (hbel.frame _) a6 ?_⟩
  · intro b sp hd
    simp only [List.append_nil]
    rw [hs, hres]
    exact trodAll_cons_mk (p := []) (p' := []) (shut_bool hb _) trodAll_mk0
  · intro sp hsp
    simp only [List.append_nil] at hsp ⊢
    rw [hs]
    exact stays hl _ _ _ _ (fun t ht => (hts' t ht).2) hA (fun x hx => hbel.same (hlt x hx)) hsp
  · intro sp hsp
    simp only [List.append_nil]
    rw [hs, hvars]
    rfl
  · exact ok_one hres rfl (okWide_bool_mk hb _)
theorem contract_of (K : PLaws P T) {Φ : Fns C} (F : FLaws P T Φ) (hd : Dec T gA) (hl : laidOutB P = true) {f : FuncId} {fn : Func} {s : ChangeSpec} {tb : TypeId} {m : Nat}
    (hres : fn.resultTypes = #[tb]) (hb : P.underlying tb = some .bool) (hvars : s.vars = [])
    (hts : fn.params.toList.all (fun t => plainT T m t && P.readableRec t && Nat.blt t P.types.size) = true)
    (hspec : ∀ (H : Type) (ds : List (DataW H)), ds.length = fn.params.toList.length → s.fn H ds = { results := [.lit (.bool true)], args := ds })
    (hev : ∀ ds : List (D C), Fits T gA fn.params.toList ds → ∃ n, evF T Φ n f ds = some (.bool true))
    (H : Type) (enc : TypeId × Value → H) (W : World) (base : Nat) (args : Array Value) (ds gs : List (DataW H)) (before : List MemPlace)
    (hval : ∀ (j : Nat) t v, fn.params[j]? = some t → args[j]? = some v → Value.okWide P W .any base t v)
    (hW : DataW.Whole enc P fn.params.toList s.vars false W args.toList ds gs before) (h0 : T.pre = [] := by rfl) :
    Calls P f args W fun e W' => ∃ v, e = .returned v ∧ s.post enc P fn false true false false W args v W' :=
  contract_pre K F hd hl hres hb hvars hts hspec hev H enc W base args ds gs before hval hW (by rw [h0]; intro p hp; cases hp)
end
def i64 (n : Int) : Prop := -9223372036854775808 ≤ n ∧ n ≤ 9223372036854775807
def inK (k : IntKind) (n : Int) : Prop := k.min ≤ n ∧ n ≤ k.max
theorem i64_of {n : Int} (h : IntKind.i64.min ≤ n ∧ n ≤ IntKind.i64.max) : i64 n := by
  simpa [i64, IntKind.min, IntKind.max, IntKind.signed, IntKind.bits] using h
section
variable {C : Cdc} {T : Tab C} {d : D C} {u : TypeId}
theorem fit_int {k : IntKind} (hu : T.ty u = .int k) (hf : fit T d (.inl u) = true) : ∃ n, d = .int k n := by
  cases d <;> simp [fit, hu] at hf
  subst hf; exact ⟨_, rfl⟩
theorem fit_bool (hu : T.ty u = .bool) (hf : fit T d (.inl u) = true) : ∃ n, d = .bool n := by
  cases d <;> simp [fit, hu] at hf
  exact ⟨_, rfl⟩
theorem fit_str (hu : T.ty u = .str) (hf : fit T d (.inl u) = true) : ∃ n, d = .str n := by
  cases d <;> simp [fit, hu] at hf
  exact ⟨_, rfl⟩
theorem fit_sl {e : TypeId} {t : C.Ty} (hu : T.ty u = .sl e t) (hf : fit T d (.inl u) = true) (hr : d.refs = []) : ∃ c l, d = .sl t c l := by
  cases d <;> simp [fit, hu] at hf
  · subst hf; exact ⟨_, _, rfl⟩
  · simp [D.refs] at hr
  · simp [D.refs] at hr
theorem fit_st {a : Bool} {f : TypeId} {fs : List TypeId} (hu : T.ty u = .struct a (f :: fs)) (hf : fit T d (.inl u) = true) : ∃ x y, d = .acons x y ∧ fit T x (.inl f) = true ∧ fit T y (.inr fs) = true := by
  cases d <;> simp [fit, hu] at hf
  exact ⟨_, _, rfl, hf.1, hf.2⟩
theorem fit_more {f : TypeId} {fs : List TypeId} (hf : fit T d (.inr (f :: fs)) = true) : ∃ a b, d = .acons a b ∧ fit T a (.inl f) = true ∧ fit T b (.inr fs) = true := by
  cases d <;> simp [fit] at hf
  exact ⟨_, _, rfl, hf.1, hf.2⟩
theorem fit_end (hf : fit T d (.inr []) = true) : d = .anil := by
  cases d <;> simp [fit] at hf
  rfl
end
open Go.Proofs Go.ChangeShapes Go.WideShapes Go.ChangeAt Go.RowKit
def goodSector (x : Sector) : Prop := i64 (x.n) ∧ (x.b).length ≤ maxLen
def goodWrite (x : Write) : Prop := i64 (x.key) ∧ i64 (x.value)
def goodRec (x : Rec) : Prop := i64 (x.place) ∧ True ∧ ((x.writes).length ≤ maxLen ∧ ∀ y ∈ (x.writes), goodWrite (y))
def goodActS (x : ActS) : Prop := i64 (x.do_) ∧ True ∧ ((x.w).length ≤ maxLen ∧ ∀ y ∈ (x.w), goodWrite (y)) ∧ inK .u64 (x.lost) ∧ i64 (x.n)
def rGood : (t : RTy) → RA t → Prop
  | .actS => fun (x : ActS) => goodActS (x)
  | .l_u8 => fun (x : List (UInt8)) => ((x).length ≤ maxLen ∧ ∀ y ∈ (x), True)
  | .recd => fun (x : Rec) => goodRec (x)
  | .sector => fun (x : Sector) => goodSector (x)
  | .u8 => fun (x : UInt8) => True
  | .write => fun (x : Write) => goodWrite (x)
theorem ty58 : s06.ty 58 = .struct false [3, 9] := by kernel_rfl
theorem ty3 : s06.ty 3 = .int .i64 := by kernel_rfl
theorem ty9 : s06.ty 9 = .str := by kernel_rfl
theorem asSector {d : D RC} (hf : fit s06 d (.inl 58) = true) (hg : good rGood d) (hr : d.refs = []) : ∃ x : Sector, d = eSector x ∧ goodSector x := by
  obtain ⟨d0, r0, rfl, f0, hf⟩ := fit_st ty58 hf
  obtain ⟨d1, r1, rfl, f1, hf⟩ := fit_more hf
  obtain rfl := fit_end hf
  simp only [D.refs, List.append_eq_nil_iff] at hr
  obtain ⟨g0, g1, _⟩ := hg
  obtain ⟨q0, q1, _⟩ := hr
  obtain ⟨n0, rfl⟩ := fit_int ty3 f0
  obtain ⟨n1, rfl⟩ := fit_str ty9 f1
  exact ⟨⟨n0, n1⟩, rfl, i64_of g0, g1⟩
theorem dSector_e (x : Sector) (hx : goodSector x) : dSector (eSector x) = some x := by
  simp only [goodSector] at hx
  simp [dSector, eSector, D.asList, asArrN, hx]
theorem ty60 : s06.ty 60 = .struct false [3, 3] := by kernel_rfl
theorem asWrite {d : D RC} (hf : fit s06 d (.inl 60) = true) (hg : good rGood d) (hr : d.refs = []) : ∃ x : Write, d = eWrite x ∧ goodWrite x := by
  obtain ⟨d0, r0, rfl, f0, hf⟩ := fit_st ty60 hf
  obtain ⟨d1, r1, rfl, f1, hf⟩ := fit_more hf
  obtain rfl := fit_end hf
  simp only [D.refs, List.append_eq_nil_iff] at hr
  obtain ⟨g0, g1, _⟩ := hg
  obtain ⟨q0, q1, _⟩ := hr
  obtain ⟨n0, rfl⟩ := fit_int ty3 f0
  obtain ⟨n1, rfl⟩ := fit_int ty3 f1
  exact ⟨⟨n0, n1⟩, rfl, i64_of g0, i64_of g1⟩
theorem dWrite_e (x : Write) (hx : goodWrite x) : dWrite (eWrite x) = some x := by
  simp only [goodWrite] at hx
  simp [dWrite, eWrite, D.asList, asArrN, hx]
theorem ty27 : s06.ty 27 = .struct false [3, 4, 25] := by kernel_rfl
theorem ty4 : s06.ty 4 = .bool := by kernel_rfl
theorem ty25 : s06.ty 25 = .sl 60 .write := by kernel_rfl
theorem asRec {d : D RC} (hf : fit s06 d (.inl 27) = true) (hg : good rGood d) (hr : d.refs = []) : ∃ (x : Rec) (c0 : Bool), d = eRecC x c0 ∧ goodRec x := by
  obtain ⟨d0, r0, rfl, f0, hf⟩ := fit_st ty27 hf
  obtain ⟨d1, r1, rfl, f1, hf⟩ := fit_more hf
  obtain ⟨d2, r2, rfl, f2, hf⟩ := fit_more hf
  obtain rfl := fit_end hf
  simp only [D.refs, List.append_eq_nil_iff] at hr
  obtain ⟨g0, g1, g2, _⟩ := hg
  obtain ⟨q0, q1, q2, _⟩ := hr
  obtain ⟨n0, rfl⟩ := fit_int ty3 f0
  obtain ⟨n1, rfl⟩ := fit_bool ty4 f1
  obtain ⟨k2, n2, rfl⟩ := fit_sl ty25 f2 q2
  exact ⟨⟨n0, n1, n2⟩, k2, rfl, i64_of g0, trivial, g2⟩
theorem dRec_e (x : Rec) (c0 : Bool) (hx : goodRec x) : dRec (eRecC x c0) = some x := by
  simp only [goodRec] at hx
  simp [dRec, eRecC, D.asList, asArrN, hx]
theorem ty51 : s06.ty 51 = .struct false [3, 4, 25, 49, 3] := by kernel_rfl
theorem ty49 : s06.ty 49 = .int .u64 := by kernel_rfl
theorem asActS {d : D RC} (hf : fit s06 d (.inl 51) = true) (hg : good rGood d) (hr : d.refs = []) : ∃ (x : ActS) (c0 : Bool), d = eActSC x c0 ∧ goodActS x := by
  obtain ⟨d0, r0, rfl, f0, hf⟩ := fit_st ty51 hf
  obtain ⟨d1, r1, rfl, f1, hf⟩ := fit_more hf
  obtain ⟨d2, r2, rfl, f2, hf⟩ := fit_more hf
  obtain ⟨d3, r3, rfl, f3, hf⟩ := fit_more hf
  obtain ⟨d4, r4, rfl, f4, hf⟩ := fit_more hf
  obtain rfl := fit_end hf
  simp only [D.refs, List.append_eq_nil_iff] at hr
  obtain ⟨g0, g1, g2, g3, g4, _⟩ := hg
  obtain ⟨q0, q1, q2, q3, q4, _⟩ := hr
  obtain ⟨n0, rfl⟩ := fit_int ty3 f0
  obtain ⟨n1, rfl⟩ := fit_bool ty4 f1
  obtain ⟨k2, n2, rfl⟩ := fit_sl ty25 f2 q2
  obtain ⟨n3, rfl⟩ := fit_int ty49 f3
  obtain ⟨n4, rfl⟩ := fit_int ty3 f4
  exact ⟨⟨n0, n1, n2, n3, n4⟩, k2, rfl, i64_of g0, trivial, g2, g3, i64_of g4⟩
theorem dActS_e (x : ActS) (c0 : Bool) (hx : goodActS x) : dActS (eActSC x c0) = some x := by
  simp only [goodActS] at hx
  simp [dActS, eActSC, D.asList, asArrN, hx]
theorem ty61 : s06.ty 61 = .sl 5 .u8 := by kernel_rfl
theorem ty5 : s06.ty 5 = .int .u8 := by kernel_rfl
theorem decs : Dec s06 rGood where
  dec t d hf hr hg _ := by
    cases t with
    | actS =>
      obtain ⟨x, c0, rfl, hx⟩ := asActS hf hg hr
      exact ⟨x, dActS_e x c0 hx, hx⟩
    | l_u8 =>
      obtain ⟨c, n, rfl⟩ := fit_sl ty61 hf hr
      exact ⟨n, by simp [s06, mkTab, rCod, rDec, D.asList], hg⟩
    | recd =>
      obtain ⟨x, c0, rfl, hx⟩ := asRec hf hg hr
      exact ⟨x, dRec_e x c0 hx, hx⟩
    | sector =>
      obtain ⟨x, rfl, hx⟩ := asSector hf hg hr
      exact ⟨x, dSector_e x hx, hx⟩
    | u8 =>
      obtain ⟨n, rfl⟩ := fit_int ty5 hf
      exact ⟨_, rfl, trivial⟩
    | write =>
      obtain ⟨x, rfl, hx⟩ := asWrite hf hg hr
      exact ⟨x, dWrite_e x hx, hx⟩
theorem own : ownKnob Try.prog.godebug = none := by kernel_rfl
theorem laidOut : laidOutB Try.prog = true := by kernel_rfl
end Go.Ev

namespace Go.Proofs.Ytbflnilnlangpaa
open Go.ChangeShapes Go.WideShapes Go.ChangeAt Go.RowKit Go.Ev
set_option linter.unusedVariables false
set_option maxRecDepth 100000
namespace walKeeps
theorem ev (ds : List (D RC)) (h : Fits s06 rGood Try.f4.params.toList ds) : ∃ n, evF s06 u4_1 n 4 ds = some (.bool true) := by
  rw [Try.params4] at h
  cases h with
  | cons hf0 hg0 hr0 h =>
  cases h with
  | nil =>
    obtain ⟨c0, x0, rfl⟩ := fit_sl (show s06.ty 47 = .sl 51 .actS by kernel_rfl) hf0 hr0
    have key := keep06_ok c0 x0 (by rw [Bool.and_eq_true]; exact ⟨lenOK_of (show x0.length ≤ 9223372036854775807 from Nat.le_trans hg0.1 (by decide)), List.all_eq_true.2 fun r hr => by have h9 : goodActS r := hg0.2 r hr; unfold goodActS at h9; exact lenOK_of (show r.w.length ≤ 9223372036854775807 from Nat.le_trans h9.2.2.1.1 (by decide))⟩)
    unfold keep06_e at key
    exact ⟨100, key⟩
theorem lifted (os : Os) (started : os.Started) (H : Type) (enc : TypeId × Value → H) :
    ReturnsInHanded {} Try.checked os 4 .any (Rows.walKeepsSpec.pre6 enc Try.prog Try.f4 Rows.walKeepsRow.domain false) (Rows.walKeepsSpec.post enc Try.prog Try.f4 false true false false) := by
  refine returnsInHanded_of_change (C := Try.checked) own started (by kernel_rfl) Try.func4
    (ChangeSpec.witness6 (enc := enc) (C := Try.checked) false ⟨#[], #[.slice none 0 0], []⟩ 8 (by kernel_rfl) (by kernel_rfl) (by kernel_rfl) (by kernel_rfl)) ?_
  intro W base args ds gs before hval hW _ _
  refine contract_of (gA := rGood) (m := 8) s06_laws u4_1_laws decs laidOut (tb := 4) (by kernel_rfl) Try.underlying4 rfl (by kernel_rfl) ?_ ev H enc W base args ds gs before hval hW
  intro H ds h
  rw [Try.params4] at h
  match ds, h with
  | [d0], _ => rfl
theorem over : Rows.walKeepsRow.holds Try.pinned (OpenSpec.ofChange Rows.walKeepsSpec) :=
  OpenClaim.holds_of_wide 4 Try.f4 rfl rfl rfl rfl rfl rfl rfl ⟨rfl, rfl, rfl, rfl, rfl⟩ rfl rfl rfl rfl rfl (by kernel_rfl) Try.func4 (by kernel_rfl)
    (of_decide_eq_true (by kernel_rfl)) (by unfold Func.isWrapper; first | (rw [if_pos (by decide +kernel)]; kernel_rfl) | (rw [if_neg (by decide +kernel)]; exact ⟨rfl, rfl⟩))
    (fun os started H enc _ => lifted os started H enc)
theorem proved : Rows.WalKeepsSaid := over
end walKeeps
#print axioms walKeeps.proved
end Go.Proofs.Ytbflnilnlangpaa
