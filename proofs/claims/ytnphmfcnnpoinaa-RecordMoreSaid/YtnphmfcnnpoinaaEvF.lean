/-
  Slices' objects are turned and grown.
-/
import Derived.Test.YtnphmfcnnpoinaaEvE
namespace Go.Ev
set_option linter.unusedVariables false
set_option linter.unusedSimpArgs false

section
variable {C : Cdc} {T : Tab C} (L : Laws T)

include L in
/-- only what was drawn has turned -/
theorem G.world {X : Cx} {h : Heap C} {nx : Nat} {lim : Lim} (g : G T X h nx lim) (w' : World) (hh : w'.heap = X.w.heap) (h1 : w'.os = X.w.os) (h2 : w'.tape = X.w.tape) (h3 : w'.output = X.w.output) :
    G T ⟨w', X.ρ, X.O⟩ h nx lim ∧ Step X nx lim ⟨w', X.ρ, X.O⟩ := by
  have hs : Step X nx lim ⟨w', X.ρ, X.O⟩ := ⟨rfl, h1, h2, h3, by simp [hh], fun _ _ => .refl _, fun _ _ _ hm => hm, fun b o _ _ => by simp [World.cell?, hh], fun b _ _ => by simp [hh], fun a => by simp [World.frozen?, hh]⟩
  have hc : ∀ n, Ch X ⟨w', X.ρ, X.O⟩ nx lim n := fun n => ⟨hs, fun _ _ => rfl, fun b c e f hb => ⟨c, by simp [hh, hb], rfl, fun _ _ => rfl⟩⟩
  refine ⟨⟨?_, ?_, g.dom, g.nums, g.apart, ?_, ?_, g.low⟩, hs⟩
  · intro id t d ho
    by_cases hi : id = 0
    · exact (G.others L g (hc 1)).1 id t d (by omega) ho
    · exact (G.others L g (hc 0)).1 id t d hi ho
  · intro id t own l ho
    by_cases hi : id = 0
    · exact (G.others L g (hc 1)).2 id t own l (by omega) ho
    · exact (G.others L g (hc 0)).2 id t own l hi ho
  · intro b o hm; simpa [hh] using g.outer b o hm
  · intro b o hm; simpa [hh] using g.outs b o hm

include L in
/-- a new block that nobody owns -/
theorem G.data {X : Cx} {h : Heap C} {nx : Nat} {lim : Lim} (g : G T X h nx lim) (c : Array Value) (e : TypeId) :
    G T ⟨X.w.alloc (.cells c e), X.ρ, X.O⟩ h nx lim ∧ Step X nx lim ⟨X.w.alloc (.cells c e), X.ρ, X.O⟩ ∧
      ∀ o, Cx.free ⟨X.w.alloc (.cells c e), X.ρ, X.O⟩ X.w.heap.size o := by
  have hs : Step X nx lim ⟨X.w.alloc (.cells c e), X.ρ, X.O⟩ :=
    ⟨rfl, rfl, rfl, rfl, by simp, fun _ _ => .refl _, fun _ _ _ hm => hm, fun b o hb _ => cell_of_heap (heap_alloc_lt _ _ _ hb) o, fun b hb _ => heap_alloc_lt _ _ _ hb, frozen_alloc _ _ _⟩
  have hc : ∀ n, Ch X ⟨X.w.alloc (.cells c e), X.ρ, X.O⟩ nx lim n := fun n => ⟨hs, fun _ _ => rfl, fun b c' e' f hb =>
    ⟨c', by rw [heap_alloc_lt _ _ _ (Array.getElem?_eq_some_iff.1 hb).1]; exact hb, rfl, fun _ _ => rfl⟩⟩
  refine ⟨⟨?_, ?_, g.dom, g.nums, g.apart, ?_, ?_, g.low⟩, hs, ?_⟩
  · intro id t d ho
    by_cases hi : id = 0
    · exact (G.others L g (hc 1)).1 id t d (by omega) ho
    · exact (G.others L g (hc 0)).1 id t d hi ho
  · intro id t own l ho
    by_cases hi : id = 0
    · exact (G.others L g (hc 1)).2 id t own l (by omega) ho
    · exact (G.others L g (hc 0)).2 id t own l hi ho
  · intro b o hm; have := g.outer b o hm; exact ⟨this.1, by simp; omega⟩
  · intro b o hm; have := g.outs b o hm; simp; omega
  · intro o
    refine ⟨fun ho => ?_, fun hm => ?_⟩
    · have := g.outs _ _ ho; omega
    · have := (g.outer _ _ hm).2; omega

include L in
/-- an object is turned into another, its cells in the block where they were -/
theorem G.setVec {X : Cx} {h : Heap C} {nx id b lo hi lo' : Nat} {lim : Lim} {t : C.Ty} {own : Bool} {l l' : List (C.A t)} {v v' : Value} {c c' : Array Value} {e : TypeId} (g : G T X h nx lim)
    (ho : h.get id = some (.vec t own l)) (hρ : X.ρ id = some (.vec v (T.ety t) b lo hi)) (hb : X.w.heap[b]? = some (.cells c e (0, 0))) (hsz : c'.size = c.size)
    (hc : ∀ o, ¬ (lo ≤ o ∧ o < hi) → c'[o]? = c[o]?) (hlo : lo ≤ lo') (hlh : lo' ≤ hi ∨ lo' = lo) (hcp : lenV v ≤ lenV v' ∧ (lenV v = lenV v' → v' = v))
    (hok : ∀ X' : Cx, X'.w = X.w.setRow b c' → X'.O = X.O → (∀ b o, X'.mine b o → X.mine b o) → (∀ o, lo ≤ o → o < lo' → ¬ X'.mine b o) → Step X nx lim X' → VecOK T X' t own l' v' b lo' hi) :
    ∃ X', X'.w = X.w.setRow b c' ∧ X'.ρ id = some (.vec v' (T.ety t) b lo' hi) ∧ G T X' (h.put id (.vec t own l')) nx lim ∧ Step X nx lim X' := by
  have hown : ∀ b o, (Loc.vec v' (T.ety t) b lo' hi).owns b o → (Loc.vec v (T.ety t) b lo hi).owns b o := fun b o h => ⟨h.1, by have := h.2; omega, h.2.2⟩
  have hown' : ∀ g o, (Loc.vec v' (T.ety t) b lo' hi).owns g o → (Loc.vec v (T.ety t) b lo hi).owns g o := fun g o h => ⟨h.1, by have := h.2; omega, h.2.2⟩
  have hch : Ch X ⟨X.w.setRow b c', fun j => if j = id then some (.vec v' (T.ety t) b lo' hi) else X.ρ j, X.O⟩ nx lim id :=
    Ch.setRow hb hsz _ _ hρ (fun o ho => hc o fun h => ho ⟨rfl, h⟩) hown' ⟨rfl, hcp.1, hcp.2⟩
  obtain ⟨m1, m2, m3, m4⟩ := G.mine_put (h := h) g _ (.vec v' (T.ety t) b lo' hi) hρ hown' (X.w.setRow b c') (by simp [size_setRow]) (.vec t own l')
  obtain ⟨o1, o2⟩ := G.others L g hch
  have hsome := g.dom id _ hρ
  have hmine : ∀ b' o, Cx.mine ⟨X.w.setRow b c', fun j => if j = id then some (.vec v' (T.ety t) b lo' hi) else X.ρ j, X.O⟩ b' o → X.mine b' o := by
    rintro b' o ⟨j, k, h1, h2⟩
    by_cases hj : j = id
    · simp [hj] at h1; subst h1; exact ⟨id, _, hρ, hown' _ _ h2⟩
    · simp [hj] at h1; exact ⟨j, k, h1, h2⟩
  have hV := hok ⟨X.w.setRow b c', fun j => if j = id then some (.vec v' (T.ety t) b lo' hi) else X.ρ j, X.O⟩ rfl rfl hmine (by
    rintro o h1 h2 ⟨j, k, h3, h4⟩
    by_cases hj : j = id
    · simp [hj] at h3; subst h3; have := h4.2; omega
    · simp [hj] at h3
      exact hj (g.apart j id _ _ b o o h3 hρ h4 ⟨rfl, h1, by omega⟩)) hch.step
  refine ⟨_, rfl, by simp, ⟨?_, ?_, m1, ?_, m2, m3, m4, g.low⟩, hch.step⟩
  · intro j t' e hg
    rw [get_put hsome] at hg
    by_cases hj : j = id
    · simp [hj] at hg
    · simp [hj] at hg; exact o1 j t' e hj hg
  · intro j t' own' k hg
    rw [get_put hsome] at hg
    by_cases hj : j = id
    · simp [hj] at hg; obtain ⟨rfl, rfl, hg⟩ := hg; simp at hg; subst hg
      exact ⟨v', b, lo', hi, by simp [hj], hV⟩
    · simp [hj] at hg; exact o2 j t' own' k hj hg
  · intro j o hg
    rw [get_put hsome] at hg
    by_cases hj : j = id
    · simp [hj] at hg; subst hg; exact ⟨hj ▸ (g.nums id _ ho).1, by simp [Obj.refs]⟩
    · simp [hj] at hg; exact g.nums j o hg

include L in
/-- an object is turned into another, in a new block -/
theorem G.moveVec {X : Cx} {h : Heap C} {nx id b lo hi lo' hi' : Nat} {lim : Lim} {t : C.Ty} {own own' : Bool} {l l' : List (C.A t)} {v v' : Value} {c : Array Value} {e : TypeId} (g : G T X h nx lim)
    (ho : h.get id = some (.vec t own l)) (hρ : X.ρ id = some (.vec v (T.ety t) b lo hi)) (hcp : lenV v ≤ lenV v' ∧ (lenV v = lenV v' → v' = v))
    (hok : ∀ X' : Cx, X'.w = X.w.alloc (.cells c e) → X'.O = X.O → (∀ o, o < lo' → ¬ X'.mine X.w.heap.size o) → (∀ o, ¬ X'.O X.w.heap.size o) → Step X nx lim X' → VecOK T X' t own' l' v' X.w.heap.size lo' hi') :
    ∃ X', X'.w = X.w.alloc (.cells c e) ∧ X'.ρ id = some (.vec v' (T.ety t) X.w.heap.size lo' hi') ∧ G T X' (h.put id (.vec t own' l')) nx lim ∧ Step X nx lim X' := by
  let X' : Cx := ⟨X.w.alloc (.cells c e), fun j => if j = id then some (.vec v' (T.ety t) X.w.heap.size lo' hi') else X.ρ j, X.O⟩
  have hmine : ∀ b' o, X'.mine b' o → X.mine b' o ∨ (b' = X.w.heap.size ∧ lo' ≤ o) := by
    rintro b' o ⟨j, k, h1, h2⟩
    by_cases hj : j = id
    · simp [X', hj] at h1; subst h1; exact .inr ⟨h2.1, h2.2.1⟩
    · simp [X', hj] at h1; exact .inl ⟨j, k, h1, h2⟩
  have hs : Step X nx lim X' := by
    refine ⟨rfl, rfl, rfl, rfl, by simp [X'], ?_, ?_, fun b o hb _ => cell_of_heap (heap_alloc_lt _ _ _ hb) o, fun b hb _ => heap_alloc_lt _ _ _ hb, frozen_alloc _ _ _⟩
    · intro j _
      by_cases hj : j = id
      · simp only [X', hj, if_true]; rw [hρ]; exact ⟨rfl, hcp.1, hcp.2⟩
      · simp [X', hj, Compat.refl]
    · intro b' o hb' hm
      rcases hmine b' o hm with h1 | h1
      · exact h1
      · omega
  have hch : Ch X X' nx lim id := ⟨hs, fun j hj => by simp [X', hj], fun b c' e' f hb => ⟨c', by show (X.w.alloc _).heap[b]? = _; rw [heap_alloc_lt _ _ _ (Array.getElem?_eq_some_iff.1 hb).1]; exact hb, rfl, fun _ _ => rfl⟩⟩
  obtain ⟨o1, o2⟩ := G.others L g hch
  have hsome := g.dom id _ hρ
  have hV := hok X' rfl rfl (by
    intro o h1 hm
    rcases hmine _ o hm with h2 | h2
    · have := (g.outer _ _ h2).2; omega
    · omega) (fun o ho => by have := g.outs _ _ ho; omega) hs
  refine ⟨X', rfl, by simp [X'], ⟨?_, ?_, ?_, ?_, ?_, ?_, ?_, g.low⟩, hs⟩
  · intro j t' e hg
    rw [get_put hsome] at hg
    by_cases hj : j = id
    · simp [hj] at hg
    · simp [hj] at hg; exact o1 j t' e hj hg
  · intro j t' own' k hg
    rw [get_put hsome] at hg
    by_cases hj : j = id
    · simp [hj] at hg; obtain ⟨rfl, rfl, hg⟩ := hg; simp at hg; subst hg
      exact ⟨v', X.w.heap.size, lo', hi', by simp [X', hj], hV⟩
    · simp [hj] at hg; exact o2 j t' own' k hj hg
  · intro j k hr
    rw [get_put hsome]
    by_cases hj : j = id
    · simp [hj]
    · simp [X', hj] at hr ⊢; exact g.dom j k hr
  · intro j o hg
    rw [get_put hsome] at hg
    by_cases hj : j = id
    · simp [hj] at hg; subst hg; exact ⟨hj ▸ (g.nums id _ ho).1, by simp [Obj.refs]⟩
    · simp [hj] at hg; exact g.nums j o hg
  · intro j j' k k' b' o o' h1 h2 h3 h4
    by_cases hj : j = id <;> by_cases hj' : j' = id
    · rw [hj, hj']
    · simp [X', hj] at h1; simp [X', hj'] at h2; subst h1
      have h5 := h3.1
      have := (g.outer b' o' ⟨j', k', h2, h4⟩).2
      omega
    · simp [X', hj] at h1; simp [X', hj'] at h2; subst h2
      have h5 := h4.1
      have := (g.outer b' o ⟨j, k, h1, h3⟩).2
      omega
    · simp [X', hj] at h1; simp [X', hj'] at h2; exact g.apart j j' k k' b' o o' h1 h2 h3 h4
  · intro b' o hm
    rcases hmine b' o hm with h1 | h1
    · have := g.outer b' o h1; exact ⟨this.1, by simp [X']; omega⟩
    · refine ⟨fun ho => ?_, by simp [X']; omega⟩
      have := g.outs b' o ho; omega
  · intro b' o ho; have := g.outs b' o ho; simp [X']; omega
end
end Go.Ev
