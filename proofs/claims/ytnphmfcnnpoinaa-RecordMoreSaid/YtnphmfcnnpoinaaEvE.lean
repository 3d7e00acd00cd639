/-
  Objects are made, turned, given up.
-/
import Derived.Test.YtnphmfcnnpoinaaEvD
namespace Go.Ev
set_option linter.unusedVariables false
set_option linter.unusedSimpArgs false

section
variable {C : Cdc} {T : Tab C} (L : Laws T)

theorem beqF {a b : Nat} (h : ¬ a = b) : Nat.beq a b = false := by
  cases hb : Nat.beq a b with
  | false => rfl
  | true => exact absurd (Nat.eq_of_beq_eq_true hb) h

theorem get_put {h : Heap C} {id id' : Nat} {o : Obj C} (hi : (h.get id).isSome = true) : (Heap.put id o h).get id' = if id' = id then some o else h.get id' := by
  induction h with
  | nil => simp [Heap.get] at hi
  | cons x h ih =>
    obtain ⟨j, p⟩ := x
    simp only [Heap.put, Heap.get] at hi ⊢
    by_cases hj : id = j
    · subst hj
      simp only [Nat.beq_refl, cond_true, Heap.get]
      by_cases h' : id' = id
      · subst h'; simp
      · have : Nat.beq id' id = false := beqF h'
        simp [this, h']
    · have e1 : Nat.beq id j = false := beqF hj
      simp only [e1, cond_false] at hi ⊢
      simp only [Heap.get]
      by_cases h' : id' = j
      · subst h'
        have : ¬ id' = id := fun e => hj e.symm
        simp [this]
      · have e2 : Nat.beq id' j = false := beqF h'
        simp only [e2, cond_false]
        exact ih hi

theorem get_del {h : Heap C} {id id' : Nat} : (Heap.del id h).get id' = if id' = id then none else h.get id' := by
  induction h with
  | nil => simp [Heap.del, Heap.get]
  | cons x h ih =>
    obtain ⟨j, p⟩ := x
    simp only [Heap.del]
    by_cases hj : id = j
    · subst hj
      simp only [Nat.beq_refl, cond_true, ih, Heap.get]
      by_cases h' : id' = id
      · simp [h']
      · have : Nat.beq id' id = false := beqF h'
        simp [this, h']
    · have e1 : Nat.beq id j = false := beqF hj
      simp only [e1, cond_false, Heap.get]
      by_cases h' : id' = j
      · subst h'
        have : ¬ id' = id := fun e => hj e.symm
        simp [this]
      · have e2 : Nat.beq id' j = false := beqF h'
        simp only [e2, cond_false]
        exact ih

theorem get_drop {h : Heap C} {lo hi : Nat} {keep : List Nat} {id : Nat} : (Heap.drop lo hi keep h).get id = if (Nat.ble lo id && Nat.blt id hi && !(keep.any (Nat.beq id))) = true then none else h.get id := by
  induction h with
  | nil => simp [Heap.drop, Heap.get]
  | cons x h ih =>
    obtain ⟨j, p⟩ := x
    simp only [Heap.drop]
    cases hb : Nat.ble lo j && Nat.blt j hi && !(keep.any (Nat.beq j)) with
    | true =>
      simp only [cond_true, ih, Heap.get]
      by_cases h' : id = j
      · subst h'; simp [hb]
      · have e2 : Nat.beq id j = false := beqF h'
        simp [e2]
    | false =>
      simp only [cond_false, Heap.get]
      by_cases h' : id = j
      · subst h'; simp [hb]
      · have e2 : Nat.beq id j = false := beqF h'
        simp only [e2, cond_false]
        exact ih

theorem get_cons {h : Heap C} {n id : Nat} {o : Obj C} : Heap.get id ((n, o) :: h) = if id = n then some o else h.get id := by
  simp only [Heap.get]
  by_cases h' : id = n
  · subst h'; simp
  · have e2 : Nat.beq id n = false := beqF h'
    simp [e2, h']

theorem G.new {X : Cx} {h : Heap C} {nx : Nat} {lim : Lim} (g : G T X h nx lim) (hn : nx < lim.top) : old (nx + 1) lim nx := ⟨.inl (by omega), lim.ok nx g.low hn⟩

theorem G.fresh {X : Cx} {h : Heap C} {nx : Nat} {lim : Lim} (g : G T X h nx lim) (hn : nx < lim.top) : X.ρ nx = none := by
  cases hr : X.ρ nx with
  | none => rfl
  | some l =>
    have := g.dom nx l hr
    cases ho : h.get nx with
    | none => simp [ho] at this
    | some o => have := (g.nums nx o ho).1.1; omega

theorem G.nums' {X : Cx} {h : Heap C} {nx nx' : Nat} {lim : Lim} (g : G T X h nx lim) (hn : nx ≤ nx') : ∀ id o, h.get id = some o → old nx' lim id ∧ ∀ r ∈ o.refs, old nx' lim r :=
  fun id o ho => ⟨(g.nums id o ho).1.mono hn, fun r hr => ((g.nums id o ho).2 r hr).mono hn⟩

/-- the world has turned at most at cells that an object owns (and has new blocks) -/
structure Ch (X X' : Cx) (nx : Nat) (lim : Lim) (id0 : Nat) : Prop where
  step : Step X nx lim X'
  same : ∀ id, id ≠ id0 → X'.ρ id = X.ρ id
  blk : ∀ b c e f, X.w.heap[b]? = some (.cells c e f) → ∃ c', X'.w.heap[b]? = some (.cells c' e f) ∧ c'.size = c.size ∧ ∀ o, (∀ l, X.ρ id0 = some l → ¬ l.owns b o) → c'[o]? = c[o]?

include L in
theorem G.others {X X' : Cx} {h : Heap C} {nx id0 : Nat} {lim : Lim} (g : G T X h nx lim) (c : Ch X X' nx lim id0) :
    (∀ id t d, id ≠ id0 → h.get id = some (.var t d) → ∃ b c, X'.ρ id = some (.var b t) ∧ X'.w.heap[b]? = some (.cells c t (0, 0)) ∧ R T X' false d c.toList ∧ fit T d (.inl t) = true) ∧
    (∀ id t own l, id ≠ id0 → h.get id = some (.vec t own l) → ∃ v b lo hi, X'.ρ id = some (.vec v (T.ety t) b lo hi) ∧ VecOK T X' t own l v b lo hi) := by
  constructor
  · intro id t d hne ho
    obtain ⟨b, cs, h1, h2, h3, h4⟩ := g.var id t d ho
    obtain ⟨c', h5, h6, h7⟩ := c.blk b cs _ _ h2
    have e : c' = cs := by
      apply Array.ext'
      apply List.ext_getElem?
      intro o
      have := h7 o fun l hl hown => hne (g.apart id id0 _ _ b o o h1 hl rfl hown)
      simpa using this
    subst e
    refine ⟨b, c', by rw [c.same id hne]; exact h1, h5, h3.step L c.step ?_, h4⟩
    intro r hr
    exact (g.nums id _ ho).2 r hr
  · intro id t own l hne ho
    obtain ⟨v, b, lo, hi, h1, h2⟩ := g.vec id t own l ho
    refine ⟨v, b, lo, hi, by rw [c.same id hne]; exact h1, ?_⟩
    rcases h2 with h2 | ⟨off, cp, h2, h3, h4, h5⟩
    · exact .inl h2
    · refine .inr ⟨off, cp, h2, h3, h4, ?_⟩
      rcases h5 with ⟨ht, hlo, h5 | ⟨cs, e, h5, h6, h7⟩⟩ | ⟨ht, hlo, ⟨cs, h5, h6⟩, h7⟩
      · exact .inl ⟨ht, hlo, .inl h5⟩
      · obtain ⟨c', h8, h9, h10⟩ := c.blk b cs _ _ h5
        refine .inl ⟨ht, hlo, .inr ⟨c', e, h8, by omega, ?_⟩⟩
        have e : (c'.toList.drop off).take (l.length * T.size (T.ety t)) = (cs.toList.drop off).take (l.length * T.size (T.ety t)) := by
          apply List.ext_getElem?
          intro o
          simp only [List.getElem?_take]
          split
          · rename_i hlt
            simp only [List.getElem?_drop]
            have hmul : l.length * T.size (T.ety t) ≤ cp * T.size (T.ety t) := Nat.mul_le_mul_right _ h3
            have := h10 (off + o) fun l' hl hown => hne (g.apart id id0 _ _ b (off + o) (off + o) h1 hl ⟨rfl, by omega, by omega⟩ hown)
            simpa using this
          · rfl
        rw [e]
        exact h7.step L c.step (by simp [D.refs])
      · refine .inr ⟨ht, hlo, ⟨cs, h5.step c.step, h6.step L c.step (by simp [D.refs])⟩, ?_⟩
        rcases h7 with h7 | ⟨c0, e, h7, h8⟩
        · exact .inl h7
        · obtain ⟨c', h9, h10, _⟩ := c.blk b c0 _ _ h7
          exact .inr ⟨c', e, h9, by omega⟩

/-- an object is made: a new block -/
def Cx.newVar (X : Cx) (nx : Nat) (t : TypeId) (c : Array Value) : Cx :=
  ⟨X.w.alloc (.cells c t), fun id => if id = nx then some (.var X.w.heap.size t) else X.ρ id, X.O⟩

theorem heap_alloc_lt (w : World) (o : Go.Obj) (b : Nat) (hb : b < w.heap.size) : (w.alloc o).heap[b]? = w.heap[b]? := RowKit.Below.heap_alloc w o b hb
theorem heap_alloc_eq (w : World) (o : Go.Obj) : (w.alloc o).heap[w.heap.size]? = some o := by
  show (w.heap.push o)[w.heap.size]? = _
  simp
theorem cell_of_heap {w w' : World} {b : Nat} (h : w'.heap[b]? = w.heap[b]?) (o : Nat) : w'.cell? ⟨b, o, none⟩ = w.cell? ⟨b, o, none⟩ := by
  simp [World.cell?, h]

theorem frozen_alloc (w : World) (c : Array Value) (t : TypeId) (a : Addr) : (w.alloc (.cells c t)).frozen? a = w.frozen? a := by
  unfold World.frozen?
  by_cases h : a.block = w.heap.size
  · rw [h, heap_alloc_eq]
    simp
  · rcases Nat.lt_or_ge a.block w.heap.size with hl | hl
    · rw [heap_alloc_lt _ _ _ hl]
    · have h1 : w.heap.size + 1 ≤ a.block := by omega
      rw [Array.getElem?_eq_none (by simp; omega), Array.getElem?_eq_none hl]

/-- a new block, which an object at a fresh number has (or nobody): of old things nothing has turned -/
theorem Step.alloc {X : Cx} {h : Heap C} {nx : Nat} {lim : Lim} (g : G T X h nx lim) (hn : nx < lim.top) (c : Array Value) (t : TypeId) (l : Loc) (hl : ∀ b o, l.owns b o → b = X.w.heap.size) :
    Step X nx lim ⟨X.w.alloc (.cells c t), fun id => if id = nx then some l else X.ρ id, X.O⟩ where
  O := rfl
  os := rfl
  tape := rfl
  output := rfl
  size := by simp
  ρ id ho := by
    have : id ≠ nx := by have := ho.1; omega
    simp [this, Compat.refl]
  mine b o hb hm := by
    obtain ⟨id, l', h1, h2⟩ := hm
    by_cases hi : id = nx
    · simp [hi] at h1; subst h1; have := hl b o h2; omega
    · simp [hi] at h1; exact ⟨id, l', h1, h2⟩
  cell b o hb _ := cell_of_heap (heap_alloc_lt _ _ _ hb) o
  block b hb _ := heap_alloc_lt _ _ _ hb
  frz a := frozen_alloc _ _ _ a

theorem Ch.alloc {X : Cx} {h : Heap C} {nx : Nat} {lim : Lim} (g : G T X h nx lim) (hn : nx < lim.top) (c : Array Value) (t : TypeId) (l : Loc) (hl : ∀ b o, l.owns b o → b = X.w.heap.size) :
    Ch X ⟨X.w.alloc (.cells c t), fun id => if id = nx then some l else X.ρ id, X.O⟩ nx lim nx where
  step := Step.alloc g hn c t l hl
  same id hi := by simp [hi]
  blk b c' e f hb := by
    have hlt : b < X.w.heap.size := (Array.getElem?_eq_some_iff.1 hb).1
    exact ⟨c', by rw [heap_alloc_lt _ _ _ hlt]; exact hb, rfl, fun _ _ => rfl⟩

/-- what is left of G when an object at a fresh number is added -/
theorem G.mine_alloc {X : Cx} {h : Heap C} {nx : Nat} {lim : Lim} (g : G T X h nx lim) (hn : nx < lim.top) (c : Array Value) (t : TypeId) (l : Loc) (hl : ∀ b o, l.owns b o → b = X.w.heap.size) (o : Obj C) :
    let X' : Cx := ⟨X.w.alloc (.cells c t), fun id => if id = nx then some l else X.ρ id, X.O⟩
    (∀ id l, X'.ρ id = some l → (Heap.get id ((nx, o) :: h)).isSome = true) ∧
    (∀ id id' l l' b o o', X'.ρ id = some l → X'.ρ id' = some l' → l.owns b o → l'.owns b o' → id = id') ∧ (∀ b o, X'.mine b o → (¬ X.O b o ∨ b = X.w.heap.size) ∧ b < X'.w.heap.size) := by
  refine ⟨?_, ?_, ?_⟩
  · intro id l' hr
    rw [get_cons]
    by_cases hi : id = nx
    · simp [hi]
    · simp [hi] at hr ⊢; exact g.dom id l' hr
  · intro id id' l1 l2 b o o' h1 h2 h3 h4
    by_cases hi : id = nx <;> by_cases hj : id' = nx
    · rw [hi, hj]
    · simp [hi] at h1; simp [hj] at h2; subst h1
      have := hl b o h3
      have := (g.outer b o' ⟨id', l2, h2, h4⟩).2
      omega
    · simp [hi] at h1; simp [hj] at h2; subst h2
      have := hl b o' h4
      have := (g.outer b o ⟨id, l1, h1, h3⟩).2
      omega
    · simp [hi] at h1; simp [hj] at h2; exact g.apart id id' l1 l2 b o o' h1 h2 h3 h4
  · rintro b o ⟨id, l', h1, h2⟩
    by_cases hi : id = nx
    · simp [hi] at h1; subst h1; have := hl b o h2; exact ⟨.inr this, by simp; omega⟩
    · simp [hi] at h1
      have := g.outer b o ⟨id, l', h1, h2⟩
      exact ⟨.inl this.1, by simp; omega⟩

include L in
theorem G.newVar {X : Cx} {h : Heap C} {nx : Nat} {lim : Lim} (g : G T X h nx lim) (hn : nx < lim.top) {d : D C} {t : TypeId} {c : Array Value} (hR : R T X false d c.toList) (hf : fit T d (.inl t) = true)
    (hr : ∀ id ∈ d.refs, old nx lim id) :
    G T (X.newVar nx t c) ((nx, .var t d) :: h) (nx + 1) lim ∧ Step X nx lim (X.newVar nx t c) := by
  have hl : ∀ b o, (Loc.var X.w.heap.size t).owns b o → b = X.w.heap.size := fun b o h => h
  have hO := g.outs
  have hs : Step X nx lim (X.newVar nx t c) := Step.alloc g hn c t _ hl
  have hc : Ch X (X.newVar nx t c) nx lim nx := Ch.alloc g hn c t _ hl
  obtain ⟨m1, m2, m3⟩ := G.mine_alloc g hn c t _ hl (.var t d)
  obtain ⟨o1, o2⟩ := G.others L g hc
  refine ⟨⟨?_, ?_, m1, ?_, m2, ?_, fun b o ho => Nat.lt_of_lt_of_le (hO b o ho) hs.size, Nat.le_succ_of_le g.low⟩, hs⟩
  · intro id t' d' hg
    rw [get_cons] at hg
    by_cases hi : id = nx
    · simp [hi] at hg; obtain ⟨rfl, rfl⟩ := hg
      exact ⟨X.w.heap.size, c, by simp [Cx.newVar, hi], heap_alloc_eq _ _, hR.step L hs hr, hf⟩
    · simp [hi] at hg; exact o1 id t' d' hi hg
  · intro id t' own l hg
    rw [get_cons] at hg
    by_cases hi : id = nx
    · simp [hi] at hg
    · simp [hi] at hg; exact o2 id t' own l hi hg
  · intro id o hg
    rw [get_cons] at hg
    by_cases hi : id = nx
    · simp [hi] at hg; subst hg
      exact ⟨hi ▸ g.new hn, fun r hr' => (hr r hr').mono (by omega)⟩
    · simp [hi] at hg; exact g.nums' (by omega) id o hg
  · intro b o hm
    have := m3 b o hm
    refine ⟨?_, this.2⟩
    rcases this.1 with h1 | h1
    · exact h1
    · intro hO'; have := hO b o hO'; omega

/-- a slice's object is made, in a new block of its own -/
def Cx.newVec (X : Cx) (nx : Nat) (t : C.Ty) (e : TypeId) (c : Array Value) (n cp : Nat) : Cx :=
  ⟨X.w.alloc (.cells c e), fun id => if id = nx then some (.vec (.slice (some ⟨X.w.heap.size, 0, none⟩) n cp) (T.ety t) X.w.heap.size 0 (cp * T.size (T.ety t))) else X.ρ id, X.O⟩

include L in
theorem G.newVec {X : Cx} {h : Heap C} {nx : Nat} {lim : Lim} (g : G T X h nx lim) (hn : nx < lim.top) {t : C.Ty} {l : List (C.A t)} {c : Array Value} {e : TypeId} {cp : Nat} (own : Bool)
    (hR : R T X false (.arr t l.length l) (c.toList.take (l.length * T.size (T.ety t)))) (hcp : l.length ≤ cp) (hc : cp * T.size (T.ety t) ≤ c.size) :
    ∃ X', X'.w = X.w.alloc (.cells c e) ∧ G T X' ((nx, .vec t own l) :: h) (nx + 1) lim ∧ Step X nx lim X' ∧ R T X' false (.vs nx l.length) [.slice (some ⟨X.w.heap.size, 0, none⟩) l.length cp] := by
  let v : Value := .slice (some ⟨X.w.heap.size, 0, none⟩) l.length cp
  let lo := if own then 0 else l.length * T.size (T.ety t)
  let l0 : Loc := .vec v (T.ety t) X.w.heap.size lo (cp * T.size (T.ety t))
  have hl : ∀ b o, l0.owns b o → b = X.w.heap.size := fun b o h => h.1
  have hO := g.outs
  let X' : Cx := ⟨X.w.alloc (.cells c e), fun id => if id = nx then some l0 else X.ρ id, X.O⟩
  have hs : Step X nx lim X' := Step.alloc g hn c e _ hl
  have hch : Ch X X' nx lim nx := Ch.alloc g hn c e _ hl
  obtain ⟨m1, m2, m3⟩ := G.mine_alloc g hn c e _ hl (.vec t own l)
  obtain ⟨o1, o2⟩ := G.others L g hch
  have hRs : R T X' false (.arr t l.length l) (c.toList.take (l.length * T.size (T.ety t))) := hR.step L hs (by simp [D.refs])
  have hmul : l.length * T.size (T.ety t) ≤ cp * T.size (T.ety t) := Nat.mul_le_mul_right _ hcp
  refine ⟨X', rfl, ⟨?_, ?_, m1, ?_, m2, ?_, fun b o ho => Nat.lt_of_lt_of_le (hO b o ho) hs.size, Nat.le_succ_of_le g.low⟩, hs, ?_⟩
  · intro id t' d' hg
    rw [get_cons] at hg
    by_cases hi : id = nx
    · simp [hi] at hg
    · simp [hi] at hg; exact o1 id t' d' hi hg
  · intro id t' own' l' hg
    rw [get_cons] at hg
    by_cases hi : id = nx
    · simp [hi] at hg; obtain ⟨rfl, rfl, hg⟩ := hg; simp at hg; subst hg
      refine ⟨v, X.w.heap.size, lo, cp * T.size (T.ety t), by simp [X', hi, l0], .inr ⟨0, cp, rfl, hcp, by simp, ?_⟩⟩
      cases own with
      | true => exact .inl ⟨rfl, by simp [lo], .inr ⟨c, e, heap_alloc_eq _ _, hc, by simpa using hRs⟩⟩
      | false =>
        refine .inr ⟨rfl, by simp [lo], ⟨_, ?_, hRs⟩, .inr ⟨c, e, heap_alloc_eq _ _, hc⟩⟩
        intro j u hj
        have hj' : j < l.length * T.size (T.ety t) := by
          have := (List.getElem?_eq_some_iff.1 hj).1
          simp at this; omega
        refine ⟨?_, ?_, ?_⟩
        · simp only [World.cell?, Nat.zero_add]
          rw [show X'.w.heap[X.w.heap.size]? = some (.cells c e) from heap_alloc_eq _ _]
          rw [List.getElem?_take, if_pos hj'] at hj
          simpa using hj
        · intro ho; have := hO _ _ ho; omega
        · rintro ⟨id', l', h1, h2⟩
          by_cases hi' : id' = nx
          · simp [X', hi', l0] at h1; subst h1; simp [Loc.owns, lo] at h2; omega
          · simp [X', hi'] at h1
            have := (g.outer _ _ ⟨id', l', h1, h2⟩).2
            omega
    · simp [hi] at hg; exact o2 id t' own' l' hi hg
  · intro id o hg
    rw [get_cons] at hg
    by_cases hi : id = nx
    · simp [hi] at hg; subst hg
      exact ⟨hi ▸ g.new hn, fun r hr' => by simp [Obj.refs] at hr'⟩
    · simp [hi] at hg; exact g.nums' (by omega) id o hg
  · intro b o hm
    have := m3 b o hm
    refine ⟨?_, this.2⟩
    rcases this.1 with h1 | h1
    · exact h1
    · intro hO'; have := hO b o hO'; omega
  · refine .vs fun v' e' b' lo' hi' hv => ?_
    simp [X', l0] at hv
    obtain ⟨rfl, _⟩ := hv
    exact ⟨Nat.le_refl _, fun _ => rfl⟩

/-- numbers go on; objects are given up -/
theorem G.upto {X : Cx} {h : Heap C} {nx nx' : Nat} {lim : Lim} (g : G T X h nx lim) (hn : nx ≤ nx') : G T X h nx' lim :=
  ⟨g.var, g.vec, g.dom, g.nums' hn, g.apart, g.outer, g.outs, Nat.le_trans g.low hn⟩

include L in
theorem G.drop {X : Cx} {h h' : Heap C} {nx : Nat} {lim : Lim} (g : G T X h nx lim) (hh : ∀ id, h'.get id = h.get id ∨ h'.get id = none) :
    ∃ X', X'.w = X.w ∧ G T X' h' nx lim ∧ Step X nx lim X' ∧ ∀ id l, X'.ρ id = some l → X.ρ id = some l := by
  let X' : Cx := ⟨X.w, fun id => if (h'.get id).isSome then X.ρ id else none, X.O⟩
  have hmine : ∀ b o, X'.mine b o → X.mine b o := by
    rintro b o ⟨id, l, h1, h2⟩
    simp only [X'] at h1
    split at h1
    · exact ⟨id, l, h1, h2⟩
    · simp at h1
  have hs : Step X nx lim X' := by
    refine ⟨rfl, rfl, rfl, rfl, Nat.le_refl _, ?_, fun b o _ hm => hmine b o hm, fun _ _ _ _ => rfl, fun _ _ _ => rfl, fun _ => rfl⟩
    intro id _
    simp only [X']
    split
    · exact .refl _
    · cases X.ρ id <;> simp [Compat]
  refine ⟨X', rfl, ⟨?_, ?_, ?_, ?_, ?_, ?_, g.outs, g.low⟩, hs, fun id l h1 => by simp only [X'] at h1; split at h1 <;> simp_all⟩
  · intro id t d ho
    have ho' : h.get id = some (.var t d) := by rcases hh id with e | e <;> rw [e] at ho <;> simp_all
    obtain ⟨b, c, h1, h2, h3, h4⟩ := g.var id t d ho'
    exact ⟨b, c, by simp [X', ho, h1], h2, h3.step L hs (g.nums id _ ho').2, h4⟩
  · intro id t own l ho
    have ho' : h.get id = some (.vec t own l) := by rcases hh id with e | e <;> rw [e] at ho <;> simp_all
    obtain ⟨v, b, lo, hi, h1, h2⟩ := g.vec id t own l ho'
    refine ⟨v, b, lo, hi, by simp [X', ho, h1], ?_⟩
    rcases h2 with h2 | ⟨off, cp, h2, h3, h4, h5⟩
    · exact .inl h2
    · refine .inr ⟨off, cp, h2, h3, h4, ?_⟩
      rcases h5 with ⟨ht, hlo, h5 | ⟨cs, e, h5, h6, h7⟩⟩ | ⟨ht, hlo, ⟨cs, h5, h6⟩, h7⟩
      · exact .inl ⟨ht, hlo, .inl h5⟩
      · exact .inl ⟨ht, hlo, .inr ⟨cs, e, h5, h6, h7.step L hs (by simp [D.refs])⟩⟩
      · exact .inr ⟨ht, hlo, ⟨cs, h5.step hs, h6.step L hs (by simp [D.refs])⟩, h7⟩
  · intro id l hr
    simp only [X'] at hr
    split at hr
    · assumption
    · simp at hr
  · intro id o ho
    have ho' : h.get id = some o := by rcases hh id with e | e <;> rw [e] at ho <;> simp_all
    exact g.nums id o ho'
  · intro id id' l l' b o o' h1 h2
    have e1 : X.ρ id = some l := by
      simp only [X'] at h1
      split at h1
      · exact h1
      · simp at h1
    have e2 : X.ρ id' = some l' := by
      simp only [X'] at h2
      split at h2
      · exact h2
      · simp at h2
    exact g.apart id id' l l' b o o' e1 e2
  · intro b o hm
    exact g.outer b o (hmine b o hm)


theorem heap_setRow_ne (w : World) (g : Nat) (cs : Array Value) (b : Nat) (h : b ≠ g) : (w.setRow g cs).heap[b]? = w.heap[b]? := by
  simp only [World.setRow, Array.getElem?_modify]
  rw [if_neg (fun e => h e.symm)]
theorem frozen_setRow (w : World) (g : Nat) (cs old : Array Value) (t : TypeId) (f : Nat × Nat) (hg : w.heap[g]? = some (.cells old t f)) (a : Addr) : (w.setRow g cs).frozen? a = w.frozen? a := by
  unfold World.frozen?
  by_cases h : a.block = g
  · rw [h, setRow_heap w g old cs t f hg, hg]
  · rw [heap_setRow_ne _ _ _ _ h]
theorem size_setRow (w : World) (g : Nat) (cs : Array Value) : (w.setRow g cs).heap.size = w.heap.size := by simp [World.setRow]

/-- some cells of a block are turned, which an object owns -/
theorem Ch.setRow {X : Cx} {nx id : Nat} {lim : Lim} {b : Nat} {c c' : Array Value} {e : TypeId} (hb : X.w.heap[b]? = some (.cells c e (0, 0))) (hsz : c'.size = c.size) (l l' : Loc) (hl : X.ρ id = some l)
    (hc : ∀ o, ¬ l.owns b o → c'[o]? = c[o]?) (hl' : ∀ b o, l'.owns b o → l.owns b o) (hcp : Compat (some l) (some l')) :
    Ch X ⟨X.w.setRow b c', fun j => if j = id then some l' else X.ρ j, X.O⟩ nx lim id where
  same j hj := by simp [hj]
  blk g k u f hg := by
    by_cases hgb : g = b
    · subst hgb
      rw [hb] at hg; simp at hg; obtain ⟨rfl, rfl, rfl⟩ := hg
      exact ⟨c', setRow_heap _ _ _ _ _ _ hb, hsz, fun o ho => hc o (ho l hl)⟩
    · exact ⟨k, by rw [heap_setRow_ne _ _ _ _ hgb]; exact hg, rfl, fun _ _ => rfl⟩
  step := by
    have hm : ∀ g o, Cx.mine ⟨X.w.setRow b c', fun j => if j = id then some l' else X.ρ j, X.O⟩ g o → X.mine g o := by
      rintro g o ⟨j, k, h1, h2⟩
      by_cases hj : j = id
      · simp [hj] at h1; subst h1; exact ⟨id, l, hl, hl' g o h2⟩
      · simp [hj] at h1; exact ⟨j, k, h1, h2⟩
    refine ⟨rfl, rfl, rfl, rfl, by simp [size_setRow], ?_, fun g o _ => hm g o, ?_, ?_, frozen_setRow _ _ _ _ _ _ hb⟩
    · intro j _
      by_cases hj : j = id
      · simp only [hj, if_true]; rw [hl]; exact hcp
      · simp [hj, Compat.refl]
    · intro g o _ hno
      by_cases hgb : g = b
      · subst hgb
        have := hc o fun hown => hno ⟨id, l, hl, hown⟩
        simp only [World.cell?, setRow_heap _ _ _ _ _ _ hb, hb]
        simpa using this
      · exact cell_of_heap (heap_setRow_ne _ _ _ _ hgb) o
    · intro g _ hno
      by_cases hgb : g = b
      · subst hgb
        have e : c' = c := by
          apply Array.ext'
          apply List.ext_getElem?
          intro o
          have := hc o fun hown => hno o ⟨id, l, hl, hown⟩
          simpa using this
        rw [setRow_heap _ _ _ _ _ _ hb, hb, e]
      · exact heap_setRow_ne _ _ _ _ hgb

theorem G.mine_put {X : Cx} {h : Heap C} {nx id : Nat} {lim : Lim} (g : G T X h nx lim) (l l' : Loc) (hl : X.ρ id = some l) (hl' : ∀ b o, l'.owns b o → l.owns b o) (w' : World) (hs : X.w.heap.size ≤ w'.heap.size) (o : Obj C) :
    let X' : Cx := ⟨w', fun j => if j = id then some l' else X.ρ j, X.O⟩
    (∀ j l, X'.ρ j = some l → ((h.put id o).get j).isSome = true) ∧
    (∀ j j' l l' b o o', X'.ρ j = some l → X'.ρ j' = some l' → l.owns b o → l'.owns b o' → j = j') ∧ (∀ b o, X'.mine b o → ¬ X'.O b o ∧ b < X'.w.heap.size) ∧ (∀ b o, X'.O b o → b < X'.w.heap.size) := by
  have hsome := g.dom id l hl
  have hback : ∀ j k b o, (if j = id then some l' else X.ρ j) = some k → k.owns b o → ∃ k', X.ρ j = some k' ∧ k'.owns b o := by
    intro j k b o h1 h2
    by_cases hj : j = id
    · simp [hj] at h1; subst h1; exact ⟨l, by rw [hj]; exact hl, hl' b o h2⟩
    · simp [hj] at h1; exact ⟨k, h1, h2⟩
  refine ⟨?_, ?_, ?_, ?_⟩
  · intro j k hr
    rw [get_put hsome]
    by_cases hj : j = id
    · simp [hj]
    · simp [hj] at hr ⊢; exact g.dom j k hr
  · intro j j' k k' b o o' h1 h2 h3 h4
    obtain ⟨k1, h5, h6⟩ := hback j k b o h1 h3
    obtain ⟨k2, h7, h8⟩ := hback j' k' b o' h2 h4
    exact g.apart j j' k1 k2 b o o' h5 h7 h6 h8
  · rintro b o ⟨j, k, h1, h2⟩
    obtain ⟨k1, h5, h6⟩ := hback j k b o h1 h2
    have := g.outer b o ⟨j, k1, h5, h6⟩
    exact ⟨this.1, by show b < w'.heap.size; omega⟩
  · intro b o ho
    have := g.outs b o ho
    show b < w'.heap.size
    omega

include L in
/-- a variable's cells are turned -/
theorem G.setVar {X : Cx} {h : Heap C} {nx id b : Nat} {lim : Lim} {t : TypeId} {d d' : D C} {c c' : Array Value} (g : G T X h nx lim) (ho : h.get id = some (.var t d)) (hρ : X.ρ id = some (.var b t))
    (hb : X.w.heap[b]? = some (.cells c t (0, 0))) (hR : R T X false d' c'.toList) (hsz : c'.size = c.size) (hf : fit T d' (.inl t) = true) (hr : ∀ r ∈ d'.refs, old nx lim r) :
    ∃ X', X'.w = X.w.setRow b c' ∧ G T X' (h.put id (.var t d')) nx lim ∧ Step X nx lim X' := by
  have hch : Ch X ⟨X.w.setRow b c', fun j => if j = id then some (.var b t) else X.ρ j, X.O⟩ nx lim id :=
    Ch.setRow hb hsz _ _ hρ (fun o ho => absurd rfl ho) (fun _ _ h => h) (by simp [Compat])
  obtain ⟨m1, m2, m3, m4⟩ := G.mine_put (h := h) g _ (.var b t) hρ (fun _ _ h => h) (X.w.setRow b c') (by simp [size_setRow]) (.var t d')
  obtain ⟨o1, o2⟩ := G.others L g hch
  have hsome := g.dom id _ hρ
  refine ⟨_, rfl, ⟨?_, ?_, m1, ?_, m2, m3, m4, g.low⟩, hch.step⟩
  · intro j t' e hg
    rw [get_put hsome] at hg
    by_cases hj : j = id
    · simp [hj] at hg; obtain ⟨rfl, rfl⟩ := hg
      exact ⟨b, c', by simp [hj], setRow_heap _ _ _ _ _ _ hb, hR.step L hch.step hr, hf⟩
    · simp [hj] at hg; exact o1 j t' e hj hg
  · intro j t' own l hg
    rw [get_put hsome] at hg
    by_cases hj : j = id
    · simp [hj] at hg
    · simp [hj] at hg; exact o2 j t' own l hj hg
  · intro j o hg
    rw [get_put hsome] at hg
    by_cases hj : j = id
    · simp [hj] at hg; subst hg; exact ⟨hj ▸ (g.nums id _ ho).1, hr⟩
    · simp [hj] at hg; exact g.nums j o hg

end
end Go.Ev
