/-
  What a program over objects does not touch makes no difference to it.
-/
import Derived.Test.YtnphmfcnnpoinaaEvO
namespace Go.Ev
set_option linter.unusedVariables false
set_option linter.unusedSimpArgs false

section
variable {C : Cdc}
open Pg (Ex)

namespace Pg
theorem Ex.mk_ret {α : Type} {e : Lv} {h : Heap C} {n : Nat} (a : α) : Ex e (.ret a : Pg C α) h n a h n [] := by simp [Ex, run]
theorem run_of_ex {α β : Type} {p : Pg C α} {e : Lv} {h h' : Heap C} {n n' : Nat} {a : α} {t : Tr} (hx : Ex e p h n a h' n' t) (l : Tr) (k : α → Heap C → Nat → Tr → Option β) : p.run e h n l k = k a h' n' (t ++ l) := by
  rw [run_eq]; unfold Ex at hx; rw [hx]; rfl
theorem Ex.mk_br {α : Type} {e : Lv} {h h' : Heap C} {n n' : Nat} {t : Tr} {b : Bool} {x y : Pg C α} {a : α} (hx : (b = true ∧ Ex e x h n a h' n' t) ∨ (b = false ∧ Ex e y h n a h' n' t)) : Ex e (.br b x y) h n a h' n' t := by
  rcases hx with ⟨rfl, hx⟩ | ⟨rfl, hx⟩ <;> simpa [Ex, run] using hx
theorem Ex.mk_rd {α : Type} {e : Lv} {h h' : Heap C} {n n' : Nat} {t : Tr} {id : Nat} {f : Obj C → Pg C α} {a : α} {o : Obj C} (ho : h.get id = some o) (hx : Ex e (f o) h n a h' n' t) : Ex e (.rd id f) h n a h' n' (t ++ [(id, false)]) := by
  show run _ _ _ _ _ _ = _
  simp only [run, ho]; rw [run_of_ex hx]
theorem Ex.mk_wr {α : Type} {e : Lv} {h h' : Heap C} {n n' : Nat} {t : Tr} {id : Nat} {o o' : Obj C} {f : Pg C α} {a : α} (ho : h.get id = some o') (hx : Ex e f (h.put id o) n a h' n' t) : Ex e (.wr id o f) h n a h' n' (t ++ [(id, true)]) := by
  show run _ _ _ _ _ _ = _
  simp only [run, ho]; rw [run_of_ex hx]
theorem Ex.mk_nw {α : Type} {e : Lv} {h h' : Heap C} {n n' : Nat} {t : Tr} {o : Obj C} {f : Nat → Pg C α} {a : α} (hx : Ex e (f n) ((n, o) :: h) (n + 1) a h' n' t) : Ex e (.nw o f) h n a h' n' (t ++ [(n, true)]) := by
  show run _ _ _ _ _ _ = _
  simp only [run]; rw [run_of_ex hx]
theorem Ex.mk_dl {α : Type} {e : Lv} {h h' : Heap C} {n n' : Nat} {t : Tr} {id : Nat} {o' : Obj C} {f : Pg C α} {a : α} (ho : h.get id = some o') (hx : Ex e f (h.del id) n a h' n' t) : Ex e (.dl id f) h n a h' n' (t ++ [(id, true)]) := by
  show run _ _ _ _ _ _ = _
  simp only [run, ho]; rw [run_of_ex hx]
theorem Ex.mk_cnt {α : Type} {e : Lv} {h h' : Heap C} {n n' : Nat} {t : Tr} {f : Nat → Nat → Pg C α} {a : α} (hx : Ex e (f n (span e.1)) h n a h' n' t) : Ex e (.cnt f) h n a h' n' t := by simpa [Ex, run] using hx
theorem Ex.mk_upto {α : Type} {e : Lv} {h h' : Heap C} {n n' m : Nat} {t : Tr} {f : Pg C α} {a : α} (hm : n ≤ m) (hx : Ex e f h m a h' n' t) : Ex e (.upto m f) h n a h' n' t := by
  show run _ _ _ _ _ _ = _
  simp only [run, Nat.ble_eq_true_of_le hm, cond_true]; exact hx
theorem Ex.mk_gc {α : Type} {e : Lv} {h h' : Heap C} {n n' lo : Nat} {keep : List Nat} {t : Tr} {f : Pg C α} {a : α} (hl : e.2 ≤ lo) (hx : Ex e f (h.drop lo n keep) n a h' n' t) : Ex e (.gc lo keep f) h n a h' n' t := by
  show run _ _ _ _ _ _ = _
  simp only [run, Nat.ble_eq_true_of_le hl, cond_true]; exact hx
theorem Ex.mk_sub {α : Type} {e : Lv} {h h1 h' : Heap C} {n n1 n' : Nat} {t1 t2 : Tr} {p : Pg C (Env C)} {f : Env C → Tr → Pg C α} {v : Env C} {a : α} (hp : Ex (e.1 + 1, n) p h n v h1 n1 t1) (hx : Ex e (f v t1) h1 n1 a h' n' t2) :
    Ex e (.sub p f) h n a h' n' (t2 ++ t1) := by
  show run _ _ _ _ _ _ = _
  simp only [run]; rw [run_of_ex hp]; simp only [List.append_nil]; rw [run_of_ex hx]
theorem Ex.mk_bind {α β : Type} {e : Lv} {h h1 h' : Heap C} {n n1 n' : Nat} {t1 t2 : Tr} {p : Pg C α} {f : α → Pg C β} {v : α} {a : β} (hp : Ex e p h n v h1 n1 t1) (hx : Ex e (f v) h1 n1 a h' n' t2) :
    Ex e (p.bind f) h n a h' n' (t2 ++ t1) := by
  show run _ _ _ _ _ _ = _
  rw [run_bind, run_of_ex hp]; simp only [List.append_nil]; rw [run_of_ex hx]

/-- objects that a run does not touch are left as they are; and a run goes alike over other objects, if those that it touches are the same -/
theorem Ex.local {α : Type} {p : Pg C α} : ∀ {e : Lv} {h : Heap C} {n : Nat} {a : α} {h' : Heap C} {n' : Nat} {t : Tr}, Ex e p h n a h' n' t → e.2 ≤ n → ∀ g : Heap C,
    (∀ id w, (id, w) ∈ t → id < e.2 ∨ n' ≤ id → g.get id = h.get id) → (∀ id, e.2 ≤ id → id < n' → g.get id = h.get id) →
    ∃ g', Ex e p g n a g' n' t ∧ (∀ id, e.2 ≤ id → id < n' → g'.get id = h'.get id) ∧
      (∀ id, id < e.2 ∨ n' ≤ id → ((id, true) ∈ t → g'.get id = h'.get id) ∧ ((id, true) ∉ t → g'.get id = g.get id ∧ h'.get id = h.get id)) := by
  induction p with
  | ret a =>
    intro e h n a' h' n' t hx hl g hA hB
    obtain ⟨rfl, rfl, rfl, rfl⟩ := Ex.ret hx
    exact ⟨g, .mk_ret _, hB, fun id hid => ⟨fun hm => by simp at hm, fun _ => ⟨rfl, rfl⟩⟩⟩
  | fail => intro e h n a' h' n' t hx; exact (Ex.fail hx).elim
  | br b x y ix iy =>
    intro e h n a' h' n' t hx hl g hA hB
    rcases Ex.br hx with ⟨hb, hx⟩ | ⟨hb, hx⟩
    · obtain ⟨g', h1, h2⟩ := ix hx hl g hA hB; exact ⟨g', .mk_br (.inl ⟨hb, h1⟩), h2⟩
    · obtain ⟨g', h1, h2⟩ := iy hx hl g hA hB; exact ⟨g', .mk_br (.inr ⟨hb, h1⟩), h2⟩
  | rd id f ih =>
    intro e h n a' h' n' t hx hl g hA hB
    obtain ⟨o, t', ho, hy, rfl⟩ := Ex.rd hx
    have hg : g.get id = some o := by
      rw [← ho]
      by_cases hin : e.2 ≤ id ∧ id < n'
      · exact hB id hin.1 hin.2
      · exact hA id false (by simp) (by omega)
    obtain ⟨g', h1, h2, h3⟩ := ih o hy hl g (fun i w hi => hA i w (by simp [hi])) hB
    refine ⟨g', .mk_rd hg h1, h2, fun i hi => ?_⟩
    simpa using h3 i hi
  | wr id o f ih =>
    intro e h n a' h' n' t hx hl g hA hB
    obtain ⟨o', t', ho, hy, rfl⟩ := Ex.wr hx
    have hg : g.get id = some o' := by
      rw [← ho]
      by_cases hin : e.2 ≤ id ∧ id < n'
      · exact hB id hin.1 hin.2
      · exact hA id true (by simp) (by omega)
    have hsh : (h.get id).isSome = true := by simp [ho]
    have hsg : (g.get id).isSome = true := by simp [hg]
    obtain ⟨g', h1, h2, h3⟩ := ih hy hl (g.put id o) (fun i w hi hr => by
        rw [get_put hsg, get_put hsh]
        by_cases he : i = id
        · simp [he]
        · simp [he]; exact hA i w (by simp [hi]) hr) (fun i h4 h5 => by
        rw [get_put hsg, get_put hsh]
        by_cases he : i = id
        · simp [he]
        · simp [he]; exact hB i h4 h5)
    refine ⟨g', .mk_wr hg h1, h2, fun i hi => ⟨fun hm => ?_, fun hm => ?_⟩⟩
    · by_cases hm' : (i, true) ∈ t'
      · exact (h3 i hi).1 hm'
      · have := (h3 i hi).2 hm'
        have he : i = id := by simpa [hm'] using hm
        rw [this.1, this.2, get_put hsg, get_put hsh]
        simp [he]
    · simp only [List.mem_append, List.mem_singleton, Prod.mk.injEq, and_true, not_or] at hm
      have := (h3 i hi).2 hm.1
      rw [this.1, this.2, get_put hsg, get_put hsh]
      simp [hm.2]
  | nw o f ih =>
    intro e h n a' h' n' t hx hl g hA hB
    obtain ⟨t', hy, rfl⟩ := Ex.nw hx
    have hle := Ex.le hy
    obtain ⟨g', h1, h2, h3⟩ := ih n hy (by omega) ((n, o) :: g) (fun i w hi hr => by
        rw [get_cons, get_cons]
        by_cases he : i = n
        · simp [he]
        · simp [he]; exact hA i w (by simp [hi]) hr) (fun i h4 h5 => by
        rw [get_cons, get_cons]
        by_cases he : i = n
        · simp [he]
        · simp [he]; exact hB i h4 h5)
    refine ⟨g', .mk_nw h1, h2, fun i hi => ⟨fun hm => ?_, fun hm => ?_⟩⟩
    · have hne : i ≠ n := by omega
      exact (h3 i hi).1 (by simpa [hne] using hm)
    · have hne : i ≠ n := by omega
      have := (h3 i hi).2 (by simpa [hne] using hm)
      rw [this.1, this.2, get_cons, get_cons]
      simp [hne]
  | dl id f ih =>
    intro e h n a' h' n' t hx hl g hA hB
    obtain ⟨o', t', ho, hy, rfl⟩ := Ex.dl hx
    have hg : g.get id = some o' := by
      rw [← ho]
      by_cases hin : e.2 ≤ id ∧ id < n'
      · exact hB id hin.1 hin.2
      · exact hA id true (by simp) (by omega)
    obtain ⟨g', h1, h2, h3⟩ := ih hy hl (g.del id) (fun i w hi hr => by
        rw [get_del, get_del]
        by_cases he : i = id
        · simp [he]
        · simp [he]; exact hA i w (by simp [hi]) hr) (fun i h4 h5 => by
        rw [get_del, get_del]
        by_cases he : i = id
        · simp [he]
        · simp [he]; exact hB i h4 h5)
    refine ⟨g', .mk_dl hg h1, h2, fun i hi => ⟨fun hm => ?_, fun hm => ?_⟩⟩
    · by_cases hm' : (i, true) ∈ t'
      · exact (h3 i hi).1 hm'
      · have := (h3 i hi).2 hm'
        have he : i = id := by simpa [hm'] using hm
        rw [this.1, this.2, get_del, get_del]
        simp [he]
    · simp only [List.mem_append, List.mem_singleton, Prod.mk.injEq, and_true, not_or] at hm
      have := (h3 i hi).2 hm.1
      rw [this.1, this.2, get_del, get_del]
      simp [hm.2]
  | cnt f ih =>
    intro e h n a' h' n' t hx hl g hA hB
    obtain ⟨g', h1, h2⟩ := ih _ _ (Ex.cnt hx) hl g hA hB
    exact ⟨g', .mk_cnt h1, h2⟩
  | upto m f ih =>
    intro e h n a' h' n' t hx hl g hA hB
    obtain ⟨hm, hx⟩ := Ex.upto hx
    obtain ⟨g', h1, h2⟩ := ih hx (by omega) g hA hB
    exact ⟨g', .mk_upto hm h1, h2⟩
  | gc lo keep f ih =>
    intro e h n a' h' n' t hx hl g hA hB
    obtain ⟨hm, hx⟩ := Ex.gc hx
    have hle := Ex.le hx
    have hdrop : ∀ i, (Nat.ble lo i && Nat.blt i n && !(keep.any (Nat.beq i))) = true → e.2 ≤ i ∧ i < n' := by
      intro i hi
      simp only [Bool.and_eq_true, Nat.ble_eq, Nat.blt_eq] at hi
      omega
    obtain ⟨g', h1, h2, h3⟩ := ih hx hl (g.drop lo n keep) (fun i w hi hr => by
        rw [get_drop, get_drop]
        split
        · rfl
        · exact hA i w hi hr) (fun i h4 h5 => by
        rw [get_drop, get_drop]
        split
        · rfl
        · exact hB i h4 h5)
    refine ⟨g', .mk_gc hm h1, h2, fun i hi => ⟨(h3 i hi).1, fun hn => ?_⟩⟩
    have := (h3 i hi).2 hn
    rw [this.1, this.2, get_drop, get_drop]
    have hne : ¬ (Nat.ble lo i && Nat.blt i n && !(keep.any (Nat.beq i))) = true := fun hd => by have := hdrop i hd; omega
    simp only [hne]
    exact ⟨rfl, rfl⟩
  | sub p f ip ik =>
    intro e h n a' h' n' t hx hl g hA hB
    obtain ⟨v, h1, n1, t1, t2, hp, hy, rfl⟩ := Ex.sub hx
    have hle1 := Ex.le hp
    have hle2 := Ex.le hy
    obtain ⟨g1, q1, q2, q3⟩ := ip hp (Nat.le_refl _) g (fun i w hi hr => by
        by_cases hin : e.2 ≤ i ∧ i < n'
        · exact hB i hin.1 hin.2
        · exact hA i w (by simp [hi]) (by omega)) (fun i h4 h5 => hB i (by simp at h4; omega) (by omega))
    have same : ∀ i, g.get i = h.get i → g1.get i = h1.get i := by
      intro i hi
      by_cases hin : n ≤ i ∧ i < n1
      · exact q2 i hin.1 hin.2
      · have := q3 i (by simp; omega)
        by_cases hm : (i, true) ∈ t1
        · exact this.1 hm
        · rw [(this.2 hm).1, (this.2 hm).2, hi]
    obtain ⟨g', k1, k2, k3⟩ := ik _ _ hy (by omega) g1 (fun i w hi hr => same i (hA i w (by simp [hi]) hr)) (fun i h4 h5 => same i (hB i h4 h5))
    refine ⟨g', .mk_sub q1 k1, k2, fun i hi => ?_⟩
    have hout := q3 i (by simp; omega)
    refine ⟨fun hm => ?_, fun hm => ?_⟩
    · by_cases hm2 : (i, true) ∈ t2
      · exact (k3 i hi).1 hm2
      · have hm1 : (i, true) ∈ t1 := by simpa [hm2] using hm
        have := (k3 i hi).2 hm2
        rw [this.1, this.2]
        exact hout.1 hm1
    · simp only [List.mem_append, not_or] at hm
      have := (k3 i hi).2 hm.1
      have h5 := hout.2 hm.2
      rw [this.1, this.2]
      exact h5
end Pg
end
end Go.Ev
