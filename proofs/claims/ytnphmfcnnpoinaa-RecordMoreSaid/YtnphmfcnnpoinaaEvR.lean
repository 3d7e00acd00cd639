/-
  Regions whose order is drawn: what two operations do, that no edges order and that touch nothing of each other's, is the same in either order.
-/
import Derived.Test.YtnphmfcnnpoinaaEvQ
namespace Go.Ev
set_option linter.unusedVariables false
set_option linter.unusedSimpArgs false

section
variable {C : Cdc}
open Pg (Ex)

namespace Pg
/-- what a run touches was there or is its own; what is there behind it alone is its own -/
theorem Ex.doms {α : Type} {p : Pg C α} : ∀ {e : Lv} {h : Heap C} {n : Nat} {a : α} {h' : Heap C} {n' : Nat} {t : Tr}, Ex e p h n a h' n' t →
    (∀ id w, (id, w) ∈ t → (h.get id).isSome = true ∨ (n ≤ id ∧ id < n')) ∧ (∀ id, h.get id = none → (h'.get id).isSome = true → n ≤ id ∧ id < n' ∧ (id, true) ∈ t) := by
  induction p with
  | ret a =>
    intro e h n a' h' n' t hx
    obtain ⟨rfl, rfl, rfl, rfl⟩ := Ex.ret hx
    exact ⟨fun id w hm => by simp at hm, fun id h1 h2 => by simp [h1] at h2⟩
  | fail => intro e h n a' h' n' t hx; exact (Ex.fail hx).elim
  | br b x y ix iy =>
    intro e h n a' h' n' t hx
    rcases Ex.br hx with ⟨hb, hx⟩ | ⟨hb, hx⟩
    · exact ix hx
    · exact iy hx
  | rd id f ih =>
    intro e h n a' h' n' t hx
    obtain ⟨o, t', ho, hy, rfl⟩ := Ex.rd hx
    obtain ⟨h1, h2⟩ := ih o hy
    refine ⟨fun i w hm => ?_, fun i h3 h4 => ?_⟩
    · simp only [List.mem_append, List.mem_singleton, Prod.mk.injEq] at hm
      rcases hm with hm | ⟨rfl, rfl⟩
      · exact h1 i w hm
      · exact .inl (by simp [ho])
    · obtain ⟨q1, q2, q3⟩ := h2 i h3 h4; exact ⟨q1, q2, by simp [q3]⟩
  | wr id o f ih =>
    intro e h n a' h' n' t hx
    obtain ⟨o', t', ho, hy, rfl⟩ := Ex.wr hx
    have hs : (h.get id).isSome = true := by simp [ho]
    obtain ⟨h1, h2⟩ := ih hy
    refine ⟨fun i w hm => ?_, fun i h3 h4 => ?_⟩
    · simp only [List.mem_append, List.mem_singleton, Prod.mk.injEq] at hm
      rcases hm with hm | ⟨rfl, rfl⟩
      · have := h1 i w hm
        rw [get_put hs] at this
        by_cases he : i = id
        · subst he; exact .inl hs
        · simpa [he] using this
      · exact .inl hs
    · have hne : i ≠ id := by rintro rfl; simp [h3] at hs
      obtain ⟨q1, q2, q3⟩ := h2 i (by rw [get_put hs]; simp [hne, h3]) h4
      exact ⟨q1, q2, by simp [q3]⟩
  | nw o f ih =>
    intro e h n a' h' n' t hx
    obtain ⟨t', hy, rfl⟩ := Ex.nw hx
    have hle := Ex.le hy
    obtain ⟨h1, h2⟩ := ih n hy
    refine ⟨fun i w hm => ?_, fun i h3 h4 => ?_⟩
    · simp only [List.mem_append, List.mem_singleton, Prod.mk.injEq] at hm
      rcases hm with hm | ⟨rfl, rfl⟩
      · have := h1 i w hm
        rw [get_cons] at this
        by_cases he : i = n
        · exact .inr (by omega)
        · simp only [he, if_false] at this
          rcases this with h | h
          · exact .inl h
          · exact .inr (by omega)
      · exact .inr (by omega)
    · by_cases he : i = n
      · subst he; exact ⟨by omega, by omega, by simp⟩
      · obtain ⟨q1, q2, q3⟩ := h2 i (by rw [get_cons]; simp [he, h3]) h4
        exact ⟨by omega, q2, by simp [q3]⟩
  | dl id f ih =>
    intro e h n a' h' n' t hx
    obtain ⟨o', t', ho, hy, rfl⟩ := Ex.dl hx
    obtain ⟨h1, h2⟩ := ih hy
    refine ⟨fun i w hm => ?_, fun i h3 h4 => ?_⟩
    · simp only [List.mem_append, List.mem_singleton, Prod.mk.injEq] at hm
      rcases hm with hm | ⟨rfl, rfl⟩
      · have := h1 i w hm
        rw [get_del] at this
        by_cases he : i = id
        · subst he; exact .inl (by simp [ho])
        · simpa [he] using this
      · exact .inl (by simp [ho])
    · obtain ⟨q1, q2, q3⟩ := h2 i (by rw [get_del]; simp [h3]) h4
      exact ⟨q1, q2, by simp [q3]⟩
  | cnt f ih => intro e h n a' h' n' t hx; exact ih _ _ (Ex.cnt hx)
  | upto m f ih =>
    intro e h n a' h' n' t hx
    obtain ⟨hm, hx⟩ := Ex.upto hx
    obtain ⟨h1, h2⟩ := ih hx
    refine ⟨fun i w hi => ?_, fun i h3 h4 => ?_⟩
    · rcases h1 i w hi with h | h
      · exact .inl h
      · exact .inr (by omega)
    · obtain ⟨q1, q2, q3⟩ := h2 i h3 h4; exact ⟨by omega, q2, q3⟩
  | gc lo keep f ih =>
    intro e h n a' h' n' t hx
    obtain ⟨hm, hx⟩ := Ex.gc hx
    obtain ⟨h1, h2⟩ := ih hx
    refine ⟨fun i w hi => ?_, fun i h3 h4 => ?_⟩
    · have := h1 i w hi
      rw [get_drop] at this
      split at this
      · exact .inr (by simpa using this)
      · exact this
    · exact h2 i (by rw [get_drop]; split <;> simp [h3]) h4
  | sub p f ip ik =>
    intro e h n a' h' n' t hx
    obtain ⟨v, h1, n1, t1, t2, hp, hy, rfl⟩ := Ex.sub hx
    have l1 := Ex.le hp
    have l2 := Ex.le hy
    obtain ⟨p1, p2⟩ := ip hp
    obtain ⟨k1, k2⟩ := ik _ _ hy
    refine ⟨fun i w hi => ?_, fun i h3 h4 => ?_⟩
    · simp only [List.mem_append] at hi
      rcases hi with hi | hi
      · rcases k1 i w hi with hq | hq
        · cases hh : h.get i with
          | some o => exact .inl rfl
          | none => have := p2 i hh hq; exact .inr (by omega)
        · exact .inr (by omega)
      · rcases p1 i w hi with h | h
        · exact .inl h
        · exact .inr (by omega)
    · by_cases hs : (h1.get i).isSome = true
      · have := p2 i h3 hs; exact ⟨by omega, by omega, by simp [this.2.2]⟩
      · have := k2 i (by simpa using hs) h4; exact ⟨by omega, by omega, by simp [this.2.2]⟩
end Pg

variable {P : Program} {T : Tab C}

/-- an operation before another by the region's edges -/
def Bef (ops : Array Oper) (i j : Nat) : Prop := ((Region.before ops).getD j 0).testBit i = true

theorem before_one {A : Array Nat} {i k : Nat} (es : List Edge) : ∀ (s : Nat), (es.foldl (fun s e => if Region.binds .any e then s ||| 2 ^ e.on ||| A.getD e.on 0 else s) s).testBit i = true →
    s.testBit i = true ∨ ∃ e ∈ es, Region.binds .any e = true ∧ (e.on = i ∨ (A.getD e.on 0).testBit i = true) := by
  induction es with
  | nil => intro s h; exact .inl h
  | cons e es ih =>
    intro s h
    rw [List.foldl_cons] at h
    rcases ih _ h with h | ⟨e', h1, h2, h3⟩
    · by_cases hb : Region.binds .any e = true
      · simp only [hb, if_true, Nat.testBit_or, Bool.or_eq_true, Nat.testBit_two_pow, decide_eq_true_eq] at h
        rcases h with (h | h) | h
        · exact .inl h
        · exact .inr ⟨e, by simp, hb, .inl h⟩
        · exact .inr ⟨e, by simp, hb, .inr h⟩
      · simp only [hb] at h; exact .inl h
    · exact .inr ⟨e', by simp [h1], h2, h3⟩

theorem before_inv (ops : Array Oper) : ∀ (l pre : List Oper) (A : Array Nat), ops.toList = pre ++ l → A.size = pre.length →
    (∀ k i, (A.getD k 0).testBit i = true → ∃ o e, ops[k]? = some o ∧ e ∈ o.after ∧ Region.binds .any e = true ∧ (e.on = i ∨ (e.on < k ∧ (A.getD e.on 0).testBit i = true))) →
    ∀ k i, ((l.foldl (fun acc o => acc.push (o.after.foldl (fun s e => if Region.binds .any e then s ||| 2 ^ e.on ||| acc.getD e.on 0 else s) 0)) A).getD k 0).testBit i = true →
      ∃ o e, ops[k]? = some o ∧ e ∈ o.after ∧ Region.binds .any e = true ∧ (e.on = i ∨ (e.on < k ∧ ((l.foldl (fun acc o => acc.push (o.after.foldl (fun s e => if Region.binds .any e then s ||| 2 ^ e.on ||| acc.getD e.on 0 else s) 0)) A).getD e.on 0).testBit i = true)) := by
  intro l
  induction l with
  | nil => intro pre A h1 h2 h3; simpa using h3
  | cons o l ih =>
    intro pre A h1 h2 h3
    rw [List.foldl_cons]
    refine ih (pre ++ [o]) _ (by simp [h1]) (by simp [h2]) ?_
    intro k i hk
    have hget : ∀ j, (A.push (o.after.foldl (fun s e => if Region.binds .any e then s ||| 2 ^ e.on ||| A.getD e.on 0 else s) 0)).getD j 0 = if j = A.size then (o.after.foldl (fun s e => if Region.binds .any e then s ||| 2 ^ e.on ||| A.getD e.on 0 else s) 0) else A.getD j 0 := by
      intro j
      simp only [Array.getD_eq_getD_getElem?, Array.getElem?_push]
      split <;> simp
    have hA : ∀ j i, (A.getD j 0).testBit i = true → j < A.size := by
      intro j i h
      rcases Nat.lt_or_ge j A.size with h' | h'
      · exact h'
      · simp [Array.getD_eq_getD_getElem?, Array.getElem?_eq_none h'] at h
    rw [hget] at hk
    by_cases hks : k = A.size
    · simp only [hks, if_true] at hk
      rw [← Array.foldl_toList] at hk
      rcases before_one (k := k) o.after.toList 0 hk with h | ⟨e, q1, q2, q3⟩
      · simp at h
      · refine ⟨o, e, ?_, by simpa using q1, q2, ?_⟩
        · rw [← Array.getElem?_toList, h1, hks, h2]; simp
        · rcases q3 with q3 | q3
          · exact .inl q3
          · have := hA _ _ q3
            refine .inr ⟨by omega, ?_⟩
            rw [hget]
            have hne : ¬ e.on = A.size := by omega
            simp only [hne, if_false]; exact q3
    · simp only [hks, if_false] at hk
      obtain ⟨o', e, q1, q2, q3, q4⟩ := h3 k i hk
      refine ⟨o', e, q1, q2, q3, ?_⟩
      rcases q4 with q4 | ⟨q4, q5⟩
      · exact .inl q4
      · have := hA _ _ q5
        refine .inr ⟨q4, ?_⟩
        rw [hget]
        have hne : ¬ e.on = A.size := by omega
        simp only [hne, if_false]; exact q5

theorem Bef.edge {ops : Array Oper} {i k : Nat} (h : Bef ops i k) : ∃ o e, ops[k]? = some o ∧ e ∈ o.after ∧ Region.binds .any e = true ∧ (e.on = i ∨ (e.on < k ∧ Bef ops i e.on)) := by
  have he : Region.before ops = ops.toList.foldl (fun acc o => acc.push (o.after.foldl (fun s e => if Region.binds .any e then s ||| 2 ^ e.on ||| acc.getD e.on 0 else s) 0)) #[] := by
    unfold Region.before
    rw [← Array.foldl_toList]
  unfold Bef at h ⊢
  simp only [he] at h ⊢
  exact before_inv ops ops.toList [] #[] (by simp) (by simp) (fun k i hk => by simp at hk) k i h

/-- what is before one whose edges lead to listed ones is listed -/
theorem Bef.listed {ops : Array Oper} {L : Nat → Prop} (hcl : ∀ j o, L j → ops[j]? = some o → ∀ e ∈ o.after, Region.binds .any e = true → L e.on) :
    ∀ (k i : Nat), Bef ops i k → (∀ o, ops[k]? = some o → ∀ e ∈ o.after, Region.binds .any e = true → L e.on) → L i := by
  intro k
  induction k using Nat.strongRecOn with
  | ind k ih =>
    intro i hb hk
    obtain ⟨o, e, h1, h2, h3, h4⟩ := hb.edge
    have hl := hk o h1 e h2 h3
    rcases h4 with rfl | ⟨h4, h5⟩
    · exact hl
    · exact ih e.on h4 i h5 fun o' ho' e' he' hb' => hcl e.on o' hl ho' e' he' hb'


/-! ### Operations in an order of their own -/

/-- operations run one behind the other, each with numbers of its own; 'ts': what each touches -/
inductive RunL (T : Tab C) (call : FuncId → List (D C) → Pg C (D C)) (ops : Array Oper) (L base sp : Nat) (ts : Nat → Tr) : List Nat → Env C → Heap C → Env C → Heap C → Prop where
  | nil {env envF : Env C} {h hF : Heap C} : (∀ t, eget env t = eget envF t) → (∀ id, h.get id = hF.get id) → RunL T call ops L base sp ts [] env h envF hF
  | cons {env env1 envF : Env C} {h h1 hF : Heap C} {i n : Nat} {o : Oper} {l : List Nat} : ops[i]? = some o → Ex (L, base + i * sp) (evOpG T call ops o env) h (base + i * sp) env1 h1 n (ts i) → n ≤ base + (i + 1) * sp →
      RunL T call ops L base sp ts l env1 h1 envF hF → RunL T call ops L base sp ts (i :: l) env h envF hF

variable {call : FuncId → List (D C) → Pg C (D C)} {ops : Array Oper} {L base sp : Nat} {ts : Nat → Tr}

theorem RunL.ext {l : List Nat} {env envF : Env C} {h hF : Heap C} (hr : RunL T call ops L base sp ts l env h envF hF) : ∀ (env' : Env C) (h' : Heap C), (∀ t, eget env' t = eget env t) → (∀ id, h'.get id = h.get id) → RunL T call ops L base sp ts l env' h' envF hF := by
  induction hr with
  | nil h1 h2 => intro env' h' e1 e2; exact .nil (fun t => (e1 t).trans (h1 t)) fun id => (e2 id).trans (h2 id)
  | @cons env env1 envF h h1 hF i n o l ho hx hn _ ih =>
    intro env' h' e1 e2
    obtain ⟨v, env3, q1, q2, q3⟩ := evOpG_eq call ops o env env' (fun t _ => (e1 t).symm) hx
    obtain ⟨g', k1, k2, k3⟩ := Ex.local q2 (Nat.le_refl _) h' (fun id _ _ _ => e2 id) (fun id _ _ => e2 id)
    refine .cons ho k1 hn (ih env3 g' (fun t => by rw [q1, q3]; simp [e1]) fun id => ?_)
    by_cases hin : base + i * sp ≤ id ∧ id < n
    · exact k2 id hin.1 hin.2
    · have := k3 id (by simp; omega)
      by_cases hm : (id, true) ∈ ts i
      · exact this.1 hm
      · rw [(this.2 hm).1, (this.2 hm).2, e2]

/-- touching nothing of each other's -/
def Away (a b : Tr) : Prop := ∀ id u v, (id, u) ∈ a → (id, v) ∈ b → u = false ∧ v = false

theorem apartT_spec {a b : Tr} (h : apartT a b = true) : Away a b := by
  intro id u v hu hv
  simp only [apartT, List.all_eq_true] at h
  have := h (id, u) hu (id, v) hv
  simpa using this

/-- no object has a number that one of these may give -/
def Fresh (base sp : Nat) (l : List Nat) (h : Heap C) : Prop := ∀ i ∈ l, ∀ id, base + i * sp ≤ id → id < base + (i + 1) * sp → h.get id = none

theorem ranges {sp i k : Nat} (hne : i ≠ k) {id base : Nat} (h1 : base + i * sp ≤ id) (h2 : id < base + (i + 1) * sp) (h3 : base + k * sp ≤ id) (h4 : id < base + (k + 1) * sp) : False := by
  rcases Nat.lt_or_gt_of_ne hne with h | h
  · have : (i + 1) * sp ≤ k * sp := Nat.mul_le_mul_right _ h
    omega
  · have : (k + 1) * sp ≤ i * sp := Nat.mul_le_mul_right _ h
    omega

theorem Fresh.step {l : List Nat} {h h1 : Heap C} {i n : Nat} {p : Pg C (Env C)} {env1 : Env C} {t : Tr} (hf : Fresh base sp l h) (hx : Ex (L, base + i * sp) p h (base + i * sp) env1 h1 n t) (hn : n ≤ base + (i + 1) * sp) (hi : i ∉ l) : Fresh base sp l h1 := by
  intro k hk id h2 h3
  cases hg : h1.get id with
  | none => rfl
  | some o =>
    have := (Ex.doms hx).2 id (hf k hk id h2 h3) (by simp [hg])
    exact (ranges (i := i) (k := k) (by rintro rfl; exact hi hk) (id := id) (base := base) (sp := sp) (by omega) (by omega) h2 h3).elim

theorem RunL.swap {k i : Nat} {l : List Nat} {env envF : Env C} {h hF : Heap C} {ok oi : Oper} (hok : ops[k]? = some ok) (hoi : ops[i]? = some oi) (hne : k ≠ i) (hf : Fresh base sp [k, i] h)
    (hap : ok.apart ops oi = true) (haw : Away (ts k) (ts i)) (hr : RunL T call ops L base sp ts (k :: i :: l) env h envF hF) : RunL T call ops L base sp ts (i :: k :: l) env h envF hF := by
  obtain ⟨a1, a2, a3⟩ := Oper.apart_spec hap
  cases hr with
  | @cons _ env1 _ _ h1 _ _ nk o _ ho hk hnk hr =>
  cases hr with
  | @cons _ env2 _ _ h2 _ _ ni o' _ ho' hi hni hr =>
  obtain rfl : ok = o := by rw [hok] at ho; exact Option.some.inj ho
  obtain rfl : oi = o' := by rw [hoi] at ho'; exact Option.some.inj ho'
  have dk := Ex.doms hk
  have di := Ex.doms hi
  obtain ⟨_, _, _, lk⟩ := Ex.local hk (Nat.le_refl _) h (fun _ _ _ _ => rfl) (fun _ _ _ => rfl)
  have fk : ∀ id, base + k * sp ≤ id → id < base + (k + 1) * sp → h.get id = none := fun id => hf k (by simp) id
  have fi : ∀ id, base + i * sp ≤ id → id < base + (i + 1) * sp → h.get id = none := fun id => hf i (by simp) id
  have rk : ∀ id, base + k * sp ≤ id → id < nk → base + i * sp ≤ id → id < ni → False := fun id q1 q2 q3 q4 => ranges hne q1 (by omega) q3 (by omega)
  -- the touched numbers of k lie outside i's range
  have tk : ∀ id w, (id, w) ∈ ts k → ¬ (base + i * sp ≤ id ∧ id < base + (i + 1) * sp) := by
    intro id w hm ⟨q1, q2⟩
    rcases dk.1 id w hm with h' | h'
    · simp [fi id q1 q2] at h'
    · exact ranges hne h'.1 (by omega) q1 q2
  -- the touched numbers of i lie outside k's range
  have ti : ∀ id w, (id, w) ∈ ts i → ¬ (base + k * sp ≤ id ∧ id < base + (k + 1) * sp) := by
    intro id w hm ⟨q1, q2⟩
    rcases di.1 id w hm with h' | h'
    · have := dk.2 id (fk id q1 q2) h'
      have := haw id true w this.2.2 hm
      simp at this
    · exact ranges hne q1 q2 h'.1 (by omega)
  -- i from the start
  obtain ⟨vk, _, ek1, _, _⟩ := evOpG_eq call ops ok env env (fun _ _ => rfl) hk
  obtain ⟨vi, envA, ei1, ei2, ei3⟩ := evOpG_eq call ops oi env1 env (fun t ht => by
    rw [ek1]
    have : ok.dst ≠ some t := fun hd => a1 t hd ht
    simp [this]) hi
  obtain ⟨hA, xi, xi1, xi2⟩ := Ex.local ei2 (Nat.le_refl _) h (fun id w hm hout => by
      have hnt : (id, true) ∉ ts k := fun hq => by have := haw id true w hq hm; simp at this
      by_cases hin : base + k * sp ≤ id ∧ id < nk
      · exact (ti id w hm ⟨hin.1, by omega⟩).elim
      · exact ((lk id (by simp; omega)).2 hnt).2.symm) (fun id q1 q2 => by
      have hnt : (id, true) ∉ ts k := fun hq => tk id true hq ⟨q1, by omega⟩
      have hin : ¬ (base + k * sp ≤ id ∧ id < nk) := fun hq => rk id hq.1 hq.2 q1 q2
      exact ((lk id (by simp; omega)).2 hnt).2.symm)
  -- k behind it
  obtain ⟨vk', envB, ek1', ek2, ek3⟩ := evOpG_eq call ops ok env envA (fun t ht => by
    rw [ei3]
    have : oi.dst ≠ some t := fun hd => a3 t hd ht
    simp [this]) hk
  obtain ⟨hB, xk, xk1, xk2⟩ := Ex.local ek2 (Nat.le_refl _) hA (fun id w hm hout => by
      have hnt : (id, true) ∉ ts i := fun hq => by have := haw id w true hm hq; simp at this
      have hin : ¬ (base + i * sp ≤ id ∧ id < ni) := fun hq => tk id w hm ⟨hq.1, by omega⟩
      exact ((xi2 id (by simp; omega)).2 hnt).1) (fun id q1 q2 => by
      have hnt : (id, true) ∉ ts i := fun hq => ti id true hq ⟨q1, by omega⟩
      have hin : ¬ (base + i * sp ≤ id ∧ id < ni) := fun hq => rk id q1 q2 hq.1 hq.2
      exact ((xi2 id (by simp; omega)).2 hnt).1)
  refine .cons hoi xi hni (.cons hok xk hnk (hr.ext envB hB (fun t => ?_) fun id => ?_))
  · rw [ek3, ei3, ei1]
    by_cases hdi : oi.dst = some t
    · have hdk : ok.dst ≠ some t := fun hd => a2 t hd hdi
      simp [hdi, hdk]
    · simp only [hdi, if_false]
      by_cases hdk : ok.dst = some t
      · have e1 := ek1 t
        have e2 := ek1' t
        simp only [hdk, if_true] at e1 e2 ⊢
        rw [e2]
      · have e1 := ek1 t
        simp only [hdk, if_false] at e1 ⊢
        exact e1.symm
  · by_cases hink : base + k * sp ≤ id ∧ id < nk
    · have hini : ¬ (base + i * sp ≤ id ∧ id < ni) := fun hq => rk id hink.1 hink.2 hq.1 hq.2
      have hnt : (id, true) ∉ ts i := fun hq => ti id true hq ⟨hink.1, by omega⟩
      rw [xk1 id hink.1 hink.2, ((xi2 id (by simp; omega)).2 hnt).2]
    · have kk := xk2 id (by simp; omega)
      by_cases hini : base + i * sp ≤ id ∧ id < ni
      · have hnt : (id, true) ∉ ts k := fun hq => tk id true hq ⟨hini.1, by omega⟩
        rw [(kk.2 hnt).1, xi1 id hini.1 hini.2]
      · have ii := xi2 id (by simp; omega)
        by_cases hmk : (id, true) ∈ ts k
        · have hnt : (id, true) ∉ ts i := fun hq => by have := haw id true true hmk hq; simp at this
          rw [kk.1 hmk, (ii.2 hnt).2]
        · rw [(kk.2 hmk).1]
          by_cases hmi : (id, true) ∈ ts i
          · exact ii.1 hmi
          · rw [(ii.2 hmi).1, (ii.2 hmi).2, (kk.2 hmk).2]

/-- one that may come first comes first -/
theorem RunL.first {i : Nat} {oi : Oper} (hoi : ops[i]? = some oi) : ∀ (pre post : List Nat) {env envF : Env C} {h hF : Heap C}, (pre ++ i :: post).Nodup → Fresh base sp (pre ++ i :: post) h →
    (∀ k ∈ pre, ∀ ok, ops[k]? = some ok → ok.apart ops oi = true ∧ Away (ts k) (ts i)) → RunL T call ops L base sp ts (pre ++ i :: post) env h envF hF → RunL T call ops L base sp ts (i :: (pre ++ post)) env h envF hF := by
  intro pre
  induction pre with
  | nil => intro post env envF h hF hn hf ha hr; simpa using hr
  | cons k pre ih =>
    intro post env envF h hF hn hf ha hr
    rw [List.cons_append] at hr hn hf
    cases hr with
    | @cons _ env1 _ _ h1 _ _ nk ok _ hok hk hnk hr =>
    have hkn := List.nodup_cons.1 hn
    have hr' := ih post hkn.2 ((show Fresh base sp (pre ++ i :: post) h from fun j hj => hf j (List.mem_cons_of_mem _ hj)).step hk hnk hkn.1) (fun j hj => ha j (by simp [hj])) hr
    have hki : k ≠ i := by rintro rfl; exact hkn.1 (by simp)
    obtain ⟨q1, q2⟩ := ha k (by simp) ok hok
    exact RunL.swap hok hoi hki (fun j hj => hf j (by simp at hj; rcases hj with rfl | rfl <;> simp)) q1 q2 (.cons hok hk hnk hr')
end
end Go.Ev
