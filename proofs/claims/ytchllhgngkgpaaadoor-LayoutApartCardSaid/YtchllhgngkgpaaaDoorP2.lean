/-
  A part of the proof of a statement of this seat: the model is run over values by content, proved sound; what the functions come to. No condition beyond the given statements. (text 3)
-/
import Derived.Test.YtchllhgngkgpaaaDoorP1
import Derived.LoopN
import Derived.Lib.ItoaNum
import Derived.Test.YtchllhgngkgpaaaDoorProg
import Derived.KernelRfl
import Derived.Shelf.Strconv.Itoa3
import Derived.Lib.LaidTab
import Derived.LaidSub
import Derived.MakeChecks
namespace Go.Ev
set_option linter.unusedVariables false
set_option linter.unusedSimpArgs false
section
variable {C : Cdc}
open Pg (Ex)
namespace Pg
theorem Ex.doms {α : Type} {p : Pg C α} : ∀ {e : Lv} {h : Heap C} {n : Nat} {a : α} {h' : Heap C} {n' : Nat} {t : Tr}, Ex e p h n a h' n' t →
    (∀ id w, (id, w) ∈ t → (h.get id).isSome = true ∨ (n ≤ id ∧ id < n')) ∧ (∀ id, h.get id = none → (h'.get id).isSome = true → n ≤ id ∧ id < n' ∧ (id, true) ∈ t) := by
  induction p with
  | ret a =>
    intro e h n a' h' n' t hx
    obtain ⟨rfl, rfl, rfl, rfl⟩ := Ex.ret hx
    exact ⟨fun id w hm => by simp at hm, fun id h1 h2 => by simp [h1] at h2⟩
  | fail => intro e h n a' h' n' t hx; exact (Ex.fail hx).elim
  | br b x y ix iy =>
    intro e h n a' h' n' t hx
    rcases Ex.br hx with ⟨hb, hx⟩ | ⟨hb, hx⟩
    · exact ix hx
    · exact iy hx
  | rd id f ih =>
    intro e h n a' h' n' t hx
    obtain ⟨o, t', ho, hy, rfl⟩ := Ex.rd hx
    obtain ⟨h1, h2⟩ := ih o hy
    refine ⟨fun i w hm => ?_, fun i h3 h4 => ?_⟩
    · simp only [List.mem_append, List.mem_singleton, Prod.mk.injEq] at hm
      rcases hm with hm | ⟨rfl, rfl⟩
      · exact h1 i w hm
      · exact .inl (by simp [ho])
    · obtain ⟨q1, q2, q3⟩ := h2 i h3 h4; exact ⟨q1, q2, by simp [q3]⟩
  | wr id o f ih =>
    intro e h n a' h' n' t hx
    obtain ⟨o', t', ho, hy, rfl⟩ := Ex.wr hx
    have hs : (h.get id).isSome = true := by simp [ho]
    obtain ⟨h1, h2⟩ := ih hy
    refine ⟨fun i w hm => ?_, fun i h3 h4 => ?_⟩
    · simp only [List.mem_append, List.mem_singleton, Prod.mk.injEq] at hm
      rcases hm with hm | ⟨rfl, rfl⟩
      · have := h1 i w hm
        rw [get_put hs] at this
        by_cases he : i = id
        · subst he; exact .inl hs
        · simpa [he] using this
      · exact .inl hs
    · have hne : i ≠ id := by rintro rfl; simp [h3] at hs
      obtain ⟨q1, q2, q3⟩ := h2 i (by rw [get_put hs]; simp [hne, h3]) h4
      exact ⟨q1, q2, by simp [q3]⟩
  | nw o f ih =>
    intro e h n a' h' n' t hx
    obtain ⟨t', hy, rfl⟩ := Ex.nw hx
    have hle := Ex.le hy
    obtain ⟨h1, h2⟩ := ih n hy
    refine ⟨fun i w hm => ?_, fun i h3 h4 => ?_⟩
    · simp only [List.mem_append, List.mem_singleton, Prod.mk.injEq] at hm
      rcases hm with hm | ⟨rfl, rfl⟩
      · have := h1 i w hm
        rw [get_cons] at this
        by_cases he : i = n
        · exact .inr (by omega)
        · simp only [he, if_false] at this
          rcases this with h | h
          · exact .inl h
          · exact .inr (by omega)
      · exact .inr (by omega)
    · by_cases he : i = n
      · subst he; exact ⟨by omega, by omega, by simp⟩
      · obtain ⟨q1, q2, q3⟩ := h2 i (by rw [get_cons]; simp [he, h3]) h4
        exact ⟨by omega, q2, by simp [q3]⟩
  | dl id f ih =>
    intro e h n a' h' n' t hx
    obtain ⟨o', t', ho, hy, rfl⟩ := Ex.dl hx
    obtain ⟨h1, h2⟩ := ih hy
    refine ⟨fun i w hm => ?_, fun i h3 h4 => ?_⟩
    · simp only [List.mem_append, List.mem_singleton, Prod.mk.injEq] at hm
      rcases hm with hm | ⟨rfl, rfl⟩
      · have := h1 i w hm
        rw [get_del] at this
        by_cases he : i = id
        · subst he; exact .inl (by simp [ho])
        · simpa [he] using this
      · exact .inl (by simp [ho])
    · obtain ⟨q1, q2, q3⟩ := h2 i (by rw [get_del]; simp [h3]) h4
      exact ⟨q1, q2, by simp [q3]⟩
  | cnt f ih => intro e h n a' h' n' t hx; exact ih _ _ (Ex.cnt hx)
  | upto m f ih =>
    intro e h n a' h' n' t hx
    obtain ⟨hm, hx⟩ := Ex.upto hx
    obtain ⟨h1, h2⟩ := ih hx
    refine ⟨fun i w hi => ?_, fun i h3 h4 => ?_⟩
    · rcases h1 i w hi with h | h
      · exact .inl h
      · exact .inr (by omega)
    · obtain ⟨q1, q2, q3⟩ := h2 i h3 h4; exact ⟨by omega, q2, q3⟩
  | gc lo keep f ih =>
    intro e h n a' h' n' t hx
    obtain ⟨hm, hx⟩ := Ex.gc hx
    obtain ⟨h1, h2⟩ := ih hx
    refine ⟨fun i w hi => ?_, fun i h3 h4 => ?_⟩
    · have := h1 i w hi
      rw [get_drop] at this
      split at this
      · exact .inr (by simpa using this)
      · exact this
    · exact h2 i (by rw [get_drop]; split <;> simp [h3]) h4
  | sub p f ip ik =>
    intro e h n a' h' n' t hx
    obtain ⟨v, h1, n1, t1, t2, hp, hy, rfl⟩ := Ex.sub hx
    have l1 := Ex.le hp
    have l2 := Ex.le hy
    obtain ⟨p1, p2⟩ := ip hp
    obtain ⟨k1, k2⟩ := ik _ _ hy
    refine ⟨fun i w hi => ?_, fun i h3 h4 => ?_⟩
    · simp only [List.mem_append] at hi
      rcases hi with hi | hi
      · rcases k1 i w hi with hq | hq
        · cases hh : h.get i with
          | some o => exact .inl rfl
          | none => have := p2 i hh hq; exact .inr (by omega)
        · exact .inr (by omega)
      · rcases p1 i w hi with h | h
        · exact .inl h
        · exact .inr (by omega)
    · by_cases hs : (h1.get i).isSome = true
      · have := p2 i h3 hs; exact ⟨by omega, by omega, by simp [this.2.2]⟩
      · have := k2 i (by simpa using hs) h4; exact ⟨by omega, by omega, by simp [this.2.2]⟩
end Pg
variable {P : Program} {T : Tab C}
def Bef (ops : Array Oper) (i j : Nat) : Prop := ((Region.before ops).getD j 0).testBit i = true
theorem before_one {A : Array Nat} {i k : Nat} (es : List Edge) : ∀ (s : Nat), (es.foldl (fun s e => if Region.binds .any e then s ||| 2 ^ e.on ||| A.getD e.on 0 else s) s).testBit i = true →
    s.testBit i = true ∨ ∃ e ∈ es, Region.binds .any e = true ∧ (e.on = i ∨ (A.getD e.on 0).testBit i = true) := by
  induction es with
  | nil => intro s h; exact .inl h
  | cons e es ih =>
    intro s h
    rw [List.foldl_cons] at h
    rcases ih _ h with h | ⟨e', h1, h2, h3⟩
    · by_cases hb : Region.binds .any e = true
      · simp only [hb, if_true, Nat.testBit_or, Bool.or_eq_true, Nat.testBit_two_pow, decide_eq_true_eq] at h
        rcases h with (h | h) | h
        · exact .inl h
        · exact .inr ⟨e, by simp, hb, .inl h⟩
        · exact .inr ⟨e, by simp, hb, .inr h⟩
      · simp only [hb] at h; exact .inl h
    · exact .inr ⟨e', by simp [h1], h2, h3⟩
theorem before_inv (ops : Array Oper) : ∀ (l pre : List Oper) (A : Array Nat), ops.toList = pre ++ l → A.size = pre.length →
    (∀ k i, (A.getD k 0).testBit i = true → ∃ o e, ops[k]? = some o ∧ e ∈ o.after ∧ Region.binds .any e = true ∧ (e.on = i ∨ (e.on < k ∧ (A.getD e.on 0).testBit i = true))) →
    ∀ k i, ((l.foldl (fun acc o => acc.push (o.after.foldl (fun s e => if Region.binds .any e then s ||| 2 ^ e.on ||| acc.getD e.on 0 else s) 0)) A).getD k 0).testBit i = true →
      ∃ o e, ops[k]? = some o ∧ e ∈ o.after ∧ Region.binds .any e = true ∧ (e.on = i ∨ (e.on < k ∧ ((l.foldl (fun acc o => acc.push (o.after.foldl (fun s e => if Region.binds .any e then s ||| 2 ^ e.on ||| acc.getD e.on 0 else s) 0)) A).getD e.on 0).testBit i = true)) := by
  intro l
  induction l with
  | nil => intro pre A h1 h2 h3; simpa using h3
  | cons o l ih =>
    intro pre A h1 h2 h3
    rw [List.foldl_cons]
    refine ih (pre ++ [o]) _ (by simp [h1]) (by simp [h2]) ?_
    intro k i hk
    have hget : ∀ j, (A.push (o.after.foldl (fun s e => if Region.binds .any e then s ||| 2 ^ e.on ||| A.getD e.on 0 else s) 0)).getD j 0 = if j = A.size then (o.after.foldl (fun s e => if Region.binds .any e then s ||| 2 ^ e.on ||| A.getD e.on 0 else s) 0) else A.getD j 0 := by
      intro j
      simp only [Array.getD_eq_getD_getElem?, Array.getElem?_push]
      split <;> simp
    have hA : ∀ j i, (A.getD j 0).testBit i = true → j < A.size := by
      intro j i h
      rcases Nat.lt_or_ge j A.size with h' | h'
      · exact h'
      · simp [Array.getD_eq_getD_getElem?, Array.getElem?_eq_none h'] at h
    rw [hget] at hk
    by_cases hks : k = A.size
    · simp only [hks, if_true] at hk
      rw [← Array.foldl_toList] at hk
      rcases before_one (k := k) o.after.toList 0 hk with h | ⟨e, q1, q2, q3⟩
      · simp at h
      · refine ⟨o, e, ?_, by simpa using q1, q2, ?_⟩
        · rw [← Array.getElem?_toList, h1, hks, h2]; simp
        · rcases q3 with q3 | q3
          · exact .inl q3
          · have := hA _ _ q3
            refine .inr ⟨by omega, ?_⟩
            rw [hget]
            have hne : ¬ e.on = A.size := by omega
            simp only [hne, if_false]; exact q3
    · simp only [hks, if_false] at hk
      obtain ⟨o', e, q1, q2, q3, q4⟩ := h3 k i hk
      refine ⟨o', e, q1, q2, q3, ?_⟩
      rcases q4 with q4 | ⟨q4, q5⟩
      · exact .inl q4
      · have := hA _ _ q5
        refine .inr ⟨q4, ?_⟩
        rw [hget]
        have hne : ¬ e.on = A.size := by omega
        simp only [hne, if_false]; exact q5
theorem Bef.edge {ops : Array Oper} {i k : Nat} (h : Bef ops i k) : ∃ o e, ops[k]? = some o ∧ e ∈ o.after ∧ Region.binds .any e = true ∧ (e.on = i ∨ (e.on < k ∧ Bef ops i e.on)) := by
  have he : Region.before ops = ops.toList.foldl (fun acc o => acc.push (o.after.foldl (fun s e => if Region.binds .any e then s ||| 2 ^ e.on ||| acc.getD e.on 0 else s) 0)) #[] := by
    unfold Region.before
    rw [← Array.foldl_toList]
  unfold Bef at h ⊢
  simp only [he] at h ⊢
  exact before_inv ops ops.toList [] #[] (by simp) (by simp) (fun k i hk => by simp at hk) k i h
theorem Bef.listed {ops : Array Oper} {L : Nat → Prop} (hcl : ∀ j o, L j → ops[j]? = some o → ∀ e ∈ o.after, Region.binds .any e = true → L e.on) :
    ∀ (k i : Nat), Bef ops i k → (∀ o, ops[k]? = some o → ∀ e ∈ o.after, Region.binds .any e = true → L e.on) → L i := by
  intro k
  induction k using Nat.strongRecOn with
  | ind k ih =>
    intro i hb hk
    obtain ⟨o, e, h1, h2, h3, h4⟩ := hb.edge
    have hl := hk o h1 e h2 h3
    rcases h4 with rfl | ⟨h4, h5⟩
    · exact hl
    · exact ih e.on h4 i h5 fun o' ho' e' he' hb' => hcl e.on o' hl ho' e' he' hb'
inductive RunL (T : Tab C) (call : FuncId → List (D C) → Pg C (D C)) (ops : Array Oper) (L base sp : Nat) (ts : Nat → Tr) : List Nat → Env C → Heap C → Env C → Heap C → Prop where
  | nil {env envF : Env C} {h hF : Heap C} : (∀ t, eget env t = eget envF t) → (∀ id, h.get id = hF.get id) → RunL T call ops L base sp ts [] env h envF hF
  | cons {env env1 envF : Env C} {h h1 hF : Heap C} {i n : Nat} {o : Oper} {l : List Nat} : ops[i]? = some o → Ex (L, base + i * sp) (evOpG T call ops o env) h (base + i * sp) env1 h1 n (ts i) → n ≤ base + (i + 1) * sp →
      RunL T call ops L base sp ts l env1 h1 envF hF → RunL T call ops L base sp ts (i :: l) env h envF hF
variable {call : FuncId → List (D C) → Pg C (D C)} {ops : Array Oper} {L base sp : Nat} {ts : Nat → Tr}
theorem RunL.ext {l : List Nat} {env envF : Env C} {h hF : Heap C} (hr : RunL T call ops L base sp ts l env h envF hF) : ∀ (env' : Env C) (h' : Heap C), (∀ t, eget env' t = eget env t) → (∀ id, h'.get id = h.get id) → RunL T call ops L base sp ts l env' h' envF hF := by
  induction hr with
  | nil h1 h2 => intro env' h' e1 e2; exact .nil (fun t => (e1 t).trans (h1 t)) fun id => (e2 id).trans (h2 id)
  | @cons env env1 envF h h1 hF i n o l ho hx hn _ ih =>
    intro env' h' e1 e2
    obtain ⟨v, env3, q1, q2, q3⟩ := evOpG_eq call ops o env env' (fun t _ => (e1 t).symm) hx
    obtain ⟨g', k1, k2, k3⟩ := Ex.local q2 (Nat.le_refl _) h' (fun id _ _ _ => e2 id) (fun id _ _ => e2 id)
    refine .cons ho k1 hn (ih env3 g' (fun t => by rw [q1, q3]; simp [e1]) fun id => ?_)
    by_cases hin : base + i * sp ≤ id ∧ id < n
    · exact k2 id hin.1 hin.2
    · have := k3 id (by simp; omega)
      by_cases hm : (id, true) ∈ ts i
      · exact this.1 hm
      · rw [(this.2 hm).1, (this.2 hm).2, e2]
def Away (a b : Tr) : Prop := ∀ id u v, (id, u) ∈ a → (id, v) ∈ b → u = false ∧ v = false
theorem apartT_spec {a b : Tr} (h : apartT a b = true) : Away a b := by
  intro id u v hu hv
  simp only [apartT, List.all_eq_true] at h
  have := h (id, u) hu (id, v) hv
  simpa using this
inductive Shp (C : Cdc) where
  | var (t : TypeId)
  | vec (t : C.Ty) (own : Bool) (n : Nat)
  | map
def shp : Obj C → Shp C
  | .var t _ => .var t
  | .vec t own l => .vec t own l.length
  | .map _ _ _ => .map
inductive ShPg {α : Type} : Pg C α → Prop where
  | ret (a : α) : ShPg (.ret a)
  | fail : ShPg .fail
  | br {b : Bool} {x y : Pg C α} : ShPg x → ShPg y → ShPg (.br b x y)
  | rd {id : Nat} {k : Obj C → Pg C α} : (∀ o, ShPg (k o)) → (∀ o o', shp o = shp o' → k o = k o') → ShPg (.rd id k)
theorem ShPg.bind {α β : Type} {p : Pg C α} {f : α → Pg C β} (hp : ShPg p) (hf : ∀ a, ShPg (f a)) : ShPg (p.bind f) := by
  induction hp with
  | ret a => exact hf a
  | fail => exact .fail
  | br _ _ ix iy => exact .br ix iy
  | rd _ hk ih => exact .rd ih fun o o' h => by rw [hk o o' h]
theorem Ex.rd_intro {α : Type} {e : Pg.Lv} {id : Nat} {o : Obj C} {f : Obj C → Pg C α} {h h' : Heap C} {n n' : Nat} {a : α} {t : Tr} (hg : h.get id = some o) (hx : Ex e (f o) h n a h' n' t) : Ex e (.rd id f) h n a h' n' (t ++ [(id, false)]) := by
  unfold Ex at hx ⊢
  simp only [Pg.run, hg]
  rw [Pg.run_eq, hx]
  rfl
theorem ShPg.ex {α : Type} {p : Pg C α} (hp : ShPg p) : ∀ {e : Pg.Lv} {h h' : Heap C} {n n' : Nat} {a : α} {t : Tr}, Ex e p h n a h' n' t →
    h' = h ∧ n' = n ∧ ∀ (g : Heap C) (m : Nat), (∀ id, (g.get id).map shp = (h.get id).map shp) → Ex e p g m a g m t := by
  induction hp with
  | ret a =>
    intro e h h' n n' a' t hx
    obtain ⟨rfl, rfl, rfl, rfl⟩ := Ex.ret hx
    exact ⟨rfl, rfl, fun g m _ => by simp [Ex, Pg.run]⟩
  | fail => intro e h h' n n' a' t hx; exact (Ex.fail hx).elim
  | @br b x y _ _ ix iy =>
    intro e h h' n n' a' t hx
    rcases Ex.br hx with ⟨rfl, hx⟩ | ⟨rfl, hx⟩
    · obtain ⟨h1, h2, h3⟩ := ix hx
      exact ⟨h1, h2, fun g m hg => by have := h3 g m hg; simpa [Ex, Pg.run] using this⟩
    · obtain ⟨h1, h2, h3⟩ := iy hx
      exact ⟨h1, h2, fun g m hg => by have := h3 g m hg; simpa [Ex, Pg.run] using this⟩
  | @rd id k _ hk ih =>
    intro e h h' n n' a' t hx
    obtain ⟨o, t', ho, hy, rfl⟩ := Ex.rd hx
    obtain ⟨h1, h2, h3⟩ := ih o hy
    refine ⟨h1, h2, fun g m hg => ?_⟩
    have hgi := hg id
    rw [ho] at hgi
    cases hq : g.get id with
    | none => rw [hq] at hgi; cases hgi
    | some o' =>
      rw [hq] at hgi
      have hs : shp o' = shp o := Option.some.inj hgi
      exact Ex.rd_intro hq (by rw [hk o' o hs]; exact h3 g m hg)
theorem shPg_fieldAddr (s : TypeId) (x : D C) (i : Nat) : ShPg (evFieldAddr T s x i) := by
  unfold evFieldAddr
  split
  · rename_i fs _
    cases Nat.blt i fs.length
    · exact .fail
    · simp only [cond_true]
      split
      · refine .rd (fun o => ?_) fun o o' h => ?_
        · unfold faVar; split
          · rename_i u _
            cases decide (tyAt T u _ = some s)
            · exact .fail
            · exact .ret _
          · exact .fail
        · cases o <;> cases o' <;> simp only [shp, Shp.var.injEq, reduceCtorEq] at h
          · subst h; rfl
          all_goals rfl
      · refine .rd (fun o => ?_) fun o o' h => ?_
        · unfold faVec; split
          · refine .br ?_ .fail
            rename_i ty _ _
            cases Nat.beq s (T.ety ty)
            · exact .fail
            · exact .ret _
          · exact .fail
        · cases o <;> cases o' <;> simp only [shp, Shp.vec.injEq, reduceCtorEq] at h
          · rfl
          · obtain ⟨rfl, rfl, hl⟩ := h
            simp only [faVec, hl]
          all_goals rfl
      · rename_i d
        cases fit T d (.inl s)
        · exact .fail
        · simp only [cond_true]
          split
          · exact .ret _
          · exact .fail
      · exact .fail
  · exact .fail
theorem shPg_indexAddr (t : TypeId) (x i : D C) : ShPg (evIndexAddr T t x i) := by
  unfold evIndexAddr
  split
  · rename_i k n
    split
    · rename_i e ty0 _
      split
      · rename_i ty _ l
        cases decide (ty = ty0)
        · exact .fail
        · exact .br (.ret _) .fail
      · refine .rd (fun o => ?_) fun o o' h => ?_
        · unfold ixVec; split
          · rename_i ty _ _
            cases decide (ty = ty0)
            · exact .fail
            · exact .br (.ret _) .fail
          · exact .fail
        · cases o <;> cases o' <;> simp only [shp, Shp.vec.injEq, reduceCtorEq] at h
          · rfl
          · obtain ⟨rfl, rfl, hl⟩ := h
            simp only [ixVec, hl]
          all_goals rfl
      · split
        · rename_i ty _
          cases decide (ty = ty0)
          · exact .fail
          · exact .br (.ret _) .fail
        · exact .fail
      · exact .fail
    · split
      · refine .br ?_ .fail
        split
        · exact .ret _
        · exact .fail
      · exact .fail
    · split
      · refine .rd (fun o => ?_) fun o o' h => ?_
        · unfold ixVar; split
          · rename_i u _
            cases decide (tyAt T u _ = some t)
            · exact .fail
            · exact .br (.ret _) .fail
          · exact .fail
        · cases o <;> cases o' <;> simp only [shp, Shp.var.injEq, reduceCtorEq] at h
          · subst h; rfl
          all_goals rfl
      · rename_i ty m' l
        cases fit T (.arr ty m' l : D C) (.inl t)
        · exact .fail
        · exact .br (.ret _) .fail
      · exact .fail
    · split
      · refine .rd (fun o => ?_) fun o o' h => ?_
        · unfold ixVar; split
          · rename_i u _
            cases decide (tyAt T u _ = some t)
            · exact .fail
            · exact .br (.ret _) .fail
          · exact .fail
        · cases o <;> cases o' <;> simp only [shp, Shp.var.injEq, reduceCtorEq] at h
          · subst h; rfl
          all_goals rfl
      · rename_i d
        cases fit T d (.inl t)
        · exact .fail
        · refine .br ?_ .fail
          split
          · exact .ret _
          · exact .fail
      · exact .fail
    · exact .fail
  · exact .fail
theorem shPg_pins {i : Nat} {k : IntKind} {n : Int} {go : Env C → Pg C (Env C)} (hg : ∀ env, ShPg (go env)) (w : Bool) (env : Env C) : ∀ l : List Int, ShPg (pins i k n go w env l)
  | [] => by cases w; exact hg env; exact .fail
  | j :: l => .br (hg _) (shPg_pins hg w env l)
theorem shPg_op (call : FuncId → List (D C) → Pg C (D C)) (ops : Array Oper) {o : Oper} (ho : addrOp o = true) (env : Env C) : ShPg (evOpG T call ops o env) := by
  have hev : ∀ ev : Operand → D C, ShPg (evOp T call o ev) := fun ev => by
    unfold addrOp at ho
    unfold evOp
    split at ho
    · rename_i q; rw [q]; exact shPg_fieldAddr _ _ _
    · rename_i q; rw [q]; exact shPg_indexAddr _ _ _
    · cases ho
  have hgo : ∀ env, ShPg (pinC T o (fun env => .bind (evOp T call o (evAt env)) fun d => .ret (put env o.dst d)) env) := fun env => by
    have h0 : ∀ env : Env C, ShPg ((evOp T call o (evAt env)).bind fun d => .ret (put env o.dst d)) := fun env => (hev _).bind fun d => .ret _
    unfold pinC
    split
    · split
      · exact shPg_pins h0 _ _ _
      · exact h0 _
    · exact h0 _
  unfold evOpG
  split
  · exact hgo env
  · rename_i j want _
    split
    · split
      · cases want
        · exact .br (.ret _) (hgo _)
        · exact .br (hgo _) (.ret _)
      · exact .ret _
      · exact .fail
    · exact .fail
theorem shp_put {h : Heap C} {id : Nat} {o o' : Obj C} (hg : h.get id = some o) (hs : shp o' = shp o) : ∀ i, ((h.put id o').get i).map shp = (h.get i).map shp := fun i => by
  rw [get_put (by rw [hg]; rfl)]
  by_cases e : i = id
  · subst e; rw [if_pos rfl, hg, Option.map_some, Option.map_some, hs]
  · rw [if_neg e]
theorem store_shape (call : FuncId → List (D C) → Pg C (D C)) (ops : Array Oper) {o : Oper} (ho : storeOp o = true) {env env' : Env C} {e : Pg.Lv} {h h' : Heap C} {n n' : Nat} {t : Tr} (hx : Ex e (evOpG T call ops o env) h n env' h' n' t) :
    ∀ id, (h'.get id).map shp = (h.get id).map shp := by
  have hev : ∀ {ev : Operand → D C} {d : D C} {h h' : Heap C} {n n' : Nat} {t : Tr}, Ex e (evOp T call o ev) h n d h' n' t → ∀ id, (h'.get id).map shp = (h.get id).map shp := by
    intro ev d h h' n n' t hx
    unfold storeOp at ho
    split at ho
    · rename_i ty a x q
      unfold evOp at hx
      rw [q] at hx
      simp only [evStore] at hx
      split at hx
      · obtain ⟨o', t', ho', hy, _⟩ := Ex.rd hx
        unfold stVar at hy
        split at hy
        · split at hy
          · rename_i u _ d' t2 _ _
            revert hy
            cases fit T (typed T ty (ev x)) (.inl ty) && fit T (typed T ty (ev x)) (.inl t2) with
            | false => intro hy; exact (Ex.fail hy).elim
            | true =>
              intro hy
              obtain ⟨o2, t2, h2, hz, _⟩ := Ex.wr hy
              obtain ⟨_, rfl, _, _⟩ := Ex.ret hz
              exact shp_put ho' rfl
          · exact (Ex.fail hy).elim
        · exact (Ex.fail hy).elim
      · obtain ⟨o', t', ho', hy, _⟩ := Ex.rd hx
        unfold stVec at hy
        split at hy
        · split at hy
          · split at hy
            · rcases Ex.br hy with ⟨_, hy⟩ | ⟨_, hy⟩
              · revert hy
                cases fit T (typed T ty (ev x)) (.inl ty) with
                | false => intro hy; exact (Ex.fail hy).elim
                | true =>
                  intro hy
                  obtain ⟨o2, t2, h2, hz, _⟩ := Ex.wr hy
                  obtain ⟨_, rfl, _, _⟩ := Ex.ret hz
                  exact shp_put ho' (by simp [shp])
              · exact (Ex.fail hy).elim
            · exact (Ex.fail hy).elim
          · exact (Ex.fail hy).elim
        · exact (Ex.fail hy).elim
      · exact (Ex.fail hx).elim
    · cases ho
  have hpin : ∀ (f : Env C), pinC T o (fun env => .bind (evOp T call o (evAt env)) fun d => .ret (put env o.dst d)) f = (evOp T call o (evAt f)).bind fun d => .ret (put f o.dst d) := fun f => by
    unfold storeOp at ho
    split at ho
    · rename_i q
      unfold pinC pinOf
      rw [q]
    · cases ho
  have hgo : ∀ {f : Env C} {h h' : Heap C} {n n' : Nat} {t : Tr}, Ex e (pinC T o (fun env => .bind (evOp T call o (evAt env)) fun d => .ret (put env o.dst d)) f) h n env' h' n' t → ∀ id, (h'.get id).map shp = (h.get id).map shp := by
    intro f h h' n n' t hx
    rw [hpin] at hx
    obtain ⟨d, h1, n1, t1, t2, q1, q2, _⟩ := Ex.bind hx
    obtain ⟨_, rfl, _, _⟩ := Ex.ret q2
    exact hev q1
  have hsk : ∀ {f : Env C} {h h' : Heap C} {n n' : Nat} {t : Tr}, Ex e (.ret f : Pg C (Env C)) h n env' h' n' t → ∀ id, (h'.get id).map shp = (h.get id).map shp := by
    intro f h h' n n' t hx
    obtain ⟨_, rfl, _, _⟩ := Ex.ret hx
    exact fun _ => rfl
  unfold evOpG at hx
  split at hx
  · exact hgo hx
  · rename_i j want _
    split at hx
    · split at hx
      · cases want
        · rcases Ex.br hx with ⟨_, hx⟩ | ⟨_, hx⟩
          · exact hsk hx
          · exact hgo hx
        · rcases Ex.br hx with ⟨_, hx⟩ | ⟨_, hx⟩
          · exact hgo hx
          · exact hsk hx
      · exact hsk hx
      · exact (Ex.fail hx).elim
    · exact (Ex.fail hx).elim
def Fresh (base sp : Nat) (l : List Nat) (h : Heap C) : Prop := ∀ i ∈ l, ∀ id, base + i * sp ≤ id → id < base + (i + 1) * sp → h.get id = none
theorem ranges {sp i k : Nat} (hne : i ≠ k) {id base : Nat} (h1 : base + i * sp ≤ id) (h2 : id < base + (i + 1) * sp) (h3 : base + k * sp ≤ id) (h4 : id < base + (k + 1) * sp) : False := by
  rcases Nat.lt_or_gt_of_ne hne with h | h
  · have : (i + 1) * sp ≤ k * sp := Nat.mul_le_mul_right _ h
    omega
  · have : (k + 1) * sp ≤ i * sp := Nat.mul_le_mul_right _ h
    omega
theorem Fresh.step {l : List Nat} {h h1 : Heap C} {i n : Nat} {p : Pg C (Env C)} {env1 : Env C} {t : Tr} (hf : Fresh base sp l h) (hx : Ex (L, base + i * sp) p h (base + i * sp) env1 h1 n t) (hn : n ≤ base + (i + 1) * sp) (hi : i ∉ l) : Fresh base sp l h1 := by
  intro k hk id h2 h3
  cases hg : h1.get id with
  | none => rfl
  | some o =>
    have := (Ex.doms hx).2 id (hf k hk id h2 h3) (by simp [hg])
    exact (ranges (i := i) (k := k) (by rintro rfl; exact hi hk) (id := id) (base := base) (sp := sp) (by omega) (by omega) h2 h3).elim
theorem RunL.swap {k i : Nat} {l : List Nat} {env envF : Env C} {h hF : Heap C} {ok oi : Oper} (hok : ops[k]? = some ok) (hoi : ops[i]? = some oi) (hne : k ≠ i) (hf : Fresh base sp [k, i] h)
    (hap : ok.apart ops oi = true) (haw : Away (ts k) (ts i)) (hr : RunL T call ops L base sp ts (k :: i :: l) env h envF hF) : RunL T call ops L base sp ts (i :: k :: l) env h envF hF := by
  obtain ⟨a1, a2, a3⟩ := Oper.apart_spec hap
  cases hr with
  | @cons _ env1 _ _ h1 _ _ nk o _ ho hk hnk hr =>
  cases hr with
  | @cons _ env2 _ _ h2 _ _ ni o' _ ho' hi hni hr =>
  obtain rfl : ok = o := by rw [hok] at ho; exact Option.some.inj ho
  obtain rfl : oi = o' := by rw [hoi] at ho'; exact Option.some.inj ho'
  have dk := Ex.doms hk
  have di := Ex.doms hi
  obtain ⟨_, _, _, lk⟩ := Ex.local hk (Nat.le_refl _) h (fun _ _ _ _ => rfl) (fun _ _ _ => rfl)
  have fk : ∀ id, base + k * sp ≤ id → id < base + (k + 1) * sp → h.get id = none := fun id => hf k (by simp) id
  have fi : ∀ id, base + i * sp ≤ id → id < base + (i + 1) * sp → h.get id = none := fun id => hf i (by simp) id
  have rk : ∀ id, base + k * sp ≤ id → id < nk → base + i * sp ≤ id → id < ni → False := fun id q1 q2 q3 q4 => ranges hne q1 (by omega) q3 (by omega)
  -- the touched numbers of k lie outside i's range
  have tk : ∀ id w, (id, w) ∈ ts k → ¬ (base + i * sp ≤ id ∧ id < base + (i + 1) * sp) := by
    intro id w hm ⟨q1, q2⟩
    rcases dk.1 id w hm with h' | h'
    · simp [fi id q1 q2] at h'
    · exact ranges hne h'.1 (by omega) q1 q2
  -- the touched numbers of i lie outside k's range
  have ti : ∀ id w, (id, w) ∈ ts i → ¬ (base + k * sp ≤ id ∧ id < base + (k + 1) * sp) := by
    intro id w hm ⟨q1, q2⟩
    rcases di.1 id w hm with h' | h'
    · have := dk.2 id (fk id q1 q2) h'
      have := haw id true w this.2.2 hm
      simp at this
    · exact ranges hne q1 q2 h'.1 (by omega)
  -- i from the start
  obtain ⟨vk, _, ek1, _, _⟩ := evOpG_eq call ops ok env env (fun _ _ => rfl) hk
  obtain ⟨vi, envA, ei1, ei2, ei3⟩ := evOpG_eq call ops oi env1 env (fun t ht => by
    rw [ek1]
    have : ok.dst ≠ some t := fun hd => a1 t hd ht
    simp [this]) hi
  obtain ⟨hA, xi, xi1, xi2⟩ := Ex.local ei2 (Nat.le_refl _) h (fun id w hm hout => by
      have hnt : (id, true) ∉ ts k := fun hq => by have := haw id true w hq hm; simp at this
      by_cases hin : base + k * sp ≤ id ∧ id < nk
      · exact (ti id w hm ⟨hin.1, by omega⟩).elim
      · exact ((lk id (by simp; omega)).2 hnt).2.symm) (fun id q1 q2 => by
      have hnt : (id, true) ∉ ts k := fun hq => tk id true hq ⟨q1, by omega⟩
      have hin : ¬ (base + k * sp ≤ id ∧ id < nk) := fun hq => rk id hq.1 hq.2 q1 q2
      exact ((lk id (by simp; omega)).2 hnt).2.symm)
  -- k behind it
  obtain ⟨vk', envB, ek1', ek2, ek3⟩ := evOpG_eq call ops ok env envA (fun t ht => by
    rw [ei3]
    have : oi.dst ≠ some t := fun hd => a3 t hd ht
    simp [this]) hk
  obtain ⟨hB, xk, xk1, xk2⟩ := Ex.local ek2 (Nat.le_refl _) hA (fun id w hm hout => by
      have hnt : (id, true) ∉ ts i := fun hq => by have := haw id w true hm hq; simp at this
      have hin : ¬ (base + i * sp ≤ id ∧ id < ni) := fun hq => tk id w hm ⟨hq.1, by omega⟩
      exact ((xi2 id (by simp; omega)).2 hnt).1) (fun id q1 q2 => by
      have hnt : (id, true) ∉ ts i := fun hq => ti id true hq ⟨q1, by omega⟩
      have hin : ¬ (base + i * sp ≤ id ∧ id < ni) := fun hq => rk id q1 q2 hq.1 hq.2
      exact ((xi2 id (by simp; omega)).2 hnt).1)
  refine .cons hoi xi hni (.cons hok xk hnk (hr.ext envB hB (fun t => ?_) fun id => ?_))
  · rw [ek3, ei3, ei1]
    by_cases hdi : oi.dst = some t
    · have hdk : ok.dst ≠ some t := fun hd => a2 t hd hdi
      simp [hdi, hdk]
    · simp only [hdi, if_false]
      by_cases hdk : ok.dst = some t
      · have e1 := ek1 t
        have e2 := ek1' t
        simp only [hdk, if_true] at e1 e2 ⊢
        rw [e2]
      · have e1 := ek1 t
        simp only [hdk, if_false] at e1 ⊢
        exact e1.symm
  · by_cases hink : base + k * sp ≤ id ∧ id < nk
    · have hini : ¬ (base + i * sp ≤ id ∧ id < ni) := fun hq => rk id hink.1 hink.2 hq.1 hq.2
      have hnt : (id, true) ∉ ts i := fun hq => ti id true hq ⟨hink.1, by omega⟩
      rw [xk1 id hink.1 hink.2, ((xi2 id (by simp; omega)).2 hnt).2]
    · have kk := xk2 id (by simp; omega)
      by_cases hini : base + i * sp ≤ id ∧ id < ni
      · have hnt : (id, true) ∉ ts k := fun hq => tk id true hq ⟨hini.1, by omega⟩
        rw [(kk.2 hnt).1, xi1 id hini.1 hini.2]
      · have ii := xi2 id (by simp; omega)
        by_cases hmk : (id, true) ∈ ts k
        · have hnt : (id, true) ∉ ts i := fun hq => by have := haw id true true hmk hq; simp at this
          rw [kk.1 hmk, (ii.2 hnt).2]
        · rw [(kk.2 hmk).1]
          by_cases hmi : (id, true) ∈ ts i
          · exact ii.1 hmi
          · rw [(ii.2 hmi).1, (ii.2 hmi).2, (kk.2 hmk).2]
theorem RunL.swap2 {k i : Nat} {l : List Nat} {env envF : Env C} {h hF : Heap C} {ok oi : Oper} (hok : ops[k]? = some ok) (hoi : ops[i]? = some oi)
    (hap : ok.apart ops oi = true) (hpr : (addrOp ok = true ∧ storeOp oi = true) ∨ (storeOp ok = true ∧ addrOp oi = true)) (hr : RunL T call ops L base sp ts (k :: i :: l) env h envF hF) : RunL T call ops L base sp ts (i :: k :: l) env h envF hF := by
  obtain ⟨a1, a2, a3⟩ := Oper.apart_spec hap
  cases hr with
  | @cons _ env1 _ _ h1 _ _ nk o _ ho hk hnk hr =>
  cases hr with
  | @cons _ env2 _ _ h2 _ _ ni o' _ ho' hi hni hr =>
  obtain rfl : ok = o := by rw [hok] at ho; exact Option.some.inj ho
  obtain rfl : oi = o' := by rw [hoi] at ho'; exact Option.some.inj ho'
  obtain ⟨vk, _, ek1, _, _⟩ := evOpG_eq call ops ok env env (fun _ _ => rfl) hk
  obtain ⟨vi, envA, ei1, ei2, ei3⟩ := evOpG_eq call ops oi env1 env (fun t ht => by
    rw [ek1]
    have : ok.dst ≠ some t := fun hd => a1 t hd ht
    simp [this]) hi
  obtain ⟨vk', envB, ek1', ek2, ek3⟩ := evOpG_eq call ops ok env envA (fun t ht => by
    rw [ei3]
    have : oi.dst ≠ some t := fun hd => a3 t hd ht
    simp [this]) hk
  have henv : ∀ t, eget envB t = eget env2 t := fun t => by
    rw [ek3, ei3, ei1]
    by_cases hdi : oi.dst = some t
    · have hdk : ok.dst ≠ some t := fun hd => a2 t hd hdi
      simp [hdi, hdk]
    · simp only [hdi, if_false]
      by_cases hdk : ok.dst = some t
      · have e1 := ek1 t
        have e2 := ek1' t
        simp only [hdk, if_true] at e1 e2 ⊢
        rw [e2]
      · have e1 := ek1 t
        simp only [hdk, if_false] at e1 ⊢
        exact e1.symm
  rcases hpr with ⟨p1, p2⟩ | ⟨p1, p2⟩
  · -- an address, then a store: the store first
    obtain ⟨rfl, rfl, _⟩ := (shPg_op call ops p1 env).ex hk
    have hs := store_shape call ops p2 ei2
    obtain ⟨_, _, q⟩ := (shPg_op call ops p1 envA).ex ek2
    have xk := q h2 (base + k * sp) hs
    exact .cons hoi ei2 hni (.cons hok xk hnk (hr.ext envB h2 henv fun _ => rfl))
  · -- a store, then an address: the address first
    have hs := store_shape call ops p1 hk
    obtain ⟨rfl, rfl, q⟩ := (shPg_op call ops p2 env).ex ei2
    have xi := q h (base + i * sp) fun id => (hs id).symm
    exact .cons hoi xi hni (.cons hok ek2 hnk (hr.ext envB _ henv fun _ => rfl))
theorem RunL.first {i : Nat} {oi : Oper} (hoi : ops[i]? = some oi) : ∀ (pre post : List Nat) {env envF : Env C} {h hF : Heap C}, (pre ++ i :: post).Nodup → Fresh base sp (pre ++ i :: post) h →
    (∀ k ∈ pre, ∀ ok, ops[k]? = some ok → ok.apart ops oi = true ∧ (Away (ts k) (ts i) ∨ okPair ops k i = true)) → RunL T call ops L base sp ts (pre ++ i :: post) env h envF hF → RunL T call ops L base sp ts (i :: (pre ++ post)) env h envF hF := by
  intro pre
  induction pre with
  | nil => intro post env envF h hF hn hf ha hr; simpa using hr
  | cons k pre ih =>
    intro post env envF h hF hn hf ha hr
    rw [List.cons_append] at hr hn hf
    cases hr with
    | @cons _ env1 _ _ h1 _ _ nk ok _ hok hk hnk hr =>
    have hkn := List.nodup_cons.1 hn
    have hr' := ih post hkn.2 ((show Fresh base sp (pre ++ i :: post) h from fun j hj => hf j (List.mem_cons_of_mem _ hj)).step hk hnk hkn.1) (fun j hj => ha j (by simp [hj])) hr
    have hki : k ≠ i := by rintro rfl; exact hkn.1 (by simp)
    obtain ⟨q1, q2⟩ := ha k (by simp) ok hok
    rcases q2 with q2 | q2
    · exact RunL.swap hok hoi hki (fun j hj => hf j (by simp at hj; rcases hj with rfl | rfl <;> simp)) q1 q2 (.cons hok hk hnk hr')
    · unfold okPair at q2
      rw [hok, hoi] at q2
      simp only [Bool.or_eq_true, Bool.and_eq_true] at q2
      exact RunL.swap2 hok hoi q1 q2 (.cons hok hk hnk hr')
end
section
variable {C : Cdc} {P : Program} {T : Tab C}
open Pg (Ex)
theorem G.relim {X : Cx} {h : Heap C} {nx nx' : Nat} {lim lim' : Lim} (g : G T X h nx lim) (hh : ∀ id, old nx lim id → old nx' lim' id) (hl : lim'.lo ≤ nx') : G T X h nx' lim' :=
  ⟨g.var, g.vec, g.map, g.dom, fun id o ho => ⟨hh id (g.nums id o ho).1, fun r hr => hh r ((g.nums id o ho).2 r hr)⟩, g.apart, g.outer, g.outs, hl, g.pre⟩
theorem EnvOK.relim {X : Cx} {env env' : Env C} {tmps : Array Value} {nx nx' : Nat} {lim lim' : Lim} (g : EnvOK T X nx lim env tmps) (hh : ∀ id, old nx lim id → old nx' lim' id) (he : ∀ t, eget env' t = eget env t) : EnvOK T X nx' lim' env' tmps :=
  fun t => by rw [he]; exact ⟨(g t).1, fun id hi => hh id ((g t).2 id hi)⟩
theorem Step.relim {X X' : Cx} {nx nx' : Nat} {lim lim' : Lim} (s : Step X nx lim X') (hh : ∀ id, old nx' lim' id → old nx lim id) : Step X nx' lim' X' :=
  ⟨s.O, s.os, s.tape, s.output, s.size, fun id ho => s.ρ id (hh id ho), s.mine, s.cell, s.block, s.frz⟩
variable {call : FuncId → List (D C) → Pg C (D C)} {ops : Array Oper} {L base sp : Nat}
theorem RunL.congr {ts ts' : Nat → Tr} {l : List Nat} {env envF : Env C} {h hF : Heap C} (hr : RunL T call ops L base sp ts l env h envF hF) : (∀ j ∈ l, ts' j = ts j) → RunL T call ops L base sp ts' l env h envF hF := by
  induction hr with
  | nil h1 h2 => intro _; exact .nil h1 h2
  | cons ho hx hn _ ih => intro hh; exact .cons ho (by rw [hh _ (by simp)]; exact hx) hn (ih fun j hj => hh j (by simp [hj]))
theorem runL_of_evOpsT : ∀ (l : List Oper) (i : Nat), ops.toList.drop i = l → ∀ {e : Pg.Lv} {env envF : Env C} {h hF : Heap C} {n nF : Nat} {tr : Tr} {acc : List (Nat × Tr)}, Ex e (evOpsT T call ops base sp i l env acc) h n envF hF nF tr →
    n ≤ base + i * sp ∧ ∃ ts accF, RunL T call ops (e.1 + 1) base sp ts (List.range' i l.length) env h envF hF ∧ nF = base + (i + l.length) * sp ∧ noClash ops accF = true ∧ (∀ p ∈ acc, p ∈ accF) ∧ ∀ j, i ≤ j → j < i + l.length → ts j = [] ∨ (j, ts j) ∈ accF := by
  intro l
  induction l with
  | nil =>
    intro i hl e env envF h hF n nF tr acc hx
    simp only [evOpsT] at hx
    obtain ⟨hm, hx⟩ := Ex.upto hx
    rcases Ex.br hx with ⟨hb, hx⟩ | ⟨hb, hx⟩
    · obtain ⟨rfl, rfl, rfl, rfl⟩ := Ex.ret hx
      exact ⟨hm, fun _ => [], acc, .nil (fun _ => rfl) (fun _ => rfl), by simp, hb, fun p hp => hp, fun j h1 h2 => by simp at h2; omega⟩
    · exact (Ex.fail hx).elim
  | cons o l ih =>
    intro i hl e env envF h hF n nF tr acc hx
    simp only [evOpsT] at hx
    obtain ⟨hm, hx⟩ := Ex.upto hx
    obtain ⟨env1, h1, n1, t1, t2, q1, q2, _⟩ := Ex.sub hx
    have hlt : i < ops.toList.length := by
      rcases Nat.lt_or_ge i ops.toList.length with h | h
      · exact h
      · rw [List.drop_eq_nil_of_le h] at hl; simp at hl
    have hlo : ops.toList[i]? = some o := by
      rw [List.drop_eq_getElem_cons hlt] at hl
      rw [List.getElem?_eq_getElem hlt, (List.cons.inj hl).1]
    have hio : ops[i]? = some o := by rw [← Array.getElem?_toList]; exact hlo
    have hl2 : ops.toList.drop (i + 1) = l := by
      rw [List.drop_eq_getElem_cons hlt] at hl
      exact (List.cons.inj hl).2
    obtain ⟨k0, ts, accF, k1, k2, k3, k4, k5⟩ := ih (i + 1) hl2 q2
    refine ⟨hm, fun j => if j = i then t1 else ts j, accF, ?_, by rw [k2, List.length_cons, Nat.add_right_comm i 1 l.length]; rfl, k3, ?_, ?_⟩
    · rw [List.length_cons, List.range'_succ]
      refine .cons hio (by simpa using q1) k0 (k1.congr fun j hj => ?_)
      have := List.mem_range'_1.1 hj
      have hne : ¬ j = i := by omega
      simp [hne]
    · intro p hp
      refine k4 p ?_
      split
      · exact hp
      · simp [hp]
    · intro j hj1 hj2
      by_cases hj : j = i
      · subst hj
        simp only [if_true]
        cases t1 with
        | nil => exact .inl rfl
        | cons x t1 => exact .inr (k4 _ (by simp))
      · simp only [hj, if_false]
        exact k5 j (by omega) (by simp at hj2; omega)
theorem noClash_spec {accF : List (Nat × Tr)} (h : noClash ops accF = true) {a b : Nat × Tr} (ha : a ∈ accF) (hb : b ∈ accF) (hlt : a.1 < b.1) (hn : ¬ Bef ops a.1 b.1) : Away a.2 b.2 ∨ okPair ops a.1 b.1 = true := by
  simp only [noClash, List.all_eq_true] at h
  have := h a ha b hb
  simp only [Bool.or_eq_true, Bool.not_eq_true'] at this
  rcases this with ((h1 | h1) | h1) | h1
  · exact .inl (apartT_spec h1)
  · have h2 : Nat.blt a.1 b.1 = true := by rw [Nat.blt_eq]; exact hlt
    rw [h2] at h1; cases h1
  · exact (hn h1).elim
  · exact .inr h1
structure DrawOK (ops : Array Oper) : Prop where
  edges : ∀ i o, ops[i]? = some o → ∀ e ∈ o.after, Region.binds .any e = true → e.on < i
  apart : ∀ i j oi oj, i < j → ops[i]? = some oi → ops[j]? = some oj → Bef ops i j ∨ oi.apart ops oj = true
def HR (base sp N : Nat) (lim : Lim) (rest : List Nat) (id : Nat) : Prop := lim.H id ∨ (base + N * sp ≤ id ∧ id < lim.top) ∨ ∃ j ∈ rest, base + j * sp ≤ id ∧ id < base + (j + 1) * sp
def limR (base sp N : Nat) (lim : Lim) (rest : List Nat) : Lim := ⟨base, base, HR base sp N lim rest, fun id h1 h2 => by omega⟩
theorem old_limR {N : Nat} {lim : Lim} {rest : List Nat} {id : Nat} : old base (limR base sp N lim rest) id ↔ ¬ HR base sp N lim rest id := by
  unfold old limR
  simp only
  constructor
  · exact fun h => h.2
  · exact fun h => ⟨by omega, h⟩
theorem getD_same {listed : Array Bool} {j : Nat} (h : j < listed.size) : listed.getD j true = listed.getD j false := by simp [Array.getD_eq_getD_getElem?, h]
variable (K : PLaws P T)
include K
theorem drawn_ok {ro : Option Nat} {m : Nat} (hcall : CallOK P T call) {B : Nat → Bool} (hB : ∀ o ∈ ops.toList, ∀ t, o.dst = some t → B t = false) (hd : DrawOK ops) {ts : Nat → Tr} {lim : Lim} {envF : Env C} {hF : Heap C} (haw : ∀ i j, i < j → j < ops.size → ¬ Bef ops i j → Away (ts i) (ts j) ∨ okPair ops i j = true) (hlo : lim.lo ≤ base) (htop : base + ops.size * sp ≤ lim.top) {Q : Exit → Act → World → Prop} :
    ∀ (fuel : Nat) (rest : List Nat) (listed : Array Bool) (env : Env C) (h : Heap C) (X : Cx) (a : Act), rest.length ≤ fuel → rest.Pairwise (· < ·) → listed.size = ops.size → (∀ j, j ∈ rest ↔ j < ops.size ∧ listed.getD j true = false) →
      (∀ j o, listed.getD j false = true → ops[j]? = some o → ∀ e ∈ o.after, Region.binds .any e = true → listed.getD e.on false = true) → RunL T call ops L base sp ts rest env h envF hF → Fresh base sp rest h →
      G T X h base (limR base sp ops.size lim rest) → EnvOK T X base (limR base sp ops.size lim rest) env a.tmps → (∀ o ∈ ops.toList, ∀ t, o.dst = some t → t < a.tmps.size) →
      (∀ a' X', G T X' hF (base + ops.size * sp) lim → Step X base lim X' → EnvOK T X' (base + ops.size * sp) lim envF a'.tmps → a'.tmps.size = a.tmps.size → a'.defers = a.defers → Kp B a.tmps a'.tmps → Q .normal a' X'.w) →
      wpAnyIn (roF ro) m P .any ops Q fuel listed a X.w := by
  intro fuel
  induction fuel with
  | zero =>
    intro rest listed env h X a hlen hsort hsz hmem hcl hr hf g he hb hk
    obtain rfl : rest = [] := List.length_eq_zero_iff.1 (by omega)
    refine ⟨?_, ?_⟩
    · cases hq : Region.ready .any ops listed with
      | nil => rfl
      | cons j _ =>
        have : j ∈ Region.ready .any ops listed := by simp [hq]
        obtain ⟨h1, o, h2, _⟩ := mem_ready.1 this
        have := (hmem j).2 ⟨(Array.getElem?_eq_some_iff.1 h2).1, h1⟩
        simp at this
    · cases hr with
      | nil e1 e2 =>
        have hold : ∀ id, old base (limR base sp ops.size lim []) id → old (base + ops.size * sp) lim id := by
          intro id ho
          rw [old_limR] at ho
          unfold HR at ho
          simp only [List.not_mem_nil, false_and, exists_false, or_false, not_or] at ho
          exact ⟨by omega, ho.1⟩
        exact hk a X ((g.congr fun id => (e2 id).symm).relim hold (by omega)) (.refl _ _ _) (he.relim hold fun t => (e1 t).symm) rfl rfl (.refl _ _)
  | succ fuel ih =>
    intro rest listed env h X a hlen hsort hsz hmem hcl hr hf g he hb hk
    refine ⟨fun hnil => ?_, fun i hi => ?_⟩
    · cases rest with
      | nil =>
        cases hr with
        | nil e1 e2 =>
          have hold : ∀ id, old base (limR base sp ops.size lim []) id → old (base + ops.size * sp) lim id := by
            intro id ho
            rw [old_limR] at ho
            unfold HR at ho
            simp only [List.not_mem_nil, false_and, exists_false, or_false, not_or] at ho
            exact ⟨by omega, ho.1⟩
          exact hk a X ((g.congr fun id => (e2 id).symm).relim hold (by omega)) (.refl _ _ _) (he.relim hold fun t => (e1 t).symm) rfl rfl (.refl _ _)
      | cons r rest =>
        exfalso
        have hr0 := (hmem r).1 (by simp)
        have : r ∈ Region.ready .any ops listed := by
          rw [mem_ready]
          refine ⟨hr0.2, ops[r]'hr0.1, by simp [hr0.1], fun e hee hbb => ?_⟩
          have hlt := hd.edges r _ (by simp [hr0.1]) e hee hbb
          cases hq : listed.getD e.on false with
          | true => rfl
          | false =>
            have hm := (hmem e.on).2 ⟨by omega, by rw [getD_same (by omega)]; exact hq⟩
            simp only [List.mem_cons] at hm
            rcases hm with hm | hm
            · omega
            · have := (List.pairwise_cons.1 hsort).1 _ hm; omega
        rw [hnil] at this
        simp at this
    · obtain ⟨hl, oi, hoi, hedges⟩ := mem_ready.1 hi
      have hiN : i < ops.size := (Array.getElem?_eq_some_iff.1 hoi).1
      have hir := (hmem i).2 ⟨hiN, hl⟩
      obtain ⟨pre, post, rfl⟩ := List.append_of_mem hir
      have hnd : (pre ++ i :: post).Nodup := hsort.imp fun {x y} (hxy : x < y) => by omega
      have hpre : ∀ k ∈ pre, k < i := fun k hk => (List.pairwise_append.1 hsort).2.2 k hk i (by simp)
      have hr' := RunL.first hoi pre post hnd hf (fun k hk ok hok => by
        have hlt := hpre k hk
        have hnb : ¬ Bef ops k i := fun hbef => by
          have hlk := Bef.listed (ops := ops) (L := fun j => listed.getD j false = true) (fun j o h1 h2 e h3 h4 => hcl j o h1 h2 e h3 h4) i k hbef (fun o ho e h1 h2 => by
            rw [hoi] at ho; obtain rfl := Option.some.inj ho; exact hedges e h1 h2)
          have hk2 := (hmem k).1 (by simp [hk])
          rw [getD_same (by omega)] at hk2
          rw [hk2.2] at hlk; cases hlk
        exact ⟨(hd.apart k i ok oi hlt hok hoi).resolve_left hnb, haw k i hlt hiN hnb⟩) hr
      cases hr' with
      | @cons _ env1 _ _ h1 _ _ n o _ ho hx hn hrun =>
      obtain rfl : oi = o := by rw [hoi] at ho; exact Option.some.inj ho
      have hni : i ∉ pre ++ post := by
        intro hm
        rw [List.nodup_append] at hnd
        simp only [List.mem_append] at hm
        rcases hm with hm | hm
        · exact hnd.2.2 i hm i (by simp) rfl
        · exact (List.nodup_cons.1 hnd.2.1).1 hm
      have hbnd : ∀ j, j < ops.size → base + (j + 1) * sp ≤ base + ops.size * sp := fun j hj => by
        have : (j + 1) * sp ≤ ops.size * sp := Nat.mul_le_mul_right _ hj
        omega
      have hrest : ∀ j, j ∈ pre ++ post → j < ops.size := fun j hj => ((hmem j).1 (by simp at hj ⊢; rcases hj with hj | hj <;> simp [hj])).1
      let limi : Lim := ⟨base + i * sp, base + (i + 1) * sp, HR base sp ops.size lim (pre ++ post), fun id q1 q2 => by
        have hb1 := hbnd i hiN
        rintro (q3 | q3 | ⟨j, q3, q4, q5⟩)
        · exact lim.ok id (by omega) (by omega) q3
        · omega
        · exact ranges (i := i) (k := j) (by rintro rfl; exact hni q3) q1 q2 q4 q5⟩
      have ho1 : ∀ id, old base (limR base sp ops.size lim (pre ++ i :: post)) id → old (base + i * sp) limi id := by
        intro id hid
        rw [old_limR] at hid
        unfold HR at hid
        simp only [not_or, not_exists, not_and] at hid
        refine ⟨?_, ?_⟩
        · have := hid.2.2 i (by simp)
          show id < base + i * sp ∨ base + (i + 1) * sp ≤ id
          omega
        · rintro (q3 | q3 | ⟨j, q3, q4, q5⟩)
          · exact hid.1 q3
          · exact hid.2.1 q3.1 q3.2
          · exact hid.2.2 j (by simp at q3 ⊢; rcases q3 with q3 | q3 <;> simp [q3]) q4 q5
      have ho2 : ∀ id, old n limi id → old base (limR base sp ops.size lim (pre ++ post)) id := fun id hid => old_limR.2 hid.2
      have ho3 : ∀ id, old base lim id → old (base + i * sp) limi id := by
        intro id hid
        have hb1 := hbnd i hiN
        have hc := hid.1
        refine ⟨?_, ?_⟩
        · show id < base + i * sp ∨ base + (i + 1) * sp ≤ id
          rcases hc with hc | hc
          · exact .inl (by omega)
          · exact .inr (by omega)
        · rintro (q3 | q3 | ⟨j, q3, q4, q5⟩)
          · exact hid.2 q3
          · rcases hc with hc | hc
            · have : base ≤ base + ops.size * sp := Nat.le_add_right _ _
              omega
            · omega
          · have := hbnd j (hrest j q3)
            rcases hc with hc | hc
            · have : base ≤ base + j * sp := Nat.le_add_right _ _
              omega
            · omega
      refine evOpG_ok K hcall (g.relim ho1 (Nat.le_refl _)) (he.relim ho1 fun _ => rfl) (lim := limi) hn hoi (fun t ht => hb oi (List.mem_of_getElem? (by rw [Array.getElem?_toList]; exact hoi)) t ht) (fun t ht => hB oi (List.mem_of_getElem? (by rw [Array.getElem?_toList]; exact hoi)) t ht) hx fun a' X' g' s' e' hs hdf hkp => ?_
      have hsl : (pre ++ post).Sublist (pre ++ i :: post) := List.Sublist.append_left (List.sublist_cons_self _ _) _
      refine ih (pre ++ post) (listed.setIfInBounds i true) env1 h1 X' a' (by simp at hlen ⊢; omega) (hsort.sublist hsl) (by simp [hsz]) (fun j => ?_) (fun j o hj hoj e h3 h4 => ?_) hrun
        ((show Fresh base sp (pre ++ post) h from fun j hj => hf j (hsl.subset hj)).step hx hn hni) (g'.relim ho2 (Nat.le_refl _)) (e'.relim ho2 fun _ => rfl) (fun o ho t ht => by rw [hs]; exact hb o ho t ht) fun a2 X2 g2 s2 e2 hs2 hd2 hkp2 => ?_
      · by_cases hji : j = i
        · subst hji
          simp only [hni, false_iff, not_and]
          intro _
          simp [hsz, hiN]
        · rw [getD_set_ne true (Ne.symm hji), ← hmem j]
          simp [hji]
      · by_cases hji : j = i
        · subst hji
          rw [hoi] at hoj; obtain rfl := Option.some.inj hoj
          exact getD_set_true (hedges e h3 h4)
        · rw [getD_set_ne false (Ne.symm hji)] at hj
          exact getD_set_true (hcl j o hj hoj e h3 h4)
      · exact hk a2 X2 g2 ((s'.relim ho3).trans s2 (Nat.le_refl _)) e2 (by omega) (by rw [hd2, hdf]) (hkp.trans hkp2)
theorem draw_ok {ro : Option Nat} {m : Nat} {X : Cx} {h h' : Heap C} {nx nx' : Nat} {e : Pg.Lv} {lim : Lim} {tr : Tr} {env env' : Env C} {a : Act} (hcall : CallOK P T call) {B : Nat → Bool} (hB : ∀ o ∈ ops.toList, ∀ t, o.dst = some t → B t = false) (hm : P.follows .mixedOrders = true) (hd : DrawOK ops) (g : G T X h nx lim) (he : EnvOK T X nx lim env a.tmps)
    (hlim : nx' ≤ lim.top) (hb : ∀ o ∈ ops.toList, ∀ t, o.dst = some t → t < a.tmps.size) (hx : Ex e (evOpsT T call ops nx sp 0 ops.toList env []) h nx env' h' nx' tr) {id : Nat} {Q : Exit → Act → World → Prop}
    (hk : ∀ a' X', G T X' h' nx' lim → Step X nx lim X' → EnvOK T X' nx' lim env' a'.tmps → a'.tmps.size = a.tmps.size → a'.defers = a.defers → Kp B a.tmps a'.tmps → Q .normal a' X'.w) : (Code.region id ops true).wpIn (roF ro) m P Q a X.w := by
  obtain ⟨_, ts, accF, k1, k2, k3, _, k5⟩ := runL_of_evOpsT ops.toList 0 rfl hx
  simp only [Nat.zero_add, Array.length_toList] at k1 k2 k5
  subst k2
  obtain ⟨gw, sw⟩ := g.world K.base { X.w with drawn := X.w.drawn + 1 } rfl rfl rfl rfl
  refine wpIn_region_any hm ?_
  have hold : ∀ i, old nx lim i → old nx (limR nx sp ops.size lim (List.range' 0 ops.size)) i := by
    intro i hi
    rw [old_limR]
    have hc := hi.1
    have h0 : nx ≤ nx + ops.size * sp := Nat.le_add_right _ _
    rintro (q3 | q3 | ⟨j, q3, q4, q5⟩)
    · exact hi.2 q3
    · omega
    · have hj := (List.mem_range'_1.1 q3).2
      have : (j + 1) * sp ≤ ops.size * sp := Nat.mul_le_mul_right _ (by omega)
      have : nx ≤ nx + j * sp := Nat.le_add_right _ _
      omega
  refine drawn_ok K hcall hB hd (ts := ts) (fun i j hij hj hn => ?_) g.low hlim ops.size (List.range' 0 ops.size) _ env h ⟨{ X.w with drawn := X.w.drawn + 1 }, X.ρ, X.O⟩ a (by simp) (List.pairwise_lt_range') (by simp) (fun j => ?_) (fun j o hj => ?_) k1 ?_
    (gw.relim hold (Nat.le_refl _)) ((he.step K.base sw (Nat.le_refl _)).relim hold fun _ => rfl) hb fun a' X' g' s' e' hs hdf hkp => ?_
  · rcases k5 i (by omega) (by omega) with h1 | h1
    · rw [h1]; refine .inl ?_; intro _ _ _ hm; simp at hm
    · rcases k5 j (by omega) hj with h2 | h2
      · rw [h2]; refine .inl ?_; intro _ _ _ _ hm; simp at hm
      · exact noClash_spec k3 h1 h2 hij hn
  · simp only [List.mem_range'_1, Nat.zero_add, Nat.zero_le, true_and]
    constructor
    · intro h; simp [Array.getD_eq_getD_getElem?, h]
    · exact fun h => h.1
  · exfalso
    by_cases hjn : j < ops.size
    · simp [Array.getD_eq_getD_getElem?, hjn] at hj
    · simp [Array.getD_eq_getD_getElem?, hjn] at hj
  · intro j hj i q1 q2
    cases hg : h.get i with
    | none => rfl
    | some o =>
      exfalso
      have := hold i (g.nums i o hg).1
      rw [old_limR] at this
      exact this (.inr (.inr ⟨j, hj, q1, q2⟩))
  · exact hk a' X' g' (sw.trans s' (Nat.le_refl _)) e' hs hdf hkp
end
section
variable {C : Cdc} {P : Program} {T : Tab C}
open Pg (Ex)
variable (K : PLaws P T)
def resM (tmps : Array Value) : ResultVar → Sem Value
  | .tmp t => pure (tmps.getD t undef)
  | .cell a t => do loadVar t (← asAddr (tmps.getD a undef))
theorem loadAt_addr {t : TypeId} {va v : Value} {w : World} (h : (Instr.loadAt t va).run P w = .ok v w) : (do loadVar t (← asAddr va) : Sem Value).run P w = .ok v w := by
  unfold Instr.loadAt Instr.sureAddr at h
  split at h
  · simpa [asAddr] using h
  · simp [stuck] at h
include K in
theorem results_ok {X : Cx} {h : Heap C} {nx : Nat} {lim : Lim} {env : Env C} {tmps : Array Value} (g : G T X h nx lim) (he : EnvOK T X nx lim env tmps) : ∀ (rs : List ResultVar) {e : Pg.Lv} {l : List (D C)} {h' : Heap C} {nx' : Nat} {tr : Tr},
    Ex e (resultD T env rs) h nx l h' nx' tr → h' = h ∧ nx' = nx ∧ ∃ vs, (rs.mapM (resM tmps)).run P X.w = .ok vs X.w ∧ RVs T X l vs ∧ ∀ d ∈ l, ∀ id ∈ D.refs d, old nx lim id := by
  intro rs
  induction rs with
  | nil =>
    intro e l h' nx' tr hx
    obtain ⟨rfl, rfl, rfl, rfl⟩ := Ex.ret hx
    exact ⟨rfl, rfl, [], by simp, .nil, by simp⟩
  | cons r rs ih =>
    intro e l h' nx' tr hx
    cases r with
    | tmp t =>
      simp only [resultD] at hx
      obtain ⟨l1, h1, n1, t1, t2, q1, hx, _⟩ := Ex.bind hx
      obtain ⟨rfl, rfl, rfl, rfl⟩ := Ex.ret hx
      obtain ⟨rfl, rfl, vs, a1, a2, a3⟩ := ih q1
      refine ⟨rfl, rfl, tmps.getD t undef :: vs, by simp only [List.mapM_cons, resM, Sem.run_bind, Sem.run_pure, Result.andThen_ok, a1], .cons (he t).1 a2, ?_⟩
      intro d hd
      simp only [List.mem_cons] at hd
      rcases hd with rfl | hd
      · exact (he t).2
      · exact a3 d hd
    | cell a t =>
      simp only [resultD] at hx
      obtain ⟨d1, h1, n1, t1, t2, q1, hy, _⟩ := Ex.bind hx
      obtain ⟨v, k1, e1, e2, k2⟩ := load_same K g (he a) q1
      subst e1; subst e2
      obtain ⟨l1, h2, n2, t3, t4, q2, hz, _⟩ := Ex.bind hy
      obtain ⟨rfl, rfl, rfl, rfl⟩ := Ex.ret hz
      obtain ⟨rfl, rfl, vs, a1, a2, a3⟩ := ih q2
      refine ⟨rfl, rfl, v :: vs, by simp only [List.mapM_cons, resM, Sem.run_bind, Sem.run_pure, Result.andThen_ok, a1]; rw [← Sem.run_bind, loadAt_addr k1]; simp [a1], .cons k2.1 a2, ?_⟩
      intro d hd
      simp only [List.mem_cons] at hd
      rcases hd with rfl | hd
      · exact k2.2
      · exact a3 d hd
end
section
variable {C : Cdc} {P : Program}
theorem R.monoE (T : Tab C) (L : Laws T) {X X' : Cx} (hX : ∀ b o v, X.w.cell? ⟨b, o, none⟩ = some v → X.free b o → X'.w.cell? ⟨b, o, none⟩ = some v ∧ X'.free b o) {m : Bool} {d : D C} {vs : List Value} (h : R T X m d vs) (hd : d.refs = [] ∧ d.noYl = true) : R T X' m d vs :=
  h.monoG T (y := false) L.encOK hX (fun h => by cases h) (by rw [hd.1]; simp) (.inr hd.2)
theorem RV.monoE (T : Tab C) (L : Laws T) {X X' : Cx} (hX : ∀ b o v, X.w.cell? ⟨b, o, none⟩ = some v → X.free b o → X'.w.cell? ⟨b, o, none⟩ = some v ∧ X'.free b o) {d : D C} {v : Value} (h : RV T X d v) (hd : d.refs = [] ∧ d.noYl = true) : RV T X' d v := by
  rcases h with ⟨h1, cs, h2, h3⟩ | ⟨h1, h2⟩
  · exact .inl ⟨h1, cs, h2.monoE T L hX hd, h3⟩
  · exact .inr ⟨h1, h2.monoE T L hX hd⟩
theorem EntsOK.move {T : Tab C} (L : Laws T) {X X' : Cx} (hX : ∀ b o v, X.w.cell? ⟨b, o, none⟩ = some v → X.free b o → X'.w.cell? ⟨b, o, none⟩ = some v ∧ X'.free b o) {ck cv : C.Ty} {l : List (C.A ck × C.A cv)} {es : List MapEntry} (h : EntsOK T X ck cv l es) : EntsOK T X' ck cv l es := by
  induction h with
  | nil => exact .nil
  | cons hk hv _ ih => exact .cons (hk.monoE T L hX (L.encOK _ _)) (hv.monoE T L hX (L.encOK _ _)) ih
variable {T : Tab C}
theorem VecOK.move (L : Laws T) {X X' : Cx} {t : C.Ty} {own : Bool} {l : List (C.A t)} {v : Value} {b lo hi : Nat} (h : VecOK T X t own l v b lo hi)
    (hX : ∀ b o v, X.w.cell? ⟨b, o, none⟩ = some v → X.free b o → X'.w.cell? ⟨b, o, none⟩ = some v ∧ X'.free b o)
    (hb : (∃ o, (Loc.vec v (T.ety t) b lo hi).owns b o) → X'.w.heap[b]? = X.w.heap[b]?) (hpos : 0 < T.size (T.ety t)) : VecOK T X' t own l v b lo hi := by
  have hR : ∀ cs, R T X false (.arr t l.length l) cs → R T X' false (.arr t l.length l) cs := fun cs hr => hr.monoE T L hX ⟨rfl, rfl⟩
  rcases h with h2 | ⟨off, cp, h2, h3, h4, h5⟩
  · exact .inl h2
  · refine .inr ⟨off, cp, h2, h3, h4, ?_⟩
    rcases h5 with ⟨ht, hlo, h5 | ⟨cs, e, h5, h6, h7⟩⟩ | ⟨ht, hlo, ⟨cs, h5, h6⟩, h7⟩
    · exact .inl ⟨ht, hlo, .inl h5⟩
    · by_cases hc : cp = 0
      · exact .inl ⟨ht, hlo, .inl hc⟩
      · have hm : T.size (T.ety t) ≤ cp * T.size (T.ety t) := Nat.le_mul_of_pos_left _ (by omega)
        have e1 := hb ⟨off, rfl, by omega, by omega⟩
        exact .inl ⟨ht, hlo, .inr ⟨cs, e, by rw [e1]; exact h5, h6, hR _ h7⟩⟩
    · refine .inr ⟨ht, hlo, ⟨cs, fun j u hj => hX _ _ _ (h5 j u hj).1 (h5 j u hj).2, hR _ h6⟩, ?_⟩
      rcases h7 with h7 | ⟨c0, e, h7, h8⟩
      · exact .inl h7
      · by_cases hc : cp = l.length
        · exact .inl hc
        · have hm : (l.length + 1) * T.size (T.ety t) ≤ cp * T.size (T.ety t) := Nat.mul_le_mul_right _ (by omega)
          have e1 := hb ⟨lo, rfl, by omega, by rw [Nat.succ_mul] at hm; omega⟩
          exact .inr ⟨c0, e, by rw [e1]; exact h7, h8⟩
theorem Laws.posE (L : Laws T) (t : C.Ty) : 0 < T.size (T.ety t) := by
  refine L.pos _ fun hn => ?_
  have := L.encFit t (T.dflt t)
  revert this
  cases T.enc t (T.dflt t) <;> simp [fit, hn]
theorem cell_congr {w w' : World} {a : Addr} (h : w'.heap[a.block]? = w.heap[a.block]?) : w'.cell? a = w.cell? a := by unfold World.cell?; rw [h]
theorem frozen_congr {w w' : World} {a : Addr} (h : w'.heap[a.block]? = w.heap[a.block]?) : w'.frozen? a = w.frozen? a := by unfold World.frozen?; rw [h]
structure Turn1 (X : Cx) (r : Nat) (w' : World) : Prop where
  size : w'.heap.size = X.w.heap.size
  block : ∀ b, b ≠ r → w'.heap[b]? = X.w.heap[b]?
  mine : ∀ o, ¬ X.mine r o
  nocell : ∀ c t f, X.w.heap[r]? ≠ some (.cells c t f)
  os : w'.os = X.w.os
  tape : w'.tape = X.w.tape
  output : w'.output = X.w.output
theorem Turn1.cell {X : Cx} {r : Nat} {w' : World} (t : Turn1 X r w') : ∀ b o v, X.w.cell? ⟨b, o, none⟩ = some v → X.free b o → (⟨w', X.ρ, X.O⟩ : Cx).w.cell? ⟨b, o, none⟩ = some v ∧ (⟨w', X.ρ, X.O⟩ : Cx).free b o := by
  intro b o v hc hf
  refine ⟨?_, hf⟩
  have hb : b ≠ r := by
    rintro rfl
    unfold World.cell? at hc
    cases hh : X.w.heap[b]? with
    | none => simp [hh] at hc
    | some ob => cases ob <;> simp [hh] at hc; exact absurd hh (t.nocell _ _ _)
  rw [show (⟨w', X.ρ, X.O⟩ : Cx).w = w' from rfl, cell_congr (t.block b hb)]; exact hc
theorem putObj_turn {X : Cx} {r : Nat} {o o' : Go.Obj} (ho : X.w.heap[r]? = some o) (hn : ∀ c t f, o ≠ .cells c t f) (hm : ∀ q, ¬ X.mine r q) : Turn1 X r (X.w.putObj r o') :=
  ⟨World.putObj_size, fun b hb => World.putObj_heap_other hb, hm, fun c t f h => by rw [ho] at h; exact hn c t f (Option.some.inj h), rfl, rfl, rfl⟩
theorem RO.turn (L : Laws T) {X : Cx} {r : Nat} {w' : World} (t : Turn1 X r w') {nx : Nat} {lim : Lim} {d : D C} {v : Value} (h : RO T X nx lim d v) (hy : d.noYl = true) : RO T ⟨w', X.ρ, X.O⟩ nx lim d v := by
  refine ⟨?_, h.2⟩
  have one : ∀ m cs, R T X m d cs → R T ⟨w', X.ρ, X.O⟩ m d cs := fun m cs hr => hr.monoG T (y := false) L.encOK t.cell (fun h => by cases h) (fun id _ => Compat.refl _) (.inr hy)
  rcases h.1 with ⟨h1, cs, h2, h3⟩ | ⟨h1, h2⟩
  · exact .inl ⟨h1, cs, one _ _ h2, h3⟩
  · exact .inr ⟨h1, one _ _ h2⟩
theorem G.turn (L : Laws T) {X : Cx} {h : Heap C} {nx : Nat} {lim : Lim} (g : G T X h nx lim) {r : Nat} {w' : World} (t : Turn1 X r w') : G T ⟨w', X.ρ, X.O⟩ h nx lim where
  var id u d hg := by
    obtain ⟨b, c, e1, e2, e3, e4⟩ := g.var id u d hg
    have hb : b ≠ r := by rintro rfl; exact t.mine 0 ⟨id, _, e1, rfl⟩
    exact ⟨b, c, e1, (t.block b hb).trans e2, e3.monoG T (y := false) L.encOK t.cell (fun h => by cases h) (fun id _ => Compat.refl _) (.inr (fit_noYl _ _ e4)), e4⟩
  vec id u own l hg := by
    obtain ⟨v, b, lo, hi, e1, e2⟩ := g.vec id u own l hg
    refine ⟨v, b, lo, hi, e1, e2.move L t.cell (fun ⟨o, ho⟩ => ?_) (L.posE u)⟩
    have hb : b ≠ r := by rintro rfl; exact t.mine o ⟨id, _, e1, ho⟩
    exact t.block b hb
  map id ck cv l hg := by
    obtain ⟨b, es, k, e1, e2, e3⟩ := g.map id ck cv l hg
    have hb : b ≠ r := by rintro rfl; exact t.mine 0 ⟨id, _, e1, rfl⟩
    exact ⟨b, es, k, e1, (t.block b hb).trans e2, e3.move L t.cell⟩
  dom := g.dom
  nums := g.nums
  apart := g.apart
  outer b o hm := by rw [t.size]; exact g.outer b o hm
  outs b o ho := by rw [t.size]; exact g.outs b o ho
  low := g.low
  pre p hp := by
    obtain ⟨⟨u, f, h1⟩, h2⟩ := g.pre p hp
    have hb : p.1 ≠ r := by
      intro e
      rw [e] at h1
      exact t.nocell _ _ _ h1
    exact ⟨⟨u, f, (t.block _ hb).trans h1⟩, h2⟩
theorem Step.turn {X0 X : Cx} {nx : Nat} {lim : Lim} (s : Step X0 nx lim X) {r : Nat} {w' : World} (t : Turn1 X r w') (hr : X0.w.heap.size ≤ r) : Step X0 nx lim ⟨w', X.ρ, X.O⟩ where
  O := s.O
  os := t.os.trans s.os
  tape := t.tape.trans s.tape
  output := t.output.trans s.output
  size := by rw [t.size]; exact s.size
  ρ := s.ρ
  mine := s.mine
  cell b o hb hm := (cell_congr (t.block b (by omega))).trans (s.cell b o hb hm)
  block b hb hm := (t.block b (by omega)).trans (s.block b hb hm)
  frz a ha := (frozen_congr (t.block a.block (by omega))).trans (s.frz a ha)
theorem Step.back {X0 X2 : Cx} {nx : Nat} {lim : Lim} {r : Nat} {w1 w3 : World} (t1 : Turn1 X0 r w1) (s : Step ⟨w1, X0.ρ, X0.O⟩ nx lim X2) (t3 : Turn1 X2 r w3) (hr : w3.heap[r]? = X0.w.heap[r]?) : Step X0 nx lim ⟨w3, X2.ρ, X2.O⟩ where
  O := s.O
  os := (t3.os.trans s.os).trans t1.os
  tape := (t3.tape.trans s.tape).trans t1.tape
  output := (t3.output.trans s.output).trans t1.output
  size := by rw [t3.size, ← t1.size]; exact s.size
  ρ := s.ρ
  mine b o hb hm := s.mine b o (by rw [← t1.size] at hb; exact hb) hm
  cell b o hb hm := by
    by_cases e : b = r
    · subst e; exact cell_congr hr
    · exact ((cell_congr (t3.block b e)).trans (s.cell b o (by rw [← t1.size] at hb; exact hb) hm)).trans (cell_congr (t1.block b e))
  block b hb hm := by
    by_cases e : b = r
    · subst e; exact hr
    · exact ((t3.block b e).trans (s.block b (by rw [← t1.size] at hb; exact hb) hm)).trans (t1.block b e)
  frz a ha := by
    by_cases e : a.block = r
    · exact frozen_congr (by rw [e]; exact hr)
    · exact ((frozen_congr (t3.block _ e)).trans (s.frz a (by rw [← t1.size] at ha; exact ha))).trans (frozen_congr (t1.block _ e))
def markOf (r : Nat) : Deferred := { target := .collected r, args := #[] }
def Marks (X X' : Cx) (ds base : List Deferred) : Prop :=
  ∃ rs : List Nat, ds = rs.map markOf ++ base ∧ rs.Nodup ∧ ∀ r ∈ rs, X.w.heap.size ≤ r ∧ X'.w.heap[r]? = some (.deferred (some [])) ∧ ∀ o, ¬ X'.mine r o
theorem Marks.of_eq {X X' : Cx} {ds base : List Deferred} (h : ds = base) : Marks X X' ds base := ⟨[], by simp [h], List.nodup_nil, fun r hr => by simp at hr⟩
theorem Marks.refl (X X' : Cx) (ds : List Deferred) : Marks X X' ds ds := .of_eq rfl
theorem Marks.trans0 {X X1 X2 : Cx} {d0 d1 d2 : List Deferred} (h : Marks X X1 d1 d0) (hsz : X.w.heap.size ≤ X1.w.heap.size) (hb : ∀ r, r < X1.w.heap.size → (∀ o, ¬ X1.mine r o) → X2.w.heap[r]? = X1.w.heap[r]? ∧ ∀ o, ¬ X2.mine r o) (k : Marks X1 X2 d2 d1) : Marks X X2 d2 d0 := by
  obtain ⟨r1, rfl, n1, h1⟩ := h
  obtain ⟨r2, rfl, n2, h2⟩ := k
  refine ⟨r2 ++ r1, by simp, ?_, ?_⟩
  · rw [List.nodup_append]
    refine ⟨n2, n1, fun a ha b hb e => ?_⟩
    subst e
    have q1 := (h2 a ha).1
    have q2 := (Array.getElem?_eq_some_iff.1 (h1 a hb).2.1).1
    omega
  · intro r hr
    rcases List.mem_append.1 hr with hr | hr
    · obtain ⟨q1, q2, q3⟩ := h2 r hr
      exact ⟨Nat.le_trans hsz q1, q2, q3⟩
    · obtain ⟨q1, q2, q3⟩ := h1 r hr
      have hl := (Array.getElem?_eq_some_iff.1 q2).1
      obtain ⟨p1, p2⟩ := hb r hl q3
      exact ⟨q1, p1.trans q2, p2⟩
theorem Marks.trans {X X1 X2 : Cx} {nx n1 : Nat} {lim lim1 : Lim} {d0 d1 d2 : List Deferred} (h : Marks X X1 d1 d0) (s : Step X nx lim X1) (s2 : Step X1 n1 lim1 X2) (k : Marks X1 X2 d2 d1) : Marks X X2 d2 d0 :=
  h.trans0 s.size (fun r hl q3 => ⟨s2.block r hl q3, fun o ho => q3 o (s2.mine r o hl ho)⟩) k
theorem Marks.sub {X X1 X2 : Cx} {d0 d1 : List Deferred} (h : Marks X X1 d1 d0) (hw : X2.w = X1.w) (hm : ∀ b o, b < X1.w.heap.size → X2.mine b o → X1.mine b o) : Marks X X2 d1 d0 := by
  obtain ⟨r1, rfl, n1, h1⟩ := h
  exact ⟨r1, rfl, n1, fun r hr => ⟨(h1 r hr).1, by rw [hw]; exact (h1 r hr).2.1, fun o ho => (h1 r hr).2.2 o (hm r o (Array.getElem?_eq_some_iff.1 (h1 r hr).2.1).1 ho)⟩⟩
theorem Kps.refl (X : Cx) : Kps X X := ⟨fun _ _ _ h1 h2 => ⟨h1, h2⟩, fun _ _ h1 h2 => ⟨h1, h2⟩⟩
theorem G.mine_kind {X : Cx} {h : Heap C} {nx : Nat} {lim : Lim} (g : G T X h nx lim) {b o : Nat} (hm : X.mine b o) : (∃ c t f, X.w.heap[b]? = some (.cells c t f)) ∨ ∃ es k, X.w.heap[b]? = some (.map es k) := by
  obtain ⟨id, l, hl, ho⟩ := hm
  have hd := g.dom id l hl
  cases hg : h.get id with
  | none => rw [hg] at hd; cases hd
  | some ob =>
    cases ob with
    | var t d =>
      obtain ⟨b', c, e1, e2, _⟩ := g.var id t d hg
      rw [hl] at e1
      obtain rfl := Option.some.inj e1
      obtain rfl : b = b' := ho
      exact .inl ⟨_, _, _, e2⟩
    | map ck cv m =>
      obtain ⟨b', es, k, e1, e2, _⟩ := g.map id ck cv m hg
      rw [hl] at e1
      obtain rfl := Option.some.inj e1
      obtain rfl : b = b' := ho
      exact .inr ⟨_, _, e2⟩
    | vec t own m =>
      obtain ⟨v, b', lo, hi, e1, e2⟩ := g.vec id t own m hg
      rw [hl] at e1
      obtain rfl := Option.some.inj e1
      obtain ⟨rfl, h1, h2⟩ : b = b' ∧ lo ≤ o ∧ o < hi := ho
      rcases e2 with ⟨_, _, h3⟩ | ⟨off, cp, _, _, h4, h5⟩
      · omega
      · rcases h5 with ⟨_, h6, h7 | ⟨c, e, h7, _⟩⟩ | ⟨_, h6, _, h7 | ⟨c, e, h7, _⟩⟩
        · rw [h7] at h4; omega
        · exact .inl ⟨_, _, _, h7⟩
        · rw [h7] at h4; omega
        · exact .inl ⟨_, _, _, h7⟩
theorem G.mine_loop {X : Cx} {h : Heap C} {nx : Nat} {lim : Lim} (g : G T X h nx lim) {b o : Nat} (hm : X.mine b o) {r : Loop} : X.w.heap[b]? ≠ some (.loop r) := by
  rcases g.mine_kind hm with ⟨_, _, _, e⟩ | ⟨_, _, e⟩ <;> rw [e] <;> intro h <;> cases h
theorem Marks.of_g {X Xa Xb X2 : Cx} {h : Heap C} {nx : Nat} {lim : Lim} (g : G T X2 h nx lim) {d d0 : List Deferred} (k : Marks Xa Xb d d0) (ha : X.w.heap.size ≤ Xa.w.heap.size) (hb : X2.w = Xb.w) : Marks X X2 d d0 := by
  obtain ⟨rs, rfl, n1, h1⟩ := k
  refine ⟨rs, rfl, n1, fun r hr => ?_⟩
  obtain ⟨q1, q2, _⟩ := h1 r hr
  rw [← hb] at q2
  refine ⟨Nat.le_trans ha q1, q2, fun o ho => ?_⟩
  rcases g.mine_kind ho with ⟨_, _, _, e⟩ | ⟨_, _, e⟩ <;> rw [e] at q2 <;> cases q2
theorem Marks.since {X X1 X2 : Cx} {nx : Nat} {lim : Lim} {d d' : List Deferred} (s : Step X nx lim X1) (k : Marks X1 X2 d' d) : Marks X X2 d' d := by
  obtain ⟨r2, rfl, n2, h2⟩ := k
  exact ⟨r2, rfl, n2, fun r hr => ⟨Nat.le_trans s.size (h2 r hr).1, (h2 r hr).2⟩⟩
theorem leaves_marks (K : PLaws P T) {fn : Func} {tmps : Array Value} {R : Ending → World → Prop} {n : Nat} {X0 : Cx} {nx0 : Nat} {h : Heap C} {nx : Nat} {lim : Lim} {env : Env C} : ∀ (rs : List Nat) (X : Cx), rs.Nodup → (∀ r ∈ rs, X0.w.heap.size ≤ r ∧ X.w.heap[r]? = some (.deferred (some [])) ∧ ∀ o, ¬ X.mine r o) →
    G T X h nx lim → Step X0 nx0 lim X → (∀ t, RO T X nx lim (eget env t) (tmps.getD t undef)) →
    (∀ X', G T X' h nx lim → Step X0 nx0 lim X' → (∀ t, RO T X' nx lim (eget env t) (tmps.getD t undef)) → ∃ v, (results fn tmps).run P X'.w = .ok v X'.w ∧ R (.returned v) X'.w) →
    LeavesInM Fence.wide n P fn tmps R (rs.map markOf) .returning X.w := by
  intro rs
  induction rs with
  | nil => intro X _ _ g s he hk; exact hk X g s he
  | cons r rs ih =>
    intro X hn hr g s he hk
    obtain ⟨q1, q2, q3⟩ := hr r (by simp)
    obtain ⟨hn1, hn2⟩ := List.nodup_cons.1 hn
    have t : Turn1 X r (X.w.putObj r (.deferred none)) := putObj_turn q2 (fun c t f h => by cases h) q3
    refine ⟨by simp, .inl ⟨r, X.w.putObj r (.deferred none), rfl, run_takeDeferred q2, ?_⟩⟩
    have hkp : Kps X ⟨X.w.putObj r (.deferred none), X.ρ, X.O⟩ := ⟨t.cell, fun l rc hl hm => ⟨(t.block l (by rintro rfl; rw [q2] at hl; cases hl)).trans hl, hm⟩⟩
    refine ih ⟨X.w.putObj r (.deferred none), X.ρ, X.O⟩ hn2 (fun r' hr' => ?_) (g.turn K.base t) (s.turn t q1) (fun u => ⟨(he u).1.mono T K.base.encOK hkp fun id _ => Compat.refl _, (he u).2⟩) hk
    obtain ⟨p1, p2, p3⟩ := hr r' (by simp [hr'])
    exact ⟨p1, (t.block r' (by rintro rfl; exact hn1 hr')).trans p2, p3⟩
end
section
variable {C : Cdc} {P : Program} {T : Tab C} {Φ : Fns C}
open Pg (Ex)
def exitX : Ev.X → Exit
  | .normal => .normal
  | .exit id => .exit id
  | .ret => .ret
def loops : Code → List Code
  | .seq a b => loops a ++ loops b
  | .cond _ a b => loops a ++ loops b
  | .block _ a => loops a
  | .loop a => a :: loops a
  | _ => []
theorem opsB_spec {nt : Nat} {ops : Array Oper} (h : opsB nt ops = true) : ∀ o ∈ ops.toList, ∀ t, o.dst = some t → t < nt := by
  intro o ho t ht
  simp only [opsB, List.all_eq_true] at h
  have := h o ho
  rw [ht] at this
  simpa [Nat.blt_eq] using this
theorem drawB_spec {ops : Array Oper} (h : drawB ops = true) : DrawOK ops := by
  simp only [drawB, List.all_eq_true, Bool.and_eq_true] at h
  have mem : ∀ i o, ops[i]? = some o → (o, i) ∈ ops.toList.zipIdx := by
    intro i o hi
    rw [List.mem_zipIdx_iff_getElem?]
    rw [Array.getElem?_toList]; exact hi
  refine ⟨fun i o hi e he hb => ?_, fun i j oi oj hij hi hj => ?_⟩
  · have := (h (o, i) (mem i o hi)).1 e (by simpa using he)
    simpa [hb, Nat.blt_eq] using this
  · have := (h (oi, i) (mem i oi hi)).2 (oj, j) (mem j oj hj)
    simp only [Bool.or_eq_true, Bool.not_eq_true'] at this
    rcases this with (h1 | h1) | h1
    · have h2 : Nat.blt i j = true := by rw [Nat.blt_eq]; exact hij
      rw [h2] at h1; cases h1
    · exact .inl h1
    · exact .inr h1
def ClearC (B : Nat → Bool) (c : Code) : Prop := ∀ t ∈ asgL c, B t = false
def CPost (T : Tab C) (B : Nat → Bool) (X : Cx) (nx : Nat) (lim : Lim) (h' : Heap C) (nx' : Nat) (env' : Env C) (a : Act) (Q : Act → World → Prop) : Prop :=
  ∀ a' X', G T X' h' nx' lim → Step X nx lim X' → EnvOK T X' nx' lim env' a'.tmps → a'.tmps.size = a.tmps.size → Marks X X' a'.defers a.defers → Kp B a.tmps a'.tmps → Q a' X'.w
def BareLaw (P : Program) (T : Tab C) (g : FuncId) (args : List (D C)) (d : D C) : Prop :=
  ∀ (w : World) (O : Nat → Nat → Prop) (vs : List Value), (∀ b o, O b o → b < w.heap.size) → (∀ p ∈ T.pre, ∃ t f, w.heap[p.1]? = some (.cells p.2 t f)) → RVs T ⟨w, fun _ => none, O⟩ args vs →
    (callFunc g ⟨vs⟩).run P w = .ok (.enter g ⟨vs⟩) w ∧ Calls P g ⟨vs⟩ w fun en w' =>
      ∃ v ρ, en = .returned v ∧ RV T ⟨w', ρ, O⟩ d v ∧ (d.refs = [] ∧ d.noYl = true) ∧ w.heap.size ≤ w'.heap.size ∧ (∀ b, b < w.heap.size → w'.heap[b]? = w.heap[b]?) ∧ w'.os = w.os ∧ w'.tape = w.tape ∧ w'.output = w.output ∧ (∀ a : Addr, a.block < w.heap.size → w'.frozen? a = w.frozen? a)
theorem BareLaw.call (K : PLaws P T) {g : FuncId} {args : List (D C)} {d : D C} (hb : BareLaw P T g args d) (hargs : ∀ a ∈ args, D.refs a = []) {X : Cx} {hp : Heap C} {nx : Nat} {lim : Lim} {vs : List Value} (g0 : G T X hp nx lim) (hvs : RVs T X args vs) :
    (callFunc g ⟨vs⟩).run P X.w = .ok (.enter g ⟨vs⟩) X.w ∧ Calls P g ⟨vs⟩ X.w (CallPost T X nx lim hp nx d) := by
  have hkeep : Kps X ⟨X.w, fun _ => none, fun b o => X.O b o ∨ X.mine b o⟩ :=
    ⟨fun b o v hc hf => ⟨hc, fun h => h.elim hf.1 hf.2, fun ⟨_, _, hq, _⟩ => by simp at hq⟩, fun l r hl _ => ⟨hl, fun o ⟨_, _, hq, _⟩ => by simp at hq⟩⟩
  have hvs0 : RVs T ⟨X.w, fun _ => none, fun b o => X.O b o ∨ X.mine b o⟩ args vs := by
    clear hb
    induction hvs with
    | nil => exact .nil
    | @cons d ds v vs hv _ ih =>
      refine .cons (hv.mono T K.base.encOK (X' := ⟨X.w, fun _ => none, fun b o => X.O b o ∨ X.mine b o⟩) hkeep fun id hi => ?_) (ih fun a ha => hargs a (by simp [ha]))
      rw [hargs d (by simp)] at hi; simp at hi
  obtain ⟨q1, q2⟩ := hb X.w (fun b o => X.O b o ∨ X.mine b o) vs (fun b o ho => ho.elim (g0.outs b o) fun hm => (g0.outer b o hm).2) (fun p hp => (g0.pre p hp).1) hvs0
  refine ⟨q1, q2.mono fun en w' hpp => ?_⟩
  obtain ⟨v, ρ, rfl, r, hd, a1, a2, a3, a4, a5, a6⟩ := hpp
  obtain ⟨g', s'⟩ := g0.grow K.base w' a1 a2 a3 a4 a5 a6
  refine ⟨v, ⟨w', X.ρ, X.O⟩, rfl, rfl, g', s', ?_, by rw [hd.1]; simp⟩
  exact RV.monoE T K.base (X := ⟨w', ρ, fun b o => X.O b o ∨ X.mine b o⟩) (X' := ⟨w', X.ρ, X.O⟩) (fun b o u hc hf => ⟨hc, fun ho => hf.1 (Or.inl ho), fun hm => hf.1 (Or.inr hm)⟩) r hd
theorem R.plain {X X' : Cx} {m : Bool} {d : D C} {vs : List Value} (h : R T X m d vs) : d.plain = true → R T X' m d vs := by
  induction h with
  | bool b => exact fun _ => .bool b
  | int h => exact fun _ => .int h
  | str s => exact fun _ => .str s
  | anil => exact fun _ => .anil
  | acons _ _ i1 i2 => intro hp; simp only [D.plain, Bool.and_eq_true] at hp; exact .acons (i1 hp.1) (i2 hp.2)
  | nils => exact fun _ => .nils
  | nilp => exact fun _ => .nilp
  | nilfn => exact fun _ => .nilfn
  | nilm => exact fun _ => .nilm
  | tup _ ih => intro hp; exact .tup (ih hp)
  | vnil => exact fun _ => .vnil
  | vrow _ hr _ i1 i2 => intro hp; simp only [D.plain, Bool.and_eq_true] at hp; exact .vrow (i1 hp.1) hr (i2 hp.2)
  | vone _ hr _ i1 i2 => intro hp; simp only [D.plain, Bool.and_eq_true] at hp; exact .vone (i1 hp.1) hr (i2 hp.2)
  | _ => intro hp; simp [D.plain] at hp
theorem RV.plain {X X' : Cx} {d : D C} {v : Value} (h : RV T X d v) (hp : d.plain = true) : RV T X' d v := by
  rcases h with ⟨h1, cs, h2, h3⟩ | ⟨h1, h2⟩
  · exact .inl ⟨h1, cs, h2.plain hp, h3⟩
  · exact .inr ⟨h1, h2.plain hp⟩
def Cx.bare (X : Cx) : Cx := ⟨X.w, fun _ => none, X.O⟩
theorem Cx.bare_keep (X : Cx) : ∀ b o v, X.w.cell? ⟨b, o, none⟩ = some v → X.free b o → X.bare.w.cell? ⟨b, o, none⟩ = some v ∧ X.bare.free b o :=
  fun b o v hc hf => ⟨hc, hf.1, fun ⟨_, _, hq, _⟩ => by simp [Cx.bare] at hq⟩
theorem lend_vs (K : PLaws P T) {X : Cx} {h h' : Heap C} {nx nx' : Nat} {e : Pg.Lv} {lim : Lim} {tr : Tr} {id n : Nat} {d' : D C} {v : Value} (g : G T X h nx lim) (hr : R T X false (.vs id n) [v])
    (hx : Ex e (lendD (.vs id n)) h nx d' h' nx' tr) : h' = h ∧ nx' = nx ∧ R T X.bare false d' [v] ∧ d'.isRow = false := by
  simp only [lendD] at hx
  obtain ⟨o, t', ho, hx, _⟩ := Ex.rd hx
  cases o with
  | var t d => exact (Ex.fail hx).elim
  | map _ _ _ => exact (Ex.fail hx).elim
  | vec ty own l =>
    rcases Ex.br hx with ⟨hb, hx⟩ | ⟨hb, hx⟩
    · obtain ⟨rfl, rfl, rfl, rfl⟩ := Ex.ret hx
      have hn : n = l.length := Nat.eq_of_beq_eq_true hb
      obtain ⟨v0, b, lo, hi, h1, h2⟩ := g.vec id ty own l ho
      have hlen := h2.len
      refine ⟨rfl, rfl, ?_, rfl⟩
      cases hr with
      | @vs _ _ cp a hh =>
        have hv := (hh _ _ _ _ _ h1).2 (by rw [hlen, hn])
        rcases h2 with ⟨⟨a0, h2, _⟩, rfl, _⟩ | ⟨off, cp', h2, h3, h4, h5⟩
        · rw [h2] at hv
          simp only [Value.slice.injEq] at hv
          obtain ⟨_, e1, e2⟩ := hv
          rw [← e1, ← e2]
          exact .sl0 ty false a
        · rw [h2] at hv
          simp only [Value.slice.injEq] at hv
          obtain ⟨rfl, rfl, rfl⟩ := hv
          have hR : ∀ cs, R T X false (.arr ty l.length l) cs → R T X.bare false (.arr ty l.length l) cs := fun cs hr => hr.monoE T K.base X.bare_keep ⟨rfl, rfl⟩
          rcases h5 with ⟨_, hlo, h5⟩ | ⟨_, hlo, ⟨cs, h5, h6⟩, _⟩
          · rcases h5 with h5 | ⟨c, ce, h5, h6, h7⟩
            · have hl0 : l = [] := List.length_eq_zero_iff.1 (by omega)
              subst hl0
              exact .sl (cs := []) (fun j u hj => by simp at hj) (.arr0 _) h3 (fun h => by cases h)
            · refine .sl (cs := (c.toList.drop off).take (l.length * T.size (T.ety ty))) (fun j u hj => ?_) (hR _ h7) h3 (fun h => by cases h)
              have hlt : j < l.length * T.size (T.ety ty) := by
                have := (List.getElem?_eq_some_iff.1 hj).1
                rw [List.length_take] at this; omega
              have hmul : l.length * T.size (T.ety ty) ≤ cp' * T.size (T.ety ty) := Nat.mul_le_mul_right _ h3
              refine ⟨?_, (g.outer b (off + j) ⟨id, _, h1, rfl, by omega, by omega⟩).1, fun ⟨_, _, hq, _⟩ => by simp [Cx.bare] at hq⟩
              rw [List.getElem?_take_of_lt hlt, List.getElem?_drop] at hj
              show X.w.cell? _ = _
              simp only [World.cell?, h5]
              rw [← hj]; simp
          · exact .sl (cs := cs) (fun j u hj => X.bare_keep _ _ _ (h5 j u hj).1 (h5 j u hj).2) (hR _ h6) h3 (fun h => by cases h)
    · exact (Ex.fail hx).elim
theorem lend_ok (K : PLaws P T) : ∀ (d : D C) {m : Bool} {vs : List Value} {X : Cx} {h h' : Heap C} {nx nx' : Nat} {e : Pg.Lv} {lim : Lim} {tr : Tr} {d' : D C}, G T X h nx lim → R T X m d vs → Ex e (lendD d) h nx d' h' nx' tr →
    h' = h ∧ nx' = nx ∧ d'.isRow = d.isRow ∧ (d'.refs = [] → d'.noYl = true → R T X.bare m d' vs) := by
  intro d
  have same : ∀ (d0 : D C), lendD d0 = .ret d0 → ∀ {m : Bool} {vs : List Value} {X : Cx} {h h' : Heap C} {nx nx' : Nat} {e : Pg.Lv} {lim : Lim} {tr : Tr} {d' : D C}, G T X h nx lim → R T X m d0 vs → Ex e (lendD d0) h nx d' h' nx' tr →
      h' = h ∧ nx' = nx ∧ d'.isRow = d0.isRow ∧ (d'.refs = [] → d'.noYl = true → R T X.bare m d' vs) := by
    intro d0 hd m vs X h h' nx nx' e lim tr d' g hr hx
    rw [hd] at hx
    obtain ⟨rfl, rfl, rfl, rfl⟩ := Ex.ret hx
    exact ⟨rfl, rfl, rfl, fun h1 h2 => hr.monoE T K.base X.bare_keep ⟨h1, h2⟩⟩
  induction d with
  | acons d ds i1 i2 =>
    intro m vs X h h' nx nx' e lim tr d' g hr hx
    simp only [lendD] at hx
    obtain ⟨d1, h1, n1, t1, t2, q1, hx, _⟩ := Ex.bind hx
    obtain ⟨d2, h2, n2, t3, t4, q2, hx, _⟩ := Ex.bind hx
    obtain ⟨rfl, rfl, rfl, rfl⟩ := Ex.ret hx
    have hsplit : ∀ (a b : D C), (D.acons a b).refs = [] → a.refs = [] ∧ b.refs = [] := fun a b h => by simpa [D.refs] using h
    cases hr with
    | acons r1 r2 =>
      obtain ⟨rfl, rfl, _, k1⟩ := i1 g r1 q1
      obtain ⟨rfl, rfl, _, k2⟩ := i2 g r2 q2
      refine ⟨rfl, rfl, rfl, fun h1 h2 => ?_⟩
      simp only [D.noYl, Bool.and_eq_true] at h2
      exact .acons (k1 (hsplit _ _ h1).1 h2.1) (k2 (hsplit _ _ h1).2 h2.2)
    | vrow r1 hrow r2 =>
      obtain ⟨rfl, rfl, e1, k1⟩ := i1 g r1 q1
      obtain ⟨rfl, rfl, _, k2⟩ := i2 g r2 q2
      refine ⟨rfl, rfl, rfl, fun h1 h2 => ?_⟩
      simp only [D.noYl, Bool.and_eq_true] at h2
      exact .vrow (k1 (hsplit _ _ h1).1 h2.1) (by rw [e1]; exact hrow) (k2 (hsplit _ _ h1).2 h2.2)
    | vone r1 hrow r2 =>
      obtain ⟨rfl, rfl, e1, k1⟩ := i1 g r1 q1
      obtain ⟨rfl, rfl, _, k2⟩ := i2 g r2 q2
      refine ⟨rfl, rfl, rfl, fun h1 h2 => ?_⟩
      simp only [D.noYl, Bool.and_eq_true] at h2
      exact .vone (k1 (hsplit _ _ h1).1 h2.1) (by rw [e1]; exact hrow) (k2 (hsplit _ _ h1).2 h2.2)
  | tup d ih =>
    intro m vs X h h' nx nx' e lim tr d' g hr hx
    simp only [lendD] at hx
    obtain ⟨d1, h1, n1, t1, t2, q1, hx, _⟩ := Ex.bind hx
    obtain ⟨rfl, rfl, rfl, rfl⟩ := Ex.ret hx
    cases hr with
    | tup r1 =>
      obtain ⟨rfl, rfl, _, k1⟩ := ih g r1 q1
      exact ⟨rfl, rfl, rfl, fun h1 h2 => .tup (k1 h1 h2)⟩
  | vs id n =>
    intro m vs X h h' nx nx' e lim tr d' g hr hx
    have hm : m = false := by cases hr; rfl
    subst hm
    have hv : ∃ v, vs = [v] := by cases hr; exact ⟨_, rfl⟩
    obtain ⟨v, rfl⟩ := hv
    obtain ⟨rfl, rfl, k1, k2⟩ := lend_vs K g hr hx
    exact ⟨rfl, rfl, by rw [k2]; rfl, fun _ _ => k1⟩
  | asl _ _ _ _ _ => intro m vs X h h' nx nx' e lim tr d' g hr hx; exact (Ex.fail hx).elim
  | _ => exact same _ rfl
theorem lendL_ok (K : PLaws P T) : ∀ (args : List (D C)) {vs : List Value} {X : Cx} {h h' : Heap C} {nx nx' : Nat} {e : Pg.Lv} {lim : Lim} {tr : Tr} {args' : List (D C)}, G T X h nx lim → RVs T X args vs → Ex e (lendL args) h nx args' h' nx' tr →
    h' = h ∧ nx' = nx ∧ ((∀ a ∈ args', D.refs a = []) → (∀ a ∈ args', D.noYl a = true) → RVs T X.bare args' vs)
  | [], vs, X, h, h', nx, nx', e, lim, tr, args', g, hr, hx => by
    obtain ⟨rfl, rfl, rfl, rfl⟩ := Ex.ret hx
    cases hr
    exact ⟨rfl, rfl, fun _ _ => .nil⟩
  | d :: ds, vs, X, h, h', nx, nx', e, lim, tr, args', g, hr, hx => by
    simp only [lendL] at hx
    obtain ⟨d1, h1, n1, t1, t2, q1, hx, _⟩ := Ex.bind hx
    obtain ⟨d2, h2, n2, t3, t4, q2, hx, _⟩ := Ex.bind hx
    obtain ⟨rfl, rfl, rfl, rfl⟩ := Ex.ret hx
    cases hr with
    | @cons _ _ v vs' rv rs =>
      have key : h1 = h ∧ n1 = nx ∧ (d1.refs = [] → d1.noYl = true → RV T X.bare d1 v) := by
        rcases rv with ⟨i1, cs, r1, rfl⟩ | ⟨i1, r1⟩
        · obtain ⟨a, b, c, k⟩ := lend_ok K d g r1 q1
          exact ⟨a, b, fun u1 u2 => .inl ⟨by rw [c]; exact i1, cs, k u1 u2, rfl⟩⟩
        · obtain ⟨a, b, c, k⟩ := lend_ok K d g r1 q1
          exact ⟨a, b, fun u1 u2 => .inr ⟨by rw [c]; exact i1, k u1 u2⟩⟩
      obtain ⟨rfl, rfl, k1⟩ := key
      obtain ⟨rfl, rfl, k2⟩ := lendL_ok K ds g rs q2
      exact ⟨rfl, rfl, fun h1 h2 => .cons (k1 (h1 _ (by simp)) (h2 _ (by simp))) (k2 (fun a ha => h1 a (by simp [ha])) (fun a ha => h2 a (by simp [ha])))⟩
structure FLaws (P : Program) (T : Tab C) (Φ : Fns C) : Prop where
  fn : ∀ f fn, Φ.fn f = some fn → P.funcs[f]? = some fn ∧ (fn.name == "runtime.NumGoroutine") = false ∧ ∀ body, fn.body = some body → codeB fn.ntmps body = true
  spec : ∀ g s args d, Φ.spec g = some s → s args = some (true, d) → (∀ a ∈ args, D.refs a = []) ∧ BareLaw P T g args d
  ospec : ∀ g s, Φ.ospec g = some s → ∀ args vs X h nx lim e d h' nx' tr, G T X h nx lim → RVs T X args vs → (∀ a ∈ args, ∀ id ∈ D.refs a, old nx lim id) → nx' ≤ lim.top → Ex e (s args) h nx d h' nx' tr →
    (callFunc g ⟨vs⟩).run P X.w = .ok (.enter g ⟨vs⟩) X.w ∧ Calls P g ⟨vs⟩ X.w (CallPost T X nx lim h' nx' d)
  loop : ∀ f fn body b s, Φ.fn f = some fn → fn.body = some body → b ∈ loops body → Φ.loop f (firstRegion b) = some s → ∀ B, ClearC B b → ∀ X h nx lim e env x env' h' nx' tr a Q, G T X h nx lim → EnvOK T X nx lim env a.tmps → nx' ≤ lim.top → fn.ntmps ≤ a.tmps.size →
    Ex e (s env) h nx (x, env') h' nx' tr → CPost T B X nx lim h' nx' env' a (Q (exitX x)) → (Code.loop b).wp P Q a X.w
theorem eget_app : ∀ (env env' : Env C) (t : Nat), eget (env ++ env') t = eget env t ∨ eget (env ++ env') t = eget env' t
  | [], env', t => .inr rfl
  | (j, d) :: r, env', t => by
    rw [List.cons_append, eget_cons, eget_cons]
    split
    · exact .inl rfl
    · exact eget_app r env' t
theorem keepE_in {l : List Nat} {t : Nat} (h : l.any (Nat.beq t) = true) : ∀ env : Env C, eget (keepE l env) t = .top
  | [] => rfl
  | (j, d) :: r => by
    rw [keepE]
    cases hj : l.any (Nat.beq j) with
    | true => exact keepE_in h r
    | false =>
      simp only [cond_false]
      rw [eget_cons]
      have : t ≠ j := fun e => by rw [e, hj] at h; cases h
      simp only [this, if_false]
      exact keepE_in h r
theorem keepE_out {l : List Nat} {t : Nat} (h : l.any (Nat.beq t) = false) : ∀ env : Env C, eget (keepE l env) t = eget env t
  | [] => rfl
  | (j, d) :: r => by
    rw [keepE, eget_cons]
    cases hj : l.any (Nat.beq j) with
    | true =>
      have : t ≠ j := fun e => by rw [e, hj] at h; cases h
      simp only [this, if_false, cond_true]
      exact keepE_out h r
    | false =>
      simp only [cond_false]
      rw [eget_cons, keepE_out h r]
theorem EnvOK.cons_same {X : Cx} {nx : Nat} {lim : Lim} {env : Env C} {tmps : Array Value} {t : Nat} {d : D C} (he : EnvOK T X nx lim env tmps) (hd : eget env t = d) : EnvOK T X nx lim ((t, d) :: env) tmps := by
  intro u
  rw [eget_cons]
  by_cases hu : u = t
  · subst hu; simp only [if_true]; rw [← hd]; exact he u
  · simp only [hu, if_false]; exact he u
theorem mrgD_eq {b : Bool} : ∀ (x y d : D C), mrgD b x y = some d → d = bif b then x else y := by
  intro x
  induction x with
  | acons x xs i1 i2 =>
    intro y d h
    cases y with
    | acons y ys =>
      simp only [mrgD] at h
      cases h1 : mrgD b x y with
      | none => simp [h1] at h
      | some d1 =>
        cases h2 : mrgD b xs ys with
        | none => simp [h1, h2] at h
        | some d2 =>
          simp only [h1, h2, Option.some.injEq] at h
          rw [← h, i1 _ _ h1, i2 _ _ h2]
          cases b <;> rfl
    | _ => simp [mrgD] at h
  | sl t c l =>
    intro y d h
    cases y with
    | sl t' c' l' =>
      simp only [mrgD] at h
      split at h
      · rename_i e
        subst e
        simp only [Option.some.injEq] at h
        rw [← h]; cases b <;> rfl
      · cases h
    | _ => simp [mrgD] at h
  | arr t n l =>
    intro y d h
    cases y with
    | arr t' n' l' =>
      simp only [mrgD] at h
      split at h
      · rename_i e
        subst e
        split at h
        · rename_i e
          subst e
          simp only [Option.some.injEq] at h
          rw [← h]; cases b <;> rfl
        · cases h
      · cases h
    | _ => simp [mrgD] at h
  | tup ds i =>
    intro y d h
    cases y with
    | tup es => cases ds <;> cases es <;> simp [mrgD] at h; rw [← h]; cases b <;> rfl
    | _ => cases ds <;> simp [mrgD] at h
  | int k n =>
    intro y d h
    cases y with
    | int k' n' =>
      simp only [mrgD] at h
      split at h
      · rename_i e
        subst e
        simp only [Option.some.injEq] at h
        rw [← h]; cases b <;> rfl
      · cases h
    | _ => simp [mrgD] at h
  | _ => intro y d h; cases y <;> simp [mrgD] at h <;> rw [← h] <;> cases b <;> rfl
theorem mrgT_ok {X : Cx} {nx : Nat} {lim : Lim} {b : Bool} {x y d : D C} {v : Value} (h : mrgT b x y = some d) (hx : RO T X nx lim (bif b then x else y) v) : RO T X nx lim d v := by
  have key : d = .top ∨ mrgD b x y = some d := by
    unfold mrgT at h
    split at h
    · left; simpa using h.symm
    · left; simpa using h.symm
    · right; exact h
  rcases key with rfl | key
  · exact RO.mk (RV.top _ _ _) rfl
  · rw [mrgD_eq _ _ _ key]; exact hx
theorem mrgE_get {b : Bool} {x y env : Env C} {t : Nat} : ∀ {l : List Nat} {r : Env C}, mrgE b x y l = some r → (l.any (Nat.beq t) = true ∧ mrgT b (eget x t) (eget y t) = some (eget (r ++ env) t)) ∨ (l.any (Nat.beq t) = false ∧ eget (r ++ env) t = eget env t)
  | [], r, h => by simp [mrgE] at h; subst h; exact .inr ⟨rfl, rfl⟩
  | u :: l, r, h => by
    simp only [mrgE] at h
    cases h1 : mrgT b (eget x u) (eget y u) with
    | none => simp [h1] at h
    | some d =>
      cases h2 : mrgE b x y l with
      | none => simp [h1, h2] at h
      | some r' =>
        simp only [h1, h2, Option.some.injEq] at h
        subst h
        rw [List.cons_append, eget_cons]
        by_cases hu : t = u
        · subst hu
          left
          simp [h1]
        · have hb : Nat.beq t u = false := by cases hq : Nat.beq t u with
            | false => rfl
            | true => exact (hu (Nat.eq_of_beq_eq_true hq)).elim
          simp only [hu, if_false, List.any_cons, hb, Bool.false_or]
          exact mrgE_get h2
theorem mrgC_cases (m : Option (List Nat)) (env : Env C) (b : Bool) (p q : Pg C (Ev.X × Env C)) :
    mrgC m env b p q = .br b p q ∨ ∃ l x y r, p = .ret (.normal, x) ∧ q = .ret (.normal, y) ∧ mrgE b x y l = some r ∧ m = some l ∧ mrgC m env b p q = .ret (.normal, r ++ env) := by
  unfold mrgC
  cases m with
  | none => exact .inl rfl
  | some l =>
    simp only
    split
    · rename_i x y
      split
      · rename_i r hr
        exact .inr ⟨l, x, y, r, rfl, rfl, hr, rfl, rfl⟩
      · exact .inl rfl
    · exact .inl rfl
theorem okL {ro : Option Nat} {Φ : Fns C} {f nt : Nat} {c c1 : Code} (h : flatB c = true ∨ ro = none ∧ ∃ fn body, Φ.fn f = some fn ∧ nt = fn.ntmps ∧ fn.body = some body ∧ ∀ b ∈ loops c, b ∈ loops body) (h1 : flatB c = true → flatB c1 = true) (h2 : ∀ b ∈ loops c1, b ∈ loops c) :
    flatB c1 = true ∨ ro = none ∧ ∃ fn body, Φ.fn f = some fn ∧ nt = fn.ntmps ∧ fn.body = some body ∧ ∀ b ∈ loops c1, b ∈ loops body := by
  rcases h with h | ⟨h, fn, body, h3, h4, h5, h6⟩
  · exact .inl (h1 h)
  · exact .inr ⟨h, fn, body, h3, h4, h5, fun b hb => h6 b (h2 b hb)⟩
def CodeOK (P : Program) (T : Tab C) (Φ : Fns C) (n : Nat) : Prop := ∀ ro m f nt code, (flatB code = true ∨ ro = none ∧ ∃ fn body, Φ.fn f = some fn ∧ nt = fn.ntmps ∧ fn.body = some body ∧ ∀ b ∈ loops code, b ∈ loops body) → codeB nt code = true → ∀ B, ClearC B code →
  ∀ X h nx lim e env x env' h' nx' tr a Q, G T X h nx lim → EnvOK T X nx lim env a.tmps → nx' ≤ lim.top → nt ≤ a.tmps.size → Ex e (evC T Φ n f code env) h nx (x, env') h' nx' tr → CPost T B X nx lim h' nx' env' a (Q (exitX x)) → code.wpIn (roF ro) m P Q a X.w
def RoundsOK (P : Program) (T : Tab C) (Φ : Fns C) (n : Nat) : Prop := ∀ f fn body b, Φ.fn f = some fn → fn.body = some body → codeB fn.ntmps (.loop b) = true → (∀ b' ∈ loops (.loop b), b' ∈ loops body) → Φ.loop f (firstRegion b) = none → ∀ B, ClearC B b →
  ∀ X h nx lim e env x env' h' nx' tr a Q, G T X h nx lim → EnvOK T X nx lim env a.tmps → nx' ≤ lim.top → fn.ntmps ≤ a.tmps.size → Ex e (evC T Φ n f (.loop b) env) h nx (x, env') h' nx' tr → CPost T B X nx lim h' nx' env' a (Q (exitX x)) → Code.rounds P b Q n a X.w
variable (K : PLaws P T) (F : FLaws P T Φ)
def FunOK (P : Program) (T : Tab C) (call : FuncId → List (D C) → Pg C (D C)) : Prop :=
  ∀ f args vs X h nx lim e d h' nx' tr, G T X h nx lim → RVs T X args vs → (∀ a ∈ args, ∀ id ∈ D.refs a, old nx lim id) → nx' ≤ lim.top → Ex e (call f args) h nx d h' nx' tr →
    (callFunc f ⟨vs⟩).run P X.w = .ok (.enter f ⟨vs⟩) X.w ∧ Calls P f ⟨vs⟩ X.w (CallPost T X nx lim h' nx' d)
theorem eargs_get : ∀ (l : List (D C)) (n t : Nat), eget (eargs n l) t = if n ≤ t then l.getD (t - n) .top else .top := by
  intro l
  induction l with
  | nil => intro n t; simp [eargs, eget]
  | cons d l ih =>
    intro n t
    rw [eargs, eget_cons, ih]
    by_cases h1 : t = n
    · subst h1; simp
    · by_cases h2 : n ≤ t
      · have h3 : n + 1 ≤ t := by omega
        have h4 : t - n = (t - (n + 1)) + 1 := by omega
        simp [h1, h2, h3, h4]
      · have h3 : ¬ n + 1 ≤ t := by omega
        simp [h1, h2, h3]
theorem RVs.get {X : Cx} {ds : List (D C)} {vs : List Value} (h : RVs T X ds vs) : ∀ t, RV T X (ds.getD t .top) (vs.getD t undef) := by
  induction h with
  | nil => intro t; simp; exact RV.top _ _ _
  | cons h _ ih => intro t; cases t with
    | zero => simpa using h
    | succ t => simpa using ih t
theorem RVs.mono' {X X' : Cx} {nx : Nat} {lim : Lim} (L : Laws T) (s : Step X nx lim X') {ds : List (D C)} {vs : List Value} (h : RVs T X ds vs) : (∀ d ∈ ds, ∀ id ∈ D.refs d, old nx lim id) → RVs T X' ds vs := by
  induction h with
  | nil => intro _; exact .nil
  | cons h _ ih =>
    intro ho
    exact .cons (RO.step L s (nx' := nx) ⟨h, ho _ (by simp)⟩ (Nat.le_refl _)).1 (ih fun d hd => ho d (by simp [hd]))
def oneD : List (D C) → D C
  | [] => .tup .anil
  | [d] => d
  | d :: e :: l => .tup (D.ofList (d :: e :: l))
theorem outD_eq (f : FuncId) (n0 : Nat) (env : Env C) (rs : List ResultVar) : outD T Φ f n0 env rs =
    .bind (resultD T env rs) fun l => bif Φ.keeps f then .ret (oneD l) else .bind (frz (oneD l)) fun d => .gc n0 d.refs (.ret d) := by
  unfold outD
  congr 1
  funext l
  match l with
  | [] => rfl
  | [_] => rfl
  | _ :: _ :: _ => rfl
theorem oneD_ok {X : Cx} {nx : Nat} {lim : Lim} : ∀ {l : List (D C)} {us : List Value}, RVs T X l us → (∀ d ∈ l, ∀ id ∈ D.refs d, old nx lim id) → RO T X nx lim (oneD l) (if h : us.toArray.size = 1 then us.toArray[0] else .tuple us.toArray)
  | [], [], _, _ => RO.mk (.mk rfl (.tup .vnil)) rfl
  | [d1], [u1], .cons r2 _, r3 => ⟨r2, r3 d1 (by simp)⟩
  | d1 :: d2 :: l, u1 :: u2 :: us, r2, r3 => by
    refine ⟨.mk rfl ?_, fun id hid => ?_⟩
    · have hne : ¬ (u1 :: u2 :: us).toArray.size = 1 := by simp
      simp only [hne, dif_neg, not_false_eq_true]
      exact .tup r2.row
    · obtain ⟨q, hq, hi⟩ := refs_ofList _ id (by simpa [D.refs, oneD] using hid); exact r3 q hq id hi
include K F
theorem enter_of_code {n : Nat} (hc : CodeOK P T Φ n) : FunOK P T (enterD T Φ (evC T Φ n)) := by
  intro g args vs X h nx lim e d h' nx' tr gg hargs hrefs hlim hx
  unfold enterD at hx
  cases hf : Φ.fn g with
  | none => simp only [hf] at hx; exact (Ex.fail hx).elim
  | some fn =>
    simp only [hf] at hx
    cases hb : fn.body with
    | none => simp only [hb] at hx; exact (Ex.fail hx).elim
    | some body =>
      simp only [hb] at hx
      have hx := Ex.cnt hx
      obtain ⟨⟨x, env1⟩, h1, n1, t1, t2, q1, q2, _⟩ := Ex.bind hx
      obtain ⟨f1, f2, f3⟩ := F.fn g fn hf
      have hle1 := Ex.le q1
      refine ⟨?_, ?_⟩
      · simp only [callFunc, Sem.run_bind]
        show ((match P.funcs[g]? with | none => _ | some fn => _ : Sem Next)).run P X.w = _
        rw [f1]
        simp [f2, hb]
      · refine (callsIn_wide (n := 0)).1 (callsIn_of_wp_marks f1 hb trivial (hc none 0 g fn.ntmps body (.inr ⟨rfl, fn, body, hf, rfl, hb, fun b hb => hb⟩) (f3 body hb) (fun _ => false) (fun _ _ => rfl) X h nx lim e (eargs 0 args) x env1 h1 n1 t1 _ _ gg ?_ ?_ ?_ q1 ?_))
        · intro t
          rw [eargs_get]
          simp only [Nat.zero_le, if_true, Nat.sub_zero]
          refine ⟨?_, ?_⟩
          · have := hargs.get t
            by_cases ht : t < vs.length
            · have e1 : ((⟨vs⟩ : Array Value) ++ Array.replicate (fn.ntmps - (⟨vs⟩ : Array Value).size) undef).getD t undef = vs.getD t undef := by
                simp [Array.getD_eq_getD_getElem?, Array.getElem?_append, ht]
              rw [e1]; exact this
            · have : args.getD t .top = .top := by
                have := hargs.length
                simp [List.getD_eq_getElem?_getD]
                rw [List.getElem?_eq_none (by omega)]; rfl
              rw [this]; exact RV.top _ _ _
          · by_cases ht : t < args.length
            · have : args.getD t .top ∈ args := by
                simp [List.getD_eq_getElem?_getD, ht]
              exact hrefs _ this
            · have : args.getD t .top = .top := by
                simp [List.getD_eq_getElem?_getD]
                rw [List.getElem?_eq_none (by omega)]; rfl
              rw [this]; simp [D.refs]
        · have := Ex.le q2
          omega
        · simp; omega
        · intro a' XX gg0 ss0 ee0 _ hdef _
          obtain ⟨rs, hrs, hnd, hmk⟩ := hdef
          rw [List.append_nil] at hrs
          have hall : ∀ X0, G T X0 h1 n1 lim → Step X nx lim X0 → EnvOK T X0 n1 lim env1 a'.tmps → Ex e (.bind (restP T env1 (Φ.rest g)) fun _ => outD T Φ g nx env1 fn.results.toList) h1 n1 d h' nx' t2 → ∃ v, (results fn a'.tmps).run P X0.w = .ok v X0.w ∧ CallPost T X nx lim h' nx' d (.returned v) X0.w := ?hall
          case hall =>
            intro X0 g0 s0 e0
            intro q2
            obtain ⟨d9, h9, n9, t9, t8, q9, q2, _⟩ := Ex.bind q2
            obtain ⟨X1, w1, g1, s9, hn9⟩ := restP_ok K _ g0 q9
            have hn9 := hn9.symm
            subst hn9
            have s1 := s0.trans s9 hle1
            have e1 := e0.step K.base s9 (Nat.le_refl _)
            rw [← w1]
            clear q9 g0 s0 e0
            generalize h9 = h1 at g1 q2
            generalize t8 = t2 at q2
            have hout : Ex e (outD T Φ g nx env1 fn.results.toList) h1 n1 d h' nx' t2 → ∃ v, (results fn a'.tmps).run P X1.w = .ok v X1.w ∧ CallPost T X nx lim h' nx' d (.returned v) X1.w := by
              intro q2
              rw [outD_eq] at q2
              obtain ⟨l, h2, n2, t3, t4, q3, q4, _⟩ := Ex.bind q2
              obtain ⟨e2, e3, us, r1, r2, r3⟩ := results_ok K g1 e1 fn.results.toList q3
              have e2 := e2.symm
              have e3 := e3.symm
              subst e2
              subst e3
              have hrun : (results fn a'.tmps).run P X1.w = .ok (if h : us.toArray.size = 1 then us.toArray[0] else .tuple us.toArray) X1.w := by
                have hm : fn.results.mapM (resM a'.tmps) = List.toArray <$> fn.results.toList.mapM (resM a'.tmps) := by rw [Array.mapM_eq_mapM_toList]
                have e0 : results fn a'.tmps = (do let vs ← fn.results.mapM (resM a'.tmps); pure (if h : vs.size = 1 then vs[0] else .tuple vs)) := by
                  unfold results
                  congr 1
                rw [e0, hm]
                simp only [map_eq_pure_bind, bind_assoc, Sem.run_bind, r1, Result.andThen_ok, Sem.run_pure, pure_bind]
              have hdl : RO T X1 n1 lim (oneD l) (if h : us.toArray.size = 1 then us.toArray[0] else .tuple us.toArray) := oneD_ok r2 r3
              generalize hvv : (if h : us.toArray.size = 1 then us.toArray[0] else Value.tuple us.toArray) = vv at hrun hdl
              cases hk : Φ.keeps g with
              | true =>
                simp only [hk, cond_true] at q4
                obtain ⟨c1, c2, c3, _⟩ := Ex.ret q4
                rw [c1, c2, c3]
                exact ⟨_, hrun, _, X1, rfl, rfl, g1, s1, hdl⟩
              | false =>
                simp only [hk, cond_false] at q4
                obtain ⟨d2, h3, n3, t5, t6, q5, q6, _⟩ := Ex.bind q4
                obtain ⟨_, q7⟩ := Ex.gc q6
                obtain ⟨c1, c2, c3, _⟩ := Ex.ret q7
                rw [c1, c2, c3]
                have hfz : ∃ X2, X2.w = X1.w ∧ G T X2 h3 n1 lim ∧ Step X1 n1 lim X2 ∧ RV T X2 d2 vv ∧ n3 = n1 ∧ ∀ id ∈ d2.refs, old n1 lim id := by
                  rcases hdl.1 with ⟨hrow, cs, hr, hv⟩ | ⟨hrow, hr⟩
                  · obtain ⟨X2, a1, a2, a3, a4, a5, a6, a7⟩ := frz_ok K _ g1 hr hdl.2 q5
                    exact ⟨X2, a1, a2, a3, .inl ⟨a7.trans hrow, cs, a4, hv⟩, a5, a6⟩
                  · obtain ⟨X2, a1, a2, a3, a4, a5, a6, a7⟩ := frz_ok K _ g1 hr hdl.2 q5
                    exact ⟨X2, a1, a2, a3, .inr ⟨a7.trans hrow, a4⟩, a5, a6⟩
                obtain ⟨X2, a1, a2, a3, a4, a5, a6⟩ := hfz
                rw [a5]
                obtain ⟨X3, b1, b2, b3, _⟩ := a2.drop K.base (h' := Heap.drop nx n1 d2.refs h3) (fun i => by rw [get_drop]; split <;> simp)
                exact ⟨_, hrun, _, X3, rfl, by rw [b1, a1], b2, (s1.trans a3 hle1).trans b3 hle1, RO.step K.base b3 ⟨a4, a6⟩ (Nat.le_refl _)⟩
            exact hout q2
          have fin : Ex e (.bind (restP T env1 (Φ.rest g)) fun _ => outD T Φ g nx env1 fn.results.toList) h1 n1 d h' nx' t2 → LeavesInM Fence.wide 0 P fn a'.tmps (CallPost T X nx lim h' nx' d) a'.defers .returning XX.w := fun q2 => by
            rw [hrs]
            exact leaves_marks K rs XX hnd hmk gg0 ss0 ee0 fun X' g' s' e' => hall X' g' s' e' q2
          cases x with
          | normal => exact fin q2
          | ret => exact fin q2
          | exit id => exact (Ex.fail q2).elim
omit K F in
theorem CallPost.since {X X' : Cx} {nx nx' : Nat} {lim : Lim} {h' : Heap C} {d : D C} {en : Ending} {w' : World} (s : Step X nx lim X') (h : CallPost T X' nx lim h' nx' d en w') : CallPost T X nx lim h' nx' d en w' := by
  obtain ⟨v, Y, h1, h2, h3, h4, h5⟩ := h
  exact ⟨v, Y, h1, h2, h3, s.trans h4 (Nat.le_refl _), h5⟩
omit K F in
theorem eget_zip_not (E : Env C) : ∀ (ps : List Nat) (xs : List (D C)) (t : Nat), t ∉ ps → eget (zipE ps xs ++ E) t = eget E t
  | [], _, _, _ => rfl
  | _ :: _, [], _, _ => rfl
  | p :: ps, x :: xs, t, h => by
    simp only [List.mem_cons, not_or] at h
    rw [zipE, List.cons_append, eget_cons, if_neg h.1]
    exact eget_zip_not E ps xs t h.2
omit K F in
theorem eget_mid (E : Env C) (t0 : Nat) (x0 : D C) (t : Nat) (h : t ≠ t0) : ∀ A : Env C, eget (A ++ (t0, x0) :: E) t = eget (A ++ E) t
  | [] => by rw [List.nil_append, List.nil_append, eget_cons, if_neg h]
  | (j, d) :: A => by rw [List.cons_append, List.cons_append, eget_cons, eget_cons, eget_mid E t0 x0 t h A]
omit K F in
theorem okPs_ne {nt t : Nat} {ps : List Nat} (h : ps.any (Nat.beq t) = false) : t ∉ ps := fun hm => by
  have : ps.any (Nat.beq t) = true := List.any_eq_true.2 ⟨t, hm, by simp⟩
  rw [this] at h; cases h
omit K F in
theorem zip_env {X : Cx} {nx : Nat} {lim : Lim} {nt : Nat} : ∀ (ps : List Nat) (xs : List (D C)) (vs : List Value) (E : Env C) (tm : Array Value), okPs nt ps = true → nt ≤ tm.size → ps.length = xs.length → RVs T X xs vs → (∀ a ∈ xs, ∀ id ∈ D.refs a, old nx lim id) →
    (∀ t, RO T X nx lim (eget E t) (tm.getD t undef)) → ∀ t, RO T X nx lim (eget (zipE ps xs ++ E) t) (((ps.zip vs).foldl (fun (tmps : Array Value) (p : Nat × Value) => tmps.setIfInBounds p.1 p.2) tm).getD t undef) := by
  intro ps
  induction ps with
  | nil => intro xs vs E tm _ _ _ _ _ hE t; simpa [zipE] using hE t
  | cons p ps ih =>
    intro xs vs E tm hok hsz hlen hr hx hE t
    cases hr with
    | nil => simp at hlen
    | @cons x xs v vs hv hr =>
      simp only [okPs, Bool.and_eq_true, Nat.blt_eq, Bool.not_eq_true'] at hok
      obtain ⟨h1, h2, h3⟩ := hok
      have hp := okPs_ne (nt := nt) h2
      have := ih xs vs ((p, x) :: E) (tm.setIfInBounds p v) h3 (by simpa using hsz) (by simpa using hlen) hr (fun a ha => hx a (by simp [ha])) (fun u => by
        rw [eget_cons]
        by_cases hu : u = p
        · subst hu
          simp only [if_true]
          have e : (tm.setIfInBounds u v).getD u undef = v := by
            have : u < tm.size := by omega
            simp [Array.getD_eq_getD_getElem?, this]
          rw [e]
          exact ⟨hv, hx x (by simp)⟩
        · simp only [hu, if_false]
          have e : (tm.setIfInBounds p v).getD u undef = tm.getD u undef := by
            simp [Array.getD_eq_getD_getElem?, Array.getElem?_setIfInBounds_ne (Ne.symm hu)]
          rw [e]; exact hE u) t
      rw [List.zip_cons_cons, List.foldl_cons, zipE, List.cons_append, eget_cons]
      by_cases ht : t = p
      · subst ht
        rw [eget_zip_not _ _ _ _ hp, eget_cons, if_pos rfl] at this
        rw [if_pos rfl]; exact this
      · rw [if_neg ht]
        rw [eget_mid E p x t ht] at this
        exact this
omit K F in
theorem zip_slots {X : Cx} {nx : Nat} {lim : Lim} {tm : Array Value} : ∀ (slots : List Nat) (ds : List (D C)), RVs T X ds (slots.map fun t => tm.getD t undef) → (∀ a ∈ ds, ∀ id ∈ D.refs a, old nx lim id) → ∀ t, RO T X nx lim (eget (zipE slots ds) t) (tm.getD t undef)
  | [], ds, h, _, t => RO.mk (RV.top _ _ _) rfl
  | s :: slots, [], h, _, t => RO.mk (RV.top _ _ _) rfl
  | s :: slots, d :: ds, h, hr, t => by
    cases h with
    | cons hv h =>
      rw [zipE, eget_cons]
      by_cases e : t = s
      · subst e; rw [if_pos rfl]; exact ⟨hv, hr d (by simp)⟩
      · rw [if_neg e]; exact zip_slots slots ds h (fun a ha => hr a (by simp [ha])) t
omit K F in
theorem all_noYl : ∀ {env : Env C}, (env.all fun p => p.2.noYl) = true → ∀ t, (eget env t).noYl = true
  | [], _, _ => rfl
  | (j, d) :: r, h, t => by
    simp only [List.all_cons, Bool.and_eq_true] at h
    rw [eget_cons]
    split
    · exact h.1
    · exact all_noYl h.2 t
omit K F in
theorem foldl_set_size : ∀ (l : List (Nat × Value)) (tm : Array Value), (l.foldl (fun (tmps : Array Value) (p : Nat × Value) => tmps.setIfInBounds p.1 p.2) tm).size = tm.size
  | [], _ => rfl
  | p :: l, tm => by rw [List.foldl_cons, foldl_set_size l]; simp
omit F in
theorem yield_of_code {n : Nat} (hc : CodeOK P T Φ n) : YieldOK P T (callD T Φ (evC T Φ n)) := by
  intro nt slots ps asn body caps xs l vs X h nx lim e d h' nx' tr g hR hcr hxs hxr hlim hx
  unfold callD at hx
  have hyb : Nat.beq ylBase ylBase = true := by simp
  simp only [hyb, cond_true, yieldD] at hx
  cases hc1 : (caps.noYl && xs.all D.noYl) && ((Nat.beq xs.length ps.length && okPs nt ps) && (okC nt asn && okC nt body)) with
  | false => rw [hc1] at hx; exact (Ex.fail hx).elim
  | true =>
    rw [hc1] at hx
    simp only [cond_true] at hx
    simp only [Bool.and_eq_true, okC] at hc1
    obtain ⟨⟨hn1, hn2⟩, ⟨hlen, hps⟩, ⟨ha1, ha2⟩, ⟨hb1, hb2⟩⟩ := hc1
    have hlen := Nat.eq_of_beq_eq_true hlen
    cases hR with
    | @yl _ _ _ _ _ _ _ rec hw hm hs hcp =>
      obtain ⟨hs1, hs2, hs3, hs4, hs5, hs6⟩ := hs
      subst hs4
      subst hs5
      have hlv : (⟨vs⟩ : Array Value).size = rec.params.size := by
        have h1 := hxs.length
        have h2 : ps.length = rec.params.size := by rw [← hs3]; simp
        simp; omega
      have hy := run_yield (P := P) (args := ⟨vs⟩) hw hlv
      refine ⟨_, _, _, _, hy, fun m => roundIn_of_wpIn trivial ?_⟩
      obtain ⟨⟨x1, env1⟩, h1, n1, t1, t2, q1, q2, _⟩ := Ex.bind hx
      have hle1 := Ex.le q1
      have hle2 := Ex.le q2
      cases x1 with
      | exit id => exact (Ex.fail q2).elim
      | ret => exact (Ex.fail q2).elim
      | normal =>
        simp only at q2
        cases hev : env1.all (fun p => p.2.noYl) with
        | false => rw [hev] at q2; exact (Ex.fail q2).elim
        | true =>
          rw [hev] at q2
          simp only [cond_true] at q2
          obtain ⟨⟨x2, env2⟩, h2, n2, t3, t4, q3, q4, _⟩ := Ex.bind q2
          cases x2 with
          | exit id => exact (Ex.fail q4).elim
          | ret => exact (Ex.fail q4).elim
          | normal =>
            obtain ⟨rfl, rfl, rfl, rfl⟩ := Ex.ret q4
            have efold : ((rec.params.zip ⟨vs⟩).foldl (fun (tmps : Array Value) (x : Nat × Value) => match x with | (t, a) => tmps.setIfInBounds t a) rec.tmps) = (ps.zip vs).foldl (fun (tmps : Array Value) (p : Nat × Value) => tmps.setIfInBounds p.1 p.2) rec.tmps := by
              rw [← Array.foldl_toList, Array.toList_zip, hs3]
            rw [efold]
            refine hc (some l) m 0 nt rec.assign (.inl ha2) ha1 (fun _ => false) (fun _ _ => rfl) X h nx lim e _ .normal env1 h1 n1 t1 _ _ g ?_ (by omega) ?_ q1 ?_
            · exact zip_env ps xs vs _ rec.tmps hps hs6 hlen.symm hxs hxr (zip_slots slots caps.toList (hcp.toList T rfl) (fun a ha id hid => hcr id (refs_toList caps a ha id hid)))
            · show nt ≤ ((ps.zip vs).foldl _ rec.tmps).size
              rw [foldl_set_size]; exact hs6
            · intro a1 X1 g1 s1 e1 z1 _ _
              obtain ⟨hw1, hm1⟩ := s1.keeps.loop l rec hw hm
              have tn1 : Turn1 X1 l (X1.w.putObj l (.loop { rec with state := .busy })) := putObj_turn hw1 (fun c t f h => by cases h) hm1
              refine ⟨_, run_beginRound hw1 hs1, ?_⟩
              refine hc (some l) m 0 nt rec.body (.inl hb2) hb1 (fun _ => false) (fun _ _ => rfl) ⟨X1.w.putObj l (.loop { rec with state := .busy }), X1.ρ, X1.O⟩ h1 n1 lim e env1 .normal env2 h' nx' t3 a1 _ (g1.turn K.base tn1) (fun t => (e1 t).turn K.base tn1 (all_noYl hev t)) hlim ?_ q3 ?_
              · have : ((ps.zip vs).foldl (fun (tmps : Array Value) (p : Nat × Value) => tmps.setIfInBounds p.1 p.2) rec.tmps).size = rec.tmps.size := foldl_set_size _ _
                rw [z1, this]; exact hs6
              · intro a2 X2 g2 s2 e2 _ _ _
                have hl1 : l < X1.w.heap.size := (Array.getElem?_eq_some_iff.1 hw1).1
                obtain ⟨hw2, hm2⟩ := s2.keeps.loop l { rec with state := .busy } (World.putObj_heap_same hl1) hm1
                have tn3 : Turn1 X2 l (X2.w.putObj l (.loop { { rec with state := .busy } with state := if (none : Option Code).isNone then .ready else .done, pending := none })) := putObj_turn hw2 (fun c t f h => by cases h) hm2
                refine ⟨_, _, run_endRound none hw2, ?_⟩
                refine ⟨_, ⟨_, X2.ρ, X2.O⟩, rfl, rfl, g2.turn K.base tn3, s1.trans (Step.back tn1 s2 tn3 ?_) hle1, RO.mk (.mk rfl (.bool true)) rfl⟩
                refine (World.putObj_heap_same (Array.getElem?_eq_some_iff.1 hw2).1).trans ?_
                rw [hw1]
                have : ({ { rec with state := .busy } with state := if (none : Option Code).isNone then LoopState.ready else .done, pending := none } : Loop) = rec := by
                  cases rec; simp only at hs1 hs2; subst hs1; subst hs2; rfl
                rw [this]
theorem call_of_code {n : Nat} (hc : CodeOK P T Φ n) : CallOK P T (callD T Φ (evC T Φ n)) := by
  refine ⟨yield_of_code K hc, ?_⟩
  intro g hgy args vs X h nx lim e d h' nx' tr gg hargs hrefs hlim hx
  unfold callD at hx
  have hyb : Nat.beq g ylBase = false := by
    cases h : Nat.beq g ylBase with
    | false => rfl
    | true => exact absurd (Nat.eq_of_beq_eq_true h) hgy
  simp only [hyb, cond_false] at hx
  cases hos : Φ.ospec g with
  | some s =>
    simp only [hos] at hx
    obtain ⟨u, h1, n1, t1, t2, q1, q2, _⟩ := Ex.bind hx
    obtain ⟨X1, w1, g1, s1, hn1⟩ := restP_ok K _ gg q1
    subst hn1
    have := F.ospec g s hos args vs X1 h1 n1 lim e d h' nx' t2 g1 (hargs.mono' K.base s1 hrefs) hrefs hlim q2
    rw [w1] at this
    exact ⟨this.1, this.2.mono fun en w2 hp => CallPost.since s1 hp⟩
  | none =>
  simp only [hos] at hx
  cases hs : Φ.spec g with
  | some s =>
    simp only [hs] at hx
    cases hle : Φ.lend g with
    | true =>
      simp only [hle, cond_true] at hx
      obtain ⟨args', h1, n1, t1, t2, q1, hx2, _⟩ := Ex.bind hx
      clear hx
      obtain ⟨rfl, rfl, kk⟩ := lendL_ok K args gg hargs q1
      cases hsa : s args' with
      | none => rw [hsa] at hx2; exact (Ex.fail hx2).elim
      | some bd =>
        obtain ⟨b, d0⟩ := bd
        rw [hsa] at hx2
        simp only at hx2
        cases hpl : d0.plain && args'.all D.noYl with
        | false => rw [hpl] at hx2; exact (Ex.fail hx2).elim
        | true =>
          rw [hpl] at hx2
          simp only [Bool.and_eq_true] at hpl
          rcases Ex.br hx2 with ⟨rfl, hx2⟩ | ⟨rfl, hx2⟩
          · obtain ⟨rfl, rfl, rfl, _⟩ := Ex.ret hx2
            obtain ⟨hrf, hB⟩ := F.spec g s args' _ hs hsa
            obtain ⟨c1, c2⟩ := hB X.w X.O vs gg.outs (fun p hp => (gg.pre p hp).1) (kk hrf fun a ha => List.all_eq_true.1 hpl.2 a ha)
            refine ⟨c1, c2.mono fun en w' hpp => ?_⟩
            obtain ⟨v, ρ, rfl, r, hd, a1, a2, a3, a4, a5, a6⟩ := hpp
            obtain ⟨g', s'⟩ := gg.grow K.base w' a1 a2 a3 a4 a5 a6
            exact ⟨v, ⟨w', X.ρ, X.O⟩, rfl, rfl, g', s', r.plain hpl.1, by rw [hd.1]; simp⟩
          · exact (Ex.fail hx2).elim
    | false =>
    simp only [hle, cond_false] at hx
    obtain ⟨args', h1, n1, t1, t2, q1, hx2, _⟩ := Ex.bind hx
    clear hx
    obtain ⟨X', w', g', s', r', hn, hrf⟩ := frzL_ok K args gg hargs hrefs q1
    subst hn
    cases hsa : s args' with
    | none => rw [hsa] at hx2; exact (Ex.fail hx2).elim
    | some bd =>
      obtain ⟨b, d0⟩ := bd
      rw [hsa] at hx2
      have hx2 : b = true ∧ ∃ t3, Ex e (.ret d0) h1 n1 d h' nx' t3 := by
        cases ht : Φ.total g with
        | false =>
          simp only [ht, cond_false] at hx2
          rcases Ex.br hx2 with ⟨rfl, hx2⟩ | ⟨rfl, hx2⟩
          · exact ⟨rfl, _, hx2⟩
          · exact (Ex.fail hx2).elim
        | true =>
          simp only [ht, cond_true] at hx2
          cases b with
          | true => exact ⟨rfl, _, hx2⟩
          | false => exact (Ex.fail hx2).elim
      obtain ⟨rfl, t3, hx2⟩ := hx2
      obtain ⟨rfl, rfl, rfl, _⟩ := Ex.ret hx2
      obtain ⟨hrf0, hB⟩ := F.spec g s args' _ hs hsa
      have := hB.call K hrf0 g' r'
      rw [w'] at this
      exact ⟨this.1, this.2.mono fun en w1 hp => CallPost.since s' hp⟩
  | none =>
    simp only [hs] at hx
    exact enter_of_code K F hc g args vs X h nx lim e d h' nx' tr gg hargs hrefs hlim hx
theorem code_ok : ∀ n, CodeOK P T Φ n ∧ RoundsOK P T Φ n := by
  intro n
  induction n with
  | zero =>
    refine ⟨?_, ?_⟩
    · intro ro m f nt code _ _ B _ X h nx lim e env x env' h' nx' tr a Q _ _ _ _ hx; exact (Ex.fail hx).elim
    · intro f fn body b _ _ _ _ _ B _ X h nx lim e env x env' h' nx' tr a Q _ _ _ _ hx; exact (Ex.fail hx).elim
  | succ n ih =>
    obtain ⟨ihC, ihR⟩ := ih
    have hcall := call_of_code K F ihC
    have hR : RoundsOK P T Φ (n + 1) := by
      intro f fn body b hf hb hcb hl hnone B hB X h nx lim e env x env' h' nx' tr a Q g he hlim hsz hx hk
      simp only [evC, loopC, hnone] at hx
      obtain ⟨⟨x1, env1⟩, h1, n1, t1, t2, q1, q2, _⟩ := Ex.bind hx
      have hle := Ex.le q2
      have hle1 := Ex.le q1
      rw [rounds_succ]
      refine (wpIn_wide (n := 0)).1 (ihC none 0 f fn.ntmps b (.inr ⟨rfl, fn, body, hf, rfl, hb, fun b' hb' => hl b' (by simp [loops, hb'])⟩) (by simpa [codeB] using hcb) B hB X h nx lim e env x1 env1 h1 n1 t1 a _ g he (by omega) hsz q1 ?_)
      intro a1 X1 g1 s1 e1 hs1 hd1 kp1
      cases x1 with
      | normal =>
        simp only [thenC] at q2
        exact ihR f fn body b hf hb hcb hl hnone B hB X1 h1 n1 lim e env1 x env' h' nx' t2 a1 Q g1 e1 hlim (by omega) q2 fun a2 X2 g2 s2 e2 hs2 hd2 kp2 => hk a2 X2 g2 (s1.trans s2 hle1) e2 (by omega) (hd1.trans s1 s2 hd2) (kp1.trans kp2)
      | exit id =>
        obtain ⟨hxx, rfl, rfl, rfl⟩ := Ex.ret q2
        obtain ⟨rfl, rfl⟩ := Prod.mk.inj hxx
        exact hk a1 X1 g1 s1 e1 hs1 hd1 kp1
      | ret =>
        obtain ⟨hxx, rfl, rfl, rfl⟩ := Ex.ret q2
        obtain ⟨rfl, rfl⟩ := Prod.mk.inj hxx
        exact hk a1 X1 g1 s1 e1 hs1 hd1 kp1
    refine ⟨?_, hR⟩
    intro ro m f nt code hfl hcb B hB X h nx lim e env x env' h' nx' tr a Q g he hlim hsz hx hk
    have done : ∀ x0, Ex e (.ret (x0, env) : Pg C (Ev.X × Env C)) h nx (x, env') h' nx' tr → Q (exitX x0) a X.w := by
      intro x0 hx
      obtain ⟨hxx, rfl, rfl, rfl⟩ := Ex.ret hx
      obtain ⟨rfl, rfl⟩ := Prod.mk.inj hxx
      exact hk a X g (.refl _ _ _) he rfl (.refl _ _ _) (.refl _ _)
    cases code with
    | skip => exact wpIn_skip (done _ hx)
    | label l => exact wpIn_label (done _ hx)
    | ret => exact wpIn_ret (done _ hx)
    | exit id => exact wpIn_exit (done _ hx)
    | region id ops draw =>
      simp only [evC] at hx
      simp only [codeB, Bool.and_eq_true] at hcb
      have hdst : ∀ o ∈ ops.toList, ∀ t, o.dst = some t → t < a.tmps.size := fun o ho t ht => Nat.lt_of_lt_of_le (opsB_spec hcb.1 o ho t ht) hsz
      have hBo : ∀ o ∈ ops.toList, ∀ t, o.dst = some t → B t = false := fun o ho t ht => hB t (by simp only [asgL, List.mem_filterMap]; exact ⟨o, ho, ht⟩)
      cases draw with
      | true =>
        simp only [cond_true] at hx
        obtain ⟨_, h0, n0, t8, t9, q0, hx, _⟩ := Ex.bind hx
        obtain ⟨X0, w0, g0, s0, hn0⟩ := restP_ok K _ g q0
        have hn0 := hn0.symm
        subst hn0
        simp only [drawC] at hx
        have hx := Ex.cnt hx
        obtain ⟨env1, h1, n1, t1, t2, q1, q2, _⟩ := Ex.bind hx
        obtain ⟨hxx, rfl, rfl, rfl⟩ := Ex.ret q2
        obtain ⟨rfl, rfl⟩ := Prod.mk.inj hxx
        have hle := Ex.le q1
        rw [← w0]
        exact draw_ok K hcall hBo K.order (drawB_spec (by simpa using hcb.2)) g0 (he.step K.base s0 (Nat.le_refl _)) hlim hdst q1 fun a' X' g' s' e' hs' hd' kp' => hk a' X' g' (s0.trans s' (Nat.le_refl _)) e' hs' (.of_eq hd') kp'
      | false =>
        simp only [cond_false, regC] at hx
        obtain ⟨env1, h1, n1, t1, t2, q1, q2, _⟩ := Ex.bind hx
        obtain ⟨hxx, rfl, rfl, rfl⟩ := Ex.ret q2
        obtain ⟨rfl, rfl⟩ := Prod.mk.inj hxx
        refine wpIn_region ?_
        rw [List.range_eq_range']
        have := evOps_ok (ro := ro) (m := m) K hcall hBo ops.toList 0 rfl g he hlim hdst q1 (Q := Q) (fun a' X' g' s' e' hs' hd' kp' => hk a' X' g' s' e' hs' (.of_eq hd') kp')
        simpa using this
    | seq c1 c2 =>
      simp only [evC] at hx
      simp only [codeB, Bool.and_eq_true] at hcb
      obtain ⟨⟨x1, env1⟩, h1, n1, t1, t2, q1, q2, _⟩ := Ex.bind hx
      have hle := Ex.le q2
      have hle1 := Ex.le q1
      refine wpIn_seq (ihC ro m f nt c1 (okL hfl (fun h => by simp only [flatB, Bool.and_eq_true] at h; exact h.1) (fun b hb => by simp [loops, hb])) hcb.1 B (fun t ht => hB t (by simp [asgL, ht])) X h nx lim e env x1 env1 h1 n1 t1 a _ g he (by omega) hsz q1 ?_)
      intro a1 X1 g1 s1 e1 hs1 hd1 kp1
      cases x1 with
      | normal =>
        simp only [thenC] at q2
        exact ihC ro m f nt c2 (okL hfl (fun h => by simp only [flatB, Bool.and_eq_true] at h; exact h.2) (fun b hb => by simp [loops, hb])) hcb.2 B (fun t ht => hB t (by simp [asgL, ht])) X1 h1 n1 lim e env1 x env' h' nx' t2 a1 Q g1 e1 hlim (by omega) q2 fun a2 X2 g2 s2 e2 hs2 hd2 kp2 => hk a2 X2 g2 (s1.trans s2 hle1) e2 (by omega) (hd1.trans s1 s2 hd2) (kp1.trans kp2)
      | exit id =>
        obtain ⟨hxx, rfl, rfl, rfl⟩ := Ex.ret q2
        obtain ⟨rfl, rfl⟩ := Prod.mk.inj hxx
        exact hk a1 X1 g1 s1 e1 hs1 hd1 kp1
      | ret =>
        obtain ⟨hxx, rfl, rfl, rfl⟩ := Ex.ret q2
        obtain ⟨rfl, rfl⟩ := Prod.mk.inj hxx
        exact hk a1 X1 g1 s1 e1 hs1 hd1 kp1
    | cond c c1 c2 =>
      simp only [evC, condC] at hx
      simp only [codeB, Bool.and_eq_true] at hcb
      have side0 : ∀ (b : Bool) (env0 : Env C) (x0 : Ev.X) (env1 : Env C) (tr1 : Tr) (B' : Nat → Bool), (∀ t ∈ asgL c1 ++ asgL c2, B' t = false) → EnvOK T X nx lim env0 a.tmps → a.eval c = .bool b → Ex e (evC T Φ n f (if b then c1 else c2) env0) h nx (x0, env1) h' nx' tr1 →
          CPost T B' X nx lim h' nx' env1 a (Q (exitX x0)) → (Code.cond c c1 c2).wpIn (roF ro) m P Q a X.w := by
        intro b env0 x0 env1 tr1 B' hB' he0 hc0 hx0 hk0
        refine wpIn_cond hc0 (ihC ro m f nt _ ?_ ?_ B' (fun t ht => hB' t (by cases b <;> simp at ht ⊢ <;> simp [ht])) X h nx lim e env0 x0 env1 h' nx' tr1 a Q g he0 hlim hsz hx0 hk0)
        · exact okL hfl (fun h => by simp only [flatB, Bool.and_eq_true] at h; cases b <;> simp [h.1, h.2]) (fun b' hb' => by cases b <;> simp [loops] at hb' ⊢ <;> simp [hb'])
        · cases b <;> simp [hcb.1, hcb.2]
      have side : ∀ (b : Bool) (env0 : Env C), EnvOK T X nx lim env0 a.tmps → a.eval c = .bool b → Ex e (evC T Φ n f (if b then c1 else c2) env0) h nx (x, env') h' nx' tr → (Code.cond c c1 c2).wpIn (roF ro) m P Q a X.w := by
        intro b env0 he0 hc0 hx0
        refine wpIn_cond hc0 (ihC ro m f nt _ ?_ ?_ B (fun t ht => hB t (by cases b <;> simp [asgL] at ht ⊢ <;> simp [ht])) X h nx lim e env0 x env' h' nx' tr a Q g he0 hlim hsz hx0 hk)
        · exact okL hfl (fun h => by simp only [flatB, Bool.and_eq_true] at h; cases b <;> simp [h.1, h.2]) (fun b' hb' => by cases b <;> simp [loops] at hb' ⊢ <;> simp [hb'])
        · cases b <;> simp [hcb.1, hcb.2]
      cases c with
      | tmp t =>
        simp only at hx
        have het := he t
        generalize hq : eget env t = q at hx het
        cases q with
        | bool b =>
          simp only at hx
          have hv : a.eval (.tmp t) = .bool b := het.1.bool
          rcases mrgC_cases (bif pureC Φ c1 && pureC Φ c2 then some (asgL c1 ++ asgL c2) else none) env b (evC T Φ n f c1 ((t, .bool true) :: env)) (evC T Φ n f c2 ((t, .bool false) :: env)) with hm | ⟨l, x1, y1, r, hp1, hp2, hr, hml, hm⟩
          · rw [hm] at hx
            rcases Ex.br hx with ⟨rfl, hx⟩ | ⟨rfl, hx⟩
            · exact side true _ (he.cons_same hq) hv hx
            · exact side false _ (he.cons_same hq) hv hx
          · rw [hm] at hx
            obtain ⟨hxx, rfl, rfl, rfl⟩ := Ex.ret hx
            obtain ⟨rfl, rfl⟩ := Prod.mk.inj hxx
            have hl2 : l = asgL c1 ++ asgL c2 := by
              cases hpp : pureC Φ c1 && pureC Φ c2 with
              | false => simp [hpp] at hml
              | true => simpa [hpp] using hml.symm
            have hex : Ex e (evC T Φ n f (if b then c1 else c2) ((t, .bool b) :: env)) h' nx' (.normal, bif b then x1 else y1) h' nx' [] := by
              cases b with
              | true => simp only [if_true, hp1]; simp [Ex, Pg.run]
              | false => simp only [Bool.false_eq_true, if_false, hp2]; simp [Ex, Pg.run]
            refine side0 b ((t, .bool b) :: env) .normal (bif b then x1 else y1) [] (fun u => B u || !(l.any (Nat.beq u))) (fun u hu => ?_) (he.cons_same hq) hv hex ?_
            · have h1 : l.any (Nat.beq u) = true := List.any_eq_true.2 ⟨u, by rw [hl2]; exact hu, by simp⟩
              have h2 : B u = false := hB u (by simpa [asgL] using hu)
              simp only [h1, h2]; rfl
            · intro a1 X1 g1 s1 e1 hs1 hd1 kp1
              refine hk a1 X1 g1 s1 (fun u => ?_) hs1 hd1 (fun u hu => kp1 u (by simp [hu]))
              rcases mrgE_get (t := u) (env := env) hr with ⟨h1, h2⟩ | ⟨h1, h2⟩
              · refine mrgT_ok h2 ?_
                have := e1 u
                cases b <;> simpa using this
              · rw [h2, kp1 u (by simp only [h1]; simp)]
                exact (he u).step K.base s1 (Nat.le_refl _)
        | _ => exact (Ex.fail hx).elim
      | const v =>
        cases v with
        | bool b =>
          simp only at hx
          rcases Ex.br hx with ⟨rfl, hx⟩ | ⟨rfl, hx⟩
          · exact side true _ he rfl hx
          · exact side false _ he rfl hx
        | _ => exact (Ex.fail hx).elim
      | global q => exact (Ex.fail hx).elim
      | func q => exact (Ex.fail hx).elim
    | block id c =>
      simp only [evC] at hx
      obtain ⟨⟨x1, env1⟩, h1, n1, t1, t2, q1, q2, _⟩ := Ex.bind hx
      have hle := Ex.le q2
      refine wpIn_block (ihC ro m f nt c (okL hfl (fun h => by simpa [flatB] using h) (fun b hb => by simpa [loops] using hb)) (by simpa [codeB] using hcb) B (fun t ht => hB t (by simpa [asgL] using ht)) X h nx lim e env x1 env1 h1 n1 t1 a _ g he (by omega) hsz q1 ?_)
      intro a1 X1 g1 s1 e1 hs1 hd1 kp1
      cases x1 with
      | normal =>
        obtain ⟨hxx, rfl, rfl, rfl⟩ := Ex.ret q2
        obtain ⟨rfl, rfl⟩ := Prod.mk.inj hxx
        exact hk a1 X1 g1 s1 e1 hs1 hd1 kp1
      | exit i =>
        simp only [inBlockC] at q2
        show (if i = id then Q .normal a1 X1.w else Q (.exit i) a1 X1.w)
        cases hi : Nat.beq i id with
        | true =>
          simp only [hi, cond_true] at q2
          obtain ⟨hxx, rfl, rfl, rfl⟩ := Ex.ret q2
          obtain ⟨rfl, rfl⟩ := Prod.mk.inj hxx
          have : i = id := Nat.eq_of_beq_eq_true hi
          simp only [this, if_true]
          exact hk a1 X1 g1 s1 e1 hs1 hd1 kp1
        | false =>
          simp only [hi, cond_false] at q2
          obtain ⟨hxx, rfl, rfl, rfl⟩ := Ex.ret q2
          obtain ⟨rfl, rfl⟩ := Prod.mk.inj hxx
          have : i ≠ id := Nat.ne_of_beq_eq_false hi
          simp only [this, if_false]
          exact hk a1 X1 g1 s1 e1 hs1 hd1 kp1
      | ret =>
        obtain ⟨hxx, rfl, rfl, rfl⟩ := Ex.ret q2
        obtain ⟨rfl, rfl⟩ := Prod.mk.inj hxx
        exact hk a1 X1 g1 s1 e1 hs1 hd1 kp1
    | loop c =>
      obtain ⟨rfl, fn, body, hf, rfl, hb, hl⟩ := hfl.resolve_left (by simp [flatB])
      refine wpIn_wide.2 ?_
      cases hs : Φ.loop f (firstRegion c) with
      | none => exact wp_loop_rounds (n + 1) (hR f fn body c hf hb hcb hl hs B (fun t ht => hB t (by simpa [asgL] using ht)) X h nx lim e env x env' h' nx' tr a Q g he hlim hsz hx hk)
      | some s =>
        simp only [evC, loopC, hs] at hx
        obtain ⟨⟨x1, env1⟩, h1, n1, t1, t2, q1, q2, _⟩ := Ex.bind hx
        obtain ⟨hxx, rfl, rfl, _⟩ := Ex.ret q2
        obtain ⟨rfl, rfl⟩ := Prod.mk.inj hxx
        have hle1 := Ex.le q1
        refine F.loop f fn body c s hf hb (hl c (by simp [loops])) hs (fun t => B t || !((asgL c).any (Nat.beq t))) (fun t ht => ?_) X h nx lim e env x env1 h' nx' t1 a Q g he hlim hsz q1 ?_
        · have h1 : (asgL c).any (Nat.beq t) = true := List.any_eq_true.2 ⟨t, ht, by simp⟩
          have h2 : B t = false := hB t (by simpa [asgL] using ht)
          simp only [h1, h2]; rfl
        · intro a1 X1 g1 s1 e1 hs1 hd1 kp1
          refine hk a1 X1 g1 s1 (fun t => ?_) hs1 hd1 (fun t ht => kp1 t (by simp [ht]))
          rcases eget_app env1 (keepE (asgL c) env) t with h1 | h1
          · rw [h1]; exact e1 t
          · rw [h1]
            cases hq : (asgL c).any (Nat.beq t) with
            | true => rw [keepE_in hq]; exact RO.mk (RV.top _ _ _) rfl
            | false =>
              rw [keepE_out hq, kp1 t (by simp only [hq]; simp)]
              exact (he t).step K.base s1 hle1
    | rangeFunc gq ps asn body' =>
      obtain ⟨rfl, fn, body, hf, rfl, hb, hl⟩ := hfl.resolve_left (by simp [flatB])
      simp only [evC, rangeC, hf] at hx
      have hgo := opd_ok he gq
      generalize hq : evAt env gq = q at hx hgo
      cases q with
      | fn fid caps =>
        simp only at hx
        cases hyb : Nat.beq fid ylBase with
        | true => rw [hyb] at hx; exact (Ex.fail hx).elim
        | false =>
          rw [hyb] at hx
          have hfy : fid ≠ ylBase := fun e => by rw [e] at hyb; simp at hyb
          simp only [cond_false] at hx
          obtain ⟨d0, h1, n1, t1, t2, q1, q2, _⟩ := Ex.bind hx
          obtain ⟨hxx, rfl, rfl, rfl⟩ := Ex.ret q2
          obtain ⟨rfl, rfl⟩ := Prod.mk.inj hxx
          have hR := hgo.1.one rfl
          generalize hv : a.eval gq = vf at hR hgo
          cases hR with
          | @fn _ _ cvs hcv =>
            refine wpIn_rangeFunc ?_
            intro fnid _
            rw [roF_round]
            obtain ⟨rc, hrc⟩ : ∃ rc : Loop, rc = { state := .ready, pending := none, fn := fnid, tmps := a.tmps, params := ps, assign := asn, body := body', defers := X.w.heap.size } := ⟨_, rfl⟩
            obtain ⟨W1, hW1⟩ : ∃ W1, (X.w.alloc (.deferred (some []))).alloc (.loop rc) = W1 := ⟨_, rfl⟩
            have hL1 : W1.heap[X.w.heap.size + 1]? = some (.loop rc) := by
              rw [← hW1]; have := World.alloc_heap_new (X.w.alloc (.deferred (some []))) (.loop rc); rwa [World.size_alloc] at this
            have hK1 : W1.heap[X.w.heap.size]? = some (.deferred (some [])) := by
              rw [← hW1]; exact (RowKit.Below.heap_alloc _ _ _ (by simp)).trans (World.alloc_heap_new X.w _)
            have hz1 : W1.heap.size = X.w.heap.size + 2 := by rw [← hW1]; simp
            have hold : ∀ k, k < X.w.heap.size → W1.heap[k]? = X.w.heap[k]? := fun k hk => by
              rw [← hW1]; exact (RowKit.Below.heap_alloc _ _ k (by simp; omega)).trans (RowKit.Below.heap_alloc _ _ k hk)
            obtain ⟨g1, s1⟩ := g.grow K.base W1 (by omega) hold (by rw [← hW1]; rfl) (by rw [← hW1]; rfl) (by rw [← hW1]; rfl) (fun q hq => frozen_congr (hold _ hq))
            have hm1 : ∀ k, X.w.heap.size ≤ k → ∀ o, ¬ (⟨W1, X.ρ, X.O⟩ : Cx).mine k o := fun k hk o ho => by
              have := (g.outer k o ho).2
              omega
            have hys : R T ⟨W1, X.ρ, X.O⟩ false (.yl fn.ntmps (slotsE (usedC asn ++ usedC body') env') ps.toList asn body' (D.ofList ((slotsE (usedC asn ++ usedC body') env').map (eget env')))) [.func (.yield (X.w.heap.size + 1)) #[] #[]] := by
              refine .yl (rec := rc) hL1 (hm1 _ (by omega)) (by rw [hrc]; exact ⟨rfl, rfl, rfl, rfl, rfl, hsz⟩) ?_
              rw [hrc]
              have : ∀ sl : List Nat, RVs T ⟨W1, X.ρ, X.O⟩ (sl.map (eget env')) (sl.map fun t => a.tmps.getD t undef) := by
                intro sl
                induction sl with
                | nil => exact .nil
                | cons t sl ih => exact .cons ((he t).step K.base s1 (Nat.le_refl _)).1 ih
              exact (this _).row T
            have hargs : RVs T ⟨W1, X.ρ, X.O⟩ (.yl fn.ntmps (slotsE (usedC asn ++ usedC body') env') ps.toList asn body' (D.ofList ((slotsE (usedC asn ++ usedC body') env').map (eget env'))) :: caps.toList) (.func (.yield (X.w.heap.size + 1)) #[] #[] :: cvs) :=
              .cons (.inr ⟨rfl, hys⟩) ((hcv.toList T rfl).mono' K.base s1 (fun q hq id hid => hgo.2 id (by simpa [D.refs] using refs_toList caps q hq id hid)))
            have hrefs : ∀ q ∈ (.yl fn.ntmps (slotsE (usedC asn ++ usedC body') env') ps.toList asn body' (D.ofList ((slotsE (usedC asn ++ usedC body') env').map (eget env'))) :: caps.toList : List (D C)), ∀ id ∈ D.refs q, old nx lim id := by
              intro q hq id hid
              rcases List.mem_cons.1 hq with rfl | hq
              · obtain ⟨q2, hq2, hi⟩ := refs_ofList _ id (by simpa [D.refs] using hid)
                obtain ⟨t, _, rfl⟩ := List.mem_map.1 hq2
                exact (he t).2 id hi
              · exact hgo.2 id (by simpa [D.refs] using refs_toList caps q hq id hid)
            obtain ⟨c1, c2⟩ := hcall.2 fid hfy _ _ ⟨W1, X.ρ, X.O⟩ h nx lim e d0 h' nx' t1 g1 hargs hrefs hlim q1
            refine ⟨X.w.heap.size + 1, [markOf X.w.heap.size], W1, { target := .fn (.func fid) ⟨cvs⟩, args := #[.func (.yield (X.w.heap.size + 1)) #[] #[]] }, W1, fid, ⟨.func (.yield (X.w.heap.size + 1)) #[] #[] :: cvs⟩, W1, ?_, ?_, ?_, ?_, roF_ge, ?_⟩
            · rw [← hW1, hrc]; exact run_enterLoop_outer _ _ _ _ _
            · simp only [resolve, hv]
              simp [go_sem]
            · intro f' _; exact roF_fn none f'
            · have e2 : (#[.func (.yield (X.w.heap.size + 1)) #[] #[]] : Array Value) ++ ⟨cvs⟩ = ⟨.func (.yield (X.w.heap.size + 1)) #[] #[] :: cvs⟩ := by apply Array.ext'; simp
              simp only [invoke, e2]
              exact c1
            · refine calls_ro (c2.mono fun en w2 hp => ?_)
              obtain ⟨v, X2, rfl, rfl, g2, s2, r2⟩ := hp
              obtain ⟨hw2, hm2⟩ := s2.keeps.loop _ _ hL1 (hm1 _ (by omega))
              have tn : Turn1 X2 (X.w.heap.size + 1) (X2.w.putObj (X.w.heap.size + 1) (.loop { rc with state := .exhausted })) := putObj_turn hw2 (fun c t f h => by cases h) hm2
              have hend := run_endLoop (P := P) hw2 (by rw [hrc]; simp)
              obtain ⟨W4, hW4⟩ : ∃ W4, X2.w.putObj (X.w.heap.size + 1) (.loop { rc with state := .exhausted }) = W4 := ⟨_, rfl⟩
              rw [hW4] at hend tn
              rw [show rc.pending = none by rw [hrc]] at hend
              refine ⟨none, W4, hend, ?_⟩
              have s3 := (s1.trans s2 (Nat.le_refl _)).turn tn (by omega)
              refine hk { a with defers := markOf X.w.heap.size :: a.defers } ⟨W4, X2.ρ, X2.O⟩ (g2.turn K.base tn) s3 (EnvOK.step K.base s3 he (Ex.le q1)) rfl ⟨[X.w.heap.size], rfl, by simp, fun r hr => ?_⟩ (.refl _ _)
              obtain rfl : r = X.w.heap.size := by simpa using hr
              refine ⟨Nat.le_refl _, ?_, fun o ho => hm1 _ (Nat.le_refl _) o (s2.mine _ o (by show X.w.heap.size < W1.heap.size; omega) ho)⟩
              exact ((tn.block _ (by omega)).trans (s2.block _ (by show X.w.heap.size < W1.heap.size; omega) (hm1 _ (Nat.le_refl _)))).trans hK1
      | _ => exact (Ex.fail hx).elim
    | _ => exact (Ex.fail hx).elim
theorem enter_ok (n : Nat) : FunOK P T (enterD T Φ (evC T Φ n)) := enter_of_code K F (code_ok K F n).1
end
section
variable {C : Cdc} {P : Program} {T : Tab C} {Φ : Fns C}
open Pg (Ex)
theorem evF_ex {n : Nat} {f : FuncId} {args : List (D C)} {d : D C} (h : evF T Φ n f args = some d) : ∃ h' nx' tr, Ex (0, 0) (enterD T Φ (evC T Φ n) f args) [] 0 d h' nx' tr ∧ d.refs = [] ∧ d.noYl = true := by
  unfold evF at h
  obtain ⟨a, h', n', t, h1, h2⟩ := Pg.run_some h
  cases hb : a.refs.isEmpty && a.noYl with
  | false => simp [hb] at h2
  | true =>
    simp only [hb, cond_true, Option.some.injEq] at h2
    subst h2
    rw [Bool.and_eq_true] at hb
    exact ⟨h', n', t, h1, List.isEmpty_iff.1 hb.1, hb.2⟩
def lim0 (n : Nat) : Lim := ⟨0, n, fun _ => False, fun _ _ _ h => h⟩
theorem G.start (w : World) (O : Nat → Nat → Prop) (hO : ∀ b o, O b o → b < w.heap.size) (hp : ∀ p ∈ T.pre, ∃ t f, w.heap[p.1]? = some (.cells p.2 t f)) (n : Nat) : G T ⟨w, fun _ => none, O⟩ [] 0 (lim0 n) where
  var id t d h := by simp [Heap.get] at h
  vec id t own l h := by simp [Heap.get] at h
  map id ck cv l h := by simp [Heap.get] at h
  dom id l h := by simp at h
  nums id o h := by simp [Heap.get] at h
  apart id id' l l' b o o' h := by simp at h
  outer b o h := by obtain ⟨_, _, h, _⟩ := h; simp at h
  outs := hO
  low := Nat.le_refl _
  pre p h := ⟨hp p h, fun o ⟨_, _, hq, _⟩ => by simp at hq⟩
variable (K : PLaws P T) (F : FLaws P T Φ)
include K F
theorem evF_calls {n : Nat} {f : FuncId} {args : List (D C)} {d : D C} (h : evF T Φ n f args = some d) (hargs : ∀ a ∈ args, D.refs a = []) (w : World) (O : Nat → Nat → Prop) (hO : ∀ b o, O b o → b < w.heap.size) (hp : ∀ p ∈ T.pre, ∃ t f, w.heap[p.1]? = some (.cells p.2 t f)) {vs : List Value}
    (hvs : RVs T ⟨w, fun _ => none, O⟩ args vs) : (callFunc f ⟨vs⟩).run P w = .ok (.enter f ⟨vs⟩) w ∧ Calls P f ⟨vs⟩ w fun en w' =>
      ∃ v ρ, en = .returned v ∧ RV T ⟨w', ρ, O⟩ d v ∧ w.heap.size ≤ w'.heap.size ∧ (∀ b, b < w.heap.size → w'.heap[b]? = w.heap[b]?) ∧ w'.os = w.os ∧ w'.tape = w.tape ∧ w'.output = w.output ∧ (∀ a : Addr, a.block < w.heap.size → w'.frozen? a = w.frozen? a) := by
  obtain ⟨h', nx', tr, hx, hd, _⟩ := evF_ex h
  have g := G.start (T := T) w O hO hp nx'
  obtain ⟨q1, q2⟩ := enter_ok K F n f args vs _ _ _ _ _ _ _ _ _ g hvs (fun a ha id hid => by rw [hargs a ha] at hid; simp at hid) (Nat.le_refl _) hx
  refine ⟨q1, q2.mono fun en w' hp => ?_⟩
  obtain ⟨v, X', rfl, rfl, g', s', r'⟩ := hp
  have hO' : X'.O = O := s'.O
  refine ⟨v, X'.ρ, rfl, ?_, s'.size, fun b hb => s'.block b hb (fun o hm => by obtain ⟨_, _, hq, _⟩ := hm; simp at hq), s'.os, s'.tape, s'.output, s'.frz⟩
  rw [← hO']
  exact r'.1
theorem evF_bare {n : Nat} {f : FuncId} {args : List (D C)} {d : D C} (h : evF T Φ n f args = some d) (hargs : ∀ a ∈ args, D.refs a = []) : BareLaw P T f args d := by
  intro w O vs hO hp hvs
  have hd : d.refs = [] ∧ d.noYl = true := by obtain ⟨_, _, _, _, hd⟩ := evF_ex h; exact hd
  obtain ⟨q1, q2⟩ := evF_calls K F h hargs w O hO hp hvs
  refine ⟨q1, q2.mono fun en w' hpp => ?_⟩
  obtain ⟨v, ρ, rfl, r, a1, a2, a3, a4, a5, a6⟩ := hpp
  exact ⟨v, ρ, rfl, r, hd, a1, a2, a3, a4, a5, a6⟩
end
inductive Tree (α : Type) where
  | nil
  | node (k : Nat) (a : α) (l r : Tree α)
namespace Tree
variable {α : Type}
def get (u : Nat) : Tree α → Option α
  | .nil => none
  | .node k a l r => bif Nat.blt u k then l.get u else bif Nat.blt k u then r.get u else some a
def all (p : Nat → α → Bool) : Tree α → Bool
  | .nil => true
  | .node k a l r => p k a && l.all p && r.all p
theorem get_all {p : Nat → α → Bool} {u : Nat} {a : α} : ∀ {t : Tree α}, t.all p = true → t.get u = some a → p u a = true
  | .nil, _, h => by simp [get] at h
  | .node k b l r, h, hg => by
    simp only [all, Bool.and_eq_true] at h
    simp only [get] at hg
    cases h1 : Nat.blt u k with
    | true => rw [h1] at hg; exact get_all h.1.2 hg
    | false =>
      rw [h1] at hg
      cases h2 : Nat.blt k u with
      | true => rw [h2] at hg; exact get_all h.2 hg
      | false =>
        rw [h2] at hg
        simp only [cond_false, Option.some.injEq] at hg
        have e1 : ¬ u < k := by rw [← Nat.blt_eq, h1]; simp
        have e2 : ¬ k < u := by rw [← Nat.blt_eq, h2]; simp
        obtain rfl : u = k := by omega
        rw [← hg]; exact h.1.1
end Tree
section
variable {C : Cdc}
structure Row (C : Cdc) where
  g : GT C
  size : Nat
  bytes : Nat
  zero : Option (D C)
structure Cod (C : Cdc) where
  enc : (t : C.Ty) → C.A t → D C
  dec : (t : C.Ty) → D C → Option (C.A t)
  dflt : (t : C.Ty) → C.A t
  ety : C.Ty → TypeId
  eqb : (t : C.Ty) → C.A t → C.A t → Option Bool
  u8s : (t : C.Ty) → Option (List (C.A t) → List UInt8)
  ofU8s : (t : C.Ty) → Option (List UInt8 → List (C.A t))
def mkTab (cd : Cod C) (t : Tree (Row C)) (pre : List (Nat × Array Value) := []) (settle : TypeId → Bool := fun _ => true) : Tab C where
  ty u := match t.get u with | some r => r.g | none => .none
  size u := match t.get u with | some r => r.size | none => 0
  bytes u := match t.get u with | some r => r.bytes | none => 0
  enc := cd.enc
  dec := cd.dec
  dflt := cd.dflt
  ety := cd.ety
  eqb := cd.eqb
  zero u := match t.get u with | some r => r.zero | none => none
  u8s := cd.u8s
  ofU8s := cd.ofU8s
  pre := pre
  settle := settle
def gtB : GT C → GT C → Bool
  | .bool, .bool | .str, .str | .fn, .fn => true
  | .int k, .int k' => decide (k = k')
  | .struct a fs, .struct a' fs' => a == a' && fs == fs'
  | .arr n e t, .arr n' e' t' => Nat.beq n n' && Nat.beq e e' && decide (t = t')
  | .sl e t, .sl e' t' => Nat.beq e e' && decide (t = t')
  | .ptr e, .ptr e' => Nat.beq e e'
  | .dsl e, .dsl e' => Nat.beq e e'
  | .map k v ck cv, .map k' v' ck' cv' => Nat.beq k k' && Nat.beq v v' && decide (ck = ck') && decide (cv = cv')
  | _, _ => false
theorem gtB_eq {a b : GT C} (h : gtB a b = true) : a = b := by
  cases a <;> cases b <;> simp_all [gtB]
variable (P : Program) (T : Tab C)
def zRl {t : C.Ty} (f : D C → List Value → Option (List Value)) : List (C.A t) → List Value → Option (List Value)
  | [], cs => some cs
  | x :: l, cs => match f (T.enc t x) cs with
    | some r => zRl f l r
    | none => none
def zR : Nat → D C → List Value → Option (List Value)
  | 0, _, _ => none
  | n + 1, d, cs => match d, cs with
    | .bool b, .bool b' :: r => bif b == b' then some r else none
    | .int k m, .int k' m' :: r => bif decide (k = k') && m == m' && decide (k.min ≤ m) && decide (m ≤ k.max) then some r else none
    | .str s, .string s' :: r => bif s == s'.data.toList then some r else none
    | .anil, cs => some cs
    | .acons d ds, cs => match zR n d cs with
      | some r => zR n ds r
      | none => none
    | .arr t m l, cs => bif Nat.beq m l.length then zRl T (zR n) l cs else none
    | .nils, .slice none 0 0 :: r => some r
    | .sl _ _ [], .slice none 0 0 :: r => some r
    | .nilp, .pointer none :: r => some r
    | .nilfn, .nilFunc :: r => some r
    | .nilm, .map none :: r => some r
    | _, _ => none
variable {P T}
theorem zRl_ok {X : Cx} {t : C.Ty} {f : D C → List Value → Option (List Value)} (hf : ∀ d cs r, f d cs = some r → ∃ c1, cs = c1 ++ r ∧ R T X false d c1) : ∀ (l : List (C.A t)) (cs r : List Value), zRl T f l cs = some r → ∃ c1, cs = c1 ++ r ∧ R T X false (.arr t l.length l) c1
  | [], cs, r, h => by simp [zRl] at h; exact ⟨[], by simp [h], .arr0 _⟩
  | x :: l, cs, r, h => by
    simp only [zRl] at h
    cases hq : f (T.enc t x) cs with
    | none => simp [hq] at h
    | some r1 =>
      simp only [hq] at h
      obtain ⟨c1, e1, k1⟩ := hf _ _ _ hq
      obtain ⟨c2, e2, k2⟩ := zRl_ok hf l r1 r h
      exact ⟨c1 ++ c2, by rw [e1, e2, List.append_assoc], .arrS k1 k2⟩
theorem zR_ok {X : Cx} : ∀ (n : Nat) (d : D C) (cs r : List Value), zR T n d cs = some r → ∃ c1, cs = c1 ++ r ∧ R T X false d c1 := by
  intro n
  induction n with
  | zero => intro d cs r h; simp [zR] at h
  | succ n ih =>
    intro d cs r h
    unfold zR at h
    split at h
    · rename_i b b' q
      cases hb : (b == b') with
      | false => simp [hb] at h
      | true => simp [hb] at h; subst h; have := eq_of_beq hb; subst this; exact ⟨[.bool b], rfl, .bool b⟩
    · rename_i k m k' m' q
      cases hb : (decide (k = k') && m == m' && decide (k.min ≤ m) && decide (m ≤ k.max)) with
      | false => simp [hb] at h
      | true =>
        simp only [hb, cond_true, Option.some.injEq] at h
        subst h
        simp only [Bool.and_eq_true, decide_eq_true_eq, beq_iff_eq] at hb
        obtain ⟨⟨⟨rfl, rfl⟩, h1⟩, h2⟩ := hb
        exact ⟨[.int k m], rfl, .int ⟨h1, h2⟩⟩
    · rename_i s s' q
      cases hb : (s == s'.data.toList) with
      | false => simp [hb] at h
      | true =>
        simp only [hb, cond_true, Option.some.injEq] at h
        subst h
        have := eq_of_beq hb
        subst this
        exact ⟨[.string s'], rfl, .str _⟩
    · simp at h; exact ⟨[], by simp [h], .anil⟩
    · rename_i d ds
      cases hq : zR T n d cs with
      | none => simp [hq] at h
      | some r1 =>
        simp only [hq] at h
        obtain ⟨c1, e1, k1⟩ := ih _ _ _ hq
        obtain ⟨c2, e2, k2⟩ := ih _ _ _ h
        exact ⟨c1 ++ c2, by rw [e1, e2, List.append_assoc], .acons k1 k2⟩
    · rename_i t m l
      cases hb : Nat.beq m l.length with
      | false => simp [hb] at h
      | true =>
        simp only [hb, cond_true] at h
        have := Nat.eq_of_beq_eq_true hb
        subst this
        exact zRl_ok ih l _ _ h
    · simp at h; subst h; exact ⟨[.slice none 0 0], rfl, .nils⟩
    · simp at h; subst h; exact ⟨[.slice none 0 0], rfl, .sl0 _ _ _⟩
    · simp at h; subst h; exact ⟨[.pointer none], rfl, .nilp⟩
    · simp at h; subst h; exact ⟨[.nilFunc], rfl, .nilfn⟩
    · simp at h; subst h; exact ⟨[.map none], rfl, .nilm⟩
    · simp at h
variable (P T)
def zB (d : D C) (cs : List Value) : Bool := match zR T 50 d cs with
  | some [] => true
  | _ => false
variable {P T}
theorem zB_ok {d : D C} {cs : List Value} (h : zB T d cs = true) (X : Cx) : R T X false d cs := by
  unfold zB at h
  split at h
  · rename_i hq
    obtain ⟨c1, e1, k1⟩ := zR_ok (X := X) _ _ _ _ hq
    simp at e1; rw [e1]; exact k1
  · cases h
variable (P T)
def elemB (e : TypeId) (t : C.Ty) : Bool :=
  gtB (T.ty e) (T.ty (T.ety t)) && Nat.beq (T.size e) (T.size (T.ety t)) && match P.info? e with
  | some i => Nat.beq i.size (T.size e) && Nat.beq i.bytes (T.bytes e) && Nat.blt 0 (T.bytes e) && Nat.blt 0 (T.size e) && match i.zero with
    | some z => Nat.beq z.cells.size (T.size e) && zB T (T.enc t (T.dflt t)) z.cells.toList
    | none => false
  | none => false
def offsB : List Field → Nat → Bool
  | [], _ => true
  | f :: fs, n => Nat.beq f.offset n && offsB fs (n + T.size f.type)
def oneB (e : TypeId) : Bool := (match T.ty e with | .struct _ _ => false | .arr _ _ _ => false | .none => false | _ => true) && match P.info? e with
  | some i => Nat.beq i.size 1 && (match i.zero with | some z => Nat.beq z.cells.size 1 | none => false)
  | none => false
def mapB (k v : TypeId) (ck cv : C.Ty) : Bool := gtB (T.ty k) (T.ty (T.ety ck)) && gtB (T.ty v) (T.ty (T.ety cv)) && (match T.ty k with | .int _ => true | .str => true | .bool => true | _ => false) && match P.info? v with
  | some i => (match i.zero with | some (.agg cs) => (T.enc cv (T.dflt cv)).isRow && zB T (T.enc cv (T.dflt cv)) cs.toList | some z => !(T.enc cv (T.dflt cv)).isRow && zB T (T.enc cv (T.dflt cv)) [z] | none => false)
  | none => false
def shapeB (u : TypeId) (g : GT C) (size : Nat) : Bool := match g, P.underlying u with
  | .bool, some .bool => Nat.beq size 1
  | .int k, some (.int k') => decide (k = k') && Nat.beq size 1
  | .str, some .string => Nat.beq size 1
  | .struct false fs, some (.struct fields) => (fields.toList.map (·.type) == fs) && Nat.beq size (sumSz T fs) && offsB T fields.toList 0 && !P.stoodInHeld u && !P.eqGuardType P.depth u && fields.toList.all (fun f => f.name != "_") &&
      fs.all (fun f => match P.info? f with | some i => Nat.beq i.size (T.size f) && Nat.blt 0 (T.size f) | none => false)
  | .struct true fs, some (.array n e) => Nat.beq fs.length n && (fs == List.replicate fs.length e) && Nat.blt 0 fs.length && Nat.beq size (sumSz T fs) && (match P.info? e with | some i => Nat.beq i.size (T.size e) | none => false)
  | .arr n e t, some (.array n' e') => Nat.beq n n' && Nat.beq e e' && !P.eqGuardType P.depth u && Nat.beq size (n * T.size e) && elemB P T e t
  | .sl e t, some (.slice e') => Nat.beq e e' && Nat.beq size 1 && elemB P T e t
  | .ptr e, some (.pointer e') => Nat.beq e e' && Nat.beq size 1
  | .fn, some (.func _ _ _) => Nat.beq size 1
  | .dsl e, some (.slice e') => Nat.beq e e' && Nat.beq size 1 && oneB P T e
  | .map k v ck cv, some (.map k' v') => Nat.beq k k' && Nat.beq v v' && Nat.beq size 1 && mapB P T k v ck cv
  | _, _ => false
def rowB (u : TypeId) (r : Row C) : Bool :=
  Nat.blt 0 r.size && (match P.info? u with
    | some i => Nat.beq i.size r.size && (match r.zero with
      | none => true
      | some z => match i.zero with
        | some v => z.refs.isEmpty && zB T z v.cells.toList
        | none => false)
    | none => false) && shapeB P T u r.g r.size
variable {P T}
theorem offsB_spec : ∀ (fs : List Field) (n : Nat), offsB T fs n = true → ∀ (i : Nat) (f : Field), fs[i]? = some f → f.offset = n + sumSz T ((fs.map (·.type)).take i)
  | [], n, h, i, f, hf => by simp at hf
  | g :: fs, n, h, i, f, hf => by
    simp only [offsB, Bool.and_eq_true] at h
    cases i with
    | zero => simp at hf; subst hf; simp [sumSz, Nat.eq_of_beq_eq_true h.1]
    | succ i =>
      have := offsB_spec fs _ h.2 i f (by simpa using hf)
      rw [this]; simp [sumSz]; omega
theorem elemB_spec {e : TypeId} {t : C.Ty} (h : elemB P T e t = true) : (T.ty e = T.ty (T.ety t) ∧ T.size e = T.size (T.ety t)) ∧ ∃ i z, P.info? e = some i ∧ i.size = T.size e ∧ i.bytes = T.bytes e ∧ 0 < T.bytes e ∧ 0 < T.size e ∧ i.zero = some z ∧ z.cells.size = T.size e ∧
    ∀ X, R T X false (T.enc t (T.dflt t)) z.cells.toList := by
  simp only [elemB, Bool.and_eq_true] at h
  obtain ⟨⟨h1, h2⟩, h3⟩ := h
  refine ⟨⟨gtB_eq h1, Nat.eq_of_beq_eq_true h2⟩, ?_⟩
  cases hi : P.info? e with
  | none => simp [hi] at h3
  | some i =>
    simp only [hi, Bool.and_eq_true] at h3
    obtain ⟨⟨⟨⟨a1, a2⟩, a3⟩, a4⟩, a5⟩ := h3
    cases hz : i.zero with
    | none => simp [hz] at a5
    | some z =>
      simp only [hz, Bool.and_eq_true] at a5
      exact ⟨i, z, rfl, Nat.eq_of_beq_eq_true a1, Nat.eq_of_beq_eq_true a2, by simpa [Nat.blt_eq] using a3, by simpa [Nat.blt_eq] using a4, hz, Nat.eq_of_beq_eq_true a5.1, zB_ok a5.2⟩
theorem oneB_spec {e : TypeId} (h : oneB P T e = true) : (∀ d, fit T d (.inl e) = true → d.isRow = false) ∧ ∃ i z, P.info? e = some i ∧ i.size = 1 ∧ i.zero = some z ∧ z.cells.size = 1 := by
  simp only [oneB, Bool.and_eq_true] at h
  obtain ⟨h1, h2⟩ := h
  refine ⟨fun d hf => ?_, ?_⟩
  · cases hd : T.ty e <;> simp [hd] at h1 <;> cases d <;> simp_all [fit, D.isRow]
  · cases hi : P.info? e with
    | none => simp [hi] at h2
    | some i =>
      simp only [hi, Bool.and_eq_true] at h2
      cases hz : i.zero with
      | none => simp [hz] at h2
      | some z => simp only [hz] at h2; exact ⟨i, z, rfl, Nat.eq_of_beq_eq_true h2.1, hz, Nat.eq_of_beq_eq_true h2.2⟩
theorem mapB_spec {k v : TypeId} {ck cv : C.Ty} (h : mapB P T k v ck cv = true) : T.ty k = T.ty (T.ety ck) ∧ T.ty v = T.ty (T.ety cv) ∧ ((∃ ik, T.ty k = .int ik) ∨ T.ty k = .str ∨ T.ty k = .bool) ∧
    ∃ i z, P.info? v = some i ∧ i.zero = some z ∧ ∀ X, RV T X (T.enc cv (T.dflt cv)) z := by
  simp only [mapB, Bool.and_eq_true] at h
  obtain ⟨⟨⟨h1, h2⟩, h3⟩, h4⟩ := h
  refine ⟨gtB_eq h1, gtB_eq h2, ?_, ?_⟩
  · cases hd : T.ty k <;> simp [hd] at h3 ⊢
  · cases hi : P.info? v with
    | none => simp [hi] at h4
    | some i =>
      simp only [hi] at h4
      cases hz : i.zero with
      | none => simp [hz] at h4
      | some z =>
        refine ⟨i, z, rfl, hz, fun X => ?_⟩
        cases z with
        | agg cs =>
          simp only [hz, Bool.and_eq_true] at h4
          exact .inl ⟨h4.1, cs.toList, zB_ok h4.2 X, by simp⟩
        | _ =>
          simp only [hz, Bool.and_eq_true, Bool.not_eq_true'] at h4
          exact .inr ⟨h4.1, zB_ok h4.2 X⟩
theorem sBoolB {sz : Nat} {u : TypeId} (this : shapeB P T u (.bool) sz = true) : P.underlying u = some .bool ∧ sz = 1 := by
  unfold shapeB at this
  split at this <;> simp_all
theorem sIntB {sz : Nat} {u : TypeId} {k : IntKind} (this : shapeB P T u (.int k) sz = true) : P.underlying u = some (.int k) ∧ sz = 1 := by
  unfold shapeB at this
  split at this <;> simp_all
theorem sStrB {sz : Nat} {u : TypeId} (this : shapeB P T u (.str) sz = true) : P.underlying u = some .string ∧ sz = 1 := by
  unfold shapeB at this
  split at this <;> simp_all
theorem sPtrB {sz : Nat} {u : TypeId} {e : TypeId} (this : shapeB P T u (.ptr e) sz = true) : P.underlying u = some (.pointer e) ∧ sz = 1 := by
  unfold shapeB at this
  split at this <;> simp_all
theorem sFnB {sz : Nat} {u : TypeId} (this : shapeB P T u (.fn) sz = true) : (∃ a b c, P.underlying u = some (.func a b c)) ∧ sz = 1 := by
  unfold shapeB at this
  split at this <;> simp_all
theorem sDslB {sz : Nat} {u : TypeId} {e : TypeId} (this : shapeB P T u (.dsl e) sz = true) : P.underlying u = some (.slice e) ∧ sz = 1 ∧ oneB P T e = true := by
  unfold shapeB at this
  split at this <;> simp_all
  obtain ⟨⟨e1, _⟩, h⟩ := this
  rw [← e1]; exact h
theorem sMapB {sz : Nat} {u : TypeId} {k : TypeId} {v : TypeId} {ck : C.Ty} {cv : C.Ty} (this : shapeB P T u (.map k v ck cv) sz = true) : P.underlying u = some (.map k v) ∧ sz = 1 ∧ mapB P T k v ck cv = true := by
  unfold shapeB at this
  split at this <;> simp_all
  obtain ⟨⟨⟨e1, e2⟩, _⟩, h⟩ := this
  rw [← e1, ← e2]; exact h
theorem sArrB {sz : Nat} {u : TypeId} {n : Nat} {e : TypeId} {t : C.Ty} (this : shapeB P T u (.arr n e t) sz = true) : P.underlying u = some (.array n e) ∧ P.eqGuardType P.depth u = false ∧ sz = n * T.size e ∧ elemB P T e t = true := by
  unfold shapeB at this
  split at this <;> simp_all
  obtain ⟨⟨⟨⟨_, e1⟩, _⟩, _⟩, h⟩ := this
  rw [← e1]; exact h
theorem sSlB {sz : Nat} {u : TypeId} {e : TypeId} {t : C.Ty} (this : shapeB P T u (.sl e t) sz = true) : P.underlying u = some (.slice e) ∧ sz = 1 ∧ elemB P T e t = true := by
  unfold shapeB at this
  split at this <;> simp_all
  obtain ⟨⟨e1, _⟩, h⟩ := this
  rw [← e1]; exact h
theorem sStB {sz : Nat} {u : TypeId} {fs : List TypeId} (this : shapeB P T u (.struct false fs) sz = true) : ∃ fields : Array Field, P.underlying u = some (.struct fields) ∧ fields.toList.map (·.type) = fs ∧ sz = sumSz T fs ∧ offsB T fields.toList 0 = true ∧ P.stoodInHeld u = false ∧ P.eqGuardType P.depth u = false ∧
      (∀ f ∈ fields.toList, f.name ≠ "_") ∧ ∀ f ∈ fs, ∃ i, P.info? f = some i ∧ i.size = T.size f ∧ 0 < T.size f := by
  unfold shapeB at this
  split at this
  case h_4 fs' fields e1 e2 =>
    simp only [GT.struct.injEq, true_and] at e1
    subst e1
    simp only [Bool.and_eq_true, Bool.not_eq_true', List.all_eq_true] at this
    obtain ⟨⟨⟨⟨⟨⟨a1, a2⟩, a3⟩, a4⟩, a5⟩, a6⟩, a7⟩ := this
    refine ⟨fields, e2, eq_of_beq a1, Nat.eq_of_beq_eq_true a2, a3, a4, a5, fun f hf => by simpa using a6 f hf, fun f hf => ?_⟩
    have := a7 f hf
    cases hi : P.info? f with
    | none => simp [hi] at this
    | some i => simp only [hi, Bool.and_eq_true] at this; exact ⟨i, rfl, Nat.eq_of_beq_eq_true this.1, by simpa [Nat.blt_eq] using this.2⟩
  all_goals simp_all
theorem sRowB {sz : Nat} {u : TypeId} {fs : List TypeId} (this : shapeB P T u (.struct true fs) sz = true) : sz = sumSz T fs ∧ ∃ e, P.underlying u = some (.array fs.length e) ∧ fs = List.replicate fs.length e ∧ 0 < fs.length ∧ ∃ i, P.info? e = some i ∧ i.size = T.size e := by
  unfold shapeB at this
  split at this
  case h_5 fs' n e e1 e2 =>
    simp only [GT.struct.injEq, true_and] at e1
    subst e1
    simp only [Bool.and_eq_true] at this
    obtain ⟨⟨⟨⟨a1, a2⟩, a3⟩, a4⟩, a5⟩ := this
    have a1 := Nat.eq_of_beq_eq_true a1
    refine ⟨Nat.eq_of_beq_eq_true a4, e, by rw [e2, a1], eq_of_beq a2, by simpa [Nat.blt_eq] using a3, ?_⟩
    cases hi : P.info? e with
    | none => simp [hi] at a5
    | some i => simp only [hi] at a5; exact ⟨i, rfl, Nat.eq_of_beq_eq_true a5⟩
  all_goals simp_all
structure CLaws (T : Tab C) : Prop where
  encRefs : ∀ t x, (T.enc t x).refs = []
  encFit : ∀ t x, fit T (T.enc t x) (.inl (T.ety t)) = true
  decR : ∀ X t d x cs, T.dec t d = some x → R T X false d cs → R T X false (T.enc t x) cs
  eqb : ∀ t a b r, T.eqb t a b = some r → eqS (T.enc t a) (T.enc t b) = some r
  u8s : ∀ t f l, T.u8s t = some f → bytesOf T l = some (f l)
  ofU8s : ∀ t g l, T.ofU8s t = some g → (g l).map (T.enc t) = l.map fun b => .int .u8 (b.toNat : Int)
theorem mkLaws {cd : Cod C} {t : Tree (Row C)} {pre : List (Nat × Array Value)} {settle : TypeId → Bool} (h : t.all (rowB P (mkTab cd t pre settle)) = true) (hc : CLaws (mkTab cd t pre settle)) (ho : P.follows .mixedOrders = true) : PLaws P (mkTab cd t pre settle) := by
  have row : ∀ u, (mkTab cd t pre settle).ty u ≠ .none → ∃ r, t.get u = some r ∧ rowB P (mkTab cd t pre settle) u r = true ∧ (mkTab cd t pre settle).ty u = r.g ∧ (mkTab cd t pre settle).size u = r.size ∧ (mkTab cd t pre settle).zero u = r.zero := by
    intro u hu
    cases hg : t.get u with
    | none => exact (hu (by simp [mkTab, hg])).elim
    | some r => exact ⟨r, rfl, Tree.get_all h hg, by simp [mkTab, hg], by simp [mkTab, hg], by simp [mkTab, hg]⟩
  have shape : ∀ u, (mkTab cd t pre settle).ty u ≠ .none → shapeB P (mkTab cd t pre settle) u ((mkTab cd t pre settle).ty u) ((mkTab cd t pre settle).size u) = true ∧ 0 < (mkTab cd t pre settle).size u ∧ ∃ i, P.info? u = some i ∧ i.size = (mkTab cd t pre settle).size u := by
    intro u hu
    obtain ⟨r, _, h1, h2, h3, _⟩ := row u hu
    simp only [rowB, Bool.and_eq_true] at h1
    obtain ⟨⟨a1, a2⟩, a3⟩ := h1
    refine ⟨by rw [h2, h3]; exact a3, by rw [h3]; simpa [Nat.blt_eq] using a1, ?_⟩
    cases hi : P.info? u with
    | none => simp [hi] at a2
    | some i => simp only [hi, Bool.and_eq_true] at a2; exact ⟨i, rfl, by rw [h3]; exact Nat.eq_of_beq_eq_true a2.1⟩
  generalize hT : mkTab cd t pre settle = T at *
  have sh : ∀ u g, T.ty u = g → g ≠ .none → shapeB P T u g (T.size u) = true := fun u g hg hn => by have := (shape u (by rw [hg]; exact hn)).1; rw [hg] at this; exact this
  have sBool : ∀ u, T.ty u = .bool → P.underlying u = some .bool ∧ T.size u = 1 := fun u hu => sBoolB (sh u _ hu (by simp))
  have sInt : ∀ u k, T.ty u = .int k → P.underlying u = some (.int k) ∧ T.size u = 1 := fun u k hu => sIntB (sh u _ hu (by simp))
  have sStr : ∀ u, T.ty u = .str → P.underlying u = some .string ∧ T.size u = 1 := fun u hu => sStrB (sh u _ hu (by simp))
  have sPtr : ∀ u e, T.ty u = .ptr e → P.underlying u = some (.pointer e) ∧ T.size u = 1 := fun u k hu => sPtrB (sh u _ hu (by simp))
  have sFn : ∀ u, T.ty u = .fn → (∃ a b c, P.underlying u = some (.func a b c)) ∧ T.size u = 1 := fun u hu => sFnB (sh u _ hu (by simp))
  have sDsl : ∀ u e, T.ty u = .dsl e → P.underlying u = some (.slice e) ∧ T.size u = 1 ∧ oneB P T e = true := fun u e hu => sDslB (sh u _ hu (by simp))
  have sMap : ∀ u k v ck cv, T.ty u = .map k v ck cv → P.underlying u = some (.map k v) ∧ T.size u = 1 ∧ mapB P T k v ck cv = true := fun u k v ck cv hu => sMapB (sh u _ hu (by simp))
  have sArr : ∀ u n e t, T.ty u = .arr n e t → P.underlying u = some (.array n e) ∧ P.eqGuardType P.depth u = false ∧ T.size u = n * T.size e ∧ elemB P T e t = true := fun u n e t hu => sArrB (sh u _ hu (by simp))
  have sSl : ∀ u e t, T.ty u = .sl e t → P.underlying u = some (.slice e) ∧ T.size u = 1 ∧ elemB P T e t = true := fun u e t hu => sSlB (sh u _ hu (by simp))
  have sSt : ∀ u fs, T.ty u = .struct false fs → ∃ fields : Array Field, P.underlying u = some (.struct fields) ∧ fields.toList.map (·.type) = fs ∧ T.size u = sumSz T fs ∧ offsB T fields.toList 0 = true ∧ P.stoodInHeld u = false ∧ P.eqGuardType P.depth u = false ∧
      (∀ f ∈ fields.toList, f.name ≠ "_") ∧ ∀ f ∈ fs, ∃ i, P.info? f = some i ∧ i.size = T.size f ∧ 0 < T.size f := fun u fs hu => sStB (sh u _ hu (by simp))
  have sRow : ∀ u fs, T.ty u = .struct true fs → T.size u = sumSz T fs ∧ ∃ e, P.underlying u = some (.array fs.length e) ∧ fs = List.replicate fs.length e ∧ 0 < fs.length ∧ ∃ i, P.info? e = some i ∧ i.size = T.size e := fun u fs hu => sRowB (sh u _ hu (by simp))
  refine ⟨⟨hc.encRefs, hc.encFit, hc.decR, hc.u8s, hc.ofU8s, ?_, ?_, ?_, fun u hu => (sBool u hu).2, fun u k hu => (sInt u k hu).2, fun u hu => (sStr u hu).2, fun u e hu => (sPtr u e hu).2, fun u hu => (sFn u hu).2, fun u e hu => (sDsl u e hu).2.1, fun u k v ck cv hu => (sMap u k v ck cv hu).2.1, fun u hu => (shape u (fun h => hu h)).2.1⟩,
    fun u hu => (sBool u hu).1, fun u k hu => (sInt u k hu).1, fun u hu => (sStr u hu).1, ?_, ?_, fun u fs hu => (sRow u fs hu).2, ?_, fun u e t hu => (sSl u e t hu).1, ?_, fun u e hu => ⟨(sDsl u e hu).1, oneB_spec (sDsl u e hu).2.2⟩, fun u k v ck cv hu => ⟨(sMap u k v ck cv hu).1, mapB_spec (sMap u k v ck cv hu).2.2⟩, fun u e hu => (sPtr u e hu).1, fun u hu => (sFn u hu).1, ?_, ?_, hc.eqb, ho⟩
  · intro u a fs hu
    cases a with
    | false => obtain ⟨_, _, _, h3, _⟩ := sSt u fs hu; exact h3
    | true => exact (sRow u fs hu).1
  · intro u n e t hu; obtain ⟨_, _, h3, h4⟩ := sArr u n e t hu; exact ⟨h3, (elemB_spec h4).1⟩
  · intro u e t hu; obtain ⟨_, h3, h4⟩ := sSl u e t hu; exact ⟨h3, (elemB_spec h4).1⟩
  · intro u fs hu
    obtain ⟨fields, h1, h2, _, h4, h5, h6, h7, _⟩ := sSt u fs hu
    refine ⟨fields, h1, h2, fun i f hf => ?_, h5, h6, h7⟩
    have := offsB_spec fields.toList 0 h4 i f (by rw [Array.getElem?_toList]; exact hf)
    rw [this, h2]; simp
  · intro u fs f hu hf; obtain ⟨_, _, _, _, _, _, _, _, h8⟩ := sSt u fs hu; exact h8 f hf
  · intro u n e t hu; obtain ⟨h1, h2, _⟩ := sArr u n e t hu; exact ⟨h1, h2⟩
  · rintro u e t (⟨n, hu⟩ | hu)
    · exact (elemB_spec (sArr u n e t hu).2.2.2).2
    · exact (elemB_spec (sSl u e t hu).2.2).2
  · intro u d hf
    refine (shape u (fun hn => ?_)).2.2
    cases d <;> simp [fit, hn] at hf
  · intro u z hz
    subst hT
    cases hg : t.get u with
    | none => simp [mkTab, hg] at hz
    | some r =>
      have hr := Tree.get_all h hg
      have hz' : r.zero = some z := by simpa [mkTab, hg] using hz
      simp only [rowB, Bool.and_eq_true] at hr
      obtain ⟨⟨a1, a2⟩, a3⟩ := hr
      cases hi : P.info? u with
      | none => simp [hi] at a2
      | some i =>
        simp only [hi, Bool.and_eq_true, hz'] at a2
        cases hv : i.zero with
        | none => simp [hv] at a2
        | some v =>
          simp only [hv, Bool.and_eq_true] at a2
          exact ⟨i, v, rfl, hv, List.isEmpty_iff.1 a2.2.1, zB_ok a2.2.2⟩
end
structure Write where
  key : Int
  value : Int
  deriving DecidableEq
structure Item where
  key : Int
  place : Int
  value : Int
  deriving DecidableEq
structure Line where
  offset : Int
  place : Int
  j : Int
  key : Int
  value : Int
  deriving DecidableEq
structure Rec where
  place : Int
  yes : Bool
  writes : List Write
  deriving DecidableEq
structure St where
  place : Int
  items : List Item
  l0 : List Line
  l1 : List Line
  l2 : List Line
  c0 : Int
  c1 : Int
  c2 : Int
  deriving DecidableEq
structure Sector where
  n : Int
  b : List UInt8
  deriving DecidableEq
structure Frame where
  prog : Int
  at' : Int
  r : List Int
  deriving DecidableEq
structure Action where
  kind : Int
  a : Int
  b : Int
  v : Int
  gen : Int
  text : List UInt8
  args : List Int
  deriving DecidableEq
structure Event where
  client : Int
  act : Action
  got : Int
  deriving DecidableEq
structure Gone where
  handle : Int
  node : Bool
  epoch : Int
  deriving DecidableEq
structure Try where
  place : Int
  start : Int
  writes : List Write
  deriving DecidableEq
structure Task where
  client : Int
  stack : List Frame
  got : List Int
  over : Bool
  deriving DecidableEq
structure Txn where
  id : Int
  start : Int
  writes : List Write
  deriving DecidableEq
section
variable {C : Cdc} {T : Tab C} {X : Cx}
def dIntK (k : IntKind) : D C → Option Int
  | .int k' n => if k' = k then some n else none
  | _ => none
def dStr : D C → Option (List UInt8)
  | .str b => some b
  | _ => none
def dU8 : D C → Option UInt8
  | .int .u8 n => some (UInt8.ofNat n.toNat)
  | _ => none
def asArrN (t : C.Ty) (n : Nat) : D C → Option (List (C.A t))
  | .arr t' m l => if h : t' = t then (if m = n then some (h ▸ l) else none) else none
  | _ => none
theorem dIntK_R {k : IntKind} {d : D C} {x : Int} {cs : List Value} (hd : dIntK k d = some x) (hr : R T X false d cs) : R T X false (.int k x) cs := by
  unfold dIntK at hd; split at hd
  · split at hd
    · rename_i h; subst h; cases hd; exact hr
    · cases hd
  · cases hd
theorem dStr_R {d : D C} {x : List UInt8} {cs : List Value} (hd : dStr d = some x) (hr : R T X false d cs) : R T X false (.str x) cs := by
  unfold dStr at hd; split at hd
  · cases hd; exact hr
  · cases hd
theorem dU8_R {d : D C} {x : UInt8} {cs : List Value} (hd : dU8 d = some x) (hr : R T X false d cs) : R T X false (.int .u8 (UInt8.toNat x)) cs := by
  unfold dU8 at hd; split at hd
  · rename_i n
    cases hd
    cases hr with
    | int h =>
      have h1 : (0 : Int) ≤ n := h.1
      have h2 : n ≤ 255 := h.2
      have : ((UInt8.ofNat n.toNat).toNat : Int) = n := by
        rw [UInt8.toNat_ofNat']
        have : n.toNat % 2 ^ 8 = n.toNat := Nat.mod_eq_of_lt (by omega)
        rw [this]; omega
      simp only [this]
      exact .int h
  · cases hd
theorem acons_map {d ds d' ds' : D C} {cs : List Value} (hr : R T X false (.acons d ds) cs) (h1 : ∀ c, R T X false d c → R T X false d' c) (h2 : ∀ c, R T X false ds c → R T X false ds' c) : R T X false (.acons d' ds') cs := by
  cases hr with
  | acons a b => exact .acons (h1 _ a) (h2 _ b)
end
structure RowS where
  first : Int
  name : List UInt8
structure Setup where
  clients : Int
  width : Int
  descs : Int
  nodes : Int
inductive RTy | int | k_u64 | rowS | str | u8
  deriving DecidableEq
@[reducible] def RA : RTy → Type
  | .int => Int
  | .k_u64 => Int
  | .rowS => RowS
  | .str => List UInt8
  | .u8 => UInt8
@[reducible] def RC : Cdc := ⟨RTy, inferInstance, RA⟩
def eRowS (x : RowS) : D RC := .acons (.int .i64 (RowS.first x)) (.acons (.str (RowS.name x)) (.anil))
def dRowS : D RC → Option RowS
  | .acons (.int .i64 a0) (.acons (.str a1) (.anil)) => some ⟨a0, a1⟩
  | _ => none
theorem dRowS_R {T : Tab RC} {X : Cx} {d : D RC} {x : RowS} {cs : List Value} (hd : dRowS d = some x) (hr : R T X false d cs) : R T X false (eRowS x) cs := by
  unfold dRowS at hd
  split at hd
  · skip
    cases hd
    exact acons_map hr (fun _ h => h) (fun _ hr => acons_map hr (fun _ h => h) (fun _ hr => hr))
  · cases hd
def eSetup (x : Setup) : D RC := .acons (.int .i64 (Setup.clients x)) (.acons (.int .i64 (Setup.width x)) (.acons (.int .i64 (Setup.descs x)) (.acons (.int .i64 (Setup.nodes x)) (.anil))))
def rEnc : (t : RTy) → RA t → D RC
  | .int, x => .int .i64 (x)
  | .k_u64, x => .int .u64 (x)
  | .rowS, x => eRowS (x)
  | .str, x => .str (x)
  | .u8, x => .int .u8 (UInt8.toNat x)
def rDec : (t : RTy) → D RC → Option (RA t)
  | .int => dIntK .i64
  | .k_u64 => dIntK .u64
  | .rowS => dRowS
  | .str => dStr
  | .u8 => dU8
def rDflt : (t : RTy) → RA t
  | .int => (0 : Int)
  | .k_u64 => (0 : Int)
  | .rowS => (⟨0, []⟩ : RowS)
  | .str => ([] : List UInt8)
  | .u8 => (0 : UInt8)
def rEqb : (t : RTy) → RA t → RA t → Option Bool
  | .int => fun (a b : Int) => some (a == b)
  | .k_u64 => fun (a b : Int) => some (a == b)
  | .rowS => fun _ _ => none
  | .str => fun (a b : List UInt8) => some (a == b)
  | .u8 => fun (a b : UInt8) => none
def rU8s : (t : RTy) → Option (List (RA t) → List UInt8)
  | .u8 => some fun l => l
  | _ => none
def rOfU8s : (t : RTy) → Option (List UInt8 → List (RA t))
  | .u8 => some fun l => l
  | _ => none
def rCod (ety : RTy → TypeId) : Cod RC := ⟨rEnc, rDec, rDflt, ety, rEqb, rU8s, rOfU8s⟩
theorem rDecR {T : Tab RC} {X : Cx} : ∀ (t : RTy) {d : D RC} {x : RA t} {cs : List Value}, rDec t d = some x → R T X false d cs → R T X false (rEnc t x) cs
  | .int, _, _, _, hd, hr => dIntK_R hd hr
  | .k_u64, _, _, _, hd, hr => dIntK_R hd hr
  | .rowS, _, _, _, hd, hr => dRowS_R hd hr
  | .str, _, _, _, hd, hr => dStr_R hd hr
  | .u8, _, _, _, hd, hr => dU8_R hd hr
theorem rEqbR : ∀ {t : RTy} {a b : RA t} {r : Bool}, rEqb t a b = some r → eqS (rEnc t a) (rEnc t b) = some r
  | .int, a, b, r, h => by
    simp only [rEqb, rEnc, eqS] at h ⊢; simpa using h
  | .k_u64, a, b, r, h => by
    simp only [rEqb, rEnc, eqS] at h ⊢; simpa using h
  | .rowS, _, _, _, h => absurd (show (none : Option Bool) = some _ from h) (by simp)
  | .str, a, b, r, h => by
    simp only [rEqb, rEnc, eqS] at h ⊢; simpa using h
  | .u8, _, _, _, h => absurd (show (none : Option Bool) = some _ from h) (by simp)
theorem rRefs (t : RTy) (x : RA t) : (rEnc t x).refs = [] := by cases t <;> rfl
theorem rU8sR {T : Tab RC} (he : T.enc = rEnc) : ∀ (t : RTy) (f : List (RA t) → List UInt8) (l : List (RA t)), rU8s t = some f → bytesOf T l = some (f l) := by
  intro t f l h
  cases t <;> simp [rU8s] at h
  subst h
  induction l with
  | nil => rfl
  | cons x l ih =>
    simp only [bytesOf, ih, he, rEnc]
    have : UInt8.ofNat (UInt8.toNat x) = x := by simp
    simp [this]
theorem rOfU8sR : ∀ (t : RTy) (g : List UInt8 → List (RA t)) (l : List UInt8), rOfU8s t = some g → (g l).map (rEnc t) = l.map fun b => .int .u8 (b.toNat : Int) := by
  intro t g l h
  cases t <;> simp [rOfU8s] at h
  subst h; rfl
theorem rLaws {ety : RTy → TypeId} {t : Tree (Row RC)} {pre : List (Nat × Array Value)} {settle : TypeId → Bool} (hfit : ∀ t' x, fit (mkTab (rCod ety) t pre settle) (rEnc t' x) (.inl (ety t')) = true) : CLaws (mkTab (rCod ety) t pre settle) :=
  ⟨rRefs, hfit, fun X t d x cs hd hr => rDecR t hd hr, fun t a b r h => rEqbR h, rU8sR rfl, rOfU8sR⟩
open Go.Proofs
set_option maxRecDepth 100000
def s12Ety : RTy → TypeId := fun | .int => 3 | .k_u64 => 57 | .rowS => 43 | .str => 9 | .u8 => 5
def s12Tree : Tree (Row RC) := (.node 45 ⟨.fn, 1, 8, some .nilfn⟩ (.node 29 ⟨(.struct false [3, 3, 3, 3]), 4, 32, some (.acons (.int .i64 0) (.acons (.int .i64 0) (.acons (.int .i64 0) (.acons (.int .i64 0) .anil))))⟩ (.node 21 ⟨(.int .i32), 1, 4, some (.int .i32 0)⟩ (.node 4 ⟨.bool, 1, 1, some (.bool false)⟩ (.node 2 ⟨(.int .i64), 1, 8, some (.int .i64 0)⟩ (.node 1 ⟨.fn, 1, 8, some .nilfn⟩ .nil .nil) (.node 3 ⟨(.int .i64), 1, 8, some (.int .i64 0)⟩ .nil .nil)) (.node 9 ⟨.str, 1, 16, some (.str [])⟩ (.node 5 ⟨(.int .u8), 1, 1, some (.int .u8 0)⟩ .nil .nil) (.node 12 ⟨(.int .u64), 1, 8, some (.int .u64 0)⟩ .nil .nil))) (.node 26 ⟨.fn, 1, 8, some .nilfn⟩ (.node 23 ⟨.fn, 1, 8, some .nilfn⟩ (.node 22 ⟨.fn, 1, 8, some .nilfn⟩ .nil .nil) (.node 24 ⟨.fn, 1, 8, some .nilfn⟩ .nil .nil)) (.node 28 ⟨.fn, 1, 8, some .nilfn⟩ (.node 27 ⟨.fn, 1, 8, some .nilfn⟩ .nil .nil) .nil))) (.node 38 ⟨.fn, 1, 8, some .nilfn⟩ (.node 34 ⟨.fn, 1, 8, some .nilfn⟩ (.node 32 ⟨.fn, 1, 8, some .nilfn⟩ (.node 30 ⟨(.struct false [3, 3, 3, 3]), 4, 32, some (.acons (.int .i64 0) (.acons (.int .i64 0) (.acons (.int .i64 0) (.acons (.int .i64 0) .anil))))⟩ .nil .nil) (.node 33 ⟨(.int .i64), 1, 8, some (.int .i64 0)⟩ .nil .nil)) (.node 36 ⟨(.sl 3 .int), 1, 24, some (.sl .int true [])⟩ (.node 35 ⟨.fn, 1, 8, some .nilfn⟩ .nil .nil) (.node 37 ⟨.fn, 1, 8, some .nilfn⟩ .nil .nil))) (.node 42 ⟨(.struct false [3, 9]), 2, 24, some (.acons (.int .i64 0) (.acons (.str []) .anil))⟩ (.node 40 ⟨.fn, 1, 8, some .nilfn⟩ (.node 39 ⟨.fn, 1, 8, some .nilfn⟩ .nil .nil) (.node 41 ⟨(.map 9 3 .str .int), 1, 8, some .nilm⟩ .nil .nil)) (.node 44 ⟨(.arr 13 43 .rowS), 26, 312, some (.arr .rowS 13 (List.replicate 13 (rDflt .rowS)))⟩ (.node 43 ⟨(.struct false [3, 9]), 2, 24, some (.acons (.int .i64 0) (.acons (.str []) .anil))⟩ .nil .nil) .nil)))) (.node 61 ⟨.fn, 1, 8, some .nilfn⟩ (.node 53 ⟨(.sl 9 .str), 1, 24, some (.sl .str true [])⟩ (.node 49 ⟨.fn, 1, 8, some .nilfn⟩ (.node 47 ⟨.fn, 1, 8, some .nilfn⟩ (.node 46 ⟨.fn, 1, 8, some .nilfn⟩ .nil .nil) (.node 48 ⟨.fn, 1, 8, some .nilfn⟩ .nil .nil)) (.node 51 ⟨(.arr 3 9 .str), 3, 48, some (.arr .str 3 (List.replicate 3 (rDflt .str)))⟩ (.node 50 ⟨.fn, 1, 8, some .nilfn⟩ .nil .nil) (.node 52 ⟨(.arr 12 9 .str), 12, 192, some (.arr .str 12 (List.replicate 12 (rDflt .str)))⟩ .nil .nil))) (.node 57 ⟨(.int .u64), 1, 8, some (.int .u64 0)⟩ (.node 55 ⟨.fn, 1, 8, some .nilfn⟩ (.node 54 ⟨(.sl 5 .u8), 1, 24, some (.sl .u8 true [])⟩ .nil .nil) (.node 56 ⟨(.arr 24 5 .u8), 24, 24, some (.arr .u8 24 (List.replicate 24 (rDflt .u8)))⟩ .nil .nil)) (.node 59 ⟨.fn, 1, 8, some .nilfn⟩ (.node 58 ⟨.fn, 1, 8, some .nilfn⟩ .nil .nil) .nil))) (.node 69 ⟨.fn, 1, 8, some .nilfn⟩ (.node 65 ⟨(.arr 65 5 .u8), 65, 65, some (.arr .u8 65 (List.replicate 65 (rDflt .u8)))⟩ (.node 63 ⟨(.arr 20 57 .k_u64), 20, 160, some (.arr .k_u64 20 (List.replicate 20 (rDflt .k_u64)))⟩ (.node 62 ⟨.fn, 1, 8, some .nilfn⟩ .nil .nil) (.node 64 ⟨(.int .u32), 1, 4, some (.int .u32 0)⟩ .nil .nil)) (.node 67 ⟨(.int .u64), 1, 8, some (.int .u64 0)⟩ (.node 66 ⟨.fn, 1, 8, some .nilfn⟩ .nil .nil) (.node 68 ⟨.fn, 1, 8, some .nilfn⟩ .nil .nil))) (.node 78 ⟨.fn, 1, 8, some .nilfn⟩ (.node 71 ⟨(.arr 64 5 .u8), 64, 64, some (.arr .u8 64 (List.replicate 64 (rDflt .u8)))⟩ (.node 70 ⟨(.arr 32 5 .u8), 32, 32, some (.arr .u8 32 (List.replicate 32 (rDflt .u8)))⟩ .nil .nil) (.node 72 ⟨.fn, 1, 8, some .nilfn⟩ .nil .nil)) (.node 82 ⟨(.ptr 5), 1, 8, some .nilp⟩ (.node 81 ⟨.fn, 1, 8, some .nilfn⟩ .nil .nil) .nil)))))
def s12 : Tab RC := mkTab (rCod s12Ety) s12Tree [(0, (Go.Lib.pow10Tab.map fun z => Value.int .u64 z).toArray)]
theorem s12_rows : s12Tree.all (rowB Tryd.prog s12) = true := by kernel_rfl
theorem s12_order : Tryd.prog.follows .mixedOrders = true := by kernel_rfl
theorem s12_fit : ∀ t x, fit s12 (rEnc t x) (.inl (s12Ety t)) = true
  | .int, _ => rfl
  | .k_u64, _ => rfl
  | .rowS, _ => rfl
  | .str, _ => rfl
  | .u8, _ => rfl
theorem s12_laws : PLaws Tryd.prog s12 := mkLaws s12_rows (rLaws s12_fit) s12_order
end Go.Ev

namespace Go.Proofs
open Go.Shelf
def Tryd.lays246_ren : Go.Shelf.Ren := ⟨fun | 246 => 49 | 283 => 50 | 284 => 51 | 285 => 52 | 286 => 53 | 129 => 55 | 317 => 54 | 318 => 56 | 319 => 57 | 320 => 58 | 337 => 59 | 338 => 60 | n => n, fun | 2 => 2 | 3 => 3 | 9 => 9 | 4 => 4 | 171 => 56 | 0 => 0 | 53 => 57 | 37 => 54 | 5 => 5 | 173 => 60 | 212 => 63 | 51 => 64 | 20 => 20 | 213 => 65 | 46 => 67 | 232 => 70 | 233 => 71 | n => n, fun | 17 => 0 | 18 => 1 | 19 => 2 | n => n⟩
theorem Tryd.lays246 : Go.Proofs.LaysM.n246 Tryd.prog Tryd.lays246_ren := {
  mixed := by kernel_rfl
  f129 := Tryd.func55.trans (congrArg some (by kernel_rfl))
  f246 := Tryd.func49.trans (congrArg some (by kernel_rfl))
  f283 := Tryd.func50.trans (congrArg some (by kernel_rfl))
  f284 := Tryd.func51.trans (congrArg some (by kernel_rfl))
  f285 := Tryd.func52.trans (congrArg some (by kernel_rfl))
  f286 := Tryd.func53.trans (congrArg some (by kernel_rfl))
  f317 := Tryd.func54.trans (congrArg some (by kernel_rfl))
  f318 := Tryd.func56.trans (congrArg some (by kernel_rfl))
  f319 := Tryd.func57.trans (congrArg some (by kernel_rfl))
  f320 := Tryd.func58.trans (congrArg some (by kernel_rfl))
  f337 := Tryd.func59.trans (congrArg some (by kernel_rfl))
  f338 := Tryd.func60.trans (congrArg some (by kernel_rfl))
  t0 := Tryd.underlying0
  a0 := Tryd.isAgg0
  z0 := Tryd.sizeOf0
  v0 := Tryd.zeroValue0
  t2 := Tryd.underlying2
  a2 := Tryd.isAgg2
  z2 := Tryd.sizeOf2
  v2 := Tryd.zeroValue2
  t3 := Tryd.underlying3
  a3 := Tryd.isAgg3
  z3 := Tryd.sizeOf3
  v3 := Tryd.zeroValue3
  t4 := Tryd.underlying4
  a4 := Tryd.isAgg4
  z4 := Tryd.sizeOf4
  v4 := Tryd.zeroValue4
  t5 := Tryd.underlying5
  a5 := Tryd.isAgg5
  z5 := Tryd.sizeOf5
  v5 := Tryd.zeroValue5
  t9 := Tryd.underlying9
  a9 := Tryd.isAgg9
  z9 := Tryd.sizeOf9
  v9 := Tryd.zeroValue9
  t20 := Tryd.underlying20
  a20 := Tryd.isAgg20
  z20 := Tryd.sizeOf20
  v20 := Tryd.zeroValue20
  t37 := Tryd.underlying54
  a37 := Tryd.isAgg54
  z37 := Tryd.sizeOf54
  v37 := Tryd.zeroValue54
  t46 := Tryd.underlying67
  a46 := Tryd.isAgg67
  z46 := Tryd.sizeOf67
  v46 := Tryd.zeroValue67
  t51 := Tryd.underlying64
  a51 := Tryd.isAgg64
  z51 := Tryd.sizeOf64
  v51 := Tryd.zeroValue64
  t53 := Tryd.underlying57
  a53 := Tryd.isAgg57
  z53 := Tryd.sizeOf57
  v53 := Tryd.zeroValue57
  t171 := Tryd.underlying56
  a171 := Tryd.isAgg56
  z171 := Tryd.sizeOf56
  v171 := Tryd.zeroValue56
  t173 := Tryd.underlying60
  a173 := Tryd.isAgg60
  z173 := Tryd.sizeOf60
  v173 := Tryd.zeroValue60
  t212 := Tryd.underlying63
  a212 := Tryd.isAgg63
  z212 := Tryd.sizeOf63
  v212 := Tryd.zeroValue63
  t213 := Tryd.underlying65
  a213 := Tryd.isAgg65
  z213 := Tryd.sizeOf65
  t232 := Tryd.underlying70
  a232 := Tryd.isAgg70
  z232 := Tryd.sizeOf70
  v232 := Tryd.zeroValue70
  t233 := Tryd.underlying71
  a233 := Tryd.isAgg71
  z233 := Tryd.sizeOf71
  v233 := Tryd.zeroValue71
  g17 := by kernel_rfl
  g18 := by kernel_rfl
  g19 := by kernel_rfl
  i0 := by kernel_rfl
  i2 := by kernel_rfl
  i3 := by kernel_rfl
  i4 := by kernel_rfl
  i5 := by kernel_rfl
  i9 := by kernel_rfl
  i20 := by kernel_rfl
  i37 := by kernel_rfl
  i46 := by kernel_rfl
  i51 := by kernel_rfl
  i53 := by kernel_rfl
  i171 := by kernel_rfl
  i173 := by kernel_rfl
  i212 := by kernel_rfl
  i232 := by kernel_rfl
  i233 := by kernel_rfl
  m17 := by kernel_rfl
  m18 := by kernel_rfl
  m19 := by kernel_rfl }
end Go.Proofs

namespace Go.Ev
set_option linter.unusedVariables false
set_option linter.unusedSimpArgs false
section
variable {C : Cdc} {P : Program} {T : Tab C} {Φ : Fns C}
open Pg (Ex)
def fnB (P : Program) (f : FuncId) : Bool := match P.funcs[f]? with
  | some fn => !(fn.name == "runtime.NumGoroutine") && (match fn.body with
    | some b => codeB fn.ntmps b
    | none => true)
  | none => true
def fnsB (P : Program) : Nat → Bool
  | 0 => true
  | n + 1 => fnB P n && fnsB P n
theorem fnsB_spec : ∀ (n f : Nat), fnsB P n = true → f < n → fnB P f = true
  | 0, f, _, h => by omega
  | n + 1, f, h, hf => by
    simp only [fnsB, Bool.and_eq_true] at h
    by_cases he : f = n
    · subst he; exact h.1
    · exact fnsB_spec n f h.2 (by omega)
def noFns (P : Program) (n : Nat) (keeps : FuncId → Bool) (rest : FuncId → List (Nat × List Nat) := fun _ => []) (total : FuncId → Bool := fun _ => false) (lend : FuncId → Bool := fun _ => false) : Fns C where
  fn f := bif Nat.blt f n then P.funcs[f]? else none
  keeps := keeps
  rest := rest
  total := total
  lend := lend
  ospec _ := none
  spec _ := none
  loop _ _ := none
def Fns.addSpec (Φ : Fns C) (g : FuncId) (s : List (D C) → Option (Bool × D C)) : Fns C := { Φ with spec := fun f => bif Nat.beq f g then some s else Φ.spec f }
def Fns.addLoop (Φ : Fns C) (g key : Nat) (s : Env C → Pg C (Ev.X × Env C)) : Fns C := { Φ with loop := fun f k => bif Nat.beq f g && Nat.beq k key then some s else Φ.loop f k }
theorem noFns_laws {n : Nat} {keeps : FuncId → Bool} {rest : FuncId → List (Nat × List Nat)} {total lend : FuncId → Bool} (h : fnsB P n = true) : FLaws P T (noFns P n keeps rest total lend) where
  fn f fn hf := by
    simp only [noFns] at hf
    cases hb : Nat.blt f n with
    | false => simp [hb] at hf
    | true =>
      simp only [hb, cond_true] at hf
      have := fnsB_spec n f h (by simpa [Nat.blt_eq] using hb)
      simp only [fnB, hf, Bool.and_eq_true, Bool.not_eq_true'] at this
      refine ⟨hf, this.1, fun body hbody => ?_⟩
      have h2 := this.2
      rw [hbody] at h2; exact h2
  spec g s args d hs := by simp [noFns] at hs
  ospec g s hs := by simp [noFns] at hs
  loop f fn body b s _ _ _ hs := by simp [noFns] at hs
theorem FLaws.addSpec (F : FLaws P T Φ) {g : FuncId} {s : List (D C) → Option (Bool × D C)}
    (hs : ∀ args d, s args = some (true, d) → (∀ a ∈ args, D.refs a = []) ∧ BareLaw P T g args d) : FLaws P T (Φ.addSpec g s) where
  fn := F.fn
  spec f s' args d h1 h2 := by
    simp only [Fns.addSpec] at h1
    cases hb : Nat.beq f g with
    | false => simp only [hb, cond_false] at h1; exact F.spec f s' args d h1 h2
    | true =>
      simp only [hb, cond_true, Option.some.injEq] at h1
      subst h1
      have := Nat.eq_of_beq_eq_true hb
      subst this
      exact hs args d h2
  ospec := F.ospec
  loop := F.loop
theorem FLaws.addEv (K : PLaws P T) (F : FLaws P T Φ) {g : FuncId} {s : List (D C) → Option (Bool × D C)} (hs : ∀ args d, s args = some (true, d) → (∀ a ∈ args, D.refs a = []) ∧ ∃ n, evF T Φ n g args = some d) : FLaws P T (Φ.addSpec g s) :=
  F.addSpec fun args d h => by
    obtain ⟨h1, n, h2⟩ := hs args d h
    exact ⟨h1, evF_bare K F h2 h1⟩
def LoopLaw (P : Program) (T : Tab C) (Φ : Fns C) (g key : Nat) (s : Env C → Pg C (Ev.X × Env C)) : Prop :=
  ∀ fn body b, Φ.fn g = some fn → fn.body = some body → b ∈ loops body → firstRegion b = key → ∀ B, ClearC B b → ∀ X h nx lim e env x env' h' nx' tr a Q, G T X h nx lim → EnvOK T X nx lim env a.tmps → nx' ≤ lim.top → fn.ntmps ≤ a.tmps.size →
    Ex e (s env) h nx (x, env') h' nx' tr → CPost T B X nx lim h' nx' env' a (Q (exitX x)) → (Code.loop b).wp P Q a X.w
theorem FLaws.addLoop (F : FLaws P T Φ) {g key : Nat} {s : Env C → Pg C (Ev.X × Env C)} (hs : LoopLaw P T Φ g key s) : FLaws P T (Φ.addLoop g key s) where
  fn := F.fn
  spec := F.spec
  ospec := F.ospec
  loop f fn body b s' h1 h2 h3 h4 := by
    simp only [Fns.addLoop] at h4
    cases hb : Nat.beq f g && Nat.beq (firstRegion b) key with
    | false => simp only [hb, cond_false] at h4; exact F.loop f fn body b s' h1 h2 h3 h4
    | true =>
      simp only [hb, cond_true, Option.some.injEq] at h4
      subst h4
      simp only [Bool.and_eq_true] at hb
      have e1 := Nat.eq_of_beq_eq_true hb.1
      have e2 := Nat.eq_of_beq_eq_true hb.2
      subst e1
      exact hs fn body b h1 h2 h3 e2
def Sub (env env0 : Env C) : Prop := ∀ p ∈ env0, eget env p.1 = p.2
theorem eget_mem : ∀ (env : Env C) (t : Nat), eget env t = .top ∨ (t, eget env t) ∈ env
  | [], t => .inl rfl
  | (j, d) :: r, t => by
    rw [eget_cons]
    by_cases h : t = j
    · subst h; simp
    · simp only [h, if_false]
      rcases eget_mem r t with h' | h'
      · exact .inl h'
      · exact .inr (by simp [h'])
theorem EnvOK.sub {X : Cx} {nx nx' : Nat} {lim lim' : Lim} {env env0 : Env C} {tmps : Array Value} (he : EnvOK T X nx lim env tmps) (hs : Sub env env0) (hr : ∀ p ∈ env0, D.refs p.2 = []) : EnvOK T X nx' lim' env0 tmps := by
  intro t
  rcases eget_mem env0 t with h | h
  · rw [h]; exact RO.mk (RV.top _ _ _) rfl
  · refine ⟨?_, ?_⟩
    · have := hs _ h
      simp only at this
      rw [← this]; exact (he t).1
    · rw [hr _ h]; simp
structure Grown (w w' : World) : Prop where
  size : w.heap.size ≤ w'.heap.size
  same : ∀ b, b < w.heap.size → w'.heap[b]? = w.heap[b]?
  os : w'.os = w.os
  tape : w'.tape = w.tape
  output : w'.output = w.output
  frz : ∀ a : Addr, a.block < w.heap.size → w'.frozen? a = w.frozen? a
theorem Grown.refl (w : World) : Grown w w := ⟨Nat.le_refl _, fun _ _ => rfl, rfl, rfl, rfl, fun _ _ => rfl⟩
theorem Grown.trans {w w' w'' : World} (h : Grown w w') (k : Grown w' w'') : Grown w w'' :=
  ⟨Nat.le_trans h.size k.size, fun b hb => (k.same b (Nat.lt_of_lt_of_le hb h.size)).trans (h.same b hb), k.os.trans h.os, k.tape.trans h.tape, k.output.trans h.output, fun a ha => (k.frz a (Nat.lt_of_lt_of_le ha h.size)).trans (h.frz a ha)⟩
theorem EnvOK.move (L : Laws T) {X X' : Cx} {nx nx' : Nat} {lim lim' : Lim} {env : Env C} {tmps : Array Value} (he : EnvOK T X nx lim env tmps) (hr : ∀ p ∈ env, D.refs p.2 = [])
    (hk : Kps X X') : EnvOK T X' nx' lim' env tmps := by
  intro t
  have h0 : (eget env t).refs = [] := by
    rcases eget_mem env t with h | h
    · rw [h]; rfl
    · exact hr _ h
  refine ⟨(he t).1.mono T L.encOK hk fun id hi => ?_, ?_⟩
  · rw [h0] at hi; simp at hi
  · rw [h0]; simp
structure LoopSt (C : Cdc) (σ : Type) where
  canon : σ → Env C
  fin : σ → Ev.X × Env C
  Inv : σ → Prop
  μ : σ → Nat
theorem codeB_loop {nt : Nat} : ∀ (c : Code), codeB nt c = true → ∀ b ∈ loops c, codeB nt b = true ∧ ∀ b' ∈ loops b, b' ∈ loops c
  | .seq x y, h, b, hb => by
    simp only [codeB, Bool.and_eq_true] at h
    simp only [loops, List.mem_append] at hb ⊢
    rcases hb with hb | hb
    · obtain ⟨q1, q2⟩ := codeB_loop x h.1 b hb; exact ⟨q1, fun b' h' => .inl (q2 b' h')⟩
    · obtain ⟨q1, q2⟩ := codeB_loop y h.2 b hb; exact ⟨q1, fun b' h' => .inr (q2 b' h')⟩
  | .cond _ x y, h, b, hb => by
    simp only [codeB, Bool.and_eq_true] at h
    simp only [loops, List.mem_append] at hb ⊢
    rcases hb with hb | hb
    · obtain ⟨q1, q2⟩ := codeB_loop x h.1 b hb; exact ⟨q1, fun b' h' => .inl (q2 b' h')⟩
    · obtain ⟨q1, q2⟩ := codeB_loop y h.2 b hb; exact ⟨q1, fun b' h' => .inr (q2 b' h')⟩
  | .block _ x, h, b, hb => by
    simp only [codeB] at h
    simp only [loops] at hb ⊢
    exact codeB_loop x h b hb
  | .loop x, h, b, hb => by
    simp only [codeB] at h
    simp only [loops, List.mem_cons] at hb ⊢
    rcases hb with rfl | hb
    · exact ⟨h, fun b' h' => .inr h'⟩
    · obtain ⟨q1, q2⟩ := codeB_loop x h b hb; exact ⟨q1, fun b' h' => .inr (q2 b' h')⟩
  | .skip, _, b, hb => by simp [loops] at hb
  | .region _ _ _, _, b, hb => by simp [loops] at hb
  | .rangeFunc _ _ _ _, _, b, hb => by simp [loops] at hb
  | .exit _, _, b, hb => by simp [loops] at hb
  | .scope _, _, b, hb => by simp [loops] at hb
  | .label _, _, b, hb => by simp [loops] at hb
  | .goto _, _, b, hb => by simp [loops] at hb
  | .ret, _, b, hb => by simp [loops] at hb
end
open Go.Proofs
set_option maxRecDepth 100000
def itoaS : List (D RC) → Option (Bool × D RC)
  | [.int .i64 n, .int .i64 b] => bif b == 10 then some (decide (-9223372036854775808 ≤ n ∧ n ≤ 9223372036854775807), .str (Lib.itoa n)) else none
  | _ => none
theorem enter49 (args : Array Value) (w : World) : (callFunc 49 args).run Tryd.prog w = .ok (.enter 49 args) w := enters_of Tryd.func49 (by kernel_rfl) rfl args w
theorem tab12 {w : World} (hp : ∀ p ∈ s12.pre, ∃ t f, w.heap[p.1]? = some (.cells p.2 t f)) {name : String} (hn : Tryd.prog.globalNamed name = some 0) : Lib.TabIs Tryd.prog w name .u64 Lib.pow10Tab := by
  obtain ⟨t, f, h1⟩ := hp (0, (Go.Lib.pow10Tab.map fun z => Value.int .u64 z).toArray) (.head _)
  unfold Lib.TabIs World.var?
  rw [hn]
  simp only [Option.bind_some]
  rw [h1]
theorem itoa_law (args : List (D RC)) (d : D RC) (hs : itoaS args = some (true, d)) : (∀ a ∈ args, D.refs a = []) ∧ BareLaw Tryd.prog s12 49 args d := by
  unfold itoaS at hs
  split at hs
  · rename_i n b
    cases hb : b == 10 with
    | false => rw [hb] at hs; cases hs
    | true =>
      rw [hb] at hs
      obtain rfl := eq_of_beq hb
      simp only [cond_true, Option.some.injEq, Prod.mk.injEq, decide_eq_true_eq] at hs
      obtain ⟨⟨h0, h1⟩, rfl⟩ := hs
      refine ⟨by simp [D.refs], fun w O vs hO hp hv => ⟨enter49 _ _, ?_⟩⟩
      have hvs : vs = [.int .i64 n, .int .i64 10] := by
        cases hv with
        | cons a r =>
          cases r with
          | cons b r2 =>
            cases r2
            rcases a with ⟨a, _⟩ | ⟨_, a⟩
            · cases a
            rcases b with ⟨b, _⟩ | ⟨_, b⟩
            · cases b
            cases a; cases b; rfl
      subst hvs
      refine (Any.internal_strconv_FormatInt_10 Tryd.lays246 n h0 h1 w (tab12 hp Tryd.lays246.m17)).mono fun e w' hp => ?_
      obtain ⟨rfl, k, os, rfl⟩ := hp
      have hsz : (Sort.grow (w.drewN k) os).heap.size = w.heap.size + os.size := by simp [Sort.grow]
      have hh : ∀ b, b < w.heap.size → (Sort.grow (w.drewN k) os).heap[b]? = w.heap[b]? := fun b hb => by
        show (w.heap ++ os)[b]? = _
        rw [Array.getElem?_append_left hb]
      exact ⟨_, fun _ => none, rfl, .mk rfl (.str _), ⟨rfl, rfl⟩, by omega, hh, rfl, rfl, rfl, fun a ha => by unfold World.frozen?; rw [hh a.block ha]⟩
  · cases hs
theorem pre12 {W : World} {name : String} (hn : Tryd.prog.globalNamed name = some 0) (h : Lib.TabIs Tryd.prog W name .u64 Lib.pow10Tab) : ∀ p ∈ s12.pre, ∃ t f, W.heap[p.1]? = some (.cells p.2 t f) := by
  intro p hp
  have e : s12.pre = [(0, (Go.Lib.pow10Tab.map fun z => Value.int .u64 z).toArray)] := rfl
  rw [e, List.mem_singleton] at hp
  subst hp
  unfold Lib.TabIs World.var? at h
  rw [hn] at h
  simp only [Option.bind_some] at h
  split at h
  · rename_i cs t f hq
    exact ⟨t, f, by rw [hq, Option.some.inj h]⟩
  · cases h
theorem pre_laid {W : World} {l : List (String × DataW Unit)} {name : String} (hn : Tryd.prog.globalNamed name = some 0) (keep : String × DataW Unit → Bool) (hk : l.filter keep = [(name, Lib.tabData .u64 Lib.pow10Tab)])
    (hty : (Tryd.prog.globals[0]?).map (·.type) = some 63) (h : laidMetH Tryd.prog l W) : ∀ p ∈ s12.pre, ∃ t f, W.heap[p.1]? = some (.cells p.2 t f) := by
  have h1 := h.filter keep
  rw [hk, MakeChecks.laidMetH_plain _ _ _ (by kernel_rfl)] at h1
  exact pre12 hn (Lib.tabIs_of_head hn hty (t := 63) (e := 57) (n := 20) (by kernel_rfl) (by kernel_rfl) (by kernel_rfl) (by kernel_rfl) h1)
open Go.Proofs
noncomputable def p0 : Fns RC := noFns Tryd.prog 61 (fun f => false)
theorem p0_laws : FLaws Tryd.prog s12 p0 := noFns_laws (by kernel_rfl)
noncomputable def uItoa : Fns RC := p0.addSpec 49 itoaS
theorem uItoa_laws : FLaws Tryd.prog s12 uItoa := p0_laws.addSpec itoa_law
def num12_s (n : Int) : Option (Bool × D RC) := some (decide (-9223372036854775808 ≤ n ∧ n ≤ 9223372036854775807), .str (Lib.itoa n))
def num12_sp : List (D RC) → Option (Bool × D RC)
  | [.int .i64 n] => num12_s n
  | _ => none
noncomputable def num12_e (n : Int) := evF s12 uItoa 20 40 [.int .i64 n]
theorem num12_eq (n : Int) : num12_e n = (bif decide ((-9223372036854775808 : Int) ≤ n ∧ n ≤ (9223372036854775807 : Int)) then some (D.str (Lib.itoa n)) else none) := by kernel_rfl
theorem num12_ok (n : Int) (h : (decide (-9223372036854775808 ≤ n ∧ n ≤ 9223372036854775807)) = true) : num12_e n = some (.str (Lib.itoa n)) := by
  rw [num12_eq]
  rw [h]; rfl
noncomputable def ua_1 := uItoa.addSpec 40 num12_sp
theorem ua_1_laws : FLaws Tryd.prog s12 ua_1 := uItoa_laws.addEv s12_laws fun args d h => by
  unfold num12_sp at h
  split at h
  · unfold num12_s at h
    have h1 := congrArg Prod.fst (Option.some.inj h)
    obtain rfl : _ = d := congrArg Prod.snd (Option.some.inj h)
    exact ⟨by simp [D.refs], 20, num12_ok _ h1⟩
  · cases h
def Leaf {α : Type} (o : Option α) (p : α → Prop) : Prop := ∃ r, o = some r ∧ p r
theorem leaf_some {α : Type} {a : α} {p : α → Prop} : Leaf (some a) p ↔ p a := by simp [Leaf]
section
variable {C : Cdc} {P : Program} {T : Tab C} {Φ : Fns C}
open Pg (Ex)
def loopsOf (Φ : Fns C) (g : FuncId) : List Code := match Φ.fn g with
  | some fn => match fn.body with
    | some b => loops b
    | none => []
  | none => []
def bodyAt (Φ : Fns C) (g key : Nat) : Code := ((loopsOf Φ g).find? fun b => Nat.beq (firstRegion b) key).getD .skip
def freshKey (k : Nat) : List Code → Bool
  | [] => true
  | b :: l => !(Nat.beq (firstRegion b) k) && freshKey k l
def keysB : List Code → Bool
  | [] => true
  | b :: l => freshKey (firstRegion b) l && keysB l
theorem freshKey_spec {k : Nat} : ∀ {l : List Code}, freshKey k l = true → ∀ b ∈ l, firstRegion b ≠ k
  | [], _, b, hb => by simp at hb
  | c :: l, h, b, hb => by
    simp only [freshKey, Bool.and_eq_true, Bool.not_eq_true'] at h
    simp only [List.mem_cons] at hb
    rcases hb with rfl | hb
    · exact Nat.ne_of_beq_eq_false h.1
    · exact freshKey_spec h.2 b hb
theorem keysB_spec {k : Nat} : ∀ {l : List Code}, keysB l = true → ∀ b ∈ l, firstRegion b = k → l.find? (fun b => Nat.beq (firstRegion b) k) = some b
  | [], _, b, hb, _ => by simp at hb
  | c :: l, h, b, hb, hk => by
    simp only [keysB, Bool.and_eq_true] at h
    simp only [List.mem_cons] at hb
    rcases hb with rfl | hb
    · simp [hk]
    · have hne := freshKey_spec h.1 b hb
      have : Nat.beq (firstRegion c) k = false := beqF (by rw [← hk]; exact fun e => hne e.symm)
      simp only [List.find?_cons, this]
      exact keysB_spec h.2 b hb hk
theorem bodyAt_eq {g key : Nat} (hk : keysB (loopsOf Φ g) = true) {fn : Func} {body b : Code} (hf : Φ.fn g = some fn) (hb : fn.body = some body) (hm : b ∈ loops body) (hkey : firstRegion b = key) : bodyAt Φ g key = b := by
  have : loopsOf Φ g = loops body := by simp [loopsOf, hf, hb]
  rw [bodyAt, this, keysB_spec (by rw [← this]; exact hk) b hm hkey]
  rfl
def sel : List Nat → Env C → Env C
  | [], _ => []
  | k :: l, env => (k, eget env k) :: sel l env
def cut (kc kf : List Nat) (r : Ev.X × Env C) : Ev.X × Env C := match r.1 with
  | .normal => (.normal, sel kc r.2)
  | x => (x, sel kf r.2)
theorem sel_sub : ∀ (l : List Nat) (env : Env C), Sub env (sel l env)
  | [], env, p, hp => by simp [sel] at hp
  | k :: l, env, p, hp => by
    simp only [sel, List.mem_cons] at hp
    rcases hp with rfl | hp
    · rfl
    · exact sel_sub l env p hp
end
theorem wrap_id {n : Int} (h1 : -9223372036854775808 ≤ n) (h2 : n ≤ 9223372036854775807) : IntKind.i64.wrap n = n := by
  simp only [IntKind.wrap, IntKind.bits, IntKind.signed]
  simp
  omega
def nmC0 : List Nat := [1461602701894, 5574836564, 1409878544453, 5558649165, 5709515587, 1306212059472, 1310507026768, 1314801994064, 1319096961360, 85603939449394259, 85885414426104915, 86166889402815571, 86448364379526227, 334390170110290, 335489681738066, 336589193365842, 337688704993618, 338788216621394, 339887728249170, 340987239876946, 342086751504722, 334390118925640, 335489630553416, 336589142181192, 337688653808968, 338788165436744, 339887677064520, 340987188692296, 342086700320072, 343186211947848, 344285723575624, 85622407573882184, 85903882550592840, 86185357527303496, 86466832504014152, 86748307480724808, 87029782457435464, 87311257434146120, 87592732410856776, 87874207387567432, 88155682364278088, 85623507085509960, 85904982062220616, 86186457038931272, 86467932015641928, 85603939383594819, 85885414360305475, 86166889337016131, 1306212455747, 1310507423043, 1314802390339, 1436451428876418590856275, 1441173795359288236069971, 1445896161842157881283667, 1450618528325027526497363, 1455340894807897171711059, 1460063261290766816924755, 1464785627773636462138451, 1469507994256506107352147, 1474230360739375752565843, 1478952727222245397779539, 367745697138591928172041299, 368954622958206557346747475, 370163548777821186521453651, 371372474597435815696159827, 372581400417050444870866003, 373790326236665074045572179, 1436451500934012628784211, 1441173867416882273997907, 1445896233899751919211603, 1450618600382621564425299, 1455340966865491209638995, 1460063333348360854852691, 1464785699831230500066387, 1469508066314100145280083, 1474230432796969790493779, 1478952799279839435707475, 367745697210649522209969235, 368954623030264151384675411, 370163548849878780559381587, 371372474669493409734087763, 372581400489108038908793939, 373790326308722668083500115, 1436451572991606666712147, 1441173939474476311925843, 1445896305957345957139539, 1450618672440215602353235, 1455341038923085247566931, 1460063405405954892780627, 1464785771888824537994323, 1469508138371694183208019, 1474230504854563828421715, 1478952871337433473635411, 367745697282707116247897171, 368954623102321745422603347, 370163548921936374597309523, 371372474741551003772015699, 372581400561165632946721875, 373790326380780262121428051, 334544134620487]
def nmC1 : List Nat := [334544135017807, 21924684406756689218, 85643298647982413, 5612719175075862499927, 5612719176175374127703, 5612719177274885755479, 5612719178374397383255, 21924684277639040846, 21924684281934008142, 21924684286228975438, 21924684290523942734, 335643646248263, 335643646645583, 21996742000794617154, 85924773624693069, 5631165919149572051543, 5631165920249083679319, 5631165921348595307095, 5631165922448106934871, 21996741871676968782, 21996741875971936078, 21996741880266903374, 21996741884561870670, 336743157876039, 336743158273359, 22068799594832545090, 86206248601403725, 5649612663223281603159, 5649612664322793230935, 5649612665422304858711, 5649612666521816486487, 22068799465714896718, 22068799470009864014, 22068799474304831310, 22068799478599798606, 337842669503815, 337842669901135, 22140857188870473026, 86487723578114381, 5668059407296991154775, 5668059408396502782551, 5668059409496014410327, 5668059410595526038103, 22140857059752824654, 22140857064047791950, 22140857068342759246, 22140857072637726542, 338942181131591, 338942181528911, 22212914782908400962, 86769198554825037, 5686506151370700706391, 5686506152470212334167, 5686506153569723961943, 5686506154669235589719, 22212914653790752590, 22212914658085719886, 22212914662380687182, 22212914666675654478, 340041692759367, 340041693156687, 22284972376946328898, 87050673531535693, 5704952895444410258007, 5704952896543921885783, 5704952897643433513559, 5704952898742945141335, 22284972247828680526, 22284972252123647822, 22284972256418615118, 22284972260713582414, 341141204387143, 341141204784463, 22357029970984256834, 87332148508246349, 5723399639518119809623, 5723399640617631437399, 5723399641717143065175, 5723399642816654692951, 22357029841866608462, 22357029846161575758, 22357029850456543054, 22357029854751510350, 342240716014919, 342240716412239, 22429087565022184770, 87613623484957005, 5741846383591829361239, 5741846384691340989015, 5741846385790852616791, 5741846386890364244567, 22429087435904536398, 22429087440199503694, 22429087444494470990, 22429087448789438286, 343340227642695, 343340228040015, 22501145159060112706, 87895098461667661, 5760293127665538912855]
def nmC2 : List Nat := [5760293128765050540631, 5760293129864562168407, 5760293130964073796183, 22501145029942464334, 22501145034237431630, 22501145038532398926, 22501145042827366222, 344439739270471, 344439739667791, 22573202753098040642, 88176573438378317, 5778739871739248464471, 5778739872838760092247, 5778739873938271720023, 5778739875037783347799, 22573202623980392270, 22573202628275359566, 22573202632570326862, 22573202636865294158, 85622561589577031, 85622561589974351, 5611360196334788756802, 21919375767116857677, 1436508210228652071801431, 1436508210229751583429207, 1436508210230851095056983, 1436508210231950606684759, 5611360196205671108430, 5611360196209966075726, 5611360196214261043022, 5611360196218556010318, 85904036566287687, 85904036566685007, 5629806940408498308418, 21991433361154785613, 1441230576711521717015127, 1441230576712621228642903, 1441230576713720740270679, 1441230576714820251898455, 5629806940279380660046, 5629806940283675627342, 5629806940287970594638, 5629806940292265561934, 86185511542998343, 86185511543395663, 5648253684482207860034, 22063490955192713549, 1445952943194391362228823, 1445952943195490873856599, 1445952943196590385484375, 1445952943197689897112151, 5648253684353090211662, 5648253684357385178958, 5648253684361680146254, 5648253684365975113550, 86466986519708999, 86466986520106319, 5666700428555917411650, 22135548549230641485, 1450675309677261007442519, 1450675309678360519070295, 1450675309679460030698071, 1450675309680559542325847, 5666700428426799763278, 5666700428431094730574, 5666700428435389697870, 5666700428439684665166, 86748461496419655, 86748461496816975, 5685147172629626963266, 22207606143268569421, 1455397676160130652656215, 1455397676161230164283991, 1455397676162329675911767, 1455397676163429187539543, 5685147172500509314894, 5685147172504804282190, 5685147172509099249486, 5685147172513394216782, 87029936473130311, 87029936473527631, 5703593916703336514882, 22279663737306497357, 1460120042643000297869911, 1460120042644099809497687, 1460120042645199321125463, 1460120042646298832753239, 5703593916574218866510, 5703593916578513833806, 5703593916582808801102, 5703593916587103768398, 334587084293447, 85654293681030478, 21927499117869416790, 335686595921223, 85935768657741134, 21999556711907344726, 336786107548999, 86217243634451790, 22071614305945272662]
def nmC3 : List Nat := [337885619176775, 86498718611162446, 22143671899983200598, 338985130804551, 86780193587873102, 22215729494021128534, 340084642432327, 87061668564583758, 22287787088059056470, 341184154060103, 87343143541294414, 22359844682096984406, 342283665687879, 87624618518005070, 22431902276134912342, 343383177315655, 87906093494715726, 22503959870172840278, 344482688943431, 88187568471426382, 22576017464210768214, 85622604539249991, 21919386762149905742, 5611363011045901484374, 85904079515960647, 21991444356187833678, 5629809755119611035990, 86185554492671303, 22063501950225761614, 5648256499193320587606, 86467029469381959, 22135559544263689550, 5666703243267030139222, 86748504446092615, 22207617138301617486, 5685149987340739690838, 87029979422803271, 22279674732339545422, 5703596731414449242454, 87311454399513927, 22351732326377473358, 5722043475488158794070, 87592929376224583, 22423789920415401294, 5740490219561868345686, 87874404352935239, 22495847514453329230, 5758936963635577897302, 88155879329645895, 22567905108491257166, 5777383707709287448918, 85623704050877767, 21919668237126616398, 5611435068639939412310, 85905179027588423, 21991725831164544334, 5629881812713648963926, 86186654004299079, 22063783425202472270, 5648328556787358515542, 86468128981009735, 22135841019240400206, 5666775300861068067158, 86749603957720391, 22207898613278328142, 5685222044934777618774, 87031078934431047, 22279956207316256078, 5703668789008487170390, 87312553911141703, 22352013801354184014, 5722115533082196722006, 87594028887852359, 22424071395392111950, 5740562277155906273622, 87875503864563015, 22496128989430039886, 5759009021229615825238, 88156978841273671, 22568186583467967822, 5777455765303325376854, 85624803562505543, 21919949712103327054, 5611507126233977340246, 85906278539216199, 21992007306141254990, 5629953870307686891862, 86187753515926855, 22064064900179182926, 5648400614381396443478, 86469228492637511, 22136122494217110862, 5666847358455105995094, 86750703469348167, 22208180088255038798, 5685294102528815546710, 87032178446058823, 22280237682292966734, 5703740846602525098326, 87313653422769479]
def nmC4 : List Nat := [22352295276330894670, 5722187590676234649942, 87595128399480135, 22424352870368822606, 5740634334749944201558, 87876603376190791, 22496410464406750542, 5759081078823653753174, 88158078352901447, 22568468058444678478, 5777527822897363304790, 85625903074133319, 21920231187080037710, 5611579183828015268182, 85907378050843975, 21992288781117965646, 5630025927901724819798, 86188853027554631, 22064346375155893582, 5648472671975434371414, 86470328004265287, 22136403969193821518, 5666919416049143923030, 86751802980975943, 22208461563231749454, 5685366160122853474646, 87033277957686599, 22280519157269677390, 5703812904196563026262, 87314752934397255, 22352576751307605326, 5722259648270272577878, 87596227911107911, 22424634345345533262, 5740706392343982129494, 87877702887818567, 22496691939383461198, 5759153136417691681110, 88159177864529223, 22568749533421389134, 5777599880491401232726, 85627002585761095, 21920512662056748366, 5611651241422053196118, 85908477562471751, 21992570256094676302, 5630097985495762747734, 86189952539182407, 22064627850132604238, 5648544729569472299350, 86471427515893063, 22136685444170532174, 5666991473643181850966, 86752902492603719, 22208743038208460110, 5685438217716891402582, 87034377469314375, 22280800632246388046, 5703884961790600954198, 87315852446025031, 22352858226284315982, 5722331705864310505814, 87597327422735687, 22424915820322243918, 5740778449938020057430, 87878802399446343, 22496973414360171854, 5759225194011729609046, 88160277376156999, 22569031008398099790, 5777671938085439160662, 85628102097388871, 21920794137033459022, 5611723299016091124054, 85909577074099527, 21992851731071386958, 5630170043089800675670, 86191052050810183, 22064909325109314894, 5648616787163510227286, 86472527027520839, 22136966919147242830, 5667063531237219778902, 86754002004231495, 22209024513185170766, 5685510275310929330518, 87035476980942151, 22281082107223098702, 5703957019384638882134, 87316951957652807, 22353139701261026638, 5722403763458348433750, 87598426934363463, 22425197295298954574, 5740850507532057985366, 87879901911074119, 22497254889336882510, 5759297251605767536982, 88161376887784775, 22569312483374810446]
def nmC5 : List Nat := [5777743995679477088598, 85629201609016647, 21921075612010169678, 5611795356610129051990, 85910676585727303, 21993133206048097614, 5630242100683838603606, 86192151562437959, 22065190800086025550, 5648688844757548155222, 86473626539148615, 22137248394123953486, 5667135588831257706838, 86755101515859271, 22209305988161881422, 5685582332904967258454, 87036576492569927, 22281363582199809358, 5704029076978676810070, 87318051469280583, 22353421176237737294, 5722475821052386361686, 87599526445991239, 22425478770275665230, 5740922565126095913302, 87881001422701895, 22497536364313593166, 5759369309199805464918, 88162476399412551, 22569593958351521102, 5777816053273515016534, 85630301120644423, 21921357086986880334, 5611867414204166979926, 85911776097355079, 21993414681024808270, 5630314158277876531542, 86193251074065735, 22065472275062736206, 5648760902351586083158, 86474726050776391, 22137529869100664142, 5667207646425295634774, 86756201027487047, 22209587463138592078, 5685654390499005186390, 87037676004197703, 22281645057176520014, 5704101134572714738006, 87319150980908359, 22353702651214447950, 5722547878646424289622, 87600625957619015, 22425760245252375886, 5740994622720133841238, 87882100934329671, 22497817839290303822, 5759441366793843392854, 88163575911040327, 22569875433328231758, 5777888110867552944470, 85631400632272199, 21921638561963590990, 5611939471798204907862, 85912875608982855, 21993696156001518926, 5630386215871914459478, 86194350585693511, 22065753750039446862, 5648832959945624011094, 86475825562404167, 22137811344077374798, 5667279704019333562710, 86757300539114823, 22209868938115302734, 5685726448093043114326, 87038775515825479, 22281926532153230670, 5704173192166752665942, 87320250492536135, 22353984126191158606, 5722619936240462217558, 87601725469246791, 22426041720229086542, 5741066680314171769174, 87883200445957447, 22498099314267014478, 5759513424387881320790, 88164675422668103, 22570156908304942414, 5777960168461590872406, 21919073598031414599, 5611282841096144045390, 1436488407320548401234262, 21991131192069342535, 5629729585169853597006, 1441210773803418046447958, 22063188786107270471, 5648176329243563148622, 1445933140286287691661654]
def nmC6 : List Nat := [22135246380145198407, 5666623073317272700238, 1450655506769157336875350, 22207303974183126343, 5685069817390982251854, 1455377873252026982089046, 22279361568221054279, 5703516561464691803470, 1460100239734896627302742, 22351419162258982215, 5721963305538401355086, 1464822606217766272516438, 22423476756296910151, 5740410049612110906702, 1469544972700635917730134, 22495534350334838087, 5758856793685820458318, 1474267339183505562943830, 22567591944372766023, 5777303537759530009934, 1478989705666375208157526, 21919355073008125255, 5611354898690181973326, 1436506854064622110785878, 21991412667046053191, 5629801642763891524942, 1441229220547491755999574, 22063470261083981127, 5648248386837601076558, 1445951587030361401213270, 22135527855121909063, 5666695130911310628174, 1450673953513231046426966, 22207585449159836999, 5685141874985020179790, 1455396319996100691640662, 22279643043197764935, 5703588619058729731406, 1460118686478970336854358, 22351700637235692871, 5722035363132439283022, 1464841052961839982068054, 22423758231273620807, 5740482107206148834638, 1469563419444709627281750, 22495815825311548743, 5758928851279858386254, 1474285785927579272495446, 22567873419349476679, 5777375595353567937870, 1479008152410448917709142, 21919636547984835911, 5611426956284219901262, 1436525300808695820337494, 21991694142022763847, 5629873700357929452878, 1441247667291565465551190, 22063751736060691783, 5648320444431639004494, 1445970033774435110764886, 22135809330098619719, 5666767188505348556110, 1450692400257304755978582, 22207866924136547655, 5685213932579058107726, 1455414766740174401192278, 22279924518174475591, 5703660676652767659342, 1460137133223044046405974, 22351982112212403527, 5722107420726477210958, 1464859499705913691619670, 22424039706250331463, 5740554164800186762574, 1469581866188783336833366, 22496097300288259399, 5759000908873896314190, 1474304232671652982047062, 22568154894326187335, 5777447652947605865806, 1479026599154522627260758, 21919918022961546567, 5611499013878257829198, 1436543747552769529889110, 21991975616999474503, 5629945757951967380814, 1441266114035639175102806, 22064033211037402439, 5648392502025676932430, 1445988480518508820316502, 22136090805075330375, 5666839246099386484046, 1450710847001378465530198, 22208148399113258311, 5685285990173096035662, 1455433213484248110743894, 22280205993151186247, 5703732734246805587278, 1460155579967117755957590, 22352263587189114183]
def nmC7 : List Nat := [5722179478320515138894, 1464877946449987401171286, 22424321181227042119, 5740626222394224690510, 1469600312932857046384982, 22496378775264970055, 5759072966467934242126, 1474322679415726691598678, 22568436369302897991, 5777519710541643793742, 1479045045898596336812374, 21920199497938257223, 5611571071472295757134, 1436562194296843239440726, 21992257091976185159, 5630017815546005308750, 1441284560779712884654422, 22064314686014113095, 5648464559619714860366, 1446006927262582529868118, 22136372280052041031, 5666911303693424411982, 1450729293745452175081814, 22208429874089968967, 5685358047767133963598, 1455451660228321820295510, 22280487468127896903, 5703804791840843515214, 1460174026711191465509206, 22352545062165824839, 5722251535914553066830, 1464896393194061110722902, 22424602656203752775, 5740698279988262618446, 1469618759676930755936598, 22496660250241680711, 5759145024061972170062, 1474341126159800401150294, 22568717844279608647, 5777591768135681721678, 1479063492642670046363990, 21920480972914967879, 5611643129066333685070, 1436580641040916948992342, 21992538566952895815, 5630089873140043236686, 1441303007523786594206038, 22064596160990823751, 5648536617213752788302, 1446025374006656239419734, 22136653755028751687, 5666983361287462339918, 1450747740489525884633430, 22208711349066679623, 5685430105361171891534, 1455470106972395529847126, 22280768943104607559, 5703876849434881443150, 1460192473455265175060822, 22352826537142535495, 5722323593508590994766, 1464914839938134820274518, 22424884131180463431, 5740770337582300546382, 1469637206421004465488214, 22496941725218391367, 5759217081656010097998, 1474359572903874110701910, 22568999319256319303, 5777663825729719649614, 1479081939386743755915606]
def nmCs : List Nat := nmC0 ++ nmC1 ++ nmC2 ++ nmC3 ++ nmC4 ++ nmC5 ++ nmC6 ++ nmC7
def nmOf : Nat → Nat → List UInt8
  | 0, _ => []
  | f + 1, n => bif Nat.blt n 256 then [] else UInt8.ofNat (n % 256) :: nmOf f (n / 256)
def nm (c : Nat) : List UInt8 := nmOf 20 (nmCs.getD c 1)
def nmTo : List UInt8 → Nat
  | [] => 1
  | b :: r => nmTo r * 256 + b.toNat
theorem nmCs_len : nmCs.length = 771 := by decide +kernel
noncomputable def okAll (l : List Nat) : Bool := @List.rec Nat (fun _ => Bool) true (fun n _ ih => Bool.rec false ih (Nat.beq (nmTo (nmOf 20 n)) n && Nat.blt 255 n)) l
theorem nm_back : okAll nmCs = true := by kernel_rfl
noncomputable def noneB (x : Nat) (l : List Nat) : Bool := @List.rec Nat (fun _ => Bool) true (fun y _ ih => Bool.rec ih false (Nat.beq x y)) l
noncomputable def nodupN (l : List Nat) : Bool := @List.rec Nat (fun _ => Bool) true (fun x l ih => Bool.rec false ih (noneB x l)) l
theorem nmCs_nodup : nodupN nmCs = true := by kernel_rfl
theorem okAll_mem {l : List Nat} (h : okAll l = true) : ∀ n ∈ l, nmTo (nmOf 20 n) = n ∧ 255 < n := by
  induction l with
  | nil => intro n hn; cases hn
  | cons x l ih =>
    have h : Bool.rec false (okAll l) (Nat.beq (nmTo (nmOf 20 x)) x && Nat.blt 255 x) = true := h
    cases hb : Nat.beq (nmTo (nmOf 20 x)) x && Nat.blt 255 x with
    | false => rw [hb] at h; cases h
    | true =>
      rw [hb] at h
      rw [Bool.and_eq_true] at hb
      intro n hn
      rcases List.mem_cons.1 hn with rfl | hn
      · exact ⟨Nat.eq_of_beq_eq_true hb.1, by simpa [Nat.blt_eq] using hb.2⟩
      · exact ih h n hn
theorem noneB_mem {x : Nat} {l : List Nat} (h : noneB x l = true) : x ∉ l := by
  induction l with
  | nil => simp
  | cons y l ih =>
    have h : Bool.rec (noneB x l) false (Nat.beq x y) = true := h
    cases hb : Nat.beq x y with
    | true => rw [hb] at h; cases h
    | false =>
      rw [hb] at h
      intro hx
      rcases List.mem_cons.1 hx with rfl | hx
      · simp at hb
      · exact ih h hx
theorem nodupN_iff {l : List Nat} (h : nodupN l = true) : l.Nodup := by
  induction l with
  | nil => exact .nil
  | cons x l ih =>
    have h : Bool.rec false (nodupN l) (noneB x l) = true := h
    cases hb : noneB x l with
    | false => rw [hb] at h; cases h
    | true =>
      rw [hb] at h
      exact List.nodup_cons.2 ⟨noneB_mem hb, ih h⟩
theorem nmCs_get {c : Nat} (h : c < 771) : nmCs.getD c 1 ∈ nmCs := by
  have hl := nmCs_len
  rw [List.getD_eq_getElem?_getD, List.getElem?_eq_getElem (by omega)]
  exact List.getElem_mem _
theorem nm_to {c : Nat} (h : c < 771) : nmTo (nm c) = nmCs.getD c 1 ∧ 255 < nmCs.getD c 1 := okAll_mem nm_back _ (nmCs_get h)
theorem nm_inj {c d : Nat} (h : c < 771) (k : d < 771) (e : nm c = nm d) : c = d := by
  have h1 : nmCs.getD c 1 = nmCs.getD d 1 := by rw [← (nm_to h).1, ← (nm_to k).1, e]
  have hl := nmCs_len
  rw [List.getD_eq_getElem?_getD, List.getD_eq_getElem?_getD, List.getElem?_eq_getElem (by omega), List.getElem?_eq_getElem (by omega)] at h1
  simp only [Option.getD_some] at h1
  exact (List.getElem_inj (nodupN_iff nmCs_nodup)).1 h1
theorem nm_ne {c : Nat} (h : c < 771) : nm c ≠ [] := by
  intro e
  have h1 := nm_to h
  rw [e] at h1
  simp only [nmTo] at h1
  omega
def nmI (c : Int) : List UInt8 := bif decide (0 ≤ c) && decide (c < 771) then nm c.toNat else []
def fnd (s : List UInt8) (i n : Nat) : Option Nat := (List.range' i n).find? fun c => nm c == s
theorem fnd_step (s : List UInt8) (i n : Nat) : fnd s i (n + 1) = bif nm i == s then some i else fnd s (i + 1) n := by
  unfold fnd
  rw [List.range'_succ, List.find?_cons]
  cases nm i == s <;> rfl
theorem fnd_zero (s : List UInt8) (i : Nat) : fnd s i 0 = none := rfl
theorem fnd_own {c : Nat} : ∀ (n i : Nat), i ≤ c → c < i + n → i + n ≤ 771 → fnd (nm c) i n = some c
  | 0, i, h1, h2, _ => by omega
  | n + 1, i, h1, h2, h3 => by
    rw [fnd_step]
    cases hb : nm i == nm c with
    | true => rw [nm_inj (by omega) (by omega) (eq_of_beq hb)]; rfl
    | false =>
      have : i ≠ c := by rintro rfl; simp at hb
      exact fnd_own n (i + 1) (by omega) (by omega) (by omega)
theorem fnd_nil : ∀ (n i : Nat), i + n ≤ 771 → fnd [] i n = none
  | 0, i, _ => rfl
  | n + 1, i, h => by
    rw [fnd_step]
    have : (nm i == []) = false := by
      cases hb : nm i == [] with
      | false => rfl
      | true => exact (nm_ne (by omega) (eq_of_beq hb)).elim
    rw [this]
    exact fnd_nil n (i + 1) (by omega)
def nmMap (i : Nat) : List (List UInt8 × Int) := (List.range i).map fun (c : Nat) => (nm c, (c : Int))
def nmNil (m : List (List UInt8 × Int)) : Prop := m = []
def seq8 (a b : List UInt8) : Bool := a == b
theorem mput_new {α β : Type} {eq : α → α → Bool} {k : α} {v : β} : ∀ {l : List (α × β)}, (∀ p ∈ l, eq k p.1 = false) → mput eq k v l = l ++ [(k, v)]
  | [], _ => rfl
  | (a, b) :: l, h => by
    have h1 : eq k a = false := h (a, b) (.head _)
    rw [mput, h1, cond_false, mput_new fun p hp => h p (.tail _ hp)]; rfl
theorem nmMap_put {i : Nat} (h : i < 771) : mput seq8 (nm i) (i : Int) (nmMap i) = nmMap (i + 1) := by
  rw [mput_new]
  · unfold nmMap
    rw [List.range_succ, List.map_append]; rfl
  · intro p hp
    unfold nmMap at hp
    rw [List.mem_map] at hp
    obtain ⟨c, hc, rfl⟩ := hp
    rw [List.mem_range] at hc
    show (nm i == nm c) = false
    cases hb : nm i == nm c with
    | false => rfl
    | true => have := nm_inj h (by omega) (eq_of_beq hb); omega
theorem mget_map (s : List UInt8) : ∀ l : List Nat, mget seq8 s (l.map fun (c : Nat) => (nm c, (c : Int))) = (l.find? fun c => nm c == s).map fun (c : Nat) => (c : Int)
  | [] => rfl
  | c :: l => by
    rw [List.map_cons, mget, List.find?_cons, mget_map s l]
    have : seq8 s (nm c) = (nm c == s) := by unfold seq8; exact BEq.comm
    rw [this]
    cases nm c == s <;> rfl
theorem mget_nm (s : List UInt8) : mget seq8 s (nmMap 771) = (fnd s 0 771).map fun (c : Nat) => (c : Int) := by
  unfold nmMap fnd
  rw [mget_map, List.range_eq_range']
open Go.Proofs
def isS (o : Option (D RC)) (s : List UInt8) : Bool := match o with | some (.str t) => t == s | _ => false
theorem isS_eq {o : Option (D RC)} {s : List UInt8} (h : isS o s = true) : o = some (.str s) := by
  unfold isS at h
  split at h
  · rw [eq_of_beq h]
  · cases h
theorem isS_all {g : Nat → Option (D RC)} {f : Nat → List UInt8} {a m : Nat} (h : (List.range' a m).all (fun n => isS (g n) (f n)) = true) : ∀ k, a ≤ k → k < a + m → g k = some (.str (f k)) := by
  intro k h1 h2
  exact isS_eq (List.all_eq_true.1 h k (List.mem_range'_1.2 ⟨h1, h2⟩))
open Go.Proofs
theorem nmP0 : (List.range' 0 11).all (fun n => isS (evF s12 ua_1 60 12 [.int .i64 (Int.ofNat n)]) (nm n)) = true := by kernel_rfl
theorem nmP11 : (List.range' 11 11).all (fun n => isS (evF s12 ua_1 60 12 [.int .i64 (Int.ofNat n)]) (nm n)) = true := by kernel_rfl
theorem nmP22 : (List.range' 22 11).all (fun n => isS (evF s12 ua_1 60 12 [.int .i64 (Int.ofNat n)]) (nm n)) = true := by kernel_rfl
theorem nmP33 : (List.range' 33 11).all (fun n => isS (evF s12 ua_1 60 12 [.int .i64 (Int.ofNat n)]) (nm n)) = true := by kernel_rfl
theorem nmP44 : (List.range' 44 11).all (fun n => isS (evF s12 ua_1 60 12 [.int .i64 (Int.ofNat n)]) (nm n)) = true := by kernel_rfl
theorem nmP55 : (List.range' 55 11).all (fun n => isS (evF s12 ua_1 60 12 [.int .i64 (Int.ofNat n)]) (nm n)) = true := by kernel_rfl
theorem nmP66 : (List.range' 66 11).all (fun n => isS (evF s12 ua_1 60 12 [.int .i64 (Int.ofNat n)]) (nm n)) = true := by kernel_rfl
theorem nmP77 : (List.range' 77 11).all (fun n => isS (evF s12 ua_1 60 12 [.int .i64 (Int.ofNat n)]) (nm n)) = true := by kernel_rfl
theorem nmP88 : (List.range' 88 11).all (fun n => isS (evF s12 ua_1 60 12 [.int .i64 (Int.ofNat n)]) (nm n)) = true := by kernel_rfl
theorem nmPall : ∀ k, 0 ≤ k → k < 99 → evF s12 ua_1 60 12 [.int .i64 (Int.ofNat k)] = some (.str (nm k)) := by
  intro k h1 h2
  rcases Nat.lt_or_ge k 11 with h | h1
  · exact isS_all (g := fun n => evF s12 ua_1 60 12 [.int .i64 (Int.ofNat n)]) (f := nm) nmP0 k h1 h
  rcases Nat.lt_or_ge k 22 with h | h1
  · exact isS_all (g := fun n => evF s12 ua_1 60 12 [.int .i64 (Int.ofNat n)]) (f := nm) nmP11 k h1 h
  rcases Nat.lt_or_ge k 33 with h | h1
  · exact isS_all (g := fun n => evF s12 ua_1 60 12 [.int .i64 (Int.ofNat n)]) (f := nm) nmP22 k h1 h
  rcases Nat.lt_or_ge k 44 with h | h1
  · exact isS_all (g := fun n => evF s12 ua_1 60 12 [.int .i64 (Int.ofNat n)]) (f := nm) nmP33 k h1 h
  rcases Nat.lt_or_ge k 55 with h | h1
  · exact isS_all (g := fun n => evF s12 ua_1 60 12 [.int .i64 (Int.ofNat n)]) (f := nm) nmP44 k h1 h
  rcases Nat.lt_or_ge k 66 with h | h1
  · exact isS_all (g := fun n => evF s12 ua_1 60 12 [.int .i64 (Int.ofNat n)]) (f := nm) nmP55 k h1 h
  rcases Nat.lt_or_ge k 77 with h | h1
  · exact isS_all (g := fun n => evF s12 ua_1 60 12 [.int .i64 (Int.ofNat n)]) (f := nm) nmP66 k h1 h
  rcases Nat.lt_or_ge k 88 with h | h1
  · exact isS_all (g := fun n => evF s12 ua_1 60 12 [.int .i64 (Int.ofNat n)]) (f := nm) nmP77 k h1 h
  rcases Nat.lt_or_ge k 99 with h | h1
  · exact isS_all (g := fun n => evF s12 ua_1 60 12 [.int .i64 (Int.ofNat n)]) (f := nm) nmP88 k h1 h
  omega
open Go.Proofs
theorem nmQ99 : (List.range' 99 84).all (fun n => isS (evF s12 ua_1 60 12 [.int .i64 (Int.ofNat n)]) (nm n)) = true := by kernel_rfl
theorem nmQ183 : (List.range' 183 84).all (fun n => isS (evF s12 ua_1 60 12 [.int .i64 (Int.ofNat n)]) (nm n)) = true := by kernel_rfl
theorem nmQ267 : (List.range' 267 84).all (fun n => isS (evF s12 ua_1 60 12 [.int .i64 (Int.ofNat n)]) (nm n)) = true := by kernel_rfl
theorem nmQ351 : (List.range' 351 84).all (fun n => isS (evF s12 ua_1 60 12 [.int .i64 (Int.ofNat n)]) (nm n)) = true := by kernel_rfl
theorem nmQ435 : (List.range' 435 84).all (fun n => isS (evF s12 ua_1 60 12 [.int .i64 (Int.ofNat n)]) (nm n)) = true := by kernel_rfl
theorem nmQ519 : (List.range' 519 84).all (fun n => isS (evF s12 ua_1 60 12 [.int .i64 (Int.ofNat n)]) (nm n)) = true := by kernel_rfl
theorem nmQ603 : (List.range' 603 84).all (fun n => isS (evF s12 ua_1 60 12 [.int .i64 (Int.ofNat n)]) (nm n)) = true := by kernel_rfl
theorem nmQ687 : (List.range' 687 84).all (fun n => isS (evF s12 ua_1 60 12 [.int .i64 (Int.ofNat n)]) (nm n)) = true := by kernel_rfl
theorem nmQall : ∀ k, 99 ≤ k → k < 771 → evF s12 ua_1 60 12 [.int .i64 (Int.ofNat k)] = some (.str (nm k)) := by
  intro k h1 h2
  rcases Nat.lt_or_ge k 183 with h | h1
  · exact isS_all (g := fun n => evF s12 ua_1 60 12 [.int .i64 (Int.ofNat n)]) (f := nm) nmQ99 k h1 h
  rcases Nat.lt_or_ge k 267 with h | h1
  · exact isS_all (g := fun n => evF s12 ua_1 60 12 [.int .i64 (Int.ofNat n)]) (f := nm) nmQ183 k h1 h
  rcases Nat.lt_or_ge k 351 with h | h1
  · exact isS_all (g := fun n => evF s12 ua_1 60 12 [.int .i64 (Int.ofNat n)]) (f := nm) nmQ267 k h1 h
  rcases Nat.lt_or_ge k 435 with h | h1
  · exact isS_all (g := fun n => evF s12 ua_1 60 12 [.int .i64 (Int.ofNat n)]) (f := nm) nmQ351 k h1 h
  rcases Nat.lt_or_ge k 519 with h | h1
  · exact isS_all (g := fun n => evF s12 ua_1 60 12 [.int .i64 (Int.ofNat n)]) (f := nm) nmQ435 k h1 h
  rcases Nat.lt_or_ge k 603 with h | h1
  · exact isS_all (g := fun n => evF s12 ua_1 60 12 [.int .i64 (Int.ofNat n)]) (f := nm) nmQ519 k h1 h
  rcases Nat.lt_or_ge k 687 with h | h1
  · exact isS_all (g := fun n => evF s12 ua_1 60 12 [.int .i64 (Int.ofNat n)]) (f := nm) nmQ603 k h1 h
  rcases Nat.lt_or_ge k 771 with h | h1
  · exact isS_all (g := fun n => evF s12 ua_1 60 12 [.int .i64 (Int.ofNat n)]) (f := nm) nmQ687 k h1 h
  omega
open Go.Proofs
theorem nmR0 : (List.range' 0 86).all (fun n => isS (evF s12 ua_1 60 13 [.int .i64 (Int.ofNat n)]) (nm n)) = true := by kernel_rfl
theorem nmR86 : (List.range' 86 86).all (fun n => isS (evF s12 ua_1 60 13 [.int .i64 (Int.ofNat n)]) (nm n)) = true := by kernel_rfl
theorem nmR172 : (List.range' 172 86).all (fun n => isS (evF s12 ua_1 60 13 [.int .i64 (Int.ofNat n)]) (nm n)) = true := by kernel_rfl
theorem nmR258 : (List.range' 258 86).all (fun n => isS (evF s12 ua_1 60 13 [.int .i64 (Int.ofNat n)]) (nm n)) = true := by kernel_rfl
theorem nmR344 : (List.range' 344 86).all (fun n => isS (evF s12 ua_1 60 13 [.int .i64 (Int.ofNat n)]) (nm n)) = true := by kernel_rfl
theorem nmR430 : (List.range' 430 86).all (fun n => isS (evF s12 ua_1 60 13 [.int .i64 (Int.ofNat n)]) (nm n)) = true := by kernel_rfl
theorem nmR516 : (List.range' 516 86).all (fun n => isS (evF s12 ua_1 60 13 [.int .i64 (Int.ofNat n)]) (nm n)) = true := by kernel_rfl
theorem nmR602 : (List.range' 602 86).all (fun n => isS (evF s12 ua_1 60 13 [.int .i64 (Int.ofNat n)]) (nm n)) = true := by kernel_rfl
theorem nmR688 : (List.range' 688 83).all (fun n => isS (evF s12 ua_1 60 13 [.int .i64 (Int.ofNat n)]) (nm n)) = true := by kernel_rfl
theorem nmRall : ∀ k, 0 ≤ k → k < 771 → evF s12 ua_1 60 13 [.int .i64 (Int.ofNat k)] = some (.str (nm k)) := by
  intro k h1 h2
  rcases Nat.lt_or_ge k 86 with h | h1
  · exact isS_all (g := fun n => evF s12 ua_1 60 13 [.int .i64 (Int.ofNat n)]) (f := nm) nmR0 k h1 h
  rcases Nat.lt_or_ge k 172 with h | h1
  · exact isS_all (g := fun n => evF s12 ua_1 60 13 [.int .i64 (Int.ofNat n)]) (f := nm) nmR86 k h1 h
  rcases Nat.lt_or_ge k 258 with h | h1
  · exact isS_all (g := fun n => evF s12 ua_1 60 13 [.int .i64 (Int.ofNat n)]) (f := nm) nmR172 k h1 h
  rcases Nat.lt_or_ge k 344 with h | h1
  · exact isS_all (g := fun n => evF s12 ua_1 60 13 [.int .i64 (Int.ofNat n)]) (f := nm) nmR258 k h1 h
  rcases Nat.lt_or_ge k 430 with h | h1
  · exact isS_all (g := fun n => evF s12 ua_1 60 13 [.int .i64 (Int.ofNat n)]) (f := nm) nmR344 k h1 h
  rcases Nat.lt_or_ge k 516 with h | h1
  · exact isS_all (g := fun n => evF s12 ua_1 60 13 [.int .i64 (Int.ofNat n)]) (f := nm) nmR430 k h1 h
  rcases Nat.lt_or_ge k 602 with h | h1
  · exact isS_all (g := fun n => evF s12 ua_1 60 13 [.int .i64 (Int.ofNat n)]) (f := nm) nmR516 k h1 h
  rcases Nat.lt_or_ge k 688 with h | h1
  · exact isS_all (g := fun n => evF s12 ua_1 60 13 [.int .i64 (Int.ofNat n)]) (f := nm) nmR602 k h1 h
  rcases Nat.lt_or_ge k 771 with h | h1
  · exact isS_all (g := fun n => evF s12 ua_1 60 13 [.int .i64 (Int.ofNat n)]) (f := nm) nmR688 k h1 h
  omega
end Go.Ev
