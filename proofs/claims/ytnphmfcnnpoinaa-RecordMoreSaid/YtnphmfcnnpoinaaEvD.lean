/-
  Objects in the world; steps from world to world; how programs over objects run.
-/
import Derived.Test.YtnphmfcnnpoinaaEvC
namespace Go.Ev
set_option linter.unusedVariables false
set_option linter.unusedSimpArgs false

section
variable {C : Cdc}

def Obj.refs : Obj C → List Nat
  | .var _ d => d.refs
  | .vec _ _ _ => []

/-- which numbers may be given (from lo on, below top); some that are never met -/
structure Lim where
  lo : Nat
  top : Nat
  H : Nat → Prop
  ok : ∀ id, lo ≤ id → id < top → ¬ H id

/-- numbers that are not about to be given -/
def old (nx : Nat) (lim : Lim) (id : Nat) : Prop := (id < nx ∨ lim.top ≤ id) ∧ ¬ lim.H id
theorem old.mono {nx nx' : Nat} {lim : Lim} {id : Nat} (h : old nx lim id) (hn : nx ≤ nx') : old nx' lim id := ⟨by have := h.1; omega, h.2⟩

variable (T : Tab C)

def VecOK (X : Cx) (t : C.Ty) (own : Bool) (l : List (C.A t)) (v : Value) (b lo hi : Nat) : Prop :=
  ((∃ a, v = .slice a 0 0 ∧ ∀ b off, a ≠ some ⟨b, off, none⟩) ∧ l = [] ∧ hi ≤ lo) ∨
  ∃ off cp, v = .slice (some ⟨b, off, none⟩) l.length cp ∧ l.length ≤ cp ∧ hi = off + cp * T.size (T.ety t) ∧
    ((own = true ∧ lo = off ∧ (cp = 0 ∨ ∃ c e, X.w.heap[b]? = some (.cells c e (0, 0)) ∧ hi ≤ c.size ∧ R T X false (.arr t l.length l) ((c.toList.drop off).take (l.length * T.size (T.ety t))))) ∨
     (own = false ∧ lo = off + l.length * T.size (T.ety t) ∧ (∃ cs, X.at b off cs ∧ R T X false (.arr t l.length l) cs) ∧
       (cp = l.length ∨ ∃ c e, X.w.heap[b]? = some (.cells c e (0, 0)) ∧ hi ≤ c.size)))

structure G (X : Cx) (h : Heap C) (nx : Nat) (lim : Lim) : Prop where
  var : ∀ id t d, h.get id = some (.var t d) → ∃ b c, X.ρ id = some (.var b t) ∧ X.w.heap[b]? = some (.cells c t (0, 0)) ∧ R T X false d c.toList ∧ fit T d (.inl t) = true
  vec : ∀ id t own l, h.get id = some (.vec t own l) → ∃ v b lo hi, X.ρ id = some (.vec v (T.ety t) b lo hi) ∧ VecOK T X t own l v b lo hi
  dom : ∀ id l, X.ρ id = some l → (h.get id).isSome = true
  nums : ∀ id o, h.get id = some o → old nx lim id ∧ ∀ r ∈ o.refs, old nx lim r
  apart : ∀ id id' l l' b o o', X.ρ id = some l → X.ρ id' = some l' → l.owns b o → l'.owns b o' → id = id'
  outer : ∀ b o, X.mine b o → ¬ X.O b o ∧ b < X.w.heap.size
  outs : ∀ b o, X.O b o → b < X.w.heap.size
  low : lim.lo ≤ nx

structure Step (X : Cx) (nx : Nat) (lim : Lim) (X' : Cx) : Prop where
  O : X'.O = X.O
  os : X'.w.os = X.w.os
  tape : X'.w.tape = X.w.tape
  output : X'.w.output = X.w.output
  size : X.w.heap.size ≤ X'.w.heap.size
  ρ : ∀ id, old nx lim id → Compat (X.ρ id) (X'.ρ id)
  mine : ∀ b o, b < X.w.heap.size → X'.mine b o → X.mine b o
  cell : ∀ b o, b < X.w.heap.size → ¬ X.mine b o → X'.w.cell? ⟨b, o, none⟩ = X.w.cell? ⟨b, o, none⟩
  block : ∀ b, b < X.w.heap.size → (∀ o, ¬ X.mine b o) → X'.w.heap[b]? = X.w.heap[b]?
  frz : ∀ a, X'.w.frozen? a = X.w.frozen? a

theorem cell_lt {w : World} {a : Addr} {v : Value} (h : w.cell? a = some v) : a.block < w.heap.size := by
  unfold World.cell? at h
  rcases Nat.lt_or_ge a.block w.heap.size with hl | hl
  · exact hl
  · rw [Array.getElem?_eq_none hl] at h; simp at h

theorem Step.refl (X : Cx) (nx : Nat) (lim : Lim) : Step X nx lim X :=
  ⟨rfl, rfl, rfl, rfl, Nat.le_refl _, fun _ _ => .refl _, fun _ _ _ h => h, fun _ _ _ _ => rfl, fun _ _ _ => rfl, fun _ => rfl⟩

theorem Step.trans {X Y Z : Cx} {nx ny : Nat} {lim : Lim} (h : Step X nx lim Y) (k : Step Y ny lim Z) (hn : nx ≤ ny) : Step X nx lim Z where
  O := k.O.trans h.O
  os := k.os.trans h.os
  tape := k.tape.trans h.tape
  output := k.output.trans h.output
  size := Nat.le_trans h.size k.size
  ρ id ho := (h.ρ id ho).trans (k.ρ id (ho.mono hn))
  mine b o hb hm := h.mine b o hb (k.mine b o (Nat.lt_of_lt_of_le hb h.size) hm)
  cell b o hb hm := (k.cell b o (Nat.lt_of_lt_of_le hb h.size) (fun hy => hm (h.mine b o hb hy))).trans (h.cell b o hb hm)
  block b hb hm := (k.block b (Nat.lt_of_lt_of_le hb h.size) (fun o hy => hm o (h.mine b o hb hy))).trans (h.block b hb hm)
  frz a := (k.frz a).trans (h.frz a)

theorem Step.keeps {X X' : Cx} {nx : Nat} {lim : Lim} (h : Step X nx lim X') : ∀ b o v, X.w.cell? ⟨b, o, none⟩ = some v → X.free b o → X'.w.cell? ⟨b, o, none⟩ = some v ∧ X'.free b o := by
  intro b o v hc hf
  have hb := cell_lt hc
  exact ⟨by rw [h.cell b o hb hf.2]; exact hc, by rw [h.O]; exact hf.1, fun hm => hf.2 (h.mine b o hb hm)⟩

/-- a slot's value, and that the objects that it names are none that are about to be made -/
def RO (X : Cx) (nx : Nat) (lim : Lim) (d : D C) (v : Value) : Prop := RV T X d v ∧ ∀ id ∈ d.refs, old nx lim id

variable {T} (L : Laws T)

include L in
theorem R.step {X X' : Cx} {nx : Nat} {lim : Lim} (s : Step X nx lim X') {m : Bool} {d : D C} {vs : List Value} (h : R T X m d vs) (hr : ∀ id ∈ d.refs, old nx lim id) : R T X' m d vs :=
  h.mono T L.encRefs s.keeps fun id hi => s.ρ id (hr id hi)

include L in
theorem RO.step {X X' : Cx} {nx nx' : Nat} {lim : Lim} (s : Step X nx lim X') {d : D C} {v : Value} (h : RO T X nx lim d v) (hn : nx ≤ nx') : RO T X' nx' lim d v :=
  ⟨h.1.mono T L.encRefs s.keeps fun id hi => s.ρ id (h.2 id hi), fun id hi => (h.2 id hi).mono hn⟩

theorem Cx.at.step {X X' : Cx} {nx : Nat} {lim : Lim} (s : Step X nx lim X') {b off : Nat} {cs : List Value} (h : X.at b off cs) : X'.at b off cs :=
  fun j v hj => s.keeps _ _ _ (h j v hj).1 (h j v hj).2

/-- what a slot holds -/
def EnvOK (T : Tab C) (X : Cx) (nx : Nat) (lim : Lim) (env : Env C) (tmps : Array Value) : Prop := ∀ t, RO T X nx lim (eget env t) (tmps.getD t undef)

theorem refs_top : (D.top : D C).refs = [] := rfl

include L in
theorem EnvOK.step {X X' : Cx} {nx nx' : Nat} {lim : Lim} (s : Step X nx lim X') {env : Env C} {tmps : Array Value} (h : EnvOK T X nx lim env tmps) (hn : nx ≤ nx') : EnvOK T X' nx' lim env tmps :=
  fun t => (h t).step L s hn

namespace Pg
/-- a run: what it gives, the objects behind it, the next number, what was touched -/
def Ex {α : Type} (e : Lv) (p : Pg C α) (h : Heap C) (n : Nat) (a : α) (h' : Heap C) (n' : Nat) (t : Tr) : Prop :=
  p.run e h n [] (fun a h n t => some (a, h, n, t)) = some (a, h', n', t)

theorem run_eq {α : Type} (p : Pg C α) : ∀ {β : Type} (e : Lv) (h : Heap C) (n : Nat) (l : Tr) (k : α → Heap C → Nat → Tr → Option β),
    p.run e h n l k = (p.run e h n [] (fun a h n t => some (a, h, n, t))).bind fun r => k r.1 r.2.1 r.2.2.1 (r.2.2.2 ++ l) := by
  induction p with
  | ret a => intro β e h n l k; simp [run]
  | fail => intro β e h n l k; simp [run]
  | br b x y ix iy => intro β e h n l k; cases b <;> simp only [run, cond_true, cond_false] <;> first | exact ix e h n l k | exact iy e h n l k
  | rd id f ih =>
    intro β e h n l k
    simp only [run]
    cases h.get id with
    | none => rfl
    | some o =>
      simp only
      rw [ih o e h n ((id, false) :: l) k, ih o e h n [(id, false)]]
      simp [Option.bind_assoc]
  | wr id o f ih =>
    intro β e h n l k
    simp only [run]
    cases h.get id with
    | none => rfl
    | some _ =>
      simp only
      rw [ih e _ n ((id, true) :: l) k, ih e _ n [(id, true)]]
      simp [Option.bind_assoc]
  | nw o f ih =>
    intro β e h n l k
    simp only [run]
    rw [ih n e _ _ ((n, true) :: l) k, ih n e _ _ [(n, true)]]
    simp [Option.bind_assoc]
  | dl id f ih =>
    intro β e h n l k
    simp only [run]
    cases h.get id with
    | none => rfl
    | some _ =>
      simp only
      rw [ih e _ n ((id, true) :: l) k, ih e _ n [(id, true)]]
      simp [Option.bind_assoc]
  | cnt f ih => intro β e h n l k; simp only [run]; exact ih _ _ e h n l k
  | upto m f ih =>
    intro β e h n l k
    simp only [run]
    cases Nat.ble n m with
    | true => exact ih e h m l k
    | false => rfl
  | gc lo keep f ih =>
    intro β e h n l k
    simp only [run]
    cases Nat.ble e.2 lo with
    | true => exact ih e _ n l k
    | false => rfl
  | sub p f ip ik =>
    intro β e h n l k
    simp only [run]
    rw [ip (e.1 + 1, n) h n [], ip (e.1 + 1, n) h n [] (fun a h n t => (f a t).run e h n (t ++ []) fun a h n t => some (a, h, n, t))]
    simp only [List.append_nil, Option.bind_assoc]
    congr 1
    funext r
    rw [ik r.1 r.2.2.2 e r.2.1 r.2.2.1 (r.2.2.2 ++ l) k, ik r.1 r.2.2.2 e r.2.1 r.2.2.1 r.2.2.2]
    simp [Option.bind_assoc]

theorem run_some {α β : Type} {p : Pg C α} {e : Lv} {h : Heap C} {n : Nat} {l : Tr} {k : α → Heap C → Nat → Tr → Option β} {b : β} (hr : p.run e h n l k = some b) :
    ∃ a h' n' t, Ex e p h n a h' n' t ∧ k a h' n' (t ++ l) = some b := by
  rw [run_eq] at hr
  cases hx : p.run e h n [] (fun a h n t => some (a, h, n, t)) with
  | none => simp [hx] at hr
  | some r => obtain ⟨a, h', n', t⟩ := r; simp [hx] at hr; exact ⟨a, h', n', t, hx, hr⟩

variable {α β : Type} {e : Lv} {h h' : Heap C} {n n' : Nat} {t : Tr}

theorem Ex.ret {a a' : α} (hx : Ex e (.ret a : Pg C α) h n a' h' n' t) : a' = a ∧ h' = h ∧ n' = n ∧ t = [] := by
  simp [Ex, run] at hx; obtain ⟨rfl, rfl, rfl, rfl⟩ := hx; exact ⟨rfl, rfl, rfl, rfl⟩
theorem Ex.fail {a : α} (hx : Ex e (.fail : Pg C α) h n a h' n' t) : False := by simp [Ex, run] at hx
theorem Ex.br {b : Bool} {x y : Pg C α} {a : α} (hx : Ex e (.br b x y) h n a h' n' t) : (b = true ∧ Ex e x h n a h' n' t) ∨ (b = false ∧ Ex e y h n a h' n' t) := by
  cases b
  · exact .inr ⟨rfl, by simpa [Ex, run] using hx⟩
  · exact .inl ⟨rfl, by simpa [Ex, run] using hx⟩
theorem Ex.rd {id : Nat} {f : Obj C → Pg C α} {a : α} (hx : Ex e (.rd id f) h n a h' n' t) : ∃ o t', h.get id = some o ∧ Ex e (f o) h n a h' n' t' ∧ t = t' ++ [(id, false)] := by
  unfold Ex at hx; simp only [run] at hx
  cases hg : h.get id with
  | none => simp [hg] at hx
  | some o =>
    simp only [hg] at hx
    obtain ⟨a1, h1, n1, t1, h2, h3⟩ := run_some hx
    simp at h3; obtain ⟨rfl, rfl, rfl, rfl⟩ := h3
    exact ⟨o, t1, rfl, h2, rfl⟩
theorem Ex.wr {id : Nat} {o : Obj C} {f : Pg C α} {a : α} (hx : Ex e (.wr id o f) h n a h' n' t) : ∃ o' t', h.get id = some o' ∧ Ex e f (h.put id o) n a h' n' t' ∧ t = t' ++ [(id, true)] := by
  unfold Ex at hx; simp only [run] at hx
  cases hg : h.get id with
  | none => simp [hg] at hx
  | some o' =>
    simp only [hg] at hx
    obtain ⟨a1, h1, n1, t1, h2, h3⟩ := run_some hx
    simp at h3; obtain ⟨rfl, rfl, rfl, rfl⟩ := h3
    exact ⟨o', t1, rfl, h2, rfl⟩
theorem Ex.nw {o : Obj C} {f : Nat → Pg C α} {a : α} (hx : Ex e (.nw o f) h n a h' n' t) : ∃ t', Ex e (f n) ((n, o) :: h) (n + 1) a h' n' t' ∧ t = t' ++ [(n, true)] := by
  unfold Ex at hx; simp only [run] at hx
  obtain ⟨a1, h1, n1, t1, h2, h3⟩ := run_some hx
  simp at h3; obtain ⟨rfl, rfl, rfl, rfl⟩ := h3
  exact ⟨t1, h2, rfl⟩
theorem Ex.dl {id : Nat} {f : Pg C α} {a : α} (hx : Ex e (.dl id f) h n a h' n' t) : ∃ o' t', h.get id = some o' ∧ Ex e f (h.del id) n a h' n' t' ∧ t = t' ++ [(id, true)] := by
  unfold Ex at hx; simp only [run] at hx
  cases hg : h.get id with
  | none => simp [hg] at hx
  | some o' =>
    simp only [hg] at hx
    obtain ⟨a1, h1, n1, t1, h2, h3⟩ := run_some hx
    simp at h3; obtain ⟨rfl, rfl, rfl, rfl⟩ := h3
    exact ⟨o', t1, rfl, h2, rfl⟩
theorem Ex.cnt {f : Nat → Nat → Pg C α} {a : α} (hx : Ex e (.cnt f) h n a h' n' t) : Ex e (f n (span e.1)) h n a h' n' t := by simpa [Ex, run] using hx
theorem Ex.upto {m : Nat} {f : Pg C α} {a : α} (hx : Ex e (.upto m f) h n a h' n' t) : n ≤ m ∧ Ex e f h m a h' n' t := by
  unfold Ex at hx; simp only [run] at hx
  cases hb : Nat.ble n m with
  | true => simp only [hb, cond_true] at hx; exact ⟨Nat.le_of_ble_eq_true hb, hx⟩
  | false => simp [hb] at hx
theorem Ex.gc {lo : Nat} {keep : List Nat} {f : Pg C α} {a : α} (hx : Ex e (.gc lo keep f) h n a h' n' t) : e.2 ≤ lo ∧ Ex e f (h.drop lo n keep) n a h' n' t := by
  unfold Ex at hx; simp only [run] at hx
  cases hb : Nat.ble e.2 lo with
  | true => simp only [hb, cond_true] at hx; exact ⟨Nat.le_of_ble_eq_true hb, hx⟩
  | false => simp [hb] at hx
theorem Ex.sub {p : Pg C (Env C)} {f : Env C → Tr → Pg C α} {a : α} (hx : Ex e (.sub p f) h n a h' n' t) :
    ∃ v h1 n1 t1 t2, Ex (e.1 + 1, n) p h n v h1 n1 t1 ∧ Ex e (f v t1) h1 n1 a h' n' t2 ∧ t = t2 ++ t1 := by
  unfold Ex at hx; simp only [run] at hx
  obtain ⟨a1, h1, n1, t1, h2, h3⟩ := run_some hx
  simp only [List.append_nil] at h3
  obtain ⟨a2, h4, n4, t4, h5, h6⟩ := run_some h3
  simp at h6; obtain ⟨rfl, rfl, rfl, rfl⟩ := h6
  exact ⟨a1, h1, n1, t1, t4, h2, h5, rfl⟩

theorem run_bind {γ : Type} (p : Pg C α) (f : α → Pg C β) : ∀ (e : Lv) (h : Heap C) (n : Nat) (l : Tr) (k : β → Heap C → Nat → Tr → Option γ),
    (p.bind f).run e h n l k = p.run e h n l fun a h n l => (f a).run e h n l k := by
  induction p with
  | ret a => intro e h n l k; rfl
  | fail => intro e h n l k; rfl
  | br b x y ix iy => intro e h n l k; cases b <;> simp only [bind, run, cond_true, cond_false] <;> first | exact ix f e h n l k | exact iy f e h n l k
  | rd id g ih => intro e h n l k; simp only [bind, run]; cases h.get id <;> simp only <;> exact ih _ f e h n _ k
  | wr id o g ih => intro e h n l k; simp only [bind, run]; cases h.get id <;> simp only <;> exact ih f e _ n _ k
  | nw o g ih => intro e h n l k; simp only [bind, run]; exact ih _ f e _ _ _ k
  | dl id g ih => intro e h n l k; simp only [bind, run]; cases h.get id <;> simp only <;> exact ih f e _ n _ k
  | cnt g ih => intro e h n l k; simp only [bind, run]; exact ih _ _ f e h n l k
  | upto m g ih => intro e h n l k; simp only [bind, run]; cases Nat.ble n m <;> simp only [cond_true, cond_false]; exact ih f e h m l k
  | gc lo keep g ih => intro e h n l k; simp only [bind, run]; cases Nat.ble e.2 lo <;> simp only [cond_true, cond_false]; exact ih f e _ n l k
  | sub p g ip ik => intro e h n l k; simp only [bind, run]; congr 1; funext a h n t; exact ik _ _ f e _ _ _ k

theorem Ex.bind {p : Pg C α} {f : α → Pg C β} {b : β} (hx : Ex e (p.bind f) h n b h' n' t) :
    ∃ a h1 n1 t1 t2, Ex e p h n a h1 n1 t1 ∧ Ex e (f a) h1 n1 b h' n' t2 ∧ t = t2 ++ t1 := by
  unfold Ex at hx
  rw [run_bind] at hx
  obtain ⟨a1, h1, n1, t1, h2, h3⟩ := run_some hx
  simp only [List.append_nil] at h3
  obtain ⟨a2, h4, n4, t4, h5, h6⟩ := run_some h3
  simp at h6; obtain ⟨rfl, rfl, rfl, rfl⟩ := h6
  exact ⟨a1, h1, n1, t1, t4, h2, h5, rfl⟩

theorem Ex.ofOpt {o : Option α} {a : α} (hx : Ex e (.ofOpt o : Pg C α) h n a h' n' t) : o = some a ∧ h' = h ∧ n' = n ∧ t = [] := by
  cases o with
  | none => exact (Ex.fail hx).elim
  | some b => obtain ⟨rfl, h1, h2, h3⟩ := Ex.ret hx; exact ⟨rfl, h1, h2, h3⟩

theorem Ex.le {p : Pg C α} : ∀ {e : Lv} {h : Heap C} {n : Nat} {a : α} {h' : Heap C} {n' : Nat} {t : Tr}, Ex e p h n a h' n' t → n ≤ n' := by
  induction p with
  | ret a => intro e h n a' h' n' t hx; have := Ex.ret hx; omega
  | fail => intro e h n a' h' n' t hx; exact (Ex.fail hx).elim
  | br b x y ix iy => intro e h n a h' n' t hx; rcases Ex.br hx with ⟨_, h1⟩ | ⟨_, h1⟩ <;> first | exact ix h1 | exact iy h1
  | rd id f ih => intro e h n a h' n' t hx; obtain ⟨_, _, _, h1, _⟩ := Ex.rd hx; exact ih _ h1
  | wr id o f ih => intro e h n a h' n' t hx; obtain ⟨_, _, _, h1, _⟩ := Ex.wr hx; exact ih h1
  | nw o f ih => intro e h n a h' n' t hx; obtain ⟨_, h1, _⟩ := Ex.nw hx; have := ih _ h1; omega
  | dl id f ih => intro e h n a h' n' t hx; obtain ⟨_, _, _, h1, _⟩ := Ex.dl hx; exact ih h1
  | cnt f ih => intro e h n a h' n' t hx; exact ih _ _ (Ex.cnt hx)
  | upto m f ih => intro e h n a h' n' t hx; obtain ⟨h0, h1⟩ := Ex.upto hx; have := ih h1; omega
  | gc lo keep f ih => intro e h n a h' n' t hx; exact ih (Ex.gc hx).2
  | sub p f ip ik => intro e h n a h' n' t hx; obtain ⟨_, _, _, _, _, h1, h2, _⟩ := Ex.sub hx; have := ip h1; have := ik _ _ h2; omega
end Pg
end
end Go.Ev
