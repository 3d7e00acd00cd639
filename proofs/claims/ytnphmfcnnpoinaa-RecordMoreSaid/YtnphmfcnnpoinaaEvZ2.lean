/-
  Loops by the trees of their rounds.
-/
import Derived.Test.YtnphmfcnnpoinaaEvY
import Derived.KernelRfl
namespace Go.Ev
set_option linter.unusedVariables false
set_option linter.unusedSimpArgs false

def Leaf {α : Type} (o : Option α) (p : α → Prop) : Prop := ∃ r, o = some r ∧ p r
theorem leaf_cond {α : Type} {c : Bool} {x y : Option α} {p : α → Prop} : Leaf (cond c x y) p ↔ (c = true → Leaf x p) ∧ (c = false → Leaf y p) := by
  cases c <;> simp
theorem leaf_some {α : Type} {a : α} {p : α → Prop} : Leaf (some a) p ↔ p a := by simp [Leaf]
theorem leaf_none {α : Type} {p : α → Prop} : Leaf (none : Option α) p ↔ False := by simp [Leaf]

section
variable {C : Cdc} {P : Program} {T : Tab C} {Φ : Fns C}
open Pg (Ex)

def loopsOf (Φ : Fns C) (g : FuncId) : List Code := match Φ.fn g with
  | some fn => match fn.body with
    | some b => loops b
    | none => []
  | none => []
def bodyAt (Φ : Fns C) (g key : Nat) : Code := ((loopsOf Φ g).find? fun b => Nat.beq (firstRegion b) key).getD .skip

def freshKey (k : Nat) : List Code → Bool
  | [] => true
  | b :: l => !(Nat.beq (firstRegion b) k) && freshKey k l
def keysB : List Code → Bool
  | [] => true
  | b :: l => freshKey (firstRegion b) l && keysB l
theorem freshKey_spec {k : Nat} : ∀ {l : List Code}, freshKey k l = true → ∀ b ∈ l, firstRegion b ≠ k
  | [], _, b, hb => by simp at hb
  | c :: l, h, b, hb => by
    simp only [freshKey, Bool.and_eq_true, Bool.not_eq_true'] at h
    simp only [List.mem_cons] at hb
    rcases hb with rfl | hb
    · exact Nat.ne_of_beq_eq_false h.1
    · exact freshKey_spec h.2 b hb
theorem keysB_spec {k : Nat} : ∀ {l : List Code}, keysB l = true → ∀ b ∈ l, firstRegion b = k → l.find? (fun b => Nat.beq (firstRegion b) k) = some b
  | [], _, b, hb, _ => by simp at hb
  | c :: l, h, b, hb, hk => by
    simp only [keysB, Bool.and_eq_true] at h
    simp only [List.mem_cons] at hb
    rcases hb with rfl | hb
    · simp [hk]
    · have hne := freshKey_spec h.1 b hb
      have : Nat.beq (firstRegion c) k = false := beqF (by rw [← hk]; exact fun e => hne e.symm)
      simp only [List.find?_cons, this]
      exact keysB_spec h.2 b hb hk

theorem bodyAt_eq {g key : Nat} (hk : keysB (loopsOf Φ g) = true) {fn : Func} {body b : Code} (hf : Φ.fn g = some fn) (hb : fn.body = some body) (hm : b ∈ loops body) (hkey : firstRegion b = key) : bodyAt Φ g key = b := by
  have : loopsOf Φ g = loops body := by simp [loopsOf, hf, hb]
  rw [bodyAt, this, keysB_spec (by rw [← this]; exact hk) b hm hkey]
  rfl

/-- the slots that are asked for -/
def sel : List Nat → Env C → Env C
  | [], _ => []
  | k :: l, env => (k, eget env k) :: sel l env
def cut (kc kf : List Nat) (r : Ev.X × Env C) : Ev.X × Env C := match r.1 with
  | .normal => (.normal, sel kc r.2)
  | x => (x, sel kf r.2)
theorem sel_sub : ∀ (l : List Nat) (env : Env C), Sub env (sel l env)
  | [], env, p, hp => by simp [sel] at hp
  | k :: l, env, p, hp => by
    simp only [sel, List.mem_cons] at hp
    rcases hp with rfl | hp
    · rfl
    · exact sel_sub l env p hp

/-- a round: how it is left, the slots that are asked for ('kc': if it goes on; 'kf': if not) -/
def rnd (T : Tab C) (Φ : Fns C) (g key n : Nat) (kc kf : List Nat) (env : Env C) : Option (Ev.X × Env C) := (evC T Φ n g (bodyAt Φ g key) env).run (0, 0) [] 0 [] fun a _ _ _ => some (cut kc kf a)

/-- where a round may lead -/
def Led {σ : Type} (S : LoopSt C σ) (s : σ) (r : Ev.X × Env C) : Prop :=
  (r.1 = .normal ∧ ∃ s', S.Inv s' ∧ S.μ s' < S.μ s ∧ S.fin s' = S.fin s ∧ r.2 = S.canon s') ∨ (r.1 ≠ .normal ∧ r = S.fin s)

theorem FLaws.addRounds (K : PLaws P T) (F : FLaws P T Φ) {g key : Nat} (hkeys : keysB (loopsOf Φ g) = true) {s : Env C → Pg C (Ev.X × Env C)} {σ : Type} (S : LoopSt C σ) (n : Nat) (kc kf : List Nat)
    (hr : ∀ q, S.Inv q → (∀ p ∈ S.canon q, D.refs p.2 = []) ∧ (∀ p ∈ (S.fin q).2, D.refs p.2 = []) ∧ Leaf (rnd T Φ g key n kc kf (S.canon q)) (Led S q))
    (hs : ∀ e h nx env x env' h' nx' tr, Ex e (s env) h nx (x, env') h' nx' tr → h' = h ∧ nx' = nx ∧ ∃ q, S.Inv q ∧ Sub env (S.canon q) ∧ S.fin q = (x, env')) : FLaws P T (Φ.addLoop g key s) := by
  refine F.addLoop (loop_pure K F (S := S) (fun fn body b hf hb hm hkey q hI => ?_) hs)
  obtain ⟨h1, h2, r, h3, h4⟩ := hr q hI
  rw [rnd, bodyAt_eq hkeys hf hb hm hkey] at h3
  obtain ⟨⟨x, env'⟩, h', nx', tr, h5, h6⟩ := Pg.run_some h3
  simp only [Option.some.injEq] at h6
  refine ⟨h1, h2, n, x, env', h', nx', tr, h5, ?_⟩
  subst h6
  rcases h4 with ⟨h4, s', a1, a2, a3, a4⟩ | ⟨h4, h7⟩
  · cases x with
    | normal => exact .inl ⟨rfl, s', a1, a2, a3, by rw [← a4]; exact sel_sub _ _⟩
    | exit id => simp [cut] at h4
    | ret => simp [cut] at h4
  · cases x with
    | normal => simp [cut] at h4
    | exit id => exact .inr ⟨by simp, by rw [← h7]; rfl, by rw [← h7]; exact sel_sub _ _⟩
    | ret => exact .inr ⟨by simp, by rw [← h7]; rfl, by rw [← h7]; exact sel_sub _ _⟩
end
end Go.Ev

namespace Go.Ev
/-! ### Small laws for rounds -/
theorem wrap_id {n : Int} (h1 : -9223372036854775808 ≤ n) (h2 : n ≤ 9223372036854775807) : IntKind.i64.wrap n = n := by
  simp only [IntKind.wrap, IntKind.bits, IntKind.signed]
  simp
  omega

/-- each of a row as asked, by itself and by the one ahead of it -/
def eachB {α : Type} (one : α → Bool) (two : α → α → Bool) : Option α → List α → Bool
  | _, [] => true
  | p, x :: l => one x && (match p with | none => true | some y => two y x) && eachB one two (some x) l

def ahead {α : Type} (l : List α) (i : Nat) : Option α := match i with
  | 0 => none
  | i + 1 => l[i]?
end Go.Ev
