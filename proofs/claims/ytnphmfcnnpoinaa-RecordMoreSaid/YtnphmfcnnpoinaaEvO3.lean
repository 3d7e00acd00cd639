/-
  Loops, told by a state, its place in the slots and the objects, and what the loop comes to from it, as a tree of tests.
-/
import Derived.Test.YtnphmfcnnpoinaaEvO2
namespace Go.Ev
set_option linter.unusedVariables false
set_option linter.unusedSimpArgs false

section
variable {C : Cdc} {P : Program} {T : Tab C} {Φ : Fns C}
open Pg (Ex)

structure LoopR (C : Cdc) (σ : Type) where
  k : Nat
  canon : σ → Env C
  objs : σ → List (Obj C)
  fin : σ → RT C
  Inv : σ → Prop
  μ : σ → Nat

def LedR {σ : Type} (S : LoopR C σ) (s : σ) (r : (Ev.X × Env C) × List (Option (Obj C))) : Prop :=
  (r.1.1 = .normal ∧ ∃ s', S.Inv s' ∧ S.μ s' < S.μ s ∧ (S.fin s').val = (S.fin s).val ∧ r.1.2 = S.canon s' ∧ r.2 = (S.objs s').map some) ∨ (r.1.1 ≠ .normal ∧ ∃ os, (S.fin s).val = some (r.1, os) ∧ r.2 = os.map some)

/-- every leaf names the loop's objects alone -/
def RT.refsOK (k : Nat) : RT C → Prop
  | .fail => False
  | .leaf _ env os => RefsOK k env os
  | .br _ l r => l.refsOK k ∧ r.refsOK k
theorem RT.refsOK_val {k : Nat} : ∀ {t : RT C}, t.refsOK k → ∃ x env os, t.val = some ((x, env), os) ∧ RefsOK k env os
  | .leaf x env os, h => ⟨x, env, os, rfl, h⟩
  | .br b l r, h => by
    cases b with
    | true => exact RT.refsOK_val (t := l) h.1
    | false => exact RT.refsOK_val (t := r) h.2

def LoopR.toO {σ : Type} (S : LoopR C σ) : LoopO C σ where
  k := S.k
  canon := S.canon
  objs := S.objs
  fin q := match (S.fin q).val with
    | some r => r.1
    | none => (.ret, [])
  fobjs q := match (S.fin q).val with
    | some r => r.2
    | none => []
  Inv := S.Inv
  μ := S.μ

def resR {σ : Type} (S : LoopR C σ) (d : Env C → List (Obj C) → Option (Bool × σ)) (env : Env C) (os : List (Obj C)) : RT C := match d env os with
  | some (b, q) => .br b (S.fin q) .fail
  | none => .fail
def sumR (T : Tab C) (fs : List Fnd) (slots : List Nat) {σ : Type} (S : LoopR C σ) (d : Env C → List (Obj C) → Option (Bool × σ)) : Env C → Pg C (Ev.X × Env C) := sumO T fs slots (resR S d)

theorem FLaws.addRoundsR (K : PLaws P T) (F : FLaws P T Φ) {g key : Nat} (hkeys : keysB (loopsOf Φ g) = true) {σ : Type} (S : LoopR C σ) (n : Nat) (kc kf : List Nat) (fs : List Fnd) (slots : List Nat) (d : Env C → List (Obj C) → Option (Bool × σ))
    (hr : ∀ q, S.Inv q → RefsOK S.k (S.canon q) (S.objs q) ∧ (S.fin q).refsOK S.k ∧ Leaf (rndO T Φ g key n S.k kc kf (S.canon q) (S.objs q)) (LedR S q))
    (hd : ∀ env os b q, d env os = some (b, q) → b = true → S.Inv q ∧ S.canon q = env ∧ S.objs q = os) : FLaws P T (Φ.addLoop g key (sumR T fs slots S d)) := by
  refine F.addRoundsO K hkeys S.toO n kc kf fs slots (resR S d) (fun q hI => ?_) ?_
  · obtain ⟨h1, h2, r, h3, h4⟩ := hr q hI
    obtain ⟨x, env, os, hv, hok⟩ := RT.refsOK_val h2
    refine ⟨h1, by simp only [LoopR.toO, hv]; exact hok, r, h3, ?_⟩
    rcases h4 with ⟨a1, s', a2, a3, a4, a5, a6⟩ | ⟨a1, os', a2, a3⟩
    · exact .inl ⟨a1, s', a2, a3, by simp only [LoopR.toO, a4], by simp only [LoopR.toO, a4], a5, a6⟩
    · exact .inr ⟨a1, by simp only [LoopR.toO, a2], by simp only [LoopR.toO, a2]; exact a3⟩
  · intro env0 os x env' os' h
    unfold resR at h
    split at h
    · rename_i b q hq
      cases b with
      | false => simp [RT.val] at h
      | true =>
        obtain ⟨h1, h2, h3⟩ := hd _ _ _ _ hq rfl
        simp only [RT.val, cond_true] at h
        exact ⟨q, h1, fun p hp => by rw [← h2]; exact hp, h3.symm, by simp only [LoopR.toO, h], by simp only [LoopR.toO, h]⟩
    · simp [RT.val] at h

/-- a test that is worked out on the spot -/
def staticD {α : Type} (b : Bool) (x : α) : Option α := bif b then some x else none
theorem staticD_some {α : Type} {b : Bool} {x y : α} (h : staticD b x = some y) : b = true ∧ x = y := by
  cases b with
  | false => cases h
  | true => exact ⟨rfl, Option.some.inj h⟩

theorem leafR_go {σ : Type} {S : LoopR C σ} {s : σ} {env : Env C} {os : List (Option (Obj C))} (s' : σ) (h1 : S.Inv s') (h2 : S.μ s' < S.μ s) (h3 : (S.fin s').val = (S.fin s).val) (h4 : env = S.canon s') (h5 : os = (S.objs s').map some) : Leaf (some ((Ev.X.normal, env), os)) (LedR S s) :=
  leaf_some.2 (.inl ⟨rfl, s', h1, h2, h3, h4, h5⟩)
theorem leafR_exit {σ : Type} {S : LoopR C σ} {s : σ} {i : Nat} {env : Env C} {os : List (Option (Obj C))} (os' : List (Obj C)) (h1 : (S.fin s).val = some ((.exit i, env), os')) (h2 : os = os'.map some) : Leaf (some ((Ev.X.exit i, env), os)) (LedR S s) :=
  leaf_some.2 (.inr ⟨by simp, os', h1, h2⟩)
theorem leafR_ret {σ : Type} {S : LoopR C σ} {s : σ} {env : Env C} {os : List (Option (Obj C))} (os' : List (Obj C)) (h1 : (S.fin s).val = some ((.ret, env), os')) (h2 : os = os'.map some) : Leaf (some ((Ev.X.ret, env), os)) (LedR S s) :=
  leaf_some.2 (.inr ⟨by simp, os', h1, h2⟩)
end

/-! ### tests that are settled: 'simp (disch := omega) only [beqT, ..]' -/
theorem ibeqT {a b : Int} (h : a = b) : (a == b) = true := by simp [h]
theorem ibeqF {a b : Int} (h : ¬ a = b) : (a == b) = false := by simp [h]
theorem ibneT {a b : Int} (h : ¬ a = b) : (a != b) = true := by simp [h]
theorem ibneF {a b : Int} (h : a = b) : (a != b) = false := by simp [h]
theorem nbeqT {a b : Nat} (h : a = b) : Nat.beq a b = true := by simp [h]
theorem sizeT {n b : Nat} (h : n * b ≤ 1099511627776) : sizeOK n b = true := by simp [sizeOK, h]
theorem wrapT {n : Int} (h : -9223372036854775808 ≤ n ∧ n ≤ 9223372036854775807) : IntKind.i64.wrap n = n := wrap_id h.1 h.2
end Go.Ev
