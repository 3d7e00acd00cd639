/-
  What a value of the evaluator stands for in the model's world: the relation R, and how it is kept.
-/
import Derived.Test.YtnphmfcnnpoinaaEvA
import Derived.Laws.CopyRow
import Derived.Laws.Append
import Derived.Below
namespace Go.Ev
set_option linter.unusedVariables false
set_option linter.unusedSimpArgs false

section
variable {C : Cdc} (T : Tab C)

def D.isRow : D C → Bool
  | .anil | .acons _ _ | .arr _ _ _ => true
  | _ => false

def lenV : Value → Nat
  | .slice _ n _ => n
  | _ => 0

/-- where an object is: a variable's block and type; a slice's header, its elements' type, the cells that are its own -/
inductive Loc where
  | var (b : Nat) (t : TypeId)
  | vec (v : Value) (e : TypeId) (b lo hi : Nat)

def Loc.owns : Loc → Nat → Nat → Prop
  | .var b _, c, _ => c = b
  | .vec _ _ b lo hi, c, o => c = b ∧ lo ≤ o ∧ o < hi

structure Cx where
  w : World
  ρ : Nat → Option Loc
  O : Nat → Nat → Prop

def Cx.mine (X : Cx) (b o : Nat) : Prop := ∃ id l, X.ρ id = some l ∧ l.owns b o
def Cx.free (X : Cx) (b o : Nat) : Prop := ¬ X.O b o ∧ ¬ X.mine b o

/-- the cells from a place on, which nobody turns -/
def Cx.at (X : Cx) (b off : Nat) (cs : List Value) : Prop :=
  ∀ j v, cs[j]? = some v → X.w.cell? ⟨b, off + j, none⟩ = some v ∧ X.free b (off + j)

def sumSz : List TypeId → Nat
  | [] => 0
  | t :: ts => T.size t + sumSz ts

def offAt : TypeId → List Nat → Nat
  | _, [] => 0
  | t, i :: p => match T.ty t with
    | .struct fs => sumSz T (fs.take i) + offAt (fs.getD i 0) p
    | .arr _ e _ => i * T.size e + offAt e p
    | _ => 0

def okPath : TypeId → List Nat → Prop
  | _, [] => True
  | t, i :: p => match T.ty t with
    | .struct fs => i < fs.length ∧ okPath (fs.getD i 0) p
    | .arr n e _ => i < n ∧ okPath e p
    | _ => False

inductive R (X : Cx) : Bool → D C → List Value → Prop
  | bool (b : Bool) : R X false (.bool b) [.bool b]
  | int {k : IntKind} {n : Int} (h : k.min ≤ n ∧ n ≤ k.max) : R X false (.int k n) [.int k n]
  | str (s : List UInt8) : R X false (.str s) [.string ⟨⟨s⟩⟩]
  | anil : R X false .anil []
  | acons {d ds : D C} {c1 c2 : List Value} (h1 : R X false d c1) (h2 : R X false ds c2) : R X false (.acons d ds) (c1 ++ c2)
  | arr0 (t : C.Ty) : R X false (.arr t 0 []) []
  | arrS {t : C.Ty} {n : Nat} {x : C.A t} {l : List (C.A t)} {c1 c2 : List Value} (h1 : R X false (T.enc t x) c1) (h2 : R X false (.arr t n l) c2) : R X false (.arr t (n + 1) (x :: l)) (c1 ++ c2)
  | nils : R X false .nils [.slice none 0 0]
  | sl0 (t : C.Ty) (cap : Bool) (a : Option Addr) : R X false (.sl t cap []) [.slice a 0 0]
  | sl {t : C.Ty} {cap : Bool} {l : List (C.A t)} {b off cp : Nat} {cs : List Value} (ha : X.at b off cs) (h : R X false (.arr t l.length l) cs) (hc : l.length ≤ cp)
      (hcap : cap = true → cp = l.length) : R X false (.sl t cap l) [.slice (some ⟨b, off, none⟩) l.length cp]
  | vs {id n cp : Nat} {a : Option Addr} (h : ∀ v e b lo hi, X.ρ id = some (.vec v e b lo hi) → n ≤ lenV v ∧ (lenV v = n → v = .slice a n cp)) : R X false (.vs id n) [.slice a n cp]
  | ptr {id : Nat} {p : List Nat} {a : Addr} (h : ∀ b t, X.ρ id = some (.var b t) → okPath T t p ∧ a = ⟨b, offAt T t p, none⟩) : R X false (.ptr id p) [.pointer (some a)]
  | vptr {id n i : Nat} {p : List Nat} {a : Addr} (h : ∀ v e b lo hi, X.ρ id = some (.vec v e b lo hi) → n ≤ lenV v ∧
      (lenV v = n → ∃ b' off cp, v = .slice (some ⟨b', off, none⟩) n cp ∧ i < n ∧ okPath T e p ∧ a = ⟨b', off + i * T.size e + offAt T e p, none⟩)) : R X false (.vptr id n (i :: p)) [.pointer (some a)]
  | cptr {d : D C} {b off : Nat} {cs : List Value} (ha : X.at b off cs) (h : R X false d cs) : R X false (.cptr d) [.pointer (some ⟨b, off, none⟩)]
  | nilp : R X false .nilp [.pointer none]
  | fn {f : Nat} {caps : D C} {vs : List Value} (h : R X true caps vs) : R X false (.fn f caps) [.func (.func f) #[] ⟨vs⟩]
  | nilfn : R X false .nilfn [.nilFunc]
  | tup {ds : D C} {vs : List Value} (h : R X true ds vs) : R X false (.tup ds) [.tuple ⟨vs⟩]
  | top (v : Value) : R X false .top [v]
  | vnil : R X true .anil []
  | vrow {d ds : D C} {cs vs : List Value} (h : R X false d cs) (hr : d.isRow = true) (h2 : R X true ds vs) : R X true (.acons d ds) (.agg ⟨cs⟩ :: vs)
  | vone {d ds : D C} {v : Value} {vs : List Value} (h : R X false d [v]) (hr : d.isRow = false) (h2 : R X true ds vs) : R X true (.acons d ds) (v :: vs)

/-- a value of a slot -/
def RV (X : Cx) (d : D C) (v : Value) : Prop :=
  (d.isRow = true ∧ ∃ cs, R T X false d cs ∧ v = .agg ⟨cs⟩) ∨ (d.isRow = false ∧ R T X false d [v])

def Compat : Option Loc → Option Loc → Prop
  | _, none => True
  | some (.var b t), some l => l = .var b t
  | some (.vec v e _ _ _), some (.vec v' e' _ _ _) => e' = e ∧ lenV v ≤ lenV v' ∧ (lenV v = lenV v' → v' = v)
  | _, _ => False

theorem Compat.refl (l : Option Loc) : Compat l l := by
  cases l with
  | none => trivial
  | some l => cases l <;> simp [Compat]

theorem Compat.trans {a b c : Option Loc} (h : Compat a b) (k : Compat b c) : Compat a c := by
  cases c with
  | none => simp [Compat]
  | some c =>
    cases b with
    | none => simp [Compat] at k
    | some b =>
      cases a with
      | none => simp [Compat] at h
      | some a =>
        cases a <;> cases b <;> cases c <;> simp_all [Compat]
        obtain ⟨_, h1, h2⟩ := h
        obtain ⟨_, k1, k2⟩ := k
        refine ⟨by omega, fun e => ?_⟩
        have e1 := h2 (by omega)
        have e2 := k2 (by omega)
        rw [e2, e1]

theorem R.mono {X X' : Cx} (he : ∀ t x, (T.enc t x).refs = []) (hX : ∀ b o v, X.w.cell? ⟨b, o, none⟩ = some v → X.free b o → X'.w.cell? ⟨b, o, none⟩ = some v ∧ X'.free b o)
    {m : Bool} {d : D C} {vs : List Value} (h : R T X m d vs) : (∀ id ∈ d.refs, Compat (X.ρ id) (X'.ρ id)) → R T X' m d vs := by
  induction h with
  | bool b => exact fun _ => .bool b
  | int h => exact fun _ => .int h
  | str s => exact fun _ => .str s
  | anil => exact fun _ => .anil
  | acons _ _ i1 i2 =>
    intro hr
    simp only [D.refs, List.mem_append] at hr
    exact .acons (i1 fun id h => hr id (.inl h)) (i2 fun id h => hr id (.inr h))
  | arr0 t => exact fun _ => .arr0 t
  | arrS _ _ i1 i2 => exact fun _ => .arrS (i1 (by simp [he])) (i2 (by simp [D.refs]))
  | nils => exact fun _ => .nils
  | sl0 t c a => exact fun _ => .sl0 t c a
  | sl ha _ hc hcap ih => exact fun _ => .sl (fun j v hj => hX _ _ _ (ha j v hj).1 (ha j v hj).2) (ih (by simp [D.refs])) hc hcap
  | @vs id n cp a h =>
    intro hr
    refine .vs fun v e b lo hi hv => ?_
    have hc := hr id (by simp [D.refs])
    rw [hv] at hc
    cases ho : X.ρ id with
    | none => rw [ho] at hc; simp [Compat] at hc
    | some l =>
      rw [ho] at hc
      cases l with
      | var b t => simp [Compat] at hc
      | vec v0 e0 b0 lo0 hi0 =>
        simp only [Compat] at hc
        have := h _ _ _ _ _ ho
        refine ⟨by omega, fun hl => ?_⟩
        have e1 := hc.2.2 (by omega)
        rw [e1]
        exact this.2 (by omega)
  | @ptr id p a h =>
    intro hr
    refine .ptr fun b t hv => ?_
    have hc := hr id (by simp [D.refs])
    rw [hv] at hc
    cases ho : X.ρ id with
    | none => rw [ho] at hc; simp [Compat] at hc
    | some l =>
      rw [ho] at hc
      cases l with
      | var b0 t0 =>
        simp only [Compat, Loc.var.injEq] at hc
        obtain ⟨rfl, rfl⟩ := hc
        exact h _ _ ho
      | vec v0 e0 b0 lo0 hi0 => simp [Compat] at hc
  | @vptr id n i p a h =>
    intro hr
    refine .vptr fun v e b lo hi hv => ?_
    have hc := hr id (by simp [D.refs])
    rw [hv] at hc
    cases ho : X.ρ id with
    | none => rw [ho] at hc; simp [Compat] at hc
    | some l =>
      rw [ho] at hc
      cases l with
      | var b t => simp [Compat] at hc
      | vec v0 e0 b0 lo0 hi0 =>
        simp only [Compat] at hc
        have := h _ _ _ _ _ ho
        refine ⟨by omega, fun hl => ?_⟩
        have e1 := hc.2.2 (by omega)
        rw [e1, hc.1]
        exact this.2 (by omega)
  | cptr ha _ ih =>
    intro hr
    exact .cptr (fun j v hj => hX _ _ _ (ha j v hj).1 (ha j v hj).2) (ih (by simpa [D.refs] using hr))
  | nilp => exact fun _ => .nilp
  | fn _ ih => exact fun hr => .fn (ih (by simpa [D.refs] using hr))
  | nilfn => exact fun _ => .nilfn
  | tup _ ih => exact fun hr => .tup (ih (by simpa [D.refs] using hr))
  | top v => exact fun _ => .top v
  | vnil => exact fun _ => .vnil
  | vrow _ hr' _ i1 i2 =>
    intro hr
    simp only [D.refs, List.mem_append] at hr
    exact .vrow (i1 fun id h => hr id (.inl h)) hr' (i2 fun id h => hr id (.inr h))
  | vone _ hr' _ i1 i2 =>
    intro hr
    simp only [D.refs, List.mem_append] at hr
    exact .vone (i1 fun id h => hr id (.inl h)) hr' (i2 fun id h => hr id (.inr h))

theorem RV.mono {X X' : Cx} (he : ∀ t x, (T.enc t x).refs = []) (hX : ∀ b o v, X.w.cell? ⟨b, o, none⟩ = some v → X.free b o → X'.w.cell? ⟨b, o, none⟩ = some v ∧ X'.free b o)
    {d : D C} {v : Value} (h : RV T X d v) (hr : ∀ id ∈ d.refs, Compat (X.ρ id) (X'.ρ id)) : RV T X' d v := by
  rcases h with ⟨h1, cs, h2, h3⟩ | ⟨h1, h2⟩
  · exact .inl ⟨h1, cs, h2.mono T he hX hr, h3⟩
  · exact .inr ⟨h1, h2.mono T he hX hr⟩

theorem RV.top (X : Cx) (v : Value) : RV T X .top v := .inr ⟨rfl, .top v⟩

/-- a row of values, as a list -/
theorem R.vals {X : Cx} {m : Bool} {d : D C} {vs : List Value} (h : R T X m d vs) : m = true → ∀ i v, vs[i]? = some v → ∃ x, d.nth i = some x ∧ RV T X x v := by
  induction h with
  | vnil => intro _ i v h; simp at h
  | vrow h hr _ _ ih =>
    intro _ i v hv
    cases i with
    | zero => simp at hv; subst hv; exact ⟨_, rfl, .inl ⟨hr, _, h, rfl⟩⟩
    | succ i => exact ih rfl i v (by simpa using hv)
  | vone h hr _ _ ih =>
    intro _ i v hv
    cases i with
    | zero => simp at hv; subst hv; exact ⟨_, rfl, .inr ⟨hr, h⟩⟩
    | succ i => exact ih rfl i v (by simpa using hv)
  | _ => intro hm; simp at hm

theorem R.nth {X : Cx} {m : Bool} {d : D C} {vs : List Value} (h : R T X m d vs) : m = true → ∀ i x, d.nth i = some x → ∃ v, vs[i]? = some v ∧ RV T X x v := by
  induction h with
  | vnil => intro _ i x h; simp [D.nth] at h
  | vrow h hr _ _ ih =>
    intro _ i x hx
    cases i with
    | zero => simp [D.nth] at hx; subst hx; exact ⟨_, rfl, .inl ⟨hr, _, h, rfl⟩⟩
    | succ i => simpa using ih rfl i x (by simpa [D.nth] using hx)
  | vone h hr _ _ ih =>
    intro _ i x hx
    cases i with
    | zero => simp [D.nth] at hx; subst hx; exact ⟨_, rfl, .inr ⟨hr, h⟩⟩
    | succ i => simpa using ih rfl i x (by simpa [D.nth] using hx)
  | _ => intro hm; simp at hm

/-- rows of values out of lists of them -/
inductive RVs (X : Cx) : List (D C) → List Value → Prop
  | nil : RVs X [] []
  | cons {d : D C} {ds : List (D C)} {v : Value} {vs : List Value} (h : RV T X d v) (r : RVs X ds vs) : RVs X (d :: ds) (v :: vs)

theorem RVs.row {X : Cx} {ds : List (D C)} {vs : List Value} (h : RVs T X ds vs) : R T X true (D.ofList ds) vs := by
  induction h with
  | nil => exact .vnil
  | cons h _ ih =>
    rcases h with ⟨h1, cs, h2, rfl⟩ | ⟨h1, h2⟩
    · exact .vrow h2 h1 ih
    · exact .vone h2 h1 ih

theorem R.toList {X : Cx} {m : Bool} {d : D C} {vs : List Value} (h : R T X m d vs) : m = true → RVs T X d.toList vs := by
  induction h with
  | vnil => exact fun _ => .nil
  | vrow h hr _ _ ih => exact fun _ => .cons (.inl ⟨hr, _, h, rfl⟩) (ih rfl)
  | vone h hr _ _ ih => exact fun _ => .cons (.inr ⟨hr, h⟩) (ih rfl)
  | _ => intro hm; simp at hm

theorem RVs.append {X : Cx} {ds es : List (D C)} {vs us : List Value} (h : RVs T X ds vs) (k : RVs T X es us) : RVs T X (ds ++ es) (vs ++ us) := by
  induction h with
  | nil => exact k
  | cons h _ ih => exact .cons h ih

theorem RVs.length {X : Cx} {ds : List (D C)} {vs : List Value} (h : RVs T X ds vs) : ds.length = vs.length := by
  induction h with
  | nil => rfl
  | cons _ _ ih => simp [ih]

end
end Go.Ev
