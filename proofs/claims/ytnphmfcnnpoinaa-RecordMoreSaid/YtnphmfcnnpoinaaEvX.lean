/-
  A table laid as a tree of rows; what a check of its rows against the program gives.
-/
import Derived.Test.YtnphmfcnnpoinaaEvW
namespace Go.Ev
set_option linter.unusedVariables false
set_option linter.unusedSimpArgs false

inductive Tree (α : Type) where
  | nil
  | node (k : Nat) (a : α) (l r : Tree α)

namespace Tree
variable {α : Type}
def get (u : Nat) : Tree α → Option α
  | .nil => none
  | .node k a l r => bif Nat.blt u k then l.get u else bif Nat.blt k u then r.get u else some a
def all (p : Nat → α → Bool) : Tree α → Bool
  | .nil => true
  | .node k a l r => p k a && l.all p && r.all p
theorem get_all {p : Nat → α → Bool} {u : Nat} {a : α} : ∀ {t : Tree α}, t.all p = true → t.get u = some a → p u a = true
  | .nil, _, h => by simp [get] at h
  | .node k b l r, h, hg => by
    simp only [all, Bool.and_eq_true] at h
    simp only [get] at hg
    cases h1 : Nat.blt u k with
    | true => rw [h1] at hg; exact get_all h.1.2 hg
    | false =>
      rw [h1] at hg
      cases h2 : Nat.blt k u with
      | true => rw [h2] at hg; exact get_all h.2 hg
      | false =>
        rw [h2] at hg
        simp only [cond_false, Option.some.injEq] at hg
        have e1 : ¬ u < k := by rw [← Nat.blt_eq, h1]; simp
        have e2 : ¬ k < u := by rw [← Nat.blt_eq, h2]; simp
        obtain rfl : u = k := by omega
        rw [← hg]; exact h.1.1
end Tree

section
variable {C : Cdc}

structure Row (C : Cdc) where
  g : GT C
  size : Nat
  bytes : Nat
  zero : Option (D C)

structure Cod (C : Cdc) where
  enc : (t : C.Ty) → C.A t → D C
  dec : (t : C.Ty) → D C → Option (C.A t)
  dflt : (t : C.Ty) → C.A t
  ety : C.Ty → TypeId
  eqb : (t : C.Ty) → C.A t → C.A t → Option Bool
  u8s : (t : C.Ty) → Option (List (C.A t) → List UInt8)
  ofU8s : (t : C.Ty) → Option (List UInt8 → List (C.A t))

def mkTab (cd : Cod C) (t : Tree (Row C)) : Tab C where
  ty u := match t.get u with | some r => r.g | none => .none
  size u := match t.get u with | some r => r.size | none => 0
  bytes u := match t.get u with | some r => r.bytes | none => 0
  enc := cd.enc
  dec := cd.dec
  dflt := cd.dflt
  ety := cd.ety
  eqb := cd.eqb
  zero u := match t.get u with | some r => r.zero | none => none
  u8s := cd.u8s
  ofU8s := cd.ofU8s

def gtB : GT C → GT C → Bool
  | .bool, .bool | .str, .str | .fn, .fn => true
  | .int k, .int k' => decide (k = k')
  | .struct fs, .struct fs' => fs == fs'
  | .arr n e t, .arr n' e' t' => Nat.beq n n' && Nat.beq e e' && decide (t = t')
  | .sl e t, .sl e' t' => Nat.beq e e' && decide (t = t')
  | .ptr e, .ptr e' => Nat.beq e e'
  | _, _ => false
theorem gtB_eq {a b : GT C} (h : gtB a b = true) : a = b := by
  cases a <;> cases b <;> simp_all [gtB]

variable (P : Program) (T : Tab C)

def zRl {t : C.Ty} (f : D C → List Value → Option (List Value)) : List (C.A t) → List Value → Option (List Value)
  | [], cs => some cs
  | x :: l, cs => match f (T.enc t x) cs with
    | some r => zRl f l r
    | none => none

def zR : Nat → D C → List Value → Option (List Value)
  | 0, _, _ => none
  | n + 1, d, cs => match d, cs with
    | .bool b, .bool b' :: r => bif b == b' then some r else none
    | .int k m, .int k' m' :: r => bif decide (k = k') && m == m' && decide (k.min ≤ m) && decide (m ≤ k.max) then some r else none
    | .str s, .string s' :: r => bif s == s'.data.toList then some r else none
    | .anil, cs => some cs
    | .acons d ds, cs => match zR n d cs with
      | some r => zR n ds r
      | none => none
    | .arr t m l, cs => bif Nat.beq m l.length then zRl T (zR n) l cs else none
    | .nils, .slice none 0 0 :: r => some r
    | .sl _ _ [], .slice none 0 0 :: r => some r
    | .nilp, .pointer none :: r => some r
    | .nilfn, .nilFunc :: r => some r
    | _, _ => none

variable {P T}

theorem zRl_ok {X : Cx} {t : C.Ty} {f : D C → List Value → Option (List Value)} (hf : ∀ d cs r, f d cs = some r → ∃ c1, cs = c1 ++ r ∧ R T X false d c1) : ∀ (l : List (C.A t)) (cs r : List Value), zRl T f l cs = some r → ∃ c1, cs = c1 ++ r ∧ R T X false (.arr t l.length l) c1
  | [], cs, r, h => by simp [zRl] at h; exact ⟨[], by simp [h], .arr0 _⟩
  | x :: l, cs, r, h => by
    simp only [zRl] at h
    cases hq : f (T.enc t x) cs with
    | none => simp [hq] at h
    | some r1 =>
      simp only [hq] at h
      obtain ⟨c1, e1, k1⟩ := hf _ _ _ hq
      obtain ⟨c2, e2, k2⟩ := zRl_ok hf l r1 r h
      exact ⟨c1 ++ c2, by rw [e1, e2, List.append_assoc], .arrS k1 k2⟩

theorem zR_ok {X : Cx} : ∀ (n : Nat) (d : D C) (cs r : List Value), zR T n d cs = some r → ∃ c1, cs = c1 ++ r ∧ R T X false d c1 := by
  intro n
  induction n with
  | zero => intro d cs r h; simp [zR] at h
  | succ n ih =>
    intro d cs r h
    unfold zR at h
    split at h
    · rename_i b b' q
      cases hb : (b == b') with
      | false => simp [hb] at h
      | true => simp [hb] at h; subst h; have := eq_of_beq hb; subst this; exact ⟨[.bool b], rfl, .bool b⟩
    · rename_i k m k' m' q
      cases hb : (decide (k = k') && m == m' && decide (k.min ≤ m) && decide (m ≤ k.max)) with
      | false => simp [hb] at h
      | true =>
        simp only [hb, cond_true, Option.some.injEq] at h
        subst h
        simp only [Bool.and_eq_true, decide_eq_true_eq, beq_iff_eq] at hb
        obtain ⟨⟨⟨rfl, rfl⟩, h1⟩, h2⟩ := hb
        exact ⟨[.int k m], rfl, .int ⟨h1, h2⟩⟩
    · rename_i s s' q
      cases hb : (s == s'.data.toList) with
      | false => simp [hb] at h
      | true =>
        simp only [hb, cond_true, Option.some.injEq] at h
        subst h
        have := eq_of_beq hb
        subst this
        exact ⟨[.string s'], rfl, .str _⟩
    · simp at h; exact ⟨[], by simp [h], .anil⟩
    · rename_i d ds
      cases hq : zR T n d cs with
      | none => simp [hq] at h
      | some r1 =>
        simp only [hq] at h
        obtain ⟨c1, e1, k1⟩ := ih _ _ _ hq
        obtain ⟨c2, e2, k2⟩ := ih _ _ _ h
        exact ⟨c1 ++ c2, by rw [e1, e2, List.append_assoc], .acons k1 k2⟩
    · rename_i t m l
      cases hb : Nat.beq m l.length with
      | false => simp [hb] at h
      | true =>
        simp only [hb, cond_true] at h
        have := Nat.eq_of_beq_eq_true hb
        subst this
        exact zRl_ok ih l _ _ h
    · simp at h; subst h; exact ⟨[.slice none 0 0], rfl, .nils⟩
    · simp at h; subst h; exact ⟨[.slice none 0 0], rfl, .sl0 _ _ _⟩
    · simp at h; subst h; exact ⟨[.pointer none], rfl, .nilp⟩
    · simp at h; subst h; exact ⟨[.nilFunc], rfl, .nilfn⟩
    · simp at h

variable (P T)
def zB (d : D C) (cs : List Value) : Bool := match zR T 50 d cs with
  | some [] => true
  | _ => false
variable {P T}
theorem zB_ok {d : D C} {cs : List Value} (h : zB T d cs = true) (X : Cx) : R T X false d cs := by
  unfold zB at h
  split at h
  · rename_i hq
    obtain ⟨c1, e1, k1⟩ := zR_ok (X := X) _ _ _ _ hq
    simp at e1; rw [e1]; exact k1
  · cases h

variable (P T)
def elemB (e : TypeId) (t : C.Ty) : Bool :=
  gtB (T.ty e) (T.ty (T.ety t)) && Nat.beq (T.size e) (T.size (T.ety t)) && match P.info? e with
  | some i => Nat.beq i.size (T.size e) && Nat.beq i.bytes (T.bytes e) && Nat.blt 0 (T.bytes e) && Nat.blt 0 (T.size e) && match i.zero with
    | some z => Nat.beq z.cells.size (T.size e) && zB T (T.enc t (T.dflt t)) z.cells.toList
    | none => false
  | none => false

def offsB : List Field → Nat → Bool
  | [], _ => true
  | f :: fs, n => Nat.beq f.offset n && offsB fs (n + T.size f.type)

def shapeB (u : TypeId) (g : GT C) (size : Nat) : Bool := match g, P.underlying u with
  | .bool, some .bool => Nat.beq size 1
  | .int k, some (.int k') => decide (k = k') && Nat.beq size 1
  | .str, some .string => Nat.beq size 1
  | .struct fs, some (.struct fields) => (fields.toList.map (·.type) == fs) && Nat.beq size (sumSz T fs) && offsB T fields.toList 0 && !P.stoodInHeld u && !P.eqGuardType P.depth u && fields.toList.all (fun f => f.name != "_") &&
      fs.all (fun f => match P.info? f with | some i => Nat.beq i.size (T.size f) && Nat.blt 0 (T.size f) | none => false)
  | .arr n e t, some (.array n' e') => Nat.beq n n' && Nat.beq e e' && !P.eqGuardType P.depth u && Nat.beq size (n * T.size e) && elemB P T e t
  | .sl e t, some (.slice e') => Nat.beq e e' && Nat.beq size 1 && elemB P T e t
  | .ptr e, some (.pointer e') => Nat.beq e e' && Nat.beq size 1
  | .fn, some (.func _ _ _) => Nat.beq size 1
  | _, _ => false

def rowB (u : TypeId) (r : Row C) : Bool :=
  Nat.blt 0 r.size && (match P.info? u with
    | some i => Nat.beq i.size r.size && (match r.zero with
      | none => true
      | some z => match i.zero with
        | some v => z.refs.isEmpty && zB T z v.cells.toList
        | none => false)
    | none => false) && shapeB P T u r.g r.size
variable {P T}

theorem offsB_spec : ∀ (fs : List Field) (n : Nat), offsB T fs n = true → ∀ (i : Nat) (f : Field), fs[i]? = some f → f.offset = n + sumSz T ((fs.map (·.type)).take i)
  | [], n, h, i, f, hf => by simp at hf
  | g :: fs, n, h, i, f, hf => by
    simp only [offsB, Bool.and_eq_true] at h
    cases i with
    | zero => simp at hf; subst hf; simp [sumSz, Nat.eq_of_beq_eq_true h.1]
    | succ i =>
      have := offsB_spec fs _ h.2 i f (by simpa using hf)
      rw [this]; simp [sumSz]; omega

theorem elemB_spec {e : TypeId} {t : C.Ty} (h : elemB P T e t = true) : (T.ty e = T.ty (T.ety t) ∧ T.size e = T.size (T.ety t)) ∧ ∃ i z, P.info? e = some i ∧ i.size = T.size e ∧ i.bytes = T.bytes e ∧ 0 < T.bytes e ∧ 0 < T.size e ∧ i.zero = some z ∧ z.cells.size = T.size e ∧
    ∀ X, R T X false (T.enc t (T.dflt t)) z.cells.toList := by
  simp only [elemB, Bool.and_eq_true] at h
  obtain ⟨⟨h1, h2⟩, h3⟩ := h
  refine ⟨⟨gtB_eq h1, Nat.eq_of_beq_eq_true h2⟩, ?_⟩
  cases hi : P.info? e with
  | none => simp [hi] at h3
  | some i =>
    simp only [hi, Bool.and_eq_true] at h3
    obtain ⟨⟨⟨⟨a1, a2⟩, a3⟩, a4⟩, a5⟩ := h3
    cases hz : i.zero with
    | none => simp [hz] at a5
    | some z =>
      simp only [hz, Bool.and_eq_true] at a5
      exact ⟨i, z, rfl, Nat.eq_of_beq_eq_true a1, Nat.eq_of_beq_eq_true a2, by simpa [Nat.blt_eq] using a3, by simpa [Nat.blt_eq] using a4, hz, Nat.eq_of_beq_eq_true a5.1, zB_ok a5.2⟩

/-- what a codec must meet by itself -/
structure CLaws (T : Tab C) : Prop where
  encRefs : ∀ t x, (T.enc t x).refs = []
  encFit : ∀ t x, fit T (T.enc t x) (.inl (T.ety t)) = true
  decR : ∀ X t d x cs, T.dec t d = some x → R T X false d cs → R T X false (T.enc t x) cs
  eqb : ∀ t a b r, T.eqb t a b = some r → eqS (T.enc t a) (T.enc t b) = some r
  u8s : ∀ t f l, T.u8s t = some f → bytesOf T l = some (f l)
  ofU8s : ∀ t g l, T.ofU8s t = some g → (g l).map (T.enc t) = l.map fun b => .int .u8 (b.toNat : Int)

theorem mkLaws {cd : Cod C} {t : Tree (Row C)} (h : t.all (rowB P (mkTab cd t)) = true) (hc : CLaws (mkTab cd t)) (ho : P.follows .mixedOrders = true) : PLaws P (mkTab cd t) := by
  have row : ∀ u, (mkTab cd t).ty u ≠ .none → ∃ r, t.get u = some r ∧ rowB P (mkTab cd t) u r = true ∧ (mkTab cd t).ty u = r.g ∧ (mkTab cd t).size u = r.size ∧ (mkTab cd t).zero u = r.zero := by
    intro u hu
    cases hg : t.get u with
    | none => exact (hu (by simp [mkTab, hg])).elim
    | some r => exact ⟨r, rfl, Tree.get_all h hg, by simp [mkTab, hg], by simp [mkTab, hg], by simp [mkTab, hg]⟩
  have shape : ∀ u, (mkTab cd t).ty u ≠ .none → shapeB P (mkTab cd t) u ((mkTab cd t).ty u) ((mkTab cd t).size u) = true ∧ 0 < (mkTab cd t).size u ∧ ∃ i, P.info? u = some i ∧ i.size = (mkTab cd t).size u := by
    intro u hu
    obtain ⟨r, _, h1, h2, h3, _⟩ := row u hu
    simp only [rowB, Bool.and_eq_true] at h1
    obtain ⟨⟨a1, a2⟩, a3⟩ := h1
    refine ⟨by rw [h2, h3]; exact a3, by rw [h3]; simpa [Nat.blt_eq] using a1, ?_⟩
    cases hi : P.info? u with
    | none => simp [hi] at a2
    | some i => simp only [hi, Bool.and_eq_true] at a2; exact ⟨i, rfl, by rw [h3]; exact Nat.eq_of_beq_eq_true a2.1⟩
  generalize hT : mkTab cd t = T at *
  have sh : ∀ u g, T.ty u = g → g ≠ .none → shapeB P T u g (T.size u) = true := fun u g hg hn => by have := (shape u (by rw [hg]; exact hn)).1; rw [hg] at this; exact this
  have sBool : ∀ u, T.ty u = .bool → P.underlying u = some .bool ∧ T.size u = 1 := fun u hu => by
    have := sh u _ hu (by simp)
    unfold shapeB at this
    split at this <;> simp_all
  have sInt : ∀ u k, T.ty u = .int k → P.underlying u = some (.int k) ∧ T.size u = 1 := fun u k hu => by
    have := sh u _ hu (by simp)
    unfold shapeB at this
    split at this <;> simp_all
  have sStr : ∀ u, T.ty u = .str → P.underlying u = some .string ∧ T.size u = 1 := fun u hu => by
    have := sh u _ hu (by simp)
    unfold shapeB at this
    split at this <;> simp_all
  have sPtr : ∀ u e, T.ty u = .ptr e → P.underlying u = some (.pointer e) ∧ T.size u = 1 := fun u k hu => by
    have := sh u _ hu (by simp)
    unfold shapeB at this
    split at this <;> simp_all
  have sFn : ∀ u, T.ty u = .fn → (∃ a b c, P.underlying u = some (.func a b c)) ∧ T.size u = 1 := fun u hu => by
    have := sh u _ hu (by simp)
    unfold shapeB at this
    split at this <;> simp_all
  have sArr : ∀ u n e t, T.ty u = .arr n e t → P.underlying u = some (.array n e) ∧ P.eqGuardType P.depth u = false ∧ T.size u = n * T.size e ∧ elemB P T e t = true := fun u n e t hu => by
    have := sh u _ hu (by simp)
    unfold shapeB at this
    split at this <;> simp_all
    obtain ⟨⟨⟨⟨_, e1⟩, _⟩, _⟩, h⟩ := this
    rw [← e1]; exact h
  have sSl : ∀ u e t, T.ty u = .sl e t → P.underlying u = some (.slice e) ∧ T.size u = 1 ∧ elemB P T e t = true := fun u e t hu => by
    have := sh u _ hu (by simp)
    unfold shapeB at this
    split at this <;> simp_all
    obtain ⟨⟨e1, _⟩, h⟩ := this
    rw [← e1]; exact h
  have sSt : ∀ u fs, T.ty u = .struct fs → ∃ fields : Array Field, P.underlying u = some (.struct fields) ∧ fields.toList.map (·.type) = fs ∧ T.size u = sumSz T fs ∧ offsB T fields.toList 0 = true ∧ P.stoodInHeld u = false ∧ P.eqGuardType P.depth u = false ∧
      (∀ f ∈ fields.toList, f.name ≠ "_") ∧ ∀ f ∈ fs, ∃ i, P.info? f = some i ∧ i.size = T.size f ∧ 0 < T.size f := fun u fs hu => by
    have := sh u _ hu (by simp)
    unfold shapeB at this
    split at this
    case h_4 fs' fields e1 e2 =>
      simp only [GT.struct.injEq] at e1
      subst e1
      simp only [Bool.and_eq_true, Bool.not_eq_true', List.all_eq_true] at this
      obtain ⟨⟨⟨⟨⟨⟨a1, a2⟩, a3⟩, a4⟩, a5⟩, a6⟩, a7⟩ := this
      refine ⟨fields, e2, eq_of_beq a1, Nat.eq_of_beq_eq_true a2, a3, a4, a5, fun f hf => by simpa using a6 f hf, fun f hf => ?_⟩
      have := a7 f hf
      cases hi : P.info? f with
      | none => simp [hi] at this
      | some i => simp only [hi, Bool.and_eq_true] at this; exact ⟨i, rfl, Nat.eq_of_beq_eq_true this.1, by simpa [Nat.blt_eq] using this.2⟩
    all_goals simp_all
  refine ⟨⟨hc.encRefs, hc.encFit, hc.decR, hc.u8s, hc.ofU8s, ?_, ?_, ?_, fun u hu => (sBool u hu).2, fun u k hu => (sInt u k hu).2, fun u hu => (sStr u hu).2, fun u e hu => (sPtr u e hu).2, fun u hu => (sFn u hu).2, fun u hu => (shape u (fun h => hu h)).2.1⟩,
    fun u hu => (sBool u hu).1, fun u k hu => (sInt u k hu).1, fun u hu => (sStr u hu).1, ?_, ?_, ?_, fun u e t hu => (sSl u e t hu).1, ?_, fun u e hu => (sPtr u e hu).1, fun u hu => (sFn u hu).1, ?_, ?_, hc.eqb, ho⟩
  · intro u fs hu; obtain ⟨_, _, _, h3, _⟩ := sSt u fs hu; exact h3
  · intro u n e t hu; obtain ⟨_, _, h3, h4⟩ := sArr u n e t hu; exact ⟨h3, (elemB_spec h4).1⟩
  · intro u e t hu; obtain ⟨_, h3, h4⟩ := sSl u e t hu; exact ⟨h3, (elemB_spec h4).1⟩
  · intro u fs hu
    obtain ⟨fields, h1, h2, _, h4, h5, h6, h7, _⟩ := sSt u fs hu
    refine ⟨fields, h1, h2, fun i f hf => ?_, h5, h6, h7⟩
    have := offsB_spec fields.toList 0 h4 i f (by rw [Array.getElem?_toList]; exact hf)
    rw [this, h2]; simp
  · intro u fs f hu hf; obtain ⟨_, _, _, _, _, _, _, _, h8⟩ := sSt u fs hu; exact h8 f hf
  · intro u n e t hu; obtain ⟨h1, h2, _⟩ := sArr u n e t hu; exact ⟨h1, h2⟩
  · rintro u e t (⟨n, hu⟩ | hu)
    · exact (elemB_spec (sArr u n e t hu).2.2.2).2
    · exact (elemB_spec (sSl u e t hu).2.2).2
  · intro u d hf
    refine (shape u (fun hn => ?_)).2.2
    cases d <;> simp [fit, hn] at hf
  · intro u z hz
    subst hT
    cases hg : t.get u with
    | none => simp [mkTab, hg] at hz
    | some r =>
      have hr := Tree.get_all h hg
      have hz' : r.zero = some z := by simpa [mkTab, hg] using hz
      simp only [rowB, Bool.and_eq_true] at hr
      obtain ⟨⟨a1, a2⟩, a3⟩ := hr
      cases hi : P.info? u with
      | none => simp [hi] at a2
      | some i =>
        simp only [hi, Bool.and_eq_true, hz'] at a2
        cases hv : i.zero with
        | none => simp [hv] at a2
        | some v =>
          simp only [hv, Bool.and_eq_true] at a2
          exact ⟨i, v, rfl, hv, List.isEmpty_iff.1 a2.2.1, zB_ok a2.2.2⟩
end
end Go.Ev
