/-
  The elements of slices and arrays, as Lean has them; how they stand as values.
-/
import Derived.Test.YtnphmfcnnpoinaaEvX
namespace Go.Ev
set_option linter.unusedVariables false
set_option linter.unusedSimpArgs false

structure Write where
  key : Int
  value : Int
structure Item where
  key : Int
  place : Int
  value : Int
structure Line where
  offset : Int
  place : Int
  j : Int
  key : Int
  value : Int

inductive RTy | int | bool | u8 | write | item | line | lines
  deriving DecidableEq
@[reducible] def RA : RTy → Type
  | .int => Int
  | .bool => Bool
  | .u8 => UInt8
  | .write => Write
  | .item => Item
  | .line => Line
  | .lines => List Line
@[reducible] def RC : Cdc := ⟨RTy, inferInstance, RA⟩

def rEnc : (t : RTy) → RA t → D RC
  | .int, n => .int .i64 n
  | .bool, b => .bool b
  | .u8, b => .int .u8 (UInt8.toNat b)
  | .write, w => .acons (.int .i64 (Write.key w)) (.acons (.int .i64 (Write.value w)) .anil)
  | .item, w => .acons (.int .i64 (Item.key w)) (.acons (.int .i64 (Item.place w)) (.acons (.int .i64 (Item.value w)) .anil))
  | .line, w => .acons (.int .i64 (Line.offset w)) (.acons (.int .i64 (Line.place w)) (.acons (.int .i64 (Line.j w)) (.acons (.int .i64 (Line.key w)) (.acons (.int .i64 (Line.value w)) .anil))))
  | .lines, l => .sl (C := RC) .line false l

def dInt : D RC → Option Int
  | .int .i64 n => some n
  | _ => none
def dBool : D RC → Option Bool
  | .bool b => some b
  | _ => none
def dU8 : D RC → Option UInt8
  | .int .u8 n => some (UInt8.ofNat n.toNat)
  | _ => none
def dWrite : D RC → Option Write
  | .acons (.int .i64 a) (.acons (.int .i64 b) .anil) => some ⟨a, b⟩
  | _ => none
def dItem : D RC → Option Item
  | .acons (.int .i64 a) (.acons (.int .i64 b) (.acons (.int .i64 c) .anil)) => some ⟨a, b, c⟩
  | _ => none
def dLine : D RC → Option Line
  | .acons (.int .i64 a) (.acons (.int .i64 b) (.acons (.int .i64 c) (.acons (.int .i64 d) (.acons (.int .i64 e) .anil)))) => some ⟨a, b, c, d, e⟩
  | _ => none
def rDec : (t : RTy) → D RC → Option (RA t)
  | .int => dInt
  | .bool => dBool
  | .u8 => dU8
  | .write => dWrite
  | .item => dItem
  | .line => dLine
  | .lines => D.asList (C := RC) .line

def rDflt : (t : RTy) → RA t
  | .int => (0 : Int)
  | .bool => false
  | .u8 => (0 : UInt8)
  | .write => (⟨0, 0⟩ : Write)
  | .item => (⟨0, 0, 0⟩ : Item)
  | .line => (⟨0, 0, 0, 0, 0⟩ : Line)
  | .lines => ([] : List Line)

def rEqb : (t : RTy) → RA t → RA t → Option Bool
  | .int => fun (a b : Int) => some (a == b)
  | .bool => fun (a b : Bool) => some (a == b)
  | _ => fun _ _ => none

def rU8s : (t : RTy) → Option (List (RA t) → List UInt8)
  | .u8 => some fun l => l
  | _ => none
def rOfU8s : (t : RTy) → Option (List UInt8 → List (RA t))
  | .u8 => some fun l => l
  | _ => none
def rCod (ety : RTy → TypeId) : Cod RC := ⟨rEnc, rDec, rDflt, ety, rEqb, rU8s, rOfU8s⟩

theorem rDecR {T : Tab RC} (he : T.enc = rEnc) {X : Cx} {t : RTy} {d : D RC} {x : RA t} {cs : List Value} (hd : rDec t d = some x) (hr : R T X false d cs) : R T X false (rEnc t x) cs := by
  cases t
  · replace hd : dInt d = some x := hd
    unfold dInt at hd; split at hd
    · cases hd; exact hr
    · cases hd
  · replace hd : dBool d = some x := hd
    unfold dBool at hd; split at hd
    · cases hd; exact hr
    · cases hd
  · replace hd : dU8 d = some x := hd
    unfold dU8 at hd; split at hd
    · rename_i n
      cases hd
      cases hr with
      | int h =>
        have h1 : (0 : Int) ≤ n := h.1
        have h2 : n ≤ 255 := h.2
        have : ((UInt8.ofNat n.toNat).toNat : Int) = n := by
          rw [UInt8.toNat_ofNat']
          have : n.toNat % 2 ^ 8 = n.toNat := Nat.mod_eq_of_lt (by omega)
          rw [this]; omega
        simp only [rEnc, this]
        exact .int h
    · cases hd
  · replace hd : dWrite d = some x := hd
    unfold dWrite at hd; split at hd
    · cases hd; exact hr
    · cases hd
  · replace hd : dItem d = some x := hd
    unfold dItem at hd; split at hd
    · cases hd; exact hr
    · cases hd
  · replace hd : dLine d = some x := hd
    unfold dLine at hd; split at hd
    · cases hd; exact hr
    · cases hd
  · replace hd : D.asList (C := RC) .line d = some x := hd
    unfold D.asList at hd
    split at hd
    · cases hd
      cases hr; exact .sl0 _ _ _
    · rename_i t' cp l
      split at hd
      · rename_i he
        cases he
        cases hd
        cases hr with
        | sl0 => exact .sl0 _ _ _
        | sl a1 a2 a3 a4 => exact .sl a1 a2 a3 (by simp)
      · cases hd
    · cases hd

theorem rEqbR : ∀ {t : RTy} {a b : RA t} {r : Bool}, rEqb t a b = some r → eqS (rEnc t a) (rEnc t b) = some r
  | .int, a, b, r, h => h
  | .bool, a, b, r, h => h
  | .u8, _, _, _, h => absurd (show (none : Option Bool) = some _ from h) (by simp)
  | .write, _, _, _, h => absurd (show (none : Option Bool) = some _ from h) (by simp)
  | .item, _, _, _, h => absurd (show (none : Option Bool) = some _ from h) (by simp)
  | .line, _, _, _, h => absurd (show (none : Option Bool) = some _ from h) (by simp)
  | .lines, _, _, _, h => absurd (show (none : Option Bool) = some _ from h) (by simp)

theorem rRefs (t : RTy) (x : RA t) : (rEnc t x).refs = [] := by cases t <;> rfl

theorem rU8sR {T : Tab RC} (he : T.enc = rEnc) : ∀ (t : RTy) (f : List (RA t) → List UInt8) (l : List (RA t)), rU8s t = some f → bytesOf T l = some (f l) := by
  intro t f l h
  cases t <;> simp [rU8s] at h
  subst h
  induction l with
  | nil => rfl
  | cons x l ih =>
    simp only [bytesOf, ih, he, rEnc]
    have : UInt8.ofNat (UInt8.toNat x) = x := by simp
    simp [this]
theorem rOfU8sR : ∀ (t : RTy) (g : List UInt8 → List (RA t)) (l : List UInt8), rOfU8s t = some g → (g l).map (rEnc t) = l.map fun b => .int .u8 (b.toNat : Int) := by
  intro t g l h
  cases t <;> simp [rOfU8s] at h
  subst h; rfl
theorem rLaws {ety : RTy → TypeId} {t : Tree (Row RC)} (hfit : ∀ t' x, fit (mkTab (rCod ety) t) (rEnc t' x) (.inl (ety t')) = true) : CLaws (mkTab (rCod ety) t) :=
  ⟨rRefs, hfit, fun X t d x cs hd hr => rDecR rfl hd hr, fun t a b r h => rEqbR h, rU8sR rfl, rOfU8sR⟩
end Go.Ev
