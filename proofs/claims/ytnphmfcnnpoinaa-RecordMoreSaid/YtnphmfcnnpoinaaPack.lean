/-
  Numbers as bytes, the lowest first.
-/
import Derived.Test.YtnphmfcnnpoinaaCod
import Derived.Test.YtnphmfcnnpoinaaEvO3
namespace Go.Ev
set_option linter.unusedVariables false
set_option linter.unusedSimpArgs false

def byteOf (n : Int) : UInt8 := UInt8.ofNat (IntKind.u8.wrap n).toNat
def leB (n : Int) : Nat → List UInt8
  | 0 => []
  | w + 1 => byteOf n :: leB (n.fdiv 256) w
def leVal : List UInt8 → Nat
  | [] => 0
  | x :: l => x.toNat + 256 * leVal l
def fitsB (n : Int) (w : Nat) : Bool := decide (0 ≤ n) && decide (n < 256 ^ w)
def putL (b : List UInt8) (n : Int) (w : Nat) : List UInt8 := bif fitsB n w then b ++ leB n w else []

theorem leB_length : ∀ (w : Nat) (n : Int), (leB n w).length = w
  | 0, _ => rfl
  | w + 1, n => by simp [leB, leB_length w]
theorem u8_wrap (n : Int) : IntKind.u8.wrap n = n % 256 := by
  simp [IntKind.wrap, IntKind.bits, IntKind.signed]
theorem byteOf_nat (n : Int) : ((byteOf n).toNat : Int) = n % 256 := by
  rw [byteOf, u8_wrap, UInt8.toNat_ofNat', Nat.mod_eq_of_lt (by omega)]
  omega
theorem leVal_lt : ∀ l : List UInt8, leVal l < 256 ^ l.length
  | [] => by simp [leVal]
  | x :: l => by
    have h1 := leVal_lt l
    have h2 := x.toNat_lt
    have h3 : 256 ^ (x :: l).length = 256 * 256 ^ l.length := by simp [Nat.pow_succ, Nat.mul_comm]
    rw [h3, leVal]; omega
theorem leVal_append : ∀ (l m : List UInt8), leVal (l ++ m) = leVal l + 256 ^ l.length * leVal m
  | [], m => by simp [leVal]
  | x :: l, m => by
    simp only [List.cons_append, leVal, leVal_append l m, List.length_cons, Nat.pow_succ]
    rw [Nat.mul_add, ← Nat.mul_assoc, Nat.mul_comm 256 (256 ^ l.length), Nat.add_assoc]
theorem fdiv_nonneg {n : Int} (h : 0 ≤ n) : 0 ≤ n.fdiv 256 ∧ n.fdiv 256 = n / 256 := by
  have : n.fdiv 256 = n / 256 := Int.fdiv_eq_ediv_of_nonneg n (by omega)
  rw [this]; omega
theorem leVal_leB : ∀ (w : Nat) (n : Int), 0 ≤ n → n < 256 ^ w → (leVal (leB n w) : Int) = n
  | 0, n, h0, h1 => by simp at h1; simp [leB, leVal]; omega
  | w + 1, n, h0, h1 => by
    obtain ⟨h2, h3⟩ := fdiv_nonneg h0
    have h4 : n.fdiv 256 < 256 ^ w := by
      rw [h3]
      rw [Int.pow_succ] at h1
      omega
    have := leVal_leB w _ h2 h4
    simp only [leB, leVal, Int.natCast_add, byteOf_nat]
    rw [Int.natCast_mul, this, h3]
    omega
theorem leB_leVal : ∀ (l : List UInt8), leB (leVal l) l.length = l
  | [] => rfl
  | x :: l => by
    simp only [List.length_cons, leB, leVal]
    have h := x.toNat_lt
    have h0 : ((x.toNat + 256 * leVal l : Nat) : Int).fdiv 256 = leVal l := by
      rw [Int.fdiv_eq_ediv_of_nonneg _ (by omega)]; omega
    have h1 : byteOf ((x.toNat + 256 * leVal l : Nat) : Int) = x := by
      apply UInt8.toNat_inj.1
      have := byteOf_nat ((x.toNat + 256 * leVal l : Nat) : Int)
      omega
    rw [h0, h1, leB_leVal l]
theorem fitsB_iff {n : Int} {w : Nat} : fitsB n w = true ↔ 0 ≤ n ∧ n < 256 ^ w := by simp [fitsB]
theorem leVal_single (x : UInt8) : leVal [x] = x.toNat := by simp [leVal]

theorem _root_.Int.ediv_eq_zero_iff_of_pos' {n m : Int} (h0 : 0 ≤ n) (hp : 0 < m) : n / m = 0 ↔ n < m := by
  constructor
  · intro h
    have := Int.lt_ediv_add_one_mul_self n hp
    rw [h] at this; omega
  · intro h; exact Int.ediv_eq_zero_of_lt h0 h
/-- 'n |= c << (8 * i)' -/
theorem bits_or_shift (n i : Nat) (c : UInt8) (hn : n < 256 ^ i) (hi : i < 7) :
    bits .i64 (fun _ u v => u ||| v) (n : Int) (IntKind.i64.wrap ((c.toNat : Int) * 2 ^ min (IntKind.i64.wrap (8 * (i : Int))).toNat IntKind.i64.bits)) = ((n + c.toNat * 256 ^ i : Nat) : Int) := by
  have hc := c.toNat_lt
  have hw : IntKind.i64.wrap (8 * (i : Int)) = ((8 * i : Nat) : Int) := by rw [wrap_id (by omega) (by omega)]; simp
  have hm : min (8 * i) 64 = 8 * i := by omega
  have hp : (2 : Nat) ^ (8 * i) = 256 ^ i := by rw [Nat.pow_mul]
  have hb : 256 ^ i ≤ 256 ^ 6 := Nat.pow_le_pow_right (by omega) (by omega)
  have hb' : (256 : Nat) ^ 6 = 281474976710656 := by decide
  have hmul : c.toNat * 256 ^ i ≤ 255 * 281474976710656 := Nat.mul_le_mul (by omega) (by omega)
  have e1 : ((c.toNat : Int) * 2 ^ min (IntKind.i64.wrap (8 * (i : Int))).toNat IntKind.i64.bits) = ((c.toNat * 256 ^ i : Nat) : Int) := by
    rw [hw]
    simp only [Int.toNat_natCast, IntKind.bits, hm]
    rw [← hp]; simp
  rw [e1, wrap_id (by omega) (by omega)]
  unfold bits
  have h1 : ∀ x : Nat, x < 2 ^ 64 → (BitVec.ofInt IntKind.i64.bits (x : Int)).toNat = x := by
    intro x hx
    rw [BitVec.toNat_ofInt]
    simp only [IntKind.bits]
    omega
  rw [BitVec.toNat_or, h1 n (by omega), h1 _ (by omega)]
  have h2 : n ||| c.toNat * 256 ^ i = n + c.toNat * 256 ^ i := by
    rw [← hp] at hn ⊢
    rw [Nat.or_comm, Nat.mul_comm, ← Nat.two_pow_add_eq_or_of_lt hn, Nat.add_comm]
  rw [h2, wrap_id (by omega) (by omega)]

theorem u8_i64 (c : UInt8) : IntKind.i64.wrap (c.toNat : Int) = (c.toNat : Int) := by
  have := c.toNat_lt
  exact wrap_id (by omega) (by omega)
theorem bits_or_shift' (n i : Nat) (c : UInt8) (hn : n < 256 ^ i) (hi : i < 7) :
    bits .i64 (fun _ u v => u ||| v) (n : Int) (IntKind.i64.wrap (IntKind.i64.wrap (c.toNat : Int) * 2 ^ min (IntKind.i64.wrap (8 * (i : Int))).toNat 64)) = ((n + c.toNat * 256 ^ i : Nat) : Int) := by
  rw [u8_i64]; exact bits_or_shift n i c hn hi
/-- what pack's Get answers -/
def getP (b : List UInt8) (at' w : Int) : Int × Int :=
  bif decide (1 ≤ w) && decide (w ≤ 6) then
    (bif decide (0 ≤ at') && decide (at' + w ≤ b.length) then ((leVal ((b.drop at'.toNat).take w.toNat) : Int), 0) else (0, 50))
  else (0, 2)
end Go.Ev
