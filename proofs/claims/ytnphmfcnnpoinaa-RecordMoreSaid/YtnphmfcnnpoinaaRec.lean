/-
  Records and states, by themselves: which may be.
-/
import Derived.Test.YtnphmfcnnpoinaaCod
import Derived.Test.YtnphmfcnnpoinaaPack
namespace Go.Ev
set_option linter.unusedVariables false
set_option linter.unusedSimpArgs false

def withinB (n a b : Int) : Bool := decide (a ≤ n) && decide (n ≤ b)
theorem withinB_iff {x a b : Int} : withinB x a b = true ↔ a ≤ x ∧ x ≤ b := by simp [withinB]
def eachAt {α : Type} (one : α → Bool) (two : α → α → Bool) (l : List α) (i : Nat) : Bool := eachB one two (ahead l i) (l.drop i)
theorem eachAt_step {α : Type} (one : α → Bool) (two : α → α → Bool) (l : List α) (i : Nat) (d : α) (hlt : i < l.length) :
    eachAt one two l i = (one (l.getD i d) && (decide (i = 0) || two (l.getD (i - 1) d) (l.getD i d)) && eachAt one two l (i + 1)) := by
  unfold eachAt
  rw [List.drop_eq_getElem_cons hlt]
  have hi : l.getD i d = l[i] := by simp [List.getD_eq_getElem?_getD, hlt]
  have hn : ahead l (i + 1) = some l[i] := by simp [ahead, hlt]
  rw [hi, hn]
  simp only [eachB]
  cases i with
  | zero => simp [ahead]
  | succ j =>
    have : j < l.length := by omega
    simp [ahead, this]
theorem eachAt_end {α : Type} (one : α → Bool) (two : α → α → Bool) (l : List α) (i : Nat) (h : l.length ≤ i) : eachAt one two l i = true := by simp [eachAt, List.drop_eq_nil_of_le h, eachB]

def oneWB (w : Write) : Bool := withinB w.key 0 23 && withinB w.value 0 255
def twoWB (x y : Write) : Bool := decide (x.key < y.key)
def writtenL (l : List Write) : Bool := decide (l.length ≤ 4) && eachAt oneWB twoWB l 0
def twoIB (x y : Item) : Bool := decide (x.key < y.key)
def oneIB (p : Int) (x : Item) : Bool := withinB x.key 0 23 && withinB x.place 1 p && withinB x.value 0 255
def twoLB (x y : Line) : Bool := (y.offset == IntKind.i64.wrap (x.offset + 1)) && (decide (x.place < y.place) || (x.place == y.place && decide (x.j < y.j)))
def oneLB (p : Int) (x : Line) : Bool := withinB x.offset 0 4194303 && withinB x.place 1 p && withinB x.j 0 3 && withinB x.key 0 7 && withinB x.value 0 255
structure Rec where
  place : Int
  yes : Bool
  writes : List Write
def mayB (r : Rec) : Bool := withinB r.place 1 1048575 && writtenL r.writes && (r.yes || r.writes.isEmpty)
structure St where
  place : Int
  items : List Item
  l0 : List Line
  l1 : List Line
  l2 : List Line
  c0 : Int
  c1 : Int
  c2 : Int
def partOK (p c : Int) (l : List Line) : Bool := withinB c 0 p && decide (l.length ≤ 16) && (l.isEmpty || decide (c < (l.getD 0 ⟨0, 0, 0, 0, 0⟩).place)) && eachAt (oneLB p) twoLB l 0
def standsOK (s : St) : Bool := withinB s.place 0 1048575 && eachAt (oneIB s.place) twoIB s.items 0 && partOK s.place s.c0 s.l0 && partOK s.place s.c1 s.l1 && partOK s.place s.c2 s.l2

def stD (s : St) (ci : Bool) : D RC := .acons (.int .i64 s.place) (.acons (.sl (C := RC) .item ci s.items) (.acons (.arr (C := RC) .lines 3 [s.l0, s.l1, s.l2]) (.acons (.arr (C := RC) .int 3 [s.c0, s.c1, s.c2]) .anil)))
def recD (r : Rec) (c : Bool) : D RC := .acons (.int .i64 r.place) (.acons (.bool r.yes) (.acons (.sl (C := RC) .write c r.writes) .anil))
/-! ### bytes -/
def fitW (w : Write) : Bool := withinB w.key 0 255 && withinB w.value 0 255
def fitI (x : Item) : Bool := withinB x.key 0 255 && withinB x.place 0 16777215 && withinB x.value 0 255
def fitLn (x : Line) : Bool := withinB x.place 0 16777215 && withinB x.key 0 7 && withinB x.j 0 15 && withinB x.value 0 255
def wBytes (w : Write) : List UInt8 := [byteOf w.key, byteOf w.value]
def iBytes (x : Item) : List UInt8 := leB x.key 1 ++ leB x.place 3 ++ leB x.value 1
def lBytes (x : Line) : List UInt8 := leB x.place 3 ++ leB (x.key * 16 + x.j) 1 ++ leB x.value 1
def bytesR (r : Rec) : List UInt8 := leB r.place 3 ++ leB (bif r.yes then 1 else 0) 1 ++ leB r.writes.length 1 ++ r.writes.flatMap wBytes
def firstOff (l : List Line) : Int := (l.getD 0 ⟨0, 0, 0, 0, 0⟩).offset
def partBytes (c : Int) (l : List Line) : List UInt8 := leB c 3 ++ leB l.length 1 ++ leB (firstOff l) 3 ++ l.flatMap lBytes
def stBytes (s : St) : List UInt8 := leB s.place 3 ++ leB s.items.length 1 ++ s.items.flatMap iBytes ++ partBytes s.c0 s.l0 ++ partBytes s.c1 s.l1 ++ partBytes s.c2 s.l2

theorem putL_fits {b : List UInt8} {n : Int} {w : Nat} (h : fitsB n w = true) : putL b n w = b ++ leB n w := by simp [putL, h]
theorem fits1 {n : Int} (h : withinB n 0 255 = true) : fitsB n 1 = true := by
  rw [withinB_iff] at h; rw [fitsB_iff]; omega
theorem fits3 {n : Int} (h : withinB n 0 16777215 = true) : fitsB n 3 = true := by
  rw [withinB_iff] at h; rw [fitsB_iff]; omega
theorem bits_or_low {k j : Int} (hk : withinB k 0 7 = true) (hj : withinB j 0 15 = true) :
    bits .i64 (fun _ u v => u ||| v) (IntKind.i64.wrap (k * 2 ^ min (Int.toNat 4) 64)) j = k * 16 + j := by
  rw [withinB_iff] at hk hj
  obtain ⟨k, rfl⟩ : ∃ n : Nat, k = n := ⟨k.toNat, by omega⟩
  obtain ⟨j, rfl⟩ : ∃ n : Nat, j = n := ⟨j.toNat, by omega⟩
  have e : (k : Int) * 2 ^ min (Int.toNat 4) 64 = ((k * 16 : Nat) : Int) := by simp
  rw [e, wrap_id (by omega) (by omega)]
  unfold bits
  have h1 : ∀ x : Nat, x < 2 ^ 64 → (BitVec.ofInt IntKind.i64.bits (x : Int)).toNat = x := by
    intro x hx
    rw [BitVec.toNat_ofInt]
    simp only [IntKind.bits]
    omega
  rw [BitVec.toNat_or, h1 _ (by omega), h1 _ (by omega)]
  have h2 : k * 16 ||| j = k * 16 + j := by
    rw [Nat.mul_comm k 16, show (16 : Nat) = 2 ^ 4 from rfl, ← Nat.two_pow_add_eq_or_of_lt (by omega)]
  rw [h2, wrap_id (by omega) (by omega)]
  simp
theorem flatMap_drop_succ {α β : Type} (l : List α) (i : Nat) (f : α → List β) (h : i < l.length) (d : α) : (l.drop i).flatMap f = f (l.getD i d) ++ (l.drop (i + 1)).flatMap f := by
  rw [List.drop_eq_getElem_cons h, List.flatMap_cons]
  simp [h]
theorem all_getD {α : Type} {l : List α} {p : α → Bool} (h : l.all p = true) {i : Nat} (hi : i < l.length) (d : α) : p (l.getD i d) = true := by
  have : l.getD i d = l[i] := by simp [hi]
  rw [this]; exact List.all_eq_true.1 h _ (List.getElem_mem hi)
theorem wBytes_len (w : Write) : (wBytes w).length = 2 := rfl
theorem iBytes_len (x : Item) : (iBytes x).length = 5 := by simp [iBytes, leB_length]
theorem lBytes_len (x : Line) : (lBytes x).length = 5 := by simp [lBytes, leB_length]
theorem oneW_fit {w : Write} (h : oneWB w = true) : fitW w = true := by
  simp only [oneWB, fitW, Bool.and_eq_true, withinB_iff] at h ⊢; omega
theorem oneI_fit {p : Int} {x : Item} (h : oneIB p x = true) (hp : p ≤ 1048575) : fitI x = true := by
  simp only [oneIB, fitI, Bool.and_eq_true, withinB_iff] at h ⊢; omega
theorem oneL_fit {p : Int} {x : Line} (h : oneLB p x = true) (hp : p ≤ 1048575) : fitLn x = true := by
  simp only [oneLB, fitLn, Bool.and_eq_true, withinB_iff] at h ⊢; omega
theorem eachB_all {α : Type} (one : α → Bool) (two : α → α → Bool) : ∀ (l : List α) (p : Option α), eachB one two p l = true → l.all one = true
  | [], _, _ => rfl
  | x :: l, p, h => by
    simp only [eachB, Bool.and_eq_true] at h
    simp only [List.all_cons, Bool.and_eq_true]
    exact ⟨h.1.1, eachB_all one two l _ h.2⟩
theorem eachAt_all {α : Type} {one : α → Bool} {two : α → α → Bool} {l : List α} (h : eachAt one two l 0 = true) : l.all one = true := eachB_all one two _ _ h
theorem all_imp {α : Type} {p q : α → Bool} {l : List α} (h : l.all p = true) (hpq : ∀ x, p x = true → q x = true) : l.all q = true := by
  rw [List.all_eq_true] at h ⊢; exact fun x hx => hpq x (h x hx)
/-- rising keys within bounds are few -/
theorem rise_len {p : Int} : ∀ (l : List Item) (k : Int), eachB (oneIB p) twoIB none l = true → (∀ x ∈ l.head?, k ≤ x.key) → 0 ≤ k → k ≤ 24 → (l.length : Int) ≤ 24 - k
  | [], k, _, _, h0, h1 => by simp; omega
  | [x], k, h, hk, h0, h1 => by
    simp only [eachB, oneIB, Bool.and_eq_true, withinB_iff] at h
    have := hk x (by simp)
    simp; omega
  | x :: y :: l, k, h, hk, h0, h1 => by
    simp only [eachB, Bool.and_eq_true] at h
    have hx := h.1.1
    simp only [oneIB, Bool.and_eq_true, withinB_iff] at hx
    have hxy : x.key < y.key := by have := h.2.1.2; simpa [twoIB] using this
    have hk' := hk x (by simp)
    have := rise_len (y :: l) (x.key + 1) (by simp only [eachB, Bool.and_eq_true]; exact ⟨⟨h.2.1.1, trivial⟩, h.2.2⟩) (by simp; omega) (by omega) (by omega)
    simp only [List.length_cons] at this ⊢
    omega
theorem items_len {p : Int} {l : List Item} (h : eachAt (oneIB p) twoIB l 0 = true) : l.length ≤ 24 := by
  have := rise_len l 0 (p := p) h (by
    intro x hx
    have h1 := eachAt_all h
    have := List.all_eq_true.1 h1 x (List.mem_of_mem_head? hx)
    simp only [oneIB, Bool.and_eq_true, withinB_iff] at this; omega) (by omega) (by omega)
  omega
theorem may_facts {p : Int} {y : Bool} {l : List Write} (h : mayB ⟨p, y, l⟩ = true) : (1 ≤ p ∧ p ≤ 1048575) ∧ l.length ≤ 4 ∧ l.all fitW = true := by
  simp only [mayB, Bool.and_eq_true, withinB_iff, writtenL, decide_eq_true_eq] at h
  exact ⟨h.1.1, h.1.2.1, all_imp (eachAt_all h.1.2.2) fun _ => oneW_fit⟩
theorem part_facts {p c : Int} {l : List Line} (hp : p ≤ 1048575) (h : partOK p c l = true) : (0 ≤ c ∧ c ≤ 1048575) ∧ l.length ≤ 16 ∧ l.all fitLn = true ∧ (0 ≤ firstOff l ∧ firstOff l ≤ 4194303) := by
  simp only [partOK, Bool.and_eq_true, withinB_iff, decide_eq_true_eq] at h
  refine ⟨by omega, h.1.1.2, all_imp (eachAt_all h.2) fun x hx => oneL_fit hx hp, ?_⟩
  cases l with
  | nil => simp [firstOff]
  | cons x l =>
    have := List.all_eq_true.1 (eachAt_all h.2) x (by simp)
    simp only [oneLB, Bool.and_eq_true, withinB_iff] at this
    simp only [firstOff, List.getD_cons_zero]; omega
theorem stands_facts {p : Int} {items : List Item} {l0 l1 l2 : List Line} {c0 c1 c2 : Int} (h : standsOK ⟨p, items, l0, l1, l2, c0, c1, c2⟩ = true) :
    (0 ≤ p ∧ p ≤ 1048575) ∧ items.length ≤ 24 ∧ items.all fitI = true ∧
    ((0 ≤ c0 ∧ c0 ≤ 1048575) ∧ l0.length ≤ 16 ∧ l0.all fitLn = true ∧ (0 ≤ firstOff l0 ∧ firstOff l0 ≤ 4194303)) ∧
    ((0 ≤ c1 ∧ c1 ≤ 1048575) ∧ l1.length ≤ 16 ∧ l1.all fitLn = true ∧ (0 ≤ firstOff l1 ∧ firstOff l1 ≤ 4194303)) ∧
    ((0 ≤ c2 ∧ c2 ≤ 1048575) ∧ l2.length ≤ 16 ∧ l2.all fitLn = true ∧ (0 ≤ firstOff l2 ∧ firstOff l2 ≤ 4194303)) := by
  simp only [standsOK, Bool.and_eq_true, withinB_iff] at h
  obtain ⟨⟨⟨⟨hp, hi⟩, h0⟩, h1⟩, h2⟩ := h
  exact ⟨hp, items_len hi, all_imp (eachAt_all hi) fun x hx => oneI_fit hx hp.2, part_facts hp.2 h0, part_facts hp.2 h1, part_facts hp.2 h2⟩
theorem flatMap_len {α β : Type} (l : List α) (f : α → List β) (n : Nat) (h : ∀ x, (f x).length = n) : (l.flatMap f).length = n * l.length := by
  induction l with
  | nil => rfl
  | cons x l ih => simp only [List.flatMap_cons, List.length_append, h, ih, List.length_cons, Nat.mul_succ]; omega
theorem eachB_append {α : Type} (one : α → Bool) (two : α → α → Bool) : ∀ (l m : List α) (p : Option α), eachB one two p (l ++ m) = true → eachB one two p l = true
  | [], m, p, _ => rfl
  | x :: l, m, p, h => by
    simp only [List.cons_append, eachB, Bool.and_eq_true] at h ⊢
    exact ⟨h.1, eachB_append one two l m _ h.2⟩
theorem may_more {p : Int} {l : List Write} {w : Write} (h : mayB ⟨p, true, l ++ [w]⟩ = true) : mayB ⟨p, true, l⟩ = true := by
  simp only [mayB, writtenL, Bool.and_eq_true, decide_eq_true_eq, List.length_append, Bool.true_or, and_true, eachAt, ahead, List.drop_zero] at h ⊢
  exact ⟨h.1, by omega, eachB_append _ _ _ _ _ h.2.2⟩
theorem byteOf_fit {n : Int} (h : withinB n 0 255 = true) : ((byteOf n).toNat : Int) = n := by
  rw [byteOf_nat]; rw [withinB_iff] at h; omega
theorem more_shape {p : Int} {l : List Write} {k v : Int} (h1 : mayB ⟨p, true, l⟩ = true) (h2 : mayB ⟨p, true, l ++ [⟨k, v⟩]⟩ = true) :
    ∃ a0 a1 a2 a3 x x' f kb vb, bytesR ⟨p, true, l⟩ = a0 :: a1 :: a2 :: a3 :: x :: f ∧ bytesR ⟨p, true, l ++ [⟨k, v⟩]⟩ = a0 :: a1 :: a2 :: a3 :: x' :: (f ++ [kb, vb]) ∧ (x'.toNat : Int) = x.toNat + 1 ∧ (kb.toNat : Int) = k ∧ (vb.toNat : Int) = v ∧ f.length ≤ 8 := by
  obtain ⟨hp, hl, hw⟩ := may_facts h1
  obtain ⟨hp', hl', hw'⟩ := may_facts h2
  simp only [List.all_append, Bool.and_eq_true, List.all_cons, List.all_nil, fitW] at hw'
  refine ⟨_, _, _, _, byteOf l.length, byteOf (l ++ [(⟨k, v⟩ : Write)]).length, l.flatMap wBytes, byteOf k, byteOf v, rfl, ?_, ?_, byteOf_fit hw'.2.1.1, byteOf_fit hw'.2.1.2, by rw [flatMap_len l wBytes 2 wBytes_len]; omega⟩
  · simp [bytesR, leB, wBytes]
  · rw [byteOf_nat, byteOf_nat]; simp only [List.length_append, List.length_singleton] at hl' ⊢; omega
end Go.Ev
