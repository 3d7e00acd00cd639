/-
  RecordBack returns true for all records, states and bytes, and all read behind the call as before. No condition beyond the given statement. (text 6 of 6)
-/
import Derived.Test.YtnphmfcnnpoinaaP4
import Derived.OpenShut
import Derived.ReadAgain
import Derived.WalkKit
import Derived.ProofKit
import Derived.Test.YtnphmfcnnpoinaaRows
/-
  What is written reads as it was; what reads is written as those bytes.
-/
namespace Go.Ev
set_option linter.unusedVariables false
set_option linter.unusedSimpArgs false
theorem leB_leVal' {b : List UInt8} {w : Nat} (h : b.length = w) : leB (leVal b : Int) w = b := by subst h; exact leB_leVal b
theorem sget_back {w : Nat} {b : List UInt8} {q : Int × List UInt8} (h : sget w b = some q) : leB q.1 w ++ q.2 = b := by
  unfold sget at h
  split at h
  · cases h
    simp only
    rw [leB_leVal' (by simp; omega), List.take_append_drop]
  · cases h
theorem sget_nn {w : Nat} {b : List UInt8} {q : Int × List UInt8} (h : sget w b = some q) : 0 ≤ q.1 ∧ q.1 < 256 ^ w := by
  unfold sget at h
  split at h
  · cases h
    have := leVal_lt (b.take w)
    rw [List.length_take, Nat.min_eq_left (by assumption)] at this
    simp only
    refine ⟨by omega, ?_⟩
    have e : ((256 : Int) ^ w) = ((256 ^ w : Nat) : Int) := by simp
    rw [e]; omega
  · cases h
theorem sget_put {w : Nat} {n : Int} (l : List UInt8) (h : fitsB n w = true) : sget w (leB n w ++ l) = some (n, l) := by
  rw [fitsB_iff] at h
  have e := leB_length w n
  unfold sget
  rw [if_pos (by simp; omega), List.take_left' e, List.drop_left' e, leVal_leB w n h.1 h.2]
theorem sItems_back : ∀ (n : Nat) (b : List UInt8) (q : List Item × List UInt8), sItems n b = some q → q.1.length = n ∧ q.1.flatMap iBytes ++ q.2 = b
  | 0, b, q, h => by cases h; exact ⟨rfl, rfl⟩
  | n + 1, b, q, h => by
    simp only [sItems] at h
    cases h1 : sget 1 b with
    | none => simp only [h1] at h; cases h
    | some k =>
    simp only [h1, Option.bind_some] at h
    cases h2 : sget 3 k.2 with
    | none => simp only [h2] at h; cases h
    | some p =>
    simp only [h2, Option.bind_some] at h
    cases h3 : sget 1 p.2 with
    | none => simp only [h3] at h; cases h
    | some v =>
    simp only [h3, Option.bind_some] at h
    cases h4 : sItems n v.2 with
    | none => simp only [h4] at h; cases h
    | some r =>
    simp only [h4, Option.bind_some, Option.some.injEq] at h
    subst h
    obtain ⟨e1, e2⟩ := sItems_back n _ _ h4
    refine ⟨by simp [e1], ?_⟩
    simp only [List.flatMap_cons, iBytes, List.append_assoc, e2, sget_back h3, sget_back h2, sget_back h1]
theorem sItems_put : ∀ (l : List Item) (r : List UInt8), l.all fitI = true → sItems l.length (l.flatMap iBytes ++ r) = some (l, r)
  | [], r, _ => rfl
  | x :: l, r, h => by
    simp only [List.all_cons, Bool.and_eq_true] at h
    have hx := h.1
    simp only [fitI, Bool.and_eq_true] at hx
    simp only [List.length_cons, sItems, List.flatMap_cons, iBytes, List.append_assoc]
    rw [sget_put _ (fits1 hx.1.1)]; simp only [Option.bind_some]
    rw [sget_put _ (fits3 hx.1.2)]; simp only [Option.bind_some]
    rw [sget_put _ (fits1 hx.2)]; simp only [Option.bind_some]
    rw [sItems_put l r h.2]; rfl
def offs : Int → List Line → Prop
  | _, [] => True
  | o, x :: l => x.offset = o ∧ offs (o + 1) l
theorem sLines_back : ∀ (n : Nat) (o : Int) (b : List UInt8) (q : List Line × List UInt8), sLines n o b = some q → q.1.length = n ∧ q.1.flatMap lBytes ++ q.2 = b ∧ offs o q.1
  | 0, o, b, q, h => by cases h; exact ⟨rfl, rfl, trivial⟩
  | n + 1, o, b, q, h => by
    simp only [sLines] at h
    cases h1 : sget 3 b with
    | none => simp only [h1] at h; cases h
    | some k =>
    simp only [h1, Option.bind_some] at h
    cases h2 : sget 1 k.2 with
    | none => simp only [h2] at h; cases h
    | some p =>
    simp only [h2, Option.bind_some] at h
    cases h3 : sget 1 p.2 with
    | none => simp only [h3] at h; cases h
    | some v =>
    simp only [h3, Option.bind_some] at h
    cases h4 : sLines n (o + 1) v.2 with
    | none => simp only [h4] at h; cases h
    | some r =>
    simp only [h4, Option.bind_some, Option.some.injEq] at h
    subst h
    obtain ⟨e1, e2, e3⟩ := sLines_back n _ _ _ h4
    refine ⟨by simp [e1], ?_, rfl, e3⟩
    have e : p.1 / 16 * 16 + p.1 % 16 = p.1 := by omega
    simp only [List.flatMap_cons, lBytes, List.append_assoc, e2, e, sget_back h3, sget_back h2, sget_back h1]
theorem sLines_put : ∀ (l : List Line) (o : Int) (r : List UInt8), l.all fitLn = true → offs o l → sLines l.length o (l.flatMap lBytes ++ r) = some (l, r)
  | [], o, r, _, _ => rfl
  | x :: l, o, r, h, ho => by
    simp only [List.all_cons, Bool.and_eq_true] at h
    have hx := h.1
    simp only [fitLn, Bool.and_eq_true] at hx
    obtain ⟨⟨⟨x1, x2⟩, x3⟩, x4⟩ := hx
    have hf : withinB (x.key * 16 + x.j) 0 255 = true := by rw [withinB_iff] at x2 x3 ⊢; omega
    simp only [List.length_cons, sLines, List.flatMap_cons, lBytes, List.append_assoc]
    rw [sget_put _ (fits3 x1)]; simp only [Option.bind_some]
    rw [sget_put _ (fits1 hf)]; simp only [Option.bind_some]
    rw [sget_put _ (fits1 x4)]; simp only [Option.bind_some]
    rw [sLines_put l (o + 1) r h.2 ho.2]
    rw [withinB_iff] at x2 x3
    have e1 : (x.key * 16 + x.j) % 16 = x.j := by omega
    have e2 : (x.key * 16 + x.j) / 16 = x.key := by omega
    simp only [Option.bind_some, e1, e2, ← ho.1]
theorem sPart_back {b : List UInt8} {q : (Int × List Line) × List UInt8} (h : sPart b = some q) : partBytes q.1.1 q.1.2 ++ q.2 = b := by
  simp only [sPart] at h
  cases h1 : sget 3 b with
  | none => simp only [h1] at h; cases h
  | some c =>
  simp only [h1, Option.bind_some] at h
  cases h2 : sget 1 c.2 with
  | none => simp only [h2] at h; cases h
  | some n =>
  simp only [h2, Option.bind_some] at h
  cases h3 : sget 3 n.2 with
  | none => simp only [h3] at h; cases h
  | some f =>
  simp only [h3, Option.bind_some] at h
  split at h
  · cases h
  rename_i hc
  cases h4 : sLines n.1.toNat f.1 f.2 with
  | none => simp only [h4] at h; cases h
  | some r =>
  simp only [h4, Option.bind_some, Option.some.injEq] at h
  subst h
  obtain ⟨e1, e2, e3⟩ := sLines_back _ _ _ _ h4
  have hn := sget_nn h2
  have el : ((r.1.length : Nat) : Int) = n.1 := by rw [e1]; omega
  have ef : firstOff r.1 = f.1 := by
    cases hr : r.1 with
    | nil =>
      rw [hr] at el
      simp only [firstOff, List.getD_nil]
      simp only [List.length_nil] at el
      have h5 : n.1 = 0 := by omega
      have : ¬ (f.1 ≠ 0) := fun h6 => hc ⟨h5, h6⟩
      omega
    | cons x l => rw [hr] at e3; simpa [firstOff] using e3.1
  simp only [partBytes, el, ef, List.append_assoc, e2, sget_back h3, sget_back h2, sget_back h1]
theorem sPart_put {c : Int} {l : List Line} (r : List UInt8) (hc : 0 ≤ c ∧ c ≤ 1048575) (hl : l.length ≤ 16) (ha : l.all fitLn = true) (hf : 0 ≤ firstOff l ∧ firstOff l ≤ 4194303) (ho : offs (firstOff l) l) : sPart (partBytes c l ++ r) = some ((c, l), r) := by
  simp only [sPart, partBytes, List.append_assoc]
  rw [sget_put _ (fits3 (by rw [withinB_iff]; omega))]; simp only [Option.bind_some]
  rw [sget_put _ (fits1 (by rw [withinB_iff]; omega))]; simp only [Option.bind_some]
  rw [sget_put _ (fits3 (by rw [withinB_iff]; omega))]; simp only [Option.bind_some]
  rw [if_neg]
  · rw [Int.toNat_natCast, sLines_put l _ r ha ho]; rfl
  · rintro ⟨h1, h2⟩
    have : l = [] := List.length_eq_zero_iff.1 (by omega)
    subst this
    simp [firstOff] at h2
theorem eachB_offs {p : Int} : ∀ (l : List Line) (o : Int), (∀ x ∈ l.head?, x.offset = o) → eachB (oneLB p) twoLB none l = true → offs o l
  | [], _, _, _ => trivial
  | [x], o, h, _ => ⟨h x (by simp), trivial⟩
  | x :: y :: l, o, h, he => by
    simp only [eachB, Bool.and_eq_true] at he
    have hx := h x (by simp)
    refine ⟨hx, eachB_offs (y :: l) (o + 1) ?_ (by simp only [eachB, Bool.and_eq_true]; exact ⟨⟨he.2.1.1, trivial⟩, he.2.2⟩)⟩
    have h1 := he.1.1
    have h2 := he.2.1.2
    simp only [oneLB, Bool.and_eq_true, withinB_iff] at h1
    simp only [twoLB, Bool.and_eq_true, beq_iff_eq] at h2
    intro z hz
    simp only [List.head?_cons, Option.mem_def, Option.some.injEq] at hz
    subst hz
    rw [h2.1, wrap_id (by omega) (by omega), hx]
theorem part_offs {p c : Int} {l : List Line} (h : partOK p c l = true) : offs (firstOff l) l := by
  simp only [partOK, Bool.and_eq_true] at h
  refine eachB_offs (p := p) l _ ?_ h.2
  cases l with
  | nil => intro x hx; cases hx
  | cons y l => intro x hx; simp only [List.head?_cons, Option.mem_def, Option.some.injEq] at hx; subst hx; rfl
theorem readS_put {s : St} (h : standsOK s = true) : readS (stBytes s) = some s := by
  obtain ⟨p, it, l0, l1, l2, c0, c1, c2⟩ := s
  obtain ⟨hp, hn, hi, h0, h1, h2⟩ := stands_facts h
  have hh := h
  simp only [standsOK, Bool.and_eq_true] at hh
  have o0 := part_offs hh.1.1.2
  have o1 := part_offs hh.1.2
  have o2 := part_offs hh.2
  have e : sState (stBytes ⟨p, it, l0, l1, l2, c0, c1, c2⟩) = some (⟨p, it, l0, l1, l2, c0, c1, c2⟩, []) := by
    simp only [sState, stBytes, List.append_assoc]
    rw [sget_put _ (fits3 (by rw [withinB_iff]; omega))]; simp only [Option.bind_some]
    rw [sget_put _ (fits1 (by rw [withinB_iff]; omega))]; simp only [Option.bind_some]
    rw [Int.toNat_natCast, sItems_put it _ hi]; simp only [Option.bind_some]
    rw [sPart_put _ h0.1 h0.2.1 h0.2.2.1 h0.2.2.2 o0]; simp only [Option.bind_some]
    rw [sPart_put _ h1.1 h1.2.1 h1.2.2.1 h1.2.2.2 o1]; simp only [Option.bind_some]
    rw [← List.append_nil (partBytes c2 l2), sPart_put _ h2.1 h2.2.1 h2.2.2.1 h2.2.2.2 o2]; rfl
  rw [readS_eq, e]
  simp [h]
theorem readS_back {b : List UInt8} {s : St} (h : readS b = some s) : stBytes s = b := by
  rw [readS_eq] at h
  cases hq : sState b with
  | none => simp only [hq] at h; cases h
  | some q =>
  simp only [hq] at h
  split at h
  · rename_i hc
    cases h
    obtain ⟨s, r⟩ := q
    obtain ⟨hr, hs⟩ := hc
    simp only at hr; subst hr
    simp only [sState] at hq
    cases h1 : sget 3 b with
    | none => simp only [h1] at hq; cases hq
    | some p =>
    simp only [h1, Option.bind_some] at hq
    cases h2 : sget 1 p.2 with
    | none => simp only [h2] at hq; cases hq
    | some n =>
    simp only [h2, Option.bind_some] at hq
    cases h3 : sItems n.1.toNat n.2 with
    | none => simp only [h3] at hq; cases hq
    | some it =>
    simp only [h3, Option.bind_some] at hq
    cases h4 : sPart it.2 with
    | none => simp only [h4] at hq; cases hq
    | some x =>
    simp only [h4, Option.bind_some] at hq
    cases h5 : sPart x.2 with
    | none => simp only [h5] at hq; cases hq
    | some y =>
    simp only [h5, Option.bind_some] at hq
    cases h6 : sPart y.2 with
    | none => simp only [h6] at hq; cases hq
    | some z =>
    simp only [h6, Option.bind_some, Option.some.injEq, Prod.mk.injEq] at hq
    obtain ⟨hs1, hz⟩ := hq
    subst hs1
    obtain ⟨e1, e2⟩ := sItems_back _ _ _ h3
    have hn := sget_nn h2
    have el : ((it.1.length : Nat) : Int) = n.1 := by rw [e1]; omega
    have e6 := sPart_back h6
    rw [hz, List.append_nil] at e6
    simp only [stBytes, List.append_assoc, el, e6, sPart_back h5, sPart_back h4, e2, sget_back h2, sget_back h1]
  · cases h
theorem pairs_flat : ∀ (n : Nat) (b : List UInt8), b.length = 2 * n → (pairsN n b).flatMap wBytes = b
  | 0, b, h => by
    have : b = [] := List.length_eq_zero_iff.1 (by omega)
    subst this; rfl
  | n + 1, x :: y :: b, h => by
    have e := pairs_flat n b (by simp at h; omega)
    have hb : ∀ x : UInt8, byteOf (x.toNat : Int) = x := by
      intro x; apply UInt8.toNat_inj.1
      have := byteOf_nat (x.toNat : Int)
      have := x.toNat_lt
      omega
    simp [pairsN, wBytes, hb, e]
  | n + 1, [x], h => by simp at h; omega
  | n + 1, [], h => by simp at h
theorem byteOf_toNat (x : UInt8) : byteOf (x.toNat : Int) = x := by
  apply UInt8.toNat_inj.1
  have := byteOf_nat (x.toNat : Int)
  have := x.toNat_lt
  omega
theorem readR_back {b : List UInt8} {r : Rec} (h : readR b = some r) : bytesR r = b := by
  unfold readR at h
  split at h
  · rename_i hc
    cases h
    obtain ⟨h1, h2, h3, h4⟩ := hc
    obtain ⟨x0, x1, x2, x3, x4, t, rfl⟩ : ∃ x0 x1 x2 x3 x4 t, b = x0 :: x1 :: x2 :: x3 :: x4 :: t := by
      match b, h1 with
      | x0 :: x1 :: x2 :: x3 :: x4 :: t, _ => exact ⟨_, _, _, _, _, _, rfl⟩
    have e3 := leB_leVal [x0, x1, x2]
    simp only [List.length_cons, List.length_nil, Nat.zero_add, Nat.reduceAdd] at e3
    have hx3 : (bif x3.toNat == 1 then (1 : Int) else 0) = x3.toNat := by
      simp at h2
      by_cases q : x3.toNat = 1
      · simp [q]
      · have : x3.toNat = 0 := by omega
        simp [this]
    have ht : t.length = 2 * x4.toNat := by simp at h3; omega
    simp [bytesR, pairsN_len, e3, hx3, leB1, byteOf_toNat, pairs_flat _ _ ht]
  · cases h
theorem pairs_put : ∀ (l : List Write), l.all fitW = true → pairsN l.length (l.flatMap wBytes) = l
  | [], _ => rfl
  | w :: l, h => by
    simp only [List.all_cons, Bool.and_eq_true] at h
    have hw := h.1
    simp only [fitW, Bool.and_eq_true] at hw
    simp [pairsN, wBytes, byteOf_fit hw.1, byteOf_fit hw.2, pairs_put l h.2]
theorem readR_put {r : Rec} (h : mayB r = true) : readR (bytesR r) = some r := by
  obtain ⟨p, y, l⟩ := r
  obtain ⟨hp, hl, hw⟩ := may_facts h
  have e0 : bytesR ⟨p, y, l⟩ = byteOf p :: byteOf (p.fdiv 256) :: byteOf ((p.fdiv 256).fdiv 256) :: byteOf (bif y then 1 else 0) :: byteOf l.length :: l.flatMap wBytes := by simp [bytesR, leB3, leB1]
  have e1 : (leVal [byteOf p, byteOf (p.fdiv 256), byteOf ((p.fdiv 256).fdiv 256)] : Int) = p := leVal_leB 3 p (by omega) (by omega)
  have e2 : ((byteOf (l.length : Int)).toNat : Int) = l.length := byteOf_fit (by rw [withinB_iff]; omega)
  have e3 : (byteOf (l.length : Int)).toNat = l.length := by omega
  have e4 : (byteOf (bif y then 1 else 0)).toNat = bif y then 1 else 0 := by cases y <;> decide
  have e5 : ((bif y then 1 else 0) == 1) = y := by cases y <;> rfl
  have e6 : (bif y then 1 else 0) ≤ 1 := by cases y <;> decide
  have e7 : (l.flatMap wBytes).length = 2 * l.length := flatMap_len l wBytes 2 wBytes_len
  rw [e0, readR]
  have t3 : ∀ (a b c d e : UInt8) (t : List UInt8), (a :: b :: c :: d :: e :: t).take 3 = [a, b, c] := fun _ _ _ _ _ _ => rfl
  have d5 : ∀ (a b c d e : UInt8) (t : List UInt8), (a :: b :: c :: d :: e :: t).drop 5 = t := fun _ _ _ _ _ _ => rfl
  have g3 : ∀ (a b c d e : UInt8) (t : List UInt8), (a :: b :: c :: d :: e :: t).getD 3 0 = d := fun _ _ _ _ _ _ => rfl
  have g4 : ∀ (a b c d e : UInt8) (t : List UInt8), (a :: b :: c :: d :: e :: t).getD 4 0 = e := fun _ _ _ _ _ _ => rfl
  simp only [t3, d5, g3, g4, e1, e3, e4, e5, pairs_put l hw, h, List.length_cons, e7]
  rw [if_pos ⟨by omega, e6, by omega, trivial⟩]
theorem bytesR_len {r : Rec} (h : mayB r = true) : (bytesR r).length ≤ 13 := by
  obtain ⟨p, y, l⟩ := r
  obtain ⟨hp, hl, hw⟩ := may_facts h
  simp only [bytesR, List.length_append, leB_length, flatMap_len l wBytes 2 wBytes_len]
  omega
theorem partBytes_len (c : Int) (l : List Line) : (partBytes c l).length = 7 + 5 * l.length := by
  simp only [partBytes, List.length_append, leB_length, flatMap_len l lBytes 5 lBytes_len]
theorem stBytes_len {s : St} (h : standsOK s = true) : (stBytes s).length ≤ 385 := by
  obtain ⟨p, it, l0, l1, l2, c0, c1, c2⟩ := s
  obtain ⟨hp, hn, hi, h0, h1, h2⟩ := stands_facts h
  simp only [stBytes, List.length_append, leB_length, flatMap_len it iBytes 5 iBytes_len, partBytes_len]
  omega
end Go.Ev

namespace Go.Ev
open Go.Proofs
set_option maxRecDepth 100000
set_option linter.unusedVariables false
set_option linter.unusedSimpArgs false
/-! ### function back: flume/flumelaw05.RecordBack -/
def back_s (rp : Int) (ry : Bool) (rc : Bool) (rw : List Write) (sp : Int) (sci : Bool) (sit : List Item) (sk0 : Bool) (sk1 : Bool) (sk2 : Bool) (sl0 : List Line) (sl1 : List Line) (sl2 : List Line) (sc0 : Int) (sc1 : Int) (sc2 : Int) (c : Bool) (b : List UInt8) : Option (Bool × D RC) := some (lenOK rw.length && (lenOK sit.length && lenOK sl0.length && lenOK sl1.length && lenOK sl2.length) && lenOK b.length, .bool true)
def back_sp : List (D RC) → Option (Bool × D RC)
  | [.acons (.int .i64 rp) (.acons (.bool ry) (.acons (.sl .write rc rw) .anil)), .acons (.int .i64 sp) (.acons (.sl .item sci sit) (.acons (.acons (.sl .line sk0 sl0) (.acons (.sl .line sk1 sl1) (.acons (.sl .line sk2 sl2) .anil))) (.acons (.arr .int 3 [sc0, sc1, sc2]) .anil))), .sl .u8 c b] => back_s rp ry rc rw sp sci sit sk0 sk1 sk2 sl0 sl1 sl2 sc0 sc1 sc2 c b
  | _ => none
noncomputable def back_e (rp : Int) (ry : Bool) (rc : Bool) (rw : List Write) (sp : Int) (sci : Bool) (sit : List Item) (sk0 : Bool) (sk1 : Bool) (sk2 : Bool) (sl0 : List Line) (sl1 : List Line) (sl2 : List Line) (sc0 : Int) (sc1 : Int) (sc2 : Int) (c : Bool) (b : List UInt8) := evF s05 uh_8 60 9 [.acons (.int .i64 rp) (.acons (.bool ry) (.acons (.sl (C := RC) .write rc rw) .anil)), .acons (.int .i64 sp) (.acons (.sl (C := RC) .item sci sit) (.acons (.acons (.sl (C := RC) .line sk0 sl0) (.acons (.sl (C := RC) .line sk1 sl1) (.acons (.sl (C := RC) .line sk2 sl2) .anil))) (.acons (.arr (C := RC) .int 3 [sc0, sc1, sc2]) .anil))), .sl (C := RC) .u8 c b]
theorem back_eq (rp : Int) (ry : Bool) (rc : Bool) (rw : List Write) (sp : Int) (sci : Bool) (sit : List Item) (sk0 : Bool) (sk1 : Bool) (sk2 : Bool) (sl0 : List Line) (sl1 : List Line) (sl2 : List Line) (sc0 : Int) (sc1 : Int) (sc2 : Int) (c : Bool) (b : List UInt8) : back_e rp ry rc rw sp sci sit sk0 sk1 sk2 sl0 sl1 sl2 sc0 sc1 sc2 c b = (bif lenOK (List.length rw) then bif decide ((40 : Int) < (↑(List.length rw) : Int)) then some (D.bool true) else bif lenOK (List.length sit) then bif decide ((60 : Int) < (↑(List.length sit) : Int)) then some (D.bool true) else bif lenOK (List.length sl0) then bif decide ((40 : Int) < (↑(List.length sl0) : Int)) then some (D.bool true) else bif lenOK (List.length sl1) then bif decide ((40 : Int) < (↑(List.length sl1) : Int)) then some (D.bool true) else bif lenOK (List.length sl2) then bif decide ((40 : Int) < (↑(List.length sl2) : Int)) then some (D.bool true) else bif lenOK (List.length b) then bif decide ((2000 : Int) < (↑(List.length b) : Int)) then some (D.bool true) else bif lenOK (List.length rw) then bif (bif mayB (Rec.mk rp ry rw) then (0 : Int) else (2 : Int)) == (0 : Int) then bif decide (List.length (bif mayB (Rec.mk rp ry rw) then bytesR (Rec.mk rp ry rw) else []) ≤ (1000000 : Nat)) then bif (bif Option.isNone (readR (bif mayB (Rec.mk rp ry rw) then bytesR (Rec.mk rp ry rw) else [])) then (50 : Int) else (0 : Int)) != (0 : Int) then some (D.bool false) else bif lenOK (List.length (Rec.writes (recG (readR (bif mayB (Rec.mk rp ry rw) then bytesR (Rec.mk rp ry rw) else []))))) && lenOK (List.length rw) then bif !decide (Rec.mk (Rec.place (recG (readR (bif mayB (Rec.mk rp ry rw) then bytesR (Rec.mk rp ry rw) else [])))) (Rec.yes (recG (readR (bif mayB (Rec.mk rp ry rw) then bytesR (Rec.mk rp ry rw) else [])))) (Rec.writes (recG (readR (bif mayB (Rec.mk rp ry rw) then bytesR (Rec.mk rp ry rw) else [])))) = Rec.mk rp ry rw) then some (D.bool false) else bif lenOK (List.length (bif mayB (Rec.mk rp ry rw) then bytesR (Rec.mk rp ry rw) else [])) then bif decide ((600 : Int) < (↑(List.length (bif mayB (Rec.mk rp ry rw) then bytesR (Rec.mk rp ry rw) else [])) : Int)) then some (D.bool false) else bif decide (List.length sit ≤ (9223372036854775807 : Nat) ∧ List.length sl0 ≤ (9223372036854775807 : Nat) ∧ List.length sl1 ≤ (9223372036854775807 : Nat) ∧ List.length sl2 ≤ (9223372036854775807 : Nat)) then bif (bif standsOK (St.mk sp sit sl0 sl1 sl2 sc0 sc1 sc2) then (0 : Int) else (2 : Int)) == (0 : Int) then bif decide (List.length (bif standsOK (St.mk sp sit sl0 sl1 sl2 sc0 sc1 sc2) then stBytes (St.mk sp sit sl0 sl1 sl2 sc0 sc1 sc2) else []) ≤ (1000000 : Nat)) then bif (bif Option.isNone (readS (bif standsOK (St.mk sp sit sl0 sl1 sl2 sc0 sc1 sc2) then stBytes (St.mk sp sit sl0 sl1 sl2 sc0 sc1 sc2) else [])) then (50 : Int) else (0 : Int)) != (0 : Int) then some (D.bool false) else bif lenOK (List.length (St.items (stG (readS (bif standsOK (St.mk sp sit sl0 sl1 sl2 sc0 sc1 sc2) then stBytes (St.mk sp sit sl0 sl1 sl2 sc0 sc1 sc2) else []))))) && lenOK (List.length sit) && (lenOK (List.length (St.l0 (stG (readS (bif standsOK (St.mk sp sit sl0 sl1 sl2 sc0 sc1 sc2) then stBytes (St.mk sp sit sl0 sl1 sl2 sc0 sc1 sc2) else []))))) && lenOK (List.length sl0)) && (lenOK (List.length (St.l1 (stG (readS (bif standsOK (St.mk sp sit sl0 sl1 sl2 sc0 sc1 sc2) then stBytes (St.mk sp sit sl0 sl1 sl2 sc0 sc1 sc2) else []))))) && lenOK (List.length sl1)) && (lenOK (List.length (St.l2 (stG (readS (bif standsOK (St.mk sp sit sl0 sl1 sl2 sc0 sc1 sc2) then stBytes (St.mk sp sit sl0 sl1 sl2 sc0 sc1 sc2) else []))))) && lenOK (List.length sl2)) then bif !decide (St.mk (St.place (stG (readS (bif standsOK (St.mk sp sit sl0 sl1 sl2 sc0 sc1 sc2) then stBytes (St.mk sp sit sl0 sl1 sl2 sc0 sc1 sc2) else [])))) (St.items (stG (readS (bif standsOK (St.mk sp sit sl0 sl1 sl2 sc0 sc1 sc2) then stBytes (St.mk sp sit sl0 sl1 sl2 sc0 sc1 sc2) else [])))) (St.l0 (stG (readS (bif standsOK (St.mk sp sit sl0 sl1 sl2 sc0 sc1 sc2) then stBytes (St.mk sp sit sl0 sl1 sl2 sc0 sc1 sc2) else [])))) (St.l1 (stG (readS (bif standsOK (St.mk sp sit sl0 sl1 sl2 sc0 sc1 sc2) then stBytes (St.mk sp sit sl0 sl1 sl2 sc0 sc1 sc2) else [])))) (St.l2 (stG (readS (bif standsOK (St.mk sp sit sl0 sl1 sl2 sc0 sc1 sc2) then stBytes (St.mk sp sit sl0 sl1 sl2 sc0 sc1 sc2) else [])))) (St.c0 (stG (readS (bif standsOK (St.mk sp sit sl0 sl1 sl2 sc0 sc1 sc2) then stBytes (St.mk sp sit sl0 sl1 sl2 sc0 sc1 sc2) else [])))) (St.c1 (stG (readS (bif standsOK (St.mk sp sit sl0 sl1 sl2 sc0 sc1 sc2) then stBytes (St.mk sp sit sl0 sl1 sl2 sc0 sc1 sc2) else [])))) (St.c2 (stG (readS (bif standsOK (St.mk sp sit sl0 sl1 sl2 sc0 sc1 sc2) then stBytes (St.mk sp sit sl0 sl1 sl2 sc0 sc1 sc2) else [])))) = St.mk sp sit sl0 sl1 sl2 sc0 sc1 sc2) then some (D.bool false) else bif lenOK (List.length (bif standsOK (St.mk sp sit sl0 sl1 sl2 sc0 sc1 sc2) then stBytes (St.mk sp sit sl0 sl1 sl2 sc0 sc1 sc2) else [])) then bif decide ((600 : Int) < (↑(List.length (bif standsOK (St.mk sp sit sl0 sl1 sl2 sc0 sc1 sc2) then stBytes (St.mk sp sit sl0 sl1 sl2 sc0 sc1 sc2) else [])) : Int)) then some (D.bool false) else bif decide (List.length b ≤ (1000000 : Nat)) then bif (bif Option.isNone (readR b) then (50 : Int) else (0 : Int)) == (0 : Int) then bif lenOK (List.length (Rec.writes (recG (readR b)))) then bif (bif mayB (Rec.mk (Rec.place (recG (readR b))) (Rec.yes (recG (readR b))) (Rec.writes (recG (readR b)))) then (0 : Int) else (2 : Int)) != (0 : Int) then some (D.bool false) else bif !(fun (l : List (RA RTy.u8)) => l) (bif mayB (Rec.mk (Rec.place (recG (readR b))) (Rec.yes (recG (readR b))) (Rec.writes (recG (readR b)))) then bytesR (Rec.mk (Rec.place (recG (readR b))) (Rec.yes (recG (readR b))) (Rec.writes (recG (readR b)))) else []) == (fun (l : List (RA RTy.u8)) => l) b then some (D.bool false) else bif decide (List.length b ≤ (1000000 : Nat)) then bif (bif Option.isNone (readS b) then (50 : Int) else (0 : Int)) == (0 : Int) then bif decide (List.length (St.items (stG (readS b))) ≤ (9223372036854775807 : Nat) ∧ List.length (St.l0 (stG (readS b))) ≤ (9223372036854775807 : Nat) ∧ List.length (St.l1 (stG (readS b))) ≤ (9223372036854775807 : Nat) ∧ List.length (St.l2 (stG (readS b))) ≤ (9223372036854775807 : Nat)) then bif (bif standsOK (St.mk (St.place (stG (readS b))) (St.items (stG (readS b))) (St.l0 (stG (readS b))) (St.l1 (stG (readS b))) (St.l2 (stG (readS b))) (St.c0 (stG (readS b))) (St.c1 (stG (readS b))) (St.c2 (stG (readS b)))) then (0 : Int) else (2 : Int)) != (0 : Int) then some (D.bool false) else bif !(fun (l : List (RA RTy.u8)) => l) (bif standsOK (St.mk (St.place (stG (readS b))) (St.items (stG (readS b))) (St.l0 (stG (readS b))) (St.l1 (stG (readS b))) (St.l2 (stG (readS b))) (St.c0 (stG (readS b))) (St.c1 (stG (readS b))) (St.c2 (stG (readS b)))) then stBytes (St.mk (St.place (stG (readS b))) (St.items (stG (readS b))) (St.l0 (stG (readS b))) (St.l1 (stG (readS b))) (St.l2 (stG (readS b))) (St.c0 (stG (readS b))) (St.c1 (stG (readS b))) (St.c2 (stG (readS b)))) else []) == (fun (l : List (RA RTy.u8)) => l) b then some (D.bool false) else some (D.bool true) else none else some (D.bool true) else none else none else bif decide (List.length b ≤ (1000000 : Nat)) then bif (bif Option.isNone (readS b) then (50 : Int) else (0 : Int)) == (0 : Int) then bif decide (List.length (St.items (stG (readS b))) ≤ (9223372036854775807 : Nat) ∧ List.length (St.l0 (stG (readS b))) ≤ (9223372036854775807 : Nat) ∧ List.length (St.l1 (stG (readS b))) ≤ (9223372036854775807 : Nat) ∧ List.length (St.l2 (stG (readS b))) ≤ (9223372036854775807 : Nat)) then bif (bif standsOK (St.mk (St.place (stG (readS b))) (St.items (stG (readS b))) (St.l0 (stG (readS b))) (St.l1 (stG (readS b))) (St.l2 (stG (readS b))) (St.c0 (stG (readS b))) (St.c1 (stG (readS b))) (St.c2 (stG (readS b)))) then (0 : Int) else (2 : Int)) != (0 : Int) then some (D.bool false) else bif !(fun (l : List (RA RTy.u8)) => l) (bif standsOK (St.mk (St.place (stG (readS b))) (St.items (stG (readS b))) (St.l0 (stG (readS b))) (St.l1 (stG (readS b))) (St.l2 (stG (readS b))) (St.c0 (stG (readS b))) (St.c1 (stG (readS b))) (St.c2 (stG (readS b)))) then stBytes (St.mk (St.place (stG (readS b))) (St.items (stG (readS b))) (St.l0 (stG (readS b))) (St.l1 (stG (readS b))) (St.l2 (stG (readS b))) (St.c0 (stG (readS b))) (St.c1 (stG (readS b))) (St.c2 (stG (readS b)))) else []) == (fun (l : List (RA RTy.u8)) => l) b then some (D.bool false) else some (D.bool true) else none else some (D.bool true) else none else none else none else none else none else bif decide (List.length b ≤ (1000000 : Nat)) then bif (bif Option.isNone (readR b) then (50 : Int) else (0 : Int)) == (0 : Int) then bif lenOK (List.length (Rec.writes (recG (readR b)))) then bif (bif mayB (Rec.mk (Rec.place (recG (readR b))) (Rec.yes (recG (readR b))) (Rec.writes (recG (readR b)))) then (0 : Int) else (2 : Int)) != (0 : Int) then some (D.bool false) else bif !(fun (l : List (RA RTy.u8)) => l) (bif mayB (Rec.mk (Rec.place (recG (readR b))) (Rec.yes (recG (readR b))) (Rec.writes (recG (readR b)))) then bytesR (Rec.mk (Rec.place (recG (readR b))) (Rec.yes (recG (readR b))) (Rec.writes (recG (readR b)))) else []) == (fun (l : List (RA RTy.u8)) => l) b then some (D.bool false) else bif decide (List.length b ≤ (1000000 : Nat)) then bif (bif Option.isNone (readS b) then (50 : Int) else (0 : Int)) == (0 : Int) then bif decide (List.length (St.items (stG (readS b))) ≤ (9223372036854775807 : Nat) ∧ List.length (St.l0 (stG (readS b))) ≤ (9223372036854775807 : Nat) ∧ List.length (St.l1 (stG (readS b))) ≤ (9223372036854775807 : Nat) ∧ List.length (St.l2 (stG (readS b))) ≤ (9223372036854775807 : Nat)) then bif (bif standsOK (St.mk (St.place (stG (readS b))) (St.items (stG (readS b))) (St.l0 (stG (readS b))) (St.l1 (stG (readS b))) (St.l2 (stG (readS b))) (St.c0 (stG (readS b))) (St.c1 (stG (readS b))) (St.c2 (stG (readS b)))) then (0 : Int) else (2 : Int)) != (0 : Int) then some (D.bool false) else bif !(fun (l : List (RA RTy.u8)) => l) (bif standsOK (St.mk (St.place (stG (readS b))) (St.items (stG (readS b))) (St.l0 (stG (readS b))) (St.l1 (stG (readS b))) (St.l2 (stG (readS b))) (St.c0 (stG (readS b))) (St.c1 (stG (readS b))) (St.c2 (stG (readS b)))) then stBytes (St.mk (St.place (stG (readS b))) (St.items (stG (readS b))) (St.l0 (stG (readS b))) (St.l1 (stG (readS b))) (St.l2 (stG (readS b))) (St.c0 (stG (readS b))) (St.c1 (stG (readS b))) (St.c2 (stG (readS b)))) else []) == (fun (l : List (RA RTy.u8)) => l) b then some (D.bool false) else some (D.bool true) else none else some (D.bool true) else none else none else bif decide (List.length b ≤ (1000000 : Nat)) then bif (bif Option.isNone (readS b) then (50 : Int) else (0 : Int)) == (0 : Int) then bif decide (List.length (St.items (stG (readS b))) ≤ (9223372036854775807 : Nat) ∧ List.length (St.l0 (stG (readS b))) ≤ (9223372036854775807 : Nat) ∧ List.length (St.l1 (stG (readS b))) ≤ (9223372036854775807 : Nat) ∧ List.length (St.l2 (stG (readS b))) ≤ (9223372036854775807 : Nat)) then bif (bif standsOK (St.mk (St.place (stG (readS b))) (St.items (stG (readS b))) (St.l0 (stG (readS b))) (St.l1 (stG (readS b))) (St.l2 (stG (readS b))) (St.c0 (stG (readS b))) (St.c1 (stG (readS b))) (St.c2 (stG (readS b)))) then (0 : Int) else (2 : Int)) != (0 : Int) then some (D.bool false) else bif !(fun (l : List (RA RTy.u8)) => l) (bif standsOK (St.mk (St.place (stG (readS b))) (St.items (stG (readS b))) (St.l0 (stG (readS b))) (St.l1 (stG (readS b))) (St.l2 (stG (readS b))) (St.c0 (stG (readS b))) (St.c1 (stG (readS b))) (St.c2 (stG (readS b)))) then stBytes (St.mk (St.place (stG (readS b))) (St.items (stG (readS b))) (St.l0 (stG (readS b))) (St.l1 (stG (readS b))) (St.l2 (stG (readS b))) (St.c0 (stG (readS b))) (St.c1 (stG (readS b))) (St.c2 (stG (readS b)))) else []) == (fun (l : List (RA RTy.u8)) => l) b then some (D.bool false) else some (D.bool true) else none else some (D.bool true) else none else none else none else none else none else none else bif decide (List.length sit ≤ (9223372036854775807 : Nat) ∧ List.length sl0 ≤ (9223372036854775807 : Nat) ∧ List.length sl1 ≤ (9223372036854775807 : Nat) ∧ List.length sl2 ≤ (9223372036854775807 : Nat)) then bif (bif standsOK (St.mk sp sit sl0 sl1 sl2 sc0 sc1 sc2) then (0 : Int) else (2 : Int)) == (0 : Int) then bif decide (List.length (bif standsOK (St.mk sp sit sl0 sl1 sl2 sc0 sc1 sc2) then stBytes (St.mk sp sit sl0 sl1 sl2 sc0 sc1 sc2) else []) ≤ (1000000 : Nat)) then bif (bif Option.isNone (readS (bif standsOK (St.mk sp sit sl0 sl1 sl2 sc0 sc1 sc2) then stBytes (St.mk sp sit sl0 sl1 sl2 sc0 sc1 sc2) else [])) then (50 : Int) else (0 : Int)) != (0 : Int) then some (D.bool false) else bif lenOK (List.length (St.items (stG (readS (bif standsOK (St.mk sp sit sl0 sl1 sl2 sc0 sc1 sc2) then stBytes (St.mk sp sit sl0 sl1 sl2 sc0 sc1 sc2) else []))))) && lenOK (List.length sit) && (lenOK (List.length (St.l0 (stG (readS (bif standsOK (St.mk sp sit sl0 sl1 sl2 sc0 sc1 sc2) then stBytes (St.mk sp sit sl0 sl1 sl2 sc0 sc1 sc2) else []))))) && lenOK (List.length sl0)) && (lenOK (List.length (St.l1 (stG (readS (bif standsOK (St.mk sp sit sl0 sl1 sl2 sc0 sc1 sc2) then stBytes (St.mk sp sit sl0 sl1 sl2 sc0 sc1 sc2) else []))))) && lenOK (List.length sl1)) && (lenOK (List.length (St.l2 (stG (readS (bif standsOK (St.mk sp sit sl0 sl1 sl2 sc0 sc1 sc2) then stBytes (St.mk sp sit sl0 sl1 sl2 sc0 sc1 sc2) else []))))) && lenOK (List.length sl2)) then bif !decide (St.mk (St.place (stG (readS (bif standsOK (St.mk sp sit sl0 sl1 sl2 sc0 sc1 sc2) then stBytes (St.mk sp sit sl0 sl1 sl2 sc0 sc1 sc2) else [])))) (St.items (stG (readS (bif standsOK (St.mk sp sit sl0 sl1 sl2 sc0 sc1 sc2) then stBytes (St.mk sp sit sl0 sl1 sl2 sc0 sc1 sc2) else [])))) (St.l0 (stG (readS (bif standsOK (St.mk sp sit sl0 sl1 sl2 sc0 sc1 sc2) then stBytes (St.mk sp sit sl0 sl1 sl2 sc0 sc1 sc2) else [])))) (St.l1 (stG (readS (bif standsOK (St.mk sp sit sl0 sl1 sl2 sc0 sc1 sc2) then stBytes (St.mk sp sit sl0 sl1 sl2 sc0 sc1 sc2) else [])))) (St.l2 (stG (readS (bif standsOK (St.mk sp sit sl0 sl1 sl2 sc0 sc1 sc2) then stBytes (St.mk sp sit sl0 sl1 sl2 sc0 sc1 sc2) else [])))) (St.c0 (stG (readS (bif standsOK (St.mk sp sit sl0 sl1 sl2 sc0 sc1 sc2) then stBytes (St.mk sp sit sl0 sl1 sl2 sc0 sc1 sc2) else [])))) (St.c1 (stG (readS (bif standsOK (St.mk sp sit sl0 sl1 sl2 sc0 sc1 sc2) then stBytes (St.mk sp sit sl0 sl1 sl2 sc0 sc1 sc2) else [])))) (St.c2 (stG (readS (bif standsOK (St.mk sp sit sl0 sl1 sl2 sc0 sc1 sc2) then stBytes (St.mk sp sit sl0 sl1 sl2 sc0 sc1 sc2) else [])))) = St.mk sp sit sl0 sl1 sl2 sc0 sc1 sc2) then some (D.bool false) else bif lenOK (List.length (bif standsOK (St.mk sp sit sl0 sl1 sl2 sc0 sc1 sc2) then stBytes (St.mk sp sit sl0 sl1 sl2 sc0 sc1 sc2) else [])) then bif decide ((600 : Int) < (↑(List.length (bif standsOK (St.mk sp sit sl0 sl1 sl2 sc0 sc1 sc2) then stBytes (St.mk sp sit sl0 sl1 sl2 sc0 sc1 sc2) else [])) : Int)) then some (D.bool false) else bif decide (List.length b ≤ (1000000 : Nat)) then bif (bif Option.isNone (readR b) then (50 : Int) else (0 : Int)) == (0 : Int) then bif lenOK (List.length (Rec.writes (recG (readR b)))) then bif (bif mayB (Rec.mk (Rec.place (recG (readR b))) (Rec.yes (recG (readR b))) (Rec.writes (recG (readR b)))) then (0 : Int) else (2 : Int)) != (0 : Int) then some (D.bool false) else bif !(fun (l : List (RA RTy.u8)) => l) (bif mayB (Rec.mk (Rec.place (recG (readR b))) (Rec.yes (recG (readR b))) (Rec.writes (recG (readR b)))) then bytesR (Rec.mk (Rec.place (recG (readR b))) (Rec.yes (recG (readR b))) (Rec.writes (recG (readR b)))) else []) == (fun (l : List (RA RTy.u8)) => l) b then some (D.bool false) else bif decide (List.length b ≤ (1000000 : Nat)) then bif (bif Option.isNone (readS b) then (50 : Int) else (0 : Int)) == (0 : Int) then bif decide (List.length (St.items (stG (readS b))) ≤ (9223372036854775807 : Nat) ∧ List.length (St.l0 (stG (readS b))) ≤ (9223372036854775807 : Nat) ∧ List.length (St.l1 (stG (readS b))) ≤ (9223372036854775807 : Nat) ∧ List.length (St.l2 (stG (readS b))) ≤ (9223372036854775807 : Nat)) then bif (bif standsOK (St.mk (St.place (stG (readS b))) (St.items (stG (readS b))) (St.l0 (stG (readS b))) (St.l1 (stG (readS b))) (St.l2 (stG (readS b))) (St.c0 (stG (readS b))) (St.c1 (stG (readS b))) (St.c2 (stG (readS b)))) then (0 : Int) else (2 : Int)) != (0 : Int) then some (D.bool false) else bif !(fun (l : List (RA RTy.u8)) => l) (bif standsOK (St.mk (St.place (stG (readS b))) (St.items (stG (readS b))) (St.l0 (stG (readS b))) (St.l1 (stG (readS b))) (St.l2 (stG (readS b))) (St.c0 (stG (readS b))) (St.c1 (stG (readS b))) (St.c2 (stG (readS b)))) then stBytes (St.mk (St.place (stG (readS b))) (St.items (stG (readS b))) (St.l0 (stG (readS b))) (St.l1 (stG (readS b))) (St.l2 (stG (readS b))) (St.c0 (stG (readS b))) (St.c1 (stG (readS b))) (St.c2 (stG (readS b)))) else []) == (fun (l : List (RA RTy.u8)) => l) b then some (D.bool false) else some (D.bool true) else none else some (D.bool true) else none else none else bif decide (List.length b ≤ (1000000 : Nat)) then bif (bif Option.isNone (readS b) then (50 : Int) else (0 : Int)) == (0 : Int) then bif decide (List.length (St.items (stG (readS b))) ≤ (9223372036854775807 : Nat) ∧ List.length (St.l0 (stG (readS b))) ≤ (9223372036854775807 : Nat) ∧ List.length (St.l1 (stG (readS b))) ≤ (9223372036854775807 : Nat) ∧ List.length (St.l2 (stG (readS b))) ≤ (9223372036854775807 : Nat)) then bif (bif standsOK (St.mk (St.place (stG (readS b))) (St.items (stG (readS b))) (St.l0 (stG (readS b))) (St.l1 (stG (readS b))) (St.l2 (stG (readS b))) (St.c0 (stG (readS b))) (St.c1 (stG (readS b))) (St.c2 (stG (readS b)))) then (0 : Int) else (2 : Int)) != (0 : Int) then some (D.bool false) else bif !(fun (l : List (RA RTy.u8)) => l) (bif standsOK (St.mk (St.place (stG (readS b))) (St.items (stG (readS b))) (St.l0 (stG (readS b))) (St.l1 (stG (readS b))) (St.l2 (stG (readS b))) (St.c0 (stG (readS b))) (St.c1 (stG (readS b))) (St.c2 (stG (readS b)))) then stBytes (St.mk (St.place (stG (readS b))) (St.items (stG (readS b))) (St.l0 (stG (readS b))) (St.l1 (stG (readS b))) (St.l2 (stG (readS b))) (St.c0 (stG (readS b))) (St.c1 (stG (readS b))) (St.c2 (stG (readS b)))) else []) == (fun (l : List (RA RTy.u8)) => l) b then some (D.bool false) else some (D.bool true) else none else some (D.bool true) else none else none else none else none else none else bif decide (List.length b ≤ (1000000 : Nat)) then bif (bif Option.isNone (readR b) then (50 : Int) else (0 : Int)) == (0 : Int) then bif lenOK (List.length (Rec.writes (recG (readR b)))) then bif (bif mayB (Rec.mk (Rec.place (recG (readR b))) (Rec.yes (recG (readR b))) (Rec.writes (recG (readR b)))) then (0 : Int) else (2 : Int)) != (0 : Int) then some (D.bool false) else bif !(fun (l : List (RA RTy.u8)) => l) (bif mayB (Rec.mk (Rec.place (recG (readR b))) (Rec.yes (recG (readR b))) (Rec.writes (recG (readR b)))) then bytesR (Rec.mk (Rec.place (recG (readR b))) (Rec.yes (recG (readR b))) (Rec.writes (recG (readR b)))) else []) == (fun (l : List (RA RTy.u8)) => l) b then some (D.bool false) else bif decide (List.length b ≤ (1000000 : Nat)) then bif (bif Option.isNone (readS b) then (50 : Int) else (0 : Int)) == (0 : Int) then bif decide (List.length (St.items (stG (readS b))) ≤ (9223372036854775807 : Nat) ∧ List.length (St.l0 (stG (readS b))) ≤ (9223372036854775807 : Nat) ∧ List.length (St.l1 (stG (readS b))) ≤ (9223372036854775807 : Nat) ∧ List.length (St.l2 (stG (readS b))) ≤ (9223372036854775807 : Nat)) then bif (bif standsOK (St.mk (St.place (stG (readS b))) (St.items (stG (readS b))) (St.l0 (stG (readS b))) (St.l1 (stG (readS b))) (St.l2 (stG (readS b))) (St.c0 (stG (readS b))) (St.c1 (stG (readS b))) (St.c2 (stG (readS b)))) then (0 : Int) else (2 : Int)) != (0 : Int) then some (D.bool false) else bif !(fun (l : List (RA RTy.u8)) => l) (bif standsOK (St.mk (St.place (stG (readS b))) (St.items (stG (readS b))) (St.l0 (stG (readS b))) (St.l1 (stG (readS b))) (St.l2 (stG (readS b))) (St.c0 (stG (readS b))) (St.c1 (stG (readS b))) (St.c2 (stG (readS b)))) then stBytes (St.mk (St.place (stG (readS b))) (St.items (stG (readS b))) (St.l0 (stG (readS b))) (St.l1 (stG (readS b))) (St.l2 (stG (readS b))) (St.c0 (stG (readS b))) (St.c1 (stG (readS b))) (St.c2 (stG (readS b)))) else []) == (fun (l : List (RA RTy.u8)) => l) b then some (D.bool false) else some (D.bool true) else none else some (D.bool true) else none else none else bif decide (List.length b ≤ (1000000 : Nat)) then bif (bif Option.isNone (readS b) then (50 : Int) else (0 : Int)) == (0 : Int) then bif decide (List.length (St.items (stG (readS b))) ≤ (9223372036854775807 : Nat) ∧ List.length (St.l0 (stG (readS b))) ≤ (9223372036854775807 : Nat) ∧ List.length (St.l1 (stG (readS b))) ≤ (9223372036854775807 : Nat) ∧ List.length (St.l2 (stG (readS b))) ≤ (9223372036854775807 : Nat)) then bif (bif standsOK (St.mk (St.place (stG (readS b))) (St.items (stG (readS b))) (St.l0 (stG (readS b))) (St.l1 (stG (readS b))) (St.l2 (stG (readS b))) (St.c0 (stG (readS b))) (St.c1 (stG (readS b))) (St.c2 (stG (readS b)))) then (0 : Int) else (2 : Int)) != (0 : Int) then some (D.bool false) else bif !(fun (l : List (RA RTy.u8)) => l) (bif standsOK (St.mk (St.place (stG (readS b))) (St.items (stG (readS b))) (St.l0 (stG (readS b))) (St.l1 (stG (readS b))) (St.l2 (stG (readS b))) (St.c0 (stG (readS b))) (St.c1 (stG (readS b))) (St.c2 (stG (readS b)))) then stBytes (St.mk (St.place (stG (readS b))) (St.items (stG (readS b))) (St.l0 (stG (readS b))) (St.l1 (stG (readS b))) (St.l2 (stG (readS b))) (St.c0 (stG (readS b))) (St.c1 (stG (readS b))) (St.c2 (stG (readS b)))) else []) == (fun (l : List (RA RTy.u8)) => l) b then some (D.bool false) else some (D.bool true) else none else some (D.bool true) else none else none else none else none else none else none else none else none else none else none) := by kernel_rfl
theorem back_ok (rp : Int) (ry : Bool) (rc : Bool) (rw : List Write) (sp : Int) (sci : Bool) (sit : List Item) (sk0 : Bool) (sk1 : Bool) (sk2 : Bool) (sl0 : List Line) (sl1 : List Line) (sl2 : List Line) (sc0 : Int) (sc1 : Int) (sc2 : Int) (c : Bool) (b : List UInt8) (h : (lenOK rw.length && (lenOK sit.length && lenOK sl0.length && lenOK sl1.length && lenOK sl2.length) && lenOK b.length) = true) : back_e rp ry rc rw sp sci sit sk0 sk1 sk2 sl0 sl1 sl2 sc0 sc1 sc2 c b = some (.bool true) := by
  rw [back_eq]
  simp only [Bool.and_eq_true] at h
  obtain ⟨⟨ha, ⟨⟨s0, s1⟩, s2⟩, s3⟩, hbl⟩ := h
  have hs : decide (sit.length ≤ 9223372036854775807 ∧ sl0.length ≤ 9223372036854775807 ∧ sl1.length ≤ 9223372036854775807 ∧ sl2.length ≤ 9223372036854775807) = true :=
    decide_eq_true ⟨lenOK_le s0, lenOK_le s1, lenOK_le s2, lenOK_le s3⟩
  simp only [ha, s0, s1, s2, s3, hbl, hs, cond_true]
  iterate 6 refine cond_both (fun _ => rfl) fun hb => ?_
  have hl : b.length ≤ 2000 := by simp only [decide_eq_false_iff_not] at hb; omega
  have e0 : decide (b.length ≤ 1000000) = true := decide_eq_true (by omega)
  have r1 := recG_len b
  obtain ⟨r2, r3, r4, r5⟩ := stG_len b
  have e1 : lenOK (recG (readR b)).writes.length = true := lenOK_of (by omega)
  have e2 : decide ((stG (readS b)).items.length ≤ 9223372036854775807 ∧ (stG (readS b)).l0.length ≤ 9223372036854775807 ∧ (stG (readS b)).l1.length ≤ 9223372036854775807 ∧ (stG (readS b)).l2.length ≤ 9223372036854775807) = true :=
    decide_eq_true ⟨by omega, by omega, by omega, by omega⟩
  simp only [e0, e1, e2, cond_true]
  -- what reads is written as those bytes
  have kR : ((bif mayB ⟨(recG (readR b)).place, (recG (readR b)).yes, (recG (readR b)).writes⟩ then (0 : Int) else 2) != 0) = true ∨ (!((bif mayB ⟨(recG (readR b)).place, (recG (readR b)).yes, (recG (readR b)).writes⟩ then bytesR ⟨(recG (readR b)).place, (recG (readR b)).yes, (recG (readR b)).writes⟩ else []) == b)) = true → readR b = none := by
    cases hr : readR b with
    | none => intro _; rfl
    | some r =>
      obtain ⟨p, y, l⟩ := r
      have hm := readR_may hr
      have hk := readR_back hr
      simp only [recG, Option.getD_some, hm, hk, cond_true]
      intro hq; simp at hq
  have kS : ((bif standsOK ⟨(stG (readS b)).place, (stG (readS b)).items, (stG (readS b)).l0, (stG (readS b)).l1, (stG (readS b)).l2, (stG (readS b)).c0, (stG (readS b)).c1, (stG (readS b)).c2⟩ then (0 : Int) else 2) != 0) = true ∨ (!((bif standsOK ⟨(stG (readS b)).place, (stG (readS b)).items, (stG (readS b)).l0, (stG (readS b)).l1, (stG (readS b)).l2, (stG (readS b)).c0, (stG (readS b)).c1, (stG (readS b)).c2⟩ then stBytes ⟨(stG (readS b)).place, (stG (readS b)).items, (stG (readS b)).l0, (stG (readS b)).l1, (stG (readS b)).l2, (stG (readS b)).c0, (stG (readS b)).c1, (stG (readS b)).c2⟩ else []) == b)) = true → readS b = none := by
    cases hr : readS b with
    | none => intro _; rfl
    | some r =>
      obtain ⟨p, it, l0, l1, l2, c0, c1, c2⟩ := r
      have hm := readS_stands hr
      have hk := readS_back hr
      simp only [stG, Option.getD_some, hm, hk, cond_true]
      intro hq; simp at hq
  have zn : ∀ {α : Type} (o : Option α), o = none → ((bif o.isNone then (50 : Int) else 0) == 0) = false := by rintro _ _ rfl; rfl
  -- the end: the state that is read
  have fin2 : ∀ x y : Option (D RC), x = some (.bool true) → y = some (.bool true) → ∀ c, cond c x y = some (.bool true) := by rintro _ _ rfl rfl c; cases c <;> rfl
  have finS : (bif (bif (readS b).isNone then (50 : Int) else 0) == 0 then
      (bif (bif standsOK ⟨(stG (readS b)).place, (stG (readS b)).items, (stG (readS b)).l0, (stG (readS b)).l1, (stG (readS b)).l2, (stG (readS b)).c0, (stG (readS b)).c1, (stG (readS b)).c2⟩ then (0 : Int) else 2) != 0 then some (D.bool false)
       else bif !((bif standsOK ⟨(stG (readS b)).place, (stG (readS b)).items, (stG (readS b)).l0, (stG (readS b)).l1, (stG (readS b)).l2, (stG (readS b)).c0, (stG (readS b)).c1, (stG (readS b)).c2⟩ then stBytes ⟨(stG (readS b)).place, (stG (readS b)).items, (stG (readS b)).l0, (stG (readS b)).l1, (stG (readS b)).l2, (stG (readS b)).c0, (stG (readS b)).c1, (stG (readS b)).c2⟩ else []) == b) then some (D.bool false) else some (D.bool true))
      else some (D.bool true)) = some (D.bool true : D RC) := by
    refine cond_both (fun h0 => ?_) fun _ => rfl
    refine cond_both (fun h1 => ?_) fun h1 => cond_both (fun h2 => ?_) fun _ => rfl
    · rw [zn _ (kS (.inl h1))] at h0; cases h0
    · rw [zn _ (kS (.inr h2))] at h0; cases h0
  have finR : ∀ x : Option (D RC), x = some (.bool true) → (bif (bif (readR b).isNone then (50 : Int) else 0) == 0 then
      (bif (bif mayB ⟨(recG (readR b)).place, (recG (readR b)).yes, (recG (readR b)).writes⟩ then (0 : Int) else 2) != 0 then some (D.bool false)
       else bif !((bif mayB ⟨(recG (readR b)).place, (recG (readR b)).yes, (recG (readR b)).writes⟩ then bytesR ⟨(recG (readR b)).place, (recG (readR b)).yes, (recG (readR b)).writes⟩ else []) == b) then some (D.bool false) else x)
      else x) = some (D.bool true : D RC) := by
    rintro x rfl
    refine cond_both (fun h0 => ?_) fun _ => rfl
    refine cond_both (fun h1 => ?_) fun h1 => cond_both (fun h2 => ?_) fun _ => rfl
    · rw [zn _ (kR (.inl h1))] at h0; cases h0
    · rw [zn _ (kR (.inr h2))] at h0; cases h0
  have hstate : standsOK ⟨sp, sit, sl0, sl1, sl2, sc0, sc1, sc2⟩ = true → _ := fun q => readS_put q
  have hslen : standsOK ⟨sp, sit, sl0, sl1, sl2, sc0, sc1, sc2⟩ = true → _ := fun q => stBytes_len q
  cases hm : mayB ⟨rp, ry, rw⟩
  · cases hq : standsOK ⟨sp, sit, sl0, sl1, sl2, sc0, sc1, sc2⟩
    · exact finR _ finS
    · have q1 := hstate hq
      have q2 := hslen hq
      have d1 : decide ((stBytes ⟨sp, sit, sl0, sl1, sl2, sc0, sc1, sc2⟩).length ≤ 1000000) = true := decide_eq_true (by omega)
      have d2 : decide ((600 : Int) < (stBytes ⟨sp, sit, sl0, sl1, sl2, sc0, sc1, sc2⟩).length) = false := decide_eq_false (by omega)
      have d3 : lenOK (stBytes ⟨sp, sit, sl0, sl1, sl2, sc0, sc1, sc2⟩).length = true := lenOK_of (by omega)
      simp only [q1, d1, d2, d3, cond_true, stG, Option.getD_some, s0, s1, s2, s3, Bool.and_self, decide_true, Bool.not_true, hs]
      exact finR _ finS
  · have p1 := readR_put hm
    have p2 := bytesR_len hm
    have c1 : decide ((bytesR ⟨rp, ry, rw⟩).length ≤ 1000000) = true := decide_eq_true (by omega)
    have c2 : decide ((600 : Int) < (bytesR ⟨rp, ry, rw⟩).length) = false := decide_eq_false (by omega)
    have c3 : lenOK (bytesR ⟨rp, ry, rw⟩).length = true := lenOK_of (by omega)
    simp only [p1, c1, c2, c3, cond_true, recG, Option.getD_some, ha, Bool.and_self, decide_true, Bool.not_true]
    cases hq : standsOK ⟨sp, sit, sl0, sl1, sl2, sc0, sc1, sc2⟩
    · exact finR _ finS
    · have q1 := hstate hq
      have q2 := hslen hq
      have d1 : decide ((stBytes ⟨sp, sit, sl0, sl1, sl2, sc0, sc1, sc2⟩).length ≤ 1000000) = true := decide_eq_true (by omega)
      have d2 : decide ((600 : Int) < (stBytes ⟨sp, sit, sl0, sl1, sl2, sc0, sc1, sc2⟩).length) = false := decide_eq_false (by omega)
      have d3 : lenOK (stBytes ⟨sp, sit, sl0, sl1, sl2, sc0, sc1, sc2⟩).length = true := lenOK_of (by omega)
      simp only [q1, d1, d2, d3, cond_true, stG, Option.getD_some, s0, s1, s2, s3, Bool.and_self, decide_true, Bool.not_true, hs]
      exact finR _ finS
noncomputable def uv_1 := uh_8.addSpec 9 back_sp
theorem uv_1_laws : FLaws Try.prog s05 uv_1 := uh_8_laws.addEv s05_laws fun args d h => by
  unfold back_sp at h
  split at h
  · unfold back_s at h
    have h1 := congrArg Prod.fst (Option.some.inj h)
    obtain rfl : _ = d := congrArg Prod.snd (Option.some.inj h)
    exact ⟨by simp [D.refs], 60, back_ok _ _ _ _ _ _ _ _ _ _ _ _ _ _ _ _ _ _ h1⟩
  · cases h
end Go.Ev


/-
  From what an argument reads al (the given statements' form) to a value of the evaluator, and back: a statement 'true for every input' out of what the evaluator says.
-/
namespace Go.Ev
open Go.ChangeShapes Go.WideShapes Go.RowKit
set_option linter.unusedVariables false
set_option linter.unusedSimpArgs false

section
variable {C : Cdc}

/-- a value of an argument: numbers fit their kinds, lists are no longer than a slice may be -/
def good (gA : (t : C.Ty) → C.A t → Prop) : D C → Prop
  | .int k n => k.min ≤ n ∧ n ≤ k.max
  | .str s => s.length ≤ maxLen
  | .acons d ds => good gA d ∧ good gA ds
  | .arr t n l => l.length = n ∧ ∀ x ∈ l, gA t x
  | .sl t _ l => l.length ≤ maxLen ∧ ∀ x ∈ l, gA t x
  | _ => True

/-- types of plain data -/
def plainT (T : Tab C) : Nat → TypeId → Bool
  | 0, _ => false
  | k + 1, t => match T.ty t with
    | .bool | .int _ | .str => true
    | .struct _ fs => fs.all (plainT T k)
    | .arr _ e _ => plainT T k e
    | .sl e _ => plainT T k e
    | _ => false

structure Dec (T : Tab C) (gA : (t : C.Ty) → C.A t → Prop) : Prop where
  dec : ∀ t d, fit T d (.inl (T.ety t)) = true → d.refs = [] → good gA d → (∃ k u, T.ty u = T.ty (T.ety t) ∧ plainT T k u = true) → ∃ x, T.dec t d = some x ∧ gA t x

variable {P : Program} {T : Tab C} {gA : (t : C.Ty) → C.A t → Prop}

def X0 (W : World) : Cx := ⟨W, fun _ => none, fun _ _ => False⟩
theorem X0_free (W : World) (b o : Nat) : (X0 W).free b o := ⟨fun h => h, fun ⟨_, _, h, _⟩ => by simp [X0] at h⟩

theorem arr_R {X : Cx} (t : C.Ty) (sz : Nat) : ∀ (n : Nat) (cs : List Value), cs.length = n * sz → (∀ i, i < n → ∃ x : C.A t, R T X false (T.enc t x) ((cs.drop (i * sz)).take sz) ∧ gA t x) →
    ∃ l : List (C.A t), R T X false (.arr t n l) cs ∧ l.length = n ∧ ∀ x ∈ l, gA t x
  | 0, cs, hl, _ => by
    obtain rfl : cs = [] := by simpa using hl
    exact ⟨[], .arr0 _, rfl, by simp⟩
  | n + 1, cs, hl, h => by
    obtain ⟨x, hx, gx⟩ := h 0 (by omega)
    obtain ⟨l, hr, hn, gl⟩ := arr_R t sz n (cs.drop sz) (by rw [List.length_drop, hl, Nat.succ_mul]; omega) fun i hi => by
      obtain ⟨y, hy, gy⟩ := h (i + 1) (by omega)
      refine ⟨y, ?_, gy⟩
      rw [List.drop_drop]
      rw [show sz + i * sz = (i + 1) * sz by rw [Nat.succ_mul]; omega]
      exact hy
    refine ⟨x :: l, ?_, by simp [hn], by simpa using ⟨gx, gl⟩⟩
    have := R.arrS hx hr
    simpa using this

theorem sl_R {W : World} (t : C.Ty) (b sz : Nat) : ∀ (n off : Nat), (∀ i, i < n → ∃ (x : C.A t) (ci : List Value), R T (X0 W) false (T.enc t x) ci ∧ ci.length = sz ∧ (∀ j, j < sz → W.cell? ⟨b, off + i * sz + j, none⟩ = ci[j]?) ∧ gA t x) →
    ∃ (l : List (C.A t)) (cs : List Value), R T (X0 W) false (.arr t n l) cs ∧ l.length = n ∧ (X0 W).at b off cs ∧ ∀ x ∈ l, gA t x
  | 0, off, _ => ⟨[], [], .arr0 _, rfl, fun j v h => by simp at h, by simp⟩
  | n + 1, off, h => by
    obtain ⟨x, ci, hx, hlen, hc, gx⟩ := h 0 (by omega)
    obtain ⟨l, cs, hr, hn, hat, gl⟩ := sl_R t b sz n (off + sz) fun i hi => by
      obtain ⟨y, c2, hy, h2, h3, gy⟩ := h (i + 1) (by omega)
      refine ⟨y, c2, hy, h2, fun j hj => ?_, gy⟩
      have := h3 j hj
      rwa [show off + (i + 1) * sz + j = off + sz + i * sz + j by rw [Nat.succ_mul]; omega] at this
    refine ⟨x :: l, ci ++ cs, .arrS hx hr, by simp [hn], fun j v hj => ⟨?_, X0_free _ _ _⟩, by simpa using ⟨gx, gl⟩⟩
    by_cases hlt : j < ci.length
    · rw [List.getElem?_append_left hlt] at hj
      have := hc j (by omega)
      simp only [Nat.zero_mul, Nat.add_zero] at this
      exact this.trans hj
    · rw [List.getElem?_append_right (by omega)] at hj
      have := (hat _ _ hj).1
      rwa [show off + sz + (j - ci.length) = off + j by omega] at this

theorem st_R {X : Cx} : ∀ (fs : List TypeId) (cs : List Value), (∀ i f, fs[i]? = some f → ∃ d, R T X false d ((cs.drop (sumSz T (fs.take i))).take (T.size f)) ∧ fit T d (.inl f) = true ∧ good gA d ∧ d.refs = []) →
    ∃ d, R T X false d (cs.take (sumSz T fs)) ∧ fit T d (.inr fs) = true ∧ good gA d ∧ d.refs = [] ∧ d.isRow = true ∧ (∀ t a, T.ty t = .struct a fs → fit T d (.inl t) = true)
  | [], cs, _ => ⟨.anil, by simpa [sumSz] using R.anil, rfl, trivial, rfl, rfl, fun t a ht => by simp [fit, ht]⟩
  | f :: fs, cs, h => by
    obtain ⟨d, hd, fd, gd, rd⟩ := h 0 f rfl
    obtain ⟨ds, hr, fr, gr, rr, _, _⟩ := st_R fs (cs.drop (T.size f)) fun i g hg => by
      obtain ⟨e, he, h2⟩ := h (i + 1) g (by simpa using hg)
      refine ⟨e, ?_, h2⟩
      simpa [sumSz, List.drop_drop] using he
    refine ⟨.acons d ds, ?_, by simp [fit, fd, fr], ⟨gd, gr⟩, by simp [D.refs, rd, rr], rfl, fun t a ht => by simp [fit, ht, fd, fr]⟩
    have := R.acons hd hr
    simpa [sumSz, List.take_add] using this

theorem cellsOf_info {t : TypeId} {i : TypeInfo} (h : P.info? t = some i) : P.cellsOf t = i.size := by
  simp [Program.cellsOf, h]

theorem trod_R (K : PLaws P T) (hd : Dec T gA) {H : Type} {enc : TypeId × Value → H} {W : World} : ∀ (k : Nat) (t : TypeId), plainT T k t = true → ∀ (fuel : Nat) (cs : List Value) (x : DataW H × List MemPlace), DataW.trod enc P W 0 (fun _ => true) true fuel t cs = some x →
    ∃ d, R T (X0 W) false d cs ∧ fit T d (.inl t) = true ∧ good gA d ∧ d.refs = [] := by
  intro k
  induction k with
  | zero => intro t h; simp [plainT] at h
  | succ k ih =>
    intro t hp fuel cs x h
    unfold plainT at hp
    split at hp
    · rename_i ht
      obtain ⟨b, rfl, _⟩ := DataW.trod_bool (K.uBool t ht) h
      exact ⟨.bool b, .bool b, by simp [fit, ht], trivial, rfl⟩
    · rename_i kd ht
      obtain ⟨n, rfl, _, hw⟩ := DataW.trod_int (K.uInt t kd ht) h
      have hw' : kd.min ≤ n ∧ n ≤ kd.max := by simpa [Lit.wf] using hw
      exact ⟨.int kd n, .int hw', by simp [fit, ht], hw', rfl⟩
    · rename_i ht
      obtain ⟨s, rfl, _, hs⟩ := DataW.trod_string (K.uStr t ht) h
      exact ⟨.str s.data.toList, .str s.data.toList, by simp [fit, ht], by simpa [good] using hs, rfl⟩
    · rename_i isA fs ht
      cases isA with
      | true =>
        obtain ⟨el, hu, hfs, hpos, inf, hi1, hi2⟩ := K.uRow t fs ht
        obtain ⟨xs, m, _, _, hlen, hxs, hel⟩ := DataW.trod_array hu h
        have hget : ∀ i f, fs[i]? = some f → f = el ∧ i < fs.length := fun i f hf => by
          have := (List.getElem?_eq_some_iff.1 hf).1
          rw [hfs, List.getElem?_replicate] at hf
          simp at hf
          exact ⟨hf.2.symm, this⟩
        have hsum : ∀ i, i ≤ fs.length → sumSz T (fs.take i) = i * T.size el := by
          intro i hi
          rw [hfs, List.take_replicate, Nat.min_eq_left hi]
          clear hi
          induction i with
          | zero => simp [sumSz]
          | succ i ih => simp only [List.replicate_succ, sumSz, ih]; rw [Nat.succ_mul]; omega
        obtain ⟨d, hr, _, gd, rd, _, hfit⟩ := st_R (T := T) (X := X0 W) (gA := gA) fs cs fun i f hf => by
          obtain ⟨rfl, hi⟩ := hget i f hf
          have := hel i hi
          rw [cellsOf_info hi1, hi2] at this
          have hx : xs[i]? = some xs[i] := by simp [hxs, hi]
          rw [hx] at this
          obtain ⟨d, h1, h2, h3, h4⟩ := ih f (List.all_eq_true.1 hp _ (List.mem_of_getElem? hf)) m _ _ this
          refine ⟨d, ?_, h2, h3, h4⟩
          rw [hsum i (by omega)]; exact h1
        obtain ⟨inf, hi1, hi2⟩ := K.info t d (hfit t _ ht)
        rw [cellsOf_info hi1, hi2, K.base.szStruct t _ fs ht] at hlen
        rw [← hlen, List.take_length] at hr
        exact ⟨d, hr, hfit t _ ht, gd, rd⟩
      | false =>
        obtain ⟨fields, hu, hfs, hoff, _⟩ := K.uStruct t fs ht
        obtain ⟨xs, n, _, _, hlen, hxs, hel⟩ := DataW.trod_struct hu h
        obtain ⟨d, hr, _, gd, rd, _, hfit⟩ := st_R (T := T) (X := X0 W) (gA := gA) fs cs fun i f hf => by
          rw [← hfs, List.getElem?_map] at hf
          cases hfi : fields.toList[i]? with
          | none => simp [hfi] at hf
          | some fld =>
            simp only [hfi, Option.map_some, Option.some.injEq] at hf
            have hfa : fields[i]? = some fld := by rw [← Array.getElem?_toList]; exact hfi
            have := hel i fld hfa
            have hx : ∃ y, xs[i]? = some y := by
              have : i < fields.size := (Array.getElem?_eq_some_iff.1 hfa).1
              exact ⟨xs[i], by simp [hxs, this]⟩
            obtain ⟨y, hy⟩ := hx
            rw [hy] at this
            subst hf
            have hmem : fld.type ∈ fs := by rw [← hfs]; exact List.mem_map.2 ⟨fld, by exact List.mem_of_getElem? hfi, rfl⟩
            obtain ⟨d, h1, h2, h3, h4⟩ := ih fld.type (List.all_eq_true.1 hp _ hmem) n _ _ this
            obtain ⟨inf, hi1, hi2, _⟩ := K.uField t fs fld.type ht hmem
            refine ⟨d, ?_, h2, h3, h4⟩
            rw [hoff i fld hfa, cellsOf_info hi1, hi2] at h1
            exact h1
        obtain ⟨inf, hi1, hi2⟩ := K.info t d (hfit t _ ht)
        rw [cellsOf_info hi1, hi2, K.base.szStruct t _ fs ht] at hlen
        rw [← hlen, List.take_length] at hr
        exact ⟨d, hr, hfit t _ ht, gd, rd⟩
    · rename_i n e ct ht
      obtain ⟨hu, _⟩ := K.uArr t n e ct ht
      obtain ⟨xs, m, _, _, hlen, hxs, hel⟩ := DataW.trod_array hu h
      obtain ⟨inf, z, hi1, hi2, _⟩ := K.uElem t e ct (.inl ⟨n, ht⟩)
      obtain ⟨it, hj1, hj2⟩ := K.info t (.arr ct n []) (by simp [fit, ht])
      obtain ⟨hs1, hs2, hs3⟩ := K.base.szArr t n e ct ht
      rw [cellsOf_info hj1, hj2, hs1] at hlen
      obtain ⟨l, hr, hn, gl⟩ := arr_R (T := T) (X := X0 W) (gA := gA) ct (T.size e) n cs hlen fun i hi => by
        have := hel i hi
        rw [cellsOf_info hi1, hi2] at this
        have hx : xs[i]? = some xs[i] := by simp [hxs, hi]
        rw [hx] at this
        obtain ⟨d, h1, h2, h3, h4⟩ := ih e hp m _ _ this
        obtain ⟨x, h5, h6⟩ := hd.dec ct d (by rw [← fit_congr hs2]; exact h2) h4 h3 ⟨k, e, hs2, hp⟩
        exact ⟨x, K.base.decR _ _ _ _ _ h5 h1, h6⟩
      exact ⟨.arr ct n l, hr, by simp [fit, ht], ⟨hn, gl⟩, rfl⟩
    · rename_i e ct ht
      have hu := K.uSl t e ct ht
      obtain ⟨inf, z, hi1, hi2, _, _, hpos, _⟩ := K.uElem t e ct (.inr ht)
      obtain ⟨hs1, hs2, hs3⟩ := K.base.szSl t e ct ht
      rcases DataW.trod_slice hu h with ⟨rfl, _⟩ | ⟨a, len, cap, elems, rest, m, _, rfl, _, _, hlc, hcm, hel, he, hrest, _⟩
      · exact ⟨.sl ct false [], .sl0 _ _ _, by simp [fit, ht], by simp [good], rfl⟩
      · by_cases hc0 : cap = 0
        · subst hc0
          obtain rfl : len = 0 := by omega
          exact ⟨.sl ct false [], .sl0 _ _ _, by simp [fit, ht], by simp [good], rfl⟩
        · have hspot : a.spot = none := by
            have key : ∀ i y, i = 0 → (W.cells? 0 (a.add (i * P.cellsOf e)) (P.cellsOf e)).bind (DataW.trod enc P W 0 (fun _ => true) true m e) = some y → a.spot = none := by
              intro i y hi0 hy
              subst hi0
              rw [cellsOf_info hi1, hi2] at hy
              cases hcs : W.cells? 0 (a.add (0 * T.size e)) (T.size e) with
              | none => rw [hcs] at hy; cases hy
              | some ci =>
                obtain ⟨_, h2, h3⟩ := World.cells?_some hcs
                have h4 := h3 0 hpos
                have h5 : ci[0]? = some ci[0] := by simp
                rw [h5] at h4
                have := World.cell?_spot h4
                simpa [Addr.add] using this
            by_cases hl0 : 0 < len
            · have := he 0 hl0
              have hx : elems[0]? = some elems[0] := by simp
              exact key 0 _ rfl (this.trans hx)
            · have hr2 := hrest rfl
              have := hr2.2 0 (by omega)
              have h0 : 0 < rest.length := by omega
              have hx : rest[0]? = some rest[0] := by simp
              exact key _ _ (by omega) (this.trans hx)
          obtain ⟨b, off, sp⟩ := a
          simp only at hspot
          subst hspot
          obtain ⟨l, cs, hr, hn, hat, gl⟩ := sl_R (T := T) (W := W) (gA := gA) ct b (T.size e) len off fun i hi => by
            have := he i hi
            have hx : elems[i]? = some elems[i] := by simp [hel, hi]
            rw [hx, cellsOf_info hi1, hi2] at this
            cases hcs : W.cells? 0 ((⟨b, off, none⟩ : Addr).add (i * T.size e)) (T.size e) with
            | none => simp [hcs] at this
            | some ci =>
              simp only [hcs, Option.bind_some] at this
              obtain ⟨_, h2, h3⟩ := World.cells?_some hcs
              obtain ⟨d, k1, k2, k3, k4⟩ := ih e hp m _ _ this
              obtain ⟨x, k5, k6⟩ := hd.dec ct d (by rw [← fit_congr hs2]; exact k2) k4 k3 ⟨k, e, hs2, hp⟩
              refine ⟨x, ci, K.base.decR _ _ _ _ _ k5 k1, h2, fun j hj => ?_, k6⟩
              have := h3 j hj
              rwa [add_plain, add_plain] at this
          subst hn
          exact ⟨.sl ct false l, .sl hat hr hlc (by simp), by simp [fit, ht], ⟨by omega, gl⟩, rfl⟩
    · cases hp

theorem okWide_row (K : PLaws P T) {W : World} {r : Reach} {base : Nat} {t : TypeId} {v : Value} {d : D C} (hv : Value.okWide P W r base t v) (hp : ∃ k, plainT T k t = true) (hf : fit T d (.inl t) = true) (hr : R T (X0 W) false d v.cells.toList) (hrf : d.refs = []) : RV T (X0 W) d v := by
  obtain ⟨k, hp⟩ := hp
  cases k with
  | zero => simp [plainT] at hp
  | succ k =>
    unfold plainT at hp
    split at hp
    · rename_i ht
      obtain ⟨b, rfl⟩ := okWide_bool (K.uBool t ht) hv
      refine .inr ⟨?_, by simpa [Value.cells] using hr⟩
      cases d <;> simp [fit, ht] at hf <;> rfl
    · rename_i kd ht
      obtain ⟨b, rfl⟩ := okWide_int (K.uInt t kd ht) hv
      refine .inr ⟨?_, by simpa [Value.cells] using hr⟩
      cases d <;> simp [fit, ht] at hf <;> rfl
    · rename_i ht
      obtain ⟨b, rfl⟩ := okWide_string (K.uStr t ht) hv
      refine .inr ⟨?_, by simpa [Value.cells] using hr⟩
      cases d <;> simp [fit, ht] at hf <;> rfl
    · rename_i isA fs ht
      have : ∃ cs, v = .agg cs := by
        cases isA with
        | false =>
          obtain ⟨fields, hu, _⟩ := K.uStruct t fs ht
          obtain ⟨cs, rfl, _⟩ := okWide_struct hu hv
          exact ⟨cs, rfl⟩
        | true =>
          obtain ⟨el, hu, _⟩ := K.uRow t fs ht
          simp only [Value.okWide, hu] at hv
          obtain ⟨cs, rfl, _⟩ := hv
          exact ⟨cs, rfl⟩
      obtain ⟨cs, rfl⟩ := this
      refine .inl ⟨?_, cs.toList, by simpa [Value.cells] using hr, rfl⟩
      cases d <;> simp [fit, ht] at hf <;> rfl
    · rename_i n e ct ht
      obtain ⟨hu, _⟩ := K.uArr t n e ct ht
      have : ∃ cs, v = .agg cs := by
        simp only [Value.okWide, hu] at hv
        obtain ⟨cs, rfl, _⟩ := hv
        exact ⟨cs, rfl⟩
      obtain ⟨cs, rfl⟩ := this
      refine .inl ⟨?_, cs.toList, by simpa [Value.cells] using hr, rfl⟩
      cases d <;> simp [fit, ht] at hf <;> rfl
    · rename_i e ct ht
      obtain ⟨a, len, cap, rfl⟩ := okWide_slice (K.uSl t e ct ht) hv
      refine .inr ⟨?_, by simpa [Value.cells] using hr⟩
      cases d <;> simp [fit, ht] at hf <;> rfl
    · cases hp

/-- the arguments, al the evaluator has them -/
inductive Fits (T : Tab C) (gA : (t : C.Ty) → C.A t → Prop) : List TypeId → List (D C) → Prop
  | nil : Fits T gA [] []
  | cons {t : TypeId} {ts : List TypeId} {d : D C} {ds : List (D C)} (hf : fit T d (.inl t) = true) (hg : good gA d) (hr : d.refs = []) (h : Fits T gA ts ds) : Fits T gA (t :: ts) (d :: ds)

theorem Fits.refs {ts : List TypeId} {ds : List (D C)} (h : Fits T gA ts ds) : ∀ a ∈ ds, D.refs a = [] := by
  induction h with
  | nil => simp
  | cons _ _ hr _ ih => simpa using ⟨hr, ih⟩

theorem trodAll_R (K : PLaws P T) (hd : Dec T gA) {H : Type} {enc : TypeId × Value → H} {W : World} {r : Reach} {base : Nat} : ∀ (ts : List TypeId) (vs : List Value) (ds : List (DataW H)) (ps : List MemPlace), (∀ t ∈ ts, ∃ k, plainT T k t = true) →
    (∀ (j : Nat) t v, ts[j]? = some t → vs[j]? = some v → Value.okWide P W r base t v) → DataW.TrodAll enc P W 0 (fun _ => true) true ts vs ds ps → ∃ al, Fits T gA ts al ∧ RVs T (X0 W) al vs
  | [], vs, ds, ps, _, _, h => by
    obtain ⟨rfl, rfl, rfl⟩ := trodAll_nil h
    exact ⟨[], .nil, .nil⟩
  | t :: ts, vs, ds, ps, hp, hv, h => by
    obtain ⟨v, vs1, d, ds1, p, q, rfl, rfl, rfl, ⟨fuel, h1⟩, h2⟩ := trodAll_cons h
    obtain ⟨al, f1, r1⟩ := trodAll_R K hd ts vs1 ds1 q (fun t ht => hp t (by simp [ht])) (fun j t v a b => hv (j + 1) t v (by simpa using a) (by simpa using b)) h2
    obtain ⟨k, hk⟩ := hp t (by simp)
    obtain ⟨a, k1, k2, k3, k4⟩ := trod_R K hd k t hk fuel _ _ h1
    exact ⟨a :: al, .cons k2 k3 k4 f1, .cons (okWide_row K (hv 0 t v rfl rfl) ⟨k, hk⟩ k2 k1 k4) r1⟩

theorem stays (hl : laidOutB P = true) {H : Type} {enc : TypeId × Value → H} {W W' : World} {sp : Nat → Bool} : ∀ (ts : List TypeId) (vs : List Value) (ds : List (DataW H)) (ps : List MemPlace), (∀ t ∈ ts, P.readableRec t = true ∧ t < P.types.size) →
    DataW.TrodAll enc P W 0 (fun _ => true) true ts vs ds ps → (∀ p ∈ ps, W.sameAt W' p) → (∀ p ∈ ps, sp p.block = true) → DataW.TrodAll enc P W' 0 sp true ts vs ds ps
  | [], vs, ds, ps, _, h, _, _ => by
    obtain ⟨rfl, rfl, rfl⟩ := trodAll_nil h
    exact trodAll_mk0
  | t :: ts, vs, ds, ps, ht, h, h3, h4 => by
    obtain ⟨v, vs1, d, ds1, p, q, rfl, rfl, rfl, h1, h2⟩ := trodAll_cons h
    exact trodAll_cons_mk (WideElems.Trod_stays hl (ht t (by simp)).1 (ht t (by simp)).2 h1 (fun x hx => h3 x (by simp [hx])) (fun x hx => h4 x (by simp [hx])))
      (stays hl ts vs1 ds1 q (fun t h => ht t (by simp [h])) h2 (fun x hx => h3 x (by simp [hx])) (fun x hx => h4 x (by simp [hx])))

/-- 'true for every input', out of what the evaluator says -/
theorem post_same_old {H : Type} {enc : TypeId × Value → H} {f : Func} {s : ChangeSpec} {apart fresh handsOn again : Bool} {W W' : World} {args : Array Value} {v : Value} {ds gs : List (DataW H)} {before pa pv : List MemPlace}
    (hW : DataW.Whole enc P f.params.toList s.vars apart W args.toList ds gs before)
    (hres : ∀ (b : Nat) (sp : Nat → Bool) (hd : Bool), DataW.TrodAll enc P W' b sp hd f.resultTypes.toList (v.resultList f.resultTypes.size) (s.fn H (ds ++ gs)).results [])
    (hargs : ∀ sp : Nat → Bool, (∀ p ∈ before, sp p.block = true) → DataW.TrodAll enc P W' 0 sp true f.params.toList args.toList (s.fn H (ds ++ gs)).args pa)
    (hvars : ∀ sp : Nat → Bool, (∀ p ∈ before, sp p.block = true) → DataW.TrodVars enc P W' sp s.vars (s.fn H (ds ++ gs)).vars pv)
    (hps : before = pa ++ pv) (hk : W.keptBut W' (· ∈ before)) (hfz : ∀ a : Addr, a.block < W.heap.size → W'.frozen? a = W.frozen? a)
    (hok : ∀ (j : Nat) (t : TypeId) (r : Value), f.resultTypes[j]? = some t → (v.resultList f.resultTypes.size)[j]? = some r → Value.okWide P W' .any 0 t r) :
    s.post enc P f apart fresh handsOn again W args v W' := by
  have hold : ∀ p ∈ before, (fun b => decide (b < W.heap.size)) p.block = true := fun p hp => by simpa using hW.lt p hp
  refine ⟨ds, gs, before, [], pa, pv, hW, hres _ _ _, hargs _ hold, hvars _ hold, World.keptBut_mono (fun p hp => ⟨hp, ?_⟩) hk, fun _ => ?_⟩
  · rw [hps, List.mem_append] at hp
    exact Or.inr hp
  · have hlt := hW.lt
    obtain ⟨_, _, _, _, _, hz, hn⟩ := hW
    refine ⟨hok, _, _, ([] ++ pa) ++ pv, ⟨[] ++ pa, pv, trodAll_append (hargs _ (fun _ _ => rfl)) (hres _ _ _), hvars _ (fun _ _ => rfl), rfl, ?_, ?_⟩, ?_⟩
    · intro b off hp
      have hb : MemPlace.cell b off ∈ before := by rw [hps]; simpa using hp
      rw [hfz _ (by simpa [MemPlace.block] using hlt _ hb)]
      exact hz b off hb
    · intro ha
      have := hn ha
      rw [hps] at this
      simpa using this
    · intro p hp _
      rw [hps]
      simpa using hp

theorem contract_of (K : PLaws P T) {Φ : Fns C} (F : FLaws P T Φ) (hd : Dec T gA) (hl : laidOutB P = true) {f : FuncId} {fn : Func} {s : ChangeSpec} {tb : TypeId} {m : Nat}
    (hres : fn.resultTypes = #[tb]) (hb : P.underlying tb = some .bool) (hvars : s.vars = [])
    (hts : fn.params.toList.all (fun t => plainT T m t && P.readableRec t && Nat.blt t P.types.size) = true)
    (hspec : ∀ (H : Type) (ds : List (DataW H)), ds.length = fn.params.toList.length → s.fn H ds = { results := [.lit (.bool true)], args := ds })
    (hev : ∀ ds : List (D C), Fits T gA fn.params.toList ds → ∃ n, evF T Φ n f ds = some (.bool true))
    (H : Type) (enc : TypeId × Value → H) (W : World) (base : Nat) (args : Array Value) (ds gs : List (DataW H)) (before : List MemPlace)
    (hval : ∀ (j : Nat) t v, fn.params[j]? = some t → args[j]? = some v → Value.okWide P W .any base t v)
    (hW : DataW.Whole enc P fn.params.toList s.vars false W args.toList ds gs before) :
    Calls P f args W fun e W' => ∃ v, e = .returned v ∧ s.post enc P fn false true false false W args v W' := by
  have hts' : ∀ t ∈ fn.params.toList, plainT T m t = true ∧ P.readableRec t = true ∧ t < P.types.size := by
    intro t ht
    have := List.all_eq_true.1 hts t ht
    simp only [Bool.and_eq_true] at this
    exact ⟨this.1.1, this.1.2, by simpa [Nat.blt_eq] using this.2⟩
  have hW' := hW
  obtain ⟨p, q, hA, hV, rfl, hfz, hnd⟩ := hW
  rw [hvars] at hV
  obtain ⟨rfl, rfl⟩ := trodVars_none hV
  obtain ⟨al, hf, hr⟩ := trodAll_R (gA := gA) K hd (r := .any) (base := base) _ _ _ _ (fun t ht => ⟨m, (hts' t ht).1⟩) (fun j t v a b => hval j t v (by rw [← Array.getElem?_toList]; exact a) (by rw [← Array.getElem?_toList]; exact b)) hA
  obtain ⟨n, hn⟩ := hev al hf
  have hc := (evF_calls K F hn hf.refs W (fun _ _ => False) (fun _ _ h => h.elim) (vs := args.toList) hr).2
  have ea : (⟨args.toList⟩ : Array Value) = args := by simp
  rw [ea] at hc
  refine hc.mono fun e W' hp => ?_
  obtain ⟨v, ρ, rfl, rv, a1, a2, a3, a4, a5, a6⟩ := hp
  obtain rfl := rv.bool
  have hlen : ds.length = fn.params.toList.length := by
    have : ∀ (ts : List TypeId) (vs : List Value) (ds : List (DataW H)) (ps : List MemPlace), DataW.TrodAll enc P W 0 (fun _ => true) true ts vs ds ps → ds.length = ts.length := by
      intro ts
      induction ts with
      | nil => intro vs ds ps h; obtain ⟨rfl, rfl, rfl⟩ := trodAll_nil h; rfl
      | cons t ts ih =>
        intro vs ds ps h
        obtain ⟨v, vs1, d, ds1, p, q, rfl, rfl, rfl, h1, h2⟩ := trodAll_cons h
        simp [ih _ _ _ h2]
    exact this _ _ _ _ hA
  have hs := hspec H ds hlen
  have hbel : Below W.heap.size W W' := ⟨a3, a4, a5, a1, a2⟩
  have hlt : ∀ x ∈ p, x.block < W.heap.size := fun x hx => by simpa using hW'.lt x (by simpa using hx)
  refine ⟨_, rfl, post_same_old (pa := p) (pv := []) hW' ?_ ?_ ?_ (by simp) (hbel.frame _) a6 ?_⟩
  · intro b sp hd
    simp only [List.append_nil]
    rw [hs, hres]
    exact trodAll_cons_mk (p := []) (p' := []) (shut_bool hb _) trodAll_mk0
  · intro sp hsp
    simp only [List.append_nil] at hsp ⊢
    rw [hs]
    exact stays hl _ _ _ _ (fun t ht => (hts' t ht).2) hA (fun x hx => hbel.same (hlt x hx)) hsp
  · intro sp hsp
    simp only [List.append_nil]
    rw [hs, hvars]
    rfl
  · exact ok_one hres rfl (okWide_bool_mk hb _)

end
end Go.Ev

/-
  What a value of an argument's type is, alike in all seats.
-/
namespace Go.Ev
set_option linter.unusedVariables false
set_option linter.unusedSimpArgs false
def i64 (n : Int) : Prop := -9223372036854775808 ≤ n ∧ n ≤ 9223372036854775807
def inK (k : IntKind) (n : Int) : Prop := k.min ≤ n ∧ n ≤ k.max
theorem i64_of {n : Int} (h : IntKind.i64.min ≤ n ∧ n ≤ IntKind.i64.max) : i64 n := by
  simpa [i64, IntKind.min, IntKind.max, IntKind.signed, IntKind.bits] using h
section
variable {C : Cdc} {T : Tab C} {d : D C} {u : TypeId}
theorem fit_int {k : IntKind} (hu : T.ty u = .int k) (hf : fit T d (.inl u) = true) : ∃ n, d = .int k n := by
  cases d <;> simp [fit, hu] at hf
  subst hf; exact ⟨_, rfl⟩
theorem fit_bool (hu : T.ty u = .bool) (hf : fit T d (.inl u) = true) : ∃ n, d = .bool n := by
  cases d <;> simp [fit, hu] at hf
  exact ⟨_, rfl⟩
theorem fit_str (hu : T.ty u = .str) (hf : fit T d (.inl u) = true) : ∃ n, d = .str n := by
  cases d <;> simp [fit, hu] at hf
  exact ⟨_, rfl⟩
theorem fit_sl {e : TypeId} {t : C.Ty} (hu : T.ty u = .sl e t) (hf : fit T d (.inl u) = true) (hr : d.refs = []) : ∃ c l, d = .sl t c l := by
  cases d <;> simp [fit, hu] at hf
  · subst hf; exact ⟨_, _, rfl⟩
  · simp [D.refs] at hr
theorem fit_arr {e : TypeId} {t : C.Ty} {n : Nat} (hu : T.ty u = .arr n e t) (hf : fit T d (.inl u) = true) : ∃ l, d = .arr t n l := by
  cases d <;> simp [fit, hu] at hf
  obtain ⟨h1, h2⟩ := hf
  subst h1; subst h2; exact ⟨_, rfl⟩
theorem fit_st {a : Bool} {f : TypeId} {fs : List TypeId} (hu : T.ty u = .struct a (f :: fs)) (hf : fit T d (.inl u) = true) : ∃ x y, d = .acons x y ∧ fit T x (.inl f) = true ∧ fit T y (.inr fs) = true := by
  cases d <;> simp [fit, hu] at hf
  exact ⟨_, _, rfl, hf.1, hf.2⟩
theorem fit_more {f : TypeId} {fs : List TypeId} (hf : fit T d (.inr (f :: fs)) = true) : ∃ a b, d = .acons a b ∧ fit T a (.inl f) = true ∧ fit T b (.inr fs) = true := by
  cases d <;> simp [fit] at hf
  exact ⟨_, _, rfl, hf.1, hf.2⟩
theorem fit_end (hf : fit T d (.inr []) = true) : d = .anil := by
  cases d <;> simp [fit] at hf
  rfl
theorem three {α : Type} {l : List α} (h : l.length = 3) : ∃ a b c, l = [a, b, c] := by
  match l, h with
  | [a, b, c], _ => exact ⟨a, b, c, rfl⟩
end
end Go.Ev

/-
  Values of arguments: what a value of a type is. (Printed by gencod.py.)
-/
namespace Go.Ev
open Go.Proofs Go.ChangeShapes Go.WideShapes Go.ChangeAt Go.RowKit
set_option linter.unusedVariables false
set_option linter.unusedSimpArgs false
set_option maxRecDepth 100000

def goodWrite (x : Write) : Prop := i64 (x.key) ∧ i64 (x.value)
def goodItem (x : Item) : Prop := i64 (x.key) ∧ i64 (x.place) ∧ i64 (x.value)
def goodLine (x : Line) : Prop := i64 (x.offset) ∧ i64 (x.place) ∧ i64 (x.j) ∧ i64 (x.key) ∧ i64 (x.value)
def goodRec (x : Rec) : Prop := i64 (x.place) ∧ True ∧ ((x.writes).length ≤ maxLen ∧ ∀ y ∈ (x.writes), goodWrite (y))
def rGood : (t : RTy) → RA t → Prop
  | .int => fun (x : Int) => i64 (x)
  | .item => fun (x : Item) => goodItem (x)
  | .line => fun (x : Line) => goodLine (x)
  | .u8 => fun (x : UInt8) => True
  | .write => fun (x : Write) => goodWrite (x)
theorem ty41 : s05.ty 41 = .struct false [3, 3] := by kernel_rfl
theorem ty3 : s05.ty 3 = .int .i64 := by kernel_rfl
theorem asWrite {d : D RC} (hf : fit s05 d (.inl 41) = true) (hg : good rGood d) (hr : d.refs = []) : ∃ x : Write, d = eWrite x ∧ goodWrite x := by
  obtain ⟨d0, r0, rfl, f0, hf⟩ := fit_st ty41 hf
  obtain ⟨d1, r1, rfl, f1, hf⟩ := fit_more hf
  obtain rfl := fit_end hf
  simp only [D.refs, List.append_eq_nil_iff] at hr
  obtain ⟨g0, g1, _⟩ := hg
  obtain ⟨q0, q1, _⟩ := hr
  obtain ⟨n0, rfl⟩ := fit_int ty3 f0
  obtain ⟨n1, rfl⟩ := fit_int ty3 f1
  exact ⟨⟨n0, n1⟩, rfl, i64_of g0, i64_of g1⟩
theorem dWrite_e (x : Write) (hx : goodWrite x) : dWrite (eWrite x) = some x := by
  simp only [goodWrite] at hx
  simp [dWrite, eWrite, D.asList, asArrN, hx]
theorem ty36 : s05.ty 36 = .struct false [3, 3, 3] := by kernel_rfl
theorem asItem {d : D RC} (hf : fit s05 d (.inl 36) = true) (hg : good rGood d) (hr : d.refs = []) : ∃ x : Item, d = eItem x ∧ goodItem x := by
  obtain ⟨d0, r0, rfl, f0, hf⟩ := fit_st ty36 hf
  obtain ⟨d1, r1, rfl, f1, hf⟩ := fit_more hf
  obtain ⟨d2, r2, rfl, f2, hf⟩ := fit_more hf
  obtain rfl := fit_end hf
  simp only [D.refs, List.append_eq_nil_iff] at hr
  obtain ⟨g0, g1, g2, _⟩ := hg
  obtain ⟨q0, q1, q2, _⟩ := hr
  obtain ⟨n0, rfl⟩ := fit_int ty3 f0
  obtain ⟨n1, rfl⟩ := fit_int ty3 f1
  obtain ⟨n2, rfl⟩ := fit_int ty3 f2
  exact ⟨⟨n0, n1, n2⟩, rfl, i64_of g0, i64_of g1, i64_of g2⟩
theorem dItem_e (x : Item) (hx : goodItem x) : dItem (eItem x) = some x := by
  simp only [goodItem] at hx
  simp [dItem, eItem, D.asList, asArrN, hx]
theorem ty38 : s05.ty 38 = .struct false [3, 3, 3, 3, 3] := by kernel_rfl
theorem asLine {d : D RC} (hf : fit s05 d (.inl 38) = true) (hg : good rGood d) (hr : d.refs = []) : ∃ x : Line, d = eLine x ∧ goodLine x := by
  obtain ⟨d0, r0, rfl, f0, hf⟩ := fit_st ty38 hf
  obtain ⟨d1, r1, rfl, f1, hf⟩ := fit_more hf
  obtain ⟨d2, r2, rfl, f2, hf⟩ := fit_more hf
  obtain ⟨d3, r3, rfl, f3, hf⟩ := fit_more hf
  obtain ⟨d4, r4, rfl, f4, hf⟩ := fit_more hf
  obtain rfl := fit_end hf
  simp only [D.refs, List.append_eq_nil_iff] at hr
  obtain ⟨g0, g1, g2, g3, g4, _⟩ := hg
  obtain ⟨q0, q1, q2, q3, q4, _⟩ := hr
  obtain ⟨n0, rfl⟩ := fit_int ty3 f0
  obtain ⟨n1, rfl⟩ := fit_int ty3 f1
  obtain ⟨n2, rfl⟩ := fit_int ty3 f2
  obtain ⟨n3, rfl⟩ := fit_int ty3 f3
  obtain ⟨n4, rfl⟩ := fit_int ty3 f4
  exact ⟨⟨n0, n1, n2, n3, n4⟩, rfl, i64_of g0, i64_of g1, i64_of g2, i64_of g3, i64_of g4⟩
theorem dLine_e (x : Line) (hx : goodLine x) : dLine (eLine x) = some x := by
  simp only [goodLine] at hx
  simp [dLine, eLine, D.asList, asArrN, hx]
theorem ty27 : s05.ty 27 = .struct false [3, 4, 22] := by kernel_rfl
theorem ty4 : s05.ty 4 = .bool := by kernel_rfl
theorem ty22 : s05.ty 22 = .sl 41 .write := by kernel_rfl
theorem asRec {d : D RC} (hf : fit s05 d (.inl 27) = true) (hg : good rGood d) (hr : d.refs = []) : ∃ (x : Rec) (c0 : Bool), d = eRecC x c0 ∧ goodRec x := by
  obtain ⟨d0, r0, rfl, f0, hf⟩ := fit_st ty27 hf
  obtain ⟨d1, r1, rfl, f1, hf⟩ := fit_more hf
  obtain ⟨d2, r2, rfl, f2, hf⟩ := fit_more hf
  obtain rfl := fit_end hf
  simp only [D.refs, List.append_eq_nil_iff] at hr
  obtain ⟨g0, g1, g2, _⟩ := hg
  obtain ⟨q0, q1, q2, _⟩ := hr
  obtain ⟨n0, rfl⟩ := fit_int ty3 f0
  obtain ⟨n1, rfl⟩ := fit_bool ty4 f1
  obtain ⟨k2, n2, rfl⟩ := fit_sl ty22 f2 q2
  exact ⟨⟨n0, n1, n2⟩, k2, rfl, i64_of g0, trivial, g2⟩
theorem dRec_e (x : Rec) (c0 : Bool) (hx : goodRec x) : dRec (eRecC x c0) = some x := by
  simp only [goodRec] at hx
  simp [dRec, eRecC, D.asList, asArrN, hx]
theorem ty33 : s05.ty 33 = .struct false [3, 28, 30, 31] := by kernel_rfl
theorem ty28 : s05.ty 28 = .sl 36 .item := by kernel_rfl
theorem ty30 : s05.ty 30 = .struct true [29, 29, 29] := by kernel_rfl
theorem ty31 : s05.ty 31 = .arr 3 3 .int := by kernel_rfl
theorem ty29 : s05.ty 29 = .sl 38 .line := by kernel_rfl
def stC (s : St) (ci k0 k1 k2 : Bool) : D RC := .acons (.int .i64 s.place) (.acons (.sl (C := RC) .item ci s.items) (.acons (.acons (.sl (C := RC) .line k0 s.l0) (.acons (.sl (C := RC) .line k1 s.l1) (.acons (.sl (C := RC) .line k2 s.l2) .anil))) (.acons (.arr (C := RC) .int 3 [s.c0, s.c1, s.c2]) .anil)))
def goodSt (s : St) : Prop := i64 s.place ∧ (s.items.length ≤ maxLen ∧ ∀ x ∈ s.items, goodItem x) ∧ (s.l0.length ≤ maxLen ∧ ∀ x ∈ s.l0, goodLine x) ∧ (s.l1.length ≤ maxLen ∧ ∀ x ∈ s.l1, goodLine x) ∧ (s.l2.length ≤ maxLen ∧ ∀ x ∈ s.l2, goodLine x) ∧ i64 s.c0 ∧ i64 s.c1 ∧ i64 s.c2
theorem asState {d : D RC} (hf : fit s05 d (.inl 33) = true) (hg : good rGood d) (hr : d.refs = []) : ∃ (x : St) (ci k0 k1 k2 : Bool), d = stC x ci k0 k1 k2 ∧ goodSt x := by
  obtain ⟨d0, r0, rfl, f0, hf⟩ := fit_st ty33 hf
  obtain ⟨d1, r1, rfl, f1, hf⟩ := fit_more hf
  obtain ⟨d2, r2, rfl, f2, hf⟩ := fit_more hf
  obtain ⟨d3, r3, rfl, f3, hf⟩ := fit_more hf
  obtain rfl := fit_end hf
  obtain ⟨e0, r0, rfl, h0, hf⟩ := fit_st ty30 f2
  obtain ⟨e1, r1, rfl, h1, hf⟩ := fit_more hf
  obtain ⟨e2, r2, rfl, h2, hf⟩ := fit_more hf
  obtain rfl := fit_end hf
  simp only [D.refs, List.append_eq_nil_iff] at hr
  obtain ⟨g0, g1, ⟨a0, a1, a2, _⟩, g3, _⟩ := hg
  obtain ⟨q0, q1, ⟨b0, b1, b2, _⟩, q3, _⟩ := hr
  obtain ⟨n, rfl⟩ := fit_int ty3 f0
  obtain ⟨ci, l, rfl⟩ := fit_sl ty28 f1 q1
  obtain ⟨k0, l0, rfl⟩ := fit_sl ty29 h0 b0
  obtain ⟨k1, l1, rfl⟩ := fit_sl ty29 h1 b1
  obtain ⟨k2, l2, rfl⟩ := fit_sl ty29 h2 b2
  obtain ⟨cs, rfl⟩ := fit_arr ty31 f3
  obtain ⟨g5, g6⟩ := g3
  obtain ⟨c0, c1, c2, rfl⟩ := three g5
  simp only [List.mem_cons, forall_eq_or_imp, List.not_mem_nil, false_implies, implies_true, and_true] at g6
  exact ⟨⟨n, l, l0, l1, l2, c0, c1, c2⟩, ci, k0, k1, k2, rfl, i64_of g0, g1, a0, a1, a2, g6.1, g6.2.1, g6.2.2⟩
theorem ty5 : s05.ty 5 = .int .u8 := by kernel_rfl
theorem decs : Dec s05 rGood where
  dec t d hf hr hg _ := by
    cases t with
    | int =>
      obtain ⟨n, rfl⟩ := fit_int ty3 hf
      exact ⟨n, by simp [s05, mkTab, rCod, rDec, dIntK], i64_of hg⟩
    | item =>
      obtain ⟨x, rfl, hx⟩ := asItem hf hg hr
      exact ⟨x, dItem_e x hx, hx⟩
    | line =>
      obtain ⟨x, rfl, hx⟩ := asLine hf hg hr
      exact ⟨x, dLine_e x hx, hx⟩
    | u8 =>
      obtain ⟨n, rfl⟩ := fit_int ty5 hf
      exact ⟨_, rfl, trivial⟩
    | write =>
      obtain ⟨x, rfl, hx⟩ := asWrite hf hg hr
      exact ⟨x, dWrite_e x hx, hx⟩
theorem own : ownKnob Try.prog.godebug = none := by kernel_rfl
theorem laidOut : laidOutB Try.prog = true := by kernel_rfl
end Go.Ev

/-
  RecordBack returns true for all records, states and bytes, and all read behind the call as before. No condition beyond the given statement.
-/
namespace Go.Proofs.Ytnphmfcnnpoinaa
open Go.ChangeShapes Go.WideShapes Go.ChangeAt Go.RowKit Go.Ev
set_option linter.unusedVariables false
set_option maxRecDepth 100000

namespace recordBack
theorem ev (ds : List (D RC)) (h : Fits s05 rGood Try.f9.params.toList ds) : ∃ n, evF s05 uh_8 n 9 ds = some (.bool true) := by
  rw [Try.params9] at h
  cases h with
  | cons hf0 hg0 hr0 h =>
  cases h with
  | cons hf1 hg1 hr1 h =>
  cases h with
  | cons hf2 hg2 hr2 h =>
  cases h with
  | nil =>
    obtain ⟨a, ac, rfl, oa⟩ := asRec hf0 hg0 hr0
    obtain ⟨s, ci, k0, k1, k2, rfl, os⟩ := asState hf1 hg1 hr1
    obtain ⟨c, b, rfl⟩ := fit_sl (show s05.ty 42 = .sl 5 .u8 by kernel_rfl) hf2 hr2
    have key := back_ok a.place a.yes ac a.writes s.place ci s.items k0 k1 k2 s.l0 s.l1 s.l2 s.c0 s.c1 s.c2 c b ?_
    · unfold back_e at key
      refine ⟨60, ?_⟩
      simp only [eRecC, stC]
      exact key
    have h1 := oa.2.2.1
    have h3 := os.2.1.1
    have h4 := os.2.2.1.1
    have h5 := os.2.2.2.1.1
    have h6 := os.2.2.2.2.1.1
    simp only [lenOK_of h1, lenOK_of h3, lenOK_of h4, lenOK_of h5, lenOK_of h6, lenOK_of hg2.1, Bool.and_self]

theorem lifted (os : Os) (started : os.Started) (H : Type) (enc : TypeId × Value → H) :
    ReturnsInHanded {} Try.checked os 9 .any (Rows.recordBackSpec.pre6 enc Try.prog Try.f9 Rows.recordBackRow.domain false) (Rows.recordBackSpec.post enc Try.prog Try.f9 false true false false) := by
  refine returnsInHanded_of_change (C := Try.checked) own started (by kernel_rfl) Try.func9
    (ChangeSpec.witness6 (enc := enc) (C := Try.checked) false ⟨#[], #[.agg #[.int .i64 0, .bool false, .slice none 0 0], .agg #[.int .i64 0, .slice none 0 0, .slice none 0 0, .slice none 0 0, .slice none 0 0, .int .i64 0, .int .i64 0, .int .i64 0], .slice none 0 0], []⟩ 8 (by kernel_rfl) (by kernel_rfl) (by kernel_rfl) (by kernel_rfl)) ?_
  intro W base args ds gs before hval hW _ _
  refine contract_of (gA := rGood) (m := 8) s05_laws uh_8_laws decs laidOut (tb := 4) (by kernel_rfl) Try.underlying4 rfl (by kernel_rfl) ?_ ev H enc W base args ds gs before hval hW
  intro H ds h
  rw [Try.params9] at h
  match ds, h with
  | [d0, d1, d2], _ => rfl

theorem over : Rows.recordBackRow.holds Try.pinned (OpenSpec.ofChange Rows.recordBackSpec) :=
  OpenClaim.holds_of_wide 9 Try.f9 rfl rfl rfl rfl rfl rfl rfl ⟨rfl, rfl, rfl, rfl, rfl⟩ rfl rfl rfl rfl rfl (by kernel_rfl) Try.func9 (by kernel_rfl)
    (of_decide_eq_true (by kernel_rfl)) (by unfold Func.isWrapper; first | (rw [if_pos (by decide +kernel)]; kernel_rfl) | (rw [if_neg (by decide +kernel)]; exact ⟨rfl, rfl⟩))
    (fun os started H enc _ => lifted os started H enc)
theorem proved : Rows.RecordBackSaid := over
end recordBack
#print axioms recordBack.proved
end Go.Proofs.Ytnphmfcnnpoinaa
